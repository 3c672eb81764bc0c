/- The library's stable sort (slices.SortStableFunc) over strings: exchanges, insertion, rotation, symmetric merges. Condition: at most 2^20 elements; a comparison that answers and changes nothing that is there. -/
import Derived.Test.YtaeimdcmpjanbaaDoorStbC
import Derived.Deep.DeepCutAuto
import Derived.Deep.CutBlock
import Derived.Deep.RegionHeld3
import Derived.Deep.RegionLaw
import Derived.Deep.LoopGhost
import Derived.Lib.QuietBelow
set_option linter.unusedVariables false
set_option linter.unusedSimpArgs false
namespace Go.Proofs.YtaeimdcmpjanbaaDoor.stb
open Go.RowKit Go.Proofs.YtaeimdcmpjanbaaDoor.mem

theorem set_str (l : List ByteArray) (i : Nat) (x : ByteArray) : (strs l).set i (.string x) = strs (l.set i x) := by simp [strs, List.map_set]
theorem put_str {w : World} {base g n c : Nat} {l : List ByteArray} (h : w.ownsRow base 9 1 (.slice (some ⟨g, 0, none⟩) n c) n (strs l)) {i : Nat} (hi : i < l.length) (x : ByteArray) :
    (w.setCell ⟨g, i, none⟩ (.string x)).ownsRow base 9 1 (.slice (some ⟨g, 0, none⟩) n c) n (strs (l.set i x)) := by
  have hl := len_strs l
  have h1 := own_put h (i := i) (by omega) (.string x)
  rw [set_str] at h1
  exact h1
theorem cells_str {w : World} {base g n c : Nat} {l : List ByteArray} (h : w.ownsRow base 9 1 (.slice (some ⟨g, 0, none⟩) n c) n (strs l)) {i : Nat} {x : ByteArray} (hx : l[i]? = some x) :
    w.cell? ⟨g, i, none⟩ = some (.string x) := by
  obtain ⟨hi, rfl⟩ := List.getElem?_eq_some_iff.1 hx
  exact own_cell h (by simp [strs, hi])
theorem only_str {a w : World} {g : Nat} (h : a.grownBy w (some g)) (i : Nat) (x : ByteArray) : a.grownBy (w.setCell ⟨g, i, none⟩ (.string x)) (some g) :=
  (only_put h _ _)
theorem rowlen_str {w : World} {base g n c : Nat} {l : List ByteArray} (h : w.ownsRow base 9 1 (.slice (some ⟨g, 0, none⟩) n c) n (strs l)) : l.length = n := by have := h.1; rw [len_strs] at this; omega
/-- what is asked of a comparison: it answers cf, and changes nothing that is there -/
structure Cmp_str (f : Nat) (cap : Array Value) (cf : ByteArray → ByteArray → Int) (w0 : World) (g : Nat) : Prop where
  ent : Enters f
  run : ∀ (x y : ByteArray) (W : World), w0.grownBy W (some g) → Calls Tryd.prog f (#[.string x, .string y] ++ cap) W fun e W' => e = .returned (.int .i64 (cf x y)) ∧ Below W.heap.size W W'
set_option maxRecDepth 100000 in
set_option maxHeartbeats 4000000 in
theorem swapRange_str (base g n c : Nat) (fv : Value) (P X M Y S : List ByteArray) (w0 w : World) (hX : X.length = Y.length) (hn2 : n ≤ 1048576) (hw : w0.grownBy w (some g)) (ho : w.ownsRow base 9 1 (.slice (some ⟨g, 0, none⟩) n c) n (strs (P ++ X ++ M ++ Y ++ S))) :
    Calls Tryd.prog 76 #[.slice (some ⟨g, 0, none⟩) n c, .int .i64 (P.length : Nat), .int .i64 ((P.length + X.length + M.length : Nat) : Int), .int .i64 (X.length : Nat), fv] w fun e w' => e = .returned (.tuple #[]) ∧ w'.ownsRow base 9 1 (.slice (some ⟨g, 0, none⟩) n c) n (strs (P ++ Y ++ M ++ X ++ S)) ∧ w0.grownBy w' (some g) := by
  have HX := Lib.hid hX
  have hnn : P.length + X.length + M.length + X.length ≤ n := by have := rowlen_str ho; simp at this; omega
  clear hX
  obtain ⟨p, hp⟩ : ∃ p, p = P.length := ⟨_, rfl⟩
  obtain ⟨q, hq⟩ : ∃ q, q = P.length + X.length + M.length := ⟨_, rfl⟩
  obtain ⟨m, hm⟩ : ∃ m, m = X.length := ⟨_, rfl⟩
  rw [← hq, ← hp, ← hm]
  have HPQ := Lib.hid (And.intro hp (And.intro hq hm))
  have hb1 : p + m ≤ q ∧ q + m ≤ n := by omega
  have HO := Lib.hid (show w.ownsRow base 9 1 (.slice (some ⟨g, 0, none⟩) n c) n (strs (rx P X M Y S 0)) by rw [rx_zero]; exact ho)
  clear hp hq hm ho
  go_enter Tryd.func76, Tryd.ntmps76
  go_wp2
  go_loopg [10] (m + 1) (fun f i wr => ∃ k : Nat, m < k + f ∧ k ≤ m ∧ i = .int .i64 (k : Int) ∧ wr.ownsRow base 9 1 (.slice (some ⟨g, 0, none⟩) n c) n (strs (rx P X M Y S k)) ∧ w0.grownBy wr (some g))
  case atStart => exact ⟨0, by omega, by omega, rfl, HO.out, hw⟩
  case round =>
    obtain ⟨k, hkf, hk, rfl, ho, hw⟩ := hrel
    by_cases hlt : k < m
    · have hs := rx_step P M S (X := X) (Y := Y) (i := k) (by have := HPQ.out; omega) (by have := HPQ.out; have := HX.out; omega) HX.out (p := p + k) (q := q + k) (by have := HPQ.out; omega) (by have := HPQ.out; omega)
      obtain ⟨hs1, hs2, hs3⟩ := hs
      have hxi : k < X.length := by have := HPQ.out; omega
      have hyi : k < Y.length := by have := HPQ.out; have := HX.out; omega
      have hlen := rowlen_str ho
      generalize X[k] = x at hs1 hs3
      generalize Y[k] = y at hs2 hs3
      obtain ca0 := cells_str ho hs1
      obtain cb0 := cells_str ho hs2
      have HP := Lib.hid (show ((wr.setCell ⟨g, p + k, none⟩ (.string y)).setCell ⟨g, q + k, none⟩ (.string x)).ownsRow base 9 1 (.slice (some ⟨g, 0, none⟩) n c) n (strs (rx P X M Y S (k + 1))) from by rw [← hs3]; exact put_str (put_str ho (by omega) y) (by rw [List.length_set]; omega) x)
      have HG := Lib.hid (only_str (only_str hw (p + k) y) (q + k) x)
      have f1 := fun i => own_thaw ho i
      clear hs1 hs2 hs3 hxi hyi hlen
      have p1 : (k : Int) < (m : Int) := by omega
      have p2 : IntKind.i64.wrap ((p : Int) + (k : Int)) = (p : Int) + (k : Int) := IntWalk.i64_in _ (by omega)
      have p3 : IntKind.i64.wrap ((q : Int) + (k : Int)) = (q : Int) + (k : Int) := IntWalk.i64_in _ (by omega)
      have p4 : (0 : Int) ≤ (p : Int) + (k : Int) := by omega
      have p5 : (0 : Int) ≤ (q : Int) + (k : Int) := by omega
      have p6 : ((p : Int) + (k : Int)).toNat = p + k := by omega
      have p7 : ((q : Int) + (k : Int)).toNat = q + k := by omega
      have p8 : (p : Int) + (k : Int) < (n : Int) := by omega
      have p9 : (q : Int) + (k : Int) < (n : Int) := by omega
      go_wp2_with fail
      go_region_law (fail)
      all_goals
        clear p2 p3 p6 p7
        go_wp2
        go_roundg (gk - 1)
        case measure => omega
        case rel => exact ⟨k + 1, by omega, by omega, by go_num, own_drewN HP.out 1, only_drewN HG.out 1⟩
    · obtain rfl : k = m := by omega
      have HE := Lib.hid (show rx P X M Y S k = P ++ Y ++ M ++ X ++ S by rw [show k = Y.length by have := HPQ.out; have := HX.out; omega]; exact rx_all P X M Y S HX.out)
      rw [HE.out] at ho
      go_wp2
      go_end0
      exact ⟨rfl, ho, hw⟩
set_option maxRecDepth 100000 in
set_option maxHeartbeats 8000000 in
theorem insertion_str (base g n c : Nat) (f : Nat) (cap : Array Value) (cf : ByteArray → ByteArray → Int) (P X S : List ByteArray) (w0 w : World) (hC : Cmp_str f cap cf w0 g) (hn2 : n ≤ 1048576) (hw : w0.grownBy w (some g)) (ho : w.ownsRow base 9 1 (.slice (some ⟨g, 0, none⟩) n c) n (strs (P ++ X ++ S))) :
    Calls Tryd.prog 52 #[.slice (some ⟨g, 0, none⟩) n c, .int .i64 (P.length : Nat), .int .i64 ((P.length + X.length : Nat) : Int), .func (.func f) #[] cap] w fun e w' => e = .returned (.tuple #[]) ∧ w'.ownsRow base 9 1 (.slice (some ⟨g, 0, none⟩) n c) n (strs (P ++ stab (fun x y => decide (cf x y < 0)) X ++ S)) ∧ w0.grownBy w' (some g) := by
  have hnn : P.length + X.length ≤ n := by have := rowlen_str ho; simp at this; omega
  obtain ⟨hent, hrun⟩ := hC
  unfold Enters at hent
  have HC := Lib.hid hrun
  clear hrun
  obtain ⟨lt, hlt0⟩ : ∃ lt : ByteArray → ByteArray → Bool, lt = fun x y => decide (cf x y < 0) := ⟨_, rfl⟩
  have HLT := Lib.hid (show ∀ x y, decide (cf x y < 0) = lt x y from fun x y => by rw [hlt0])
  rw [← hlt0]
  clear hlt0
  obtain ⟨a, ha⟩ : ∃ a, a = P.length := ⟨_, rfl⟩
  obtain ⟨b, hb⟩ : ∃ b, b = P.length + X.length := ⟨_, rfl⟩
  rw [← hb, ← ha]
  have HAB := Lib.hid (And.intro ha hb)
  have hab : a ≤ b ∧ b ≤ n := by omega
  have HE0 := Lib.hid (show b = a → P ++ stab lt X ++ S = P ++ X ++ S from fun h => by
    have : X = [] := List.eq_nil_of_length_eq_zero (by omega)
    subst this; rfl)
  have HO := Lib.hid (show a < b → w.ownsRow base 9 1 (.slice (some ⟨g, 0, none⟩) n c) n (strs (P ++ stab lt (X.take 1) ++ X.drop 1 ++ S)) from fun h => by
    have e : P ++ stab lt (X.take 1) ++ X.drop 1 ++ S = P ++ X ++ S := by
      cases X with
      | nil => simp [stab_nil]
      | cons x X => simp [stab_one]
    rw [e]; exact ho)
  have HO2 := Lib.hid ho
  clear ha hb ho
  go_enter Tryd.func52, Tryd.ntmps52
  go_wp2
  by_cases h0 : b = a
  · have HE1 := Lib.hid (HE0.out h0)
    have h1 : decide ((a : Int) + 1 < (b : Int)) = false := decide_eq_false (by omega)
    clear h0
    refine wp_loop_rounds 1 ?_
    rw [rounds_succ]
    go_wp2
    go_end0
    exact ⟨rfl, by rw [HE1.out]; exact HO2.out, hw⟩
  go_loopg [8] (b + 1) (fun fu i wr => ∃ t jo : Nat, b < a + t + 1 + fu ∧ a + t + 1 ≤ b ∧ i = .int .i64 (jo : Int) ∧ jo = a + t + 1 ∧ wr.ownsRow base 9 1 (.slice (some ⟨g, 0, none⟩) n c) n (strs (P ++ stab lt (X.take (t + 1)) ++ X.drop (t + 1) ++ S)) ∧ w0.grownBy wr (some g))
  case atStart => exact ⟨0, a + 1, by omega, by omega, by go_num, by omega, HO.out (by omega), hw⟩
  case round =>
    obtain ⟨t, jo, htf, ht, rfl, hjo, ho, hw⟩ := hrel
    have HJO := Lib.hid hjo
    clear hjo
    by_cases hlt : jo < b
    · have htX : t + 1 < X.length := by have := HAB.out; have := HJO.out; omega
      have HST := Lib.hid (stab_take (lt := lt) X htX)
      obtain ⟨x, hx⟩ : ∃ x, x = X[t + 1] := ⟨_, rfl⟩
      rw [← hx] at HST
      obtain ⟨L, hL⟩ : ∃ L, L = stab lt (X.take (t + 1)) := ⟨_, rfl⟩
      have hLl : L.length = t + 1 := by rw [hL, stab_len, List.length_take]; omega
      have hori : wr.ownsRow base 9 1 (.slice (some ⟨g, 0, none⟩) n c) n (strs (ri P L (X.drop (t + 2) ++ S) x L.length)) := by
        have e : P ++ stab lt (X.take (t + 1)) ++ X.drop (t + 1) ++ S = ri P L (X.drop (t + 2) ++ S) x L.length := by
          rw [ri_all, ← hL, List.drop_eq_getElem_cons htX, ← hx]; simp
        rw [← e]; exact ho
      rw [← hL] at HST
      rw [hLl] at hori
      have HLL := Lib.hid hLl
      have HR := Lib.hid hori
      clear hL hLl ho hori hx
      have HIN := Lib.hid (fun (u : Nat) (W : World) (hp : pos lt x L L.length = u) (h : W.ownsRow base 9 1 (.slice (some ⟨g, 0, none⟩) n c) n (strs (ri P L (X.drop (t + 2) ++ S) x u))) => show W.ownsRow base 9 1 (.slice (some ⟨g, 0, none⟩) n c) n (strs (P ++ stab lt (X.take (t + 1 + 1)) ++ X.drop (t + 1 + 1) ++ S)) from by
        have e : ri P L (X.drop (t + 2) ++ S) x u = P ++ stab lt (X.take (t + 1 + 1)) ++ X.drop (t + 1 + 1) ++ S := by
          rw [HST.out, ri_ins _ _ _ _ _ hp]; simp
        rw [← e]; exact h)
      have hw1 := hw
      have HR1 := Lib.hid (And.intro HR.out hw1)
      clear hw hw1
      obtain ⟨wo, hwo⟩ : ∃ wo : World, wo = wr := ⟨_, rfl⟩
      rw [← hwo] at HR1
      rw [← hwo]
      clear hwo
      have p1 : (jo : Int) < (b : Int) := by omega
      have p1b : jo ≤ 1048576 := by omega
      go_wp2
      go_loopg [9] (t + 2) (fun fu s wi => ∃ u ji : Nat, u < fu ∧ u ≤ t + 1 ∧ s = .int .i64 (ji : Int) ∧ ji = a + u ∧ pos lt x L L.length = pos lt x L u ∧ wi.ownsRow base 9 1 (.slice (some ⟨g, 0, none⟩) n c) n (strs (ri P L (X.drop (t + 2) ++ S) x u)) ∧ w0.grownBy wi (some g))
      case atStart => exact ⟨t + 1, jo, by omega, by omega, rfl, by have := HJO.out; omega, by rw [HLL.out], HR1.out.1, HR1.out.2⟩
      case round =>
        obtain ⟨u, ji, huf, hu, rfl, hji, hp, ho, hw⟩ := hrel
        have HP := Lib.hid hp
        clear hp
        by_cases h0 : u = 0
        · subst h0
          have HE := Lib.hid (show pos lt x L L.length = 0 by rw [HP.out]; rfl)
          obtain rfl : a = ji := by omega
          clear hji
          go_wp2_with fail
          go_quiet (fail)
          have HN := Lib.hid (HIN.out 0 _ HE.out (own_drewN ho nq))
          have hw2 := only_drewN hw nq
          go_wp2
          go_roundg (b - (a + t + 1))
          case measure => omega
          case rel => exact ⟨t + 1, jo + 1, by omega, by have := HJO.out; omega, by go_num, by have := HJO.out; omega, HN.out, hw2⟩
        · obtain ⟨v, rfl⟩ : ∃ v, u = v + 1 := ⟨u - 1, by omega⟩
          have hvL : v < L.length := by have := HLL.out; omega
          have hs := ri_down hvL P (X.drop (t + 2) ++ S) x (n := a + v) (by have := HAB.out; omega)
          obtain ⟨hs1, hs2, hs3⟩ := hs
          have HD := Lib.hid (fun (h : lt x L[v] = true) => pos_down hvL h)
          have HS := Lib.hid (fun (h : lt x L[v] = false) => pos_stop hvL h)
          have HL := Lib.hid (HLT.out x L[v])
          have hlen := rowlen_str ho
          generalize L[v] = y at hs1 hs3 HD HS HL
          obtain ⟨q, hq⟩ : ∃ q, q = a + v := ⟨_, rfl⟩
          rw [← hq] at hs1 hs2 hs3
          have HQ := Lib.hid hq
          have hqb : a ≤ q ∧ q + 1 < b := by have := HJO.out; omega
          rw [show (ji : Int) = (q : Int) + 1 by omega]
          clear hq hji
          obtain ca0 := cells_str ho hs1
          obtain cb0 := cells_str ho hs2
          have p2 : (a : Int) < (q : Int) + 1 := by omega
          have p3 : IntKind.i64.wrap (q : Int) = (q : Int) := IntWalk.i64_in _ (by omega)
          have p4 : (0 : Int) ≤ (q : Int) + 1 := by omega
          have p5 : ((q : Int) + 1).toNat = q + 1 := by omega
          have p6 : (q : Int) + 1 < (n : Int) := by omega
          have p7 : (q : Int) < (n : Int) := by omega
          have p8 : q < n := by omega
          have HCC := Lib.hid (fun d os => HC.out x y (Go.Sort.grow (redrawn wr d) os) (only_below' hw (below_regrown wr d os)))
          have rca0 := fun d os => cell_regrown ca0 d os
          have rcb0 := fun d os => cell_regrown cb0 d os
          have HS3 := Lib.hid hs3
          have HS12 := Lib.hid (And.intro hs1 hs2)
          have HF := Lib.hid (And.intro ho (And.intro hw hlen))
          clear hs1 hs2 hs3 hlen ca0 cb0 ho hw
          generalize hcf : cf x y = z at HL HCC
          clear hcf
          generalize lt x y = bb at HD HS HL
          cases bb with
          | true =>
            have hz : z < 0 := of_decide_eq_true HL.out
            have HE := Lib.hid (show pos lt x L L.length = pos lt x L v by rw [HP.out, HD.out rfl])
            go_wp2_with fail
            (refine wp_region_quiet_below (by kernel_rfl) (by kernel_rfl) ?_; (repeat (quiet_step (exact Calls.regrown_of (HCC.out _ _)))); refine wpQuiet_nil ?_; intro _ hw'; obtain ⟨⟨dq, osq⟩, hw''⟩ := hw'; subst hw'')
            have hb2 := below_regrown wr dq osq
            have ho2 := own_below HF.out.1 hb2
            have hw2 := only_below' HF.out.2.1 hb2
            clear rca0 rcb0 hb2
            generalize Go.Sort.grow (redrawn wr dq) osq = wq at ho2 hw2
            obtain ca0 := cells_str ho2 HS12.out.1
            obtain cb0 := cells_str ho2 HS12.out.2
            have hl2 := rowlen_str ho2
            have HPP := Lib.hid (show ((wq.setCell ⟨g, q + 1, none⟩ (.string y)).setCell ⟨g, q, none⟩ (.string x)).ownsRow base 9 1 (.slice (some ⟨g, 0, none⟩) n c) n (strs (ri P L (X.drop (t + 2) ++ S) x v)) from by rw [← HS3.out]; exact put_str (put_str ho2 (by omega) y) (by rw [List.length_set]; omega) x)
            have HG := Lib.hid (only_str (only_str hw2 (q + 1) y) q x)
            have f1 := fun i => own_thaw ho2 i
            clear hl2
            go_wp2_with fail
            go_region_law (fail)
            all_goals
              clear p3 p5
              go_wp2
              go_roundg (gk - 1)
              case measure => omega
              case rel => exact ⟨v, q, by omega, by omega, by go_num, HQ.out, HE.out, own_drewN HPP.out 1, only_drewN HG.out 1⟩
          | false =>
            have hz : ¬ z < 0 := of_decide_eq_false HL.out
            have HE := Lib.hid (show pos lt x L L.length = v + 1 by rw [HP.out, HS.out rfl])
            go_wp2_with fail
            (refine wp_region_quiet_below (by kernel_rfl) (by kernel_rfl) ?_; (repeat (quiet_step (exact Calls.regrown_of (HCC.out _ _)))); refine wpQuiet_nil ?_; intro _ hw'; obtain ⟨⟨dq, osq⟩, hw''⟩ := hw'; subst hw'')
            have hb2 := below_regrown wr dq osq
            have HN := Lib.hid (HIN.out (v + 1) _ HE.out (own_below HF.out.1 hb2))
            have hw2 := only_below' HF.out.2.1 hb2
            clear rca0 rcb0 hb2
            go_wp2
            go_roundg (b - (a + t + 1))
            case measure => omega
            case rel => exact ⟨t + 1, jo + 1, by omega, by have := HJO.out; omega, by go_num, by have := HJO.out; omega, HN.out, hw2⟩
    · have HE := Lib.hid (show P ++ stab lt (X.take (t + 1)) ++ X.drop (t + 1) ++ S = P ++ stab lt X ++ S by
        have : t + 1 = X.length := by have := HAB.out; have := HJO.out; omega
        rw [this, List.take_length, List.drop_length, List.append_nil])
      rw [HE.out] at ho
      go_wp2
      go_end0
      exact ⟨rfl, ho, hw⟩
set_option maxRecDepth 100000 in
set_option maxHeartbeats 8000000 in
theorem symL_str (base g n c : Nat) (f : Nat) (cap : Array Value) (cf : ByteArray → ByteArray → Int) (lt : ByteArray → ByteArray → Bool) (hlt : ∀ x y, decide (cf x y < 0) = lt x y) (hwk : Weak lt) (P R S : List ByteArray) (x : ByteArray) (w0 w : World) (hR : Asc lt R) (hC : Cmp_str f cap cf w0 g) (hn2 : n ≤ 1048576) (hw : w0.grownBy w (some g)) (ho : w.ownsRow base 9 1 (.slice (some ⟨g, 0, none⟩) n c) n (strs (P ++ [x] ++ R ++ S))) :
    Calls Tryd.prog 53 #[.slice (some ⟨g, 0, none⟩) n c, .int .i64 (P.length : Nat), .int .i64 ((P.length + 1 : Nat) : Int), .int .i64 ((P.length + 1 + R.length : Nat) : Int), .func (.func f) #[] cap] w fun e w' => e = .returned (.tuple #[]) ∧ w'.ownsRow base 9 1 (.slice (some ⟨g, 0, none⟩) n c) n (strs (P ++ mrg lt [x] R ++ S)) ∧ w0.grownBy w' (some g) := by
  have hnn : P.length + 1 + R.length ≤ n := by have := rowlen_str ho; simp at this; omega
  obtain ⟨hent, hrun⟩ := hC
  unfold Enters at hent
  have HC := Lib.hid hrun
  have HLT := Lib.hid hlt
  have HO := Lib.hid (show w.ownsRow base 9 1 (.slice (some ⟨g, 0, none⟩) n c) n (strs (ri P R S x 0)) by rw [ri_zero]; simpa using ho)
  have HM := Lib.hid (fun (j : Nat) (hj : j ≤ R.length) h1 h2 => mrg_one_left hwk (x := x) hR (j := j) hj h1 h2)
  clear hrun hlt hwk ho hR
  obtain ⟨a, ha⟩ : ∃ a, a = P.length := ⟨_, rfl⟩
  obtain ⟨b, hb⟩ : ∃ b, b = P.length + 1 + R.length := ⟨_, rfl⟩
  rw [← hb, ← ha]
  have HAB := Lib.hid (And.intro ha hb)
  have hab : a + 1 ≤ b ∧ b ≤ n := by omega
  have e0 : ((a + 1 : Nat) : Int) = (a : Int) + 1 := by omega
  rw [e0]
  clear ha hb e0
  have e1 : IntKind.i64.wrap ((a : Int) + 1 - (a : Int)) = 1 := by rw [IntWalk.i64_in _ (by omega)]; omega
  have e2 : ((1 : Int) == 1) = true := rfl
  go_enter Tryd.func53, Tryd.ntmps53
  go_wp2
  clear e1 e2
  go_loopg [10, 11] (b + 1) (fun fu i j wr => ∃ (u v ni nj : Nat), i = .int .i64 (ni : Int) ∧ j = .int .i64 (nj : Int) ∧ ni = a + 1 + u ∧ nj = a + 1 + v ∧ u ≤ v ∧ nj ≤ b ∧ v < u + fu ∧ LoL lt x R u ∧ HiL lt x R v ∧ wr.ownsRow base 9 1 (.slice (some ⟨g, 0, none⟩) n c) n (strs (ri P R S x 0)) ∧ w0.grownBy wr (some g))
  case atStart => exact ⟨0, b - (a + 1), a + 1, b, by go_num, by go_num, by omega, by omega, by omega, by omega, by omega, fun y h => absurd h (by omega), fun y h => (by rw [List.getElem?_eq_none (by have := HAB.out; omega)] at h; cases h), HO.out, hw⟩
  case round =>
    obtain ⟨u, v, ni, nj, rfl, rfl, hni, hnj, huv, hjb, hfu, hu, hv, ho, hw⟩ := hrel
    have HU := Lib.hid (And.intro hu hv)
    have HNI := Lib.hid (And.intro hni hnj)
    clear hu hv
    by_cases hlt : u < v
    · have hltij : (ni : Int) < (nj : Int) := by omega
      obtain ⟨t, ht⟩ : ∃ t, t = (u + v) / 2 := ⟨_, rfl⟩
      obtain ⟨nh, hh⟩ : ∃ nh, nh = a + 1 + t := ⟨_, rfl⟩
      have hhb : ni ≤ nh ∧ nh < nj ∧ u ≤ t ∧ t < v := by omega
      have e3 : ((ni : Int) + (nj : Int)) / 2 = (nh : Int) := by omega
      have htR : t < R.length := by have := HAB.out; omega
      have HH := Lib.hid (And.intro hh ht)
      have hs1 : (ri P R S x 0)[nh]? = some R[t] := by
        rw [ri_zero, show P ++ x :: R ++ S = P ++ [x] ++ R ++ S by simp, row_right htR (by have := HAB.out; simp only [List.length_cons, List.length_nil]; omega)]
        exact List.getElem?_eq_getElem htR
      have hs2 : (ri P R S x 0)[a]? = some x := ri_one P R S x (by omega) (by have := HAB.out; omega)
      have HT := Lib.hid (List.getElem?_eq_getElem htR)
      have HL := Lib.hid (HLT.out R[t] x)
      generalize R[t] = y at hs1 HT HL
      obtain ca0 := cells_str ho hs1
      obtain cb0 := cells_str ho hs2
      have HCC := Lib.hid (fun d os => HC.out y x (Go.Sort.grow (redrawn wr d) os) (only_below' hw (below_regrown wr d os)))
      have rca0 := fun d os => cell_regrown ca0 d os
      have rcb0 := fun d os => cell_regrown cb0 d os
      have HF := Lib.hid (And.intro ho hw)
      have p1 : (nh : Int) < (n : Int) := by omega
      have p2 : (a : Int) < (n : Int) := by omega
      have p3 : nh < n := by omega
      have p4 : a < n := by omega
      clear hs1 hs2 ca0 cb0 ho hw hni hnj hh ht
      generalize hcf : cf y x = z at HL HCC
      clear hcf
      cases hb : lt y x with
      | true =>
        have hz : z < 0 := by have := HL.out; rw [hb] at this; exact of_decide_eq_true this
        have HB := Lib.hid hb
        clear hb
        go_wp2_with fail
        (refine wp_region_quiet_below (by kernel_rfl) (by kernel_rfl) ?_; (repeat (quiet_step (exact Calls.regrown_of (HCC.out _ _)))); refine wpQuiet_nil ?_; intro _ hw'; obtain ⟨⟨dq, osq⟩, hw''⟩ := hw'; subst hw'')
        have hb2 := below_regrown wr dq osq
        have HN := Lib.hid (And.intro (own_below HF.out.1 hb2) (only_below' HF.out.2 hb2))
        clear rca0 rcb0 hb2
        clear e3
        go_wp2
        go_roundg (gk - 1)
        case measure => omega
        case rel => exact ⟨t + 1, v, nh + 1, nj, by go_num, by go_num, by have := HH.out; omega, HNI.out.2, by omega, hjb, by omega, fun y' h0 hy' => by (have h3 : some y' = some y := by rw [← hy']; exact HT.out); injection h3 with h3; rw [h3]; exact HB.out, HU.out.2, HN.out.1, HN.out.2⟩
      | false =>
        have hz : ¬ z < 0 := by have := HL.out; rw [hb] at this; exact of_decide_eq_false this
        have HB := Lib.hid hb
        clear hb
        go_wp2_with fail
        (refine wp_region_quiet_below (by kernel_rfl) (by kernel_rfl) ?_; (repeat (quiet_step (exact Calls.regrown_of (HCC.out _ _)))); refine wpQuiet_nil ?_; intro _ hw'; obtain ⟨⟨dq, osq⟩, hw''⟩ := hw'; subst hw'')
        have hb2 := below_regrown wr dq osq
        have HN := Lib.hid (And.intro (own_below HF.out.1 hb2) (only_below' HF.out.2 hb2))
        clear rca0 rcb0 hb2
        clear e3
        go_wp2
        go_roundg (gk - 1)
        case measure => omega
        case rel => exact ⟨u, t, ni, nh, by go_num, by go_num, HNI.out.1, by have := HH.out; omega, by omega, by omega, by omega, HU.out.1, fun y' hy' => by (have h3 : some y' = some y := by rw [← hy']; exact HT.out); injection h3 with h3; rw [h3]; exact HB.out, HN.out.1, HN.out.2⟩
    · obtain rfl : u = v := by omega
      obtain rfl : ni = nj := by omega
      have hnlt : ¬ (ni : Int) < (ni : Int) := by omega
      have HMM := Lib.hid (HM.out u (by have := HAB.out; omega) (fun y hy => HU.out.2 y hy) (fun y h0 hy => HU.out.1 y h0 hy))
      have HF := Lib.hid (And.intro ho hw)
      obtain ⟨wo, hwo⟩ : ∃ wo : World, wo = wr := ⟨_, rfl⟩
      rw [← hwo] at HF
      rw [← hwo]
      clear hwo ho hw hni hnj
      have e4 : IntKind.i64.wrap ((ni : Int) - 1) = (ni : Int) - 1 := IntWalk.i64_in _ (by omega)
      go_wp2
      go_loopg [13] (u + 1) (fun fu k wr => ∃ (s nk : Nat), k = .int .i64 (nk : Int) ∧ nk = a + s ∧ s ≤ u ∧ u < s + fu ∧ wr.ownsRow base 9 1 (.slice (some ⟨g, 0, none⟩) n c) n (strs (ri P R S x s)) ∧ w0.grownBy wr (some g))
      case atStart => exact ⟨0, a, by go_num, by omega, by omega, by omega, HF.out.1, HF.out.2⟩
      case round =>
        obtain ⟨s, nk, rfl, hnk, hsu, hfs, ho, hw⟩ := hrel
        by_cases hlt : s < u
        · have hsR : s < R.length := by have := HAB.out; have := HNI.out; omega
          have hs := ri_up hsR P S x (n := nk) (by have := HAB.out; omega)
          obtain ⟨hs1, hs2, hs3⟩ := hs
          have hlen := rowlen_str ho
          generalize R[s] = y at hs2 hs3
          obtain ca0 := cells_str ho hs1
          obtain cb0 := cells_str ho hs2
          have p1 : (nk : Int) < (ni : Int) - 1 := by have := HNI.out; omega
          have p2 : nk + 1 < n := by have := HNI.out; omega
          have HPP := Lib.hid (show ((wr.setCell ⟨g, nk, none⟩ (.string y)).setCell ⟨g, nk + 1, none⟩ (.string x)).ownsRow base 9 1 (.slice (some ⟨g, 0, none⟩) n c) n (strs (ri P R S x (s + 1))) from by rw [← hs3]; exact put_str (put_str ho (by omega) y) (by rw [List.length_set]; omega) x)
          have HG := Lib.hid (only_str (only_str hw nk y) (nk + 1) x)
          have HNK := Lib.hid hnk
          have f1 := fun i => own_thaw ho i
          have p3 : IntKind.i64.wrap ((nk : Int) + 1) = (nk : Int) + 1 := IntWalk.i64_in _ (by omega)
          have p4 : (0 : Int) ≤ (nk : Int) + 1 := by omega
          have p5 : ((nk : Int) + 1).toNat = nk + 1 := by omega
          have p6 : (nk : Int) + 1 < (n : Int) := by omega
          have p7 : (nk : Int) < (n : Int) := by omega
          have p8 : nk < n := by omega
          clear hs1 hs2 hs3 hlen hnk
          go_wp2_with fail
          go_region_law (fail)
          all_goals
            clear p3 p5
            go_wp2
            go_roundg (gk - 1)
            case measure => omega
            case rel => exact ⟨s + 1, nk + 1, by go_num, by have := HNK.out; omega, by omega, by omega, own_drewN HPP.out 1, only_drewN HG.out 1⟩
        · obtain rfl : s = u := by omega
          have p1 : ¬ (nk : Int) < (ni : Int) - 1 := by have := HNI.out; omega
          have HE := Lib.hid (show ri P R S x s = P ++ mrg lt [x] R ++ S by rw [HMM.out]; rfl)
          rw [HE.out] at ho
          clear hnk
          go_wp2
          refine bodyPost_ret (results_none rfl _ _ _) rfl ?_
          exact ⟨rfl, by first | exact ho | simpa using ho, hw⟩
set_option maxRecDepth 100000 in
set_option maxHeartbeats 8000000 in
theorem symR_str (base g n c : Nat) (f : Nat) (cap : Array Value) (cf : ByteArray → ByteArray → Int) (lt : ByteArray → ByteArray → Bool) (hlt : ∀ x y, decide (cf x y < 0) = lt x y) (hwk : Weak lt) (P L S : List ByteArray) (y : ByteArray) (w0 w : World) (hl1 : 1 < L.length) (hL : Asc lt L) (hC : Cmp_str f cap cf w0 g) (hn2 : n ≤ 1048576) (hw : w0.grownBy w (some g)) (ho : w.ownsRow base 9 1 (.slice (some ⟨g, 0, none⟩) n c) n (strs (P ++ L ++ [y] ++ S))) :
    Calls Tryd.prog 53 #[.slice (some ⟨g, 0, none⟩) n c, .int .i64 (P.length : Nat), .int .i64 ((P.length + L.length : Nat) : Int), .int .i64 ((P.length + L.length + 1 : Nat) : Int), .func (.func f) #[] cap] w fun e w' => e = .returned (.tuple #[]) ∧ w'.ownsRow base 9 1 (.slice (some ⟨g, 0, none⟩) n c) n (strs (P ++ mrg lt L [y] ++ S)) ∧ w0.grownBy w' (some g) := by
  have hnn : P.length + L.length + 1 ≤ n := by have := rowlen_str ho; simp at this; omega
  obtain ⟨hent, hrun⟩ := hC
  unfold Enters at hent
  have HC := Lib.hid hrun
  have HLT := Lib.hid hlt
  have HO := Lib.hid (show w.ownsRow base 9 1 (.slice (some ⟨g, 0, none⟩) n c) n (strs (ri P L S y L.length)) by rw [ri_all]; simpa using ho)
  have HM := Lib.hid (fun (i : Nat) (hi : i ≤ L.length) h1 h2 => mrg_one_right hwk (y := y) hL (i := i) hi h1 h2)
  clear hrun hlt hwk ho hL
  obtain ⟨a, ha⟩ : ∃ a, a = P.length := ⟨_, rfl⟩
  obtain ⟨m, hm⟩ : ∃ m, m = P.length + L.length := ⟨_, rfl⟩
  rw [← hm, ← ha]
  have HAB := Lib.hid (And.intro ha hm)
  have hab : a + 1 < m ∧ m + 1 ≤ n := by omega
  have e0 : ((m + 1 : Nat) : Int) = (m : Int) + 1 := by omega
  rw [e0]
  clear ha hm e0
  have e1 : IntKind.i64.wrap ((m : Int) - (a : Int)) = (m : Int) - (a : Int) := IntWalk.i64_in _ (by omega)
  have e2 : ((m : Int) - (a : Int) == 1) = false := by rw [beq_eq_false_iff_ne]; omega
  have e3 : IntKind.i64.wrap ((m : Int) + 1 - (m : Int)) = 1 := by rw [IntWalk.i64_in _ (by omega)]; omega
  have e4 : ((1 : Int) == 1) = true := rfl
  go_enter Tryd.func53, Tryd.ntmps53
  go_wp2
  clear e1 e2 e3 e4
  go_loopg [14, 15] (m + 1) (fun fu i j wr => ∃ (u v ni nj : Nat), i = .int .i64 (ni : Int) ∧ j = .int .i64 (nj : Int) ∧ ni = a + u ∧ nj = a + v ∧ u ≤ v ∧ nj ≤ m ∧ v < u + fu ∧ LoR lt y L u ∧ HiR lt y L v ∧ wr.ownsRow base 9 1 (.slice (some ⟨g, 0, none⟩) n c) n (strs (ri P L S y L.length)) ∧ w0.grownBy wr (some g))
  case atStart => exact ⟨0, m - a, a, m, by go_num, by go_num, by omega, by omega, by omega, by omega, by omega, fun x h => absurd h (by omega), fun x h => (by rw [List.getElem?_eq_none (by have := HAB.out; omega)] at h; cases h), HO.out, hw⟩
  case round =>
    obtain ⟨u, v, ni, nj, rfl, rfl, hni, hnj, huv, hjb, hfu, hu, hv, ho, hw⟩ := hrel
    have HU := Lib.hid (And.intro hu hv)
    have HNI := Lib.hid (And.intro hni hnj)
    clear hu hv
    by_cases hlt : u < v
    · have hltij : (ni : Int) < (nj : Int) := by omega
      obtain ⟨t, ht⟩ : ∃ t, t = (u + v) / 2 := ⟨_, rfl⟩
      obtain ⟨nh, hh⟩ : ∃ nh, nh = a + t := ⟨_, rfl⟩
      have hhb : ni ≤ nh ∧ nh < nj ∧ u ≤ t ∧ t < v := by omega
      have e3 : ((ni : Int) + (nj : Int)) / 2 = (nh : Int) := by omega
      have htL : t < L.length := by have := HAB.out; omega
      have HH := Lib.hid (And.intro hh ht)
      have hs1 : (ri P L S y L.length)[m]? = some y := ri_one P L S y (Nat.le_refl _) (by have := HAB.out; omega)
      have hs2 : (ri P L S y L.length)[nh]? = some L[t] := by
        rw [ri_all, show P ++ (L ++ [y]) ++ S = P ++ L ++ [y] ++ S by simp, row_left htL (by have := HAB.out; omega)]
        exact List.getElem?_eq_getElem htL
      have HT := Lib.hid (List.getElem?_eq_getElem htL)
      have HL := Lib.hid (HLT.out y L[t])
      generalize L[t] = x at hs2 HT HL
      obtain ca0 := cells_str ho hs1
      obtain cb0 := cells_str ho hs2
      have HCC := Lib.hid (fun d os => HC.out y x (Go.Sort.grow (redrawn wr d) os) (only_below' hw (below_regrown wr d os)))
      have rca0 := fun d os => cell_regrown ca0 d os
      have rcb0 := fun d os => cell_regrown cb0 d os
      have HF := Lib.hid (And.intro ho hw)
      have p1 : (nh : Int) < (n : Int) := by omega
      have p2 : (m : Int) < (n : Int) := by omega
      have p3 : nh < n := by omega
      have p4 : m < n := by omega
      clear hs1 hs2 ca0 cb0 ho hw hni hnj hh ht
      generalize hcf : cf y x = z at HL HCC
      clear hcf
      cases hb : lt y x with
      | true =>
        have hz : z < 0 := by have := HL.out; rw [hb] at this; exact of_decide_eq_true this
        have hzd : decide (z < 0) = true := decide_eq_true hz
        have HB := Lib.hid hb
        clear hb
        go_wp2_with fail
        (refine wp_region_quiet_below (by kernel_rfl) (by kernel_rfl) ?_; (repeat (quiet_step (exact Calls.regrown_of (HCC.out _ _)))); refine wpQuiet_nil ?_; intro _ hw'; obtain ⟨⟨dq, osq⟩, hw''⟩ := hw'; subst hw'')
        have hb2 := below_regrown wr dq osq
        have HN := Lib.hid (And.intro (own_below HF.out.1 hb2) (only_below' HF.out.2 hb2))
        clear rca0 rcb0 hb2
        clear e3
        go_wp2
        go_roundg (gk - 1)
        case measure => omega
        case rel => exact ⟨u, t, ni, nh, by go_num, by go_num, HNI.out.1, by have := HH.out; omega, by omega, by omega, by omega, HU.out.1, fun x' hx' => by (have h3 : some x' = some x := by rw [← hx']; exact HT.out); injection h3 with h3; rw [h3]; exact HB.out, HN.out.1, HN.out.2⟩
      | false =>
        have hz : ¬ z < 0 := by have := HL.out; rw [hb] at this; exact of_decide_eq_false this
        have hzd : decide (z < 0) = false := decide_eq_false hz
        have HB := Lib.hid hb
        clear hb
        go_wp2_with fail
        (refine wp_region_quiet_below (by kernel_rfl) (by kernel_rfl) ?_; (repeat (quiet_step (exact Calls.regrown_of (HCC.out _ _)))); refine wpQuiet_nil ?_; intro _ hw'; obtain ⟨⟨dq, osq⟩, hw''⟩ := hw'; subst hw'')
        have hb2 := below_regrown wr dq osq
        have HN := Lib.hid (And.intro (own_below HF.out.1 hb2) (only_below' HF.out.2 hb2))
        clear rca0 rcb0 hb2
        clear e3
        go_wp2
        go_roundg (gk - 1)
        case measure => omega
        case rel => exact ⟨t + 1, v, nh + 1, nj, by go_num, by go_num, by have := HH.out; omega, HNI.out.2, by omega, hjb, by omega, fun x' h0 hx' => by (have h3 : some x' = some x := by rw [← hx']; exact HT.out); injection h3 with h3; rw [h3]; exact HB.out, HU.out.2, HN.out.1, HN.out.2⟩
    · obtain rfl : u = v := by omega
      obtain rfl : ni = nj := by omega
      have hnlt : ¬ (ni : Int) < (ni : Int) := by omega
      have HMM := Lib.hid (HM.out u (by have := HAB.out; omega) (fun x hx => HU.out.2 x hx) (fun x h0 hx => HU.out.1 x h0 hx))
      have HF := Lib.hid (And.intro ho hw)
      obtain ⟨wo, hwo⟩ : ∃ wo : World, wo = wr := ⟨_, rfl⟩
      rw [← hwo] at HF
      rw [← hwo]
      clear hwo ho hw hni hnj
      go_wp2
      go_loopg [17] (L.length + 1) (fun fu k wr => ∃ (s nk : Nat), k = .int .i64 (nk : Int) ∧ nk = a + s ∧ u ≤ s ∧ s ≤ L.length ∧ s < u + fu ∧ wr.ownsRow base 9 1 (.slice (some ⟨g, 0, none⟩) n c) n (strs (ri P L S y s)) ∧ w0.grownBy wr (some g))
      case atStart => exact ⟨L.length, m, by go_num, by have := HAB.out; omega, by have := HAB.out; have := HNI.out; omega, by omega, by omega, HF.out.1, HF.out.2⟩
      case round =>
        obtain ⟨s, nk, rfl, hnk, hsu, hsL, hfs, ho, hw⟩ := hrel
        by_cases hlt : u < s
        · obtain ⟨v, rfl⟩ : ∃ v, s = v + 1 := ⟨s - 1, by omega⟩
          have hvL : v < L.length := by omega
          obtain ⟨q, hq⟩ : ∃ q, q = a + v := ⟨_, rfl⟩
          have hs := ri_down hvL P S y (n := q) (by have := HAB.out; omega)
          obtain ⟨hs1, hs2, hs3⟩ := hs
          have hlen := rowlen_str ho
          generalize L[v] = x at hs1 hs3
          obtain ca0 := cells_str ho hs1
          obtain cb0 := cells_str ho hs2
          have p1 : (ni : Int) < (q : Int) + 1 := by have := HNI.out; omega
          have p2 : q + 1 < n := by have := HAB.out; omega
          rw [show (nk : Int) = (q : Int) + 1 by omega]
          have HPP := Lib.hid (show ((wr.setCell ⟨g, q + 1, none⟩ (.string x)).setCell ⟨g, q, none⟩ (.string y)).ownsRow base 9 1 (.slice (some ⟨g, 0, none⟩) n c) n (strs (ri P L S y v)) from by rw [← hs3]; exact put_str (put_str ho (by omega) x) (by rw [List.length_set]; omega) y)
          have HG := Lib.hid (only_str (only_str hw (q + 1) x) q y)
          have HNK := Lib.hid hq
          have f1 := fun i => own_thaw ho i
          have p3 : IntKind.i64.wrap (q : Int) = (q : Int) := IntWalk.i64_in _ (by omega)
          have p4 : (0 : Int) ≤ (q : Int) + 1 := by omega
          have p5 : ((q : Int) + 1).toNat = q + 1 := by omega
          have p6 : (q : Int) + 1 < (n : Int) := by omega
          have p7 : (q : Int) < (n : Int) := by omega
          have p8 : q < n := by omega
          clear hs1 hs2 hs3 hlen hnk hq
          go_wp2_with fail
          go_region_law (fail)
          all_goals
            clear p3 p5
            go_wp2
            go_roundg (gk - 1)
            case measure => omega
            case rel => exact ⟨v, q, by go_num, HNK.out, by omega, by omega, by omega, own_drewN HPP.out 1, only_drewN HG.out 1⟩
        · obtain rfl : s = u := by omega
          have p1 : ¬ (ni : Int) < (nk : Int) := by have := HNI.out; omega
          have HE := Lib.hid (show ri P L S y s = P ++ mrg lt L [y] ++ S by rw [HMM.out]; rfl)
          rw [HE.out] at ho
          clear hnk
          go_wp2
          refine bodyPost_ret (results_none rfl _ _ _) rfl ?_
          exact ⟨rfl, by first | exact ho | simpa using ho, hw⟩
set_option maxRecDepth 100000 in
set_option maxHeartbeats 4000000 in
theorem rotate_str (base g n c : Nat) (fv : Value) (P X Y S : List ByteArray) (w0 w : World) (hX : 0 < X.length) (hY : 0 < Y.length) (hn2 : n ≤ 1048576) (hw : w0.grownBy w (some g)) (ho : w.ownsRow base 9 1 (.slice (some ⟨g, 0, none⟩) n c) n (strs (P ++ X ++ Y ++ S))) :
    Calls Tryd.prog 62 #[.slice (some ⟨g, 0, none⟩) n c, .int .i64 (P.length : Nat), .int .i64 ((P.length + X.length : Nat) : Int), .int .i64 ((P.length + X.length + Y.length : Nat) : Int), fv] w fun e w' => e = .returned (.tuple #[]) ∧ w'.ownsRow base 9 1 (.slice (some ⟨g, 0, none⟩) n c) n (strs (P ++ Y ++ X ++ S)) ∧ w0.grownBy w' (some g) := by
  have hnn : P.length + X.length + Y.length ≤ n := by have := rowlen_str ho; simp at this; omega
  obtain ⟨a, ha⟩ : ∃ a, a = P.length := ⟨_, rfl⟩
  obtain ⟨m, hm⟩ : ∃ m, m = P.length + X.length := ⟨_, rfl⟩
  obtain ⟨b, hb⟩ : ∃ b, b = P.length + X.length + Y.length := ⟨_, rfl⟩
  rw [← hb, ← hm, ← ha]
  have HAB := Lib.hid (And.intro ha (And.intro hm hb))
  have hab : a < m ∧ m < b ∧ b ≤ n := by omega
  obtain ⟨R, hR⟩ : ∃ R, R = P ++ Y ++ X ++ S := ⟨_, rfl⟩
  rw [← hR]
  have HR := Lib.hid hR
  have HO := Lib.hid ho
  have HSW := Lib.hid (fun P X M Y S w hX hw ho => swapRange_str base g n c fv P X M Y S w0 w hX hn2 hw ho)
  clear ha hm hb hR ho
  go_enter Tryd.func62, Tryd.ntmps62
  have e1 : IntKind.i64.wrap ((m : Int) - (a : Int)) = ((m - a : Nat) : Int) := by rw [IntWalk.i64_in _ (by omega)]; omega
  have e2 : IntKind.i64.wrap ((b : Int) - (m : Int)) = ((b - m : Nat) : Int) := by rw [IntWalk.i64_in _ (by omega)]; omega
  go_wp2
  clear e1 e2
  go_loopg [10, 11] (b + 1) (fun f i j wr => ∃ (ni nj : Nat) (P' X' Y' S' : List ByteArray), i = .int .i64 (ni : Int) ∧ j = .int .i64 (nj : Int) ∧ X'.length = ni ∧ Y'.length = nj ∧ 0 < ni ∧ 0 < nj ∧ P'.length + ni = m ∧ m + nj ≤ n ∧ ni + nj < f ∧ P' ++ Y' ++ X' ++ S' = R ∧ wr.ownsRow base 9 1 (.slice (some ⟨g, 0, none⟩) n c) n (strs (P' ++ X' ++ Y' ++ S')) ∧ w0.grownBy wr (some g))
  case atStart => exact ⟨m - a, b - m, P, X, Y, S, by go_num, by go_num, by have := HAB.out; omega, by have := HAB.out; omega, by omega, by omega, by have := HAB.out; omega, by omega, by omega, HR.out.symm, HO.out, hw⟩
  case round =>
    obtain ⟨i, j, P', X', Y', S', rfl, rfl, hx, hy, hi, hj, hp, hmj, hf, hR, ho, hw⟩ := hrel
    have hpl : P'.length = m - i := by omega
    have him : i ≤ m := by omega
    rcases Nat.lt_trichotomy i j with hij | hij | hij
    · have q1 : ((i : Int) != (j : Int)) = true := by rw [bne_iff_ne]; omega
      have q2 : ¬ (j : Int) < (i : Int) := by omega
      have e1 : IntKind.i64.wrap ((m : Int) - (i : Int)) = ((m - i : Nat) : Int) := by rw [IntWalk.i64_in _ (by omega)]; omega
      have e2 : IntKind.i64.wrap ((m : Int) + (j : Int)) = (m : Int) + (j : Int) := IntWalk.i64_in _ (by omega)
      have e3 : IntKind.i64.wrap ((m : Int) + (j : Int) - (i : Int)) = ((m + (j - i) : Nat) : Int) := by rw [IntWalk.i64_in _ (by omega)]; omega
      have e4 : IntKind.i64.wrap ((j : Int) - (i : Int)) = ((j - i : Nat) : Int) := by rw [IntWalk.i64_in _ (by omega)]; omega
      have hl1 : (Y'.take (j - i)).length = j - i := by rw [List.length_take]; omega
      have hl2 : (Y'.drop (j - i)).length = i := by rw [List.length_drop]; omega
      have hS := HSW.out P' X' (Y'.take (j - i)) (Y'.drop (j - i)) S' wr (by omega) hw (by
        have : P' ++ X' ++ Y'.take (j - i) ++ Y'.drop (j - i) ++ S' = P' ++ X' ++ Y' ++ S' := by rw [List.append_assoc (P' ++ X'), List.take_append_drop]
        rw [this]; exact ho)
      rw [hpl, hx, hl1, show m - i + i + (j - i) = m + (j - i) by omega] at hS
      have HS := Lib.hid hS
      have HR2 := Lib.hid (show P' ++ Y'.take (j - i) ++ Y'.drop (j - i) ++ (X' ++ S') = R by
        rw [← hR, List.append_assoc P', List.take_append_drop]; simp)
      have HLL := Lib.hid (And.intro hl1 (And.intro hl2 hpl))
      clear hS hx hy hp hpl hl1 hl2 hR ho hw
      go_wp2_with fail
      refine HS.out.mono ?_
      rintro e w1 ⟨rfl, ho1, hw1⟩
      go_wp2
      go_roundg (gk - 1)
      case measure => omega
      case rel => exact ⟨i, j - i, P', Y'.drop (j - i), Y'.take (j - i), X' ++ S', by go_num, by go_num, HLL.out.2.1, HLL.out.1, hi, by omega, by have := HLL.out.2.2; omega, by omega, by omega, HR2.out, by rw [← List.append_assoc]; exact ho1, hw1⟩
    · subst hij
      have q1 : ((i : Int) != (i : Int)) = false := by simp
      have e1 : IntKind.i64.wrap ((m : Int) - (i : Int)) = ((m - i : Nat) : Int) := by rw [IntWalk.i64_in _ (by omega)]; omega
      have hS := HSW.out P' X' [] Y' S' wr (by omega) hw (by simpa using ho)
      rw [hpl, hx, List.length_nil, Nat.add_zero, show m - i + i = m by omega] at hS
      have HS := Lib.hid hS
      have HR2 := Lib.hid (show P' ++ Y' ++ [] ++ X' ++ S' = R by rw [← hR]; simp)
      clear hS hx hy hp hpl hR ho hw
      go_wp2_with fail
      refine HS.out.mono ?_
      rintro e w1 ⟨rfl, ho1, hw1⟩
      rw [HR2.out] at ho1
      go_wp2
      go_end0
      exact ⟨rfl, ho1, hw1⟩
    · have q1 : ((i : Int) != (j : Int)) = true := by rw [bne_iff_ne]; omega
      have e1 : IntKind.i64.wrap ((m : Int) - (i : Int)) = ((m - i : Nat) : Int) := by rw [IntWalk.i64_in _ (by omega)]; omega
      have e4 : IntKind.i64.wrap ((i : Int) - (j : Int)) = ((i - j : Nat) : Int) := by rw [IntWalk.i64_in _ (by omega)]; omega
      have hl1 : (X'.take j).length = j := by rw [List.length_take]; omega
      have hl2 : (X'.drop j).length = i - j := by rw [List.length_drop]; omega
      have hS := HSW.out P' (X'.take j) (X'.drop j) Y' S' wr (by omega) hw (by
        have : P' ++ X'.take j ++ X'.drop j ++ Y' ++ S' = P' ++ X' ++ Y' ++ S' := by rw [List.append_assoc P' (X'.take j), List.take_append_drop]
        rw [this]; exact ho)
      rw [hpl, hl1, hl2, show m - i + j + (i - j) = m by omega] at hS
      have HS := Lib.hid hS
      have HR2 := Lib.hid (show (P' ++ Y') ++ X'.take j ++ X'.drop j ++ S' = R by
        rw [← hR, List.append_assoc (P' ++ Y'), List.take_append_drop])
      have HLL := Lib.hid (And.intro hl1 (And.intro hl2 (And.intro hpl hy)))
      clear hS hx hy hp hpl hl1 hl2 hR ho hw
      go_wp2_with fail
      refine HS.out.mono ?_
      rintro e w1 ⟨rfl, ho1, hw1⟩
      go_wp2
      go_roundg (gk - 1)
      case measure => omega
      case rel => exact ⟨i - j, j, P' ++ Y', X'.drop j, X'.take j, S', by go_num, by go_num, HLL.out.2.1, HLL.out.1, by omega, hj, by have := HLL.out; rw [List.length_append]; omega, by omega, by omega, HR2.out, ho1, hw1⟩
set_option maxRecDepth 100000 in
set_option maxHeartbeats 16000000 in
theorem symG_str (base g n c : Nat) (f : Nat) (cap : Array Value) (cf : ByteArray → ByteArray → Int) (lt : ByteArray → ByteArray → Bool) (hlt : ∀ x y, decide (cf x y < 0) = lt x y) (hwk : Weak lt) (N : Nat) (P L R S : List ByteArray) (w0 w : World) (hIH : ∀ (P L R S : List ByteArray) (w' : World), 0 < L.length → 0 < R.length → L.length + R.length < N → Asc lt L → Asc lt R → w0.grownBy w' (some g) → w'.ownsRow base 9 1 (.slice (some ⟨g, 0, none⟩) n c) n (strs (P ++ L ++ R ++ S)) → Calls Tryd.prog 53 #[.slice (some ⟨g, 0, none⟩) n c, .int .i64 (P.length : Nat), .int .i64 ((P.length + L.length : Nat) : Int), .int .i64 ((P.length + L.length + R.length : Nat) : Int), .func (.func f) #[] cap] w' fun e w' => e = .returned (.tuple #[]) ∧ w'.ownsRow base 9 1 (.slice (some ⟨g, 0, none⟩) n c) n (strs (P ++ mrg lt L R ++ S)) ∧ w0.grownBy w' (some g)) (hN : L.length + R.length ≤ N) (hl1 : 1 < L.length) (hr1 : 1 < R.length) (hL : Asc lt L) (hR : Asc lt R) (hC : Cmp_str f cap cf w0 g) (hn2 : n ≤ 1048576) (hw : w0.grownBy w (some g)) (ho : w.ownsRow base 9 1 (.slice (some ⟨g, 0, none⟩) n c) n (strs (P ++ L ++ R ++ S))) :
    Calls Tryd.prog 53 #[.slice (some ⟨g, 0, none⟩) n c, .int .i64 (P.length : Nat), .int .i64 ((P.length + L.length : Nat) : Int), .int .i64 ((P.length + L.length + R.length : Nat) : Int), .func (.func f) #[] cap] w fun e w' => e = .returned (.tuple #[]) ∧ w'.ownsRow base 9 1 (.slice (some ⟨g, 0, none⟩) n c) n (strs (P ++ mrg lt L R ++ S)) ∧ w0.grownBy w' (some g) := by
  have hnn : P.length + L.length + R.length ≤ n := by have := rowlen_str ho; simp at this; omega
  have HROT := Lib.hid (fun P X Y S w hX hY hw ho => rotate_str base g n c (.func (.func f) #[] cap) P X Y S w0 w hX hY hn2 hw ho)
  obtain ⟨hent, hrun⟩ := hC
  unfold Enters at hent
  have HC := Lib.hid hrun
  have HLT := Lib.hid hlt
  have HIH := Lib.hid hIH
  have HO := Lib.hid ho
  have HSP := Lib.hid (fun (i j : Nat) (hi : i ≤ L.length) (hj : j ≤ R.length) h1 h2 => mrg_split hwk hL hR (i := i) (j := j) hi hj h1 h2)
  have HAS := Lib.hid (And.intro hL hR)
  clear hrun hlt hwk ho hL hR hIH
  obtain ⟨a, ha⟩ : ∃ a, a = P.length := ⟨_, rfl⟩
  obtain ⟨m, hm⟩ : ∃ m, m = P.length + L.length := ⟨_, rfl⟩
  obtain ⟨b, hb⟩ : ∃ b, b = P.length + L.length + R.length := ⟨_, rfl⟩
  rw [← hb, ← hm, ← ha]
  have HAB := Lib.hid (And.intro ha (And.intro hm (And.intro hb hN)))
  have hab : a + 1 < m ∧ m + 1 < b ∧ b ≤ n := by omega
  clear ha hm hb hN
  have e1 : IntKind.i64.wrap ((m : Int) - (a : Int)) = (m : Int) - (a : Int) := IntWalk.i64_in _ (by omega)
  have e2 : ((m : Int) - (a : Int) == 1) = false := by rw [beq_eq_false_iff_ne]; omega
  have e3 : IntKind.i64.wrap ((b : Int) - (m : Int)) = (b : Int) - (m : Int) := IntWalk.i64_in _ (by omega)
  have e4 : ((b : Int) - (m : Int) == 1) = false := by rw [beq_eq_false_iff_ne]; omega
  obtain ⟨mid, hmid⟩ : ∃ mid, mid = (a + b) / 2 := ⟨_, rfl⟩
  have HMID := Lib.hid hmid
  have hmb : a < mid ∧ mid < b ∧ a + b ≤ 2 * mid + 1 ∧ 2 * mid ≤ a + b := by omega
  have e5 : ((a : Int) + (b : Int)) / 2 = (mid : Int) := by omega
  clear hmid
  go_enter Tryd.func53, Tryd.ntmps53
  go_upto_if 140 with fail
  clear e1 e2 e3 e4 e5
  go_cut [20, 21] (fun s20 s21 wx => (∃ s0 r0 : Nat, s20 = .int .i64 (s0 : Int) ∧ s21 = .int .i64 (r0 : Int) ∧ Bnd a m b mid s0 r0) ∧ wx = w)
  case first => as_aux_lemma =>
    by_cases hmm : mid < m
    · have q1 : (mid : Int) < (m : Int) := by omega
      have q2 : IntKind.i64.wrap ((mid : Int) + (m : Int) - (b : Int)) = ((mid + m - b : Nat) : Int) := by rw [IntWalk.i64_in _ (by omega)]; omega
      go_wp2_with fail
      go_meet
      exact ⟨⟨mid + m - b, mid, by go_num, by go_num, by unfold Bnd; omega⟩, rfl⟩
    · have q1 : ¬ (mid : Int) < (m : Int) := by omega
      go_wp2_with fail
      go_meet
      exact ⟨⟨a, m, by go_num, by go_num, by unfold Bnd; omega⟩, rfl⟩
  case rest =>
    obtain ⟨⟨s0, r0, rfl, rfl, hbd⟩, hwc⟩ := hcut
    have HBD := Lib.hid hbd
    have HO1 := Lib.hid (show wc.ownsRow base 9 1 (.slice (some ⟨g, 0, none⟩) n c) n (strs (P ++ L ++ R ++ S)) ∧ w0.grownBy wc (some g) by rw [hwc]; exact ⟨HO.out, hw⟩)
    obtain ⟨wz, hwz⟩ : ∃ W : World, W = wc := ⟨_, rfl⟩
    rw [← hwz] at HO1
    rw [← hwz]
    clear hwc hwz hbd hw
    have e1 : IntKind.i64.wrap ((mid : Int) + (m : Int) - 1) = ((mid + m - 1 : Nat) : Int) := by rw [IntWalk.i64_in _ (by omega)]; omega
    go_wp2
    clear e1
    go_loopg [20, 21] (b + 1) (fun fu i j wr => ∃ (s r : Nat), i = .int .i64 (s : Int) ∧ j = .int .i64 (r : Int) ∧ s0 ≤ s ∧ s ≤ r ∧ r ≤ r0 ∧ r < s + fu ∧ Cu1 lt L R a mid s ∧ Cu2 lt L R a mid r ∧ wr.ownsRow base 9 1 (.slice (some ⟨g, 0, none⟩) n c) n (strs (P ++ L ++ R ++ S)) ∧ w0.grownBy wr (some g))
    case atStart =>
      have hbd := HBD.out
      unfold Bnd at hbd
      refine ⟨s0, r0, rfl, rfl, by omega, by omega, by omega, by omega, fun x y h0 hx hy => ?_, fun x y h0 hy hx => ?_, HO1.out.1, HO1.out.2⟩
      · have := HAB.out
        rw [List.getElem?_eq_none (by omega)] at hy; cases hy
      · have := HAB.out
        rw [List.getElem?_eq_none (by omega)] at hx; cases hx
    case round =>
      obtain ⟨s, r, rfl, rfl, hs0, hsr, hrr, hfu, hu, hv, ho, hw⟩ := hrel
      have HU := Lib.hid (And.intro hu hv)
      clear hu hv
      have hbd := HBD.out
      unfold Bnd at hbd
      have hbd2 : a ≤ s ∧ r ≤ m ∧ r ≤ mid ∧ mid - s ≤ b - m := by omega
      clear hbd
      by_cases hlt : s < r
      · have hltij : (s : Int) < (r : Int) := by omega
        obtain ⟨cc, hcc⟩ : ∃ cc, cc = (s + r) / 2 := ⟨_, rfl⟩
        have hcb : s ≤ cc ∧ cc < r := by omega
        have e3 : ((s : Int) + (r : Int)) / 2 = (cc : Int) := by omega
        obtain ⟨np, hnp⟩ : ∃ np, np = mid + m - 1 - cc := ⟨_, rfl⟩
        have e4 : IntKind.i64.wrap (((mid + m - 1 : Nat) : Int) - (cc : Int)) = (np : Int) := by rw [IntWalk.i64_in _ (by omega)]; omega
        have hiL : cc - a < L.length := by have := HAB.out; omega
        have hjR : mid - 1 - cc < R.length := by have := HAB.out; omega
        have hs1 : (P ++ L ++ R ++ S)[np]? = some R[mid - 1 - cc] := by
          rw [row_right hjR (by have := HAB.out; omega)]
          exact List.getElem?_eq_getElem hjR
        have hs2 : (P ++ L ++ R ++ S)[cc]? = some L[cc - a] := by
          rw [row_left hiL (by have := HAB.out; omega)]
          exact List.getElem?_eq_getElem hiL
        have HT1 := Lib.hid (show R[mid - 1 - cc]? = some R[mid - 1 - cc] from List.getElem?_eq_getElem hjR)
        have HT2 := Lib.hid (show L[cc - a]? = some L[cc - a] from List.getElem?_eq_getElem hiL)
        have HL := Lib.hid (HLT.out R[mid - 1 - cc] L[cc - a])
        generalize R[mid - 1 - cc] = y at hs1 HT1 HL
        generalize L[cc - a] = x at hs2 HT2 HL
        obtain ca0 := cells_str ho hs1
        obtain cb0 := cells_str ho hs2
        have HCC := Lib.hid (fun d os => HC.out y x (Go.Sort.grow (redrawn wr d) os) (only_below' hw (below_regrown wr d os)))
        have rca0 := fun d os => cell_regrown ca0 d os
        have rcb0 := fun d os => cell_regrown cb0 d os
        have HF := Lib.hid (And.intro ho hw)
        have HCN := Lib.hid (And.intro hcc hnp)
        have p1 : (cc : Int) < (n : Int) := by omega
        have p2 : (np : Int) < (n : Int) := by omega
        have p3 : cc < n := by omega
        have p4 : np < n := by omega
        clear hs1 hs2 ca0 cb0 ho hw hcc hnp hiL hjR
        generalize hcf : cf y x = z at HL HCC
        clear hcf
        cases hb : lt y x with
        | true => as_aux_lemma =>
          have hz : z < 0 := by have := HL.out; rw [hb] at this; exact of_decide_eq_true this
          have hzd : decide (z < 0) = true := decide_eq_true hz
          have HB := Lib.hid hb
          clear hb
          go_wp2_with fail
          (refine wp_region_quiet_below (by kernel_rfl) (by kernel_rfl) ?_; (repeat (quiet_step (exact Calls.regrown_of (HCC.out _ _)))); refine wpQuiet_nil ?_; intro _ hw'; obtain ⟨⟨dq, osq⟩, hw''⟩ := hw'; subst hw'')
          have hb2 := below_regrown wr dq osq
          have HN := Lib.hid (And.intro (own_below HF.out.1 hb2) (only_below' HF.out.2 hb2))
          clear rca0 rcb0 hb2
          clear e3 e4
          go_wp2
          go_roundg (gk - 1)
          case measure => omega
          case rel =>
            refine ⟨s, cc, by go_num, by go_num, hs0, by omega, by omega, by omega, HU.out.1, fun x' y' h0 hy' hx' => ?_, HN.out.1, HN.out.2⟩
            rw [show mid - cc - 1 = mid - 1 - cc by omega, HT1.out] at hy'
            rw [HT2.out] at hx'
            injection hy' with hy'; injection hx' with hx'
            subst hy'; subst hx'
            exact HB.out
        | false => as_aux_lemma =>
          have hz : ¬ z < 0 := by have := HL.out; rw [hb] at this; exact of_decide_eq_false this
          have hzd : decide (z < 0) = false := decide_eq_false hz
          have HB := Lib.hid hb
          clear hb
          go_wp2_with fail
          (refine wp_region_quiet_below (by kernel_rfl) (by kernel_rfl) ?_; (repeat (quiet_step (exact Calls.regrown_of (HCC.out _ _)))); refine wpQuiet_nil ?_; intro _ hw'; obtain ⟨⟨dq, osq⟩, hw''⟩ := hw'; subst hw'')
          have hb2 := below_regrown wr dq osq
          have HN := Lib.hid (And.intro (own_below HF.out.1 hb2) (only_below' HF.out.2 hb2))
          clear rca0 rcb0 hb2
          clear e3 e4
          go_wp2
          go_roundg (gk - 1)
          case measure => omega
          case rel =>
            refine ⟨cc + 1, r, by go_num, by go_num, by omega, by omega, hrr, by omega, fun x' y' h0 hx' hy' => ?_, HU.out.2, HN.out.1, HN.out.2⟩
            rw [show mid - (cc + 1) = mid - 1 - cc by omega, HT1.out] at hy'
            rw [show cc + 1 - a - 1 = cc - a by omega, HT2.out] at hx'
            injection hy' with hy'; injection hx' with hx'
            subst hy'; subst hx'
            exact HB.out
      · obtain rfl : s = r := by omega
        have hnlt : ¬ (s : Int) < (s : Int) := by omega
        have HMM := Lib.hid (HSP.out (s - a) (mid - s) (by have := HAB.out; omega) (by have := HAB.out; omega) HU.out.1 HU.out.2)
        obtain ⟨en, hen⟩ : ∃ en, en = mid + m - s := ⟨_, rfl⟩
        have e3 : IntKind.i64.wrap ((mid : Int) + (m : Int) - (s : Int)) = (en : Int) := by rw [IntWalk.i64_in _ (by omega)]; omega
        have henb : en + s = mid + m ∧ m ≤ en ∧ mid ≤ en ∧ en ≤ b := by omega
        have HEN := Lib.hid hen
        obtain ⟨L1, hL1⟩ : ∃ l, l = L.take (s - a) := ⟨_, rfl⟩
        obtain ⟨L2, hL2⟩ : ∃ l, l = L.drop (s - a) := ⟨_, rfl⟩
        obtain ⟨R1, hR1⟩ : ∃ l, l = R.take (mid - s) := ⟨_, rfl⟩
        obtain ⟨R2, hR2⟩ : ∃ l, l = R.drop (mid - s) := ⟨_, rfl⟩
        rw [← hL1, ← hL2, ← hR1, ← hR2] at HMM
        have HLEN := Lib.hid (show L1.length = s - a ∧ L2.length = m - s ∧ R1.length = mid - s ∧ R2.length = b - en ∧ P.length = a ∧ L1.length + R1.length < N ∧ L2.length + R2.length < N by
          have := HAB.out
          rw [hL1, hL2, hR1, hR2, List.length_take, List.length_drop, List.length_take, List.length_drop]; omega)
        have HASC := Lib.hid (show Asc lt L1 ∧ Asc lt L2 ∧ Asc lt R1 ∧ Asc lt R2 by
          rw [hL1, hL2, hR1, hR2]
          exact ⟨HAS.out.1.sublist (List.take_sublist _ _), HAS.out.1.sublist (List.drop_sublist _ _), HAS.out.2.sublist (List.take_sublist _ _), HAS.out.2.sublist (List.drop_sublist _ _)⟩)
        have HF := Lib.hid (show wr.ownsRow base 9 1 (.slice (some ⟨g, 0, none⟩) n c) n (strs ((P ++ L1) ++ L2 ++ R1 ++ (R2 ++ S))) ∧ w0.grownBy wr (some g) from ⟨by
          have e : (P ++ L1) ++ L2 ++ R1 ++ (R2 ++ S) = P ++ L ++ R ++ S := by
            rw [hL1, hL2, hR1, hR2, List.append_assoc P, List.take_append_drop, List.append_assoc (P ++ L), ← List.append_assoc (R.take _), List.take_append_drop, ← List.append_assoc]
          rw [e]; exact ho, hw⟩)
        clear ho hw hen hL1 hL2 hR1 hR2
        obtain ⟨wo, hwo⟩ : ∃ wo : World, wo = wr := ⟨_, rfl⟩
        rw [← hwo] at HF
        rw [← hwo]
        clear hwo
        obtain ⟨bb, hbb⟩ : ∃ bb : Bool, bb = decide (s < m ∧ m < en) := ⟨_, rfl⟩
        have HBB := Lib.hid hbb
        clear hbb
        go_upto_region 39 with fail
        clear e3
        go_cut [185] (fun s185 wx => s185 = .bool bb ∧ wx = wo)
        case first => as_aux_lemma =>
          by_cases h2 : s < m
          · have q1 : (s : Int) < (m : Int) := by omega
            by_cases h3 : m < en
            · have q2 : (m : Int) < (en : Int) := by omega
              have HB2 := Lib.hid (show bb = true by rw [HBB.out]; exact decide_eq_true ⟨h2, h3⟩)
              go_wp2_with fail
              go_meet
              exact ⟨by rw [HB2.out], rfl⟩
            · have q2 : ¬ (m : Int) < (en : Int) := by omega
              have HB2 := Lib.hid (show bb = false by rw [HBB.out]; exact decide_eq_false (fun h => h3 h.2))
              go_wp2_with fail
              go_meet
              exact ⟨by rw [HB2.out], rfl⟩
          · have q1 : ¬ (s : Int) < (m : Int) := by omega
            have HB2 := Lib.hid (show bb = false by rw [HBB.out]; exact decide_eq_false (fun h => h2 h.1))
            go_wp2_with fail
            go_meet
            exact ⟨by rw [HB2.out], rfl⟩
        case rest =>
        obtain ⟨rfl, hwo⟩ := hcut
        rw [← hwo] at HF
        obtain ⟨wo, hwo2⟩ : ∃ W : World, W = wc := ⟨_, rfl⟩
        rw [← hwo2] at HF
        rw [← hwo2]
        clear hwo hwo2
        go_upto_if 185 with fail
        go_cut [] (fun wx => wx.ownsRow base 9 1 (.slice (some ⟨g, 0, none⟩) n c) n (strs ((P ++ L1) ++ R1 ++ L2 ++ (R2 ++ S))) ∧ w0.grownBy wx (some g))
        case first => as_aux_lemma =>
          cases bb with
          | true => as_aux_lemma =>
            have h1 : s < m ∧ m < en := of_decide_eq_true HBB.out.symm
            have hS := HROT.out (P ++ L1) L2 R1 (R2 ++ S) wo (by have := HLEN.out; omega) (by have := HLEN.out; omega) HF.out.2 HF.out.1
            rw [show (P ++ L1).length = s by rw [List.length_append]; have := HLEN.out; omega, show s + L2.length = m by have := HLEN.out; omega, show m + R1.length = en by have := HLEN.out; omega] at hS
            have HS := Lib.hid hS
            clear hS
            go_wp2_with fail
            refine HS.out.mono ?_
            rintro e w1 ⟨rfl, ho1, hw1⟩
            go_wp2_with fail
            go_meet
            exact ⟨ho1, hw1⟩
          | false => as_aux_lemma =>
            have h1 : ¬ (s < m ∧ m < en) := of_decide_eq_false HBB.out.symm
            have HE := Lib.hid (show (P ++ L1) ++ R1 ++ L2 ++ (R2 ++ S) = (P ++ L1) ++ L2 ++ R1 ++ (R2 ++ S) by
              have : L2 = [] ∨ R1 = [] := by
                by_cases h2 : s < m
                · exact Or.inr (List.eq_nil_of_length_eq_zero (by have := HLEN.out; omega))
                · exact Or.inl (List.eq_nil_of_length_eq_zero (by have := HLEN.out; omega))
              rcases this with h | h <;> rw [h] <;> simp)
            clear h1
            go_wp2_with fail
            go_meet
            exact ⟨by rw [HE.out]; exact HF.out.1, HF.out.2⟩
        case rest =>
          obtain ⟨ho1, hw1⟩ := hcut
          have HF1 := Lib.hid (And.intro ho1 hw1)
          obtain ⟨wp, hwp⟩ : ∃ W : World, W = wc := ⟨_, rfl⟩
          rw [← hwp] at HF1
          rw [← hwp]
          clear hwp ho1 hw1
          obtain ⟨bc, hbb⟩ : ∃ bb : Bool, bb = decide (a < s ∧ s < mid) := ⟨_, rfl⟩
          have HBC := Lib.hid hbb
          clear hbb
          go_upto_region 41 with fail
          go_cut [199] (fun s199 wx => s199 = .bool bc ∧ wx = wp)
          case first => as_aux_lemma =>
            by_cases h2 : a < s
            · have q1 : (a : Int) < (s : Int) := by omega
              by_cases h3 : s < mid
              · have q2 : (s : Int) < (mid : Int) := by omega
                have HB2 := Lib.hid (show bc = true by rw [HBC.out]; exact decide_eq_true ⟨h2, h3⟩)
                go_wp2_with fail
                go_meet
                exact ⟨by rw [HB2.out], rfl⟩
              · have q2 : ¬ (s : Int) < (mid : Int) := by omega
                have HB2 := Lib.hid (show bc = false by rw [HBC.out]; exact decide_eq_false (fun h => h3 h.2))
                go_wp2_with fail
                go_meet
                exact ⟨by rw [HB2.out], rfl⟩
            · have q1 : ¬ (a : Int) < (s : Int) := by omega
              have HB2 := Lib.hid (show bc = false by rw [HBC.out]; exact decide_eq_false (fun h => h2 h.1))
              go_wp2_with fail
              go_meet
              exact ⟨by rw [HB2.out], rfl⟩
          case rest =>
          obtain ⟨rfl, hwo⟩ := hcut
          rw [← hwo] at HF1
          obtain ⟨wp, hwo2⟩ : ∃ W : World, W = wc := ⟨_, rfl⟩
          rw [← hwo2] at HF1
          rw [← hwo2]
          clear hwo hwo2
          go_upto_if 199 with fail
          go_cut [] (fun wx => wx.ownsRow base 9 1 (.slice (some ⟨g, 0, none⟩) n c) n (strs ((P ++ mrg lt L1 R1) ++ L2 ++ R2 ++ S)) ∧ w0.grownBy wx (some g))
          case first => as_aux_lemma =>
            cases bc with
            | true => as_aux_lemma =>
              have h1 : a < s ∧ s < mid := of_decide_eq_true HBC.out.symm
              have hS := HIH.out P L1 R1 (L2 ++ (R2 ++ S)) wp (by have := HLEN.out; omega) (by have := HLEN.out; omega) HLEN.out.2.2.2.2.2.1 HASC.out.1 HASC.out.2.2.1 HF1.out.2 (by simpa using HF1.out.1)
              rw [HLEN.out.2.2.2.2.1, show a + L1.length = s by have := HLEN.out; omega, show s + R1.length = mid by have := HLEN.out; omega] at hS
              have HS := Lib.hid hS
              clear hS
              go_wp2_with fail
              refine HS.out.mono ?_
              rintro e w1 ⟨rfl, ho1, hw1⟩
              go_wp2_with fail
              go_meet
              exact ⟨by simpa using ho1, hw1⟩
            | false => as_aux_lemma =>
              have h1 : ¬ (a < s ∧ s < mid) := of_decide_eq_false HBC.out.symm
              have HE := Lib.hid (show (P ++ mrg lt L1 R1) ++ L2 ++ R2 ++ S = (P ++ L1) ++ R1 ++ L2 ++ (R2 ++ S) by
                have : L1 = [] ∨ R1 = [] := by
                  by_cases h2 : a < s
                  · exact Or.inr (List.eq_nil_of_length_eq_zero (by have := HLEN.out; omega))
                  · exact Or.inl (List.eq_nil_of_length_eq_zero (by have := HLEN.out; omega))
                rcases this with h | h <;> rw [h] <;> simp [mrg_nil_left, mrg_nil_right])
              clear h1
              go_wp2_with fail
              go_meet
              exact ⟨by rw [HE.out]; exact HF1.out.1, HF1.out.2⟩
          case rest =>
            obtain ⟨ho2, hw2⟩ := hcut
            have HF2 := Lib.hid (And.intro ho2 hw2)
            obtain ⟨wq, hwq⟩ : ∃ W : World, W = wc := ⟨_, rfl⟩
            rw [← hwq] at HF2
            rw [← hwq]
            clear hwq ho2 hw2
            by_cases h1 : mid < en ∧ en < b
            · have q1 : (mid : Int) < (en : Int) := by omega
              have q2 : (en : Int) < (b : Int) := by omega
              have hS := HIH.out (P ++ mrg lt L1 R1) L2 R2 S wq (by have := HLEN.out; omega) (by have := HLEN.out; omega) HLEN.out.2.2.2.2.2.2 HASC.out.2.1 HASC.out.2.2.2 HF2.out.2 HF2.out.1
              rw [show (P ++ mrg lt L1 R1).length = mid by rw [List.length_append, mrg_len]; have := HLEN.out; omega, show mid + L2.length = en by have := HLEN.out; omega, show en + R2.length = b by have := HLEN.out; omega] at hS
              have HS := Lib.hid hS
              have HE := Lib.hid (show (P ++ mrg lt L1 R1) ++ mrg lt L2 R2 ++ S = P ++ mrg lt L R ++ S by rw [HMM.out, List.append_assoc P])
              clear hS
              go_wp2_with fail
              refine HS.out.mono ?_
              rintro e w1 ⟨rfl, ho1, hw1⟩
              rw [HE.out] at ho1
              go_wp2
              go_end0
              exact ⟨rfl, by first | exact ho1 | simpa using ho1, hw1⟩
            · have HE := Lib.hid (show (P ++ mrg lt L1 R1) ++ L2 ++ R2 ++ S = P ++ mrg lt L R ++ S by
                have : L2 = [] ∨ R2 = [] := by
                  by_cases h2 : mid < en
                  · exact Or.inr (List.eq_nil_of_length_eq_zero (by have := HLEN.out; omega))
                  · exact Or.inl (List.eq_nil_of_length_eq_zero (by have := HLEN.out; omega))
                rw [HMM.out]
                rcases this with h | h <;> rw [h] <;> simp [mrg_nil_left, mrg_nil_right])
              have HF3 := Lib.hid (show wq.ownsRow base 9 1 (.slice (some ⟨g, 0, none⟩) n c) n (strs (P ++ mrg lt L R ++ S)) ∧ w0.grownBy wq (some g) by rw [← HE.out]; exact HF2.out)
              by_cases h2 : mid < en
              · have q1 : (mid : Int) < (en : Int) := by omega
                have q2 : ¬ (en : Int) < (b : Int) := by omega
                clear h1
                go_wp2
                go_end0
                exact ⟨rfl, by first | exact HF3.out.1 | simpa using HF3.out.1, HF3.out.2⟩
              · have q1 : ¬ (mid : Int) < (en : Int) := by omega
                clear h1
                go_wp2
                go_end0
                exact ⟨rfl, by first | exact HF3.out.1 | simpa using HF3.out.1, HF3.out.2⟩
theorem sym_str (base g n c : Nat) (f : Nat) (cap : Array Value) (cf : ByteArray → ByteArray → Int) (lt : ByteArray → ByteArray → Bool) (hlt : ∀ x y, decide (cf x y < 0) = lt x y) (hwk : Weak lt) (w0 : World) (hC : Cmp_str f cap cf w0 g) (hn2 : n ≤ 1048576) : ∀ (N : Nat) (P L R S : List ByteArray) (w : World), 0 < L.length → 0 < R.length → L.length + R.length < N → Asc lt L → Asc lt R → w0.grownBy w (some g) → w.ownsRow base 9 1 (.slice (some ⟨g, 0, none⟩) n c) n (strs (P ++ L ++ R ++ S)) →
    Calls Tryd.prog 53 #[.slice (some ⟨g, 0, none⟩) n c, .int .i64 (P.length : Nat), .int .i64 ((P.length + L.length : Nat) : Int), .int .i64 ((P.length + L.length + R.length : Nat) : Int), .func (.func f) #[] cap] w fun e w' => e = .returned (.tuple #[]) ∧ w'.ownsRow base 9 1 (.slice (some ⟨g, 0, none⟩) n c) n (strs (P ++ mrg lt L R ++ S)) ∧ w0.grownBy w' (some g)
  | 0, P, L, R, S, w, _, _, hN, _, _, _, _ => absurd hN (by omega)
  | N + 1, P, L, R, S, w, hl0, hr0, hN, hL, hR, hw, ho => by
    by_cases hl : L.length = 1
    · obtain ⟨x, rfl⟩ := List.length_eq_one_iff.1 hl
      exact symL_str base g n c f cap cf lt hlt hwk P R S x w0 w hR hC hn2 hw ho
    · by_cases hr : R.length = 1
      · obtain ⟨y, rfl⟩ := List.length_eq_one_iff.1 hr
        exact symR_str base g n c f cap cf lt hlt hwk P L S y w0 w (by omega) hL hC hn2 hw ho
      · exact symG_str base g n c f cap cf lt hlt hwk N P L R S w0 w (fun P L R S w' => sym_str base g n c f cap cf lt hlt hwk w0 hC hn2 N P L R S w') (by omega) (by omega) (by omega) hL hR hC hn2 hw ho
set_option maxRecDepth 100000 in
set_option maxHeartbeats 8000000 in
theorem stable_str (base g n c : Nat) (f : Nat) (cap : Array Value) (cf : ByteArray → ByteArray → Int) (lt : ByteArray → ByteArray → Bool) (hlt : ∀ x y, decide (cf x y < 0) = lt x y) (hwk : Weak lt) (zs : List ByteArray) (w0 w : World) (hC : Cmp_str f cap cf w0 g) (hz : zs.length = n) (hn2 : n ≤ 1048576) (hw : w0.grownBy w (some g)) (ho : w.ownsRow base 9 1 (.slice (some ⟨g, 0, none⟩) n c) n (strs zs)) :
    Calls Tryd.prog 40 #[.slice (some ⟨g, 0, none⟩) n c, .int .i64 (n : Nat), .func (.func f) #[] cap] w fun e w' => e = .returned (.tuple #[]) ∧ w'.ownsRow base 9 1 (.slice (some ⟨g, 0, none⟩) n c) n (strs (stab lt zs)) ∧ w0.grownBy w' (some g) := by
  have HINS := Lib.hid (fun P X S w hw ho => insertion_str base g n c f cap cf P X S w0 w hC hn2 hw ho)
  rw [show (fun x y => decide (cf x y < 0)) = lt from funext fun x => funext fun y => hlt x y] at HINS
  have HSYM := Lib.hid (fun P L R S w h1 h2 h3 h4 hw ho => sym_str base g n c f cap cf lt hlt hwk w0 hC hn2 (L.length + R.length + 1) P L R S w h1 h2 (Nat.lt_succ_self _) h3 h4 hw ho)
  have HO := Lib.hid (And.intro ho hw)
  have HW := Lib.hid hwk
  have HZ := Lib.hid hz
  clear hC hlt hwk ho hw hz
  go_enter Tryd.func40, Tryd.ntmps40
  go_wp2
  go_loopg [7, 8] (n + 21) (fun fu i j wr => ∃ (q a b : Nat), i = .int .i64 (a : Int) ∧ j = .int .i64 (b : Int) ∧ a = q * 20 ∧ b = a + 20 ∧ a ≤ n ∧ n + 21 ≤ b + fu ∧ wr.ownsRow base 9 1 (.slice (some ⟨g, 0, none⟩) n c) n (strs (chunked lt 20 (zs.take a) ++ zs.drop a)) ∧ w0.grownBy wr (some g))
  case atStart => exact ⟨0, 0, 20, rfl, rfl, by omega, by omega, by omega, by omega, by rw [List.take_zero, List.drop_zero, chunked_nil]; exact HO.out.1, HO.out.2⟩
  case round =>
    obtain ⟨q, a, b, rfl, rfl, haq, hab, han, hfu, ho, hw⟩ := hrel
    have HQ := Lib.hid (And.intro haq hab)
    have hchl := Lib.hid (show (chunked lt 20 (zs.take a)).length = a by rw [chunked_len (by omega), List.length_take]; have := HZ.out; omega)
    by_cases hlt : b ≤ n
    · have hltz : (b : Int) ≤ (n : Int) := by omega
      have hX : ((zs.drop a).take 20).length = 20 := by rw [List.length_take, List.length_drop]; have := HZ.out; omega
      have hS := HINS.out (chunked lt 20 (zs.take a)) ((zs.drop a).take 20) (zs.drop b) wr hw (by
        have e : chunked lt 20 (zs.take a) ++ (zs.drop a).take 20 ++ zs.drop b = chunked lt 20 (zs.take a) ++ zs.drop a := by
          rw [List.append_assoc, show zs.drop b = (zs.drop a).drop 20 by rw [List.drop_drop, hab], List.take_append_drop]
        rw [e]; exact ho)
      rw [hchl.out, hX, ← hab] at hS
      have HS := Lib.hid hS
      have HE := Lib.hid (show chunked lt 20 (zs.take a) ++ stab lt ((zs.drop a).take 20) = chunked lt 20 (zs.take b) by
        rw [hab, haq, chunked_take (by omega) zs q (by have := HZ.out; omega)])
      clear hS ho hw hX haq hab
      go_wp2_with fail
      refine HS.out.mono ?_
      rintro e w1 ⟨rfl, ho1, hw1⟩
      rw [HE.out] at ho1
      go_wp2
      go_roundg (gk - 1)
      case measure => omega
      case rel => exact ⟨q + 1, b, b + 20, by go_num, by go_num, by have := HQ.out; omega, rfl, hlt, by omega, ho1, hw1⟩
    · have hltz : ¬ (b : Int) ≤ (n : Int) := by omega
      have hS := HINS.out (chunked lt 20 (zs.take a)) (zs.drop a) [] wr hw (by rw [List.append_nil]; exact ho)
      rw [hchl.out, show a + (zs.drop a).length = n by rw [List.length_drop]; have := HZ.out; omega] at hS
      have HS := Lib.hid hS
      have HE := Lib.hid (show chunked lt 20 (zs.take a) ++ stab lt (zs.drop a) ++ [] = chunked lt 20 zs by
        rw [List.append_nil, haq, ← chunked_end (by omega) zs q (by have := HZ.out; omega) (by have := HZ.out; omega)])
      clear hS ho hw haq hab
      go_wp2_with fail
      refine HS.out.mono ?_
      rintro e w1 ⟨rfl, ho1, hw1⟩
      rw [HE.out] at ho1
      have HO1 := Lib.hid (And.intro ho1 hw1)
      clear ho1 hw1
      go_wp2
      go_loopg [6] (n + 1) (fun fu i wr => ∃ (bs : Nat), i = .int .i64 (bs : Int) ∧ 0 < bs ∧ bs ≤ 4194304 ∧ n + 1 ≤ bs + fu ∧ wr.ownsRow base 9 1 (.slice (some ⟨g, 0, none⟩) n c) n (strs (chunked lt bs zs)) ∧ w0.grownBy wr (some g))
      case atStart => exact ⟨20, rfl, by omega, by omega, by omega, HO1.out.1, HO1.out.2⟩
      case round =>
        obtain ⟨bs, rfl, hb0, hb1, hfu2, ho, hw⟩ := hrel
        by_cases hlt2 : bs < n
        · have hlt2z : (bs : Int) < (n : Int) := by omega
          have HO2 := Lib.hid (And.intro ho hw)
          obtain ⟨wo, hwo⟩ : ∃ wo : World, wo = wr := ⟨_, rfl⟩
          rw [← hwo] at HO2
          rw [← hwo]
          clear hwo ho hw
          obtain ⟨b2, hb2⟩ : ∃ b2, b2 = bs + bs := ⟨_, rfl⟩
          have e1 : IntKind.i64.wrap (2 * (bs : Int)) = (b2 : Int) := by rw [IntWalk.i64_in _ (by omega)]; omega
          have e2 : IntKind.i64.wrap ((bs : Int) * 2) = (b2 : Int) := by rw [IntWalk.i64_in _ (by omega)]; omega
          have HB2 := Lib.hid hb2
          have hb2b : bs < b2 ∧ b2 ≤ 2097152 := by omega
          clear hb2
          go_wp2
          go_loopg [7, 8] (n + b2 + 1) (fun fu i j wr => ∃ (q a b : Nat), i = .int .i64 (a : Int) ∧ j = .int .i64 (b : Int) ∧ a = q * b2 ∧ b = a + b2 ∧ a ≤ n ∧ n + b2 + 1 ≤ b + fu ∧ wr.ownsRow base 9 1 (.slice (some ⟨g, 0, none⟩) n c) n (strs (chunked lt b2 (zs.take a) ++ chunked lt bs (zs.drop a))) ∧ w0.grownBy wr (some g))
          case atStart => exact ⟨0, 0, b2, rfl, by go_num, by omega, by omega, by omega, by omega, by rw [List.take_zero, List.drop_zero, chunked_nil]; exact HO2.out.1, HO2.out.2⟩
          case round =>
            obtain ⟨q, a, b, rfl, rfl, haq, hab, han, hfu, ho, hw⟩ := hrel
            have HQ := Lib.hid (And.intro haq hab)
            have hchl := Lib.hid (show (chunked lt b2 (zs.take a)).length = a by rw [chunked_len (by omega), List.length_take]; have := HZ.out; omega)
            by_cases hlt3 : b ≤ n
            · have hlt3z : (b : Int) ≤ (n : Int) := by omega
              have e3 : IntKind.i64.wrap ((a : Int) + (bs : Int)) = ((a + bs : Nat) : Int) := by rw [IntWalk.i64_in _ (by omega)]; omega
              have hL : (stab lt ((zs.drop a).take bs)).length = bs := by rw [stab_len, List.length_take, List.length_drop]; have := HZ.out; omega
              have hR : (stab lt (((zs.drop a).drop bs).take bs)).length = bs := by rw [stab_len, List.length_take, List.length_drop, List.length_drop]; have := HZ.out; have := HB2.out; omega
              have hS := HSYM.out (chunked lt b2 (zs.take a)) (stab lt ((zs.drop a).take bs)) (stab lt (((zs.drop a).drop bs).take bs)) (chunked lt bs (zs.drop b)) wr (by omega) (by omega) (stab_asc HW.out _) (stab_asc HW.out _) hw (by
                have e : chunked lt b2 (zs.take a) ++ stab lt ((zs.drop a).take bs) ++ stab lt (((zs.drop a).drop bs).take bs) ++ chunked lt bs (zs.drop b) = chunked lt b2 (zs.take a) ++ chunked lt bs (zs.drop a) := by
                  have hd : (zs.drop a).drop (bs + bs) = zs.drop b := by rw [List.drop_drop, hab, HB2.out]
                  rw [chunked_two HW.out hb0 (zs.drop a), hd]; simp only [List.append_assoc]
                rw [e]; exact ho)
              rw [hchl.out, hL, hR, show a + bs + bs = b by have := HB2.out; omega] at hS
              have HS := Lib.hid hS
              have HE := Lib.hid (show chunked lt b2 (zs.take a) ++ mrg lt (stab lt ((zs.drop a).take bs)) (stab lt (((zs.drop a).drop bs).take bs)) ++ chunked lt bs (zs.drop b) = chunked lt b2 (zs.take b) ++ chunked lt bs (zs.drop b) by
                rw [stab_two HW.out, ← HB2.out, hab, haq, chunked_take (by omega) zs q (by have := HZ.out; omega)])
              clear hS ho hw hL hR haq hab
              go_wp2_with fail
              refine HS.out.mono ?_
              rintro e w1 ⟨rfl, ho1, hw1⟩
              rw [HE.out] at ho1
              clear e3
              go_wp2
              go_roundg (gk - 1)
              case measure => omega
              case rel => exact ⟨q + 1, b, b + b2, by go_num, by go_num, by have := HQ.out; rw [Nat.add_mul]; omega, rfl, hlt3, by omega, ho1, hw1⟩
            · have hlt3z : ¬ (b : Int) ≤ (n : Int) := by omega
              have e3 : IntKind.i64.wrap ((a : Int) + (bs : Int)) = ((a + bs : Nat) : Int) := by rw [IntWalk.i64_in _ (by omega)]; omega
              have HCE := Lib.hid (show chunked lt b2 (zs.take a) ++ stab lt (zs.drop a) = chunked lt b2 zs by
                rw [haq, ← chunked_end (by omega) zs q (by have := HZ.out; omega) (by have := HZ.out; omega)])
              have hdl : (zs.drop a).length = n - a := by rw [List.length_drop]; have := HZ.out; omega
              by_cases hm : a + bs < n
              · have hmz : ((a + bs : Nat) : Int) < (n : Int) := by omega
                have hL : (stab lt ((zs.drop a).take bs)).length = bs := by rw [stab_len, List.length_take, List.length_drop]; have := HZ.out; omega
                have hR : (stab lt ((zs.drop a).drop bs)).length = n - a - bs := by rw [stab_len, List.length_drop, List.length_drop]; have := HZ.out; omega
                have hS := HSYM.out (chunked lt b2 (zs.take a)) (stab lt ((zs.drop a).take bs)) (stab lt ((zs.drop a).drop bs)) [] wr (by omega) (by omega) (stab_asc HW.out _) (stab_asc HW.out _) hw (by
                  have e : chunked lt b2 (zs.take a) ++ stab lt ((zs.drop a).take bs) ++ stab lt ((zs.drop a).drop bs) ++ [] = chunked lt b2 (zs.take a) ++ chunked lt bs (zs.drop a) := by
                    rw [chunked_cut hb0 (l := zs.drop a), chunked_short (l := (zs.drop a).drop bs) (by rw [List.length_drop, hdl]; have := HB2.out; omega)]; simp
                  rw [e]; exact ho)
                rw [hchl.out, hL, hR, show a + bs + (n - a - bs) = n by omega] at hS
                have HS := Lib.hid hS
                have HE := Lib.hid (show chunked lt b2 (zs.take a) ++ mrg lt (stab lt ((zs.drop a).take bs)) (stab lt ((zs.drop a).drop bs)) ++ [] = chunked lt b2 zs by
                  rw [List.append_nil, ← stab_app HW.out, List.take_append_drop, HCE.out])
                clear hS ho hw hL hR haq hab hdl
                go_wp2_with fail
                refine HS.out.mono ?_
                rintro e w1 ⟨rfl, ho1, hw1⟩
                rw [HE.out] at ho1
                clear e3
                go_wp2
                go_roundg (n + 1 - b2)
                case measure => omega
                case rel => exact ⟨b2, by go_num, by omega, by omega, by omega, ho1, hw1⟩
              · have hmz : ¬ ((a + bs : Nat) : Int) < (n : Int) := by omega
                have HE := Lib.hid (show chunked lt b2 (zs.take a) ++ chunked lt bs (zs.drop a) = chunked lt b2 zs by
                  rw [chunked_short (l := zs.drop a) (by rw [hdl]; omega), HCE.out])
                rw [HE.out] at ho
                clear haq hab hdl
                go_wp2
                go_roundg (n + 1 - b2)
                case measure => omega
                case rel => exact ⟨b2, by go_num, by omega, by omega, by omega, ho, hw⟩
        · have hlt2z : ¬ (bs : Int) < (n : Int) := by omega
          have HE := Lib.hid (show chunked lt bs zs = stab lt zs from chunked_short (by have := HZ.out; omega))
          rw [HE.out] at ho
          go_wp2
          go_end0
          exact ⟨rfl, ho, hw⟩
set_option maxRecDepth 100000 in
set_option maxHeartbeats 1000000 in
theorem insNil_str (fv : Value) (w : World) : Calls Tryd.prog 52 #[.slice none 0 0, .int .i64 0, .int .i64 0, fv] w fun e w' => e = .returned (.tuple #[]) ∧ w = w' := by
  go_enter Tryd.func52, Tryd.ntmps52
  go_wp2
  refine wp_loop_rounds 1 ?_
  rw [rounds_succ]
  go_wp2
  go_end0
  exact ⟨rfl, rfl⟩
set_option maxRecDepth 100000 in
set_option maxHeartbeats 1000000 in
theorem stableNil_str (fv : Value) (w : World) : Calls Tryd.prog 40 #[.slice none 0 0, .int .i64 0, fv] w fun e w' => e = .returned (.tuple #[]) ∧ w = w' := by
  go_enter Tryd.func40, Tryd.ntmps40
  go_wp2
  refine wp_loop_rounds 1 ?_
  rw [rounds_succ]
  go_wp2_with fail
  refine (insNil_str _ _).mono ?_
  rintro e w' ⟨rfl, rfl⟩
  go_wp2
  refine wp_loop_rounds 1 ?_
  rw [rounds_succ]
  go_wp2
  go_end0
  exact ⟨rfl, rfl⟩
set_option maxRecDepth 100000 in
set_option maxHeartbeats 2000000 in
/-- slices.SortStableFunc on a row of the call's own -/
theorem sortStable_str (base : Nat) (v : Value) (f : Nat) (cap : Array Value) (cf : ByteArray → ByteArray → Int) (lt : ByteArray → ByteArray → Bool) (hlt : ∀ x y, decide (cf x y < 0) = lt x y) (hwk : Weak lt) (zs : List ByteArray) (w : World) (hC : ∀ g, v.ownBlock = some g → Cmp_str f cap cf w g) (hn2 : zs.length ≤ 1048576) (ho : w.ownsRow base 9 1 v zs.length (strs zs)) :
    Calls Tryd.prog 27 #[v, .func (.func f) #[] cap] w fun e w' => e = .returned (.tuple #[]) ∧ w'.ownsRow base 9 1 v zs.length (strs (stab lt zs)) ∧ w.grownBy w' v.ownBlock := by
  rcases ho.2 with ⟨rfl, h0⟩ | ⟨g, cap0, cur, rfl, hb, hg, h1, h2, h3, h4⟩
  · obtain rfl := List.eq_nil_of_length_eq_zero h0
    go_enter Tryd.func27, Tryd.ntmps27
    go_wp2_with fail
    refine (stableNil_str _ _).mono ?_
    rintro e w1 ⟨rfl, rfl⟩
    go_wp2
    go_end0
    exact ⟨rfl, ho, World.grownBy.refl _ _⟩
  · have HS := Lib.hid (stable_str base g zs.length cap0 f cap cf lt hlt hwk zs w w (hC g rfl) rfl hn2 (World.grownBy.refl _ _) ho)
    clear hC hlt hwk ho hg h3 h4
    go_enter Tryd.func27, Tryd.ntmps27
    go_wp2_with fail
    refine HS.out.mono ?_
    rintro e w1 ⟨rfl, ho1, hw1⟩
    go_wp2
    go_end0
    exact ⟨rfl, ho1, hw1⟩
end Go.Proofs.YtaeimdcmpjanbaaDoor.stb
