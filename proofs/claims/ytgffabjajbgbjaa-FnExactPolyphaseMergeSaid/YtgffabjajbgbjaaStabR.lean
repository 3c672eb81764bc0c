/- The reference's stable order of records by keys. Condition: at most 2^20 records. -/
import Derived.Test.YtgffabjajbgbjaaTnSrt
import Derived.Test.YtgffabjajbgbjaaElem
import Derived.Test.YtgffabjajbgbjaaMemAt
import Derived.Deep.DeepCutAuto
import Derived.Deep.CutBlock
import Derived.Deep.RegionHeld3
import Derived.Deep.RegionLaw
import Derived.Deep.LoopGhost
import Derived.Lib.QuietBelow
set_option linter.unusedVariables false
set_option linter.unusedSimpArgs false
namespace Go.Proofs.Ytgffabjajbgbjaa.stabR
open Go.RowKit Go.Proofs.Ytgffabjajbgbjaa.mem Go.Proofs.Ytgffabjajbgbjaa.stb Go.Proofs.Ytgffabjajbgbjaa.tn

theorem set_rec : ∀ (l : List Rec) (i : Nat) (x : Rec), (((recs l).set (i * 2) (.int .i64 x.key)).set (i * 2 + 1) (.int .i64 x.tag)) = recs (l.set i x)
  | [], i, x => by simp [recs]
  | a :: l, 0, x => by simp [recs, Rec.cells]
  | a :: l, i + 1, x => by
    have ih := set_rec l i x
    rw [List.set_cons_succ, recs_cons, recs_cons, ← ih]
    have e1 : (i + 1) * 2 = a.cells.length + i * 2 := by simp [Rec.cells]; omega
    rw [List.set_append_right _ _ (by omega), List.set_append_right _ _ (by omega), show (i + 1) * 2 - a.cells.length = i * 2 by omega, show (i + 1) * 2 + 1 - a.cells.length = i * 2 + 1 by omega]
theorem put_rec {w : World} {base g n c : Nat} {l : List Rec} (h : w.ownsRow base 87 2 (.slice (some ⟨g, 0, none⟩) n c) n (recs l)) {i : Nat} (hi : i < l.length) (x : Rec) :
    ((w.setCell ⟨g, i * 2, none⟩ (.int .i64 x.key)).setCell ⟨g, i * 2 + 1, none⟩ (.int .i64 x.tag)).ownsRow base 87 2 (.slice (some ⟨g, 0, none⟩) n c) n (recs (l.set i x)) := by
  have hl := len_recs l
  have h1 := own_put h (i := i * 2) (by omega) (.int .i64 x.key)
  have h2 := own_put h1 (i := i * 2 + 1) (by simp only [List.length_set]; omega) (.int .i64 x.tag)
  rw [set_rec] at h2
  exact h2
theorem cells_rec {w : World} {base g n c : Nat} {l : List Rec} (h : w.ownsRow base 87 2 (.slice (some ⟨g, 0, none⟩) n c) n (recs l)) {i : Nat} {x : Rec} (hx : l[i]? = some x) :
    w.cell? ⟨g, i * 2, none⟩ = some (.int .i64 x.key) ∧ w.cell? ⟨g, i * 2 + 1, none⟩ = some (.int .i64 x.tag) := by
  obtain ⟨hi, rfl⟩ := List.getElem?_eq_some_iff.1 hx
  exact ⟨own_cell h ((recs_at l i 0 hi (by omega)).trans rfl), own_cell h ((recs_at l i 1 hi (by omega)).trans rfl)⟩
theorem only_rec {a w : World} {g : Nat} (h : a.grownBy w (some g)) (i : Nat) (x : Rec) : a.grownBy ((w.setCell ⟨g, i * 2, none⟩ (.int .i64 x.key)).setCell ⟨g, i * 2 + 1, none⟩ (.int .i64 x.tag)) (some g) :=
  (only_put (only_put h _ _) _ _)
theorem rowlen_rec {w : World} {base g n c : Nat} {l : List Rec} (h : w.ownsRow base 87 2 (.slice (some ⟨g, 0, none⟩) n c) n (recs l)) : l.length = n := by have := h.1; rw [len_recs] at this; omega
set_option maxRecDepth 100000 in
set_option maxHeartbeats 4000000 in
theorem spec_stable (A : Option Addr) (c : Nat) (zs : List Rec) (w : World) (hn : zs.length ≤ 1048576) (hr : Rd w 2 A zs.length (recs zs)) :
    Calls Try.prog 106 #[.slice A zs.length c] w fun e w' => ∃ v, e = .returned v ∧ w'.ownsRow w.heap.size 87 2 v zs.length (recs (stab ltR zs)) ∧ Below w.heap.size w w' := by
  have hh : 0 + zs.length ≤ 1099511627776 := by omega
  have h0 := World.ownsRow_made (e := 87) (size := 2) w #[] 0 (Nat.le_refl _) (Nat.zero_le _) (by simp)
  have hb0 : Below w.heap.size w (w.alloc (.cells #[] 87)) := (Below.refl _ _).alloc (Nat.le_refl _) _
  have hs0 := hb0.size
  have hr0 := hr.alloc (.cells #[] 87)
  go_enter Try.func106, Try.ntmps106
  go_wp2_with (at_builtin; refine mem.extend _ rfl _ _ 54 rfl w.heap.size 87 _ 2 16 Try.underlying54 mem.info_rec rfl (by decide) _ _ _ rfl h0 _ _ _ _ rfl hr0 (mem.recs_one zs) hh (by decide) hs0 ?_; intro v' w' ho' hg')
  have hb := below_push hb0 hs0 hg' h0
  simp only [Nat.zero_add, List.nil_append] at ho'
  obtain ⟨A1, c1, rfl, hc1, hc1m, hr1⟩ := own_form ho'
  obtain ⟨wa, hwa⟩ : ∃ W : World, W = w' := ⟨_, rfl⟩
  rw [← hwa] at ho' hb ⊢
  by_cases hz : zs.length ≤ 1
  · have HE := Lib.hid (show stab ltR zs = zs by
      match zs, hz with
      | [], _ => rfl
      | [x], _ => exact stab_one x)
    have q1 : ¬ (1 : Int) < (zs.length : Int) := by omega
    clear hwa h0 hb0 hs0 hr0 hg' hr1
    refine wp_loop_rounds 1 ?_
    rw [rounds_succ]
    go_wp2
    go_ret
    exact ⟨_, rfl, by rw [HE.out]; exact ho', hb⟩
  obtain ⟨g, rfl, hg1, hg2⟩ := own_addr ho' (by omega)
  have HO := Lib.hid (show wa.ownsRow w.heap.size 87 2 (.slice (some ⟨g, 0, none⟩) zs.length c1) zs.length (recs (stab ltR (zs.take 1) ++ zs.drop 1)) from by
    have e : stab ltR (zs.take 1) ++ zs.drop 1 = zs := by
      cases zs with
      | nil => simp [stab_nil]
      | cons x X => simp [stab_one]
    rw [e]; exact ho')
  clear hwa h0 hb0 hs0 hr0 hg' hr1 ho'
  go_loopg [4] (zs.length + 1) (fun fu i wr => ∃ k : Nat, zs.length < k + fu ∧ 1 ≤ k ∧ k ≤ zs.length ∧ i = .int .i64 (k : Int) ∧ wr.ownsRow w.heap.size 87 2 (.slice (some ⟨g, 0, none⟩) zs.length c1) zs.length (recs (stab ltR (zs.take k) ++ zs.drop k)) ∧ Below w.heap.size w wr)
  case atStart => exact ⟨1, by omega, by omega, by omega, rfl, HO.out, hb⟩
  case round =>
    obtain ⟨k, hkf, hk1, hk, rfl, ho, hb⟩ := hrel
    by_cases hlt : k < zs.length
    · have HST := Lib.hid (stab_take (lt := ltR) zs hlt)
      obtain ⟨x, hx⟩ : ∃ x, x = zs[k] := ⟨_, rfl⟩
      rw [← hx] at HST
      obtain ⟨L, hL⟩ : ∃ L, L = stab ltR (zs.take k) := ⟨_, rfl⟩
      have hLl : L.length = k := by rw [hL, stab_len, List.length_take]; omega
      obtain ⟨S, hS⟩ : ∃ S, S = zs.drop (k + 1) := ⟨_, rfl⟩
      have hori : wr.ownsRow w.heap.size 87 2 (.slice (some ⟨g, 0, none⟩) zs.length c1) zs.length (recs (ri [] L S x k)) := by
        have e : stab ltR (zs.take k) ++ zs.drop k = ri [] L S x L.length := by
          rw [ri_all, ← hL, List.drop_eq_getElem_cons hlt, ← hx, ← hS]; simp
        rw [← hLl, ← e]; exact ho
      rw [← hL] at HST
      have HLL := Lib.hid hLl
      have HIN := Lib.hid (fun (u : Nat) (W : World) (hp : pos ltR x L L.length = u) (h : W.ownsRow w.heap.size 87 2 (.slice (some ⟨g, 0, none⟩) zs.length c1) zs.length (recs (ri [] L S x u))) => show W.ownsRow w.heap.size 87 2 (.slice (some ⟨g, 0, none⟩) zs.length c1) zs.length (recs (stab ltR (zs.take (k + 1)) ++ zs.drop (k + 1))) from by
        have e : ri [] L S x u = stab ltR (zs.take (k + 1)) ++ zs.drop (k + 1) := by
          rw [HST.out, ri_ins _ _ _ _ _ hp, hS]; simp
        rw [← e]; exact h)
      have HR1 := Lib.hid (And.intro hori hb)
      clear hL hLl ho hori hx hb hS
      obtain ⟨wo, hwo⟩ : ∃ wo : World, wo = wr := ⟨_, rfl⟩
      rw [← hwo] at HR1
      rw [← hwo]
      clear hwo
      have p1 : (k : Int) < (zs.length : Int) := by omega
      go_wp2
      go_loopg [5] (k + 2) (fun fu s wi => ∃ u : Nat, u < fu ∧ u ≤ k ∧ s = .int .i64 (u : Int) ∧ pos ltR x L L.length = pos ltR x L u ∧ wi.ownsRow w.heap.size 87 2 (.slice (some ⟨g, 0, none⟩) zs.length c1) zs.length (recs (ri [] L S x u)) ∧ Below w.heap.size w wi)
      case atStart => exact ⟨k, by omega, by omega, rfl, by rw [HLL.out], HR1.out.1, HR1.out.2⟩
      case round =>
        obtain ⟨u, huf, hu, rfl, hp, ho, hw⟩ := hrel
        have HP := Lib.hid hp
        clear hp
        by_cases h0 : u = 0
        · subst h0
          have HE := Lib.hid (show pos ltR x L L.length = 0 by rw [HP.out]; rfl)
          go_wp2_with fail
          go_quiet (fail)
          have HN := Lib.hid (HIN.out 0 _ HE.out (own_drewN ho nq))
          have hw2 := below_drewN hw nq
          go_wp2
          go_roundg (zs.length - k)
          case measure => omega
          case rel => exact ⟨k + 1, by omega, by omega, by omega, by go_num, HN.out, hw2⟩
        · obtain ⟨v, rfl⟩ : ∃ v, u = v + 1 := ⟨u - 1, by omega⟩
          have hvL : v < L.length := by have := HLL.out; omega
          have hs := ri_down hvL [] S x (n := v) (by simp)
          obtain ⟨hs1, hs2, hs3⟩ := hs
          have HD := Lib.hid (fun (h : ltR x L[v] = true) => pos_down hvL h)
          have HS := Lib.hid (fun (h : ltR x L[v] = false) => pos_stop hvL h)
          have HL := Lib.hid (show ltR x L[v] = decide (x.key < (L[v]).key) from rfl)
          have hlen := rowlen_rec ho
          generalize L[v] = y at hs1 hs3 HD HS HL
          generalize ltR x y = bb at HD HS HL
          rw [show (((v + 1 : Nat)) : Int) = (v : Int) + 1 by omega]
          obtain ⟨ca0, ca1⟩ := cells_rec ho hs1
          obtain ⟨cb0, cb1⟩ := cells_rec ho hs2
          have p2 : (0 : Int) < (v : Int) + 1 := by omega
          have p3 : IntKind.i64.wrap (v : Int) = (v : Int) := IntWalk.i64_in _ (by omega)
          have p4 : (0 : Int) ≤ (v : Int) + 1 := by omega
          have p5 : ((v : Int) + 1).toNat = v + 1 := by omega
          have p6 : (v : Int) + 1 < (zs.length : Int) := by omega
          have p7 : (v : Int) < (zs.length : Int) := by omega
          have p8 : v < zs.length := by omega
          have hs4 : ((ri [] L S x (v + 1)).set v x).set (v + 1) y = ri [] L S x v := by rw [← hs3, List.set_comm _ _ (by omega)]
          have HF := Lib.hid (And.intro ho (And.intro hw (And.intro hlen hs4)))
          clear hs1 hs2 hs3 hs4 hlen
          cases bb with
          | true =>
            have hz1 : x.key < y.key := of_decide_eq_true HL.out.symm
            have HE := Lib.hid (show pos ltR x L L.length = pos ltR x L v by rw [HP.out, HD.out rfl])
            clear ho hw
            go_wp2_with fail
            go_quiet (fail)
            obtain ⟨wq, hwq⟩ : ∃ W : World, W = wr.drewN nq := ⟨_, rfl⟩
            rw [← hwq]
            have cc0 : wq.cell? ⟨g, v * 2, none⟩ = some (.int .i64 y.key) := by rw [hwq]; exact ca0
            have cc1 : wq.cell? ⟨g, v * 2 + 1, none⟩ = some (.int .i64 y.tag) := by rw [hwq]; exact ca1
            have cc2 : wq.cell? ⟨g, (v + 1) * 2, none⟩ = some (.int .i64 x.key) := by rw [hwq]; exact cb0
            have cc3 : wq.cell? ⟨g, (v + 1) * 2 + 1, none⟩ = some (.int .i64 x.tag) := by rw [hwq]; exact cb1
            have ho2 := own_drewN HF.out.1 nq
            have hb2 := below_drewN HF.out.2.1 nq
            rw [← hwq] at ho2 hb2
            have hgq := own_addr ho2 (by omega)
            obtain ⟨g', hg', hgq1, hgq2⟩ := hgq
            obtain rfl : g = g' := by injection hg' with a; injection a
            clear hg' hwq ca0 ca1 cb0 cb1
            obtain ⟨wh, hwh⟩ : ∃ W : World, W = wq.alloc (.cells #[.int .i64 y.key, .int .i64 y.tag] 87) := ⟨_, rfl⟩
            have hbh : Below wq.heap.size wq wh := by rw [hwh]; exact (Below.refl _ _).alloc (Nat.le_refl _) _
            have hBh : Blk wh wq.heap.size 87 #[.int .i64 y.key, .int .i64 y.tag] := by rw [hwh]; exact Blk.new _ _ _
            have m0 : wh.cell? ⟨wq.heap.size, 0, none⟩ = some (.int .i64 y.key) := hBh.cell 0
            have m1 : wh.cell? ⟨wq.heap.size, 1, none⟩ = some (.int .i64 y.tag) := hBh.cell 1
            have d0 : wh.cell? ⟨g, v * 2, none⟩ = some (.int .i64 y.key) := (hbh.cell hgq2).trans cc0
            have d1 : wh.cell? ⟨g, v * 2 + 1, none⟩ = some (.int .i64 y.tag) := (hbh.cell hgq2).trans cc1
            have d2 : wh.cell? ⟨g, (v + 1) * 2, none⟩ = some (.int .i64 x.key) := (hbh.cell hgq2).trans cc2
            have d3 : wh.cell? ⟨g, (v + 1) * 2 + 1, none⟩ = some (.int .i64 x.tag) := (hbh.cell hgq2).trans cc3
            have f1 := fun i => own_thaw ho2 i
            have HPP := Lib.hid (fun ob => show (World.alloc ((((wq.setCell ⟨g, v * 2, none⟩ (.int .i64 x.key)).setCell ⟨g, v * 2 + 1, none⟩ (.int .i64 x.tag)).setCell ⟨g, (v + 1) * 2, none⟩ (.int .i64 y.key)).setCell ⟨g, (v + 1) * 2 + 1, none⟩ (.int .i64 y.tag)) ob).ownsRow w.heap.size 87 2 (.slice (some ⟨g, 0, none⟩) zs.length c1) zs.length (recs (ri [] L S x v)) from by
              rw [← HF.out.2.2.2]
              exact own_below (put_rec (put_rec ho2 (by have := HF.out.2.2.1; omega) x) (by rw [List.length_set]; have := HF.out.2.2.1; omega) y) ((Below.refl _ _).alloc (Nat.le_refl _) ob))
            have hsq := hb2.size
            have HBP := Lib.hid (fun ob => (((((hb2.setCell (p := ⟨g, v * 2, none⟩) hgq1 (.int .i64 x.key)).setCell (p := ⟨g, v * 2 + 1, none⟩) hgq1 (.int .i64 x.tag)).setCell (p := ⟨g, (v + 1) * 2, none⟩) hgq1 (.int .i64 y.key)).setCell (p := ⟨g, (v + 1) * 2 + 1, none⟩) hgq1 (.int .i64 y.tag)).alloc (by simpa using hsq) ob))
            subst hwh
            clear hbh hBh ho2 hb2
            go_wp2_with fail
            clear cc0 cc1 cc2 cc3 d0 d1 d2 d3 m0 m1 f1
            go_roundg (gk - 1)
            case measure => omega
            case rel => exact ⟨v, by omega, by omega, by go_num, HE.out, HPP.out _, HBP.out _⟩
          | false =>
            have hz1 : ¬ x.key < y.key := of_decide_eq_false HL.out.symm
            have HE := Lib.hid (show pos ltR x L L.length = v + 1 by rw [HP.out, HS.out rfl])
            go_wp2_with fail
            go_quiet (fail)
            have HN := Lib.hid (HIN.out (v + 1) _ HE.out (own_drewN ho nq))
            have hw2 := below_drewN hw nq
            go_wp2
            go_roundg (zs.length - k)
            case measure => omega
            case rel => exact ⟨k + 1, by omega, by omega, by omega, by go_num, HN.out, hw2⟩
    · obtain rfl : k = zs.length := by omega
      have HE := Lib.hid (show stab ltR (zs.take zs.length) ++ zs.drop zs.length = stab ltR zs by rw [List.take_length, List.drop_length, List.append_nil])
      rw [HE.out] at ho
      go_wp2
      go_ret
      exact ⟨_, rfl, ho, hb⟩
end Go.Proofs.Ytgffabjajbgbjaa.stabR
