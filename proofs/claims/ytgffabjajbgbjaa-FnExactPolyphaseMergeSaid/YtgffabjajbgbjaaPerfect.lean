/- IsPerfectState, the program's and the reference's: phases lead from the counts to a single run. No condition beyond 2^20 elements. -/
import Derived.Test.YtgffabjajbgbjaaPhase
import Derived.Test.YtgffabjajbgbjaaAllInt
import Derived.Test.YtgffabjajbgbjaaCopyInt
import Derived.Test.YtgffabjajbgbjaaIn
import Derived.Deep.LoopGhost
set_option linter.unusedVariables false
set_option linter.unusedSimpArgs false
namespace Go.Proofs.Ytgffabjajbgbjaa.perfect
open Go.RowKit Go.Proofs.Ytgffabjajbgbjaa.mem Go.Proofs.Ytgffabjajbgbjaa.sums Go.Proofs.Ytgffabjajbgbjaa.phases
open Go.Proofs.Ytgffabjajbgbjaa.ins (inB inB_true inB_false inB_iff)

/-! ### the plain law -/
def S (f : Nat → Int) : Nat → Int
  | 0 => 0
  | n + 1 => S f n + f n
theorem S_range (f : Nat → Int) : ∀ n, ((List.range n).map f).sum = S f n
  | 0 => rfl
  | n + 1 => by rw [List.range_succ, List.map_append, List.sum_append, S_range f n]; simp [S]
theorem S_sum (l : List Int) : ∀ k, k ≤ l.length → (l.take k).sum = S (fun i => l.getD i 0) k
  | 0, _ => by simp [S]
  | k + 1, h => by
    rw [take_step l k (by omega), S_sum l k (by omega)]
    simp only [S]; rw [getD_at l (by omega)]
theorem nxt_S {l : List Int} (ha : able l = true) : ∀ k : Nat, k ≤ l.length →
    S (fun i => (nxt l).getD i 0) k = S (fun i => l.getD i 0) k - (k : Int) * mz l l.length + (if ez l l.length < (k : Int) then 2 * mz l l.length else 0)
  | 0, _ => by
    have hn : nz l l.length = 1 := by simpa [able] using ha
    have := ez_bd l l.length
    rw [if_neg (by omega)]
    simp [S]
  | k + 1, h => by
    have hn : nz l l.length = 1 := by simpa [able] using ha
    have ih := nxt_S ha k (by omega)
    have hz := ez_zero l.length hn k (by omega)
    have hm : ((k + 1 : Nat) : Int) * mz l l.length = (k : Int) * mz l l.length + mz l l.length := by rw [Int.natCast_add, Int.add_mul]; simp
    simp only [S]
    rw [ih, nxt_at l (show k < l.length by omega), hm]
    generalize (k : Int) * mz l l.length = q
    by_cases e : (k : Int) = ez l l.length
    · have h0 := hz.2 e
      rw [if_pos e, if_neg (by omega), if_pos (by omega), h0]; omega
    · rw [if_neg e]
      by_cases h2 : ez l l.length < (k : Int)
      · rw [if_pos h2, if_pos (by omega)]; omega
      · rw [if_neg h2, if_neg (by omega)]; omega
theorem sum_nn {l : List Int} (h : Tidy l) : ∀ k, 0 ≤ S (fun i => l.getD i 0) k
  | 0 => by simp [S]
  | k + 1 => by have := sum_nn h k; have := h k; simp only [S]; omega
theorem sum_S (l : List Int) : l.sum = S (fun i => l.getD i 0) l.length := by rw [← S_sum l l.length (Nat.le_refl _), List.take_length]
theorem mz_pos {l : List Int} (h : Tidy l) (ha : able l = true) (h3 : 3 ≤ l.length) : 0 < mz l l.length := by
  have hn : nz l l.length = 1 := by simpa [able] using ha
  by_cases h0 : l.getD 0 0 = 0
  · have e0 := (ez_zero l.length hn 0 (by omega)).1 h0
    have h1 : l.getD 1 0 ≠ 0 := fun h1 => by
      have := (ez_zero l.length hn 1 (by omega)).1 h1
      omega
    exact (mz_le h l.length 1 (by omega) h1).1
  · exact (mz_le h l.length 0 (by omega) h0).1
theorem nxt_sum {l : List Int} (h : Tidy l) (ha : able l = true) (h3 : 3 ≤ l.length) : 0 ≤ (nxt l).sum ∧ (nxt l).sum < l.sum := by
  have hp := mz_pos h ha h3
  have hb := ez_bd l l.length
  have hg := nxt_good h ha
  have h0 := sum_nn hg (nxt l).length
  rw [← sum_S] at h0
  refine ⟨h0, ?_⟩
  rw [sum_S (nxt l), sum_S l, nxt_len, nxt_S ha l.length (Nat.le_refl _), if_pos (by omega)]
  have hm : (3 : Int) * mz l l.length ≤ (l.length : Int) * mz l l.length := Int.mul_le_mul_of_nonneg_right (by omega) (by omega)
  omega
def perf : Nat → List Int → Bool
  | 0, _ => false
  | f + 1, l => if l.sum = 1 then true else if able l = true then perf f (nxt l) else false
def key (x : Int) : Bool := inB x 0 100000
def pstate (l : List Int) : Bool := inB l.length 3 8 && (l.all key && perf (l.sum.toNat + 1) l)
theorem good_of {l : List Int} (h : l.all key = true) : Tidy l := by
  intro i
  rw [List.getD_eq_getElem?_getD]
  cases hi : l[i]? with
  | none => simp
  | some z =>
    have := List.all_eq_true.1 h z (List.mem_of_getElem? hi)
    have := inB_iff.1 this
    simp; omega
theorem small_of {l : List Int} (h : Tidy l) : Small l := by
  intro z hz
  obtain ⟨i, hi, rfl⟩ := List.mem_iff_getElem.1 hz
  have := h i
  rwa [getD_at l hi] at this

/-! ### the walks -/
set_option maxHeartbeats 400000 in
theorem lit_any (x : Int) (w : World) : Calls Try.prog 65 #[.int .i64 x] w fun e w' => e = .returned (.bool (key x)) ∧ w = w' := by
  go_enter Try.func65, Try.ntmps65
  go_wp2_with fail
  refine (ins.impl_any _ _ _ _).mono ?_
  rintro e w1 ⟨rfl, rfl⟩
  go_wp2
  go_ret
  exact ⟨rfl, rfl⟩

set_option maxRecDepth 100000 in
set_option maxHeartbeats 1000000 in
theorem impl_any (A : Option Addr) (c : Nat) (l : List Int) (w : World) (hn : l.length ≤ 1048576) (hr : Rd w 1 A l.length (ints l)) :
    Calls Try.prog 27 #[.slice A l.length c] w fun e w' => e = .returned (.bool (pstate l)) ∧ Below w.heap.size w w' := by
  by_cases h1 : inB l.length 3 8 = true
  · have hlen := inB_iff.1 h1
    by_cases h2 : l.all key = true
    · have HP := Lib.hid (show pstate l = perf (l.sum.toNat + 1) l by rw [pstate, h1, h2]; rfl)
      have hg := good_of h2
      have HG := Lib.hid hg
      have H1 := Lib.hid h1
      have H2 := Lib.hid h2
      have hs := sum_nn hg l.length
      rw [← sum_S] at hs
      have HS := Lib.hid hs
      clear h1 h2 hg hs
      rw [HP.out]
      go_enter Try.func27, Try.ntmps27
      go_wp2_with (first | (go_at_call 53; refine (ins.impl_any _ _ _ _).mono ?_; rintro e w' ⟨rfl, rfl⟩; rw [H1.out]) | (go_at_call 64; refine (allInt.all_any A c l 65 key w (by unfold maxLen; omega) hr ⟨fun _ _ => rfl, fun s _ W _ => (lit_any s W).mono (by rintro e w' ⟨rfl, rfl⟩; exact ⟨rfl, Below.refl _ _⟩)⟩).mono ?_; rintro e w1 ⟨rfl, hb1⟩; rw [H2.out]) | go_in)
      have hr1 := hr.below hb1
      go_loopg [0] (l.sum.toNat + 1) (fun f v wr => ∃ (B : Option Addr) (d : Nat) (m : List Int), v = .slice B m.length d ∧ m.length ≤ l.length ∧ l.length ≤ m.length ∧ Rd wr 1 B m.length (ints m) ∧ Tidy m ∧ 0 ≤ m.sum ∧ m.sum < f ∧
        perf (l.sum.toNat + 1) l = perf f m ∧ Below w.heap.size w wr)
      case atStart => exact ⟨A, c, l, rfl, Nat.le_refl _, Nat.le_refl _, hr1, HG.out, HS.out, by have := HS.out; omega, rfl, hb1⟩
      case round =>
        obtain ⟨B, d, m, rfl, hl1, hl2, hrm, hgm, hs0, hsf, hpf, hb⟩ := hrel
        have HGM := Lib.hid hgm
        have HPF := Lib.hid hpf
        have HS2 := Lib.hid (small_of hgm)
        have HLT := Lib.hid (show able m = true → 0 ≤ (nxt m).sum ∧ (nxt m).sum < m.sum from fun h => nxt_sum hgm h (by omega))
        clear hgm hpf
        obtain ⟨g, rfl⟩ : ∃ g, gk = g + 1 := ⟨gk - 1, by omega⟩
        have HE := Lib.hid (show perf (g + 1) m = if m.sum = 1 then true else if able m = true then perf g (nxt m) else false from rfl)
        go_wp2_with fail
        refine (sums.impl_any B d m _ (by omega) HS2.out hrm).mono ?_
        rintro e w2 ⟨rfl, rfl⟩
        by_cases hs1 : m.sum = 1
        · have HR := Lib.hid (show perf (l.sum.toNat + 1) l = true by rw [HPF.out, HE.out, if_pos hs1])
          rw [hs1]
          clear hs1
          go_wp2
          go_ret
          exact ⟨ret_bool HR.out.symm, hb⟩
        · have q1 : (m.sum != 1) = true := by simpa using hs1
          have HE2 := Lib.hid (show perf (g + 1) m = if able m = true then perf g (nxt m) else false by rw [HE.out, if_neg hs1])
          clear hs1
          go_wp2_with fail
          refine (impl_phase B d m _ (by omega) HGM.out hrm).mono ?_
          rintro e w2 ⟨x, y, rfl, hxy, rfl⟩
          by_cases ha : able m = true
          · obtain ⟨rfl, rfl⟩ := hxy ha
            have HA := Lib.hid ha
            rw [ha]
            clear ha hxy
            go_wp2_with fail
            refine (impl_after B d m _ (by omega) HGM.out HA.out hrm).mono ?_
            rintro e w3 ⟨v, rfl, ho, hb3⟩
            obtain ⟨B3, d3, rfl, _, _, hr3⟩ := own_form ho
            have hb4 := below_step hb hb3
            have HNL := Lib.hid (nxt_len m)
            clear ho
            go_wp2
            go_roundg g
            case measure => omega
            case rel =>
              refine ⟨B3, d3, nxt m, rfl, by rw [HNL.out]; omega, by rw [HNL.out]; omega, hr3, nxt_good HGM.out HA.out, (HLT.out HA.out).1, ?_, ?_, hb4⟩
              · have := (HLT.out HA.out).2; omega
              · rw [HPF.out, HE2.out, if_pos HA.out]
          · have ha2 : able m = false := by simpa using ha
            have HR := Lib.hid (show perf (l.sum.toNat + 1) l = false by rw [HPF.out, HE2.out, if_neg ha])
            rw [ha2]
            clear ha ha2 hxy
            go_wp2
            go_ret
            exact ⟨ret_bool HR.out.symm, hb⟩
    · have H1 := Lib.hid h1
      have h2' : l.all key = false := by simpa using h2
      have HP := Lib.hid (show pstate l = false by rw [pstate, h1, h2']; rfl)
      have H2 := Lib.hid h2'
      clear h1 h2 h2'
      rw [HP.out]
      go_enter Try.func27, Try.ntmps27
      go_wp2_with (first | (go_at_call 53; refine (ins.impl_any _ _ _ _).mono ?_; rintro e w' ⟨rfl, rfl⟩; rw [H1.out]) | (go_at_call 64; refine (allInt.all_any A c l 65 key w (by unfold maxLen; omega) hr ⟨fun _ _ => rfl, fun s _ W _ => (lit_any s W).mono (by rintro e w' ⟨rfl, rfl⟩; exact ⟨rfl, Below.refl _ _⟩)⟩).mono ?_; rintro e w1 ⟨rfl, hb1⟩; rw [H2.out]) | go_in)
      go_ret
      exact ⟨rfl, hb1⟩
  · have h1' : inB l.length 3 8 = false := by simpa using h1
    have HP := Lib.hid (show pstate l = false by rw [pstate, h1']; rfl)
    have H1 := Lib.hid h1'
    clear h1 h1'
    rw [HP.out]
    go_enter Try.func27, Try.ntmps27
    go_wp2_with (first | (go_at_call 53; refine (ins.impl_any _ _ _ _).mono ?_; rintro e w' ⟨rfl, rfl⟩; rw [H1.out]) | go_in)
    go_ret
    exact ⟨rfl, Below.refl _ _⟩

set_option maxRecDepth 100000 in
set_option maxHeartbeats 1000000 in
theorem spec_any (A : Option Addr) (c : Nat) (l : List Int) (w : World) (hn : l.length ≤ 1048576) (hr : Rd w 1 A l.length (ints l)) :
    Calls Try.prog 29 #[.slice A l.length c] w fun e w' => e = .returned (.bool (pstate l)) ∧ Below w.heap.size w w' := by
  by_cases h1 : inB l.length 3 8 = true
  · have hlen := inB_iff.1 h1
    have HP := Lib.hid (show pstate l = (l.all key && perf (l.sum.toNat + 1) l) by rw [pstate, h1]; rfl)
    have H1 := Lib.hid h1
    clear h1
    rw [HP.out]
    go_enter Try.func29, Try.ntmps29
    go_wp2_with fail
    refine (ins.spec_any _ _ _ _).mono ?_
    rintro e w' ⟨rfl, rfl⟩
    rw [H1.out]
    go_wp2
    go_loop [3] (fun i => ∃ k : Nat, k ≤ l.length ∧ i = .int .i64 (k : Int) ∧ (l.take k).all key = true) (fun i => l.length - (intOf i).toNat)
    case atStart => exact ⟨0, by omega, rfl, by simp⟩
    case round =>
      obtain ⟨k, hk, rfl, hall⟩ := hrel
      have HALL := Lib.hid hall
      clear hall
      by_cases hlt : k < l.length
      · obtain ⟨b, off, rfl, hc⟩ := hr.int hlt
        have HT := Lib.hid (show (l.take (k + 1)).all key = key l[k] by
          rw [List.take_add_one, List.getElem?_eq_getElem hlt, List.all_append, HALL.out]; simp)
        have HM := Lib.hid (List.getElem_mem hlt)
        generalize l[k] = x at hc HT HM
        go_wp2_with fail
        refine (ins.spec_any _ _ _ _).mono ?_
        rintro e w' ⟨rfl, rfl⟩
        by_cases hx : inB x 0 100000 = true
        · have HX := Lib.hid hx
          rw [hx]
          clear hx
          go_wp2
          go_round
          case rel => exact ⟨k + 1, by omega, by go_num, by rw [HT.out]; exact HX.out⟩
          case measure => simp [intOf]; omega
        · have hx' : inB x 0 100000 = false := by simpa using hx
          have HR := Lib.hid (show l.all key = false by
            rw [List.all_eq_false]; exact ⟨x, HM.out, by rw [key, hx']; simp⟩)
          rw [hx']
          clear hx hx'
          go_wp2
          go_ret
          exact ⟨ret_bool (by rw [HR.out]; rfl), Below.refl _ _⟩
      · have H2 := Lib.hid (show l.all key = true by have := HALL.out; rwa [List.take_of_length_le (by omega)] at this)
        have hg := good_of H2.out
        have HG := Lib.hid hg
        have hs := sum_nn hg l.length
        rw [← sum_S] at hs
        have HS := Lib.hid hs
        clear hg hs
        go_wp2_with fail
        refine (copyInt.spec_any A c l w hn hr).mono ?_
        rintro e w1 ⟨v, rfl, ho, hb1⟩
        obtain ⟨A1, c1, rfl, _, _, hr1⟩ := own_form ho
        clear ho
        go_wp2
        go_loopg [4] (l.sum.toNat + 1) (fun f v wr => ∃ (B : Option Addr) (d : Nat) (m : List Int), v = .slice B m.length d ∧ m.length ≤ l.length ∧ l.length ≤ m.length ∧ Rd wr 1 B m.length (ints m) ∧ Tidy m ∧ 0 ≤ m.sum ∧ m.sum < f ∧
          perf (l.sum.toNat + 1) l = perf f m ∧ Below w.heap.size w wr)
        case atStart => exact ⟨A1, c1, l, rfl, Nat.le_refl _, Nat.le_refl _, hr1, HG.out, HS.out, by have := HS.out; omega, rfl, hb1⟩
        case round =>
          obtain ⟨B, d, m, rfl, hl1, hl2, hrm, hgm, hs0, hsf, hpf, hb⟩ := hrel
          have HGM := Lib.hid hgm
          have HPF := Lib.hid hpf
          have HS2 := Lib.hid (small_of hgm)
          have HLT := Lib.hid (show able m = true → 0 ≤ (nxt m).sum ∧ (nxt m).sum < m.sum from fun h => nxt_sum hgm h (by omega))
          clear hgm hpf
          obtain ⟨g, rfl⟩ : ∃ g, gk = g + 1 := ⟨gk - 1, by omega⟩
          have HE := Lib.hid (show perf (g + 1) m = if m.sum = 1 then true else if able m = true then perf g (nxt m) else false from rfl)
          go_wp2_with fail
          refine (sums.spec_any B d m _ (by omega) HS2.out hrm).mono ?_
          rintro e w2 ⟨rfl, rfl⟩
          by_cases hs1 : m.sum = 1
          · have HR := Lib.hid (show perf (l.sum.toNat + 1) l = true by rw [HPF.out, HE.out, if_pos hs1])
            rw [hs1]
            clear hs1
            go_wp2
            go_ret
            exact ⟨ret_bool (by rw [H2.out, HR.out]; rfl), hb⟩
          · have q1 : (m.sum != 1) = true := by simpa using hs1
            have HE2 := Lib.hid (show perf (g + 1) m = if able m = true then perf g (nxt m) else false by rw [HE.out, if_neg hs1])
            clear hs1
            go_wp2_with fail
            refine (spec_empty B d m _ (by omega) hrm).mono ?_
            rintro e w2 ⟨rfl, rfl⟩
            by_cases ha : able m = true
            · have HA := Lib.hid ha
              have hez := ez_bd m m.length
              have hn1 : nz m m.length = 1 := by simpa [able] using ha
              have hz1 : 0 ≤ ez m m.length := hez.2.2.2 (by omega)
              have HEM := Lib.hid (show emp m = ez m m.length by rw [emp, if_pos ha])
              rw [HEM.out]
              clear ha hez hn1
              go_wp2_with fail
              refine (spec_phase B d m _ (by omega) HGM.out HA.out hrm).mono ?_
              rintro e w3 ⟨v, rfl, ho, hb3⟩
              obtain ⟨B3, d3, rfl, _, _, hr3⟩ := own_form ho
              have hb4 := below_step hb hb3
              have HNL := Lib.hid (nxt_len m)
              clear ho
              go_wp2
              go_roundg g
              case measure => omega
              case rel =>
                refine ⟨B3, d3, nxt m, rfl, by rw [HNL.out]; omega, by rw [HNL.out]; omega, hr3, nxt_good HGM.out HA.out, (HLT.out HA.out).1, ?_, ?_, hb4⟩
                · have := (HLT.out HA.out).2; omega
                · rw [HPF.out, HE2.out, if_pos HA.out]
            · have HR := Lib.hid (show perf (l.sum.toNat + 1) l = false by rw [HPF.out, HE2.out, if_neg ha])
              have HEM := Lib.hid (show emp m = -1 by rw [emp, if_neg ha])
              rw [HEM.out]
              clear ha
              go_wp2
              go_ret
              exact ⟨ret_bool (by rw [H2.out, HR.out]; rfl), hb⟩
  · have h1' : inB l.length 3 8 = false := by simpa using h1
    have HP := Lib.hid (show pstate l = false by rw [pstate, h1']; rfl)
    have H1 := Lib.hid h1'
    clear h1 h1'
    rw [HP.out]
    go_enter Try.func29, Try.ntmps29
    go_wp2_with fail
    refine (ins.spec_any _ _ _ _).mono ?_
    rintro e w' ⟨rfl, rfl⟩
    rw [H1.out]
    go_wp2
    go_ret
    exact ⟨rfl, Below.refl _ _⟩
end Go.Proofs.Ytgffabjajbgbjaa.perfect
