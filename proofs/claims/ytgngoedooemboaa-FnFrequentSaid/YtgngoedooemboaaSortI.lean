/- Sorted copies of a list of integers, the program's (slices.Sort) and the reference's (exchanges). Condition: at most 2^20 elements. -/
import Derived.Test.YtgngoedooemboaaSrtLaw
import Derived.Test.YtgngoedooemboaaCopyInt
import Derived.Test.YtgngoedooemboaaShelf
import Derived.Sort.OwnSortedInts
set_option linter.unusedVariables false
set_option linter.unusedSimpArgs false
namespace Go.Proofs.Ytgngoedooemboaa.srt
open Go.RowKit Go.Proofs.Ytgngoedooemboaa.mem

/-- slices.Sort on a row of the call's own -/
theorem sort_own (zs : List Int) (v : Value) (w : World) (base : Nat) (hn : zs.length ≤ 1048576) (ho : w.ownsRow base 3 1 v zs.length (ints zs)) :
    Calls Try.prog 87 #[v] w fun e w' => e = .returned (.tuple #[]) ∧ w'.ownsRow base 3 1 v zs.length (ints (srt zs)) ∧ w.grownBy w' v.ownBlock := by
  rcases ho.2 with ⟨rfl, h0⟩ | ⟨g, cap, cur, rfl, hb, hg, h1, h2, h3, h4⟩
  · have : zs = [] := List.eq_nil_of_length_eq_zero h0
    subst this
    refine (Try.slices_Sort_int_none none 0 w).mono ?_
    rintro e w' ⟨rfl, rfl⟩
    exact ⟨rfl, by rw [show srt [] = [] by simp [srt]]; exact ho, World.grownBy.refl _ _⟩
  · have hH : Go.Sort.Holds (Value.int .i64) w g 0 zs.toArray := Go.holds_of_blockI hg (by rw [Nat.mul_one] at h4; first | exact h4 | exact h4.symm)
    refine (Try.slices_Sort_int g 0 cap zs w hH (Array.getElem?_eq_some_iff.1 hg).1 (by omega)).mono ?_
    rintro e w' ⟨rfl, n, os, rfl⟩
    exact ⟨rfl, by have := Go.ownsRow_sortedI (os := os) (n := n) (ts := srt zs) (by rw [srt_len]) hb hg h1 h2 h3; exact this, Go.grownBy_sortedI _⟩
set_option maxHeartbeats 400000 in
theorem impl_any (A : Option Addr) (c : Nat) (zs : List Int) (w : World) (hn : zs.length ≤ 1048576) (hr : Rd w 1 A zs.length (ints zs)) :
    Calls Try.prog 84 #[.slice A zs.length c] w fun e w' => ∃ v, e = .returned v ∧ w'.ownsRow w.heap.size 3 1 v zs.length (ints (srt zs)) ∧ Below w.heap.size w w' := by
  go_enter Try.func84, Try.ntmps84
  go_wp2_with fail
  refine (copyInt.impl_any A c zs w hn hr).mono ?_
  rintro e w1 ⟨v, rfl, ho, hb1⟩
  go_wp2_with fail
  refine (sort_own zs v w1 w.heap.size hn ho).mono ?_
  rintro e w2 ⟨rfl, ho2, hg⟩
  have hb2 := below_push hb1 hb1.size hg ho
  go_wp2
  go_ret
  exact ⟨_, rfl, ho2, hb2⟩
theorem ints_getD (l : List Int) (k : Nat) (h : k < l.length) : (ints l)[k]? = some (.int .i64 (l.getD k 0)) := by
  simp [ints, h]
theorem ints_set (l : List Int) (k : Nat) (z : Int) : (ints l).set k (.int .i64 z) = ints (l.set k z) := by
  simp [ints, List.map_set]
set_option maxRecDepth 100000 in
set_option maxHeartbeats 2000000 in
theorem spec_any (A : Option Addr) (c : Nat) (zs : List Int) (w : World) (hn : zs.length ≤ 1048576) (hr : Rd w 1 A zs.length (ints zs)) :
    Calls Try.prog 82 #[.slice A zs.length c] w fun e w' => ∃ v, e = .returned v ∧ w'.ownsRow w.heap.size 3 1 v zs.length (ints (srt zs)) ∧ Below w.heap.size w w' := by
  go_enter Try.func82, Try.ntmps82
  go_wp2_with fail
  refine (copyInt.spec_any A c zs w hn hr).mono ?_
  rintro e w1 ⟨v, rfl, ho, hb1⟩
  obtain ⟨A1, c1, rfl, hc1, hc2, _⟩ := own_form ho
  go_wp2
  go_loopg [4] (zs.length + 1) (fun f i wr => ∃ (i' : Nat) (l : List Int), i = .int .i64 ((i' : Int) + 1) ∧ zs.length < i' + f ∧ (i' + 1 ≤ zs.length ∨ i' = 0) ∧ Inv zs l i' 0 ∧ wr.ownsRow w.heap.size 3 1 (.slice A1 zs.length c1) zs.length (ints l) ∧ Below w.heap.size w wr)
  case atStart => exact ⟨0, zs, rfl, by omega, Or.inr rfl, inv_start zs, ho, hb1⟩
  case round =>
    obtain ⟨i, l, rfl, hf, hi, hI, ho, hb⟩ := hrel
    have HI := Lib.hid hI
    clear hI
    by_cases hlt : i + 1 < zs.length
    · obtain ⟨wo, hwo⟩ : ∃ wo : World, wo = wr := ⟨_, rfl⟩
      subst hwo
      have HN := Lib.hid (inv_next HI.out)
      have HST := Lib.hid (And.intro ho hb)
      clear ho hb
      obtain ⟨g, rfl, hg1, hg2⟩ := own_addr HST.out.1 (by omega)
      have hlr := HI.out.1
      have HLR := Lib.hid hlr
      clear hlr
      go_wp2
      go_loopw [5] (fun k wi => ∃ (k' : Nat) (l : List Int), k = .int .i64 (k' : Int) ∧ k' ≤ i + 1 ∧ Inv zs l (i + 1) k' ∧ wi.ownsRow w.heap.size 3 1 (.slice (some ⟨g, 0, none⟩) zs.length c1) zs.length (ints l) ∧ Below w.heap.size w wi) (fun k _ => (intOf k).toNat)
      case atStart => exact ⟨i + 1, l, by go_num, by omega, HN.out, HST.out.1, HST.out.2⟩
      case round =>
        obtain ⟨k, l, rfl, hk, hI, ho, hb⟩ := hrel
        have HI := Lib.hid hI
        have HL := Lib.hid hI.1
        clear hI
        by_cases h0 : k = 0
        · subst h0
          go_wp2_with fail
          go_quiet (fail)
          go_wp2
          go_roundg (gk - 1)
          case rel => exact ⟨i + 1, l, by go_num, by omega, by omega, HI.out, own_drewN ho _, below_drewN hb _⟩
          case measure => omega
        · obtain ⟨m, rfl⟩ : ∃ m, k = m + 1 := ⟨k - 1, by omega⟩
          have hc1 := own_cell ho (ints_getD l m (by rw [HL.out]; omega))
          have hc2 := own_cell ho (ints_getD l (m + 1) (by rw [HL.out]; omega))
          rw [show (((m + 1 : Nat)) : Int) = (m : Int) + 1 by omega]
          have q1 : (m : Int) < (zs.length : Int) := by omega
          have q2 : (m : Int) + 1 < (zs.length : Int) := by omega
          have HSW := Lib.hid (fun (h : l.getD (m + 1) 0 < l.getD m 0) => inv_swap HI.out (by omega) hk (by rw [HL.out]; omega) h)
          have HSTP := Lib.hid (fun (h : l.getD m 0 ≤ l.getD (m + 1) 0) => inv_stop HI.out (Or.inr h))
          have HPUT := Lib.hid (fun (W : World) (h : W.ownsRow w.heap.size 3 1 (.slice (some ⟨g, 0, none⟩) zs.length c1) zs.length (ints l)) => show ((W.setCell ⟨g, m, none⟩ (.int .i64 (l.getD (m + 1) 0))).setCell ⟨g, m + 1, none⟩ (.int .i64 (l.getD m 0))).ownsRow w.heap.size 3 1 (.slice (some ⟨g, 0, none⟩) zs.length c1) zs.length (ints (sw l (m + 1))) from by
            have h1 := own_put h (i := m) (by rw [len_ints, HL.out]; omega) (.int .i64 (l.getD (m + 1) 0))
            rw [ints_set] at h1
            have h2 := own_put h1 (i := m + 1) (by rw [len_ints, List.length_set, HL.out]; omega) (.int .i64 (l.getD m 0))
            rw [ints_set] at h2
            exact h2)
          have hf1 := own_thaw ho m
          have hf2 := own_thaw ho (m + 1)
          clear h0
          generalize l.getD m 0 = x at hc1 HSW HSTP HPUT
          generalize l.getD (m + 1) 0 = y at hc2 HSW HSTP HPUT
          by_cases hxy : y < x
          · have HS := Lib.hid (HSW.out hxy)
            have hbx := fun u1 u2 n => ((below_drewN hb n).setCell (p := ⟨g, m, none⟩) hg1 u1).setCell (p := ⟨g, m + 1, none⟩) hg1 u2
            have HBX := Lib.hid hbx
            clear hbx
            go_wp2_with fail
            go_quiet (fail)
            go_wp2
            go_roundw
            case rel => exact ⟨m, sw l (m + 1), by go_num, by omega, HS.out, HPUT.out _ (own_drewN ho _), HBX.out _ _ _⟩
            case measure => simp [intOf]
          · have HS := Lib.hid (HSTP.out (by omega))
            go_wp2_with fail
            go_quiet (fail)
            go_wp2
            go_roundg (gk - 1)
            case rel => exact ⟨i + 1, l, by go_num, by omega, by omega, HS.out, own_drewN ho _, below_drewN hb _⟩
            case measure => omega
    · have HE := Lib.hid (inv_end HI.out (by rw [HI.out.1]; omega))
      go_wp2
      go_ret
      exact ⟨_, rfl, by rw [← HE.out]; exact ho, hb⟩
end Go.Proofs.Ytgngoedooemboaa.srt
