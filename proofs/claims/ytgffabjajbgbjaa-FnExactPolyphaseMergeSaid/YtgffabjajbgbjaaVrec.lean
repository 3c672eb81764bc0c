/- Valid lists of records, the program's and the reference's. No condition beyond 2^20 elements. -/
import Derived.Test.YtgffabjajbgbjaaAllRec
import Derived.Test.YtgffabjajbgbjaaIn
import Derived.Test.YtgffabjajbgbjaaList
set_option linter.unusedVariables false
set_option linter.unusedSimpArgs false
namespace Go.Proofs.Ytgffabjajbgbjaa.vrecs
open Go.RowKit Go.Proofs.Ytgffabjajbgbjaa.mem
open Go.Proofs.Ytgffabjajbgbjaa.ins (inB inB_true inB_false inB_iff)

def recB (r : Rec) : Bool := inB r.key (-100000) 100000 && inB r.tag 0 999
def vrec (zs : List Rec) : Bool := decide (zs.length ≤ 64) && zs.all recB
theorem vrec_len {zs : List Rec} (h : vrec zs = true) : zs.length ≤ 64 := by simp only [vrec, Bool.and_eq_true, decide_eq_true_eq] at h; exact h.1
theorem vrec_mem {zs : List Rec} (h : vrec zs = true) : ∀ z ∈ zs, (-100000 ≤ z.key ∧ z.key ≤ 100000) ∧ 0 ≤ z.tag ∧ z.tag ≤ 999 := by
  simp only [vrec, Bool.and_eq_true, decide_eq_true_eq, List.all_eq_true] at h
  intro z hz
  have := h.2 z hz
  simp only [recB, Bool.and_eq_true] at this
  exact ⟨inB_iff.1 this.1, inB_iff.1 this.2⟩
theorem vrec_long {zs : List Rec} (h : ¬ zs.length ≤ 64) : vrec zs = false := by simp [vrec, h]
theorem vrec_short {zs : List Rec} (h : zs.length ≤ 64) : vrec zs = zs.all recB := by simp [vrec, h]
theorem vrec_not {zs : List Rec} {x : Rec} (h : x ∈ zs) (h2 : recB x = false) : vrec zs = false := by
  have : zs.all recB = false := by rw [List.all_eq_false]; exact ⟨x, h, by rw [h2]; simp⟩
  rw [vrec, this, Bool.and_false]
set_option maxRecDepth 100000 in
set_option maxHeartbeats 1000000 in
theorem rec_any (x y : Int) (w : World) : Calls Try.prog 113 #[.agg #[.int .i64 x, .int .i64 y]] w fun e w' => e = .returned (.bool (recB ⟨x, y⟩)) ∧ Below w.heap.size w w' := by
  have hb0 : ∀ o, Below w.heap.size w (w.alloc o) := fun o => (Below.refl _ _).alloc (Nat.le_refl _) o
  have HB := Lib.hid hb0
  clear hb0
  by_cases h : lists.key x = true
  · have HR := Lib.hid (show recB ⟨x, y⟩ = inB y 0 999 by
      have : inB x (-100000) 100000 = true := h
      rw [recB]; simp only [this, Bool.true_and])
    have HK := Lib.hid (fun W => lists.key_any x W)
    rw [h] at HK
    clear h
    go_enter Try.func113, Try.ntmps113
    go_wp2_with fail
    refine (HK.out _).mono ?_
    rintro e w1 ⟨rfl, rfl⟩
    go_wp2_with fail
    refine (ins.impl_any _ _ _ _).mono ?_
    rintro e w1 ⟨rfl, rfl⟩
    go_wp2
    go_ret
    exact ⟨ret_bool HR.out.symm, HB.out _⟩
  · have h' : lists.key x = false := by simpa using h
    have HR := Lib.hid (show recB ⟨x, y⟩ = false by
      have : inB x (-100000) 100000 = false := h'
      rw [recB]; simp only [this, Bool.false_and])
    have HK := Lib.hid (fun W => lists.key_any x W)
    rw [h'] at HK
    clear h h'
    go_enter Try.func113, Try.ntmps113
    go_wp2_with fail
    refine (HK.out _).mono ?_
    rintro e w1 ⟨rfl, rfl⟩
    go_wp2
    go_ret
    exact ⟨ret_bool HR.out.symm, HB.out _⟩
set_option maxRecDepth 100000 in
set_option maxHeartbeats 1000000 in
theorem impl_any (A : Option Addr) (c : Nat) (zs : List Rec) (w : World) (hn : zs.length ≤ 1048576) (hr : Rd w 2 A zs.length (recs zs)) :
    Calls Try.prog 103 #[.slice A zs.length c] w fun e w' => e = .returned (.bool (vrec zs)) ∧ Below w.heap.size w w' := by
  by_cases h : zs.length ≤ 64
  · have HV := Lib.hid (vrec_short h)
    go_enter Try.func103, Try.ntmps103
    go_wp2_with fail
    refine (allRec.all_any A c zs 113 recB w (by unfold maxLen; omega) hr ⟨fun _ _ => rfl, fun s _ W _ => rec_any s.key s.tag W⟩).mono ?_
    rintro e w' ⟨rfl, hb⟩
    go_wp2
    go_ret
    exact ⟨ret_bool (by rw [HV.out]), hb⟩
  · have HV := Lib.hid (vrec_long h)
    go_enter Try.func103, Try.ntmps103
    go_wp2
    go_ret
    exact ⟨ret_bool (by rw [HV.out]), Below.refl _ _⟩
set_option maxRecDepth 100000 in
set_option maxHeartbeats 1000000 in
theorem spec_any (A : Option Addr) (c : Nat) (zs : List Rec) (w : World) (hn : zs.length ≤ 1048576) (hr : Rd w 2 A zs.length (recs zs)) :
    Calls Try.prog 74 #[.slice A zs.length c] w fun e w' => e = .returned (.bool (vrec zs)) ∧ w = w' := by
  go_enter Try.func74, Try.ntmps74
  go_wp2
  go_loop [3] (fun i => ∃ k : Nat, k ≤ zs.length ∧ k ≤ 65 ∧ i = .int .i64 k ∧ (zs.take k).all recB = true) (fun i => zs.length - (intOf i).toNat)
  case atStart => exact ⟨0, by omega, by omega, rfl, by simp⟩
  case round =>
    obtain ⟨k, hk, hk2, rfl, hj⟩ := hrel
    have HJ := Lib.hid hj
    clear hj
    by_cases hlt : k < zs.length
    · by_cases h64 : k ≤ 64
      · obtain ⟨b, off, rfl, hc0, hc1⟩ := hr.rec hlt
        have HT := Lib.hid (show (zs.take (k + 1)).all recB = recB zs[k] by
          rw [List.take_add_one, List.getElem?_eq_getElem hlt, List.all_append, HJ.out]; simp)
        have HM := Lib.hid (List.getElem_mem hlt)
        generalize zs[k] = x at hc0 hc1 HT HM
        have HRB := Lib.hid (show recB x = (inB x.key (-100000) 100000 && inB x.tag 0 999) from rfl)
        by_cases h1 : inB x.key (-100000) 100000 = true
        · by_cases h2 : inB x.tag 0 999 = true
          · have HX := Lib.hid (show recB x = true by rw [HRB.out, h1, h2]; rfl)
            go_wp2_with fail
            refine (ins.spec_any _ _ _ _).mono ?_
            rintro e w1 ⟨rfl, rfl⟩
            rw [h1]
            go_wp2_with fail
            refine (ins.spec_any _ _ _ _).mono ?_
            rintro e w1 ⟨rfl, rfl⟩
            rw [h2]
            clear h1 h2
            go_wp2
            go_round
            case rel => exact ⟨k + 1, by omega, by omega, by go_num, by rw [HT.out]; exact HX.out⟩
            case measure => simp [intOf]; omega
          · have h2' : inB x.tag 0 999 = false := by simpa using h2
            have HR := Lib.hid (vrec_not HM.out (show recB x = false by rw [HRB.out, h1, h2']; rfl))
            clear h2
            go_wp2_with fail
            refine (ins.spec_any _ _ _ _).mono ?_
            rintro e w1 ⟨rfl, rfl⟩
            rw [h1]
            go_wp2_with fail
            refine (ins.spec_any _ _ _ _).mono ?_
            rintro e w1 ⟨rfl, rfl⟩
            rw [h2']
            clear h1 h2'
            go_wp2
            go_ret
            exact ⟨ret_bool HR.out.symm, rfl⟩
        · have h1' : inB x.key (-100000) 100000 = false := by simpa using h1
          have HR := Lib.hid (vrec_not HM.out (show recB x = false by rw [HRB.out, h1']; rfl))
          clear h1
          go_wp2_with fail
          refine (ins.spec_any _ _ _ _).mono ?_
          rintro e w1 ⟨rfl, rfl⟩
          rw [h1']
          clear h1'
          go_wp2
          go_ret
          exact ⟨ret_bool HR.out.symm, rfl⟩
      · have HV := Lib.hid (vrec_long (zs := zs) (by omega))
        go_wp2
        go_ret
        exact ⟨ret_bool (by rw [HV.out]; simp; omega), rfl⟩
    · have HV := Lib.hid (show vrec zs = decide ((zs.length : Int) ≤ 64) by
        have e : zs.all recB = true := by have := HJ.out; rwa [List.take_of_length_le (by omega)] at this
        rw [vrec, e, Bool.and_true]
        exact decide_eq_decide.2 (by omega))
      go_wp2
      go_ret
      exact ⟨ret_bool (by rw [HV.out]), rfl⟩
end Go.Proofs.Ytgffabjajbgbjaa.vrecs
