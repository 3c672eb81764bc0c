/- IsValidStrings, the program's and the reference's: at most 40 strings of at most 30 bytes. No condition beyond what a Go slice can hold. -/
import Derived.Test.YtaeimdcmpjanbaaDoorAllStr
set_option linter.unusedVariables false
set_option linter.unusedSimpArgs false
namespace Go.Proofs.YtaeimdcmpjanbaaDoor.validStr
open Go.RowKit Go.Proofs.YtaeimdcmpjanbaaDoor.mem Go.Proofs.YtaeimdcmpjanbaaDoor.allStr

def short (s : ByteArray) : Bool := decide (s.size ≤ 30)
def vstr (ss : List ByteArray) : Bool := decide (ss.length ≤ 40) && ss.all short
theorem vstr_len {ss : List ByteArray} (h : vstr ss = true) : ss.length ≤ 40 := by
  simp only [vstr, Bool.and_eq_true, decide_eq_true_eq] at h; exact h.1
theorem vstr_size {ss : List ByteArray} (h : vstr ss = true) : ∀ s ∈ ss, s.size ≤ 30 := by
  simp only [vstr, Bool.and_eq_true, decide_eq_true_eq, List.all_eq_true, short] at h; exact h.2
theorem vstr_long {ss : List ByteArray} (h : ¬ ss.length ≤ 40) : vstr ss = false := by simp [vstr, h]
theorem vstr_not {ss : List ByteArray} {s : ByteArray} (h : s ∈ ss) (h2 : ¬ s.size ≤ 30) : vstr ss = false := by
  rw [← Bool.not_eq_true]; exact fun e => h2 (vstr_size e s h)
theorem vstr_all {ss : List ByteArray} (h : ss.length ≤ 40) : vstr ss = ss.all short := by simp [vstr, h]

set_option maxHeartbeats 400000 in
theorem lit_any (s : ByteArray) (w : World) (hs : s.size ≤ maxLen) :
    Calls Tryd.prog 39 #[.string s] w fun e w' => e = .returned (.bool (short s)) ∧ w = w' := by
  unfold maxLen at hs
  go_enter Tryd.func39, Tryd.ntmps39
  go_wp2
  go_ret
  exact ⟨ret_bool (by simp [short]; omega), rfl⟩

set_option maxHeartbeats 400000 in
theorem impl_any (A : Option Addr) (c : Nat) (ss : List ByteArray) (w : World) (hn : ss.length ≤ maxLen) (hs : ∀ s ∈ ss, s.size ≤ maxLen) (hr : Rd w 1 A ss.length (strs ss)) :
    Calls Tryd.prog 25 #[.slice A ss.length c] w fun e w' => e = .returned (.bool (vstr ss)) ∧ Below w.heap.size w w' := by
  have HS := Lib.hid hs
  clear hs
  by_cases h : ss.length ≤ 40
  · have HV := Lib.hid (vstr_all h)
    go_enter Tryd.func25, Tryd.ntmps25
    go_wp2_with fail
    refine (all_any A c ss 39 short w hn hr ⟨fun _ _ => rfl, fun s hs W _ => (lit_any s W (HS.out s hs)).mono ?_⟩).mono ?_
    · rintro e w' ⟨rfl, rfl⟩
      exact ⟨rfl, Below.refl _ _⟩
    rintro e w' ⟨rfl, hb⟩
    go_wp2
    go_ret
    exact ⟨ret_bool (by rw [HV.out]), hb⟩
  · have HV := Lib.hid (vstr_long h)
    unfold maxLen at hn
    go_enter Tryd.func25, Tryd.ntmps25
    go_wp2
    go_ret
    exact ⟨ret_bool (by rw [HV.out]), Below.refl _ _⟩

set_option maxHeartbeats 400000 in
theorem list_any (A : Option Addr) (c : Nat) (ss : List ByteArray) (w : World) (hn : ss.length ≤ maxLen) (hs : ∀ s ∈ ss, s.size ≤ maxLen) (hr : Rd w 1 A ss.length (strs ss)) :
    Calls Tryd.prog 23 #[.slice A ss.length c] w fun e w' => e = .returned (.bool (vstr ss)) ∧ w = w' := by
  have HS := Lib.hid hs
  clear hs
  unfold maxLen at hn
  go_enter Tryd.func23, Tryd.ntmps23
  go_wp2
  go_loop [3] (fun i => ∃ k : Nat, k ≤ ss.length ∧ k ≤ 41 ∧ i = .int .i64 k ∧ ∀ j (h : j < ss.length), j < k → ss[j].size ≤ 30) (fun i => ss.length - (intOf i).toNat)
  case atStart => exact ⟨0, by omega, by omega, rfl, fun j h h0 => absurd h0 (by omega)⟩
  case round =>
    obtain ⟨k, hk, hk2, rfl, hj⟩ := hrel
    have HJ := Lib.hid hj
    clear hj
    by_cases hlt : k < ss.length
    · by_cases h41 : k ≤ 40
      · obtain ⟨b, off, rfl, hc⟩ := hr.str hlt
        have hsz := HS.out ss[k] (List.getElem_mem hlt)
        unfold maxLen at hsz
        by_cases hlong : 30 < ss[k].size
        · have HV := Lib.hid (vstr_not (List.getElem_mem hlt) (by omega))
          go_wp2
          go_ret
          exact ⟨ret_bool (by rw [HV.out]), rfl⟩
        · have HJ2 := Lib.hid (show ∀ j (h : j < ss.length), j < k + 1 → ss[j].size ≤ 30 from fun j h h0 => by
            by_cases e : j = k
            · subst e; omega
            · exact HJ.out j h (by omega))
          go_wp2
          go_round
          case rel => exact ⟨k + 1, by omega, by omega, by go_num, HJ2.out⟩
          case measure => simp [intOf]; omega
      · have HV := Lib.hid (vstr_long (ss := ss) (by omega))
        go_wp2
        go_ret
        exact ⟨ret_bool (by rw [HV.out]; simp; omega), rfl⟩
    · have HV := Lib.hid (show vstr ss = decide ((ss.length : Int) ≤ 40) by
        have e : ss.all short = true := by
          rw [List.all_eq_true]
          intro s hs
          obtain ⟨j, hj, rfl⟩ := List.mem_iff_getElem.1 hs
          have := HJ.out j hj (by omega)
          simp [short, this]
        rw [vstr, e, Bool.and_true]
        exact decide_eq_decide.2 (by omega))
      go_wp2
      go_ret
      exact ⟨ret_bool (by rw [HV.out]), rfl⟩

end Go.Proofs.YtaeimdcmpjanbaaDoor.validStr
