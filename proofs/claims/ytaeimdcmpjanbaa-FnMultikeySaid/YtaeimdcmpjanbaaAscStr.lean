/- Ascending lists of strings, the program's and the reference's. No condition beyond what a Go slice can hold. -/
import Derived.Test.YtaeimdcmpjanbaaValidStr
import Derived.Deep.LoopGhost
import Derived.Deep.RegionHeld3
import Derived.Deep.QuietTactic
set_option linter.unusedVariables false
set_option linter.unusedSimpArgs false
namespace Go.Proofs.Ytaeimdcmpjanbaa.ascStr
open Go.RowKit Go.Proofs.Ytaeimdcmpjanbaa.mem Go.Proofs.Ytaeimdcmpjanbaa.allStr Go.Proofs.Ytaeimdcmpjanbaa.validStr

def lt (x y : ByteArray) : Bool := Op.bytesLess x.toList y.toList
def e0 : ByteArray := ByteArray.empty
/-- a descent at i -/
def dn (ss : List ByteArray) (i : Nat) : Bool := lt (ss.getD (i + 1) e0) (ss.getD i e0)
def sasc (ss : List ByteArray) : Bool := (List.range (ss.length - 1)).all fun i => !dn ss i
theorem sasc_true {ss : List ByteArray} (h : ∀ i, i + 1 < ss.length → dn ss i = false) : sasc ss = true := by
  rw [sasc, List.all_eq_true]
  intro i hi
  rw [List.mem_range] at hi
  rw [h i (by omega)]; rfl
theorem sasc_false {ss : List ByteArray} {i : Nat} (hi : i + 1 < ss.length) (h : dn ss i = true) : sasc ss = false := by
  rw [← Bool.not_eq_true, sasc, List.all_eq_true]
  intro h2
  have := h2 i (List.mem_range.2 (by omega))
  rw [h] at this; simp at this
theorem getD_s (l : List ByteArray) {i : Nat} (h : i < l.length) : l.getD i e0 = l[i] := by
  rw [List.getD_eq_getElem?_getD, List.getElem?_eq_getElem h]; rfl
theorem Rd_str_at {w : World} {b off : Nat} {zs : List ByteArray} (h : Rd w 1 (some ⟨b, off, none⟩) zs.length (strs zs)) {k : Nat} (hk : k < zs.length) : w.cell? ⟨b, off + k, none⟩ = some (.string zs[k]) := by
  obtain ⟨b', o', he, h'⟩ := h.str hk
  injection he with he
  injection he with he1 he2
  rw [he1, he2]; exact h'

set_option maxHeartbeats 400000 in
theorem nan_any (s : ByteArray) (w : World) :
    Calls Try.prog 92 #[.string s] w fun e w' => e = .returned (.bool false) ∧ w = w' := by
  go_enter Try.func92, Try.ntmps92
  go_wp2
  go_ret
  exact ⟨ret_bool (by simp), rfl⟩
set_option maxHeartbeats 400000 in
theorem less_any (x y : ByteArray) (w : World) :
    Calls Try.prog 79 #[.string x, .string y] w fun e w' => e = .returned (.bool (lt x y)) ∧ w = w' := by
  go_enter Try.func79, Try.ntmps79
  go_wp2_with (go_at_call 92; refine (nan_any _ _).mono ?_; rintro e w' ⟨rfl, rfl⟩)
  go_ret
  exact ⟨ret_bool (by simp [lt]), rfl⟩
set_option maxRecDepth 100000 in
set_option maxHeartbeats 2000000 in
theorem sorted_any (A : Option Addr) (c : Nat) (ss : List ByteArray) (w : World) (hn : ss.length ≤ maxLen) (hr : Rd w 1 A ss.length (strs ss)) :
    Calls Try.prog 68 #[.slice A ss.length c] w fun e w' => e = .returned (.bool (sasc ss)) ∧ Below w.heap.size w w' := by
  unfold maxLen at hn
  go_enter Try.func68, Try.ntmps68
  go_wp2
  go_loopg [3] (ss.length + 1) (fun f i wr => ∃ k : Nat, k < f ∧ k ≤ ss.length ∧ i = .int .i64 ((k : Int) - 1) ∧ (∀ j, k ≤ j + 1 → j + 1 < ss.length → dn ss j = false) ∧ Below w.heap.size w wr)
  case atStart => exact ⟨ss.length, by omega, Nat.le_refl _, by go_num, fun j h1 h2 => by omega, Below.refl _ _⟩
  case round =>
    obtain ⟨k, hkf, hk, rfl, hd, hb⟩ := hrel
    have hr := hr.below hb
    have HD := Lib.hid hd
    clear hd
    by_cases hk2 : 2 ≤ k
    · obtain ⟨t, rfl⟩ : ∃ t, k = t + 2 := ⟨k - 2, by omega⟩
      rw [show ((t + 2 : Nat) : Int) - 1 = (t : Int) + 1 by omega]
      obtain ⟨b, off, rfl, hc1⟩ := hr.str (k := t) (by omega)
      have hc2 := Rd_str_at hr (k := t + 1) (by omega)
      have HS := Lib.hid (show dn ss t = lt (ss[t + 1]'(by omega)) (ss[t]'(by omega)) by rw [dn, getD_s ss (by omega), getD_s ss (by omega)])
      have HF := Lib.hid (show dn ss t = true → sasc ss = false from fun h => sasc_false (by omega) h)
      generalize ss[t]'(by omega) = x at hc1 HS
      generalize ss[t + 1]'(by omega) = y at hc2 HS
      obtain ⟨l, hl⟩ : ∃ l, l = lt y x := ⟨_, rfl⟩
      have HL := Lib.hid (show ∀ W : World, Calls Try.prog 79 #[.string y, .string x] W fun e w' => e = .returned (.bool l) ∧ W = w' from fun W => by rw [hl]; exact less_any y x W)
      rw [← hl] at HS
      clear hl
      have q1 : (t : Int) + 1 < (ss.length : Int) := by omega
      have q2 : (t : Int) < (ss.length : Int) := by omega
      have q3 : (0 : Int) < (t : Int) + 1 := by omega
      have q4 : ((t : Int) + 1).toNat = t + 1 := by omega
      have q5 : (t : Int) + 1 - 1 = (t : Int) := by omega
      have q6 : (0 : Int) ≤ (t : Int) + 1 := by omega
      have q7 : IntKind.i64.wrap (t : Int) = (t : Int) := by rw [IntKind.wrap_i64]; omega
      cases l with
      | true =>
        have HV := Lib.hid (HF.out HS.out)
        go_wp2_with fail
        go_quiet ((go_at_call 79; exact quiet_eq (HL.out _)))
        go_wp2
        go_ret
        exact ⟨ret_bool HV.out.symm, below_drewN hb _⟩
      | false =>
        have HD2 := Lib.hid (show ∀ j, t + 1 ≤ j + 1 → j + 1 < ss.length → dn ss j = false from fun j h1 h2 => by
          by_cases e : j = t
          · subst e; exact HS.out
          · exact HD.out j (by omega) h2)
        go_wp2_with fail
        go_quiet ((go_at_call 79; exact quiet_eq (HL.out _)))
        go_wp2
        go_roundg (gk - 1)
        case measure => omega
        case rel => exact ⟨t + 1, by omega, by omega, by go_num, HD2.out, below_drewN hb _⟩
    · have HV := Lib.hid (show sasc ss = true from sasc_true (fun i hi => HD.out i (by omega) hi))
      have q1 : decide ((0 : Int) < (k : Int) - 1) = false := by simp; omega
      have q2 : (k : Int) - 1 ≤ 0 := by omega
      go_wp2
      go_ret
      exact ⟨ret_bool HV.out.symm, hb⟩

set_option maxHeartbeats 400000 in
theorem impl_asc (A : Option Addr) (c : Nat) (ss : List ByteArray) (w : World) (hn : ss.length ≤ maxLen) (hs : ∀ s ∈ ss, s.size ≤ maxLen) (hr : Rd w 1 A ss.length (strs ss)) :
    Calls Try.prog 48 #[.slice A ss.length c] w fun e w' => e = .returned (.bool (vstr ss && sasc ss)) ∧ Below w.heap.size w w' := by
  have HI := Lib.hid (impl_any A c ss w hn hs hr)
  clear hs
  obtain ⟨v, hv⟩ : ∃ v, v = vstr ss := ⟨_, rfl⟩
  rw [← hv] at HI ⊢
  clear hv
  cases v with
  | false =>
    go_enter Try.func48, Try.ntmps48
    go_wp2_with fail
    refine HI.out.mono ?_
    rintro e w' ⟨rfl, hb⟩
    go_wp2
    go_ret
    exact ⟨ret_bool (by simp), hb⟩
  | true =>
    go_enter Try.func48, Try.ntmps48
    go_wp2_with fail
    refine HI.out.mono ?_
    rintro e w1 ⟨rfl, hb⟩
    go_wp2_with fail
    refine (sorted_any A c ss w1 hn (hr.below hb)).mono ?_
    rintro e w2 ⟨rfl, hb2⟩
    go_wp2
    go_ret
    exact ⟨ret_bool (by simp), below_step hb hb2⟩

set_option maxRecDepth 100000 in
set_option maxHeartbeats 2000000 in
theorem spec_asc (A : Option Addr) (c : Nat) (ss : List ByteArray) (w : World) (hn : ss.length ≤ maxLen) (hs : ∀ s ∈ ss, s.size ≤ maxLen) (hr : Rd w 1 A ss.length (strs ss)) :
    Calls Try.prog 51 #[.slice A ss.length c] w fun e w' => e = .returned (.bool (vstr ss && sasc ss)) ∧ Below w.heap.size w w' := by
  have HI := Lib.hid (list_any A c ss w hn hs hr)
  clear hs
  obtain ⟨v, hv⟩ : ∃ v, v = vstr ss := ⟨_, rfl⟩
  rw [← hv] at HI ⊢
  clear hv
  unfold maxLen at hn
  cases v with
  | false =>
    go_enter Try.func51, Try.ntmps51
    go_wp2_with fail
    refine HI.out.mono ?_
    rintro e w' ⟨rfl, rfl⟩
    go_wp2
    go_ret
    exact ⟨ret_bool (by simp), Below.refl _ _⟩
  | true =>
    go_enter Try.func51, Try.ntmps51
    go_wp2_with fail
    refine HI.out.mono ?_
    rintro e w1 ⟨rfl, rfl⟩
    go_wp2
    go_loopg [3] (ss.length + 1) (fun f i wr => ∃ t : Nat, ss.length < t + f ∧ (t + 1 ≤ ss.length ∨ t = 0) ∧ i = .int .i64 ((t : Int) + 1) ∧ (∀ j, j < t → dn ss j = false) ∧ Below w.heap.size w wr)
    case atStart => exact ⟨0, by omega, by omega, by go_num, fun j h => absurd h (by omega), Below.refl _ _⟩
    case round =>
      obtain ⟨t, htf, ht, rfl, hd, hb⟩ := hrel
      have HD := Lib.hid hd
      clear hd
      have hr := hr.below hb
      by_cases hlt : t + 1 < ss.length
      · obtain ⟨b, off, rfl, hc1⟩ := hr.str (k := t) (by omega)
        have hc2 := Rd_str_at hr (k := t + 1) (by omega)
        have HS := Lib.hid (show dn ss t = lt (ss[t + 1]'(by omega)) (ss[t]'(by omega)) by rw [dn, getD_s ss (by omega), getD_s ss (by omega)])
        have HF := Lib.hid (show dn ss t = true → sasc ss = false from fun h => sasc_false (by omega) h)
        generalize ss[t]'(by omega) = x at hc1 HS
        generalize ss[t + 1]'(by omega) = y at hc2 HS
        have q1 : (t : Int) + 1 < (ss.length : Int) := by omega
        have q2 : (t : Int) < (ss.length : Int) := by omega
        have q4 : ((t : Int) + 1).toNat = t + 1 := by omega
        have q6 : (0 : Int) ≤ (t : Int) + 1 := by omega
        have q7 : IntKind.i64.wrap (t : Int) = (t : Int) := by rw [IntKind.wrap_i64]; omega
        by_cases hl : Op.bytesLess y.toList x.toList = true
        · have HV := Lib.hid (HF.out (HS.out.trans hl))
          go_wp2_with fail
          go_quiet (fail)
          go_wp2
          go_ret
          exact ⟨ret_bool (by rw [HV.out]; rfl), below_drewN hb _⟩
        · have HD2 := Lib.hid (show ∀ j, j < t + 1 → dn ss j = false from fun j h1 => by
            by_cases e : j = t
            · subst e; rw [HS.out, lt]; simpa using hl
            · exact HD.out j (by omega))
          have q8 : Op.bytesLess y.toList x.toList = false := by simpa using hl
          go_wp2_with fail
          go_quiet (fail)
          go_wp2
          go_roundg (gk - 1)
          case measure => omega
          case rel => exact ⟨t + 1, by omega, by omega, by go_num, HD2.out, below_drewN hb _⟩
      · have HV := Lib.hid (show sasc ss = true from sasc_true (fun i hi => HD.out i (by omega)))
        go_wp2
        go_ret
        exact ⟨ret_bool (by rw [HV.out]; rfl), hb⟩
end Go.Proofs.Ytaeimdcmpjanbaa.ascStr
