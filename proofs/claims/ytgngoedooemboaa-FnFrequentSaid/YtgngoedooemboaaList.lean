/- Valid and ascending lists of integers, the program's and the reference's. No condition beyond 2^20 elements. -/
import Derived.Test.YtgngoedooemboaaAllInt
import Derived.Test.YtgngoedooemboaaIn
set_option linter.unusedVariables false
set_option linter.unusedSimpArgs false
namespace Go.Proofs.Ytgngoedooemboaa.lists
open Go.RowKit Go.Proofs.Ytgngoedooemboaa.mem
open Go.Proofs.Ytgngoedooemboaa.ins (inB inB_true inB_false inB_iff)

def key (x : Int) : Bool := inB x (-100000) 100000
def vlist (zs : List Int) : Bool := decide (zs.length ≤ 64) && zs.all key
theorem vlist_len {zs : List Int} (h : vlist zs = true) : zs.length ≤ 64 := by simp only [vlist, Bool.and_eq_true, decide_eq_true_eq] at h; exact h.1
theorem vlist_key {zs : List Int} (h : vlist zs = true) : ∀ z ∈ zs, -100000 ≤ z ∧ z ≤ 100000 := by
  simp only [vlist, Bool.and_eq_true, decide_eq_true_eq, List.all_eq_true] at h
  exact fun z hz => inB_iff.1 (h.2 z hz)
theorem vlist_long {zs : List Int} (h : ¬ zs.length ≤ 64) : vlist zs = false := by simp [vlist, h]
theorem vlist_short {zs : List Int} (h : zs.length ≤ 64) : vlist zs = zs.all key := by simp [vlist, h]
theorem vlist_not {zs : List Int} {x : Int} (h : x ∈ zs) (h2 : key x = false) : vlist zs = false := by
  have : zs.all key = false := by rw [List.all_eq_false]; exact ⟨x, h, by rw [h2]; simp⟩
  rw [vlist, this, Bool.and_false]
/-- the first k elements ascend -/
def ascB (l : List Int) : Nat → Bool
  | 0 => true
  | 1 => true
  | k + 2 => ascB l (k + 1) && decide (l.getD k 0 ≤ l.getD (k + 1) 0)
def asc (l : List Int) : Bool := ascB l l.length
theorem ascB_mono (l : List Int) {j : Nat} : ∀ {k : Nat}, j ≤ k → ascB l k = true → ascB l j = true
  | 0, h, hk => by obtain rfl : j = 0 := by omega
                   exact hk
  | 1, h, hk => by have : j = 0 ∨ j = 1 := by omega
                   rcases this with rfl | rfl <;> rfl
  | k + 2, h, hk => by
    by_cases e : j = k + 2
    · subst e; exact hk
    · simp only [ascB, Bool.and_eq_true] at hk
      exact ascB_mono l (k := k + 1) (by omega) hk.1
theorem asc_le {l : List Int} (h : asc l = true) {i : Nat} (hi : i + 1 < l.length) : l.getD i 0 ≤ l.getD (i + 1) 0 := by
  have := ascB_mono l (j := i + 2) (k := l.length) (by omega) h
  simp only [ascB, Bool.and_eq_true, decide_eq_true_eq] at this
  exact this.2
theorem getD_at (l : List Int) {i : Nat} (h : i < l.length) : l.getD i 0 = l[i] := by
  rw [List.getD_eq_getElem?_getD, List.getElem?_eq_getElem h]; rfl

set_option maxHeartbeats 400000 in
theorem key_any (x : Int) (w : World) : Calls Try.prog 90 #[.int .i64 x] w fun e w' => e = .returned (.bool (key x)) ∧ w = w' := by
  go_enter Try.func90, Try.ntmps90
  go_wp2_with fail
  refine (ins.impl_any _ _ _ _).mono ?_
  rintro e w1 ⟨rfl, rfl⟩
  go_wp2
  go_ret
  exact ⟨rfl, rfl⟩

set_option maxRecDepth 100000 in
set_option maxHeartbeats 400000 in
theorem impl_any (A : Option Addr) (c : Nat) (zs : List Int) (w : World) (hn : zs.length ≤ 1048576) (hr : Rd w 1 A zs.length (ints zs)) :
    Calls Try.prog 59 #[.slice A zs.length c] w fun e w' => e = .returned (.bool (vlist zs)) ∧ Below w.heap.size w w' := by
  by_cases h : zs.length ≤ 64
  · have HV := Lib.hid (vlist_short h)
    go_enter Try.func59, Try.ntmps59
    go_wp2_with fail
    refine (allInt.all_any A c zs 90 key w (by unfold maxLen; omega) hr ⟨fun _ _ => rfl, fun s _ W _ => (key_any s W).mono ?_⟩).mono ?_
    · rintro e w' ⟨rfl, rfl⟩
      exact ⟨rfl, Below.refl _ _⟩
    rintro e w' ⟨rfl, hb⟩
    go_wp2
    go_ret
    exact ⟨ret_bool (by rw [HV.out]), hb⟩
  · have HV := Lib.hid (vlist_long h)
    go_enter Try.func59, Try.ntmps59
    go_wp2
    go_ret
    exact ⟨ret_bool (by rw [HV.out]), Below.refl _ _⟩

set_option maxHeartbeats 400000 in
theorem spec_any (A : Option Addr) (c : Nat) (zs : List Int) (w : World) (hn : zs.length ≤ 1048576) (hr : Rd w 1 A zs.length (ints zs)) :
    Calls Try.prog 56 #[.slice A zs.length c] w fun e w' => e = .returned (.bool (vlist zs)) ∧ w = w' := by
  go_enter Try.func56, Try.ntmps56
  go_wp2
  go_loop [3] (fun i => ∃ k : Nat, k ≤ zs.length ∧ k ≤ 65 ∧ i = .int .i64 k ∧ (zs.take k).all key = true) (fun i => zs.length - (intOf i).toNat)
  case atStart => exact ⟨0, by omega, by omega, rfl, by simp⟩
  case round =>
    obtain ⟨k, hk, hk2, rfl, hj⟩ := hrel
    have HJ := Lib.hid hj
    clear hj
    by_cases hlt : k < zs.length
    · by_cases h64 : k ≤ 64
      · obtain ⟨b, off, rfl, hc⟩ := hr.int hlt
        have HT := Lib.hid (show (zs.take (k + 1)).all key = key zs[k] by
          rw [List.take_add_one, List.getElem?_eq_getElem hlt, List.all_append, HJ.out]; simp)
        have HM := Lib.hid (List.getElem_mem hlt)
        generalize zs[k] = x at hc HT HM
        go_wp2_with fail
        refine (ins.spec_any _ _ _ _).mono ?_
        rintro e w1 ⟨rfl, rfl⟩
        by_cases hx : inB x (-100000) 100000 = true
        · have HX := Lib.hid hx
          rw [hx]
          clear hx
          go_wp2
          go_round
          case rel => exact ⟨k + 1, by omega, by omega, by go_num, by rw [HT.out]; exact HX.out⟩
          case measure => simp [intOf]; omega
        · have hx' : inB x (-100000) 100000 = false := by simpa using hx
          have HR := Lib.hid (vlist_not HM.out hx')
          rw [hx']
          clear hx hx'
          go_wp2
          go_ret
          exact ⟨ret_bool HR.out.symm, rfl⟩
      · have HV := Lib.hid (vlist_long (zs := zs) (by omega))
        go_wp2
        go_ret
        exact ⟨ret_bool (by rw [HV.out]; simp; omega), rfl⟩
    · have HV := Lib.hid (show vlist zs = decide ((zs.length : Int) ≤ 64) by
        have e : zs.all key = true := by have := HJ.out; rwa [List.take_of_length_le (by omega)] at this
        rw [vlist, e, Bool.and_true]
        exact decide_eq_decide.2 (by omega))
      go_wp2
      go_ret
      exact ⟨ret_bool (by rw [HV.out]), rfl⟩

theorem ascB_step (l : List Int) (k : Nat) (h : ascB l (k + 1) = true) : ascB l (k + 2) = decide (l.getD k 0 ≤ l.getD (k + 1) 0) := by simp [ascB, h]

end Go.Proofs.Ytgngoedooemboaa.lists
