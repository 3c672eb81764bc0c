/- Valid and ascending lists of integers, the program's and the reference's. No condition beyond 2^20 elements. -/
import Derived.Test.YtgffabjajbgbjaaAllInt
import Derived.Test.YtgffabjajbgbjaaIn
set_option linter.unusedVariables false
set_option linter.unusedSimpArgs false
namespace Go.Proofs.Ytgffabjajbgbjaa.lists
open Go.RowKit Go.Proofs.Ytgffabjajbgbjaa.mem
open Go.Proofs.Ytgffabjajbgbjaa.ins (inB inB_true inB_false inB_iff)

def key (x : Int) : Bool := inB x (-100000) 100000
def vlist (zs : List Int) : Bool := decide (zs.length ≤ 64) && zs.all key
theorem vlist_len {zs : List Int} (h : vlist zs = true) : zs.length ≤ 64 := by simp only [vlist, Bool.and_eq_true, decide_eq_true_eq] at h; exact h.1
theorem vlist_key {zs : List Int} (h : vlist zs = true) : ∀ z ∈ zs, -100000 ≤ z ∧ z ≤ 100000 := by
  simp only [vlist, Bool.and_eq_true, decide_eq_true_eq, List.all_eq_true] at h
  exact fun z hz => inB_iff.1 (h.2 z hz)
theorem vlist_long {zs : List Int} (h : ¬ zs.length ≤ 64) : vlist zs = false := by simp [vlist, h]
theorem vlist_short {zs : List Int} (h : zs.length ≤ 64) : vlist zs = zs.all key := by simp [vlist, h]
theorem vlist_not {zs : List Int} {x : Int} (h : x ∈ zs) (h2 : key x = false) : vlist zs = false := by
  have : zs.all key = false := by rw [List.all_eq_false]; exact ⟨x, h, by rw [h2]; simp⟩
  rw [vlist, this, Bool.and_false]
/-- the first k elements ascend -/
def ascB (l : List Int) : Nat → Bool
  | 0 => true
  | 1 => true
  | k + 2 => ascB l (k + 1) && decide (l.getD k 0 ≤ l.getD (k + 1) 0)
def asc (l : List Int) : Bool := ascB l l.length
theorem ascB_mono (l : List Int) {j : Nat} : ∀ {k : Nat}, j ≤ k → ascB l k = true → ascB l j = true
  | 0, h, hk => by obtain rfl : j = 0 := by omega
                   exact hk
  | 1, h, hk => by have : j = 0 ∨ j = 1 := by omega
                   rcases this with rfl | rfl <;> rfl
  | k + 2, h, hk => by
    by_cases e : j = k + 2
    · subst e; exact hk
    · simp only [ascB, Bool.and_eq_true] at hk
      exact ascB_mono l (k := k + 1) (by omega) hk.1
theorem asc_le {l : List Int} (h : asc l = true) {i : Nat} (hi : i + 1 < l.length) : l.getD i 0 ≤ l.getD (i + 1) 0 := by
  have := ascB_mono l (j := i + 2) (k := l.length) (by omega) h
  simp only [ascB, Bool.and_eq_true, decide_eq_true_eq] at this
  exact this.2
theorem getD_at (l : List Int) {i : Nat} (h : i < l.length) : l.getD i 0 = l[i] := by
  rw [List.getD_eq_getElem?_getD, List.getElem?_eq_getElem h]; rfl

set_option maxHeartbeats 400000 in
theorem key_any (x : Int) (w : World) : Calls Try.prog 118 #[.int .i64 x] w fun e w' => e = .returned (.bool (key x)) ∧ w = w' := by
  go_enter Try.func118, Try.ntmps118
  go_wp2_with fail
  refine (ins.impl_any _ _ _ _).mono ?_
  rintro e w1 ⟨rfl, rfl⟩
  go_wp2
  go_ret
  exact ⟨rfl, rfl⟩

theorem ascB_step (l : List Int) (k : Nat) (h : ascB l (k + 1) = true) : ascB l (k + 2) = decide (l.getD k 0 ≤ l.getD (k + 1) 0) := by simp [ascB, h]

end Go.Proofs.Ytgffabjajbgbjaa.lists
