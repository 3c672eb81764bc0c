/- Copies of a list of integers in new memory. Condition: at most 2^20 elements. -/
import Derived.Test.YtgffabjajbgbjaaMem
set_option linter.unusedVariables false
set_option linter.unusedSimpArgs false
namespace Go.Proofs.Ytgffabjajbgbjaa.copyInt
open Go.RowKit Go.Proofs.Ytgffabjajbgbjaa.mem

set_option maxHeartbeats 400000 in
theorem spec_any (A : Option Addr) (c : Nat) (zs : List Int) (w : World) (hn : zs.length ≤ 1048576) (hr : Rd w 1 A zs.length (ints zs)) :
    Calls Try.prog 66 #[.slice A zs.length c] w fun e w' => ∃ v, e = .returned v ∧ w'.ownsRow w.heap.size 3 1 v zs.length (ints zs) ∧ Below w.heap.size w w' := by
  have hh : 0 + zs.length ≤ 1099511627776 := by omega
  have h0 := World.ownsRow_made (e := 3) (size := 1) w #[] 0 (Nat.le_refl _) (Nat.zero_le _) (by simp)
  have hb0 : Below w.heap.size w (w.alloc (.cells #[] 3)) := (Below.refl _ _).alloc (Nat.le_refl _) _
  have hs0 := hb0.size
  have hr0 := hr.alloc (.cells #[] 3)
  go_enter Try.func66, Try.ntmps66
  go_wp2_with (at_builtin; refine mem.extend _ rfl _ _ 22 rfl w.heap.size 3 _ 1 8 Try.underlying22 mem.info_int rfl Nat.one_pos _ _ _ rfl h0 _ _ _ _ rfl hr0 (mem.ints_one _) hh (by decide) hs0 ?_; intro v' w' ho' hg')
  have hb := below_push hb0 hs0 hg' h0
  simp only [Nat.zero_add, List.nil_append] at ho'
  go_wp2
  go_ret
  exact ⟨_, rfl, ho', hb⟩
set_option maxHeartbeats 400000 in
theorem impl_any (A : Option Addr) (c : Nat) (zs : List Int) (w : World) (hn : zs.length ≤ 1048576) (hr : Rd w 1 A zs.length (ints zs)) :
    Calls Try.prog 108 #[.slice A zs.length c] w fun e w' => ∃ v, e = .returned v ∧ w'.ownsRow w.heap.size 3 1 v zs.length (ints zs) ∧ Below w.heap.size w w' := by
  have hh : 0 + zs.length ≤ 1099511627776 := by omega
  have h0 := World.ownsRow_made (e := 3) (size := 1) w #[] 0 (Nat.le_refl _) (Nat.zero_le _) (by simp)
  have hb0 : Below w.heap.size w (w.alloc (.cells #[] 3)) := (Below.refl _ _).alloc (Nat.le_refl _) _
  have hs0 := hb0.size
  have hr0 := hr.alloc (.cells #[] 3)
  go_enter Try.func108, Try.ntmps108
  go_wp2_with (at_builtin; refine mem.extend _ rfl _ _ 22 rfl w.heap.size 3 _ 1 8 Try.underlying22 mem.info_int rfl Nat.one_pos _ _ _ rfl h0 _ _ _ _ rfl hr0 (mem.ints_one _) hh (by decide) hs0 ?_; intro v' w' ho' hg')
  have hb := below_push hb0 hs0 hg' h0
  simp only [Nat.zero_add, List.nil_append] at ho'
  go_wp2
  go_ret
  exact ⟨_, rfl, ho', hb⟩
end Go.Proofs.Ytgffabjajbgbjaa.copyInt
