/- Copies of lists in new memory. Condition: at most 2^20 elements. -/
import Derived.Test.YtgffabjajbgbjaaElem
import Derived.Test.YtgffabjajbgbjaaRec
set_option linter.unusedVariables false
set_option linter.unusedSimpArgs false
namespace Go.Proofs.Ytgffabjajbgbjaa.copies
open Go.RowKit Go.Proofs.Ytgffabjajbgbjaa.mem

set_option maxRecDepth 100000 in
set_option maxHeartbeats 400000 in
theorem int_any (A : Option Addr) (c : Nat) (zs : List Int) (w : World) (hn : zs.length ≤ 1048576) (hr : Rd w 1 A zs.length (ints zs)) :
    Calls Try.prog 108 #[.slice A zs.length c] w fun e w' => ∃ v, e = .returned v ∧ w'.ownsRow w.heap.size 3 1 v zs.length (ints zs) ∧ Below w.heap.size w w' := by
  have hh : 0 + zs.length ≤ 1099511627776 := by omega
  have h0 := World.ownsRow_made (e := 3) (size := 1) w #[] 0 (Nat.le_refl _) (Nat.zero_le _) (by simp)
  have hb0 : Below w.heap.size w (w.alloc (.cells #[] 3)) := (Below.refl _ _).alloc (Nat.le_refl _) _
  have hs0 := hb0.size
  have hr0 := hr.alloc (.cells #[] 3)
  go_enter Try.func108, Try.ntmps108
  go_wp2_with (at_builtin; refine mem.extend _ rfl _ _ 22 rfl w.heap.size 3 _ 1 8 Try.underlying22 mem.info_int rfl Nat.one_pos _ _ _ rfl h0 _ _ _ _ rfl hr0 (mem.ints_one zs) hh (by decide) hs0 ?_; intro v' w' ho' hg')
  have hb := below_push hb0 hs0 hg' h0
  simp only [Nat.zero_add, List.nil_append] at ho'
  go_wp2
  go_ret
  exact ⟨_, rfl, ho', hb⟩
set_option maxRecDepth 100000 in
set_option maxHeartbeats 400000 in
theorem rec_any (A : Option Addr) (c : Nat) (zs : List Rec) (w : World) (hn : zs.length ≤ 1048576) (hr : Rd w 2 A zs.length (recs zs)) :
    Calls Try.prog 85 #[.slice A zs.length c] w fun e w' => ∃ v, e = .returned v ∧ w'.ownsRow w.heap.size 87 2 v zs.length (recs zs) ∧ Below w.heap.size w w' := by
  have hh : 0 + zs.length ≤ 1099511627776 := by omega
  have h0 := World.ownsRow_made (e := 87) (size := 2) w #[] 0 (Nat.le_refl _) (Nat.zero_le _) (by simp)
  have hb0 : Below w.heap.size w (w.alloc (.cells #[] 87)) := (Below.refl _ _).alloc (Nat.le_refl _) _
  have hs0 := hb0.size
  have hr0 := hr.alloc (.cells #[] 87)
  go_enter Try.func85, Try.ntmps85
  go_wp2_with (at_builtin; refine mem.extend _ rfl _ _ 54 rfl w.heap.size 87 _ 2 16 Try.underlying54 mem.info_rec rfl (by decide) _ _ _ rfl h0 _ _ _ _ rfl hr0 (mem.recs_one zs) hh (by decide) hs0 ?_; intro v' w' ho' hg')
  have hb := below_push hb0 hs0 hg' h0
  simp only [Nat.zero_add, List.nil_append] at ho'
  go_wp2
  go_ret
  exact ⟨_, rfl, ho', hb⟩
end Go.Proofs.Ytgffabjajbgbjaa.copies
