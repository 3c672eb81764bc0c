/- Copies of lists in new memory. Condition: at most 2^20 elements. -/
import Derived.Test.YtaeimdcmpjanbaaDoorElem
set_option linter.unusedVariables false
set_option linter.unusedSimpArgs false
namespace Go.Proofs.YtaeimdcmpjanbaaDoor.copies
open Go.RowKit Go.Proofs.YtaeimdcmpjanbaaDoor.mem

set_option maxRecDepth 100000 in
set_option maxHeartbeats 400000 in
theorem str_any (A : Option Addr) (c : Nat) (zs : List ByteArray) (w : World) (hn : zs.length ≤ 1048576) (hr : Rd w 1 A zs.length (strs zs)) :
    Calls Tryd.prog 26 #[.slice A zs.length c] w fun e w' => ∃ v, e = .returned v ∧ w'.ownsRow w.heap.size 9 1 v zs.length (strs zs) ∧ Below w.heap.size w w' := by
  have hh : 0 + zs.length ≤ 1099511627776 := by omega
  have h0 := World.ownsRow_made (e := 9) (size := 1) w #[] 0 (Nat.le_refl _) (Nat.zero_le _) (by simp)
  have hb0 : Below w.heap.size w (w.alloc (.cells #[] 9)) := (Below.refl _ _).alloc (Nat.le_refl _) _
  have hs0 := hb0.size
  have hr0 := hr.alloc (.cells #[] 9)
  go_enter Tryd.func26, Tryd.ntmps26
  go_wp2_with (at_builtin; refine mem.extend _ rfl _ _ 25 rfl w.heap.size 9 _ 1 16 Tryd.underlying25 mem.info_str rfl Nat.one_pos _ _ _ rfl h0 _ _ _ _ rfl hr0 (mem.strs_one zs) hh (by decide) hs0 ?_; intro v' w' ho' hg')
  have hb := below_push hb0 hs0 hg' h0
  simp only [Nat.zero_add, List.nil_append] at ho'
  go_wp2
  go_ret
  exact ⟨_, rfl, ho', hb⟩
end Go.Proofs.YtaeimdcmpjanbaaDoor.copies
