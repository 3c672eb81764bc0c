/- Rows of truth values, and the program's copies of them. Condition: at most 2^20 elements. -/
import Derived.Test.YtgffabjajbgbjaaElem
import Derived.Test.YtgffabjajbgbjaaMemAt
set_option linter.unusedVariables false
set_option linter.unusedSimpArgs false
namespace Go.Proofs.Ytgffabjajbgbjaa.mem
open Go.RowKit

theorem bools_app (a b : List Bool) : bools (a ++ b) = bools a ++ bools b := List.map_append
theorem bools_one (bs : List Bool) : ∀ u ∈ bools bs, u.oneCell' = true := by
  intro u hu
  obtain ⟨b, _, rfl⟩ := List.mem_map.1 hu
  rfl
theorem info_bool : (Try.prog.info? 4).map (fun i => (i.zero, i.size, i.bytes)) = some (some (.bool false), 1, 1) := by kernel_rfl
theorem Rd.bool_at {w : World} {b off : Nat} {bs : List Bool} (h : Rd w 1 (some ⟨b, off, none⟩) bs.length (bools bs)) {k : Nat} (hk : k < bs.length) : w.cell? ⟨b, off + k, none⟩ = some (.bool bs[k]) := by
  obtain ⟨b', o', he, h'⟩ := h.bool hk
  injection he with he
  injection he with he1 he2
  rw [he1, he2]; exact h'
theorem bools_set (l : List Bool) (i : Nat) (x : Bool) : (bools l).set i (.bool x) = bools (l.set i x) := by simp [bools, List.map_set]
set_option maxRecDepth 100000 in
set_option maxHeartbeats 400000 in
theorem copy_bool (A : Option Addr) (c : Nat) (zs : List Bool) (w : World) (hn : zs.length ≤ 1048576) (hr : Rd w 1 A zs.length (bools zs)) :
    Calls Try.prog 109 #[.slice A zs.length c] w fun e w' => ∃ v, e = .returned v ∧ w'.ownsRow w.heap.size 4 1 v zs.length (bools zs) ∧ Below w.heap.size w w' := by
  have hh : 0 + zs.length ≤ 1099511627776 := by omega
  have h0 := World.ownsRow_made (e := 4) (size := 1) w #[] 0 (Nat.le_refl _) (Nat.zero_le _) (by simp)
  have hb0 : Below w.heap.size w (w.alloc (.cells #[] 4)) := (Below.refl _ _).alloc (Nat.le_refl _) _
  have hs0 := hb0.size
  have hr0 := hr.alloc (.cells #[] 4)
  go_enter Try.func109, Try.ntmps109
  go_wp2_with (at_builtin; refine mem.extend _ rfl _ _ 93 rfl w.heap.size 4 _ 1 1 Try.underlying93 mem.info_bool rfl Nat.one_pos _ _ _ rfl h0 _ _ _ _ rfl hr0 (mem.bools_one zs) hh (by decide) hs0 ?_; intro v' w' ho' hg')
  have hb := below_push hb0 hs0 hg' h0
  simp only [Nat.zero_add, List.nil_append] at ho'
  go_wp2
  go_ret
  exact ⟨_, rfl, ho', hb⟩
end Go.Proofs.Ytgffabjajbgbjaa.mem
