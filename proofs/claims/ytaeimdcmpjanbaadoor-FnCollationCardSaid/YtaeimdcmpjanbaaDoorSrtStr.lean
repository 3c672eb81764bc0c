/- SortStrings and DistinguishingPrefix, the program's and the reference's. No condition beyond 2^20 strings of 2^20 bytes. -/
import Derived.Test.YtaeimdcmpjanbaaDoorIns
import Derived.Test.YtaeimdcmpjanbaaDoorShelf
import Derived.Test.YtaeimdcmpjanbaaDoorCopy
import Derived.Sort.OwnSorted
set_option linter.unusedVariables false
set_option linter.unusedSimpArgs false
namespace Go.Proofs.YtaeimdcmpjanbaaDoor.srtStr
open Go.RowKit Go.Proofs.YtaeimdcmpjanbaaDoor.mem Go.Proofs.YtaeimdcmpjanbaaDoor.stb Go.Proofs.YtaeimdcmpjanbaaDoor.ssLaw Go.Proofs.YtaeimdcmpjanbaaDoor.validStr Go.Proofs.YtaeimdcmpjanbaaDoor.ins22

/-- slices.Sort on a row of the call's own -/
theorem sort_own (l : List ByteArray) (v : Value) (w : World) (base : Nat) (hn : l.length ≤ 1048576) (ho : w.ownsRow base 9 1 v l.length (strs l)) :
    Calls Tryd.prog 45 #[v] w fun e w' => e = .returned (.tuple #[]) ∧ w'.ownsRow base 9 1 v l.length (strs (ss l)) ∧ w.grownBy w' v.ownBlock := by
  rcases ho.2 with ⟨rfl, h0⟩ | ⟨g, cap, cur, rfl, hb, hg, h1, h2, h3, h4⟩
  · obtain rfl := List.eq_nil_of_length_eq_zero h0
    refine (Tryd.slices_Sort_string_none none 0 w).mono ?_
    rintro e w' ⟨rfl, rfl⟩
    exact ⟨rfl, ho, World.grownBy.refl _ _⟩
  · have hl : (l.map bs).length = l.length := List.length_map _
    have hH : Go.Sort.Holds Go.Proofs.encStr w g 0 (l.map bs).toArray := Go.holds_of_block hg (by rw [hl, ← strs_enc]; rw [Nat.mul_one] at h4; exact h4)
    have h := Tryd.slices_Sort_string g 0 cap (l.map bs) w hH (Array.getElem?_eq_some_iff.1 hg).1 (by rw [hl]; omega)
    rw [hl, ss_lib] at h
    refine h.mono ?_
    rintro e w' ⟨rfl, n, os, rfl⟩
    have hs := Go.ownsRow_sorted (os := os) (n := n) (ss := l.map bs) (ts := (ss l).map bs) (by rw [List.length_map, List.length_map, ss_len]) hb hg (by rw [hl]; exact h1) h2 h3
    rw [hl, ← strs_enc] at hs
    exact ⟨rfl, hs, Go.grownBy_sorted _⟩
set_option maxHeartbeats 400000 in
theorem sorted_any (A : Option Addr) (c : Nat) (l : List ByteArray) (w : World) (hn : l.length ≤ 1048576) (hr : Rd w 1 A l.length (strs l)) :
    Calls Tryd.prog 33 #[.slice A l.length c] w fun e w' => ∃ v, e = .returned v ∧ w'.ownsRow w.heap.size 9 1 v l.length (strs (ss l)) ∧ Below w.heap.size w w' := by
  go_enter Tryd.func33, Tryd.ntmps33
  go_wp2_with fail
  refine (copies.str_any A c l w hn hr).mono ?_
  rintro e w1 ⟨v, rfl, ho, hb1⟩
  go_wp2_with fail
  refine (sort_own l v w1 w.heap.size hn ho).mono ?_
  rintro e w2 ⟨rfl, ho2, hg⟩
  have hb2 := below_push hb1 hb1.size hg ho
  go_wp2
  go_ret
  exact ⟨_, rfl, ho2, hb2⟩
/-- the reference's, keys being the strings themselves -/
theorem stab_self (l : List ByteArray) : fs (stab ltP (l.map fun x => (x, x))) = ss l := by
  rw [stab_map (lt := ascStr.lt) (fun x => (x, x)) (fun _ _ => rfl), fs, List.map_map]
  exact List.map_id _
theorem spec_self (A : Option Addr) (c : Nat) (l : List ByteArray) (w : World) (hn : l.length ≤ 1048576) (hr : Rd w 1 A l.length (strs l)) :
    Calls Tryd.prog 24 #[.slice A l.length c, .slice A l.length c] w fun e w' => ∃ v, e = .returned v ∧ w'.ownsRow w.heap.size 9 1 v l.length (strs (ss l)) ∧ Below w.heap.size w w' := by
  have h1 : fs (l.map fun x => (x, x)) = l := by rw [fs, List.map_map]; exact List.map_id _
  have h2 : sn (l.map fun x => (x, x)) = l := by rw [sn, List.map_map]; exact List.map_id _
  have hl : (l.map fun x => (x, x)).length = l.length := List.length_map _
  have h := ins22.sorted_any A A c c (l.map fun x => (x, x)) w (by rw [hl]; exact hn) (by rw [hl, h1]; exact hr) (by rw [hl, h2]; exact hr)
  rw [hl, stab_self] at h
  exact h

def res (l : List ByteArray) : List ByteArray := if vstr l = true then ss l else []
set_option maxHeartbeats 1000000 in
theorem impl_any (A : Option Addr) (c : Nat) (l : List ByteArray) (w : World) (hn : l.length ≤ 1048576) (hs : ∀ s ∈ l, s.size ≤ 1048576) (hr : Rd w 1 A l.length (strs l)) :
    Calls Tryd.prog 18 #[.slice A l.length c] w fun e w' => ∃ v, e = .returned (.tuple #[v, .bool (vstr l)]) ∧ OwnS w w' v (res l) ∧ Below w.heap.size w w' := by
  have HI := Lib.hid (validStr.impl_any A c l w (by unfold maxLen; omega) (fun s h => Nat.le_trans (hs s h) (by decide)) hr)
  clear hs
  cases hv : vstr l with
  | false =>
    have HR := Lib.hid (show res l = [] by simp [res, hv])
    rw [hv] at HI
    clear hv
    go_enter Tryd.func18, Tryd.ntmps18
    go_wp2_with fail
    refine HI.out.mono ?_
    rintro e w1 ⟨rfl, hb⟩
    go_wp2
    go_ret2
    exact ⟨_, rfl, ⟨by rw [HR.out]; exact World.ownsRow_nil _ _ _ _, by rw [HR.out]; simp⟩, hb⟩
  | true =>
    have HR := Lib.hid (show res l = ss l by simp [res, hv])
    rw [hv] at HI
    clear hv
    go_enter Tryd.func18, Tryd.ntmps18
    go_wp2_with fail
    refine HI.out.mono ?_
    rintro e w1 ⟨rfl, hb⟩
    go_wp2_with fail
    refine (sorted_any A c l w1 hn (hr.below hb)).mono ?_
    rintro e w2 ⟨v, rfl, ho, hb2⟩
    have hbw := below_step hb hb2
    go_wp2
    go_ret2
    exact ⟨_, rfl, ⟨by rw [HR.out, ss_len]; exact own_base ho hb.size, by rw [HR.out, ss_len]; exact hn⟩, hbw⟩
end Go.Proofs.YtaeimdcmpjanbaaDoor.srtStr
