/- Small letters for large ones, the program's lower; the program's CollationKey. Condition: at most 1000 bytes. -/
import Derived.Test.YtaeimdcmpjanbaaDoorColN
set_option linter.unusedVariables false
set_option linter.unusedSimpArgs false
namespace Go.Proofs.YtaeimdcmpjanbaaDoor.col
open Go.RowKit Go.Proofs.YtaeimdcmpjanbaaDoor.mem

/-- the byte at j while the first k are lowered -/
def lw (s : ByteArray) (k j : Nat) (h : j < s.size) : UInt8 := if j < k then low s[j] else s[j]
structure Row (s : ByteArray) (g k : Nat) (w W : World) : Prop where
  cells : ∃ cs fr, W.heap[g]? = some (.cells cs 5 fr) ∧ s.size ≤ fr.1 ∧ ∀ j (h : j < s.size), cs[j]? = some (.int .u8 ((lw s k j h).toNat : Int))
  bel : Below w.heap.size w W
theorem Row.at {s : ByteArray} {g k : Nat} {w W : World} (h : Row s g k w W) {j : Nat} (hj : j < s.size) : W.cell? ⟨g, j, none⟩ = some (.int .u8 ((lw s k j hj).toNat : Int)) ∧ W.frozen? ⟨g, j, none⟩ = false := by
  obtain ⟨cs, fr, hg, hf, hc⟩ := h.cells
  refine ⟨by rw [cell_of_row W g j cs 5 fr hg]; exact hc j hj, ?_⟩
  simp [World.frozen?, hg]
  omega
theorem Row.put {s : ByteArray} {g k : Nat} {w W : World} (h : Row s g k w W) (hg : w.heap.size ≤ g) (hk : k < s.size) (x : UInt8) (hx : x = low s[k]) : Row s g (k + 1) w (W.setCell ⟨g, k, none⟩ (.int .u8 (x.toNat : Int))) := by
  obtain ⟨cs, fr, hh, hf, hc⟩ := h.cells
  refine ⟨⟨cs.setIfInBounds k (.int .u8 (x.toNat : Int)), fr, ?_, hf, fun j hj => ?_⟩, h.bel.setCell (p := ⟨g, k, none⟩) hg _⟩
  · show (W.heap.modify g _)[g]? = _
    rw [Array.getElem?_modify, if_pos rfl, hh]
    rfl
  · rw [Array.getElem?_setIfInBounds]
    have hkc : k < cs.size := (Array.getElem?_eq_some_iff.1 (hc k hk)).1
    by_cases e : k = j
    · subst e
      rw [if_pos rfl, if_pos hkc, lw, if_pos (by omega), hx]
    · rw [if_neg e, hc j hj]
      unfold lw
      by_cases h1 : j < k
      · rw [if_pos h1, if_pos (by omega)]
      · rw [if_neg h1, if_neg (by omega)]
theorem Row.same {s : ByteArray} {g k : Nat} {w W : World} (h : Row s g k w W) (hk : k < s.size) (hx : low s[k] = s[k]) : Row s g (k + 1) w W := by
  obtain ⟨cs, fr, hh, hf, hc⟩ := h.cells
  refine ⟨⟨cs, fr, hh, hf, fun j hj => ?_⟩, h.bel⟩
  rw [hc j hj]
  unfold lw
  by_cases h1 : j < k
  · rw [if_pos h1, if_pos (by omega)]
  · by_cases e : j = k
    · subst e
      rw [if_neg h1, if_pos (by omega), hx]
    · rw [if_neg h1, if_neg (by omega)]
theorem row_made (s : ByteArray) (w : World) : Row s w.heap.size 0 w (w.drew.alloc (.cells (bytesRow s (grownCap w s.size 0 5)) 5 ((bytesRow s (grownCap w s.size 0 5)).size, (bytesRow s (grownCap w s.size 0 5)).size + 1))) := by
  refine ⟨⟨_, _, heap_alloc_new w.drew _, ?_, fun j hj => ?_⟩, ((Below.refl _ _).drew).alloc (Nat.le_refl _) _⟩
  · show s.size ≤ (bytesRow s _).size
    unfold bytesRow
    rw [Array.size_append, Array.size_map]
    exact Nat.le_add_right _ _
  · rw [bytesRow_at s _ j hj, lw, if_neg (by omega)]; rfl
theorem lowered (s : ByteArray) : (s.data.toList.map low).length = s.size := by rw [List.length_map]; rfl
set_option maxRecDepth 100000 in
set_option maxHeartbeats 1000000 in
theorem lower_any (s : ByteArray) (w : World) (hs : s.size ≤ 1000) : Calls Tryd.prog 21 #[.string s] w fun e w' => e = .returned (.string (str (s.data.toList.map low))) ∧ Below w.heap.size w w' := by
  have hcv := run_bytes_of_string (P := Tryd.prog) w 9 32 5 s Tryd.underlying9 Tryd.underlying32 Tryd.underlying5
  have HR0 := Lib.hid (row_made s w)
  obtain ⟨W1, hW1⟩ : ∃ W1, W1 = w.drew.alloc (.cells (bytesRow s (grownCap w s.size 0 5)) 5 ((bytesRow s (grownCap w s.size 0 5)).size, (bytesRow s (grownCap w s.size 0 5)).size + 1)) := ⟨_, rfl⟩
  rw [← hW1] at hcv HR0
  clear hW1
  generalize grownCap w s.size 0 5 = cp at hcv
  go_enter Tryd.func21, Tryd.ntmps21
  go_wp2
  go_loopg [10] (s.size + 1) (fun f i wr => ∃ k : Nat, s.size < k + f ∧ k ≤ s.size ∧ i = .int .i64 (k : Int) ∧ Row s w.heap.size k w wr)
  case atStart => exact ⟨0, by omega, by omega, rfl, HR0.out⟩
  case round =>
    obtain ⟨k, hkf, hk, rfl, hr⟩ := hrel
    clear hcv
    by_cases hlt : k < s.size
    · have q1 : (k : Int) < (s.size : Int) := by omega
      obtain ⟨hc, hf⟩ := hr.at hlt
      rw [show lw s k k hlt = s[k] by rw [lw, if_neg (by omega)]] at hc
      have HP := Lib.hid (fun (x : UInt8) (hx : x = low s[k]) => hr.put (Nat.le_refl _) hlt x hx)
      have HSM := Lib.hid (fun (hx : low s[k] = s[k]) => hr.same hlt hx)
      have hbt : s[k].toNat < 256 := s[k].toNat_lt
      generalize s[k] = b at hc HP HSM hbt
      clear hr
      by_cases h1 : 65 ≤ b.toNat ∧ b.toNat ≤ 90
      · have h2 : (b + 32).toNat = b.toNat + 32 := by rw [UInt8.toNat_add]; simp; omega
        have HN := HP.out (b + 32) (by rw [low, if_pos h1])
        rw [h2, show ((b.toNat + 32 : Nat) : Int) = (b.toNat : Int) + 32 by omega] at HN
        have HN2 := Lib.hid HN
        clear HN h2
        have q2 : (65 : Int) ≤ (b.toNat : Int) := by omega
        have q3 : (b.toNat : Int) ≤ 90 := by omega
        have q4 : IntKind.u8.wrap ((b.toNat : Int) + 32) = (b.toNat : Int) + 32 := by simp [IntKind.wrap, IntKind.bits, IntKind.signed]; omega
        generalize b.toNat = x at *
        go_wp2
        go_roundg (gk - 1)
        case measure => omega
        case rel => exact ⟨k + 1, by omega, by omega, by go_num, HN2.out⟩
      · have HN := Lib.hid (HSM.out (by rw [low, if_neg h1]))
        generalize b.toNat = x at *
        by_cases h2 : 65 ≤ x
        · have q2 : (65 : Int) ≤ (x : Int) := by omega
          have q3 : ¬ (x : Int) ≤ 90 := by omega
          go_wp2
          go_roundg (gk - 1)
          case measure => omega
          case rel => exact ⟨k + 1, by omega, by omega, by go_num, HN.out⟩
        · have q2 : ¬ (65 : Int) ≤ (x : Int) := by omega
          go_wp2
          go_roundg (gk - 1)
          case measure => omega
          case rel => exact ⟨k + 1, by omega, by omega, by go_num, HN.out⟩
    · obtain rfl : k = s.size := by omega
      have hb := run_convert_bytes_back (P := Tryd.prog) wr 32 9 5 ⟨w.heap.size, 0, none⟩ cp (s.data.toList.map low) Tryd.underlying32 Tryd.underlying5 Tryd.underlying9 (fun j hj => by
        have hj2 : j < s.size := by rw [← lowered s]; exact hj
        have e1 : (⟨w.heap.size, 0, none⟩ : Addr).add j = ⟨w.heap.size, j, none⟩ := by
          unfold Addr.add; split
          · rename_i h0; subst h0; rfl
          · simp
        rw [e1, (hr.at hj2).1, lw, if_pos hj2, List.getElem_map]
        rfl)
      rw [lowered] at hb
      have HB := Lib.hid hr.bel
      clear hr
      go_wp2
      go_ret
      exact ⟨rfl, HB.out⟩
end Go.Proofs.YtaeimdcmpjanbaaDoor.col
