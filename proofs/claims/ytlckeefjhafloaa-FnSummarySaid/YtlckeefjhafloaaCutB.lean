/- vCut: a suffix of a code in new memory. Condition: a code of at most 2^20 bytes. -/
import Derived.Test.YtlckeefjhafloaaCut
set_option linter.unusedVariables false
set_option linter.unusedSimpArgs false
namespace Go.Proofs.Ytlckeefjhafloaa.cutB
open Go.RowKit Go.Proofs.Ytlckeefjhafloaa.mem

theorem info_u8 : (Try.prog.info? 5).map (fun i => (i.zero, i.size, i.bytes)) = some (some (.int .u8 0), 1, 1) := by kernel_rfl
theorem u8s_one (zs : List Int) : ∀ u ∈ u8s zs, u.oneCell' = true := by
  intro u hu
  simp only [u8s, List.mem_map] at hu
  obtain ⟨z, _, rfl⟩ := hu
  rfl
theorem u8s_app (a b : List Int) : u8s (a ++ b) = u8s a ++ u8s b := by simp [u8s]
theorem len_u8s (zs : List Int) : (u8s zs).length = zs.length := by simp [u8s]
theorem u8s_drop (zs : List Int) (k : Nat) : u8s (zs.drop k) = (u8s zs).drop k := by simp [u8s]

set_option maxRecDepth 100000 in
set_option maxHeartbeats 1000000 in
theorem cut_any (A : Option Addr) (c m : Nat) (zs : List Int) (w : World) (hn : zs.length ≤ 1048576) (hnc : zs.length ≤ c) (hm : m ≤ 200) (hz : ∀ z ∈ zs, 0 ≤ z ∧ z ≤ 255) (hr : Rd w 1 A zs.length (u8s zs)) :
    Calls Try.prog 18 #[.slice A zs.length c, .int .i64 (m : Int)] w fun e w' => ∃ v ys, e = .returned v ∧ w'.ownsRow w.heap.size 5 1 v ys.length (u8s ys) ∧ (∀ z ∈ ys, 0 ≤ z ∧ z ≤ 255) ∧ ys.length ≤ zs.length + 1 ∧ Below w.heap.size w w' := by
  have HZ := Lib.hid hz
  clear hz
  obtain ⟨k, hkl, hkm, hkk⟩ : ∃ k : Nat, k ≤ zs.length ∧ k ≤ 200 ∧ ((zs.length < m ∧ k = zs.length) ∨ (m ≤ zs.length ∧ k = m)) := by
    by_cases h : zs.length < m
    · exact ⟨zs.length, by omega, by omega, Or.inl ⟨h, rfl⟩⟩
    · exact ⟨m, by omega, by omega, Or.inr ⟨by omega, rfl⟩⟩
  have h0 := World.ownsRow_made (e := 5) (size := 1) w #[] 0 (Nat.le_refl _) (Nat.zero_le _) (by simp)
  have hb0 : Below w.heap.size w (w.alloc (.cells #[] 5)) := (Below.refl _ _).alloc (Nat.le_refl _) _
  have hs0 := hb0.size
  have hrd : Rd w 1 (cutA A c k 1) (zs.length - k) (u8s (zs.drop k)) := by
    have := hr.cut_at (k := k) (m := zs.length - k) (cap := c) (by omega) hnc
    rw [Nat.mul_one, Nat.mul_one] at this
    rw [u8s_drop]
    rwa [List.take_of_length_le (by rw [List.length_drop, len_u8s]; omega)] at this
  have hr0 := hrd.alloc (.cells #[] 5)
  have hh2 : (zs.drop k).length ≤ 1099511627776 := by rw [List.length_drop]; omega
  have hh : 0 + (zs.length - k) ≤ 1099511627776 := by omega
  have HE := Lib.hid (fun (v : Value) (w1 : World) (ho : w1.ownsRow w.heap.size 5 1 v (0 + (zs.length - k)) ([] ++ u8s (zs.drop k))) => show w1.ownsRow w.heap.size 5 1 v (zs.drop k).length (u8s (zs.drop k)) by
    rw [List.length_drop]; simpa using ho)
  have HM := Lib.hid (fun z (h : z ∈ zs.drop k ++ [(k : Int)]) => show 0 ≤ z ∧ z ≤ 255 by
    rcases List.mem_append.1 h with h | h
    · exact HZ.out z (List.mem_of_mem_drop h)
    · obtain rfl := List.mem_singleton.1 h; omega)
  have hwr : IntKind.u8.wrap (k : Int) = (k : Int) := by simp only [IntKind.wrap, IntKind.bits, IntKind.signed]; simp; omega
  have HL := Lib.hid (show (zs.drop k ++ [(k : Int)]).length ≤ zs.length + 1 by rw [List.length_append, List.length_drop, List.length_singleton]; omega)
  have hru := fun W => run_from (P := Try.prog) 22 5 _ 1 1 Try.underlying22 info_u8 A zs.length c k (k : Int) rfl hkl W
  generalize hd : zs.length - k = d at *
  rcases hkk with ⟨q, hq⟩ | ⟨q, hq⟩
  · subst hq
    obtain rfl : d = 0 := by omega
    clear hd
    go_enter Try.func18, Try.ntmps18
    go_wp2_with (first | (at_builtin; refine mem.extend _ rfl _ _ 22 rfl w.heap.size 5 _ 1 1 Try.underlying22 info_u8 rfl Nat.one_pos _ _ _ rfl h0 _ _ _ _ rfl hr0 (u8s_one _) hh (by decide) hs0 ?_; intro v' w' ho' hg'; have ho2 := HE.out _ _ ho'; have hs2 := Nat.le_trans hs0 hg'.size; have hb1 := below_push hb0 hs0 hg' h0; clear ho' hg') | (at_builtin; refine mem.push _ rfl _ _ 22 rfl w.heap.size 5 _ 1 1 Try.underlying22 info_u8 rfl Nat.one_pos _ _ _ rfl ho2 [.int .u8 (zs.length : Int)] _ rfl (u8s_one [(zs.length : Int)]) rfl hh2 (by decide) hs2 ?_; intro v2 w2 ho3 hg3))
    have hb3 := below_push hb1 hs2 hg3 ho2
    have HF := Lib.hid (show w2.ownsRow w.heap.size 5 1 v2 (zs.drop zs.length ++ [(zs.length : Int)]).length (u8s (zs.drop zs.length ++ [(zs.length : Int)])) by
      rw [List.length_append, List.length_singleton, u8s_app]; exact ho3)
    clear ho2 ho3
    go_wp2
    go_ret
    first | exact ⟨_, rfl, _, HF.out, HM.out, HL.out, hb3⟩ | exact ⟨_, _, rfl, HF.out, HM.out, HL.out, hb3⟩
  · subst hq
    clear hd
    go_enter Try.func18, Try.ntmps18
    go_wp2_with (first | (at_builtin; refine mem.extend _ rfl _ _ 22 rfl w.heap.size 5 _ 1 1 Try.underlying22 info_u8 rfl Nat.one_pos _ _ _ rfl h0 _ _ _ _ rfl hr0 (u8s_one _) hh (by decide) hs0 ?_; intro v' w' ho' hg'; have ho2 := HE.out _ _ ho'; have hs2 := Nat.le_trans hs0 hg'.size; have hb1 := below_push hb0 hs0 hg' h0; clear ho' hg') | (at_builtin; refine mem.push _ rfl _ _ 22 rfl w.heap.size 5 _ 1 1 Try.underlying22 info_u8 rfl Nat.one_pos _ _ _ rfl ho2 [.int .u8 (k : Int)] _ rfl (u8s_one [(k : Int)]) rfl hh2 (by decide) hs2 ?_; intro v2 w2 ho3 hg3))
    have hb3 := below_push hb1 hs2 hg3 ho2
    have HF := Lib.hid (show w2.ownsRow w.heap.size 5 1 v2 (zs.drop k ++ [(k : Int)]).length (u8s (zs.drop k ++ [(k : Int)])) by
      rw [List.length_append, List.length_singleton, u8s_app]; exact ho3)
    clear ho2 ho3
    go_wp2
    go_ret
    first | exact ⟨_, rfl, _, HF.out, HM.out, HL.out, hb3⟩ | exact ⟨_, _, rfl, HF.out, HM.out, HL.out, hb3⟩
end Go.Proofs.Ytlckeefjhafloaa.cutB
