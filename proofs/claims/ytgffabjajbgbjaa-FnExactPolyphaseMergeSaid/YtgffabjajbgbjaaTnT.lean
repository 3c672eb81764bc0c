/- The program's tournament tree: treeOf, pathLength. Condition: 1 to 1024 leaves. -/
import Derived.Test.YtgffabjajbgbjaaTnP
set_option linter.unusedVariables false
set_option linter.unusedSimpArgs false
namespace Go.Proofs.Ytgffabjajbgbjaa.tn
open Go.RowKit Go.Proofs.Ytgffabjajbgbjaa.mem

set_option maxRecDepth 100000 in
set_option maxHeartbeats 1000000 in
theorem path_any (k i : Nat) (w : World) (hk : k ≤ 1024) (hi : i ≤ 1024) :
    Calls Try.prog 98 #[.int .i64 k, .int .i64 i] w fun e w' => e = .returned (.int .i64 (up ((k + i) / 2) : Nat)) ∧ w' = w := by
  have q1 : IntKind.i64.wrap ((k : Int) + (i : Int)) = (k : Int) + (i : Int) := by rw [IntKind.wrap_i64]; omega
  have q2 : ((k : Int) + (i : Int)).tdiv 2 = (((k + i) / 2 : Nat) : Int) := by rw [Int.tdiv_eq_ediv_of_nonneg (by omega)]; omega
  have q3 : IntKind.i64.wrap (((k + i) / 2 : Nat) : Int) = (((k + i) / 2 : Nat) : Int) := by rw [IntKind.wrap_i64]; omega
  obtain ⟨p0, hp0⟩ : ∃ p0, p0 = (k + i) / 2 := ⟨_, rfl⟩
  rw [← hp0] at q2 q3 ⊢
  have hb : p0 ≤ 1024 := by omega
  clear hp0
  go_enter Try.func98, Try.ntmps98
  go_wp2
  clear q1 q2 q3
  go_loopw [5, 6] (fun x y wr => ∃ n p : Nat, x = .int .i64 (n : Int) ∧ y = .int .i64 (p : Int) ∧ p ≤ 1024 ∧ n + up p = up p0 ∧ wr = w) (fun _ y _ => (intOf y).toNat)
  case atStart => exact ⟨0, p0, rfl, rfl, hb, by omega, rfl⟩
  case round =>
    obtain ⟨n, p, rfl, rfl, hp, hup, rfl⟩ := hrel
    have hul := up_le p0
    have HUP := Lib.hid hup
    by_cases hlt : 1 ≤ p
    · have hpu := up_pos (show 0 < p by omega)
      have q4 : (1 : Int) ≤ (p : Int) := by omega
      have q5 : (p : Int).tdiv 2 = ((p / 2 : Nat) : Int) := by rw [Int.tdiv_eq_ediv_of_nonneg (by omega)]; omega
      have q6 : IntKind.i64.wrap ((p / 2 : Nat) : Int) = ((p / 2 : Nat) : Int) := by rw [IntKind.wrap_i64]; omega
      have q7 : IntKind.i64.wrap ((n : Int) + 1) = (n : Int) + 1 := by rw [IntKind.wrap_i64]; omega
      have HPU := Lib.hid hpu
      obtain ⟨r, hr⟩ : ∃ r, r = p / 2 := ⟨_, rfl⟩
      rw [← hr] at q5 q6
      have HR := Lib.hid hr
      clear hr hpu hup
      go_wp2
      go_roundw
      case rel => exact ⟨n + 1, r, by go_num, rfl, by have := HR.out; omega, by have h1 := HUP.out; have h2 := HPU.out; rw [← HR.out] at h2; omega, by first | trivial | rfl⟩
      case measure => have := HR.out; simp [intOf]; omega
    · have q4 : ¬ (1 : Int) ≤ (p : Int) := by omega
      have HE := Lib.hid (show n = up p0 by
        have e : p = 0 := by omega
        have h1 := HUP.out
        rw [e, up_zero] at h1; omega)
      clear hup
      go_wp2
      go_ret
      exact ⟨by rw [HE.out]; rfl, rfl⟩
theorem own_some {w : World} {base n : Nat} {e : TypeId} {sz : Nat} {v : Value} {xs : List Value} (h : w.ownsRow base e sz v n xs) (h0 : 0 < n) : ∃ g c, v = .slice (some ⟨g, 0, none⟩) n c ∧ base ≤ g ∧ g < w.heap.size := by
  have hl := h.lt
  rcases h.2 with ⟨rfl, h1⟩ | ⟨g, cap, cur, rfl, hb, _⟩
  · omega
  · exact ⟨g, cap, rfl, hb, (hl g rfl).2⟩
set_option maxRecDepth 100000 in
set_option maxHeartbeats 2000000 in
theorem tree_any (A B : Option Addr) (c d k : Nat) (ks : List Int) (ds : List Bool) (w : World) (hk : ks.length = k) (hd : ds.length = k) (h0 : 0 < k) (hn : k ≤ 1024) (hrk : Rd w 1 A k (ints ks)) (hrd : Rd w 1 B k (bools ds)) :
    Calls Try.prog 97 #[.slice A k c, .slice B k d] w fun e w' => ∃ x y z, e = .returned (.agg #[x, y, z, .int .i64 (win ks ds k 1 : Nat)]) ∧ Below w.heap.size w w' := by
  subst hk
  have HD := Lib.hid hd
  have HK := Lib.hid (fun W (h : Below w.heap.size w W) => copyInt.impl_any A c ks W (by omega) (hrk.below h))
  have HDC := Lib.hid (fun W (h : Below w.heap.size w W) => show Calls Try.prog 109 #[.slice B ks.length d] W fun e w' => ∃ v, e = .returned v ∧ w'.ownsRow W.heap.size 4 1 v ks.length (bools ds) ∧ Below W.heap.size W w' by
    have h2 := copy_bool B d ds W (by omega) (by rw [hd]; exact hrd.below h)
    rw [hd] at h2; exact h2)
  clear hd hrk hrd
  go_enter Try.func97, Try.ntmps97
  go_wp2_with fail
  have hba := (Below.refl w.heap.size w).alloc (Nat.le_refl _) (.cells #[.slice none 0 0, .slice none 0 0, .slice none 0 0, .int .i64 0] 96)
  have HR0 := Lib.hid (Blk.new w 96 #[.slice none 0 0, .slice none 0 0, .slice none 0 0, .int .i64 0])
  refine (HK.out _ hba).mono ?_
  rintro e w1 ⟨v1, rfl, ho1, hb1⟩
  have hb01 := below_step hba hb1
  have HR1 := Lib.hid (HR0.out.below hb1 (by simp))
  go_wp2_with fail
  refine (HDC.out _ hb01).mono ?_
  rintro e w2 ⟨v2, rfl, ho2, hb2⟩
  have hb02 := below_step hb01 hb2
  have HR2 := Lib.hid (HR1.out.below hb2 HR1.out.lt)
  have ho1' := own_below ho1 hb2
  have hs1 := hb1.size
  have hs2 := hb2.size
  simp only [World.size_alloc] at hs1
  obtain ⟨g1, ca, rfl, hg1, hg1l⟩ := own_some ho1' h0
  obtain ⟨g2, cb, rfl, hg2, hg2l⟩ := own_some ho2 h0
  have HRK := Lib.hid ((own_rd ho1').below ((Below.refl w2.heap.size w2).alloc (Nat.le_refl _) (.cells #[.slice (some ⟨g1, 0, none⟩) ks.length ca, .slice (some ⟨g2, 0, none⟩) ks.length cb, .slice none 0 0, .int .i64 0] 96)))
  have HRD := Lib.hid ((own_rd ho2).below ((Below.refl w2.heap.size w2).alloc (Nat.le_refl _) (.cells #[.slice (some ⟨g1, 0, none⟩) ks.length ca, .slice (some ⟨g2, 0, none⟩) ks.length cb, .slice none 0 0, .int .i64 0] 96)))
  have HP := Lib.hid (play_any (w2.alloc (.cells #[.slice (some ⟨g1, 0, none⟩) ks.length ca, .slice (some ⟨g2, 0, none⟩) ks.length cb, .slice none 0 0, .int .i64 0] 96)) w2.heap.size ks.length g1 0 ca g2 0 cb _ 0 ks ds rfl HD.out h0 hn (by omega) (by omega) (by simp; omega) (by simp; omega) (Blk.new _ _ _) HRK.out HRD.out)
  have HBA := Lib.hid (hb02.alloc hb02.size (.cells #[.slice (some ⟨g1, 0, none⟩) ks.length ca, .slice (some ⟨g2, 0, none⟩) ks.length cb, .slice none 0 0, .int .i64 0] 96))
  have HR3 := Lib.hid (HR2.out.alloc (.cells #[.slice (some ⟨g1, 0, none⟩) ks.length ca, .slice (some ⟨g2, 0, none⟩) ks.length cb, .slice none 0 0, .int .i64 0] 96))
  have HLW := Lib.hid (show w.heap.size < w2.heap.size ∧ w.heap.size ≤ w2.heap.size by omega)
  clear ho1 ho1' ho2 hb1 hb2 hs1 hs2 hg1 hg1l hg2 hg2l hb01 hb02 hba
  go_wp2_with fail
  refine HP.out.mono ?_
  rintro e w4 ⟨rfl, b4, hB4, hg4⟩
  have HB4 := Lib.hid (below_grown HBA.out HBA.out.size hg4 (fun g hg => by cases hg; exact HLW.out.2))
  have HR4 := Lib.hid (HR3.out.grown hg4 (by intro e; injection e with e; have := HLW.out.1; omega))
  have c0 := hB4.cell 0
  have c1 := hB4.cell 1
  have c2 := hB4.cell 2
  have c3 := hB4.cell 3
  have d0 := HR4.out.cell 0
  have d1 := HR4.out.cell 1
  have d2 := HR4.out.cell 2
  have d3 := HR4.out.cell 3
  have f0 := fun i => HR4.out.thaw i
  simp only [List.getElem?_toArray, List.getElem?_cons_zero, List.getElem?_cons_succ] at c0 c1 c2 c3 d0 d1 d2 d3
  go_wp2
  refine bodyPost_ret (v := .agg #[.slice (some ⟨g1, 0, none⟩) ks.length ca, .slice (some ⟨g2, 0, none⟩) ks.length cb, .slice (some ⟨b4, 0, none⟩) ks.length ks.length, .int .i64 (win ks ds ks.length 1 : Nat)]) (by simp [results, Try.results97, go_sem, d0, d1, d2, d3]) rfl ⟨_, _, _, rfl, ?_⟩
  exact (((HB4.out.setCell (Nat.le_refl _) _).setCell (Nat.le_refl _) _).setCell (Nat.le_refl _) _).setCell (Nat.le_refl _) _
end Go.Proofs.Ytgffabjajbgbjaa.tn
