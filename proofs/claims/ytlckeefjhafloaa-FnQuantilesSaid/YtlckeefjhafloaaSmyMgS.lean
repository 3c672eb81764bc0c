/- MergeSummaries, the reference's. Condition: at most 2^20 entries. -/
import Derived.Test.YtlckeefjhafloaaSmyMgI
set_option linter.unusedVariables false
set_option linter.unusedSimpArgs false
namespace Go.Proofs.Ytlckeefjhafloaa.smyMg
open Go.RowKit Go.Proofs.Ytlckeefjhafloaa.mem Go.Proofs.Ytlckeefjhafloaa.smy Go.Proofs.Ytlckeefjhafloaa.smyQ Go.Proofs.Ytlckeefjhafloaa.mgLaw

theorem drew_one {B : Nat} {a w : World} (h : Below B a w) : Below B a w.drew := below_drewN h 1
set_option maxRecDepth 100000 in
set_option maxHeartbeats 4000000 in
theorem moved_any {cb : Int} (x : Rkv) (B : Option Addr) (d : Nat) (o : List Rkv) (k : Nat) (w : World) (ho0 : o.length ≤ 64) (hBo : Bd o) (hc1 : 0 ≤ cb) (hc2 : cb ≤ 1000) (hx1 : 1 ≤ x.least) (hx2 : x.least ≤ 1000) (hx3 : 1 ≤ x.most) (hx4 : x.most ≤ 1000) (hk : k ≤ o.length) (hr2 : Rd w 3 B o.length (rkvs o)) :
    Calls Try.prog 88 #[.agg #[.int .i64 x.value, .int .i64 x.least, .int .i64 x.most], .agg #[.int .i64 cb, .slice B o.length d], .int .i64 (k : Int)] w fun e w' => e = .returned (.agg #[.int .i64 (moved x cb o k).value, .int .i64 (moved x cb o k).least, .int .i64 (moved x cb o k).most]) ∧ Below w.heap.size w w' := by
  have HM := Lib.hid (moved_lo x cb o k)
  have HBX := Lib.hid (fun (o o2 o3 : Obj) => (((Below.refl w.heap.size w).alloc (Nat.le_refl _) o).alloc (by simp) o2).alloc (by simp; omega) o3)
  have HZZ := Lib.hid (fun (a : Addr) (v : Value) (hc : w.cell? a = some v) (o1 o2 o3 : Obj) => cells_below (w' := ((w.alloc o1).alloc o2).alloc o3) ((((Below.refl w.heap.size w).alloc (Nat.le_refl _) o1).alloc (by simp) o2).alloc (by simp; omega) o3) hc)
  by_cases h0 : k = 0
  · subst h0
    by_cases h1 : 0 < o.length
    · obtain ⟨b, off, rfl, c0, c1, c2⟩ := hr2.rkv h1
      have hy := hBo 0 h1
      have HHI := Lib.hid (show hi cb o 0 = o[0].most - 1 by rw [hi, if_pos h1, getD_r o h1])
      simp only [Nat.zero_mul, Nat.add_zero, Nat.zero_add] at c0 c1 c2
      have c2z := HZZ.out _ _ c2
      have HLO := Lib.hid (show lo o 0 = 0 by simp [lo])
      generalize o[0] = y at c0 c1 c2 hy HHI c2z
      have q6 : IntKind.i64.wrap (x.most + y.most) = x.most + y.most := IntWalk.i64_in _ (by omega)
      have q7 : IntKind.i64.wrap (x.most + y.most - 1) = x.most + y.most - 1 := IntWalk.i64_in _ (by omega)
      clear hBo hr2
      go_enter Try.func88, Try.ntmps88
      go_wp2
      go_region_law (fail)
      all_goals
        go_wp2
        refine bodyPost_ret (v := .agg #[.int .i64 x.value, .int .i64 (x.least), .int .i64 (x.most + y.most - 1)]) (by simp [results, Try.results88, go_sem]) rfl ⟨?_, ?_⟩
        · rw [HM.out, HLO.out, HHI.out]; (try simp only [Int.add_zero, Int.add_sub_assoc])
        · first | exact HBX.out _ _ _ | exact drew_one (HBX.out _ _ _) | exact drew_one (drew_one (HBX.out _ _ _))
    · have HHI := Lib.hid (show hi cb o 0 = cb by rw [hi, if_neg h1])
      have hle : o.length ≤ 0 := by omega
      have HLO := Lib.hid (show lo o 0 = 0 by simp [lo])
      clear hBo hr2
      go_enter Try.func88, Try.ntmps88
      go_wp2
      refine bodyPost_ret (v := .agg #[.int .i64 x.value, .int .i64 (x.least), .int .i64 (x.most + cb)]) (by simp [results, Try.results88, go_sem]) rfl ⟨?_, ?_⟩
      · rw [HM.out, HLO.out, HHI.out]; (try simp only [Int.add_zero, Int.add_sub_assoc])
      · first | exact HBX.out _ _ _ | exact drew_one (HBX.out _ _ _) | exact drew_one (drew_one (HBX.out _ _ _))
  · by_cases h1 : k < o.length
    · obtain ⟨b, off, rfl, c0, c1, c2⟩ := hr2.rkv h1
      have hy := hBo k h1
      have HHI := Lib.hid (show hi cb o k = o[k].most - 1 by rw [hi, if_pos h1, getD_r o h1])
      have c2z := HZZ.out _ _ c2
      have hc' : w.cell? ⟨b, off + (k - 1) * 3 + 1, none⟩ = some (.int .i64 (o[k - 1]'(by omega)).least) := (hr2.rkv_at (by omega : k - 1 < o.length)).2.1
      have hz := hBo (k - 1) (by omega)
      have HLO := Lib.hid (show lo o k = (o[k - 1]'(by omega)).least by rw [lo, if_neg h0, getD_r o (by omega)])
      generalize o[k - 1]'(by omega) = z at hc' hz HLO
      have q1 : ((k : Int) - 1).toNat = k - 1 := by omega
      have q2 : (1 : Int) ≤ (k : Int) := by omega
      have q3 : (k : Int) - 1 < (o.length : Int) := by omega
      have q8 : 0 < k := by omega
      have q4 : IntKind.i64.wrap ((k : Int) - 1) = (k : Int) - 1 := IntWalk.i64_in _ (by omega)
      have q5 : IntKind.i64.wrap (x.least + z.least) = x.least + z.least := IntWalk.i64_in _ (by omega)
      have c3z := HZZ.out _ _ hc'
      clear h0
      generalize o[k] = y at c0 c1 c2 hy HHI c2z
      have q6 : IntKind.i64.wrap (x.most + y.most) = x.most + y.most := IntWalk.i64_in _ (by omega)
      have q7 : IntKind.i64.wrap (x.most + y.most - 1) = x.most + y.most - 1 := IntWalk.i64_in _ (by omega)
      clear hBo hr2
      go_enter Try.func88, Try.ntmps88
      go_wp2
      go_region_law (fail)
      all_goals
        go_wp2
        go_region_law (fail)
        all_goals
          go_wp2
          refine bodyPost_ret (v := .agg #[.int .i64 x.value, .int .i64 (x.least + z.least), .int .i64 (x.most + y.most - 1)]) (by simp [results, Try.results88, go_sem]) rfl ⟨?_, ?_⟩
          · rw [HM.out, HLO.out, HHI.out]; (try simp only [Int.add_zero, Int.add_sub_assoc])
          · first | exact HBX.out _ _ _ | exact drew_one (HBX.out _ _ _) | exact drew_one (drew_one (HBX.out _ _ _))
    · have HHI := Lib.hid (show hi cb o k = cb by rw [hi, if_neg h1])
      have hle : o.length ≤ k := by omega
      obtain ⟨b, off, rfl, c0, c1, c2⟩ := hr2.rkv (show k - 1 < o.length by omega); clear c0 c1 c2
      have hc' : w.cell? ⟨b, off + (k - 1) * 3 + 1, none⟩ = some (.int .i64 (o[k - 1]'(by omega)).least) := (hr2.rkv_at (by omega : k - 1 < o.length)).2.1
      have hz := hBo (k - 1) (by omega)
      have HLO := Lib.hid (show lo o k = (o[k - 1]'(by omega)).least by rw [lo, if_neg h0, getD_r o (by omega)])
      generalize o[k - 1]'(by omega) = z at hc' hz HLO
      have q1 : ((k : Int) - 1).toNat = k - 1 := by omega
      have q2 : (1 : Int) ≤ (k : Int) := by omega
      have q3 : (k : Int) - 1 < (o.length : Int) := by omega
      have q8 : 0 < k := by omega
      have q4 : IntKind.i64.wrap ((k : Int) - 1) = (k : Int) - 1 := IntWalk.i64_in _ (by omega)
      have q5 : IntKind.i64.wrap (x.least + z.least) = x.least + z.least := IntWalk.i64_in _ (by omega)
      have c3z := HZZ.out _ _ hc'
      clear h0
      clear hBo hr2
      go_enter Try.func88, Try.ntmps88
      go_wp2
      go_region_law (fail)
      all_goals
        go_wp2
        refine bodyPost_ret (v := .agg #[.int .i64 x.value, .int .i64 (x.least + z.least), .int .i64 (x.most + cb)]) (by simp [results, Try.results88, go_sem]) rfl ⟨?_, ?_⟩
        · rw [HM.out, HLO.out, HHI.out]; (try simp only [Int.add_zero, Int.add_sub_assoc])
        · first | exact HBX.out _ _ _ | exact drew_one (HBX.out _ _ _) | exact drew_one (drew_one (HBX.out _ _ _))
end Go.Proofs.Ytlckeefjhafloaa.smyMg
