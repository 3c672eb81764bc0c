/- Two groups of one key in one, the reference's. No condition but small numbers. -/
import Derived.Test.YtgngoedooemboaaGpS
import Derived.Test.YtgngoedooemboaaMgG
import Derived.Deep.RegionHeld3
set_option linter.unusedVariables false
set_option linter.unusedSimpArgs false
namespace Go.Proofs.Ytgngoedooemboaa.gm
open Go.RowKit Go.Proofs.Ytgngoedooemboaa.mem Go.Proofs.Ytgngoedooemboaa.stb Go.Proofs.Ytgngoedooemboaa.gj

set_option maxRecDepth 100000 in
set_option maxHeartbeats 4000000 in
theorem both_any (x y : Grp) (w : World) (hx : (0 ≤ x.count ∧ x.count ≤ 1048576) ∧ (0 ≤ x.sum ∧ x.sum ≤ 1048576)) (hy : (0 ≤ y.count ∧ y.count ≤ 1048576) ∧ (0 ≤ y.sum ∧ y.sum ≤ 1048576)) :
    Calls Try.prog 80 #[.agg #[.int .i64 x.key, .int .i64 x.count, .int .i64 x.sum, .int .i64 x.least, .int .i64 x.most], .agg #[.int .i64 y.key, .int .i64 y.count, .int .i64 y.sum, .int .i64 y.least, .int .i64 y.most]] w fun e w' => e = .returned (.agg #[.int .i64 x.key, .int .i64 (x.count + y.count), .int .i64 (x.sum + y.sum), .int .i64 (min x.least y.least), .int .i64 (max x.most y.most)]) ∧ Below w.heap.size w w' := by
  have HBLK := Lib.hid (box3 w 71 71 71 #[.int .i64 x.key, .int .i64 x.count, .int .i64 x.sum, .int .i64 x.least, .int .i64 x.most] #[.int .i64 y.key, .int .i64 y.count, .int .i64 y.sum, .int .i64 y.least, .int .i64 y.most] #[.int .i64 0, .int .i64 0, .int .i64 0, .int .i64 0, .int .i64 0])
  have pc : IntKind.i64.wrap (x.count + y.count) = x.count + y.count := IntWalk.i64_in _ (by omega)
  have ps : IntKind.i64.wrap (x.sum + y.sum) = x.sum + y.sum := IntWalk.i64_in _ (by omega)
  clear hx hy
  go_enter Try.func80, Try.ntmps80
  go_wp2_with fail
  obtain ⟨hX, hY, hZ, hB⟩ := HBLK.out
  obtain ⟨wq, hwq⟩ : ∃ W : World, W = ((w.alloc (.cells #[.int .i64 x.key, .int .i64 x.count, .int .i64 x.sum, .int .i64 x.least, .int .i64 x.most] 71)).alloc (.cells #[.int .i64 y.key, .int .i64 y.count, .int .i64 y.sum, .int .i64 y.least, .int .i64 y.most] 71)).alloc (.cells #[.int .i64 0, .int .i64 0, .int .i64 0, .int .i64 0, .int .i64 0] 71) := ⟨_, rfl⟩
  rw [← hwq] at hX hY hZ hB ⊢
  have x0 : wq.cell? ⟨w.heap.size, 0, none⟩ = some (.int .i64 x.key) := hX.cell 0
  have x1 : wq.cell? ⟨w.heap.size, 1, none⟩ = some (.int .i64 x.count) := hX.cell 1
  have x2 : wq.cell? ⟨w.heap.size, 2, none⟩ = some (.int .i64 x.sum) := hX.cell 2
  have x3 : wq.cell? ⟨w.heap.size, 3, none⟩ = some (.int .i64 x.least) := hX.cell 3
  have x4 : wq.cell? ⟨w.heap.size, 4, none⟩ = some (.int .i64 x.most) := hX.cell 4
  have y1 : wq.cell? ⟨w.heap.size + 1, 1, none⟩ = some (.int .i64 y.count) := hY.cell 1
  have y2 : wq.cell? ⟨w.heap.size + 1, 2, none⟩ = some (.int .i64 y.sum) := hY.cell 2
  have y3 : wq.cell? ⟨w.heap.size + 1, 3, none⟩ = some (.int .i64 y.least) := hY.cell 3
  have y4 : wq.cell? ⟨w.heap.size + 1, 4, none⟩ = some (.int .i64 y.most) := hY.cell 4
  have z0 : wq.cell? ⟨w.heap.size + 2, 0, none⟩ = some (.int .i64 0) := hZ.cell 0
  have z1 : wq.cell? ⟨w.heap.size + 2, 1, none⟩ = some (.int .i64 0) := hZ.cell 1
  have z2 : wq.cell? ⟨w.heap.size + 2, 2, none⟩ = some (.int .i64 0) := hZ.cell 2
  have z3 : wq.cell? ⟨w.heap.size + 2, 3, none⟩ = some (.int .i64 0) := hZ.cell 3
  have z4 : wq.cell? ⟨w.heap.size + 2, 4, none⟩ = some (.int .i64 0) := hZ.cell 4
  have f1 := fun i => hZ.thaw i
  have HBQ := Lib.hid hB
  have HBZ := Lib.hid (below_drewN ((((((Below.refl (w.heap.size + 2) wq).setCell (p := ⟨w.heap.size + 1 + 1, 0, none⟩) (by simp only; omega) (.int .i64 x.key)).setCell (p := ⟨w.heap.size + 1 + 1, 1, none⟩) (by simp only; omega) (.int .i64 (x.count + y.count))).setCell (p := ⟨w.heap.size + 1 + 1, 2, none⟩) (by simp only; omega) (.int .i64 (x.sum + y.sum))).setCell (p := ⟨w.heap.size + 1 + 1, 3, none⟩) (by simp only; omega) (.int .i64 (min x.least y.least))).setCell (p := ⟨w.heap.size + 1 + 1, 4, none⟩) (by simp only; omega) (.int .i64 (max x.most y.most))) 1)
  have HBO := Lib.hid (below_drewN (((((hB.setCell (p := ⟨w.heap.size + 1 + 1, 0, none⟩) (by simp only; omega) (.int .i64 x.key)).setCell (p := ⟨w.heap.size + 1 + 1, 1, none⟩) (by simp only; omega) (.int .i64 (x.count + y.count))).setCell (p := ⟨w.heap.size + 1 + 1, 2, none⟩) (by simp only; omega) (.int .i64 (x.sum + y.sum))).setCell (p := ⟨w.heap.size + 1 + 1, 3, none⟩) (by simp only; omega) (.int .i64 (min x.least y.least))).setCell (p := ⟨w.heap.size + 1 + 1, 4, none⟩) (by simp only; omega) (.int .i64 (max x.most y.most))) 1)
  clear hX hY hZ hB hwq
  refine wp_region_held_drew (S := fun w' => ((((w'.cell? ⟨w.heap.size, 0, none⟩ = some (.int .i64 x.key) ∧ w'.cell? ⟨w.heap.size, 1, none⟩ = some (.int .i64 x.count)) ∧ (w'.cell? ⟨w.heap.size, 2, none⟩ = some (.int .i64 x.sum) ∧ w'.cell? ⟨w.heap.size, 3, none⟩ = some (.int .i64 x.least))) ∧ w'.cell? ⟨w.heap.size, 4, none⟩ = some (.int .i64 x.most)) ∧ (w'.cell? ⟨w.heap.size + 1, 1, none⟩ = some (.int .i64 y.count) ∧ w'.cell? ⟨w.heap.size + 1, 2, none⟩ = some (.int .i64 y.sum))) ∧ (w'.cell? ⟨w.heap.size + 1, 3, none⟩ = some (.int .i64 y.least) ∧ w'.cell? ⟨w.heap.size + 1, 4, none⟩ = some (.int .i64 y.most))) (by kernel_rfl) ⟨⟨⟨⟨⟨x0, x1⟩, ⟨x2, x3⟩⟩, x4⟩, ⟨y1, y2⟩⟩, ⟨y3, y4⟩⟩ (fun hHeld => ?_)
  refine' wpAnyH_take (i := 0) (oi := Oper.mk (some 5) _ _ _ _ _) (v := _) rfl (by kernel_rfl) (by kernel_rfl) (by kernel_rfl) (fun _ _ _ h => h) (Or.inl ⟨by rfl, ?yy1⟩) (by assumption) ?rr1
  case yy1 => (intro w hSw; (try dsimp only at hSw); go_simp; (try with_reducible rfl))
  try simp only [Act.put, List.setIfInBounds_toArray, List.set_cons_zero, List.set_cons_succ]
  refine' wpAnyH_take (i := 1) (oi := Oper.mk (some 6) _ _ _ _ _) (v := _) rfl (by kernel_rfl) (by kernel_rfl) (by kernel_rfl) (fun _ _ _ h => h) (Or.inl ⟨by rfl, ?yy2⟩) (by assumption) ?rr2
  case yy2 => (intro w hSw; (try dsimp only at hSw); go_simp; (try with_reducible rfl))
  try simp only [Act.put, List.setIfInBounds_toArray, List.set_cons_zero, List.set_cons_succ]
  refine' wpAnyH_take (i := 2) (oi := Oper.mk (some 7) _ _ _ _ _) (v := _) rfl (by kernel_rfl) (by kernel_rfl) (by kernel_rfl) (fun _ _ _ h => h) (Or.inl ⟨by rfl, ?yy3⟩) (by assumption) ?rr3
  case yy3 => (intro w hSw; (try dsimp only at hSw); go_simp; (try with_reducible rfl))
  try simp only [Act.put, List.setIfInBounds_toArray, List.set_cons_zero, List.set_cons_succ]
  refine' wpAnyH_take (i := 3) (oi := Oper.mk (some 8) _ _ _ _ _) (v := _) rfl (by kernel_rfl) (by kernel_rfl) (by kernel_rfl) (fun _ _ _ h => h) (Or.inl ⟨by rfl, ?yy4⟩) (by assumption) ?rr4
  case yy4 => (intro w hSw; (try dsimp only at hSw); go_simp; (try with_reducible rfl))
  try simp only [Act.put, List.setIfInBounds_toArray, List.set_cons_zero, List.set_cons_succ]
  refine' wpAnyH_take (i := 4) (oi := Oper.mk (some 9) _ _ _ _ _) (v := _) rfl (by kernel_rfl) (by kernel_rfl) (by kernel_rfl) (fun _ _ _ h => h) (Or.inl ⟨by rfl, ?yy5⟩) (by assumption) ?rr5
  case yy5 => (intro w hSw; (try dsimp only at hSw); go_simp; (try with_reducible rfl))
  try simp only [Act.put, List.setIfInBounds_toArray, List.set_cons_zero, List.set_cons_succ]
  refine' wpAnyH_take (i := 5) (oi := Oper.mk (some 10) _ _ _ _ _) (v := _) rfl (by kernel_rfl) (by kernel_rfl) (by kernel_rfl) (fun _ _ _ h => h) (Or.inl ⟨by rfl, ?yy6⟩) (by assumption) ?rr6
  case yy6 => (intro w hSw; (try dsimp only at hSw); go_simp; (try with_reducible rfl))
  try simp only [Act.put, List.setIfInBounds_toArray, List.set_cons_zero, List.set_cons_succ]
  refine' wpAnyH_take (i := 6) (oi := Oper.mk (some 11) _ _ _ _ _) (v := _) rfl (by kernel_rfl) (by kernel_rfl) (by kernel_rfl) (fun _ _ _ h => h) (Or.inl ⟨by rfl, ?yy7⟩) (by assumption) ?rr7
  case yy7 => (intro w hSw; (try dsimp only at hSw); go_simp; (try with_reducible rfl))
  try simp only [Act.put, List.setIfInBounds_toArray, List.set_cons_zero, List.set_cons_succ]
  refine' wpAnyH_take (i := 7) (oi := Oper.mk (some 12) _ _ _ _ _) (v := _) rfl (by kernel_rfl) (by kernel_rfl) (by kernel_rfl) (fun _ _ _ h => h) (Or.inl ⟨by rfl, ?yy8⟩) (by assumption) ?rr8
  case yy8 => (intro w hSw; (try dsimp only at hSw); go_simp; (try with_reducible rfl))
  try simp only [Act.put, List.setIfInBounds_toArray, List.set_cons_zero, List.set_cons_succ]
  refine' wpAnyH_take (i := 8) (oi := Oper.mk (some 13) _ _ _ _ _) (v := _) rfl (by kernel_rfl) (by kernel_rfl) (by kernel_rfl) (fun _ _ _ h => h) (Or.inl ⟨by rfl, ?yy9⟩) (by assumption) ?rr9
  case yy9 => (intro w hSw; (try dsimp only at hSw); go_simp; (try with_reducible rfl))
  try simp only [Act.put, List.setIfInBounds_toArray, List.set_cons_zero, List.set_cons_succ]
  refine' wpAnyH_take (i := 9) (oi := Oper.mk (some 14) _ _ _ _ _) (v := _) rfl (by kernel_rfl) (by kernel_rfl) (by kernel_rfl) (fun _ _ _ h => h) (Or.inl ⟨by rfl, ?yy10⟩) (by assumption) ?rr10
  case yy10 => (intro w hSw; (try dsimp only at hSw); go_simp; (try with_reducible rfl))
  try simp only [Act.put, List.setIfInBounds_toArray, List.set_cons_zero, List.set_cons_succ]
  refine' wpAnyH_take (i := 10) (oi := Oper.mk (some 15) _ _ _ _ _) (v := _) rfl (by kernel_rfl) (by kernel_rfl) (by kernel_rfl) (fun _ _ _ h => h) (Or.inl ⟨by rfl, ?yy11⟩) (by assumption) ?rr11
  case yy11 => (intro w hSw; (try dsimp only at hSw); go_simp; (try with_reducible rfl))
  try simp only [Act.put, List.setIfInBounds_toArray, List.set_cons_zero, List.set_cons_succ]
  refine' wpAnyH_take (i := 11) (oi := Oper.mk (some 16) _ _ _ _ _) (v := _) rfl (by kernel_rfl) (by kernel_rfl) (by kernel_rfl) (fun _ _ _ h => h) (Or.inl ⟨by rfl, ?yy12⟩) (by assumption) ?rr12
  case yy12 => (intro w hSw; (try dsimp only at hSw); go_simp; (try with_reducible rfl))
  try simp only [Act.put, List.setIfInBounds_toArray, List.set_cons_zero, List.set_cons_succ]
  refine' wpAnyH_take (i := 12) (oi := Oper.mk (some 17) _ _ _ _ _) (v := _) rfl (by kernel_rfl) (by kernel_rfl) (by kernel_rfl) (fun _ _ _ h => h) (Or.inl ⟨by rfl, ?yy13⟩) (by assumption) ?rr13
  case yy13 => (intro w hSw; (try dsimp only at hSw); go_simp; (try with_reducible rfl))
  try simp only [Act.put, List.setIfInBounds_toArray, List.set_cons_zero, List.set_cons_succ]
  refine' wpAnyH_take (i := 13) (oi := Oper.mk (some 18) _ _ _ _ _) (v := _) rfl (by kernel_rfl) (by kernel_rfl) (by kernel_rfl) (fun _ _ _ h => h) (Or.inl ⟨by rfl, ?yy14⟩) (by assumption) ?rr14
  case yy14 => (intro w hSw; (try dsimp only at hSw); go_simp; (try with_reducible rfl))
  try simp only [Act.put, List.setIfInBounds_toArray, List.set_cons_zero, List.set_cons_succ]
  refine' wpAnyH_take (i := 14) (oi := Oper.mk (some 19) _ _ _ _ _) (v := _) rfl (by kernel_rfl) (by kernel_rfl) (by kernel_rfl) (fun _ _ _ h => h) (Or.inl ⟨by rfl, ?yy15⟩) (by assumption) ?rr15
  case yy15 => (intro w hSw; (try dsimp only at hSw); go_simp; (try with_reducible rfl))
  try simp only [Act.put, List.setIfInBounds_toArray, List.set_cons_zero, List.set_cons_succ]
  refine' wpAnyH_take (i := 15) (oi := Oper.mk (some 20) _ _ _ _ _) (v := _) rfl (by kernel_rfl) (by kernel_rfl) (by kernel_rfl) (fun _ _ _ h => h) (Or.inl ⟨by rfl, ?yy16⟩) (by assumption) ?rr16
  case yy16 => (intro w hSw; (try dsimp only at hSw); go_simp; (try with_reducible rfl))
  try simp only [Act.put, List.setIfInBounds_toArray, List.set_cons_zero, List.set_cons_succ]
  refine' wpAnyH_take (i := 17) (oi := Oper.mk (some 22) _ _ _ _ _) (v := _) rfl (by kernel_rfl) (by kernel_rfl) (by kernel_rfl) (fun _ _ _ h => h) (Or.inl ⟨by rfl, ?yy17⟩) (by assumption) ?rr17
  case yy17 => (intro w hSw; (try dsimp only at hSw); go_simp; (try with_reducible rfl))
  try simp only [Act.put, List.setIfInBounds_toArray, List.set_cons_zero, List.set_cons_succ]
  refine' wpAnyH_take (i := 18) (oi := Oper.mk (some 23) _ _ _ _ _) (v := _) rfl (by kernel_rfl) (by kernel_rfl) (by kernel_rfl) (fun _ _ _ h => h) (Or.inl ⟨by rfl, ?yy18⟩) (by assumption) ?rr18
  case yy18 => (intro w hSw; (try dsimp only at hSw); go_simp; (try with_reducible rfl))
  try simp only [Act.put, List.setIfInBounds_toArray, List.set_cons_zero, List.set_cons_succ]
  refine' wpAnyH_take (i := 19) (oi := Oper.mk (some 24) _ _ _ _ _) (v := _) rfl (by kernel_rfl) (by kernel_rfl) (by kernel_rfl) (fun _ _ _ h => h) (Or.inl ⟨by rfl, ?yy19⟩) (by assumption) ?rr19
  case yy19 => (intro w hSw; (try dsimp only at hSw); go_simp; (try with_reducible rfl))
  try simp only [Act.put, List.setIfInBounds_toArray, List.set_cons_zero, List.set_cons_succ]
  refine' wpAnyH_take (i := 20) (oi := Oper.mk (some 25) _ _ _ _ _) (v := _) rfl (by kernel_rfl) (by kernel_rfl) (by kernel_rfl) (fun _ _ _ h => h) (Or.inl ⟨by rfl, ?yy20⟩) (by assumption) ?rr20
  case yy20 => (intro w hSw; (try dsimp only at hSw); go_simp; (try with_reducible rfl))
  try simp only [Act.put, List.setIfInBounds_toArray, List.set_cons_zero, List.set_cons_succ]
  refine wpAnyH_ready (rs := [16]) (by kernel_rfl) (by simp) ?_
  refine AllReadyH.cons (o := Oper.mk (some 21) _ _ _ _ _) rfl (fun K hK => ?_) AllReadyH.nil
  go_simp
  refine (gp.least_any x.least y.least _).mono ?_; rintro e w3 ⟨rfl, rfl⟩
  go_wp2_with fail
  refine hK.out _ _ (by assumption) (fun hHeld => ?_)
  clear hK K
  try simp only [Act.put, List.setIfInBounds_toArray, List.set_cons_zero, List.set_cons_succ]
  refine wpAnyH_ready (rs := [21]) (by kernel_rfl) (by simp) ?_
  refine AllReadyH.cons (o := Oper.mk (some 26) _ _ _ _ _) rfl (fun K hK => ?_) AllReadyH.nil
  go_simp
  refine (gp.most_any x.most y.most _).mono ?_; rintro e w3 ⟨rfl, rfl⟩
  go_wp2_with fail
  refine hK.out _ _ (by assumption) (fun hHeld => ?_)
  clear hK K
  try simp only [Act.put, List.setIfInBounds_toArray, List.set_cons_zero, List.set_cons_succ]
  refine' wpAnyH_take (i := 22) (oi := Oper.mk (some 27) _ _ _ _ _) (v := _) rfl (by kernel_rfl) (by kernel_rfl) (by kernel_rfl) (fun _ _ _ h => h) (Or.inl ⟨by rfl, ?yy21⟩) (by assumption) ?rr21
  case yy21 => (intro w hSw; (try dsimp only at hSw); go_simp; (try with_reducible rfl))
  try simp only [Act.put, List.setIfInBounds_toArray, List.set_cons_zero, List.set_cons_succ]
  refine wpAnyH_ready (rs := [23]) (by kernel_rfl) (by simp) ?_
  refine AllReadyH.cons (o := Oper.mk none _ _ _ _ _) rfl (fun K hK => ?_) AllReadyH.nil
  go_simp
  refine hK.out _ _ ⟨⟨⟨⟨⟨(HBZ.out.cell (p := ⟨w.heap.size, 0, none⟩) (by simp only; omega)).trans x0, (HBZ.out.cell (p := ⟨w.heap.size, 1, none⟩) (by simp only; omega)).trans x1⟩, ⟨(HBZ.out.cell (p := ⟨w.heap.size, 2, none⟩) (by simp only; omega)).trans x2, (HBZ.out.cell (p := ⟨w.heap.size, 3, none⟩) (by simp only; omega)).trans x3⟩⟩, (HBZ.out.cell (p := ⟨w.heap.size, 4, none⟩) (by simp only; omega)).trans x4⟩, ⟨(HBZ.out.cell (p := ⟨w.heap.size + 1, 1, none⟩) (by simp only; omega)).trans y1, (HBZ.out.cell (p := ⟨w.heap.size + 1, 2, none⟩) (by simp only; omega)).trans y2⟩⟩, ⟨(HBZ.out.cell (p := ⟨w.heap.size + 1, 3, none⟩) (by simp only; omega)).trans y3, (HBZ.out.cell (p := ⟨w.heap.size + 1, 4, none⟩) (by simp only; omega)).trans y4⟩⟩ (fun hHeld2 => ?_)
  clear hK K
  refine wpAnyH_done (by kernel_rfl) ?_ _
  go_wp2_with fail
  refine bodyPost_ret (v := .agg #[.int .i64 x.key, .int .i64 (x.count + y.count), .int .i64 (x.sum + y.sum), .int .i64 (min x.least y.least), .int .i64 (max x.most y.most)]) (by simp [results, Try.results80, go_sem, z0, z1, z2, z3, z4]) rfl ⟨rfl, HBO.out⟩
end Go.Proofs.Ytgngoedooemboaa.gm
