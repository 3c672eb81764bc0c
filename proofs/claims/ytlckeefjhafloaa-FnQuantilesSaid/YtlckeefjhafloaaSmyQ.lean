/- The entry with the smallest rank error, the program's and the reference's. Condition: at most 2^20 entries, of bounded ranks. -/
import Derived.Test.YtlckeefjhafloaaSmyRank
import Derived.Deep.RegionHeld3
import Derived.Lib.QuietBelow
set_option linter.unusedVariables false
set_option linter.unusedSimpArgs false
namespace Go.Proofs.Ytlckeefjhafloaa.smyQ
open Go.RowKit Go.Proofs.Ytlckeefjhafloaa.mem Go.Proofs.Ytlckeefjhafloaa.smy

theorem max2_int (P : Program) (w : World) (a b : Int) : (Builtin.max2 (.int .i64 a) (.int .i64 b)).run P w = .ok (.int .i64 (max a b)) w := by
  simp only [Builtin.max2, Sem.run_pure]
  congr 2
  by_cases h : b > a
  · rw [if_pos h]; omega
  · rw [if_neg h]; omega
theorem run_max4 (P : Program) (w : World) (ts : Array TypeId) (t : TypeId) (a b c d : Int) : (Builtin.max_ ts t #[.int .i64 a, .int .i64 b, .int .i64 c, .int .i64 d]).run P w = .ok (.int .i64 (max (max (max a b) c) d)) w := by
  simp only [Builtin.max_, List.foldlM_cons, List.foldlM_nil, Sem.run_bind, max2_int, Result.andThen_ok, Sem.run_pure]
/-! ### the plain law -/
def err (x : Rkv) (r : Int) : Int := max (max (r - x.least) (x.least - r)) (max (x.most - r) (r - x.most))
def bst (l : List Rkv) (r : Int) : Nat → Nat
  | 0 => 0
  | k + 1 => if k = 0 then 0 else if err (l.getD k z0) r < err (l.getD (bst l r k) z0) r then k else bst l r k
theorem bst_lt (l : List Rkv) (r : Int) : ∀ k, 0 < k → bst l r k < k
  | k + 1, _ => by
    simp only [bst]
    by_cases h : k = 0
    · simp [h]
    · have := bst_lt l r k (by omega)
      rw [if_neg h]; split <;> omega
def best (l : List Rkv) (r : Int) : Nat := bst l r l.length
def el (l : List Rkv) (r : Int) (k : Nat) : Int := if k = 0 then 0 else err (l.getD (bst l r k) z0) r
def errv (l : List Rkv) (r : Int) : Int := el l r l.length
theorem err_bd {x : Rkv} {r : Int} (h1 : 1 ≤ x.least) (h2 : x.least ≤ x.most) (h3 : x.most ≤ 1000) (h4 : -2000 ≤ r) (h5 : r ≤ 2000) : 0 ≤ err x r ∧ err x r ≤ 3000 := by
  unfold err; omega
/-- the entries' ranks lie within bounds -/
def Bd (l : List Rkv) : Prop := ∀ k (h : k < l.length), 1 ≤ l[k].least ∧ l[k].least ≤ l[k].most ∧ l[k].most ≤ 1000
theorem bd_of {cnt : Int} {l : List Rkv} (h : vsmy cnt l = true) : Bd l := fun k hk => by
  have h1 := vsmy_at h hk
  have h2 := vsmy_cnt h
  omega
theorem bd_D {l : List Rkv} (h : Bd l) {k : Nat} (hk : k < l.length) : 1 ≤ (l.getD k z0).least ∧ (l.getD k z0).least ≤ (l.getD k z0).most ∧ (l.getD k z0).most ≤ 1000 := by
  rw [getD_r l hk]; exact h k hk

set_option maxRecDepth 100000 in
set_option maxHeartbeats 2000000 in
theorem impl_rank {cnt : Int} (A : Option Addr) (c : Nat) (l : List Rkv) (r : Int) (w : World) (hn : l.length ≤ 1048576) (hB : Bd l) (hr1 : -2000 ≤ r) (hr2 : r ≤ 2000) (hr : Rd w 3 A l.length (rkvs l)) :
    Calls Try.prog 67 #[.agg #[.int .i64 cnt, .slice A l.length c], .int .i64 r] w fun e w' => e = .returned (.tuple #[.int .i64 ((best l r : Nat) : Int), .int .i64 (errv l r)]) ∧ Below w.heap.size w w' := by
  have HBX := Lib.hid (fun (o : Obj) => (Below.refl w.heap.size w).alloc (Nat.le_refl _) o)
  have HBd := Lib.hid hB
  clear hB
  go_enter Try.func67, Try.ntmps67
  go_wp2
  go_loopw [6, 7, 14] (fun x y i wr => ∃ k : Nat, k ≤ l.length ∧ i = .int .i64 (k : Int) ∧ x = .int .i64 ((bst l r k : Nat) : Int) ∧ y = .int .i64 (el l r k) ∧ Below w.heap.size w wr) (fun _ _ i _ => l.length - (intOf i).toNat)
  case atStart => exact ⟨0, by omega, rfl, rfl, rfl, HBX.out _⟩
  case round =>
    obtain ⟨k, hk, rfl, rfl, rfl, hb⟩ := hrel
    by_cases hlt : k < l.length
    · obtain ⟨b, off, rfl, c0, c1, c2⟩ := (hr.below hb).rkv hlt
      have hx := HBd.out k hlt
      have HN := Lib.hid (fun (o : Obj) => hb.alloc hb.size o)
      have HS := Lib.hid (show bst l r (k + 1) = if k = 0 then 0 else if err l[k] r < err (l.getD (bst l r k) z0) r then k else bst l r k by rw [bst, getD_r l hlt])
      have HK := Lib.hid (show l.getD k z0 = l[k] from getD_r l hlt)
      have HX := Lib.hid (fun (W : World) => show (Builtin.max_ #[3, 3, 3, 3] 3 #[.int .i64 (r - l[k].least), .int .i64 (l[k].least - r), .int .i64 (l[k].most - r), .int .i64 (r - l[k].most)]).run Try.prog W = .ok (.int .i64 (err l[k] r)) W by
        rw [run_max4, err, Int.max_assoc (max (r - l[k].least) (l[k].least - r))])
      have HE := Lib.hid (show el l r k = if k = 0 then 0 else err (l.getD (bst l r k) z0) r from rfl)
      have HE2 := Lib.hid (show el l r (k + 1) = err (l.getD (bst l r (k + 1)) z0) r by rw [el, if_neg (by omega)])
      have hbd : 0 < k → 0 ≤ err (l.getD (bst l r k) z0) r ∧ err (l.getD (bst l r k) z0) r ≤ 3000 := fun h => by
        have h1 := bst_lt l r k h
        have h2 := bd_D HBd.out (show bst l r k < l.length by omega)
        exact err_bd h2.1 h2.2.1 h2.2.2 hr1 hr2
      have HBD := Lib.hid hbd
      have hby : 0 ≤ err l[k] r ∧ err l[k] r ≤ 3000 := err_bd hx.1 hx.2.1 hx.2.2 hr1 hr2
      clear hbd
      generalize l[k] = x at c0 c1 c2 hx HX HS HK hby
      have hmx := HX.out
      by_cases h0 : k = 0
      · subst h0
        have HS2 := Lib.hid (show bst l r (0 + 1) = 0 by rw [HS.out]; simp)
        have HE3 := Lib.hid (show el l r (0 + 1) = err x r by rw [HE2.out, HS2.out, HK.out])
        simp only [Nat.zero_mul, Nat.add_zero] at c0 c1 c2
        generalize err x r = ex at hmx hby HE3
        clear HE HS
        go_wp2
        go_roundw
        case rel => exact ⟨1, by omega, by go_num, (by rw [HS2.out]; try rfl), (by rw [HE3.out]; try rfl), HN.out _⟩
        case measure => simp [intOf]; omega
      · have hb3 := HBD.out (by omega)
        rw [if_neg h0] at HE HS
        have q1 : ((k : Int) == 0) = false := by simpa using h0
        have HK2 := Lib.hid (fun (h : bst l r (k + 1) = k) => show el l r (k + 1) = err x r by rw [HE2.out, h, HK.out])
        rw [← HE.out] at hb3 HS
        have HE4 := Lib.hid (fun (h : bst l r (k + 1) = bst l r k) => show el l r (k + 1) = el l r k by rw [HE2.out, h, HE.out])
        clear HE HE2 h0
        generalize err x r = ex at hmx hby HK2 HS
        generalize el l r k = ey at hb3 HS HE4 ⊢
        by_cases hlt2 : ex < ey
        · have HS2 := Lib.hid (show bst l r (k + 1) = k by rw [HS.out, if_pos hlt2])
          have HE5 := Lib.hid (HK2.out HS2.out)
          go_wp2
          go_roundw
          case rel => exact ⟨k + 1, by omega, by go_num, (by rw [HS2.out]; try rfl), (by rw [HE5.out]; try rfl), HN.out _⟩
          case measure => simp [intOf]; omega
        · have HS2 := Lib.hid (show bst l r (k + 1) = bst l r k by rw [HS.out, if_neg hlt2])
          have HE5 := Lib.hid (HE4.out HS2.out)
          go_wp2
          go_roundw
          case rel => exact ⟨k + 1, by omega, by go_num, (by rw [HS2.out]; try rfl), (by rw [HE5.out]; try rfl), HN.out _⟩
          case measure => simp [intOf]; omega
    · obtain rfl : k = l.length := by omega
      go_wp2
      go_ret2
      exact ⟨by rfl, hb⟩
set_option maxRecDepth 100000 in
set_option maxHeartbeats 1000000 in
theorem spec_err (x : Rkv) (r : Int) (w : World) (h1 : 1 ≤ x.least) (h2 : x.least ≤ x.most) (h3 : x.most ≤ 1000) (h4 : -2000 ≤ r) (h5 : r ≤ 2000) :
    Calls Try.prog 68 #[.agg #[.int .i64 x.value, .int .i64 x.least, .int .i64 x.most], .int .i64 r] w fun e w' => e = .returned (.int .i64 (err x r)) ∧ Below w.heap.size w w' := by
  have HBX := Lib.hid (fun (o : Obj) => (Below.refl w.heap.size w).alloc (Nat.le_refl _) o)
  have HX := Lib.hid (show err x r = max (max (r - x.least) (x.least - r)) (max (x.most - r) (r - x.most)) from rfl)
  obtain ⟨x0, x1, x2⟩ := x
  simp only at h1 h2 h3 HX ⊢
  have q1 : IntKind.i64.wrap (r - x1) = r - x1 := IntWalk.i64_in _ (by omega)
  have q2 : IntKind.i64.wrap (x1 - r) = x1 - r := IntWalk.i64_in _ (by omega)
  have q3 : IntKind.i64.wrap (r - x2) = r - x2 := IntWalk.i64_in _ (by omega)
  have q4 : IntKind.i64.wrap (x2 - r) = x2 - r := IntWalk.i64_in _ (by omega)
  go_enter Try.func68, Try.ntmps68
  go_wp2_with fail
  go_quiet ((go_at_call 64; exact quiet_eq (smyGap.most_any _ _ _)))
  go_wp2
  go_ret
  exact ⟨ret_int HX.out.symm, below_drewN (HBX.out _) _⟩
set_option maxRecDepth 100000 in
set_option maxHeartbeats 2000000 in
theorem spec_best {cnt : Int} (A : Option Addr) (c : Nat) (l : List Rkv) (r : Int) (w : World) (hn : l.length ≤ 1048576) (h0 : 0 < l.length) (hB : Bd l) (hr1 : -2000 ≤ r) (hr2 : r ≤ 2000) (hr : Rd w 3 A l.length (rkvs l)) :
    Calls Try.prog 66 #[.agg #[.int .i64 cnt, .slice A l.length c], .int .i64 r] w fun e w' => e = .returned (.int .i64 ((best l r : Nat) : Int)) ∧ Below w.heap.size w w' := by
  have HBX := Lib.hid (fun (o : Obj) => (Below.refl w.heap.size w).alloc (Nat.le_refl _) o)
  have HBd := Lib.hid hB
  clear hB
  go_enter Try.func66, Try.ntmps66
  go_wp2
  go_loopw [5, 6] (fun x i wr => ∃ k : Nat, k + 1 ≤ l.length ∧ i = .int .i64 ((k : Int) + 1) ∧ x = .int .i64 ((bst l r (k + 1) : Nat) : Int) ∧ Blk wr w.heap.size 29 #[.int .i64 cnt, .slice A l.length c] ∧ Below w.heap.size w wr) (fun _ i _ => l.length - (intOf i).toNat)
  case atStart => exact ⟨0, by omega, by go_num, rfl, Blk.new _ _ _, HBX.out _⟩
  case round =>
    obtain ⟨k, hk, rfl, rfl, hB, hb⟩ := hrel
    have hB1 : wr.cell? ⟨w.heap.size, 1, none⟩ = some (.slice A l.length c) := hB.cell 1
    have HB := Lib.hid (fun (w' : World) (h : Below wr.heap.size wr w') => And.intro (hB.below h hB.lt) (below_step hb h))
    clear hB
    by_cases hlt : k + 1 < l.length
    · have hbl := bst_lt l r (k + 1) (by omega)
      have hrd := hr.below hb
      obtain ⟨b, off, rfl, c0, c1, c2⟩ := hrd.rkv hlt
      obtain ⟨d0, d1, d2⟩ := hrd.rkv_at (show bst l r (k + 1) < l.length by omega)
      have hx := HBd.out (k + 1) hlt
      have hy := HBd.out (bst l r (k + 1)) (by omega)
      have HS := Lib.hid (show bst l r (k + 1 + 1) = if err l[k + 1] r < err (l[bst l r (k + 1)]'(by omega)) r then k + 1 else bst l r (k + 1) by
        rw [bst, if_neg (by omega), getD_r l hlt, getD_r l (by omega)])
      have HEx := Lib.hid (fun W => spec_err l[k + 1] r W hx.1 hx.2.1 hx.2.2 hr1 hr2)
      have HEy := Lib.hid (fun W => spec_err (l[bst l r (k + 1)]'(by omega)) r W hy.1 hy.2.1 hy.2.2 hr1 hr2)
      clear hrd hx hy
      generalize l[k + 1] = x at c0 c1 c2 HS HEx
      generalize (l[bst l r (k + 1)]'(by omega)) = y at d0 d1 d2 HS HEy
      generalize err x r = ex at HS HEx
      generalize err y r = ey at HS HEy
      have HB2 := Lib.hid (show bst l r (k + 1 + 1) = if ex < ey then k + 1 else bst l r (k + 1) from HS.out)
      clear HS
      generalize bst l r (k + 1) = g at hbl d0 d1 d2 HB2 ⊢
      have HC := Lib.hid (fun d os => And.intro (cell_regrown (w := wr) c0 d os) (And.intro (cell_regrown c1 d os) (And.intro (cell_regrown c2 d os) (And.intro (cell_regrown d0 d os) (And.intro (cell_regrown d1 d os) (And.intro (cell_regrown d2 d os) (cell_regrown hB1 d os)))))))
      have k0 := fun d os => (HC.out d os).1
      have k1 := fun d os => (HC.out d os).2.1
      have k2 := fun d os => (HC.out d os).2.2.1
      have k3 := fun d os => (HC.out d os).2.2.2.1
      have k4 := fun d os => (HC.out d os).2.2.2.2.1
      have k5 := fun d os => (HC.out d os).2.2.2.2.2.1
      have k6 := fun d os => (HC.out d os).2.2.2.2.2.2
      have q1 : (k : Int) + 1 < (l.length : Int) := by omega
      have q2 : ((k : Int) + 1).toNat = k + 1 := by omega
      have q3 : (0 : Int) ≤ (k : Int) + 1 := by omega
      have q4 : (g : Int) < (l.length : Int) := by omega
      clear c0 c1 c2 d0 d1 d2
      go_wp2_with fail
      by_cases hlt2 : ex < ey
      · have HB3 := Lib.hid (show bst l r (k + 1 + 1) = k + 1 by rw [HB2.out, if_pos hlt2])
        (refine wp_region_quiet_below (by kernel_rfl) (by kernel_rfl) ?_; (repeat (quiet_step (first | (go_at_call_of 68 (Value.agg #[.int .i64 x.value, .int .i64 x.least, .int .i64 x.most]); exact Calls.regrown_of (HEx.out _)) | exact Calls.regrown_of (HEy.out _)))); refine wpQuiet_nil ?_; intro _ hw'; obtain ⟨⟨dq, osq⟩, hw''⟩ := hw'; subst hw'')
        have hbq := below_regrown wr dq osq
        have hB3 := HB.out _ hbq
        go_wp2
        go_roundw
        case rel => exact ⟨k + 1, by omega, by go_num, (by rw [HB3.out]; try first | rfl | go_num), hB3⟩
        case measure => simp [intOf]; omega
      · have HB3 := Lib.hid (show bst l r (k + 1 + 1) = g by rw [HB2.out, if_neg hlt2])
        (refine wp_region_quiet_below (by kernel_rfl) (by kernel_rfl) ?_; (repeat (quiet_step (first | (go_at_call_of 68 (Value.agg #[.int .i64 x.value, .int .i64 x.least, .int .i64 x.most]); exact Calls.regrown_of (HEx.out _)) | exact Calls.regrown_of (HEy.out _)))); refine wpQuiet_nil ?_; intro _ hw'; obtain ⟨⟨dq, osq⟩, hw''⟩ := hw'; subst hw'')
        have hbq := below_regrown wr dq osq
        have hB3 := HB.out _ hbq
        go_wp2
        go_roundw
        case rel => exact ⟨k + 1, by omega, by go_num, (by rw [HB3.out]; try first | rfl | go_num), hB3⟩
        case measure => simp [intOf]; omega
    · have HE := Lib.hid (show bst l r (k + 1) = best l r by rw [best, show l.length = k + 1 by omega])
      go_wp2
      go_ret
      exact ⟨(by rw [← HE.out]; try rfl), hb⟩
end Go.Proofs.Ytlckeefjhafloaa.smyQ
