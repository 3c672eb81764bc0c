/- FnDummies: real and dummy runs together are the perfect distribution, and real runs stay level. No condition. -/
import Derived.Test.YtgffabjajbgbjaaFrame
import Derived.Test.YtgffabjajbgbjaaCode
import Derived.Test.YtgffabjajbgbjaaDumLaw
import Derived.Test.YtgffabjajbgbjaaPolyDist
set_option linter.unusedVariables false
set_option linter.unusedSimpArgs false
namespace Go.Proofs.Ytgffabjajbgbjaa.fnDummies
open Go.ChangeShapes Go.WideShapes Go.ChangeAt Go.RowKit Go.Proofs.Ytgffabjajbgbjaa.mem
open Go.Proofs.Ytgffabjajbgbjaa.ins (inB inB_true inB_false inB_iff)

theorem getD_at (l : List Int) {i : Nat} (h : i < l.length) : l.getD i 0 = l[i] := by
  rw [List.getD_eq_getElem?_getD, List.getElem?_eq_getElem h]; rfl
set_option maxRecDepth 100000 in
set_option maxHeartbeats 2000000 in
theorem walk (A : Option Addr) (n c : Nat) (zs : List Int) (W : World) (h0 : n = zs.length ∧ n ≤ c ∧ c ≤ maxLen ∧ Rd W 1 A n (u8s zs) ∧ (∀ z ∈ zs, 0 ≤ z ∧ z ≤ 255)) :
    Calls Try.prog 5 #[.slice A n c] W fun e w' => e = .returned (.bool true) ∧ Below W.heap.size W w' := by
  obtain ⟨rfl, hnc, hcm, hr, hz⟩ := h0
  have HZ := Lib.hid hz
  clear hz
  have hn : zs.length ≤ maxLen := Nat.le_trans hnc hcm
  go_enter Try.func5, Try.ntmps5
  go_wp2_with fail
  refine (codes.big_any A _ c W hn).mono ?_
  rintro e w1 ⟨rfl, rfl⟩
  by_cases hbig : 65536 < zs.length
  · go_wp2
    go_ret
    exact ⟨rfl, Below.refl _ _⟩
  have hsm : zs.length ≤ 65536 := by omega
  have hd : decide (65536 < zs.length) = false := by simpa using hbig
  rw [hd]
  clear hd hbig
  go_wp2_with fail
  refine (codes.at_any A c zs 0 W hsm (by omega) HZ.out hr).mono ?_
  rintro e w1 ⟨x0, hx0, rfl, rfl⟩
  go_wp2_with fail
  refine (codes.at_any A c zs 1 W hsm (by omega) HZ.out hr).mono ?_
  rintro e w1 ⟨x1, hx1, rfl, rfl⟩
  go_wp2_with fail
  refine (codes.at_any A c zs 2 W hsm (by omega) HZ.out hr).mono ?_
  rintro e w1 ⟨x2, hx2, rfl, rfl⟩
  go_wp2_with fail
  obtain ⟨u, hu0, hu, hu2⟩ : ∃ u : Nat, 3 + (x0 : Int) % 6 = (u : Int) + 1 ∧ 2 ≤ u ∧ u ≤ 7 := ⟨2 + x0 % 6, by omega, by omega, by omega⟩
  obtain ⟨r, hr0, hr1, hr2⟩ : ∃ r : Nat, 1 + ((x1 : Int) * 4 + (x2 : Int) % 4) % 1000 = (r : Int) ∧ 1 ≤ r ∧ r ≤ 1000 := ⟨1 + (x1 * 4 + x2 % 4) % 1000, by omega, by omega, by omega⟩
  rw [hu0, hr0]
  clear hu0 hr0
  obtain ⟨hlev, hlev2⟩ := dumLaw.exists_lev hu hu2 hr2
  have HCAN := Lib.hid (show level.can ((u : Int) + 1) (r : Int) = true from level.can_iff.2 (by omega))
  have HOK := Lib.hid (show polyDist.ok ((u : Int) + 1) (level.lev u r : Int) = true from polyDist.ok_iff.2 (by omega))
  have HL1 := Lib.hid (show level.res ((u : Int) + 1) (r : Int) = (level.lev u r : Int) by
    rw [level.res, if_pos HCAN.out, show ((u : Int) + 1).toNat - 1 = u by omega, show ((r : Int)).toNat = r by omega])
  have HL2 := Lib.hid (show polyDist.res ((u : Int) + 1) (level.lev u r : Int) = dists.dist u (level.lev u r) by
    rw [polyDist.res, if_pos HOK.out, show ((u : Int) + 1).toNat - 1 = u by omega, show ((level.lev u r : Int)).toNat = level.lev u r by omega])
  have HR1 := Lib.hid (show dummies.resR ((u : Int) + 1) (r : Int) = (dummies.dum u r).1 by
    rw [dummies.resR, if_pos HCAN.out, show ((u : Int) + 1).toNat - 1 = u by omega, show ((r : Int)).toNat = r by omega])
  have HD1 := Lib.hid (show dummies.resD ((u : Int) + 1) (r : Int) = (dummies.dum u r).2 by
    rw [dummies.resD, if_pos HCAN.out, show ((u : Int) + 1).toNat - 1 = u by omega, show ((r : Int)).toNat = r by omega])
  obtain ⟨la, lb, lc, ld, le⟩ := dumLaw.law hu hu2 hlev hlev2
  have lens := dummies.dum_len (r := r) hu
  have lenL := dists.dist_len hu (level.lev u r)
  have lsm := dummies.bd_dist hu hlev2
  obtain ⟨LV, hLV⟩ : ∃ LV, LV = level.lev u r := ⟨_, rfl⟩
  rw [← hLV] at HOK HL1 HL2 lenL lsm la hlev2
  clear hlev
  have HLV := Lib.hid hLV
  clear hLV
  refine (level.impl_any _ _ _).mono ?_
  rintro e w1 ⟨rfl, hb1⟩
  rw [HL1.out, HCAN.out]
  go_wp2_with fail
  refine (polyDist.impl_any _ _ _).mono ?_
  rintro e w2 ⟨vL, rfl, ⟨hoL, _⟩, hb2⟩
  rw [HL2.out] at hoL
  rw [HOK.out]
  go_wp2_with fail
  refine (dummies.impl_any _ _ _).mono ?_
  rintro e w3 ⟨vR, vD, rfl, ⟨hoR, _⟩, ⟨hoD, _⟩, _, hb3⟩
  rw [HR1.out] at hoR
  rw [HD1.out] at hoD
  rw [HCAN.out]
  replace hoL := own_below hoL hb3
  have hbW := below_step (below_step hb1 hb2) hb3
  generalize (dummies.dum u r).1 = R at la lb lc ld le lens hoR
  generalize (dummies.dum u r).2 = D at la lb lc ld le lens hoD
  generalize dists.dist u LV = L at la lenL lsm hoL
  obtain ⟨AL, cL, rfl, _, _, rdL⟩ := own_form hoL
  obtain ⟨AR, cR, rfl, _, _, rdR⟩ := own_form hoR
  obtain ⟨AD, cD, rfl, _, _, rdD⟩ := own_form hoD
  have t1 : ((R.length : Int) != (L.length : Int)) = false := by rw [lens.1, lenL]; simp
  have t2 : ((D.length : Int) != (L.length : Int)) = false := by rw [lens.2, lenL]; simp
  have hlen : R.length ≤ L.length ∧ L.length ≤ R.length ∧ D.length ≤ L.length ∧ L.length ≤ D.length ∧ L.length ≤ 7 := by omega
  have hsR : sums.Small R := by
    intro z hz
    obtain ⟨i, hi, rfl⟩ := List.mem_iff_getElem.1 hz
    have a := la i
    have b := lb i
    have d := lc i
    have e := lsm i
    rw [getD_at R hi] at a b
    omega
  have HLA := Lib.hid la
  have HLB := Lib.hid lb
  have HLC := Lib.hid lc
  have HLD := Lib.hid ld
  have HLE := Lib.hid le
  have HLS := Lib.hid lsm
  clear la lb lc ld le lsm lens lenL hoL hoR hoD HR1 HD1 HL2
  go_wp2_with fail
  refine (sums.laws_any AR cR R w3 (by omega) hsR rdR).mono ?_
  rintro e w4 ⟨rfl, rfl⟩
  rw [HLD.out]
  go_wp2
  go_loopw [12, 13] (fun i _ wr => ∃ k m : Nat, k ≤ L.length ∧ i = .int .i64 (k : Int) ∧ wr = w3.drewN m) (fun i _ _ => L.length - (intOf i).toNat)
  case atStart => exact ⟨0, 0, by omega, rfl, rfl⟩
  case round =>
    obtain ⟨k, m, hk, rfl, rfl⟩ := hrel
    by_cases hlt : k < L.length
    · obtain ⟨bL, oL, rfl, cl⟩ := rdL.int (k := k) (by omega)
      obtain ⟨bR, oR, rfl, cr⟩ := rdR.int (k := k) (by omega)
      obtain ⟨bD, oD, rfl, cd⟩ := rdD.int (k := k) (by omega)
      have a := HLA.out k
      have b := HLB.out k
      have d := HLC.out k
      have sL := HLS.out k
      have gR : R.getD k 0 = R[k]'(by omega) := getD_at _ _
      have gD : D.getD k 0 = D[k]'(by omega) := getD_at _ _
      have gL : L.getD k 0 = L[k]'(by omega) := getD_at _ _
      rw [gR, gD, gL] at a
      rw [gR] at b
      rw [gD] at d
      rw [gL] at sL
      have HE2 := Lib.hid (show 0 < D[k]'(by omega) → 0 < D.getD k 0 ∧ R.getD k 0 + 1 ≤ R[k]'(by omega) + 1 by rw [gD, gR]; exact fun h => ⟨h, Int.le_refl _⟩)
      rw [← a] at cl
      generalize R[k]'(by omega) = x at cr a b HE2 cl
      generalize D[k]'(by omega) = y at cd a d HE2 cl
      have hy : x + y ≤ 1048576 := by omega
      clear a gR gD gL
      have q1 : ((k : Int) < (L.length : Int)) := by omega
      have q2 : ((k : Int) < (R.length : Int)) := by omega
      have q3 : ((k : Int) < (D.length : Int)) := by omega
      have wr1 : IntKind.i64.wrap (x + y) = x + y := IntWalk.i64_in _ (by omega)
      have f1 : decide (x < 0) = false := by simpa using b
      have f2 : decide (y < 0) = false := by simpa using d
      go_wp2_with fail
      go_quiet (fail)
      go_wp2
      rw [World.drewN_drewN]
      go_loopw [13] (fun i wr => ∃ k2 p : Nat, k2 ≤ L.length ∧ i = .int .i64 (k2 : Int) ∧ wr = w3.drewN p) (fun i _ => L.length - (intOf i).toNat)
      case atStart => exact ⟨0, m + nq, by omega, rfl, rfl⟩
      case round =>
        obtain ⟨k2, p, hk2, rfl, rfl⟩ := hrel
        by_cases hlt2 : k2 < L.length
        · have cr2 : w3.cell? ⟨bR, oR + k2, none⟩ = some (.int .i64 (R[k2]'(by omega))) := by
            obtain ⟨b', o', he, h'⟩ := rdR.int (k := k2) (by omega)
            injection he with he
            injection he with he1 he2
            rw [he1, he2]; exact h'
          have HE3 := Lib.hid (show 0 < y → R[k2]'(by omega) ≤ x + 1 by
            have h := HLE.out k k2
            rw [getD_at R (show k2 < R.length by omega)] at h
            exact fun hy => Int.le_trans (h (HE2.out hy).1) (HE2.out hy).2)
          generalize R[k2]'(by omega) = z at cr2 HE3
          have q4 : ((k2 : Int) < (R.length : Int)) := by omega
          by_cases hy0 : 0 < y
          · have f3 : decide (x + 1 < z) = false := by have := HE3.out hy0; simpa using this
            go_wp2_with fail
            go_quiet (fail)
            go_wp2
            go_roundw
            case rel => exact ⟨k2 + 1, _, by omega, by go_num, rfl⟩
            case measure => simp [intOf]; omega
          · have f3 : decide (0 < y) = false := by simpa using hy0
            go_wp2_with fail
            go_quiet (fail)
            go_wp2
            go_roundw
            case rel => exact ⟨k2 + 1, _, by omega, by go_num, rfl⟩
            case measure => simp [intOf]; omega
        · go_wp2
          go_roundw
          case rel => exact ⟨k + 1, _, by omega, by go_num, rfl⟩
          case measure => simp [intOf]; omega
    · go_wp2
      go_ret
      exact ⟨rfl, below_drewN hbW _⟩

theorem own : ownKnob Try.prog.godebug = none := by kernel_rfl
theorem laidOut : laidOutB Try.prog = true := by kernel_rfl
set_option maxRecDepth 100000 in
theorem lifted (os : Os) (started : os.Started) (H : Type) (enc : TypeId × Value → H) :
    ReturnsInHanded {} Try.checked os 5 .any (Rows.fnDummiesSpec.pre6 enc Try.prog Try.f5 Rows.fnDummiesRow.domain false) (Rows.fnDummiesSpec.post enc Try.prog Try.f5 false true false false) := by
  refine returnsInHanded_of_change (C := Try.checked) own started (by kernel_rfl) Try.func5
    (ChangeSpec.witness6 (enc := enc) (C := Try.checked) false ⟨#[], #[.slice none 0 0], []⟩ 8 (by kernel_rfl) (by kernel_rfl) (by kernel_rfl) (by kernel_rfl)) ?_
  intro W base args ds gs before hval0 hW hcnd _
  have hval : ∀ (j : Nat) t v, Try.f5.params[j]? = some t → args[j]? = some v → Value.okWide Try.prog W .any base t v := hval0
  have hW' := hW
  have hlt : ∀ x ∈ before, x.block < W.heap.size := fun x hx => by simpa using hW.lt x hx
  obtain ⟨p, q, hA0, hV, rfl, hfz, hnd⟩ := hW
  have hA : DataW.TrodAll enc Try.prog W 0 (fun _ => true) true Try.f5.params.toList args.toList ds p := hA0
  rw [Try.params5] at hA hval
  obtain ⟨v0, vs0, d0, ds0, p0, q0, hargs, rfl, rfl, h0, r0⟩ := trodAll_cons hA
  obtain ⟨rfl, rfl, rfl⟩ := trodAll_nil r0
  obtain rfl : args = #[v0] := by cases args; simp_all
  obtain ⟨A0, n0, c0, zs0, rfl, w0⟩ := mem.open_rd_bytes Try.underlying30 Try.underlying5 (by kernel_rfl) (hval 0 30 v0 rfl rfl) h0
  refine (walk A0 n0 c0 zs0 W w0).mono fun e W' ⟨he, hg⟩ => ?_
  subst he
  exact ⟨_, rfl, frame.post_true laidOut hW' rfl (of_decide_eq_true (by kernel_rfl)) (by kernel_rfl) Try.underlying4 rfl rfl rfl hg⟩
theorem over : Rows.fnDummiesRow.holds Try.pinned (OpenSpec.ofChange Rows.fnDummiesSpec) :=
  OpenClaim.holds_of_wide 5 Try.f5 rfl rfl rfl rfl rfl rfl rfl ⟨rfl, rfl, rfl, rfl, rfl⟩ rfl rfl rfl rfl rfl (by kernel_rfl) Try.func5 (by kernel_rfl)
    (of_decide_eq_true (by kernel_rfl)) (by unfold Func.isWrapper; first | (rw [if_pos (by decide +kernel)]; kernel_rfl) | (rw [if_neg (by decide +kernel)]; exact ⟨rfl, rfl⟩))
    (fun os started H enc _ => lifted os started H enc)
/-- The statement. -/
theorem proved : Rows.FnDummiesSaid :=
  over
end Go.Proofs.Ytgffabjajbgbjaa.fnDummies
