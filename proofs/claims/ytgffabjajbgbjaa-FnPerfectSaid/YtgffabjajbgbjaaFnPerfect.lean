/- FnPerfect: a perfect distribution of a level needs as many phases as the level says, and all states on the way are perfect. No condition. -/
import Derived.Test.YtgffabjajbgbjaaFrame
import Derived.Test.YtgffabjajbgbjaaCode
import Derived.Test.YtgffabjajbgbjaaPhsS
import Derived.Test.YtgffabjajbgbjaaVInts
import Derived.Test.YtgffabjajbgbjaaCut
import Derived.Deep.QuietTactic
set_option linter.unusedVariables false
set_option linter.unusedSimpArgs false
namespace Go.Proofs.Ytgffabjajbgbjaa.fnPerfect
open Go.ChangeShapes Go.WideShapes Go.ChangeAt Go.RowKit Go.Proofs.Ytgffabjajbgbjaa.mem Go.Proofs.Ytgffabjajbgbjaa.phs Go.Proofs.Ytgffabjajbgbjaa.nest
open Go.Proofs.Ytgffabjajbgbjaa.sums Go.Proofs.Ytgffabjajbgbjaa.phases Go.Proofs.Ytgffabjajbgbjaa.perfect Go.Proofs.Ytgffabjajbgbjaa.dists
open Go.Proofs.Ytgffabjajbgbjaa.ins (inB inB_iff inB_true)

theorem perf_st {u L : Nat} (hu : 2 ≤ u) (hL : L ≤ 15) : ∀ d k f, k + d = L → (st u L k).sum.toNat < f → perf f (st u L k) = true := by
  intro d
  induction d with
  | zero =>
    intro k f hk hf
    obtain rfl : k = L := by omega
    obtain ⟨f, rfl⟩ : ∃ g, f = g + 1 := ⟨f - 1, by omega⟩
    have h1 : (st u k k).sum = 1 := by rw [st_sum hu hL (Nat.le_refl _), Nat.sub_self, sum_zero]
    rw [perf, if_pos h1]
  | succ d ih =>
    intro k f hk hf
    obtain ⟨f, rfl⟩ : ∃ g, f = g + 1 := ⟨f - 1, by omega⟩
    have h1 := (st_more hu hL (show k ≤ L by omega)).2 (by omega)
    have h2 := st_down hu hL (show k < L by omega)
    have h3 := st_able hu hL (show k < L by omega)
    rw [perf, if_neg (by omega), if_pos h3]
    exact ih (k + 1) f (by omega) (by show (st u L (k + 1)).sum.toNat < f; omega)
theorem st_good {u L k : Nat} (hu : 2 ≤ u) (hu2 : u ≤ 7) (hL : L ≤ 15) (hk : k ≤ L) : pstate (st u L k) = true := by
  have h1 : inB ((st u L k).length : Int) 3 8 = true := by rw [st_len hu hL hk]; exact inB_true (by omega) (by omega)
  have h2 : (st u L k).all key = true := List.all_eq_true.2 fun x hx => by
    have := dist0_bd hu (j := L - k) (by omega) x ((st_perm hu hL k hk).mem_iff.1 hx)
    exact inB_true (by omega) (by omega)
  rw [pstate, h1, h2, perf_st hu hL (L - k) k _ (by omega) (by omega)]; rfl
theorem dist_lt {u j : Nat} (hu : 2 ≤ u) : ∀ d, j + d + 1 ≤ 15 → (dist u j).sum < (dist u (j + d + 1)).sum
  | 0, h => dist_up (l := j) hu (by omega)
  | d + 1, h => by
    have h1 := dist_lt (j := j) hu d (by omega)
    have h2 := dist_up hu (show j + d + 1 < 15 by omega)
    rw [show j + (d + 1) + 1 = j + d + 1 + 1 by omega]
    omega
theorem lev_of {u L : Nat} (hu : 2 ≤ u) (hL : L ≤ 15) {t : Nat} (ht : (dist u L).sum = (t : Int)) : level.lev u t = L := by
  refine ((level.IsLev.lev (n := L) ⟨fun j hj => ?_, by omega⟩ hL)).symm
  have := dist_lt hu (j := j) (L - j - 1) (by omega)
  rw [show j + (L - j - 1) + 1 = L by omega] at this
  omega
set_option maxRecDepth 100000 in
set_option maxHeartbeats 4000000 in
theorem walk (A : Option Addr) (n c : Nat) (zs : List Int) (W : World) (h0 : n = zs.length ∧ n ≤ c ∧ c ≤ maxLen ∧ Rd W 1 A n (u8s zs) ∧ (∀ z ∈ zs, 0 ≤ z ∧ z ≤ 255)) :
    Calls Try.prog 7 #[.slice A n c] W fun e w' => e = .returned (.bool true) ∧ Below W.heap.size W w' := by
  obtain ⟨rfl, hnc, hcm, hr, hz⟩ := h0
  have HZ := Lib.hid hz
  clear hz
  have hn : zs.length ≤ maxLen := Nat.le_trans hnc hcm
  go_enter Try.func7, Try.ntmps7
  go_wp2_with fail
  refine (codes.big_any A _ c W hn).mono ?_
  rintro e w1 ⟨rfl, rfl⟩
  by_cases hbig : 65536 < zs.length
  · go_wp2
    go_ret
    exact ⟨rfl, Below.refl _ _⟩
  have hsm : zs.length ≤ 65536 := by omega
  have hd : decide (65536 < zs.length) = false := by simpa using hbig
  rw [hd]
  clear hd hbig
  go_wp2_with fail
  refine (codes.at_any A c zs 0 W hsm (by omega) HZ.out hr).mono ?_
  rintro e w1 ⟨x0, hx0, rfl, rfl⟩
  go_wp2_with fail
  refine (codes.at_any A c zs 1 W hsm (by omega) HZ.out hr).mono ?_
  rintro e w1 ⟨x1, hx1, rfl, rfl⟩
  go_wp2_with fail
  obtain ⟨u, hu0, hu, hu2⟩ : ∃ u : Nat, 3 + (x0 : Int) % 6 = (u : Int) + 1 ∧ 2 ≤ u ∧ u ≤ 7 := ⟨2 + x0 % 6, by omega, by omega, by omega⟩
  obtain ⟨L, hL0, hL⟩ : ∃ L : Nat, (x1 : Int) % 9 = (L : Int) ∧ L ≤ 8 := ⟨x1 % 9, by omega, by omega⟩
  rw [hu0, hL0]
  clear hu0 hL0
  have HOK := Lib.hid (show polyDist.ok ((u : Int) + 1) (L : Int) = true from polyDist.ok_iff.2 (by omega))
  have HR1 := Lib.hid (show polyDist.res ((u : Int) + 1) (L : Int) = dist u L by
    rw [polyDist.res, if_pos HOK.out, show ((u : Int) + 1).toNat - 1 = u by omega, show ((L : Int)).toNat = L by omega])
  have HR2 := Lib.hid (show resH ((u : Int) + 1) (L : Int) = sts u L (L + 1) by
    rw [resH, if_pos (show okH _ _ = true from HOK.out), show ((u : Int) + 1).toNat - 1 = u by omega, show ((L : Int)).toNat = L by omega]; rfl)
  refine (polyDist.impl_any _ _ _).mono ?_
  rintro e w1 ⟨vL, rfl, ⟨hoL, _⟩, hb1⟩
  rw [HR1.out] at hoL
  rw [HOK.out]
  go_wp2_with fail
  refine (phs.impl_any _ _ _).mono ?_
  rintro e w2 ⟨vS, rfl, ⟨⟨vs, hoS⟩, _⟩, hb2⟩
  rw [HR2.out] at hoS
  rw [show okH ((u : Int) + 1) (L : Int) = true from HOK.out]
  have HDL := Lib.hid (dist_len hu L)
  have HSL := Lib.hid (sts_len u L (L + 1))
  obtain ⟨AD, cD, rfl, hcD1, hcD2, rdD⟩ := own_form (own_below hoL hb2)
  obtain ⟨AS, cS, rfl, _, _, _⟩ := own_form hoS.top
  have rdS := nl_rd_int hoS
  have hbW := below_step hb1 hb2
  clear hoL hoS hb1 hb2
  rw [HDL.out] at rdD ⊢
  rw [HSL.out]
  have HBW := Lib.hid hbW
  have HST := Lib.hid (fun (k : Nat) (h : k < L + 1) => show (sts u L (L + 1))[k]'(by rw [sts_len]; exact h) = st u L k by simp [sts])
  have e1 : IntKind.i64.wrap ((u : Int) + 1 - 1) = (u : Int) := by rw [IntWalk.i64_in _ (by omega)]; omega
  have e2 : IntKind.i64.wrap ((L : Int) + 1) = (L : Int) + 1 := IntWalk.i64_in _ (by omega)
  have e3 : ((u : Int) != (u : Int)) = false := by simp
  have e4 : (((L + 1 : Nat) : Int) != (L : Int) + 1) = false := by simp
  have HCL := Lib.hid (fun (W' : World) (hb : Below w2.heap.size w2 W') (k : Nat) (h : k < L + 1) => show ∃ b off, AS = some ⟨b, off, none⟩ ∧ ∃ B c, W'.cell? ⟨b, off + k, none⟩ = some (.slice B (u + 1) c) ∧ u + 1 ≤ c ∧ c ≤ maxLen ∧ Rd W' 1 B (u + 1) (ints (st u L k)) by
    obtain ⟨b, off, h1, B, c, h2, h3, h4, h5⟩ := (rdS.below hb).cell (i := k) (by rw [HSL.out]; exact h)
    rw [HST.out k h, st_len hu (by omega) (by omega)] at h2 h3 h5
    exact ⟨b, off, h1, B, c, h2, h3, h4, h5⟩)
  have HCT := Lib.hid (fun (k : Nat) (h : k < L + 1) => st_len (u := u) (L := L) (k := k) hu (by omega) (by omega))
  have HGD := Lib.hid (fun (k : Nat) (h : k < L + 1) => st_good (u := u) (L := L) (k := k) hu hu2 (by omega) (by omega))
  have HSMK := Lib.hid (fun (k : Nat) (h : k < L + 1) => small_of (st_tidy (u := u) (L := L) (k := k) hu (by omega) (by omega)))
  have HDN := Lib.hid (fun (k : Nat) (h : k < L) => st_down (u := u) (L := L) (k := k) hu (by omega) h)
  have HS0 := Lib.hid (show st u L 0 = dist u L ++ [0] from rfl)
  have HSE := Lib.hid (show (st u L L).sum = 1 by rw [st_sum hu (by omega) (Nat.le_refl _), Nat.sub_self, sum_zero])
  have HDS := Lib.hid (dist_small hu (show L ≤ 15 by omega))
  have HDP := Lib.hid (dist_sum_pos hu L (by omega))
  have HLV := Lib.hid (fun (t : Nat) (h : (dist u L).sum = (t : Int)) => lev_of hu (show L ≤ 15 by omega) h)
  obtain ⟨S, hS⟩ : ∃ S : Nat → List Int, S = st u L := ⟨_, rfl⟩
  rw [← hS] at HCL HCT HGD HSMK HDN HS0 HSE
  obtain ⟨D, hD⟩ : ∃ D, D = dist u L := ⟨_, rfl⟩
  rw [← hD] at rdD HDL HS0 HDS HDP HLV
  clear hS hD rdS HST HR1 HR2 hbW
  go_wp2
  go_loopg [9] (L + 2) (fun f i wr => ∃ k : Nat, L + 1 < k + f ∧ k ≤ L + 1 ∧ i = .int .i64 (k : Int) ∧ Below w2.heap.size w2 wr)
  case atStart => exact ⟨0, by omega, by omega, rfl, Below.refl _ _⟩
  case round =>
    obtain ⟨k, hkf, hk, rfl, hb⟩ := hrel
    by_cases hlt : k < L + 1
    · have q1 : (k : Int) < ((L + 1 : Nat) : Int) := by omega
      have q1b : (k : Int) < (L : Int) + 1 := by omega
      obtain ⟨b, off, rfl, B, cB, hc, l1, m1, r1⟩ := HCL.out wr hb k hlt
      have HIS := Lib.hid (fun (W' : World) (h : Rd W' 1 B (S k).length (ints (S k))) => perfect.impl_any B cB (S k) W' (by rw [HCT.out k hlt]; omega) h)
      rw [HCT.out k hlt, HGD.out k hlt] at HIS
      go_wp2_with fail
      refine (HIS.out _ r1).mono ?_
      rintro e w3 ⟨rfl, hb3⟩
      have hb4 := below_at hb hb.size hb3
      clear r1 hc
      by_cases hk0 : k = 0
      · have q2 : ¬ (0 : Int) < (k : Int) := by omega
        go_wp2_with fail
        go_quiet (fail)
        have hb5 := below_drewN hb4 nq
        go_wp2
        go_roundg (gk - 1)
        case measure => omega
        case rel => exact ⟨k + 1, by omega, by omega, by go_num, hb5⟩
      · obtain ⟨p, hp⟩ : ∃ p, k = p + 1 := ⟨k - 1, by omega⟩
        have q2 : (0 : Int) < (k : Int) := by omega
        have q2n : 0 < k := by omega
        obtain ⟨b', off', he, B1, c1, hc1, l1, m1, r1⟩ := HCL.out w3 hb4 k hlt
        injection he with he
        injection he with he1 he2
        subst he1; subst he2
        obtain ⟨b', off', he, B2, c2, hc2, l2, m2, r2⟩ := HCL.out w3 hb4 p (by omega)
        injection he with he
        injection he with he1 he2
        subst he1; subst he2
        have q3 : IntKind.i64.wrap ((k : Int) - 1) = (p : Int) := by rw [IntWalk.i64_in _ (by omega)]; omega
        have q4 : (p : Int) < ((L + 1 : Nat) : Int) := by omega
        have q4b : (p : Int) < (L : Int) + 1 := by omega
        have q5 : (k : Int) - 1 = (p : Int) := by omega
        have HA := Lib.hid (fun (m : Nat) => sums.laws_any B1 c1 (S k) (w3.drewN m) (by rw [HCT.out k hlt]; omega) (HSMK.out k hlt) (by rw [HCT.out k hlt]; exact r1.drewN m))
        have HB := Lib.hid (fun (m : Nat) => sums.laws_any B2 c2 (S p) (w3.drewN m) (by rw [HCT.out p (by omega)]; omega) (HSMK.out p (by omega)) (by rw [HCT.out p (by omega)]; exact r2.drewN m))
        rw [HCT.out k hlt] at HA
        rw [HCT.out p (by omega)] at HB
        have hlt3 : (S k).sum < (S p).sum := by have := HDN.out p (by omega); rwa [← hp] at this
        have q6 : decide ((S p).sum ≤ (S k).sum) = false := decide_eq_false (by omega)
        generalize (S k).sum = sk at HA hlt3 q6
        generalize (S p).sum = sp at HB hlt3 q6
        have HPK := Lib.hid hp
        clear r1 r2 hp
        go_wp2_with fail
        go_quiet (first | (go_at_call 24; with_reducible exact quiet_eq (HA.out _)) | (go_at_call 24; with_reducible exact quiet_eq (HB.out _)))
        have hb5 := below_drewN hb4 nq
        clear hc1 hc2
        go_wp2
        go_roundg (gk - 1)
        case measure => omega
        case rel => exact ⟨k + 1, by omega, by omega, by go_num, hb5⟩
    · have q1 : ¬ (k : Int) < ((L + 1 : Nat) : Int) := by omega
      have q1b : ¬ (k : Int) < (L : Int) + 1 := by omega
      obtain ⟨b, off, rfl, B, cB, hc, l1, m1, r1⟩ := HCL.out wr hb 0 (by omega)
      rw [Nat.add_zero] at hc
      have r1' := r1.take (show u ≤ u + 1 by omega)
      rw [Nat.mul_one, HS0.out] at r1'
      have hti : (ints (D ++ [0])).take u = ints D := by rw [ints_app, List.take_append_of_le_length (by rw [len_ints, HDL.out]; omega), List.take_of_length_le (by rw [len_ints, HDL.out]; omega)]
      rw [hti] at r1'
      have hru := fun W => run_upto (P := Try.prog) 22 3 _ 1 8 Try.underlying22 info_int B (u + 1) cB u (u : Int) rfl (by omega) W
      rw [cutA_zero] at hru
      have HV := Lib.hid (fun (W' : World) (h1 : Rd W' 1 B D.length (ints D)) (h2 : Rd W' 1 AD D.length (ints D)) => vints.eq_any B AD cB cD D D W' (by rw [HDL.out]; unfold maxLen; omega) (by rw [HDL.out]; unfold maxLen; omega) h1 h2)
      rw [HDL.out, show decide (D = D) = true by simp] at HV
      have rdD2 := rdD.below hb
      clear hti r1
      go_wp2_with fail
      refine (HV.out _ r1' rdD2).mono ?_
      rintro e w3 ⟨rfl, m, rfl⟩
      have hb3 := below_drewN hb m
      have rdD3 := rdD.below hb3
      obtain ⟨b', off', he, B2, c2, hc2, l2, m2, r2⟩ := HCL.out _ hb3 L (by omega)
      injection he with he
      injection he with he1 he2
      subst he1; subst he2
      have HSL2 := Lib.hid (fun (W' : World) (h : Rd W' 1 B2 (S L).length (ints (S L))) => sums.laws_any B2 c2 (S L) W' (by rw [HCT.out L (by omega)]; omega) (HSMK.out L (by omega)) h)
      rw [HCT.out L (by omega), HSE.out] at HSL2
      have q2 : (L : Int) < ((L + 1 : Nat) : Int) := by omega
      have q2b : (L : Int) < (L : Int) + 1 := by omega
      clear hc
      go_wp2_with fail
      refine (HSL2.out _ r2).mono ?_
      rintro e w4 ⟨rfl, rfl⟩
      have HDSM := Lib.hid (fun (W' : World) (h : Rd W' 1 AD D.length (ints D)) => sums.laws_any AD cD D W' (by rw [HDL.out]; omega) HDS.out h)
      rw [HDL.out] at HDSM
      clear hc2 r2 r1'
      go_wp2_with fail
      refine (HDSM.out _ rdD3).mono ?_
      rintro e w5 ⟨rfl, rfl⟩
      have hbF := below_at HBW.out HBW.out.size hb3
      obtain ⟨t, ht⟩ : ∃ t : Nat, D.sum = (t : Int) := ⟨D.sum.toNat, by have := HDP.out; omega⟩
      have ht1 : 1 ≤ t := by have := HDP.out; omega
      have HLE := Lib.hid (HLV.out t ht)
      rw [ht]
      clear ht
      by_cases hbig : 1000 < t
      · have q3 : (1000 : Int) < (t : Int) := by omega
        go_wp2
        go_ret
        exact ⟨rfl, hbF⟩
      · have q3 : ¬ (1000 : Int) < (t : Int) := by omega
        have HCAN := Lib.hid (show level.can ((u : Int) + 1) (t : Int) = true from level.can_iff.2 (by omega))
        have HLR := Lib.hid (show level.res ((u : Int) + 1) (t : Int) = (L : Int) by
          rw [level.res, if_pos HCAN.out, show ((u : Int) + 1).toNat - 1 = u by omega, show ((t : Int)).toNat = t by omega, HLE.out])
        go_wp2_with fail
        refine (level.impl_any _ _ _).mono ?_
        rintro e w6 ⟨rfl, hb6⟩
        have hbG := below_step hbF hb6
        rw [HLR.out, HCAN.out]
        go_wp2
        go_ret
        exact ⟨rfl, hbG⟩

theorem own : ownKnob Try.prog.godebug = none := by kernel_rfl
theorem laidOut : laidOutB Try.prog = true := by kernel_rfl
set_option maxRecDepth 100000 in
theorem lifted (os : Os) (started : os.Started) (H : Type) (enc : TypeId × Value → H) :
    ReturnsInHanded {} Try.checked os 7 .any (Rows.fnPerfectSpec.pre6 enc Try.prog Try.f7 Rows.fnPerfectRow.domain false) (Rows.fnPerfectSpec.post enc Try.prog Try.f7 false true false false) := by
  refine returnsInHanded_of_change (C := Try.checked) own started (by kernel_rfl) Try.func7
    (ChangeSpec.witness6 (enc := enc) (C := Try.checked) false ⟨#[], #[.slice none 0 0], []⟩ 8 (by kernel_rfl) (by kernel_rfl) (by kernel_rfl) (by kernel_rfl)) ?_
  intro W base args ds gs before hval0 hW hcnd _
  have hval : ∀ (j : Nat) t v, Try.f7.params[j]? = some t → args[j]? = some v → Value.okWide Try.prog W .any base t v := hval0
  have hW' := hW
  have hlt : ∀ x ∈ before, x.block < W.heap.size := fun x hx => by simpa using hW.lt x hx
  obtain ⟨p, q, hA0, hV, rfl, hfz, hnd⟩ := hW
  have hA : DataW.TrodAll enc Try.prog W 0 (fun _ => true) true Try.f7.params.toList args.toList ds p := hA0
  rw [Try.params7] at hA hval
  obtain ⟨v0, vs0, d0, ds0, p0, q0, hargs, rfl, rfl, h0, r0⟩ := trodAll_cons hA
  obtain ⟨rfl, rfl, rfl⟩ := trodAll_nil r0
  obtain rfl : args = #[v0] := by cases args; simp_all
  obtain ⟨A0, n0, c0, zs0, rfl, w0⟩ := mem.open_rd_bytes Try.underlying30 Try.underlying5 (by kernel_rfl) (hval 0 30 v0 rfl rfl) h0
  refine (walk A0 n0 c0 zs0 W w0).mono fun e W' ⟨he, hg⟩ => ?_
  subst he
  exact ⟨_, rfl, frame.post_true laidOut hW' rfl (of_decide_eq_true (by kernel_rfl)) (by kernel_rfl) Try.underlying4 rfl rfl rfl hg⟩
theorem over : Rows.fnPerfectRow.holds Try.pinned (OpenSpec.ofChange Rows.fnPerfectSpec) :=
  OpenClaim.holds_of_wide 7 Try.f7 rfl rfl rfl rfl rfl rfl rfl ⟨rfl, rfl, rfl, rfl, rfl⟩ rfl rfl rfl rfl rfl (by kernel_rfl) Try.func7 (by kernel_rfl)
    (of_decide_eq_true (by kernel_rfl)) (by unfold Func.isWrapper; first | (rw [if_pos (by decide +kernel)]; kernel_rfl) | (rw [if_neg (by decide +kernel)]; exact ⟨rfl, rfl⟩))
    (fun os started H enc _ => lifted os started H enc)
/-- The statement. -/
theorem proved : Rows.FnPerfectSaid :=
  over
end Go.Proofs.Ytgffabjajbgbjaa.fnPerfect
