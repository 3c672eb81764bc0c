/- FnExactPolyphaseMerge: for all arguments the program's PolyphaseMerge returns what the reference's returns, in memory of its own, and leaves its arguments as they were. No condition. -/
import Derived.Test.YtgffabjajbgbjaaFrame
import Derived.Test.YtgffabjajbgbjaaLawNestR
import Derived.Test.YtgffabjajbgbjaaLawRec
import Derived.Test.YtgffabjajbgbjaaOpenRuns
import Derived.Test.YtgffabjajbgbjaaPmZ
set_option linter.unusedVariables false
set_option linter.unusedSimpArgs false
namespace Go.Proofs.Ytgffabjajbgbjaa.fnExactPolyphaseMerge
open Go.ChangeShapes Go.WideShapes Go.ChangeAt Go.RowKit Go.Proofs.Ytgffabjajbgbjaa.mem Go.Proofs.Ytgffabjajbgbjaa.nest Go.Proofs.Ytgffabjajbgbjaa.lawNestR
open Go.ChangeMaps (open_string shut_string)
open Go.Proofs.Ytgffabjajbgbjaa.tn (tot mem_tot)

/-- a row of two-celled elements that reads so, in a block below U -/
def RdU (U : Nat) (W : World) (A : Option Addr) (n : Nat) (xs : List Value) : Prop := xs.length = n * 2 ∧ (0 < n → ∃ b off, A = some ⟨b, off, none⟩ ∧ b < U ∧ ∀ j u, xs[j]? = some u → W.cell? ⟨b, off + j, none⟩ = some u)
section
variable {U n : Nat} {W W' : World} {A : Option Addr} {xs : List Value}
theorem RdU.of (h : Rd W 2 A n xs) : RdU W.heap.size W A n xs := by
  refine ⟨h.1, fun hn => ?_⟩
  obtain ⟨b, off, e, hc⟩ := h.cells hn
  refine ⟨b, off, e, ?_, hc⟩
  have h0 : 0 < xs.length := by have := h.1; omega
  have := hc 0 xs[0] (List.getElem?_eq_getElem h0)
  exact World.block_lt_of_cell? W _ this
theorem RdU.rd (h : RdU U W A n xs) : Rd W 2 A n xs := ⟨h.1, fun hn => by
  obtain ⟨b, off, e, _, hc⟩ := h.2 hn
  exact ⟨b, off, e, hc⟩⟩
theorem RdU.keep (h : RdU U W A n xs) (hk : ∀ k, k < U → W'.heap[k]? = W.heap[k]?) : RdU U W' A n xs := ⟨h.1, fun hn => by
  obtain ⟨b, off, e, hb, hc⟩ := h.2 hn
  exact ⟨b, off, e, hb, fun j u hu => (World.cell?_of_block (hk b hb)).trans (hc j u hu)⟩⟩
theorem RdU.below (h : RdU U W A n xs) (hU : U ≤ W.heap.size) (hb : Below W.heap.size W W') : RdU U W' A n xs := h.keep fun k hk => hb.block k (by omega)
theorem RdU.range (h : RdU U W A n xs) (hU : U ≤ W.heap.size) {lo hi : Nat} (hl : U ≤ lo) (g : Range W W' lo hi) : RdU U W' A n xs := h.keep fun k hk => g.block k (by omega) (by omega)
theorem RdU.grown (h : RdU U W A n xs) (hU : U ≤ W.heap.size) {row : Option Nat} (g : W.grownBy W' row) (hr : ∀ k, row = some k → U ≤ k) : RdU U W' A n xs := h.keep fun k hk => g.block k (by omega) (fun e => by have := hr k e.symm; omega)
end
set_option maxRecDepth 100000 in
set_option maxHeartbeats 4000000 in
theorem walk (A0 : Option Addr) (n0 c0 : Nat) (vs0 : List Value) (zs0 : List (List Rec)) (a1 : Int) (w1 : (Lit.int .i64 a1).wf = true) (W : World) (h0 : n0 = zs0.length ∧ n0 ≤ c0 ∧ c0 ≤ maxLen ∧ RdL_rec W A0 vs0 zs0 ∧ True) :
    Calls Try.prog 13 #[.slice A0 n0 c0, .int .i64 a1] W fun e w' => e = .returned (.bool true) ∧ Below W.heap.size W w' := by
  obtain ⟨rfl, hnc0, hcm0, hr0, _⟩ := h0
  have hbW : Below W.heap.size W W := Below.refl _ _
  have HSZ := Lib.hid (lawNestR.sz_any A0 c0 vs0 zs0 1048576 W (by omega) (by omega) (Nat.le_trans hnc0 hcm0) hr0)
  go_enter Try.func13, Try.ntmps13
  go_wp2_with fail
  (with_reducible refine HSZ.out.mono ?_)
  rintro e w_1 ⟨rfl, rfl⟩
  by_cases hz0 : ¬ ((zs0.length + tot zs0 : Nat) : Int) ≤ 1048576
  · rw [szv_neg hz0]
    go_wp2
    go_ret
    exact ⟨rfl, hbW⟩
  rw [Decidable.not_not] at hz0
  rw [szv_pos hz0]
  have hk0 : zs0.length + tot zs0 ≤ 1048576 := by omega
  have HT := Lib.hid (fun (X : World) (h : Below W.heap.size W X) => lawNestR.to_any A0 c0 vs0 zs0 X (by omega) (fun r hr => by have := mem_tot hr; omega) (hr0.below h))
  clear HSZ
  have hq0 : ¬ (1048576 : Int) - ((zs0.length + tot zs0 : Nat) : Int) < 0 := by omega
  have hk_g0 := pm.resL_len zs0 a1
  go_wp2_with fail
  (with_reducible refine (HT.out _ hbW).mono ?_)
  rintro e wa ⟨v_t1, us_t1, rfl, ho_t1, hb_a⟩
  obtain ⟨A_t1, c_t1, rfl, hnc_t1, hcm_t1, _⟩ := own_form ho_t1.top
  have hs_a := hb_a.size
  replace hbW := below_step hbW hb_a
  go_wp2_with fail
  (with_reducible refine (pm.pm_spec A_t1 c_t1 us_t1 zs0 a1 _ hk0 hnc_t1 hcm_t1 (nl_rd_rec ho_t1)).mono ?_)
  rintro e wb ⟨v_w0, rfl, ⟨A_w0, c_w0, rfl, hr_w0⟩, hb_b⟩
  have hs_b := hb_b.size
  replace hbW := below_step hbW hb_b
  have ho_w0 := RdU.of hr_w0
  clear ho_t1 hr_w0
  go_wp2_with fail
  (with_reducible refine (HT.out _ hbW).mono ?_)
  rintro e wc ⟨v_x0, us_x0, rfl, ho_x0, hb_c⟩
  have hs_c := hb_c.size
  replace hbW := below_step hbW hb_c
  replace ho_w0 := ho_w0.below (by omega) hb_c
  obtain ⟨A_x0, c_x0, rfl, hnc_x0, hcm_x0, _⟩ := own_form ho_x0.top
  have hl_x0 := nl_lt_rec ho_x0
  have hlr_x0 := nl_rows_lt_rec ho_x0
  go_wp2_with fail
  (with_reducible refine (pm.pm_impl A_x0 c_x0 us_x0 zs0 a1 _ hk0 hnc_x0 hcm_x0 (nl_rd_rec ho_x0)).mono ?_)
  rintro e wd ⟨v_g0, rfl, ho_g0, hb_d⟩
  have hs_d := hb_d.size
  replace hbW := below_step hbW hb_d
  replace ho_w0 := ho_w0.below (by omega) hb_d
  replace ho_x0 := nl_below_rec ho_x0 hb_d
  obtain ⟨A_g0, c_g0, rfl, _, _, _⟩ := own_form ho_g0
  have hl_g0 := ho_g0.lt
  go_wp2_with fail
  (with_reducible refine (lawRec.eqB A_g0 A_w0 c_g0 c_w0 _ _ _ (by unfold maxLen; omega) (by unfold maxLen; omega) (own_rd ho_g0) ho_w0.rd).mono ?_)
  rintro e we ⟨rfl, hb_e⟩
  have hs_e := hb_e.size
  replace hbW := below_step hbW hb_e
  replace ho_w0 := ho_w0.below (by omega) hb_e
  replace ho_x0 := nl_below_rec ho_x0 hb_e
  replace ho_g0 := own_below ho_g0 hb_e
  go_wp2_with fail
  (with_reducible refine (HT.out _ hbW).mono ?_)
  rintro e wf ⟨v_t2, us_t2, rfl, ho_t2, hb_f⟩
  have hs_f := hb_f.size
  replace hbW := below_step hbW hb_f
  replace ho_w0 := ho_w0.below (by omega) hb_f
  replace ho_x0 := nl_below_rec ho_x0 hb_f
  replace ho_g0 := own_below ho_g0 hb_f
  obtain ⟨A_t2, c_t2, rfl, _, _, _⟩ := own_form ho_t2.top
  go_wp2_with fail
  (with_reducible refine (lawNestR.eq_any A_x0 A_t2 c_x0 c_t2 _ _ _ _ _ (show zs0.length ≤ 1048576 by omega) (show zs0.length ≤ 1048576 by omega) (nl_rd_rec ho_x0) (nl_rd_rec ho_t2)).mono ?_)
  rintro e wg ⟨rfl, hb_g⟩
  have hs_g := hb_g.size
  replace hbW := below_step hbW hb_g
  replace ho_w0 := ho_w0.below (by omega) hb_g
  replace ho_x0 := nl_below_rec ho_x0 hb_g
  replace ho_g0 := own_below ho_g0 hb_g
  clear ho_t2
  go_wp2_with fail
  (with_reducible refine (lawNestR.mark_any wb.heap.size A_x0 c_x0 us_x0 zs0 1 wg wb.heap.size wc.heap.size (by omega) (by omega) (by omega) hlr_x0 ho_x0).mono ?_)
  rintro e wh ⟨rfl, _, hR_h⟩
  have hs_h := hR_h.size
  replace hbW := below_range hbW hbW.size hR_h (by omega)
  replace ho_w0 := ho_w0.range (by omega) (Nat.le_refl _) hR_h
  replace ho_g0 := own_range ho_g0 hR_h (fun k hk => Or.inr (hl_g0 k hk).1)
  have hq1 : ¬ (1 : Int) + ((tot zs0 * 2 : Nat) : Int) < 0 := by omega
  clear ho_x0
  go_wp2_with fail
  (with_reducible refine (lawRec.eqB A_g0 A_w0 c_g0 c_w0 _ _ _ (by unfold maxLen; omega) (by unfold maxLen; omega) (own_rd ho_g0) ho_w0.rd).mono ?_)
  rintro e wi ⟨rfl, hb_i⟩
  have hs_i := hb_i.size
  replace hbW := below_step hbW hb_i
  replace ho_w0 := ho_w0.below (by omega) hb_i
  replace ho_g0 := own_below ho_g0 hb_i
  go_wp2_with fail
  (with_reducible refine (lawRec.mark_any wc.heap.size A_g0 _ c_g0 _ 1 wi (by omega) (by omega) ho_g0).mono ?_)
  rintro e wj ⟨rfl, hm_g0, hR_j⟩
  have hs_j := hR_j.size
  replace hbW := below_grown hbW hbW.size hR_j (fun k hk => by have := (hl_g0 k hk).1; omega)
  replace ho_w0 := ho_w0.grown (by omega) hR_j (fun k hk => by have := (hl_g0 k hk).1; omega)
  have hq2 : ¬ (1 : Int) + (((pm.resL zs0 a1).length * 2 : Nat) : Int) < 0 := by omega
  clear ho_g0
  go_wp2_with fail
  (with_reducible refine (lawRec.held_any A_g0 _ c_g0 1 wj (by omega) (by omega) (own_rd hm_g0)).mono ?_)
  rintro e wk ⟨rfl, rfl⟩
  go_wp2_with fail
  (with_reducible refine (HT.out _ hbW).mono ?_)
  rintro e wl ⟨v_t3, us_t3, rfl, ho_t3, hb_l⟩
  have hs_l := hb_l.size
  replace hbW := below_step hbW hb_l
  replace ho_w0 := ho_w0.below (by omega) hb_l
  replace hm_g0 := own_below hm_g0 hb_l
  obtain ⟨A_t3, c_t3, rfl, hnc_t3, hcm_t3, _⟩ := own_form ho_t3.top
  go_wp2_with fail
  (with_reducible refine (pm.pm_impl A_t3 c_t3 us_t3 zs0 a1 _ hk0 hnc_t3 hcm_t3 (nl_rd_rec ho_t3)).mono ?_)
  rintro e wm ⟨v_h0, rfl, ho_h0, hb_m⟩
  have hs_m := hb_m.size
  replace hbW := below_step hbW hb_m
  replace ho_w0 := ho_w0.below (by omega) hb_m
  replace hm_g0 := own_below hm_g0 hb_m
  obtain ⟨A_h0, c_h0, rfl, _, _, _⟩ := own_form ho_h0
  clear ho_t3
  go_wp2_with fail
  (with_reducible refine (lawRec.eqB A_h0 A_w0 c_h0 c_w0 _ _ _ (by unfold maxLen; omega) (by unfold maxLen; omega) (own_rd ho_h0) ho_w0.rd).mono ?_)
  rintro e wn ⟨rfl, hb_n⟩
  replace hbW := below_step hbW hb_n
  replace hm_g0 := own_below hm_g0 hb_n
  clear ho_w0 ho_h0
  go_wp2_with fail
  (with_reducible refine (lawRec.held_any A_g0 _ c_g0 1 wn (by omega) (by omega) (own_rd hm_g0)).mono ?_)
  rintro e wo ⟨rfl, rfl⟩
  go_wp2
  go_ret
  exact ⟨rfl, hbW⟩

theorem own : ownKnob Try.prog.godebug = none := by kernel_rfl
theorem laidOut : laidOutB Try.prog = true := by kernel_rfl
set_option maxRecDepth 100000 in
theorem lifted (os : Os) (started : os.Started) (H : Type) (enc : TypeId × Value → H) :
    ReturnsInHanded {} Try.checked os 13 .any (Rows.fnExactPolyphaseMergeSpec.pre6 enc Try.prog Try.f13 Rows.fnExactPolyphaseMergeRow.domain false) (Rows.fnExactPolyphaseMergeSpec.post enc Try.prog Try.f13 false true false false) := by
  refine returnsInHanded_of_change (C := Try.checked) own started (by kernel_rfl) Try.func13
    (ChangeSpec.witness6 (enc := enc) (C := Try.checked) false ⟨#[], #[.slice none 0 0, .int .i64 0], []⟩ 8 (by kernel_rfl) (by kernel_rfl) (by kernel_rfl) (by kernel_rfl)) ?_
  intro W base args ds gs before hval0 hW hcnd _
  have hval : ∀ (j : Nat) t v, Try.f13.params[j]? = some t → args[j]? = some v → Value.okWide Try.prog W .any base t v := hval0
  have hW' := hW
  have hlt : ∀ x ∈ before, x.block < W.heap.size := fun x hx => by simpa using hW.lt x hx
  obtain ⟨p, q, hA0, hV, rfl, hfz, hnd⟩ := hW
  have hA : DataW.TrodAll enc Try.prog W 0 (fun _ => true) true Try.f13.params.toList args.toList ds p := hA0
  rw [Try.params13] at hA hval
  obtain ⟨v0, vs0, d0, ds0, p0, q0, hargs, rfl, rfl, h0, r0⟩ := trodAll_cons hA
  obtain ⟨v1, vs1, d1, ds1, p1, q1, rfl, rfl, rfl, h1, r1⟩ := trodAll_cons r0
  obtain ⟨rfl, rfl, rfl⟩ := trodAll_nil r1
  obtain rfl : args = #[v0, v1] := by cases args; simp_all
  obtain ⟨A0, n0, c0, vs0, zs0, rfl, w0⟩ := mem.open_rd_runs Try.underlying45 (by kernel_rfl) Try.underlying71 Try.underlying91 (by kernel_rfl) (fun j hj => match j, hj with | 0, _ => ⟨_, rfl, rfl, Try.underlying3, by kernel_rfl⟩ | 1, _ => ⟨_, rfl, rfl, Try.underlying3, by kernel_rfl⟩ | _ + 2, h => absurd h (by omega)) (hval 0 45 v0 rfl rfl) h0
  obtain ⟨a1, rfl, _, _, w1⟩ := open_int Try.underlying3 (hval 1 3 v1 rfl rfl) h1
  refine (walk A0 n0 c0 vs0 zs0 a1 w1 W w0).mono fun e W' ⟨he, hg⟩ => ?_
  subst he
  exact ⟨_, rfl, frame.post_true laidOut hW' rfl (of_decide_eq_true (by kernel_rfl)) (by kernel_rfl) Try.underlying4 rfl rfl rfl hg⟩
theorem over : Rows.fnExactPolyphaseMergeRow.holds Try.pinned (OpenSpec.ofChange Rows.fnExactPolyphaseMergeSpec) :=
  OpenClaim.holds_of_wide 13 Try.f13 rfl rfl rfl rfl rfl rfl rfl ⟨rfl, rfl, rfl, rfl, rfl⟩ rfl rfl rfl rfl rfl (by kernel_rfl) Try.func13 (by kernel_rfl)
    (of_decide_eq_true (by kernel_rfl)) (by unfold Func.isWrapper; first | (rw [if_pos (by decide +kernel)]; kernel_rfl) | (rw [if_neg (by decide +kernel)]; exact ⟨rfl, rfl⟩))
    (fun os started H enc _ => lifted os started H enc)
/-- The statement. -/
theorem proved : Rows.FnExactPolyphaseMergeSaid :=
  over
end Go.Proofs.Ytgffabjajbgbjaa.fnExactPolyphaseMerge
