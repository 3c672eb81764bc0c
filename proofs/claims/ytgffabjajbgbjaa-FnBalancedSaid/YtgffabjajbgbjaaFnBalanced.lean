/- FnBalanced: a balanced merge moves all runs in every pass, and one run needs neither passes nor phases. No condition. -/
import Derived.Test.YtgffabjajbgbjaaFrame
import Derived.Test.YtgffabjajbgbjaaCode
import Derived.Test.YtgffabjajbgbjaaBalLaw
import Derived.Test.YtgffabjajbgbjaaVolOne
set_option linter.unusedVariables false
set_option linter.unusedSimpArgs false
namespace Go.Proofs.Ytgffabjajbgbjaa.fnBalanced
open Go.ChangeShapes Go.WideShapes Go.ChangeAt Go.RowKit Go.Proofs.Ytgffabjajbgbjaa.mem

set_option maxRecDepth 100000 in
set_option maxHeartbeats 4000000 in
theorem walk (A : Option Addr) (n c : Nat) (zs : List Int) (W : World) (h0 : n = zs.length ∧ n ≤ c ∧ c ≤ maxLen ∧ Rd W 1 A n (u8s zs) ∧ (∀ z ∈ zs, 0 ≤ z ∧ z ≤ 255)) :
    Calls Try.prog 9 #[.slice A n c] W fun e w' => e = .returned (.bool true) ∧ Below W.heap.size W w' := by
  obtain ⟨rfl, hnc, hcm, hr, hz⟩ := h0
  have HZ := Lib.hid hz
  clear hz
  have hn : zs.length ≤ maxLen := Nat.le_trans hnc hcm
  go_enter Try.func9, Try.ntmps9
  go_wp2_with fail
  refine (codes.big_any A _ c W hn).mono ?_
  rintro e w1 ⟨rfl, rfl⟩
  by_cases hbig : 65536 < zs.length
  · go_wp2
    go_ret
    exact ⟨rfl, Below.refl _ _⟩
  have hsm : zs.length ≤ 65536 := by omega
  have hd : decide (65536 < zs.length) = false := by simpa using hbig
  rw [hd]
  clear hd hbig
  go_wp2_with fail
  refine (codes.at_any A c zs 0 W hsm (by omega) HZ.out hr).mono ?_
  rintro e w1 ⟨x0, hx0, rfl, rfl⟩
  go_wp2_with fail
  refine (codes.at_any A c zs 1 W hsm (by omega) HZ.out hr).mono ?_
  rintro e w1 ⟨x1, hx1, rfl, rfl⟩
  go_wp2_with fail
  refine (codes.at_any A c zs 2 W hsm (by omega) HZ.out hr).mono ?_
  rintro e w1 ⟨x2, hx2, rfl, rfl⟩
  go_wp2_with fail
  obtain ⟨t, ht0, ht, ht2⟩ : ∃ t : Nat, 4 + (x0 : Int) % 5 = (t : Int) ∧ 4 ≤ t ∧ t ≤ 8 := ⟨4 + x0 % 5, by omega, by omega, by omega⟩
  obtain ⟨r, hr0, hr1, hr2⟩ : ∃ r : Nat, 1 + ((x1 : Int) * 4 + (x2 : Int) % 4) % 1000 = (r : Int) ∧ 1 ≤ r ∧ r ≤ 1000 := ⟨1 + (x1 * 4 + x2 % 4) % 1000, by omega, by omega, by omega⟩
  rw [ht0, hr0]
  clear ht0 hr0
  have HB1 := Lib.hid (pass.impl_yes t r W ht ht2 hr1 hr2)
  have HB2 := Lib.hid (pass.impl_yes t 1 W ht ht2 (by omega) (by omega))
  rw [show pass.pc (t / 2) 1 = 0 from pass.pc_done (by omega), show ((1 : Nat) : Int) = 1 from rfl, show ((0 : Nat) : Int) * 1 = 0 from rfl] at HB2
  have HRE := Lib.hid (pass.reach (t / 2) (by omega) r hr1)
  have hpm := pass.bv_mul (pass.pc (t / 2) r) r (pass.pc_le _ _) hr2
  have hple := pass.pc_le (t / 2) r
  obtain ⟨u, hu⟩ : ∃ u : Nat, t = u + 1 := ⟨t - 1, by omega⟩
  have HV := Lib.hid (volOne.vol_one u W (by omega) (by omega))
  rw [show (u : Int) + 1 = (t : Int) by omega] at HV
  clear hu
  with_reducible refine HB1.out.mono ?_
  rintro e w1 ⟨rfl, rfl⟩
  obtain ⟨v, hv, hv2, hv4⟩ : ∃ v : Nat, t / 2 = v ∧ 2 ≤ v ∧ v ≤ 4 := ⟨t / 2, rfl, by omega, by omega⟩
  rw [hv] at HRE hpm hple ⊢
  have tv : ((t : Int)).tdiv 2 = (v : Int) := by rw [Int.tdiv_eq_ediv_of_nonneg (by omega)]; omega
  have tv2 : (t : Int) / 2 = (v : Int) := by omega
  generalize pass.pc v r = p at HRE hpm hple
  have hwm : IntKind.i64.wrap ((p : Int) * (r : Int)) = (p : Int) * (r : Int) := IntWalk.i64_in _ (by omega)
  clear hv HB1
  go_wp2
  go_loopg [8, 9] (p + 1) (fun f re i wr => ∃ (k x : Nat), p < k + f ∧ k ≤ p ∧ i = .int .i64 (k : Int) ∧ re = .int .i64 (x : Int) ∧ x = v ^ k ∧ W = wr)
  case atStart => exact ⟨0, 1, by omega, by omega, rfl, rfl, by simp, rfl⟩
  case round =>
    obtain ⟨k, x, hkf, hk, rfl, rfl, hx, rfl⟩ := hrel
    have HX := Lib.hid hx
    clear hx
    by_cases hlt : k < p
    · have q1 : (k : Int) < (p : Int) := by omega
      have hxr : x < r := by rw [HX.out]; exact HRE.out.1 k hlt
      have q2 : ¬ (r : Int) ≤ (x : Int) := by omega
      have hm : (x : Int) * (v : Int) ≤ 1000 * (v : Int) := Int.mul_le_mul_of_nonneg_right (by omega) (by omega)
      have hm0 : 0 ≤ (x : Int) * (v : Int) := Int.mul_nonneg (by omega) (by omega)
      have hwr : IntKind.i64.wrap ((x : Int) * (v : Int)) = (x : Int) * (v : Int) := IntWalk.i64_in _ (by omega)
      have HN := Lib.hid (show x * v = v ^ (k + 1) by rw [HX.out, Nat.pow_succ])
      go_wp2
      go_roundg (p - k)
      case measure => omega
      case rel => exact ⟨k + 1, x * v, by omega, by omega, by go_num, by rw [Int.natCast_mul], HN.out, rfl⟩
    · have hxr : r ≤ x := by rw [HX.out, show k = p by omega]; exact HRE.out.2
      have q1 : ¬ (k : Int) < (p : Int) := by omega
      have q2 : (r : Int) ≤ (x : Int) := by omega
      go_wp2_with fail
      with_reducible refine HB2.out.mono ?_
      rintro e w2 ⟨rfl, rfl⟩
      go_wp2_with fail
      with_reducible refine HV.out.mono ?_
      rintro e w3 ⟨rfl, hb3⟩
      go_wp2
      go_ret
      exact ⟨rfl, hb3⟩

theorem own : ownKnob Try.prog.godebug = none := by kernel_rfl
theorem laidOut : laidOutB Try.prog = true := by kernel_rfl
set_option maxRecDepth 100000 in
theorem lifted (os : Os) (started : os.Started) (H : Type) (enc : TypeId × Value → H) :
    ReturnsInHanded {} Try.checked os 9 .any (Rows.fnBalancedSpec.pre6 enc Try.prog Try.f9 Rows.fnBalancedRow.domain false) (Rows.fnBalancedSpec.post enc Try.prog Try.f9 false true false false) := by
  refine returnsInHanded_of_change (C := Try.checked) own started (by kernel_rfl) Try.func9
    (ChangeSpec.witness6 (enc := enc) (C := Try.checked) false ⟨#[], #[.slice none 0 0], []⟩ 8 (by kernel_rfl) (by kernel_rfl) (by kernel_rfl) (by kernel_rfl)) ?_
  intro W base args ds gs before hval0 hW hcnd _
  have hval : ∀ (j : Nat) t v, Try.f9.params[j]? = some t → args[j]? = some v → Value.okWide Try.prog W .any base t v := hval0
  have hW' := hW
  have hlt : ∀ x ∈ before, x.block < W.heap.size := fun x hx => by simpa using hW.lt x hx
  obtain ⟨p, q, hA0, hV, rfl, hfz, hnd⟩ := hW
  have hA : DataW.TrodAll enc Try.prog W 0 (fun _ => true) true Try.f9.params.toList args.toList ds p := hA0
  rw [Try.params9] at hA hval
  obtain ⟨v0, vs0, d0, ds0, p0, q0, hargs, rfl, rfl, h0, r0⟩ := trodAll_cons hA
  obtain ⟨rfl, rfl, rfl⟩ := trodAll_nil r0
  obtain rfl : args = #[v0] := by cases args; simp_all
  obtain ⟨A0, n0, c0, zs0, rfl, w0⟩ := mem.open_rd_bytes Try.underlying30 Try.underlying5 (by kernel_rfl) (hval 0 30 v0 rfl rfl) h0
  refine (walk A0 n0 c0 zs0 W w0).mono fun e W' ⟨he, hg⟩ => ?_
  subst he
  exact ⟨_, rfl, frame.post_true laidOut hW' rfl (of_decide_eq_true (by kernel_rfl)) (by kernel_rfl) Try.underlying4 rfl rfl rfl hg⟩
theorem over : Rows.fnBalancedRow.holds Try.pinned (OpenSpec.ofChange Rows.fnBalancedSpec) :=
  OpenClaim.holds_of_wide 9 Try.f9 rfl rfl rfl rfl rfl rfl rfl ⟨rfl, rfl, rfl, rfl, rfl⟩ rfl rfl rfl rfl rfl (by kernel_rfl) Try.func9 (by kernel_rfl)
    (of_decide_eq_true (by kernel_rfl)) (by unfold Func.isWrapper; first | (rw [if_pos (by decide +kernel)]; kernel_rfl) | (rw [if_neg (by decide +kernel)]; exact ⟨rfl, rfl⟩))
    (fun os started H enc _ => lifted os started H enc)
/-- The statement. -/
theorem proved : Rows.FnBalancedSaid :=
  over
end Go.Proofs.Ytgffabjajbgbjaa.fnBalanced
