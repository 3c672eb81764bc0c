/- FnRounds: merging in rounds halves the number of runs, keeps their total size, and takes at least the total size in the last round. No condition. -/
import Derived.Test.YtfjmpplpagmpbaaFrame
import Derived.Test.YtfjmpplpagmpbaaCode
import Derived.Test.YtfjmpplpagmpbaaDrwRnd
import Derived.Test.YtfjmpplpagmpbaaRndS
import Derived.Test.YtfjmpplpagmpbaaRndMore
import Derived.Test.YtfjmpplpagmpbaaRSum
set_option linter.unusedVariables false
set_option linter.unusedSimpArgs false
namespace Go.Proofs.Ytfjmpplpagmpbaa.fnRounds
open Go.ChangeShapes Go.WideShapes Go.ChangeAt Go.RowKit Go.Proofs.Ytfjmpplpagmpbaa.mem Go.Proofs.Ytfjmpplpagmpbaa.rnd Go.Proofs.Ytfjmpplpagmpbaa.nest

theorem sum_ok {l : List Int} (h : Bd 4000000 l) : rsum.Ok l := fun z hz => by
  obtain ⟨i, hi, rfl⟩ := List.getElem_of_mem hz
  have := at_bd h hi
  omega
set_option maxRecDepth 100000 in
set_option maxHeartbeats 4000000 in
theorem walk (A : Option Addr) (n c : Nat) (zs : List Int) (W : World) (h0 : n = zs.length ∧ n ≤ c ∧ c ≤ maxLen ∧ Rd W 1 A n (u8s zs) ∧ (∀ z ∈ zs, 0 ≤ z ∧ z ≤ 255)) :
    Calls Try.prog 4 #[.slice A n c] W fun e w' => e = .returned (.bool true) ∧ Below W.heap.size W w' := by
  obtain ⟨rfl, hnc, hcm, hr, hz⟩ := h0
  have HZ := Lib.hid hz
  clear hz
  have hn : zs.length ≤ maxLen := Nat.le_trans hnc hcm
  go_enter Try.func4, Try.ntmps4
  go_wp2_with fail
  refine (codes.big_any A _ c W hn).mono ?_
  rintro e w1 ⟨rfl, rfl⟩
  by_cases hbig : 65536 < zs.length
  · go_wp2
    go_ret
    exact ⟨rfl, Below.refl _ _⟩
  have hsm : zs.length ≤ 1048576 := by omega
  have hd : decide (65536 < zs.length) = false := by simpa using hbig
  rw [hd]
  clear hd hbig
  go_wp2_with fail
  refine (drw.rounds_any A c zs W hsm HZ.out hr).mono ?_
  rintro e w1 ⟨v, l, rfl, hol, hll, hb1⟩
  obtain ⟨Al, cl, rfl, _, _, hrl⟩ := own_form hol
  clear hol
  go_wp2_with fail
  refine (rnd.impl_any Al cl l w1 hll hrl).mono ?_
  rintro e w2 ⟨v2, rfl, ⟨⟨vs, ho2⟩, hk2, hkr2⟩, hb2⟩
  obtain ⟨A2, c2, rfl, _, _, _⟩ := own_form ho2.top
  have hrl2 := hrl.below hb2
  go_wp2_with fail
  refine (rnd.spec_any Al cl l w2 hll hrl2).mono ?_
  rintro e w3 ⟨v3, rfl, _, hb3⟩
  have hrs := (nl_rd_int ho2).below hb3
  have hrl3 := hrl2.below hb3
  have hbW := below_step (below_step hb1 hb2) hb3
  clear hrl2 hrl hb1 hb2 hb3 ho2
  cases hok : okP l with
  | false =>
    have HR := Lib.hid (show resP l = [] by simp [resP, hok])
    have hlen : (resP l).length = 0 := by rw [HR.out]; rfl
    clear hok
    go_wp2
    go_ret
    exact ⟨rfl, hbW⟩
  | true =>
    have HR := Lib.hid (show resP l = rnds l ∧ spanP l = span l by simp [resP, spanP, hok])
    have HBD := Lib.hid (bd_of hok)
    have hl40 := (okP_iff.1 hok).1
    rw [HR.out.1] at hrs hk2 hkr2
    rw [HR.out.1, HR.out.2]
    clear hok
    have HS1 := Lib.hid (span_le (l := l) HBD.out.1)
    have HS0 := Lib.hid (span_bd HBD.out)
    have HS2 := Lib.hid (span_ge l HBD.out.1)
    have HSN := Lib.hid (nonneg_sum HBD.out.1)
    have HSU := Lib.hid HBD.out.2
    have HRL := Lib.hid (rnds_len l)
    have HAT := Lib.hid (rnds_at l)
    have HLA := Lib.hid (rnds_last l)
    have HSE := Lib.hid (@span_end l)
    have HRE := Lib.hid (@rnds_end l)
    have HRM := Lib.hid (fun (h : 1 < l.length) => show 0 < (rnds l).length by rw [rnds_more h]; simp)
    have HSUM := Lib.hid (fun (W : World) (h : Rd W 1 Al l.length (ints l)) => rsum.any Al cl l W hll (sum_ok HBD.out) h)
    have HNS := Lib.hid (nxI_sum l)
    have HNB := Lib.hid (fun k => sum_ok (nxI_bd HBD.out k))
    have HNL := Lib.hid (nxI_len l)
    obtain ⟨sp, hsp⟩ : ∃ sp, sp = span l := ⟨_, rfl⟩
    obtain ⟨rs, hrss⟩ : ∃ rs, rs = rnds l := ⟨_, rfl⟩
    rw [← hsp] at HS1 HS0 HS2 HSE
    rw [← hrss] at hrs hk2 hkr2 HS1 HS0 HRL HAT HLA HRE HRM
    rw [← hrss, ← hsp]
    clear hsp hrss HR
    obtain ⟨sm, hsm2⟩ : ∃ sm, sm = l.sum := ⟨_, rfl⟩
    rw [← hsm2] at HS1 HS2 HSN HSU HSUM HNS
    clear hsm2
    go_wp2
    go_loopg [10, 11] (rs.length + 1) (fun f mm i wr => ∃ (k m : Nat), rs.length < k + f ∧ k ≤ rs.length ∧ i = .int .i64 (k : Int) ∧ mm = .int .i64 (m : Int) ∧ m = (nxI l k).length ∧ m ≤ 40 ∧ w3 = wr)
    case atStart => exact ⟨0, l.length, by omega, by omega, rfl, rfl, rfl, hl40, rfl⟩
    case round =>
      obtain ⟨k, m, hkf, hk, rfl, rfl, hm, hm40, rfl⟩ := hrel
      have HM := Lib.hid hm
      clear hm
      by_cases hlt : k < rs.length
      · have q1 : (k : Int) < (rs.length : Int) := by omega
        obtain ⟨b, off, rfl, B, cB, hc, l1, m1, r1⟩ := hrs.cell hlt
        have HA := Lib.hid (HAT.out k hlt)
        have HML := Lib.hid (HNL.out k)
        have HNS2 := Lib.hid (HNS.out (k + 1))
        have HNB2 := Lib.hid (HNB.out (k + 1))
        rw [← HA.out.1, ← HM.out] at HML
        rw [← HA.out.1] at HNS2 HNB2
        have HM2 := Lib.hid (show rs[k].length = (nxI l (k + 1)).length by rw [HA.out.1])
        generalize rs[k] = r at hc l1 r1 HML HNS2 HNB2 HM2
        have t1 : ((m : Int) + 1) / 2 = (r.length : Int) := by rw [HML.out]; omega
        have t2 : ((m : Int) + 1).tdiv 2 = (r.length : Int) := by rw [Int.tdiv_eq_ediv_of_nonneg (by omega)]; exact t1
        have HR1 := Lib.hid (rsum.any B cB r w3 (by have := HML.out; omega) HNB2.out r1)
        rw [HNS2.out] at HR1
        have hr40 : r.length ≤ 40 := by have := HML.out; omega
        go_wp2_with fail
        refine HR1.out.mono ?_
        rintro e w4 ⟨rfl, rfl⟩
        go_wp2_with fail
        refine (HSUM.out _ hrl3).mono ?_
        rintro e w4 ⟨rfl, rfl⟩
        go_wp2
        go_roundg (gk - 1)
        case measure => omega
        case rel => exact ⟨k + 1, r.length, by omega, by omega, by go_num, rfl, HM2.out, hr40, rfl⟩
      · have hkr : k = rs.length := by omega
        have hm1 : m ≤ 1 := by rw [HM.out, hkr]; exact HLA.out
        have q1 : ¬ (k : Int) < (rs.length : Int) := by omega
        have q2 : (m : Int) ≤ 1 := by omega
        have hrs8 : rs.length ≤ 40 := by have := HRL.out; omega
        have hsm0 := HSN.out
        have hsmu := HSU.out
        have hsp0 := HS0.out.1
        by_cases he : rs.length = 0
        · have hsz : sp = 0 := HSE.out (fun h => by have := HRM.out h; omega)
          have q3 : (rs.length : Int) = 0 := by omega
          have q4 : ((rs.length : Int) == 0) = true := by simp [q3]
          rw [hsz]
          clear hsz hk hkf
          go_wp2
          go_ret
          exact ⟨rfl, hbW⟩
        · have hl1 : 1 < l.length := by
            by_cases h : 1 < l.length
            · exact h
            · have := HRE.out h
              rw [this] at he; simp at he
          have h1 := HS2.out hl1
          have h2 := HS1.out
          have q3 : ¬ (rs.length : Int) = 0 := by omega
          have q4 : ((rs.length : Int) == 0) = false := by simpa using he
          have q5 : (0 : Int) < (rs.length : Int) := by omega
          have hmb : sm * (rs.length : Int) ≤ 4000000 * (rs.length : Int) := Int.mul_le_mul_of_nonneg_right hsmu (by omega)
          have hm0 : 0 ≤ sm * (rs.length : Int) := Int.mul_nonneg hsm0 (by omega)
          have hcm : (rs.length : Int) * sm = sm * (rs.length : Int) := Int.mul_comm _ _
          have hwr : IntKind.i64.wrap ((rs.length : Int) * sm) = (rs.length : Int) * sm := IntWalk.i64_in _ (by omega)
          have q6 : sm ≤ sp := h1
          have q7 : sp ≤ (rs.length : Int) * sm := by omega
          have q8 : decide (sm ≤ sp) = true := decide_eq_true q6
          go_wp2_with fail
          refine (HSUM.out _ hrl3).mono ?_
          rintro e w4 ⟨rfl, rfl⟩
          go_wp2_with fail
          refine (HSUM.out _ hrl3).mono ?_
          rintro e w4 ⟨rfl, rfl⟩
          go_wp2
          go_ret
          exact ⟨rfl, hbW⟩

theorem own : ownKnob Try.prog.godebug = none := by kernel_rfl
theorem laidOut : laidOutB Try.prog = true := by kernel_rfl
set_option maxRecDepth 100000 in
theorem lifted (os : Os) (started : os.Started) (H : Type) (enc : TypeId × Value → H) :
    ReturnsInHanded {} Try.checked os 4 .any (Rows.fnRoundsSpec.pre6 enc Try.prog Try.f4 Rows.fnRoundsRow.domain false) (Rows.fnRoundsSpec.post enc Try.prog Try.f4 false true false false) := by
  refine returnsInHanded_of_change (C := Try.checked) own started (by kernel_rfl) Try.func4
    (ChangeSpec.witness6 (enc := enc) (C := Try.checked) false ⟨#[], #[.slice none 0 0], []⟩ 8 (by kernel_rfl) (by kernel_rfl) (by kernel_rfl) (by kernel_rfl)) ?_
  intro W base args ds gs before hval0 hW hcnd _
  have hval : ∀ (j : Nat) t v, Try.f4.params[j]? = some t → args[j]? = some v → Value.okWide Try.prog W .any base t v := hval0
  have hW' := hW
  have hlt : ∀ x ∈ before, x.block < W.heap.size := fun x hx => by simpa using hW.lt x hx
  obtain ⟨p, q, hA0, hV, rfl, hfz, hnd⟩ := hW
  have hA : DataW.TrodAll enc Try.prog W 0 (fun _ => true) true Try.f4.params.toList args.toList ds p := hA0
  rw [Try.params4] at hA hval
  obtain ⟨v0, vs0, d0, ds0, p0, q0, hargs, rfl, rfl, h0, r0⟩ := trodAll_cons hA
  obtain ⟨rfl, rfl, rfl⟩ := trodAll_nil r0
  obtain rfl : args = #[v0] := by cases args; simp_all
  obtain ⟨A0, n0, c0, zs0, rfl, w0⟩ := mem.open_rd_bytes Try.underlying28 Try.underlying5 (by kernel_rfl) (hval 0 28 v0 rfl rfl) h0
  refine (walk A0 n0 c0 zs0 W w0).mono fun e W' ⟨he, hg⟩ => ?_
  subst he
  exact ⟨_, rfl, frame.post_true laidOut hW' rfl (of_decide_eq_true (by kernel_rfl)) (by kernel_rfl) Try.underlying4 rfl rfl rfl hg⟩
theorem over : Rows.fnRoundsRow.holds Try.pinned (OpenSpec.ofChange Rows.fnRoundsSpec) :=
  OpenClaim.holds_of_wide 4 Try.f4 rfl rfl rfl rfl rfl rfl rfl ⟨rfl, rfl, rfl, rfl, rfl⟩ rfl rfl rfl rfl rfl (by kernel_rfl) Try.func4 (by kernel_rfl)
    (of_decide_eq_true (by kernel_rfl)) (by unfold Func.isWrapper; first | (rw [if_pos (by decide +kernel)]; kernel_rfl) | (rw [if_neg (by decide +kernel)]; exact ⟨rfl, rfl⟩))
    (fun os started H enc _ => lifted os started H enc)
/-- The statement. -/
theorem proved : Rows.FnRoundsSaid :=
  over
end Go.Proofs.Ytfjmpplpagmpbaa.fnRounds
