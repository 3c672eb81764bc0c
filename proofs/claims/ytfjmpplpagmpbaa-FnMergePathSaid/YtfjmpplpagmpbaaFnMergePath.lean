/- FnMergePath: the split of a diagonal takes the smaller elements of both lists, and merging all parts yields the whole merge. No condition. -/
import Derived.Test.YtfjmpplpagmpbaaFrame
import Derived.Test.YtfjmpplpagmpbaaCode
import Derived.Test.YtfjmpplpagmpbaaMpLaw
import Derived.Test.YtfjmpplpagmpbaaParMrgS
import Derived.Test.YtfjmpplpagmpbaaVOrd
import Derived.Test.YtfjmpplpagmpbaaVInts
import Derived.Test.YtfjmpplpagmpbaaRSum
import Derived.Test.YtfjmpplpagmpbaaDrwTwo
import Derived.Deep.QuietTactic
set_option linter.unusedVariables false
set_option linter.unusedSimpArgs false
namespace Go.Proofs.Ytfjmpplpagmpbaa.fnMergePath
open Go.ChangeShapes Go.WideShapes Go.ChangeAt Go.RowKit Go.Proofs.Ytfjmpplpagmpbaa.mem Go.Proofs.Ytfjmpplpagmpbaa.srt Go.Proofs.Ytfjmpplpagmpbaa.mpLaw
open Go.Proofs.Ytfjmpplpagmpbaa.parMrg (okP resP resQ szs szs_len parts_of)
open Go.Proofs.Ytfjmpplpagmpbaa.paths (split pair pair_iff)

set_option maxRecDepth 100000 in
set_option maxHeartbeats 8000000 in
theorem walk (A : Option Addr) (n c : Nat) (zs : List Int) (W : World) (h0 : n = zs.length ∧ n ≤ c ∧ c ≤ maxLen ∧ Rd W 1 A n (u8s zs) ∧ (∀ z ∈ zs, 0 ≤ z ∧ z ≤ 255)) :
    Calls Try.prog 14 #[.slice A n c] W fun e w' => e = .returned (.bool true) ∧ Below W.heap.size W w' := by
  obtain ⟨rfl, hnc, hcm, hr, hz⟩ := h0
  have HZ := Lib.hid hz
  clear hz
  have hn : zs.length ≤ maxLen := Nat.le_trans hnc hcm
  go_enter Try.func14, Try.ntmps14
  go_wp2_with fail
  refine (codes.big_any A _ c W hn).mono ?_
  rintro e w1 ⟨rfl, rfl⟩
  by_cases hbig : 65536 < zs.length
  · go_wp2
    go_ret
    exact ⟨rfl, Below.refl _ _⟩
  have hsm : zs.length ≤ 1048576 := by omega
  have hd : decide (65536 < zs.length) = false := by simpa using hbig
  rw [hd]
  clear hd hbig
  go_wp2_with fail
  refine (drw.par_any A c zs W hsm HZ.out hr).mono ?_
  rintro e w1 ⟨va, a, vb, b, p, rfl, hoa, hob, hla, hlb, hk1, hk2, hb1⟩
  obtain ⟨Aa, ca, rfl, hac, hcam, rda⟩ := own_form hoa
  obtain ⟨Ab, cb, rfl, hbc, hcbm, rdb⟩ := own_form hob
  clear hoa hob
  have HPM := Lib.hid (parMrg.impl_any Aa ca a Ab cb b p w1 (by omega) hac hcam rda (by omega) hbc hcbm rdb)
  go_wp2_with fail
  with_reducible refine HPM.out.mono ?_
  rintro e w2 ⟨v1, v2, rfl, ⟨ho1, hs1⟩, ⟨ho2, hs2⟩, _, hb2⟩
  obtain ⟨A1, c1, rfl, _, _, rd1⟩ := own_form ho1
  obtain ⟨A2, c2, rfl, _, _, rd2⟩ := own_form ho2
  have rda2 := rda.below hb2
  have rdb2 := rdb.below hb2
  have HPS := Lib.hid (parMrg.spec_any Aa ca a Ab cb b p w2 (by omega) hac hcam rda2 (by omega) hbc hcbm rdb2)
  go_wp2_with fail
  with_reducible refine HPS.out.mono ?_
  rintro e w3 ⟨v3, v4, rfl, _, _, _, hb3⟩
  have rd1b := rd1.below hb3
  have rd2b := rd2.below hb3
  have rda3 := rda2.below hb3
  have rdb3 := rdb2.below hb3
  have hbW := below_step (below_step hb1 hb2) hb3
  clear rda2 rdb2 rda rdb hb1 hb2 hb3 ho1 ho2 rd1 rd2 HPM HPS hs1 hs2
  cases hok : okP a b p with
  | false =>
    have HR := Lib.hid (show (resP a b p).length = 0 ∧ (resQ a b p).length = 0 by simp [resP, resQ, hok])
    have h1 := HR.out.1
    have h2 := HR.out.2
    clear hok
    go_wp2
    go_ret
    exact ⟨rfl, hbW⟩
  | true =>
    have hv : pair a b = true := by
      simp only [okP, Bool.and_eq_true] at hok; exact hok.1
    have hpi : Go.Proofs.Ytfjmpplpagmpbaa.ins.inB p 1 16 = true := by
      simp only [okP, Bool.and_eq_true] at hok; exact hok.2
    obtain ⟨q, rfl, hq1, hq2⟩ := parts_of hpi
    obtain ⟨⟨ha1, ha2⟩, ⟨hb1, hb2⟩, h64⟩ := pair_iff.1 hv
    have HUA := Lib.hid (up_of ha1)
    have HUB := Lib.hid (up_of hb1)
    clear ha1 ha2 hb1 hb2
    have HOK := Lib.hid hok
    have HR := Lib.hid (show resP a b (q : Int) = srt (a ++ b) ∧ resQ a b (q : Int) = szs (a.length + b.length) q q by
      simp [resP, resQ, hok])
    have HPP := Lib.hid (show pathParts.ok a b (q : Int) = true ∧ pathParts.res a b (q : Int) = pathParts.parts a b q (q + 1) by
      have h1 : pathParts.ok a b (q : Int) = true := by rw [pathParts.ok, hv, hpi]; rfl
      exact ⟨h1, by rw [pathParts.res, if_pos h1, Int.toNat_natCast]⟩)
    have HPT := Lib.hid (fun (dg : Nat) (h : dg ≤ a.length + b.length) => show paths.ok a b (dg : Int) = true ∧ paths.r1 a b (dg : Int) = (pt a b dg : Int) ∧ paths.r2 a b (dg : Int) = ((split a b dg).2 : Int) by
      have h1 : paths.ok a b (dg : Int) = true := by
        rw [paths.ok, hv, Bool.true_and, ins.inB_iff]; omega
      exact ⟨h1, by rw [paths.r1, if_pos h1, Int.toNat_natCast]; rfl, by rw [paths.r2, if_pos h1, Int.toNat_natCast]⟩)
    rw [HR.out.1] at rd1b
    rw [HR.out.2] at rd2b
    rw [HR.out.1, HR.out.2]
    clear hok hpi hv
    have HSL := Lib.hid (show (srt (a ++ b)).length = a.length + b.length by rw [srt_len, List.length_append])
    have HQL := Lib.hid (szs_len (a.length + b.length) q q)
    have HQS := Lib.hid (szs_total (n := a.length + b.length) (p := q) (by omega))
    have HQP := Lib.hid (szs_pos (n := a.length + b.length) (p := q) (by omega) h64)
    have HQA := Lib.hid (fun (i : Nat) (h : i < q) => show (((a.length + b.length) / q : Nat) : Int) ≤ (szs (a.length + b.length) q q).getD i 0 ∧ (szs (a.length + b.length) q q).getD i 0 ≤ (((a.length + b.length + q - 1) / q : Nat) : Int) by
      rw [szs_at h]
      have := size_bd (a.length + b.length) q i (by omega)
      omega)
    have hh0 : 0 + a.length ≤ 1099511627776 := by omega
    have hh1 : a.length + b.length ≤ 1099511627776 := by omega
    have h0 := World.ownsRow_made (e := 3) (size := 1) w3 #[] 0 (Nat.le_refl _) (Nat.zero_le _) (by simp)
    have hb0 : Below w3.heap.size w3 (w3.alloc (.cells #[] 3)) := (Below.refl _ _).alloc (Nat.le_refl _) _
    have hs0 := hb0.size
    have hra0 := rda3.alloc (.cells #[] 3)
    go_wp2_with (first
      | ((at_builtin; refine mem.extend _ rfl _ _ 22 rfl w3.heap.size 3 _ 1 8 Try.underlying22 mem.info_int rfl Nat.one_pos _ _ _ rfl h0 _ _ _ _ rfl hra0 (mem.ints_one _) hh0 (by decide) hs0 ?_; intro v' w' ho' hg'); have hb4 := below_push hb0 hs0 hg' h0; simp only [Nat.zero_add, List.nil_append] at ho'; have hrb4 := rdb3.below hb4; have hs4 := hb4.size; have ho4 := ho'; clear ho' hg')
      | (at_builtin; refine mem.extend _ rfl _ _ 22 rfl w3.heap.size 3 _ 1 8 Try.underlying22 mem.info_int rfl Nat.one_pos _ _ _ rfl ho4 _ _ _ _ rfl hrb4 (mem.ints_one _) hh1 (by decide) hs4 ?_; intro v' w' ho' hg'))
    have hb5 := below_push hb4 hs4 hg' ho4
    rw [← ints_app] at ho'
    have ho5 := ho'
    clear ho' hg' hra0 h0 hb0 hs0
    obtain ⟨A5, c5, hve, _, _, rd5⟩ := own_form ho5
    subst hve
    have hrd5 : Rd w' 1 A5 (a ++ b).length (ints (a ++ b)) := by rw [List.length_append]; exact rd5
    have HO := Lib.hid (vord.ord_any A5 c5 (a ++ b) w' (by rw [List.length_append]; omega) hrd5)
    rw [List.length_append] at HO
    go_wp2_with fail
    with_reducible refine HO.out.mono ?_
    rintro e w6 ⟨v7, rfl, ho7, hb6⟩
    rw [← HSL.out] at ho7
    obtain ⟨A7, c7, rfl, _, _, rd7⟩ := own_form ho7
    have hb56 := below_step hb5 hb6
    have rd1c := rd1b.below hb56
    have rd2c := rd2b.below hb56
    have rdac := rda3.below hb56
    have rdbc := rdb3.below hb56
    have hbW2 := below_step hbW hb56
    have HSM := Lib.hid (show (srt (a ++ b)).length ≤ maxLen by rw [HSL.out]; unfold maxLen; omega)
    have HMB := Lib.hid (fun (d : Nat) (h : d ≤ a.length + b.length) => split_cnt h64 h)
    have HP0 := Lib.hid (pt_zero a b)
    have HPN := Lib.hid (fun (d : Nat) (h : d + 1 ≤ a.length + b.length) => pt_next HUA.out HUB.out h)
    have HPR := Lib.hid (fun (d : Nat) (h : d ≤ a.length + b.length) => pt_prop a b h)
    have HPL := Lib.hid (And.intro (pathParts.parts_len a b q (q + 1)) (And.intro (parts_first a b q) (parts_last a b (p := q) (by omega))))
    clear ho7 hb6 hb5 hb56 hbW rd1b rd2b rda3 rdb3 ho5 hrd5 rd5 hrb4 hb4 hs4 ho4 HO HR HOK
    generalize szs (a.length + b.length) q q = Z at *
    generalize srt (a ++ b) = S at *
    generalize pt a b = t at HPT HP0 HPN HPR
    have HV1 := Lib.hid (vints.eq_any A1 A7 c1 c7 S S w6 HSM.out HSM.out rd1c rd7)
    rw [show decide (S = S) = true by simp] at HV1
    go_wp2_with fail
    with_reducible refine HV1.out.mono ?_
    rintro e w7 ⟨rfl, m, rfl⟩
    have hbW3 := below_drewN hbW2 m
    have rdZ := rd2c.drewN m
    have rdA := rdac.drewN m
    have rdB := rdbc.drewN m
    obtain ⟨w9, hw9⟩ : ∃ w9, w9 = w6.drewN m := ⟨_, rfl⟩
    rw [← hw9] at hbW3 rdZ rdA rdB
    rw [← hw9]
    clear hw9 HV1 rd1c rd2c rdac rdbc hbW2 rd7
    have HRS := Lib.hid (rsum.any A2 c2 Z w9 (by have := HQL.out; omega) (fun z hz => by have := HQP.out z hz; omega) rdZ)
    rw [HQS.out] at HRS
    have hQ : (Z.length : Int) = (q : Int) := by have := HQL.out; omega
    have hNE : ((a.length + b.length : Nat) : Int) = (a.length : Int) + (b.length : Int) := by omega
    rw [hNE] at HRS
    clear hNE
    have rN : IntKind.i64.wrap ((a.length : Int) + (b.length : Int)) = (a.length : Int) + (b.length : Int) := IntWalk.i64_in _ (by omega)
    go_wp2_with fail
    with_reducible refine HRS.out.mono ?_
    rintro e w10 ⟨rfl, rfl⟩
    have HWF := Lib.hid (fun (W' : World) (hb : Below w9.heap.size w9 W') => And.intro (rdA.below hb) (And.intro (rdB.below hb) (rdZ.below hb)))
    have HQI := Lib.hid hQ
    clear rdZ rdA rdB HRS hQ
    have e1 : ((a.length : Int) + (b.length : Int)) / (q : Int) = (((a.length + b.length) / q : Nat) : Int) := by rw [Int.natCast_ediv, Int.natCast_add]
    have e2 : ((a.length : Int) + (b.length : Int) + (q : Int) - 1) / (q : Int) = (((a.length + b.length + q - 1) / q : Nat) : Int) := by
      rw [Int.natCast_ediv]; congr 1; omega
    have hu : (((a.length + b.length) / q : Nat) : Int) ≤ 64 := by have := Nat.div_le_self (a.length + b.length) q; omega
    have hu2 : (((a.length + b.length + q - 1) / q : Nat) : Int) ≤ 1024 := by have := Nat.div_le_self (a.length + b.length + q - 1) q; omega
    generalize (((a.length + b.length) / q : Nat) : Int) = lo at e1 HQA hu
    generalize (((a.length + b.length + q - 1) / q : Nat) : Int) = hi at e2 HQA hu2
    have qz : ((q : Int) == 0) = false := by simp; omega
    have qz2 : ¬ (q : Int) = 0 := by omega
    have qz3 : ¬ q = 0 := by omega
    have qz4 : (q == 0) = false := by simp; omega
    go_wp2
    go_loopg [13] (q + 1) (fun f i wr => ∃ k : Nat, q < k + f ∧ k ≤ q ∧ i = .int .i64 (k : Int) ∧ Below w9.heap.size w9 wr)
    case atStart => exact ⟨0, by omega, by omega, rfl, Below.refl _ _⟩
    case round =>
      obtain ⟨k, hkf, hk, rfl, hb⟩ := hrel
      have HB := Lib.hid hb
      by_cases hlt : k < q
      · have q1 : (k : Int) < (q : Int) := by omega
        have hkZ : k < Z.length := by have := HQI.out; omega
        have hkZ2 : (k : Int) < (Z.length : Int) := by omega
        obtain ⟨bZ, oZ, rfl, cZ⟩ := (HWF.out _ hb).2.2.int hkZ
        have hz := HQA.out k hlt
        rw [lists.getD_at Z hkZ] at hz
        generalize Z[k] = z at cZ hz
        have g1 : ¬ z < lo := by omega
        have g1d : decide (z < lo) = false := decide_eq_false g1
        have g2 : ¬ hi < z := by omega
        have g2d : decide (hi < z) = false := decide_eq_false g2
        go_wp2_with fail
        go_quiet (fail)
        go_wp2
        go_roundg (gk - 1)
        case measure => omega
        case rel => exact ⟨k + 1, by omega, by omega, by go_num, below_drewN HB.out _⟩
      · have q1 : ¬ (k : Int) < (q : Int) := by omega
        clear e1 e2 hu hu2 qz qz2 qz3 qz4
        go_wp2
        go_loopg [14, 15] (a.length + b.length + 2) (fun f l i wr => ∃ d : Nat, a.length + b.length + 1 < d + f ∧ d ≤ a.length + b.length + 1 ∧ l = .int .i64 (t (d - 1) : Int) ∧ i = .int .i64 (d : Int) ∧ Below w9.heap.size w9 wr)
        case atStart => exact ⟨0, by omega, by omega, by rw [HP0.out]; rfl, rfl, HB.out⟩
        case round =>
          obtain ⟨d, hdf, hd, rfl, rfl, hb2⟩ := hrel
          have HB2 := Lib.hid hb2
          by_cases hlt2 : d ≤ a.length + b.length
          · have q2 : (d : Int) ≤ (a.length : Int) + (b.length : Int) := by omega
            have HMP := Lib.hid (paths.impl_any Aa ca a Ab cb b (d : Int) wr (by omega) (HWF.out _ hb2).1 (by omega) (HWF.out _ hb2).2.1)
            rw [(HPT.out d hlt2).1, (HPT.out d hlt2).2.1, (HPT.out d hlt2).2.2] at HMP
            have hm := HMB.out d hlt2
            obtain ⟨hi1, hi2, hi3, hX1, hX2⟩ := HPR.out d hlt2
            have hst : t (d - 1) ≤ t d ∧ t d ≤ t (d - 1) + 1 := by
              cases d with
              | zero => simp [HP0.out]
              | succ d => exact HPN.out d hlt2
            have HTD := Lib.hid (show ∃ x, x = t d ∧ t (d + 1 - 1) = x from ⟨_, rfl, rfl⟩)
            generalize (split a b d).2 = mm at HMP hm
            obtain ⟨la, hla'⟩ : ∃ la, la = t (d - 1) := ⟨_, rfl⟩
            rw [← hla'] at hst
            rw [← hla']
            clear hla'
            obtain ⟨i, hi⟩ : ∃ i, i = t d := ⟨_, rfl⟩
            rw [← hi] at HMP hi1 hi2 hi3 hX1 hX2 hst
            have HI := Lib.hid hi
            clear hi HTD
            obtain ⟨k2, hk2'⟩ : ∃ k2, i + k2 = d := ⟨d - i, by omega⟩
            have hkd : (d : Int) - (i : Int) = (k2 : Int) := by omega
            rw [show d - i = k2 by omega] at hX1 hX2
            have hkb : k2 ≤ b.length := by omega
            go_wp2_with fail
            with_reducible refine HMP.out.mono ?_
            rintro e w11 ⟨rfl, hb11⟩
            have hb3 := below_at hb2 hb2.size hb11
            have HB3 := Lib.hid hb3
            have t1 : ¬ (i : Int) < (la : Int) := by omega
            have t1d : decide ((i : Int) < (la : Int)) = false := decide_eq_false t1
            have t1n : decide (i < la) = false := decide_eq_false (by omega)
            have t2 : ¬ (la : Int) + 1 < (i : Int) := by omega
            have t2d : decide ((la : Int) + 1 < (i : Int)) = false := decide_eq_false t2
            have t3 : ¬ (a.length : Int) < (i : Int) := by omega
            have t3d : decide ((a.length : Int) < (i : Int)) = false := decide_eq_false t3
            have t3n : decide (a.length < i) = false := decide_eq_false (by omega)
            have t4 : ¬ (b.length : Int) < (k2 : Int) := by omega
            have t4d : decide ((b.length : Int) < (k2 : Int)) = false := decide_eq_false t4
            have t4n : decide (b.length < k2) = false := decide_eq_false (by omega)
            have t5 : ¬ (7 : Int) < (mm : Int) := by omega
            have t5d : decide ((7 : Int) < (mm : Int)) = false := decide_eq_false t5
            have t5n : decide (7 < mm) = false := decide_eq_false (by omega)
            clear hk2' hb2 HMP
            go_wp2_with fail
            by_cases hc1 : i = 0
            · by_cases hd1 : k2 = 0
              · have g1 : ¬ (0 : Int) < (i : Int) := by omega
                have g1d : decide ((0 : Int) < (i : Int)) = false := decide_eq_false g1
                have g1n : decide (0 < i) = false := decide_eq_false (by omega)
                have f1 : ¬ (0 : Int) < (k2 : Int) := by omega
                have f1d : decide ((0 : Int) < (k2 : Int)) = false := decide_eq_false f1
                have f1n : decide (0 < k2) = false := decide_eq_false (by omega)
                clear hX1 hX2
                try clear hc1
                try clear hc2
                try clear hd1
                try clear hd2
                go_wp2_with fail
                go_quiet (fail)
                go_wp2
                go_roundg (gk - 1)
                case measure => omega
                case rel => exact ⟨d + 1, by omega, by omega, by rw [show d + 1 - 1 = d by omega, ← HI.out], by go_num, below_drewN HB3.out _⟩
              · by_cases hd2 : i < a.length
                · have g1 : ¬ (0 : Int) < (i : Int) := by omega
                  have g1d : decide ((0 : Int) < (i : Int)) = false := decide_eq_false g1
                  have g1n : decide (0 < i) = false := decide_eq_false (by omega)
                  have f1 : (0 : Int) < (k2 : Int) := by omega
                  have f1n : 0 < k2 := by omega
                  have f2 : (i : Int) < (a.length : Int) := by omega
                  have f2n : i < a.length := by omega
                  obtain ⟨l, hl⟩ : ∃ l, l + 1 = k2 := ⟨k2 - 1, by omega⟩
                  have hlb' : l < b.length := by omega
                  have X2 := hX2 f1n f2n
                  rw [show k2 - 1 = l by omega, lists.getD_at a f2n, lists.getD_at b hlb'] at X2
                  first | (obtain ⟨ba, oa, rfl, cA2⟩ := (HWF.out _ hb3).1.int f2n) | (have cA2 := (HWF.out _ hb3).1.int_at f2n)
                  first | (obtain ⟨bb, ob, rfl, cB2⟩ := (HWF.out _ hb3).2.1.int hlb') | (have cB2 := (HWF.out _ hb3).2.1.int_at hlb')
                  generalize a[i] = ya at cA2 X2
                  generalize b[l] = yb at cB2 X2
                  have f3 : ((k2 : Int) - 1).toNat = l := by omega
                  have f4 : (0 : Int) ≤ (k2 : Int) - 1 := by omega
                  have f5 : (k2 : Int) - 1 < (b.length : Int) := by omega
                  have f6 : ¬ ya ≤ yb := by omega
                  have f6d : decide (ya ≤ yb) = false := decide_eq_false f6
                  clear hl
                  clear hX1 hX2
                  try clear hc1
                  try clear hc2
                  try clear hd1
                  try clear hd2
                  go_wp2_with fail
                  go_quiet (fail)
                  go_wp2
                  go_roundg (gk - 1)
                  case measure => omega
                  case rel => exact ⟨d + 1, by omega, by omega, by rw [show d + 1 - 1 = d by omega, ← HI.out], by go_num, below_drewN HB3.out _⟩
                · have g1 : ¬ (0 : Int) < (i : Int) := by omega
                  have g1d : decide ((0 : Int) < (i : Int)) = false := decide_eq_false g1
                  have g1n : decide (0 < i) = false := decide_eq_false (by omega)
                  have f1 : (0 : Int) < (k2 : Int) := by omega
                  have f1n : 0 < k2 := by omega
                  have f2 : ¬ (i : Int) < (a.length : Int) := by omega
                  have f2d : decide ((i : Int) < (a.length : Int)) = false := decide_eq_false f2
                  have f2n : decide (i < a.length) = false := decide_eq_false (by omega)
                  clear hX1 hX2
                  try clear hc1
                  try clear hc2
                  try clear hd1
                  try clear hd2
                  go_wp2_with fail
                  go_quiet (fail)
                  go_wp2
                  go_roundg (gk - 1)
                  case measure => omega
                  case rel => exact ⟨d + 1, by omega, by omega, by rw [show d + 1 - 1 = d by omega, ← HI.out], by go_num, below_drewN HB3.out _⟩
            · by_cases hc2 : k2 < b.length
              · by_cases hd1 : k2 = 0
                · have g1 : (0 : Int) < (i : Int) := by omega
                  have g1n : 0 < i := by omega
                  have g2 : (k2 : Int) < (b.length : Int) := by omega
                  have g2n : k2 < b.length := by omega
                  obtain ⟨j, hj⟩ : ∃ j, j + 1 = i := ⟨i - 1, by omega⟩
                  have hja : j < a.length := by omega
                  have X1 := hX1 g1n g2n
                  rw [show i - 1 = j by omega, lists.getD_at a hja, lists.getD_at b g2n] at X1
                  first | (obtain ⟨ba, oa, rfl, cA⟩ := (HWF.out _ hb3).1.int hja) | (have cA := (HWF.out _ hb3).1.int_at hja)
                  first | (obtain ⟨bb, ob, rfl, cB⟩ := (HWF.out _ hb3).2.1.int g2n) | (have cB := (HWF.out _ hb3).2.1.int_at g2n)
                  generalize a[j] = xa at cA X1
                  generalize b[k2] = xb at cB X1
                  have g3 : ((i : Int) - 1).toNat = j := by omega
                  have g4 : (0 : Int) ≤ (i : Int) - 1 := by omega
                  have g5 : (i : Int) - 1 < (a.length : Int) := by omega
                  have g6 : ¬ xb < xa := by omega
                  have g6d : decide (xb < xa) = false := decide_eq_false g6
                  clear hj
                  have f1 : ¬ (0 : Int) < (k2 : Int) := by omega
                  have f1d : decide ((0 : Int) < (k2 : Int)) = false := decide_eq_false f1
                  have f1n : decide (0 < k2) = false := decide_eq_false (by omega)
                  clear hX1 hX2
                  try clear hc1
                  try clear hc2
                  try clear hd1
                  try clear hd2
                  go_wp2_with fail
                  go_quiet (fail)
                  go_wp2
                  go_roundg (gk - 1)
                  case measure => omega
                  case rel => exact ⟨d + 1, by omega, by omega, by rw [show d + 1 - 1 = d by omega, ← HI.out], by go_num, below_drewN HB3.out _⟩
                · by_cases hd2 : i < a.length
                  · have g1 : (0 : Int) < (i : Int) := by omega
                    have g1n : 0 < i := by omega
                    have g2 : (k2 : Int) < (b.length : Int) := by omega
                    have g2n : k2 < b.length := by omega
                    obtain ⟨j, hj⟩ : ∃ j, j + 1 = i := ⟨i - 1, by omega⟩
                    have hja : j < a.length := by omega
                    have X1 := hX1 g1n g2n
                    rw [show i - 1 = j by omega, lists.getD_at a hja, lists.getD_at b g2n] at X1
                    first | (obtain ⟨ba, oa, rfl, cA⟩ := (HWF.out _ hb3).1.int hja) | (have cA := (HWF.out _ hb3).1.int_at hja)
                    first | (obtain ⟨bb, ob, rfl, cB⟩ := (HWF.out _ hb3).2.1.int g2n) | (have cB := (HWF.out _ hb3).2.1.int_at g2n)
                    generalize a[j] = xa at cA X1
                    generalize b[k2] = xb at cB X1
                    have g3 : ((i : Int) - 1).toNat = j := by omega
                    have g4 : (0 : Int) ≤ (i : Int) - 1 := by omega
                    have g5 : (i : Int) - 1 < (a.length : Int) := by omega
                    have g6 : ¬ xb < xa := by omega
                    have g6d : decide (xb < xa) = false := decide_eq_false g6
                    clear hj
                    have f1 : (0 : Int) < (k2 : Int) := by omega
                    have f1n : 0 < k2 := by omega
                    have f2 : (i : Int) < (a.length : Int) := by omega
                    have f2n : i < a.length := by omega
                    obtain ⟨l, hl⟩ : ∃ l, l + 1 = k2 := ⟨k2 - 1, by omega⟩
                    have hlb' : l < b.length := by omega
                    have X2 := hX2 f1n f2n
                    rw [show k2 - 1 = l by omega, lists.getD_at a f2n, lists.getD_at b hlb'] at X2
                    first | (obtain ⟨ba, oa, rfl, cA2⟩ := (HWF.out _ hb3).1.int f2n) | (have cA2 := (HWF.out _ hb3).1.int_at f2n)
                    first | (obtain ⟨bb, ob, rfl, cB2⟩ := (HWF.out _ hb3).2.1.int hlb') | (have cB2 := (HWF.out _ hb3).2.1.int_at hlb')
                    generalize a[i] = ya at cA2 X2
                    generalize b[l] = yb at cB2 X2
                    have f3 : ((k2 : Int) - 1).toNat = l := by omega
                    have f4 : (0 : Int) ≤ (k2 : Int) - 1 := by omega
                    have f5 : (k2 : Int) - 1 < (b.length : Int) := by omega
                    have f6 : ¬ ya ≤ yb := by omega
                    have f6d : decide (ya ≤ yb) = false := decide_eq_false f6
                    clear hl
                    clear hX1 hX2
                    try clear hc1
                    try clear hc2
                    try clear hd1
                    try clear hd2
                    go_wp2_with fail
                    go_quiet (fail)
                    go_wp2
                    go_roundg (gk - 1)
                    case measure => omega
                    case rel => exact ⟨d + 1, by omega, by omega, by rw [show d + 1 - 1 = d by omega, ← HI.out], by go_num, below_drewN HB3.out _⟩
                  · have g1 : (0 : Int) < (i : Int) := by omega
                    have g1n : 0 < i := by omega
                    have g2 : (k2 : Int) < (b.length : Int) := by omega
                    have g2n : k2 < b.length := by omega
                    obtain ⟨j, hj⟩ : ∃ j, j + 1 = i := ⟨i - 1, by omega⟩
                    have hja : j < a.length := by omega
                    have X1 := hX1 g1n g2n
                    rw [show i - 1 = j by omega, lists.getD_at a hja, lists.getD_at b g2n] at X1
                    first | (obtain ⟨ba, oa, rfl, cA⟩ := (HWF.out _ hb3).1.int hja) | (have cA := (HWF.out _ hb3).1.int_at hja)
                    first | (obtain ⟨bb, ob, rfl, cB⟩ := (HWF.out _ hb3).2.1.int g2n) | (have cB := (HWF.out _ hb3).2.1.int_at g2n)
                    generalize a[j] = xa at cA X1
                    generalize b[k2] = xb at cB X1
                    have g3 : ((i : Int) - 1).toNat = j := by omega
                    have g4 : (0 : Int) ≤ (i : Int) - 1 := by omega
                    have g5 : (i : Int) - 1 < (a.length : Int) := by omega
                    have g6 : ¬ xb < xa := by omega
                    have g6d : decide (xb < xa) = false := decide_eq_false g6
                    clear hj
                    have f1 : (0 : Int) < (k2 : Int) := by omega
                    have f1n : 0 < k2 := by omega
                    have f2 : ¬ (i : Int) < (a.length : Int) := by omega
                    have f2d : decide ((i : Int) < (a.length : Int)) = false := decide_eq_false f2
                    have f2n : decide (i < a.length) = false := decide_eq_false (by omega)
                    clear hX1 hX2
                    try clear hc1
                    try clear hc2
                    try clear hd1
                    try clear hd2
                    go_wp2_with fail
                    go_quiet (fail)
                    go_wp2
                    go_roundg (gk - 1)
                    case measure => omega
                    case rel => exact ⟨d + 1, by omega, by omega, by rw [show d + 1 - 1 = d by omega, ← HI.out], by go_num, below_drewN HB3.out _⟩
              · by_cases hd1 : k2 = 0
                · have g1 : (0 : Int) < (i : Int) := by omega
                  have g1n : 0 < i := by omega
                  have g2 : ¬ (k2 : Int) < (b.length : Int) := by omega
                  have g2d : decide ((k2 : Int) < (b.length : Int)) = false := decide_eq_false g2
                  have g2n : decide (k2 < b.length) = false := decide_eq_false (by omega)
                  have f1 : ¬ (0 : Int) < (k2 : Int) := by omega
                  have f1d : decide ((0 : Int) < (k2 : Int)) = false := decide_eq_false f1
                  have f1n : decide (0 < k2) = false := decide_eq_false (by omega)
                  clear hX1 hX2
                  try clear hc1
                  try clear hc2
                  try clear hd1
                  try clear hd2
                  go_wp2_with fail
                  go_quiet (fail)
                  go_wp2
                  go_roundg (gk - 1)
                  case measure => omega
                  case rel => exact ⟨d + 1, by omega, by omega, by rw [show d + 1 - 1 = d by omega, ← HI.out], by go_num, below_drewN HB3.out _⟩
                · by_cases hd2 : i < a.length
                  · have g1 : (0 : Int) < (i : Int) := by omega
                    have g1n : 0 < i := by omega
                    have g2 : ¬ (k2 : Int) < (b.length : Int) := by omega
                    have g2d : decide ((k2 : Int) < (b.length : Int)) = false := decide_eq_false g2
                    have g2n : decide (k2 < b.length) = false := decide_eq_false (by omega)
                    have f1 : (0 : Int) < (k2 : Int) := by omega
                    have f1n : 0 < k2 := by omega
                    have f2 : (i : Int) < (a.length : Int) := by omega
                    have f2n : i < a.length := by omega
                    obtain ⟨l, hl⟩ : ∃ l, l + 1 = k2 := ⟨k2 - 1, by omega⟩
                    have hlb' : l < b.length := by omega
                    have X2 := hX2 f1n f2n
                    rw [show k2 - 1 = l by omega, lists.getD_at a f2n, lists.getD_at b hlb'] at X2
                    first | (obtain ⟨ba, oa, rfl, cA2⟩ := (HWF.out _ hb3).1.int f2n) | (have cA2 := (HWF.out _ hb3).1.int_at f2n)
                    first | (obtain ⟨bb, ob, rfl, cB2⟩ := (HWF.out _ hb3).2.1.int hlb') | (have cB2 := (HWF.out _ hb3).2.1.int_at hlb')
                    generalize a[i] = ya at cA2 X2
                    generalize b[l] = yb at cB2 X2
                    have f3 : ((k2 : Int) - 1).toNat = l := by omega
                    have f4 : (0 : Int) ≤ (k2 : Int) - 1 := by omega
                    have f5 : (k2 : Int) - 1 < (b.length : Int) := by omega
                    have f6 : ¬ ya ≤ yb := by omega
                    have f6d : decide (ya ≤ yb) = false := decide_eq_false f6
                    clear hl
                    clear hX1 hX2
                    try clear hc1
                    try clear hc2
                    try clear hd1
                    try clear hd2
                    go_wp2_with fail
                    go_quiet (fail)
                    go_wp2
                    go_roundg (gk - 1)
                    case measure => omega
                    case rel => exact ⟨d + 1, by omega, by omega, by rw [show d + 1 - 1 = d by omega, ← HI.out], by go_num, below_drewN HB3.out _⟩
                  · have g1 : (0 : Int) < (i : Int) := by omega
                    have g1n : 0 < i := by omega
                    have g2 : ¬ (k2 : Int) < (b.length : Int) := by omega
                    have g2d : decide ((k2 : Int) < (b.length : Int)) = false := decide_eq_false g2
                    have g2n : decide (k2 < b.length) = false := decide_eq_false (by omega)
                    have f1 : (0 : Int) < (k2 : Int) := by omega
                    have f1n : 0 < k2 := by omega
                    have f2 : ¬ (i : Int) < (a.length : Int) := by omega
                    have f2d : decide ((i : Int) < (a.length : Int)) = false := decide_eq_false f2
                    have f2n : decide (i < a.length) = false := decide_eq_false (by omega)
                    clear hX1 hX2
                    try clear hc1
                    try clear hc2
                    try clear hd1
                    try clear hd2
                    go_wp2_with fail
                    go_quiet (fail)
                    go_wp2
                    go_roundg (gk - 1)
                    case measure => omega
                    case rel => exact ⟨d + 1, by omega, by omega, by rw [show d + 1 - 1 = d by omega, ← HI.out], by go_num, below_drewN HB3.out _⟩
          · have q2 : ¬ (d : Int) ≤ (a.length : Int) + (b.length : Int) := by omega
            have q2d : decide ((d : Int) ≤ (a.length : Int) + (b.length : Int)) = false := decide_eq_false q2
            have HMP := Lib.hid (pathParts.impl_any Aa ca a Ab cb b (q : Int) wr (by omega) (HWF.out _ hb2).1 (by omega) (HWF.out _ hb2).2.1)
            rw [HPP.out.1, HPP.out.2] at HMP
            generalize pathParts.parts a b q (q + 1) = P at HMP HPL
            go_wp2_with fail
            with_reducible refine HMP.out.mono ?_
            rintro e w11 ⟨vP, rfl, ⟨hoP, _⟩, hb11⟩
            have hb3 := below_at hb2 hb2.size hb11
            obtain ⟨AP, cP, rfl, _, _, rdP⟩ := own_form hoP
            have hp0 : 0 < P.length := by rw [HPL.out.1]; omega
            have hpq : q < P.length := by rw [HPL.out.1]; omega
            obtain ⟨bP, oP, rfl, cP0⟩ := rdP.int hp0
            have cPq := rdP.int_at hpq
            rw [← lists.getD_at P hp0, HPL.out.2.1] at cP0
            simp only [Nat.add_zero, Nat.mul_zero, Nat.zero_mul] at cP0
            rw [← lists.getD_at P hpq, HPL.out.2.2] at cPq
            have hPl : (P.length : Int) = (q : Int) + 1 := by have := HPL.out.1; omega
            have HF := Lib.hid (below_at hbW3 hbW3.size hb3)
            clear hb3 hb2 hb11 hoP rdP HMP
            go_wp2
            go_ret
            exact ⟨rfl, HF.out⟩

theorem own : ownKnob Try.prog.godebug = none := by kernel_rfl
theorem laidOut : laidOutB Try.prog = true := by kernel_rfl
set_option maxRecDepth 100000 in
theorem lifted (os : Os) (started : os.Started) (H : Type) (enc : TypeId × Value → H) :
    ReturnsInHanded {} Try.checked os 14 .any (Rows.fnMergePathSpec.pre6 enc Try.prog Try.f14 Rows.fnMergePathRow.domain false) (Rows.fnMergePathSpec.post enc Try.prog Try.f14 false true false false) := by
  refine returnsInHanded_of_change (C := Try.checked) own started (by kernel_rfl) Try.func14
    (ChangeSpec.witness6 (enc := enc) (C := Try.checked) false ⟨#[], #[.slice none 0 0], []⟩ 8 (by kernel_rfl) (by kernel_rfl) (by kernel_rfl) (by kernel_rfl)) ?_
  intro W base args ds gs before hval0 hW hcnd _
  have hval : ∀ (j : Nat) t v, Try.f14.params[j]? = some t → args[j]? = some v → Value.okWide Try.prog W .any base t v := hval0
  have hW' := hW
  have hlt : ∀ x ∈ before, x.block < W.heap.size := fun x hx => by simpa using hW.lt x hx
  obtain ⟨p, q, hA0, hV, rfl, hfz, hnd⟩ := hW
  have hA : DataW.TrodAll enc Try.prog W 0 (fun _ => true) true Try.f14.params.toList args.toList ds p := hA0
  rw [Try.params14] at hA hval
  obtain ⟨v0, vs0, d0, ds0, p0, q0, hargs, rfl, rfl, h0, r0⟩ := trodAll_cons hA
  obtain ⟨rfl, rfl, rfl⟩ := trodAll_nil r0
  obtain rfl : args = #[v0] := by cases args; simp_all
  obtain ⟨A0, n0, c0, zs0, rfl, w0⟩ := mem.open_rd_bytes Try.underlying28 Try.underlying5 (by kernel_rfl) (hval 0 28 v0 rfl rfl) h0
  refine (walk A0 n0 c0 zs0 W w0).mono fun e W' ⟨he, hg⟩ => ?_
  subst he
  exact ⟨_, rfl, frame.post_true laidOut hW' rfl (of_decide_eq_true (by kernel_rfl)) (by kernel_rfl) Try.underlying4 rfl rfl rfl hg⟩
theorem over : Rows.fnMergePathRow.holds Try.pinned (OpenSpec.ofChange Rows.fnMergePathSpec) :=
  OpenClaim.holds_of_wide 14 Try.f14 rfl rfl rfl rfl rfl rfl rfl ⟨rfl, rfl, rfl, rfl, rfl⟩ rfl rfl rfl rfl rfl (by kernel_rfl) Try.func14 (by kernel_rfl)
    (of_decide_eq_true (by kernel_rfl)) (by unfold Func.isWrapper; first | (rw [if_pos (by decide +kernel)]; kernel_rfl) | (rw [if_neg (by decide +kernel)]; exact ⟨rfl, rfl⟩))
    (fun os started H enc _ => lifted os started H enc)
/-- The statement. -/
theorem proved : Rows.FnMergePathSaid :=
  over
end Go.Proofs.Ytfjmpplpagmpbaa.fnMergePath
