/- FnQuantiles: a quantile query names an element whose rank differs from the wanted one by no more than the stated error, and RankBounds contains the true number. No condition. -/
import Derived.Test.YtlckeefjhafloaaFrame
import Derived.Test.YtlckeefjhafloaaCode
import Derived.Test.YtlckeefjhafloaaDrwFits
import Derived.Test.YtlckeefjhafloaaFitMore
import Derived.Test.YtlckeefjhafloaaSmyFitS
import Derived.Test.YtlckeefjhafloaaSmyQR
import Derived.Test.YtlckeefjhafloaaInsSort
import Derived.Deep.QuietTactic
import Derived.Lib.QuietBelow
set_option linter.unusedVariables false
set_option linter.unusedSimpArgs false
namespace Go.Proofs.Ytlckeefjhafloaa.fnQuantiles
open Go.ChangeShapes Go.WideShapes Go.ChangeAt Go.RowKit Go.Proofs.Ytlckeefjhafloaa.mem Go.Proofs.Ytlckeefjhafloaa.smy Go.Proofs.Ytlckeefjhafloaa.fitLaw
open Go.Proofs.Ytlckeefjhafloaa.smyFit (okF resF fitsv)
open Go.Proofs.Ytlckeefjhafloaa.srt (srt srt_len)
open Go.Proofs.Ytlckeefjhafloaa.lists (vlist vlist_len)
open Go.Proofs.Ytlckeefjhafloaa.smyQ (best errv)

set_option maxRecDepth 100000 in
set_option maxHeartbeats 400000 in
theorem isv_any (A : Option Addr) (c : Nat) (zs : List Int) (w : World) (hn : zs.length ≤ 1048576) (hr : Rd w 1 A zs.length (ints zs)) :
    Calls Try.prog 20 #[.slice A zs.length c] w fun e w' => e = .returned (.bool (vlist zs)) ∧ w = w' := by
  go_enter Try.func20, Try.ntmps20
  go_wp2_with fail
  refine (lists.spec_any A c zs w hn hr).mono ?_
  rintro e w1 ⟨rfl, rfl⟩
  go_wp2
  go_ret
  exact ⟨rfl, rfl⟩
/-- a byte of the code, or a number instead -/
def vat (zs : List Int) (i : Nat) : Int := if i < zs.length then zs.getD i 0 else ((i : Int) * 7 + zs.length) % 256
theorem vat_bd {zs : List Int} (hz : ∀ z ∈ zs, 0 ≤ z ∧ z ≤ 255) (i : Nat) : 0 ≤ vat zs i ∧ vat zs i ≤ 255 := by
  unfold vat
  split
  · next h =>
    rw [List.getD_eq_getElem?_getD, List.getElem?_eq_getElem h]
    exact hz _ (List.getElem_mem h)
  · omega
set_option maxHeartbeats 400000 in
theorem vat_any (A : Option Addr) (c : Nat) (zs : List Int) (i : Nat) (w : World) (hn : zs.length ≤ 65536) (hi : i ≤ 1000) (hz : ∀ z ∈ zs, 0 ≤ z ∧ z ≤ 255) (hr : Rd w 1 A zs.length (u8s zs)) :
    Calls Try.prog 49 #[.slice A zs.length c, .int .i64 (i : Int)] w fun e w' => e = .returned (.int .i64 (vat zs i)) ∧ w = w' := by
  have HZ := Lib.hid hz
  clear hz
  by_cases h : i < zs.length
  · obtain ⟨b, off, rfl, hc⟩ := hr.byte h
    have hb := HZ.out zs[i] (List.getElem_mem h)
    have HX := Lib.hid (show vat zs i = zs[i] by rw [vat, if_pos h, List.getD_eq_getElem?_getD, List.getElem?_eq_getElem h]; rfl)
    obtain ⟨x, hx⟩ : ∃ x : Nat, zs[i] = (x : Int) := ⟨zs[i].toNat, by omega⟩
    rw [hx] at hc hb HX
    clear hx
    go_enter Try.func49, Try.ntmps49
    go_wp2
    go_ret
    exact ⟨ret_int HX.out.symm, rfl⟩
  · have HX := Lib.hid (show vat zs i = ((i : Int) * 7 + zs.length) % 256 by rw [vat, if_neg h])
    go_enter Try.func49, Try.ntmps49
    go_wp2
    go_ret
    exact ⟨ret_int HX.out.symm, rfl⟩
def cnt (l : List Int) (v : Int) (k : Nat) : Int := ((l.take k).countP fun x => decide (x ≤ v) : Nat)
theorem cnt_zero (l : List Int) (v : Int) : cnt l v 0 = 0 := by simp [cnt]
theorem cnt_yes {l : List Int} {v : Int} {k : Nat} (h : k < l.length) (hx : l[k] ≤ v) : cnt l v (k + 1) = cnt l v k + 1 := by
  rw [cnt, cnt, List.take_succ_eq_append_getElem h, List.countP_append]; simp [hx]
theorem cnt_no {l : List Int} {v : Int} {k : Nat} (h : k < l.length) (hx : ¬ l[k] ≤ v) : cnt l v (k + 1) = cnt l v k := by
  rw [cnt, cnt, List.take_succ_eq_append_getElem h, List.countP_append]; simp [hx]
theorem cnt_end (l : List Int) (v : Int) : cnt l v l.length = le l v := by rw [cnt, List.take_length, le]
theorem cnt_bd (l : List Int) (v : Int) (k : Nat) : 0 ≤ cnt l v k ∧ cnt l v k ≤ (k : Int) := by
  unfold cnt
  have := List.countP_le_length (p := fun x => decide (x ≤ v)) (l := l.take k)
  have : (l.take k).length ≤ k := by rw [List.length_take]; omega
  omega
set_option maxRecDepth 100000 in
set_option maxHeartbeats 8000000 in
theorem walk (A : Option Addr) (n c : Nat) (zs : List Int) (W : World) (h0 : n = zs.length ∧ n ≤ c ∧ c ≤ maxLen ∧ Rd W 1 A n (u8s zs) ∧ (∀ z ∈ zs, 0 ≤ z ∧ z ≤ 255)) :
    Calls Try.prog 15 #[.slice A n c] W fun e w' => e = .returned (.bool true) ∧ Below W.heap.size W w' := by
  obtain ⟨rfl, hnc, hcm, hr, hz⟩ := h0
  have HZ := Lib.hid hz
  clear hz
  have hn : zs.length ≤ maxLen := Nat.le_trans hnc hcm
  go_enter Try.func15, Try.ntmps15
  go_wp2_with fail
  refine (codes.big_any A _ c W hn).mono ?_
  rintro e w1 ⟨rfl, rfl⟩
  by_cases hbig : 65536 < zs.length
  · go_wp2
    go_ret
    exact ⟨rfl, Below.refl _ _⟩
  have hsm : zs.length ≤ 1048576 := by omega
  have hs65 : zs.length ≤ 65536 := by omega
  have hd : decide (65536 < zs.length) = false := by simpa using hbig
  rw [hd]
  clear hd hbig
  have HD := Lib.hid (drw.fits_any A c zs W hsm HZ.out hr)
  go_wp2_with fail
  with_reducible refine HD.out.mono ?_
  rintro e w1 ⟨ct, A1, l, c1, A2, ll, c2, rfl, htw⟩
  have hll := htw.2.2.2.1
  have hls := htw.2.2.1
  have HT := Lib.hid htw
  have hS := Blk.new w1 29 #[.int .i64 ct, .slice A1 l.length c1]
  have hbS := (Below.refl w1.heap.size w1).alloc (Nat.le_refl _) (.cells #[.int .i64 ct, .slice A1 l.length c1] 29)
  go_upto_region 4 with fail
  obtain ⟨w2, hw2⟩ : ∃ W2 : World, W2 = w1.alloc (.cells #[.int .i64 ct, .slice A1 l.length c1] 29) := ⟨_, rfl⟩
  obtain ⟨gs, hgs⟩ : ∃ gs, gs = w1.heap.size := ⟨_, rfl⟩
  rw [← hw2] at hS hbS ⊢
  rw [← hgs] at hS ⊢
  have HRD := Lib.hid (fun W' (h : Below w2.heap.size w2 W') => And.intro (hS.below h hS.lt) (And.intro (HT.out.1.below (below_step hbS h)) (And.intro (HT.out.2.1.below (below_step hbS h)) ((hr.below HT.out.2.2.2.2).below (below_step hbS h)))))
  have HBW := Lib.hid (below_step HT.out.2.2.2.2 hbS)
  clear hw2 hgs hS hbS htw HD hr HT
  have hF0 := HRD.out w2 (Below.refl _ _)
  have s0 : w2.cell? ⟨gs, 0, none⟩ = some (.int .i64 ct) := hF0.1.cell 0
  have s1 : w2.cell? ⟨gs, 1, none⟩ = some (.slice A1 l.length c1) := hF0.1.cell 1
  have HFT := smyFit.impl_any (cnt := ct) A1 c1 l A2 c2 ll w2 hls hF0.2.1 (by omega) hF0.2.2.1
  clear hF0
  have HOF := Lib.hid (show okF ct l ll = (vsmy ct l && vlist ll) from rfl)
  rw [HOF.out] at HFT
  have hcase : (vsmy ct l = false) ∨ (vsmy ct l = true ∧ vlist ll = false) ∨ (vsmy ct l = true ∧ vlist ll = true ∧ resF ct l ll = false) ∨ (vsmy ct l = true ∧ vlist ll = true ∧ fitsv ct (srt ll) l = true ∧ resF ct l ll = true) := by
    cases h1 : vsmy ct l with
    | false => exact Or.inl rfl
    | true =>
      cases h2 : vlist ll with
      | false => exact Or.inr (Or.inl ⟨rfl, rfl⟩)
      | true =>
        cases h3 : fitsv ct (srt ll) l with
        | false => exact Or.inr (Or.inr (Or.inl ⟨rfl, rfl, by simp [resF, okF, h1, h2, h3]⟩))
        | true => exact Or.inr (Or.inr (Or.inr ⟨rfl, rfl, rfl, by simp [resF, okF, h1, h2, h3]⟩))
  rcases hcase with hv | ⟨hv, hv2⟩ | ⟨hv, hv2, hf⟩ | ⟨hv, hv2, hf, hre⟩
  · rw [hv, show resF ct l ll = false by simp [resF, okF, hv]] at HFT
    have HFh := Lib.hid HFT
    have HI := Lib.hid (fun W' (h : Below w2.heap.size w2 W') => show Calls Try.prog 26 #[.agg #[.int .i64 ct, .slice A1 l.length c1]] W' fun e w' => e = .returned (.bool false) ∧ Below W'.heap.size W' w' by
      have := smy.spec_any (cnt := ct) A1 c1 l W' hls (HRD.out W' h).2.1
      rw [hv] at this; exact this)
    clear HFT hv HOF
    go_wp2_with fail
    with_reducible refine HFh.out.mono ?_
    rintro e w3 ⟨rfl, hb3⟩
    have hF3 := HRD.out w3 hb3
    have x0 : w3.cell? ⟨gs, 0, none⟩ = some (.int .i64 ct) := hF3.1.cell 0
    have x1 : w3.cell? ⟨gs, 1, none⟩ = some (.slice A1 l.length c1) := hF3.1.cell 1
    have HIh := Lib.hid (HI.out w3 hb3)
    clear s0 s1 hF3 HFh
    go_wp2_with fail
    with_reducible refine HIh.out.mono ?_
    rintro e w4 ⟨rfl, hb4⟩
    have HEND := Lib.hid (below_step HBW.out (below_step hb3 hb4))
    go_wp2
    go_ret
    exact ⟨rfl, HEND.out⟩
  · rw [hv, hv2, show resF ct l ll = false by simp [resF, okF, hv2]] at HFT
    have HFh := Lib.hid HFT
    have HI := Lib.hid (fun W' (h : Below w2.heap.size w2 W') => show Calls Try.prog 26 #[.agg #[.int .i64 ct, .slice A1 l.length c1]] W' fun e w' => e = .returned (.bool true) ∧ Below W'.heap.size W' w' by
      have := smy.spec_any (cnt := ct) A1 c1 l W' hls (HRD.out W' h).2.1
      rw [hv] at this; exact this)
    have HV := Lib.hid (fun W' (h : Below w2.heap.size w2 W') => show Calls Try.prog 20 #[.slice A2 ll.length c2] W' fun e w' => e = .returned (.bool false) ∧ W' = w' by
      have := isv_any A2 c2 ll W' (by omega) (HRD.out W' h).2.2.1
      rw [hv2] at this; exact this)
    clear HFT hv hv2 HOF
    go_wp2_with fail
    with_reducible refine HFh.out.mono ?_
    rintro e w3 ⟨rfl, hb3⟩
    have hF3 := HRD.out w3 hb3
    have x0 : w3.cell? ⟨gs, 0, none⟩ = some (.int .i64 ct) := hF3.1.cell 0
    have x1 : w3.cell? ⟨gs, 1, none⟩ = some (.slice A1 l.length c1) := hF3.1.cell 1
    have HIh := Lib.hid (HI.out w3 hb3)
    clear s0 s1 hF3 HFh
    go_wp2_with fail
    with_reducible refine HIh.out.mono ?_
    rintro e w4 ⟨rfl, hb4⟩
    have hb24 := below_step hb3 hb4
    have HVh := Lib.hid (HV.out w4 hb24)
    go_wp2_with fail
    with_reducible refine HVh.out.mono ?_
    rintro e w5 ⟨rfl, rfl⟩
    have HEND := Lib.hid (below_step HBW.out hb24)
    go_wp2
    go_ret
    exact ⟨rfl, HEND.out⟩
  · rw [hv, hv2, hf] at HFT
    have HFh := Lib.hid HFT
    have HI := Lib.hid (fun W' (h : Below w2.heap.size w2 W') => show Calls Try.prog 26 #[.agg #[.int .i64 ct, .slice A1 l.length c1]] W' fun e w' => e = .returned (.bool true) ∧ Below W'.heap.size W' w' by
      have := smy.spec_any (cnt := ct) A1 c1 l W' hls (HRD.out W' h).2.1
      rw [hv] at this; exact this)
    have HV := Lib.hid (fun W' (h : Below w2.heap.size w2 W') => show Calls Try.prog 20 #[.slice A2 ll.length c2] W' fun e w' => e = .returned (.bool true) ∧ W' = w' by
      have := isv_any A2 c2 ll W' (by omega) (HRD.out W' h).2.2.1
      rw [hv2] at this; exact this)
    clear HFT hv hv2 hf HOF
    go_wp2_with fail
    with_reducible refine HFh.out.mono ?_
    rintro e w3 ⟨rfl, hb3⟩
    have hF3 := HRD.out w3 hb3
    have x0 : w3.cell? ⟨gs, 0, none⟩ = some (.int .i64 ct) := hF3.1.cell 0
    have x1 : w3.cell? ⟨gs, 1, none⟩ = some (.slice A1 l.length c1) := hF3.1.cell 1
    have HIh := Lib.hid (HI.out w3 hb3)
    clear s0 s1 hF3 HFh
    go_wp2_with fail
    with_reducible refine HIh.out.mono ?_
    rintro e w4 ⟨rfl, hb4⟩
    have hb24 := below_step hb3 hb4
    have HVh := Lib.hid (HV.out w4 hb24)
    go_wp2_with fail
    with_reducible refine HVh.out.mono ?_
    rintro e w5 ⟨rfl, rfl⟩
    have HEND := Lib.hid (below_step HBW.out hb24)
    go_wp2
    go_ret
    exact ⟨rfl, HEND.out⟩
  · rw [hv, hv2, hre] at HFT
    have HFh := Lib.hid HFT
    have HVS := Lib.hid hv
    have HVL := Lib.hid hv2
    have HFV := Lib.hid hf
    have hcb := vsmy_cnt hv
    have hbd : 0 ≤ ct ∧ ct ≤ 1000 := ⟨hcb.1, hcb.2.1⟩
    have h64 := vlist_len hv2
    have HC0 := Lib.hid hcb.2.2.2
    clear HFT hv hv2 hf hre HOF hcb
    go_wp2_with fail
    with_reducible refine HFh.out.mono ?_
    rintro e w3 ⟨rfl, hb3⟩
    have hF3 := HRD.out w3 hb3
    have x0 : w3.cell? ⟨gs, 0, none⟩ = some (.int .i64 ct) := hF3.1.cell 0
    have x1 : w3.cell? ⟨gs, 1, none⟩ = some (.slice A1 l.length c1) := hF3.1.cell 1
    have HA := Lib.hid (vat_any A c zs 5 w3 hs65 (by omega) HZ.out hF3.2.2.2)
    have hva := vat_bd HZ.out 5
    obtain ⟨v5, hv5⟩ : ∃ v : Nat, vat zs 5 = (v : Int) := ⟨(vat zs 5).toNat, by omega⟩
    rw [hv5] at HA hva
    obtain ⟨y, hy⟩ : ∃ y : Nat, y = v5 % 9 := ⟨_, rfl⟩
    have r1 : (v5 : Int).tmod 9 = (y : Int) := by rw [Int.tmod_eq_emod_of_nonneg (by omega)]; omega
    have r2 : (v5 : Int) % 9 = (y : Int) := by omega
    have r3 : IntKind.i64.wrap ((y : Int) - 1) = (y : Int) - 1 := IntWalk.i64_in _ (by omega)
    have hy9 : y ≤ 8 := by omega
    clear hF3 hv5 hy s0 s1 HFh
    go_wp2_with fail
    refine HA.out.mono ?_
    rintro e w4 ⟨rfl, rfl⟩
    have HRB := smyRank.impl_any (cnt := ct) A1 c1 l ((y : Int) - 1) w3 hls (HRD.out w3 hb3).2.1
    rw [show smyRank.ok ct l = true from HVS.out] at HRB
    have HRBh := Lib.hid HRB
    have hbi := bounds_in HVS.out HFV.out ((y : Int) - 1)
    have HB3 := Lib.hid hb3
    clear HRB HA hb3
    go_wp2_with fail
    with_reducible refine HRBh.out.mono ?_
    rintro e w5 ⟨rfl, hb5⟩
    generalize smyRank.resL ct l ((y : Int) - 1) = lo at hbi ⊢
    generalize smyRank.resH ct l ((y : Int) - 1) = hi at hbi ⊢
    have hb25 := below_step HB3.out hb5
    have hF5 := HRD.out w5 hb25
    have HRL := Lib.hid hF5.2.2.1
    have HB25 := Lib.hid hb25
    clear x0 x1 hF5 hb5 hb25 HRBh HB3
    obtain ⟨v, hvv⟩ : ∃ v : Int, v = (y : Int) - 1 := ⟨_, rfl⟩
    rw [← hvv] at hbi ⊢
    have HLE := Lib.hid (cnt_end ll v)
    rw [← HLE.out] at hbi
    have HVV := Lib.hid hvv
    clear hvv r1 r2 r3
    have HBI := Lib.hid hbi
    clear hbi
    go_wp2
    go_loopg [11, 12] (ll.length + 1) (fun f s i wr => ∃ k : Nat, ll.length < k + f ∧ k ≤ ll.length ∧ i = .int .i64 (k : Int) ∧ s = .int .i64 (cnt ll v k) ∧ w5 = wr)
    case atStart => exact ⟨0, by omega, by omega, rfl, by rw [cnt_zero], rfl⟩
    case round =>
      obtain ⟨k, hkf, hk, rfl, rfl, rfl⟩ := hrel
      have hcb := cnt_bd ll v k
      by_cases hlt : k < ll.length
      · have q1 : (k : Int) < (ll.length : Int) := by omega
        obtain ⟨b, off, rfl, hc⟩ := HRL.out.int hlt
        by_cases hle : ll[k] ≤ v
        · have HN := Lib.hid (cnt_yes hlt hle)
          generalize ll[k] = z at hc hle
          have r5 : IntKind.i64.wrap (cnt ll v k + 1) = cnt ll v k + 1 := IntWalk.i64_in _ (by omega)
          go_wp2
          go_roundg (gk - 1)
          case measure => omega
          case rel => exact ⟨k + 1, by omega, by omega, by go_num, by rw [HN.out], rfl⟩
        · have HN := Lib.hid (cnt_no hlt hle)
          generalize ll[k] = z at hc hle
          go_wp2
          go_roundg (gk - 1)
          case measure => omega
          case rel => exact ⟨k + 1, by omega, by omega, by go_num, by rw [HN.out], rfl⟩
      · obtain rfl : k = ll.length := by omega
        have q1 : ¬ (ll.length : Int) < (ll.length : Int) := by omega
        have hbi := HBI.out
        generalize cnt ll v ll.length = nn at hbi hcb ⊢
        have q2 : ¬ nn < lo := by omega
        have q3 : ¬ hi < nn := by omega
        have q4 : decide (nn < lo) = false := decide_eq_false q2
        have q5 : decide (hi < nn) = false := decide_eq_false q3
        have hF5 := HRD.out w5 HB25.out
        have x0 : w5.cell? ⟨gs, 0, none⟩ = some (.int .i64 ct) := hF5.1.cell 0
        have x1 : w5.cell? ⟨gs, 1, none⟩ = some (.slice A1 l.length c1) := hF5.1.cell 1
        clear hF5
        by_cases hc0 : ct = 0
        · have HEND := Lib.hid (below_step HBW.out HB25.out)
          subst hc0
          go_wp2
          go_ret
          exact ⟨rfl, HEND.out⟩
        · have hc1 : 1 ≤ ct := by omega
          have h0l : 0 < l.length := by
            have := HC0.out
            by_cases e : l.length = 0
            · exact absurd (this.1 e) hc0
            · omega
          obtain ⟨m, rfl⟩ : ∃ m : Nat, ct = (m : Int) := ⟨ct.toNat, by omega⟩
          have hva6 := vat_bd HZ.out 6
          obtain ⟨v6, hv6⟩ : ∃ v : Nat, vat zs 6 = (v : Int) := ⟨(vat zs 6).toNat, by omega⟩
          have HA6 := Lib.hid (fun k : Nat => show Calls Try.prog 49 #[.slice A zs.length c, .int .i64 6] (w5.drewN k) fun e w' => e = .returned (.int .i64 (v6 : Int)) ∧ w5.drewN k = w' by
            have := vat_any A c zs 6 (w5.drewN k) hs65 (by omega) HZ.out ((HRD.out w5 HB25.out).2.2.2.drewN k)
            rw [hv6] at this; exact this)
          rw [hv6] at hva6
          obtain ⟨rk, hrk⟩ : ∃ rk : Nat, rk = v6 % m := ⟨_, rfl⟩
          have hrm := Nat.mod_lt v6 (show 0 < m by omega)
          rw [← hrk] at hrm
          have t1 : (v6 : Int) % (m : Int) = (rk : Int) := by rw [hrk]; simp
          have t2 : (v6 : Int).tmod (m : Int) = (rk : Int) := by rw [Int.tmod_eq_emod_of_nonneg (by omega)]; exact t1
          have t3 : ((m : Int) == 0) = false := by simp; omega
          have t4 : (m == 0) = false := by simp; omega
          have t5 : ¬ m = 0 := by omega
          have t6 : IntKind.i64.wrap (rk : Int) = (rk : Int) := IntWalk.i64_in _ (by omega)
          have t7 : IntKind.i64.wrap (1 + (rk : Int)) = 1 + (rk : Int) := IntWalk.i64_in _ (by omega)
          have HRK := Lib.hid hrk
          clear hv6 hrk
          go_wp2_with fail
          go_quiet ((go_at_call 49; exact mem.quiet_eq (HA6.out _)))
          obtain ⟨w6, hw6⟩ : ∃ w6 : World, w6 = w5.drewN nq := ⟨_, rfl⟩
          rw [← hw6]
          have hb26 : Below w2.heap.size w2 w6 := by rw [hw6]; exact below_drewN HB25.out nq
          clear hw6 x0 x1 t1 t2 t3 t4 t5 t6 t7 HA6 hva6 q2 q3 q4 q5 HBI HRL
          obtain ⟨r, hr⟩ : ∃ r : Int, r = 1 + (rk : Int) := ⟨_, rfl⟩
          rw [← hr]
          have hr1 : 1 ≤ r ∧ r ≤ (m : Int) := by omega
          clear hr
          have hF6 := HRD.out w6 hb26
          have x0 : w6.cell? ⟨gs, 0, none⟩ = some (.int .i64 (m : Int)) := hF6.1.cell 0
          have x1 : w6.cell? ⟨gs, 1, none⟩ = some (.slice A1 l.length c1) := hF6.1.cell 1
          have hqk : smyQR.ok (m : Int) l r = true := by
            rw [smyQR.ok, HVS.out, Go.Proofs.Ytlckeefjhafloaa.ins.inB_iff.2 ⟨hr1.1, hr1.2⟩]; rfl
          have HQ := smyQR.impl_any (cnt := (m : Int)) A1 c1 l r w6 hls hF6.2.1
          rw [hqk, show smyQR.resN (m : Int) l r = errv l r by rw [smyQR.resN, if_pos hqk]] at HQ
          have HQh := Lib.hid HQ
          have HE := Lib.hid (show smyQR.resE (m : Int) l r = l.getD (best l r) z0 by rw [smyQR.resE, if_pos hqk])
          have HNR := near HVS.out HFV.out (r := r) h0l
          have he : errv l r = smyQ.err (l.getD (best l r) z0) r := by rw [errv, smyQ.el, if_neg (by omega)]; rfl
          have hat := vsmy_at HVS.out (best_lt h0l r)
          rw [← getD_r l (best_lt h0l r)] at hat
          have heb := smyQ.err_bd (r := r) hat.2.2.1 hat.2.2.2.1 (by omega) (by omega) (by omega)
          rw [← he] at heb
          have HNRh := Lib.hid HNR
          have HB26 := Lib.hid hb26
          clear HQ HNR he hat hqk hF6 hb26
          generalize errv l r = er at HQh HNRh heb
          go_wp2_with fail
          with_reducible refine HQh.out.mono ?_
          rintro e w7 ⟨x, rfl, hx, hb7⟩
          rw [HE.out] at hx
          have HX := Lib.hid hx
          rw [← hx] at HNRh
          clear hx HQh x0 x1
          have hE := Blk.new w7 51 #[.int .i64 x.value, .int .i64 x.least, .int .i64 x.most]
          have hbE := (Below.refl w7.heap.size w7).alloc (Nat.le_refl _) (.cells #[.int .i64 x.value, .int .i64 x.least, .int .i64 x.most] 51)
          have hb28 := below_step HB26.out (below_step hb7 hbE)
          have HIS := Lib.hid (insSort.ins_yes A2 c2 ll _ HVL.out (HRD.out _ hb28).2.2.1)
          go_wp2_with fail
          with_reducible refine HIS.out.mono ?_
          rintro e w9 ⟨v9, p9, q9, rfl, ho9, hb9⟩
          obtain ⟨A9, c9, rfl, _, _, rd9⟩ := own_form ho9
          have hE9 := hE.below hb9 (by simp)
          have e0 : w9.cell? ⟨w7.heap.size, 0, none⟩ = some (.int .i64 x.value) := hE9.cell 0
          have HLS := Lib.hid (srt_len ll)
          have HNA := Lib.hid (insSort.near_any A9 c9 (srt ll) x.value r er w9 (by rw [HLS.out]; exact h64) (by omega) (by omega) (by
            obtain ⟨i, hi, hv, h1, h2⟩ := HNRh.out
            exact ⟨i, by rw [HLS.out]; exact hi, hv, h1, h2⟩) rd9)
          have HB29 := Lib.hid (below_step HBW.out (below_step hb28 hb9))
          clear hE hbE hb28 HIS ho9 hb9 rd9 hE9 hb7
          go_wp2_with fail
          with_reducible refine HNA.out.mono ?_
          rintro e w10 ⟨rfl, hb10⟩
          have HEND := Lib.hid (below_step HB29.out hb10)
          go_wp2
          go_ret
          exact ⟨rfl, HEND.out⟩

theorem own : ownKnob Try.prog.godebug = none := by kernel_rfl
theorem laidOut : laidOutB Try.prog = true := by kernel_rfl
set_option maxRecDepth 100000 in
theorem lifted (os : Os) (started : os.Started) (H : Type) (enc : TypeId × Value → H) :
    ReturnsInHanded {} Try.checked os 15 .any (Rows.fnQuantilesSpec.pre6 enc Try.prog Try.f15 Rows.fnQuantilesRow.domain false) (Rows.fnQuantilesSpec.post enc Try.prog Try.f15 false true false false) := by
  refine returnsInHanded_of_change (C := Try.checked) own started (by kernel_rfl) Try.func15
    (ChangeSpec.witness6 (enc := enc) (C := Try.checked) false ⟨#[], #[.slice none 0 0], []⟩ 8 (by kernel_rfl) (by kernel_rfl) (by kernel_rfl) (by kernel_rfl)) ?_
  intro W base args ds gs before hval0 hW hcnd _
  have hval : ∀ (j : Nat) t v, Try.f15.params[j]? = some t → args[j]? = some v → Value.okWide Try.prog W .any base t v := hval0
  have hW' := hW
  have hlt : ∀ x ∈ before, x.block < W.heap.size := fun x hx => by simpa using hW.lt x hx
  obtain ⟨p, q, hA0, hV, rfl, hfz, hnd⟩ := hW
  have hA : DataW.TrodAll enc Try.prog W 0 (fun _ => true) true Try.f15.params.toList args.toList ds p := hA0
  rw [Try.params15] at hA hval
  obtain ⟨v0, vs0, d0, ds0, p0, q0, hargs, rfl, rfl, h0, r0⟩ := trodAll_cons hA
  obtain ⟨rfl, rfl, rfl⟩ := trodAll_nil r0
  obtain rfl : args = #[v0] := by cases args; simp_all
  obtain ⟨A0, n0, c0, zs0, rfl, w0⟩ := mem.open_rd_bytes Try.underlying22 Try.underlying5 (by kernel_rfl) (hval 0 22 v0 rfl rfl) h0
  refine (walk A0 n0 c0 zs0 W w0).mono fun e W' ⟨he, hg⟩ => ?_
  subst he
  exact ⟨_, rfl, frame.post_true laidOut hW' rfl (of_decide_eq_true (by kernel_rfl)) (by kernel_rfl) Try.underlying4 rfl rfl rfl hg⟩
theorem over : Rows.fnQuantilesRow.holds Try.pinned (OpenSpec.ofChange Rows.fnQuantilesSpec) :=
  OpenClaim.holds_of_wide 15 Try.f15 rfl rfl rfl rfl rfl rfl rfl ⟨rfl, rfl, rfl, rfl, rfl⟩ rfl rfl rfl rfl rfl (by kernel_rfl) Try.func15 (by kernel_rfl)
    (of_decide_eq_true (by kernel_rfl)) (by unfold Func.isWrapper; first | (rw [if_pos (by decide +kernel)]; kernel_rfl) | (rw [if_neg (by decide +kernel)]; exact ⟨rfl, rfl⟩))
    (fun os started H enc _ => lifted os started H enc)
/-- The statement. -/
theorem proved : Rows.FnQuantilesSaid :=
  over
end Go.Proofs.Ytlckeefjhafloaa.fnQuantiles
