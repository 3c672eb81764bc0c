/- Whether a summary can describe a list: the reference's walk, and FitsSummary. Condition: at most 2^20 elements. -/
import Derived.Test.YtlckeefjhafloaaSmyFit
set_option linter.unusedVariables false
set_option linter.unusedSimpArgs false
namespace Go.Proofs.Ytlckeefjhafloaa.smyFit
open Go.RowKit Go.Proofs.Ytlckeefjhafloaa.mem Go.Proofs.Ytlckeefjhafloaa.srt Go.Proofs.Ytlckeefjhafloaa.smy
open Go.Proofs.Ytlckeefjhafloaa.lists (vlist)
open Go.Proofs.Ytlckeefjhafloaa.smyOf (getD_z)

set_option maxRecDepth 100000 in
set_option maxHeartbeats 4000000 in
theorem spec_fits {cnt : Int} (A : Option Addr) (c : Nat) (l : List Rkv) (B : Option Addr) (d : Nat) (zs : List Int) (w : World) (hv : vsmy cnt l = true) (hn : zs.length ≤ 1048576) (hr : Rd w 3 A l.length (rkvs l)) (hr2 : Rd w 1 B zs.length (ints zs)) :
    Calls Try.prog 79 #[.agg #[.int .i64 cnt, .slice A l.length c], .slice B zs.length d] w fun e w' => e = .returned (.bool (fitsv cnt (srt zs) l)) ∧ Below w.heap.size w w' := by
  have hbo := (Below.refl w.heap.size w).alloc (Nat.le_refl _) (.cells #[.int .i64 cnt, .slice A l.length c] 29)
  have HBO := Lib.hid hbo
  have HX := Lib.hid (fun k (h : k < l.length) => vsmy_at hv h)
  have hcn := vsmy_cnt hv
  have HSL := Lib.hid (srt_len zs)
  clear hv hbo
  by_cases hc : (zs.length : Int) = cnt
  · subst hc
    have HS := Lib.hid (fun o => srt.spec_any B d zs (w.alloc o) hn (hr2.alloc o))
    have HFV := Lib.hid (show fitsv (zs.length : Int) (srt zs) l = fgo (srt zs) l 0 by simp [fitsv, srt_len])
    go_enter Try.func79, Try.ntmps79
    go_wp2_with fail
    refine (HS.out _).mono ?_
    rintro e w2 ⟨v, rfl, hos, hb3⟩
    obtain ⟨As, cs, rfl, _, _, hrs⟩ := own_form hos
    generalize hss : srt zs = s at hrs HSL HFV
    have HSS := Lib.hid hss
    clear hss
    have hbB := (Blk.new w 29 #[.int .i64 (zs.length : Int), .slice A l.length c]).below hb3 (by simp)
    have hB0 : w2.cell? ⟨w.heap.size, 0, none⟩ = some (.int .i64 (zs.length : Int)) := hbB.cell 0
    have HB := Lib.hid hbB
    have hb2 := below_step HBO.out hb3
    have HH := Lib.hid (And.intro hrs hb2)
    clear hos hrs hb2 hb3 hbB HS
    go_wp2
    clear hB0
    go_loopg [6, 7] (l.length + 1) (fun f s6 i wr => ∃ (k : Nat) (last : Int), i = .int .i64 (k : Int) ∧ s6 = .int .i64 last ∧ k ≤ l.length ∧ l.length < k + f ∧ 0 ≤ last ∧ last ≤ 1000 ∧ fgo s l 0 = fgo s (l.drop k) last ∧ Below w2.heap.size w2 wr)
    case atStart => exact ⟨0, 0, rfl, rfl, by omega, by omega, by omega, by omega, rfl, Below.refl _ _⟩
    case round =>
      obtain ⟨k, last, rfl, rfl, hk, hf, hl0, hl1, hfg, hb⟩ := hrel
      have HFG := Lib.hid hfg
      have hB1 : wr.cell? ⟨w.heap.size, 1, none⟩ = some (.slice A l.length c) := (HB.out.below hb HB.out.lt).cell 1
      clear hfg
      by_cases hlt : k < l.length
      · obtain ⟨b, off, rfl, c0, c1, c2⟩ := (hr.below (below_step HH.out.2 hb)).rkv hlt
        have hx := HX.out k hlt
        have HFA := Lib.hid (fgo_at (s := s) hlt last)
        generalize l[k] = x at c0 c1 c2 hx HFA
        have hm0 : 1 ≤ max x.least (last + 1) ∧ max x.least (last + 1) ≤ 1001 := by omega
        obtain ⟨m0, hm'⟩ : ∃ m : Nat, max x.least (last + 1) = (m : Int) + 1 := ⟨(max x.least (last + 1) - 1).toNat, by omega⟩
        rw [hm'] at HFA hm0
        have hm : max (last + 1) x.least = (m0 : Int) + 1 := by omega
        clear hm'
        have HM := Lib.hid hm
        clear hm
        obtain ⟨wo, hwo⟩ : ∃ wo : World, wo = wr := ⟨_, rfl⟩
        subst hwo
        have HXB := Lib.hid (Blk.new wo 51 #[.int .i64 x.value, .int .i64 x.least, .int .i64 x.most])
        have HBX := Lib.hid (hb.alloc hb.size (.cells #[.int .i64 x.value, .int .i64 x.least, .int .i64 x.most] 51))
        clear hb
        go_wp2_with (go_at_call 64; refine (smyGap.most_any _ _ _).mono ?_; rintro e w' ⟨rfl, rfl⟩; rw [HM.out])
        clear hB1
        clear c0 c1 c2
        go_loopw [6] (fun r wi => ∃ (m : Nat), r = .int .i64 ((m : Int) + 1) ∧ (m : Int) ≤ 1000 ∧ skr s x.value x.most ((m0 : Int) + 1) = skr s x.value x.most ((m : Int) + 1) ∧ Below (wo.alloc (.cells #[.int .i64 x.value, .int .i64 x.least, .int .i64 x.most] 51)).heap.size (wo.alloc (.cells #[.int .i64 x.value, .int .i64 x.least, .int .i64 x.most] 51)) wi) (fun r _ => (x.most + 1 - intOf r).toNat)
        case atStart => exact ⟨m0, rfl, by omega, rfl, Below.refl _ _⟩
        case round =>
          obtain ⟨m, rfl, hm, hsk, hbi⟩ := hrel
          have HSK := Lib.hid hsk
          have hXi := HXB.out.below hbi (by simp)
          have e0 : wr.cell? ⟨wo.heap.size, 0, none⟩ = some (.int .i64 x.value) := hXi.cell 0
          have e2 : wr.cell? ⟨wo.heap.size, 2, none⟩ = some (.int .i64 x.most) := hXi.cell 2
          have hb3 := below_step HBX.out hbi
          clear hsk hXi
          by_cases hle : (m : Int) + 1 ≤ x.most
          · have hms : m < s.length := by have := HSL.out; omega
            have hrs : Rd w2 1 As s.length (ints s) := by rw [HSL.out]; exact HH.out.1
            obtain ⟨b2, off2, rfl, hcs⟩ := (hrs.below hb3).int hms
            have HST := Lib.hid (fun (h : ¬ s[m] = x.value) => HSK.out.trans (skr_step hms hle h))
            have HHIT := Lib.hid (fun (h : s[m] = x.value) => HSK.out.trans (skr_hit hms h))
            clear hrs
            generalize s[m] = y at hcs HST HHIT
            have q1 : (m : Int) < (zs.length : Int) := by omega
            by_cases hy : y = x.value
            · have HF := Lib.hid (HHIT.out hy)
              have HE := Lib.hid (show fgo s l 0 = fgo s (l.drop (k + 1)) ((m : Int) + 1) by rw [HFG.out, HFA.out, HF.out, if_neg (by omega)])
              subst hy
              go_wp2_with fail
              go_quiet (fail)
              go_wp2
              go_roundg (gk - 1)
              case rel => exact ⟨k + 1, (m : Int) + 1, by go_num, rfl, by omega, by omega, by omega, by omega, HE.out, below_drewN hb3 _⟩
              case measure => omega
            · have HF := Lib.hid (HST.out hy)
              have q2 : (y == x.value) = false := by simpa using hy
              have q3 : (y != x.value) = true := by simpa using hy
              clear hy
              go_wp2_with fail
              go_quiet (fail)
              go_wp2
              go_roundw
              case rel => exact ⟨m + 1, by go_num, by omega, HF.out, below_drewN hbi _⟩
              case measure => simp [intOf]; omega
          · have q1 : decide ((m : Int) + 1 ≤ x.most) = false := by simpa using hle
            have q2 : decide ((m : Int) < x.most) = false := by simp; omega
            have q3 : x.most ≤ (m : Int) := by omega
            have q4 : x.most < (m : Int) + 1 := by omega
            have HF := Lib.hid (HSK.out.trans (skr_over (by omega)))
            have HE := Lib.hid (show fgo s l 0 = false by rw [HFG.out, HFA.out, HF.out, if_pos (by omega)])
            go_wp2_with fail
            go_quiet (fail)
            go_wp2
            go_ret
            exact ⟨ins.ret_bool (by rw [HSS.out, HFV.out, HE.out]), below_step HH.out.2 (below_drewN hb3 _)⟩
      · obtain rfl : k = l.length := by omega
        have HE := Lib.hid (show fgo s l 0 = true by rw [HFG.out, fgo_end])
        go_wp2
        go_ret
        exact ⟨ins.ret_bool (by rw [HSS.out, HFV.out, HE.out]), below_step HH.out.2 hb⟩
  · have HS := Lib.hid (fun o => srt.spec_any B d zs (w.alloc o) hn (hr2.alloc o))
    have HFV := Lib.hid (show fitsv cnt (srt zs) l = false by simp [fitsv, srt_len, hc])
    have q1 : ((zs.length : Int) == cnt) = false := by simpa using hc
    have q2 : ((zs.length : Int) != cnt) = true := by simpa using hc
    clear hc
    go_enter Try.func79, Try.ntmps79
    go_wp2_with fail
    refine (HS.out _).mono ?_
    rintro e w2 ⟨v, rfl, hos, hb3⟩
    obtain ⟨As, cs, rfl, _, _, hrs⟩ := own_form hos
    have hB0 : w2.cell? ⟨w.heap.size, 0, none⟩ = some (.int .i64 cnt) := ((Blk.new w 29 #[.int .i64 cnt, .slice A l.length c]).below hb3 (by simp)).cell 0
    have hb2 := below_step HBO.out hb3
    go_wp2
    go_ret
    exact ⟨ins.ret_bool (by rw [HFV.out]), hb2⟩
def okF (cnt : Int) (l : List Rkv) (zs : List Int) : Bool := vsmy cnt l && vlist zs
def resF (cnt : Int) (l : List Rkv) (zs : List Int) : Bool := okF cnt l zs && fitsv cnt (srt zs) l
set_option maxRecDepth 100000 in
set_option maxHeartbeats 4000000 in
theorem impl_any {cnt : Int} (A : Option Addr) (c : Nat) (l : List Rkv) (B : Option Addr) (d : Nat) (zs : List Int) (w : World) (hm : l.length ≤ 1048576) (hr : Rd w 3 A l.length (rkvs l)) (hn : zs.length ≤ 1048576) (hr2 : Rd w 1 B zs.length (ints zs)) :
    Calls Try.prog 21 #[.agg #[.int .i64 cnt, .slice A l.length c], .slice B zs.length d] w fun e w' => e = .returned (.tuple #[.bool (resF cnt l zs), .bool (okF cnt l zs)]) ∧ Below w.heap.size w w' := by
  have HBO := Lib.hid ((Below.refl w.heap.size w).alloc (Nat.le_refl _) (.cells #[.int .i64 cnt, .slice A l.length c] 29))
  have HE := Lib.hid (Blk.new w 29 #[.int .i64 cnt, .slice A l.length c])
  have HV := Lib.hid (smy.impl_any (cnt := cnt) A c l _ hm (hr.below HBO.out))
  have HL := Lib.hid (fun W (h : Below w.heap.size w W) => lists.impl_any B d zs W hn (hr2.below h))
  cases hv : vsmy cnt l with
  | false =>
    have HF := Lib.hid (show okF cnt l zs = false ∧ resF cnt l zs = false by simp [okF, resF, hv])
    rw [hv] at HV
    clear hv
    go_enter Try.func21, Try.ntmps21
    go_wp2_with fail
    refine HV.out.mono ?_
    rintro e w1 ⟨rfl, hb1⟩
    have hb2 := below_step HBO.out hb1
    go_wp2
    go_ret2
    exact ⟨(by rw [HF.out.1, HF.out.2]; try rfl), hb2⟩
  | true =>
    have HFT := Lib.hid (fun W (h : Below w.heap.size w W) => impl_fits A c l B d zs W hv hn (hr.below h) (hr2.below h))
    rw [hv] at HV
    cases hz : vlist zs with
    | false =>
      have HF := Lib.hid (show okF cnt l zs = false ∧ resF cnt l zs = false by simp [okF, resF, hv, hz])
      rw [hz] at HL
      clear hv hz
      go_enter Try.func21, Try.ntmps21
      go_wp2_with fail
      refine HV.out.mono ?_
      rintro e w1 ⟨rfl, hb1⟩
      have hb2 := below_step HBO.out hb1
      go_wp2_with fail
      refine (HL.out _ hb2).mono ?_
      rintro e w2 ⟨rfl, hbl⟩
      first | (have hb3 := below_step hb2 hbl) | (have hb3 := hb2; subst hww)
      go_wp2
      go_ret2
      exact ⟨(by rw [HF.out.1, HF.out.2]; try rfl), hb3⟩
    | true =>
      have HF := Lib.hid (show okF cnt l zs = true ∧ resF cnt l zs = fitsv cnt (srt zs) l by simp [okF, resF, hv, hz])
      rw [hz] at HL
      clear hv hz
      go_enter Try.func21, Try.ntmps21
      go_wp2_with fail
      refine HV.out.mono ?_
      rintro e w1 ⟨rfl, hb1⟩
      have hb2 := below_step HBO.out hb1
      have hE := HE.out.below hb1 (by simp)
      go_wp2_with fail
      refine (HL.out _ hb2).mono ?_
      rintro e w2 ⟨rfl, hbl⟩
      first | (have hb3 := below_step hb2 hbl; have hE2 := hE.below hbl hE.lt) | (have hb3 := hb2; have hE2 := hE; subst hww)
      first | (have hc0 : w2.cell? ⟨w.heap.size, 0, none⟩ = some (.int .i64 cnt) := hE2.cell 0; have hc1 : w2.cell? ⟨w.heap.size, 1, none⟩ = some (.slice A l.length c) := hE2.cell 1) | (have hc0 : w1.cell? ⟨w.heap.size, 0, none⟩ = some (.int .i64 cnt) := hE2.cell 0; have hc1 : w1.cell? ⟨w.heap.size, 1, none⟩ = some (.slice A l.length c) := hE2.cell 1)
      clear hE hE2
      go_wp2_with fail
      refine (HFT.out _ hb3).mono ?_
      rintro e w3 ⟨rfl, hb4⟩
      have hb5 := below_step hb3 hb4
      go_wp2
      go_ret2
      exact ⟨(by rw [HF.out.1, HF.out.2]; try rfl), hb5⟩
set_option maxRecDepth 100000 in
set_option maxHeartbeats 4000000 in
theorem spec_any {cnt : Int} (A : Option Addr) (c : Nat) (l : List Rkv) (B : Option Addr) (d : Nat) (zs : List Int) (w : World) (hm : l.length ≤ 1048576) (hr : Rd w 3 A l.length (rkvs l)) (hn : zs.length ≤ 1048576) (hr2 : Rd w 1 B zs.length (ints zs)) :
    Calls Try.prog 47 #[.agg #[.int .i64 cnt, .slice A l.length c], .slice B zs.length d] w fun e w' => e = .returned (.tuple #[.bool (resF cnt l zs), .bool (okF cnt l zs)]) ∧ Below w.heap.size w w' := by
  have HBO := Lib.hid ((Below.refl w.heap.size w).alloc (Nat.le_refl _) (.cells #[.int .i64 cnt, .slice A l.length c] 29))
  have HE := Lib.hid (Blk.new w 29 #[.int .i64 cnt, .slice A l.length c])
  have HV := Lib.hid (smy.good_any (cnt := cnt) A c l _ hm (hr.below HBO.out))
  have HL := Lib.hid (fun W (h : Below w.heap.size w W) => lists.spec_any B d zs W hn (hr2.below h))
  cases hv : vsmy cnt l with
  | false =>
    have HF := Lib.hid (show okF cnt l zs = false ∧ resF cnt l zs = false by simp [okF, resF, hv])
    rw [hv] at HV
    clear hv
    go_enter Try.func47, Try.ntmps47
    go_wp2_with fail
    refine HV.out.mono ?_
    rintro e w1 ⟨rfl, hb1⟩
    have hb2 := below_step HBO.out hb1
    go_wp2
    go_ret2
    exact ⟨(by rw [HF.out.1, HF.out.2]; try rfl), hb2⟩
  | true =>
    have HFT := Lib.hid (fun W (h : Below w.heap.size w W) => spec_fits A c l B d zs W hv hn (hr.below h) (hr2.below h))
    rw [hv] at HV
    cases hz : vlist zs with
    | false =>
      have HF := Lib.hid (show okF cnt l zs = false ∧ resF cnt l zs = false by simp [okF, resF, hv, hz])
      rw [hz] at HL
      clear hv hz
      go_enter Try.func47, Try.ntmps47
      go_wp2_with fail
      refine HV.out.mono ?_
      rintro e w1 ⟨rfl, hb1⟩
      have hb2 := below_step HBO.out hb1
      go_wp2_with fail
      refine (HL.out _ hb2).mono ?_
      rintro e w2 ⟨rfl, hww⟩
      first | (have hb3 := below_step hb2 hbl) | (have hb3 := hb2; subst hww)
      go_wp2
      go_ret2
      exact ⟨(by rw [HF.out.1, HF.out.2]; try rfl), hb3⟩
    | true =>
      have HF := Lib.hid (show okF cnt l zs = true ∧ resF cnt l zs = fitsv cnt (srt zs) l by simp [okF, resF, hv, hz])
      rw [hz] at HL
      clear hv hz
      go_enter Try.func47, Try.ntmps47
      go_wp2_with fail
      refine HV.out.mono ?_
      rintro e w1 ⟨rfl, hb1⟩
      have hb2 := below_step HBO.out hb1
      have hE := HE.out.below hb1 (by simp)
      go_wp2_with fail
      refine (HL.out _ hb2).mono ?_
      rintro e w2 ⟨rfl, hww⟩
      first | (have hb3 := below_step hb2 hbl; have hE2 := hE.below hbl hE.lt) | (have hb3 := hb2; have hE2 := hE; subst hww)
      first | (have hc0 : w2.cell? ⟨w.heap.size, 0, none⟩ = some (.int .i64 cnt) := hE2.cell 0; have hc1 : w2.cell? ⟨w.heap.size, 1, none⟩ = some (.slice A l.length c) := hE2.cell 1) | (have hc0 : w1.cell? ⟨w.heap.size, 0, none⟩ = some (.int .i64 cnt) := hE2.cell 0; have hc1 : w1.cell? ⟨w.heap.size, 1, none⟩ = some (.slice A l.length c) := hE2.cell 1)
      clear hE hE2
      go_wp2_with fail
      refine (HFT.out _ hb3).mono ?_
      rintro e w3 ⟨rfl, hb4⟩
      have hb5 := below_step hb3 hb4
      go_wp2
      go_ret2
      exact ⟨(by rw [HF.out.1, HF.out.2]; try rfl), hb5⟩
end Go.Proofs.Ytlckeefjhafloaa.smyFit
