/- Whether a summary can describe a list: the plain law, and the program's walk. Condition: at most 2^20 elements. -/
import Derived.Test.YtlckeefjhafloaaSmyOf
import Derived.Test.YtlckeefjhafloaaSmyQ
import Derived.Test.YtlckeefjhafloaaSmyGap
set_option linter.unusedVariables false
set_option linter.unusedSimpArgs false
namespace Go.Proofs.Ytlckeefjhafloaa.smyFit
open Go.RowKit Go.Proofs.Ytlckeefjhafloaa.mem Go.Proofs.Ytlckeefjhafloaa.srt Go.Proofs.Ytlckeefjhafloaa.smy
open Go.Proofs.Ytlckeefjhafloaa.lists (vlist)
open Go.Proofs.Ytlckeefjhafloaa.smyOf (getD_z)

def sk (s : List Int) (v most : Int) : Nat → Int → Int
  | 0, r => r
  | f + 1, r => if r ≤ most ∧ s.getD (r - 1).toNat 0 ≠ v then sk s v most f (r + 1) else r
def skr (s : List Int) (v most r : Int) : Int := sk s v most (most + 1 - r).toNat r
theorem skr_over {s : List Int} {v most r : Int} (h : most < r) : skr s v most r = r := by
  rw [skr, show (most + 1 - r).toNat = 0 by omega, sk]
theorem skr_hit {s : List Int} {v most : Int} {m : Nat} (hm : m < s.length) (h : s[m] = v) : skr s v most ((m : Int) + 1) = (m : Int) + 1 := by
  rw [skr]
  cases (most + 1 - ((m : Int) + 1)).toNat with
  | zero => rfl
  | succ f =>
    rw [sk, if_neg]
    rintro ⟨_, h2⟩
    rw [show ((m : Int) + 1 - 1).toNat = m by omega, getD_z s hm] at h2
    exact h2 h
theorem skr_step {s : List Int} {v most : Int} {m : Nat} (hm : m < s.length) (hle : (m : Int) + 1 ≤ most) (h : ¬ s[m] = v) : skr s v most ((m : Int) + 1) = skr s v most (((m + 1 : Nat) : Int) + 1) := by
  rw [skr, show (most + 1 - ((m : Int) + 1)).toNat = (most + 1 - (((m + 1 : Nat) : Int) + 1)).toNat + 1 by omega, sk, if_pos ⟨hle, by rw [show ((m : Int) + 1 - 1).toNat = m by omega, getD_z s hm]; exact h⟩]
  rw [skr, show (m : Int) + 1 + 1 = ((m + 1 : Nat) : Int) + 1 by omega]
def fgo (s : List Int) : List Rkv → Int → Bool
  | [], _ => true
  | e :: l, last => if e.most < skr s e.value e.most (max e.least (last + 1)) then false else fgo s l (skr s e.value e.most (max e.least (last + 1)))
def fitsv (cnt : Int) (s : List Int) (l : List Rkv) : Bool := decide ((s.length : Int) = cnt) && fgo s l 0
theorem fgo_at {s : List Int} {l : List Rkv} {k : Nat} (h : k < l.length) (last : Int) : fgo s (l.drop k) last = if l[k].most < skr s l[k].value l[k].most (max l[k].least (last + 1)) then false else fgo s (l.drop (k + 1)) (skr s l[k].value l[k].most (max l[k].least (last + 1))) := by
  rw [List.drop_eq_getElem_cons h, fgo]
theorem fgo_end (s : List Int) (l : List Rkv) (last : Int) : fgo s (l.drop l.length) last = true := by
  rw [List.drop_of_length_le (Nat.le_refl _), fgo]
set_option maxRecDepth 100000 in
set_option maxHeartbeats 4000000 in
theorem impl_fits {cnt : Int} (A : Option Addr) (c : Nat) (l : List Rkv) (B : Option Addr) (d : Nat) (zs : List Int) (w : World) (hv : vsmy cnt l = true) (hn : zs.length ≤ 1048576) (hr : Rd w 3 A l.length (rkvs l)) (hr2 : Rd w 1 B zs.length (ints zs)) :
    Calls Try.prog 56 #[.agg #[.int .i64 cnt, .slice A l.length c], .slice B zs.length d] w fun e w' => e = .returned (.bool (fitsv cnt (srt zs) l)) ∧ Below w.heap.size w w' := by
  have hbo := (Below.refl w.heap.size w).alloc (Nat.le_refl _) (.cells #[.int .i64 cnt, .slice A l.length c] 29)
  have HBO := Lib.hid hbo
  have HX := Lib.hid (fun k (h : k < l.length) => vsmy_at hv h)
  have hcn := vsmy_cnt hv
  have HSL := Lib.hid (srt_len zs)
  clear hv hbo
  by_cases hc : (zs.length : Int) = cnt
  · subst hc
    have HS := Lib.hid (fun o => srt.impl_any B d zs (w.alloc o) hn (hr2.alloc o))
    have HFV := Lib.hid (show fitsv (zs.length : Int) (srt zs) l = fgo (srt zs) l 0 by simp [fitsv, srt_len])
    go_enter Try.func56, Try.ntmps56
    go_wp2_with fail
    refine (HS.out _).mono ?_
    rintro e w2 ⟨v, rfl, hos, hb3⟩
    obtain ⟨As, cs, rfl, _, _, hrs⟩ := own_form hos
    generalize hss : srt zs = s at hrs HSL HFV
    have HSS := Lib.hid hss
    clear hss
    have hbB := (Blk.new w 29 #[.int .i64 (zs.length : Int), .slice A l.length c]).below hb3 (by simp)
    have hB1 : w2.cell? ⟨w.heap.size, 1, none⟩ = some (.slice A l.length c) := hbB.cell 1
    have hb2 := below_step HBO.out hb3
    have HH := Lib.hid (And.intro hrs hb2)
    clear hos hrs hb2 hb3 hbB HS
    go_wp2
    clear hB1
    go_loopg [6, 20] (l.length + 1) (fun f s6 i wr => ∃ (k : Nat) (last : Int), i = .int .i64 (k : Int) ∧ s6 = .int .i64 last ∧ k ≤ l.length ∧ l.length < k + f ∧ 0 ≤ last ∧ last ≤ 1000 ∧ fgo s l 0 = fgo s (l.drop k) last ∧ Below w2.heap.size w2 wr)
    case atStart => exact ⟨0, 0, rfl, rfl, by omega, by omega, by omega, by omega, rfl, Below.refl _ _⟩
    case round =>
      obtain ⟨k, last, rfl, rfl, hk, hf, hl0, hl1, hfg, hb⟩ := hrel
      have HFG := Lib.hid hfg
      clear hfg
      by_cases hlt : k < l.length
      · obtain ⟨b, off, rfl, c0, c1, c2⟩ := (hr.below (below_step HH.out.2 hb)).rkv hlt
        have hx := HX.out k hlt
        have HFA := Lib.hid (fgo_at (s := s) hlt last)
        generalize l[k] = x at c0 c1 c2 hx HFA
        have hm0 : 1 ≤ max x.least (last + 1) ∧ max x.least (last + 1) ≤ 1001 := by omega
        obtain ⟨m0, hm⟩ : ∃ m : Nat, max x.least (last + 1) = (m : Int) + 1 := ⟨(max x.least (last + 1) - 1).toNat, by omega⟩
        rw [hm] at HFA hm0
        have HM := Lib.hid hm
        clear hm
        obtain ⟨wo, hwo⟩ : ∃ wo : World, wo = wr := ⟨_, rfl⟩
        subst hwo
        have HXB := Lib.hid (Blk.new wo 51 #[.int .i64 x.value, .int .i64 x.least, .int .i64 x.most])
        have HBX := Lib.hid (hb.alloc hb.size (.cells #[.int .i64 x.value, .int .i64 x.least, .int .i64 x.most] 51))
        clear hb
        go_wp2
        rw [HM.out]
        clear c0 c1 c2
        go_loopw [9] (fun r wi => ∃ (m : Nat), r = .int .i64 ((m : Int) + 1) ∧ (m : Int) ≤ 1000 ∧ skr s x.value x.most ((m0 : Int) + 1) = skr s x.value x.most ((m : Int) + 1) ∧ Below (wo.alloc (.cells #[.int .i64 x.value, .int .i64 x.least, .int .i64 x.most] 51)).heap.size (wo.alloc (.cells #[.int .i64 x.value, .int .i64 x.least, .int .i64 x.most] 51)) wi) (fun r _ => (x.most + 1 - intOf r).toNat)
        case atStart => exact ⟨m0, rfl, by omega, rfl, Below.refl _ _⟩
        case round =>
          obtain ⟨m, rfl, hm, hsk, hbi⟩ := hrel
          have HSK := Lib.hid hsk
          have hXi := HXB.out.below hbi (by simp)
          have e0 : wr.cell? ⟨wo.heap.size, 0, none⟩ = some (.int .i64 x.value) := hXi.cell 0
          have e2 : wr.cell? ⟨wo.heap.size, 2, none⟩ = some (.int .i64 x.most) := hXi.cell 2
          have hb3 := below_step HBX.out hbi
          clear hsk hXi
          by_cases hle : (m : Int) + 1 ≤ x.most
          · have hms : m < s.length := by have := HSL.out; omega
            have hrs : Rd w2 1 As s.length (ints s) := by rw [HSL.out]; exact HH.out.1
            obtain ⟨b2, off2, rfl, hcs⟩ := (hrs.below hb3).int hms
            have HST := Lib.hid (fun (h : ¬ s[m] = x.value) => HSK.out.trans (skr_step hms hle h))
            have HHIT := Lib.hid (fun (h : s[m] = x.value) => HSK.out.trans (skr_hit hms h))
            clear hrs
            generalize s[m] = y at hcs HST HHIT
            have q1 : (m : Int) < (zs.length : Int) := by omega
            by_cases hy : y = x.value
            · have HF := Lib.hid (HHIT.out hy)
              have HE := Lib.hid (show fgo s l 0 = fgo s (l.drop (k + 1)) ((m : Int) + 1) by rw [HFG.out, HFA.out, HF.out, if_neg (by omega)])
              subst hy
              go_wp2_with fail
              go_quiet (fail)
              go_wp2
              go_roundg (gk - 1)
              case rel => exact ⟨k + 1, (m : Int) + 1, by go_num, rfl, by omega, by omega, by omega, by omega, HE.out, below_drewN hb3 _⟩
              case measure => omega
            · have HF := Lib.hid (HST.out hy)
              have q2 : (y == x.value) = false := by simpa using hy
              have q3 : (y != x.value) = true := by simpa using hy
              clear hy
              go_wp2_with fail
              go_quiet (fail)
              go_wp2
              go_roundw
              case rel => exact ⟨m + 1, by go_num, by omega, HF.out, below_drewN hbi _⟩
              case measure => simp [intOf]; omega
          · have q1 : decide ((m : Int) + 1 ≤ x.most) = false := by simpa using hle
            have q2 : decide ((m : Int) < x.most) = false := by simp; omega
            have q3 : x.most ≤ (m : Int) := by omega
            have q4 : x.most < (m : Int) + 1 := by omega
            have HF := Lib.hid (HSK.out.trans (skr_over (by omega)))
            have HE := Lib.hid (show fgo s l 0 = false by rw [HFG.out, HFA.out, HF.out, if_pos (by omega)])
            go_wp2_with fail
            go_quiet (fail)
            go_wp2
            go_ret
            exact ⟨ins.ret_bool (by rw [HSS.out, HFV.out, HE.out]), below_step HH.out.2 (below_drewN hb3 _)⟩
      · obtain rfl : k = l.length := by omega
        have HE := Lib.hid (show fgo s l 0 = true by rw [HFG.out, fgo_end])
        go_wp2
        go_ret
        exact ⟨ins.ret_bool (by rw [HSS.out, HFV.out, HE.out]), below_step HH.out.2 hb⟩
  · have HFV := Lib.hid (show fitsv cnt (srt zs) l = false by simp [fitsv, srt_len, hc])
    have q1 : ((zs.length : Int) == cnt) = false := by simpa using hc
    have q2 : ((zs.length : Int) != cnt) = true := by simpa using hc
    clear hc
    go_enter Try.func56, Try.ntmps56
    go_wp2
    go_ret
    exact ⟨ins.ret_bool (by rw [HFV.out]), HBO.out⟩
end Go.Proofs.Ytlckeefjhafloaa.smyFit
