/- ParallelMerge, the reference's. Condition: at most 2^20 elements, lengths within the capacities. -/
import Derived.Test.YtfjmpplpagmpbaaParMrg
set_option linter.unusedVariables false
set_option linter.unusedSimpArgs false
namespace Go.Proofs.Ytfjmpplpagmpbaa.parMrg
open Go.RowKit Go.Proofs.Ytfjmpplpagmpbaa.mem Go.Proofs.Ytfjmpplpagmpbaa.srt Go.Proofs.Ytfjmpplpagmpbaa.paths
open Go.Proofs.Ytfjmpplpagmpbaa.samp (cut_le cut_mono mul_bd mul_bd1 cast1 cast2)
open Go.Proofs.Ytfjmpplpagmpbaa.ins (inB inB_true inB_false inB_iff)

set_option maxRecDepth 100000 in
set_option maxHeartbeats 4000000 in
theorem spec_any (A : Option Addr) (c : Nat) (a : List Int) (B : Option Addr) (d : Nat) (b : List Int) (p : Int) (w : World) (hn : a.length ≤ 1048576) (hnc : a.length ≤ c) (hcm : c ≤ maxLen) (hr : Rd w 1 A a.length (ints a)) (hm : b.length ≤ 1048576) (hmc : b.length ≤ d) (hdm : d ≤ maxLen) (hs : Rd w 1 B b.length (ints b)) :
    Calls Try.prog 41 #[.slice A a.length c, .slice B b.length d, .int .i64 p] w fun e w' => ∃ v1 v2, e = .returned (.tuple #[v1, v2, .bool (okP a b p)]) ∧ OwnI w w' v1 (resP a b p) ∧ OwnI w w' v2 (resQ a b p) ∧ (v1.ownBlock = none ∨ v1.ownBlock ≠ v2.ownBlock) ∧ Below w.heap.size w w' := by
  have HX := Lib.hid (box2 w 3 3 #[] #[])
  have HV := Lib.hid (spec_pair A B c d a b _ hn hm (hr.below HX.out.2.2) (hs.below HX.out.2.2))
  have HOA := Lib.hid (fun (W : World) (h : Blk W w.heap.size 3 #[]) => show W.ownsRow w.heap.size 3 1 (.slice (some ⟨w.heap.size, 0, none⟩) 0 0) 0 [] from by
    have := h.own (base := w.heap.size) (size := 1) (n := 0) (c := 0) (Nat.le_refl _) (Nat.le_refl _) (Nat.zero_le _) (by simp)
    simpa using this)
  have HOB := Lib.hid (fun (W : World) (h : Blk W (w.heap.size + 1) 3 #[]) => show W.ownsRow (w.heap.size + 1) 3 1 (.slice (some ⟨w.heap.size + 1, 0, none⟩) 0 0) 0 [] from by
    have := h.own (base := w.heap.size + 1) (size := 1) (n := 0) (c := 0) (Nat.le_refl _) (Nat.le_refl _) (Nat.zero_le _) (by simp)
    simpa using this)
  cases hv : pair a b with
  | false =>
    have HF := Lib.hid (show okP a b p = false ∧ resP a b p = [] ∧ resQ a b p = [] by simp [okP, resP, resQ, hv])
    rw [hv] at HV
    clear hv
    go_enter Try.func41, Try.ntmps41
    go_wp2_with fail
    refine HV.out.mono ?_
    rintro e w1 ⟨rfl, hb1⟩
    have hx1 := HOA.out _ (HX.out.1.below hb1 (by simp; omega))
    have hx2 := HOB.out _ (HX.out.2.1.below hb1 (by simp))
    have hb2 := below_step HX.out.2.2 hb1
    go_wp2
    go_ret3
    exact ⟨_, _, (by rw [HF.out.1]; try rfl), ⟨by rw [HF.out.2.1]; exact hx1, by rw [HF.out.2.1]; simp⟩, ⟨by rw [HF.out.2.2]; exact own_base hx2 (by omega), by rw [HF.out.2.2]; simp⟩, Or.inr (by simp [Value.ownBlock]), hb2⟩
  | true =>
    have h64 := (pair_iff.1 hv).2.2
    rw [hv] at HV
    by_cases h2 : inB p 1 16 = true
    · have HF := Lib.hid (show okP a b p = true ∧ resP a b p = srt (a ++ b) ∧ resQ a b p = szs (a.length + b.length) p.toNat p.toNat by simp [okP, resP, resQ, hv, h2])
      obtain ⟨n, rfl, hp1, hp2⟩ := parts_of h2
      have H2 := Lib.hid h2
      clear hv h2
      go_enter Try.func41, Try.ntmps41
      go_wp2_with fail
      refine HV.out.mono ?_
      rintro e w1 ⟨rfl, hb1⟩
      have hx2 := HX.out.2.1.below hb1 (by simp)
      have hsz : w.heap.size + 1 < w1.heap.size := hx2.lt
      have HM1 := Lib.hid (HOB.out _ hx2)
      have HB1 := Lib.hid (below_step HX.out.2.2 hb1)
      clear hx2 hb1
      go_wp2_with (go_at_call 58; refine (ins.spec_any _ _ _ _).mono ?_; rintro e w' ⟨rfl, rfl⟩; rw [H2.out])
      go_loopg [10, 12] (n + 1) (fun f s i wr => ∃ (k : Nat) (v : Value), v = s ∧ i = .int .i64 (k : Int) ∧ k ≤ n ∧ n < k + f ∧ wr.ownsRow (w.heap.size + 1) 3 1 v (szs (a.length + b.length) n k).length (ints (szs (a.length + b.length) n k)) ∧ Below w.heap.size w wr ∧ w1.heap.size ≤ wr.heap.size)
      case atStart => exact ⟨0, _, rfl, rfl, by omega, by omega, HM1.out, HB1.out, Nat.le_refl _⟩
      case round =>
        obtain ⟨k, v, rfl, rfl, hk, hf, ho, hb, hw1⟩ := hrel
        by_cases hlt : k < n
        · have e0 : ((a.length + b.length : Nat) : Int) = (a.length : Int) + (b.length : Int) := by omega
          have hlh := cut_mono (n := a.length + b.length) (k := k) (p := n)
          have hhn := cut_le (n := a.length + b.length) (k := k + 1) (p := n) (by omega) (by omega)
          have hm1 := mul_bd (k := k) (n := a.length + b.length) (p := n) (q := 64) hk hp2 h64 (by omega)
          have hm2 := mul_bd1 (k := k) (n := a.length + b.length) (p := n) (q := 64) (by omega) hp2 h64 (by omega)
          have d1 := cast1 k (a.length + b.length) n
          have d2 := cast2 k (a.length + b.length) n
          rw [e0] at hm1 hm2 d1 d2
          have HST := Lib.hid (szs_step (a.length + b.length) n k)
          have hzl := szs_len (a.length + b.length) n k
          generalize k * (a.length + b.length) / n = lo at hlh hhn d1 HST
          generalize (k + 1) * (a.length + b.length) / n = hi at hlh hhn d2 HST
          have t1 : ((k : Int) * ((a.length : Int) + (b.length : Int))).tdiv (n : Int) = (lo : Int) := by rw [Int.tdiv_eq_ediv_of_nonneg hm1.1, d1]
          have t2 : (((k : Int) + 1) * ((a.length : Int) + (b.length : Int))).tdiv (n : Int) = (hi : Int) := by rw [Int.tdiv_eq_ediv_of_nonneg hm2.1, d2]
          have u1 : IntKind.i64.wrap ((k : Int) * ((a.length : Int) + (b.length : Int))) = (k : Int) * ((a.length : Int) + (b.length : Int)) := IntWalk.i64_in _ (by omega)
          have u2 : IntKind.i64.wrap (((k : Int) + 1) * ((a.length : Int) + (b.length : Int))) = ((k : Int) + 1) * ((a.length : Int) + (b.length : Int)) := IntWalk.i64_in _ (by omega)
          have u3 : IntKind.i64.wrap ((k : Int) + 1) = (k : Int) + 1 := IntWalk.i64_in _ (by omega)
          have u4 : IntKind.i64.wrap (lo : Int) = (lo : Int) := IntWalk.i64_in _ (by omega)
          have u5 : IntKind.i64.wrap (hi : Int) = (hi : Int) := IntWalk.i64_in _ (by omega)
          have u6 : IntKind.i64.wrap ((hi : Int) - (lo : Int)) = (hi : Int) - (lo : Int) := IntWalk.i64_in _ (by omega)
          (have qz : ((n : Int) == 0) = false := by simp; omega); (have qz2 : ¬ (n : Int) = 0 := by omega); (have qz3 : ¬ n = 0 := by omega); (have qz4 : (n == 0) = false := by simp; omega); (have qz5 : 0 < n := by omega)
          have hh : (szs (a.length + b.length) n k).length ≤ 1099511627776 := by omega
          have hbs : (w.heap.size + 1) ≤ wr.heap.size := by omega
          have HB := Lib.hid hb
          generalize szs (a.length + b.length) n k = cur at ho hh HST hzl
          have ho3 : wr.drew.ownsRow (w.heap.size + 1) 3 1 v cur.length (ints cur) := ho
          have HO := Lib.hid ho
          clear d1 d2 e0 hzl hb ho
          go_wp2_with fail
          go_region_law ((refine mem.step_push_at wr.drew rfl (.tmp 36) (.tmp 49) 22 rfl (w.heap.size + 1) 3 _ 1 8 Try.underlying22 mem.info_int rfl Nat.one_pos v cur.length (ints cur) (by simp [Act.eval, Act.put]) ho3 [.int .i64 ((hi : Int) - (lo : Int))] 1 rfl (mem.ints_one [(hi : Int) - (lo : Int)]) (by simp [Act.eval, Act.put]) hh (by decide) hbs ?_; intro v' w' ho' hg0 hnw'; have hg' := mem.grown_undrew hg0; clear hg0))
          all_goals
            have hb2 := below_grown HB.out HB.out.size hg' (fun g e => by have := (HO.out.lt g e).1; omega)
            have HALL := Lib.hid (And.intro ho' (And.intro hb2 (Nat.le_trans hw1 hg'.size)))
            clear ho' hg' hnw' hb2
            go_wp2
            go_roundg (gk - 1)
            case rel => exact ⟨k + 1, _, rfl, by go_num, by omega, by omega, by rw [HST.out, List.length_append, ints_app]; exact HALL.out.1, HALL.out.2.1, HALL.out.2.2⟩
            case measure => omega
        · obtain rfl : k = n := by omega
          have HC := Lib.hid (copyInt.spec_any A c a wr hn (hr.below hb))
          have HZ := Lib.hid (szs_len (a.length + b.length) k k)
          go_wp2_with fail
          refine HC.out.mono ?_
          rintro e w3 ⟨v3, rfl, ho3, hb3⟩
          have hsb := (hs.below hb).below hb3
          have hh : a.length + b.length ≤ 1099511627776 := by omega
          have hbs := hb3.size
          go_wp2_with (at_builtin; refine mem.extend _ rfl _ _ 22 rfl wr.heap.size 3 _ 1 8 Try.underlying22 mem.info_int rfl Nat.one_pos _ _ _ rfl ho3 _ _ _ _ rfl hsb (mem.ints_one _) hh (by decide) hbs ?_; intro v' w' ho' hg')
          have hq3 := below_push hb3 hbs hg' ho3
          obtain ⟨A4, c4, hve, _, _, hr4⟩ := own_form ho'
          subst hve
          have hr5 : Rd w' 1 A4 (a ++ b).length (ints (a ++ b)) := by rw [List.length_append, ints_app]; exact hr4
          have hS := srt.spec_any A4 c4 (a ++ b) w' (by rw [List.length_append]; omega) hr5
          rw [List.length_append] at hS
          have HS := Lib.hid hS
          clear hS hr4 hr5 ho' hg' hsb ho3
          go_wp2_with fail
          refine HS.out.mono ?_
          rintro e w4 ⟨v4, rfl, ho4, hb4⟩
          have hq4 := below_step hq3 hb4
          have hov := own_below ho hq4
          have hap := sep (b := w'.heap.size) (u := w4.heap.size) (b' := w.heap.size + 1) (u' := wr.heap.size) ho4.lt ho.lt (Or.inr hq3.size)
          have hb5 := below_step hb hq4
          go_wp2
          go_ret3
          refine ⟨_, _, (by rw [HF.out.1]; try rfl), ⟨?_, ?_⟩, ⟨?_, ?_⟩, hap, hb5⟩
          · rw [HF.out.2.1, srt_len, List.length_append]; exact own_base ho4 (below_step hb hq3).size
          · rw [HF.out.2.1, srt_len, List.length_append]; omega
          · rw [HF.out.2.2, Int.toNat_natCast]; exact own_base hov (by omega)
          · rw [HF.out.2.2, Int.toNat_natCast, HZ.out]; omega
    · have h2' : inB p 1 16 = false := by simpa using h2
      have HF := Lib.hid (show okP a b p = false ∧ resP a b p = [] ∧ resQ a b p = [] by simp [okP, resP, resQ, hv, h2'])
      have H2 := Lib.hid h2'
      clear hv h2 h2'
      go_enter Try.func41, Try.ntmps41
      go_wp2_with fail
      refine HV.out.mono ?_
      rintro e w1 ⟨rfl, hb1⟩
      have hx1 := HOA.out _ (HX.out.1.below hb1 (by simp; omega))
      have hx2 := HOB.out _ (HX.out.2.1.below hb1 (by simp))
      have hb2 := below_step HX.out.2.2 hb1
      go_wp2_with (go_at_call 58; refine (ins.spec_any _ _ _ _).mono ?_; rintro e w' ⟨rfl, rfl⟩; rw [H2.out])
      go_ret3
      exact ⟨_, _, (by rw [HF.out.1]; try rfl), ⟨by rw [HF.out.2.1]; exact hx1, by rw [HF.out.2.1]; simp⟩, ⟨by rw [HF.out.2.2]; exact own_base hx2 (by omega), by rw [HF.out.2.2]; simp⟩, Or.inr (by simp [Value.ownBlock]), hb2⟩
end Go.Proofs.Ytfjmpplpagmpbaa.parMrg
