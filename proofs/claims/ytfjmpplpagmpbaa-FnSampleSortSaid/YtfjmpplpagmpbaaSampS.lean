/- SampleSort, the program's and the reference's. Condition: at most 2^20 elements, a length within the capacity. -/
import Derived.Test.YtfjmpplpagmpbaaSampR
set_option linter.unusedVariables false
set_option linter.unusedSimpArgs false
namespace Go.Proofs.Ytfjmpplpagmpbaa.samp
open Go.RowKit Go.Proofs.Ytfjmpplpagmpbaa.mem Go.Proofs.Ytfjmpplpagmpbaa.srt
open Go.Proofs.Ytfjmpplpagmpbaa.lists (vlist vlist_len)
open Go.Proofs.Ytfjmpplpagmpbaa.ins (inB inB_true inB_false inB_iff)

theorem apart_of {w w1 w2 w3 w4 : World} {n m : Nat} {e1 e2 : TypeId} {v1 v2 : Value} {xs ys : List Value} {b : Nat} (h1 : w2.ownsRow b e1 1 v1 n xs) (h2 : w4.ownsRow w3.heap.size e2 1 v2 m ys) (h : w2.heap.size ≤ w3.heap.size) : v1.ownBlock = none ∨ v1.ownBlock ≠ v2.ownBlock :=
  sep h1.lt h2.lt (Or.inl h)
set_option maxRecDepth 100000 in
set_option maxHeartbeats 2000000 in
theorem sort_impl (A : Option Addr) (c : Nat) (zs : List Int) (p : Int) (w : World) (hn : zs.length ≤ 1048576) (hnc : zs.length ≤ c) (hr : Rd w 1 A zs.length (ints zs)) :
    Calls Try.prog 40 #[.slice A zs.length c, .int .i64 p] w fun e w' => ∃ v1 v2, e = .returned (.tuple #[v1, v2, .bool (okR zs p)]) ∧ OwnI w w' v1 (resA zs p) ∧ OwnI w w' v2 (resB zs p) ∧ (v1.ownBlock = none ∨ v1.ownBlock ≠ v2.ownBlock) ∧ Below w.heap.size w w' := by
  have HV := Lib.hid (lists.impl_any A c zs w hn hr)
  cases hv : vlist zs with
  | false =>
    have HF := Lib.hid (show okR zs p = false ∧ resA zs p = [] ∧ resB zs p = [] by simp [okR, resA, resB, hv])
    rw [hv] at HV
    clear hv
    go_enter Try.func40, Try.ntmps40
    go_wp2_with fail
    refine HV.out.mono ?_
    rintro e w1 ⟨rfl, hb1⟩
    go_wp2
    go_ret3
    exact ⟨_, _, (by rw [HF.out.1]; try rfl), ⟨by rw [HF.out.2.1]; exact World.ownsRow_nil _ _ _ _, by rw [HF.out.2.1]; simp⟩, ⟨by rw [HF.out.2.2]; exact World.ownsRow_nil _ _ _ _, by rw [HF.out.2.2]; simp⟩, Or.inl rfl, hb1⟩
  | true =>
    have h64 := vlist_len hv
    rw [hv] at HV
    by_cases h2 : inB p 1 16 = true
    · have HF := Lib.hid (show okR zs p = true ∧ resA zs p = srt zs ∧ resB zs p = bucketing.buckets zs (sample zs p.toNat) by simp [okR, resA, resB, hv, h2])
      obtain ⟨n, rfl, hp1, hp2⟩ := parts_of h2
      have H2 := Lib.hid h2
      clear hv h2
      have HS := Lib.hid (fun W h => impl_sample A c zs n W h64 hnc hp1 hp2 h)
      have HT := Lib.hid (fun W h => srt.impl_any A c zs W hn h)
      have HSL := Lib.hid (sample_len zs n)
      have HZL := Lib.hid (srt_len zs)
      go_enter Try.func40, Try.ntmps40
      go_wp2_with fail
      refine HV.out.mono ?_
      rintro e w1 ⟨rfl, hb1⟩
      have hr1 := hr.below hb1
      go_wp2_with (first
        | (go_at_call 76; refine (HT.out _ hr1).mono ?_; rintro e w2 ⟨v1, rfl, ho1, hb2⟩; have hr2 := hr1.below hb2)
        | (go_at_call 74; refine (HS.out _ hr2).mono ?_; rintro e w3 ⟨v, rfl, ho2, hb3⟩; have hr3 := hr2.below hb3; obtain ⟨As, cs, rfl, _, _, hrs⟩ := own_form ho2)
        | (go_at_call 52; refine (bucketing.impl_any A As c cs zs (sample zs n) w3 hn (by have := HSL.out; omega) hr3 hrs).mono ?_; rintro e w4 ⟨v2, rfl, ho3, hb4⟩)
        | (first | (go_at_call 57; refine (ins.impl_any _ _ _ _).mono ?_; rintro e w' ⟨rfl, rfl⟩; rw [H2.out]) | go_in))
      have hb5 := below_step (below_step (below_step hb1 hb2) hb3) hb4
      have hoA := own_below (own_below ho1 hb3) hb4
      have hap := apart_of (w := w) (w1 := w1) ho1 ho3 hb3.size
      go_ret3
      refine ⟨_, _, (by rw [HF.out.1]; try rfl), ⟨?_, ?_⟩, ⟨?_, ?_⟩, hap, hb5⟩
      · rw [HF.out.2.1, HZL.out]; exact own_base hoA hb1.size
      · rw [HF.out.2.1, HZL.out]; omega
      · rw [HF.out.2.2, Int.toNat_natCast]; exact own_base ho3 (below_step (below_step hb1 hb2) hb3).size
      · rw [HF.out.2.2, Int.toNat_natCast, bucketing.buckets_len]; have := HSL.out; omega
    · have h2' : inB p 1 16 = false := by simpa using h2
      have HF := Lib.hid (show okR zs p = false ∧ resA zs p = [] ∧ resB zs p = [] by simp [okR, resA, resB, hv, h2'])
      have H2 := Lib.hid h2'
      clear hv h2 h2'
      go_enter Try.func40, Try.ntmps40
      go_wp2_with fail
      refine HV.out.mono ?_
      rintro e w1 ⟨rfl, hb1⟩
      go_wp2_with (first | (go_at_call 57; refine (ins.impl_any _ _ _ _).mono ?_; rintro e w' ⟨rfl, rfl⟩; rw [H2.out]) | go_in)
      go_ret3
      exact ⟨_, _, (by rw [HF.out.1]; try rfl), ⟨by rw [HF.out.2.1]; exact World.ownsRow_nil _ _ _ _, by rw [HF.out.2.1]; simp⟩, ⟨by rw [HF.out.2.2]; exact World.ownsRow_nil _ _ _ _, by rw [HF.out.2.2]; simp⟩, Or.inl rfl, hb1⟩
set_option maxRecDepth 100000 in
set_option maxHeartbeats 2000000 in
theorem sort_spec (A : Option Addr) (c : Nat) (zs : List Int) (p : Int) (w : World) (hn : zs.length ≤ 1048576) (hnc : zs.length ≤ c) (hr : Rd w 1 A zs.length (ints zs)) :
    Calls Try.prog 39 #[.slice A zs.length c, .int .i64 p] w fun e w' => ∃ v1 v2, e = .returned (.tuple #[v1, v2, .bool (okR zs p)]) ∧ OwnI w w' v1 (resA zs p) ∧ OwnI w w' v2 (resB zs p) ∧ (v1.ownBlock = none ∨ v1.ownBlock ≠ v2.ownBlock) ∧ Below w.heap.size w w' := by
  have HV := Lib.hid (lists.spec_any A c zs w hn hr)
  have HX := Lib.hid (box2 w 3 3 #[] #[])
  have HM0 := Lib.hid ((World.ownsRow_made (e := 3) (size := 1) w #[] 0 (Nat.le_refl _) (Nat.zero_le _) (by simp)).alloc (.cells #[] 3))
  have HM1 := Lib.hid (show ((w.alloc (.cells #[] 3)).alloc (.cells #[] 3)).ownsRow w.heap.size 3 1 (.slice (some ⟨w.heap.size + 1, 0, none⟩) 0 0) 0 [] from by
    have := HX.out.2.1.own (base := w.heap.size) (size := 1) (n := 0) (c := 0) (by omega) (Nat.le_refl _) (Nat.zero_le _) (by simp)
    simpa using this)
  cases hv : vlist zs with
  | false =>
    have HF := Lib.hid (show okR zs p = false ∧ resA zs p = [] ∧ resB zs p = [] by simp [okR, resA, resB, hv])
    rw [hv] at HV
    clear hv
    go_enter Try.func39, Try.ntmps39
    go_wp2_with fail
    refine HV.out.mono ?_
    rintro e w1 ⟨rfl, rfl⟩
    go_wp2
    go_ret3
    exact ⟨_, _, (by rw [HF.out.1]; try rfl), ⟨by rw [HF.out.2.1]; exact HM0.out, by rw [HF.out.2.1]; simp⟩, ⟨by rw [HF.out.2.2]; exact HM1.out, by rw [HF.out.2.2]; simp⟩, Or.inr (by simp [Value.ownBlock]), HX.out.2.2⟩
  | true =>
    have h64 := vlist_len hv
    rw [hv] at HV
    by_cases h2 : inB p 1 16 = true
    · have HF := Lib.hid (show okR zs p = true ∧ resA zs p = srt zs ∧ resB zs p = bucketing.buckets zs (sample zs p.toNat) by simp [okR, resA, resB, hv, h2])
      obtain ⟨n, rfl, hp1, hp2⟩ := parts_of h2
      have H2 := Lib.hid h2
      clear hv h2
      have HS := Lib.hid (fun W h => spec_sample A c zs n W h64 hnc hp1 hp2 h)
      have HT := Lib.hid (fun W h => srt.spec_any A c zs W hn h)
      have HSL := Lib.hid (sample_len zs n)
      have HZL := Lib.hid (srt_len zs)
      go_enter Try.func39, Try.ntmps39
      go_wp2_with fail
      refine HV.out.mono ?_
      rintro e w1 ⟨rfl, rfl⟩
      go_wp2_with (first
        | (go_at_call 75; refine (HT.out _ hr).mono ?_; rintro e w2 ⟨v1, rfl, ho1, hb2⟩; have hr2 := hr.below hb2)
        | (go_at_call 73; refine (HS.out _ hr2).mono ?_; rintro e w3 ⟨v, rfl, ho2, hb3⟩; have hr3 := hr2.below hb3; obtain ⟨As, cs, rfl, _, _, hrs⟩ := own_form ho2)
        | (go_at_call 49; refine (bucketing.spec_any A As c cs zs (sample zs n) w3 hn (by have := HSL.out; omega) hr3 hrs).mono ?_; rintro e w4 ⟨v2, rfl, ho3, hb4⟩)
        | (go_at_call 58; refine (ins.spec_any _ _ _ _).mono ?_; rintro e w' ⟨rfl, rfl⟩; rw [H2.out]))
      have hb5 := below_step (below_step hb2 hb3) hb4
      have hoA := own_below (own_below ho1 hb3) hb4
      have hap := apart_of (w := w) (w1 := w) ho1 ho3 hb3.size
      go_ret3
      refine ⟨_, _, (by rw [HF.out.1]; try rfl), ⟨?_, ?_⟩, ⟨?_, ?_⟩, hap, hb5⟩
      · rw [HF.out.2.1, HZL.out]; exact hoA
      · rw [HF.out.2.1, HZL.out]; omega
      · rw [HF.out.2.2, Int.toNat_natCast]; exact own_base ho3 (below_step hb2 hb3).size
      · rw [HF.out.2.2, Int.toNat_natCast, bucketing.buckets_len]; have := HSL.out; omega
    · have h2' : inB p 1 16 = false := by simpa using h2
      have HF := Lib.hid (show okR zs p = false ∧ resA zs p = [] ∧ resB zs p = [] by simp [okR, resA, resB, hv, h2'])
      have H2 := Lib.hid h2'
      clear hv h2 h2'
      go_enter Try.func39, Try.ntmps39
      go_wp2_with fail
      refine HV.out.mono ?_
      rintro e w1 ⟨rfl, rfl⟩
      go_wp2_with (go_at_call 58; refine (ins.spec_any _ _ _ _).mono ?_; rintro e w' ⟨rfl, rfl⟩; rw [H2.out])
      go_ret3
      exact ⟨_, _, (by rw [HF.out.1]; try rfl), ⟨by rw [HF.out.2.1]; exact HM0.out, by rw [HF.out.2.1]; simp⟩, ⟨by rw [HF.out.2.2]; exact HM1.out, by rw [HF.out.2.2]; simp⟩, Or.inr (by simp [Value.ownBlock]), HX.out.2.2⟩
end Go.Proofs.Ytfjmpplpagmpbaa.samp
