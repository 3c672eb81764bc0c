/- RegularSample and SampleSort, the program's and the reference's. Condition: at most 2^20 elements, a length within the capacity. -/
import Derived.Test.YtfjmpplpagmpbaaSampI
import Derived.Test.YtfjmpplpagmpbaaList
import Derived.Test.YtfjmpplpagmpbaaBuckets
set_option linter.unusedVariables false
set_option linter.unusedSimpArgs false
namespace Go.Proofs.Ytfjmpplpagmpbaa.samp
open Go.RowKit Go.Proofs.Ytfjmpplpagmpbaa.mem Go.Proofs.Ytfjmpplpagmpbaa.srt
open Go.Proofs.Ytfjmpplpagmpbaa.lists (vlist vlist_len)
open Go.Proofs.Ytfjmpplpagmpbaa.ins (inB inB_true inB_false inB_iff)

def okR (zs : List Int) (p : Int) : Bool := vlist zs && inB p 1 16
def resR (zs : List Int) (p : Int) : List Int := if okR zs p = true then sample zs p.toNat else []
def resA (zs : List Int) (p : Int) : List Int := if okR zs p = true then srt zs else []
def resB (zs : List Int) (p : Int) : List Int := if okR zs p = true then bucketing.buckets zs (sample zs p.toNat) else []
theorem parts_of {p : Int} (h : inB p 1 16 = true) : ∃ n : Nat, p = (n : Int) ∧ 1 ≤ n ∧ n ≤ 16 := by
  have := inB_iff.1 h
  exact ⟨p.toNat, by omega, by omega, by omega⟩
set_option maxRecDepth 100000 in
set_option maxHeartbeats 2000000 in
theorem impl_any (A : Option Addr) (c : Nat) (zs : List Int) (p : Int) (w : World) (hn : zs.length ≤ 1048576) (hnc : zs.length ≤ c) (hr : Rd w 1 A zs.length (ints zs)) :
    Calls Try.prog 38 #[.slice A zs.length c, .int .i64 p] w fun e w' => ∃ v, e = .returned (.tuple #[v, .bool (okR zs p)]) ∧ OwnI w w' v (resR zs p) ∧ Below w.heap.size w w' := by
  have HV := Lib.hid (lists.impl_any A c zs w hn hr)
  cases hv : vlist zs with
  | false =>
    have HF := Lib.hid (show okR zs p = false ∧ resR zs p = [] by simp [okR, resR, hv])
    rw [hv] at HV
    clear hv
    go_enter Try.func38, Try.ntmps38
    go_wp2_with fail
    refine HV.out.mono ?_
    rintro e w1 ⟨rfl, hb1⟩
    go_wp2
    go_ret2
    exact ⟨_, (by rw [HF.out.1]; try rfl), ⟨by rw [HF.out.2]; exact World.ownsRow_nil _ _ _ _, by rw [HF.out.2]; simp⟩, hb1⟩
  | true =>
    have h64 := vlist_len hv
    rw [hv] at HV
    by_cases h2 : inB p 1 16 = true
    · have HF := Lib.hid (show okR zs p = true ∧ resR zs p = sample zs p.toNat by simp [okR, resR, hv, h2])
      obtain ⟨n, rfl, hp1, hp2⟩ := parts_of h2
      have H2 := Lib.hid h2
      clear hv h2
      have HS := Lib.hid (fun W h => impl_sample A c zs n W h64 hnc hp1 hp2 h)
      have HSL := Lib.hid (sample_len zs n)
      go_enter Try.func38, Try.ntmps38
      go_wp2_with fail
      refine HV.out.mono ?_
      rintro e w1 ⟨rfl, hb1⟩
      go_wp2_with (first | (go_at_call 74; refine (HS.out _ (hr.below hb1)).mono ?_; rintro e w2 ⟨v, rfl, ho, hb2⟩) | (first | (go_at_call 57; refine (ins.impl_any _ _ _ _).mono ?_; rintro e w' ⟨rfl, rfl⟩; rw [H2.out]) | go_in))
      have hb3 := below_step hb1 hb2
      go_ret2
      exact ⟨_, (by rw [HF.out.1]; try rfl), ⟨by rw [HF.out.2, Int.toNat_natCast]; exact own_base ho hb1.size, by rw [HF.out.2, Int.toNat_natCast]; have := HSL.out; omega⟩, hb3⟩
    · have h2' : inB p 1 16 = false := by simpa using h2
      have HF := Lib.hid (show okR zs p = false ∧ resR zs p = [] by simp [okR, resR, hv, h2'])
      have H2 := Lib.hid h2'
      clear hv h2 h2'
      go_enter Try.func38, Try.ntmps38
      go_wp2_with fail
      refine HV.out.mono ?_
      rintro e w1 ⟨rfl, hb1⟩
      go_wp2_with (first | (go_at_call 57; refine (ins.impl_any _ _ _ _).mono ?_; rintro e w' ⟨rfl, rfl⟩; rw [H2.out]) | go_in)
      go_ret2
      exact ⟨_, (by rw [HF.out.1]; try rfl), ⟨by rw [HF.out.2]; exact World.ownsRow_nil _ _ _ _, by rw [HF.out.2]; simp⟩, hb1⟩
set_option maxRecDepth 100000 in
set_option maxHeartbeats 2000000 in
theorem spec_any (A : Option Addr) (c : Nat) (zs : List Int) (p : Int) (w : World) (hn : zs.length ≤ 1048576) (hnc : zs.length ≤ c) (hr : Rd w 1 A zs.length (ints zs)) :
    Calls Try.prog 37 #[.slice A zs.length c, .int .i64 p] w fun e w' => ∃ v, e = .returned (.tuple #[v, .bool (okR zs p)]) ∧ OwnI w w' v (resR zs p) ∧ Below w.heap.size w w' := by
  have HV := Lib.hid (lists.spec_any A c zs w hn hr)
  have hm0 := World.ownsRow_made (e := 3) (size := 1) w #[] 0 (Nat.le_refl _) (Nat.zero_le _) (by simp)
  have HM0 := Lib.hid hm0
  have HB0 := Lib.hid ((Below.refl w.heap.size w).alloc (Nat.le_refl _) (.cells #[] 3))
  clear hm0
  cases hv : vlist zs with
  | false =>
    have HF := Lib.hid (show okR zs p = false ∧ resR zs p = [] by simp [okR, resR, hv])
    rw [hv] at HV
    clear hv
    go_enter Try.func37, Try.ntmps37
    go_wp2_with fail
    refine HV.out.mono ?_
    rintro e w1 ⟨rfl, rfl⟩
    go_wp2
    go_ret2
    exact ⟨_, (by rw [HF.out.1]; try rfl), ⟨by rw [HF.out.2]; exact HM0.out, by rw [HF.out.2]; simp⟩, HB0.out⟩
  | true =>
    have h64 := vlist_len hv
    rw [hv] at HV
    by_cases h2 : inB p 1 16 = true
    · have HF := Lib.hid (show okR zs p = true ∧ resR zs p = sample zs p.toNat by simp [okR, resR, hv, h2])
      obtain ⟨n, rfl, hp1, hp2⟩ := parts_of h2
      have H2 := Lib.hid h2
      clear hv h2
      have HS := Lib.hid (fun W h => spec_sample A c zs n W h64 hnc hp1 hp2 h)
      have HSL := Lib.hid (sample_len zs n)
      go_enter Try.func37, Try.ntmps37
      go_wp2_with fail
      refine HV.out.mono ?_
      rintro e w1 ⟨rfl, rfl⟩
      go_wp2_with (first | (go_at_call 73; refine (HS.out _ hr).mono ?_; rintro e w2 ⟨v, rfl, ho, hb2⟩) | (go_at_call 58; refine (ins.spec_any _ _ _ _).mono ?_; rintro e w' ⟨rfl, rfl⟩; rw [H2.out]))
      go_ret2
      exact ⟨_, (by rw [HF.out.1]; try rfl), ⟨by rw [HF.out.2, Int.toNat_natCast]; exact ho, by rw [HF.out.2, Int.toNat_natCast]; have := HSL.out; omega⟩, hb2⟩
    · have h2' : inB p 1 16 = false := by simpa using h2
      have HF := Lib.hid (show okR zs p = false ∧ resR zs p = [] by simp [okR, resR, hv, h2'])
      have H2 := Lib.hid h2'
      clear hv h2 h2'
      go_enter Try.func37, Try.ntmps37
      go_wp2_with fail
      refine HV.out.mono ?_
      rintro e w1 ⟨rfl, rfl⟩
      go_wp2_with (go_at_call 58; refine (ins.spec_any _ _ _ _).mono ?_; rintro e w' ⟨rfl, rfl⟩; rw [H2.out])
      go_ret2
      exact ⟨_, (by rw [HF.out.1]; try rfl), ⟨by rw [HF.out.2]; exact HM0.out, by rw [HF.out.2]; simp⟩, HB0.out⟩
end Go.Proofs.Ytfjmpplpagmpbaa.samp
