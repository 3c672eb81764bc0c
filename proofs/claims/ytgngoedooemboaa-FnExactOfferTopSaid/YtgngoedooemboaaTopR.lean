/- TopRecords, the program's and the reference's. No condition beyond 2^20 records. -/
import Derived.Test.YtgngoedooemboaaTop
set_option linter.unusedVariables false
set_option linter.unusedSimpArgs false
namespace Go.Proofs.Ytgngoedooemboaa.tops
open Go.RowKit Go.Proofs.Ytgngoedooemboaa.mem Go.Proofs.Ytgngoedooemboaa.stb
open Go.Proofs.Ytgngoedooemboaa.ins (inB inB_iff)
open Go.Proofs.Ytgngoedooemboaa.vrecs (vrec vrec_len)

def okR (zs : List Rec) (k : Int) : Bool := vrec zs && inB k 1 16
def resR (zs : List Rec) (k : Int) : List Rec := if okR zs k = true then tp zs k.toNat else []
theorem resR_len (zs : List Rec) (k : Int) : (resR zs k).length ≤ zs.length := by
  unfold resR; split
  · rw [tp_len]; omega
  · simp
set_option maxRecDepth 100000 in
set_option maxHeartbeats 2000000 in
theorem topR_impl (A : Option Addr) (c : Nat) (zs : List Rec) (k : Int) (w : World) (hn : zs.length ≤ 1048576) (hr : Rd w 2 A zs.length (recs zs)) :
    Calls Try.prog 28 #[.slice A zs.length c, .int .i64 k] w fun e w' => ∃ v, e = .returned (.tuple #[v, .bool (okR zs k)]) ∧ OwnRec w w' v (resR zs k) ∧ Below w.heap.size w w' := by
  have HM := Lib.hid (fun (w : World) => World.ownsRow_made (e := 49) (size := 2) w #[] 0 (Nat.le_refl _) (Nat.zero_le _) (by simp))
  have HV := Lib.hid ((show Calls Try.prog _ _ w fun e w' => e = .returned (.bool (vrec zs)) ∧ Below w.heap.size w w' from (vrecs.impl_any A c zs w hn hr).mono fun e w' h => ⟨h.1, by first | exact h.2 | (rw [← h.2]; exact Below.refl _ _)⟩))
  have HL := Lib.hid (resR_len zs k)
  cases hv : vrec zs with
  | false =>
    have HR := Lib.hid (show okR zs k = false ∧ resR zs k = [] by simp [okR, resR, hv])
    rw [hv] at HV
    clear hv
    go_enter Try.func28, Try.ntmps28
    go_wp2_with fail
    refine HV.out.mono ?_
    rintro e w1 ⟨rfl, hb1⟩
    go_wp2
    go_ret2
    exact ⟨_, by rw [HR.out.1]; rfl, ⟨by rw [HR.out.2]; exact World.ownsRow_nil _ _ _ _, by rw [HR.out.2]; simp⟩, by first | exact hb1 | exact hb1.alloc hb1.size _⟩
  | true =>
    rw [hv] at HV
    cases hi : inB k 1 16 with
    | false =>
      have HR := Lib.hid (show okR zs k = false ∧ resR zs k = [] by simp [okR, resR, hv, hi])
      have HI := Lib.hid hi
      clear hv hi
      go_enter Try.func28, Try.ntmps28
      go_wp2_with fail
      refine HV.out.mono ?_
      rintro e w1 ⟨rfl, hb1⟩
      go_wp2_with fail
      refine (vrecs.itop_any _ _).mono ?_
      rintro e w2 ⟨rfl, rfl⟩
      rw [HI.out]
      go_wp2
      go_ret2
      exact ⟨_, by rw [HR.out.1]; rfl, ⟨by rw [HR.out.2]; exact World.ownsRow_nil _ _ _ _, by rw [HR.out.2]; simp⟩, by first | exact hb1 | exact hb1.alloc hb1.size _⟩
    | true =>
      obtain ⟨h1, h2⟩ := inB_iff.1 hi
      obtain ⟨q, rfl⟩ : ∃ q : Nat, k = (q : Int) := ⟨k.toNat, by omega⟩
      have HR := Lib.hid (show okR zs (q : Int) = true ∧ resR zs (q : Int) = tp zs q by
        have : okR zs (q : Int) = true := by rw [okR, hv, hi]; rfl
        exact ⟨this, by rw [resR, if_pos this, Int.toNat_natCast]⟩)
      have HI := Lib.hid hi
      clear hv hi
      go_enter Try.func28, Try.ntmps28
      go_wp2_with fail
      refine HV.out.mono ?_
      rintro e w1 ⟨rfl, hb1⟩
      go_wp2_with fail
      refine (vrecs.itop_any _ _).mono ?_
      rintro e w2 ⟨rfl, rfl⟩
      rw [HI.out]
      go_wp2_with fail
      refine (impl_top A c zs q w1 hn (by omega) (hr.below hb1)).mono ?_
      rintro e w3 ⟨v, rfl, ho, hb2⟩
      have hb3 := below_step hb1 hb2
      go_wp2
      go_ret2
      exact ⟨_, by rw [HR.out.1]; rfl, ⟨by rw [HR.out.2]; exact own_base ho hb1.size, Nat.le_trans HL.out hn⟩, hb3⟩
set_option maxRecDepth 100000 in
set_option maxHeartbeats 2000000 in
theorem topR_spec (A : Option Addr) (c : Nat) (zs : List Rec) (k : Int) (w : World) (hn : zs.length ≤ 1048576) (hr : Rd w 2 A zs.length (recs zs)) :
    Calls Try.prog 26 #[.slice A zs.length c, .int .i64 k] w fun e w' => ∃ v, e = .returned (.tuple #[v, .bool (okR zs k)]) ∧ OwnRec w w' v (resR zs k) ∧ Below w.heap.size w w' := by
  have HM := Lib.hid (fun (w : World) => World.ownsRow_made (e := 49) (size := 2) w #[] 0 (Nat.le_refl _) (Nat.zero_le _) (by simp))
  have HV := Lib.hid ((show Calls Try.prog _ _ w fun e w' => e = .returned (.bool (vrec zs)) ∧ Below w.heap.size w w' from (vrecs.spec_any A c zs w hn hr).mono fun e w' h => ⟨h.1, by first | exact h.2 | (rw [← h.2]; exact Below.refl _ _)⟩))
  have HL := Lib.hid (resR_len zs k)
  cases hv : vrec zs with
  | false =>
    have HR := Lib.hid (show okR zs k = false ∧ resR zs k = [] by simp [okR, resR, hv])
    rw [hv] at HV
    clear hv
    go_enter Try.func26, Try.ntmps26
    go_wp2_with fail
    refine HV.out.mono ?_
    rintro e w1 ⟨rfl, hb1⟩
    go_wp2
    go_ret2
    exact ⟨_, by rw [HR.out.1]; rfl, ⟨by rw [HR.out.2]; exact own_base (HM.out w1) hb1.size, by rw [HR.out.2]; simp⟩, by first | exact hb1 | exact hb1.alloc hb1.size _⟩
  | true =>
    rw [hv] at HV
    cases hi : inB k 1 16 with
    | false =>
      have HR := Lib.hid (show okR zs k = false ∧ resR zs k = [] by simp [okR, resR, hv, hi])
      have HI := Lib.hid hi
      clear hv hi
      go_enter Try.func26, Try.ntmps26
      go_wp2_with fail
      refine HV.out.mono ?_
      rintro e w1 ⟨rfl, hb1⟩
      go_wp2_with fail
      refine (ins.spec_any _ _ _ _).mono ?_
      rintro e w2 ⟨rfl, rfl⟩
      rw [HI.out]
      go_wp2
      go_ret2
      exact ⟨_, by rw [HR.out.1]; rfl, ⟨by rw [HR.out.2]; exact own_base (HM.out w1) hb1.size, by rw [HR.out.2]; simp⟩, by first | exact hb1 | exact hb1.alloc hb1.size _⟩
    | true =>
      obtain ⟨h1, h2⟩ := inB_iff.1 hi
      obtain ⟨q, rfl⟩ : ∃ q : Nat, k = (q : Int) := ⟨k.toNat, by omega⟩
      have HR := Lib.hid (show okR zs (q : Int) = true ∧ resR zs (q : Int) = tp zs q by
        have : okR zs (q : Int) = true := by rw [okR, hv, hi]; rfl
        exact ⟨this, by rw [resR, if_pos this, Int.toNat_natCast]⟩)
      have HI := Lib.hid hi
      clear hv hi
      go_enter Try.func26, Try.ntmps26
      go_wp2_with fail
      refine HV.out.mono ?_
      rintro e w1 ⟨rfl, hb1⟩
      go_wp2_with fail
      refine (ins.spec_any _ _ _ _).mono ?_
      rintro e w2 ⟨rfl, rfl⟩
      rw [HI.out]
      go_wp2_with fail
      refine (spec_top A c zs q w1 hn (by omega) (hr.below hb1)).mono ?_
      rintro e w3 ⟨v, rfl, ho, hb2⟩
      have hb3 := below_step hb1 hb2
      go_wp2
      go_ret2
      exact ⟨_, by rw [HR.out.1]; rfl, ⟨by rw [HR.out.2]; exact own_base ho hb1.size, Nat.le_trans HL.out hn⟩, hb3⟩
end Go.Proofs.Ytgngoedooemboaa.tops
