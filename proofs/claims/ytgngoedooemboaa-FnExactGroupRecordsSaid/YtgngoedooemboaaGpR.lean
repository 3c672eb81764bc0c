/- GroupRecords, the reference's whole. Condition: at most 2^20 records. -/
import Derived.Test.YtgngoedooemboaaGpS
set_option linter.unusedVariables false
set_option linter.unusedSimpArgs false
namespace Go.Proofs.Ytgngoedooemboaa.gp
open Go.RowKit Go.Proofs.Ytgngoedooemboaa.mem Go.Proofs.Ytgngoedooemboaa.stb Go.Proofs.Ytgngoedooemboaa.gj
open Go.Proofs.Ytgngoedooemboaa.vrecs (vrec vrec_len vrec_mem)
set_option maxRecDepth 100000 in
set_option maxHeartbeats 2000000 in
theorem gp_spec (A : Option Addr) (c : Nat) (zs : List Rec) (w : World) (hn : zs.length ≤ 1048576) (hr : Rd w 2 A zs.length (recs zs)) :
    Calls Try.prog 41 #[.slice A zs.length c] w fun e w' => ∃ v, e = .returned (.tuple #[v, .bool (vrec zs)]) ∧ OwnGrp w w' v (resG zs) ∧ Below w.heap.size w w' := by
  have HM := Lib.hid (fun (w : World) => World.ownsRow_made (e := 71) (size := 5) w #[] 0 (Nat.le_refl _) (Nat.zero_le _) (by simp))
  have HV := Lib.hid ((show Calls Try.prog _ _ w fun e w' => e = .returned (.bool (vrec zs)) ∧ Below w.heap.size w w' from (vrecs.spec_any A c zs w hn hr).mono fun e w' h => ⟨h.1, by first | exact h.2 | (rw [← h.2]; exact Below.refl _ _)⟩))
  have HL := Lib.hid (resG_len zs)
  cases hv : vrec zs with
  | false =>
    have HR := Lib.hid (show resG zs = [] by simp [resG, hv])
    rw [hv] at HV
    clear hv
    go_enter Try.func41, Try.ntmps41
    go_wp2_with fail
    refine HV.out.mono ?_
    rintro e w1 ⟨rfl, hb1⟩
    go_wp2
    go_ret2
    exact ⟨_, rfl, ⟨by rw [HR.out]; exact own_base (HM.out w1) hb1.size, by rw [HR.out]; simp⟩, by first | exact hb1 | exact hb1.alloc hb1.size _⟩
  | true =>
    have HR := Lib.hid (show resG zs = join (stab ltK (zs.map g1)) by rw [resG, if_pos hv])
    have HT := Lib.hid (show ∀ z ∈ zs, 0 ≤ z.tag ∧ z.tag ≤ 1048576 from fun z hz => by have := vrec_mem hv z hz; omega)
    rw [hv] at HV
    clear hv
    go_enter Try.func41, Try.ntmps41
    go_wp2_with fail
    refine HV.out.mono ?_
    rintro e w1 ⟨rfl, hb1⟩
    go_wp2_with fail
    refine (spec_groups A c zs w1 hn HT.out (hr.below hb1)).mono ?_
    rintro e w3 ⟨v, rfl, ho, hb2⟩
    have hb3 := below_step hb1 hb2
    go_wp2
    go_ret2
    exact ⟨_, rfl, ⟨by rw [HR.out]; exact own_base ho hb1.size, Nat.le_trans HL.out hn⟩, hb3⟩
end Go.Proofs.Ytgngoedooemboaa.gp
