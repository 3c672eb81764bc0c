/- PrefixLengths, the program's and the reference's. No condition beyond 2^20 strings. -/
import Derived.Test.YtaeimdcmpjanbaaPfx
set_option linter.unusedVariables false
set_option linter.unusedSimpArgs false
namespace Go.Proofs.Ytaeimdcmpjanbaa.pfxLen
open Go.RowKit Go.Proofs.Ytaeimdcmpjanbaa.mem Go.Proofs.Ytaeimdcmpjanbaa.validStr Go.Proofs.Ytaeimdcmpjanbaa.ascStr Go.Proofs.Ytaeimdcmpjanbaa.pfxs

def ok (ss : List ByteArray) : Bool := vstr ss && sasc ss
def res (ss : List ByteArray) : List Int := if ok ss = true then pfx ss else []
set_option maxHeartbeats 1000000 in
theorem impl_any (A : Option Addr) (c : Nat) (ss : List ByteArray) (w : World) (hn : ss.length ≤ 1048576) (hs : ∀ s ∈ ss, s.size ≤ 1048576) (hr : Rd w 1 A ss.length (strs ss)) :
    Calls Try.prog 19 #[.slice A ss.length c] w fun e w' => ∃ v, e = .returned (.tuple #[v, .bool (ok ss)]) ∧ OwnI w w' v (res ss) ∧ Below w.heap.size w w' := by
  have HI := Lib.hid (impl_asc A c ss w (by unfold maxLen; omega) (fun s h => Nat.le_trans (hs s h) (by decide)) hr)
  have HP := Lib.hid (fun w1 h1 => impl_pfx A c ss w1 hn (fun s h => Nat.le_trans (hs s h) (by decide)) h1)
  clear hs
  have HR := Lib.hid (show res ss = if ok ss = true then pfx ss else [] from rfl)
  have HL := Lib.hid (pfx_len ss)
  rw [show (vstr ss && sasc ss) = ok ss from rfl] at HI
  obtain ⟨v, hv⟩ : ∃ v, v = ok ss := ⟨_, rfl⟩
  rw [← hv] at HI HR ⊢
  clear hv
  cases v with
  | false =>
    have HR2 := Lib.hid (show res ss = [] from by rw [HR.out]; rfl)
    go_enter Try.func19, Try.ntmps19
    go_wp2_with fail
    refine HI.out.mono ?_
    rintro e w1 ⟨rfl, hb⟩
    go_wp2
    go_ret2
    exact ⟨_, rfl, ⟨by rw [HR2.out]; exact World.ownsRow_nil _ _ _ _, by rw [HR2.out]; simp⟩, hb⟩
  | true =>
    have HR2 := Lib.hid (show res ss = pfx ss from by rw [HR.out]; rfl)
    go_enter Try.func19, Try.ntmps19
    go_wp2_with fail
    refine HI.out.mono ?_
    rintro e w1 ⟨rfl, hb⟩
    go_wp2_with fail
    refine (HP.out w1 (hr.below hb)).mono ?_
    rintro e w2 ⟨v, rfl, ho, hb2⟩
    go_wp2
    go_ret2
    exact ⟨_, rfl, ⟨by rw [HR2.out, HL.out]; exact own_base ho hb.size, by rw [HR2.out, HL.out]; exact hn⟩, below_step hb hb2⟩
set_option maxHeartbeats 1000000 in
theorem spec_any (A : Option Addr) (c : Nat) (ss : List ByteArray) (w : World) (hn : ss.length ≤ 1048576) (hs : ∀ s ∈ ss, s.size ≤ 1048576) (hr : Rd w 1 A ss.length (strs ss)) :
    Calls Try.prog 23 #[.slice A ss.length c] w fun e w' => ∃ v, e = .returned (.tuple #[v, .bool (ok ss)]) ∧ OwnI w w' v (res ss) ∧ Below w.heap.size w w' := by
  have HI := Lib.hid (spec_asc A c ss w (by unfold maxLen; omega) (fun s h => Nat.le_trans (hs s h) (by decide)) hr)
  have HP := Lib.hid (fun w1 h1 => spec_pfx A c ss w1 hn (fun s h => Nat.le_trans (hs s h) (by decide)) h1)
  clear hs
  have HR := Lib.hid (show res ss = if ok ss = true then pfx ss else [] from rfl)
  have HL := Lib.hid (pfx_len ss)
  rw [show (vstr ss && sasc ss) = ok ss from rfl] at HI
  obtain ⟨v, hv⟩ : ∃ v, v = ok ss := ⟨_, rfl⟩
  rw [← hv] at HI HR ⊢
  clear hv
  cases v with
  | false =>
    have HR2 := Lib.hid (show res ss = [] from by rw [HR.out]; rfl)
    go_enter Try.func23, Try.ntmps23
    go_wp2_with fail
    refine HI.out.mono ?_
    rintro e w1 ⟨rfl, hb⟩
    have hm0 := World.ownsRow_made (e := 3) (size := 1) w1 #[] 0 (Nat.le_refl _) (Nat.zero_le _) (by simp)
    go_wp2
    go_ret2
    exact ⟨_, rfl, ⟨by rw [HR2.out]; exact own_base hm0 hb.size, by rw [HR2.out]; simp⟩, hb.alloc hb.size _⟩
  | true =>
    have HR2 := Lib.hid (show res ss = pfx ss from by rw [HR.out]; rfl)
    go_enter Try.func23, Try.ntmps23
    go_wp2_with fail
    refine HI.out.mono ?_
    rintro e w1 ⟨rfl, hb⟩
    go_wp2_with fail
    refine (HP.out w1 (hr.below hb)).mono ?_
    rintro e w2 ⟨v, rfl, ho, hb2⟩
    go_wp2
    go_ret2
    exact ⟨_, rfl, ⟨by rw [HR2.out, HL.out]; exact own_base ho hb.size, by rw [HR2.out, HL.out]; exact hn⟩, below_step hb hb2⟩
end Go.Proofs.Ytaeimdcmpjanbaa.pfxLen
