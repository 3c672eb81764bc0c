/- MultikeySort, the program's and the reference's. No condition beyond 2^20 strings. -/
import Derived.Test.YtaeimdcmpjanbaaMultiS
import Derived.Test.YtaeimdcmpjanbaaCopy
set_option linter.unusedVariables false
set_option linter.unusedSimpArgs false
namespace Go.Proofs.Ytaeimdcmpjanbaa.mkSort
open Go.RowKit Go.Proofs.Ytaeimdcmpjanbaa.mem Go.Proofs.Ytaeimdcmpjanbaa.validStr Go.Proofs.Ytaeimdcmpjanbaa.multi

theorem M_le (l : List ByteArray) (d : Nat) (h : ∀ s ∈ l, s.size ≤ 30) : M l d ≤ l.length * 31 := by
  induction l with
  | nil => simp [M]
  | cons s r ih =>
    have h1 := ih (fun x hx => h x (by simp [hx]))
    have h2 := h s (by simp)
    simp only [M, List.map_cons, List.sum_cons, List.length_cons] at *
    omega
theorem vstr_size {ss : List ByteArray} (h : vstr ss = true) : ss.length ≤ 40 ∧ ∀ s ∈ ss, s.size ≤ 30 := by
  simp only [vstr, Bool.and_eq_true, decide_eq_true_eq, List.all_eq_true] at h
  exact ⟨h.1, fun s hs => by simpa [short] using h.2 s hs⟩
def ok (ss : List ByteArray) : Bool := vstr ss
def res (ss : List ByteArray) : List ByteArray := if vstr ss = true then (mk (M ss 0) ss 0).1 else []
def cnt (ss : List ByteArray) : Int := if vstr ss = true then ((mk (M ss 0) ss 0).2 : Int) else 0
theorem fuel_ok {ss : List ByteArray} (h : vstr ss = true) : ss.length * M ss 0 ≤ 1099511627776 := by
  obtain ⟨h1, h2⟩ := vstr_size h
  have h3 := M_le ss 0 h2
  have := Nat.mul_le_mul h1 h3
  have : 40 * (ss.length * 31) ≤ 40 * (40 * 31) := by omega
  omega
set_option maxHeartbeats 1000000 in
theorem impl_any (A : Option Addr) (c : Nat) (ss : List ByteArray) (w : World) (hn : ss.length ≤ 1048576) (hs : ∀ s ∈ ss, s.size ≤ 1048576) (hr : Rd w 1 A ss.length (strs ss)) :
    Calls Try.prog 12 #[.slice A ss.length c] w fun e w' => ∃ v, e = .returned (.tuple #[v, .int .i64 (cnt ss), .bool (ok ss)]) ∧ OwnS w w' v (res ss) ∧ Below w.heap.size w w' := by
  have HI := Lib.hid (validStr.impl_any A c ss w (by unfold maxLen; omega) (fun s h => Nat.le_trans (hs s h) (by decide)) hr)
  have HS := Lib.hid hs
  clear hs
  cases hv : vstr ss with
  | false =>
    have HR := Lib.hid (show res ss = [] ∧ cnt ss = 0 ∧ ok ss = false by simp [res, cnt, ok, hv])
    rw [hv] at HI
    clear hv
    go_enter Try.func12, Try.ntmps12
    go_wp2_with fail
    refine HI.out.mono ?_
    rintro e w1 ⟨rfl, hb⟩
    go_wp2
    go_ret3
    exact ⟨_, by rw [HR.out.2.1, HR.out.2.2]; rfl, ⟨by rw [HR.out.1]; exact World.ownsRow_nil _ _ _ _, by rw [HR.out.1]; simp⟩, hb⟩
  | true =>
    have HR := Lib.hid (show res ss = (mk (M ss 0) ss 0).1 ∧ cnt ss = ((mk (M ss 0) ss 0).2 : Int) ∧ ok ss = true by simp [res, cnt, ok, hv])
    have HF := Lib.hid (fuel_ok hv)
    have HL := Lib.hid (mk_len (M ss 0) ss 0).1
    rw [hv] at HI
    clear hv
    go_enter Try.func12, Try.ntmps12
    go_wp2_with fail
    refine HI.out.mono ?_
    rintro e w1 ⟨rfl, hb⟩
    go_wp2_with fail
    refine (copies.str_any A c ss w1 hn (hr.below hb)).mono ?_
    rintro e w2 ⟨v, rfl, ho, hb2⟩
    obtain ⟨A1, c1, hve, h1, h2, hr1⟩ := own_form ho
    subst hve
    have hbw := below_step hb hb2
    go_wp2_with fail
    refine (multi.impl_any (M ss 0) A1 c1 ss 0 w2 (Nat.le_refl _) h1 h2 hn (by omega) HS.out HF.out hr1).mono ?_
    rintro e w3 ⟨v, rfl, hO, hb3⟩
    have HO := Lib.hid (show w3.ownsRow w.heap.size 9 1 v (mk (M ss 0) ss 0).1.length (strs (mk (M ss 0) ss 0).1) by
      rcases hO.2 with h | ⟨h, h'⟩
      · exact own_base h hbw.size
      · rw [h, h']; exact own_base (own_below ho hb3) hb.size)
    clear ho hO
    go_wp2
    go_ret3
    exact ⟨_, by rw [HR.out.2.1, HR.out.2.2]; rfl, ⟨by rw [HR.out.1]; exact HO.out, by rw [HR.out.1, HL.out]; exact hn⟩, below_step hbw hb3⟩
set_option maxHeartbeats 1000000 in
theorem spec_any (A : Option Addr) (c : Nat) (ss : List ByteArray) (w : World) (hn : ss.length ≤ 1048576) (hs : ∀ s ∈ ss, s.size ≤ 1048576) (hr : Rd w 1 A ss.length (strs ss)) :
    Calls Try.prog 30 #[.slice A ss.length c] w fun e w' => ∃ v, e = .returned (.tuple #[v, .int .i64 (cnt ss), .bool (ok ss)]) ∧ OwnS w w' v (res ss) ∧ Below w.heap.size w w' := by
  have HI := Lib.hid (validStr.list_any A c ss w (by unfold maxLen; omega) (fun s h => Nat.le_trans (hs s h) (by decide)) hr)
  have HS := Lib.hid hs
  clear hs
  cases hv : vstr ss with
  | false =>
    have HR := Lib.hid (show res ss = [] ∧ cnt ss = 0 ∧ ok ss = false by simp [res, cnt, ok, hv])
    have hm0 := World.ownsRow_made (e := 9) (size := 1) w #[] 0 (Nat.le_refl _) (Nat.zero_le _) (by simp)
    rw [hv] at HI
    clear hv
    go_enter Try.func30, Try.ntmps30
    go_wp2_with fail
    refine HI.out.mono ?_
    rintro e w1 ⟨rfl, rfl⟩
    go_wp2
    go_ret3
    exact ⟨_, by rw [HR.out.2.1, HR.out.2.2]; rfl, ⟨by rw [HR.out.1]; exact hm0, by rw [HR.out.1]; simp⟩, (Below.refl _ _).alloc (Nat.le_refl _) _⟩
  | true =>
    have HR := Lib.hid (show res ss = (mk (M ss 0) ss 0).1 ∧ cnt ss = ((mk (M ss 0) ss 0).2 : Int) ∧ ok ss = true by simp [res, cnt, ok, hv])
    have HF := Lib.hid (fuel_ok hv)
    have HL := Lib.hid (mk_len (M ss 0) ss 0).1
    rw [hv] at HI
    clear hv
    go_enter Try.func30, Try.ntmps30
    go_wp2_with fail
    refine HI.out.mono ?_
    rintro e w1 ⟨rfl, rfl⟩
    go_wp2_with fail
    refine (multi.spec_any (M ss 0) A c ss 0 w (Nat.le_refl _) hn (by omega) HS.out HF.out hr).mono ?_
    rintro e w3 ⟨v, rfl, hO, hb3⟩
    have HO := Lib.hid hO
    clear hO
    go_wp2
    go_ret3
    exact ⟨_, by rw [HR.out.2.1, HR.out.2.2]; rfl, ⟨by rw [HR.out.1]; exact HO.out, by rw [HR.out.1, HL.out]; exact hn⟩, hb3⟩
end Go.Proofs.Ytaeimdcmpjanbaa.mkSort
