/- The collation sort's comparison: strings.Compare of the keys that a map gives. Condition: the closure's cell holds the map. -/
import Derived.Test.YtaeimdcmpjanbaaDoorCMap
import Derived.Test.YtaeimdcmpjanbaaDoorStbC
import Derived.Test.YtaeimdcmpjanbaaDoorLawStr
import Derived.Lib.Bytealg
set_option linter.unusedVariables false
set_option linter.unusedSimpArgs false
namespace Go.Proofs.YtaeimdcmpjanbaaDoor.cmap
open Go.RowKit Go.Proofs.YtaeimdcmpjanbaaDoor.mem Go.Proofs.YtaeimdcmpjanbaaDoor.stb

/-- the order of keys -/
def klt (L : ByteArray → ByteArray) (x y : ByteArray) : Bool := Op.bytesLess (L x).toList (L y).toList
theorem cmp_neg : ∀ a b : List UInt8, decide (Lib.compareBytes a b < 0) = Op.bytesLess a b
  | [], [] => by simp [Lib.compareBytes, Op.bytesLess]
  | [], _ :: _ => by simp [Lib.compareBytes, Op.bytesLess]
  | _ :: _, [] => by simp [Lib.compareBytes, Op.bytesLess]
  | a :: la, b :: lb => by
    have ih := cmp_neg la lb
    rw [Lib.compareBytes, Op.bytesLess]
    by_cases h1 : a < b
    · simp [h1]
    · by_cases h2 : b < a
      · have h3 : ¬ a = b := fun e => by subst e; exact h1 h2
        simp [h1, h2, h3]
      · have h3 : a = b := by
          apply UInt8.toNat.inj
          have a1 := mt UInt8.lt_iff_toNat_lt.2 h1
          have a2 := mt UInt8.lt_iff_toNat_lt.2 h2
          omega
        subst h3
        simp only [h1, if_false]
        rw [ih]; simp
def kcf (L : ByteArray → ByteArray) (x y : ByteArray) : Int := Lib.compareBytes (L x).data.toList (L y).data.toList
theorem kcf_lt (L : ByteArray → ByteArray) (x y : ByteArray) : decide (kcf L x y < 0) = klt L x y := by
  rw [kcf, cmp_neg, klt, ByteArray.toList_eq, ByteArray.toList_eq]
theorem bal_any (a b : ByteArray) (w : World) : Calls Tryd.prog 41 #[.string a, .string b] w fun e w' => e = .returned (.int .i64 (Lib.compareBytes a.data.toList b.data.toList)) ∧ w' = w := by
  go_enter Tryd.func41, Tryd.ntmps41
  go_wp2
  rw [run_callFunc_extern Tryd.func54 (by kernel_rfl) (by kernel_rfl) (by kernel_rfl) (e := Extern.BytealgCompare.compare) (by kernel_rfl), Lib.run_compareString]
  simp only [Result.andThen]
  rw [Oper.upon_value]
  go_wp2
  go_ret
  exact ⟨rfl, rfl⟩
theorem scmp_any (a b : ByteArray) (w : World) : Calls Tryd.prog 29 #[.string a, .string b] w fun e w' => e = .returned (.int .i64 (Lib.compareBytes a.data.toList b.data.toList)) ∧ w' = w := by
  go_enter Tryd.func29, Tryd.ntmps29
  go_wp2_with fail
  refine (bal_any _ _ _).mono ?_
  rintro e w' ⟨rfl, rfl⟩
  go_wp2
  go_ret
  exact ⟨rfl, rfl⟩
theorem zeroT (w : World) : (zeroValue 9).run Tryd.prog w = .ok (.string ⟨#[]⟩) w := by kernel_rfl
set_option maxHeartbeats 2000000 in
theorem clo_any (x y : ByteArray) (w : World) (a b n : Nat) (L : ByteArray → ByteArray) (hc : w.cell? ⟨a, 0, none⟩ = some (.map (some b))) (hm : KM Tryd.prog 9 9 w b n L) :
    Calls Tryd.prog 28 #[.string x, .string y, .pointer (some ⟨a, 0, none⟩)] w fun e w' => e = .returned (.int .i64 (kcf L x y)) ∧ w' = w := by
  go_enter Tryd.func28, Tryd.ntmps28
  go_wp2_with (first
    | (at_lookup; refine wpList_lookup_km _ rfl _ _ 42 rfl 9 9 Tryd.underlying9 Tryd.underlying9 Tryd.underlying42 (zeroT _) b n L hm rfl _ rfl ?_)
    | fail)
  refine (scmp_any _ _ _).mono ?_
  rintro e w' ⟨rfl, rfl⟩
  go_wp2
  go_ret
  exact ⟨rfl, rfl⟩
theorem cmp_ok (w0 : World) (g a b n : Nat) (L : ByteArray → ByteArray) (hc : w0.cell? ⟨a, 0, none⟩ = some (.map (some b))) (hm : KM Tryd.prog 9 9 w0 b n L) (hg1 : a ≠ g) (hg2 : b ≠ g) (f : Nat) (cap : Array Value) (hf : f = 28) (hcap : cap = #[.pointer (some ⟨a, 0, none⟩)]) (x y : ByteArray) (W : World) (hW : w0.grownBy W (some g)) :
    Calls Tryd.prog f (#[.string x, .string y] ++ cap) W fun e W' => e = .returned (.int .i64 (kcf L x y)) ∧ Below W.heap.size W W' := by
  subst hf; subst hcap
  refine (clo_any x y W a b n L (hW.cell hc (by intro h; injection h with h; exact hg1 h)) (hm.kept hW (by intro h; injection h with h; exact hg2 h))).mono ?_
  rintro e w' ⟨rfl, rfl⟩
  exact ⟨rfl, Below.refl _ _⟩
end Go.Proofs.YtaeimdcmpjanbaaDoor.cmap
