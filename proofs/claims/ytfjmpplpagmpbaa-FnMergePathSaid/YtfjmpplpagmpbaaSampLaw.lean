/- Splitters by regular samples: the plain law. No condition. -/
import Derived.Test.YtfjmpplpagmpbaaSrtLaw
set_option linter.unusedVariables false
set_option linter.unusedSimpArgs false
namespace Go.Proofs.Ytfjmpplpagmpbaa.samp
open Go.RowKit Go.Proofs.Ytfjmpplpagmpbaa.mem Go.Proofs.Ytfjmpplpagmpbaa.srt

/-- the k-th of p blocks of a list, sorted -/
def blk (zs : List Int) (p k : Nat) : List Int := srt ((zs.drop (k * zs.length / p)).take ((k + 1) * zs.length / p - k * zs.length / p))
/-- j evenly spaced elements of a list, of the p - 1 that a list gives -/
def pk (b : List Int) (p j : Nat) : List Int := (List.range j).map fun i => b.getD ((i + 1) * b.length / p) 0
/-- all of them -/
def pks (b : List Int) (p : Nat) : List Int := if b.length = 0 then [] else pk b p (p - 1)
def smp (zs : List Int) (p : Nat) : Nat → List Int
  | 0 => []
  | k + 1 => smp zs p k ++ pks (blk zs p k) p
def sample (zs : List Int) (p : Nat) : List Int := pks (srt (smp zs p p)) p
theorem pk_len (b : List Int) (p j : Nat) : (pk b p j).length = j := by simp [pk]
theorem pk_step (b : List Int) (p j : Nat) : pk b p (j + 1) = pk b p j ++ [b.getD ((j + 1) * b.length / p) 0] := by simp [pk, List.range_succ]
theorem pks_len (b : List Int) (p : Nat) : (pks b p).length ≤ p - 1 := by
  unfold pks; split
  · simp
  · rw [pk_len]; omega
theorem smp_len (zs : List Int) (p : Nat) : ∀ k, (smp zs p k).length ≤ k * p
  | 0 => by simp [smp]
  | k + 1 => by
    have h1 := smp_len zs p k
    have h2 := pks_len (blk zs p k) p
    rw [smp, List.length_append, Nat.add_mul]; omega
theorem sample_len (zs : List Int) (p : Nat) : (sample zs p).length ≤ p - 1 := pks_len _ _
theorem cut_le {n k p : Nat} (hk : k ≤ p) (hp : 0 < p) : k * n / p ≤ n := Nat.div_le_of_le_mul (Nat.mul_le_mul_right _ hk)
theorem cut_mono {n k p : Nat} : k * n / p ≤ (k + 1) * n / p := Nat.div_le_div_right (Nat.mul_le_mul_right _ (by omega))
theorem at_lt {n j p : Nat} (hj : j < p) (hn : 0 < n) : j * n / p < n := by
  rw [Nat.div_lt_iff_lt_mul (by omega), Nat.mul_comm n p]
  exact Nat.mul_lt_mul_of_pos_right hj hn
theorem blk_len (zs : List Int) {p k : Nat} (hk : k < p) : (blk zs p k).length = (k + 1) * zs.length / p - k * zs.length / p := by
  have h := cut_le (n := zs.length) (k := k + 1) (p := p) (by omega) (by omega)
  rw [blk, srt_len, List.length_take, List.length_drop]; omega
theorem cast1 (k n p : Nat) : ((k : Int) * (n : Int)) / (p : Int) = ((k * n / p : Nat) : Int) := by
  rw [Int.natCast_ediv, Int.natCast_mul]
theorem cast2 (k n p : Nat) : (((k : Int) + 1) * (n : Int)) / (p : Int) = (((k + 1) * n / p : Nat) : Int) := by
  rw [Int.natCast_ediv, Int.natCast_mul, Int.natCast_add]; rfl
theorem mul_bd {k n p q : Nat} (hk : k ≤ p) (hp : p ≤ 16) (hn : n ≤ q) (hq : q ≤ 1024) : 0 ≤ (k : Int) * (n : Int) ∧ (k : Int) * (n : Int) ≤ 16384 := by
  have h : k * n ≤ 16 * 1024 := Nat.mul_le_mul (by omega) (by omega)
  have h2 : ((k * n : Nat) : Int) = (k : Int) * (n : Int) := Int.natCast_mul _ _
  omega
theorem mul_bd1 {k n p q : Nat} (hk : k + 1 ≤ p) (hp : p ≤ 16) (hn : n ≤ q) (hq : q ≤ 1024) : 0 ≤ ((k : Int) + 1) * (n : Int) ∧ ((k : Int) + 1) * (n : Int) ≤ 16384 := by
  have := mul_bd (k := k + 1) hk hp hn hq
  rwa [show (((k + 1 : Nat)) : Int) = (k : Int) + 1 by omega] at this
end Go.Proofs.Ytfjmpplpagmpbaa.samp
