/- Collation keys as lists of bytes: numbers preceded by their lengths, letters folded. No program. -/
import Derived.Test.YtaeimdcmpjanbaaDoorMem
set_option linter.unusedVariables false
set_option linter.unusedSimpArgs false
namespace Go.Proofs.YtaeimdcmpjanbaaDoor.col

def dig (b : UInt8) : Bool := decide (48 ≤ b.toNat) && decide (b.toNat ≤ 57)
def low (b : UInt8) : UInt8 := if 65 ≤ b.toNat ∧ b.toNat ≤ 90 then b + 32 else b
def low1 (f : Bool) (b : UInt8) : UInt8 := if f = true then low b else b
theorem low_dig (b : UInt8) : dig (low b) = dig b ∧ (dig b = true → low b = b) := by
  unfold low
  split
  · rename_i h
    have h1 : (b + 32).toNat = b.toNat + 32 := by rw [UInt8.toNat_add]; simp; omega
    constructor
    · unfold dig; rw [h1]
      have : ¬ b.toNat ≤ 57 := by omega
      have h3 : ¬ b.toNat + 32 ≤ 57 := by omega
      simp [this, h3]
    · intro h2
      simp [dig] at h2; omega
  · exact ⟨rfl, fun _ => rfl⟩
theorem low1_dig (f : Bool) (b : UInt8) : dig (low1 f b) = dig b ∧ (dig b = true → low1 f b = b) := by
  unfold low1
  split
  · exact low_dig b
  · exact ⟨rfl, fun _ => rfl⟩
/-- digits without leading zeros, one at least -/
def dz : List UInt8 → List UInt8
  | [] => []
  | [b] => [b]
  | b :: c :: r => if b = 48 then dz (c :: r) else b :: c :: r
def enc (ds : List UInt8) : Option (List UInt8) := if 9 < (dz ds).length then none else some (UInt8.ofNat (48 + (dz ds).length) :: dz ds)
theorem span_lt {b : UInt8} {r : List UInt8} (h : dig b = true) : ((b :: r).dropWhile dig).length < (b :: r).length := by
  rw [List.dropWhile_cons, if_pos h]
  exact Nat.lt_succ_of_le (List.dropWhile_sublist dig).length_le
/-- the key of a list of bytes: bytes that are no digits by g -/
def nat (g : UInt8 → UInt8) (l : List UInt8) : Option (List UInt8) :=
  match l with
  | [] => some []
  | b :: r => if h : dig b = true then (enc ((b :: r).takeWhile dig)).bind fun k => (nat g ((b :: r).dropWhile dig)).map (k ++ ·) else (nat g r).map (g b :: ·)
termination_by l.length
decreasing_by
  · exact span_lt h
  · simp
theorem nat_nil (g : UInt8 → UInt8) : nat g [] = some [] := by rw [nat]
theorem nat_no {g : UInt8 → UInt8} {b : UInt8} {r : List UInt8} (h : dig b = false) : nat g (b :: r) = (nat g r).map (g b :: ·) := by rw [nat, dif_neg (by simp [h])]
theorem nat_dig {g : UInt8 → UInt8} {b : UInt8} {r : List UInt8} (h : dig b = true) : nat g (b :: r) = (enc ((b :: r).takeWhile dig)).bind fun k => (nat g ((b :: r).dropWhile dig)).map (k ++ ·) := by rw [nat, dif_pos h]
theorem take_map {g : UInt8 → UInt8} (hg : ∀ b, dig (g b) = dig b ∧ (dig b = true → g b = b)) : ∀ l : List UInt8, (l.map g).takeWhile dig = l.takeWhile dig
  | [] => rfl
  | b :: r => by
    rw [List.map_cons, List.takeWhile_cons, List.takeWhile_cons, (hg b).1]
    split
    · rename_i h; rw [(hg b).2 h, take_map hg r]
    · rfl
theorem drop_map {g : UInt8 → UInt8} (hg : ∀ b, dig (g b) = dig b ∧ (dig b = true → g b = b)) : ∀ l : List UInt8, (l.map g).dropWhile dig = (l.dropWhile dig).map g
  | [] => rfl
  | b :: r => by
    rw [List.map_cons, List.dropWhile_cons, List.dropWhile_cons, (hg b).1]
    split
    · exact drop_map hg r
    · rfl
theorem nat_map {g : UInt8 → UInt8} (hg : ∀ b, dig (g b) = dig b ∧ (dig b = true → g b = b)) : ∀ (n : Nat) (l : List UInt8), l.length ≤ n → nat id (l.map g) = nat g l
  | _, [], _ => by rw [List.map_nil, nat_nil, nat_nil]
  | 0, b :: r, h => by simp at h
  | n + 1, b :: r, h => by
    by_cases hb : dig b = true
    · have h1 : dig (g b) = true := by rw [(hg b).1]; exact hb
      have h2 := take_map hg (b :: r)
      have h3 := drop_map hg (b :: r)
      rw [List.map_cons] at h2 h3 ⊢
      rw [nat_dig h1, nat_dig hb, h2, h3, nat_map hg n _ (by have := span_lt (r := r) hb; omega)]
    · have hb' : dig b = false := by simpa using hb
      have h1 : dig (g b) = false := by rw [(hg b).1]; exact hb'
      rw [List.map_cons, nat_no h1, nat_no hb', nat_map hg n r (by simp at h; omega)]
      rfl
/-- the key of a string -/
def keyL (f n : Bool) (l : List UInt8) : Option (List UInt8) := if n = true then nat (low1 f) l else some (l.map (low1 f))
def key (f n : Bool) (s : ByteArray) : Option (List UInt8) := if 30 < s.size then none else keyL f n s.data.toList
def resB (f n : Bool) (s : ByteArray) : Bool := (key f n s).isSome
def resS (f n : Bool) (s : ByteArray) : ByteArray := ⟨((key f n s).getD []).toArray⟩
/-! ### digits and zeros -/
theorem dz_len (ds : List UInt8) : (dz ds).length ≤ ds.length := by
  induction ds with
  | nil => exact Nat.le_refl _
  | cons b r ih =>
    cases r with
    | nil => exact Nat.le_refl _
    | cons c r =>
      unfold dz
      split
      · exact Nat.le_succ_of_le ih
      · exact Nat.le_refl _
theorem dz_pos {ds : List UInt8} (h : ds ≠ []) : 1 ≤ (dz ds).length := by
  induction ds with
  | nil => exact absurd rfl h
  | cons b r ih =>
    cases r with
    | nil => exact Nat.le_refl _
    | cons c r =>
      unfold dz
      split
      · exact ih (by simp)
      · simp
/-- the program's way: all zeros off, or a single zero -/
theorem dz_trim {ds : List UInt8} (h : ds ≠ []) : dz ds = if ds.dropWhile (· == 48) = [] then [48] else ds.dropWhile (· == 48) := by
  induction ds with
  | nil => exact absurd rfl h
  | cons b r ih =>
    cases r with
    | nil =>
      by_cases hb : b = 48
      · subst hb; simp [dz]
      · have : (b == 48) = false := by simpa using hb
        simp [dz, List.dropWhile_cons, this]
    | cons c r =>
      unfold dz
      by_cases hb : b = 48
      · rw [if_pos hb, ih (by simp)]
        subst hb
        rw [List.dropWhile_cons (x := 48) (xs := c :: r)]
        simp
      · have : (b == 48) = false := by simpa using hb
        rw [if_neg hb, List.dropWhile_cons, this]
        simp
end Go.Proofs.YtaeimdcmpjanbaaDoor.col
