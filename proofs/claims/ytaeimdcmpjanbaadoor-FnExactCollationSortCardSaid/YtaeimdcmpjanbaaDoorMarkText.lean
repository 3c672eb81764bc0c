/- The laws' own text of a mark. Condition: a mark of at most 2^40. -/
import Derived.Test.YtaeimdcmpjanbaaDoorMem
import Derived.Deep.LoopGhost
import Derived.Laws.BytesArg
set_option linter.unusedVariables false
set_option linter.unusedSimpArgs false
namespace Go.Proofs.YtaeimdcmpjanbaaDoor.markText
open Go.RowKit Go.Proofs.YtaeimdcmpjanbaaDoor.mem

def dig (n : Nat) : ByteArray := strOfNums [48 + ((n % 10 : Nat) : Int)]
/-- n's digits ahead of s -/
def mt (n : Nat) (s : ByteArray) : ByteArray := if h : n = 0 then s else mt (n / 10) (dig n ++ s)
termination_by n
decreasing_by omega
def mtext (k : Nat) : ByteArray := ⟨#[109]⟩ ++ mt k ⟨#[]⟩
theorem mt_pos {n : Nat} (h : 0 < n) (s : ByteArray) : mt n s = mt (n / 10) (dig n ++ s) := by
  rw [mt]; simp [Nat.pos_iff_ne_zero.1 h]
theorem mt_zero (s : ByteArray) : mt 0 s = s := by rw [mt]; simp
theorem dig_size (n : Nat) : (dig n).size = 1 := by rw [dig, strOfNums_size]; rfl

set_option maxRecDepth 100000 in
set_option maxHeartbeats 1000000 in
theorem text_any (k : Nat) (w : World) (hk : 1 ≤ k) (hk2 : k ≤ 1099511627776) :
    Calls Tryd.prog 30 #[.int .i64 (k : Int)] w fun e w' => e = .returned (.string (mtext k)) ∧ (mtext k).size ≤ 30 ∧ Below w.heap.size w w' := by
  go_enter Tryd.func30, Tryd.ntmps30
  have q0 : (0 : Int) < (k : Int) := by omega
  go_wp2
  go_loopg [0, 3] (k + 1) (fun f i o wr => ∃ (n : Nat) (s : ByteArray) (j : Nat), n < f ∧ n ≤ k ∧ i = .int .i64 (n : Int) ∧ o = .string s ∧ mt n s = mt k ⟨#[]⟩ ∧ n < 10 ^ j ∧ s.size + j ≤ 13 ∧ Below w.heap.size w wr)
  case atStart => exact ⟨k, ⟨#[]⟩, 13, by omega, by omega, rfl, rfl, rfl, by omega, by simp [ByteArray.size], Below.refl _ _⟩
  case round =>
    obtain ⟨n, s, j, hnf, hn, rfl, rfl, hm, hj, hs, hb⟩ := hrel
    have HM := Lib.hid hm
    clear hm
    by_cases h0 : 0 < n
    · obtain ⟨j', rfl⟩ : ∃ j', j = j' + 1 := ⟨j - 1, by cases j with | zero => simp at hj; omega | succ j => rfl⟩
      have HM2 := Lib.hid (show mt (n / 10) (strOfNums [48 + ((n % 10 : Nat) : Int)] ++ s) = mt k ⟨#[]⟩ from (mt_pos h0 s).symm.trans HM.out)
      have HJ := Lib.hid (show n / 10 < 10 ^ j' by rw [Nat.pow_succ] at hj; omega)
      clear hj
      have q1 : (0 : Int) < (n : Int) := by omega
      obtain ⟨d, hd0⟩ : ∃ d : Nat, n % 10 = d := ⟨_, rfl⟩
      rw [hd0] at HM2
      have hd : (n : Int).tmod 10 = (d : Int) := by rw [Int.tmod_eq_emod_of_nonneg (by omega)]; omega
      have hd9 : d ≤ 9 := by omega
      clear hd0
      have q2 : (n : Int).tdiv 10 = (n : Int) / 10 := Int.tdiv_eq_ediv_of_nonneg (by omega)
      have q3 : IntKind.u8.wrap (48 + (d : Int)) = 48 + (d : Int) := by simp [IntKind.wrap, IntKind.signed, IntKind.bits]; omega
      have hcv := run_convert_bytes_arg (P := Tryd.prog) (wr.alloc (.cells #[.int .u8 (48 + (d : Int))] 5)) 32 5 Tryd.underlying32 Tryd.underlying5 wr.heap.size 0 1 1 [48 + (d : Int)] rfl (by intro i hi; obtain rfl : i = 0 := (by omega); simp [go_sem]) 9 Tryd.underlying9
      have hz : (strOfNums [48 + (d : Int)]).size = 1 := by rw [strOfNums_size]; rfl
      generalize strOfNums [48 + (d : Int)] = g at hcv hz HM2
      have q4 : g.size + s.size ≤ 9223372036854775807 := by omega
      have hs2 : (g ++ s).size + j' ≤ 13 := by rw [ByteArray.size_append]; omega
      have hbn := hb.alloc hb.size (.cells #[.int .u8 (48 + (d : Int))] 5)
      go_wp2
      go_roundg (gk - 1)
      case measure => omega
      case rel => exact ⟨n / 10, g ++ s, j', by omega, by omega, by go_num, rfl, HM2.out, HJ.out, hs2, hbn⟩
    · obtain rfl : n = 0 := by omega
      have HT := Lib.hid (show s = mt k ⟨#[]⟩ from (mt_zero s).symm.trans HM.out)
      have HT2 := Lib.hid (show (⟨#[109]⟩ : ByteArray) ++ s = mtext k by rw [mtext, ← HT.out])
      have hz : (⟨#[109]⟩ : ByteArray).size = 1 := rfl
      have q4 : (⟨#[109]⟩ : ByteArray).size + s.size ≤ 9223372036854775807 := by omega
      have q5 : 1 + s.size ≤ 9223372036854775807 := by omega
      have HT3 := Lib.hid (show (mtext k).size ≤ 30 by rw [← HT2.out, ByteArray.size_append, hz]; omega)
      go_wp2
      go_ret
      exact ⟨by rw [← HT2.out]; rfl, HT3.out, hb⟩
end Go.Proofs.YtaeimdcmpjanbaaDoor.markText
