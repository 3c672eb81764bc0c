/- Collation keys, the program's. Condition: strings of at most 30 bytes, where it matters. -/
import Derived.Test.YtaeimdcmpjanbaaDoorColLaw
import Derived.Deep.LoopGhost
import Derived.Laws.IdiomStrings
import Derived.Laws.Runes
import Derived.Laws.DeepStrings4
set_option linter.unusedVariables false
set_option linter.unusedSimpArgs false
namespace Go.Proofs.YtaeimdcmpjanbaaDoor.col
open Go.RowKit Go.Proofs.YtaeimdcmpjanbaaDoor.mem

def str (l : List UInt8) : ByteArray := ⟨l.toArray⟩
theorem str_list (s : ByteArray) : str s.data.toList = s := rfl
theorem list_str (l : List UInt8) : (str l).data.toList = l := rfl
theorem str_size (l : List UInt8) : (str l).size = l.length := by simp [str, ByteArray.size]
theorem str_app (a b : List UInt8) : str a ++ str b = str (a ++ b) := by
  apply ByteArray.ext
  rw [ByteArray.data_append]
  simp [str]
theorem str_ext (s : ByteArray) (i k : Nat) : s.extract i k = str ((s.data.toList.take k).drop i) := by
  apply ByteArray.ext
  rw [ByteArray.data_extract]
  apply Array.toList_inj.1
  simp [str, Array.toList_extract, List.extract_eq_take_drop, List.drop_take]
theorem size_list (s : ByteArray) : s.data.toList.length = s.size := rfl
theorem at_list (s : ByteArray) {k : Nat} (h : k < s.size) : s.data.toList[k]'h = s[k] := rfl
theorem run_sub (s : ByteArray) (a b : Nat) (x y : Int) (hx : x = a) (hy : y = b) (h : a ≤ b) (h2 : b ≤ s.size) (W : World) :
    (Instr.slice 9 (.string s) (some (.int .i64 x)) (some (.int .i64 y)) none).run Tryd.prog W = .ok (.string (s.extract a b)) W := by
  subst hx; subst hy
  rw [run_slice_string_if W 9 s .i64 .i64 a b Tryd.underlying9, if_pos (by omega), if_pos (by omega)]
  rfl
set_option maxHeartbeats 400000 in
theorem impl_dig (b : UInt8) (w : World) : Calls Tryd.prog 36 #[.int .u8 (b.toNat : Int)] w fun e w' => e = .returned (.bool (dig b)) ∧ w = w' := by
  have hb : b.toNat < 256 := b.toNat_lt
  have HD := Lib.hid (show dig b = (decide (48 ≤ b.toNat) && decide (b.toNat ≤ 57)) from rfl)
  generalize dig b = d at HD ⊢
  generalize b.toNat = x at hb HD ⊢
  go_enter Tryd.func36, Tryd.ntmps36
  by_cases h1 : 48 ≤ x
  · have q1 : (48 : Int) ≤ (x : Int) := by omega
    go_wp2
    go_ret
    exact ⟨ret_bool (by rw [HD.out, decide_eq_true h1, Bool.true_and]; exact decide_eq_decide.2 (by omega)), rfl⟩
  · have q1 : ¬ (48 : Int) ≤ (x : Int) := by omega
    go_wp2
    go_ret
    exact ⟨ret_bool (by rw [HD.out, decide_eq_false h1, Bool.false_and]), rfl⟩
set_option maxHeartbeats 400000 in
theorem spec_dig (b : UInt8) (w : World) : Calls Tryd.prog 34 #[.int .u8 (b.toNat : Int)] w fun e w' => e = .returned (.bool (dig b)) ∧ w = w' := by
  have hb : b.toNat < 256 := b.toNat_lt
  have HD := Lib.hid (show dig b = (decide (48 ≤ b.toNat) && decide (b.toNat ≤ 57)) from rfl)
  generalize dig b = d at HD ⊢
  generalize b.toNat = x at hb HD ⊢
  go_enter Tryd.func34, Tryd.ntmps34
  by_cases h1 : 48 ≤ x
  · have q1 : (48 : Int) ≤ (x : Int) := by omega
    go_wp2
    go_ret
    exact ⟨ret_bool (by rw [HD.out, decide_eq_true h1, Bool.true_and]; exact decide_eq_decide.2 (by omega)), rfl⟩
  · have q1 : ¬ (48 : Int) ≤ (x : Int) := by omega
    go_wp2
    go_ret
    exact ⟨ret_bool (by rw [HD.out, decide_eq_false h1, Bool.false_and]), rfl⟩
/-! ### strings.TrimLeft of zeros -/
theorem drop_head {l : List UInt8} {c : UInt8} (h : 0 < l.length) (hc : l[0] = c) : (l.drop 1).dropWhile (· == c) = l.dropWhile (· == c) := by
  cases l with
  | nil => simp at h
  | cons b r =>
    simp at hc; subst hc
    simp
theorem drop_stop {l : List UInt8} {c : UInt8} (h : ∀ h : 0 < l.length, l[0] ≠ c) : l.dropWhile (· == c) = l := by
  cases l with
  | nil => rfl
  | cons b r =>
    have := h (by simp)
    simp at this
    simp [List.dropWhile_cons, this]
set_option maxRecDepth 100000 in
set_option maxHeartbeats 1000000 in
theorem trim_byte (s : ByteArray) (c : UInt8) (w : World) (hs : s.size ≤ 1048576) : Calls Tryd.prog 46 #[.string s, .int .u8 (c.toNat : Int)] w fun e w' => e = .returned (.string (str (s.data.toList.dropWhile (· == c)))) ∧ Below w.heap.size w w' := by
  go_enter Tryd.func46, Tryd.ntmps46
  go_wp2
  go_loopg [0] (s.size + 1) (fun f x wr => ∃ y : ByteArray, x = .string y ∧ y.size < f ∧ y.size ≤ s.size ∧ y.data.toList.dropWhile (· == c) = s.data.toList.dropWhile (· == c) ∧ Below w.heap.size w wr)
  case atStart => exact ⟨s, rfl, by omega, Nat.le_refl _, rfl, Below.refl _ _⟩
  case round =>
    obtain ⟨y, rfl, hyf, hys, hd, hb⟩ := hrel
    have HD := Lib.hid hd
    clear hd
    by_cases h0 : 0 < y.size
    · have q0 : (0 : Int) < (y.size : Int) := by omega
      by_cases hc : y[0] = c
      · have q1 : (((y[0]).toNat : Int) == (c.toNat : Int)) = true := by rw [hc]; simp
        have HN := Lib.hid (show (y.extract 1 y.size).data.toList.dropWhile (· == c) = s.data.toList.dropWhile (· == c) by
          rw [← HD.out, str_ext, list_str, List.take_of_length_le (show y.data.toList.length ≤ y.size from Nat.le_refl _)]
          exact drop_head h0 hc)
        have hsz : (y.extract 1 y.size).size = y.size - 1 := by rw [ByteArray.size_extract]; omega
        have hyb : y.size ≤ 1048576 := by omega
        clear hc
        go_wp2
        go_roundg (gk - 1)
        case measure => omega
        case rel => exact ⟨_, rfl, by rw [hsz]; omega, by rw [hsz]; omega, HN.out, hb⟩
      · have q1 : (((y[0]).toNat : Int) == (c.toNat : Int)) = false := by
          rw [beq_eq_false_iff_ne]; intro h; exact hc (UInt8.toNat_inj.1 (by omega))
        have HR := Lib.hid (show y = str (s.data.toList.dropWhile (· == c)) by rw [← HD.out, drop_stop (fun _ => hc)]; rfl)
        clear hc
        go_wp2
        go_ret
        exact ⟨by rw [← HR.out]; rfl, hb⟩
    · have q0 : ¬ (0 : Int) < (y.size : Int) := by omega
      have q0d : decide ((0 : Int) < (y.size : Int)) = false := decide_eq_false q0
      have q0n : decide (0 < y.size) = false := decide_eq_false h0
      have HR := Lib.hid (show y = str (s.data.toList.dropWhile (· == c)) by
        rw [← HD.out, drop_stop (fun h => absurd (show 0 < y.size from h) h0)]; rfl)
      go_wp2
      go_ret
      exact ⟨by rw [← HR.out]; rfl, hb⟩
def zero : ByteArray := str [48]
set_option maxRecDepth 100000 in
set_option maxHeartbeats 1000000 in
theorem trim_any (s : ByteArray) (w : World) (hs : s.size ≤ 1048576) (h0 : 0 < s.size) : Calls Tryd.prog 37 #[.string s, .string ⟨#[48]⟩] w fun e w' => e = .returned (.string (str (s.data.toList.dropWhile (· == 48)))) ∧ Below w.heap.size w w' := by
  have HT := Lib.hid (fun W => trim_byte s 48 W hs)
  rw [show (((48 : UInt8).toNat : Nat) : Int) = 48 from rfl] at HT
  have hne : ¬ s.toList = [] := fun e => by
    rw [ByteArray.toList_eq] at e
    have h2 : s.data.toList.length = 0 := by rw [e]; rfl
    rw [size_list] at h2
    omega
  have hie : s.toList.isEmpty = false := by simpa using hne
  have h48 : ({ data := #[48] } : ByteArray)[0].toNat = 48 := rfl
  go_enter Tryd.func37, Tryd.ntmps37
  go_wp2_with fail
  (with_reducible refine (HT.out _).mono ?_)
  rintro e w1 ⟨rfl, hb⟩
  go_wp2
  go_ret
  exact ⟨rfl, hb⟩
end Go.Proofs.YtaeimdcmpjanbaaDoor.col
