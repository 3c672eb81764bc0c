/- The program's CollationKey. Condition: at most 2^20 bytes. -/
import Derived.Test.YtaeimdcmpjanbaaDoorColLo
set_option linter.unusedVariables false
set_option linter.unusedSimpArgs false
namespace Go.Proofs.YtaeimdcmpjanbaaDoor.col
open Go.RowKit Go.Proofs.YtaeimdcmpjanbaaDoor.mem

theorem low1_t : low1 true = low := by funext b; rw [low1, if_pos rfl]
theorem low1_f : low1 false = id := by funext b; rw [low1, if_neg (by simp)]; rfl
theorem key_long {f n : Bool} {s : ByteArray} (h : 30 < s.size) : resS f n s = str [] ∧ resB f n s = false := by
  simp only [resS, resB, key, if_pos h]; exact ⟨rfl, rfl⟩
theorem key_short {f n : Bool} {s : ByteArray} (h : ¬ 30 < s.size) : resS f n s = str ((keyL f n s.data.toList).getD []) ∧ resB f n s = (keyL f n s.data.toList).isSome := by
  simp only [resS, resB, key, if_neg h]; exact ⟨rfl, trivial⟩
set_option maxRecDepth 100000 in
set_option maxHeartbeats 1000000 in
theorem colI_any (s : ByteArray) (f n : Bool) (w : World) (hs : s.size ≤ 1048576) : Calls Tryd.prog 7 #[.string s, .bool f, .bool n] w fun e w' => e = .returned (.tuple #[.string (resS f n s), .bool (resB f n s)]) ∧ Below w.heap.size w w' := by
  by_cases hl : 30 < s.size
  · have HR := Lib.hid (key_long (f := f) (n := n) hl)
    have q1 : (30 : Int) < (s.size : Int) := by omega
    go_enter Tryd.func7, Tryd.ntmps7
    go_wp2
    go_ret2
    exact ⟨ret_sb (by rw [HR.out.1]; rfl) (by rw [HR.out.2]), Below.refl _ _⟩
  · have HR := Lib.hid (key_short (f := f) (n := n) hl)
    have q1 : ¬ (30 : Int) < (s.size : Int) := by omega
    cases f with
    | false =>
      cases n with
      | false =>
        have HE := Lib.hid (show keyL false false s.data.toList = some s.data.toList by rw [keyL, if_neg (by simp), low1_f, List.map_id])
        go_enter Tryd.func7, Tryd.ntmps7
        go_wp2
        go_ret2
        exact ⟨ret_sb (by rw [HR.out.1, HE.out]; rfl) (by rw [HR.out.2, HE.out]; rfl), Below.refl _ _⟩
      | true =>
        have HE := Lib.hid (show keyL false true s.data.toList = nat id s.data.toList by rw [keyL, if_pos rfl, low1_f])
        have HN := Lib.hid (fun W => nat_any s W (by omega))
        go_enter Tryd.func7, Tryd.ntmps7
        go_wp2_with fail
        (with_reducible refine (HN.out _).mono ?_)
        rintro e w1 ⟨rfl, hb⟩
        go_wp2
        go_ret2
        exact ⟨ret_sb (by rw [HR.out.1, HE.out]; rfl) (by rw [HR.out.2, HE.out]; rfl), hb⟩
    | true =>
      have HLO := Lib.hid (fun W => lower_any s W (by omega))
      cases n with
      | false =>
        have HE := Lib.hid (show keyL true false s.data.toList = some (s.data.toList.map low) by rw [keyL, if_neg (by simp), low1_t])
        go_enter Tryd.func7, Tryd.ntmps7
        go_wp2_with fail
        (with_reducible refine (HLO.out _).mono ?_)
        rintro e w1 ⟨rfl, hb⟩
        go_wp2
        go_ret2
        exact ⟨ret_sb (by rw [HR.out.1, HE.out]; rfl) (by rw [HR.out.2, HE.out]; rfl), hb⟩
      | true =>
        have HE := Lib.hid (show keyL true true s.data.toList = nat id (s.data.toList.map low) by
          rw [keyL, if_pos rfl, low1_t, nat_map (g := low) (fun b => low_dig b) _ _ (Nat.le_refl _)])
        have HN := Lib.hid (fun W => nat_any (str (s.data.toList.map low)) W (by rw [str_size, List.length_map, size_list]; omega))
        go_enter Tryd.func7, Tryd.ntmps7
        go_wp2_with fail
        (with_reducible refine (HLO.out _).mono ?_)
        rintro e w1 ⟨rfl, hb⟩
        go_wp2_with fail
        (with_reducible refine (HN.out _).mono ?_)
        rintro e w2 ⟨rfl, hb2⟩
        have hb3 := below_step hb hb2
        go_wp2
        go_ret2
        exact ⟨ret_sb (by rw [HR.out.1, HE.out]; rfl) (by rw [HR.out.2, HE.out]; rfl), hb3⟩
end Go.Proofs.YtaeimdcmpjanbaaDoor.col
