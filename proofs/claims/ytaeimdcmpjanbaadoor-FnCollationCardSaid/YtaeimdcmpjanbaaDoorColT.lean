/- The reference's CollationKey. Condition: at most 2^20 bytes. -/
import Derived.Test.YtaeimdcmpjanbaaDoorColS
set_option linter.unusedVariables false
set_option linter.unusedSimpArgs false
namespace Go.Proofs.YtaeimdcmpjanbaaDoor.col
open Go.RowKit Go.Proofs.YtaeimdcmpjanbaaDoor.mem

theorem keyL_nil (f n : Bool) : keyL f n [] = some [] := by unfold keyL; split <;> simp [nat_nil]
theorem keyL_one {f n : Bool} {b : UInt8} {r : List UInt8} (h : n = false ∨ dig b = false) : keyL f n (b :: r) = (keyL f n r).map (low1 f b :: ·) := by
  unfold keyL
  cases n with
  | false => simp
  | true =>
    have hb : dig b = false := by simpa using h
    rw [if_pos rfl, if_pos rfl, nat_no hb]
theorem keyL_num {f : Bool} {b : UInt8} {r : List UInt8} (h : dig b = true) : keyL f true (b :: r) = (enc ((b :: r).takeWhile dig)).bind fun k => (keyL f true ((b :: r).dropWhile dig)).map (k ++ ·) := by
  unfold keyL
  rw [if_pos rfl, if_pos rfl, nat_dig h]
theorem enc_len {D k : List UInt8} (h : enc D = some k) (hD : D ≠ []) : k.length ≤ 2 * D.length := by
  unfold enc at h
  split at h
  · cases h
  · injection h with h
    subst h
    have := dz_len D
    have : 1 ≤ D.length := List.length_pos_iff.2 hD
    simp; omega
theorem low_val {f : Bool} {b : UInt8} : (f = true ∧ 65 ≤ b.toNat ∧ b.toNat ≤ 90 ∧ low1 f b = b + 32 ∧ (b + 32).toNat = b.toNat + 32) ∨ ((f = false ∨ ¬ (65 ≤ b.toNat ∧ b.toNat ≤ 90)) ∧ low1 f b = b) := by
  cases f with
  | false => exact Or.inr ⟨Or.inl rfl, by rw [low1_f]; rfl⟩
  | true =>
    by_cases h : 65 ≤ b.toNat ∧ b.toNat ≤ 90
    · refine Or.inl ⟨rfl, h.1, h.2, by rw [low1_t, low, if_pos h], ?_⟩
      rw [UInt8.toNat_add]; simp; omega
    · exact Or.inr ⟨Or.inr h, by rw [low1_t, low, if_neg h]⟩
theorem drop_while : ∀ l : List UInt8, l.dropWhile dig = l.drop (l.takeWhile dig).length
  | [] => rfl
  | b :: r => by
    rw [List.dropWhile_cons, List.takeWhile_cons]
    split
    · rw [drop_while r]; rfl
    · rfl
theorem drop_span (L : List UInt8) (k : Nat) : (L.drop k).dropWhile dig = L.drop (k + ((L.drop k).takeWhile dig).length) := by
  rw [drop_while, List.drop_drop]
set_option maxRecDepth 100000 in
set_option maxHeartbeats 4000000 in
theorem key_any (s : ByteArray) (f n : Bool) (w : World) (hs : s.size ≤ 1048576) : Calls Tryd.prog 20 #[.string s, .bool f, .bool n] w fun e w' => e = .returned (.tuple #[.string (resS f n s), .bool (resB f n s)]) ∧ Below w.heap.size w w' := by
  by_cases hl : 30 < s.size
  · have HR := Lib.hid (key_long (f := f) (n := n) hl)
    have q1 : (30 : Int) < (s.size : Int) := by omega
    go_enter Tryd.func20, Tryd.ntmps20
    go_wp2
    go_ret2
    exact ⟨ret_sb (by rw [HR.out.1]; rfl) (by rw [HR.out.2]), Below.refl _ _⟩
  · have HR := Lib.hid (key_short (f := f) (n := n) hl)
    have q1 : ¬ (30 : Int) < (s.size : Int) := by omega
    obtain ⟨L, hL⟩ : ∃ L, L = s.data.toList := ⟨_, rfl⟩
    have hLs : L.length = s.size := by rw [hL]; rfl
    rw [← hL] at HR
    have HL := Lib.hid hL
    have HLS := Lib.hid hLs
    clear hL hLs
    go_enter Tryd.func20, Tryd.ntmps20
    go_wp2
    go_loopg [8, 9] (s.size + 1) (fun g o i wr => ∃ (k : Nat) (out : List UInt8), s.size < k + g ∧ k ≤ s.size ∧ i = .int .i64 (k : Int) ∧ o = .string (str out) ∧ keyL f n L = (keyL f n (L.drop k)).map (out ++ ·) ∧ out.length ≤ 2 * k ∧ Below w.heap.size w wr)
    case atStart => exact ⟨0, [], by omega, by omega, rfl, rfl, by simp, by simp, Below.refl _ _⟩
    case round =>
      obtain ⟨k, out, hkf, hk, rfl, rfl, hn, hol, hb⟩ := hrel
      have HN := Lib.hid hn
      have hbs := hb.size
      clear hn
      by_cases hlt : k < s.size
      · have q2 : (k : Int) < (s.size : Int) := by omega
        have HDR := Lib.hid (show L.drop k = s[k] :: L.drop (k + 1) by rw [HL.out]; exact drop_at s hlt)
        by_cases hnd : n = true ∧ dig s[k] = true
        · obtain ⟨rfl, hd⟩ := hnd
          have HDG := Lib.hid (fun W => spec_dig s[k] W)
          rw [hd] at HDG
          have HNU := Lib.hid (fun W => num_any s k W (by omega) hlt hd)
          rw [← HL.out] at HNU
          have HNN := Lib.hid (show keyL f true L = ((enc ((L.drop k).takeWhile dig)).bind fun kk => (keyL f true (L.drop (k + ((L.drop k).takeWhile dig).length))).map (kk ++ ·)).map (out ++ ·) by
            rw [HN.out, ← drop_span]
            conv => lhs; rw [HDR.out]
            rw [keyL_num hd, ← HDR.out])
          have hDl : ((L.drop k).takeWhile dig).length ≤ s.size - k := by
            have h1 := (List.takeWhile_sublist dig (l := L.drop k)).length_le
            rw [List.length_drop, HLS.out] at h1
            exact h1
          have hDn : (L.drop k).takeWhile dig ≠ [] := by rw [HDR.out, List.takeWhile_cons, if_pos hd]; simp
          clear hd
          generalize (L.drop k).takeWhile dig = D at HNU HNN hDl hDn
          go_wp2_with fail
          (with_reducible refine (HDG.out _).mono ?_)
          rintro e w1 ⟨rfl, rfl⟩
          go_wp2_with fail
          (with_reducible refine (HNU.out _).mono ?_)
          rintro e w2 ⟨rfl, hb2⟩
          have hb3 := below_step hb hb2
          cases he : enc D with
          | none =>
            have HRN := Lib.hid (show keyL f true L = none by rw [HNN.out, he]; rfl)
            have hnE : numE D k = -1 := by rw [numE, he]; rfl
            rw [hnE]
            clear he hnE
            go_wp2
            go_ret2
            exact ⟨ret_sb (by rw [HR.out.1, HRN.out]; rfl) (by rw [HR.out.2, HRN.out]; rfl), hb3⟩
          | some kk =>
            have hkk := enc_len he hDn
            have HN3 := Lib.hid (show keyL f true L = (keyL f true (L.drop (k + D.length))).map ((out ++ kk) ++ ·) by
              rw [HNN.out, he, Option.bind_some, map_out])
            have hnE : numE D k = ((k + D.length : Nat) : Int) := by rw [numE, he]; rfl
            have hnS : numS D = str kk := by rw [numS, he]; rfl
            rw [hnE, hnS]
            have HST := Lib.hid (show str out ++ str kk = str (out ++ kk) from str_app _ _)
            have h1s : (str out).size ≤ 60 := by rw [str_size]; omega
            have h2s : (str kk).size ≤ 60 := by rw [str_size]; omega
            have hDp : 1 ≤ D.length := List.length_pos_iff.2 hDn
            obtain ⟨O, hO⟩ : ∃ O, O = str out := ⟨_, rfl⟩
            obtain ⟨K, hK⟩ : ∃ K, K = str kk := ⟨_, rfl⟩
            rw [← hO, ← hK] at HST
            rw [← hO] at h1s ⊢
            rw [← hK] at h2s ⊢
            obtain ⟨e2, he2⟩ : ∃ e2, e2 = k + D.length := ⟨_, rfl⟩
            have hle := (show k < e2 ∧ e2 ≤ s.size ∧ kk.length ≤ 2 * (e2 - k) by omega)
            rw [← he2] at HN3 ⊢
            have hcc : ¬ (9223372036854775807 : Int) < (O.size : Int) + (K.size : Int) := by omega
            have q5 : ¬ (e2 : Int) < 0 := by omega
            clear he hnE hnS hO hK he2 hDn hkk hDl hDp
            go_wp2
            go_roundg (gk - 1)
            case measure => omega
            case rel => exact ⟨e2, out ++ kk, by omega, hle.2.1, rfl, by rw [← HST.out], HN3.out, by rw [List.length_append]; omega, hb3⟩
        · have hor : n = false ∨ dig s[k] = false := by
            cases n with
            | false => exact Or.inl rfl
            | true => exact Or.inr (by simpa using hnd)
          have HN2 := Lib.hid (show keyL f n L = (keyL f n (L.drop (k + 1))).map ((out ++ [low1 f s[k]]) ++ ·) by
            rw [HN.out, HDR.out, keyL_one hor, ← map_out]; rfl)
          have HST := Lib.hid (show str out ++ str [low1 f s[k]] = str (out ++ [low1 f s[k]]) from str_app _ _)
          have h1s : (str out).size ≤ 60 := by rw [str_size]; omega
          have hbt : s[k].toNat < 256 := s[k].toNat_lt
          have HDG := Lib.hid (fun W => spec_dig s[k] W)
          clear hnd
          have hyes : n = true → dig s[k] = false := fun e => by
            rcases hor with h | h
            · rw [e] at h; cases h
            · exact h
          have HLV := low_val (f := f) (b := s[k])
          obtain ⟨b', hb'⟩ : ∃ b', b' = low1 f s[k] := ⟨_, rfl⟩
          rw [← hb'] at HN2 HST HLV
          have hYs : (str [b']).size = 1 := rfl
          obtain ⟨O, hO⟩ : ∃ O, O = str out := ⟨_, rfl⟩
          rw [← hO] at HST h1s ⊢
          have hdg2 : n = true → ∀ W : World, Calls Tryd.prog 34 #[.int .u8 (s[k].toNat : Int)] W fun e w' => e = .returned (.bool false) ∧ W = w' := fun e W => by
            have := HDG.out W
            rwa [hyes e] at this
          have HDG2 := Lib.hid hdg2
          clear hb' hO hor hyes hdg2 HDG
          have hb32 : (s[k] + 32).toNat = s[k].toNat + 32 ∨ True := Or.inr trivial
          rcases HLV with ⟨rfl, h65, h90, hbe, hbv⟩ | ⟨hno, hbe⟩
          · have hX : (s[k].toNat : Int) + 32 = (b'.toNat : Int) := by rw [hbe, hbv]; omega
            have p1 : (65 : Int) ≤ (s[k].toNat : Int) := by omega
            have p2 : (s[k].toNat : Int) ≤ 90 := by omega
            have hw8 : IntKind.u8.wrap ((s[k].toNat : Int) + 32) = (s[k].toNat : Int) + 32 := by simp [IntKind.wrap, IntKind.bits, IntKind.signed]; omega
            clear hbe hbv
            cases n with
            | false =>
              have hcv := run_one (w := wr) ((s[k].toNat : Int) + 32) b' hX
              generalize str [b'] = Y at hcv HST hYs
              have hcc : ¬ (9223372036854775807 : Int) < (O.size : Int) + 1 := by omega
              clear hX
              go_wp2
              go_roundg (gk - 1)
              case measure => omega
              case rel => exact ⟨k + 1, out ++ [b'], by omega, by omega, by go_num, by rw [← HST.out], HN2.out, by simp; omega, hb.alloc hbs _⟩
            | true =>
              have HDGt := Lib.hid (HDG2.out rfl)
              have hcv := run_one (w := wr) ((s[k].toNat : Int) + 32) b' hX
              generalize str [b'] = Y at hcv HST hYs
              have hcc : ¬ (9223372036854775807 : Int) < (O.size : Int) + 1 := by omega
              clear hX
              go_wp2_with fail
              (with_reducible refine (HDGt.out _).mono ?_)
              rintro e w1 ⟨rfl, rfl⟩
              go_wp2
              go_roundg (gk - 1)
              case measure => omega
              case rel => exact ⟨k + 1, out ++ [b'], by omega, by omega, by go_num, by rw [← HST.out], HN2.out, by simp; omega, hb.alloc hbs _⟩
          · have hX : (s[k].toNat : Int) = (b'.toNat : Int) := by rw [hbe]
            have h3 : f = false ∨ (f = true ∧ ¬ 65 ≤ s[k].toNat) ∨ (f = true ∧ 65 ≤ s[k].toNat ∧ ¬ s[k].toNat ≤ 90) := by
              cases f with
              | false => exact Or.inl rfl
              | true =>
                rcases hno with h | h
                · cases h
                · by_cases h1 : 65 ≤ s[k].toNat
                  · exact Or.inr (Or.inr ⟨rfl, h1, fun h2 => h ⟨h1, h2⟩⟩)
                  · exact Or.inr (Or.inl ⟨rfl, h1⟩)
            clear hno hbe
            rcases h3 with rfl | ⟨rfl, h1⟩ | ⟨rfl, h1, h2⟩
            · skip
              cases n with
              | false =>
                have hcv := run_one (w := wr) (s[k].toNat : Int) b' hX
                generalize str [b'] = Y at hcv HST hYs
                have hcc : ¬ (9223372036854775807 : Int) < (O.size : Int) + 1 := by omega
                clear hX
                go_wp2
                go_roundg (gk - 1)
                case measure => omega
                case rel => exact ⟨k + 1, out ++ [b'], by omega, by omega, by go_num, by rw [← HST.out], HN2.out, by simp; omega, hb.alloc hbs _⟩
              | true =>
                have HDGt := Lib.hid (HDG2.out rfl)
                have hcv := run_one (w := wr) (s[k].toNat : Int) b' hX
                generalize str [b'] = Y at hcv HST hYs
                have hcc : ¬ (9223372036854775807 : Int) < (O.size : Int) + 1 := by omega
                clear hX
                go_wp2_with fail
                (with_reducible refine (HDGt.out _).mono ?_)
                rintro e w1 ⟨rfl, rfl⟩
                go_wp2
                go_roundg (gk - 1)
                case measure => omega
                case rel => exact ⟨k + 1, out ++ [b'], by omega, by omega, by go_num, by rw [← HST.out], HN2.out, by simp; omega, hb.alloc hbs _⟩
            · have p1 : ¬ (65 : Int) ≤ (s[k].toNat : Int) := by omega
              have p1d : decide ((65 : Int) ≤ (s[k].toNat : Int)) = false := decide_eq_false p1
              cases n with
              | false =>
                have hcv := run_one (w := wr) (s[k].toNat : Int) b' hX
                generalize str [b'] = Y at hcv HST hYs
                have hcc : ¬ (9223372036854775807 : Int) < (O.size : Int) + 1 := by omega
                clear hX
                go_wp2
                go_roundg (gk - 1)
                case measure => omega
                case rel => exact ⟨k + 1, out ++ [b'], by omega, by omega, by go_num, by rw [← HST.out], HN2.out, by simp; omega, hb.alloc hbs _⟩
              | true =>
                have HDGt := Lib.hid (HDG2.out rfl)
                have hcv := run_one (w := wr) (s[k].toNat : Int) b' hX
                generalize str [b'] = Y at hcv HST hYs
                have hcc : ¬ (9223372036854775807 : Int) < (O.size : Int) + 1 := by omega
                clear hX
                go_wp2_with fail
                (with_reducible refine (HDGt.out _).mono ?_)
                rintro e w1 ⟨rfl, rfl⟩
                go_wp2
                go_roundg (gk - 1)
                case measure => omega
                case rel => exact ⟨k + 1, out ++ [b'], by omega, by omega, by go_num, by rw [← HST.out], HN2.out, by simp; omega, hb.alloc hbs _⟩
            · have p1 : (65 : Int) ≤ (s[k].toNat : Int) := by omega
              have p2 : ¬ (s[k].toNat : Int) ≤ 90 := by omega
              have p2d : decide ((s[k].toNat : Int) ≤ 90) = false := decide_eq_false p2
              cases n with
              | false =>
                have hcv := run_one (w := wr) (s[k].toNat : Int) b' hX
                generalize str [b'] = Y at hcv HST hYs
                have hcc : ¬ (9223372036854775807 : Int) < (O.size : Int) + 1 := by omega
                clear hX
                go_wp2
                go_roundg (gk - 1)
                case measure => omega
                case rel => exact ⟨k + 1, out ++ [b'], by omega, by omega, by go_num, by rw [← HST.out], HN2.out, by simp; omega, hb.alloc hbs _⟩
              | true =>
                have HDGt := Lib.hid (HDG2.out rfl)
                have hcv := run_one (w := wr) (s[k].toNat : Int) b' hX
                generalize str [b'] = Y at hcv HST hYs
                have hcc : ¬ (9223372036854775807 : Int) < (O.size : Int) + 1 := by omega
                clear hX
                go_wp2_with fail
                (with_reducible refine (HDGt.out _).mono ?_)
                rintro e w1 ⟨rfl, rfl⟩
                go_wp2
                go_roundg (gk - 1)
                case measure => omega
                case rel => exact ⟨k + 1, out ++ [b'], by omega, by omega, by go_num, by rw [← HST.out], HN2.out, by simp; omega, hb.alloc hbs _⟩
      · have q2 : ¬ (k : Int) < (s.size : Int) := by omega
        have HRN := Lib.hid (show keyL f n L = some out by
          rw [HN.out, List.drop_of_length_le (by rw [HLS.out]; omega), keyL_nil]; simp)
        go_wp2
        go_ret2
        exact ⟨ret_sb (by rw [HR.out.1, HRN.out]; rfl) (by rw [HR.out.2, HRN.out]; rfl), hb⟩
set_option maxRecDepth 100000 in
set_option maxHeartbeats 400000 in
theorem colS_any (s : ByteArray) (f n : Bool) (w : World) (hs : s.size ≤ 1048576) : Calls Tryd.prog 6 #[.string s, .bool f, .bool n] w fun e w' => e = .returned (.tuple #[.string (resS f n s), .bool (resB f n s)]) ∧ Below w.heap.size w w' := by
  have HK := Lib.hid (key_any s f n w hs)
  go_enter Tryd.func6, Tryd.ntmps6
  go_wp2_with fail
  (with_reducible refine HK.out.mono ?_)
  rintro e w1 ⟨rfl, hb⟩
  go_wp2
  go_ret2
  exact ⟨rfl, hb⟩
end Go.Proofs.YtaeimdcmpjanbaaDoor.col
