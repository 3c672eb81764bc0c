/- The reference's collation keys. Condition: at most 2^20 bytes. -/
import Derived.Test.YtaeimdcmpjanbaaDoorColK
import Derived.Deep.RegionLaw
set_option linter.unusedVariables false
set_option linter.unusedSimpArgs false
namespace Go.Proofs.YtaeimdcmpjanbaaDoor.col
open Go.RowKit Go.Proofs.YtaeimdcmpjanbaaDoor.mem

/-- bytes from p on up to e -/
def mid (L : List UInt8) (p e : Nat) : List UInt8 := (L.take e).drop p
theorem mid_len {L : List UInt8} {p e : Nat} (h : e ≤ L.length) : (mid L p e).length = e - p := by
  rw [mid, List.length_drop, List.length_take]; omega
theorem mid_cons {L : List UInt8} {p e : Nat} (h : e ≤ L.length) (hp : p < e) : mid L p e = L[p] :: mid L (p + 1) e := by
  unfold mid
  have hl : p < (L.take e).length := by rw [List.length_take]; omega
  rw [List.drop_eq_getElem_cons hl, List.getElem_take]
theorem dz_stop1 {L : List UInt8} {p e : Nat} (h : e ≤ L.length) (hp : p + 1 = e) : dz (mid L p e) = mid L p e := by
  have h1 := mid_cons h (show p < e by omega)
  have h2 : mid L (p + 1) e = [] := List.eq_nil_of_length_eq_zero (by rw [mid_len h]; omega)
  rw [h1, h2]; rfl
theorem dz_stop2 {L : List UInt8} {p e : Nat} (h : e ≤ L.length) (hp : p + 1 < e) (hn : L[p] ≠ 48) : dz (mid L p e) = mid L p e := by
  rw [mid_cons h (show p < e by omega), mid_cons h hp, dz, if_neg hn]
theorem dz_next {L : List UInt8} {p e : Nat} (h : e ≤ L.length) (hp : p + 1 < e) (hn : L[p] = 48) : dz (mid L p e) = dz (mid L (p + 1) e) := by
  rw [mid_cons h (show p < e by omega), mid_cons h hp, dz, if_pos hn]
/-- what l22Number answers on the digits D that begin at i -/
def numS (D : List UInt8) : ByteArray := str ((enc D).getD [])
def numE (D : List UInt8) (i : Nat) : Int := if (enc D).isSome then ((i + D.length : Nat) : Int) else -1
theorem ret_si {a b : ByteArray} {p q : Int} (h : a = b) (k : p = q) : Ending.returned (.tuple #[.string a, .int .i64 p]) = .returned (.tuple #[.string b, .int .i64 q]) := by rw [h, k]
theorem run_one {w : World} (x : Int) (b : UInt8) (hx : x = (b.toNat : Int)) : (convert 32 9 (.slice (some ⟨w.heap.size, 0, none⟩) 1 1)).run Tryd.prog (w.alloc (.cells #[.int .u8 x] 5)) = .ok (.string (str [b])) (w.alloc (.cells #[.int .u8 x] 5)) := by
  subst hx
  exact run_convert_bytes_back (P := Tryd.prog) (w.alloc (.cells #[.int .u8 (b.toNat : Int)] 5)) 32 9 5 ⟨w.heap.size, 0, none⟩ 1 [b] Tryd.underlying32 Tryd.underlying5 Tryd.underlying9 (fun j hj => by
    obtain rfl : j = 0 := by simp at hj; omega
    have e1 : (⟨w.heap.size, 0, none⟩ : Addr).add 0 = ⟨w.heap.size, 0, none⟩ := by simp [Addr.add]
    rw [e1, (Blk.new w 5 #[.int .u8 (b.toNat : Int)]).cell]
    rfl)
theorem run_one2 {w : World} (x : Int) (b : UInt8) (hx : x = (b.toNat : Int)) : (convert 32 9 (.slice (some ⟨w.heap.size, 0, none⟩) 1 1)).run Tryd.prog (w.alloc (.cells #[.int .u8 x] 5)).drew = .ok (.string (str [b])) (w.alloc (.cells #[.int .u8 x] 5)).drew := by
  subst hx
  exact run_convert_bytes_back (P := Tryd.prog) (w.alloc (.cells #[.int .u8 (b.toNat : Int)] 5)).drew 32 9 5 ⟨w.heap.size, 0, none⟩ 1 [b] Tryd.underlying32 Tryd.underlying5 Tryd.underlying9 (fun j hj => by
    obtain rfl : j = 0 := by simp at hj; omega
    have e1 : (⟨w.heap.size, 0, none⟩ : Addr).add 0 = ⟨w.heap.size, 0, none⟩ := by simp [Addr.add]
    rw [e1, (Blk.new w 5 #[.int .u8 (b.toNat : Int)]).drew.cell]
    rfl)
set_option maxRecDepth 100000 in
set_option maxHeartbeats 4000000 in
theorem num_any (s : ByteArray) (i : Nat) (w : World) (hs : s.size ≤ 1000) (hi : i < s.size) (hdi : dig s[i] = true) : Calls Tryd.prog 35 #[.string s, .int .i64 (i : Int)] w fun e w' => e = .returned (.tuple #[.string (numS ((s.data.toList.drop i).takeWhile dig)), .int .i64 (numE ((s.data.toList.drop i).takeWhile dig) i)]) ∧ Below w.heap.size w w' := by
  obtain ⟨L, hL⟩ : ∃ L, L = s.data.toList := ⟨_, rfl⟩
  have hLs : L.length = s.size := by rw [hL]; rfl
  rw [← hL]
  have HL := Lib.hid hL
  have HLS := Lib.hid hLs
  have HD0 := Lib.hid hdi
  have HAT := Lib.hid (show ∀ j (h : j < s.size), L[j]'(by rw [HLS.out]; exact h) = s[j] from fun j h => by simp only [hL]; rfl)
  clear hL hLs hdi
  go_enter Tryd.func35, Tryd.ntmps35
  go_wp2
  go_loopg [6] (s.size + 1) (fun f m wr => ∃ j : Nat, s.size < j + f ∧ i ≤ j ∧ j ≤ s.size ∧ m = .int .i64 (j : Int) ∧ (∀ x ∈ (L.drop i).take (j - i), dig x = true) ∧ Below w.heap.size w wr)
  case atStart => exact ⟨i, by omega, by omega, by omega, rfl, by simp, Below.refl _ _⟩
  case round =>
    obtain ⟨j, hjf, hkj, hj, rfl, hall, hb⟩ := hrel
    have HALL := Lib.hid hall
    clear hall
    by_cases hmore : ∃ h : j < s.size, dig s[j] = true
    · obtain ⟨hjl, hdj⟩ := hmore
      have q2 : (j : Int) < (s.size : Int) := by omega
      have HDJ := Lib.hid (fun W => spec_dig s[j] W)
      rw [hdj] at HDJ
      have HA2 := Lib.hid (show ∀ x ∈ (L.drop i).take (j + 1 - i), dig x = true from fun x hx => by
        have hjk : j - i < (L.drop i).length := by rw [List.length_drop, HLS.out]; omega
        rw [show j + 1 - i = (j - i) + 1 by omega, List.take_succ_eq_append_getElem hjk] at hx
        rcases List.mem_append.1 hx with h1 | h1
        · exact HALL.out x h1
        · obtain rfl := List.mem_singleton.1 h1
          rw [List.getElem_drop]
          have : L[i + (j - i)]'(by rw [HLS.out]; omega) = s[j] := by
            have e : i + (j - i) = j := by omega
            simp only [e]; exact HAT.out j hjl
          rw [this]; exact hdj)
      clear hdj
      go_wp2_with fail
      (with_reducible refine (HDJ.out _).mono ?_)
      rintro e w2 ⟨rfl, rfl⟩
      go_wp2
      go_roundg (gk - 1)
      case measure => omega
      case rel => exact ⟨j + 1, by omega, by omega, by omega, by go_num, HA2.out, hb⟩
    · have hkj2 : i < j := by
        rcases Nat.lt_or_ge i j with h | h
        · exact h
        · obtain rfl : j = i := by omega
          exact absurd ⟨hi, HD0.out⟩ hmore
      have HSP := Lib.hid (show (L.drop i).takeWhile dig = mid L i j from by
        rw [(span_at (l := L.drop i) (d := j - i) HALL.out (fun h => by
          have hj2 : j < s.size := by rw [List.length_drop, HLS.out] at h; omega
          rw [List.getElem_drop]
          have : L[i + (j - i)]'(by rw [HLS.out]; omega) = s[j] := by
            have e : i + (j - i) = j := by omega
            simp only [e]; exact HAT.out j hj2
          rw [this]
          cases hx : dig s[j] with
          | false => rfl
          | true => exact absurd ⟨hj2, hx⟩ hmore) (by rw [List.length_drop, HLS.out]; omega)).1, mid, List.drop_take])
      have hex : (∃ h : j < s.size, dig s[j] = false) ∨ j = s.size := by
        rcases Nat.lt_or_ge j s.size with h | h
        · left
          refine ⟨h, ?_⟩
          cases hx : dig s[j] with
          | false => rfl
          | true => exact absurd ⟨h, hx⟩ hmore
        · right; omega
      clear hmore HALL
      have HLE := Lib.hid (show j ≤ L.length by rw [HLS.out]; exact hj)
      obtain ⟨wo, hwo⟩ : ∃ wo : World, wo = wr := ⟨_, rfl⟩
      rw [← hwo] at hb ⊢
      clear hwo
      rcases hex with ⟨hjl, hdj⟩ | hje
      focus
        have q2 : (j : Int) < (s.size : Int) := by omega
        have HDJ := Lib.hid (fun W => spec_dig s[j] W)
        rw [hdj] at HDJ
        clear hdj
        go_wp2_with fail
        (with_reducible refine (HDJ.out _).mono ?_)
        rintro e w2 ⟨rfl, rfl⟩
        go_wp2_with fail
      rotate_left
      focus
        have q2 : ¬ (j : Int) < (s.size : Int) := by omega
        have q2d : decide ((j : Int) < (s.size : Int)) = false := decide_eq_false q2
        have q2n : decide (j < s.size) = false := decide_eq_false (by omega)
        clear hje
        go_wp2_with fail
      all_goals
        go_loopg [1] (s.size + 1) (fun f p wr => ∃ m : Nat, j < m + f ∧ i ≤ m ∧ m < j ∧ p = .int .i64 (m : Int) ∧ dz (mid L i j) = dz (mid L m j) ∧ wo = wr)
        case atStart => exact ⟨i, by omega, by omega, by omega, rfl, rfl, rfl⟩
        case round =>
          obtain ⟨m, hmf, him, hmj, rfl, hdz, rfl⟩ := hrel
          have HZ := Lib.hid hdz
          clear hdz
          have hms : m < s.size := by omega
          have HBM := Lib.hid (show (L[m]'(by rw [HLS.out]; exact hms)) = s[m] from HAT.out m hms)
          have hbt : s[m].toNat < 256 := s[m].toNat_lt
          by_cases hgo : m + 1 < j ∧ s[m] = 48
          · obtain ⟨h1, h2⟩ := hgo
            have q5 : (m : Int) < (j : Int) - 1 := by omega
            have q6 : ((s[m].toNat : Int) == 48) = true := by rw [h2]; rfl
            have HZ2 := Lib.hid (show dz (mid L i j) = dz (mid L (m + 1) j) by rw [HZ.out, dz_next HLE.out h1 (by rw [HBM.out]; exact h2)])
            clear h2
            go_wp2
            go_roundg (gk - 1)
            case measure => omega
            case rel => exact ⟨m + 1, by omega, by omega, by omega, by go_num, HZ2.out, rfl⟩
          · have HZ2 := Lib.hid (show dz (mid L i j) = mid L m j by
              rw [HZ.out]
              by_cases h1 : m + 1 < j
              · exact dz_stop2 HLE.out h1 (fun h => hgo ⟨h1, by rw [← HBM.out]; exact h⟩)
              · exact dz_stop1 HLE.out (by omega))
            have hex2 : (m + 1 < j ∧ s[m] ≠ 48) ∨ ¬ m + 1 < j := by
              by_cases h1 : m + 1 < j
              · exact Or.inl ⟨h1, fun h => hgo ⟨h1, h⟩⟩
              · exact Or.inr h1
            clear hgo
            have HML := Lib.hid (mid_len (L := L) (p := m) HLE.out)
            by_cases h9 : 9 < j - m
            · have q7 : (9 : Int) < (j : Int) - (m : Int) := by omega
              have HR := Lib.hid (show enc (mid L i j) = none by rw [enc, HZ2.out, HML.out, if_pos h9])
              rcases hex2 with ⟨h1, h2⟩ | h1
              · have q5 : (m : Int) < (j : Int) - 1 := by omega
                have q6 : ((s[m].toNat : Int) == 48) = false := by
                  rw [beq_eq_false_iff_ne]; intro h; exact h2 (UInt8.toNat_inj.1 (show s[m].toNat = (48 : UInt8).toNat by
                    have : (48 : UInt8).toNat = 48 := rfl
                    omega))
                clear h2
                go_wp2
                go_ret2
                exact ⟨ret_si (by rw [HSP.out, numS, HR.out]; rfl) (by rw [HSP.out, numE, HR.out]; rfl), hb⟩
              · have q5 : ¬ (m : Int) < (j : Int) - 1 := by omega
                have q5d : decide ((m : Int) < (j : Int) - 1) = false := decide_eq_false q5
                go_wp2
                go_ret2
                exact ⟨ret_si (by rw [HSP.out, numS, HR.out]; rfl) (by rw [HSP.out, numE, HR.out]; rfl), hb⟩
            · have q7 : ¬ (9 : Int) < (j : Int) - (m : Int) := by omega
              obtain ⟨d, hd⟩ : ∃ d, d = j - m := ⟨_, rfl⟩
              have hbd : (UInt8.ofNat (48 + d)).toNat = 48 + d := by
                rw [UInt8.toNat_ofNat']; omega
              obtain ⟨b', hb'⟩ : ∃ b', b' = UInt8.ofNat (48 + d) := ⟨_, rfl⟩
              rw [← hb'] at hbd
              have HEC := Lib.hid (show enc (mid L i j) = some (b' :: mid L m j) by rw [enc, HZ2.out, HML.out, if_neg h9, ← hd, ← hb'])
              have HST := Lib.hid (show str [b'] ++ s.extract m j = str (b' :: mid L m j) by rw [str_ext, str_app, ← HL.out]; rfl)
              have HE2 := Lib.hid (show numE (mid L i j) i = (j : Int) by rw [numE, HEC.out, Option.isSome_some, if_pos rfl, mid_len HLE.out]; omega)
              have hX : IntKind.u8.wrap (IntKind.i64.wrap (IntKind.i64.wrap (48 + (j : Int)) - (m : Int))) = (b'.toNat : Int) := by
                rw [hbd, IntWalk.i64_in (48 + (j : Int)) (by omega), IntWalk.i64_in (48 + (j : Int) - (m : Int)) (by omega)]
                simp [IntKind.wrap, IntKind.bits, IntKind.signed]; omega
              have hcv := run_one2 (w := wo) _ b' hX
              have hsl := fun W => run_sub s m j (m : Int) (j : Int) rfl rfl (by omega) hj W
              have hYs : (str [b']).size = 1 := rfl
              have hEs : (s.extract m j).size ≤ 9 := by rw [ByteArray.size_extract]; omega
              generalize str [b'] = Y at hcv HST hYs
              generalize s.extract m j = E at hsl HST hEs
              have hcc : ¬ (9223372036854775807 : Nat) < 1 + E.size := by omega
              have HALLF := Lib.hid (And.intro hcv (And.intro hYs hcc))
              have HBD := Lib.hid (show Below w.heap.size w (wo.alloc (.cells #[.int .u8 (IntKind.u8.wrap (IntKind.i64.wrap (IntKind.i64.wrap (48 + (j : Int)) - (m : Int))))] 5)).drew from below_drewN (hb.alloc hb.size _) 1)
              clear hd hb' hbd hcv hYs hcc h9 hX
              rcases hex2 with ⟨h1, h2⟩ | h1
              · have q5 : (m : Int) < (j : Int) - 1 := by omega
                have q6 : ((s[m].toNat : Int) == 48) = false := by
                  rw [beq_eq_false_iff_ne]; intro h; exact h2 (UInt8.toNat_inj.1 (show s[m].toNat = (48 : UInt8).toNat by
                    have : (48 : UInt8).toNat = 48 := rfl
                    omega))
                clear h2
                go_wp2_with fail
                obtain ⟨hcv, hYs, hcc⟩ := HALLF.out
                go_region_law fail
                go_wp2
                go_ret2
                exact ⟨ret_si (by rw [HSP.out, numS, HEC.out, Option.getD_some, ← HST.out]) (by rw [HSP.out, HE2.out]), HBD.out⟩
              · have q5 : ¬ (m : Int) < (j : Int) - 1 := by omega
                have q5d : decide ((m : Int) < (j : Int) - 1) = false := decide_eq_false q5
                go_wp2_with fail
                obtain ⟨hcv, hYs, hcc⟩ := HALLF.out
                go_region_law fail
                go_wp2
                go_ret2
                exact ⟨ret_si (by rw [HSP.out, numS, HEC.out, Option.getD_some, ← HST.out]) (by rw [HSP.out, HE2.out]), HBD.out⟩
end Go.Proofs.YtaeimdcmpjanbaaDoor.col
