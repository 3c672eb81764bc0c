/- Numbers in collation keys, the program's natural. Condition: at most 1000 bytes. -/
import Derived.Test.YtaeimdcmpjanbaaDoorColI
import Derived.Deep.DeepCutAuto
import Derived.Deep.CutBlock
set_option linter.unusedVariables false
set_option linter.unusedSimpArgs false
namespace Go.Proofs.YtaeimdcmpjanbaaDoor.col
open Go.RowKit Go.Proofs.YtaeimdcmpjanbaaDoor.mem

theorem drop_at (s : ByteArray) {k : Nat} (h : k < s.size) : s.data.toList.drop k = s[k] :: s.data.toList.drop (k + 1) := by
  rw [List.drop_eq_getElem_cons (i := k) (show k < s.data.toList.length from h)]
  rfl
theorem map_out (o : Option (List UInt8)) (out k : List UInt8) : ((o.map (k ++ ·)).map (out ++ ·)) = o.map ((out ++ k) ++ ·) := by
  cases o <;> simp
/-- digits from k on up to m, and no digit at m: the span -/
theorem span_at {l : List UInt8} {d : Nat} (h1 : ∀ x ∈ l.take d, dig x = true) (h2 : ∀ h : d < l.length, dig l[d] = false) (hd : d ≤ l.length) : l.takeWhile dig = l.take d ∧ l.dropWhile dig = l.drop d := by
  induction l generalizing d with
  | nil => simp
  | cons b r ih =>
    cases d with
    | zero =>
      have := h2 (by simp)
      simp at this
      simp [List.takeWhile_cons, List.dropWhile_cons, this]
    | succ d =>
      have hb := h1 b (by simp)
      have := ih (d := d) (fun x hx => h1 x (by simp [hx])) (fun h => by have := h2 (by simp; omega); simpa using this) (by simp at hd; omega)
      simp [List.takeWhile_cons, List.dropWhile_cons, hb, this.1, this.2]
theorem enc8 : ∀ d : Nat, d ≤ 9 → Utf8.encode (48 + (d : Int)) = str [UInt8.ofNat (48 + d)]
  | 0, _ => rfl
  | 1, _ => rfl
  | 2, _ => rfl
  | 3, _ => rfl
  | 4, _ => rfl
  | 5, _ => rfl
  | 6, _ => rfl
  | 7, _ => rfl
  | 8, _ => rfl
  | 9, _ => rfl
  | d + 10, h => by omega
def nB (l : List UInt8) : Bool := (nat id l).isSome
def nS (l : List UInt8) : ByteArray := str ((nat id l).getD [])
theorem ret_sb {a b : ByteArray} {p q : Bool} (h : a = b) (k : p = q) : Ending.returned (.tuple #[.string a, .bool p]) = .returned (.tuple #[.string b, .bool q]) := by rw [h, k]
set_option maxRecDepth 100000 in
set_option maxHeartbeats 4000000 in
theorem nat_any (s : ByteArray) (w : World) (hs : s.size ≤ 1000) : Calls Tryd.prog 22 #[.string s] w fun e w' => e = .returned (.tuple #[.string (nS s.data.toList), .bool (nB s.data.toList)]) ∧ Below w.heap.size w w' := by
  obtain ⟨L, hL⟩ : ∃ L, L = s.data.toList := ⟨_, rfl⟩
  have hLs : L.length = s.size := by rw [hL]; rfl
  rw [← hL]
  have HL := Lib.hid hL
  have HLS := Lib.hid hLs
  have HT := Lib.hid (fun (a b : Nat) (W : World) (h : a < b) (h2 : b ≤ s.size) => trim_any (s.extract a b) W (by rw [ByteArray.size_extract]; omega) (by rw [ByteArray.size_extract]; omega))
  clear hL hLs
  go_enter Tryd.func22, Tryd.ntmps22
  go_wp2
  go_loopg [4, 5] (s.size + 1) (fun f o i wr => ∃ (k : Nat) (out : List UInt8), s.size < k + f ∧ k ≤ s.size ∧ i = .int .i64 (k : Int) ∧ o = .string (str out) ∧ nat id L = (nat id (L.drop k)).map (out ++ ·) ∧ out.length ≤ 2 * k ∧ Below w.heap.size w wr)
  case atStart => exact ⟨0, [], by omega, by omega, rfl, rfl, by simp, by simp, Below.refl _ _⟩
  case round =>
    obtain ⟨k, out, hkf, hk, rfl, rfl, hn, hol, hb⟩ := hrel
    have HN := Lib.hid hn
    clear hn
    by_cases hlt : k < s.size
    · have q1 : (k : Int) < (s.size : Int) := by omega
      have HDR := Lib.hid (show L.drop k = s[k] :: L.drop (k + 1) by rw [HL.out]; exact drop_at s hlt)
      have HDG := Lib.hid (fun W => impl_dig s[k] W)
      cases hd : dig s[k] with
      | false =>
        have HX := Lib.hid (show str out ++ s.extract k (k + 1) = str (out ++ [s[k]]) by
          rw [str_ext, str_app]
          congr 2
          have : s.data.toList.take (k + 1) = s.data.toList.take k ++ [s[k]] := List.take_succ_eq_append_getElem (show k < s.data.toList.length from hlt)
          rw [this, List.drop_append_of_le_length (by rw [List.length_take, size_list]; omega), List.drop_of_length_le (by rw [List.length_take]; omega)]
          rfl)
        have HN2 := Lib.hid (show nat id L = (nat id (L.drop (k + 1))).map ((out ++ [s[k]]) ++ ·) by
          rw [HN.out, HDR.out, nat_no hd, ← map_out]; rfl)
        rw [hd] at HDG
        clear hd
        have hsl := fun W => run_sub s k (k + 1) (k : Int) ((k : Int) + 1) rfl (by omega) (by omega) (by omega) W
        have hEs : (s.extract k (k + 1)).size ≤ 1000 := by rw [ByteArray.size_extract]; omega
        have hOs : (str out).size ≤ 2000 := by rw [str_size]; omega
        obtain ⟨O, hO⟩ : ∃ O, O = str out := ⟨_, rfl⟩
        rw [← hO] at HX hOs ⊢
        generalize s.extract k (k + 1) = E at hsl hEs HX
        have hcc : ¬ (9223372036854775807 : Int) < (O.size : Int) + (E.size : Int) := by omega
        clear hO
        go_wp2_with fail
        (with_reducible refine (HDG.out _).mono ?_)
        rintro e w1 ⟨rfl, rfl⟩
        go_wp2
        go_roundg (gk - 1)
        case measure => omega
        case rel => exact ⟨k + 1, out ++ [s[k]], by omega, by omega, by go_num, by rw [← HX.out], HN2.out, by simp; omega, hb⟩
      | true =>
        rw [hd] at HDG
        have HD0 := Lib.hid hd
        clear hd
        obtain ⟨gO, hgO⟩ : ∃ gO, gO = gk := ⟨_, rfl⟩
        have HGO := Lib.hid (And.intro hkf hgO)
        have HB := Lib.hid hb
        clear hkf hgO hb
        go_wp2_with fail
        (with_reducible refine (HDG.out _).mono ?_)
        rintro e w1 ⟨rfl, rfl⟩
        go_wp2
        go_loopg [6] (s.size + 1) (fun f m wr => ∃ j : Nat, s.size < j + f ∧ k ≤ j ∧ j ≤ s.size ∧ m = .int .i64 (j : Int) ∧ (∀ x ∈ (L.drop k).take (j - k), dig x = true) ∧ Below w.heap.size w wr)
        case atStart => exact ⟨k, by omega, by omega, by omega, rfl, by simp, HB.out⟩
        case round =>
          obtain ⟨j, hjf, hkj, hj, rfl, hall, hb⟩ := hrel
          have HALL := Lib.hid hall
          clear hall
          by_cases hmore : ∃ h : j < s.size, dig s[j] = true
          · obtain ⟨hjl, hdj⟩ := hmore
            have q2 : (j : Int) < (s.size : Int) := by omega
            have HDJ := Lib.hid (fun W => impl_dig s[j] W)
            rw [hdj] at HDJ
            have HA2 := Lib.hid (show ∀ x ∈ (L.drop k).take (j + 1 - k), dig x = true from fun x hx => by
              have hjk : j - k < (L.drop k).length := by rw [List.length_drop, HLS.out]; omega
              rw [show j + 1 - k = (j - k) + 1 by omega, List.take_succ_eq_append_getElem hjk] at hx
              rcases List.mem_append.1 hx with h1 | h1
              · exact HALL.out x h1
              · obtain rfl := List.mem_singleton.1 h1
                rw [List.getElem_drop]
                have : L[k + (j - k)]'(by rw [HLS.out]; omega) = s[j] := by
                  have e : k + (j - k) = j := by omega
                  simp only [e, HL.out]; rfl
                rw [this]; exact hdj)
            clear hdj
            go_wp2_with fail
            (with_reducible refine (HDJ.out _).mono ?_)
            rintro e w2 ⟨rfl, rfl⟩
            go_wp2
            go_roundg (gk - 1)
            case measure => omega
            case rel => exact ⟨j + 1, by omega, by omega, by omega, by go_num, HA2.out, hb⟩
          · have hkj2 : k < j := by
              rcases Nat.lt_or_ge k j with h | h
              · exact h
              · obtain rfl : j = k := by omega
                exact absurd ⟨hlt, HD0.out⟩ hmore
            have HSP := Lib.hid (span_at (l := L.drop k) (d := j - k) HALL.out (fun h => by
              have hj2 : j < s.size := by rw [List.length_drop, HLS.out] at h; omega
              rw [List.getElem_drop]
              have : L[k + (j - k)]'(by rw [HLS.out]; omega) = s[j] := by
                have e : k + (j - k) = j := by omega
                simp only [e, HL.out]; rfl
              rw [this]
              cases hx : dig s[j] with
              | false => rfl
              | true => exact absurd ⟨hj2, hx⟩ hmore) (by rw [List.length_drop, HLS.out]; omega))
            have HEX := Lib.hid (show (s.extract k j).data.toList = (L.drop k).take (j - k) by rw [str_ext, list_str, HL.out, List.drop_take])
            have HTJ := Lib.hid (fun W => HT.out k j W hkj2 hj)
            rw [HEX.out] at HTJ
            obtain ⟨D, hD⟩ : ∃ D, D = (L.drop k).take (j - k) := ⟨_, rfl⟩
            rw [← hD] at HSP HTJ
            have HDL := Lib.hid (show D.length = j - k by rw [hD, List.length_take, List.length_drop, HLS.out]; omega)
            have hDn : D ≠ [] := fun e => by have := HDL.out; rw [e] at this; simp at this; omega
            have HDN := Lib.hid (And.intro (dz_trim hDn) (dz_len D))
            have HDD := Lib.hid (show (L.drop k).dropWhile dig = L.drop j by rw [HSP.out.2, List.drop_drop]; congr 1; omega)
            have HNN := Lib.hid (show nat id L = ((enc D).bind fun kk => (nat id (L.drop j)).map (kk ++ ·)).map (out ++ ·) by
              rw [HN.out, HDR.out, nat_dig HD0.out, ← HDR.out, HSP.out.1, HDD.out])
            clear hD hDn HALL
            have hex : (∃ h : j < s.size, dig s[j] = false) ∨ j = s.size := by
              rcases Nat.lt_or_ge j s.size with h | h
              · left
                refine ⟨h, ?_⟩
                cases hx : dig s[j] with
                | false => rfl
                | true => exact absurd ⟨h, hx⟩ hmore
              · right; omega
            clear hmore
            generalize hZ : D.dropWhile (· == 48) = Z at HTJ HDN
            clear hZ
            have q9 : (k : Int) ≤ (j : Int) := by omega
            have q10 : (j : Int) ≤ (s.size : Int) := by omega
            have hOs : (str out).size ≤ 2000 := by rw [str_size]; omega
            rcases hex with ⟨hjl, hdj⟩ | hje
            focus
              have q2 : (j : Int) < (s.size : Int) := by omega
              have HDJ := Lib.hid (fun W => impl_dig s[j] W)
              rw [hdj] at HDJ
              clear hdj
              go_wp2_with fail
              (with_reducible refine (HDJ.out _).mono ?_)
              rintro e w2 ⟨rfl, rfl⟩
              go_wp2_with fail
            rotate_left
            focus
              have q2 : ¬ (j : Int) < (s.size : Int) := by omega
              have q2d : decide ((j : Int) < (s.size : Int)) = false := decide_eq_false q2
              have q2n : decide (j < s.size) = false := decide_eq_false (by omega)
              clear hje
              go_wp2_with fail
            all_goals
              (with_reducible refine (HTJ.out _).mono ?_)
              rintro e w5 ⟨rfl, hb5⟩
              have hb6 := below_step hb hb5
              have hzl : (str Z).toList = Z := by rw [ByteArray.toList_eq]; rfl
              by_cases hz : Z = []
              · have hze : (str Z).toList = [] := by rw [hzl]; exact hz
                have hzi : (str Z).toList.isEmpty = true := by rw [hze]; rfl
                have hen : Utf8.encode 49 = str [49] := rfl
                have HDZ := Lib.hid (show dz D = [48] by rw [HDN.out.1, if_pos hz])
                have HN3 := Lib.hid (show nat id L = (nat id (L.drop j)).map ((out ++ [49, 48]) ++ ·) by
                  rw [HNN.out, enc, HDZ.out, if_neg (by decide), Option.bind_some, map_out]; rfl)
                have HST := Lib.hid (show str out ++ (str [49] ++ { data := #[48] }) = str (out ++ [49, 48]) by
                  rw [show ({ data := #[48] } : ByteArray) = str [48] from rfl, str_app, str_app]; rfl)
                obtain ⟨O, hO⟩ : ∃ O, O = str out := ⟨_, rfl⟩
                rw [← hO] at HST hOs ⊢
                have h1s : ({ data := #[48] } : ByteArray).size = 1 := rfl
                have h2s : (str [49]).size = 1 := rfl
                have h3s : (str [49] ++ { data := #[48] }).size = 2 := rfl
                have hcc : ¬ (9223372036854775807 : Int) < (O.size : Int) + 2 := by omega
                clear hz hzl hO
                go_wp2
                go_roundg (gO - 1)
                case measure => have := HGO.out; omega
                case rel => exact ⟨j, out ++ [49, 48], by have := HGO.out; omega, hj, rfl, by rw [← HST.out], HN3.out, by simp; omega, hb6⟩
              · have hze : ¬ (str Z).toList = [] := by rw [hzl]; exact hz
                have hzi : (str Z).toList.isEmpty = false := by simpa using hze
                have hzs : (str Z).size = Z.length := str_size Z
                have HDZ := Lib.hid (show dz D = Z by rw [HDN.out.1, if_neg hz])
                by_cases h9 : 9 < Z.length
                · have q20 : (9 : Int) < (Z.length : Int) := by omega
                  have HR := Lib.hid (show nat id L = none by rw [HNN.out, enc, HDZ.out, if_pos h9]; rfl)
                  clear hz hzl
                  go_wp2
                  go_ret2
                  exact ⟨ret_sb (by rw [nS, HR.out]; rfl) (by rw [nB, HR.out]; rfl), hb6⟩
                · have q20 : ¬ (9 : Int) < (Z.length : Int) := by omega
                  have hen := enc8 Z.length (by omega)
                  have HN3 := Lib.hid (show nat id L = (nat id (L.drop j)).map ((out ++ (UInt8.ofNat (48 + Z.length) :: Z)) ++ ·) by
                    rw [HNN.out, enc, HDZ.out, if_neg h9, Option.bind_some, map_out])
                  have HST := Lib.hid (show str out ++ (str [UInt8.ofNat (48 + Z.length)] ++ str Z) = str (out ++ (UInt8.ofNat (48 + Z.length) :: Z)) by
                    rw [str_app, str_app]; rfl)
                  have hZl : Z.length ≤ j - k := by have h1 := HDN.out.2; have h2 := HDL.out; rw [HDZ.out] at h1; omega
                  have hYs : (str [UInt8.ofNat (48 + Z.length)]).size = 1 := rfl
                  have hYZ : (str [UInt8.ofNat (48 + Z.length)] ++ str Z).size = 1 + Z.length := by rw [str_app, str_size]; simp; omega
                  generalize hY : str [UInt8.ofNat (48 + Z.length)] = Y at hen HST hYs hYZ
                  obtain ⟨O, hO⟩ : ∃ O, O = str out := ⟨_, rfl⟩
                  rw [← hO] at HST hOs ⊢
                  have hw32 : IntKind.i32.wrap (48 + (Z.length : Int)) = 48 + (Z.length : Int) := by simp [IntKind.wrap, IntKind.bits, IntKind.signed]; omega
                  have HJK := Lib.hid hZl
                  have h9i : Z.length ≤ 9 := by omega
                  have HZZ := Lib.hid (show str Z = str Z from rfl)
                  obtain ⟨T, hT⟩ : ∃ T, T = str Z := ⟨_, rfl⟩
                  rw [← hT] at HST hYZ hze hzi hzs ⊢
                  have HOL := Lib.hid hOs
                  generalize hd : Z.length = d at hen hw32 h9i hzs hYZ q20 h9
                  have HDd := Lib.hid hd
                  have hcc : ¬ (9223372036854775807 : Int) < 1 + (d : Int) := by omega
                  have hcc2 : ¬ (9223372036854775807 : Int) < (O.size : Int) + (1 + (d : Int)) := by omega
                  clear hz hzl hY hO hT hd hZl
                  have HEN := Lib.hid (And.intro hen (And.intro hw32 (And.intro hYs (And.intro hYZ (And.intro hcc hcc2)))))
                  clear hen hw32 hYs hYZ hcc hcc2
                  go_upto_region 15 with fail
                  obtain ⟨hen, hw32, hYs, hYZ, hcc, hcc2⟩ := HEN.out
                  go_wp2
                  go_roundg (gO - 1)
                  case measure => have := HGO.out; omega
                  case rel => exact ⟨j, out ++ (UInt8.ofNat (48 + Z.length) :: Z), by have := HGO.out; omega, hj, rfl, by rw [← HST.out], HN3.out, by have := HJK.out; simp; omega, hb6⟩
    · have q1 : ¬ (k : Int) < (s.size : Int) := by omega
      have HR := Lib.hid (show nat id L = some out by
        rw [HN.out, List.drop_of_length_le (by rw [HLS.out]; omega), nat_nil]; simp)
      go_wp2
      go_ret2
      exact ⟨ret_sb (by rw [nS, HR.out]; rfl) (by rw [nB, HR.out]; rfl), hb⟩
end Go.Proofs.YtaeimdcmpjanbaaDoor.col
