/- Insertion sort of the program. Condition: at most 2^20 elements to read, at most 64 to sort. -/
import Derived.Test.YtlckeefjhafloaaSrtLaw
import Derived.Test.YtlckeefjhafloaaCopyInt
import Derived.Test.YtlckeefjhafloaaList
import Derived.Test.YtlckeefjhafloaaMemAt
import Derived.Deep.LoopGhost
set_option linter.unusedVariables false
set_option linter.unusedSimpArgs false
namespace Go.Proofs.Ytlckeefjhafloaa.insSort
open Go.RowKit Go.Proofs.Ytlckeefjhafloaa.mem Go.Proofs.Ytlckeefjhafloaa.srt

theorem shift_sw {al : List Int} {k : Nat} {x : Int} (h0 : 0 < k) (hk : k < al.length) : (al.set k (al.getD (k - 1) 0)).set (k - 1) x = sw (al.set k x) k := by
  have e1 : (al.set k x).getD k 0 = x := by simp [List.getD_eq_getElem?_getD, hk]
  have e2 : (al.set k x).getD (k - 1) 0 = al.getD (k - 1) 0 := by
    simp only [List.getD_eq_getElem?_getD, List.getElem?_set]
    rw [if_neg (by omega)]
  rw [sw, e1, e2]
  apply List.ext_getElem?
  intro i
  simp only [List.getElem?_set, List.length_set]
  by_cases a : k - 1 = i
  · subst a
    have : ¬ k = k - 1 := by omega
    simp [this]
  · by_cases b : k = i
    · subst b; simp [a]
    · simp [a, b]
theorem set_at {al : List Int} {k : Nat} {x : Int} (hk : k < al.length) : (al.set k x).getD k 0 = x := by simp [List.getD_eq_getElem?_getD, hk]
theorem set_off {al : List Int} {k j : Nat} {x : Int} (h : k ≠ j) : (al.set k x).getD j 0 = al.getD j 0 := by
  simp only [List.getD_eq_getElem?_getD, List.getElem?_set]
  rw [if_neg h]
theorem ints_set (l : List Int) (i : Nat) (x : Int) : ints (l.set i x) = (ints l).set i (.int .i64 x) := by simp [ints, List.map_set]
set_option maxRecDepth 100000 in
set_option maxHeartbeats 4000000 in
theorem gap_any (A : Option Addr) (B c : Nat) (zs : List Int) (w : World) (hn : zs.length ≤ 64) (ho : w.ownsRow B 3 1 (.slice A zs.length c) zs.length (ints zs)) :
    Calls Try.prog 83 #[.slice A zs.length c, .int .i64 1] w fun e w' => ∃ x y : Int, e = .returned (.tuple #[.int .i64 x, .int .i64 y]) ∧ w'.ownsRow B 3 1 (.slice A zs.length c) zs.length (ints (srt zs)) ∧ w.grownBy w' (Value.slice A zs.length c).ownBlock := by
  by_cases h0 : zs.length = 0
  · obtain rfl := List.eq_nil_of_length_eq_zero h0
    have HE := Lib.hid (show srt [] = [] from by simp [srt])
    go_enter Try.func83, Try.ntmps83
    go_wp2
    go_loopg [6, 7, 8] 2 (fun f x y i wr => 0 < f ∧ x = .int .i64 0 ∧ y = .int .i64 0 ∧ i = .int .i64 1 ∧ w = wr)
    case atStart => exact ⟨by omega, rfl, rfl, rfl, rfl⟩
    case round =>
      obtain ⟨_, rfl, rfl, rfl, rfl⟩ := hrel
      go_wp2
      go_ret2
      first | exact ⟨⟨0, 0, rfl⟩, by rw [HE.out]; exact ho, World.grownBy.refl _ _⟩ | exact ⟨0, 0, rfl, by rw [HE.out]; exact ho, World.grownBy.refl _ _⟩
  · obtain ⟨g, rfl, hBg, hgl⟩ := own_addr ho (by omega)
    have HI0 := Lib.hid (inv_start zs)
    have HO := Lib.hid ho
    clear ho
    obtain ⟨n, hnn⟩ : ∃ n, n = zs.length := ⟨_, rfl⟩
    rw [← hnn] at HO hn h0 ⊢
    have HN := Lib.hid hnn
    clear hnn
    go_enter Try.func83, Try.ntmps83
    go_wp2
    go_loopg [6, 7, 8] (n + 1) (fun f x y i wr => ∃ (j : Nat) (p q : Int) (l : List Int), n < j + f ∧ 1 ≤ j ∧ j ≤ n ∧ i = .int .i64 (j : Int) ∧ x = .int .i64 p ∧ y = .int .i64 q ∧ (0 ≤ p ∧ p ≤ 1000 * (j : Int)) ∧ (0 ≤ q ∧ q ≤ 1000 * (j : Int)) ∧ l.length = n ∧ Inv zs l (j - 1) 0 ∧ wr.ownsRow B 3 1 (.slice (some ⟨g, 0, none⟩) n c) n (ints l) ∧ w.grownBy wr (some g))
    case atStart => exact ⟨1, 0, 0, zs, by omega, by omega, by omega, rfl, rfl, rfl, by omega, by omega, HN.out.symm, HI0.out, HO.out, World.grownBy.refl _ _⟩
    case round =>
      obtain ⟨j, p, q, l, hjf, hj1, hjn, rfl, rfl, rfl, hp, hq, hl, hinv, hol, hg⟩ := hrel
      have HL := Lib.hid hl
      have HINV := Lib.hid hinv
      have HOL := Lib.hid hol
      have HG := Lib.hid hg
      clear hl hinv hol hg HO
      by_cases hlt : j < n
      · have q1 : (j : Int) < (n : Int) := by omega
        have hjl : j < l.length := by rw [HL.out]; exact hlt
        have rd : Rd wr 1 (some ⟨g, 0, none⟩) l.length (ints l) := by rw [HL.out]; exact own_rd HOL.out
        have c0 := rd.int_at hjl
        rw [Nat.zero_add] at c0
        have HS := Lib.hid (show l.set j l[j] = l from List.set_getElem_self _)
        have HIV := Lib.hid (show Inv zs (l.set j l[j]) j j by
          rw [HS.out]
          have := inv_next HINV.out
          rwa [Nat.sub_add_cancel hj1] at this)
        generalize l[j] = v at c0 HS HIV
        obtain ⟨gO, hgO⟩ : ∃ gO, gO = gk := ⟨_, rfl⟩
        have HGO := Lib.hid (And.intro hgO hjf)
        clear rd hgO hjf
        go_wp2
        go_loopg [6, 7, 10] (j + 1) (fun f x y k wi => ∃ (t : Nat) (p q : Int) (al : List Int), t < f ∧ t ≤ j ∧ k = .int .i64 (t : Int) ∧ x = .int .i64 p ∧ y = .int .i64 q ∧ (0 ≤ p ∧ p ≤ 1000 * (j : Int) + ((j : Int) - (t : Int)) + 1) ∧ (0 ≤ q ∧ q ≤ 1000 * (j : Int) + ((j : Int) - (t : Int))) ∧ al.length = n ∧ Inv zs (al.set t v) j t ∧ (t = j → al.set t v = al) ∧ wi.ownsRow B 3 1 (.slice (some ⟨g, 0, none⟩) n c) n (ints al) ∧ w.grownBy wi (some g))
        case atStart => exact ⟨j, p, q, l, by omega, by omega, rfl, rfl, rfl, by omega, by omega, HL.out, HIV.out, fun _ => HS.out, HOL.out, HG.out⟩
        case round =>
          obtain ⟨t, p, q, al, htf, htj, rfl, rfl, rfl, hp, hq, hal, hinv, hsame, hoa, hga⟩ := hrel
          have HAL := Lib.hid hal
          have HV := Lib.hid hinv
          have HSM := Lib.hid hsame
          have HOA := Lib.hid hoa
          have HGA := Lib.hid hga
          clear hal hinv hsame hoa hga
          have rp : IntKind.i64.wrap (p + 1) = p + 1 := IntWalk.i64_in _ (by omega)
          have rq : IntKind.i64.wrap (q + 1) = q + 1 := IntWalk.i64_in _ (by omega)
          have htn : t < al.length := by rw [HAL.out]; omega
          have hti : (t : Int) < (n : Int) := by omega
          have HT := Lib.hid (set_at (x := v) htn)
          have HST := Lib.hid (fun (h : Inv zs (al.set t v) j 0) => h)
          -- the element goes to its place
          have HPUT := Lib.hid (show (wr.setCell ⟨g, t, none⟩ (.int .i64 v)).ownsRow B 3 1 (.slice (some ⟨g, 0, none⟩) n c) n (ints (al.set t v)) by
            rw [ints_set]; exact own_put HOA.out (by rw [len_ints]; exact htn) _)
          have HGP := Lib.hid (only_put HGA.out t (.int .i64 v))
          have hf := fun i => own_thaw HOA.out i
          have rd : Rd wr 1 (some ⟨g, 0, none⟩) al.length (ints al) := by rw [HAL.out]; exact own_rd HOA.out
          have cT := rd.int_at htn
          rw [Nat.zero_add] at cT
          by_cases ht0 : t = 0
          · have HIN := Lib.hid (inv_stop HV.out (Or.inl ht0))
            subst ht0
            have q2 : (0 : Int) < (j : Int) := by omega
            clear rd
            generalize al[0] = vT at cT
            go_wp2
            go_roundg (gO - 1)
            case measure => have := HGO.out; omega
            case rel => exact ⟨j + 1, p, q + 1, al.set 0 v, by have := HGO.out; omega, by omega, by omega, by go_num, rfl, rfl, by omega, by omega, by rw [List.length_set]; exact HAL.out, HIN.out, HPUT.out, HGP.out⟩
          · obtain ⟨s, rfl⟩ : ∃ s, t = s + 1 := ⟨t - 1, by omega⟩
            have hsl : s < al.length := by omega
            have cS := rd.int_at hsl
            rw [Nat.zero_add] at cS
            have HD := Lib.hid (show al.getD s 0 = al[s] by rw [List.getD_eq_getElem?_getD, List.getElem?_eq_getElem hsl]; rfl)
            have HO2 := Lib.hid (set_off (al := al) (x := v) (show s + 1 ≠ s by omega))
            have HSW := Lib.hid (shift_sw (al := al) (x := v) (show 0 < s + 1 by omega) htn)
            have HPS := Lib.hid (show (wr.setCell ⟨g, s + 1, none⟩ (.int .i64 al[s])).ownsRow B 3 1 (.slice (some ⟨g, 0, none⟩) n c) n (ints (al.set (s + 1) al[s])) by
              rw [ints_set]; exact own_put HOA.out (by rw [len_ints]; exact htn) _)
            have HGS := Lib.hid (only_put HGA.out (s + 1) (.int .i64 al[s]))
            rw [Nat.add_sub_cancel, HD.out] at HSW
            rw [HD.out] at HO2
            clear rd HD
            generalize al[s] = vS at cS HO2 HSW HPS HGS
            generalize al[s + 1] = vT at cT
            have q2 : (1 : Int) ≤ ((s + 1 : Nat) : Int) := by omega
            have q3 : IntKind.i64.wrap (((s + 1 : Nat) : Int) - 1) = (s : Int) := by rw [IntWalk.i64_in _ (by omega)]; omega
            have q4 : (s : Int) < (n : Int) := by omega
            by_cases hle : vS ≤ v
            · have HIN := Lib.hid (inv_stop HV.out (Or.inr (by rw [Nat.add_sub_cancel, HO2.out, HT.out]; exact hle)))
              by_cases hsj : s + 1 = j
              · have HEQ := Lib.hid (HSM.out hsj)
                have q5 : ¬ ((s + 1 : Nat) : Int) < (j : Int) := by omega
                have q6 : ¬ (s : Int) + 1 < (j : Int) := by omega
                have HINE := Lib.hid (show Inv zs al j 0 by rw [← HEQ.out]; exact HIN.out)
                have HJ := Lib.hid hsj
                clear hsj
                go_wp2
                go_roundg (gO - 1)
                case measure => have := HGO.out; omega
                case rel => exact ⟨j + 1, p + 1, q, al, by have := HGO.out; omega, by omega, by omega, by go_num, rfl, rfl, by have := HJ.out; omega, by have := HJ.out; omega, HAL.out, HINE.out, HOA.out, HGA.out⟩
              · have q5 : ((s + 1 : Nat) : Int) < (j : Int) := by omega
                have q6 : (s : Int) + 1 < (j : Int) := by omega
                go_wp2
                go_roundg (gO - 1)
                case measure => have := HGO.out; omega
                case rel => exact ⟨j + 1, p + 1, q + 1, al.set (s + 1) v, by have := HGO.out; omega, by omega, by omega, by go_num, rfl, rfl, by omega, by omega, by rw [List.length_set]; exact HAL.out, HIN.out, HPUT.out, HGP.out⟩
            · have HIN := Lib.hid (show Inv zs ((al.set (s + 1) vS).set s v) j s by
                rw [HSW.out]
                have := inv_swap HV.out (show 0 < s + 1 by omega) htj (by rw [List.length_set, HAL.out]; omega) (by rw [Nat.add_sub_cancel, HO2.out, HT.out]; omega)
                rwa [Nat.add_sub_cancel] at this)
              go_wp2
              go_roundg (gk - 1)
              case measure => omega
              case rel => exact ⟨s, p + 1, q + 1, al.set (s + 1) vS, by omega, by omega, by go_num, rfl, rfl, by omega, by omega, by rw [List.length_set]; exact HAL.out, HIN.out, fun h => absurd h (by omega), HPS.out, HGS.out⟩
      · have HE := Lib.hid (inv_end HINV.out (by rw [HL.out]; omega))
        have q1 : ¬ (j : Int) < (n : Int) := by omega
        go_wp2
        go_ret2
        first | exact ⟨⟨p, q, rfl⟩, by rw [← HE.out]; exact HOL.out, HG.out⟩ | exact ⟨p, q, rfl, by rw [← HE.out]; exact HOL.out, HG.out⟩
set_option maxRecDepth 100000 in
set_option maxHeartbeats 1000000 in
theorem ins_yes (A : Option Addr) (c : Nat) (zs : List Int) (w : World) (hv : lists.vlist zs = true) (hr : Rd w 1 A zs.length (ints zs)) :
    Calls Try.prog 50 #[.slice A zs.length c] w fun e w' => ∃ (v : Value) (x y : Int), e = .returned (.tuple #[v, .int .i64 x, .int .i64 y, .bool true]) ∧ w'.ownsRow w.heap.size 3 1 v (srt zs).length (ints (srt zs)) ∧ Below w.heap.size w w' := by
  have hl := lists.vlist_len hv
  have HV := lists.impl_any A c zs w (by omega) hr
  rw [hv] at HV
  have HVh := Lib.hid HV
  have HL := Lib.hid (srt_len zs)
  clear HV hv
  go_enter Try.func50, Try.ntmps50
  go_wp2_with fail
  with_reducible refine HVh.out.mono ?_
  rintro e w1 ⟨rfl, hb1⟩
  have HC := Lib.hid (copyInt.impl_any A c zs w1 (by omega) (hr.below hb1))
  go_wp2_with fail
  with_reducible refine HC.out.mono ?_
  rintro e w2 ⟨v, rfl, ho2, hb2⟩
  obtain ⟨A2, c2, rfl, _, _, _⟩ := own_form ho2
  have HG := Lib.hid (gap_any A2 w1.heap.size c2 zs w2 hl ho2)
  have HB := Lib.hid (below_step hb1 hb2)
  have hsz := hb1.size
  have HO2 := Lib.hid (own_base ho2 hsz)
  clear HC HVh hb1 hb2 ho2
  go_wp2_with fail
  with_reducible refine HG.out.mono ?_
  rintro e w3 ⟨x, y, rfl, ho3, hg3⟩
  have HO3 := Lib.hid (show w3.ownsRow w.heap.size 3 1 (.slice A2 zs.length c2) (srt zs).length (ints (srt zs)) by
    rw [HL.out]; exact own_base ho3 hsz)
  have HB3 := Lib.hid (below_push HB.out HB.out.size hg3 HO2.out)
  clear ho3 hg3 HG
  go_wp2
  refine bodyPost_ret (v := .tuple #[.slice A2 zs.length c2, .int .i64 x, .int .i64 y, .bool true]) (by simp [results, Try.results50, go_sem]) rfl ?_
  first | exact ⟨_, x, y, rfl, HO3.out, HB3.out⟩ | exact ⟨⟨_, x, y, rfl⟩, HO3.out, HB3.out⟩
set_option maxRecDepth 100000 in
set_option maxHeartbeats 1000000 in
theorem near_any (A : Option Addr) (c : Nat) (l : List Int) (v r m : Int) (w : World) (hn : l.length ≤ 64) (hr0 : 0 ≤ r ∧ r ≤ 1000) (hm0 : 0 ≤ m ∧ m ≤ 10000) (hex : ∃ i : Nat, i < l.length ∧ l.getD i 0 = v ∧ r - m ≤ (i : Int) + 1 ∧ (i : Int) + 1 ≤ r + m) (hr : Rd w 1 A l.length (ints l)) :
    Calls Try.prog 51 #[.slice A l.length c, .int .i64 v, .int .i64 r, .int .i64 m] w fun e w' => e = .returned (.bool true) ∧ Below w.heap.size w w' := by
  obtain ⟨i, hi, hv, h1, h2⟩ := hex
  have r1 : IntKind.i64.wrap (r - m) = r - m := IntWalk.i64_in _ (by omega)
  have r2 : IntKind.i64.wrap (r + m) = r + m := IntWalk.i64_in _ (by omega)
  have HV := Lib.hid hv
  clear hv
  go_enter Try.func51, Try.ntmps51
  go_wp2
  go_loopg [9] (l.length + 1) (fun f j wr => ∃ k : Nat, l.length < k + f ∧ k ≤ i ∧ j = .int .i64 (k : Int) ∧ Below w.heap.size w wr)
  case atStart => exact ⟨0, by omega, by omega, rfl, Below.refl _ _⟩
  case round =>
    obtain ⟨k, hkf, hk, rfl, hb⟩ := hrel
    have HB := Lib.hid hb
    have hkl : k < l.length := by omega
    have q1 : (k : Int) < (l.length : Int) := by omega
    obtain ⟨b, off, rfl, hc⟩ := (hr.below hb).int hkl
    have HD := Lib.hid (show l.getD k 0 = l[k] by rw [List.getD_eq_getElem?_getD, List.getElem?_eq_getElem hkl]; rfl)
    have HK := Lib.hid (fun h : k = i => show l[k] = v by rw [← HD.out, h]; exact HV.out)
    generalize l[k] = x at hc HK
    have q2 : IntKind.i64.wrap ((k : Int) + 1) = (k : Int) + 1 := IntWalk.i64_in _ (by omega)
    clear hb
    by_cases hki : k = i
    · have hx := HK.out hki
      have q3 : (x == v) = true := by rw [hx]; simp
      have q4 : r - m ≤ (k : Int) + 1 := by omega
      have q5 : (k : Int) + 1 ≤ r + m := by omega
      clear hx hki
      go_wp2
      go_ret
      exact ⟨rfl, HB.out⟩
    · by_cases hxv : x = v
      · have q3 : (x == v) = true := by rw [hxv]; simp
        have HX := Lib.hid hxv
        clear hxv
        by_cases q4 : r - m ≤ (k : Int) + 1
        · by_cases q5 : (k : Int) + 1 ≤ r + m
          · go_wp2
            go_ret
            exact ⟨rfl, HB.out⟩
          · have q5d : decide ((k : Int) + 1 ≤ r + m) = false := decide_eq_false q5
            go_wp2
            go_roundg (gk - 1)
            case measure => omega
            case rel => exact ⟨k + 1, by omega, by omega, by go_num, HB.out⟩
        · have q4d : decide (r - m ≤ (k : Int) + 1) = false := decide_eq_false q4
          go_wp2
          go_roundg (gk - 1)
          case measure => omega
          case rel => exact ⟨k + 1, by omega, by omega, by go_num, HB.out⟩
      · have q3 : (x == v) = false := by simpa using hxv
        go_wp2
        go_roundg (gk - 1)
        case measure => omega
        case rel => exact ⟨k + 1, by omega, by omega, by go_num, HB.out⟩
end Go.Proofs.Ytlckeefjhafloaa.insSort
