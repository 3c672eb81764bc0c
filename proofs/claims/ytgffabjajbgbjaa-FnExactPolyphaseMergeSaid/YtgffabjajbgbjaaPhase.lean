/- A phase of a polyphase merge, the program's and the reference's: the empty tape, the number of merges, the counts behind it. Condition: counts within 0 and 2^20. -/
import Derived.Test.YtgffabjajbgbjaaSum
set_option linter.unusedVariables false
set_option linter.unusedSimpArgs false
namespace Go.Proofs.Ytgffabjajbgbjaa.phases
open Go.RowKit Go.Proofs.Ytgffabjajbgbjaa.mem Go.Proofs.Ytgffabjajbgbjaa.sums

/-! ### the plain law -/
/-- how many of the first k tapes are empty, the last empty one, the least count of the others -/
def nz (l : List Int) : Nat → Nat
  | 0 => 0
  | k + 1 => if l.getD k 0 = 0 then nz l k + 1 else nz l k
def ez (l : List Int) : Nat → Int
  | 0 => -1
  | k + 1 => if l.getD k 0 = 0 then (k : Int) else ez l k
def mz (l : List Int) : Nat → Int
  | 0 => 0
  | k + 1 => if l.getD k 0 ≠ 0 ∧ (mz l k = 0 ∨ l.getD k 0 < mz l k) then l.getD k 0 else mz l k
def able (l : List Int) : Bool := decide (nz l l.length = 1)
def nxt (l : List Int) : List Int := (List.range l.length).map fun (i : Nat) => if (i : Int) = ez l l.length then mz l l.length else l.getD i 0 - mz l l.length
theorem nz_mono (l : List Int) {j : Nat} : ∀ {k : Nat}, j ≤ k → nz l j ≤ nz l k
  | 0, h => by obtain rfl : j = 0 := by omega
               exact Nat.le_refl _
  | k + 1, h => by
    by_cases e : j = k + 1
    · subst e; exact Nat.le_refl _
    · have := nz_mono l (j := j) (k := k) (by omega)
      have e2 : nz l (k + 1) = if l.getD k 0 = 0 then nz l k + 1 else nz l k := rfl
      rw [e2]; split <;> omega
theorem ez_bd (l : List Int) : ∀ k : Nat, -1 ≤ ez l k ∧ ez l k < k ∧ (0 ≤ ez l k ↔ 0 < nz l k)
  | 0 => by simp [ez, nz]
  | k + 1 => by
    have := ez_bd l k
    unfold ez nz
    split
    · constructor
      · omega
      · constructor
        · omega
        · constructor <;> intro <;> omega
    · omega
/-- counts within bounds -/
def Tidy (l : List Int) : Prop := ∀ i, 0 ≤ l.getD i 0 ∧ l.getD i 0 ≤ 1048576
theorem mz_bd {l : List Int} (h : Tidy l) : ∀ k : Nat, 0 ≤ mz l k ∧ mz l k ≤ 1048576
  | 0 => by simp [mz]
  | k + 1 => by
    have := mz_bd h k
    have := h k
    unfold mz; split <;> omega
theorem mz_le {l : List Int} (h : Tidy l) : ∀ k i : Nat, i < k → l.getD i 0 ≠ 0 → 0 < mz l k ∧ mz l k ≤ l.getD i 0
  | 0, i, hi, _ => by omega
  | k + 1, i, hi, hne => by
    have hk := h k
    have hb := mz_bd h k
    by_cases e : i = k
    · subst e
      unfold mz; split
      · omega
      · rename_i hc
        have : ¬ (mz l i = 0 ∨ l.getD i 0 < mz l i) := fun h2 => hc ⟨hne, h2⟩
        omega
    · have := mz_le h k i (by omega) hne
      unfold mz; split <;> omega
/-- with one empty tape: it is the empty one -/
theorem ez_zero {l : List Int} : ∀ k : Nat, nz l k = 1 → ∀ i, i < k → (l.getD i 0 = 0 ↔ (i : Int) = ez l k)
  | 0, h, i, hi => by omega
  | k + 1, h, i, hi => by
    have hb := ez_bd l k
    unfold nz at h
    unfold ez
    split at h
    · rename_i hk
      rw [if_pos hk]
      have h0 : nz l k = 0 := by omega
      by_cases e : i = k
      · subst e; exact ⟨fun _ => rfl, fun _ => hk⟩
      · constructor
        · intro hz
          have h1 : nz l (i + 1) = nz l i + 1 := by
            show (if l.getD i 0 = 0 then nz l i + 1 else nz l i) = _
            rw [if_pos hz]
          have := nz_mono l (j := i + 1) (k := k) (by omega)
          omega
        · intro hc; omega
    · rename_i hk
      rw [if_neg hk]
      by_cases e : i = k
      · subst e
        constructor
        · intro hc; exact absurd hc hk
        · intro hc; omega
      · exact ez_zero k h i (by omega)
theorem nxt_len (l : List Int) : (nxt l).length = l.length := by simp [nxt]
theorem nxt_at (l : List Int) {i : Nat} (h : i < l.length) : (nxt l).getD i 0 = if (i : Int) = ez l l.length then mz l l.length else l.getD i 0 - mz l l.length := by
  rw [List.getD_eq_getElem?_getD]
  simp [nxt, h]
theorem nxt_good {l : List Int} (h : Tidy l) (ha : able l = true) : Tidy (nxt l) := by
  intro i
  have hn : nz l l.length = 1 := by simpa [able] using ha
  have hb := mz_bd h l.length
  by_cases hi : i < l.length
  · rw [nxt_at l hi]
    split
    · omega
    · rename_i hne
      have hnz : l.getD i 0 ≠ 0 := fun e => hne ((ez_zero l.length hn i hi).1 e)
      have := mz_le h l.length i hi hnz
      have := h i
      omega
  · rw [List.getD_eq_getElem?_getD, List.getElem?_eq_none (by rw [nxt_len]; omega)]; simp
/-- how the next counts are gathered -/
def part (l : List Int) (k : Nat) : List Int := (nxt l).take k
theorem part_step (l : List Int) {k : Nat} (h : k < l.length) : part l (k + 1) = part l k ++ [(nxt l).getD k 0] := by
  unfold part
  rw [List.take_add_one, List.getD_eq_getElem?_getD, List.getElem?_eq_getElem (by rw [nxt_len]; exact h)]
  rfl
theorem part_len (l : List Int) {k : Nat} (h : k ≤ l.length) : (part l k).length = k := by
  unfold part; rw [List.length_take, nxt_len]; omega
theorem getD_at (l : List Int) {i : Nat} (h : i < l.length) : l.getD i 0 = l[i] := by
  rw [List.getD_eq_getElem?_getD, List.getElem?_eq_getElem h]; rfl

/-! ### the walks -/
set_option maxRecDepth 100000 in
set_option maxHeartbeats 1000000 in
theorem impl_phase (A : Option Addr) (c : Nat) (l : List Int) (w : World) (hn : l.length ≤ 1048576) (hg : Tidy l) (hr : Rd w 1 A l.length (ints l)) :
    Calls Try.prog 62 #[.slice A l.length c] w fun e w' => ∃ a b : Int, e = .returned (.tuple #[.int .i64 a, .int .i64 b, .bool (able l)]) ∧ (able l = true → a = ez l l.length ∧ b = mz l l.length) ∧ w = w' := by
  have HG := Lib.hid hg
  clear hg
  go_enter Try.func62, Try.ntmps62
  go_wp2
  go_loop [5, 6, 11] (fun x y i => ∃ k : Nat, k ≤ l.length ∧ i = .int .i64 (k : Int) ∧ x = .int .i64 (ez l k) ∧ y = .int .i64 (mz l k) ∧ nz l k ≤ 1) (fun _ _ i => l.length - (intOf i).toNat)
  case atStart => exact ⟨0, by omega, rfl, rfl, rfl, by simp [nz]⟩
  case round =>
    obtain ⟨k, hk, rfl, rfl, rfl, hz⟩ := hrel
    have he := ez_bd l k
    have hm := mz_bd HG.out k
    obtain ⟨x, hx⟩ : ∃ x, x = ez l k := ⟨_, rfl⟩
    obtain ⟨y, hy⟩ : ∃ y, y = mz l k := ⟨_, rfl⟩
    rw [← hx] at he
    rw [← hy] at hm
    rw [← hx, ← hy]
    have HE := Lib.hid (show 0 ≤ x ↔ 0 < nz l k from he.2.2)
    have hxb : -1 ≤ x ∧ x < k := ⟨he.1, he.2.1⟩
    have HX := Lib.hid hx
    have HY := Lib.hid hy
    have HZ := Lib.hid hz
    clear hx hy he hz
    by_cases hlt : k < l.length
    · obtain ⟨b, off, rfl, hc⟩ := hr.int hlt
      have hgk := HG.out k
      have hga := getD_at l hlt
      have HNZ := Lib.hid (show nz l (k + 1) = if l[k] = 0 then nz l k + 1 else nz l k by rw [← hga]; rfl)
      have HEZ := Lib.hid (show ez l (k + 1) = if l[k] = 0 then (k : Int) else x by rw [← hga, HX.out]; rfl)
      have HMZ := Lib.hid (show mz l (k + 1) = if l[k] ≠ 0 ∧ (y = 0 ∨ l[k] < y) then l[k] else y by rw [← hga, HY.out]; rfl)
      rw [hga] at hgk
      clear hga
      generalize l[k] = u at hc hgk HNZ HEZ HMZ
      by_cases hu : u = 0
      · have HU := Lib.hid hu
        have hu1 : (u == 0) = true := by simpa using hu
        by_cases hx0 : 0 ≤ x
        · have HAB := Lib.hid (show able l = false by
            have h1 := HE.out.1 hx0
            have h2 := HNZ.out
            rw [if_pos hu] at h2
            have h3 := nz_mono l (j := k + 1) (k := l.length) (by omega)
            simp only [able, decide_eq_false_iff_not]; omega)
          clear hu
          go_wp2
          go_ret3
          exact ⟨_, _, by rw [HAB.out]; rfl, fun h => (by rw [HAB.out] at h; cases h), rfl⟩
        · have h1 := Lib.hid (show ez l (k + 1) = k by rw [HEZ.out, if_pos hu])
          have h2 := Lib.hid (show mz l (k + 1) = y by rw [HMZ.out, if_neg (fun h => h.1 hu)])
          have h3 := Lib.hid (show nz l (k + 1) ≤ 1 by
            have h1 := HE.out
            rw [HNZ.out, if_pos hu]
            have : ¬ 0 < nz l k := fun h => hx0 (h1.2 h)
            omega)
          clear hu
          go_wp2
          go_round
          case rel => exact ⟨k + 1, by omega, by go_num, by rw [h1.out], by rw [h2.out], h3.out⟩
          case measure => simp [intOf]; omega
      · have hu1 : (u == 0) = false := by simpa using hu
        have h1 := Lib.hid (show ez l (k + 1) = x by rw [HEZ.out, if_neg hu])
        have h3 := Lib.hid (show nz l (k + 1) ≤ 1 by rw [HNZ.out, if_neg hu]; exact HZ.out)
        by_cases hy0 : y = 0
        · have h2 := Lib.hid (show mz l (k + 1) = u by rw [HMZ.out, if_pos ⟨hu, .inl hy0⟩])
          have hy1 : (y == 0) = true := by simpa using hy0
          clear hy0 hu
          go_wp2
          go_round
          case rel => exact ⟨k + 1, by omega, by go_num, by rw [h1.out], by rw [h2.out], h3.out⟩
          case measure => simp [intOf]; omega
        · have hy1 : (y == 0) = false := by simpa using hy0
          by_cases huy : u < y
          · have h2 := Lib.hid (show mz l (k + 1) = u by rw [HMZ.out, if_pos ⟨hu, .inr huy⟩])
            clear hy0 hu
            go_wp2
            go_round
            case rel => exact ⟨k + 1, by omega, by go_num, by rw [h1.out], by rw [h2.out], h3.out⟩
            case measure => simp [intOf]; omega
          · have h2 := Lib.hid (show mz l (k + 1) = y by rw [HMZ.out, if_neg (by omega)])
            clear hy0 hu
            go_wp2
            go_round
            case rel => exact ⟨k + 1, by omega, by go_num, by rw [h1.out], by rw [h2.out], h3.out⟩
            case measure => simp [intOf]; omega
    · have e : k = l.length := by omega
      have HAB := Lib.hid (show able l = decide (0 ≤ x) by
        have h1 := HE.out
        have h2 := HZ.out
        rw [e] at h1 h2
        simp only [able, decide_eq_decide]; omega)
      have HX2 := Lib.hid (show x = ez l l.length by rw [HX.out, e])
      have HY2 := Lib.hid (show y = mz l l.length by rw [HY.out, e])
      clear e
      go_wp2
      go_ret3
      exact ⟨x, y, by rw [HAB.out]; rfl, fun _ => ⟨HX2.out, HY2.out⟩, rfl⟩

set_option maxRecDepth 100000 in
set_option maxHeartbeats 1000000 in
theorem impl_after (A : Option Addr) (c : Nat) (l : List Int) (w : World) (hn : l.length ≤ 1048576) (hg : Tidy l) (ha : able l = true) (hr : Rd w 1 A l.length (ints l)) :
    Calls Try.prog 63 #[.slice A l.length c, .int .i64 (ez l l.length), .int .i64 (mz l l.length)] w fun e w' => ∃ v, e = .returned v ∧ w'.ownsRow w.heap.size 3 1 v (nxt l).length (ints (nxt l)) ∧ Below w.heap.size w w' := by
  have HG := Lib.hid hg
  have hz := Lib.hid (ez_zero l.length (show nz l l.length = 1 by simpa [able] using ha))
  have hmb := mz_bd hg l.length
  have hle := Lib.hid (mz_le hg l.length)
  have HN := Lib.hid (fun i (h : i < l.length) => nxt_at l h)
  clear hg ha
  have he := ez_bd l l.length
  obtain ⟨E, hE⟩ : ∃ E, E = ez l l.length := ⟨_, rfl⟩
  obtain ⟨M, hM⟩ : ∃ M, M = mz l l.length := ⟨_, rfl⟩
  rw [← hE] at HN hz he
  rw [← hM] at HN hle hmb
  rw [← hE, ← hM]
  clear hE hM
  have heb : -1 ≤ E ∧ E < l.length := ⟨he.1, he.2.1⟩
  clear he
  go_enter Try.func63, Try.ntmps63
  go_wp2
  go_loopw [7, 13] (fun v i wr => ∃ k : Nat, k ≤ l.length ∧ i = .int .i64 (k : Int) ∧ wr.ownsRow w.heap.size 3 1 v k (ints (part l k)) ∧ Below w.heap.size w wr) (fun _ i _ => l.length - (intOf i).toNat)
  case atStart => exact ⟨0, by omega, rfl, World.ownsRow_made w #[] 0 (Nat.le_refl _) (Nat.zero_le _) (by simp), (Below.refl _ _).alloc (Nat.le_refl _) _⟩
  case round =>
    obtain ⟨k, hk, rfl, ho, hb⟩ := hrel
    have hkb : k ≤ 1099511627776 := by omega
    have hbw := hb.size
    by_cases hlt : k < l.length
    · obtain ⟨b, off, rfl, hc⟩ := (hr.below hb).int hlt
      have hgk := HG.out k
      have hga := getD_at l hlt
      have hN := HN.out k hlt
      have hlek := hle.out k hlt
      have hzk := hz.out k hlt
      rw [hga] at hgk hN hlek hzk
      have HS := Lib.hid (part_step l hlt)
      clear hga
      generalize l[k] = u at hc hgk hN hlek hzk
      have HNK := Lib.hid hN
      have HLK := Lib.hid hlek
      have HZK := Lib.hid hzk
      clear hN hlek hzk
      by_cases hkE : (k : Int) = E
      · have h1 := Lib.hid (show ints (part l k) ++ [.int .i64 M] = ints (part l (k + 1)) by rw [HS.out, HNK.out, if_pos hkE, ints_app]; rfl)
        have h2 : ((k : Int) == E) = true := by simpa using hkE
        clear hkE
        go_wp2_with (at_builtin; refine mem.push _ rfl _ _ 22 rfl w.heap.size 3 _ 1 8 Try.underlying22 mem.info_int rfl Nat.one_pos _ _ _ rfl ho [.int .i64 (M)] _ rfl (mem.ints_one [M]) rfl hkb (by decide) hbw ?_; intro v' w' ho' hg')
        have hbx := below_push hb hbw hg' ho
        rw [h1.out] at ho'
        go_roundw
        case rel => exact ⟨k + 1, by omega, by go_num, ho', hbx⟩
        case measure => simp [intOf]; omega
      · have h1 := Lib.hid (show ints (part l k) ++ [.int .i64 (u - M)] = ints (part l (k + 1)) by rw [HS.out, HNK.out, if_neg hkE, ints_app]; rfl)
        have h2 : ((k : Int) == E) = false := by simpa using hkE
        have h3 : M ≤ u := (HLK.out (fun h => hkE (HZK.out.1 h))).2
        clear hkE
        go_wp2_with (at_builtin; refine mem.push _ rfl _ _ 22 rfl w.heap.size 3 _ 1 8 Try.underlying22 mem.info_int rfl Nat.one_pos _ _ _ rfl ho [.int .i64 (u - M)] _ rfl (mem.ints_one [u - M]) rfl hkb (by decide) hbw ?_; intro v' w' ho' hg')
        have hbx := below_push hb hbw hg' ho
        rw [h1.out] at ho'
        go_roundw
        case rel => exact ⟨k + 1, by omega, by go_num, ho', hbx⟩
        case measure => simp [intOf]; omega
    · have HE := Lib.hid (show part l k = nxt l by unfold part; rw [List.take_of_length_le (by rw [nxt_len]; omega)])
      have HK := Lib.hid (show k = (nxt l).length by rw [nxt_len]; omega)
      rw [HE.out, HK.out] at ho
      go_wp2
      go_ret
      exact ⟨_, rfl, ho, hb⟩

def emp (l : List Int) : Int := if able l = true then ez l l.length else -1
set_option maxRecDepth 100000 in
set_option maxHeartbeats 1000000 in
theorem spec_empty (A : Option Addr) (c : Nat) (l : List Int) (w : World) (hn : l.length ≤ 1048576) (hr : Rd w 1 A l.length (ints l)) :
    Calls Try.prog 68 #[.slice A l.length c] w fun e w' => e = .returned (.int .i64 (emp l)) ∧ w = w' := by
  go_enter Try.func68, Try.ntmps68
  go_wp2
  go_loop [3, 4] (fun x i => ∃ k : Nat, k ≤ l.length ∧ i = .int .i64 (k : Int) ∧ x = .int .i64 (ez l k) ∧ nz l k ≤ 1) (fun _ i => l.length - (intOf i).toNat)
  case atStart => exact ⟨0, by omega, rfl, rfl, by simp [nz]⟩
  case round =>
    obtain ⟨k, hk, rfl, rfl, hz⟩ := hrel
    have he := ez_bd l k
    obtain ⟨x, hx⟩ : ∃ x, x = ez l k := ⟨_, rfl⟩
    rw [← hx] at he
    rw [← hx]
    have HE := Lib.hid (show 0 ≤ x ↔ 0 < nz l k from he.2.2)
    have hxb : -1 ≤ x ∧ x < k := ⟨he.1, he.2.1⟩
    have HX := Lib.hid hx
    have HZ := Lib.hid hz
    clear hx he hz
    by_cases hlt : k < l.length
    · obtain ⟨b, off, rfl, hc⟩ := hr.int hlt
      have hga := getD_at l hlt
      have HNZ := Lib.hid (show nz l (k + 1) = if l[k] = 0 then nz l k + 1 else nz l k by rw [← hga]; rfl)
      have HEZ := Lib.hid (show ez l (k + 1) = if l[k] = 0 then (k : Int) else x by rw [← hga, HX.out]; rfl)
      clear hga
      generalize l[k] = u at hc HNZ HEZ
      by_cases hu : u = 0
      · have hu1 : (u == 0) = true := by simpa using hu
        by_cases hx0 : 0 ≤ x
        · have HAB := Lib.hid (show emp l = -1 by
            have h1 := HE.out.1 hx0
            have h2 := HNZ.out
            rw [if_pos hu] at h2
            have h3 := nz_mono l (j := k + 1) (k := l.length) (by omega)
            have : able l = false := by simp only [able, decide_eq_false_iff_not]; omega
            rw [emp, this]; rfl)
          clear hu
          go_wp2
          go_ret
          exact ⟨ret_int (by rw [HAB.out]), rfl⟩
        · have h1 := Lib.hid (show ez l (k + 1) = k by rw [HEZ.out, if_pos hu])
          have h3 := Lib.hid (show nz l (k + 1) ≤ 1 by
            have h1 := HE.out
            rw [HNZ.out, if_pos hu]
            have : ¬ 0 < nz l k := fun h => hx0 (h1.2 h)
            omega)
          clear hu
          go_wp2
          go_round
          case rel => exact ⟨k + 1, by omega, by go_num, by rw [h1.out], h3.out⟩
          case measure => simp [intOf]; omega
      · have hu1 : (u == 0) = false := by simpa using hu
        have h1 := Lib.hid (show ez l (k + 1) = x by rw [HEZ.out, if_neg hu])
        have h3 := Lib.hid (show nz l (k + 1) ≤ 1 by rw [HNZ.out, if_neg hu]; exact HZ.out)
        clear hu
        go_wp2
        go_round
        case rel => exact ⟨k + 1, by omega, by go_num, by rw [h1.out], h3.out⟩
        case measure => simp [intOf]; omega
    · have e : k = l.length := by omega
      have HEM := Lib.hid (show emp l = x by
        have h1 := HE.out
        have h2 := HZ.out
        rw [e] at h1 h2
        rw [emp]
        by_cases ha : able l = true
        · rw [if_pos ha, HX.out, e]
        · rw [if_neg ha]
          simp only [able, decide_eq_true_eq] at ha
          omega)
      clear e
      go_wp2
      go_ret
      exact ⟨ret_int (by rw [HEM.out]), rfl⟩

set_option maxRecDepth 100000 in
set_option maxHeartbeats 1000000 in
theorem spec_phase (A : Option Addr) (c : Nat) (l : List Int) (w : World) (hn : l.length ≤ 1048576) (hg : Tidy l) (ha : able l = true) (hr : Rd w 1 A l.length (ints l)) :
    Calls Try.prog 69 #[.slice A l.length c] w fun e w' => ∃ v, e = .returned v ∧ w'.ownsRow w.heap.size 3 1 v (nxt l).length (ints (nxt l)) ∧ Below w.heap.size w w' := by
  have HG := Lib.hid hg
  have hz := Lib.hid (ez_zero l.length (show nz l l.length = 1 by simpa [able] using ha))
  have hmb := mz_bd hg l.length
  have hle := Lib.hid (mz_le hg l.length)
  have HN := Lib.hid (fun i (h : i < l.length) => nxt_at l h)
  have HEM := Lib.hid (show emp l = ez l l.length by rw [emp, if_pos ha])
  clear hg ha
  have he := ez_bd l l.length
  obtain ⟨E, hE⟩ : ∃ E, E = ez l l.length := ⟨_, rfl⟩
  rw [← hE] at HN hz he HEM
  clear hE
  have heb : -1 ≤ E ∧ E < l.length := ⟨he.1, he.2.1⟩
  clear he
  go_enter Try.func69, Try.ntmps69
  go_wp2_with fail
  refine (spec_empty A c l w hn hr).mono ?_
  rintro e w1 ⟨rfl, rfl⟩
  rw [HEM.out]
  go_wp2
  go_loop [4, 5] (fun y i => ∃ k : Nat, k ≤ l.length ∧ i = .int .i64 (k : Int) ∧ y = .int .i64 (mz l k)) (fun _ i => l.length - (intOf i).toNat)
  case atStart => exact ⟨0, by omega, rfl, rfl⟩
  case round =>
    obtain ⟨k, hk, rfl, rfl⟩ := hrel
    have hm := mz_bd HG.out k
    obtain ⟨y, hy⟩ : ∃ y, y = mz l k := ⟨_, rfl⟩
    rw [← hy] at hm
    rw [← hy]
    have HY := Lib.hid hy
    clear hy
    by_cases hlt : k < l.length
    · obtain ⟨b, off, rfl, hc⟩ := hr.int hlt
      have hgk := HG.out k
      have hga := getD_at l hlt
      have hzk := hz.out k hlt
      have HMZ := Lib.hid (show mz l (k + 1) = if l[k] ≠ 0 ∧ (y = 0 ∨ l[k] < y) then l[k] else y by rw [← hga, HY.out]; rfl)
      rw [hga] at hgk hzk
      clear hga
      generalize l[k] = u at hc hgk HMZ hzk
      have HZK := Lib.hid hzk
      clear hzk
      by_cases hkE : (k : Int) = E
      · have h2 := Lib.hid (show mz l (k + 1) = y by rw [HMZ.out, if_neg (fun h => h.1 (HZK.out.2 hkE))])
        have q : ((k : Int) != E) = false := by simpa using hkE
        clear hkE
        go_wp2
        go_round
        case rel => exact ⟨k + 1, by omega, by go_num, by rw [h2.out]⟩
        case measure => simp [intOf]; omega
      · have hu : u ≠ 0 := fun h => hkE (HZK.out.1 h)
        have q : ((k : Int) != E) = true := by simpa using hkE
        by_cases hy0 : y = 0
        · have h2 := Lib.hid (show mz l (k + 1) = u by rw [HMZ.out, if_pos ⟨hu, .inl hy0⟩])
          have hy1 : (y == 0) = true := by simpa using hy0
          clear hy0 hu hkE
          go_wp2
          go_round
          case rel => exact ⟨k + 1, by omega, by go_num, by rw [h2.out]⟩
          case measure => simp [intOf]; omega
        · have hy1 : (y == 0) = false := by simpa using hy0
          by_cases huy : u < y
          · have h2 := Lib.hid (show mz l (k + 1) = u by rw [HMZ.out, if_pos ⟨hu, .inr huy⟩])
            clear hy0 hu hkE
            go_wp2
            go_round
            case rel => exact ⟨k + 1, by omega, by go_num, by rw [h2.out]⟩
            case measure => simp [intOf]; omega
          · have h2 := Lib.hid (show mz l (k + 1) = y by rw [HMZ.out, if_neg (by omega)])
            clear hy0 hu hkE
            go_wp2
            go_round
            case rel => exact ⟨k + 1, by omega, by go_num, by rw [h2.out]⟩
            case measure => simp [intOf]; omega
    · have e : k = l.length := by omega
      rw [← e] at hmb
      have HYM := Lib.hid (show mz l l.length = y by rw [HY.out, e])
      rw [e] at hmb
      rw [HYM.out] at hmb HN hle
      clear e
      go_wp2
      go_loopw [6, 7] (fun v i wr => ∃ k : Nat, k ≤ l.length ∧ i = .int .i64 (k : Int) ∧ wr.ownsRow w.heap.size 3 1 v k (ints (part l k)) ∧ Below w.heap.size w wr) (fun _ i _ => l.length - (intOf i).toNat)
      case atStart => exact ⟨0, by omega, rfl, World.ownsRow_made w #[] 0 (Nat.le_refl _) (Nat.zero_le _) (by simp), (Below.refl _ _).alloc (Nat.le_refl _) _⟩
      case round =>
        obtain ⟨j, hj, rfl, ho, hb⟩ := hrel
        have hkb : j ≤ 1099511627776 := by omega
        have hbw := hb.size
        by_cases hlj : j < l.length
        · obtain ⟨b, off, rfl, hc⟩ := (hr.below hb).int hlj
          have hgk := HG.out j
          have hga := getD_at l hlj
          have hN := HN.out j hlj
          have hlek := hle.out j hlj
          have hzk := hz.out j hlj
          rw [hga] at hgk hN hlek hzk
          have HS := Lib.hid (part_step l hlj)
          clear hga
          generalize l[j] = u at hc hgk hN hlek hzk
          have HNK := Lib.hid hN
          have HLK := Lib.hid hlek
          have HZK := Lib.hid hzk
          clear hN hlek hzk
          by_cases hkE : (j : Int) = E
          · have h1 := Lib.hid (show ints (part l j) ++ [.int .i64 y] = ints (part l (j + 1)) by rw [HS.out, HNK.out, if_pos hkE, ints_app]; rfl)
            have h2 : ((j : Int) == E) = true := by simpa using hkE
            clear hkE
            go_wp2_with (at_builtin; refine mem.push _ rfl _ _ 22 rfl w.heap.size 3 _ 1 8 Try.underlying22 mem.info_int rfl Nat.one_pos _ _ _ rfl ho [.int .i64 (y)] _ rfl (mem.ints_one [y]) rfl hkb (by decide) hbw ?_; intro v' w' ho' hg')
            have hbx := below_push hb hbw hg' ho
            rw [h1.out] at ho'
            go_roundw
            case rel => exact ⟨j + 1, by omega, by go_num, ho', hbx⟩
            case measure => simp [intOf]; omega
          · have h1 := Lib.hid (show ints (part l j) ++ [.int .i64 (u - y)] = ints (part l (j + 1)) by rw [HS.out, HNK.out, if_neg hkE, ints_app]; rfl)
            have h2 : ((j : Int) == E) = false := by simpa using hkE
            have h3 : y ≤ u := (HLK.out (fun h => hkE (HZK.out.1 h))).2
            clear hkE
            go_wp2_with (at_builtin; refine mem.push _ rfl _ _ 22 rfl w.heap.size 3 _ 1 8 Try.underlying22 mem.info_int rfl Nat.one_pos _ _ _ rfl ho [.int .i64 (u - y)] _ rfl (mem.ints_one [u - y]) rfl hkb (by decide) hbw ?_; intro v' w' ho' hg')
            have hbx := below_push hb hbw hg' ho
            rw [h1.out] at ho'
            go_roundw
            case rel => exact ⟨j + 1, by omega, by go_num, ho', hbx⟩
            case measure => simp [intOf]; omega
        · have HE := Lib.hid (show part l j = nxt l by unfold part; rw [List.take_of_length_le (by rw [nxt_len]; omega)])
          have HK := Lib.hid (show j = (nxt l).length by rw [nxt_len]; omega)
          rw [HE.out, HK.out] at ho
          go_wp2
          go_ret
          exact ⟨_, rfl, ho, hb⟩
end Go.Proofs.Ytgffabjajbgbjaa.phases
