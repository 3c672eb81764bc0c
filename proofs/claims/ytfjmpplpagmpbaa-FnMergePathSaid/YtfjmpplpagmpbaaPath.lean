/- The split of a merge at a diagonal, the program's and the reference's: one binary search. Condition: lists of at most 2^20 elements, a diagonal within both. -/
import Derived.Test.YtfjmpplpagmpbaaList
import Derived.Deep.LoopGhost
set_option linter.unusedVariables false
set_option linter.unusedSimpArgs false
namespace Go.Proofs.Ytfjmpplpagmpbaa.paths
open Go.RowKit Go.Proofs.Ytfjmpplpagmpbaa.mem Go.Proofs.Ytfjmpplpagmpbaa.lists
open Go.Proofs.Ytfjmpplpagmpbaa.ins (inB inB_true inB_false inB_iff)

/-- the binary search: fuel, low, high, comparisons -/
def bs (a b : List Int) (dg : Nat) : Nat → Nat → Nat → Nat → Nat × Nat
  | 0, lo, _, n => (lo, n)
  | f + 1, lo, hi, n =>
    if lo < hi then
      if a.getD ((lo + hi) / 2) 0 ≤ b.getD (dg - 1 - (lo + hi) / 2) 0 then bs a b dg f ((lo + hi) / 2 + 1) hi (n + 1) else bs a b dg f lo ((lo + hi) / 2) (n + 1)
    else (lo, n)
def split (a b : List Int) (dg : Nat) : Nat × Nat := bs a b dg (min dg a.length + 1) (dg - b.length) (min dg a.length) 0
theorem bs_bd (a b : List Int) (dg : Nat) : ∀ f lo hi n, (bs a b dg f lo hi n).2 ≤ n + f ∧ ((bs a b dg f lo hi n).1 ≤ max lo hi)
  | 0, lo, hi, n => by simp [bs]; omega
  | f + 1, lo, hi, n => by
    unfold bs
    split
    · split
      · have := bs_bd a b dg f ((lo + hi) / 2 + 1) hi (n + 1); omega
      · have := bs_bd a b dg f lo ((lo + hi) / 2) (n + 1); omega
    · simp; omega

set_option maxRecDepth 100000 in
set_option maxHeartbeats 2000000 in
theorem impl_split (A B : Option Addr) (c d : Nat) (a b : List Int) (dg : Nat) (w : World) (hn : a.length ≤ 1048576) (hm : b.length ≤ 1048576) (hd : dg ≤ a.length + b.length) (hr : Rd w 1 A a.length (ints a)) (hs : Rd w 1 B b.length (ints b)) :
    Calls Try.prog 64 #[.slice A a.length c, .slice B b.length d, .int .i64 (dg : Int)] w fun e w' => e = .returned (.tuple #[.int .i64 ((split a b dg).1 : Int), .int .i64 ((split a b dg).2 : Int)]) ∧ ∃ m, w' = w.drewN m := by
  have HSP := Lib.hid (show split a b dg = bs a b dg (min dg a.length + 1) (dg - b.length) (min dg a.length) 0 from rfl)
  go_enter Try.func64, Try.ntmps64
  rcases Decidable.em (b.length < dg) with h1 | h1 <;> rcases Decidable.em (a.length < dg) with h2 | h2
  all_goals
    go_wp2
    go_loopg [8, 9, 10] (min dg a.length + 1) (fun f x y z wr => ∃ lo hi n m : Nat, x = .int .i64 (lo : Int) ∧ y = .int .i64 (hi : Int) ∧ z = .int .i64 (n : Int) ∧ split a b dg = bs a b dg f lo hi n ∧ dg ≤ lo + b.length ∧ hi ≤ a.length ∧ hi ≤ dg ∧ lo ≤ hi ∧ n + f ≤ 2097154 ∧ hi < lo + f ∧ wr = w.drewN m)
    case atStart => exact ⟨dg - b.length, min dg a.length, 0, 0, by go_num, by go_num, rfl, HSP.out, by omega, by omega, by omega, by omega, by omega, by omega, rfl⟩
    case round =>
      obtain ⟨lo, hi, n, m, rfl, rfl, rfl, hb, hb1, hb2, hb3, hb4, hb5, hb6, rfl⟩ := hrel
      have HB := Lib.hid hb
      clear hb
      by_cases hlt : lo < hi
      · obtain ⟨g, rfl⟩ : ∃ g, gk = g + 1 := ⟨gk - 1, by omega⟩
        have HS := Lib.hid (show bs a b dg (g + 1) lo hi n = if a.getD ((lo + hi) / 2) 0 ≤ b.getD (dg - 1 - (lo + hi) / 2) 0 then bs a b dg g ((lo + hi) / 2 + 1) hi (n + 1) else bs a b dg g lo ((lo + hi) / 2) (n + 1) by
          rw [bs, if_pos hlt])
        obtain ⟨md, hmd⟩ : ∃ md, md = (lo + hi) / 2 := ⟨_, rfl⟩
        rw [← hmd] at HS
        have hmd1 : lo ≤ md ∧ md < hi ∧ 2 * md ≤ lo + hi ∧ lo + hi ≤ 2 * md + 1 := by omega
        have hmi : ((lo : Int) + (hi : Int)) / 2 = (md : Int) := by omega
        clear hmd
        obtain ⟨p, hp, hp2⟩ : ∃ p : Nat, p = dg - 1 - md ∧ (dg : Int) - 1 - (md : Int) = (p : Int) := ⟨dg - 1 - md, rfl, by omega⟩
        rw [← hp] at HS
        have hpb : p < b.length := by omega
        clear hp
        obtain ⟨b1, o1, rfl, c1⟩ := hr.int (k := md) (by omega)
        obtain ⟨b2, o2, rfl, c2⟩ := hs.int (k := p) hpb
        rw [getD_at a (show md < a.length by omega), getD_at b hpb] at HS
        generalize a[md]'(by omega) = x at c1 HS
        generalize b[p] = y at c2 HS
        have q1 : (md : Int) < (a.length : Int) := by omega
        have q2 : (p : Int) < (b.length : Int) := by omega
        have q3 : (0 : Int) ≤ (dg : Int) - 1 - (md : Int) := by omega
        have q4 : (dg : Int) - 1 - (md : Int) < (b.length : Int) := by omega
        have q5 : ((dg : Int) - 1 - (md : Int)).toNat = p := by omega
        have hwr : IntKind.i64.wrap ((dg : Int) - 1) = (dg : Int) - 1 := IntWalk.i64_in _ (by omega)
        have hwr2 : IntKind.i64.wrap ((dg : Int) - 1 - (md : Int)) = (dg : Int) - 1 - (md : Int) := IntWalk.i64_in _ (by omega)
        have HP2 := Lib.hid hp2
        clear hp2
        by_cases hxy : x ≤ y
        · have HB2 := Lib.hid (show split a b dg = bs a b dg g (md + 1) hi (n + 1) by rw [HB.out, HS.out, if_pos hxy])
          go_wp2_with fail
          go_quiet (fail)
          clear hwr hwr2 hmi
          go_wp2
          go_roundg g
          case rel => exact ⟨md + 1, hi, n + 1, m + nq, by go_num, rfl, by go_num, HB2.out, by omega, by omega, by omega, by omega, by omega, by omega, by first | rfl | exact World.drewN_drewN _ _ _⟩
          case measure => omega
        · have HB2 := Lib.hid (show split a b dg = bs a b dg g lo md (n + 1) by rw [HB.out, HS.out, if_neg hxy])
          have q6 : decide (x ≤ y) = false := by simpa using hxy
          go_wp2_with fail
          go_quiet (fail)
          clear hwr hwr2 hmi
          go_wp2
          go_roundg g
          case rel => exact ⟨lo, md, n + 1, m + nq, rfl, rfl, by go_num, HB2.out, by omega, by omega, by omega, by omega, by omega, by omega, by first | rfl | exact World.drewN_drewN _ _ _⟩
          case measure => omega
      · have HS := Lib.hid (show split a b dg = (lo, n) by
          rw [HB.out]
          cases gk with
          | zero => rfl
          | succ g => rw [bs, if_neg hlt])
        go_wp2
        go_ret2
        exact ⟨by rw [HS.out]; rfl, _, rfl⟩
set_option maxRecDepth 100000 in
set_option maxHeartbeats 2000000 in
theorem spec_split (A B : Option Addr) (c d : Nat) (a b : List Int) (dg : Nat) (w : World) (hn : a.length ≤ 1048576) (hm : b.length ≤ 1048576) (hd : dg ≤ a.length + b.length) (hr : Rd w 1 A a.length (ints a)) (hs : Rd w 1 B b.length (ints b)) :
    Calls Try.prog 62 #[.slice A a.length c, .slice B b.length d, .int .i64 (dg : Int)] w fun e w' => e = .returned (.tuple #[.int .i64 ((split a b dg).1 : Int), .int .i64 ((split a b dg).2 : Int)]) ∧ ∃ m, w' = w.drewN m := by
  have HSP := Lib.hid (show split a b dg = bs a b dg (min dg a.length + 1) (dg - b.length) (min dg a.length) 0 from rfl)
  go_enter Try.func62, Try.ntmps62
  rcases Decidable.em (dg < b.length) with h1 | h1 <;> rcases Decidable.em (dg < a.length) with h2 | h2
  all_goals
    go_wp2
    go_loopg [8, 9, 10] (min dg a.length + 1) (fun f x y z wr => ∃ lo hi n m : Nat, x = .int .i64 (lo : Int) ∧ y = .int .i64 (hi : Int) ∧ z = .int .i64 (n : Int) ∧ split a b dg = bs a b dg f lo hi n ∧ dg ≤ lo + b.length ∧ hi ≤ a.length ∧ hi ≤ dg ∧ lo ≤ hi ∧ n + f ≤ 2097154 ∧ hi < lo + f ∧ wr = w.drewN m)
    case atStart => exact ⟨dg - b.length, min dg a.length, 0, 0, by go_num, by go_num, rfl, HSP.out, by omega, by omega, by omega, by omega, by omega, by omega, rfl⟩
    case round =>
      obtain ⟨lo, hi, n, m, rfl, rfl, rfl, hb, hb1, hb2, hb3, hb4, hb5, hb6, rfl⟩ := hrel
      have HB := Lib.hid hb
      clear hb
      by_cases hlt : lo < hi
      · obtain ⟨g, rfl⟩ : ∃ g, gk = g + 1 := ⟨gk - 1, by omega⟩
        have HS := Lib.hid (show bs a b dg (g + 1) lo hi n = if a.getD ((lo + hi) / 2) 0 ≤ b.getD (dg - 1 - (lo + hi) / 2) 0 then bs a b dg g ((lo + hi) / 2 + 1) hi (n + 1) else bs a b dg g lo ((lo + hi) / 2) (n + 1) by
          rw [bs, if_pos hlt])
        obtain ⟨md, hmd⟩ : ∃ md, md = (lo + hi) / 2 := ⟨_, rfl⟩
        rw [← hmd] at HS
        have hmd1 : lo ≤ md ∧ md < hi ∧ 2 * md ≤ lo + hi ∧ lo + hi ≤ 2 * md + 1 := by omega
        have hmi : ((lo : Int) + (hi : Int)) / 2 = (md : Int) := by omega
        clear hmd
        obtain ⟨p, hp, hp2⟩ : ∃ p : Nat, p = dg - 1 - md ∧ (dg : Int) - 1 - (md : Int) = (p : Int) := ⟨dg - 1 - md, rfl, by omega⟩
        rw [← hp] at HS
        have hpb : p < b.length := by omega
        clear hp
        obtain ⟨b1, o1, rfl, c1⟩ := hr.int (k := md) (by omega)
        obtain ⟨b2, o2, rfl, c2⟩ := hs.int (k := p) hpb
        rw [getD_at a (show md < a.length by omega), getD_at b hpb] at HS
        generalize a[md]'(by omega) = x at c1 HS
        generalize b[p] = y at c2 HS
        have q1 : (md : Int) < (a.length : Int) := by omega
        have q2 : (p : Int) < (b.length : Int) := by omega
        have q3 : (0 : Int) ≤ (dg : Int) - 1 - (md : Int) := by omega
        have q4 : (dg : Int) - 1 - (md : Int) < (b.length : Int) := by omega
        have q5 : ((dg : Int) - 1 - (md : Int)).toNat = p := by omega
        have hwr : IntKind.i64.wrap ((dg : Int) - 1) = (dg : Int) - 1 := IntWalk.i64_in _ (by omega)
        have hwr2 : IntKind.i64.wrap ((dg : Int) - 1 - (md : Int)) = (dg : Int) - 1 - (md : Int) := IntWalk.i64_in _ (by omega)
        have HP2 := Lib.hid hp2
        clear hp2
        by_cases hxy : x ≤ y
        · have HB2 := Lib.hid (show split a b dg = bs a b dg g (md + 1) hi (n + 1) by rw [HB.out, HS.out, if_pos hxy])
          go_wp2_with fail
          go_quiet (fail)
          clear hwr hwr2 hmi
          go_wp2
          go_roundg g
          case rel => exact ⟨md + 1, hi, n + 1, m + nq, by go_num, rfl, by go_num, HB2.out, by omega, by omega, by omega, by omega, by omega, by omega, by first | rfl | exact World.drewN_drewN _ _ _⟩
          case measure => omega
        · have HB2 := Lib.hid (show split a b dg = bs a b dg g lo md (n + 1) by rw [HB.out, HS.out, if_neg hxy])
          have q6 : decide (x ≤ y) = false := by simpa using hxy
          go_wp2_with fail
          go_quiet (fail)
          clear hwr hwr2 hmi
          go_wp2
          go_roundg g
          case rel => exact ⟨lo, md, n + 1, m + nq, rfl, rfl, by go_num, HB2.out, by omega, by omega, by omega, by omega, by omega, by omega, by first | rfl | exact World.drewN_drewN _ _ _⟩
          case measure => omega
      · have HS := Lib.hid (show split a b dg = (lo, n) by
          rw [HB.out]
          cases gk with
          | zero => rfl
          | succ g => rw [bs, if_neg hlt])
        go_wp2
        go_ret2
        exact ⟨by rw [HS.out]; rfl, _, rfl⟩

/-- two lists that can be merged -/
def pair (a b : List Int) : Bool := (asc a && vlist a) && ((asc b && vlist b) && decide (a.length + b.length ≤ 64))
theorem pair_iff {a b : List Int} : pair a b = true ↔ (asc a = true ∧ vlist a = true) ∧ (asc b = true ∧ vlist b = true) ∧ a.length + b.length ≤ 64 := by simp [pair]
theorem pair_no {a b : List Int} (h : asc a = false ∨ vlist a = false ∨ asc b = false ∨ vlist b = false ∨ ¬ a.length + b.length ≤ 64) : pair a b = false := by
  rw [← Bool.not_eq_true, pair_iff]
  rintro ⟨⟨h1, h2⟩, ⟨h3, h4⟩, h5⟩
  rcases h with h | h | h | h | h <;> simp_all

set_option maxRecDepth 100000 in
set_option maxHeartbeats 1000000 in
theorem impl_pair (A B : Option Addr) (c d : Nat) (a b : List Int) (w : World) (hn : a.length ≤ 1048576) (hm : b.length ≤ 1048576) (hr : Rd w 1 A a.length (ints a)) (hs : Rd w 1 B b.length (ints b)) :
    Calls Try.prog 63 #[.slice A a.length c, .slice B b.length d] w fun e w' => e = .returned (.bool (pair a b)) ∧ Below w.heap.size w w' := by
  have HNO := Lib.hid (@pair_no a b)
  go_enter Try.func63, Try.ntmps63
  go_wp2_with fail
  refine (lists.impl_any A c a w hn hr).mono ?_
  rintro e w1 ⟨rfl, hb1⟩
  by_cases h1 : vlist a = true
  · have H1 := Lib.hid h1
    rw [h1]
    clear h1
    go_wp2_with fail
    refine (lists.impl_any B d b w1 hm (hs.below hb1)).mono ?_
    rintro e w2 ⟨rfl, hb2⟩
    have hb3 := below_step hb1 hb2
    by_cases h2 : vlist b = true
    · have H2 := Lib.hid h2
      rw [h2]
      clear h2
      go_wp2_with fail
      refine (lists.descent_any A c a w2 hn (hr.below hb3)).mono ?_
      rintro e w3 ⟨⟨x, rfl, hx⟩, m, rfl⟩
      have HX := Lib.hid hx
      clear hx
      by_cases h3 : x < 0
      · go_wp2_with fail
        refine (lists.descent_any B d b _ hm ((hs.below hb3).drewN m)).mono ?_
        rintro e w4 ⟨⟨y, rfl, hy⟩, m2, rfl⟩
        have HY := Lib.hid hy
        clear hy
        by_cases h4 : y < 0
        · have HP := Lib.hid (show pair a b = decide ((a.length : Int) + (b.length : Int) ≤ 64) by
            have e1 : asc a = true := by rw [HX.out]; simpa using h3
            have e2 : asc b = true := by rw [HY.out]; simpa using h4
            rw [pair, e1, e2, H1.out, H2.out]
            simp only [Bool.and_self, Bool.true_and]
            exact decide_eq_decide.2 (by omega))
          go_wp2
          go_ret
          exact ⟨ret_bool HP.out.symm, below_drewN hb3 _⟩
        · have HF := Lib.hid (HNO.out (.inr (.inr (.inl (by rw [HY.out]; simpa using h4)))))
          go_wp2
          go_ret
          exact ⟨ret_bool HF.out.symm, below_drewN hb3 _⟩
      · have HF := Lib.hid (HNO.out (.inl (by rw [HX.out]; simpa using h3)))
        go_wp2
        go_ret
        exact ⟨ret_bool HF.out.symm, below_drewN hb3 _⟩
    · have h2' : vlist b = false := by simpa using h2
      have HF := Lib.hid (HNO.out (.inr (.inr (.inr (.inl h2')))))
      rw [h2']
      clear h2 h2'
      go_wp2
      go_ret
      exact ⟨ret_bool HF.out.symm, hb3⟩
  · have h1' : vlist a = false := by simpa using h1
    have HF := Lib.hid (HNO.out (.inr (.inl h1')))
    rw [h1']
    clear h1 h1'
    go_wp2
    go_ret
    exact ⟨ret_bool HF.out.symm, hb1⟩

set_option maxRecDepth 100000 in
set_option maxHeartbeats 1000000 in
theorem spec_pair (A B : Option Addr) (c d : Nat) (a b : List Int) (w : World) (hn : a.length ≤ 1048576) (hm : b.length ≤ 1048576) (hr : Rd w 1 A a.length (ints a)) (hs : Rd w 1 B b.length (ints b)) :
    Calls Try.prog 61 #[.slice A a.length c, .slice B b.length d] w fun e w' => e = .returned (.bool (pair a b)) ∧ Below w.heap.size w w' := by
  have HP0 := Lib.hid (show pair a b = ((asc a && vlist a) && ((asc b && vlist b) && decide (a.length + b.length ≤ 64))) from rfl)
  go_enter Try.func61, Try.ntmps61
  go_wp2_with fail
  refine (lists.spec_asc A c a w hn hr).mono ?_
  rintro e w1 ⟨rfl, hb1⟩
  by_cases h1 : (asc a && vlist a) = true
  · rw [h1] at HP0
    rw [h1]
    clear h1
    go_wp2_with fail
    refine (lists.spec_asc B d b w1 hm (hs.below hb1)).mono ?_
    rintro e w2 ⟨rfl, hb2⟩
    have hb3 := below_step hb1 hb2
    by_cases h2 : (asc b && vlist b) = true
    · rw [h2] at HP0
      have HP := Lib.hid (show pair a b = decide ((a.length : Int) + (b.length : Int) ≤ 64) by
        rw [HP0.out]; simp only [Bool.true_and]; exact decide_eq_decide.2 (by omega))
      rw [h2]
      clear h2
      go_wp2
      go_ret
      exact ⟨ret_bool HP.out.symm, hb3⟩
    · have h2' : (asc b && vlist b) = false := by simpa using h2
      have HP := Lib.hid (show pair a b = false by rw [HP0.out, h2']; rfl)
      rw [h2']
      clear h2 h2'
      go_wp2
      go_ret
      exact ⟨ret_bool HP.out.symm, hb3⟩
  · have h1' : (asc a && vlist a) = false := by simpa using h1
    have HP := Lib.hid (show pair a b = false by rw [HP0.out, h1']; rfl)
    rw [h1']
    clear h1 h1'
    go_wp2
    go_ret
    exact ⟨ret_bool HP.out.symm, hb1⟩

/-! ### MergePathSplit -/
def ok (a b : List Int) (dg : Int) : Bool := pair a b && inB dg 0 ((a.length : Int) + (b.length : Int))
def r1 (a b : List Int) (dg : Int) : Int := if ok a b dg = true then ((split a b dg.toNat).1 : Int) else 0
def r2 (a b : List Int) (dg : Int) : Int := if ok a b dg = true then ((split a b dg.toNat).2 : Int) else 0
set_option maxRecDepth 100000 in
set_option maxHeartbeats 1000000 in
theorem impl_any (A : Option Addr) (c : Nat) (a : List Int) (B : Option Addr) (d : Nat) (b : List Int) (dg : Int) (w : World) (hn : a.length ≤ 1048576) (hr : Rd w 1 A a.length (ints a)) (hm : b.length ≤ 1048576) (hs : Rd w 1 B b.length (ints b)) :
    Calls Try.prog 27 #[.slice A a.length c, .slice B b.length d, .int .i64 dg] w fun e w' => e = .returned (.tuple #[.int .i64 (r1 a b dg), .int .i64 (r2 a b dg), .bool (ok a b dg)]) ∧ Below w.heap.size w w' := by
  have HR := Lib.hid (show (ok a b dg = true → r1 a b dg = (split a b dg.toNat).1 ∧ r2 a b dg = (split a b dg.toNat).2) ∧ (ok a b dg = false → r1 a b dg = 0 ∧ r2 a b dg = 0) by
    constructor <;> intro h <;> rw [r1, r2, h] <;> exact ⟨rfl, rfl⟩)
  have HO := Lib.hid (show ok a b dg = (pair a b && inB dg 0 ((a.length : Int) + (b.length : Int))) from rfl)
  go_enter Try.func27, Try.ntmps27
  go_wp2_with fail
  refine (impl_pair A B c d a b w hn hm hr hs).mono ?_
  rintro e w1 ⟨rfl, hb1⟩
  by_cases h1 : pair a b = true
  · have H1 := Lib.hid h1
    rw [h1]
    clear h1
    go_wp2_with fail
    refine (ins.impl_any _ _ _ _).mono ?_
    rintro e w2 ⟨rfl, rfl⟩
    by_cases h2 : inB dg 0 ((a.length : Int) + (b.length : Int)) = true
    · have HT := Lib.hid (HR.out.1 (by rw [HO.out, H1.out, h2]; rfl))
      have HOT := Lib.hid (show ok a b dg = true by rw [HO.out, H1.out, h2]; rfl)
      obtain ⟨g1, g2⟩ := inB_iff.1 h2
      rw [h2]
      clear h2
      obtain ⟨n, rfl⟩ := Int.eq_ofNat_of_zero_le g1
      have hnd : n ≤ a.length + b.length := by omega
      go_wp2_with fail
      refine (impl_split A B c d a b n w1 hn hm hnd (hr.below hb1) (hs.below hb1)).mono ?_
      rintro e w2 ⟨rfl, m, rfl⟩
      go_wp2
      go_ret3
      exact ⟨by rw [HT.out.1, HT.out.2, HOT.out]; rfl, below_drewN hb1 _⟩
    · have h2' : inB dg 0 ((a.length : Int) + (b.length : Int)) = false := by simpa using h2
      have HOT := Lib.hid (show ok a b dg = false by rw [HO.out, H1.out, h2']; rfl)
      have HT := Lib.hid (HR.out.2 HOT.out)
      rw [h2']
      clear h2 h2'
      go_wp2
      go_ret3
      exact ⟨by rw [HT.out.1, HT.out.2, HOT.out]; rfl, hb1⟩
  · have h1' : pair a b = false := by simpa using h1
    have HOT := Lib.hid (show ok a b dg = false by rw [HO.out, h1']; rfl)
    have HT := Lib.hid (HR.out.2 HOT.out)
    rw [h1']
    clear h1 h1'
    go_wp2
    go_ret3
    exact ⟨by rw [HT.out.1, HT.out.2, HOT.out]; rfl, hb1⟩
set_option maxRecDepth 100000 in
set_option maxHeartbeats 1000000 in
theorem spec_any (A : Option Addr) (c : Nat) (a : List Int) (B : Option Addr) (d : Nat) (b : List Int) (dg : Int) (w : World) (hn : a.length ≤ 1048576) (hr : Rd w 1 A a.length (ints a)) (hm : b.length ≤ 1048576) (hs : Rd w 1 B b.length (ints b)) :
    Calls Try.prog 26 #[.slice A a.length c, .slice B b.length d, .int .i64 dg] w fun e w' => e = .returned (.tuple #[.int .i64 (r1 a b dg), .int .i64 (r2 a b dg), .bool (ok a b dg)]) ∧ Below w.heap.size w w' := by
  have HR := Lib.hid (show (ok a b dg = true → r1 a b dg = (split a b dg.toNat).1 ∧ r2 a b dg = (split a b dg.toNat).2) ∧ (ok a b dg = false → r1 a b dg = 0 ∧ r2 a b dg = 0) by
    constructor <;> intro h <;> rw [r1, r2, h] <;> exact ⟨rfl, rfl⟩)
  have HO := Lib.hid (show ok a b dg = (pair a b && inB dg 0 ((a.length : Int) + (b.length : Int))) from rfl)
  go_enter Try.func26, Try.ntmps26
  go_wp2_with fail
  refine (spec_pair A B c d a b w hn hm hr hs).mono ?_
  rintro e w1 ⟨rfl, hb1⟩
  by_cases h1 : pair a b = true
  · have H1 := Lib.hid h1
    rw [h1]
    clear h1
    go_wp2_with fail
    refine (ins.spec_any _ _ _ _).mono ?_
    rintro e w2 ⟨rfl, rfl⟩
    by_cases h2 : inB dg 0 ((a.length : Int) + (b.length : Int)) = true
    · have HT := Lib.hid (HR.out.1 (by rw [HO.out, H1.out, h2]; rfl))
      have HOT := Lib.hid (show ok a b dg = true by rw [HO.out, H1.out, h2]; rfl)
      obtain ⟨g1, g2⟩ := inB_iff.1 h2
      rw [h2]
      clear h2
      obtain ⟨n, rfl⟩ := Int.eq_ofNat_of_zero_le g1
      have hnd : n ≤ a.length + b.length := by omega
      go_wp2_with fail
      refine (spec_split A B c d a b n w1 hn hm hnd (hr.below hb1) (hs.below hb1)).mono ?_
      rintro e w2 ⟨rfl, m, rfl⟩
      go_wp2
      go_ret3
      exact ⟨by rw [HT.out.1, HT.out.2, HOT.out]; rfl, below_drewN hb1 _⟩
    · have h2' : inB dg 0 ((a.length : Int) + (b.length : Int)) = false := by simpa using h2
      have HOT := Lib.hid (show ok a b dg = false by rw [HO.out, H1.out, h2']; rfl)
      have HT := Lib.hid (HR.out.2 HOT.out)
      rw [h2']
      clear h2 h2'
      go_wp2
      go_ret3
      exact ⟨by rw [HT.out.1, HT.out.2, HOT.out]; rfl, hb1⟩
  · have h1' : pair a b = false := by simpa using h1
    have HOT := Lib.hid (show ok a b dg = false by rw [HO.out, h1']; rfl)
    have HT := Lib.hid (HR.out.2 HOT.out)
    rw [h1']
    clear h1 h1'
    go_wp2
    go_ret3
    exact ⟨by rw [HT.out.1, HT.out.2, HOT.out]; rfl, hb1⟩
end Go.Proofs.Ytfjmpplpagmpbaa.paths
