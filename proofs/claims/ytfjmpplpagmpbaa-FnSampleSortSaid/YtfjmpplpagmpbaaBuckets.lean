/- The sizes of buckets, the program's and the reference's. Condition: at most 2^20 elements and splitters; BucketSizes: none beyond. -/
import Derived.Test.YtfjmpplpagmpbaaList
set_option linter.unusedVariables false
set_option linter.unusedSimpArgs false
namespace Go.Proofs.Ytfjmpplpagmpbaa.bucketing
open Go.RowKit Go.Proofs.Ytfjmpplpagmpbaa.mem Go.Proofs.Ytfjmpplpagmpbaa.lists

/-! ### the plain law -/
/-- the bucket of x: how many of the first splitters are less -/
def bk (x : Int) : List Int → Nat
  | [] => 0
  | s :: r => if s < x then bk x r + 1 else 0
theorem bk_le (x : Int) : ∀ l : List Int, bk x l ≤ l.length
  | [] => Nat.le_refl _
  | s :: r => by have := bk_le x r; simp only [bk, List.length_cons]; split <;> omega
theorem bk_drop (x : Int) (l : List Int) (k : Nat) (h : k < l.length) : bk x (l.drop k) = if l[k] < x then bk x (l.drop (k + 1)) + 1 else 0 := by
  rw [List.drop_eq_getElem_cons h]; rfl
/-- the counts behind j elements -/
def cnt (zs sp : List Int) : Nat → List Int
  | 0 => List.replicate (sp.length + 1) 0
  | j + 1 => (cnt zs sp j).set (bk (zs.getD j 0) sp) ((cnt zs sp j).getD (bk (zs.getD j 0) sp) 0 + 1)
theorem cnt_len (zs sp : List Int) : ∀ j, (cnt zs sp j).length = sp.length + 1
  | 0 => by simp [cnt]
  | j + 1 => by simp [cnt, cnt_len zs sp j]
theorem cnt_bd (zs sp : List Int) : ∀ (j i : Nat), 0 ≤ (cnt zs sp j).getD i 0 ∧ (cnt zs sp j).getD i 0 ≤ j
  | 0, i => by
    simp only [cnt]
    rw [List.getD_eq_getElem?_getD, List.getElem?_replicate]; split <;> simp
  | j + 1, i => by
    have h := cnt_bd zs sp j (bk (zs.getD j 0) sp)
    have h2 := cnt_bd zs sp j i
    simp only [cnt]
    rw [List.getD_eq_getElem?_getD, List.getElem?_set]
    split
    · split
      · simp only [Option.getD_some]; omega
      · simp only [Option.getD_none]; omega
    · rw [← List.getD_eq_getElem?_getD]; omega
def buckets (zs sp : List Int) : List Int := cnt zs sp zs.length
theorem buckets_len (zs sp : List Int) : (buckets zs sp).length = sp.length + 1 := cnt_len _ _ _

set_option maxRecDepth 100000 in
set_option maxHeartbeats 1000000 in
theorem impl_any (A B : Option Addr) (c d : Nat) (zs sp : List Int) (w : World) (hn : zs.length ≤ 1048576) (hm : sp.length ≤ 1048576) (hr : Rd w 1 A zs.length (ints zs)) (hs : Rd w 1 B sp.length (ints sp)) :
    Calls Try.prog 52 #[.slice A zs.length c, .slice B sp.length d] w fun e w' => ∃ v, e = .returned v ∧ w'.ownsRow w.heap.size 3 1 v (buckets zs sp).length (ints (buckets zs sp)) ∧ Below w.heap.size w w' := by
  have hmk : ∀ W : World, (Instr.makeSlice 22 (.int .i64 ((sp.length : Int) + 1)) (.int .i64 ((sp.length : Int) + 1))).run Try.prog W = .ok (.slice (some ⟨W.heap.size, 0, none⟩) (sp.length + 1) (sp.length + 1)) (W.alloc (.cells (rep (sp.length + 1) (.int .i64 0)) 3)) :=
    make_rep (P := Try.prog) 22 3 _ _ Try.underlying22 info_int rfl (sp.length + 1) (by omega) (by unfold maxLen; omega)
  go_enter Try.func52, Try.ntmps52
  go_wp2
  go_loopw [15] (fun i wr => ∃ j : Nat, j ≤ zs.length ∧ i = .int .i64 (j : Int) ∧ wr.ownsRow w.heap.size 3 1 (.slice (some ⟨w.heap.size, 0, none⟩) (sp.length + 1) (sp.length + 1)) (sp.length + 1) (ints (cnt zs sp j)) ∧ Below w.heap.size w wr) (fun i _ => zs.length - (intOf i).toNat)
  case atStart =>
    refine ⟨0, by omega, rfl, ?_, (Below.refl _ _).alloc (Nat.le_refl _) _⟩
    have h := (Blk.new w 3 (rep (sp.length + 1) (.int .i64 0))).own (base := w.heap.size) (size := 1) (n := sp.length + 1) (c := sp.length + 1) (Nat.le_refl _) (Nat.le_refl _) (by unfold maxLen; omega) (by simp [rep])
    rw [List.take_of_length_le (by simp [rep])] at h
    have e : (rep (sp.length + 1) (.int .i64 0)).toList = ints (cnt zs sp 0) := by simp [rep, ints, cnt]
    rwa [e] at h
  case round =>
    obtain ⟨j, hj, rfl, ho, hb⟩ := hrel
    clear hmk
    have hl := cnt_len zs sp j
    have hcb := cnt_bd zs sp j
    have HC := Lib.hid (show cnt zs sp (j + 1) = (cnt zs sp j).set (bk (zs.getD j 0) sp) ((cnt zs sp j).getD (bk (zs.getD j 0) sp) 0 + 1) from rfl)
    obtain ⟨cs, hcs⟩ : ∃ cs, cs = cnt zs sp j := ⟨_, rfl⟩
    rw [← hcs] at ho hl hcb HC
    have HCS := Lib.hid hcs
    have HL := Lib.hid hl
    have HCB := Lib.hid hcb
    clear hcs hl hcb
    by_cases hlt : j < zs.length
    · obtain ⟨b, off, rfl, hx⟩ := (hr.below hb).int hlt
      rw [getD_at zs hlt] at HC
      generalize zs[j] = x at hx HC
      have hle := bk_le x sp
      obtain ⟨wo, hwo⟩ : ∃ wo : World, wo = wr := ⟨_, rfl⟩
      subst hwo
      go_wp2
      go_loopw [8] (fun i wi => ∃ k m : Nat, k ≤ sp.length ∧ i = .int .i64 (k : Int) ∧ bk x sp = k + bk x (sp.drop k) ∧ wi = wo.drewN m) (fun i _ => sp.length - (intOf i).toNat)
      case atStart => exact ⟨0, 0, by omega, rfl, by simp, rfl⟩
      case round =>
        obtain ⟨k, m, hk, rfl, hbk, rfl⟩ := hrel
        have HB := Lib.hid hbk
        clear hbk
        by_cases hmore : k < sp.length
        · obtain ⟨b2, off2, rfl, hy⟩ := (hs.below hb).int hmore
          have HD := Lib.hid (bk_drop x sp k hmore)
          generalize sp[k] = y at hy HD
          have q1 : (k : Int) < (sp.length : Int) := by omega
          have q2 : (j : Int) < (zs.length : Int) := by omega
          by_cases hyx : y < x
          · have HB2 := Lib.hid (show bk x sp = (k + 1) + bk x (sp.drop (k + 1)) by rw [HB.out, HD.out, if_pos hyx]; omega)
            go_wp2
            go_roundw
            case rel => exact ⟨k + 1, _, by omega, by go_num, HB2.out, rfl⟩
            case measure => simp [intOf]; omega
          · have HB2 := Lib.hid (show bk x sp = k by rw [HB.out, HD.out, if_neg hyx]; rfl)
            have q3 : decide (y < x) = false := by simpa using hyx
            have ho2 := own_drewN ho (m)
            have hlt3 : k < cs.length := by have := HL.out; omega
            have hcell := own_cell ho2 (ints_getD cs k hlt3)
            have hfz := own_thaw ho2 k
            have hbd := HCB.out k
            have hp := own_put ho2 (i := k) (by rw [len_ints]; exact hlt3) (.int .i64 (cs.getD k 0 + 1))
            rw [ints_set] at hp
            have hb3 := (below_drewN hb (m)).setCell (p := ⟨w.heap.size, k, none⟩) (Nat.le_refl _) (.int .i64 (cs.getD k 0 + 1))
            have HC2 := Lib.hid (show cnt zs sp (j + 1) = cs.set k (cs.getD k 0 + 1) by rw [HC.out, HB2.out])
            generalize cs.getD k 0 = y0 at hcell hbd hp hb3 HC2
            clear ho2
            go_wp2
            go_roundw
            case rel => exact ⟨j + 1, by omega, by go_num, by rw [HC2.out]; exact hp, hb3⟩
            case measure => simp [intOf]; omega
        · have HB2 := Lib.hid (show bk x sp = k by rw [HB.out, List.drop_of_length_le (by omega)]; rfl)
          have q3 : decide ((k : Int) < (sp.length : Int)) = false := by simpa using hmore
          have ho2 := own_drewN ho (m)
          have hlt3 : k < cs.length := by have := HL.out; omega
          have hcell := own_cell ho2 (ints_getD cs k hlt3)
          have hfz := own_thaw ho2 k
          have hbd := HCB.out k
          have hp := own_put ho2 (i := k) (by rw [len_ints]; exact hlt3) (.int .i64 (cs.getD k 0 + 1))
          rw [ints_set] at hp
          have hb3 := (below_drewN hb (m)).setCell (p := ⟨w.heap.size, k, none⟩) (Nat.le_refl _) (.int .i64 (cs.getD k 0 + 1))
          have HC2 := Lib.hid (show cnt zs sp (j + 1) = cs.set k (cs.getD k 0 + 1) by rw [HC.out, HB2.out])
          generalize cs.getD k 0 = y0 at hcell hbd hp hb3 HC2
          clear ho2
          go_wp2
          go_roundw
          case rel => exact ⟨j + 1, by omega, by go_num, by rw [HC2.out]; exact hp, hb3⟩
          case measure => simp [intOf]; omega
    · have HE := Lib.hid (show cs = buckets zs sp by rw [HCS.out, buckets, show j = zs.length by omega])
      have HL2 := Lib.hid (show sp.length + 1 = (buckets zs sp).length by rw [buckets_len])
      rw [HE.out] at ho
      go_wp2
      go_ret
      exact ⟨_, rfl, by rw [← HL2.out]; exact ho, hb⟩
set_option maxRecDepth 100000 in
set_option maxHeartbeats 1000000 in
theorem spec_any (A B : Option Addr) (c d : Nat) (zs sp : List Int) (w : World) (hn : zs.length ≤ 1048576) (hm : sp.length ≤ 1048576) (hr : Rd w 1 A zs.length (ints zs)) (hs : Rd w 1 B sp.length (ints sp)) :
    Calls Try.prog 49 #[.slice A zs.length c, .slice B sp.length d] w fun e w' => ∃ v, e = .returned v ∧ w'.ownsRow w.heap.size 3 1 v (buckets zs sp).length (ints (buckets zs sp)) ∧ Below w.heap.size w w' := by
  have hmk : ∀ W : World, (Instr.makeSlice 22 (.int .i64 ((sp.length : Int) + 1)) (.int .i64 ((sp.length : Int) + 1))).run Try.prog W = .ok (.slice (some ⟨W.heap.size, 0, none⟩) (sp.length + 1) (sp.length + 1)) (W.alloc (.cells (rep (sp.length + 1) (.int .i64 0)) 3)) :=
    make_rep (P := Try.prog) 22 3 _ _ Try.underlying22 info_int rfl (sp.length + 1) (by omega) (by unfold maxLen; omega)
  go_enter Try.func49, Try.ntmps49
  go_wp2
  go_loopw [6] (fun i wr => ∃ j : Nat, j ≤ zs.length ∧ i = .int .i64 (j : Int) ∧ wr.ownsRow w.heap.size 3 1 (.slice (some ⟨w.heap.size, 0, none⟩) (sp.length + 1) (sp.length + 1)) (sp.length + 1) (ints (cnt zs sp j)) ∧ Below w.heap.size w wr) (fun i _ => zs.length - (intOf i).toNat)
  case atStart =>
    refine ⟨0, by omega, rfl, ?_, (Below.refl _ _).alloc (Nat.le_refl _) _⟩
    have h := (Blk.new w 3 (rep (sp.length + 1) (.int .i64 0))).own (base := w.heap.size) (size := 1) (n := sp.length + 1) (c := sp.length + 1) (Nat.le_refl _) (Nat.le_refl _) (by unfold maxLen; omega) (by simp [rep])
    rw [List.take_of_length_le (by simp [rep])] at h
    have e : (rep (sp.length + 1) (.int .i64 0)).toList = ints (cnt zs sp 0) := by simp [rep, ints, cnt]
    rwa [e] at h
  case round =>
    obtain ⟨j, hj, rfl, ho, hb⟩ := hrel
    clear hmk
    have hl := cnt_len zs sp j
    have hcb := cnt_bd zs sp j
    have HC := Lib.hid (show cnt zs sp (j + 1) = (cnt zs sp j).set (bk (zs.getD j 0) sp) ((cnt zs sp j).getD (bk (zs.getD j 0) sp) 0 + 1) from rfl)
    obtain ⟨cs, hcs⟩ : ∃ cs, cs = cnt zs sp j := ⟨_, rfl⟩
    rw [← hcs] at ho hl hcb HC
    have HCS := Lib.hid hcs
    have HL := Lib.hid hl
    have HCB := Lib.hid hcb
    clear hcs hl hcb
    by_cases hlt : j < zs.length
    · obtain ⟨b, off, rfl, hx⟩ := (hr.below hb).int hlt
      rw [getD_at zs hlt] at HC
      generalize zs[j] = x at hx HC
      have hle := bk_le x sp
      obtain ⟨wo, hwo⟩ : ∃ wo : World, wo = wr := ⟨_, rfl⟩
      subst hwo
      go_wp2
      go_loopw [7] (fun i wi => ∃ k m : Nat, k ≤ sp.length ∧ i = .int .i64 (k : Int) ∧ bk x sp = k + bk x (sp.drop k) ∧ wi = wo.drewN m) (fun i _ => sp.length - (intOf i).toNat)
      case atStart => exact ⟨0, 0, by omega, rfl, by simp, rfl⟩
      case round =>
        obtain ⟨k, m, hk, rfl, hbk, rfl⟩ := hrel
        have HB := Lib.hid hbk
        clear hbk
        by_cases hmore : k < sp.length
        · obtain ⟨b2, off2, rfl, hy⟩ := (hs.below hb).int hmore
          have HD := Lib.hid (bk_drop x sp k hmore)
          generalize sp[k] = y at hy HD
          have q1 : (k : Int) < (sp.length : Int) := by omega
          have q2 : (j : Int) < (zs.length : Int) := by omega
          by_cases hyx : y < x
          · have HB2 := Lib.hid (show bk x sp = (k + 1) + bk x (sp.drop (k + 1)) by rw [HB.out, HD.out, if_pos hyx]; omega)
            go_wp2_with fail
            go_quiet (fail)
            go_wp2
            go_roundw
            case rel => exact ⟨k + 1, _, by omega, by go_num, HB2.out, rfl⟩
            case measure => simp [intOf]; omega
          · have HB2 := Lib.hid (show bk x sp = k by rw [HB.out, HD.out, if_neg hyx]; rfl)
            have q3 : decide (y < x) = false := by simpa using hyx
            go_wp2_with fail
            go_quiet (fail)
            have ho2 := own_drewN ho (m + nq)
            have hlt3 : k < cs.length := by have := HL.out; omega
            have hcell := own_cell ho2 (ints_getD cs k hlt3)
            have hfz := own_thaw ho2 k
            have hbd := HCB.out k
            have hp := own_put ho2 (i := k) (by rw [len_ints]; exact hlt3) (.int .i64 (cs.getD k 0 + 1))
            rw [ints_set] at hp
            have hb3 := (below_drewN hb (m + nq)).setCell (p := ⟨w.heap.size, k, none⟩) (Nat.le_refl _) (.int .i64 (cs.getD k 0 + 1))
            have HC2 := Lib.hid (show cnt zs sp (j + 1) = cs.set k (cs.getD k 0 + 1) by rw [HC.out, HB2.out])
            generalize cs.getD k 0 = y0 at hcell hbd hp hb3 HC2
            clear ho2
            go_wp2
            go_roundw
            case rel => exact ⟨j + 1, by omega, by go_num, by rw [HC2.out]; exact hp, hb3⟩
            case measure => simp [intOf]; omega
        · have HB2 := Lib.hid (show bk x sp = k by rw [HB.out, List.drop_of_length_le (by omega)]; rfl)
          have q3 : decide ((k : Int) < (sp.length : Int)) = false := by simpa using hmore
          go_wp2_with fail
          go_quiet (fail)
          have ho2 := own_drewN ho (m + nq)
          have hlt3 : k < cs.length := by have := HL.out; omega
          have hcell := own_cell ho2 (ints_getD cs k hlt3)
          have hfz := own_thaw ho2 k
          have hbd := HCB.out k
          have hp := own_put ho2 (i := k) (by rw [len_ints]; exact hlt3) (.int .i64 (cs.getD k 0 + 1))
          rw [ints_set] at hp
          have hb3 := (below_drewN hb (m + nq)).setCell (p := ⟨w.heap.size, k, none⟩) (Nat.le_refl _) (.int .i64 (cs.getD k 0 + 1))
          have HC2 := Lib.hid (show cnt zs sp (j + 1) = cs.set k (cs.getD k 0 + 1) by rw [HC.out, HB2.out])
          generalize cs.getD k 0 = y0 at hcell hbd hp hb3 HC2
          clear ho2
          go_wp2
          go_roundw
          case rel => exact ⟨j + 1, by omega, by go_num, by rw [HC2.out]; exact hp, hb3⟩
          case measure => simp [intOf]; omega
    · have HE := Lib.hid (show cs = buckets zs sp by rw [HCS.out, buckets, show j = zs.length by omega])
      have HL2 := Lib.hid (show sp.length + 1 = (buckets zs sp).length by rw [buckets_len])
      rw [HE.out] at ho
      go_wp2
      go_ret
      exact ⟨_, rfl, by rw [← HL2.out]; exact ho, hb⟩

def ok (zs sp : List Int) : Bool := vlist zs && (vlist sp && (asc sp && decide (sp.length < 16)))
def res (zs sp : List Int) : List Int := if ok zs sp = true then buckets zs sp else []
theorem ok_no1 {zs sp : List Int} (h : vlist zs = false) : ok zs sp = false ∧ res zs sp = [] := by simp [res, ok, h]
theorem ok_no2 {zs sp : List Int} (h : vlist sp = false) : ok zs sp = false ∧ res zs sp = [] := by simp [res, ok, h]
theorem ok_no3 {zs sp : List Int} (h : asc sp = false) : ok zs sp = false ∧ res zs sp = [] := by simp [res, ok, h]
theorem ok_no4 {zs sp : List Int} (h : ¬ sp.length < 16) : ok zs sp = false ∧ res zs sp = [] := by simp [res, ok, h]
theorem ok_yes {zs sp : List Int} (h1 : vlist zs = true) (h2 : vlist sp = true) (h3 : asc sp = true) (h4 : sp.length < 16) : ok zs sp = true ∧ res zs sp = buckets zs sp := by simp [res, ok, h1, h2, h3, h4]

set_option maxRecDepth 100000 in
set_option maxHeartbeats 1000000 in
theorem impl_sizes (A : Option Addr) (c : Nat) (zs : List Int) (B : Option Addr) (d : Nat) (sp : List Int) (w : World) (hn : zs.length ≤ 1048576) (hr : Rd w 1 A zs.length (ints zs)) (hm : sp.length ≤ 1048576) (hs : Rd w 1 B sp.length (ints sp)) :
    Calls Try.prog 17 #[.slice A zs.length c, .slice B sp.length d] w fun e w' => ∃ v, e = .returned (.tuple #[v, .bool (ok zs sp)]) ∧ OwnI w w' v (res zs sp) ∧ Below w.heap.size w w' := by
  have HO1 := Lib.hid (@ok_no1 zs sp)
  have HO2 := Lib.hid (@ok_no2 zs sp)
  have HO3 := Lib.hid (@ok_no3 zs sp)
  have HO4 := Lib.hid (@ok_no4 zs sp)
  have HO5 := Lib.hid (@ok_yes zs sp)
  go_enter Try.func17, Try.ntmps17
  go_wp2_with fail
  refine (lists.impl_any A c zs w hn hr).mono ?_
  rintro e w1 ⟨rfl, hb1⟩
  by_cases h1 : vlist zs = true
  · have H1 := Lib.hid h1
    rw [h1]
    clear h1
    go_wp2_with fail
    refine (lists.impl_any B d sp w1 hm (hs.below hb1)).mono ?_
    rintro e w2 ⟨rfl, hb2⟩
    have hb3 := below_step hb1 hb2
    by_cases h2 : vlist sp = true
    · have H2 := Lib.hid h2
      rw [h2]
      clear h2
      go_wp2_with fail
      refine (lists.descent_any B d sp w2 hm (hs.below hb3)).mono ?_
      rintro e w3 ⟨⟨x, rfl, hx⟩, m, rfl⟩
      have HX := Lib.hid hx
      clear hx
      by_cases h3 : 0 ≤ x
      · have HF := Lib.hid (HO3.out (by rw [HX.out]; simpa using h3))
        go_wp2
        go_ret2
        exact ⟨_, by rw [HF.out.1]; rfl, ⟨by rw [HF.out.2]; exact World.ownsRow_nil _ _ _ _, by rw [HF.out.2]; simp⟩, below_drewN hb3 _⟩
      · by_cases h4 : sp.length < 16
        · have HT := Lib.hid (HO5.out H1.out H2.out (by rw [HX.out]; simpa using (show x < 0 by omega)) h4)
          go_wp2_with fail
          refine (bucketing.impl_any A B c d zs sp _ hn hm ((hr.below hb3).drewN m) ((hs.below hb3).drewN m)).mono ?_
          rintro e w4 ⟨v, rfl, ho, hb4⟩
          have hb5 := below_step (below_drewN hb3 m) hb4
          have HL := Lib.hid (show (buckets zs sp).length ≤ 1048576 by rw [buckets_len]; omega)
          go_wp2
          go_ret2
          exact ⟨_, by rw [HT.out.1]; rfl, ⟨by rw [HT.out.2]; exact own_base ho hb3.size, by rw [HT.out.2]; exact HL.out⟩, hb5⟩
        · have HF := Lib.hid (HO4.out h4)
          go_wp2
          go_ret2
          exact ⟨_, by rw [HF.out.1]; rfl, ⟨by rw [HF.out.2]; exact World.ownsRow_nil _ _ _ _, by rw [HF.out.2]; simp⟩, below_drewN hb3 _⟩
    · have h2' : vlist sp = false := by simpa using h2
      have HF := Lib.hid (HO2.out h2')
      rw [h2']
      clear h2 h2'
      go_wp2
      go_ret2
      exact ⟨_, by rw [HF.out.1]; rfl, ⟨by rw [HF.out.2]; exact World.ownsRow_nil _ _ _ _, by rw [HF.out.2]; simp⟩, hb3⟩
  · have h1' : vlist zs = false := by simpa using h1
    have HF := Lib.hid (HO1.out h1')
    rw [h1']
    clear h1 h1'
    go_wp2
    go_ret2
    exact ⟨_, by rw [HF.out.1]; rfl, ⟨by rw [HF.out.2]; exact World.ownsRow_nil _ _ _ _, by rw [HF.out.2]; simp⟩, hb1⟩

set_option maxRecDepth 100000 in
set_option maxHeartbeats 1000000 in
theorem spec_sizes (A : Option Addr) (c : Nat) (zs : List Int) (B : Option Addr) (d : Nat) (sp : List Int) (w : World) (hn : zs.length ≤ 1048576) (hr : Rd w 1 A zs.length (ints zs)) (hm : sp.length ≤ 1048576) (hs : Rd w 1 B sp.length (ints sp)) :
    Calls Try.prog 15 #[.slice A zs.length c, .slice B sp.length d] w fun e w' => ∃ v, e = .returned (.tuple #[v, .bool (ok zs sp)]) ∧ OwnI w w' v (res zs sp) ∧ Below w.heap.size w w' := by
  have HO1 := Lib.hid (@ok_no1 zs sp)
  have HO2 := Lib.hid (@ok_no2 zs sp)
  have HO3 := Lib.hid (@ok_no3 zs sp)
  have HO4 := Lib.hid (@ok_no4 zs sp)
  have HO5 := Lib.hid (@ok_yes zs sp)
  go_enter Try.func15, Try.ntmps15
  go_wp2_with fail
  refine (lists.spec_any A c zs w hn hr).mono ?_
  rintro e w1 ⟨rfl, rfl⟩
  by_cases h1 : vlist zs = true
  · have H1 := Lib.hid h1
    rw [h1]
    clear h1
    go_wp2_with fail
    refine (lists.spec_asc B d sp w hm hs).mono ?_
    rintro e w2 ⟨rfl, hb2⟩
    by_cases h2 : (asc sp && vlist sp) = true
    · have H2 := Lib.hid (Bool.and_eq_true _ _ ▸ h2)
      rw [h2]
      clear h2
      by_cases h4 : sp.length < 16
      · have HT := Lib.hid (HO5.out H1.out H2.out.2 H2.out.1 h4)
        go_wp2_with fail
        refine (bucketing.spec_any A B c d zs sp _ hn hm (hr.below hb2) (hs.below hb2)).mono ?_
        rintro e w4 ⟨v, rfl, ho, hb4⟩
        have hb5 := below_step hb2 hb4
        have HL := Lib.hid (show (buckets zs sp).length ≤ 1048576 by rw [buckets_len]; omega)
        go_wp2
        go_ret2
        exact ⟨_, by rw [HT.out.1]; rfl, ⟨by rw [HT.out.2]; exact own_base ho hb2.size, by rw [HT.out.2]; exact HL.out⟩, hb5⟩
      · have HF := Lib.hid (HO4.out h4)
        have hm0 := World.ownsRow_made (e := 3) (size := 1) w2 #[] 0 (Nat.le_refl _) (Nat.zero_le _) (by simp)
        go_wp2
        go_ret2
        exact ⟨_, by rw [HF.out.1]; rfl, ⟨by rw [HF.out.2]; exact own_base hm0 hb2.size, by rw [HF.out.2]; simp⟩, hb2.alloc hb2.size _⟩
    · have h2' : (asc sp && vlist sp) = false := by simpa using h2
      have HF := Lib.hid (show ok zs sp = false ∧ res zs sp = [] by
        rcases Bool.and_eq_false_iff.1 h2' with h | h
        · exact HO3.out h
        · exact HO2.out h)
      have hm0 := World.ownsRow_made (e := 3) (size := 1) w2 #[] 0 (Nat.le_refl _) (Nat.zero_le _) (by simp)
      rw [h2']
      clear h2 h2'
      go_wp2
      go_ret2
      exact ⟨_, by rw [HF.out.1]; rfl, ⟨by rw [HF.out.2]; exact own_base hm0 hb2.size, by rw [HF.out.2]; simp⟩, hb2.alloc hb2.size _⟩
  · have h1' : vlist zs = false := by simpa using h1
    have HF := Lib.hid (HO1.out h1')
    have hm0 := World.ownsRow_made (e := 3) (size := 1) w #[] 0 (Nat.le_refl _) (Nat.zero_le _) (by simp)
    rw [h1']
    clear h1 h1'
    go_wp2
    go_ret2
    exact ⟨_, by rw [HF.out.1]; rfl, ⟨by rw [HF.out.2]; exact hm0, by rw [HF.out.2]; simp⟩, (Below.refl _ _).alloc (Nat.le_refl _) _⟩
end Go.Proofs.Ytfjmpplpagmpbaa.bucketing
