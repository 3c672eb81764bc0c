/- The laws' helpers at lists of coded strings: the size, a copy. Condition: fewer than 2^20 elements for the copy. -/
import Derived.Test.YtaeimdcmpjanbaaLawCod
set_option linter.unusedVariables false
set_option linter.unusedSimpArgs false
namespace Go.Proofs.Ytaeimdcmpjanbaa.lawCoded
open Go.RowKit Go.Proofs.Ytaeimdcmpjanbaa.mem Go.Proofs.Ytaeimdcmpjanbaa.lawStr

def d0 : Cod := ⟨0, ByteArray.empty⟩
/-- what is copied so far -/
def part (gs : List Cod) (k : Nat) : List Cod := gs.take k ++ List.replicate (gs.length - k) d0
theorem part_len (gs : List Cod) {k : Nat} (h : k ≤ gs.length) : (part gs k).length = gs.length := by simp [part]; omega
theorem part_zero (gs : List Cod) : part gs 0 = List.replicate gs.length d0 := by simp [part]
theorem part_end (gs : List Cod) : part gs gs.length = gs := by simp [part]
theorem part_at (gs : List Cod) {k : Nat} (h : k < gs.length) : (part gs k)[k]'(by rw [part_len gs (by omega)]; exact h) = d0 := by
  simp only [part]
  rw [List.getElem_append_right (by rw [List.length_take]; omega)]
  simp
theorem part_step (gs : List Cod) {k : Nat} (h : k < gs.length) : (part gs k).set k gs[k] = part gs (k + 1) := by
  simp only [part]
  rw [List.take_succ_eq_append_getElem h, List.set_append_right _ _ (by rw [List.length_take]; omega)]
  rw [show gs.length - k = gs.length - (k + 1) + 1 by omega, List.replicate_succ, List.length_take, Nat.min_eq_left (Nat.le_of_lt h), Nat.sub_self, List.set_cons_zero, List.append_assoc]
  rfl
theorem set_cod : ∀ (l : List Cod) (i : Nat) (x : Cod), (((cods l).set (i * 2) (.int .i64 x.shared)).set (i * 2 + 1) (.string x.rest)) = cods (l.set i x)
  | [], i, x => by simp [cods]
  | a :: l, 0, x => by simp [cods, Cod.cells]
  | a :: l, i + 1, x => by
    have ih := set_cod l i x
    rw [List.set_cons_succ, cods_cons, cods_cons, ← ih]
    have e1 : (i + 1) * 2 = a.cells.length + i * 2 := by simp [Cod.cells]; omega
    rw [List.set_append_right _ _ (by omega), List.set_append_right _ _ (by omega), show (i + 1) * 2 - a.cells.length = i * 2 by omega, show (i + 1) * 2 + 1 - a.cells.length = i * 2 + 1 by omega]
theorem made_cod (m : Nat) : madeCells (Value.agg #[.int .i64 0, .string ByteArray.empty]).cells (m * 2) = (cods (List.replicate m d0)).toArray := by
  apply Array.ext
  · simp [madeCells, len_cods]
  · intro i h1 h2
    have hi : i < m * 2 := by simpa [madeCells] using h1
    have hl : i < (cods (List.replicate m d0)).length := by rw [len_cods, List.length_replicate]; exact hi
    have hq : i / 2 < (List.replicate m d0).length := by rw [List.length_replicate]; omega
    have ha := cods_at (List.replicate m d0) (i / 2) (i % 2) hq (Nat.mod_lt _ (by omega))
    rw [show i / 2 * 2 + i % 2 = i by omega, List.getElem?_eq_getElem hl, List.getElem_replicate] at ha
    have hr : i % 2 = 0 ∨ i % 2 = 1 := by omega
    simp only [madeCells, Value.cells, Array.getElem_map, Array.getElem_range, List.getElem_toArray]
    rcases hr with hr | hr
    · rw [hr] at ha
      have := Option.some.inj ha
      rw [this]
      show (#[Value.int .i64 0, Value.string ByteArray.empty] : Array Value)[i % 2]! = _
      rw [hr]; rfl
    · rw [hr] at ha
      have := Option.some.inj ha
      rw [this]
      show (#[Value.int .i64 0, Value.string ByteArray.empty] : Array Value)[i % 2]! = _
      rw [hr]; rfl
theorem make_cod {P : Program} (t e : TypeId) (ht : P.underlying t = some (.slice e)) (hi : (P.info? e).map (fun i => (i.zero, i.size, i.bytes)) = some (some (.agg #[.int .i64 0, .string ByteArray.empty]), 2, 24)) (m : Nat) (hm : m ≤ 1099511627776) (w : World) :
    (Instr.makeSlice t (.int .i64 (m : Int)) (.int .i64 (m : Int))).run P w = .ok (.slice (some ⟨w.heap.size, 0, none⟩) m m) (w.alloc (.cells (cods (List.replicate m d0)).toArray e)) := by
  obtain ⟨i0, hi0, hz0, hz1, hz2⟩ := info_parts hi
  have hr := run_make (P := P) w t e i0 _ ht hi0 hz0 .i64 .i64 m m (by omega) (by omega) (by rw [hz2]; omega) (by omega)
  simp only [Int.toNat_natCast, hz1] at hr
  rw [hr, made_cod]
set_option maxRecDepth 100000 in
set_option maxHeartbeats 1000000 in
theorem to_one (x0 : Int) (x1 : ByteArray) (w : World) :
    Calls Try.prog 58 #[.agg #[.int .i64 x0, .string x1]] w fun e w' => e = .returned (.agg #[.int .i64 x0, .string x1]) ∧ Below w.heap.size w w' := by
  have b1 : ∀ (B : Nat) (W X : World) (o : Obj), B ≤ X.heap.size → Below B W X → Below B W (X.alloc o) := fun B W X o h k => k.alloc h o
  have b2 : ∀ (X : World) (o : Obj), (X.alloc o).heap.size = X.heap.size + 1 := fun X o => by simp
  have B1 := Lib.hid b1
  have B2 := Lib.hid b2
  clear b1 b2
  go_enter Try.func58, Try.ntmps58
  go_wp2
  exact bodyPost_ret (v := .agg #[.int .i64 x0, .string x1]) (by simp [results, Try.results58, go_sem]) rfl ⟨rfl, B1.out _ _ _ _ (by rw [B2.out, B2.out]; omega) (B1.out _ _ _ _ (by rw [B2.out]; omega) (B1.out _ _ _ _ (Nat.le_refl _) (Below.refl _ _)))⟩
set_option maxRecDepth 100000 in
set_option maxHeartbeats 2000000 in
theorem to_any (A : Option Addr) (c : Nat) (gs : List Cod) (w : World) (hn : gs.length ≤ 1048576) (hr : Rd w 2 A gs.length (cods gs)) :
    Calls Try.prog 38 #[.slice A gs.length c] w fun e w' => ∃ v, e = .returned v ∧ w'.ownsRow w.heap.size 57 2 v gs.length (cods gs) ∧ Below w.heap.size w w' := by
  have hmk := make_cod (P := Try.prog) 34 57 Try.underlying34 info_cod gs.length (by omega)
  go_enter Try.func38, Try.ntmps38
  go_wp2
  go_loopw [4] (fun i wr => ∃ k : Nat, k ≤ gs.length ∧ i = .int .i64 k ∧ Blk wr w.heap.size 57 (cods (part gs k)).toArray ∧ Below w.heap.size w wr) (fun i _ => gs.length - (intOf i).toNat)
  case atStart => exact ⟨0, by omega, rfl, by rw [part_zero]; exact Blk.new _ _ _, (Below.refl _ _).alloc (Nat.le_refl _) _⟩
  case round =>
    obtain ⟨k, hk, rfl, hB, hb⟩ := hrel
    clear hmk
    by_cases hlt : k < gs.length
    · obtain ⟨b, off, rfl, h0, h1⟩ := (hr.below hb).cod hlt
      have HPS := Lib.hid (part_step gs hlt)
      have HPL := Lib.hid (part_len gs hk)
      have HPA := Lib.hid (fun j (hj : j < 2) => (cods_at (part gs k) k j (by rw [HPL.out]; exact hlt) hj).trans (by rw [part_at gs hlt]))
      obtain ⟨g, hg⟩ : ∃ g, g = gs[k] := ⟨_, rfl⟩
      rw [← hg] at h0 h1 HPS
      clear hg
      have hlt2 : k * 2 + 2 ≤ gs.length * 2 := by omega
      generalize part gs k = pk at hB HPS HPL HPA
      go_wp2_with fail
      refine (to_one _ _ _).mono ?_
      rintro e w2 ⟨rfl, hb1⟩
      have hB1 := hB.below hb1 hB.lt
      have hb2 := below_at hb hb.size hb1
      have hB3 := Lib.hid (show Blk ((w2.setCell ⟨w.heap.size, k * 2, none⟩ (.int .i64 g.shared)).setCell ⟨w.heap.size, k * 2 + 1, none⟩ (.string g.rest)) w.heap.size 57 (cods (part gs (k + 1))).toArray by
        have h := (hB1.put (k * 2) (.int .i64 g.shared)).put (k * 2 + 1) (.string g.rest)
        rw [List.setIfInBounds_toArray, List.setIfInBounds_toArray, set_cod, HPS.out] at h
        exact h)
      have c0 : w2.cell? ⟨w.heap.size, k * 2, none⟩ = some (.int .i64 0) := by
        rw [hB1.cell, List.getElem?_toArray]; exact HPA.out 0 (by omega)
      have f0 := hB1.thaw (k * 2)
      have c1 : w2.cell? ⟨w.heap.size, k * 2 + 1, none⟩ = some (.string ByteArray.empty) := by
        rw [hB1.cell, List.getElem?_toArray]; exact HPA.out 1 (by omega)
      have f1 := hB1.thaw (k * 2 + 1)
      have hb3 := ((hb2.setCell (p := ⟨w.heap.size, k * 2, none⟩) (Nat.le_refl _) (.int .i64 g.shared)).setCell (p := ⟨w.heap.size, k * 2 + 1, none⟩) (Nat.le_refl _) (.string g.rest))
      clear hB hB1
      go_wp2
      go_roundw
      case rel => exact ⟨k + 1, by omega, by go_num, hB3.out, hb3⟩
      case measure => simp [intOf]; omega
    · have hO : wr.ownsRow w.heap.size 57 2 (.slice (some ⟨w.heap.size, 0, none⟩) gs.length gs.length) gs.length (cods gs) := by
        obtain rfl : k = gs.length := by omega
        rw [part_end] at hB
        have h := hB.own (base := w.heap.size) (size := 2) (n := gs.length) (c := gs.length) (Nat.le_refl _) (Nat.le_refl _) (by unfold maxLen; omega) (by simp [len_cods])
        rwa [← len_cods gs, List.take_of_length_le (by simp)] at h
      clear hB
      go_wp2
      go_ret
      exact ⟨_, rfl, hO, hb⟩
/-- how many bytes -/
def total (gs : List Cod) : Nat := (gs.map fun g => g.rest.size).sum
theorem total_step (ss : List Cod) (k : Nat) (hk : k < ss.length) : total (ss.take (k + 1)) = total (ss.take k) + ss[k].rest.size := by
  unfold total
  rw [List.take_add_one, List.getElem?_eq_getElem hk, List.map_append, List.sum_append]
  simp
theorem total_le (ss : List Cod) (k : Nat) : total (ss.take k) ≤ total ss := by
  unfold total
  conv => rhs; rw [← List.take_append_drop k ss]
  rw [List.map_append, List.sum_append]
  omega
theorem total_mem {ss : List Cod} {s : Cod} (h : s ∈ ss) : s.rest.size ≤ total ss := by
  unfold total
  induction ss with
  | nil => cases h
  | cons x r ih =>
    simp only [List.map_cons, List.sum_cons]
    rcases List.mem_cons.1 h with rfl | h
    · omega
    · have := ih h; omega
set_option maxRecDepth 100000 in
set_option maxHeartbeats 1000000 in
theorem sz_one (x0 : Int) (x1 : ByteArray) (l : Int) (w : World) (h0 : 0 ≤ l) (h1 : l ≤ 1048576) (hs : x1.size ≤ maxLen) :
    Calls Try.prog 56 #[.agg #[.int .i64 x0, .string x1], .int .i64 l] w fun e w' => e = .returned (.int .i64 (szv l x1.size)) ∧ Below w.heap.size w w' := by
  unfold maxLen at hs
  have HB := Lib.hid (fun o => (Below.refl w.heap.size w).alloc (Nat.le_refl _) o)
  by_cases h : (x1.size : Int) ≤ l
  · have HE := Lib.hid (szv_pos h)
    have hq : ¬ l - (x1.size : Int) < 0 := by omega
    go_enter Try.func56, Try.ntmps56
    go_wp2
    go_ret
    exact ⟨ret_int HE.out.symm, HB.out _⟩
  · have HE := Lib.hid (szv_neg h)
    have hq : l - (x1.size : Int) < 0 := by omega
    go_enter Try.func56, Try.ntmps56
    go_wp2
    go_ret
    exact ⟨ret_int HE.out.symm, HB.out _⟩
set_option maxRecDepth 100000 in
set_option maxHeartbeats 1000000 in
theorem sz_any (A : Option Addr) (c : Nat) (ss : List Cod) (l : Int) (w : World) (h0 : 0 ≤ l) (h1 : l ≤ 1048576) (hn : ss.length ≤ maxLen) (hs : ∀ s ∈ ss, s.rest.size ≤ maxLen) (hr : Rd w 2 A ss.length (cods ss)) :
    Calls Try.prog 36 #[.slice A ss.length c, .int .i64 l] w fun e w' => e = .returned (.int .i64 (szv l (ss.length + total ss))) ∧ Below w.heap.size w w' := by
  unfold maxLen at hn
  have HS := Lib.hid hs
  clear hs
  by_cases hl : (ss.length : Int) ≤ l
  · go_enter Try.func36, Try.ntmps36
    go_wp2
    go_loopw [1, 5] (fun x i wr => ∃ (k : Nat) (m : Int), k ≤ ss.length ∧ i = .int .i64 k ∧ x = .int .i64 m ∧ 0 ≤ m ∧ m ≤ l ∧ m = l - (ss.length + total (ss.take k) : Nat) ∧ Below w.heap.size w wr) (fun _ i _ => ss.length - (intOf i).toNat)
    case atStart => exact ⟨0, l - ss.length, by omega, rfl, rfl, by omega, by omega, by simp [total], Below.refl _ _⟩
    case round =>
      obtain ⟨k, m, hk, rfl, rfl, hm0, hm1, hm, hb⟩ := hrel
      have HM := Lib.hid hm
      have HB := Lib.hid hb
      clear hm
      by_cases hlt : k < ss.length
      · obtain ⟨b, off, rfl, c0, c1⟩ := (hr.below hb).cod hlt
        have HSZ := Lib.hid (HS.out ss[k] (List.getElem_mem hlt))
        have HT := Lib.hid (total_step ss k hlt)
        have HTL := Lib.hid (total_le ss (k + 1))
        obtain ⟨g, hg⟩ : ∃ g, g = ss[k] := ⟨_, rfl⟩
        rw [← hg] at c0 c1 HSZ HT
        clear hg hb
        have HZ := Lib.hid (sz_one g.shared g.rest m wr hm0 (by omega) HSZ.out)
        by_cases hneg : m - (g.rest.size : Int) < 0
        · have HE := Lib.hid (szv_neg (l := l) (m := ss.length + total ss) (by have := HM.out; have := HT.out; have := HTL.out; omega))
          have HE2 := Lib.hid (szv_neg (l := m) (m := g.rest.size) (by omega))
          rw [HE2.out] at HZ
          go_wp2_with fail
          with_reducible refine HZ.out.mono ?_
          rintro e w2 ⟨rfl, hb2⟩
          have HB2 := Lib.hid (below_step HB.out hb2)
          go_wp2
          go_ret
          exact ⟨ret_int (by rw [HE.out]), HB2.out⟩
        · have HE2 := Lib.hid (szv_pos (l := m) (m := g.rest.size) (by omega))
          rw [HE2.out] at HZ
          go_wp2_with fail
          with_reducible refine HZ.out.mono ?_
          rintro e w2 ⟨rfl, hb2⟩
          have HB2 := Lib.hid (below_step HB.out hb2)
          go_wp2
          go_roundw
          case rel => exact ⟨k + 1, m - (g.rest.size : Int), by omega, by go_num, rfl, by omega, by omega, by have := HM.out; have := HT.out; omega, HB2.out⟩
          case measure => simp [intOf]; omega
      · have e : k = ss.length := by omega
        have HE := Lib.hid (show szv l (ss.length + total ss) = m by
          have := HM.out
          rw [e, List.take_length] at this
          rw [szv_pos (by omega)]; omega)
        clear e
        go_wp2
        go_ret
        exact ⟨ret_int (by rw [HE.out]), HB.out⟩
  · have HE := Lib.hid (szv_neg (l := l) (m := ss.length + total ss) (by omega))
    go_enter Try.func36, Try.ntmps36
    go_wp2
    go_ret
    exact ⟨ret_int (by rw [HE.out]), Below.refl _ _⟩
end Go.Proofs.Ytaeimdcmpjanbaa.lawCoded
