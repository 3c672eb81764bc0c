/- The laws' helpers at rows of rows of records: the size, a copy, equality, marks, and what is held. Condition: at most 2^20 rows and records. -/
import Derived.Test.YtgffabjajbgbjaaNest
import Derived.Test.YtgffabjajbgbjaaLawRec
import Derived.Test.YtgffabjajbgbjaaPassLaw
import Derived.Lib.QuietBelow
import Derived.Deep.LoopGhost
set_option linter.unusedVariables false
set_option linter.unusedSimpArgs false
namespace Go.Proofs.Ytgffabjajbgbjaa.lawNestR
open Go.RowKit Go.Proofs.Ytgffabjajbgbjaa.mem Go.Proofs.Ytgffabjajbgbjaa.nest Go.Proofs.Ytgffabjajbgbjaa.tn

/-! ### a world that changes only in blocks of a range -/
structure Range (w w' : World) (lo hi : Nat) : Prop where
  os : w'.os = w.os
  tape : w'.tape = w.tape
  output : w'.output = w.output
  size : w.heap.size ≤ w'.heap.size
  block : ∀ k, k < w.heap.size → ¬ (lo ≤ k ∧ k < hi) → w'.heap[k]? = w.heap[k]?
theorem Range.refl (w : World) (lo hi : Nat) : Range w w lo hi := ⟨rfl, rfl, rfl, Nat.le_refl _, fun _ _ _ => rfl⟩
theorem Range.step {a b c : World} {lo hi : Nat} {row : Option Nat} (h : Range a b lo hi) (g : b.grownBy c row) (hr : ∀ k, row = some k → lo ≤ k ∧ k < hi) : Range a c lo hi :=
  ⟨g.os.trans h.os, g.tape.trans h.tape, g.output.trans h.output, Nat.le_trans h.size g.size, fun k hk hn => (g.block k (Nat.lt_of_lt_of_le hk h.size) (fun e => hn (hr k e.symm))).trans (h.block k hk hn)⟩
theorem below_range {B : Nat} {a b c : World} {lo hi : Nat} (h : Below B a b) (hB : B ≤ b.heap.size) (g : Range b c lo hi) (hl : B ≤ lo) : Below B a c :=
  ⟨g.os.trans h.os, g.tape.trans h.tape, g.output.trans h.output, Nat.le_trans h.size g.size, fun k hk => (g.block k (by omega) (by omega)).trans (h.block k hk)⟩
theorem own_range {w w' : World} {lo hi base : Nat} {e : TypeId} {sz n : Nat} {v : Value} {xs : List Value} (h : w.ownsRow base e sz v n xs) (g : Range w w' lo hi) (ha : ∀ k, v.ownBlock = some k → k < lo ∨ hi ≤ k) : w'.ownsRow base e sz v n xs := by
  refine ⟨h.1, ?_⟩
  rcases h.2 with h0 | ⟨b, cap, cur, rfl, hb0, hg, rest⟩
  · exact .inl h0
  · have := ha b rfl
    exact .inr ⟨b, cap, cur, rfl, hb0, (g.block b (Array.getElem?_eq_some_iff.1 hg).1 (by omega)).trans hg, rest⟩
theorem nl_range {w w' : World} {lo hi base : Nat} {v : Value} {vs : List Value} {zss : List (List Rec)} (h : NL_rec w base v vs zss) (g : Range w w' lo hi) (h0 : ∀ k, v.ownBlock = some k → k < lo ∨ hi ≤ k) (h1 : ∀ u ∈ vs, ∀ k, u.ownBlock = some k → k < lo ∨ hi ≤ k) : NL_rec w' base v vs zss :=
  ⟨own_range h.top g h0, ⟨h.rows.1, fun i u zs hu hz => own_range (h.rows.2 i u zs hu hz) g (h1 u (List.mem_of_getElem? hu))⟩, h.ap, h.apt⟩

/-! ### the size of an argument -/
set_option maxRecDepth 100000 in
set_option maxHeartbeats 1000000 in
theorem sz_any (A : Option Addr) (c : Nat) (vs : List Value) (rs : List (List Rec)) (l : Int) (w : World) (h0 : 0 ≤ l) (h1 : l ≤ 1048576) (hn : rs.length ≤ maxLen) (hr : RdL_rec w A vs rs) :
    Calls Try.prog 38 #[.slice A rs.length c, .int .i64 l] w fun e w' => e = .returned (.int .i64 (szv l (rs.length + tot rs))) ∧ w = w' := by
  unfold maxLen at hn
  by_cases hle : (rs.length : Int) ≤ l
  · have q1 : IntKind.i64.wrap (l - (rs.length : Int)) = l - (rs.length : Int) := IntWalk.i64_in _ (by omega)
    have q2 : ¬ l - (rs.length : Int) < 0 := by omega
    go_enter Try.func38, Try.ntmps38
    go_wp2
    clear q1 q2
    go_loopg [1, 5] (rs.length + 1) (fun f x y wr => ∃ (i : Nat) (z : Int), rs.length < i + f ∧ i ≤ rs.length ∧ y = .int .i64 (i : Int) ∧ x = .int .i64 z ∧ z = l - (rs.length : Int) - (tot (rs.take i) : Int) ∧ 0 ≤ z ∧ w = wr)
    case atStart => exact ⟨0, l - (rs.length : Int), by omega, by omega, rfl, rfl, by simp [tot], by omega, rfl⟩
    case round =>
      obtain ⟨i, z, hif, hi, rfl, rfl, hz, hz0, rfl⟩ := hrel
      have HZ := Lib.hid hz
      have hzb : z ≤ 1048576 := by omega
      clear hz
      by_cases hlt : i < rs.length
      · have q1 : (i : Int) < (rs.length : Int) := by omega
        obtain ⟨b, off, rfl, Ar, cr, hcell, hrc, hcm, hrr⟩ := hr.cell (i := i) hlt
        have HT := Lib.hid (show tot (rs.take (i + 1)) = tot (rs.take i) + rs[i].length by
          rw [List.take_succ_eq_append_getElem hlt, tot, tot, List.map_append, List.sum_append]; simp)
        have HTL := Lib.hid (show tot (rs.take (i + 1)) ≤ tot rs by have := tot_cut rs (i + 1); omega)
        generalize rs[i] = r at hcell hrc hrr HT
        have HS := Lib.hid (lawRec.sz_any Ar cr r z w hz0 hzb (Nat.le_trans hrc hcm) hrr)
        unfold maxLen at hcm
        by_cases hrz : (r.length : Int) ≤ z
        · rw [szv_pos hrz] at HS
          have q2 : ¬ z - (r.length : Int) < 0 := by omega
          go_wp2_with fail
          (with_reducible refine HS.out.mono ?_)
          rintro e w1 ⟨rfl, rfl⟩
          go_wp2
          go_roundg (gk - 1)
          case measure => omega
          case rel => exact ⟨i + 1, z - (r.length : Int), by omega, by omega, by go_num, rfl, by have := HZ.out; have := HT.out; omega, by omega, rfl⟩
        · rw [szv_neg hrz] at HS
          have HR := Lib.hid (show szv l (rs.length + tot rs) = -1 from szv_neg (by have := HZ.out; have := HT.out; have := HTL.out; omega))
          go_wp2_with fail
          (with_reducible refine HS.out.mono ?_)
          rintro e w1 ⟨rfl, rfl⟩
          go_wp2
          go_ret
          exact ⟨ret_int HR.out.symm, rfl⟩
      · have HR := Lib.hid (show szv l (rs.length + tot rs) = z by
          have e : rs.take i = rs := List.take_of_length_le (by omega)
          have h1 := HZ.out
          rw [e] at h1
          rw [szv_pos (by omega)]; omega)
        go_wp2
        go_ret
        exact ⟨ret_int HR.out.symm, rfl⟩
  · have q2 : l - (rs.length : Int) < 0 := by omega
    have q1 : IntKind.i64.wrap (l - (rs.length : Int)) = l - (rs.length : Int) := IntWalk.i64_in _ (by omega)
    have HR := Lib.hid (show szv l (rs.length + tot rs) = -1 from szv_neg (by omega))
    go_enter Try.func38, Try.ntmps38
    go_wp2
    go_ret
    exact ⟨ret_int HR.out.symm, rfl⟩
/-! ### a copy of an argument -/
theorem info_recS : (Try.prog.info? 54).map (fun i => (i.zero, i.size, i.bytes)) = some (some (.slice none 0 0), 1, 24) := by kernel_rfl
theorem row_set (us : List Value) (z x : Value) (k : Nat) (h : us.length < k) : (us ++ List.replicate (k - us.length) z).toArray.setIfInBounds us.length x = ((us ++ [x]) ++ List.replicate (k - (us ++ [x]).length) z).toArray := by
  obtain ⟨d, hd⟩ : ∃ d, k - us.length = d + 1 := ⟨k - us.length - 1, by omega⟩
  rw [hd, List.setIfInBounds_toArray, List.set_append_right _ _ (Nat.le_refl _), Nat.sub_self, List.replicate_succ, List.set_cons_zero, List.length_append, List.length_singleton, show k - (us.length + 1) = d by omega, List.append_assoc]
  rfl
structure Part (w wr : World) (us : List Value) (rs : List (List Rec)) : Prop where
  top : Blk wr w.heap.size 54 (us ++ List.replicate (rs.length - us.length) (Value.slice none 0 0)).toArray
  rows : Rows_rec wr w.heap.size us (rs.take us.length)
  ap : Aparts us
  far : ∀ u ∈ us, ∀ g, u.ownBlock = some g → w.heap.size < g
  len : us.length ≤ rs.length
  bel : Below w.heap.size w wr
theorem Part.put {w wr w2 : World} {us : List Value} {rs : List (List Rec)} (h : Part w wr us rs) (hi : us.length < rs.length) {x : Value} (ho : w2.ownsRow wr.heap.size 87 2 x rs[us.length].length (recs rs[us.length])) (hb : Below wr.heap.size wr w2) :
    Part w (w2.setCell ⟨w.heap.size, us.length, none⟩ x) (us ++ [x]) rs := by
  have hge := own_ge ho
  have htl := h.top.lt
  have hxf : x.ownBlock ≠ some w.heap.size := fun e => by have := hge _ e; omega
  refine ⟨by rw [← row_set _ _ _ _ hi]; exact (h.top.below hb htl).put _ _, ⟨?_, fun j u zs hu hz => ?_⟩, ?_, fun u hu g hg => ?_, by simp; omega, (below_at h.bel h.bel.size hb).setCell (p := ⟨w.heap.size, us.length, none⟩) (Nat.le_refl _) _⟩
  · rw [List.length_append, List.length_singleton, List.length_take]; omega
  · rw [List.length_append, List.length_singleton, List.take_succ_eq_append_getElem hi] at hz
    have hl : (rs.take us.length).length = us.length := by rw [List.length_take]; omega
    rcases Nat.lt_trichotomy j us.length with hj | hj | hj
    · rw [List.getElem?_append_left hj] at hu
      rw [List.getElem?_append_left (by omega)] at hz
      have := own_below (h.rows.2 j u zs hu hz) hb
      exact own_far this (p := ⟨w.heap.size, us.length, none⟩) (fun e => by have := h.far u (List.mem_of_getElem? hu) _ e; simp at this) _
    · subst hj
      have e1 : u = x := by simpa using hu.symm
      have e2 : zs = rs[us.length] := by
        rw [List.getElem?_append_right (by omega), hl, Nat.sub_self] at hz
        simpa using hz.symm
      subst e1; subst e2
      exact own_far (own_base ho h.bel.size) (p := ⟨w.heap.size, us.length, none⟩) hxf _
    · rw [List.getElem?_eq_none (by simp; omega)] at hu; cases hu
  · refine aparts_snoc h.ap fun u hu => ?_
    obtain ⟨zs, _, hy⟩ := rows_mem_rec h.rows hu
    exact apt_above hge (own_lt hy)
  · rcases List.mem_append.1 hu with h1 | h1
    · exact h.far u h1 g hg
    · obtain rfl := List.mem_singleton.1 h1
      have := hge g hg; omega
theorem Part.all {w wr : World} {us : List Value} {rs : List (List Rec)} (h : Part w wr us rs) (hi : us.length = rs.length) (hn : rs.length ≤ 1048576) : NL_rec wr w.heap.size (.slice (some ⟨w.heap.size, 0, none⟩) rs.length rs.length) us rs := by
  have ht := h.top
  rw [hi, Nat.sub_self] at ht
  have ho := ht.own (base := w.heap.size) (size := 1) (n := rs.length) (c := rs.length) (Nat.le_refl _) (Nat.le_refl _) (by unfold maxLen; omega) (by simp [hi])
  refine ⟨?_, ?_, h.ap, fun u hu => Or.inr fun e => ?_⟩
  · simpa [← hi] using ho
  · have := h.rows
    rwa [hi, List.take_length] at this
  · have := h.far u hu w.heap.size (by rw [← e]; rfl)
    omega
set_option maxRecDepth 100000 in
set_option maxHeartbeats 1000000 in
theorem to_any (A : Option Addr) (c : Nat) (vs : List Value) (rs : List (List Rec)) (w : World) (hn : rs.length ≤ 1048576) (hrl : ∀ r ∈ rs, r.length ≤ 1048576) (hr : RdL_rec w A vs rs) :
    Calls Try.prog 40 #[.slice A rs.length c] w fun e w' => ∃ v us, e = .returned v ∧ NL_rec w' w.heap.size v us rs ∧ Below w.heap.size w w' := by
  have hmk := make_rep (P := Try.prog) 47 54 (.slice none 0 0) 24 Try.underlying47 info_recS rfl rs.length (by omega) (by unfold maxLen; omega)
  have HP0 := Lib.hid (show Part w (w.alloc (.cells (rep rs.length (.slice none 0 0)) 54)) [] rs from
    ⟨by simpa [rep] using Blk.new w 54 (rep rs.length (.slice none 0 0)), ⟨by simp, fun i v zs h => by simp at h⟩, fun i j v u _ h => by simp at h, by simp, by simp, (Below.refl _ _).alloc (Nat.le_refl _) _⟩)
  go_enter Try.func40, Try.ntmps40
  go_wp2
  clear hmk
  go_loopg [4] (rs.length + 1) (fun f y wr => ∃ us : List Value, rs.length < us.length + f ∧ y = .int .i64 (us.length : Int) ∧ Part w wr us rs)
  case atStart => exact ⟨[], by simp, rfl, HP0.out⟩
  case round =>
    obtain ⟨us, hif, rfl, hP⟩ := hrel
    have hul := hP.len
    have HP := Lib.hid hP
    by_cases hlt : us.length < rs.length
    · obtain ⟨i, hi⟩ : ∃ i, i = us.length := ⟨_, rfl⟩
      have q1 : (us.length : Int) < (rs.length : Int) := by omega
      obtain ⟨b, off, rfl, Ar, cr, hcell, hrc, hcm, hrr⟩ := (hr.below hP.bel).cell (i := us.length) hlt
      have HT := Lib.hid (lawRec.to_any Ar cr rs[us.length] wr (hrl _ (List.getElem_mem hlt)) hrr)
      have HPUT := Lib.hid (fun (w2 : World) (x : Value) ho hb => hP.put (w2 := w2) (x := x) hlt ho hb)
      obtain ⟨z, hz⟩ : ∃ z, (us ++ List.replicate (rs.length - us.length) (Value.slice none 0 0)).toArray[us.length]? = some z := ⟨_, by
        rw [List.getElem?_toArray, List.getElem?_append_right (Nat.le_refl _), Nat.sub_self, List.getElem?_replicate, if_pos (by omega)]⟩
      have HTOP := Lib.hid (And.intro hP.top hz)
      have HNX := Lib.hid (show (us.length : Int) + 1 = (((us.length + 1 : Nat)) : Int) by omega)
      generalize rs[us.length] = r at hcell HT HPUT hrc
      clear hP hz hrr
      go_wp2_with fail
      (with_reducible refine HT.out.mono ?_)
      rintro e w2 ⟨v2, rfl, ho2, hb2⟩
      obtain ⟨A2, c2, rfl, _, _, _⟩ := own_form ho2
      have HPP := Lib.hid (HPUT.out _ _ ho2 hb2)
      have ht2 := HTOP.out.1.below hb2 HTOP.out.1.lt
      have k1 := (ht2.cell us.length).trans HTOP.out.2
      have k2 := fun i => ht2.thaw i
      clear ho2 hb2 ht2 hcell
      go_wp2
      go_roundg (gk - 1)
      case measure => omega
      case rel => exact ⟨_, by rw [List.length_append, List.length_singleton]; omega, by rw [List.length_append, List.length_singleton]; go_num, HPP.out⟩
    · have HE := Lib.hid (hP.all (by omega) hn)
      have hb := hP.bel
      clear hP
      go_wp2
      go_ret
      exact ⟨_, _, rfl, HE.out, hb⟩
/-! ### equality -/
def Same {α : Type} (xs ys : List α) (k : Nat) : Prop := xs.take k = ys.take k
theorem same_step {α : Type} {xs ys : List α} {k : Nat} (h : Same xs ys k) (h1 : k < xs.length) (h2 : k < ys.length) (e : xs[k] = ys[k]) : Same xs ys (k + 1) := by
  unfold Same at *
  rw [List.take_add_one, List.take_add_one, h, List.getElem?_eq_getElem h1, List.getElem?_eq_getElem h2, e]
theorem same_ne {α : Type} {xs ys : List α} {k : Nat} (h1 : k < xs.length) (h2 : k < ys.length) (e : xs[k] ≠ ys[k]) : xs ≠ ys := by
  rintro rfl; exact e rfl
theorem same_all {α : Type} {xs ys : List α} {k : Nat} (h : Same xs ys k) (h1 : k = xs.length) (h2 : xs.length = ys.length) : xs = ys := by
  unfold Same at h
  rwa [h1, List.take_length, h2, List.take_length] at h

set_option maxRecDepth 100000 in
set_option maxHeartbeats 1000000 in
theorem eq_any (A B : Option Addr) (c d : Nat) (vs us : List Value) (xss yss : List (List Rec)) (w : World) (hn : xss.length ≤ 1048576) (hm : yss.length ≤ 1048576) (hx : RdL_rec w A vs xss) (hy : RdL_rec w B us yss) :
    Calls Try.prog 42 #[.slice A xss.length c, .slice B yss.length d] w fun e w' => e = .returned (.bool (decide (xss = yss))) ∧ Below w.heap.size w w' := by
  by_cases hlen : xss.length = yss.length
  · have HL := Lib.hid hlen
    have hle : xss.length ≤ yss.length ∧ yss.length ≤ xss.length := by omega
    have hl2 : ((xss.length : Int) != (yss.length : Int)) = false := by rw [hlen]; simp
    clear hlen
    go_enter Try.func42, Try.ntmps42
    go_wp2
    go_loopg [5] (xss.length + 1) (fun f i wr => ∃ k : Nat, xss.length < k + f ∧ k ≤ xss.length ∧ i = .int .i64 (k : Int) ∧ Same xss yss k ∧ Below w.heap.size w wr)
    case atStart => exact ⟨0, by omega, by omega, rfl, rfl, Below.refl _ _⟩
    case round =>
      obtain ⟨k, hkf, hk, rfl, hs, hb⟩ := hrel
      have HS := Lib.hid hs
      clear hs
      by_cases hlt : k < xss.length
      · have hlt2 : k < yss.length := by omega
        obtain ⟨b1, o1, rfl, B1, c1, cell1, l1, m1, r1⟩ := (hx.below hb).cell hlt
        obtain ⟨b2, o2, rfl, B2, c2, cell2, l2, m2, r2⟩ := (hy.below hb).cell hlt2
        have HST := Lib.hid (fun e => same_step HS.out hlt hlt2 e)
        have HNE := Lib.hid (fun e => same_ne hlt hlt2 e)
        generalize xss[k] = xs at cell1 l1 r1 HST HNE
        generalize yss[k] = ys at cell2 l2 r2 HST HNE
        have q1 : (k : Int) < (xss.length : Int) := by omega
        have q2 : (k : Int) < (yss.length : Int) := by omega
        have HQ := Lib.hid (fun d os => lawRec.eqB B1 B2 c1 c2 xs ys (Go.Sort.grow (redrawn wr d) os) (Nat.le_trans l1 m1) (Nat.le_trans l2 m2) (r1.below (below_regrown wr d os)) (r2.below (below_regrown wr d os)))
        have rc1 := fun d os => cell_regrown cell1 d os
        have rc2 := fun d os => cell_regrown cell2 d os
        clear cell1 cell2 r1 r2
        by_cases he : xs = ys
        · have HD := Lib.hid (show decide (xs = ys) = true from decide_eq_true he)
          have HS2 := Lib.hid (HST.out he)
          rw [HD.out] at HQ
          clear he
          go_wp2_with fail
          (refine wp_region_quiet_below (by kernel_rfl) (by kernel_rfl) ?_; (repeat (quiet_step (exact Calls.regrown_of (HQ.out _ _)))); refine wpQuiet_nil ?_; intro _ hw'; obtain ⟨⟨dq, osq⟩, hw''⟩ := hw'; subst hw'')
          have hb2 := below_at hb hb.size (below_regrown wr dq osq)
          clear rc1 rc2
          go_wp2
          go_roundg (gk - 1)
          case measure => omega
          case rel => exact ⟨k + 1, by omega, by omega, by go_num, HS2.out, hb2⟩
        · have HD := Lib.hid (show decide (xs = ys) = false from decide_eq_false he)
          have HS2 := Lib.hid (show decide (xss = yss) = false from decide_eq_false (HNE.out he))
          rw [HD.out] at HQ
          clear he
          go_wp2_with fail
          (refine wp_region_quiet_below (by kernel_rfl) (by kernel_rfl) ?_; (repeat (quiet_step (exact Calls.regrown_of (HQ.out _ _)))); refine wpQuiet_nil ?_; intro _ hw'; obtain ⟨⟨dq, osq⟩, hw''⟩ := hw'; subst hw'')
          have hb2 := below_at hb hb.size (below_regrown wr dq osq)
          clear rc1 rc2
          go_wp2
          go_ret
          exact ⟨ret_bool HS2.out.symm, hb2⟩
      · have HT := Lib.hid (show xss = yss from same_all HS.out (by omega) HL.out)
        go_wp2
        go_ret
        exact ⟨ret_bool (decide_eq_true HT.out).symm, hb⟩
  · have HL := Lib.hid (show decide (xss = yss) = false from decide_eq_false (fun e => hlen (by rw [e])))
    have hl2 : ((xss.length : Int) != (yss.length : Int)) = true := by simpa using (fun e => hlen (by omega))
    clear hlen
    go_enter Try.func42, Try.ntmps42
    go_wp2
    go_ret
    exact ⟨ret_bool HL.out.symm, Below.refl _ _⟩
/-! ### marks -/
def ioR (k : Int) (n : Nat) : List Rec := (List.range n).map fun (i : Nat) => ⟨k + ((i * 2 : Nat) : Int), k + ((i * 2 + 1 : Nat) : Int)⟩
theorem ioR_len (k : Int) (n : Nat) : (ioR k n).length = n := by simp [ioR]
theorem iota_succ (k : Int) (m : Nat) : lawRec.iota k (m + 1) = lawRec.iota k m ++ [k + (m : Int)] := by simp [lawRec.iota, List.range_succ]
theorem recs_ioR (k : Int) : ∀ n, recs (ioR k n) = ints (lawRec.iota k (n * 2))
  | 0 => rfl
  | n + 1 => by
    have ih := recs_ioR k n
    have e1 : ioR k (n + 1) = ioR k n ++ [⟨k + ((n * 2 : Nat) : Int), k + ((n * 2 + 1 : Nat) : Int)⟩] := by simp [ioR, List.range_succ]
    rw [e1, recs_app, ih, recs_single, show (n + 1) * 2 = n * 2 + 1 + 1 by omega, iota_succ, iota_succ, ints_app, ints_app]
    simp [Rec.cells, ints]
def ions (k : Int) : List (List Rec) → List (List Rec)
  | [] => []
  | zs :: r => ioR k zs.length :: ions (k + ((zs.length * 2 : Nat) : Int)) r
def marked (k : Int) (rs : List (List Rec)) (j : Nat) : List (List Rec) := ions k (rs.take j) ++ rs.drop j
theorem ions_len : ∀ (k : Int) (rs : List (List Rec)), (ions k rs).length = rs.length
  | _, [] => rfl
  | k, zs :: r => by rw [ions, List.length_cons, List.length_cons, ions_len]
theorem ions_snoc : ∀ (k : Int) (rs : List (List Rec)) (zs : List Rec), ions k (rs ++ [zs]) = ions k rs ++ [ioR (k + ((tot rs * 2 : Nat) : Int)) zs.length]
  | k, [], zs => by simp [ions, tot]
  | k, a :: r, zs => by
    rw [List.cons_append, ions, ions_snoc (k + ((a.length * 2 : Nat) : Int)) r zs, ions, List.cons_append]
    have e : k + ((a.length * 2 : Nat) : Int) + ((tot r * 2 : Nat) : Int) = k + ((tot (a :: r) * 2 : Nat) : Int) := by rw [tot_cons]; omega
    rw [e]
theorem tot_succ (rs : List (List Rec)) {j : Nat} (h : j < rs.length) : tot (rs.take (j + 1)) = tot (rs.take j) + rs[j].length := by
  rw [List.take_succ_eq_append_getElem h, tot, tot, List.map_append, List.sum_append]; simp
theorem tot_le (rs : List (List Rec)) (j : Nat) : tot (rs.take j) ≤ tot rs := by have := tot_cut rs j; omega
theorem marked_len (k : Int) (rs : List (List Rec)) {j : Nat} (h : j ≤ rs.length) : (marked k rs j).length = rs.length := by
  rw [marked, List.length_append, ions_len, List.length_take, List.length_drop]; omega
theorem marked_at (k : Int) (rs : List (List Rec)) {j : Nat} (h : j < rs.length) : (marked k rs j)[j]? = some rs[j] := by
  rw [marked, List.getElem?_append_right (by rw [ions_len, List.length_take]; omega), List.getElem?_drop, ions_len, List.length_take]
  rw [show j + (j - min j rs.length) = j by omega, List.getElem?_eq_getElem h]
theorem marked_step (k : Int) (rs : List (List Rec)) {j : Nat} (h : j < rs.length) : (marked k rs j).set j (ioR (k + ((tot (rs.take j) * 2 : Nat) : Int)) rs[j].length) = marked k rs (j + 1) := by
  have hl : (ions k (rs.take j)).length = j := by rw [ions_len, List.length_take]; omega
  rw [marked, marked, List.take_succ_eq_append_getElem h, ions_snoc, List.drop_eq_getElem_cons h, List.set_append_right _ _ (by omega), hl, Nat.sub_self, List.set_cons_zero, List.append_assoc]
  rfl
theorem marked_all (k : Int) (rs : List (List Rec)) : marked k rs rs.length = ions k rs := by simp [marked]
theorem ions_at (k : Int) (rs : List (List Rec)) {j : Nat} (h : j < rs.length) : (ions k rs)[j]? = some (ioR (k + ((tot (rs.take j) * 2 : Nat) : Int)) rs[j].length) := by
  rw [← marked_all]
  have h2 : rs.length = j + 1 + (rs.length - (j + 1)) := by omega
  have key : ∀ d, j + 1 + d ≤ rs.length → (marked k rs (j + 1 + d))[j]? = some (ioR (k + ((tot (rs.take j) * 2 : Nat) : Int)) rs[j].length) := by
    intro d
    induction d with
    | zero => intro _; rw [Nat.add_zero, ← marked_step k rs h, List.getElem?_set_self (by rw [marked_len k rs (by omega)]; exact h)]
    | succ d ih =>
      intro hd
      rw [show j + 1 + (d + 1) = (j + 1 + d) + 1 by omega, ← marked_step k rs (by omega), List.getElem?_set_ne (by omega)]
      exact ih (by omega)
  rw [h2]; exact key _ (by omega)
set_option maxRecDepth 100000 in
set_option maxHeartbeats 1000000 in
theorem mark_any (B : Nat) (A : Option Addr) (c : Nat) (vs : List Value) (rs : List (List Rec)) (k : Int) (w : World) (lo hi : Nat) (hn : rs.length ≤ 1048576) (hk : 0 ≤ k) (hk2 : k + ((tot rs * 2 : Nat) : Int) ≤ 1099511627776)
    (hlo : ∀ u ∈ vs, ∀ g, u.ownBlock = some g → lo ≤ g ∧ g < hi) (ho : NL_rec w B (.slice A rs.length c) vs rs) :
    Calls Try.prog 43 #[.slice A rs.length c, .int .i64 k] w fun e w' => e = .returned (.int .i64 (k + ((tot rs * 2 : Nat) : Int))) ∧ NL_rec w' B (.slice A rs.length c) vs (ions k rs) ∧ Range w w' lo hi := by
  go_enter Try.func43, Try.ntmps43
  go_wp2
  go_loopg [1, 5] (rs.length + 1) (fun f x i wr => ∃ (j : Nat) (t : Int), rs.length < j + f ∧ j ≤ rs.length ∧ i = .int .i64 (j : Int) ∧ x = .int .i64 t ∧ t = k + ((tot (rs.take j) * 2 : Nat) : Int) ∧ NL_rec wr B (.slice A rs.length c) vs (marked k rs j) ∧ Range w wr lo hi)
  case atStart => exact ⟨0, k, by omega, by omega, rfl, rfl, by simp [tot], by rw [marked]; simpa [ions] using ho, Range.refl _ _ _⟩
  case round =>
    obtain ⟨j, t, hjf, hj, rfl, rfl, ht, ho, hb⟩ := hrel
    by_cases hlt : j < rs.length
    · have hml := marked_len k rs (Nat.le_of_lt hlt)
      obtain ⟨B1, c1, e1, l1, m1, o1⟩ := nl_at_rec ho (i := j) (by omega)
      have hat := marked_at k rs hlt
      rw [List.getElem?_eq_getElem (by omega)] at hat
      injection hat with hat
      have HLE := Lib.hid hat
      rw [hat] at e1 l1 o1
      have HTK := Lib.hid (tot_succ rs hlt)
      have HTL := Lib.hid (tot_le rs (j + 1))
      have HST := Lib.hid (marked_step k rs hlt)
      rw [← ht] at HST
      have HHT := Lib.hid ht
      have hcell := (own_rd (show wr.ownsRow B 54 1 (.slice A rs.length c) rs.length vs by have := ho.top; rwa [hml] at this)).cells (by omega)
      obtain ⟨b, off, rfl, hcell⟩ := hcell
      have hc := hcell j _ e1
      clear hcell hat
      have HO := Lib.hid ho
      have HE1 := Lib.hid e1
      have HRR := Lib.hid (hlo _ (List.mem_of_getElem? e1))
      generalize rs[j] = zs at hc l1 o1 HTK HST HLE HE1 HRR
      have q1 : (j : Int) < (rs.length : Int) := by omega
      have ht0 : 0 ≤ t := by omega
      have ht2 : t + ((zs.length * 2 : Nat) : Int) ≤ 1099511627776 := by have := HTK.out; have := HTL.out; omega
      have HM := Lib.hid (lawRec.mark_any B B1 zs.length c1 (recs zs) t wr ht0 ht2 o1)
      clear ht ho e1 o1
      go_wp2_with fail
      (with_reducible refine HM.out.mono ?_)
      rintro e w1 ⟨rfl, ho1, hg1⟩
      have HN := Lib.hid (show NL_rec w1 B (.slice (some ⟨b, off, none⟩) rs.length c) vs (marked k rs (j + 1)) by
        rw [← HST.out]
        refine nl_set_rec HO.out HE1.out (by omega) (by rw [HLE.out, ioR_len]) (by rw [ioR_len, recs_ioR]; exact ho1) hg1)
      have hb1 : Range w w1 lo hi := hb.step hg1 HRR.out
      have HT2 := Lib.hid (show t + ((zs.length * 2 : Nat) : Int) = k + ((tot (rs.take (j + 1)) * 2 : Nat) : Int) by have := HTK.out; have := HHT.out; omega)
      clear ho1 hg1 hc
      go_wp2
      go_roundg (gk - 1)
      case measure => omega
      case rel => exact ⟨j + 1, t + ((zs.length * 2 : Nat) : Int), by omega, by omega, by go_num, rfl, HT2.out, HN.out, hb1⟩
    · obtain rfl : j = rs.length := by omega
      have HE := Lib.hid (show NL_rec wr B (.slice A rs.length c) vs (ions k rs) by rw [← marked_all]; exact ho)
      have HT := Lib.hid (show t = k + ((tot rs * 2 : Nat) : Int) by rw [ht, List.take_length])
      clear ho ht
      go_wp2
      go_ret
      exact ⟨ret_int HT.out, HE.out, hb⟩
set_option maxRecDepth 100000 in
set_option maxHeartbeats 1000000 in
theorem held_any (A : Option Addr) (c : Nat) (vs : List Value) (rs : List (List Rec)) (k : Int) (w : World) (hn : rs.length ≤ 1048576) (hk : 0 ≤ k) (hk2 : k + ((tot rs * 2 : Nat) : Int) ≤ 1099511627776)
    (ho : RdL_rec w A vs (ions k rs)) :
    Calls Try.prog 44 #[.slice A rs.length c, .int .i64 k] w fun e w' => e = .returned (.int .i64 (k + ((tot rs * 2 : Nat) : Int))) ∧ w = w' := by
  have hil := ions_len k rs
  go_enter Try.func44, Try.ntmps44
  go_wp2
  go_loopg [1, 5] (rs.length + 1) (fun f x i wr => ∃ (j : Nat) (t : Int), rs.length < j + f ∧ j ≤ rs.length ∧ i = .int .i64 (j : Int) ∧ x = .int .i64 t ∧ t = k + ((tot (rs.take j) * 2 : Nat) : Int) ∧ w = wr)
  case atStart => exact ⟨0, k, by omega, by omega, rfl, rfl, by simp [tot], rfl⟩
  case round =>
    obtain ⟨j, t, hjf, hj, rfl, rfl, ht, rfl⟩ := hrel
    by_cases hlt : j < rs.length
    · obtain ⟨b, off, rfl, B1, c1, hc, l1, m1, r1⟩ := ho.cell (i := j) (by omega)
      have hat := ions_at k rs hlt
      rw [List.getElem?_eq_getElem (by omega)] at hat
      injection hat with hat
      have HTK := Lib.hid (tot_succ rs hlt)
      have HTL := Lib.hid (tot_le rs (j + 1))
      have HHT := Lib.hid ht
      rw [hat, ioR_len, ← ht, recs_ioR] at r1
      rw [hat, ioR_len] at hc
      clear hat l1
      generalize rs[j] = zs at hc r1 HTK
      have q1 : (j : Int) < (rs.length : Int) := by omega
      have ht0 : 0 ≤ t := by omega
      have ht2 : t + ((zs.length * 2 : Nat) : Int) ≤ 1099511627776 := by have := HTK.out; have := HTL.out; omega
      have ht3 : ¬ t + ((zs.length * 2 : Nat) : Int) < 0 := by omega
      have HM := Lib.hid (lawRec.held_any B1 zs.length c1 t w ht0 ht2 r1)
      clear ht r1
      go_wp2_with fail
      (with_reducible refine HM.out.mono ?_)
      rintro e w1 ⟨rfl, rfl⟩
      have HT2 := Lib.hid (show t + ((zs.length * 2 : Nat) : Int) = k + ((tot (rs.take (j + 1)) * 2 : Nat) : Int) by have := HTK.out; have := HHT.out; omega)
      clear hc
      go_wp2
      go_roundg (gk - 1)
      case measure => omega
      case rel => exact ⟨j + 1, t + ((zs.length * 2 : Nat) : Int), by omega, by omega, by go_num, rfl, HT2.out, rfl⟩
    · obtain rfl : j = rs.length := by omega
      have HT := Lib.hid (show t = k + ((tot rs * 2 : Nat) : Int) by rw [ht, List.take_length])
      clear ht
      go_wp2
      go_ret
      exact ⟨ret_int HT.out, rfl⟩
end Go.Proofs.Ytgffabjajbgbjaa.lawNestR
