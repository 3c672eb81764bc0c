/- Prefix lengths: what the list is. No condition. -/
import Derived.Test.YtaeimdcmpjanbaaAscStr
import Derived.Test.YtaeimdcmpjanbaaPrefix
set_option linter.unusedVariables false
set_option linter.unusedSimpArgs false
namespace Go.Proofs.Ytaeimdcmpjanbaa.pfxs
open Go.RowKit Go.Proofs.Ytaeimdcmpjanbaa.mem Go.Proofs.Ytaeimdcmpjanbaa.validStr Go.Proofs.Ytaeimdcmpjanbaa.ascStr
open Go.Proofs.Ytaeimdcmpjanbaa.prefixes (cpl)

def pv (ss : List ByteArray) (i : Nat) : Int := if i = 0 then 0 else ((cpl (ss.getD (i - 1) e0).data.toList (ss.getD i e0).data.toList : Nat) : Int)
def pfx (ss : List ByteArray) : List Int := (List.range ss.length).map (pv ss)
theorem pfx_len (ss : List ByteArray) : (pfx ss).length = ss.length := by simp [pfx]
theorem pfx_at (ss : List ByteArray) {i : Nat} (h : i < ss.length) : (ints (pfx ss))[i]? = some (.int .i64 (pv ss i)) := by
  simp [ints, pfx, h]
theorem pfx_take (ss : List ByteArray) {k : Nat} (h : k < ss.length) : (pfx ss).take (k + 1) = (pfx ss).take k ++ [pv ss k] := by
  rw [List.take_add_one]
  simp [pfx, h]
theorem pv_succ (ss : List ByteArray) (t : Nat) : pv ss (t + 1) = ((cpl (ss.getD t e0).data.toList (ss.getD (t + 1) e0).data.toList : Nat) : Int) := by simp [pv]
theorem filled_one (xs : List Value) (z : Value) (n : Nat) (h : xs.length = n) (h0 : 0 < n → xs[0]? = some z) : rep n z = filled xs z 1 := by
  subst h
  cases xs with
  | nil => simp [rep, filled]
  | cons x r =>
    have := h0 (by simp)
    simp at this
    subst this
    simp only [rep, filled]
    rw [← List.toArray_replicate]
    simp [List.replicate_succ]
-- cut
set_option maxRecDepth 100000 in
set_option maxHeartbeats 2000000 in
theorem impl_pfx (A : Option Addr) (c : Nat) (ss : List ByteArray) (w : World) (hn : ss.length ≤ 1048576) (hs : ∀ s ∈ ss, s.size ≤ maxLen) (hr : Rd w 1 A ss.length (strs ss)) :
    Calls Try.prog 46 #[.slice A ss.length c] w fun e w' => ∃ v, e = .returned v ∧ w'.ownsRow w.heap.size 3 1 v ss.length (ints (pfx ss)) ∧ Below w.heap.size w w' := by
  have hmk := make_rep (P := Try.prog) 38 3 _ _ Try.underlying38 info_int rfl ss.length (by omega) (by unfold maxLen; omega)
  have HSZ := Lib.hid hs
  clear hs
  go_enter Try.func46, Try.ntmps46
  go_wp2
  go_loopg [4] (ss.length + 1) (fun f i wr => ∃ t : Nat, ss.length < t + f ∧ (t + 1 ≤ ss.length ∨ t = 0) ∧ i = .int .i64 ((t : Int) + 1) ∧ Blk wr w.heap.size 3 (filled (ints (pfx ss)) (.int .i64 0) (t + 1)) ∧ Below w.heap.size w wr)
  case atStart => exact ⟨0, by omega, by omega, by go_num, by rw [← filled_one _ _ ss.length (by rw [len_ints, pfx_len]) (fun h => by rw [pfx_at ss h]; rfl)]; exact Blk.new _ _ _, (Below.refl _ _).alloc (Nat.le_refl _) _⟩
  case round =>
    obtain ⟨t, htf, ht, rfl, hB, hb⟩ := hrel
    clear hmk
    by_cases hlt : t + 1 < ss.length
    · have hl : t + 1 < (ints (pfx ss)).length := by rw [len_ints, pfx_len]; exact hlt
      have hrd := hr.below hb
      have hlow : ∃ b off, A = some ⟨b, off, none⟩ ∧ b < w.heap.size := by
        obtain ⟨b, off, e, hc⟩ := hr.str (k := t) (by omega)
        exact ⟨b, off, e, World.block_lt_of_cell? _ _ hc⟩
      obtain ⟨b, off, rfl, hbl⟩ := hlow
      have hc1 := Rd_str_at hrd (k := t) (by omega)
      have hc2 := Rd_str_at hrd (k := t + 1) (by omega)
      have HBL := Lib.hid hbl
      have HE := Lib.hid (fun (w' : World) (h : Below wr.heap.size wr.drew w') (i : Nat) (v : Value) (hv : wr.cell? ⟨b, i, none⟩ = some v) => (show w'.cell? ⟨b, i, none⟩ = some v from (h.cell (p := ⟨b, i, none⟩) (Nat.lt_of_lt_of_le hbl hb.size)).trans hv))
      have HX := Lib.hid (show (ss[t]'(by omega)).size ≤ maxLen ∧ (ss[t + 1]'(by omega)).size ≤ maxLen from ⟨HSZ.out _ (List.getElem_mem _), HSZ.out _ (List.getElem_mem _)⟩)
      have HV := Lib.hid (show pv ss (t + 1) = ((cpl (ss[t]'(by omega)).data.toList (ss[t + 1]'(by omega)).data.toList : Nat) : Int) by rw [pv_succ, getD_s ss (by omega), getD_s ss (by omega)])
      generalize ss[t]'(by omega) = x at hc1 HX HV
      generalize ss[t + 1]'(by omega) = y at hc2 HX HV
      clear hbl
      have q1 : (t : Int) + 1 < (ss.length : Int) := by omega
      have q2 : (t : Int) < (ss.length : Int) := by omega
      have q4 : ((t : Int) + 1).toNat = t + 1 := by omega
      have q6 : (0 : Int) ≤ (t : Int) + 1 := by omega
      have q7 : IntKind.i64.wrap (t : Int) = (t : Int) := by rw [IntKind.wrap_i64]; omega
      go_wp2_with fail
      refine wp_region_held_drew (S := fun w' => w'.cell? ⟨b, off + t, none⟩ = some (.string x) ∧ w'.cell? ⟨b, off + (t + 1), none⟩ = some (.string y)) (by kernel_rfl) ⟨hc1, hc2⟩ (fun hHeld => ?_)
      refine' wpAnyH_take (i := 0) (oi := Oper.mk (some 14) _ _ _ _ _) (v := _) rfl (by kernel_rfl) (by kernel_rfl) (by kernel_rfl) (fun _ _ _ h => h) (Or.inl ⟨by rfl, ?yy1⟩) (by assumption) ?rr1
      case yy1 => (intro w hSw; (try dsimp only at hSw); go_simp; (try with_reducible rfl))
      try simp only [Act.put, List.setIfInBounds_toArray, List.set_cons_zero, List.set_cons_succ]
      refine' wpAnyH_take (i := 1) (oi := Oper.mk (some 15) _ _ _ _ _) (v := _) rfl (by kernel_rfl) (by kernel_rfl) (by kernel_rfl) (fun _ _ _ h => h) (Or.inl ⟨by rfl, ?yy2⟩) (by assumption) ?rr2
      case yy2 => (intro w hSw; (try dsimp only at hSw); go_simp; (try with_reducible rfl))
      try simp only [Act.put, List.setIfInBounds_toArray, List.set_cons_zero, List.set_cons_succ]
      refine' wpAnyH_take (i := 2) (oi := Oper.mk (some 16) _ _ _ _ _) (v := _) rfl (by kernel_rfl) (by kernel_rfl) (by kernel_rfl) (fun _ _ _ h => h) (Or.inl ⟨by rfl, ?yy3⟩) (by assumption) ?rr3
      case yy3 => (intro w hSw; (try dsimp only at hSw); go_simp; (try with_reducible rfl))
      try simp only [Act.put, List.setIfInBounds_toArray, List.set_cons_zero, List.set_cons_succ]
      refine' wpAnyH_take (i := 3) (oi := Oper.mk (some 17) _ _ _ _ _) (v := _) rfl (by kernel_rfl) (by kernel_rfl) (by kernel_rfl) (fun _ _ _ h => h) (Or.inl ⟨by rfl, ?yy4⟩) (by assumption) ?rr4
      case yy4 => (intro w hSw; (try dsimp only at hSw); go_simp; (try with_reducible rfl))
      try simp only [Act.put, List.setIfInBounds_toArray, List.set_cons_zero, List.set_cons_succ]
      refine' wpAnyH_take (i := 4) (oi := Oper.mk (some 18) _ _ _ _ _) (v := _) rfl (by kernel_rfl) (by kernel_rfl) (by kernel_rfl) (fun _ _ _ h => h) (Or.inl ⟨by rfl, ?yy5⟩) (by assumption) ?rr5
      case yy5 => (intro w hSw; (try dsimp only at hSw); go_simp; (try with_reducible rfl))
      try simp only [Act.put, List.setIfInBounds_toArray, List.set_cons_zero, List.set_cons_succ]
      refine' wpAnyH_take (i := 5) (oi := Oper.mk (some 19) _ _ _ _ _) (v := _) rfl (by kernel_rfl) (by kernel_rfl) (by kernel_rfl) (fun _ _ _ h => h) (Or.inl ⟨by rfl, ?yy6⟩) (by assumption) ?rr6
      case yy6 => (intro w hSw; (try dsimp only at hSw); go_simp; (try with_reducible rfl))
      try simp only [Act.put, List.setIfInBounds_toArray, List.set_cons_zero, List.set_cons_succ]
      refine' wpAnyH_take (i := 6) (oi := Oper.mk (some 20) _ _ _ _ _) (v := _) rfl (by kernel_rfl) (by kernel_rfl) (by kernel_rfl) (fun _ _ _ h => h) (Or.inl ⟨by rfl, ?yy7⟩) (by assumption) ?rr7
      case yy7 => (intro w hSw; (try dsimp only at hSw); go_simp; (try with_reducible rfl))
      try simp only [Act.put, List.setIfInBounds_toArray, List.set_cons_zero, List.set_cons_succ]
      refine' wpAnyH_take (i := 7) (oi := Oper.mk (some 21) _ _ _ _ _) (v := _) rfl (by kernel_rfl) (by kernel_rfl) (by kernel_rfl) (fun _ _ _ h => h) (Or.inl ⟨by rfl, ?yy8⟩) (by assumption) ?rr8
      case yy8 => (intro w hSw; (try dsimp only at hSw); go_simp; (try with_reducible rfl))
      try simp only [Act.put, List.setIfInBounds_toArray, List.set_cons_zero, List.set_cons_succ]
      refine' wpAnyH_take (i := 8) (oi := Oper.mk (some 22) _ _ _ _ _) (v := _) rfl (by kernel_rfl) (by kernel_rfl) (by kernel_rfl) (fun _ _ _ h => h) (Or.inl ⟨by rfl, ?yy9⟩) (by assumption) ?rr9
      case yy9 => (intro w hSw; (try dsimp only at hSw); go_simp; (try with_reducible rfl))
      try simp only [Act.put, List.setIfInBounds_toArray, List.set_cons_zero, List.set_cons_succ]
      refine' wpAnyH_take (i := 9) (oi := Oper.mk (some 23) _ _ _ _ _) (v := _) rfl (by kernel_rfl) (by kernel_rfl) (by kernel_rfl) (fun _ _ _ h => h) (Or.inl ⟨by rfl, ?yy10⟩) (by assumption) ?rr10
      case yy10 => (intro w hSw; (try dsimp only at hSw); go_simp; (try with_reducible rfl))
      try simp only [Act.put, List.setIfInBounds_toArray, List.set_cons_zero, List.set_cons_succ]
      refine' wpAnyH_take (i := 10) (oi := Oper.mk (some 24) _ _ _ _ _) (v := _) rfl (by kernel_rfl) (by kernel_rfl) (by kernel_rfl) (fun _ _ _ h => h) (Or.inl ⟨by rfl, ?yy11⟩) (by assumption) ?rr11
      case yy11 => (intro w hSw; (try dsimp only at hSw); go_simp; (try with_reducible rfl))
      try simp only [Act.put, List.setIfInBounds_toArray, List.set_cons_zero, List.set_cons_succ]
      refine wpAnyH_ready (rs := [11]) (by kernel_rfl) (by simp) ?_
      refine AllReadyH.cons (o := Oper.mk (some 25) _ _ _ _ _) rfl (fun K hK => ?_) AllReadyH.nil
      go_simp
      (go_at_call 21; refine (prefixes.impl_any x y _ HX.out.1 HX.out.2).mono ?_; rintro e w2 ⟨rfl, hb1⟩)
      go_wp2_with fail
      refine hK.out _ _ ⟨HE.out _ hb1 _ _ hc1, HE.out _ hb1 _ _ hc2⟩ (fun hHeld => ?_)
      clear hK K
      try simp only [Act.put, List.setIfInBounds_toArray, List.set_cons_zero, List.set_cons_succ]
      refine' wpAnyH_take (i := 12) (oi := Oper.mk (some 26) _ _ _ _ _) (v := _) rfl (by kernel_rfl) (by kernel_rfl) (by kernel_rfl) (fun _ _ _ h => h) (Or.inl ⟨by rfl, ?yy12⟩) (by assumption) ?rr12
      case yy12 => (intro w hSw; (try dsimp only at hSw); go_simp; (try with_reducible rfl))
      try simp only [Act.put, List.setIfInBounds_toArray, List.set_cons_zero, List.set_cons_succ]
      have hB1 := hB.drew.below hb1 hB.lt
      have hg : w2.cell? ⟨w.heap.size, t + 1, none⟩ = some (.int .i64 0) := by rw [hB1.cell, filled_at _ _ _ hl]
      have hf := hB1.thaw (t + 1)
      have hb3 : Below w.heap.size w w2 := hb.trans ((Below.refl _ _).drew.trans (hb1.mono hb.size))
      have hB2 : Blk (w2.setCell ⟨w.heap.size, t + 1, none⟩ (.int .i64 (pv ss (t + 1)))) w.heap.size 3 (filled (ints (pfx ss)) (.int .i64 0) (t + 1 + 1)) := by
        rw [← filled_step (ints (pfx ss)) _ (.int .i64 (pv ss (t + 1))) (t + 1) (pfx_at ss hlt)]; exact hB1.put _ _
      have hb4 := hb3.setCell (p := ⟨w.heap.size, t + 1, none⟩) (Nat.le_refl _) (.int .i64 (pv ss (t + 1)))
      rw [HV.out] at hB2 hb4
      clear hB hB1
      refine wpAnyH_ready (rs := [13]) (by kernel_rfl) (by simp) ?_
      refine AllReadyH.cons (o := Oper.mk none _ _ _ _ _) rfl (fun K hK => ?_) AllReadyH.nil
      go_simp
      refine hK.out _ _ ⟨(World.cell?_setCell_far _ _ _ _ (Nat.ne_of_gt HBL.out)).trans hHeld.1, (World.cell?_setCell_far _ _ _ _ (Nat.ne_of_gt HBL.out)).trans hHeld.2⟩ (fun hHeld => ?_)
      clear hK K
      refine wpAnyH_done (by kernel_rfl) ?_ _
      go_wp2
      go_roundg (gk - 1)
      case measure => omega
      case rel => exact ⟨t + 1, by omega, by omega, by go_num, hB2, hb4⟩
    · have hO : wr.ownsRow w.heap.size 3 1 (.slice (some ⟨w.heap.size, 0, none⟩) ss.length ss.length) ss.length (ints (pfx ss)) := by
        have hl : (ints (pfx ss)).length = ss.length * 1 := by rw [len_ints, pfx_len]; omega
        have e : filled (ints (pfx ss)) (.int .i64 0) (t + 1) = (ints (pfx ss)).toArray := by
          rcases ht with ht | ht
          · rw [show t + 1 = (ints (pfx ss)).length by rw [hl]; omega, filled_all]
          · subst ht
            have : ss.length = 0 ∨ ss.length = 1 := by omega
            rcases this with h | h
            · have h2 : ints (pfx ss) = [] := List.eq_nil_of_length_eq_zero (by rw [hl, h])
              rw [h2]; rfl
            · rw [show 0 + 1 = (ints (pfx ss)).length by rw [hl, h], filled_all]
        rw [e] at hB
        have h := hB.own (base := w.heap.size) (size := 1) (n := ss.length) (c := ss.length) (Nat.le_refl _) (Nat.le_refl _) (by unfold maxLen; omega) (by simpa using hl)
        rwa [← hl, List.take_of_length_le (by simp)] at h
      clear hB
      go_wp2
      go_ret
      exact ⟨_, rfl, hO, hb⟩

set_option maxRecDepth 100000 in
set_option maxHeartbeats 2000000 in
theorem spec_pfx (A : Option Addr) (c : Nat) (ss : List ByteArray) (w : World) (hn : ss.length ≤ 1048576) (hs : ∀ s ∈ ss, s.size ≤ maxLen) (hr : Rd w 1 A ss.length (strs ss)) :
    Calls Try.prog 52 #[.slice A ss.length c] w fun e w' => ∃ v, e = .returned v ∧ w'.ownsRow w.heap.size 3 1 v ss.length (ints (pfx ss)) ∧ Below w.heap.size w w' := by
  have HSZ := Lib.hid hs
  clear hs
  go_enter Try.func52, Try.ntmps52
  go_wp2
  go_loopg [3, 4, 5] (ss.length + 1) (fun f v i _ wr => ∃ k : Nat, ss.length < k + f ∧ k ≤ ss.length ∧ i = .int .i64 (k : Int) ∧ wr.ownsRow w.heap.size 3 1 v k (ints ((pfx ss).take k)) ∧ Below w.heap.size w wr)
  case atStart => exact ⟨0, by omega, by omega, rfl, World.ownsRow_made w #[] 0 (Nat.le_refl _) (Nat.zero_le _) (by simp), (Below.refl _ _).alloc (Nat.le_refl _) _⟩
  case round =>
    obtain ⟨k, hkf, hk, rfl, ho, hb⟩ := hrel
    by_cases hlt : k < ss.length
    · have h1 := Lib.hid (show ints ((pfx ss).take k) ++ [.int .i64 (pv ss k)] = ints ((pfx ss).take (k + 1)) by rw [pfx_take ss hlt, ints_app]; rfl)
      have hkb : k ≤ 1099511627776 := by omega
      have hbw := hb.size
      have q0 : (k : Int) < (ss.length : Int) := by omega
      by_cases hk0 : k = 0
      · have HP := Lib.hid (show pv ss k = 0 by rw [hk0]; rfl)
        have q1 : decide (0 < k) = false := by simp [hk0]
        clear hk0
        rw [HP.out] at h1
        go_wp2_with (at_builtin; refine mem.push _ rfl _ _ 38 rfl w.heap.size 3 _ 1 8 Try.underlying38 mem.info_int rfl Nat.one_pos _ _ _ rfl ho [.int .i64 ((0 : Int))] _ rfl (mem.ints_one [(0 : Int)]) rfl hkb (by decide) hbw ?_; intro v' w' ho' hg')
        have hbx := below_push hb hbw hg' ho
        rw [h1.out] at ho'
        go_roundg (gk - 1)
        case measure => omega
        case rel => exact ⟨k + 1, by omega, by omega, by go_num, ho', hbx⟩
      · obtain ⟨t, rfl⟩ : ∃ t, k = t + 1 := ⟨k - 1, by omega⟩
        clear hk0
        have hrd := hr.below hb
        have hlow : ∃ b off, A = some ⟨b, off, none⟩ ∧ b < w.heap.size := by
          obtain ⟨b, off, e, hc⟩ := hr.str (k := t) (by omega)
          exact ⟨b, off, e, World.block_lt_of_cell? _ _ hc⟩
        obtain ⟨b, off, rfl, hbl⟩ := hlow
        have hc1 := Rd_str_at hrd (k := t) (by omega)
        have hc2 := Rd_str_at hrd (k := t + 1) (by omega)
        have HE := Lib.hid (fun (w' : World) (h : Below wr.heap.size wr.drew w') (i : Nat) (v : Value) (hv : wr.cell? ⟨b, i, none⟩ = some v) => (show w'.cell? ⟨b, i, none⟩ = some v from (h.cell (p := ⟨b, i, none⟩) (Nat.lt_of_lt_of_le hbl hb.size)).trans hv))
        have HX := Lib.hid (show (ss[t]'(by omega)).size ≤ maxLen ∧ (ss[t + 1]'(by omega)).size ≤ maxLen from ⟨HSZ.out _ (List.getElem_mem _), HSZ.out _ (List.getElem_mem _)⟩)
        have HV := Lib.hid (show pv ss (t + 1) = ((cpl (ss[t]'(by omega)).data.toList (ss[t + 1]'(by omega)).data.toList : Nat) : Int) by rw [pv_succ, getD_s ss (by omega), getD_s ss (by omega)])
        generalize ss[t]'(by omega) = x at hc1 HX HV
        generalize ss[t + 1]'(by omega) = y at hc2 HX HV
        clear hbl
        rw [show ((t + 1 : Nat) : Int) = (t : Int) + 1 by omega] at q0 ⊢
        have q3 : (0 : Int) < (t : Int) + 1 := by omega
        have q2 : (t : Int) < (ss.length : Int) := by omega
        have q4 : ((t : Int) + 1).toNat = t + 1 := by omega
        have q6 : (0 : Int) ≤ (t : Int) + 1 := by omega
        have q7 : IntKind.i64.wrap (t : Int) = (t : Int) := by rw [IntKind.wrap_i64]; omega
        rw [HV.out] at h1
        go_wp2_with fail
        refine wp_region_held_drew (S := fun w' => w'.cell? ⟨b, off + t, none⟩ = some (.string x) ∧ w'.cell? ⟨b, off + (t + 1), none⟩ = some (.string y)) (by kernel_rfl) ⟨hc1, hc2⟩ (fun hHeld => ?_)
        refine' wpAnyH_take (i := 0) (oi := Oper.mk (some 15) _ _ _ _ _) (v := _) rfl (by kernel_rfl) (by kernel_rfl) (by kernel_rfl) (fun _ _ _ h => h) (Or.inl ⟨by rfl, ?yy13⟩) (by assumption) ?rr13
        case yy13 => (intro w hSw; (try dsimp only at hSw); go_simp; (try with_reducible rfl))
        try simp only [Act.put, List.setIfInBounds_toArray, List.set_cons_zero, List.set_cons_succ]
        refine' wpAnyH_take (i := 1) (oi := Oper.mk (some 16) _ _ _ _ _) (v := _) rfl (by kernel_rfl) (by kernel_rfl) (by kernel_rfl) (fun _ _ _ h => h) (Or.inl ⟨by rfl, ?yy14⟩) (by assumption) ?rr14
        case yy14 => (intro w hSw; (try dsimp only at hSw); go_simp; (try with_reducible rfl))
        try simp only [Act.put, List.setIfInBounds_toArray, List.set_cons_zero, List.set_cons_succ]
        refine' wpAnyH_take (i := 2) (oi := Oper.mk (some 17) _ _ _ _ _) (v := _) rfl (by kernel_rfl) (by kernel_rfl) (by kernel_rfl) (fun _ _ _ h => h) (Or.inl ⟨by rfl, ?yy15⟩) (by assumption) ?rr15
        case yy15 => (intro w hSw; (try dsimp only at hSw); go_simp; (try with_reducible rfl))
        try simp only [Act.put, List.setIfInBounds_toArray, List.set_cons_zero, List.set_cons_succ]
        refine' wpAnyH_take (i := 3) (oi := Oper.mk (some 18) _ _ _ _ _) (v := _) rfl (by kernel_rfl) (by kernel_rfl) (by kernel_rfl) (fun _ _ _ h => h) (Or.inl ⟨by rfl, ?yy16⟩) (by assumption) ?rr16
        case yy16 => (intro w hSw; (try dsimp only at hSw); go_simp; (try with_reducible rfl))
        try simp only [Act.put, List.setIfInBounds_toArray, List.set_cons_zero, List.set_cons_succ]
        refine' wpAnyH_take (i := 4) (oi := Oper.mk (some 19) _ _ _ _ _) (v := _) rfl (by kernel_rfl) (by kernel_rfl) (by kernel_rfl) (fun _ _ _ h => h) (Or.inl ⟨by rfl, ?yy17⟩) (by assumption) ?rr17
        case yy17 => (intro w hSw; (try dsimp only at hSw); go_simp; (try with_reducible rfl))
        try simp only [Act.put, List.setIfInBounds_toArray, List.set_cons_zero, List.set_cons_succ]
        refine' wpAnyH_take (i := 5) (oi := Oper.mk (some 20) _ _ _ _ _) (v := _) rfl (by kernel_rfl) (by kernel_rfl) (by kernel_rfl) (fun _ _ _ h => h) (Or.inl ⟨by rfl, ?yy18⟩) (by assumption) ?rr18
        case yy18 => (intro w hSw; (try dsimp only at hSw); go_simp; (try with_reducible rfl))
        try simp only [Act.put, List.setIfInBounds_toArray, List.set_cons_zero, List.set_cons_succ]
        refine' wpAnyH_take (i := 6) (oi := Oper.mk (some 21) _ _ _ _ _) (v := _) rfl (by kernel_rfl) (by kernel_rfl) (by kernel_rfl) (fun _ _ _ h => h) (Or.inl ⟨by rfl, ?yy19⟩) (by assumption) ?rr19
        case yy19 => (intro w hSw; (try dsimp only at hSw); go_simp; (try with_reducible rfl))
        try simp only [Act.put, List.setIfInBounds_toArray, List.set_cons_zero, List.set_cons_succ]
        refine' wpAnyH_take (i := 7) (oi := Oper.mk (some 22) _ _ _ _ _) (v := _) rfl (by kernel_rfl) (by kernel_rfl) (by kernel_rfl) (fun _ _ _ h => h) (Or.inl ⟨by rfl, ?yy20⟩) (by assumption) ?rr20
        case yy20 => (intro w hSw; (try dsimp only at hSw); go_simp; (try with_reducible rfl))
        try simp only [Act.put, List.setIfInBounds_toArray, List.set_cons_zero, List.set_cons_succ]
        refine' wpAnyH_take (i := 8) (oi := Oper.mk (some 23) _ _ _ _ _) (v := _) rfl (by kernel_rfl) (by kernel_rfl) (by kernel_rfl) (fun _ _ _ h => h) (Or.inl ⟨by rfl, ?yy21⟩) (by assumption) ?rr21
        case yy21 => (intro w hSw; (try dsimp only at hSw); go_simp; (try with_reducible rfl))
        try simp only [Act.put, List.setIfInBounds_toArray, List.set_cons_zero, List.set_cons_succ]
        refine wpAnyH_ready (rs := [9]) (by kernel_rfl) (by simp) ?_
        refine AllReadyH.cons (o := Oper.mk (some 24) _ _ _ _ _) rfl (fun K hK => ?_) AllReadyH.nil
        go_simp
        (go_at_call 69; refine (prefixes.spec_any x y _ HX.out.1 HX.out.2).mono ?_; rintro e w2 ⟨rfl, hb1⟩)
        go_wp2_with fail
        refine hK.out _ _ ⟨HE.out _ hb1 _ _ hc1, HE.out _ hb1 _ _ hc2⟩ (fun hHeld => ?_)
        clear hK K
        try simp only [Act.put, List.setIfInBounds_toArray, List.set_cons_zero, List.set_cons_succ]
        refine' wpAnyH_take (i := 10) (oi := Oper.mk (some 5) _ _ _ _ _) (v := _) rfl (by kernel_rfl) (by kernel_rfl) (by kernel_rfl) (fun _ _ _ h => h) (Or.inl ⟨by rfl, ?yy22⟩) (by assumption) ?rr22
        case yy22 => (intro w hSw; (try dsimp only at hSw); go_simp; (try with_reducible rfl))
        try simp only [Act.put, List.setIfInBounds_toArray, List.set_cons_zero, List.set_cons_succ]
        refine wpAnyH_done (by kernel_rfl) ?_ _
        have hb2 := (Below.refl wr.heap.size wr).drew.trans hb1
        have ho2 := own_below ho hb2
        have hb3 := below_at hb hbw hb2
        have hbw2 := hb3.size
        go_wp2_with (at_builtin; refine mem.push _ rfl _ _ 38 rfl w.heap.size 3 _ 1 8 Try.underlying38 mem.info_int rfl Nat.one_pos _ _ _ rfl ho2 [.int .i64 (((cpl x.data.toList y.data.toList : Nat) : Int))] _ rfl (mem.ints_one [((cpl x.data.toList y.data.toList : Nat) : Int)]) rfl hkb (by decide) hbw2 ?_; intro v' w' ho' hg')
        have hbx := below_push hb3 hbw2 hg' ho2
        rw [h1.out] at ho'
        go_roundg (gk - 1)
        case measure => omega
        case rel => exact ⟨t + 1 + 1, by omega, by omega, by go_num, ho', hbx⟩
    · obtain rfl : k = ss.length := by omega
      rw [List.take_of_length_le (by rw [pfx_len]; omega)] at ho
      go_wp2
      go_ret
      exact ⟨_, rfl, ho, hb⟩
end Go.Proofs.Ytaeimdcmpjanbaa.pfxs
