/- slices.Grow of nothing, slices.Concat. Condition: at most 2^20 elements in all. -/
import Derived.Test.YtgffabjajbgbjaaElem
import Derived.Test.YtgffabjajbgbjaaRec
import Derived.Test.YtgffabjajbgbjaaRow
import Derived.Lib.AppendZeros
import Derived.Deep.LoopGhost
set_option linter.unusedVariables false
set_option linter.unusedSimpArgs false
namespace Go.Proofs.Ytgffabjajbgbjaa.concat
open Go.RowKit Go.Proofs.Ytgffabjajbgbjaa.mem

theorem make_nil {P : Program} (t tn ty e : TypeId) (z : Value) (sz b : Nat) (ht : P.underlying t = some (.slice e)) (htn : P.underlying tn = some (.int .i64)) (hi : (P.info? e).map (fun i => (i.zero, i.size, i.bytes)) = some (some z, sz, b)) (hsz : 0 < sz) (hzs : z.cells.size = sz) (hb : b ≤ 64)
    (n : Nat) (h0 : 0 < n) (hn : n ≤ 1099511627776) (w : World) :
    ∃ c w', (Builtin.append_ #[t, tn] ty #[.slice none 0 0, .int .i64 (n : Int)]).run P w = .ok (.slice (some ⟨w.heap.size, 0, none⟩) n c) w' ∧ n ≤ c ∧ c ≤ maxLen ∧ w'.ownsRow w.heap.size e sz (.slice (some ⟨w.heap.size, 0, none⟩) 0 c) 0 [] ∧ Below w.heap.size w w' := by
  obtain ⟨i0, hi0, hz0, hz1, hz2⟩ := info_parts hi
  have hnb : n * i0.bytes ≤ 281474976710656 := by rw [hz2]; exact Nat.le_trans (Nat.mul_le_mul hn hb) (by decide)
  have hr := Lib.run_append_nil_zeros w t tn ty e i0 z .i64 .i64 ht htn hi0 hz0 n h0 (by omega) (by omega) hnb
  have hge := grownCap_ge w n 0 e
  have hle := grownCap_le_maxLen w n 0 e (by unfold maxLen; omega)
  refine ⟨_, _, hr, hge, hle, ⟨by simp, .inr ⟨w.heap.size, _, _, rfl, Nat.le_refl _, heap_alloc_new w.drew _, Nat.zero_le _, hle, ?_, by simp⟩⟩, ?_⟩
  · rw [Array.size_append, size_zeroCells, size_zeroCells, hzs, ← Nat.add_mul]
    congr 1; omega
  · exact ((Below.refl _ _).drew).alloc (Nat.le_refl _) _
theorem flat_take {α : Type} (ls : List (List α)) (k : Nat) : (ls.take k).flatten.length ≤ ls.flatten.length := by
  conv => rhs; rw [← List.take_append_drop k ls, List.flatten_append, List.length_append]
  omega
theorem flat_app {α : Type} (ls : List (List α)) {k : Nat} (h : k < ls.length) : (ls.take (k + 1)).flatten = (ls.take k).flatten ++ ls.getD k [] := by
  rw [List.take_succ_eq_append_getElem h, List.flatten_append, List.getD_eq_getElem?_getD, List.getElem?_eq_getElem h]; simp
theorem flat_step {α : Type} (ls : List (List α)) {k : Nat} (h : k < ls.length) : (ls.take (k + 1)).flatten.length = (ls.take k).flatten.length + (ls.getD k []).length := by
  rw [flat_app ls h, List.length_append]
set_option maxHeartbeats 1000000 in
set_option maxRecDepth 100000 in
theorem grow_int (n : Nat) (w : World) (hn : n ≤ 1048576) :
    Calls Try.prog 100 #[.slice none 0 0, .int .i64 (n : Int)] w fun e w' => ∃ v, e = .returned v ∧ w'.ownsRow w.heap.size 3 1 v 0 [] ∧ Below w.heap.size w w' := by
  by_cases h0 : 0 < n
  · obtain ⟨c, w1, hr, h1, h2, ho, hb⟩ := make_nil (P := Try.prog) 22 3 22 3 (.int .i64 0) 1 8 Try.underlying22 Try.underlying3 mem.info_int (by decide) rfl (by decide) n h0 (by omega) w
    have q1 : (0 : Int) < (n : Int) := by omega
    unfold maxLen at h2
    have HR := Lib.hid hr
    clear hr
    go_enter Try.func100, Try.ntmps100
    go_wp2_with (at_builtin; refine Lib.wpList_append_run _ rfl _ _ _ _ rfl _ _ rfl rfl _ _ HR.out ?_)
    go_ret
    exact ⟨_, rfl, ho, hb⟩
  · obtain rfl : n = 0 := by omega
    go_enter Try.func100, Try.ntmps100
    go_wp2
    go_ret
    exact ⟨_, rfl, World.ownsRow_nil _ _ _ _, Below.refl _ _⟩

set_option maxRecDepth 100000 in
set_option maxHeartbeats 1000000 in
theorem concat_int (A : Option Addr) (c0 : Nat) (vs : List Value) (ls : List (List Int)) (w : World) (hr : Rd w 1 A vs.length vs) (hvs : SLs w 1 vs (ls.map fun l => (l.length, ints l))) (hl : ls.length ≤ 1048576) (ht : ls.flatten.length ≤ 1048576) :
    Calls Try.prog 89 #[.slice A vs.length c0] w fun e w' => ∃ v, e = .returned v ∧ w'.ownsRow w.heap.size 3 1 v ls.flatten.length (ints ls.flatten) ∧ Below w.heap.size w w' := by
  have HL := Lib.hid (show vs.length = ls.length by simpa using hvs.1)
  have hl2 : vs.length ≤ 1048576 := by have := HL.out; omega
  have HT := Lib.hid (fun k => flat_take ls k)
  have HS := Lib.hid (fun (k : Nat) (h : k < vs.length) => flat_step ls (k := k) (by have := HL.out; omega))
  have HV := Lib.hid (show ∀ (k : Nat) (h : k < vs.length), SL w 1 vs[k] (ls.getD k []).length (ints (ls.getD k [])) from fun k h => by
    have h1 : k < ls.length := by have := HL.out; omega
    have := hvs.2 k (by simpa using h1) h
    simp only [List.getElem_map] at this
    rwa [List.getD_eq_getElem?_getD, List.getElem?_eq_getElem h1])
  have HTA := Lib.hid (show (ls.take 0).flatten.length = 0 by simp)
  have HTB := Lib.hid (show ls.take vs.length = ls from List.take_of_length_le (by have := HL.out; omega))
  clear hvs
  have ht' : ((ls.flatten.length : Nat) : Int) ≤ 1048576 := by omega
  go_enter Try.func89, Try.ntmps89
  go_wp2
  go_loop [3, 11] (fun s i => ∃ k : Nat, k ≤ vs.length ∧ i = .int .i64 (k : Int) ∧ s = .int .i64 (((ls.take k).flatten.length : Nat) : Int)) (fun _ i => vs.length - (intOf i).toNat)
  case atStart => exact ⟨0, by omega, rfl, by simp⟩
  case round =>
    obtain ⟨k, hk, rfl, rfl⟩ := hrel
    have hb1 := HT.out k
    by_cases hlt : k < vs.length
    · have hst := HS.out k hlt
      have hb2 := HT.out (k + 1)
      obtain ⟨b, off, rfl, hcell⟩ := hr.cells (by omega)
      have hc := hcell k vs[k] (List.getElem?_eq_getElem hlt)
      obtain ⟨A2, c2, hv, h1, h2, h3⟩ := HV.out k hlt
      rw [hv] at hc
      clear hv h3 hcell
      have HE := Lib.hid hst
      have hst2 : (ls.take k).flatten.length + (ls.getD k []).length ≤ 1048576 := by omega
      generalize (ls.take k).flatten.length = a at HE hst2 hb1 ⊢
      generalize (ls.getD k []).length = d at HE hst2 hc h1 ⊢
      clear hst hb2
      unfold maxLen at h2
      go_wp2
      go_round
      case rel => exact ⟨k + 1, by omega, by go_num, by rw [HE.out]; go_num⟩
      case measure => simp [intOf]; omega
    · obtain rfl : k = vs.length := by omega
      rw [HTB.out]
      clear hb1
      have HG := Lib.hid (show ∀ W : World, _ from fun W => grow_int ls.flatten.length W ht)
      obtain ⟨T, hT⟩ : ∃ T, T = ls.flatten.length := ⟨_, rfl⟩
      rw [← hT] at HG ht' ⊢
      have HT0 := Lib.hid hT
      clear hT
      go_wp2_with fail
      refine (HG.out _).mono ?_
      rintro e w1 ⟨v0, rfl, ho0, hb0⟩
      have HO0 := Lib.hid ho0
      clear ho0
      go_wp2
      go_loopw [6, 27] (fun v i wr => ∃ k : Nat, k ≤ vs.length ∧ i = .int .i64 (k : Int) ∧ wr.ownsRow w.heap.size 3 1 v (ls.take k).flatten.length (ints (ls.take k).flatten) ∧ Below w.heap.size w wr) (fun _ i _ => vs.length - (intOf i).toNat)
      case atStart => exact ⟨0, by omega, rfl, by rw [HTA.out, List.take_zero]; exact HO0.out, hb0⟩
      case round =>
        obtain ⟨k, hk, rfl, ho, hb⟩ := hrel
        by_cases hlt : k < vs.length
        · have hst := HS.out k hlt
          have HB := Lib.hid (HT.out (k + 1))
          obtain ⟨b, off, rfl, hcell⟩ := (hr.below hb).cells (by omega)
          have hc := hcell k vs[k] (List.getElem?_eq_getElem hlt)
          obtain ⟨A2, c2, hv, h1, h2, h3⟩ := (HV.out k hlt).below hb
          rw [hv] at hc
          have HE := Lib.hid (show (ls.take (k + 1)).flatten = (ls.take k).flatten ++ ls.getD k [] from flat_app ls (by have := HL.out; omega))
          clear hv hcell
          have hh : (ls.take k).flatten.length + (ls.getD k []).length ≤ 1099511627776 := by have := HB.out; omega
          have hbs := hb.size
          generalize (ls.take k).flatten = a at HE hh ho hst ⊢
          generalize ls.getD k [] = d at HE hh hc h1 h3 hst ⊢
          unfold maxLen at h2
          clear hst
          go_wp2_with (at_builtin; refine mem.extend _ rfl _ _ 22 rfl w.heap.size 3 _ 1 8 Try.underlying22 mem.info_int rfl Nat.one_pos _ _ _ rfl ho _ _ _ _ rfl h3 (mem.ints_one d) hh (by decide) hbs ?_; intro v' w' ho' hg')
          have hb2 := below_push hb hbs hg' ho
          clear hc h3 ho hg' hb
          have hO : w'.ownsRow w.heap.size 3 1 v' (ls.take (k + 1)).flatten.length (ints (ls.take (k + 1)).flatten) := by
            rw [HE.out, List.length_append, ints_app]; exact ho'
          clear ho'
          go_wp2
          go_roundw
          case rel => exact ⟨k + 1, by omega, by go_num, hO, hb2⟩
          case measure => simp [intOf]; omega
        · obtain rfl : k = vs.length := by omega
          rw [HTB.out, ← HT0.out] at ho
          go_wp2
          go_ret
          exact ⟨_, rfl, by rw [← HT0.out]; exact ho, hb⟩
set_option maxHeartbeats 1000000 in
set_option maxRecDepth 100000 in
theorem grow_row (n : Nat) (w : World) (hn : n ≤ 1048576) :
    Calls Try.prog 107 #[.slice none 0 0, .int .i64 (n : Int)] w fun e w' => ∃ v, e = .returned v ∧ w'.ownsRow w.heap.size 54 1 v 0 [] ∧ Below w.heap.size w w' := by
  by_cases h0 : 0 < n
  · obtain ⟨c, w1, hr, h1, h2, ho, hb⟩ := make_nil (P := Try.prog) 47 3 47 54 (.slice none 0 0) 1 24 Try.underlying47 Try.underlying3 mem.info_row (by decide) rfl (by decide) n h0 (by omega) w
    have q1 : (0 : Int) < (n : Int) := by omega
    unfold maxLen at h2
    have HR := Lib.hid hr
    clear hr
    go_enter Try.func107, Try.ntmps107
    go_wp2_with (at_builtin; refine Lib.wpList_append_run _ rfl _ _ _ _ rfl _ _ rfl rfl _ _ HR.out ?_)
    go_ret
    exact ⟨_, rfl, ho, hb⟩
  · obtain rfl : n = 0 := by omega
    go_enter Try.func107, Try.ntmps107
    go_wp2
    go_ret
    exact ⟨_, rfl, World.ownsRow_nil _ _ _ _, Below.refl _ _⟩

set_option maxRecDepth 100000 in
set_option maxHeartbeats 1000000 in
theorem concat_row (A : Option Addr) (c0 : Nat) (vs : List Value) (ls : List (List Row)) (w : World) (hr : Rd w 1 A vs.length vs) (hvs : SLs w 1 vs (ls.map fun l => (l.length, rws l))) (hl : ls.length ≤ 1048576) (ht : ls.flatten.length ≤ 1048576) :
    Calls Try.prog 95 #[.slice A vs.length c0] w fun e w' => ∃ v, e = .returned v ∧ w'.ownsRow w.heap.size 54 1 v ls.flatten.length (rws ls.flatten) ∧ Below w.heap.size w w' := by
  have HL := Lib.hid (show vs.length = ls.length by simpa using hvs.1)
  have hl2 : vs.length ≤ 1048576 := by have := HL.out; omega
  have HT := Lib.hid (fun k => flat_take ls k)
  have HS := Lib.hid (fun (k : Nat) (h : k < vs.length) => flat_step ls (k := k) (by have := HL.out; omega))
  have HV := Lib.hid (show ∀ (k : Nat) (h : k < vs.length), SL w 1 vs[k] (ls.getD k []).length (rws (ls.getD k [])) from fun k h => by
    have h1 : k < ls.length := by have := HL.out; omega
    have := hvs.2 k (by simpa using h1) h
    simp only [List.getElem_map] at this
    rwa [List.getD_eq_getElem?_getD, List.getElem?_eq_getElem h1])
  have HTA := Lib.hid (show (ls.take 0).flatten.length = 0 by simp)
  have HTB := Lib.hid (show ls.take vs.length = ls from List.take_of_length_le (by have := HL.out; omega))
  clear hvs
  have ht' : ((ls.flatten.length : Nat) : Int) ≤ 1048576 := by omega
  go_enter Try.func95, Try.ntmps95
  go_wp2
  go_loop [3, 11] (fun s i => ∃ k : Nat, k ≤ vs.length ∧ i = .int .i64 (k : Int) ∧ s = .int .i64 (((ls.take k).flatten.length : Nat) : Int)) (fun _ i => vs.length - (intOf i).toNat)
  case atStart => exact ⟨0, by omega, rfl, by simp⟩
  case round =>
    obtain ⟨k, hk, rfl, rfl⟩ := hrel
    have hb1 := HT.out k
    by_cases hlt : k < vs.length
    · have hst := HS.out k hlt
      have hb2 := HT.out (k + 1)
      obtain ⟨b, off, rfl, hcell⟩ := hr.cells (by omega)
      have hc := hcell k vs[k] (List.getElem?_eq_getElem hlt)
      obtain ⟨A2, c2, hv, h1, h2, h3⟩ := HV.out k hlt
      rw [hv] at hc
      clear hv h3 hcell
      have HE := Lib.hid hst
      have hst2 : (ls.take k).flatten.length + (ls.getD k []).length ≤ 1048576 := by omega
      generalize (ls.take k).flatten.length = a at HE hst2 hb1 ⊢
      generalize (ls.getD k []).length = d at HE hst2 hc h1 ⊢
      clear hst hb2
      unfold maxLen at h2
      go_wp2
      go_round
      case rel => exact ⟨k + 1, by omega, by go_num, by rw [HE.out]; go_num⟩
      case measure => simp [intOf]; omega
    · obtain rfl : k = vs.length := by omega
      rw [HTB.out]
      clear hb1
      have HG := Lib.hid (show ∀ W : World, _ from fun W => grow_row ls.flatten.length W ht)
      obtain ⟨T, hT⟩ : ∃ T, T = ls.flatten.length := ⟨_, rfl⟩
      rw [← hT] at HG ht' ⊢
      have HT0 := Lib.hid hT
      clear hT
      go_wp2_with fail
      refine (HG.out _).mono ?_
      rintro e w1 ⟨v0, rfl, ho0, hb0⟩
      have HO0 := Lib.hid ho0
      clear ho0
      go_wp2
      go_loopw [6, 27] (fun v i wr => ∃ k : Nat, k ≤ vs.length ∧ i = .int .i64 (k : Int) ∧ wr.ownsRow w.heap.size 54 1 v (ls.take k).flatten.length (rws (ls.take k).flatten) ∧ Below w.heap.size w wr) (fun _ i _ => vs.length - (intOf i).toNat)
      case atStart => exact ⟨0, by omega, rfl, by rw [HTA.out, List.take_zero]; exact HO0.out, hb0⟩
      case round =>
        obtain ⟨k, hk, rfl, ho, hb⟩ := hrel
        by_cases hlt : k < vs.length
        · have hst := HS.out k hlt
          have HB := Lib.hid (HT.out (k + 1))
          obtain ⟨b, off, rfl, hcell⟩ := (hr.below hb).cells (by omega)
          have hc := hcell k vs[k] (List.getElem?_eq_getElem hlt)
          obtain ⟨A2, c2, hv, h1, h2, h3⟩ := (HV.out k hlt).below hb
          rw [hv] at hc
          have HE := Lib.hid (show (ls.take (k + 1)).flatten = (ls.take k).flatten ++ ls.getD k [] from flat_app ls (by have := HL.out; omega))
          clear hv hcell
          have hh : (ls.take k).flatten.length + (ls.getD k []).length ≤ 1099511627776 := by have := HB.out; omega
          have hbs := hb.size
          generalize (ls.take k).flatten = a at HE hh ho hst ⊢
          generalize ls.getD k [] = d at HE hh hc h1 h3 hst ⊢
          unfold maxLen at h2
          clear hst
          go_wp2_with (at_builtin; refine mem.extend _ rfl _ _ 47 rfl w.heap.size 54 _ 1 24 Try.underlying47 mem.info_row rfl Nat.one_pos _ _ _ rfl ho _ _ _ _ rfl h3 (mem.rws_one d) hh (by decide) hbs ?_; intro v' w' ho' hg')
          have hb2 := below_push hb hbs hg' ho
          clear hc h3 ho hg' hb
          have hO : w'.ownsRow w.heap.size 54 1 v' (ls.take (k + 1)).flatten.length (rws (ls.take (k + 1)).flatten) := by
            rw [HE.out, List.length_append, rws_app]; exact ho'
          clear ho'
          go_wp2
          go_roundw
          case rel => exact ⟨k + 1, by omega, by go_num, hO, hb2⟩
          case measure => simp [intOf]; omega
        · obtain rfl : k = vs.length := by omega
          rw [HTB.out, ← HT0.out] at ho
          go_wp2
          go_ret
          exact ⟨_, rfl, by rw [← HT0.out]; exact ho, hb⟩
end Go.Proofs.Ytgffabjajbgbjaa.concat
