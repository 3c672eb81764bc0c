/- Valid lists of groups, the program's and the reference's. No condition beyond 2^20 groups. -/
import Derived.Test.YtgngoedooemboaaGroups
import Derived.Deep.RegionHeld3
import Derived.Deep.LoopGhost
set_option linter.unusedVariables false
set_option linter.unusedSimpArgs false
namespace Go.Proofs.Ytgngoedooemboaa.groups
open Go.RowKit Go.Proofs.Ytgngoedooemboaa.mem
open Go.Proofs.Ytgngoedooemboaa.ins (inB inB_true inB_false inB_iff)

def g0 : Grp := ⟨0, 0, 0, 0, 0⟩
/-- the first k groups are valid and ascend -/
def gB (l : List Grp) : Nat → Bool
  | 0 => true
  | k + 1 => gB l k && (okG (l.getD k g0) && (decide (k = 0) || decide ((l.getD (k - 1) g0).key < (l.getD k g0).key)))
def vgroups (l : List Grp) : Bool := gB l l.length && decide (l.length ≤ 64)
theorem gB_mono (l : List Grp) {j : Nat} : ∀ {k : Nat}, j ≤ k → gB l k = true → gB l j = true
  | 0, h, hk => by obtain rfl : j = 0 := by omega
                   exact hk
  | k + 1, h, hk => by
    by_cases e : j = k + 1
    · subst e; exact hk
    · simp only [gB, Bool.and_eq_true] at hk
      exact gB_mono l (k := k) (by omega) hk.1
theorem getD_g (l : List Grp) {i : Nat} (h : i < l.length) : l.getD i g0 = l[i] := by
  rw [List.getD_eq_getElem?_getD, List.getElem?_eq_getElem h]; rfl
theorem gB_not {l : List Grp} {k : Nat} (hk : k < l.length) (h : (okG (l.getD k g0) && (decide (k = 0) || decide ((l.getD (k - 1) g0).key < (l.getD k g0).key))) = false) : vgroups l = false := by
  rw [← Bool.not_eq_true]
  intro hv
  simp only [vgroups, Bool.and_eq_true] at hv
  have := gB_mono l (j := k + 1) (k := l.length) (by omega) hv.1
  simp only [gB, Bool.and_eq_true] at this
  rw [Bool.and_eq_false_iff] at h
  rcases h with h | h
  · rw [h] at this; simp at this
  · rw [h] at this; simp at this
/-- the cells of the boxed group, seen in any world behind it -/
theorem newcells {wr w2 : World} {x : Grp} {n : Nat} (hn : wr.heap.size < n) (h : Below n (wr.alloc (.cells #[.int .i64 x.key, .int .i64 x.count, .int .i64 x.sum, .int .i64 x.least, .int .i64 x.most] 71)).drew w2) :
    w2.cell? ⟨wr.heap.size, 0, none⟩ = some (.int .i64 x.key) ∧ w2.cell? ⟨wr.heap.size, 1, none⟩ = some (.int .i64 x.count) ∧ w2.cell? ⟨wr.heap.size, 2, none⟩ = some (.int .i64 x.sum) ∧ w2.cell? ⟨wr.heap.size, 3, none⟩ = some (.int .i64 x.least) ∧ w2.cell? ⟨wr.heap.size, 4, none⟩ = some (.int .i64 x.most) := by
  have hc : ∀ i, (wr.alloc (.cells #[.int .i64 x.key, .int .i64 x.count, .int .i64 x.sum, .int .i64 x.least, .int .i64 x.most] 71)).drew.cell? ⟨wr.heap.size, i, none⟩ = #[Value.int .i64 x.key, .int .i64 x.count, .int .i64 x.sum, .int .i64 x.least, .int .i64 x.most][i]? → w2.cell? ⟨wr.heap.size, i, none⟩ = #[Value.int .i64 x.key, .int .i64 x.count, .int .i64 x.sum, .int .i64 x.least, .int .i64 x.most][i]? := fun i h0 => (h.cell (by simpa using hn)).trans h0
  exact ⟨hc 0 (by simp [go_sem]), hc 1 (by simp [go_sem]), hc 2 (by simp [go_sem]), hc 3 (by simp [go_sem]), hc 4 (by simp [go_sem])⟩
theorem oldcell {wr w2 : World} {o : Obj} {b i : Nat} {v : Value} {n : Nat} (hn : wr.heap.size < n) (h : Below n (wr.alloc o).drew w2) (hp : wr.cell? ⟨b, i, none⟩ = some v) : w2.cell? ⟨b, i, none⟩ = some v := by
  have hlt := World.block_lt_of_cell? _ _ hp
  have h0 : (wr.alloc o).drew.cell? ⟨b, i, none⟩ = some v := by
    rw [← hp]; exact World.cell?_alloc_past (w := wr) o b i hlt
  exact (h.cell (by omega)).trans h0
theorem vg_len {l : List Grp} (h : vgroups l = true) : l.length ≤ 64 := by simp only [vgroups, Bool.and_eq_true, decide_eq_true_eq] at h; exact h.2
theorem vg_long {l : List Grp} (h : ¬ l.length ≤ 64) : vgroups l = false := by simp [vgroups, h]

set_option maxRecDepth 100000 in
set_option maxHeartbeats 4000000 in
theorem impl_any (A : Option Addr) (c : Nat) (l : List Grp) (w : World) (hn : l.length ≤ 1048576) (hr : Rd w 5 A l.length (grps l)) :
    Calls Try.prog 17 #[.slice A l.length c] w fun e w' => e = .returned (.bool (vgroups l)) ∧ Below w.heap.size w w' := by
  go_enter Try.func17, Try.ntmps17
  go_wp2
  go_loopg [3, 4, 7] (l.length + 1) (fun f _ _ i wr => ∃ k : Nat, l.length < k + f ∧ k ≤ l.length ∧ i = .int .i64 (k : Int) ∧ gB l k = true ∧ Below w.heap.size w wr)
  case atStart => exact ⟨0, by omega, by omega, rfl, rfl, Below.refl _ _⟩
  case round =>
    obtain ⟨k, hkf, hk, rfl, hB, hb⟩ := hrel
    have HB := Lib.hid hB
    clear hB
    by_cases hlt : k < l.length
    · have hrd := hr.below hb
      obtain ⟨b, off, rfl, y0, y1, y2, y3, y4⟩ := hrd.grp hlt
      have HS := Lib.hid (show gB l (k + 1) = (okG l[k] && (decide (k = 0) || decide ((l.getD (k - 1) g0).key < l[k].key))) by
        rw [gB, HB.out, Bool.true_and, getD_g l hlt])
      have HF := Lib.hid (show (okG l[k] && (decide (k = 0) || decide ((l.getD (k - 1) g0).key < l[k].key))) = false → vgroups l = false from fun h => gB_not hlt (by rw [getD_g l hlt]; exact h))
      have hp : 0 < k → wr.cell? ⟨b, off + (k - 1) * 5, none⟩ = some (.int .i64 (l.getD (k - 1) g0).key) := fun h0 => by
        rw [getD_g l (show k - 1 < l.length by omega)]
        exact (hrd.grp_at (k := k - 1) (by omega)).1
      have HP := Lib.hid hp
      clear hp
      generalize l[k] = x at y0 y1 y2 y3 y4 HS HF
      generalize (l.getD (k - 1) g0).key = pk at HP HS HF
      obtain ⟨ox, hox⟩ : ∃ ox, ox = okG x := ⟨_, rfl⟩
      have h1 := (impl_one x)
      rw [← hox] at h1 HS HF
      have H1 := Lib.hid h1
      clear h1 hox
      have HC := Lib.hid (fun w' h => newcells (wr := wr) (w2 := w') (x := x) (n := wr.heap.size + 1) (by omega) h)
      have q0 : (k : Int) < (l.length : Int) := by omega
      have q01 : (0 : Int) ≤ (k : Int) := by omega
      cases ox with
      | false =>
        have HV := Lib.hid (HF.out rfl)
        go_wp2_with fail
        refine wp_region_held_drew (S := fun w' => w'.cell? ⟨wr.heap.size, 0, none⟩ = some (.int .i64 x.key) ∧ w'.cell? ⟨wr.heap.size, 1, none⟩ = some (.int .i64 x.count) ∧ w'.cell? ⟨wr.heap.size, 2, none⟩ = some (.int .i64 x.sum) ∧ w'.cell? ⟨wr.heap.size, 3, none⟩ = some (.int .i64 x.least) ∧ w'.cell? ⟨wr.heap.size, 4, none⟩ = some (.int .i64 x.most)) (by kernel_rfl) (HC.out _ (Below.refl _ _)) (fun hHeld => ?_)
        refine' wpAnyH_take (i := 0) (oi := Oper.mk (some 12) _ _ _ _ _) (v := _) rfl (by kernel_rfl) (by kernel_rfl) (by kernel_rfl) (fun _ _ _ h => h) (Or.inl ⟨by rfl, ?yy1⟩) (by assumption) ?rr1
        case yy1 => (intro w hSw; (try dsimp only at hSw); go_simp; (try with_reducible rfl))
        try simp only [Act.put, List.setIfInBounds_toArray, List.set_cons_zero, List.set_cons_succ]
        refine wpAnyH_ready (rs := [1]) (by kernel_rfl) (by simp) ?_
        refine AllReadyH.cons (o := Oper.mk (some 13) _ _ _ _ _) rfl (fun K hK => ?_) AllReadyH.nil
        go_simp
        (go_at_call 54; refine (H1.out _).mono ?_; rintro e w2 ⟨rfl, hb1⟩)
        go_wp2_with fail
        refine hK.out _ _ (HC.out _ (hb1.mono (by simp))) (fun hHeld => ?_)
        clear hK K
        try simp only [Act.put, List.setIfInBounds_toArray, List.set_cons_zero, List.set_cons_succ]
        refine' wpAnyH_take (i := 2) (oi := Oper.mk (some 14) _ _ _ _ _) (v := _) rfl (by kernel_rfl) (by kernel_rfl) (by kernel_rfl) (fun _ _ _ h => h) (Or.inl ⟨by rfl, ?yy2⟩) (by assumption) ?rr2
        case yy2 => (intro w hSw; (try dsimp only at hSw); go_simp; (try with_reducible rfl))
        try simp only [Act.put, List.setIfInBounds_toArray, List.set_cons_zero, List.set_cons_succ]
        refine' wpAnyH_take (i := 3) (oi := Oper.mk (some 15) _ _ _ _ _) (v := _) rfl (by kernel_rfl) (by kernel_rfl) (by kernel_rfl) (fun _ _ _ h => h) (Or.inl ⟨by rfl, ?yy3⟩) (by assumption) ?rr3
        case yy3 => (intro w hSw; (try dsimp only at hSw); go_simp; (try with_reducible rfl))
        try simp only [Act.put, List.setIfInBounds_toArray, List.set_cons_zero, List.set_cons_succ]
        refine wpAnyH_take (i := 4) (oi := Oper.mk (some 16) _ _ _ _ _) (v := undef) rfl (by kernel_rfl) (by kernel_rfl) (by kernel_rfl) (fun _ _ _ h => h) (Or.inr ⟨by rfl, rfl⟩) (by assumption) ?_
        try simp only [Act.put, List.setIfInBounds_toArray, List.set_cons_zero, List.set_cons_succ]
        refine wpAnyH_take (i := 5) (oi := Oper.mk (some 17) _ _ _ _ _) (v := undef) rfl (by kernel_rfl) (by kernel_rfl) (by kernel_rfl) (fun _ _ _ h => h) (Or.inr ⟨by rfl, rfl⟩) (by assumption) ?_
        try simp only [Act.put, List.setIfInBounds_toArray, List.set_cons_zero, List.set_cons_succ]
        refine wpAnyH_take (i := 6) (oi := Oper.mk (some 18) _ _ _ _ _) (v := undef) rfl (by kernel_rfl) (by kernel_rfl) (by kernel_rfl) (fun _ _ _ h => h) (Or.inr ⟨by rfl, rfl⟩) (by assumption) ?_
        try simp only [Act.put, List.setIfInBounds_toArray, List.set_cons_zero, List.set_cons_succ]
        refine wpAnyH_take (i := 7) (oi := Oper.mk (some 19) _ _ _ _ _) (v := undef) rfl (by kernel_rfl) (by kernel_rfl) (by kernel_rfl) (fun _ _ _ h => h) (Or.inr ⟨by rfl, rfl⟩) (by assumption) ?_
        try simp only [Act.put, List.setIfInBounds_toArray, List.set_cons_zero, List.set_cons_succ]
        refine wpAnyH_take (i := 8) (oi := Oper.mk (some 20) _ _ _ _ _) (v := undef) rfl (by kernel_rfl) (by kernel_rfl) (by kernel_rfl) (fun _ _ _ h => h) (Or.inr ⟨by rfl, rfl⟩) (by assumption) ?_
        try simp only [Act.put, List.setIfInBounds_toArray, List.set_cons_zero, List.set_cons_succ]
        refine wpAnyH_take (i := 9) (oi := Oper.mk (some 21) _ _ _ _ _) (v := undef) rfl (by kernel_rfl) (by kernel_rfl) (by kernel_rfl) (fun _ _ _ h => h) (Or.inr ⟨by rfl, rfl⟩) (by assumption) ?_
        try simp only [Act.put, List.setIfInBounds_toArray, List.set_cons_zero, List.set_cons_succ]
        refine wpAnyH_take (i := 10) (oi := Oper.mk (some 22) _ _ _ _ _) (v := undef) rfl (by kernel_rfl) (by kernel_rfl) (by kernel_rfl) (fun _ _ _ h => h) (Or.inr ⟨by rfl, rfl⟩) (by assumption) ?_
        try simp only [Act.put, List.setIfInBounds_toArray, List.set_cons_zero, List.set_cons_succ]
        refine wpAnyH_take (i := 11) (oi := Oper.mk (some 23) _ _ _ _ _) (v := undef) rfl (by kernel_rfl) (by kernel_rfl) (by kernel_rfl) (fun _ _ _ h => h) (Or.inr ⟨by rfl, rfl⟩) (by assumption) ?_
        try simp only [Act.put, List.setIfInBounds_toArray, List.set_cons_zero, List.set_cons_succ]
        refine wpAnyH_take (i := 12) (oi := Oper.mk (some 24) _ _ _ _ _) (v := undef) rfl (by kernel_rfl) (by kernel_rfl) (by kernel_rfl) (fun _ _ _ h => h) (Or.inr ⟨by rfl, rfl⟩) (by assumption) ?_
        try simp only [Act.put, List.setIfInBounds_toArray, List.set_cons_zero, List.set_cons_succ]
        refine wpAnyH_take (i := 13) (oi := Oper.mk (some 25) _ _ _ _ _) (v := undef) rfl (by kernel_rfl) (by kernel_rfl) (by kernel_rfl) (fun _ _ _ h => h) (Or.inr ⟨by rfl, rfl⟩) (by assumption) ?_
        try simp only [Act.put, List.setIfInBounds_toArray, List.set_cons_zero, List.set_cons_succ]
        refine wpAnyH_take (i := 14) (oi := Oper.mk (some 26) _ _ _ _ _) (v := undef) rfl (by kernel_rfl) (by kernel_rfl) (by kernel_rfl) (fun _ _ _ h => h) (Or.inr ⟨by rfl, rfl⟩) (by assumption) ?_
        try simp only [Act.put, List.setIfInBounds_toArray, List.set_cons_zero, List.set_cons_succ]
        refine wpAnyH_take (i := 15) (oi := Oper.mk (some 27) _ _ _ _ _) (v := undef) rfl (by kernel_rfl) (by kernel_rfl) (by kernel_rfl) (fun _ _ _ h => h) (Or.inr ⟨by rfl, rfl⟩) (by assumption) ?_
        try simp only [Act.put, List.setIfInBounds_toArray, List.set_cons_zero, List.set_cons_succ]
        refine wpAnyH_take (i := 16) (oi := Oper.mk (some 28) _ _ _ _ _) (v := undef) rfl (by kernel_rfl) (by kernel_rfl) (by kernel_rfl) (fun _ _ _ h => h) (Or.inr ⟨by rfl, rfl⟩) (by assumption) ?_
        try simp only [Act.put, List.setIfInBounds_toArray, List.set_cons_zero, List.set_cons_succ]
        refine' wpAnyH_take (i := 17) (oi := Oper.mk (some 29) _ _ _ _ _) (v := _) rfl (by kernel_rfl) (by kernel_rfl) (by kernel_rfl) (fun _ _ _ h => h) (Or.inl ⟨by rfl, ?yy4⟩) (by assumption) ?rr4
        case yy4 => (intro w hSw; (try dsimp only at hSw); go_simp; (try with_reducible rfl))
        try simp only [Act.put, List.setIfInBounds_toArray, List.set_cons_zero, List.set_cons_succ]
        refine wpAnyH_done (by kernel_rfl) ?_ _
        go_wp2
        go_ret
        refine ⟨ret_bool HV.out.symm, below_at hb hb.size ?_⟩
        exact (((Below.refl _ _).alloc (Nat.le_refl _) _).drew).trans (hb1.mono (by simp))
      | true =>
        by_cases hk0 : k = 0
        · have HV := Lib.hid (show gB l (k + 1) = true by rw [HS.out]; simp [hk0])
          have q1 : decide (0 < k) = false := by simp [hk0]
          clear hk0
          go_wp2_with fail
          refine wp_region_held_drew (S := fun w' => w'.cell? ⟨wr.heap.size, 0, none⟩ = some (.int .i64 x.key) ∧ w'.cell? ⟨wr.heap.size, 1, none⟩ = some (.int .i64 x.count) ∧ w'.cell? ⟨wr.heap.size, 2, none⟩ = some (.int .i64 x.sum) ∧ w'.cell? ⟨wr.heap.size, 3, none⟩ = some (.int .i64 x.least) ∧ w'.cell? ⟨wr.heap.size, 4, none⟩ = some (.int .i64 x.most)) (by kernel_rfl) (HC.out _ (Below.refl _ _)) (fun hHeld => ?_)
          refine' wpAnyH_take (i := 0) (oi := Oper.mk (some 12) _ _ _ _ _) (v := _) rfl (by kernel_rfl) (by kernel_rfl) (by kernel_rfl) (fun _ _ _ h => h) (Or.inl ⟨by rfl, ?yy5⟩) (by assumption) ?rr5
          case yy5 => (intro w hSw; (try dsimp only at hSw); go_simp; (try with_reducible rfl))
          try simp only [Act.put, List.setIfInBounds_toArray, List.set_cons_zero, List.set_cons_succ]
          refine wpAnyH_ready (rs := [1]) (by kernel_rfl) (by simp) ?_
          refine AllReadyH.cons (o := Oper.mk (some 13) _ _ _ _ _) rfl (fun K hK => ?_) AllReadyH.nil
          go_simp
          (go_at_call 54; refine (H1.out _).mono ?_; rintro e w2 ⟨rfl, hb1⟩)
          go_wp2_with fail
          refine hK.out _ _ (HC.out _ (hb1.mono (by simp))) (fun hHeld => ?_)
          clear hK K
          try simp only [Act.put, List.setIfInBounds_toArray, List.set_cons_zero, List.set_cons_succ]
          refine' wpAnyH_take (i := 2) (oi := Oper.mk (some 14) _ _ _ _ _) (v := _) rfl (by kernel_rfl) (by kernel_rfl) (by kernel_rfl) (fun _ _ _ h => h) (Or.inl ⟨by rfl, ?yy6⟩) (by assumption) ?rr6
          case yy6 => (intro w hSw; (try dsimp only at hSw); go_simp; (try with_reducible rfl))
          try simp only [Act.put, List.setIfInBounds_toArray, List.set_cons_zero, List.set_cons_succ]
          refine' wpAnyH_take (i := 3) (oi := Oper.mk (some 15) _ _ _ _ _) (v := _) rfl (by kernel_rfl) (by kernel_rfl) (by kernel_rfl) (fun _ _ _ h => h) (Or.inl ⟨by rfl, ?yy7⟩) (by assumption) ?rr7
          case yy7 => (intro w hSw; (try dsimp only at hSw); go_simp; (try with_reducible rfl))
          try simp only [Act.put, List.setIfInBounds_toArray, List.set_cons_zero, List.set_cons_succ]
          refine' wpAnyH_take (i := 4) (oi := Oper.mk (some 16) _ _ _ _ _) (v := _) rfl (by kernel_rfl) (by kernel_rfl) (by kernel_rfl) (fun _ _ _ h => h) (Or.inl ⟨by rfl, ?yy8⟩) (by assumption) ?rr8
          case yy8 => (intro w hSw; (try dsimp only at hSw); go_simp; (try with_reducible rfl))
          try simp only [Act.put, List.setIfInBounds_toArray, List.set_cons_zero, List.set_cons_succ]
          refine' wpAnyH_take (i := 5) (oi := Oper.mk (some 17) _ _ _ _ _) (v := _) rfl (by kernel_rfl) (by kernel_rfl) (by kernel_rfl) (fun _ _ _ h => h) (Or.inl ⟨by rfl, ?yy9⟩) (by assumption) ?rr9
          case yy9 => (intro w hSw; (try dsimp only at hSw); go_simp; (try with_reducible rfl))
          try simp only [Act.put, List.setIfInBounds_toArray, List.set_cons_zero, List.set_cons_succ]
          refine' wpAnyH_take (i := 6) (oi := Oper.mk (some 18) _ _ _ _ _) (v := _) rfl (by kernel_rfl) (by kernel_rfl) (by kernel_rfl) (fun _ _ _ h => h) (Or.inl ⟨by rfl, ?yy10⟩) (by assumption) ?rr10
          case yy10 => (intro w hSw; (try dsimp only at hSw); go_simp; (try with_reducible rfl))
          try simp only [Act.put, List.setIfInBounds_toArray, List.set_cons_zero, List.set_cons_succ]
          refine wpAnyH_take (i := 7) (oi := Oper.mk (some 19) _ _ _ _ _) (v := undef) rfl (by kernel_rfl) (by kernel_rfl) (by kernel_rfl) (fun _ _ _ h => h) (Or.inr ⟨by rfl, rfl⟩) (by assumption) ?_
          try simp only [Act.put, List.setIfInBounds_toArray, List.set_cons_zero, List.set_cons_succ]
          refine wpAnyH_take (i := 8) (oi := Oper.mk (some 20) _ _ _ _ _) (v := undef) rfl (by kernel_rfl) (by kernel_rfl) (by kernel_rfl) (fun _ _ _ h => h) (Or.inr ⟨by rfl, rfl⟩) (by assumption) ?_
          try simp only [Act.put, List.setIfInBounds_toArray, List.set_cons_zero, List.set_cons_succ]
          refine wpAnyH_take (i := 9) (oi := Oper.mk (some 21) _ _ _ _ _) (v := undef) rfl (by kernel_rfl) (by kernel_rfl) (by kernel_rfl) (fun _ _ _ h => h) (Or.inr ⟨by rfl, rfl⟩) (by assumption) ?_
          try simp only [Act.put, List.setIfInBounds_toArray, List.set_cons_zero, List.set_cons_succ]
          refine wpAnyH_take (i := 10) (oi := Oper.mk (some 22) _ _ _ _ _) (v := undef) rfl (by kernel_rfl) (by kernel_rfl) (by kernel_rfl) (fun _ _ _ h => h) (Or.inr ⟨by rfl, rfl⟩) (by assumption) ?_
          try simp only [Act.put, List.setIfInBounds_toArray, List.set_cons_zero, List.set_cons_succ]
          refine wpAnyH_take (i := 11) (oi := Oper.mk (some 23) _ _ _ _ _) (v := undef) rfl (by kernel_rfl) (by kernel_rfl) (by kernel_rfl) (fun _ _ _ h => h) (Or.inr ⟨by rfl, rfl⟩) (by assumption) ?_
          try simp only [Act.put, List.setIfInBounds_toArray, List.set_cons_zero, List.set_cons_succ]
          refine wpAnyH_take (i := 12) (oi := Oper.mk (some 24) _ _ _ _ _) (v := undef) rfl (by kernel_rfl) (by kernel_rfl) (by kernel_rfl) (fun _ _ _ h => h) (Or.inr ⟨by rfl, rfl⟩) (by assumption) ?_
          try simp only [Act.put, List.setIfInBounds_toArray, List.set_cons_zero, List.set_cons_succ]
          refine wpAnyH_take (i := 13) (oi := Oper.mk (some 25) _ _ _ _ _) (v := undef) rfl (by kernel_rfl) (by kernel_rfl) (by kernel_rfl) (fun _ _ _ h => h) (Or.inr ⟨by rfl, rfl⟩) (by assumption) ?_
          try simp only [Act.put, List.setIfInBounds_toArray, List.set_cons_zero, List.set_cons_succ]
          refine wpAnyH_take (i := 14) (oi := Oper.mk (some 26) _ _ _ _ _) (v := undef) rfl (by kernel_rfl) (by kernel_rfl) (by kernel_rfl) (fun _ _ _ h => h) (Or.inr ⟨by rfl, rfl⟩) (by assumption) ?_
          try simp only [Act.put, List.setIfInBounds_toArray, List.set_cons_zero, List.set_cons_succ]
          refine wpAnyH_take (i := 15) (oi := Oper.mk (some 27) _ _ _ _ _) (v := undef) rfl (by kernel_rfl) (by kernel_rfl) (by kernel_rfl) (fun _ _ _ h => h) (Or.inr ⟨by rfl, rfl⟩) (by assumption) ?_
          try simp only [Act.put, List.setIfInBounds_toArray, List.set_cons_zero, List.set_cons_succ]
          refine' wpAnyH_take (i := 16) (oi := Oper.mk (some 28) _ _ _ _ _) (v := _) rfl (by kernel_rfl) (by kernel_rfl) (by kernel_rfl) (fun _ _ _ h => h) (Or.inl ⟨by rfl, ?yy11⟩) (by assumption) ?rr11
          case yy11 => (intro w hSw; (try dsimp only at hSw); go_simp; (try with_reducible rfl))
          try simp only [Act.put, List.setIfInBounds_toArray, List.set_cons_zero, List.set_cons_succ]
          refine' wpAnyH_take (i := 17) (oi := Oper.mk (some 29) _ _ _ _ _) (v := _) rfl (by kernel_rfl) (by kernel_rfl) (by kernel_rfl) (fun _ _ _ h => h) (Or.inl ⟨by rfl, ?yy12⟩) (by assumption) ?rr12
          case yy12 => (intro w hSw; (try dsimp only at hSw); go_simp; (try with_reducible rfl))
          try simp only [Act.put, List.setIfInBounds_toArray, List.set_cons_zero, List.set_cons_succ]
          refine wpAnyH_done (by kernel_rfl) ?_ _
          go_wp2
          go_roundg (gk - 1)
          case measure => omega
          case rel =>
            refine ⟨k + 1, by omega, by omega, by go_num, HV.out, below_at hb hb.size ?_⟩
            exact (((Below.refl _ _).alloc (Nat.le_refl _) _).drew).trans (hb1.mono (by simp))
        · have hp := HP.out (by omega)
          have HC2 := Lib.hid (fun w' (h : Below (wr.heap.size + 1) _ w') => And.intro (oldcell (v := .int .i64 pk) (by omega) h hp) (HC.out w' h))
          have q1 : (0 : Int) < (k : Int) := by omega
          have q1n : 0 < k := by omega
          have q1m : (1 : Int) ≤ (k : Int) := by omega
          have q2 : (k : Int) - 1 < (l.length : Int) := by omega
          have q3 : (0 : Int) ≤ (k : Int) - 1 := by omega
          have q4 : ((k : Int) - 1).toNat = k - 1 := by omega
          have q5 : IntKind.i64.wrap ((k : Int) - 1) = (k : Int) - 1 := IntWalk.i64_in _ (by omega)
          by_cases hlt2 : pk < x.key
          · have HV := Lib.hid (show gB l (k + 1) = true by rw [HS.out]; simp [hlt2])
            have q6 : decide (x.key ≤ pk) = false := by simpa using hlt2
            go_wp2_with fail
            refine wp_region_held_drew (S := fun w' => w'.cell? ⟨b, off + (k - 1) * 5, none⟩ = some (.int .i64 pk) ∧ w'.cell? ⟨wr.heap.size, 0, none⟩ = some (.int .i64 x.key) ∧ w'.cell? ⟨wr.heap.size, 1, none⟩ = some (.int .i64 x.count) ∧ w'.cell? ⟨wr.heap.size, 2, none⟩ = some (.int .i64 x.sum) ∧ w'.cell? ⟨wr.heap.size, 3, none⟩ = some (.int .i64 x.least) ∧ w'.cell? ⟨wr.heap.size, 4, none⟩ = some (.int .i64 x.most)) (by kernel_rfl) (HC2.out _ (Below.refl _ _)) (fun hHeld => ?_)
            refine' wpAnyH_take (i := 0) (oi := Oper.mk (some 12) _ _ _ _ _) (v := _) rfl (by kernel_rfl) (by kernel_rfl) (by kernel_rfl) (fun _ _ _ h => h) (Or.inl ⟨by rfl, ?yy13⟩) (by assumption) ?rr13
            case yy13 => (intro w hSw; (try dsimp only at hSw); go_simp; (try with_reducible rfl))
            try simp only [Act.put, List.setIfInBounds_toArray, List.set_cons_zero, List.set_cons_succ]
            refine wpAnyH_ready (rs := [1]) (by kernel_rfl) (by simp) ?_
            refine AllReadyH.cons (o := Oper.mk (some 13) _ _ _ _ _) rfl (fun K hK => ?_) AllReadyH.nil
            go_simp
            (go_at_call 54; refine (H1.out _).mono ?_; rintro e w2 ⟨rfl, hb1⟩)
            go_wp2_with fail
            refine hK.out _ _ (HC2.out _ (hb1.mono (by simp))) (fun hHeld => ?_)
            clear hK K
            try simp only [Act.put, List.setIfInBounds_toArray, List.set_cons_zero, List.set_cons_succ]
            refine' wpAnyH_take (i := 2) (oi := Oper.mk (some 14) _ _ _ _ _) (v := _) rfl (by kernel_rfl) (by kernel_rfl) (by kernel_rfl) (fun _ _ _ h => h) (Or.inl ⟨by rfl, ?yy14⟩) (by assumption) ?rr14
            case yy14 => (intro w hSw; (try dsimp only at hSw); go_simp; (try with_reducible rfl))
            try simp only [Act.put, List.setIfInBounds_toArray, List.set_cons_zero, List.set_cons_succ]
            refine' wpAnyH_take (i := 3) (oi := Oper.mk (some 15) _ _ _ _ _) (v := _) rfl (by kernel_rfl) (by kernel_rfl) (by kernel_rfl) (fun _ _ _ h => h) (Or.inl ⟨by rfl, ?yy15⟩) (by assumption) ?rr15
            case yy15 => (intro w hSw; (try dsimp only at hSw); go_simp; (try with_reducible rfl))
            try simp only [Act.put, List.setIfInBounds_toArray, List.set_cons_zero, List.set_cons_succ]
            refine' wpAnyH_take (i := 4) (oi := Oper.mk (some 16) _ _ _ _ _) (v := _) rfl (by kernel_rfl) (by kernel_rfl) (by kernel_rfl) (fun _ _ _ h => h) (Or.inl ⟨by rfl, ?yy16⟩) (by assumption) ?rr16
            case yy16 => (intro w hSw; (try dsimp only at hSw); go_simp; (try with_reducible rfl))
            try simp only [Act.put, List.setIfInBounds_toArray, List.set_cons_zero, List.set_cons_succ]
            refine' wpAnyH_take (i := 5) (oi := Oper.mk (some 17) _ _ _ _ _) (v := _) rfl (by kernel_rfl) (by kernel_rfl) (by kernel_rfl) (fun _ _ _ h => h) (Or.inl ⟨by rfl, ?yy17⟩) (by assumption) ?rr17
            case yy17 => (intro w hSw; (try dsimp only at hSw); go_simp; (try with_reducible rfl))
            try simp only [Act.put, List.setIfInBounds_toArray, List.set_cons_zero, List.set_cons_succ]
            refine' wpAnyH_take (i := 6) (oi := Oper.mk (some 18) _ _ _ _ _) (v := _) rfl (by kernel_rfl) (by kernel_rfl) (by kernel_rfl) (fun _ _ _ h => h) (Or.inl ⟨by rfl, ?yy18⟩) (by assumption) ?rr18
            case yy18 => (intro w hSw; (try dsimp only at hSw); go_simp; (try with_reducible rfl))
            try simp only [Act.put, List.setIfInBounds_toArray, List.set_cons_zero, List.set_cons_succ]
            refine' wpAnyH_take (i := 7) (oi := Oper.mk (some 19) _ _ _ _ _) (v := _) rfl (by kernel_rfl) (by kernel_rfl) (by kernel_rfl) (fun _ _ _ h => h) (Or.inl ⟨by rfl, ?yy19⟩) (by assumption) ?rr19
            case yy19 => (intro w hSw; (try dsimp only at hSw); go_simp; (try with_reducible rfl))
            try simp only [Act.put, List.setIfInBounds_toArray, List.set_cons_zero, List.set_cons_succ]
            refine' wpAnyH_take (i := 8) (oi := Oper.mk (some 20) _ _ _ _ _) (v := _) rfl (by kernel_rfl) (by kernel_rfl) (by kernel_rfl) (fun _ _ _ h => h) (Or.inl ⟨by rfl, ?yy20⟩) (by assumption) ?rr20
            case yy20 => (intro w hSw; (try dsimp only at hSw); go_simp; (try with_reducible rfl))
            try simp only [Act.put, List.setIfInBounds_toArray, List.set_cons_zero, List.set_cons_succ]
            refine' wpAnyH_take (i := 9) (oi := Oper.mk (some 21) _ _ _ _ _) (v := _) rfl (by kernel_rfl) (by kernel_rfl) (by kernel_rfl) (fun _ _ _ h => h) (Or.inl ⟨by rfl, ?yy21⟩) (by assumption) ?rr21
            case yy21 => (intro w hSw; (try dsimp only at hSw); go_simp; (try with_reducible rfl))
            try simp only [Act.put, List.setIfInBounds_toArray, List.set_cons_zero, List.set_cons_succ]
            refine' wpAnyH_take (i := 10) (oi := Oper.mk (some 22) _ _ _ _ _) (v := _) rfl (by kernel_rfl) (by kernel_rfl) (by kernel_rfl) (fun _ _ _ h => h) (Or.inl ⟨by rfl, ?yy22⟩) (by assumption) ?rr22
            case yy22 => (intro w hSw; (try dsimp only at hSw); go_simp; (try with_reducible rfl))
            try simp only [Act.put, List.setIfInBounds_toArray, List.set_cons_zero, List.set_cons_succ]
            refine' wpAnyH_take (i := 11) (oi := Oper.mk (some 23) _ _ _ _ _) (v := _) rfl (by kernel_rfl) (by kernel_rfl) (by kernel_rfl) (fun _ _ _ h => h) (Or.inl ⟨by rfl, ?yy23⟩) (by assumption) ?rr23
            case yy23 => (intro w hSw; (try dsimp only at hSw); go_simp; (try with_reducible rfl))
            try simp only [Act.put, List.setIfInBounds_toArray, List.set_cons_zero, List.set_cons_succ]
            refine' wpAnyH_take (i := 12) (oi := Oper.mk (some 24) _ _ _ _ _) (v := _) rfl (by kernel_rfl) (by kernel_rfl) (by kernel_rfl) (fun _ _ _ h => h) (Or.inl ⟨by rfl, ?yy24⟩) (by assumption) ?rr24
            case yy24 => (intro w hSw; (try dsimp only at hSw); go_simp; (try with_reducible rfl))
            try simp only [Act.put, List.setIfInBounds_toArray, List.set_cons_zero, List.set_cons_succ]
            refine' wpAnyH_take (i := 13) (oi := Oper.mk (some 25) _ _ _ _ _) (v := _) rfl (by kernel_rfl) (by kernel_rfl) (by kernel_rfl) (fun _ _ _ h => h) (Or.inl ⟨by rfl, ?yy25⟩) (by assumption) ?rr25
            case yy25 => (intro w hSw; (try dsimp only at hSw); go_simp; (try with_reducible rfl))
            try simp only [Act.put, List.setIfInBounds_toArray, List.set_cons_zero, List.set_cons_succ]
            refine' wpAnyH_take (i := 14) (oi := Oper.mk (some 26) _ _ _ _ _) (v := _) rfl (by kernel_rfl) (by kernel_rfl) (by kernel_rfl) (fun _ _ _ h => h) (Or.inl ⟨by rfl, ?yy26⟩) (by assumption) ?rr26
            case yy26 => (intro w hSw; (try dsimp only at hSw); go_simp; (try with_reducible rfl))
            try simp only [Act.put, List.setIfInBounds_toArray, List.set_cons_zero, List.set_cons_succ]
            refine' wpAnyH_take (i := 15) (oi := Oper.mk (some 27) _ _ _ _ _) (v := _) rfl (by kernel_rfl) (by kernel_rfl) (by kernel_rfl) (fun _ _ _ h => h) (Or.inl ⟨by rfl, ?yy27⟩) (by assumption) ?rr27
            case yy27 => (intro w hSw; (try dsimp only at hSw); go_simp; (try with_reducible rfl))
            try simp only [Act.put, List.setIfInBounds_toArray, List.set_cons_zero, List.set_cons_succ]
            refine' wpAnyH_take (i := 16) (oi := Oper.mk (some 28) _ _ _ _ _) (v := _) rfl (by kernel_rfl) (by kernel_rfl) (by kernel_rfl) (fun _ _ _ h => h) (Or.inl ⟨by rfl, ?yy28⟩) (by assumption) ?rr28
            case yy28 => (intro w hSw; (try dsimp only at hSw); go_simp; (try with_reducible rfl))
            try simp only [Act.put, List.setIfInBounds_toArray, List.set_cons_zero, List.set_cons_succ]
            refine' wpAnyH_take (i := 17) (oi := Oper.mk (some 29) _ _ _ _ _) (v := _) rfl (by kernel_rfl) (by kernel_rfl) (by kernel_rfl) (fun _ _ _ h => h) (Or.inl ⟨by rfl, ?yy29⟩) (by assumption) ?rr29
            case yy29 => (intro w hSw; (try dsimp only at hSw); go_simp; (try with_reducible rfl))
            try simp only [Act.put, List.setIfInBounds_toArray, List.set_cons_zero, List.set_cons_succ]
            refine wpAnyH_done (by kernel_rfl) ?_ _
            go_wp2
            go_roundg (gk - 1)
            case measure => omega
            case rel =>
              refine ⟨k + 1, by omega, by omega, by go_num, HV.out, below_at hb hb.size ?_⟩
              exact (((Below.refl _ _).alloc (Nat.le_refl _) _).drew).trans (hb1.mono (by simp))
          · have HV := Lib.hid (HF.out (by simp [hk0, hlt2]))
            have q6 : x.key ≤ pk := by omega
            go_wp2_with fail
            refine wp_region_held_drew (S := fun w' => w'.cell? ⟨b, off + (k - 1) * 5, none⟩ = some (.int .i64 pk) ∧ w'.cell? ⟨wr.heap.size, 0, none⟩ = some (.int .i64 x.key) ∧ w'.cell? ⟨wr.heap.size, 1, none⟩ = some (.int .i64 x.count) ∧ w'.cell? ⟨wr.heap.size, 2, none⟩ = some (.int .i64 x.sum) ∧ w'.cell? ⟨wr.heap.size, 3, none⟩ = some (.int .i64 x.least) ∧ w'.cell? ⟨wr.heap.size, 4, none⟩ = some (.int .i64 x.most)) (by kernel_rfl) (HC2.out _ (Below.refl _ _)) (fun hHeld => ?_)
            refine' wpAnyH_take (i := 0) (oi := Oper.mk (some 12) _ _ _ _ _) (v := _) rfl (by kernel_rfl) (by kernel_rfl) (by kernel_rfl) (fun _ _ _ h => h) (Or.inl ⟨by rfl, ?yy30⟩) (by assumption) ?rr30
            case yy30 => (intro w hSw; (try dsimp only at hSw); go_simp; (try with_reducible rfl))
            try simp only [Act.put, List.setIfInBounds_toArray, List.set_cons_zero, List.set_cons_succ]
            refine wpAnyH_ready (rs := [1]) (by kernel_rfl) (by simp) ?_
            refine AllReadyH.cons (o := Oper.mk (some 13) _ _ _ _ _) rfl (fun K hK => ?_) AllReadyH.nil
            go_simp
            (go_at_call 54; refine (H1.out _).mono ?_; rintro e w2 ⟨rfl, hb1⟩)
            go_wp2_with fail
            refine hK.out _ _ (HC2.out _ (hb1.mono (by simp))) (fun hHeld => ?_)
            clear hK K
            try simp only [Act.put, List.setIfInBounds_toArray, List.set_cons_zero, List.set_cons_succ]
            refine' wpAnyH_take (i := 2) (oi := Oper.mk (some 14) _ _ _ _ _) (v := _) rfl (by kernel_rfl) (by kernel_rfl) (by kernel_rfl) (fun _ _ _ h => h) (Or.inl ⟨by rfl, ?yy31⟩) (by assumption) ?rr31
            case yy31 => (intro w hSw; (try dsimp only at hSw); go_simp; (try with_reducible rfl))
            try simp only [Act.put, List.setIfInBounds_toArray, List.set_cons_zero, List.set_cons_succ]
            refine' wpAnyH_take (i := 3) (oi := Oper.mk (some 15) _ _ _ _ _) (v := _) rfl (by kernel_rfl) (by kernel_rfl) (by kernel_rfl) (fun _ _ _ h => h) (Or.inl ⟨by rfl, ?yy32⟩) (by assumption) ?rr32
            case yy32 => (intro w hSw; (try dsimp only at hSw); go_simp; (try with_reducible rfl))
            try simp only [Act.put, List.setIfInBounds_toArray, List.set_cons_zero, List.set_cons_succ]
            refine' wpAnyH_take (i := 4) (oi := Oper.mk (some 16) _ _ _ _ _) (v := _) rfl (by kernel_rfl) (by kernel_rfl) (by kernel_rfl) (fun _ _ _ h => h) (Or.inl ⟨by rfl, ?yy33⟩) (by assumption) ?rr33
            case yy33 => (intro w hSw; (try dsimp only at hSw); go_simp; (try with_reducible rfl))
            try simp only [Act.put, List.setIfInBounds_toArray, List.set_cons_zero, List.set_cons_succ]
            refine' wpAnyH_take (i := 5) (oi := Oper.mk (some 17) _ _ _ _ _) (v := _) rfl (by kernel_rfl) (by kernel_rfl) (by kernel_rfl) (fun _ _ _ h => h) (Or.inl ⟨by rfl, ?yy34⟩) (by assumption) ?rr34
            case yy34 => (intro w hSw; (try dsimp only at hSw); go_simp; (try with_reducible rfl))
            try simp only [Act.put, List.setIfInBounds_toArray, List.set_cons_zero, List.set_cons_succ]
            refine' wpAnyH_take (i := 6) (oi := Oper.mk (some 18) _ _ _ _ _) (v := _) rfl (by kernel_rfl) (by kernel_rfl) (by kernel_rfl) (fun _ _ _ h => h) (Or.inl ⟨by rfl, ?yy35⟩) (by assumption) ?rr35
            case yy35 => (intro w hSw; (try dsimp only at hSw); go_simp; (try with_reducible rfl))
            try simp only [Act.put, List.setIfInBounds_toArray, List.set_cons_zero, List.set_cons_succ]
            refine' wpAnyH_take (i := 7) (oi := Oper.mk (some 19) _ _ _ _ _) (v := _) rfl (by kernel_rfl) (by kernel_rfl) (by kernel_rfl) (fun _ _ _ h => h) (Or.inl ⟨by rfl, ?yy36⟩) (by assumption) ?rr36
            case yy36 => (intro w hSw; (try dsimp only at hSw); go_simp; (try with_reducible rfl))
            try simp only [Act.put, List.setIfInBounds_toArray, List.set_cons_zero, List.set_cons_succ]
            refine' wpAnyH_take (i := 8) (oi := Oper.mk (some 20) _ _ _ _ _) (v := _) rfl (by kernel_rfl) (by kernel_rfl) (by kernel_rfl) (fun _ _ _ h => h) (Or.inl ⟨by rfl, ?yy37⟩) (by assumption) ?rr37
            case yy37 => (intro w hSw; (try dsimp only at hSw); go_simp; (try with_reducible rfl))
            try simp only [Act.put, List.setIfInBounds_toArray, List.set_cons_zero, List.set_cons_succ]
            refine' wpAnyH_take (i := 9) (oi := Oper.mk (some 21) _ _ _ _ _) (v := _) rfl (by kernel_rfl) (by kernel_rfl) (by kernel_rfl) (fun _ _ _ h => h) (Or.inl ⟨by rfl, ?yy38⟩) (by assumption) ?rr38
            case yy38 => (intro w hSw; (try dsimp only at hSw); go_simp; (try with_reducible rfl))
            try simp only [Act.put, List.setIfInBounds_toArray, List.set_cons_zero, List.set_cons_succ]
            refine' wpAnyH_take (i := 10) (oi := Oper.mk (some 22) _ _ _ _ _) (v := _) rfl (by kernel_rfl) (by kernel_rfl) (by kernel_rfl) (fun _ _ _ h => h) (Or.inl ⟨by rfl, ?yy39⟩) (by assumption) ?rr39
            case yy39 => (intro w hSw; (try dsimp only at hSw); go_simp; (try with_reducible rfl))
            try simp only [Act.put, List.setIfInBounds_toArray, List.set_cons_zero, List.set_cons_succ]
            refine' wpAnyH_take (i := 11) (oi := Oper.mk (some 23) _ _ _ _ _) (v := _) rfl (by kernel_rfl) (by kernel_rfl) (by kernel_rfl) (fun _ _ _ h => h) (Or.inl ⟨by rfl, ?yy40⟩) (by assumption) ?rr40
            case yy40 => (intro w hSw; (try dsimp only at hSw); go_simp; (try with_reducible rfl))
            try simp only [Act.put, List.setIfInBounds_toArray, List.set_cons_zero, List.set_cons_succ]
            refine' wpAnyH_take (i := 12) (oi := Oper.mk (some 24) _ _ _ _ _) (v := _) rfl (by kernel_rfl) (by kernel_rfl) (by kernel_rfl) (fun _ _ _ h => h) (Or.inl ⟨by rfl, ?yy41⟩) (by assumption) ?rr41
            case yy41 => (intro w hSw; (try dsimp only at hSw); go_simp; (try with_reducible rfl))
            try simp only [Act.put, List.setIfInBounds_toArray, List.set_cons_zero, List.set_cons_succ]
            refine' wpAnyH_take (i := 13) (oi := Oper.mk (some 25) _ _ _ _ _) (v := _) rfl (by kernel_rfl) (by kernel_rfl) (by kernel_rfl) (fun _ _ _ h => h) (Or.inl ⟨by rfl, ?yy42⟩) (by assumption) ?rr42
            case yy42 => (intro w hSw; (try dsimp only at hSw); go_simp; (try with_reducible rfl))
            try simp only [Act.put, List.setIfInBounds_toArray, List.set_cons_zero, List.set_cons_succ]
            refine' wpAnyH_take (i := 14) (oi := Oper.mk (some 26) _ _ _ _ _) (v := _) rfl (by kernel_rfl) (by kernel_rfl) (by kernel_rfl) (fun _ _ _ h => h) (Or.inl ⟨by rfl, ?yy43⟩) (by assumption) ?rr43
            case yy43 => (intro w hSw; (try dsimp only at hSw); go_simp; (try with_reducible rfl))
            try simp only [Act.put, List.setIfInBounds_toArray, List.set_cons_zero, List.set_cons_succ]
            refine' wpAnyH_take (i := 15) (oi := Oper.mk (some 27) _ _ _ _ _) (v := _) rfl (by kernel_rfl) (by kernel_rfl) (by kernel_rfl) (fun _ _ _ h => h) (Or.inl ⟨by rfl, ?yy44⟩) (by assumption) ?rr44
            case yy44 => (intro w hSw; (try dsimp only at hSw); go_simp; (try with_reducible rfl))
            try simp only [Act.put, List.setIfInBounds_toArray, List.set_cons_zero, List.set_cons_succ]
            refine' wpAnyH_take (i := 16) (oi := Oper.mk (some 28) _ _ _ _ _) (v := _) rfl (by kernel_rfl) (by kernel_rfl) (by kernel_rfl) (fun _ _ _ h => h) (Or.inl ⟨by rfl, ?yy45⟩) (by assumption) ?rr45
            case yy45 => (intro w hSw; (try dsimp only at hSw); go_simp; (try with_reducible rfl))
            try simp only [Act.put, List.setIfInBounds_toArray, List.set_cons_zero, List.set_cons_succ]
            refine' wpAnyH_take (i := 17) (oi := Oper.mk (some 29) _ _ _ _ _) (v := _) rfl (by kernel_rfl) (by kernel_rfl) (by kernel_rfl) (fun _ _ _ h => h) (Or.inl ⟨by rfl, ?yy46⟩) (by assumption) ?rr46
            case yy46 => (intro w hSw; (try dsimp only at hSw); go_simp; (try with_reducible rfl))
            try simp only [Act.put, List.setIfInBounds_toArray, List.set_cons_zero, List.set_cons_succ]
            refine wpAnyH_done (by kernel_rfl) ?_ _
            go_wp2
            go_ret
            refine ⟨ret_bool HV.out.symm, below_at hb hb.size ?_⟩
            exact (((Below.refl _ _).alloc (Nat.le_refl _) _).drew).trans (hb1.mono (by simp))
    · obtain rfl : k = l.length := by omega
      by_cases h64 : l.length ≤ 64
      · have HV := Lib.hid (show vgroups l = true by rw [vgroups, HB.out]; simpa using h64)
        have q0 : (l.length : Int) ≤ 64 := by omega
        go_wp2
        go_ret
        exact ⟨ret_bool HV.out.symm, hb⟩
      · have HV := Lib.hid (vg_long h64)
        have q0 : (64 : Int) < (l.length : Int) := by omega
        have q1 : decide ((l.length : Int) ≤ 64) = false := by simpa using q0
        go_wp2
        go_ret
        exact ⟨ret_bool HV.out.symm, hb⟩
end Go.Proofs.Ytgngoedooemboaa.groups
