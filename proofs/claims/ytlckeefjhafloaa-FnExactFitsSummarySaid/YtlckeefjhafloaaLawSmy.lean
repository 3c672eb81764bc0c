/- The laws' own helpers for summaries: the size, a copy, equality, marks. Condition: at most 2^20 entries where memory is made. -/
import Derived.Test.YtlckeefjhafloaaLawRkv
set_option linter.unusedVariables false
set_option linter.unusedSimpArgs false
namespace Go.Proofs.Ytlckeefjhafloaa.lawSmy
open Go.RowKit Go.Proofs.Ytlckeefjhafloaa.mem

theorem bcell {W w1 : World} (hb : Below W.heap.size W w1) : (∀ b o, b < W.heap.size → w1.cell? ⟨b, o, none⟩ = W.cell? ⟨b, o, none⟩) ∧ (∀ b o, b < W.heap.size → w1.frozen? ⟨b, o, none⟩ = W.frozen? ⟨b, o, none⟩) :=
  ⟨fun b o h => hb.cell (p := ⟨b, o, none⟩) h, fun b o h => hb.frozen (p := ⟨b, o, none⟩) h⟩
theorem below_box {w w' : World} {o : Obj} (hb : Below (w.alloc o).heap.size (w.alloc o) w') : Below w.heap.size w w' := below_step ((Below.refl _ _).alloc (Nat.le_refl _) o) hb

set_option maxHeartbeats 400000 in
theorem sz_any {p : Int} (A : Option Addr) (c : Nat) (gs : List Rkv) (l : Int) (w : World) (h0 : 0 ≤ l) (h1 : l ≤ 1048576) (hn : gs.length ≤ maxLen) (hr : Rd w 3 A gs.length (rkvs gs)) :
    Calls Try.prog 25 #[.agg #[.int .i64 p, .slice A gs.length c], .int .i64 l] w fun e w' => e = .returned (.int .i64 (szv l gs.length)) ∧ Below w.heap.size w w' := by
  have HB := Lib.hid (fun o => (Below.refl w.heap.size w).alloc (Nat.le_refl _) o)
  by_cases h : (gs.length : Int) ≤ l
  · have HE := Lib.hid (szv_pos h)
    have hq : ¬ l - (gs.length : Int) < 0 := by omega
    go_enter Try.func25, Try.ntmps25
    go_wp2_with fail
    refine (lawRkv.sz_any A c gs l _ h0 h1 hn (hr.alloc _)).mono ?_
    rintro e w' ⟨rfl, rfl⟩
    rw [HE.out]
    go_wp2
    go_ret
    exact ⟨ret_int HE.out.symm, HB.out _⟩
  · have HE := Lib.hid (szv_neg h)
    go_enter Try.func25, Try.ntmps25
    go_wp2_with fail
    refine (lawRkv.sz_any A c gs l _ h0 h1 hn (hr.alloc _)).mono ?_
    rintro e w' ⟨rfl, rfl⟩
    rw [HE.out]
    go_wp2
    go_ret
    exact ⟨ret_int HE.out.symm, HB.out _⟩

set_option maxRecDepth 100000 in
set_option maxHeartbeats 1000000 in
theorem to_any {p : Int} (A : Option Addr) (c : Nat) (gs : List Rkv) (w : World) (hn : gs.length ≤ 1048576) (hr : Rd w 3 A gs.length (rkvs gs)) :
    Calls Try.prog 27 #[.agg #[.int .i64 p, .slice A gs.length c]] w fun e w' => ∃ v, e = .returned (.agg #[.int .i64 p, v]) ∧ w'.ownsRow w.heap.size 51 3 v gs.length (rkvs gs) ∧ Below w.heap.size w w' := by
  have HB := Lib.hid (fun (o1 o2 o3 : Obj) => (((Below.refl w.heap.size w).alloc (Nat.le_refl _) o1).alloc (by simp) o2).alloc (by simp; omega) o3)
  have HR := Lib.hid (fun W hb => lawRkv.to_any A c gs W hn (hr.below hb))
  clear hr
  go_enter Try.func27, Try.ntmps27
  go_wp2_with fail
  refine (HR.out _ ?_).mono ?_
  · exact HB.out _ _ _
  rintro e w2 ⟨v, rfl, ho, hb2⟩
  obtain ⟨hc, hf⟩ := bcell hb2
  have hb3 := below_at (HB.out _ _ _) (by simp; omega) hb2
  have hz : w.heap.size + 3 ≤ w2.heap.size := by have := hb2.size; simp at this; omega
  obtain ⟨A2, c2, rfl, h1, h2, hr2⟩ := own_form ho
  have HO := Lib.hid ho
  have HB3 := Lib.hid hb3
  clear ho hb2 hb3 hr2
  go_wp2
  refine bodyPost_ret (v := .agg #[.int .i64 p, .slice A2 gs.length c2]) (by simp [results, Try.results27, go_sem, hc, hf, hz]) rfl ⟨_, rfl, ?_, ?_⟩
  · have hne : ∀ b, b < w.heap.size + 3 → (Value.slice A2 gs.length c2).ownBlock ≠ some b := fun b hb e => by have := (HO.out.lt _ e).1; simp at this; omega
    exact own_far (own_far (own_far (own_base HO.out (by simp; omega)) (hne _ (by simp only; omega)) _) (hne _ (by simp only; omega)) _) (hne _ (by simp only; omega)) _
  · exact ((HB3.out.setCell (by simp only; omega) _).setCell (by simp only; omega) _).setCell (by simp only; omega) _

set_option maxRecDepth 100000 in
set_option maxHeartbeats 1000000 in
theorem eqB {p q : Int} (A B : Option Addr) (c d : Nat) (xs ys : List Rkv) (w : World) (hn : xs.length ≤ maxLen) (hm : ys.length ≤ maxLen) (hx : Rd w 3 A xs.length (rkvs xs)) (hy : Rd w 3 B ys.length (rkvs ys)) :
    Calls Try.prog 28 #[.agg #[.int .i64 p, .slice A xs.length c], .agg #[.int .i64 q, .slice B ys.length d]] w fun e w' => e = .returned (.bool (decide (p = q ∧ xs = ys))) ∧ Below w.heap.size w w' := by
  have HB := Lib.hid (fun (o1 o2 : Obj) => ((Below.refl w.heap.size w).alloc (Nat.le_refl _) o1).alloc (by simp) o2)
  have HE := Lib.hid (fun W hb => lawRkv.eqB A B c d xs ys W hn hm (hx.below hb) (hy.below hb))
  clear hx hy
  by_cases h : p = q
  · subst h
    have HD := Lib.hid (show decide (p = p ∧ xs = ys) = decide (xs = ys) by simp)
    go_enter Try.func28, Try.ntmps28
    go_wp2_with fail
    refine (HE.out _ ?_).mono ?_
    · exact HB.out _ _
    rintro e w2 ⟨rfl, hb2⟩
    have hb3 := below_at (HB.out _ _) (by simp; omega) hb2
    cases hv : decide (xs = ys)
    all_goals
      rw [hv] at HD
      clear hv
      go_wp2
      go_ret
      exact ⟨ret_bool HD.out.symm, hb3⟩
  · have HD := Lib.hid (show decide (p = q ∧ xs = ys) = false by simp [h])
    have q1 : (p == q) = false := by simpa using h
    have q2 : (p != q) = true := by simpa using h
    clear h
    go_enter Try.func28, Try.ntmps28
    go_wp2
    go_ret
    exact ⟨ret_bool HD.out.symm, HB.out _ _⟩

def iota := lawRkv.iota
set_option maxRecDepth 100000 in
set_option maxHeartbeats 1000000 in
theorem mark_any {p : Int} (B : Nat) (A : Option Addr) (n c : Nat) (xs : List Value) (k : Int) (w : World) (hk : 0 ≤ k) (hk2 : k + (n * 3 : Nat) ≤ 1099511627776)
    (ho : w.ownsRow B 51 3 (.slice A n c) n xs) :
    Calls Try.prog 39 #[.agg #[.int .i64 p, .slice A n c], .int .i64 k] w fun e w' => e = .returned (.int .i64 (k + (n * 3 : Nat))) ∧ w'.ownsRow B 51 3 (.slice A n c) n (ints (lawRkv.iota k (n * 3))) ∧ w.grownBy w' (Value.slice A n c).ownBlock := by
  have HM := Lib.hid (fun o => lawRkv.mark_any B A n c xs k (w.alloc o) hk hk2 (ho.alloc o))
  clear ho
  go_enter Try.func39, Try.ntmps39
  go_wp2_with fail
  refine (HM.out _).mono ?_
  rintro e w2 ⟨rfl, ho2, hg⟩
  have HO := Lib.hid ho2
  have HG := Lib.hid (show w.grownBy w2 (Value.slice A n c).ownBlock from ⟨hg.os, hg.tape, hg.output, Nat.le_trans (by simp) hg.size, fun i hi hne => (hg.block i (by simp; omega) hne).trans (Below.heap_alloc w _ i hi)⟩)
  clear ho2 hg
  go_wp2
  go_ret
  exact ⟨rfl, HO.out, HG.out⟩
set_option maxRecDepth 100000 in
set_option maxHeartbeats 1000000 in
theorem held_any {p : Int} (A : Option Addr) (n c : Nat) (k : Int) (w : World) (hk : 0 ≤ k) (hk2 : k + (n * 3 : Nat) ≤ 1099511627776)
    (hr : Rd w 3 A n (ints (lawRkv.iota k (n * 3)))) :
    Calls Try.prog 40 #[.agg #[.int .i64 p, .slice A n c], .int .i64 k] w fun e w' => e = .returned (.int .i64 (k + (n * 3 : Nat))) ∧ Below w.heap.size w w' := by
  have HB := Lib.hid (fun (o1 : Obj) => ((Below.refl w.heap.size w).alloc (Nat.le_refl _) o1))
  have HM := Lib.hid (fun o => lawRkv.held_any A n c k (w.alloc o) hk hk2 (hr.alloc o))
  clear hr
  have q1 : 0 ≤ k + ((n * 3 : Nat) : Int) := by omega
  go_enter Try.func40, Try.ntmps40
  go_wp2_with fail
  refine (HM.out _).mono ?_
  rintro e w2 ⟨rfl, rfl⟩
  go_wp2
  go_ret
  exact ⟨rfl, HB.out _⟩
end Go.Proofs.Ytlckeefjhafloaa.lawSmy
