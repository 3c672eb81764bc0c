/- QueryRank, the program's and the reference's. Condition: at most 2^20 entries. -/
import Derived.Test.YtlckeefjhafloaaSmyQ
import Derived.Test.YtlckeefjhafloaaMemAt
set_option linter.unusedVariables false
set_option linter.unusedSimpArgs false
namespace Go.Proofs.Ytlckeefjhafloaa.smyQR
open Go.RowKit Go.Proofs.Ytlckeefjhafloaa.mem Go.Proofs.Ytlckeefjhafloaa.smy Go.Proofs.Ytlckeefjhafloaa.smyQ
open Go.Proofs.Ytlckeefjhafloaa.ins (inB inB_true inB_false inB_iff)

def ok (cnt : Int) (l : List Rkv) (r : Int) : Bool := vsmy cnt l && inB r 1 cnt
def resE (cnt : Int) (l : List Rkv) (r : Int) : Rkv := if ok cnt l r = true then l.getD (best l r) z0 else z0
def resN (cnt : Int) (l : List Rkv) (r : Int) : Int := if ok cnt l r = true then errv l r else 0
set_option maxRecDepth 100000 in
set_option maxHeartbeats 2000000 in
theorem impl_no {cnt : Int} (A : Option Addr) (c : Nat) (l : List Rkv) (r : Int) (w : World) (hn : l.length ≤ 1048576) (hr : Rd w 3 A l.length (rkvs l)) (hno : ok cnt l r = false) :
    Calls Try.prog 35 #[.agg #[.int .i64 cnt, .slice A l.length c], .int .i64 r] w fun e w' => ∃ x : Rkv, e = .returned (.tuple #[.agg #[.int .i64 x.value, .int .i64 x.least, .int .i64 x.most], .int .i64 (resN cnt l r), .bool (ok cnt l r)]) ∧ x = resE cnt l r ∧ Below w.heap.size w w' := by
  have HBX := Lib.hid (fun (o o2 : Obj) => ((Below.refl w.heap.size w).alloc (Nat.le_refl _) o).alloc (by simp) o2)
  have HV := Lib.hid (fun o o2 => smy.impl_any (cnt := cnt) A c l ((w.alloc o).alloc o2) hn ((hr.alloc o).alloc o2))
  have HR := Lib.hid (show resE cnt l r = z0 ∧ resN cnt l r = 0 by simp [resE, resN, hno])
  have HNO := Lib.hid hno
  have hcase : vsmy cnt l = false ∨ (vsmy cnt l = true ∧ inB r 1 cnt = false) := by
    cases h : vsmy cnt l with
    | false => exact Or.inl rfl
    | true => right; exact ⟨rfl, by simpa [ok, h] using hno⟩
  clear hno
  rcases hcase with hv | ⟨hv, hi⟩
  all_goals
    rw [hv] at HV
    clear hv
    go_enter Try.func35, Try.ntmps35
    go_wp2_with fail
    refine (HV.out _ _).mono ?_
    rintro e w1 ⟨rfl, hb1⟩
    have hb2 := below_at (HBX.out _ _) (by simp; omega) hb1
    have hB := ((Blk.new w 29 #[.int .i64 cnt, .slice A l.length c]).alloc (.cells #[.int .i64 0, .int .i64 0, .int .i64 0] 51)).below hb1 (by simp; omega)
    have hB0 : w1.cell? ⟨w.heap.size, 0, none⟩ = some (.int .i64 cnt) := hB.cell 0
    have hE := (Blk.new (w.alloc (.cells #[.int .i64 cnt, .slice A l.length c] 29)) 51 #[.int .i64 0, .int .i64 0, .int .i64 0]).below hb1 (by simp)
    rw [show (w.alloc (.cells #[.int .i64 cnt, .slice A l.length c] 29)).heap.size = w.heap.size + 1 by simp] at hE
    have e0 : w1.cell? ⟨w.heap.size + 1, 0, none⟩ = some (.int .i64 0) := hE.cell 0
    have e1 : w1.cell? ⟨w.heap.size + 1, 1, none⟩ = some (.int .i64 0) := hE.cell 1
    have e2 : w1.cell? ⟨w.heap.size + 1, 2, none⟩ = some (.int .i64 0) := hE.cell 2
    have e3 := hE.thaw 0
    have e4 := hE.thaw 1
    have e5 := hE.thaw 2
    clear hB hE hb1
    go_wp2_with (first | (go_at_call 57; refine (ins.impl_any _ _ _ _).mono ?_; rintro e w' ⟨rfl, rfl⟩))
    refine bodyPost_ret (v := .tuple #[.agg #[.int .i64 0, .int .i64 0, .int .i64 0], .int .i64 0, .bool false]) (by simp [results, Try.results35, go_sem, e0, e1, e2]) rfl ⟨z0, by rw [HR.out.2, HNO.out]; rfl, HR.out.1.symm, ?_⟩
    first | exact hb2 | exact ((hb2.setCell (by simp) _).setCell (by simp) _).setCell (by simp) _
set_option maxRecDepth 100000 in
set_option maxHeartbeats 2000000 in
theorem spec_no {cnt : Int} (A : Option Addr) (c : Nat) (l : List Rkv) (r : Int) (w : World) (hn : l.length ≤ 1048576) (hr : Rd w 3 A l.length (rkvs l)) (hno : ok cnt l r = false) :
    Calls Try.prog 34 #[.agg #[.int .i64 cnt, .slice A l.length c], .int .i64 r] w fun e w' => ∃ x : Rkv, e = .returned (.tuple #[.agg #[.int .i64 x.value, .int .i64 x.least, .int .i64 x.most], .int .i64 (resN cnt l r), .bool (ok cnt l r)]) ∧ x = resE cnt l r ∧ Below w.heap.size w w' := by
  have HBX := Lib.hid (fun (o o2 : Obj) => ((Below.refl w.heap.size w).alloc (Nat.le_refl _) o).alloc (by simp) o2)
  have HV := Lib.hid (fun o o2 => smy.good_any (cnt := cnt) A c l ((w.alloc o).alloc o2) hn ((hr.alloc o).alloc o2))
  have HR := Lib.hid (show resE cnt l r = z0 ∧ resN cnt l r = 0 by simp [resE, resN, hno])
  have HNO := Lib.hid hno
  have hcase : vsmy cnt l = false ∨ (vsmy cnt l = true ∧ inB r 1 cnt = false) := by
    cases h : vsmy cnt l with
    | false => exact Or.inl rfl
    | true => right; exact ⟨rfl, by simpa [ok, h] using hno⟩
  clear hno
  rcases hcase with hv | ⟨hv, hi⟩
  all_goals
    rw [hv] at HV
    clear hv
    go_enter Try.func34, Try.ntmps34
    go_wp2_with fail
    refine (HV.out _ _).mono ?_
    rintro e w1 ⟨rfl, hb1⟩
    have hb2 := below_at (HBX.out _ _) (by simp; omega) hb1
    have hB := ((Blk.new w 29 #[.int .i64 cnt, .slice A l.length c]).alloc (.cells #[.int .i64 0, .int .i64 0, .int .i64 0] 51)).below hb1 (by simp; omega)
    have hB0 : w1.cell? ⟨w.heap.size, 0, none⟩ = some (.int .i64 cnt) := hB.cell 0
    have hE := (Blk.new (w.alloc (.cells #[.int .i64 cnt, .slice A l.length c] 29)) 51 #[.int .i64 0, .int .i64 0, .int .i64 0]).below hb1 (by simp)
    rw [show (w.alloc (.cells #[.int .i64 cnt, .slice A l.length c] 29)).heap.size = w.heap.size + 1 by simp] at hE
    have e0 : w1.cell? ⟨w.heap.size + 1, 0, none⟩ = some (.int .i64 0) := hE.cell 0
    have e1 : w1.cell? ⟨w.heap.size + 1, 1, none⟩ = some (.int .i64 0) := hE.cell 1
    have e2 : w1.cell? ⟨w.heap.size + 1, 2, none⟩ = some (.int .i64 0) := hE.cell 2
    have e3 := hE.thaw 0
    have e4 := hE.thaw 1
    have e5 := hE.thaw 2
    clear hB hE hb1
    go_wp2_with (first | (go_at_call 65; refine (ins.spec_any _ _ _ _).mono ?_; rintro e w' ⟨rfl, rfl⟩))
    refine bodyPost_ret (v := .tuple #[.agg #[.int .i64 0, .int .i64 0, .int .i64 0], .int .i64 0, .bool false]) (by simp [results, Try.results34, go_sem, e0, e1, e2]) rfl ⟨z0, by rw [HR.out.2, HNO.out]; rfl, HR.out.1.symm, ?_⟩
    first | exact hb2 | exact ((hb2.setCell (by simp) _).setCell (by simp) _).setCell (by simp) _
set_option maxRecDepth 100000 in
set_option maxHeartbeats 4000000 in
theorem impl_yes {cnt : Int} (A : Option Addr) (c : Nat) (l : List Rkv) (r : Int) (w : World) (hn : l.length ≤ 1048576) (hr : Rd w 3 A l.length (rkvs l)) (hyes : ok cnt l r = true) :
    Calls Try.prog 35 #[.agg #[.int .i64 cnt, .slice A l.length c], .int .i64 r] w fun e w' => ∃ x : Rkv, e = .returned (.tuple #[.agg #[.int .i64 x.value, .int .i64 x.least, .int .i64 x.most], .int .i64 (resN cnt l r), .bool (ok cnt l r)]) ∧ x = resE cnt l r ∧ Below w.heap.size w w' := by
  have HBX := Lib.hid (fun (o o2 : Obj) => ((Below.refl w.heap.size w).alloc (Nat.le_refl _) o).alloc (by simp) o2)
  have HV := Lib.hid (fun o o2 => smy.impl_any (cnt := cnt) A c l ((w.alloc o).alloc o2) hn ((hr.alloc o).alloc o2))
  have hy2 : vsmy cnt l = true ∧ inB r 1 cnt = true := by simpa [ok] using hyes
  obtain ⟨hv, hi⟩ := hy2
  have hcn := vsmy_cnt hv
  have hri := inB_iff.1 hi
  have h0 : 0 < l.length := by omega
  have hbt : best l r < l.length := bst_lt l r l.length h0
  have HR := Lib.hid (show resE cnt l r = l[best l r]'hbt ∧ resN cnt l r = errv l r from ⟨by rw [resE, if_pos hyes, getD_r l hbt], by rw [resN, if_pos hyes]⟩)
  have HNO := Lib.hid hyes
  have HBD := Lib.hid (bd_of hv)
  have hr1 : -2000 ≤ r := by omega
  have hr2 : r ≤ 2000 := by omega
  clear hyes
  rw [hv] at HV
  clear hv
  go_enter Try.func35, Try.ntmps35
  go_wp2_with fail
  refine (HV.out _ _).mono ?_
  rintro e w1 ⟨rfl, hb1⟩
  have hb2 := below_at (HBX.out _ _) (by simp; omega) hb1
  have hB := ((Blk.new w 29 #[.int .i64 cnt, .slice A l.length c]).alloc (.cells #[.int .i64 0, .int .i64 0, .int .i64 0] 51)).below hb1 (by simp; omega)
  have hB0 : w1.cell? ⟨w.heap.size, 0, none⟩ = some (.int .i64 cnt) := hB.cell 0
  have hB1 : w1.cell? ⟨w.heap.size, 1, none⟩ = some (.slice A l.length c) := hB.cell 1
  have hE := (Blk.new (w.alloc (.cells #[.int .i64 cnt, .slice A l.length c] 29)) 51 #[.int .i64 0, .int .i64 0, .int .i64 0]).below hb1 (by simp)
  rw [show (w.alloc (.cells #[.int .i64 cnt, .slice A l.length c] 29)).heap.size = w.heap.size + 1 by simp] at hE
  have hrd := hr.below hb2
  have hlt1 := hE.lt
  clear hb1
  obtain ⟨b, off, rfl, c0, c1, c2⟩ := hrd.rkv (show best l r < l.length from hbt)
  have q1 : ((best l r : Nat) : Int) < (l.length : Int) := by omega
  generalize l[best l r]'hbt = x at c0 c1 c2 HR
  have q2 : (0 : Int) ≤ ((best l r : Nat) : Int) := by omega
  go_wp2_with (first | (go_at_call 57; refine (ins.impl_any _ _ _ _).mono ?_; rintro e w' ⟨rfl, rfl⟩) | (go_at_call 67; refine (impl_rank _ c l r _ hn HBD.out hr1 hr2 hrd).mono ?_; rintro e w2 ⟨rfl, hb3⟩; have g0 := cells_below hb3 c0; have g1 := cells_below hb3 c1; have g2 := cells_below hb3 c2; have g3 := cells_below hb3 hB1; have hE2 := hE.below hb3 hlt1; have e0 : w2.cell? ⟨w.heap.size + 1, 0, none⟩ = some (.int .i64 0) := hE2.cell 0; have e1 : w2.cell? ⟨w.heap.size + 1, 1, none⟩ = some (.int .i64 0) := hE2.cell 1; have e2 : w2.cell? ⟨w.heap.size + 1, 2, none⟩ = some (.int .i64 0) := hE2.cell 2; have e3 := hE2.thaw 0; have e4 := hE2.thaw 1; have e5 := hE2.thaw 2))
  have hb4 := below_step hb2 hb3
  refine bodyPost_ret (v := .tuple #[.agg #[.int .i64 x.value, .int .i64 x.least, .int .i64 x.most], .int .i64 (errv l r), .bool true]) (by simp [results, Try.results35, go_sem, e0, e1, e2]) rfl ⟨x, by rw [HR.out.2, HNO.out], HR.out.1.symm, ?_⟩
  exact ((hb4.setCell (by simp) _).setCell (by simp) _).setCell (by simp) _
set_option maxRecDepth 100000 in
set_option maxHeartbeats 4000000 in
theorem spec_yes {cnt : Int} (A : Option Addr) (c : Nat) (l : List Rkv) (r : Int) (w : World) (hn : l.length ≤ 1048576) (hr : Rd w 3 A l.length (rkvs l)) (hyes : ok cnt l r = true) :
    Calls Try.prog 34 #[.agg #[.int .i64 cnt, .slice A l.length c], .int .i64 r] w fun e w' => ∃ x : Rkv, e = .returned (.tuple #[.agg #[.int .i64 x.value, .int .i64 x.least, .int .i64 x.most], .int .i64 (resN cnt l r), .bool (ok cnt l r)]) ∧ x = resE cnt l r ∧ Below w.heap.size w w' := by
  have HBX := Lib.hid (fun (o o2 : Obj) => ((Below.refl w.heap.size w).alloc (Nat.le_refl _) o).alloc (by simp) o2)
  have HV := Lib.hid (fun o o2 => smy.good_any (cnt := cnt) A c l ((w.alloc o).alloc o2) hn ((hr.alloc o).alloc o2))
  have hy2 : vsmy cnt l = true ∧ inB r 1 cnt = true := by simpa [ok] using hyes
  obtain ⟨hv, hi⟩ := hy2
  have hcn := vsmy_cnt hv
  have hri := inB_iff.1 hi
  have h0 : 0 < l.length := by omega
  have hbt : best l r < l.length := bst_lt l r l.length h0
  have HR := Lib.hid (show resE cnt l r = l[best l r]'hbt ∧ resN cnt l r = errv l r from ⟨by rw [resE, if_pos hyes, getD_r l hbt], by rw [resN, if_pos hyes]⟩)
  have HNO := Lib.hid hyes
  have HBD := Lib.hid (bd_of hv)
  have hr1 : -2000 ≤ r := by omega
  have hr2 : r ≤ 2000 := by omega
  clear hyes
  rw [hv] at HV
  clear hv
  go_enter Try.func34, Try.ntmps34
  go_wp2_with fail
  refine (HV.out _ _).mono ?_
  rintro e w1 ⟨rfl, hb1⟩
  have hb2 := below_at (HBX.out _ _) (by simp; omega) hb1
  have hB := ((Blk.new w 29 #[.int .i64 cnt, .slice A l.length c]).alloc (.cells #[.int .i64 0, .int .i64 0, .int .i64 0] 51)).below hb1 (by simp; omega)
  have hB0 : w1.cell? ⟨w.heap.size, 0, none⟩ = some (.int .i64 cnt) := hB.cell 0
  have hB1 : w1.cell? ⟨w.heap.size, 1, none⟩ = some (.slice A l.length c) := hB.cell 1
  have hE := (Blk.new (w.alloc (.cells #[.int .i64 cnt, .slice A l.length c] 29)) 51 #[.int .i64 0, .int .i64 0, .int .i64 0]).below hb1 (by simp)
  rw [show (w.alloc (.cells #[.int .i64 cnt, .slice A l.length c] 29)).heap.size = w.heap.size + 1 by simp] at hE
  have hrd := hr.below hb2
  have hlt1 := hE.lt
  clear hb1
  obtain ⟨b, off, rfl, c0, c1, c2⟩ := hrd.rkv (show best l r < l.length from hbt)
  have q1 : ((best l r : Nat) : Int) < (l.length : Int) := by omega
  have HXB := Lib.hid (HBD.out (best l r) hbt)
  have HERR := Lib.hid (show err (l[best l r]'hbt) r = errv l r by rw [errv, el, if_neg (by omega)]; show err _ r = err (l.getD (best l r) z0) r; rw [getD_r l hbt])
  generalize l[best l r]'hbt = x at c0 c1 c2 HR HXB HERR
  have q2 : (0 : Int) ≤ ((best l r : Nat) : Int) := by omega
  have HBE := Lib.hid (fun W => spec_err x r W)
  have HKC := Lib.hid (fun (w' : World) (h : Below w1.heap.size w1 w') => And.intro (cells_below h hB0) (And.intro (cells_below h hB1) (And.intro (cells_below h c0) (And.intro (cells_below h c1) (cells_below h c2)))))
  go_wp2_with (first | (go_at_call 65; refine (ins.spec_any _ _ _ _).mono ?_; rintro e w' ⟨rfl, rfl⟩))
  go_region_held3 (fun w' => w'.cell? ⟨w.heap.size, 0, none⟩ = some (.int .i64 cnt) ∧ w'.cell? ⟨w.heap.size, 1, none⟩ = some (.slice (some ⟨b, off, none⟩) l.length c) ∧ w'.cell? ⟨b, off + best l r * 3, none⟩ = some (.int .i64 x.value) ∧ w'.cell? ⟨b, off + best l r * 3 + 1, none⟩ = some (.int .i64 x.least) ∧ w'.cell? ⟨b, off + best l r * 3 + 2, none⟩ = some (.int .i64 x.most)) (first | exact HKC.out _ hq_a | exact HKC.out _ (hq_a.alloc hq_a.size _) | exact HKC.out _ (((hq_a.setCell (Nat.le_refl _) _).setCell (Nat.le_refl _) _).setCell (Nat.le_refl _) _) | go_keep) (first
    | (go_at_call 66; refine (spec_best _ c l r _ hn h0 HBD.out hr1 hr2 (by first | exact hrd.drew | exact (hrd.alloc (.cells #[.int .i64 0, .int .i64 0, .int .i64 0] 51)).drew)).mono ?_; rintro e w2 ⟨rfl, hb_a⟩; have hq_a : Below w1.heap.size w1 w2 := (by first | exact ⟨hb_a.os, hb_a.tape, hb_a.output, hb_a.size, hb_a.block⟩ | exact below_box (o := .cells #[.int .i64 0, .int .i64 0, .int .i64 0] 51) ⟨hb_a.os, hb_a.tape, hb_a.output, hb_a.size, hb_a.block⟩); try (have hz := (Blk.new w1 51 #[.int .i64 0, .int .i64 0, .int .i64 0]).below (w' := w2) ⟨hb_a.os, hb_a.tape, hb_a.output, hb_a.size, hb_a.block⟩ (by simp); have f0 : w2.cell? ⟨w1.heap.size, 0, none⟩ = some (.int .i64 0) := hz.cell 0; have f1 : w2.cell? ⟨w1.heap.size, 1, none⟩ = some (.int .i64 0) := hz.cell 1; have f2 : w2.cell? ⟨w1.heap.size, 2, none⟩ = some (.int .i64 0) := hz.cell 2; have f3 := hz.thaw 0; have f4 := hz.thaw 1; have f5 := hz.thaw 2)))
  · have hX := Blk.new w2 51 #[.int .i64 x.value, .int .i64 x.least, .int .i64 x.most]
    have hq5 := hq_a.alloc hq_a.size (.cells #[.int .i64 x.value, .int .i64 x.least, .int .i64 x.most] 51)
    have hG : w.heap.size + 1 < w2.heap.size := Nat.lt_of_lt_of_le hlt1 hq_a.size
    generalize w2.alloc (.cells #[.int .i64 x.value, .int .i64 x.least, .int .i64 x.most] 51) = W5 at hX hq5 ⊢
    generalize w2.heap.size = G at hX hG ⊢
    clear hq_a hb_a HKC hB0 hB1 c0 c1 c2
    have hE5 := hE.below hq5 hlt1
    have x0 : W5.cell? ⟨G, 0, none⟩ = some (.int .i64 x.value) := hX.cell 0
    have x1 : W5.cell? ⟨G, 1, none⟩ = some (.int .i64 x.least) := hX.cell 1
    have x2 : W5.cell? ⟨G, 2, none⟩ = some (.int .i64 x.most) := hX.cell 2
    have HK5 := Lib.hid (fun (w' : World) (h : Blk w' G 51 #[.int .i64 x.value, .int .i64 x.least, .int .i64 x.most]) => And.intro (show w'.cell? ⟨G, 0, none⟩ = some (.int .i64 x.value) from h.cell 0) (And.intro (show w'.cell? ⟨G, 1, none⟩ = some (.int .i64 x.least) from h.cell 1) (show w'.cell? ⟨G, 2, none⟩ = some (.int .i64 x.most) from h.cell 2)))
    have hne : G ≠ w.heap.size + 1 := by omega
    have hlt5 := hE5.lt
    clear hE
    go_wp2_with fail
    go_region_held3 (fun w' => w'.cell? ⟨G, 0, none⟩ = some (.int .i64 x.value) ∧ w'.cell? ⟨G, 1, none⟩ = some (.int .i64 x.least) ∧ w'.cell? ⟨G, 2, none⟩ = some (.int .i64 x.most)) (first | exact HK5.out _ hX6 | exact HK5.out _ (((hX6.far hne _).far hne _).far hne _) | go_keep) (first
      | (go_at_call 68; refine (HBE.out _ HXB.out.1 HXB.out.2.1 HXB.out.2.2 hr1 hr2).mono ?_; rintro e w6 ⟨rfl, hb_b⟩; have hq_b : Below W5.heap.size W5 w6 := ⟨hb_b.os, hb_b.tape, hb_b.output, hb_b.size, hb_b.block⟩; have hE6 := hE5.below hq_b hlt5; have hX6 := hX.below hq_b hX.lt; have e0 : w6.cell? ⟨w.heap.size + 1, 0, none⟩ = some (.int .i64 0) := hE6.cell 0; have e1 : w6.cell? ⟨w.heap.size + 1, 1, none⟩ = some (.int .i64 0) := hE6.cell 1; have e2 : w6.cell? ⟨w.heap.size + 1, 2, none⟩ = some (.int .i64 0) := hE6.cell 2; have e3 := hE6.thaw 0; have e4 := hE6.thaw 1; have e5 := hE6.thaw 2))
    go_wp2
    have hb7 := below_step (below_step hb2 hq5) hq_b
    refine bodyPost_ret (v := .tuple #[.agg #[.int .i64 x.value, .int .i64 x.least, .int .i64 x.most], .int .i64 (errv l r), .bool true]) (by simp [results, Try.results34, go_sem, e0, e1, e2, HERR.out]) rfl ⟨x, by rw [HR.out.2, HNO.out], HR.out.1.symm, ?_⟩
    exact ((hb7.setCell (by simp) _).setCell (by simp) _).setCell (by simp) _
  · have hX : Blk (((w2.setCell ⟨w1.heap.size, 0, none⟩ (.int .i64 x.value)).setCell ⟨w1.heap.size, 1, none⟩ (.int .i64 x.least)).setCell ⟨w1.heap.size, 2, none⟩ (.int .i64 x.most)) w1.heap.size 51 #[.int .i64 x.value, .int .i64 x.least, .int .i64 x.most] := ((hz.put 0 _).put 1 _).put 2 _
    have hq5 := ((hq_a.setCell (p := ⟨w1.heap.size, 0, none⟩) (Nat.le_refl _) (.int .i64 x.value)).setCell (p := ⟨w1.heap.size, 1, none⟩) (Nat.le_refl _) (.int .i64 x.least)).setCell (p := ⟨w1.heap.size, 2, none⟩) (Nat.le_refl _) (.int .i64 x.most)
    have hG : w.heap.size + 1 < w1.heap.size := hlt1
    clear f0 f1 f2 f3 f4 f5
    generalize (((w2.setCell ⟨w1.heap.size, 0, none⟩ (.int .i64 x.value)).setCell ⟨w1.heap.size, 1, none⟩ (.int .i64 x.least)).setCell ⟨w1.heap.size, 2, none⟩ (.int .i64 x.most)) = W5 at hX hq5 ⊢
    clear hz hq_a hb_a HKC hB0 hB1 c0 c1 c2
    obtain ⟨G, hGe⟩ : ∃ G, G = w1.heap.size := ⟨_, rfl⟩
    rw [← hGe] at hX hG ⊢
    have HGe := Lib.hid hGe
    clear hGe
    have hE5 := hE.below hq5 hlt1
    have x0 : W5.cell? ⟨G, 0, none⟩ = some (.int .i64 x.value) := hX.cell 0
    have x1 : W5.cell? ⟨G, 1, none⟩ = some (.int .i64 x.least) := hX.cell 1
    have x2 : W5.cell? ⟨G, 2, none⟩ = some (.int .i64 x.most) := hX.cell 2
    have HK5 := Lib.hid (fun (w' : World) (h : Blk w' G 51 #[.int .i64 x.value, .int .i64 x.least, .int .i64 x.most]) => And.intro (show w'.cell? ⟨G, 0, none⟩ = some (.int .i64 x.value) from h.cell 0) (And.intro (show w'.cell? ⟨G, 1, none⟩ = some (.int .i64 x.least) from h.cell 1) (show w'.cell? ⟨G, 2, none⟩ = some (.int .i64 x.most) from h.cell 2)))
    have hne : G ≠ w.heap.size + 1 := by omega
    have hlt5 := hE5.lt
    clear hE
    go_wp2_with fail
    go_region_held3 (fun w' => w'.cell? ⟨G, 0, none⟩ = some (.int .i64 x.value) ∧ w'.cell? ⟨G, 1, none⟩ = some (.int .i64 x.least) ∧ w'.cell? ⟨G, 2, none⟩ = some (.int .i64 x.most)) (first | exact HK5.out _ hX6 | exact HK5.out _ (((hX6.far hne _).far hne _).far hne _) | go_keep) (first
      | (go_at_call 68; refine (HBE.out _ HXB.out.1 HXB.out.2.1 HXB.out.2.2 hr1 hr2).mono ?_; rintro e w6 ⟨rfl, hb_b⟩; have hq_b : Below W5.heap.size W5 w6 := ⟨hb_b.os, hb_b.tape, hb_b.output, hb_b.size, hb_b.block⟩; have hE6 := hE5.below hq_b hlt5; have hX6 := hX.below hq_b hX.lt; have e0 : w6.cell? ⟨w.heap.size + 1, 0, none⟩ = some (.int .i64 0) := hE6.cell 0; have e1 : w6.cell? ⟨w.heap.size + 1, 1, none⟩ = some (.int .i64 0) := hE6.cell 1; have e2 : w6.cell? ⟨w.heap.size + 1, 2, none⟩ = some (.int .i64 0) := hE6.cell 2; have e3 := hE6.thaw 0; have e4 := hE6.thaw 1; have e5 := hE6.thaw 2))
    go_wp2
    have hb7 := below_step (below_step hb2 hq5) hq_b
    refine bodyPost_ret (v := .tuple #[.agg #[.int .i64 x.value, .int .i64 x.least, .int .i64 x.most], .int .i64 (errv l r), .bool true]) (by simp [results, Try.results34, go_sem, e0, e1, e2, HERR.out]) rfl ⟨x, by rw [HR.out.2, HNO.out], HR.out.1.symm, ?_⟩
    exact ((hb7.setCell (by simp) _).setCell (by simp) _).setCell (by simp) _
theorem impl_any {cnt : Int} (A : Option Addr) (c : Nat) (l : List Rkv) (r : Int) (w : World) (hn : l.length ≤ 1048576) (hr : Rd w 3 A l.length (rkvs l)) :
    Calls Try.prog 35 #[.agg #[.int .i64 cnt, .slice A l.length c], .int .i64 r] w fun e w' => ∃ x : Rkv, e = .returned (.tuple #[.agg #[.int .i64 x.value, .int .i64 x.least, .int .i64 x.most], .int .i64 (resN cnt l r), .bool (ok cnt l r)]) ∧ x = resE cnt l r ∧ Below w.heap.size w w' := by
  cases h : ok cnt l r with
  | false => have := impl_no A c l r w hn hr h; rwa [h] at this
  | true => have := impl_yes A c l r w hn hr h; rwa [h] at this
theorem spec_any {cnt : Int} (A : Option Addr) (c : Nat) (l : List Rkv) (r : Int) (w : World) (hn : l.length ≤ 1048576) (hr : Rd w 3 A l.length (rkvs l)) :
    Calls Try.prog 34 #[.agg #[.int .i64 cnt, .slice A l.length c], .int .i64 r] w fun e w' => ∃ x : Rkv, e = .returned (.tuple #[.agg #[.int .i64 x.value, .int .i64 x.least, .int .i64 x.most], .int .i64 (resN cnt l r), .bool (ok cnt l r)]) ∧ x = resE cnt l r ∧ Below w.heap.size w w' := by
  cases h : ok cnt l r with
  | false => have := spec_no A c l r w hn hr h; rwa [h] at this
  | true => have := spec_yes A c l r w hn hr h; rwa [h] at this
end Go.Proofs.Ytlckeefjhafloaa.smyQR
