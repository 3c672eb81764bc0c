/- QueryQuantile, the program's and the reference's. Condition: at most 2^20 entries. -/
import Derived.Test.YtlckeefjhafloaaSmyQ
import Derived.Test.YtlckeefjhafloaaMemAt
import Derived.Lib.QuietBelow
set_option linter.unusedVariables false
set_option linter.unusedSimpArgs false
namespace Go.Proofs.Ytlckeefjhafloaa.smyQQ
open Go.RowKit Go.Proofs.Ytlckeefjhafloaa.mem Go.Proofs.Ytlckeefjhafloaa.smy Go.Proofs.Ytlckeefjhafloaa.smyQ
open Go.Proofs.Ytlckeefjhafloaa.ins (inB inB_true inB_false inB_iff)

def ok (cnt : Int) (l : List Rkv) (pm : Int) : Bool := vsmy cnt l && (!decide (cnt = 0) && inB pm 0 1000)
def rk (cnt pm : Int) : Int := 1 + pm * (cnt - 1) / 1000
def res (cnt : Int) (l : List Rkv) (pm : Int) : Int := if ok cnt l pm = true then (l.getD (best l (rk cnt pm)) z0).value else 0
theorem mul_bd {pm c : Int} (h1 : 0 ≤ pm) (h2 : pm ≤ 1000) (h3 : 1 ≤ c) (h4 : c ≤ 1000) : 0 ≤ pm * (c - 1) ∧ pm * (c - 1) ≤ 999000 := by
  constructor
  · exact Int.mul_nonneg h1 (by omega)
  · have := Int.mul_le_mul h2 (show c - 1 ≤ 999 by omega) (by omega) (by omega); omega
set_option maxRecDepth 100000 in
set_option maxHeartbeats 2000000 in
theorem impl_no {cnt : Int} (A : Option Addr) (c : Nat) (l : List Rkv) (pm : Int) (w : World) (hn : l.length ≤ 1048576) (hr : Rd w 3 A l.length (rkvs l)) (hno : ok cnt l pm = false) :
    Calls Try.prog 33 #[.agg #[.int .i64 cnt, .slice A l.length c], .int .i64 pm] w fun e w' => e = .returned (.tuple #[.int .i64 (res cnt l pm), .bool (ok cnt l pm)]) ∧ Below w.heap.size w w' := by
  have HBX := Lib.hid (fun (o : Obj) => (Below.refl w.heap.size w).alloc (Nat.le_refl _) o)
  have HV := Lib.hid (fun o => smy.impl_any (cnt := cnt) A c l (w.alloc o) hn (hr.alloc o))
  have HR := Lib.hid (show res cnt l pm = 0 by simp [res, hno])
  have HNO := Lib.hid hno
  have hcase : vsmy cnt l = false ∨ (vsmy cnt l = true ∧ cnt = 0) ∨ (vsmy cnt l = true ∧ ¬ cnt = 0 ∧ inB pm 0 1000 = false) := by
    cases h : vsmy cnt l with
    | false => exact Or.inl rfl
    | true =>
      right
      by_cases h2 : cnt = 0
      · exact Or.inl ⟨rfl, h2⟩
      · right; exact ⟨rfl, h2, by simpa [ok, h, h2] using hno⟩
  clear hno
  rcases hcase with hv | ⟨hv, h2⟩ | ⟨hv, h2, hi⟩
  rotate_left
  · subst h2
    rw [hv] at HV
    clear hv
    go_enter Try.func33, Try.ntmps33
    go_wp2_with fail
    refine (HV.out _).mono ?_
    rintro e w1 ⟨rfl, hb1⟩
    have hb2 := below_box hb1
    have hB := (Blk.new w 29 #[.int .i64 0, .slice A l.length c]).below hb1 (by simp)
    have hB0 : w1.cell? ⟨w.heap.size, 0, none⟩ = some (.int .i64 0) := hB.cell 0
    clear hB hb1
    go_wp2_with (first | (go_at_call 57; refine (ins.impl_any _ _ _ _).mono ?_; rintro e w' ⟨rfl, rfl⟩))
    go_ret2
    exact ⟨(by rw [HR.out, HNO.out]; try rfl), hb2⟩
  · rw [hv] at HV
    have q1 : (cnt == 0) = false := by simpa using h2
    clear hv h2
    go_enter Try.func33, Try.ntmps33
    go_wp2_with fail
    refine (HV.out _).mono ?_
    rintro e w1 ⟨rfl, hb1⟩
    have hb2 := below_box hb1
    have hB := (Blk.new w 29 #[.int .i64 cnt, .slice A l.length c]).below hb1 (by simp)
    have hB0 : w1.cell? ⟨w.heap.size, 0, none⟩ = some (.int .i64 cnt) := hB.cell 0
    clear hB hb1
    go_wp2_with (first | (go_at_call 57; refine (ins.impl_any _ _ _ _).mono ?_; rintro e w' ⟨rfl, rfl⟩))
    go_ret2
    exact ⟨(by rw [HR.out, HNO.out]; try rfl), hb2⟩
  · rw [hv] at HV
    clear hv
    go_enter Try.func33, Try.ntmps33
    go_wp2_with fail
    refine (HV.out _).mono ?_
    rintro e w1 ⟨rfl, hb1⟩
    have hb2 := below_box hb1
    clear hb1
    go_wp2_with (first | (go_at_call 57; refine (ins.impl_any _ _ _ _).mono ?_; rintro e w' ⟨rfl, rfl⟩))
    go_ret2
    exact ⟨(by rw [HR.out, HNO.out]; try rfl), hb2⟩
set_option maxRecDepth 100000 in
set_option maxHeartbeats 2000000 in
theorem spec_no {cnt : Int} (A : Option Addr) (c : Nat) (l : List Rkv) (pm : Int) (w : World) (hn : l.length ≤ 1048576) (hr : Rd w 3 A l.length (rkvs l)) (hno : ok cnt l pm = false) :
    Calls Try.prog 32 #[.agg #[.int .i64 cnt, .slice A l.length c], .int .i64 pm] w fun e w' => e = .returned (.tuple #[.int .i64 (res cnt l pm), .bool (ok cnt l pm)]) ∧ Below w.heap.size w w' := by
  have HBX := Lib.hid (fun (o : Obj) => (Below.refl w.heap.size w).alloc (Nat.le_refl _) o)
  have HV := Lib.hid (fun o => smy.good_any (cnt := cnt) A c l (w.alloc o) hn (hr.alloc o))
  have HR := Lib.hid (show res cnt l pm = 0 by simp [res, hno])
  have HNO := Lib.hid hno
  have hcase : vsmy cnt l = false ∨ (vsmy cnt l = true ∧ cnt = 0) ∨ (vsmy cnt l = true ∧ ¬ cnt = 0 ∧ inB pm 0 1000 = false) := by
    cases h : vsmy cnt l with
    | false => exact Or.inl rfl
    | true =>
      right
      by_cases h2 : cnt = 0
      · exact Or.inl ⟨rfl, h2⟩
      · right; exact ⟨rfl, h2, by simpa [ok, h, h2] using hno⟩
  clear hno
  rcases hcase with hv | ⟨hv, h2⟩ | ⟨hv, h2, hi⟩
  rotate_left
  · subst h2
    rw [hv] at HV
    clear hv
    go_enter Try.func32, Try.ntmps32
    go_wp2_with fail
    refine (HV.out _).mono ?_
    rintro e w1 ⟨rfl, hb1⟩
    have hb2 := below_box hb1
    have hB := (Blk.new w 29 #[.int .i64 0, .slice A l.length c]).below hb1 (by simp)
    have hB0 : w1.cell? ⟨w.heap.size, 0, none⟩ = some (.int .i64 0) := hB.cell 0
    clear hB hb1
    go_wp2_with (first | (go_at_call 65; refine (ins.spec_any _ _ _ _).mono ?_; rintro e w' ⟨rfl, rfl⟩))
    go_ret2
    exact ⟨(by rw [HR.out, HNO.out]; try rfl), hb2⟩
  · rw [hv] at HV
    have q1 : (cnt == 0) = false := by simpa using h2
    clear hv h2
    go_enter Try.func32, Try.ntmps32
    go_wp2_with fail
    refine (HV.out _).mono ?_
    rintro e w1 ⟨rfl, hb1⟩
    have hb2 := below_box hb1
    have hB := (Blk.new w 29 #[.int .i64 cnt, .slice A l.length c]).below hb1 (by simp)
    have hB0 : w1.cell? ⟨w.heap.size, 0, none⟩ = some (.int .i64 cnt) := hB.cell 0
    clear hB hb1
    go_wp2_with (first | (go_at_call 65; refine (ins.spec_any _ _ _ _).mono ?_; rintro e w' ⟨rfl, rfl⟩))
    go_ret2
    exact ⟨(by rw [HR.out, HNO.out]; try rfl), hb2⟩
  · rw [hv] at HV
    clear hv
    go_enter Try.func32, Try.ntmps32
    go_wp2_with fail
    refine (HV.out _).mono ?_
    rintro e w1 ⟨rfl, hb1⟩
    have hb2 := below_box hb1
    clear hb1
    go_wp2_with (first | (go_at_call 65; refine (ins.spec_any _ _ _ _).mono ?_; rintro e w' ⟨rfl, rfl⟩))
    go_ret2
    exact ⟨(by rw [HR.out, HNO.out]; try rfl), hb2⟩
set_option maxRecDepth 100000 in
set_option maxHeartbeats 4000000 in
theorem impl_yes {cnt : Int} (A : Option Addr) (c : Nat) (l : List Rkv) (pm : Int) (w : World) (hn : l.length ≤ 1048576) (hr : Rd w 3 A l.length (rkvs l)) (hyes : ok cnt l pm = true) :
    Calls Try.prog 33 #[.agg #[.int .i64 cnt, .slice A l.length c], .int .i64 pm] w fun e w' => e = .returned (.tuple #[.int .i64 (res cnt l pm), .bool (ok cnt l pm)]) ∧ Below w.heap.size w w' := by
  have HBX := Lib.hid (fun (o : Obj) => (Below.refl w.heap.size w).alloc (Nat.le_refl _) o)
  have HV := Lib.hid (fun o => smy.impl_any (cnt := cnt) A c l (w.alloc o) hn (hr.alloc o))
  have hy2 : vsmy cnt l = true ∧ ¬ cnt = 0 ∧ inB pm 0 1000 = true := by simpa [ok] using hyes
  obtain ⟨hv, hc0, hi⟩ := hy2
  have hcn := vsmy_cnt hv
  have hri := inB_iff.1 hi
  have h0 : 0 < l.length := by omega
  have hm := mul_bd hri.1 hri.2 (show 1 ≤ cnt by omega) hcn.2.1
  have hrk : rk cnt pm = 1 + pm * (cnt - 1) / 1000 := rfl
  have hr1 : -2000 ≤ rk cnt pm := by omega
  have hr2 : rk cnt pm ≤ 2000 := by omega
  have hbt : best l (rk cnt pm) < l.length := bst_lt l (rk cnt pm) l.length h0
  have HR := Lib.hid (show res cnt l pm = (l[best l (rk cnt pm)]'hbt).value by rw [res, if_pos hyes, getD_r l hbt])
  have HNO := Lib.hid hyes
  have HBD := Lib.hid (bd_of hv)
  have q1 : (cnt == 0) = false := by simpa using hc0
  have HRK := Lib.hid hrk
  clear hyes hc0 hrk
  rw [hv] at HV
  clear hv
  go_enter Try.func33, Try.ntmps33
  go_wp2_with fail
  refine (HV.out _).mono ?_
  rintro e w1 ⟨rfl, hb1⟩
  have hb2 := below_box hb1
  have hB := (Blk.new w 29 #[.int .i64 cnt, .slice A l.length c]).below hb1 (by simp)
  have hB0 : w1.cell? ⟨w.heap.size, 0, none⟩ = some (.int .i64 cnt) := hB.cell 0
  have hB1 : w1.cell? ⟨w.heap.size, 1, none⟩ = some (.slice A l.length c) := hB.cell 1
  have hrd := hr.below hb2
  clear hb1 hB
  obtain ⟨b, off, rfl, c0, c1, c2⟩ := hrd.rkv hbt
  have q2 : ((best l (rk cnt pm) : Nat) : Int) < (l.length : Int) := by omega
  have q3 : (0 : Int) ≤ ((best l (rk cnt pm) : Nat) : Int) := by omega
  generalize l[best l (rk cnt pm)]'hbt = x at c0 c1 c2 HR
  go_wp2_with (first | (go_at_call 57; refine (ins.impl_any _ _ _ _).mono ?_; rintro e w' ⟨rfl, rfl⟩) | (go_at_call 67; refine (impl_rank _ c l (rk cnt pm) _ hn HBD.out hr1 hr2 hrd).mono ?_; rintro e w2 ⟨rfl, hb3⟩; have g0 := cells_below hb3 c0; have g3 := cells_below hb3 hB1))
  have hb4 := below_step hb2 hb3
  go_ret2
  exact ⟨(by rw [HR.out, HNO.out]; try rfl), hb4⟩
set_option maxRecDepth 100000 in
set_option maxHeartbeats 4000000 in
theorem spec_yes {cnt : Int} (A : Option Addr) (c : Nat) (l : List Rkv) (pm : Int) (w : World) (hn : l.length ≤ 1048576) (hr : Rd w 3 A l.length (rkvs l)) (hyes : ok cnt l pm = true) :
    Calls Try.prog 32 #[.agg #[.int .i64 cnt, .slice A l.length c], .int .i64 pm] w fun e w' => e = .returned (.tuple #[.int .i64 (res cnt l pm), .bool (ok cnt l pm)]) ∧ Below w.heap.size w w' := by
  have HBX := Lib.hid (fun (o : Obj) => (Below.refl w.heap.size w).alloc (Nat.le_refl _) o)
  have HV := Lib.hid (fun o => smy.good_any (cnt := cnt) A c l (w.alloc o) hn (hr.alloc o))
  have hy2 : vsmy cnt l = true ∧ ¬ cnt = 0 ∧ inB pm 0 1000 = true := by simpa [ok] using hyes
  obtain ⟨hv, hc0, hi⟩ := hy2
  have hcn := vsmy_cnt hv
  have hri := inB_iff.1 hi
  have h0 : 0 < l.length := by omega
  have hm := mul_bd hri.1 hri.2 (show 1 ≤ cnt by omega) hcn.2.1
  have hrk : rk cnt pm = 1 + pm * (cnt - 1) / 1000 := rfl
  have hr1 : -2000 ≤ rk cnt pm := by omega
  have hr2 : rk cnt pm ≤ 2000 := by omega
  have hbt : best l (rk cnt pm) < l.length := bst_lt l (rk cnt pm) l.length h0
  have HR := Lib.hid (show res cnt l pm = (l[best l (rk cnt pm)]'hbt).value by rw [res, if_pos hyes, getD_r l hbt])
  have HNO := Lib.hid hyes
  have HBD := Lib.hid (bd_of hv)
  have q1 : (cnt == 0) = false := by simpa using hc0
  have HRK := Lib.hid hrk
  clear hyes hc0 hrk
  rw [hv] at HV
  clear hv
  go_enter Try.func32, Try.ntmps32
  go_wp2_with fail
  refine (HV.out _).mono ?_
  rintro e w1 ⟨rfl, hb1⟩
  have hb2 := below_box hb1
  have hB := (Blk.new w 29 #[.int .i64 cnt, .slice A l.length c]).below hb1 (by simp)
  have hB0 : w1.cell? ⟨w.heap.size, 0, none⟩ = some (.int .i64 cnt) := hB.cell 0
  have hB1 : w1.cell? ⟨w.heap.size, 1, none⟩ = some (.slice A l.length c) := hB.cell 1
  have hrd := hr.below hb2
  clear hb1 hB
  obtain ⟨b, off, rfl, c0, c1, c2⟩ := hrd.rkv hbt
  have q2 : ((best l (rk cnt pm) : Nat) : Int) < (l.length : Int) := by omega
  have q3 : (0 : Int) ≤ ((best l (rk cnt pm) : Nat) : Int) := by omega
  generalize l[best l (rk cnt pm)]'hbt = x at c0 c1 c2 HR
  have k0 := fun d os => cell_regrown (w := w1) c0 d os
  have k1 := fun d os => cell_regrown (w := w1) hB0 d os
  have k2 := fun d os => cell_regrown (w := w1) hB1 d os
  have HBS := Lib.hid (fun W h => spec_best (cnt := cnt) (some ⟨b, off, none⟩) c l (rk cnt pm) W hn h0 HBD.out hr1 hr2 h)
  have HRD := Lib.hid (fun d os => hrd.below (below_regrown w1 d os))
  have q4 : IntKind.i64.wrap (cnt - 1) = cnt - 1 := IntWalk.i64_in _ (by omega)
  have q5 : IntKind.i64.wrap (pm * (cnt - 1)) = pm * (cnt - 1) := IntWalk.i64_in _ (by omega)
  have q6 : (pm * (cnt - 1)).tdiv 1000 = pm * (cnt - 1) / 1000 := Int.tdiv_eq_ediv_of_nonneg hm.1
  have q7 : IntKind.i64.wrap (pm * (cnt - 1) / 1000) = pm * (cnt - 1) / 1000 := IntWalk.i64_in _ (by omega)
  have q8 : IntKind.i64.wrap (1 + pm * (cnt - 1) / 1000) = 1 + pm * (cnt - 1) / 1000 := IntWalk.i64_in _ (by omega)
  go_wp2_with (first | (go_at_call 65; refine (ins.spec_any _ _ _ _).mono ?_; rintro e w' ⟨rfl, rfl⟩))
  (refine wp_region_quiet_below (by kernel_rfl) (by kernel_rfl) ?_; (repeat (quiet_step (exact Calls.regrown_of (HBS.out _ (HRD.out _ _))))); refine wpQuiet_nil ?_; intro _ hw'; obtain ⟨⟨dq, osq⟩, hw''⟩ := hw'; subst hw'')
  have hb4 := below_step hb2 (below_regrown w1 dq osq)
  go_wp2
  go_ret2
  exact ⟨(by rw [HR.out, HNO.out]; try rfl), hb4⟩
theorem impl_any {cnt : Int} (A : Option Addr) (c : Nat) (l : List Rkv) (pm : Int) (w : World) (hn : l.length ≤ 1048576) (hr : Rd w 3 A l.length (rkvs l)) :
    Calls Try.prog 33 #[.agg #[.int .i64 cnt, .slice A l.length c], .int .i64 pm] w fun e w' => e = .returned (.tuple #[.int .i64 (res cnt l pm), .bool (ok cnt l pm)]) ∧ Below w.heap.size w w' := by
  cases h : ok cnt l pm with
  | false => have := impl_no A c l pm w hn hr h; rwa [h] at this
  | true => have := impl_yes A c l pm w hn hr h; rwa [h] at this
theorem spec_any {cnt : Int} (A : Option Addr) (c : Nat) (l : List Rkv) (pm : Int) (w : World) (hn : l.length ≤ 1048576) (hr : Rd w 3 A l.length (rkvs l)) :
    Calls Try.prog 32 #[.agg #[.int .i64 cnt, .slice A l.length c], .int .i64 pm] w fun e w' => e = .returned (.tuple #[.int .i64 (res cnt l pm), .bool (ok cnt l pm)]) ∧ Below w.heap.size w w' := by
  cases h : ok cnt l pm with
  | false => have := spec_no A c l pm w hn hr h; rwa [h] at this
  | true => have := spec_yes A c l pm w hn hr h; rwa [h] at this
end Go.Proofs.Ytlckeefjhafloaa.smyQQ
