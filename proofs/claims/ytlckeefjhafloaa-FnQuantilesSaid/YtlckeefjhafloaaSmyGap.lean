/- SummaryGap, the program's and the reference's. Condition: at most 2^20 entries. -/
import Derived.Test.YtlckeefjhafloaaSmyG
import Derived.Lib.QuietBelow
set_option linter.unusedVariables false
set_option linter.unusedSimpArgs false
namespace Go.Proofs.Ytlckeefjhafloaa.smyGap
open Go.RowKit Go.Proofs.Ytlckeefjhafloaa.mem Go.Proofs.Ytlckeefjhafloaa.smy

/-- the greatest gap among the first k pairs of neighbours -/
def g (l : List Rkv) : Nat → Int
  | 0 => 0
  | k + 1 => max (g l k) ((l.getD (k + 1) z0).most - (l.getD k z0).least)
def ok (cnt : Int) (l : List Rkv) : Bool := vsmy cnt l
def res (cnt : Int) (l : List Rkv) : Int := if vsmy cnt l = true then g l (l.length - 1) else 0
theorem g_bd {cnt : Int} {l : List Rkv} (h : vsmy cnt l = true) : ∀ k, k < l.length → 0 ≤ g l k ∧ g l k ≤ 1000
  | 0, _ => by simp [g]
  | k + 1, hk => by
    have h1 := g_bd h k (by omega)
    have h2 := vsmy_cnt h
    have h3 := vsmy_at h hk
    have h4 := vsmy_at h (show k < l.length by omega)
    simp only [g]
    rw [getD_r l hk, getD_r l (show k < l.length by omega)]
    omega
set_option maxHeartbeats 400000 in
theorem most_any (a b : Int) (w : World) : Calls Try.prog 64 #[.int .i64 a, .int .i64 b] w fun e w' => e = .returned (.int .i64 (max a b)) ∧ w = w' := by
  by_cases h : b < a
  · have HE := Lib.hid (show max a b = a by omega)
    go_enter Try.func64, Try.ntmps64
    go_wp2
    go_ret
    exact ⟨ret_int HE.out.symm, rfl⟩
  · have HE := Lib.hid (show max a b = b by omega)
    have h2 : a ≤ b := by omega
    go_enter Try.func64, Try.ntmps64
    go_wp2
    go_ret
    exact ⟨ret_int HE.out.symm, rfl⟩
set_option maxRecDepth 100000 in
set_option maxHeartbeats 2000000 in
theorem impl_any {cnt : Int} (A : Option Addr) (c : Nat) (l : List Rkv) (w : World) (hn : l.length ≤ 1048576) (hr : Rd w 3 A l.length (rkvs l)) :
    Calls Try.prog 24 #[.agg #[.int .i64 cnt, .slice A l.length c]] w fun e w' => e = .returned (.tuple #[.int .i64 (res cnt l), .bool (ok cnt l)]) ∧ Below w.heap.size w w' := by
  have HBX := Lib.hid (fun (o : Obj) => (Below.refl w.heap.size w).alloc (Nat.le_refl _) o)
  have HV := Lib.hid (fun o => smy.impl_any (cnt := cnt) A c l (w.alloc o) hn (hr.alloc o))
  cases hv : vsmy cnt l with
  | false =>
    have HR := Lib.hid (show res cnt l = 0 ∧ ok cnt l = false by simp [res, ok, hv])
    rw [hv] at HV
    clear hv
    go_enter Try.func24, Try.ntmps24
    go_wp2_with fail
    refine (HV.out _).mono ?_
    rintro e w1 ⟨rfl, hb1⟩
    have hb2 := below_box hb1
    go_wp2
    go_ret2
    exact ⟨by rw [HR.out.1, HR.out.2]; rfl, hb2⟩
  | true =>
    have HR := Lib.hid (show res cnt l = g l (l.length - 1) ∧ ok cnt l = true by simp [res, ok, hv])
    have HG := Lib.hid (fun k hk => g_bd hv k hk)
    have HA := Lib.hid (fun (k : Nat) (hk : k < l.length) => vsmy_at hv hk)
    have hc := vsmy_cnt hv
    rw [hv] at HV
    clear hv
    go_enter Try.func24, Try.ntmps24
    go_wp2_with fail
    refine (HV.out _).mono ?_
    rintro e w1 ⟨rfl, hb1⟩
    have hb2 := below_box hb1
    have hB := (Blk.new w 29 #[.int .i64 cnt, .slice A l.length c]).below hb1 (by simp)
    have hB0 : w1.cell? ⟨w.heap.size, 1, none⟩ = some (.slice A l.length c) := hB.cell 1
    obtain ⟨hc1, hc2, hc3, _⟩ := hc
    have HB1 := Lib.hid hB
    clear hB hb1
    go_wp2
    go_loopw [4, 5] (fun s i wr => ∃ k : Nat, (k + 1 ≤ l.length ∨ k = 0) ∧ i = .int .i64 ((k : Int) + 1) ∧ s = .int .i64 (g l k) ∧ Blk wr w.heap.size 29 #[.int .i64 cnt, .slice A l.length c] ∧ Below w.heap.size w wr) (fun _ i _ => l.length - (intOf i).toNat)
    case atStart => exact ⟨0, by omega, by go_num, rfl, HB1.out, hb2⟩
    case round =>
      obtain ⟨k, hk, rfl, rfl, hB, hb⟩ := hrel
      clear hB0
      have hrd := hr.below hb
      have hB0 : wr.cell? ⟨w.heap.size, 1, none⟩ = some (.slice A l.length c) := hB.cell 1
      have HB := Lib.hid hB
      clear hB
      by_cases hlt : k + 1 < l.length
      · obtain ⟨b, off, rfl, c0, c1, c2⟩ := hrd.rkv (show k < l.length by omega)
        obtain ⟨d0, d1, d2⟩ := hrd.rkv_at hlt
        have hg := HG.out k (by omega)
        have hx := HA.out k (by omega)
        have hy := HA.out (k + 1) hlt
        have HS := Lib.hid (show g l (k + 1) = max (g l k) (l[k + 1].most - l[k].least) by rw [g, getD_r l hlt, getD_r l (show k < l.length by omega)])
        clear c0 c2 d0 d1
        generalize l[k + 1].most = y at d2 HS hy
        generalize l[k].least = x at c1 HS hx
        generalize g l k = s at hg HS ⊢
        have q1 : (k : Int) + 1 < (l.length : Int) := by omega
        have q2 : ((k : Int) + 1).toNat = k + 1 := by omega
        have q3 : (0 : Int) ≤ (k : Int) + 1 := by omega
        have q4 : IntKind.i64.wrap (k : Int) = (k : Int) := IntWalk.i64_in _ (by omega)
        have q5 : IntKind.i64.wrap (y - x) = y - x := IntWalk.i64_in _ (by omega)
        have q6 : (k : Int) < (l.length : Int) := by omega
        go_wp2_with fail
        go_quiet (fail)
        go_wp2
        go_roundw
        case rel => exact ⟨k + 1, by omega, by go_num, (by rw [HS.out]; try first | rfl | go_num), HB.out.drewN _, below_drewN hb _⟩
        case measure => simp [intOf]; omega
      · have HE := Lib.hid (show g l k = g l (l.length - 1) by rw [show k = l.length - 1 by omega])
        go_wp2
        go_ret2
        exact ⟨(by rw [HR.out.1, HR.out.2, ← HE.out]; try rfl), hb⟩
set_option maxRecDepth 100000 in
set_option maxHeartbeats 2000000 in
theorem spec_any {cnt : Int} (A : Option Addr) (c : Nat) (l : List Rkv) (w : World) (hn : l.length ≤ 1048576) (hr : Rd w 3 A l.length (rkvs l)) :
    Calls Try.prog 29 #[.agg #[.int .i64 cnt, .slice A l.length c]] w fun e w' => e = .returned (.tuple #[.int .i64 (res cnt l), .bool (ok cnt l)]) ∧ Below w.heap.size w w' := by
  have HBX := Lib.hid (fun (o : Obj) => (Below.refl w.heap.size w).alloc (Nat.le_refl _) o)
  have HV := Lib.hid (fun o => smy.good_any (cnt := cnt) A c l (w.alloc o) hn (hr.alloc o))
  cases hv : vsmy cnt l with
  | false =>
    have HR := Lib.hid (show res cnt l = 0 ∧ ok cnt l = false by simp [res, ok, hv])
    rw [hv] at HV
    clear hv
    go_enter Try.func29, Try.ntmps29
    go_wp2_with fail
    refine (HV.out _).mono ?_
    rintro e w1 ⟨rfl, hb1⟩
    have hb2 := below_box hb1
    go_wp2
    go_ret2
    exact ⟨by rw [HR.out.1, HR.out.2]; rfl, hb2⟩
  | true =>
    have HR := Lib.hid (show res cnt l = g l (l.length - 1) ∧ ok cnt l = true by simp [res, ok, hv])
    have HG := Lib.hid (fun k hk => g_bd hv k hk)
    have HA := Lib.hid (fun (k : Nat) (hk : k < l.length) => vsmy_at hv hk)
    have hc := vsmy_cnt hv
    rw [hv] at HV
    clear hv
    go_enter Try.func29, Try.ntmps29
    go_wp2_with fail
    refine (HV.out _).mono ?_
    rintro e w1 ⟨rfl, hb1⟩
    have hb2 := below_box hb1
    have hB := (Blk.new w 29 #[.int .i64 cnt, .slice A l.length c]).below hb1 (by simp)
    have hB0 : w1.cell? ⟨w.heap.size, 1, none⟩ = some (.slice A l.length c) := hB.cell 1
    obtain ⟨hc1, hc2, hc3, _⟩ := hc
    have HB1 := Lib.hid hB
    clear hB hb1
    go_wp2
    go_loopw [4, 5] (fun s i wr => ∃ k : Nat, (k + 1 ≤ l.length ∨ k = 0) ∧ i = .int .i64 ((k : Int) + 1) ∧ s = .int .i64 (g l k) ∧ Blk wr w.heap.size 29 #[.int .i64 cnt, .slice A l.length c] ∧ Below w.heap.size w wr) (fun _ i _ => l.length - (intOf i).toNat)
    case atStart => exact ⟨0, by omega, by go_num, rfl, HB1.out, hb2⟩
    case round =>
      obtain ⟨k, hk, rfl, rfl, hB, hb⟩ := hrel
      clear hB0
      have hrd := hr.below hb
      have hB0 : wr.cell? ⟨w.heap.size, 1, none⟩ = some (.slice A l.length c) := hB.cell 1
      have HB := Lib.hid hB
      clear hB
      by_cases hlt : k + 1 < l.length
      · obtain ⟨b, off, rfl, c0, c1, c2⟩ := hrd.rkv (show k < l.length by omega)
        obtain ⟨d0, d1, d2⟩ := hrd.rkv_at hlt
        have hg := HG.out k (by omega)
        have hx := HA.out k (by omega)
        have hy := HA.out (k + 1) hlt
        have HS := Lib.hid (show g l (k + 1) = max (g l k) (l[k + 1].most - l[k].least) by rw [g, getD_r l hlt, getD_r l (show k < l.length by omega)])
        clear c0 c2 d0 d1
        generalize l[k + 1].most = y at d2 HS hy
        generalize l[k].least = x at c1 HS hx
        generalize g l k = s at hg HS ⊢
        have q1 : (k : Int) + 1 < (l.length : Int) := by omega
        have q2 : ((k : Int) + 1).toNat = k + 1 := by omega
        have q3 : (0 : Int) ≤ (k : Int) + 1 := by omega
        have q4 : IntKind.i64.wrap (k : Int) = (k : Int) := IntWalk.i64_in _ (by omega)
        have q5 : IntKind.i64.wrap (y - x) = y - x := IntWalk.i64_in _ (by omega)
        have q6 : (k : Int) < (l.length : Int) := by omega
        go_wp2_with fail
        go_quiet ((go_at_call 64; exact quiet_eq (most_any _ _ _)))
        go_wp2
        go_roundw
        case rel => exact ⟨k + 1, by omega, by go_num, (by rw [HS.out]; try first | rfl | go_num), HB.out.drewN _, below_drewN hb _⟩
        case measure => simp [intOf]; omega
      · have HE := Lib.hid (show g l k = g l (l.length - 1) by rw [show k = l.length - 1 by omega])
        go_wp2
        go_ret2
        exact ⟨(by rw [HR.out.1, HR.out.2, ← HE.out]; try rfl), hb⟩
end Go.Proofs.Ytlckeefjhafloaa.smyGap
