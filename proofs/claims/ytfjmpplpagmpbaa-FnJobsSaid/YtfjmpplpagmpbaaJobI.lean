/- ScheduleJobs, the program's. Condition: at most 2^20 times. -/
import Derived.Test.YtfjmpplpagmpbaaJobMore
import Derived.Test.YtfjmpplpagmpbaaStbIx
import Derived.Test.YtfjmpplpagmpbaaCmpI
import Derived.Test.YtfjmpplpagmpbaaAllInt
import Derived.Test.YtfjmpplpagmpbaaIn
import Derived.Deep.LoopGhost
import Derived.Deep.RegionLaw
import Derived.Deep.DeepCutAuto
import Derived.Deep.CutBlock
import Derived.Deep.RegionHeld3
set_option linter.unusedVariables false
set_option linter.unusedSimpArgs false
namespace Go.Proofs.Ytfjmpplpagmpbaa.jobLaw
open Go.RowKit Go.Proofs.Ytfjmpplpagmpbaa.mem Go.Proofs.Ytfjmpplpagmpbaa.stb Go.Proofs.Ytfjmpplpagmpbaa.cmpI
open Go.Proofs.Ytfjmpplpagmpbaa.ins (inB inB_iff)

theorem okJ_form (ts : List Int) (k : Int) : okJ ts k = (decide (ts.length ≤ 64) && (ts.all (fun t => inB t 1 100000) && inB k 1 16)) := rfl
/-- the indices in their order, as the row holds them -/
def ixl (n : Nat) : List (Ix n) := List.ofFn fun i : Fin n => (⟨(i.val : Int), by omega⟩ : Ix n)
theorem ixl_len (n : Nat) : (ixl n).length = n := by simp [ixl]
def nats (l : List Nat) : List Int := l.map fun (i : Nat) => (i : Int)
theorem nats_len (l : List Nat) : (nats l).length = l.length := List.length_map _
theorem ixs_ixl (n : Nat) : ixs (ixl n) = ints (nats (List.range n)) := by
  apply List.ext_getElem
  · simp [ixs, ixl, ints, nats]
  · intro i h1 h2
    simp [ixs, ixl, ints, nats]
def ltX (ts : List Int) {N : Nat} (x y : Ix N) : Bool := ltJ ts x.v.toNat y.v.toNat
theorem weakX (ts : List Int) (N : Nat) : Weak (ltX ts (N := N)) := weak_down (fun x : Ix N => tm ts x.v.toNat)
theorem ixs_ord (ts : List Int) : ixs (stab (ltX ts) (ixl ts.length)) = ints (nats (ord ts)) := by
  have h := stab_map (lt := ltX ts (N := ts.length)) (lt' := ltJ ts) (fun x => x.v.toNat) (fun x y => rfl) (ixl ts.length)
  have e : (ixl ts.length).map (fun x => x.v.toNat) = List.range ts.length := by
    apply List.ext_getElem
    · simp [ixl]
    · intro i h1 h2
      simp [ixl]
  rw [e] at h
  rw [ord, h]
  apply List.ext_getElem
  · simp [ixs, ints, nats]
  · intro i h1 h2
    simp only [ixs, ints, nats, List.getElem_map]
    have := ((stab (ltX ts) (ixl ts.length))[i]'(by simpa [ixs] using h1)).ok
    congr 1; omega
def cfX (ts : List Int) {N : Nat} (x y : Ix N) : Int := cmpI (tm ts y.v.toNat) (tm ts x.v.toNat)
theorem cfX_neg (ts : List Int) {N : Nat} (x y : Ix N) : decide (cfX ts x y < 0) = ltX ts x y := cmpI_neg _ _

set_option maxHeartbeats 400000 in
theorem time_clo (t : Int) (w : World) : Calls Try.prog 67 #[.int .i64 t] w fun e w' => e = .returned (.bool (inB t 1 100000)) ∧ Below w.heap.size w w' := by
  go_enter Try.func67, Try.ntmps67
  go_wp2_with fail
  refine (ins.impl_any _ _ _ _).mono ?_
  rintro e w1 ⟨rfl, rfl⟩
  go_wp2
  go_ret
  exact ⟨rfl, Below.refl _ _⟩
set_option maxRecDepth 100000 in
set_option maxHeartbeats 1000000 in
theorem cmp_clo (ts : List Int) (A : Option Addr) (c g0 : Nat) (x y : Ix ts.length) (w : World) (hn : ts.length ≤ 1048576) (hc : w.cell? ⟨g0, 0, none⟩ = some (.slice A ts.length c)) (hr : Rd w 1 A ts.length (ints ts)) :
    Calls Try.prog 69 #[.int .i64 x.v, .int .i64 y.v, .pointer (some ⟨g0, 0, none⟩)] w fun e w' => e = .returned (.int .i64 (cfX ts x y)) ∧ Below w.heap.size w w' := by
  obtain ⟨x, hx0, hx1⟩ := x
  obtain ⟨y, hy0, hy1⟩ := y
  obtain ⟨i, rfl⟩ : ∃ i : Nat, x = (i : Int) := ⟨x.toNat, by omega⟩
  obtain ⟨k, rfl⟩ : ∃ k : Nat, y = (k : Int) := ⟨y.toNat, by omega⟩
  have hi : i < ts.length := by omega
  have hk : k < ts.length := by omega
  have HE := Lib.hid (show cfX ts (⟨(i : Int), hx0, hx1⟩ : Ix ts.length) ⟨(k : Int), hy0, hy1⟩ = cmpI ts[k] ts[i] by simp [cfX, tm, hi, hk])
  rw [HE.out]
  clear HE
  obtain ⟨b, off, rfl, ca⟩ := hr.int (k := i) hi
  obtain ⟨b', off', he, cb⟩ := hr.int (k := k) hk
  injection he with he
  injection he with he1 he2
  subst he1; subst he2
  generalize ts[i] = a at ca
  generalize ts[k] = bb at cb
  have q1 : (i : Int) < (ts.length : Int) := by omega
  have q2 : (k : Int) < (ts.length : Int) := by omega
  have HC := Lib.hid (fun W => compare_any bb a W)
  go_enter Try.func69, Try.ntmps69
  go_wp2_with fail
  first
  | (refine (HC.out _).mono ?_
     rintro e w1 ⟨rfl, rfl⟩
     go_wp2
     go_ret
     exact ⟨rfl, Below.refl _ _⟩)
  | (go_quiet ((go_at_call 70; exact quiet_eq (HC.out _)))
     have hb2 := below_drewN (Below.refl w.heap.size w) nq
     go_wp2
     go_ret
     exact ⟨rfl, hb2⟩)
/-! ### rows of fixed length -/
theorem blk_int {w : World} {g : Nat} {l : List Int} (h : Blk w g 3 (ints l).toArray) {i : Nat} (hi : i < l.length) : w.cell? ⟨g, i, none⟩ = some (.int .i64 (l.getD i 0)) := by
  rw [h.cell, List.getElem?_toArray, ints_getD l i hi]
theorem blk_set {w : World} {g : Nat} {l : List Int} (h : Blk w g 3 (ints l).toArray) (i : Nat) (z : Int) : Blk (w.setCell ⟨g, i, none⟩ (.int .i64 z)) g 3 (ints (l.set i z)).toArray := by
  have := h.put i (.int .i64 z)
  rwa [List.setIfInBounds_toArray, ints_set] at this
theorem blk_rep (n : Nat) : rep n (.int .i64 0) = (ints (List.replicate n 0)).toArray := by simp [rep, ints]
theorem blk_own {w : World} {g base n : Nat} {l : List Int} (h : Blk w g 3 (ints l).toArray) (hb : base ≤ g) (hl : l.length = n) (hn : n ≤ maxLen) : w.ownsRow base 3 1 (.slice (some ⟨g, 0, none⟩) n n) n (ints l) := by
  have := h.own (base := base) (size := 1) (n := n) (c := n) hb (Nat.le_refl _) hn (by simp [len_ints, hl])
  rwa [List.take_of_length_le (by simp [len_ints, hl])] at this
theorem max2_int (P : Program) (w : World) (a b : Int) : (Builtin.max2 (.int .i64 a) (.int .i64 b)).run P w = .ok (.int .i64 (max a b)) w := by
  simp only [Builtin.max2, Sem.run_pure]
  congr 2
  by_cases h : b > a
  · rw [if_pos h]; omega
  · rw [if_neg h]; omega
theorem run_max2 (P : Program) (w : World) (ts : Array TypeId) (t : TypeId) (a b : Int) : (Builtin.max_ ts t #[.int .i64 a, .int .i64 b]).run P w = .ok (.int .i64 (max a b)) w := by
  simp only [Builtin.max_, List.foldlM_cons, List.foldlM_nil, Sem.run_bind, max2_int, Result.andThen_ok, Sem.run_pure]
theorem mx_take (l : List Int) {k : Nat} (h : k < l.length) : mx (l.take (k + 1)) = max (mx (l.take k)) l[k] := by
  rw [mx, List.take_succ_eq_append_getElem h, List.foldl_append]; rfl
set_option maxRecDepth 100000 in
set_option maxHeartbeats 1000000 in
theorem max_any (A : Option Addr) (c : Nat) (l : List Int) (w : World) (hp : ∀ z ∈ l, 0 ≤ z) (hl : 0 < l.length) (hn : l.length ≤ 1048576) (hr : Rd w 1 A l.length (ints l)) :
    Calls Try.prog 71 #[.slice A l.length c] w fun e w' => e = .returned (.int .i64 (mx l)) ∧ w = w' := by
  obtain ⟨b0, o0, rfl, h0⟩ := hr.int (k := 0) hl
  have H1 := Lib.hid (show l[0] = mx (l.take 1) by
    have := mx_take l hl
    have h2 := hp _ (List.getElem_mem hl)
    rw [this]
    show _ = max 0 _
    omega)
  generalize l[0] = x0 at h0 H1
  rw [Nat.add_zero] at h0
  have q0 : ¬ (l.length : Int) < 1 := by omega
  have q00 : (0 : Int) < (l.length : Int) := by omega
  go_enter Try.func71, Try.ntmps71
  go_wp2
  go_loopg [3, 4] (l.length + 1) (fun f m i wr => ∃ k : Nat, l.length < k + f ∧ k ≤ l.length ∧ 0 < k ∧ i = .int .i64 (k : Int) ∧ m = .int .i64 (mx (l.take k)) ∧ w = wr)
  case atStart => exact ⟨1, by omega, by omega, by omega, rfl, by rw [← H1.out], rfl⟩
  case round =>
    obtain ⟨k, hkf, hk, hk0, rfl, rfl, rfl⟩ := hrel
    by_cases hlt : k < l.length
    · have hc := hr.int_at (k := k) hlt
      have HM := Lib.hid (mx_take l hlt)
      generalize l[k] = x at hc HM
      have q1 : (k : Int) < (l.length : Int) := by omega
      obtain ⟨m0, hm0⟩ : ∃ m0, m0 = mx (l.take k) := ⟨_, rfl⟩
      rw [← hm0] at HM
      rw [← hm0]
      clear hm0
      have hmx := fun (W : World) (ts : Array TypeId) (ty : TypeId) => run_max2 Try.prog W ts ty m0 x
      go_wp2
      go_roundg (gk - 1)
      case measure => omega
      case rel => exact ⟨k + 1, by omega, by omega, by omega, by go_num, by rw [HM.out], rfl⟩
    · obtain rfl : k = l.length := by omega
      have HE := Lib.hid (show mx (l.take l.length) = mx l by rw [List.take_length])
      go_wp2
      go_ret
      exact ⟨ret_int HE.out, rfl⟩
theorem two_blks (w : World) (t : TypeId) (c1 c2 : Array Value) :
    Blk ((w.alloc (.cells c1 t)).alloc (.cells c2 t)) w.heap.size t c1 ∧ Blk ((w.alloc (.cells c1 t)).alloc (.cells c2 t)) (w.heap.size + 1) t c2 ∧ Below w.heap.size w ((w.alloc (.cells c1 t)).alloc (.cells c2 t)) := box2 w t t c1 c2
/-- where the two rows stand -/
def Two (w0 wx : World) (n q : Nat) (o l : Value) : Prop := ∃ go gl, o = .slice (some ⟨go, 0, none⟩) n n ∧ l = .slice (some ⟨gl, 0, none⟩) q q ∧ go ≠ gl ∧ w0.heap.size ≤ go ∧ w0.heap.size ≤ gl ∧ go < wx.heap.size ∧ gl < wx.heap.size ∧
  Blk wx go 3 (ints (List.replicate n 0)).toArray ∧ Blk wx gl 3 (ints (List.replicate q 0)).toArray ∧ Below w0.heap.size w0 wx
theorem two_a (w : World) (n q : Nat) : Two w ((w.alloc (.cells (rep n (.int .i64 0)) 3)).alloc (.cells (rep q (.int .i64 0)) 3)).drew n q (.slice (some ⟨w.heap.size, 0, none⟩) n n) (.slice (some ⟨w.heap.size + 1, 0, none⟩) q q) := by
  obtain ⟨h1, h2, h3⟩ := two_blks w 3 (rep n (.int .i64 0)) (rep q (.int .i64 0))
  rw [blk_rep, blk_rep] at h1 h2 h3
  rw [blk_rep, blk_rep]
  exact ⟨_, _, rfl, rfl, by omega, Nat.le_refl _, by omega, h1.lt, h2.lt, h1, h2, ⟨h3.os, h3.tape, h3.output, h3.size, h3.block⟩⟩
theorem two_b (w : World) (n q : Nat) : Two w ((w.alloc (.cells (rep q (.int .i64 0)) 3)).alloc (.cells (rep n (.int .i64 0)) 3)).drew n q (.slice (some ⟨w.heap.size + 1, 0, none⟩) n n) (.slice (some ⟨w.heap.size, 0, none⟩) q q) := by
  obtain ⟨h1, h2, h3⟩ := two_blks w 3 (rep q (.int .i64 0)) (rep n (.int .i64 0))
  rw [blk_rep, blk_rep] at h1 h2 h3
  rw [blk_rep, blk_rep]
  exact ⟨_, _, rfl, rfl, by omega, by omega, Nat.le_refl _, h2.lt, h1.lt, h2, h1, ⟨h3.os, h3.tape, h3.output, h3.size, h3.block⟩⟩
theorem am_step (l : List Int) (k : Nat) : am l (k + 1) = if l.getD k 0 < l.getD (am l k) 0 then k else am l k := rfl
end Go.Proofs.Ytfjmpplpagmpbaa.jobLaw
