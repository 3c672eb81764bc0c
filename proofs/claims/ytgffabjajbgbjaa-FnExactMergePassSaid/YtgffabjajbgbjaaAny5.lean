/- A statement that builds a struct of three new rows in an order that is left open: two copies, a row of zeros, a variable. Condition: at most 1024 elements. -/
import Derived.Test.YtgffabjajbgbjaaAny6
import Derived.Test.YtgffabjajbgbjaaBls
set_option linter.unusedVariables false
set_option linter.unusedSimpArgs false
namespace Go.Proofs.Ytgffabjajbgbjaa.any5
open Go.RowKit Go.Proofs.Ytgffabjajbgbjaa.mem Go.Proofs.Ytgffabjajbgbjaa.any6

def Apt (v u : Value) : Prop := v.ownBlock = none ∨ v.ownBlock ≠ u.ownBlock
theorem Apt.symm {v u : Value} (h : Apt v u) : Apt u v := sep_symm h
theorem all_of {ops : Array Oper} {n : Nat} (h : ∀ i, i < n → ∃ d op js, Is ops i d op js) {L : Array Bool} (hL : L.size = n) (hr : Region.ready .any ops L = []) : ∀ i, i < n → L.getD i false = true := by
  intro i
  induction i using Nat.strongRecOn with
  | _ i ih =>
    intro hi
    obtain ⟨d, op, js, hI⟩ := h i hi
    obtain ⟨o, ho, _, _, _, _, he⟩ := hI.at'
    cases hg : L.getD i false with
    | true => rfl
    | false =>
      exfalso
      have hm : i ∈ Region.ready .any ops L := by
        rw [mem_ready]
        refine ⟨?_, o, ho, fun e hee hb => ?_⟩
        · have hil : i < L.size := by omega
          simp [hil] at hg ⊢
          exact hg
        · have h1 := Array.all_eq_true_iff_forall_mem.1 he e hee
          simp only [hb, Bool.not_true, Bool.false_or, decide_eq_true_eq] at h1
          exact ih e.on h1 (by omega)
      rw [hr] at hm
      cases hm
structure Reg (ops : Array Oper) (tI tB tS : TypeId) (f : FuncId) : Prop where
  size : ops.size = 10
  o0 : Is ops 0 (some 13) (.move (.tmp 0)) []
  o1 : Is ops 1 (some 14) (.call { callee := .value (.func f), args := #[.tmp 13], argTypes := #[tI] }) [0]
  o2 : Is ops 2 (some 15) (.buildSlice tB 0 #[]) []
  o3 : Is ops 3 (some 16) (.move (.tmp 1)) []
  o4 : Is ops 4 (some 17) (.call { callee := .builtin .append, args := #[.tmp 15, .tmp 16], argTypes := #[tB, tB] }) [1, 2, 3]
  o5 : Is ops 5 (some 18) (.move (.tmp 5)) []
  o6 : Is ops 6 (some 19) (.makeSlice tI (.tmp 18) (.tmp 18)) [5]
  o7 : Is ops 7 (some 20) (.build tS #[(0, .tmp 14), (1, .tmp 17), (2, .tmp 19)]) [1, 4, 6]
  o8 : Is ops 8 (some 6) (.alloc tS) []
  o9 : Is ops 9 none (.store tS (.tmp 6) (.tmp 20)) [8, 7]
def zero4 : Array Value := #[.slice none 0 0, .slice none 0 0, .slice none 0 0, .int .i64 0]
structure Runs (P : Program) (tI tB tS eI eB : TypeId) (f : FuncId) (k : Nat) (w0 : World) (argK : Value) (Ad : Option Addr) (cd : Nat) (ks : List Int) (ds : List Bool) : Prop where
  call : ∀ w, Below w0.heap.size w0 w → Calls P f #[argK] w fun e w' => ∃ v, e = .returned v ∧ w'.ownsRow w.heap.size eI 1 v k (ints ks) ∧ Below w.heap.size w w'
  ent : ∀ (vs : Array Value) (W : World), (callFunc f vs).run P W = .ok (.enter f vs) W
  bs : ∀ w, (Instr.buildSlice tB 0 #[]).run P w = .ok (.slice (some ⟨w.heap.size, 0, none⟩) 0 0) (w.alloc (.cells #[] eB))
  undB : P.underlying tB = some (.slice eB)
  infB : (P.info? eB).map (fun i => (i.zero, i.size, i.bytes)) = some (some (.bool false), 1, 1)
  rdD : Rd w0 1 Ad k (bools ds)
  mks : ∀ w, (Instr.makeSlice tI (.int .i64 (k : Int)) (.int .i64 (k : Int))).run P w = .ok (.slice (some ⟨w.heap.size, 0, none⟩) k k) (w.alloc (.cells (rep k (.int .i64 0)) eI))
  bd : ∀ w (A1 A2 A3 : Option Addr) (m1 m2 m3 c1 c2 c3 : Nat), (Instr.build tS #[(0, .slice A1 m1 c1), (1, .slice A2 m2 c2), (2, .slice A3 m3 c3)]).run P w = .ok (.agg #[.slice A1 m1 c1, .slice A2 m2 c2, .slice A3 m3 c3, .int .i64 0]) w
  al : ∀ w, (Instr.alloc tS true (.tuple #[])).run P w = .ok (.pointer (some ⟨w.heap.size, 0, none⟩)) (w.alloc (.cells zero4 tS))
  st : ∀ w g (A1 A2 A3 : Option Addr) (m1 m2 m3 c1 c2 c3 : Nat), Blk w g tS zero4 → (Instr.storeAt tS (.pointer (some ⟨g, 0, none⟩)) (.agg #[.slice A1 m1 c1, .slice A2 m2 c2, .slice A3 m3 c3, .int .i64 0])).run P w =
    .ok () ((((w.setCell ⟨g, 0, none⟩ (.slice A1 m1 c1)).setCell ⟨g, 1, none⟩ (.slice A2 m2 c2)).setCell ⟨g, 2, none⟩ (.slice A3 m3 c3)).setCell ⟨g, 3, none⟩ (.int .i64 0))
  kle : k ≤ 1024

section
variable (w0 : World) (tS eI eB : TypeId) (k : Nat) (ks : List Int) (ds : List Bool)
/-- what lies in memory, by what has come up -/
structure M5 (b1 b2 b4 b6 b8 b9 : Bool) (v1 vd v6 : Value) (n8 : Nat) (w : World) : Prop where
  bel : Below w0.heap.size w0 w
  r1 : b1 = true → w.ownsRow w0.heap.size eI 1 v1 k (ints ks)
  rd : b2 = true → w.ownsRow w0.heap.size eB 1 vd (if b4 = true then k else 0) (if b4 = true then bools ds else [])
  r6 : b6 = true → w.ownsRow w0.heap.size eI 1 v6 k (ints (List.replicate k 0))
  r8 : b8 = true → w0.heap.size ≤ n8 ∧ Blk w n8 tS (if b9 = true then #[v1, vd, v6, .int .i64 0] else zero4)
  p12 : b1 = true → b2 = true → Apt v1 vd
  p16 : b1 = true → b6 = true → Apt v1 v6
  p26 : b2 = true → b6 = true → Apt vd v6
  q1 : b1 = true → b8 = true → v1.ownBlock ≠ some n8
  q2 : b2 = true → b8 = true → vd.ownBlock ≠ some n8
  q6 : b6 = true → b8 = true → v6.ownBlock ≠ some n8
variable {w0 tS eI eB k ks ds}
section
variable {b1 b2 b4 b6 b8 b9 : Bool} {v1 vd v6 : Value} {n8 : Nat} {w w' : World}
theorem M5.below (h : M5 w0 tS eI eB k ks ds b1 b2 b4 b6 b8 b9 v1 vd v6 n8 w) (hb : Below w.heap.size w w') : M5 w0 tS eI eB k ks ds b1 b2 b4 b6 b8 b9 v1 vd v6 n8 w' :=
  ⟨below_at h.bel h.bel.size hb, fun e => own_below (h.r1 e) hb, fun e => own_below (h.rd e) hb, fun e => own_below (h.r6 e) hb, fun e => ⟨(h.r8 e).1, (h.r8 e).2.below hb (h.r8 e).2.lt⟩, h.p12, h.p16, h.p26, h.q1, h.q2, h.q6⟩
theorem ne_of {x : Value} {n : Nat} (hx : ∀ g, x.ownBlock = some g → w.heap.size ≤ g) (hn : n < w.heap.size) : x.ownBlock ≠ some n := fun e => by have := hx n e; omega
theorem M5.call (h : M5 w0 tS eI eB k ks ds false b2 b4 b6 b8 false v1 vd v6 n8 w) {x : Value} (hb : Below w.heap.size w w') (ho : w'.ownsRow w.heap.size eI 1 x k (ints ks)) : M5 w0 tS eI eB k ks ds true b2 b4 b6 b8 false x vd v6 n8 w' := by
  have h' := h.below hb
  exact ⟨h'.bel, fun _ => own_base ho h.bel.size, h'.rd, h'.r6, h'.r8, fun _ e => apt_above (own_ge ho) (own_lt (h.rd e)), fun _ e => apt_above (own_ge ho) (own_lt (h.r6 e)), h.p26, fun _ e => ne_of (own_ge ho) (h.r8 e).2.lt, h.q2, h.q6⟩
theorem M5.built (h : M5 w0 tS eI eB k ks ds b1 false false b6 b8 false v1 vd v6 n8 w) : M5 w0 tS eI eB k ks ds b1 true false b6 b8 false v1 (.slice (some ⟨w.heap.size, 0, none⟩) 0 0) v6 n8 (w.alloc (.cells #[] eB)) := by
  have hb := (Below.refl w.heap.size w).alloc (Nat.le_refl _) (.cells #[] eB)
  have h' := h.below hb
  have ho := World.ownsRow_made (e := eB) (size := 1) w #[] 0 (Nat.le_refl _) (Nat.zero_le _) (by simp)
  exact ⟨h'.bel, h'.r1, fun _ => own_base ho h.bel.size, h'.r6, h'.r8, fun e _ => (apt_symm (apt_above (own_ge ho) (own_lt (h.r1 e)))), h.p16, fun _ e => apt_above (own_ge ho) (own_lt (h.r6 e)), h.q1, fun _ e => ne_of (own_ge ho) (h.r8 e).2.lt, h.q6⟩
theorem rep_zeros (n : Nat) : rep n (.int .i64 0) = (ints (List.replicate n 0)).toArray := by simp [rep, ints]
theorem M5.made (h : M5 w0 tS eI eB k ks ds b1 b2 b4 false b8 false v1 vd v6 n8 w) (hk : k ≤ 1024) : M5 w0 tS eI eB k ks ds b1 b2 b4 true b8 false v1 vd (.slice (some ⟨w.heap.size, 0, none⟩) k k) n8 (w.alloc (.cells (rep k (.int .i64 0)) eI)) := by
  have hb := (Below.refl w.heap.size w).alloc (Nat.le_refl _) (.cells (rep k (.int .i64 0)) eI)
  have h' := h.below hb
  have ho : (w.alloc (.cells (rep k (.int .i64 0)) eI)).ownsRow w.heap.size eI 1 (.slice (some ⟨w.heap.size, 0, none⟩) k k) k (ints (List.replicate k 0)) := by
    have := (Blk.new w eI (rep k (.int .i64 0))).own (base := w.heap.size) (size := 1) (n := k) (c := k) (Nat.le_refl _) (Nat.le_refl _) (by unfold maxLen; omega) (by simp [rep])
    simpa [ints, rep] using this
  exact ⟨h'.bel, h'.r1, h'.rd, fun _ => own_base ho h.bel.size, h'.r8, h.p12, fun e _ => apt_symm (apt_above (own_ge ho) (own_lt (h.r1 e))), fun e _ => apt_symm (apt_above (own_ge ho) (own_lt (h.rd e))), h.q1, h.q2, fun _ e => ne_of (own_ge ho) (h.r8 e).2.lt⟩
theorem M5.allocd (h : M5 w0 tS eI eB k ks ds b1 b2 b4 b6 false false v1 vd v6 n8 w) : M5 w0 tS eI eB k ks ds b1 b2 b4 b6 true false v1 vd v6 w.heap.size (w.alloc (.cells zero4 tS)) := by
  have hb := (Below.refl w.heap.size w).alloc (Nat.le_refl _) (.cells zero4 tS)
  have h' := h.below hb
  have far : ∀ {x : Value}, (∀ g, x.ownBlock = some g → g < w.heap.size) → x.ownBlock ≠ some w.heap.size := fun hx e => by have := hx _ e; omega
  exact ⟨h'.bel, h'.r1, h'.rd, h'.r6, fun _ => ⟨h.bel.size, Blk.new _ _ _⟩, h.p12, h.p16, h.p26, fun e _ => far (own_lt (h.r1 e)), fun e _ => far (own_lt (h.rd e)), fun e _ => far (own_lt (h.r6 e))⟩
theorem M5.app (h : M5 w0 tS eI eB k ks ds b1 true false b6 b8 false v1 vd v6 n8 w) {x : Value} (hg : w.grownBy w' vd.ownBlock) (hn : NewAt w vd x) (ho : w'.ownsRow w0.heap.size eB 1 x k (bools ds)) : M5 w0 tS eI eB k ks ds b1 true true b6 b8 false v1 x v6 n8 w' := by
  have hb := below_push h.bel h.bel.size hg (h.rd rfl)
  refine ⟨hb, fun e => (h.r1 e).kept hg (h.p12 e rfl), fun _ => ho, fun e => (h.r6 e).kept hg (apt_symm (h.p26 rfl e)), fun e => ⟨(h.r8 e).1, (h.r8 e).2.grown hg (fun e2 => h.q2 rfl e e2.symm)⟩, fun e _ => apt_symm (apt_new (apt_symm (h.p12 e rfl)) hn (own_lt (h.r1 e))), h.p16, fun _ e => apt_new (h.p26 rfl e) hn (own_lt (h.r6 e)), h.q1, fun _ e e2 => ?_, h.q6⟩
  rcases hn _ e2 with h1 | h1
  · exact h.q2 rfl e h1
  · have := (h.r8 e).2.lt; omega
theorem M5.stored (h : M5 w0 tS eI eB k ks ds true true true true true false v1 vd v6 n8 w) : M5 w0 tS eI eB k ks ds true true true true true true v1 vd v6 n8 ((((w.setCell ⟨n8, 0, none⟩ v1).setCell ⟨n8, 1, none⟩ vd).setCell ⟨n8, 2, none⟩ v6).setCell ⟨n8, 3, none⟩ (.int .i64 0)) := by
  have hn := (h.r8 rfl).1
  have kp : ∀ {e : TypeId} {sz n : Nat} {v : Value} {xs : List Value}, w.ownsRow w0.heap.size e sz v n xs → v.ownBlock ≠ some n8 → ((((w.setCell ⟨n8, 0, none⟩ v1).setCell ⟨n8, 1, none⟩ vd).setCell ⟨n8, 2, none⟩ v6).setCell ⟨n8, 3, none⟩ (.int .i64 0)).ownsRow w0.heap.size e sz v n xs := fun ho hne =>
    own_far (own_far (own_far (own_far ho (p := ⟨n8, 0, none⟩) hne _) (p := ⟨n8, 1, none⟩) hne _) (p := ⟨n8, 2, none⟩) hne _) (p := ⟨n8, 3, none⟩) hne _
  exact ⟨(((h.bel.setCell (p := ⟨n8, 0, none⟩) hn _).setCell (p := ⟨n8, 1, none⟩) hn _).setCell (p := ⟨n8, 2, none⟩) hn _).setCell (p := ⟨n8, 3, none⟩) hn _, fun _ => kp (h.r1 rfl) (h.q1 rfl rfl), fun _ => kp (h.rd rfl) (h.q2 rfl rfl), fun _ => kp (h.r6 rfl) (h.q6 rfl rfl),
    fun _ => ⟨hn, (((((h.r8 rfl).2).put 0 v1).put 1 vd).put 2 v6).put 3 (.int .i64 0)⟩, h.p12, h.p16, h.p26, h.q1, h.q2, h.q6⟩
end
end
theorem put_at {a : Act} {s : Nat} (v : Value) (h : s < a.tmps.size) : (a.put (some s) v).tmps[s]? = some v := by simp [Act.put, h]
theorem put_ne (a : Act) {s j : Nat} (v : Value) (h : s ≠ j) : (a.put (some s) v).tmps[j]? = a.tmps[j]? := by simp [Act.put, Array.getElem?_setIfInBounds_ne h]
theorem ev_of {a : Act} {s : Nat} {v : Value} (h : a.tmps[s]? = some v) : a.eval (.tmp s) = v := by simp [Act.eval, h]
def slots : List Nat := [13, 14, 15, 16, 17, 18, 19, 20, 6]
section
variable (a0 : Act) (argK argD : Value) (k : Nat)
/-- the frame, by what has come up -/
structure Fr (b0 b1 b2 b3 b4 b5 b6 b7 b8 : Bool) (v1 vd v6 : Value) (n8 : Nat) (a : Act) : Prop where
  dfr : a.defers = a0.defers
  tsz : a.tmps.size = a0.tmps.size
  keep : ∀ j, j ∉ slots → a.tmps[j]? = a0.tmps[j]?
  s0 : b0 = true → a.tmps[13]? = some argK
  s1 : b1 = true → a.tmps[14]? = some v1
  s2 : b2 = true → b4 = false → a.tmps[15]? = some vd
  s3 : b3 = true → a.tmps[16]? = some argD
  s4 : b4 = true → a.tmps[17]? = some vd
  s5 : b5 = true → a.tmps[18]? = some (.int .i64 (k : Int))
  s6 : b6 = true → a.tmps[19]? = some v6
  s7 : b7 = true → a.tmps[20]? = some (.agg #[v1, vd, v6, .int .i64 0])
  s8 : b8 = true → a.tmps[6]? = some (.pointer (some ⟨n8, 0, none⟩))
  d4 : b4 = true → b1 = true ∧ b2 = true
  d7 : b7 = true → b1 = true ∧ b4 = true ∧ b6 = true
variable {a0 argK argD k}
variable {b0 b1 b2 b3 b4 b5 b6 b7 b8 : Bool} {v1 vd v6 : Value} {n8 : Nat} {a : Act}
theorem Fr.ks (h : Fr a0 argK argD k b0 b1 b2 b3 b4 b5 b6 b7 b8 v1 vd v6 n8 a) {s : Nat} (hs : s ∈ slots) (v : Value) : ∀ j, j ∉ slots → (a.put (some s) v).tmps[j]? = a0.tmps[j]? := fun j hj => by
  rw [put_ne a v (fun e : s = j => hj (by rw [← e]; exact hs))]; exact h.keep j hj
theorem Fr.op0 (h : Fr a0 argK argD k false b1 b2 b3 b4 b5 b6 b7 b8 v1 vd v6 n8 a) (x8 : Nat) (hz : 13 < a0.tmps.size) : Fr a0 argK argD k true b1 b2 b3 b4 b5 b6 b7 b8 v1 vd v6 n8 (a.put (some 13) argK) := by
  have hz' : 13 < a.tmps.size := by rw [h.tsz]; exact hz
  refine ⟨h.dfr, by simp [Act.put, h.tsz], h.ks (by decide) _, fun e => ?_, fun e => ?_, fun e e2 => ?_, fun e => ?_, fun e => ?_, fun e => ?_, fun e => ?_, fun e => ?_, fun e => ?_, h.d4, h.d7⟩
  · first | exact put_at _ hz' | (rw [put_ne a _ (by decide)]; exact h.s0 e)
  · first | exact put_at _ hz' | (rw [put_ne a _ (by decide)]; exact h.s1 e)
  · first | exact put_at _ hz' | (rw [put_ne a _ (by decide)]; exact h.s2 e e2)
  · first | exact put_at _ hz' | (rw [put_ne a _ (by decide)]; exact h.s3 e)
  · first | exact put_at _ hz' | (rw [put_ne a _ (by decide)]; exact h.s4 e)
  · first | exact put_at _ hz' | (rw [put_ne a _ (by decide)]; exact h.s5 e)
  · first | exact put_at _ hz' | (rw [put_ne a _ (by decide)]; exact h.s6 e)
  · first | exact put_at _ hz' | (rw [put_ne a _ (by decide)]; exact h.s7 e)
  · first | exact put_at _ hz' | (rw [put_ne a _ (by decide)]; exact h.s8 e)
theorem Fr.op3 (h : Fr a0 argK argD k b0 b1 b2 false b4 b5 b6 b7 b8 v1 vd v6 n8 a) (x8 : Nat) (hz : 16 < a0.tmps.size) : Fr a0 argK argD k b0 b1 b2 true b4 b5 b6 b7 b8 v1 vd v6 n8 (a.put (some 16) argD) := by
  have hz' : 16 < a.tmps.size := by rw [h.tsz]; exact hz
  refine ⟨h.dfr, by simp [Act.put, h.tsz], h.ks (by decide) _, fun e => ?_, fun e => ?_, fun e e2 => ?_, fun e => ?_, fun e => ?_, fun e => ?_, fun e => ?_, fun e => ?_, fun e => ?_, h.d4, h.d7⟩
  · first | exact put_at _ hz' | (rw [put_ne a _ (by decide)]; exact h.s0 e)
  · first | exact put_at _ hz' | (rw [put_ne a _ (by decide)]; exact h.s1 e)
  · first | exact put_at _ hz' | (rw [put_ne a _ (by decide)]; exact h.s2 e e2)
  · first | exact put_at _ hz' | (rw [put_ne a _ (by decide)]; exact h.s3 e)
  · first | exact put_at _ hz' | (rw [put_ne a _ (by decide)]; exact h.s4 e)
  · first | exact put_at _ hz' | (rw [put_ne a _ (by decide)]; exact h.s5 e)
  · first | exact put_at _ hz' | (rw [put_ne a _ (by decide)]; exact h.s6 e)
  · first | exact put_at _ hz' | (rw [put_ne a _ (by decide)]; exact h.s7 e)
  · first | exact put_at _ hz' | (rw [put_ne a _ (by decide)]; exact h.s8 e)
theorem Fr.op5 (h : Fr a0 argK argD k b0 b1 b2 b3 b4 false b6 b7 b8 v1 vd v6 n8 a) (x8 : Nat) (hz : 18 < a0.tmps.size) : Fr a0 argK argD k b0 b1 b2 b3 b4 true b6 b7 b8 v1 vd v6 n8 (a.put (some 18) (.int .i64 (k : Int))) := by
  have hz' : 18 < a.tmps.size := by rw [h.tsz]; exact hz
  refine ⟨h.dfr, by simp [Act.put, h.tsz], h.ks (by decide) _, fun e => ?_, fun e => ?_, fun e e2 => ?_, fun e => ?_, fun e => ?_, fun e => ?_, fun e => ?_, fun e => ?_, fun e => ?_, h.d4, h.d7⟩
  · first | exact put_at _ hz' | (rw [put_ne a _ (by decide)]; exact h.s0 e)
  · first | exact put_at _ hz' | (rw [put_ne a _ (by decide)]; exact h.s1 e)
  · first | exact put_at _ hz' | (rw [put_ne a _ (by decide)]; exact h.s2 e e2)
  · first | exact put_at _ hz' | (rw [put_ne a _ (by decide)]; exact h.s3 e)
  · first | exact put_at _ hz' | (rw [put_ne a _ (by decide)]; exact h.s4 e)
  · first | exact put_at _ hz' | (rw [put_ne a _ (by decide)]; exact h.s5 e)
  · first | exact put_at _ hz' | (rw [put_ne a _ (by decide)]; exact h.s6 e)
  · first | exact put_at _ hz' | (rw [put_ne a _ (by decide)]; exact h.s7 e)
  · first | exact put_at _ hz' | (rw [put_ne a _ (by decide)]; exact h.s8 e)
theorem Fr.op8 (h : Fr a0 argK argD k b0 b1 b2 b3 b4 b5 b6 b7 false v1 vd v6 n8 a) (x8 : Nat) (hz : 6 < a0.tmps.size) : Fr a0 argK argD k b0 b1 b2 b3 b4 b5 b6 b7 true v1 vd v6 x8 (a.put (some 6) (.pointer (some ⟨x8, 0, none⟩))) := by
  have hz' : 6 < a.tmps.size := by rw [h.tsz]; exact hz
  refine ⟨h.dfr, by simp [Act.put, h.tsz], h.ks (by decide) _, fun e => ?_, fun e => ?_, fun e e2 => ?_, fun e => ?_, fun e => ?_, fun e => ?_, fun e => ?_, fun e => ?_, fun e => ?_, h.d4, h.d7⟩
  · first | exact put_at _ hz' | (rw [put_ne a _ (by decide)]; exact h.s0 e)
  · first | exact put_at _ hz' | (rw [put_ne a _ (by decide)]; exact h.s1 e)
  · first | exact put_at _ hz' | (rw [put_ne a _ (by decide)]; exact h.s2 e e2)
  · first | exact put_at _ hz' | (rw [put_ne a _ (by decide)]; exact h.s3 e)
  · first | exact put_at _ hz' | (rw [put_ne a _ (by decide)]; exact h.s4 e)
  · first | exact put_at _ hz' | (rw [put_ne a _ (by decide)]; exact h.s5 e)
  · first | exact put_at _ hz' | (rw [put_ne a _ (by decide)]; exact h.s6 e)
  · first | exact put_at _ hz' | (rw [put_ne a _ (by decide)]; exact h.s7 e)
  · first | exact put_at _ hz' | (rw [put_ne a _ (by decide)]; exact h.s8 e)
theorem Fr.op1 (h : Fr a0 argK argD k b0 false b2 b3 b4 b5 b6 b7 b8 v1 vd v6 n8 a) (x : Value) (hz : 14 < a0.tmps.size) : Fr a0 argK argD k b0 true b2 b3 b4 b5 b6 b7 b8 x vd v6 n8 (a.put (some 14) x) := by
  have hz' : 14 < a.tmps.size := by rw [h.tsz]; exact hz
  refine ⟨h.dfr, by simp [Act.put, h.tsz], h.ks (by decide) _, fun e => ?_, fun e => put_at _ hz', fun e e2 => ?_, fun e => ?_, fun e => ?_, fun e => ?_, fun e => ?_, fun e => ?_, fun e => ?_, fun e => ⟨rfl, (h.d4 e).2⟩, fun e => ⟨rfl, (h.d7 e).2⟩⟩
  · rw [put_ne a _ (by decide)]; exact h.s0 e
  · rw [put_ne a _ (by decide)]; exact h.s2 e e2
  · rw [put_ne a _ (by decide)]; exact h.s3 e
  · rw [put_ne a _ (by decide)]; exact h.s4 e
  · rw [put_ne a _ (by decide)]; exact h.s5 e
  · rw [put_ne a _ (by decide)]; exact h.s6 e
  · have := (h.d7 e).1; cases this
  · rw [put_ne a _ (by decide)]; exact h.s8 e
theorem Fr.op2 (h : Fr a0 argK argD k b0 b1 false b3 b4 b5 b6 b7 b8 v1 vd v6 n8 a) (x : Value) (hz : 15 < a0.tmps.size) : Fr a0 argK argD k b0 b1 true b3 b4 b5 b6 b7 b8 v1 x v6 n8 (a.put (some 15) x) := by
  have hz' : 15 < a.tmps.size := by rw [h.tsz]; exact hz
  refine ⟨h.dfr, by simp [Act.put, h.tsz], h.ks (by decide) _, fun e => ?_, fun e => ?_, fun e e2 => put_at _ hz', fun e => ?_, fun e => ?_, fun e => ?_, fun e => ?_, fun e => ?_, fun e => ?_, fun e => ⟨(h.d4 e).1, rfl⟩, fun e => h.d7 e⟩
  · rw [put_ne a _ (by decide)]; exact h.s0 e
  · rw [put_ne a _ (by decide)]; exact h.s1 e
  · rw [put_ne a _ (by decide)]; exact h.s3 e
  · have := (h.d4 e).2; cases this
  · rw [put_ne a _ (by decide)]; exact h.s5 e
  · rw [put_ne a _ (by decide)]; exact h.s6 e
  · have := (h.d4 (h.d7 e).2.1).2; cases this
  · rw [put_ne a _ (by decide)]; exact h.s8 e
theorem Fr.op4 (h : Fr a0 argK argD k b0 true true b3 false b5 b6 b7 b8 v1 vd v6 n8 a) (x : Value) (hz : 17 < a0.tmps.size) : Fr a0 argK argD k b0 true true b3 true b5 b6 b7 b8 v1 x v6 n8 (a.put (some 17) x) := by
  have hz' : 17 < a.tmps.size := by rw [h.tsz]; exact hz
  refine ⟨h.dfr, by simp [Act.put, h.tsz], h.ks (by decide) _, fun e => ?_, fun e => ?_, fun e e2 => (by cases e2), fun e => ?_, fun e => put_at _ hz', fun e => ?_, fun e => ?_, fun e => ?_, fun e => ?_, fun e => ⟨rfl, rfl⟩, fun e => ⟨rfl, rfl, (h.d7 e).2.2⟩⟩
  · rw [put_ne a _ (by decide)]; exact h.s0 e
  · rw [put_ne a _ (by decide)]; exact h.s1 e
  · rw [put_ne a _ (by decide)]; exact h.s3 e
  · rw [put_ne a _ (by decide)]; exact h.s5 e
  · rw [put_ne a _ (by decide)]; exact h.s6 e
  · have := (h.d7 e).2.1; cases this
  · rw [put_ne a _ (by decide)]; exact h.s8 e
theorem Fr.op6 (h : Fr a0 argK argD k b0 b1 b2 b3 b4 b5 false b7 b8 v1 vd v6 n8 a) (x : Value) (hz : 19 < a0.tmps.size) : Fr a0 argK argD k b0 b1 b2 b3 b4 b5 true b7 b8 v1 vd x n8 (a.put (some 19) x) := by
  have hz' : 19 < a.tmps.size := by rw [h.tsz]; exact hz
  refine ⟨h.dfr, by simp [Act.put, h.tsz], h.ks (by decide) _, fun e => ?_, fun e => ?_, fun e e2 => ?_, fun e => ?_, fun e => ?_, fun e => ?_, fun e => put_at _ hz', fun e => ?_, fun e => ?_, h.d4, fun e => ⟨(h.d7 e).1, (h.d7 e).2.1, rfl⟩⟩
  · rw [put_ne a _ (by decide)]; exact h.s0 e
  · rw [put_ne a _ (by decide)]; exact h.s1 e
  · rw [put_ne a _ (by decide)]; exact h.s2 e e2
  · rw [put_ne a _ (by decide)]; exact h.s3 e
  · rw [put_ne a _ (by decide)]; exact h.s4 e
  · rw [put_ne a _ (by decide)]; exact h.s5 e
  · have := (h.d7 e).2.2; cases this
  · rw [put_ne a _ (by decide)]; exact h.s8 e
theorem Fr.op7 (h : Fr a0 argK argD k b0 true b2 b3 true b5 true false b8 v1 vd v6 n8 a) (hz : 20 < a0.tmps.size) : Fr a0 argK argD k b0 true b2 b3 true b5 true true b8 v1 vd v6 n8 (a.put (some 20) (.agg #[v1, vd, v6, .int .i64 0])) := by
  have hz' : 20 < a.tmps.size := by rw [h.tsz]; exact hz
  refine ⟨h.dfr, by simp [Act.put, h.tsz], h.ks (by decide) _, fun e => ?_, fun e => ?_, fun e e2 => (by cases e2), fun e => ?_, fun e => ?_, fun e => ?_, fun e => ?_, fun e => put_at _ hz', fun e => ?_, h.d4, fun e => ⟨rfl, rfl, rfl⟩⟩
  · rw [put_ne a _ (by decide)]; exact h.s0 e
  · rw [put_ne a _ (by decide)]; exact h.s1 e
  · rw [put_ne a _ (by decide)]; exact h.s3 e
  · rw [put_ne a _ (by decide)]; exact h.s4 e
  · rw [put_ne a _ (by decide)]; exact h.s5 e
  · rw [put_ne a _ (by decide)]; exact h.s6 e
  · rw [put_ne a _ (by decide)]; exact h.s8 e
/-- the frame behind it; x stands for what is not looked at again -/
def fin (a : Act) (argK argD : Value) (k : Nat) (v1 vd v6 x : Value) (n8 : Nat) : Act :=
  ((((((((a.put (some 13) argK).put (some 14) v1).put (some 15) x).put (some 16) argD).put (some 17) vd).put (some 18) (.int .i64 (k : Int))).put (some 19) v6).put (some 20) (.agg #[v1, vd, v6, .int .i64 0])).put (some 6) (.pointer (some ⟨n8, 0, none⟩))
theorem Fr.fin (h : Fr a0 argK argD k true true true true true true true true true v1 vd v6 n8 a) (hsz : ∀ s ∈ slots, s < a0.tmps.size) : ∃ x, a = any5.fin a0 argK argD k v1 vd v6 x n8 := by
  have h1 := h.keep
  have h3 := h.dfr
  have h4 := h.tsz
  have t0 := h.s0 rfl
  have t1 := h.s1 rfl
  have t3 := h.s3 rfl
  have t4 := h.s4 rfl
  have t5 := h.s5 rfl
  have t6 := h.s6 rfl
  have t7 := h.s7 rfl
  have t8 := h.s8 rfl
  clear h
  obtain ⟨T, D⟩ := a
  obtain ⟨T0, D0⟩ := a0
  simp only at h1 h3 h4 hsz t0 t1 t3 t4 t5 t6 t7 t8
  subst h3
  obtain ⟨x, hx⟩ : ∃ x, T[15]? = some x := ⟨_, Array.getElem?_eq_getElem (by rw [h4]; exact hsz 15 (by decide))⟩
  refine ⟨x, ?_⟩
  unfold any5.fin
  simp only [Act.put, Act.mk.injEq, and_true]
  refine Array.ext_getElem? fun j => ?_
  by_cases hj : j ∈ slots
  · have hjs := hsz j hj
    simp only [slots, List.mem_cons, List.not_mem_nil, or_false] at hj
    rcases hj with rfl | rfl | rfl | rfl | rfl | rfl | rfl | rfl | rfl
    · rw [t0]; simp [Array.getElem?_setIfInBounds, hjs]
    · rw [t1]; simp [Array.getElem?_setIfInBounds, hjs]
    · rw [hx]; simp [Array.getElem?_setIfInBounds, hjs]
    · rw [t3]; simp [Array.getElem?_setIfInBounds, hjs]
    · rw [t4]; simp [Array.getElem?_setIfInBounds, hjs]
    · rw [t5]; simp [Array.getElem?_setIfInBounds, hjs]
    · rw [t6]; simp [Array.getElem?_setIfInBounds, hjs]
    · rw [t7]; simp [Array.getElem?_setIfInBounds, hjs]
    · rw [t8]; simp [Array.getElem?_setIfInBounds, hjs]
  · rw [h1 j hj]
    simp only [slots, List.mem_cons, List.not_mem_nil, or_false, not_or] at hj
    obtain ⟨p1, p2, p3, p4, p5, p6, p7, p8, p9⟩ := hj
    rw [Array.getElem?_setIfInBounds_ne (Ne.symm p9), Array.getElem?_setIfInBounds_ne (Ne.symm p8), Array.getElem?_setIfInBounds_ne (Ne.symm p7), Array.getElem?_setIfInBounds_ne (Ne.symm p6), Array.getElem?_setIfInBounds_ne (Ne.symm p5), Array.getElem?_setIfInBounds_ne (Ne.symm p4), Array.getElem?_setIfInBounds_ne (Ne.symm p3), Array.getElem?_setIfInBounds_ne (Ne.symm p2), Array.getElem?_setIfInBounds_ne (Ne.symm p1)]
end
section
variable {P : Program} {ops : Array Oper} {Q : Exit → Act → World → Prop} {a0 : Act} {w0 : World} {tI tB tS eI eB : TypeId} {f : FuncId} {k : Nat} {argK : Value} {Ad : Option Addr} {cd : Nat} {ks : List Int} {ds : List Bool}
theorem Reg.is (h : Reg ops tI tB tS f) : ∀ i, i < 10 → ∃ d op js, Is ops i d op js := by
  intro i hi
  have hc : i = 0 ∨ i = 1 ∨ i = 2 ∨ i = 3 ∨ i = 4 ∨ i = 5 ∨ i = 6 ∨ i = 7 ∨ i = 8 ∨ i = 9 := by omega
  rcases hc with rfl | rfl | rfl | rfl | rfl | rfl | rfl | rfl | rfl | rfl
  · exact ⟨_, _, _, h.o0⟩
  · exact ⟨_, _, _, h.o1⟩
  · exact ⟨_, _, _, h.o2⟩
  · exact ⟨_, _, _, h.o3⟩
  · exact ⟨_, _, _, h.o4⟩
  · exact ⟨_, _, _, h.o5⟩
  · exact ⟨_, _, _, h.o6⟩
  · exact ⟨_, _, _, h.o7⟩
  · exact ⟨_, _, _, h.o8⟩
  · exact ⟨_, _, _, h.o9⟩
theorem step_wp {i : Nat} {d : Option Tmp} {op : Op} {js : List Nat} (h : Is ops i d op js) {K : Act → World → Prop} {a : Act} {w : World} (hK : ∀ o : Oper, o.dst = d → o.op = op → o.guard = none → Oper.wp P o a w K Q) : wpOp P ops Q i K a w := by
  obtain ⟨o, ho, hd, hop, hg, _⟩ := h.at'
  unfold wpOp
  rw [ho]
  simp only [Region.wanted, hg, if_true]
  exact Or.inl (hK o hd hop hg)
theorem run_call {o : Oper} {a : Act} {w : World} {vs : Array Value} (args : Array Operand) (ts : Array TypeId) (hop : o.op = .call { callee := .value (.func f), args := args, argTypes := ts }) (hent : ∀ (vs : Array Value) (W : World), (callFunc f vs).run P W = .ok (.enter f vs) W) (hv : args.map a.eval = vs) : (execOp a.eval o).run P w = .ok (.enter f vs) w := by
  have := hent vs w
  simp [execOp, hop, resolve, Deferred.ofValue, invoke, hv, Act.eval, this]
/-- whatever the order: the struct of three new rows, in a new variable -/
theorem made5 (hO : Reg ops tI tB tS f) (hR : Runs P tI tB tS eI eB f k w0 argK Ad cd ks ds) (h0 : a0.tmps[0]? = some argK) (h1 : a0.tmps[1]? = some (.slice Ad k cd)) (h5 : a0.tmps[5]? = some (.int .i64 (k : Int))) (hsz : ∀ s ∈ slots, s < a0.tmps.size)
    (hQ : ∀ (v1 vd v6 x : Value) (n8 : Nat) (w : World), w.ownsRow w0.heap.size eI 1 v1 k (ints ks) → w.ownsRow w0.heap.size eB 1 vd k (bools ds) → w.ownsRow w0.heap.size eI 1 v6 k (ints (List.replicate k 0)) → w0.heap.size ≤ n8 → Blk w n8 tS #[v1, vd, v6, .int .i64 0] →
      Apt v1 v6 → Apt vd v6 → v1.ownBlock ≠ some n8 → vd.ownBlock ≠ some n8 → v6.ownBlock ≠ some n8 → Below w0.heap.size w0 w → Q .normal (fin a0 argK (.slice Ad k cd) k v1 vd v6 x n8) w) :
    wpAny P .any ops Q ops.size (Array.replicate ops.size false) a0 w0 := by
  rw [hO.size]
  refine any_inv (fun f L a w => left L = f ∧ ∃ (b0 b1 b2 b3 b4 b5 b6 b7 b8 b9 : Bool) (v1 vd v6 : Value) (n8 : Nat), L = #[b0, b1, b2, b3, b4, b5, b6, b7, b8, b9] ∧ Fr a0 argK (.slice Ad k cd) k b0 b1 b2 b3 b4 b5 b6 b7 b8 v1 vd v6 n8 a ∧ M5 w0 tS eI eB k ks ds b1 b2 b4 b6 b8 b9 v1 vd v6 n8 w ∧ (b9 = true → b8 = true ∧ b7 = true)) ?_ ?_ 10 _ a0 w0 ⟨rfl, false, false, false, false, false, false, false, false, false, false, .nilIface, .nilIface, .nilIface, 0, rfl, ⟨rfl, rfl, fun _ _ => rfl, by simp, by simp, by simp, by simp, by simp, by simp, by simp, by simp, by simp, by simp, by simp⟩, ⟨Below.refl _ _, by simp, by simp, by simp, by simp, by simp, by simp, by simp, by simp, by simp, by simp⟩, by simp⟩
  all_goals
    have fin' : ∀ (L : Array Bool) (a : Act) (w : World), (∃ (b0 b1 b2 b3 b4 b5 b6 b7 b8 b9 : Bool) (v1 vd v6 : Value) (n8 : Nat), L = #[b0, b1, b2, b3, b4, b5, b6, b7, b8, b9] ∧ Fr a0 argK (.slice Ad k cd) k b0 b1 b2 b3 b4 b5 b6 b7 b8 v1 vd v6 n8 a ∧ M5 w0 tS eI eB k ks ds b1 b2 b4 b6 b8 b9 v1 vd v6 n8 w ∧ (b9 = true → b8 = true ∧ b7 = true)) → Region.ready .any ops L = [] → Q .normal a w := by
      rintro L a w ⟨b0, b1, b2, b3, b4, b5, b6, b7, b8, b9, v1, vd, v6, n8, rfl, hF, hM, _⟩ hr
      have hall := all_of hO.is (L := #[b0, b1, b2, b3, b4, b5, b6, b7, b8, b9]) rfl hr
      obtain rfl : b0 = true := hall 0 (by omega)
      obtain rfl : b1 = true := hall 1 (by omega)
      obtain rfl : b2 = true := hall 2 (by omega)
      obtain rfl : b3 = true := hall 3 (by omega)
      obtain rfl : b4 = true := hall 4 (by omega)
      obtain rfl : b5 = true := hall 5 (by omega)
      obtain rfl : b6 = true := hall 6 (by omega)
      obtain rfl : b7 = true := hall 7 (by omega)
      obtain rfl : b8 = true := hall 8 (by omega)
      obtain rfl : b9 = true := hall 9 (by omega)
      obtain ⟨x, rfl⟩ := hF.fin hsz
      exact hQ v1 vd v6 x n8 w (hM.r1 rfl) (hM.rd rfl) (hM.r6 rfl) (hM.r8 rfl).1 (hM.r8 rfl).2 (hM.p16 rfl rfl) (hM.p26 rfl rfl) (hM.q1 rfl rfl) (hM.q2 rfl rfl) (hM.q6 rfl rfl) hM.bel
  · rintro L a w ⟨hz, hI⟩
    exact ⟨left_zero hz, fin' L a w hI (left_zero hz)⟩
  · rintro fu L a w ⟨hf, hI⟩
    refine ⟨fun hr => fin' L a w hI hr, fun i hi => ?_⟩
    clear fin'
    obtain ⟨b0, b1, b2, b3, b4, b5, b6, b7, b8, b9, v1, vd, v6, n8, rfl, hF, hM, h9⟩ := hI
    have hL := (mem_ready.1 hi).1
    have hlf := left_set hL
    have hleft : left (Array.setIfInBounds #[b0, b1, b2, b3, b4, b5, b6, b7, b8, b9] i true) = fu := by omega
    have hil : i < 10 := by
      obtain ⟨_, o, ho, _⟩ := mem_ready.1 hi
      have := (Array.getElem?_eq_some_iff.1 ho).1
      rwa [hO.size] at this
    clear hlf
    have e0 : a.eval (.tmp 0) = argK := ev_of ((hF.keep 0 (by decide)).trans h0)
    have e1 : a.eval (.tmp 1) = .slice Ad k cd := ev_of ((hF.keep 1 (by decide)).trans h1)
    have e5 : a.eval (.tmp 5) = .int .i64 (k : Int) := ev_of ((hF.keep 5 (by decide)).trans h5)
    have hkb : (k : Nat) ≤ 1099511627776 := by have := hR.kle; omega
    have hc : i = 0 ∨ i = 1 ∨ i = 2 ∨ i = 3 ∨ i = 4 ∨ i = 5 ∨ i = 6 ∨ i = 7 ∨ i = 8 ∨ i = 9 := by omega
    rcases hc with rfl | rfl | rfl | rfl | rfl | rfl | rfl | rfl | rfl | rfl
    · obtain rfl : b0 = false := hL
      refine step_move hO.o0 ⟨hleft, true, b1, b2, b3, b4, b5, b6, b7, b8, b9, v1, vd, v6, n8, rfl, ?_, hM, h9⟩
      rw [e0]; exact hF.op0 0 (hsz _ (by decide))
    · obtain rfl : b1 = false := hL
      have w0' := any6.waited hO.o1 hi
      obtain rfl : b0 = true := w0' 0 (by simp)
      obtain rfl : b9 = false := by cases b9 with
        | false => rfl
        | true => have := (hF.d7 (h9 rfl).2).1; cases this
      refine step_wp hO.o1 fun o hd hop hg => ?_
      have hrun : (execOp a.eval o).run P w = .ok (.enter f #[argK]) w := run_call #[.tmp 13] #[tI] hop hR.ent (by simp [ev_of (hF.s0 rfl)])
      unfold Oper.wp
      rw [hrun, Oper.upon_enter]
      refine (hR.call w hM.bel).mono fun e w' => ?_
      rintro ⟨x, rfl, ho, hb⟩
      rw [hd]
      exact ⟨hleft, true, true, b2, b3, b4, b5, b6, b7, b8, false, x, vd, v6, n8, rfl, hF.op1 x (hsz _ (by decide)), hM.call hb ho, h9⟩
    · obtain rfl : b2 = false := hL
      obtain rfl : b4 = false := by cases b4 with
        | false => rfl
        | true => have := (hF.d4 rfl).2; cases this
      obtain rfl : b9 = false := by cases b9 with
        | false => rfl
        | true => have := (hF.d7 (h9 rfl).2).2.1; cases this
      refine step_value hO.o2 (s := Instr.buildSlice tB 0 #[]) (fun o ho => by unfold execOp; rw [ho]; simp) (hR.bs w) ⟨hleft, b0, b1, true, b3, false, b5, b6, b7, b8, false, v1, _, v6, n8, rfl, hF.op2 _ (hsz _ (by decide)), hM.built, h9⟩
    · obtain rfl : b3 = false := hL
      refine step_move hO.o3 ⟨hleft, b0, b1, b2, true, b4, b5, b6, b7, b8, b9, v1, vd, v6, n8, rfl, ?_, hM, h9⟩
      rw [e1]; exact hF.op3 0 (hsz _ (by decide))
    · obtain rfl : b4 = false := hL
      have w0' := any6.waited hO.o4 hi
      obtain rfl : b1 = true := w0' 1 (by simp)
      obtain rfl : b2 = true := w0' 2 (by simp)
      obtain rfl : b3 = true := w0' 3 (by simp)
      obtain rfl : b9 = false := by cases b9 with
        | false => rfl
        | true => have := (hF.d7 (h9 rfl).2).2.1; cases this
      refine step_wp hO.o4 fun o hd hop hg => ?_
      refine mem.wp_extend_at w (.tmp 15) (.tmp 16) tB hop w0.heap.size eB (.bool false) 1 1 hR.undB hR.infB rfl Nat.one_pos vd 0 [] (ev_of (hF.s2 rfl rfl)) (hM.rd rfl) Ad k cd (bools ds) (ev_of (hF.s3 rfl)) ?_ (bools_one ds) (by omega) (by decide) hM.bel.size ?_
      · exact hR.rdD.below hM.bel
      · intro x w' ho hg' hn
        simp only [Nat.zero_add, List.nil_append] at ho
        rw [hd]
        exact ⟨hleft, b0, true, true, true, true, b5, b6, b7, b8, false, v1, x, v6, n8, rfl, hF.op4 x (hsz _ (by decide)), hM.app hg' hn ho, h9⟩
    · obtain rfl : b5 = false := hL
      refine step_move hO.o5 ⟨hleft, b0, b1, b2, b3, b4, true, b6, b7, b8, b9, v1, vd, v6, n8, rfl, ?_, hM, h9⟩
      rw [e5]; exact hF.op5 0 (hsz _ (by decide))
    · obtain rfl : b6 = false := hL
      have w0' := any6.waited hO.o6 hi
      obtain rfl : b5 = true := w0' 5 (by simp)
      obtain rfl : b9 = false := by cases b9 with
        | false => rfl
        | true => have := (hF.d7 (h9 rfl).2).2.2; cases this
      refine step_value hO.o6 (fun o ho => by unfold execOp; rw [ho]) (s := Instr.makeSlice tI (a.eval (.tmp 18)) (a.eval (.tmp 18))) (w' := w.alloc (.cells (rep k (.int .i64 0)) eI)) (v := .slice (some ⟨w.heap.size, 0, none⟩) k k) ?_ ⟨hleft, b0, b1, b2, b3, b4, true, true, b7, b8, false, v1, vd, _, n8, rfl, hF.op6 _ (hsz _ (by decide)), hM.made hR.kle, h9⟩
      rw [ev_of (hF.s5 rfl)]; exact hR.mks w
    · obtain rfl : b7 = false := hL
      have w0' := any6.waited hO.o7 hi
      obtain rfl : b1 = true := w0' 1 (by simp)
      obtain rfl : b4 = true := w0' 4 (by simp)
      obtain rfl : b6 = true := w0' 6 (by simp)
      obtain rfl : b9 = false := by cases b9 with
        | false => rfl
        | true => have := (h9 rfl).2; cases this
      obtain ⟨A1, c1, rfl, _, _, _⟩ := own_form (hM.r1 rfl)
      obtain ⟨_, rfl⟩ := hF.d4 rfl
      obtain ⟨A2, c2, rfl, _, _, _⟩ := own_form (hM.rd rfl)
      obtain ⟨A3, c3, rfl, _, _, _⟩ := own_form (hM.r6 rfl)
      refine step_value hO.o7 (fun o ho => by unfold execOp; rw [ho]; simp) (s := Instr.build tS #[(0, a.eval (.tmp 14)), (1, a.eval (.tmp 17)), (2, a.eval (.tmp 19))]) (w' := w) (v := .agg #[.slice A1 k c1, .slice A2 k c2, .slice A3 k c3, .int .i64 0]) ?_ ⟨hleft, b0, true, true, b3, true, b5, true, true, b8, false, _, _, _, n8, rfl, hF.op7 (hsz _ (by decide)), hM, by simp⟩
      rw [ev_of (hF.s1 rfl), ev_of (hF.s4 rfl), ev_of (hF.s6 rfl)]; exact hR.bd w _ _ _ _ _ _ _ _ _
    · obtain rfl : b8 = false := hL
      obtain rfl : b9 = false := by cases b9 with
        | false => rfl
        | true => have := (h9 rfl).1; cases this
      refine step_value hO.o8 (fun o ho => by unfold execOp; rw [ho]) (hR.al w) ⟨hleft, b0, b1, b2, b3, b4, b5, b6, b7, true, false, v1, vd, v6, w.heap.size, rfl, hF.op8 _ (hsz _ (by decide)), hM.allocd, by simp⟩
    · obtain rfl : b9 = false := hL
      have w0' := any6.waited hO.o9 hi
      obtain rfl : b8 = true := w0' 8 (by simp)
      obtain rfl : b7 = true := w0' 7 (by simp)
      obtain ⟨rfl, rfl, rfl⟩ := hF.d7 rfl
      obtain ⟨_, rfl⟩ := hF.d4 rfl
      have e6 := ev_of (hF.s8 rfl)
      have e20 := ev_of (hF.s7 rfl)
      obtain ⟨A1, c1, rfl, _, _, _⟩ := own_form (hM.r1 rfl)
      obtain ⟨A2, c2, rfl, _, _, _⟩ := own_form (hM.rd rfl)
      obtain ⟨A3, c3, rfl, _, _, _⟩ := own_form (hM.r6 rfl)
      refine step_unit hO.o9 (fun o ho => by unfold execOp; rw [ho]) (s := Instr.storeAt tS (a.eval (.tmp 6)) (a.eval (.tmp 20))) (w' := ((((w.setCell ⟨n8, 0, none⟩ (.slice A1 k c1)).setCell ⟨n8, 1, none⟩ (.slice A2 k c2)).setCell ⟨n8, 2, none⟩ (.slice A3 k c3)).setCell ⟨n8, 3, none⟩ (.int .i64 0))) ?_ ⟨hleft, b0, true, true, b3, true, b5, true, true, true, true, _, _, _, n8, rfl, hF, hM.stored, fun _ => ⟨rfl, rfl⟩⟩
      rw [e6, e20]
      exact hR.st w n8 _ _ _ _ _ _ _ _ _ (hM.r8 rfl).2
end
end Go.Proofs.Ytgffabjajbgbjaa.any5
