/- A statement that makes three rows and three variables in an order that is left open: whatever the order, six new blocks. No condition. -/
import Derived.Test.YtgffabjajbgbjaaMemAt
import Derived.Orders
set_option linter.unusedVariables false
set_option linter.unusedSimpArgs false
namespace Go.Proofs.Ytgffabjajbgbjaa.any6
open Go.RowKit Go.Proofs.Ytgffabjajbgbjaa.mem

theorem any_inv {P : Program} {md : Region.Mode} {ops : Array Oper} {Q : Exit → Act → World → Prop} (I : Nat → Array Bool → Act → World → Prop)
    (h0 : ∀ L a w, I 0 L a w → Region.ready md ops L = [] ∧ Q .normal a w)
    (hs : ∀ f L a w, I (f + 1) L a w → (Region.ready md ops L = [] → Q .normal a w) ∧ ∀ i ∈ Region.ready md ops L, wpOp P ops Q i (I f (L.setIfInBounds i true)) a w) :
    ∀ f L a w, I f L a w → wpAny P md ops Q f L a w
  | 0, L, a, w, h => h0 L a w h
  | f + 1, L, a, w, h => ⟨(hs f L a w h).1, fun i hi => wpOp_mono (fun a w hi => any_inv I h0 hs f _ a w hi) ((hs f L a w h).2 i hi)⟩

/-- the operation waits for these -/
def needs (o : Oper) (js : List Nat) : Bool := js.all fun j => o.after.any fun e => e.on == j && Region.binds .any e
/-- and for nothing behind it -/
def early (o : Oper) (i : Nat) : Bool := o.after.all fun e => !Region.binds .any e || decide (e.on < i)
theorem needs_of {o : Oper} {js : List Nat} (h : needs o js = true) {L : Array Bool} (hall : ∀ e ∈ o.after, Region.binds .any e = true → L.getD e.on false = true) : ∀ j ∈ js, L.getD j false = true := by
  intro j hj
  have := List.all_eq_true.1 h j hj
  obtain ⟨e, he, h2⟩ := Array.any_eq_true'.1 this
  simp only [Bool.and_eq_true, beq_iff_eq] at h2
  rw [← h2.1]
  exact hall e he h2.2
def slot : Nat → Nat
  | 0 => 15 | 1 => 16 | 2 => 17 | 3 => 18 | 4 => 19 | 5 => 20 | 6 => 5 | 7 => 6 | _ => 7
structure Is (ops : Array Oper) (i : Nat) (dst : Option Tmp) (op : Op) (js : List Nat) : Prop where
  at' : ∃ o, ops[i]? = some o ∧ o.dst = dst ∧ o.op = op ∧ o.guard = none ∧ needs o js = true ∧ early o i = true
structure Reg (ops : Array Oper) (tI tB : TypeId) : Prop where
  size : ops.size = 12
  o0 : Is ops 0 (some 15) (.move (.tmp 4)) []
  o1 : Is ops 1 (some 16) (.makeSlice tI (.tmp 15) (.tmp 15)) [0]
  o2 : Is ops 2 (some 17) (.move (.tmp 4)) []
  o3 : Is ops 3 (some 18) (.makeSlice tB (.tmp 17) (.tmp 17)) [2]
  o4 : Is ops 4 (some 19) (.move (.tmp 4)) []
  o5 : Is ops 5 (some 20) (.makeSlice tI (.tmp 19) (.tmp 19)) [4]
  o6 : Is ops 6 (some 5) (.alloc tI) []
  o7 : Is ops 7 (some 6) (.alloc tB) []
  o8 : Is ops 8 (some 7) (.alloc tI) []
  o9 : Is ops 9 none (.store tI (.tmp 5) (.tmp 16)) [6, 1]
  o10 : Is ops 10 none (.store tB (.tmp 6) (.tmp 18)) [7, 3]
  o11 : Is ops 11 none (.store tI (.tmp 7) (.tmp 20)) [8, 5]
structure Runs (P : Program) (tI tB eI eB : TypeId) (k : Nat) (zI zB : Value) : Prop where
  mkI : ∀ w, (Instr.makeSlice tI (.int .i64 (k : Int)) (.int .i64 (k : Int))).run P w = .ok (.slice (some ⟨w.heap.size, 0, none⟩) k k) (w.alloc (.cells (rep k zI) eI))
  mkB : ∀ w, (Instr.makeSlice tB (.int .i64 (k : Int)) (.int .i64 (k : Int))).run P w = .ok (.slice (some ⟨w.heap.size, 0, none⟩) k k) (w.alloc (.cells (rep k zB) eB))
  alI : ∀ w, (Instr.alloc tI true (.tuple #[])).run P w = .ok (.pointer (some ⟨w.heap.size, 0, none⟩)) (w.alloc (.cells #[.slice none 0 0] tI))
  alB : ∀ w, (Instr.alloc tB true (.tuple #[])).run P w = .ok (.pointer (some ⟨w.heap.size, 0, none⟩)) (w.alloc (.cells #[.slice none 0 0] tB))
  stI : ∀ w g r, Blk w g tI #[.slice none 0 0] → (Instr.storeAt tI (.pointer (some ⟨g, 0, none⟩)) (.slice (some ⟨r, 0, none⟩) k k)).run P w = .ok () (w.setCell ⟨g, 0, none⟩ (.slice (some ⟨r, 0, none⟩) k k))
  stB : ∀ w g r, Blk w g tB #[.slice none 0 0] → (Instr.storeAt tB (.pointer (some ⟨g, 0, none⟩)) (.slice (some ⟨r, 0, none⟩) k k)).run P w = .ok () (w.setCell ⟨g, 0, none⟩ (.slice (some ⟨r, 0, none⟩) k k))

section
variable (a0 : Act) (w0 : World) (tI tB eI eB : TypeId) (k : Nat) (zI zB : Value)
def val (n : Nat → Nat) (i : Nat) : Value :=
  if i = 0 ∨ i = 2 ∨ i = 4 then .int .i64 (k : Int) else if i = 1 ∨ i = 3 ∨ i = 5 then .slice (some ⟨n i, 0, none⟩) k k else .pointer (some ⟨n i, 0, none⟩)
def ty (i : Nat) : TypeId := if i = 1 ∨ i = 5 then eI else if i = 3 then eB else if i = 7 then tB else tI
def ct (L : Array Bool) (n : Nat → Nat) (i : Nat) : Array Value :=
  if i = 1 ∨ i = 5 then rep k zI else if i = 3 then rep k zB else
    if i = 6 then (if L.getD 9 false = true then #[.slice (some ⟨n 1, 0, none⟩) k k] else #[.slice none 0 0]) else
    if i = 7 then (if L.getD 10 false = true then #[.slice (some ⟨n 3, 0, none⟩) k k] else #[.slice none 0 0]) else
    (if L.getD 11 false = true then #[.slice (some ⟨n 5, 0, none⟩) k k] else #[.slice none 0 0])
def items : List Nat := [1, 3, 5, 6, 7, 8]
def slots : List Nat := [15, 16, 17, 18, 19, 20, 5, 6, 7]
structure Inv (L : Array Bool) (n : Nat → Nat) (a : Act) (w : World) : Prop where
  sz : L.size = 12
  dfr : a.defers = a0.defers
  tsz : a.tmps.size = a0.tmps.size
  keep : ∀ j, j ∉ slots → a.tmps[j]? = a0.tmps[j]?
  vals : ∀ i, i < 9 → L.getD i false = true → a.tmps[slot i]? = some (val k n i)
  bel : Below w0.heap.size w0 w
  blk : ∀ i ∈ items, L.getD i false = true → w0.heap.size ≤ n i ∧ Blk w (n i) (ty tI tB eI eB i) (ct k zI zB L n i)
  ap : ∀ i ∈ items, ∀ j ∈ items, i ≠ j → L.getD i false = true → L.getD j false = true → n i ≠ n j
  d9 : L.getD 9 false = true → L.getD 6 false = true ∧ L.getD 1 false = true
  d10 : L.getD 10 false = true → L.getD 7 false = true ∧ L.getD 3 false = true
  d11 : L.getD 11 false = true → L.getD 8 false = true ∧ L.getD 5 false = true
variable {a0 w0 tI tB eI eB k zI zB}
theorem getD_flip {L : Array Bool} {i : Nat} (h : L.getD i true = false) : L.getD i false = false := by
  cases hi : L[i]? with
  | none => simp [hi]
  | some b => simp [hi] at h ⊢; exact h
theorem getD_set (L : Array Bool) (i j : Nat) (h : i < L.size) : (L.setIfInBounds i true).getD j false = if i = j then true else L.getD j false := by
  by_cases e : i = j
  · subst e; simp [h]
  · rw [if_neg e, getD_set_ne false e]
theorem slot_inj : ∀ i, i < 9 → ∀ j, j < 9 → i ≠ j → slot i ≠ slot j := by decide
theorem slot_mem : ∀ i, i < 9 → slot i ∈ slots := by decide
theorem items_lt : ∀ i ∈ items, i < 9 := by decide
theorem val_congr {n n' : Nat → Nat} {i : Nat} (h : n' i = n i) : val k n' i = val k n i := by unfold val; rw [h]
/-- an operation with a result -/
theorem Inv.step {L : Array Bool} {n n' : Nat → Nat} {a : Act} {w w' : World} {v : Value} {i : Nat} (h : Inv a0 w0 tI tB eI eB k zI zB L n a w) (hi : i < 9) (hL : L.getD i true = false) (hts : slot i < a0.tmps.size)
    (hn : ∀ j, j ≠ i → n' j = n j) (hv : v = val k n' i) (hbel : Below w0.heap.size w0 w') (hblk : ∀ b t cs, Blk w b t cs → Blk w' b t cs)
    (hnew : i ∈ items → w0.heap.size ≤ n' i ∧ Blk w' (n' i) (ty tI tB eI eB i) (ct k zI zB L n' i) ∧ w.heap.size ≤ n' i) :
    Inv a0 w0 tI tB eI eB k zI zB (L.setIfInBounds i true) n' (a.put (some (slot i)) v) w' := by
  have hL2 := getD_flip hL
  have his : i < L.size := by rw [h.sz]; omega
  have gs := fun j => getD_set L i j his
  have hct : ∀ j ∈ items, (j ≠ i → L.getD j false = true) → ct k zI zB (L.setIfInBounds i true) n' j = ct k zI zB L n' j := fun j hj _ => by
    unfold ct
    rw [gs 9, gs 10, gs 11, if_neg (show ¬ i = 9 by omega), if_neg (show ¬ i = 10 by omega), if_neg (show ¬ i = 11 by omega)]
  have hctn : ∀ j, ct k zI zB L n' j = ct k zI zB L n j := fun j => by
    unfold ct
    have e9 : L.getD 9 false = true → n' 1 = n 1 := fun h9 => hn 1 (fun e => by have := (h.d9 h9).2; rw [e, hL2] at this; cases this)
    have e10 : L.getD 10 false = true → n' 3 = n 3 := fun h9 => hn 3 (fun e => by have := (h.d10 h9).2; rw [e, hL2] at this; cases this)
    have e11 : L.getD 11 false = true → n' 5 = n 5 := fun h9 => hn 5 (fun e => by have := (h.d11 h9).2; rw [e, hL2] at this; cases this)
    congr 1
    congr 1
    by_cases h9 : L.getD 9 false = true <;> by_cases h10 : L.getD 10 false = true <;> by_cases h11 : L.getD 11 false = true <;> simp only [h9, h10, h11, if_true, if_false, Bool.false_eq_true] <;> (try rw [e9 h9]) <;> (try rw [e10 h10]) <;> (try rw [e11 h11])
  refine ⟨by simp [h.sz], h.dfr, by simp [Act.put, h.tsz], fun j hj => ?_, fun j hj hLj => ?_, hbel, fun j hj hLj => ?_, fun p hp q hq hpq hLp hLq => ?_, fun h9 => ?_, fun h9 => ?_, fun h9 => ?_⟩
  · rw [← h.keep j hj]
    have : slot i ≠ j := fun e => hj (e ▸ slot_mem i hi)
    simp [Act.put, Array.getElem?_setIfInBounds_ne this]
  · rw [gs] at hLj
    by_cases e : i = j
    · subst e
      simp [Act.put, h.tsz, hts, hv]
    · rw [if_neg e] at hLj
      rw [val_congr (hn j (Ne.symm e)), ← h.vals j hj hLj]
      simp [Act.put, Array.getElem?_setIfInBounds_ne (slot_inj i hi j hj e)]
  · rw [gs] at hLj
    by_cases e : i = j
    · subst e
      obtain ⟨h1, h2, _⟩ := hnew hj
      exact ⟨h1, by rw [hct _ hj (fun e => absurd rfl e)]; exact h2⟩
    · rw [if_neg e] at hLj
      obtain ⟨h1, h2⟩ := h.blk j hj hLj
      rw [hn j (Ne.symm e), hct _ hj (fun _ => hLj), hctn]
      exact ⟨h1, hblk _ _ _ h2⟩
  · rw [gs] at hLp hLq
    by_cases e1 : i = p
    · subst e1
      rw [if_neg hpq] at hLq
      have h2 := (h.blk q hq hLq).2.lt
      have h3 := (hnew hp).2.2
      rw [hn q (Ne.symm hpq)]; omega
    · by_cases e2 : i = q
      · subst e2
        rw [if_neg e1] at hLp
        have h2 := (h.blk p hp hLp).2.lt
        have h3 := (hnew hq).2.2
        rw [hn p hpq]; omega
      · rw [if_neg e1] at hLp
        rw [if_neg e2] at hLq
        rw [hn p (Ne.symm e1), hn q (Ne.symm e2)]
        exact h.ap p hp q hq hpq hLp hLq
  · rw [gs, if_neg (show ¬ i = 9 by omega)] at h9
    rw [gs, gs]
    obtain ⟨x, y⟩ := h.d9 h9
    exact ⟨by split <;> first | rfl | exact x, by split <;> first | rfl | exact y⟩
  · rw [gs, if_neg (show ¬ i = 10 by omega)] at h9
    rw [gs, gs]
    obtain ⟨x, y⟩ := h.d10 h9
    exact ⟨by split <;> first | rfl | exact x, by split <;> first | rfl | exact y⟩
  · rw [gs, if_neg (show ¬ i = 11 by omega)] at h9
    rw [gs, gs]
    obtain ⟨x, y⟩ := h.d11 h9
    exact ⟨by split <;> first | rfl | exact x, by split <;> first | rfl | exact y⟩
/-- a store into one of the new variables -/
theorem Inv.store {L : Array Bool} {n : Nat → Nat} {a : Act} {w : World} {s b r : Nat} (h : Inv a0 w0 tI tB eI eB k zI zB L n a w) (hs : (s = 9 ∧ b = 6 ∧ r = 1) ∨ (s = 10 ∧ b = 7 ∧ r = 3) ∨ (s = 11 ∧ b = 8 ∧ r = 5)) (hL : L.getD s true = false) (hb : L.getD b false = true) (hr : L.getD r false = true) :
    Inv a0 w0 tI tB eI eB k zI zB (L.setIfInBounds s true) n a (w.setCell ⟨n b, 0, none⟩ (.slice (some ⟨n r, 0, none⟩) k k)) := by
  have hL2 := getD_flip hL
  have hs12 : s < 12 := by omega
  have gs := fun j => getD_set L s j (by rw [h.sz]; exact hs12)
  have hbi : b ∈ items := by rcases hs with ⟨_, rfl, _⟩ | ⟨_, rfl, _⟩ | ⟨_, rfl, _⟩ <;> decide
  have g9 : ∀ j, j < 9 → (L.setIfInBounds s true).getD j false = L.getD j false := fun j hj => by rw [gs, if_neg (by omega)]
  refine ⟨by simp [h.sz], h.dfr, h.tsz, h.keep, fun j hj hLj => h.vals j hj (by rw [← g9 j hj]; exact hLj), h.bel.setCell (p := ⟨n b, 0, none⟩) (h.blk b hbi hb).1 _, fun j hj hLj => ?_, fun p hp q hq hpq hLp hLq => ?_, fun h9 => ?_, fun h9 => ?_, fun h9 => ?_⟩
  · rw [g9 j (items_lt j hj)] at hLj
    obtain ⟨h1, h2⟩ := h.blk j hj hLj
    refine ⟨h1, ?_⟩
    by_cases e : j = b
    · subst e
      have h3 := h2.put 0 (.slice (some ⟨n r, 0, none⟩) k k)
      have e1 : (ct k zI zB L n j).setIfInBounds 0 (.slice (some ⟨n r, 0, none⟩) k k) = ct k zI zB (L.setIfInBounds s true) n j := by
        rcases hs with ⟨rfl, rfl, rfl⟩ | ⟨rfl, rfl, rfl⟩ | ⟨rfl, rfl, rfl⟩ <;> (unfold ct; simp [hL2, h.sz])
      rw [← e1]; exact h3
    · have e1 : ct k zI zB (L.setIfInBounds s true) n j = ct k zI zB L n j := by
        unfold ct
        rw [gs 9, gs 10, gs 11]
        rcases hs with ⟨rfl, rfl, rfl⟩ | ⟨rfl, rfl, rfl⟩ | ⟨rfl, rfl, rfl⟩ <;> simp only [items, List.mem_cons, List.not_mem_nil, or_false] at hj <;> rcases hj with rfl | rfl | rfl | rfl | rfl | rfl <;> first | rfl | exact absurd rfl e
      rw [e1]
      exact h2.far (fun e2 => h.ap j hj b hbi e hLj hb e2) _
  · rw [g9 p (items_lt p hp)] at hLp
    rw [g9 q (items_lt q hq)] at hLq
    exact h.ap p hp q hq hpq hLp hLq
  · rw [g9 6 (by omega), g9 1 (by omega)]
    rw [gs] at h9
    split at h9
    · rename_i e; rcases hs with ⟨_, rfl, rfl⟩ | ⟨e2, _⟩ | ⟨e2, _⟩
      · exact ⟨hb, hr⟩
      · omega
      · omega
    · exact h.d9 h9
  · rw [g9 7 (by omega), g9 3 (by omega)]
    rw [gs] at h9
    split at h9
    · rename_i e; rcases hs with ⟨e2, _⟩ | ⟨_, rfl, rfl⟩ | ⟨e2, _⟩
      · omega
      · exact ⟨hb, hr⟩
      · omega
    · exact h.d10 h9
  · rw [g9 8 (by omega), g9 5 (by omega)]
    rw [gs] at h9
    split at h9
    · rename_i e; rcases hs with ⟨e2, _⟩ | ⟨e2, _⟩ | ⟨_, rfl, rfl⟩
      · omega
      · omega
      · exact ⟨hb, hr⟩
    · exact h.d11 h9
end
section
variable {P : Program} {ops : Array Oper} {Q : Exit → Act → World → Prop}
theorem step_move {i d : Nat} {x : Operand} {js : List Nat} (h : Is ops i (some d) (.move x) js) {K : Act → World → Prop} {a : Act} {w : World} (hK : K (a.put (some d) (a.eval x)) w) : wpOp P ops Q i K a w := by
  obtain ⟨o, ho, hd, hop, hg, _⟩ := h.at'
  unfold wpOp
  rw [ho]
  simp only [Region.wanted, hg, if_true]
  refine Or.inl ?_
  unfold Oper.wp execOp
  simp only [hop, Sem.run_pure, Oper.upon, hd]
  exact hK
theorem step_value {i d : Nat} {op : Op} {js : List Nat} (h : Is ops i (some d) op js) {K : Act → World → Prop} {a : Act} {w w' : World} {v : Value} {s : Sem Value} (hs : ∀ o : Oper, o.op = op → execOp a.eval o = (do pure (.value (← s)))) (hr : s.run P w = .ok v w') (hK : K (a.put (some d) v) w') : wpOp P ops Q i K a w := by
  obtain ⟨o, ho, hd, hop, hg, _⟩ := h.at'
  unfold wpOp
  rw [ho]
  simp only [Region.wanted, hg, if_true]
  refine Or.inl ?_
  unfold Oper.wp
  rw [hs o hop]
  simp only [Sem.run_bind, hr, Result.andThen_ok, Sem.run_pure, Oper.upon, hd]
  exact hK
theorem step_unit {i : Nat} {op : Op} {js : List Nat} (h : Is ops i none op js) {K : Act → World → Prop} {a : Act} {w w' : World} {s : Sem Unit} (hs : ∀ o : Oper, o.op = op → execOp a.eval o = (do s; pure .skip)) (hr : s.run P w = .ok () w') (hK : K a w') : wpOp P ops Q i K a w := by
  obtain ⟨o, ho, hd, hop, hg, _⟩ := h.at'
  unfold wpOp
  rw [ho]
  simp only [Region.wanted, hg, if_true]
  refine Or.inl ?_
  unfold Oper.wp
  rw [hs o hop]
  simp only [Sem.run_bind, hr, Result.andThen_ok, Sem.run_pure, Oper.upon, hd]
  exact hK
/-- which operation it is, and what it waited for -/
theorem Reg.is {tI tB : TypeId} (h : Reg ops tI tB) {i : Nat} (hi : i < 12) : ∃ d op js, Is ops i d op js := by
  have hc : i = 0 ∨ i = 1 ∨ i = 2 ∨ i = 3 ∨ i = 4 ∨ i = 5 ∨ i = 6 ∨ i = 7 ∨ i = 8 ∨ i = 9 ∨ i = 10 ∨ i = 11 := by omega
  rcases hc with rfl | rfl | rfl | rfl | rfl | rfl | rfl | rfl | rfl | rfl | rfl | rfl
  · exact ⟨_, _, _, h.o0⟩
  · exact ⟨_, _, _, h.o1⟩
  · exact ⟨_, _, _, h.o2⟩
  · exact ⟨_, _, _, h.o3⟩
  · exact ⟨_, _, _, h.o4⟩
  · exact ⟨_, _, _, h.o5⟩
  · exact ⟨_, _, _, h.o6⟩
  · exact ⟨_, _, _, h.o7⟩
  · exact ⟨_, _, _, h.o8⟩
  · exact ⟨_, _, _, h.o9⟩
  · exact ⟨_, _, _, h.o10⟩
  · exact ⟨_, _, _, h.o11⟩
theorem waited {i : Nat} {d : Option Tmp} {op : Op} {js : List Nat} (h : Is ops i d op js) {L : Array Bool} (hi : i ∈ Region.ready .any ops L) : ∀ j ∈ js, L.getD j false = true := by
  obtain ⟨o, ho, _, _, _, hn, _⟩ := h.at'
  obtain ⟨_, o', ho', hall⟩ := mem_ready.1 hi
  rw [ho] at ho'
  injection ho' with ho'
  subst ho'
  exact needs_of hn hall
/-- nothing ready: all is done -/
theorem Reg.all {tI tB : TypeId} (h : Reg ops tI tB) {L : Array Bool} (hL : L.size = 12) (hr : Region.ready .any ops L = []) : ∀ i, i < 12 → L.getD i false = true := by
  intro i
  induction i using Nat.strongRecOn with
  | _ i ih =>
    intro hi
    obtain ⟨d, op, js, hI⟩ := h.is hi
    obtain ⟨o, ho, _, _, _, _, he⟩ := hI.at'
    cases hg : L.getD i false with
    | true => rfl
    | false =>
      exfalso
      have hm : i ∈ Region.ready .any ops L := by
        rw [mem_ready]
        refine ⟨?_, o, ho, fun e hee hb => ?_⟩
        · have hil : i < L.size := by omega
          simp [hil] at hg ⊢
          exact hg
        · have h1 := Array.all_eq_true_iff_forall_mem.1 he e hee
          simp only [hb, Bool.not_true, Bool.false_or, decide_eq_true_eq] at h1
          exact ih e.on h1 (by omega)
      rw [hr] at hm
      cases hm
def left (L : Array Bool) : Nat := L.toList.count false
theorem left_set {L : Array Bool} {i : Nat} (hi : L.getD i true = false) : left (L.setIfInBounds i true) + 1 = left L := by
  have hil : i < L.toList.length := by
    rcases Nat.lt_or_ge i L.size with h | h
    · simpa using h
    · simp [Array.getElem?_eq_none h] at hi
  have hg : L.toList[i] = false := by
    have : i < L.size := by simpa using hil
    simp [this] at hi
    simpa using hi
  have hpos : 0 < L.toList.count false := List.count_pos_iff.2 (by rw [← hg]; exact List.getElem_mem hil)
  unfold left
  rw [Array.toList_setIfInBounds, List.count_set hil, hg]
  show L.toList.count false - 1 + 0 + 1 = L.toList.count false
  omega
theorem left_zero {L : Array Bool} (h : left L = 0) : Region.ready .any ops L = [] := by
  rw [List.eq_nil_iff_forall_not_mem]
  intro i hi
  have h1 := (mem_ready.1 hi).1
  have := left_set h1
  omega
variable {a0 : Act} {w0 : World} {tI tB eI eB : TypeId} {k : Nat} {zI zB : Value}
/-- the frame behind it -/
def fin (k : Nat) (a : Act) (n1 n3 n5 n6 n7 n8 : Nat) : Act :=
  ((((((((a.put (some 15) (.int .i64 (k : Int))).put (some 16) (.slice (some ⟨n1, 0, none⟩) k k)).put (some 17) (.int .i64 (k : Int))).put (some 18) (.slice (some ⟨n3, 0, none⟩) k k)).put (some 19) (.int .i64 (k : Int))).put (some 20) (.slice (some ⟨n5, 0, none⟩) k k)).put (some 5) (.pointer (some ⟨n6, 0, none⟩))).put (some 6) (.pointer (some ⟨n7, 0, none⟩))).put (some 7) (.pointer (some ⟨n8, 0, none⟩))
theorem Inv.fin {L : Array Bool} {n : Nat → Nat} {a : Act} {w : World} (h : Inv a0 w0 tI tB eI eB k zI zB L n a w) (hall : ∀ i, i < 12 → L.getD i false = true) (hsz : ∀ s ∈ slots, s < a0.tmps.size) : a = any6.fin k a0 (n 1) (n 3) (n 5) (n 6) (n 7) (n 8) := by
  have h1 := h.keep
  have h2 := fun i hi => h.vals i hi (hall i (by omega))
  have h3 := h.dfr
  have h4 := h.tsz
  clear h hall
  obtain ⟨T, D⟩ := a
  obtain ⟨T0, D0⟩ := a0
  simp only at h1 h2 h3 h4 hsz
  subst h3
  unfold any6.fin
  simp only [Act.put, Act.mk.injEq, and_true]
  refine Array.ext_getElem? fun j => ?_
  by_cases hj : j ∈ slots
  · have hjs := hsz j hj
    simp only [slots, List.mem_cons, List.not_mem_nil, or_false] at hj
    rcases hj with rfl | rfl | rfl | rfl | rfl | rfl | rfl | rfl | rfl
    · rw [show (15 : Nat) = slot 0 from rfl, h2 0 (by omega)]; simp [Array.getElem?_setIfInBounds, hjs, slot, val]
    · rw [show (16 : Nat) = slot 1 from rfl, h2 1 (by omega)]; simp [Array.getElem?_setIfInBounds, hjs, slot, val]
    · rw [show (17 : Nat) = slot 2 from rfl, h2 2 (by omega)]; simp [Array.getElem?_setIfInBounds, hjs, slot, val]
    · rw [show (18 : Nat) = slot 3 from rfl, h2 3 (by omega)]; simp [Array.getElem?_setIfInBounds, hjs, slot, val]
    · rw [show (19 : Nat) = slot 4 from rfl, h2 4 (by omega)]; simp [Array.getElem?_setIfInBounds, hjs, slot, val]
    · rw [show (20 : Nat) = slot 5 from rfl, h2 5 (by omega)]; simp [Array.getElem?_setIfInBounds, hjs, slot, val]
    · rw [show (5 : Nat) = slot 6 from rfl, h2 6 (by omega)]; simp [Array.getElem?_setIfInBounds, hjs, slot, val]
    · rw [show (6 : Nat) = slot 7 from rfl, h2 7 (by omega)]; simp [Array.getElem?_setIfInBounds, hjs, slot, val]
    · rw [show (7 : Nat) = slot 8 from rfl, h2 8 (by omega)]; simp [Array.getElem?_setIfInBounds, hjs, slot, val]
  · rw [h1 j hj]
    simp only [slots, List.mem_cons, List.not_mem_nil, or_false, not_or] at hj
    obtain ⟨p1, p2, p3, p4, p5, p6, p7, p8, p9⟩ := hj
    rw [Array.getElem?_setIfInBounds_ne (Ne.symm p9), Array.getElem?_setIfInBounds_ne (Ne.symm p8), Array.getElem?_setIfInBounds_ne (Ne.symm p7), Array.getElem?_setIfInBounds_ne (Ne.symm p6), Array.getElem?_setIfInBounds_ne (Ne.symm p5), Array.getElem?_setIfInBounds_ne (Ne.symm p4), Array.getElem?_setIfInBounds_ne (Ne.symm p3), Array.getElem?_setIfInBounds_ne (Ne.symm p2), Array.getElem?_setIfInBounds_ne (Ne.symm p1)]
theorem up_to {n : Nat → Nat} {i m : Nat} : (∀ j, j ≠ i → (fun x => if x = i then m else n x) j = n j) ∧ (fun x => if x = i then m else n x) i = m := ⟨fun j hj => if_neg hj, if_pos rfl⟩
theorem Inv.ev {L : Array Bool} {n : Nat → Nat} {a : Act} {w : World} (h : Inv a0 w0 tI tB eI eB k zI zB L n a w) {i : Nat} (hi : i < 9) (hL : L.getD i false = true) : a.eval (.tmp (slot i)) = val k n i := by
  have := h.vals i hi hL
  simp [Act.eval, this]
/-- whatever the order: six new blocks, apart -/
theorem made6 (hO : Reg ops tI tB) (hR : Runs P tI tB eI eB k zI zB) (h4 : a0.tmps[4]? = some (.int .i64 (k : Int))) (hsz : ∀ s ∈ slots, s < a0.tmps.size)
    (hQ : ∀ (n1 n3 n5 n6 n7 n8 : Nat) (w : World), [n1, n3, n5, n6, n7, n8].Nodup → (∀ x ∈ [n1, n3, n5, n6, n7, n8], w0.heap.size ≤ x) → Blk w n1 eI (rep k zI) → Blk w n3 eB (rep k zB) → Blk w n5 eI (rep k zI) →
      Blk w n6 tI #[.slice (some ⟨n1, 0, none⟩) k k] → Blk w n7 tB #[.slice (some ⟨n3, 0, none⟩) k k] → Blk w n8 tI #[.slice (some ⟨n5, 0, none⟩) k k] → Below w0.heap.size w0 w → Q .normal (fin k a0 n1 n3 n5 n6 n7 n8) w) :
    wpAny P .any ops Q ops.size (Array.replicate ops.size false) a0 w0 := by
  rw [hO.size]
  have fin' : ∀ (L : Array Bool) (n : Nat → Nat) (a : Act) (w : World), Inv a0 w0 tI tB eI eB k zI zB L n a w → Region.ready .any ops L = [] → Q .normal a w := fun L n a w h hr => by
    have hall := hO.all h.sz hr
    rw [h.fin hall hsz]
    have hb := fun i hi => h.blk i hi (hall i (by have := items_lt i hi; omega))
    have ha := fun i hi j hj hij => h.ap i hi j hj hij (hall i (by have := items_lt i hi; omega)) (hall j (by have := items_lt j hj; omega))
    have c9 := hall 9 (by omega)
    have c10 := hall 10 (by omega)
    have c11 := hall 11 (by omega)
    refine hQ _ _ _ _ _ _ w ?_ ?_ (by simpa [ty, ct] using (hb 1 (by decide)).2) (by simpa [ty, ct] using (hb 3 (by decide)).2) (by simpa [ty, ct] using (hb 5 (by decide)).2)
      (by have := (hb 6 (by decide)).2; unfold ty ct at this; rw [c9] at this; simpa using this) (by have := (hb 7 (by decide)).2; unfold ty ct at this; rw [c10] at this; simpa using this) (by have := (hb 8 (by decide)).2; unfold ty ct at this; rw [c11] at this; simpa using this) h.bel
    · simp only [List.nodup_cons, List.mem_cons, List.not_mem_nil, or_false, not_or, List.nodup_nil, and_true, not_false_eq_true]
      exact ⟨⟨ha 1 (by decide) 3 (by decide) (by decide), ha 1 (by decide) 5 (by decide) (by decide), ha 1 (by decide) 6 (by decide) (by decide), ha 1 (by decide) 7 (by decide) (by decide), ha 1 (by decide) 8 (by decide) (by decide)⟩,
        ⟨ha 3 (by decide) 5 (by decide) (by decide), ha 3 (by decide) 6 (by decide) (by decide), ha 3 (by decide) 7 (by decide) (by decide), ha 3 (by decide) 8 (by decide) (by decide)⟩,
        ⟨ha 5 (by decide) 6 (by decide) (by decide), ha 5 (by decide) 7 (by decide) (by decide), ha 5 (by decide) 8 (by decide) (by decide)⟩,
        ⟨ha 6 (by decide) 7 (by decide) (by decide), ha 6 (by decide) 8 (by decide) (by decide)⟩, ha 7 (by decide) 8 (by decide) (by decide)⟩
    · intro x hx
      simp only [List.mem_cons, List.not_mem_nil, or_false] at hx
      rcases hx with rfl | rfl | rfl | rfl | rfl | rfl
      · exact (hb 1 (by decide)).1
      · exact (hb 3 (by decide)).1
      · exact (hb 5 (by decide)).1
      · exact (hb 6 (by decide)).1
      · exact (hb 7 (by decide)).1
      · exact (hb 8 (by decide)).1
  refine any_inv (fun f L a w => left L = f ∧ ∃ n, Inv a0 w0 tI tB eI eB k zI zB L n a w) ?_ ?_ 12 _ a0 w0 ⟨rfl, fun _ => 0, ⟨by simp, rfl, rfl, fun _ _ => rfl, fun i hi h => ?_, Below.refl _ _, fun i hi h => ?_, fun i _ j _ _ h _ => ?_, fun h => ?_, fun h => ?_, fun h => ?_⟩⟩
  · rintro L a w ⟨h0, n, hI⟩
    exact ⟨left_zero h0, fin' L n a w hI (left_zero h0)⟩
  · rintro f L a w ⟨hf, n, hI⟩
    refine ⟨fun hr => fin' L n a w hI hr, fun i hi => ?_⟩
    have hL := (mem_ready.1 hi).1
    have hlf := left_set hL
    have hil : i < 12 := by
      obtain ⟨_, o, ho, _⟩ := mem_ready.1 hi
      have := (Array.getElem?_eq_some_iff.1 ho).1
      rwa [hO.size] at this
    have e4 : a.eval (.tmp 4) = .int .i64 (k : Int) := by
      have := hI.keep 4 (by decide)
      rw [h4] at this
      simp [Act.eval, this]
    have mv : ∀ {j : Nat}, (j = 0 ∨ j = 2 ∨ j = 4) → i = j → left (L.setIfInBounds j true) = f ∧ ∃ n', Inv a0 w0 tI tB eI eB k zI zB (L.setIfInBounds j true) n' (a.put (some (slot j)) (a.eval (.tmp 4))) w := fun {j} hj e => by
      subst e
      refine ⟨by omega, n, hI.step (by omega) hL (hsz _ (slot_mem _ (by omega))) (fun _ _ => rfl) ?_ hI.bel (fun _ _ _ h => h) (fun hm => ?_)⟩
      · rw [e4]; unfold val; rw [if_pos hj]
      · exfalso
        simp only [items, List.mem_cons, List.not_mem_nil, or_false] at hm
        omega
    have nw : ∀ {j : Nat} {t : TypeId} {cs : Array Value} {v : Value}, j ∈ items → i = j → t = ty tI tB eI eB j → cs = ct k zI zB L (fun x => if x = j then w.heap.size else n x) j → v = val k (fun x => if x = j then w.heap.size else n x) j →
        left (L.setIfInBounds j true) = f ∧ ∃ n', Inv a0 w0 tI tB eI eB k zI zB (L.setIfInBounds j true) n' (a.put (some (slot j)) v) (w.alloc (.cells cs t)) := fun {j t cs v} hj e ht hcs hv => by
      subst e
      have hj9 := items_lt _ hj
      refine ⟨by omega, _, hI.step hj9 hL (hsz _ (slot_mem _ hj9)) (up_to (n := n)).1 hv (hI.bel.alloc hI.bel.size _) (fun _ _ _ h => h.alloc _) (fun _ => ?_)⟩
      rw [if_pos rfl, ← hcs, ← ht]
      exact ⟨hI.bel.size, Blk.new _ _ _, Nat.le_refl _⟩
    have hLf := getD_flip hL
    have hc : i = 0 ∨ i = 1 ∨ i = 2 ∨ i = 3 ∨ i = 4 ∨ i = 5 ∨ i = 6 ∨ i = 7 ∨ i = 8 ∨ i = 9 ∨ i = 10 ∨ i = 11 := by omega
    rcases hc with rfl | rfl | rfl | rfl | rfl | rfl | rfl | rfl | rfl | rfl | rfl | rfl
    · exact step_move hO.o0 (mv (j := 0) (by omega) rfl)
    · have e := hI.ev (i := 0) (by omega) (waited hO.o1 hi 0 (by simp))
      refine step_value hO.o1 (fun o ho => by unfold execOp; rw [ho]) (s := Instr.makeSlice tI (a.eval (.tmp 15)) (a.eval (.tmp 15))) (w' := w.alloc (.cells (rep k zI) eI)) (v := .slice (some ⟨w.heap.size, 0, none⟩) k k) ?_ (nw (j := 1) (by decide) rfl rfl rfl rfl)
      rw [show a.eval (.tmp 15) = .int .i64 (k : Int) from e]; exact hR.mkI w
    · exact step_move hO.o2 (mv (j := 2) (by omega) rfl)
    · have e := hI.ev (i := 2) (by omega) (waited hO.o3 hi 2 (by simp))
      refine step_value hO.o3 (fun o ho => by unfold execOp; rw [ho]) (s := Instr.makeSlice tB (a.eval (.tmp 17)) (a.eval (.tmp 17))) (w' := w.alloc (.cells (rep k zB) eB)) (v := .slice (some ⟨w.heap.size, 0, none⟩) k k) ?_ (nw (j := 3) (by decide) rfl rfl rfl rfl)
      rw [show a.eval (.tmp 17) = .int .i64 (k : Int) from e]; exact hR.mkB w
    · exact step_move hO.o4 (mv (j := 4) (by omega) rfl)
    · have e := hI.ev (i := 4) (by omega) (waited hO.o5 hi 4 (by simp))
      refine step_value hO.o5 (fun o ho => by unfold execOp; rw [ho]) (s := Instr.makeSlice tI (a.eval (.tmp 19)) (a.eval (.tmp 19))) (w' := w.alloc (.cells (rep k zI) eI)) (v := .slice (some ⟨w.heap.size, 0, none⟩) k k) ?_ (nw (j := 5) (by decide) rfl rfl rfl rfl)
      rw [show a.eval (.tmp 19) = .int .i64 (k : Int) from e]; exact hR.mkI w
    · refine step_value hO.o6 (fun o ho => by unfold execOp; rw [ho]) (s := Instr.alloc tI true (.tuple #[])) (w' := w.alloc (.cells #[.slice none 0 0] tI)) (v := .pointer (some ⟨w.heap.size, 0, none⟩)) (hR.alI w) (nw (j := 6) (by decide) rfl rfl ?_ rfl)
      unfold ct
      have h9 : L.getD 9 false = false := by
        cases h : L.getD 9 false with
        | false => rfl
        | true => have := (hI.d9 h).1; rw [hLf] at this; cases this
      rw [h9]; rfl
    · refine step_value hO.o7 (fun o ho => by unfold execOp; rw [ho]) (s := Instr.alloc tB true (.tuple #[])) (w' := w.alloc (.cells #[.slice none 0 0] tB)) (v := .pointer (some ⟨w.heap.size, 0, none⟩)) (hR.alB w) (nw (j := 7) (by decide) rfl rfl ?_ rfl)
      unfold ct
      have h9 : L.getD 10 false = false := by
        cases h : L.getD 10 false with
        | false => rfl
        | true => have := (hI.d10 h).1; rw [hLf] at this; cases this
      rw [h9]; rfl
    · refine step_value hO.o8 (fun o ho => by unfold execOp; rw [ho]) (s := Instr.alloc tI true (.tuple #[])) (w' := w.alloc (.cells #[.slice none 0 0] tI)) (v := .pointer (some ⟨w.heap.size, 0, none⟩)) (hR.alI w) (nw (j := 8) (by decide) rfl rfl ?_ rfl)
      unfold ct
      have h9 : L.getD 11 false = false := by
        cases h : L.getD 11 false with
        | false => rfl
        | true => have := (hI.d11 h).1; rw [hLf] at this; cases this
      rw [h9]; rfl
    · have x6 := waited hO.o9 hi 6 (by simp)
      have x1 := waited hO.o9 hi 1 (by simp)
      refine step_unit hO.o9 (fun o ho => by unfold execOp; rw [ho]) (s := Instr.storeAt tI (a.eval (.tmp 5)) (a.eval (.tmp 16))) (w' := w.setCell ⟨n 6, 0, none⟩ (.slice (some ⟨n 1, 0, none⟩) k k)) ?_ ⟨by omega, n, hI.store (Or.inl ⟨rfl, rfl, rfl⟩) hL x6 x1⟩
      rw [show a.eval (.tmp 5) = .pointer (some ⟨n 6, 0, none⟩) from hI.ev (i := 6) (by omega) x6, show a.eval (.tmp 16) = .slice (some ⟨n 1, 0, none⟩) k k from hI.ev (i := 1) (by omega) x1]
      refine hR.stI w (n 6) (n 1) ?_
      have := (hI.blk 6 (by decide) x6).2
      unfold ty ct at this
      rw [hLf] at this
      simpa using this
    · have x6 := waited hO.o10 hi 7 (by simp)
      have x1 := waited hO.o10 hi 3 (by simp)
      refine step_unit hO.o10 (fun o ho => by unfold execOp; rw [ho]) (s := Instr.storeAt tB (a.eval (.tmp 6)) (a.eval (.tmp 18))) (w' := w.setCell ⟨n 7, 0, none⟩ (.slice (some ⟨n 3, 0, none⟩) k k)) ?_ ⟨by omega, n, hI.store (Or.inr (Or.inl ⟨rfl, rfl, rfl⟩)) hL x6 x1⟩
      rw [show a.eval (.tmp 6) = .pointer (some ⟨n 7, 0, none⟩) from hI.ev (i := 7) (by omega) x6, show a.eval (.tmp 18) = .slice (some ⟨n 3, 0, none⟩) k k from hI.ev (i := 3) (by omega) x1]
      refine hR.stB w (n 7) (n 3) ?_
      have := (hI.blk 7 (by decide) x6).2
      unfold ty ct at this
      rw [hLf] at this
      simpa using this
    · have x6 := waited hO.o11 hi 8 (by simp)
      have x1 := waited hO.o11 hi 5 (by simp)
      refine step_unit hO.o11 (fun o ho => by unfold execOp; rw [ho]) (s := Instr.storeAt tI (a.eval (.tmp 7)) (a.eval (.tmp 20))) (w' := w.setCell ⟨n 8, 0, none⟩ (.slice (some ⟨n 5, 0, none⟩) k k)) ?_ ⟨by omega, n, hI.store (Or.inr (Or.inr ⟨rfl, rfl, rfl⟩)) hL x6 x1⟩
      rw [show a.eval (.tmp 7) = .pointer (some ⟨n 8, 0, none⟩) from hI.ev (i := 8) (by omega) x6, show a.eval (.tmp 20) = .slice (some ⟨n 5, 0, none⟩) k k from hI.ev (i := 5) (by omega) x1]
      refine hR.stI w (n 8) (n 5) ?_
      have := (hI.blk 8 (by decide) x6).2
      unfold ty ct at this
      rw [hLf] at this
      simpa using this
  · exfalso
    have : i < 12 := by omega
    simp [this] at h
  · exfalso
    have := items_lt i hi
    simp [show i < 12 by omega] at h
  · exfalso
    have := items_lt i (by assumption)
    simp [show i < 12 by omega] at h
  · simp at h
  · simp at h
  · simp at h
end
end Go.Proofs.Ytgffabjajbgbjaa.any6
