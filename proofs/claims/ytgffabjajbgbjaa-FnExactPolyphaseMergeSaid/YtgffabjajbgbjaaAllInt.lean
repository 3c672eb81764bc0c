/- 'all' over a list: whether a condition holds for all elements. Condition: the condition's own contract. -/
import Derived.Test.YtgffabjajbgbjaaMem
set_option linter.unusedVariables false
set_option linter.unusedSimpArgs false
namespace Go.Proofs.Ytgffabjajbgbjaa.allInt
open Go.RowKit Go.Proofs.Ytgffabjajbgbjaa.mem

/-- what is asked of a condition: it answers p, and changes nothing below the heap's end -/
def Pays (f : Nat) (cap : Array Value) (p : Int → Bool) (ss : List Int) (w : World) : Prop :=
  Enters f ∧ ∀ s, s ∈ ss → ∀ W : World, Below w.heap.size w W → Calls Try.prog f (#[(Value.int .i64) s] ++ cap) W fun e w' => e = .returned (.bool (p s)) ∧ Below W.heap.size W w'

def look (q : Int → Bool) (ss : List Int) (k : Nat) : Prop := ∀ j (h : j < ss.length), j < k → q ss[j] = false
theorem look_all {q : Int → Bool} {ss : List Int} (h : look q ss ss.length) : ss.any q = false := by
  rw [List.any_eq_false]
  intro x hx
  obtain ⟨j, hj, rfl⟩ := List.mem_iff_getElem.1 hx
  rw [h j hj hj]; simp
/-- the index of the first element that q likes, or -1 -/
def Found (q : Int → Bool) (ss : List Int) (i : Int) : Prop := decide (0 ≤ i) = ss.any q
def Ends (q : Int → Bool) (ss : List Int) (w : World) (e : Ending) (w' : World) : Prop := (∃ i : Int, Found q ss i ∧ e = .returned (.int .i64 i)) ∧ Below w.heap.size w w'

set_option maxHeartbeats 400000 in
theorem index_any (A : Option Addr) (c : Nat) (ss : List Int) (f : Nat) (x : Value) (q : Int → Bool) (w : World) (hn2 : ss.length ≤ maxLen)
    (hr : Rd w 1 A ss.length (ints ss)) (hq : Pays f #[x] q ss w) :
    Calls Try.prog 99 #[.slice A ss.length c, .func (.func f) #[] #[x]] w (Ends q ss w) := by
  unfold maxLen at hn2
  obtain ⟨hent, hq⟩ := hq
  unfold Enters at hent
  have HQ := Lib.hid hq
  clear hq
  go_enter Try.func99, Try.ntmps99
  go_wp2
  go_loopw [8] (fun i wr => ∃ k : Nat, k ≤ ss.length ∧ i = .int .i64 k ∧ look q ss k ∧ Below w.heap.size w wr) (fun i _ => ss.length - (intOf i).toNat)
  case atStart => exact ⟨0, by omega, rfl, fun j h h0 => absurd h0 (by omega), Below.refl _ _⟩
  case round =>
    obtain ⟨k, hk, rfl, hl, hb⟩ := hrel
    by_cases hlt : k < ss.length
    · obtain ⟨b, off, rfl, hc⟩ := (hr.below hb).int hlt
      go_wp2_with fail
      refine (HQ.out ss[k] (List.getElem_mem hlt) _ hb).mono ?_
      rintro e w1 ⟨rfl, hb1⟩
      have hb2 := below_step hb hb1
      clear hc
      by_cases hqk : q ss[k] = true
      · have HF : Found q ss k := by
          have : ss.any q = true := List.any_eq_true.2 ⟨ss[k], List.getElem_mem hlt, hqk⟩
          simp [Found, this]
        go_wp2
        go_ret
        exact ⟨⟨k, HF, rfl⟩, hb2⟩
      · have hqk' : q ss[k] = false := by simpa using hqk
        have hl2 : look q ss (k + 1) := fun j h h0 => by
          by_cases e : j = k
          · subst e; exact hqk'
          · exact hl j h (by omega)
        clear hl hqk
        go_wp2
        go_roundw
        case rel => exact ⟨k + 1, by omega, by go_num, hl2, hb2⟩
        case measure => simp [intOf]; omega
    · have HF : Found q ss (-1) := by
        have e : k = ss.length := by omega
        subst e
        simp [Found, look_all hl]
      clear hl
      go_wp2
      go_ret
      exact ⟨⟨-1, HF, rfl⟩, hb⟩

set_option maxHeartbeats 400000 in
theorem contains_any (A : Option Addr) (c : Nat) (ss : List Int) (f : Nat) (x : Value) (q : Int → Bool) (w : World) (hn2 : ss.length ≤ maxLen)
    (hr : Rd w 1 A ss.length (ints ss)) (hq : Pays f #[x] q ss w) :
    Calls Try.prog 87 #[.slice A ss.length c, .func (.func f) #[] #[x]] w fun e w' => e = .returned (.bool (ss.any q)) ∧ Below w.heap.size w w' := by
  go_enter Try.func87, Try.ntmps87
  go_wp2_with fail
  refine (index_any A c ss f x q w hn2 hr hq).mono ?_
  rintro e w1 ⟨⟨i, hi, rfl⟩, hb⟩
  have HI := Lib.hid hi
  clear hi
  go_wp2
  go_ret
  exact ⟨by rw [← HI.out]; rfl, hb⟩

set_option maxHeartbeats 400000 in
/-- the literal that 'all' hands on: not the condition -/
theorem not_any (f g : Nat) (p : Int → Bool) (s : Int) (W : World) (hent : Enters f) (hg : W.cell? ⟨g, 0, none⟩ = some (.func (.func f) #[] #[]))
    (hp : Calls Try.prog f #[(Value.int .i64) s] W fun e w' => e = .returned (.bool (p s)) ∧ Below W.heap.size W w') :
    Calls Try.prog 88 #[(Value.int .i64) s, .pointer (some ⟨g, 0, none⟩)] W fun e w' => e = .returned (.bool (!p s)) ∧ Below W.heap.size W w' := by
  have HP := Lib.hid hp
  clear hp
  unfold Enters at hent
  go_enter Try.func88, Try.ntmps88
  go_wp2_with fail
  refine HP.out.mono ?_
  rintro e w1 ⟨rfl, hb⟩
  go_wp2
  go_ret
  exact ⟨rfl, hb⟩

set_option maxRecDepth 100000 in
set_option maxHeartbeats 400000 in
theorem all_any (A : Option Addr) (c : Nat) (ss : List Int) (f : Nat) (p : Int → Bool) (w : World) (hn2 : ss.length ≤ maxLen)
    (hr : Rd w 1 A ss.length (ints ss)) (hp : Pays f #[] p ss w) :
    Calls Try.prog 64 #[.slice A ss.length c, .func (.func f) #[] #[]] w fun e w' => e = .returned (.bool (ss.all p)) ∧ Below w.heap.size w w' := by
  have hmf : ∀ (fn : Fn) (first cap : Array Value) (w : World), (Instr.makeFunc fn first cap).run Try.prog w = .ok (.func fn first cap) w := fun _ _ _ _ => rfl
  have hba : ∀ o, Below w.heap.size w (w.alloc o) := fun o => (Below.refl _ _).alloc (Nat.le_refl _) o
  go_enter Try.func64, Try.ntmps64
  go_wp2_with fail
  refine (contains_any A c ss 88 _ (fun s => !p s) _ hn2 (hr.alloc _) ?_).mono ?_
  · refine ⟨fun _ _ => rfl, ?_⟩
    intro s hs W hb
    have hsz := hb.size
    have hc : W.cell? ⟨w.heap.size, 0, none⟩ = some (.func (.func f) #[] #[]) := by
      rw [hb.cell (by simp), World.cell?_alloc_at _ _ _ _ rfl]; rfl
    exact not_any f w.heap.size p s W hp.1 hc (hp.2 s hs W ((hba _).trans (hb.mono (by simp))))
  rintro e w1 ⟨rfl, hb⟩
  have hb2 := below_step (hba _) hb
  go_wp2
  go_ret
  refine ⟨?_, hb2⟩
  rw [List.all_eq_not_any_not]
  rfl
end Go.Proofs.Ytgffabjajbgbjaa.allInt
