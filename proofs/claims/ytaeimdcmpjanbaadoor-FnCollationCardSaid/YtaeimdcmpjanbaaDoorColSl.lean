/- The collation sort's plain law: the stable sort by keys; a key's length; a sort looks at its elements alone. No program. -/
import Derived.Test.YtaeimdcmpjanbaaDoorColT
import Derived.Test.YtaeimdcmpjanbaaDoorCmpS
import Derived.Test.YtaeimdcmpjanbaaDoorIns
import Derived.Test.YtaeimdcmpjanbaaDoorValidStr
set_option linter.unusedVariables false
set_option linter.unusedSimpArgs false
namespace Go.Proofs.YtaeimdcmpjanbaaDoor.colS
open Go.RowKit Go.Proofs.YtaeimdcmpjanbaaDoor.mem Go.Proofs.YtaeimdcmpjanbaaDoor.stb Go.Proofs.YtaeimdcmpjanbaaDoor.col Go.Proofs.YtaeimdcmpjanbaaDoor.cmap Go.Proofs.YtaeimdcmpjanbaaDoor.validStr

theorem pos_congr {α : Type} {lt lt' : α → α → Bool} (x : α) (l : List α) (h : ∀ y ∈ l, lt x y = lt' x y) : ∀ k, pos lt x l k = pos lt' x l k
  | 0 => rfl
  | k + 1 => by
    rw [pos, pos, pos_congr x l h k]
    have e : l[k]?.map (lt x) = l[k]?.map (lt' x) := by
      cases hk : l[k]? with
      | none => rfl
      | some y => simp [h y (List.mem_of_getElem? hk)]
    rw [e]
theorem stab_congr {α : Type} {lt lt' : α → α → Bool} (l : List α) (h : ∀ x ∈ l, ∀ y ∈ l, lt x y = lt' x y) : stab lt l = stab lt' l := by
  have key : ∀ k, k ≤ l.length → stab lt (l.take k) = stab lt' (l.take k) := by
    intro k
    induction k with
    | zero => intro _; simp [stab]
    | succ k ih =>
      intro hk
      rw [stab_take l (by omega), stab_take l (by omega), ih (by omega), insR, insR]
      have e : pos lt l[k] (stab lt' (l.take k)) (stab lt' (l.take k)).length = pos lt' l[k] (stab lt' (l.take k)) (stab lt' (l.take k)).length :=
        pos_congr _ _ (fun y hy => h _ (List.getElem_mem _) _ (List.mem_of_mem_take ((stab_perm _).mem_iff.1 hy))) _
      rw [e]
  have := key l.length (Nat.le_refl _)
  rwa [List.take_length] at this
theorem nat_len (g : UInt8 → UInt8) : ∀ (m : Nat) (l k : List UInt8), l.length ≤ m → nat g l = some k → k.length ≤ 2 * l.length
  | _, [], k, _, h => by rw [nat_nil] at h; cases h; simp
  | 0, b :: r, k, hm, _ => absurd hm (by simp)
  | m + 1, b :: r, k, hm, h => by
    by_cases hd : dig b = true
    · rw [nat_dig hd] at h
      obtain ⟨k1, h1, h⟩ := Option.bind_eq_some_iff.1 h
      obtain ⟨k2, h2, rfl⟩ := Option.map_eq_some_iff.1 h
      have e1 : ((b :: r).takeWhile dig).length + ((b :: r).dropWhile dig).length = (b :: r).length := by
        have := congrArg List.length (List.takeWhile_append_dropWhile (p := dig) (l := b :: r))
        rwa [List.length_append] at this
      have e2 := span_lt (r := r) hd
      have e3 := enc_len h1 (by rw [List.takeWhile_cons, if_pos hd]; simp)
      have e4 := nat_len g m _ _ (by omega) h2
      rw [List.length_append]
      omega
    · have hd' : dig b = false := by simpa using hd
      rw [nat_no hd'] at h
      obtain ⟨k2, h2, rfl⟩ := Option.map_eq_some_iff.1 h
      have := nat_len g m r k2 (by simp at hm; omega) h2
      simp; omega
theorem res_size (f n : Bool) (s : ByteArray) : (resS f n s).size ≤ 60 := by
  unfold resS key
  split
  · exact Nat.zero_le _
  · rename_i h
    cases hk : keyL f n s.data.toList with
    | none => exact Nat.zero_le _
    | some k =>
      have hl : s.data.toList.length = s.size := by rw [Array.length_toList]; rfl
      have : k.length ≤ 2 * s.size := by
        unfold keyL at hk
        split at hk
        · have := nat_len (low1 f) _ _ _ (Nat.le_refl _) hk
          omega
        · injection hk with hk
          subst hk
          rw [List.length_map]; omega
      show (k.toArray).size ≤ 60
      rw [List.size_toArray]; omega
def okC (f n : Bool) (ss : List ByteArray) : Bool := vstr ss && ss.all (resB f n)
def resC (f n : Bool) (ss : List ByteArray) : List ByteArray := if okC f n ss = true then stab (klt (resS f n)) ss else []
theorem okC_not {f n : Bool} {ss : List ByteArray} {s : ByteArray} (h : s ∈ ss) (hb : resB f n s = false) : okC f n ss = false := by
  unfold okC
  rw [Bool.and_eq_false_iff]
  refine Or.inr ?_
  rw [← Bool.not_eq_true, List.all_eq_true]
  intro h2
  have := h2 s h
  rw [hb] at this; cases this
theorem okC_all {f n : Bool} {ss : List ByteArray} (hv : vstr ss = true) (h : ∀ j (h : j < ss.length), resB f n ss[j] = true) : okC f n ss = true := by
  unfold okC
  rw [hv, Bool.true_and, List.all_eq_true]
  intro s hs
  obtain ⟨j, hj, rfl⟩ := List.mem_iff_getElem.1 hs
  exact h j hj
theorem weak_klt (L : ByteArray → ByteArray) : Weak (klt L) := by
  have h := ssLaw.weak
  exact ⟨fun x => h.irr _, fun x y z => h.tr _ _ _, fun x y z => h.ntr _ _ _⟩
theorem stab_keys {L : ByteArray → ByteArray} {f n : Bool} {ss : List ByteArray} (h : ∀ j (h : j < ss.length), L ss[j] = resS f n ss[j]) : stab (klt L) ss = stab (klt (resS f n)) ss := by
  refine stab_congr ss fun x hx y hy => ?_
  obtain ⟨i, hi, rfl⟩ := List.mem_iff_getElem.1 hx
  obtain ⟨j, hj, rfl⟩ := List.mem_iff_getElem.1 hy
  rw [klt, klt, h i hi, h j hj]
theorem stab_pairs (f n : Bool) (ss : List ByteArray) : ins22.fs (stab ins22.ltP (ss.map fun s => (s, resS f n s))) = stab (klt (resS f n)) ss := by
  rw [stab_map (lt := klt (resS f n)) (fun s => (s, resS f n s)) (fun _ _ => rfl), ins22.fs, List.map_map]
  exact List.map_id _
theorem KM_below {P : Program} {w w' : World} {b n : Nat} {k e : TypeId} {L : ByteArray → ByteArray} (h : KM P k e w b n L) (hb : Below w.heap.size w w') : KM P k e w' b n L :=
  h.kept (row := none) ⟨hb.os, hb.tape, hb.output, hb.size, fun j hj _ => hb.block j hj⟩ (by simp)
end Go.Proofs.YtaeimdcmpjanbaaDoor.colS
