/- Maps that are ranged over: a store at a key that is there; how many entries a map has. No program. -/
import Derived.Test.YtgngoedooemboaaMem
import Derived.Maps.RangeWalk
import Derived.Maps.OwnOps
import Derived.Maps.OwnSet
import Derived.Maps.Ext
set_option linter.unusedVariables false
set_option linter.unusedSimpArgs false
namespace Go.Proofs.Ytgngoedooemboaa.maps
open Go Go.Maps Go.ChangeMaps Go.WideElems

section
variable {H : Type} {P : Program} {k : TypeId} {R : Value → Option (DataW H × List MemPlace)} {w : World} {b r n : Nat} {D : DataW H} {left : Lit → Bool} {cnt : Nat}
theorem any_sorted (f : Lit × DataW H → Bool) : ∀ l : List (Lit × DataW H), (l.foldr DataW.insert []).any f = l.any f
  | [] => rfl
  | x :: l => by rw [List.foldr_cons, Maps.any_insert, any_sorted f l]; rfl
theorem left_len (es : Array MapEntry) (seen : Array Nat) : (leftOf es seen).size = ((es.toList.map (·.born)).filter fun x => !seen.contains x).length := by
  unfold leftOf
  rw [← Array.length_toList, Array.toList_filter, List.filter_map, List.length_map]
  rfl
theorem ranges_put {t e : TypeId} (h : w.ranges P k R b r n D left cnt) (K : Keyed P k) (ht : P.underlying t = some (.map k e)) (hn : n < maxLen) {key val : Value} {kl : Lit} {d : DataW H} {ps : List MemPlace}
    (hkey : keyOf P k key = some kl) (hv : R val = some (d, ps)) (hh : Maps.has D kl = true) :
    ∃ w', (Instr.mapUpdate t (.map (some b)) key val).run P w = .ok () w' ∧ w'.ranges P k R b r n (D.put kl d) left cnt ∧ w.mapTurned w' b := by
  have hne := h.ne
  obtain ⟨es, clock, since, seen, c0, hb, F, hs, rfl, hr, hold, rfl, hl1, hl2, hsc, hsk⟩ := h
  have other : ∀ x ∈ es.toList, x.key ≠ key → (rg P k R x).1.sameKey kl = false := fun x hx hxk => by
    obtain ⟨y, hy⟩ := F.reads x hx
    refine Maps.sameKey_ne (fun e1 => hxk ?_)
    rw [rg_of hy] at e1
    exact K.inj (e1 ▸ rd_key hy) hkey
  have atkey : ∀ x ∈ es.toList, x.key = key → (rg P k R x).1 = kl := fun x hx hxk => by
    obtain ⟨y, hy⟩ := F.reads x hx
    have m1 := rd_key hy
    rw [hxk, hkey] at m1
    rw [rg_of hy]
    exact (Option.some.inj m1).symm
  rcases K.find w hkey es.toList F.keys with ⟨h1, h2⟩ | ⟨j, e0, h1, h2, h3⟩
  · exfalso
    rw [Maps.has_eq, any_sorted, List.any_map, List.any_eq_true] at hh
    obtain ⟨x, hx, hxk⟩ := hh
    have := other x hx (h2 x hx)
    simp only [Function.comp] at hxk
    rw [this] at hxk
    cases hxk
  · obtain ⟨es', clock', hrun, F', hput, _, _, hwho⟩ := Maps.fit_store (R' := R) K ht hb F (Nat.lt_of_le_of_lt hs hn) (fun _ _ _ _ hz => hz) hkey hv
    have hj : es[j]? = some e0 := by simpa using h2
    have hrun2 : (Instr.mapUpdate t (.map (some b)) key val).run P w = .ok () (setBlock w b (.map (es.modify j fun e' => { e' with key := key, val := val }) clock)) := by
      simp [Instr.mapUpdate, run_underlying ht, MapKept.run_getObj_map hb, K.check w false hkey, h1, hj, h3, K.stays w hkey, MapKept.run_setObj_map _ hb, Result.andThen, setBlock]
    have heq : es' = es.modify j (fun e' => { e' with key := key, val := val }) ∧ clock' = clock := by
      rw [hrun] at hrun2
      injection hrun2 with _ h4
      have h5 := congrArg (fun W : World => W.heap[b]?) h4
      simp only [heap_setBlock_same hb] at h5
      injection h5 with h5
      injection h5 with h5 h6
      exact ⟨h5, h6⟩
    obtain ⟨he1, rfl⟩ := heq
    have hlist : es'.toList = es.toList.set j { e0 with key := key, val := val } := by rw [he1, Array.toList_modify, modify_eq_set _ _ _ _ h2]
    have hjl : j < es.toList.length := (List.getElem?_eq_some_iff.1 h2).1
    have he0 : e0 ∈ es.toList := List.mem_of_getElem? h2
    have hborn : es'.toList.map (·.born) = es.toList.map (·.born) := by
      rw [hlist, List.map_set]
      refine List.ext_getElem? fun i => ?_
      rw [List.getElem?_set]
      split
      · rename_i e1
        subst e1
        rw [List.getElem?_map, h2]
        rw [if_pos (by rw [List.length_map]; exact hjl)]
        rfl
      · rfl
    have who : ∀ x ∈ es'.toList, x = { e0 with key := key, val := val } ∨ (x ∈ es.toList ∧ x.key ≠ key) := by
      intro x hx
      rcases hwho x hx with h | ⟨hk1, hk2⟩
      · exact Or.inr h
      · rw [hlist] at hx
        obtain ⟨i, hi, ex⟩ := List.getElem_of_mem hx
        rw [List.getElem_set] at ex
        split at ex
        · exact Or.inl ex.symm
        · rename_i hne'
          have hi' : i < es.toList.length := by simpa using hi
          exact absurd (hk1.trans h3.symm) (other_key F h2 (by rw [List.getElem?_eq_getElem hi', ex]) (fun e1 => hne' e1.symm))
    have hnew : ({ e0 with key := key, val := val } : MapEntry) ∈ es'.toList := by
      rw [hlist]
      exact List.mem_iff_getElem.2 ⟨j, by simpa using hjl, by simp⟩
    have hrn : (rg P k R { e0 with key := key, val := val }).1 = kl := by rw [rg_of (rd_mk hkey hv)]
    have hsz : es'.size = es.size := by rw [← Array.length_toList, hlist, List.length_set, Array.length_toList]
    refine ⟨_, hrun, ⟨es', clock', since, seen, c0, heap_setBlock_same hb _, F', by rw [hsz]; exact hs, by rw [DataW.put_eq, hput], (heap_setBlock_other hb _ hne).trans hr, fun x hx => ?_, ?_, fun x hx => ?_, fun x0 hx0 => ?_, hsc, hsk⟩, ⟨es, clock', es', clock', hb, rfl⟩⟩
    · rcases who x hx with rfl | ⟨hx', _⟩
      · exact hold e0 he0
      · exact hold x hx'
    · rw [left_len, left_len, hborn]
    · rcases who x hx with rfl | ⟨hx', _⟩
      · rw [hrn, ← atkey e0 he0 h3]; exact hl1 e0 he0
      · exact hl1 x hx'
    · obtain ⟨x, hx, rfl⟩ := hl2 x0 hx0
      by_cases hxk : x.key = key
      · exact ⟨_, hnew, by rw [hrn, atkey x hx hxk]⟩
      · refine ⟨x, ?_, rfl⟩
        obtain ⟨i, hi⟩ := List.getElem?_of_mem hx
        have hij : j ≠ i := fun e1 => hxk (by subst e1; rw [h2] at hi; cases hi; exact h3)
        rw [hlist]
        exact List.mem_of_getElem? (i := i) (by rw [List.getElem?_set_ne hij]; exact hi)
/-- the same at the operation -/
theorem mapUpdate_ranges (w : World) {ops : Array Oper} {rest : List Oper} {o : Oper} {a : Act} {Q : Exit → Act → World → Prop}
    (hg : o.guard = none) (m x v : Operand) (t : TypeId) (hop : o.op = Op.mapUpdate t m x v)
    (k e : TypeId) (K : Keyed P k) (ht : P.underlying t = some (.map k e)) (R : Value → Option (DataW H × List MemPlace)) (b r n : Nat) (D : DataW H) (left : Lit → Bool) (cnt : Nat)
    (hm : a.eval m = .map (some b)) (h : w.ranges P k R b r n D left cnt) (hn : n < maxLen) (key val : Value) (kl : Lit) (hx : a.eval x = key) (hv : a.eval v = val) (hkey : keyOf P k key = some kl)
    (d : DataW H) (ps : List MemPlace) (hval : R val = some (d, ps)) (hh : Maps.has D kl = true)
    (hK : ∀ w', w'.ranges P k R b r n (D.put kl d) left cnt → w.mapTurned w' b → wpList P ops Q rest (a.put o.dst undef) w') :
    wpList P ops Q (o :: rest) a w := by
  refine wpList_plain hg fun K' hK' => ?_
  obtain ⟨w', hrun, r1, r2⟩ := ranges_put h K ht hn hkey hval hh
  unfold Oper.wp
  simp [execOp, hop, hm, hx, hv, hrun, Result.andThen]
  exact hK' _ _ (hK w' r1 r2)
/-- a map has as many entries as a list without repeats that holds just its keys -/
theorem size_keys (hD : Maps.Canon D) (ks : List Lit) (hnd : ks.Nodup) (hk : ∀ x, Maps.has D x = true ↔ x ∈ ks) : Maps.size D = ks.length := by
  obtain ⟨es, rfl, hp, hl⟩ := hD
  rw [Maps.size_eq]
  have h1 : (es.map (·.1)).Nodup := by
    have := Maps.apart_of_rising hp
    exact List.pairwise_map.2 this
  have h2 : ∀ x, x ∈ es.map (·.1) ↔ x ∈ ks := by
    intro x
    rw [← hk, Maps.has_eq, List.any_eq_true, List.mem_map]
    constructor
    · rintro ⟨p, hp1, rfl⟩; exact ⟨p, hp1, WideAt.sameKey_self (hl p hp1)⟩
    · rintro ⟨p, hp1, hp2⟩
      refine ⟨p, hp1, ?_⟩
      by_cases e : p.1 = x
      · exact e
      · rw [Maps.sameKey_ne e] at hp2; cases hp2
  have := ((List.perm_ext_iff_of_nodup h1 hnd).2 h2).length_eq
  rwa [List.length_map] at this
end
end Go.Proofs.Ytgngoedooemboaa.maps
