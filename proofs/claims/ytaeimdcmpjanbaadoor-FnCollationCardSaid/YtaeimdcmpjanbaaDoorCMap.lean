/- A map from strings to strings that a call owns, as a function on strings: what a look-up gives, what an entry turns. No condition. -/
import Derived.Test.YtaeimdcmpjanbaaDoorMem
import Derived.Maps.Own
import Derived.Maps.OwnOps
import Derived.Maps.StringElems
import Derived.Maps.Views
import Derived.Maps.Ext
import Derived.StringKeys
set_option linter.unusedVariables false
set_option linter.unusedSimpArgs false
namespace Go.Proofs.YtaeimdcmpjanbaaDoor.cmap
open Go Go.Maps Go.MapKept Go.WideMaps

theorem out_of_string {P : Program} {e : TypeId} (he : P.underlying e = some .string) : plainElem (H := Unit) P e (.string ⟨#[]⟩) = some (.lit (.string []), []) := plainElem_string he (Nat.zero_le _)
theorem look_any {P : Program} {w : World} {b n : Nat} {k e t : TypeId} {D : DataW Unit} (h : w.ownsMap P k (plainElem (H := Unit) P e) b n D) (hk : P.underlying k = some .string) (he : P.underlying e = some .string) (ht : P.underlying t = some (.map k e))
    (hz : (zeroValue e).run P w = .ok (.string ⟨#[]⟩) w) (x : ByteArray) :
    ∃ v : ByteArray, (Instr.lookup t (.map (some b)) (.string x) false).run P w = .ok (.string v) w ∧ (x.size ≤ maxLen → D.atKey (.string x.data.toList) (.lit (.string [])) = .lit (.string v.data.toList)) ∧ (maxLen < x.size → v = ⟨#[]⟩) := by
  by_cases hx : x.size ≤ maxLen
  · obtain ⟨v, ps, hrun, hv⟩ := h.lookup (Keyed.of_law (string_law hk)) ht hz (out_of_string he) (keyOf_string_mk hk hx)
    obtain ⟨s, rfl, hs, _⟩ := plainElem_string_inv he hv
    simp only [Prod.mk.injEq] at hs
    exact ⟨s, hrun, fun _ => hs.1, fun h => absurd h (by omega)⟩
  · obtain ⟨es, clock, hb, F, _, rfl⟩ := h
    have hks : ∀ y ∈ es.toList, IsKey .string y.key := fun y hy => by
      obtain ⟨l, hl⟩ := F.keys y hy
      obtain ⟨s', e', _, _⟩ := string_of_keyOf hk hl
      rw [e']; trivial
    rcases findNow_spec (d := .string) (k := .string x) trivial es.toList 0 hks with ⟨h1, h2⟩ | ⟨j, e0, h1, h2, h3⟩
    · refine ⟨⟨#[]⟩, ?_, fun h => absurd h hx, fun _ => rfl⟩
      have hc := run_checkKey (P := P) (w := w) hk (d := .string) (k := .string x) trivial es.isEmpty 9999
      have hf := run_findKey (P := P) (w := w) hk h1
      simp [Instr.lookup, run_underlying ht, MapKept.run_getObj_map hb, hc, hf, hz, Result.andThen]
    · exfalso
      obtain ⟨l, hl⟩ := F.keys e0 (List.mem_of_getElem? h2)
      rw [h3] at hl
      obtain ⟨s', e', _, hs'⟩ := string_of_keyOf hk hl
      injection e' with e'
      subst e'
      exact hx hs'
/-- block b is a map that answers as L -/
def KM (P : Program) (k e : TypeId) (w : World) (b n : Nat) (L : ByteArray → ByteArray) : Prop :=
  ∃ D : DataW Unit, w.ownsMap P k (plainElem (H := Unit) P e) b n D ∧ (∀ x : ByteArray, x.size ≤ maxLen → D.atKey (.string x.data.toList) (.lit (.string [])) = .lit (.string (L x).data.toList)) ∧ ∀ x : ByteArray, maxLen < x.size → L x = ⟨#[]⟩
theorem dat_inj {x y : ByteArray} (h : x.data.toList = y.data.toList) : x = y := by
  cases x; cases y; simp only at h; congr 1; exact Array.ext' h
theorem KM.look {P : Program} {w : World} {b n : Nat} {k e t : TypeId} {L : ByteArray → ByteArray} (h : KM P k e w b n L) (hk : P.underlying k = some .string) (he : P.underlying e = some .string) (ht : P.underlying t = some (.map k e))
    (hz : (zeroValue e).run P w = .ok (.string ⟨#[]⟩) w) (x : ByteArray) : (Instr.lookup t (.map (some b)) (.string x) false).run P w = .ok (.string (L x)) w := by
  obtain ⟨D, hown, h1, h2⟩ := h
  obtain ⟨v, hrun, a1, a2⟩ := look_any hown hk he ht hz x
  rw [hrun]
  by_cases hx : x.size ≤ maxLen
  · have e1 := (a1 hx).symm.trans (h1 x hx)
    injection e1 with e1
    injection e1 with e1
    rw [dat_inj e1]
  · rw [a2 (by omega), h2 x (by omega)]
theorem KM.kept {P : Program} {w w' : World} {b n : Nat} {k e : TypeId} {L : ByteArray → ByteArray} {row : Option Nat} (h : KM P k e w b n L) (hg : w.grownBy w' row) (hne : some b ≠ row) : KM P k e w' b n L := by
  obtain ⟨D, hown, h⟩ := h
  exact ⟨D, hown.kept hg hne, h⟩
theorem KM.made (P : Program) (k e : TypeId) (w : World) : KM P k e (w.alloc (.map #[] 0)) w.heap.size 0 fun _ => ⟨#[]⟩ :=
  ⟨_, World.ownsMap_made _ _ _ _, fun x _ => rfl, fun _ _ => rfl⟩
theorem KM.lt {P : Program} {w : World} {b n : Nat} {k e : TypeId} {L : ByteArray → ByteArray} (h : KM P k e w b n L) : b < w.heap.size := by
  obtain ⟨D, hown, _⟩ := h
  exact hown.lt
theorem KM.put {P : Program} {w : World} {b n : Nat} {k e t : TypeId} {L : ByteArray → ByteArray} (h : KM P k e w b n L) (hk : P.underlying k = some .string) (he : P.underlying e = some .string) (ht : P.underlying t = some (.map k e)) (hn : n < maxLen)
    (x v : ByteArray) (hx : x.size ≤ maxLen) (hv : v.size ≤ maxLen) :
    ∃ w', (Instr.mapUpdate t (.map (some b)) (.string x) (.string v)).run P w = .ok () w' ∧ KM P k e w' b (n + 1) (fun y => if y = x then v else L y) ∧ w.grownBy w' (some b) := by
  obtain ⟨D, hown, h1, h2⟩ := h
  have hkey := keyOf_string_mk hk hx
  obtain ⟨w', hrun, r1, r2⟩ := hown.update (Keyed.of_law (string_law hk)) ht hn hkey (plainElem_string he hv)
  refine ⟨w', hrun, ⟨_, r1, fun y hy => ?_, fun y hy => ?_⟩, r2⟩
  · by_cases e1 : y = x
    · subst e1
      simp only [if_true]
      exact atKey_put_same hown.isMap ((Keyed.of_law (string_law hk)).key hkey) _ _
    · simp only [if_neg e1]
      rw [atKey_put_other (fun h => e1 (dat_inj (by injection h)))]
      exact h1 y hy
  · simp only [if_neg (show ¬ y = x from fun e1 => by subst e1; omega)]
    exact h2 y hy
theorem wpList_lookup_km {P : Program} (w : World) {ops : Array Oper} {rest : List Oper} {o : Oper} {a : Act} {Q : Exit → Act → World → Prop}
    (hg : o.guard = none) (m x : Operand) (t : TypeId) (hop : o.op = Op.lookup t m x false) (k e : TypeId) (hk : P.underlying k = some .string) (he : P.underlying e = some .string) (ht : P.underlying t = some (.map k e))
    (hz : (zeroValue e).run P w = .ok (.string ⟨#[]⟩) w) (b n : Nat) (L : ByteArray → ByteArray) (h : KM P k e w b n L) (hm : a.eval m = .map (some b)) (key : ByteArray) (hx : a.eval x = .string key)
    (hK : wpList P ops Q rest (a.put o.dst (.string (L key))) w) : wpList P ops Q (o :: rest) a w := by
  refine wpList_plain hg fun K' hK' => ?_
  unfold Oper.wp
  simp [execOp, hop, hm, hx, h.look hk he ht hz key, Result.andThen]
  exact hK' _ _ hK
theorem wpList_update_km {P : Program} (w : World) {ops : Array Oper} {rest : List Oper} {o : Oper} {a : Act} {Q : Exit → Act → World → Prop}
    (hg : o.guard = none) (m x v : Operand) (t : TypeId) (hop : o.op = Op.mapUpdate t m x v) (k e : TypeId) (hk : P.underlying k = some .string) (he : P.underlying e = some .string) (ht : P.underlying t = some (.map k e))
    (b n : Nat) (L : ByteArray → ByteArray) (h : KM P k e w b n L) (hn : n < maxLen) (hm : a.eval m = .map (some b)) (key val : ByteArray) (hx : a.eval x = .string key) (hv : a.eval v = .string val) (h1 : key.size ≤ maxLen) (h2 : val.size ≤ maxLen)
    (hK : ∀ w', KM P k e w' b (n + 1) (fun y => if y = key then val else L y) → w.grownBy w' (some b) → wpList P ops Q rest (a.put o.dst undef) w') : wpList P ops Q (o :: rest) a w := by
  refine wpList_plain hg fun K' hK' => ?_
  obtain ⟨w', hrun, r1, r2⟩ := h.put hk he ht hn key val h1 h2
  unfold Oper.wp
  simp [execOp, hop, hm, hx, hv, hrun, Result.andThen]
  exact hK' _ _ (hK w' r1 r2)
end Go.Proofs.YtaeimdcmpjanbaaDoor.cmap
