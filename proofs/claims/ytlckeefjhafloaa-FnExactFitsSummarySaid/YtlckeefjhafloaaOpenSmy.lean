/- Opening an argument that is a summary: a count and a slice of structs of three integers. No condition. -/
import Derived.Test.YtlckeefjhafloaaRkv
import Derived.Deep.Slices
import Derived.Deep.Fields
import Derived.Lib.SmallJoins
set_option linter.unusedVariables false
set_option linter.unusedSimpArgs false
namespace Go.Proofs.Ytlckeefjhafloaa.mem
open Go.ChangeShapes Go.WideShapes Go.RowKit Go.Deep

theorem three {p : Nat → Prop} (h0 : p 0) (h1 : p 1) (h2 : p 2) (j : Nat) (hj : j < 3) : p j := by
  have : j = 0 ∨ j = 1 ∨ j = 2 := by omega
  rcases this with rfl | rfl | rfl <;> assumption
section
variable {H : Type} {enc : TypeId × Value → H} {P : Program} {w : World} {t e : TypeId} {v : Value} {d : DataW H} {p : List MemPlace}
/-- a field that is a slice of structs of three integers -/
theorem open_rkv_core {n0 : Nat} {y : DataW H × List MemPlace} {fs : Array Field} (ht : P.underlying t = some (.slice e)) (he : P.underlying e = some (.struct fs)) (hC : P.cellsOf e = 3)
    (hfs : ∀ j, j < 3 → ∃ f : Field, fs[j]? = some f ∧ f.offset = j ∧ P.underlying f.type = some (.int .i64) ∧ P.cellsOf f.type = 1)
    (hf : DataW.trod enc P w 0 (fun _ => true) true n0 t [v] = some y) :
    ∃ A n c gs, v = .slice A n c ∧ n = List.length gs ∧ n ≤ c ∧ c ≤ maxLen ∧ Rd w 3 A n (rkvs gs) := by
  rcases open_slice ht hf with ⟨hcs, hx⟩ | ⟨a, len, cap, m, n, D, Pl, hcs, _, hl, hm, hmm, hx, hi⟩
  · simp at hcs
    subst hcs
    exact ⟨none, 0, 0, [], rfl, rfl, Nat.le_refl _, Nat.zero_le _, Rd.nil⟩
  · simp at hcs
    subst hcs
    simp only [if_true] at hmm
    rw [hmm] at hi
    clear hmm hx
    have each : ∀ i, i < cap → ∃ g : Rkv, ∀ j, j < 3 → w.cell? (a.add (i * 3 + j)) = g.cells[j]? := by
      intro i hi1
      obtain ⟨cs', hc, ht'⟩ := hi i hi1
      rw [hC] at hc
      obtain ⟨xs, n', _, _, _, hxl, hfd⟩ := DataW.trod_struct he ht'
      obtain ⟨_, hcl, hat⟩ := World.cells?_some hc
      have fld : ∀ j, j < 3 → ∃ z : Int, cs'[j]? = some (.int .i64 z) := by
        intro j hj
        obtain ⟨f, hfj, ho, hu, hc1⟩ := hfs j hj
        have h1 := hfd j f hfj
        rw [ho, hc1] at h1
        have hjx : j < xs.length := by rw [hxl]; exact (Array.getElem?_eq_some_iff.1 hfj).1
        rw [List.getElem?_eq_getElem hjx] at h1
        obtain ⟨z, hz, _⟩ := DataW.trod_int hu h1
        refine ⟨z, ?_⟩
        have h2 := congrArg (fun l : List Value => l[0]?) hz
        simpa using h2
      obtain ⟨z0, h0⟩ := fld 0 (by omega)
      obtain ⟨z1, h1⟩ := fld 1 (by omega)
      obtain ⟨z2, h2⟩ := fld 2 (by omega)
      refine ⟨⟨z0, z1, z2⟩, fun j hj => ?_⟩
      rw [← Go.Deep.add_add, hat j hj]
      exact three (p := fun j => cs'[j]? = (Rkv.cells ⟨z0, z1, z2⟩)[j]?) h0 h1 h2 j hj
    let pick : Nat → Rkv := fun i => if h : i < cap then Classical.choose (each i h) else ⟨0, 0, 0⟩
    have hpick : ∀ i, i < cap → ∀ j, j < 3 → w.cell? (a.add (i * 3 + j)) = (pick i).cells[j]? := by
      intro i hi1 j hj
      have := Classical.choose_spec (each i hi1) j hj
      simp only [pick, hi1, dif_pos]
      exact this
    have hgl : ((List.range len).map pick).length = len := by simp
    refine ⟨some a, len, cap, (List.range len).map pick, rfl, hgl.symm, hl, hm, ⟨by rw [len_rkvs, hgl], fun hn => ?_⟩⟩
    have h0 := hpick 0 (by omega) 0 (by omega)
    have h00 : w.cell? (a.add 0) = some (.int .i64 (pick 0).value) := by simpa [Rkv.cells] using h0
    have hs := spot_of h00
    have ha : a = ⟨a.block, a.off, none⟩ := by
      have := hs; simpa [Addr.add] using this
    refine ⟨a.block, a.off, by rw [← ha], fun j u hu => ?_⟩
    have hj : j < len * 3 := by
      have := (List.getElem?_eq_some_iff.1 hu).1
      rw [len_rkvs, hgl] at this; exact this
    have e1 : a.add j = ⟨a.block, a.off + j, none⟩ := by
      rw [ha]; unfold Addr.add; split
      · rename_i h0; subst h0; rfl
      · rfl
    have hq : j / 3 < len := by omega
    have hr3 : j % 3 < 3 := Nat.mod_lt _ (by omega)
    have hjj : j / 3 * 3 + j % 3 = j := by omega
    have hcj := hpick (j / 3) (by omega) (j % 3) hr3
    have hga := rkvs_at ((List.range len).map pick) (j / 3) (j % 3) (by rw [hgl]; exact hq) hr3
    rw [hjj] at hcj hga
    rw [← e1, hcj, ← hu, hga]
    simp
/-- an argument that is a summary -/
theorem open_summary {r : Reach} {b0 : Nat} {f0 f1 : Field} {fs : Array Field} (hs : P.underlying t = some (.struct #[f0, f1])) (hone : Go.Deep.oneCellFields P #[f0, f1] = true) (hC2 : P.cellsOf t = 2)
    (hk : P.underlying f0.type = some (.int .i64)) (ht : P.underlying f1.type = some (.slice e)) (he : P.underlying e = some (.struct fs)) (hC : P.cellsOf e = 3)
    (hfs : ∀ j, j < 3 → ∃ f : Field, fs[j]? = some f ∧ f.offset = j ∧ P.underlying f.type = some (.int .i64) ∧ P.cellsOf f.type = 1)
    (hv : Value.okWide P w r b0 t v) (h : DataW.Trod enc P w 0 (fun _ => true) true t v d p) :
    ∃ z A n c gs, v = .agg #[.int .i64 z, .slice A n c] ∧ n = List.length gs ∧ n ≤ c ∧ c ≤ maxLen ∧ Rd w 3 A n (rkvs gs) ∧ True := by
  obtain ⟨v0, v1, y0, y1, n, rfl, _, _, h0, h1⟩ := Joins.open_agg2 hs hone hC2 hv h
  obtain ⟨z, hz, _⟩ := DataW.trod_int hk h0
  have hz' : v0 = .int .i64 z := by simpa using hz
  subst hz'
  obtain ⟨A, n, c, gs, rfl, e1, e2, e3, e4⟩ := open_rkv_core ht he hC hfs h1
  exact ⟨z, A, n, c, gs, rfl, e1, e2, e3, e4, trivial⟩
end
end Go.Proofs.Ytlckeefjhafloaa.mem
