/- Opening an argument that is a slice of structs of two integers. No condition. -/
import Derived.Test.YtgffabjajbgbjaaRec
import Derived.Deep.Slices
import Derived.Deep.Fields
set_option linter.unusedVariables false
set_option linter.unusedSimpArgs false
namespace Go.Proofs.Ytgffabjajbgbjaa.mem
open Go.ChangeShapes Go.WideShapes Go.RowKit Go.Deep

theorem two' {p : Nat → Prop} (h0 : p 0) (h1 : p 1) (j : Nat) (hj : j < 2) : p j := by
  have : j = 0 ∨ j = 1 := by omega
  rcases this with rfl | rfl <;> assumption
section
variable {H : Type} {enc : TypeId × Value → H} {P : Program} {w : World} {t e : TypeId} {v : Value} {d : DataW H} {p : List MemPlace}
/-- an argument that is a slice of structs of two integers -/
theorem open_rd_rec {r : Reach} {b0 : Nat} {fs : Array Field} (ht : P.underlying t = some (.slice e)) (he : P.underlying e = some (.struct fs)) (hC : P.cellsOf e = 2)
    (hfs : ∀ j, j < 2 → ∃ f : Field, fs[j]? = some f ∧ f.offset = j ∧ P.underlying f.type = some (.int .i64) ∧ P.cellsOf f.type = 1)
    (hv : Value.okWide P w r b0 t v) (h : DataW.Trod enc P w 0 (fun _ => true) true t v d p) :
    ∃ A n c gs, v = .slice A n c ∧ n = List.length gs ∧ n ≤ c ∧ c ≤ maxLen ∧ Rd w 2 A n (recs gs) ∧ True := by
  obtain ⟨a0, len, cap, rfl⟩ := okWide_slice ht hv
  obtain ⟨fuel, hf⟩ := h
  rcases open_slice ht hf with ⟨hcs, hx⟩ | ⟨a, len', cap', m, n, D, Pl, hcs, _, hl, hm, hmm, hx, hi⟩
  · simp [Value.cells] at hcs
    obtain ⟨rfl, rfl, rfl⟩ := hcs
    exact ⟨none, 0, 0, [], rfl, rfl, Nat.le_refl _, Nat.zero_le _, Rd.nil, trivial⟩
  · simp [Value.cells] at hcs
    obtain ⟨rfl, rfl, rfl⟩ := hcs
    simp only [if_true] at hmm
    rw [hmm] at hi
    clear hmm hx
    have each : ∀ i, i < cap → ∃ g : Rec, ∀ j, j < 2 → w.cell? (a.add (i * 2 + j)) = g.cells[j]? := by
      intro i hi1
      obtain ⟨cs', hc, ht'⟩ := hi i hi1
      rw [hC] at hc
      obtain ⟨xs, n', _, _, _, hxl, hfd⟩ := DataW.trod_struct he ht'
      obtain ⟨_, hcl, hat⟩ := World.cells?_some hc
      have fld : ∀ j, j < 2 → ∃ z : Int, cs'[j]? = some (.int .i64 z) := by
        intro j hj
        obtain ⟨f, hfj, ho, hu, hc1⟩ := hfs j hj
        have h1 := hfd j f hfj
        rw [ho, hc1] at h1
        have hjx : j < xs.length := by rw [hxl]; exact (Array.getElem?_eq_some_iff.1 hfj).1
        rw [List.getElem?_eq_getElem hjx] at h1
        obtain ⟨z, hz, _⟩ := DataW.trod_int hu h1
        refine ⟨z, ?_⟩
        have h2 := congrArg (fun l : List Value => l[0]?) hz
        simpa using h2
      obtain ⟨z0, h0⟩ := fld 0 (by omega)
      obtain ⟨z1, h1⟩ := fld 1 (by omega)
      refine ⟨⟨z0, z1⟩, fun j hj => ?_⟩
      rw [← Go.Deep.add_add, hat j hj]
      exact two' (p := fun j => cs'[j]? = (Rec.cells ⟨z0, z1⟩)[j]?) h0 h1 j hj
    let pick : Nat → Rec := fun i => if h : i < cap then Classical.choose (each i h) else ⟨0, 0⟩
    have hpick : ∀ i, i < cap → ∀ j, j < 2 → w.cell? (a.add (i * 2 + j)) = (pick i).cells[j]? := by
      intro i hi1 j hj
      have := Classical.choose_spec (each i hi1) j hj
      simp only [pick, hi1, dif_pos]
      exact this
    have hgl : ((List.range len).map pick).length = len := by simp
    refine ⟨some a, len, cap, (List.range len).map pick, rfl, hgl.symm, hl, hm, ⟨by rw [len_recs, hgl], fun hn => ?_⟩, trivial⟩
    have h0 := hpick 0 (by omega) 0 (by omega)
    have h00 : w.cell? (a.add 0) = some (.int .i64 (pick 0).key) := by simpa [Rec.cells] using h0
    have hs := spot_of h00
    have ha : a = ⟨a.block, a.off, none⟩ := by
      have := hs; simpa [Addr.add] using this
    refine ⟨a.block, a.off, by rw [← ha], fun j u hu => ?_⟩
    have hj : j < len * 2 := by
      have := (List.getElem?_eq_some_iff.1 hu).1
      rw [len_recs, hgl] at this; exact this
    have e1 : a.add j = ⟨a.block, a.off + j, none⟩ := by
      rw [ha]; unfold Addr.add; split
      · rename_i h0; subst h0; rfl
      · rfl
    have hq : j / 2 < len := by omega
    have hr2 : j % 2 < 2 := Nat.mod_lt _ (by omega)
    have hjj : j / 2 * 2 + j % 2 = j := by omega
    have hcj := hpick (j / 2) (by omega) (j % 2) hr2
    have hga := recs_at ((List.range len).map pick) (j / 2) (j % 2) (by rw [hgl]; exact hq) hr2
    rw [hjj] at hcj hga
    rw [← e1, hcj, ← hu, hga]
    simp
end
end Go.Proofs.Ytgffabjajbgbjaa.mem
