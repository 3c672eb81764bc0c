/- Opening an argument that is a slice of slices of structs of two integers. No condition. -/
import Derived.Test.YtgffabjajbgbjaaOpenRec
import Derived.Test.YtgffabjajbgbjaaNest
set_option linter.unusedVariables false
set_option linter.unusedSimpArgs false
namespace Go.Proofs.Ytgffabjajbgbjaa.mem
open Go.ChangeShapes Go.WideShapes Go.RowKit Go.Deep Go.Proofs.Ytgffabjajbgbjaa.nest

section
variable {H : Type} {enc : TypeId × Value → H} {P : Program} {w : World} {t e : TypeId} {v : Value} {d : DataW H} {p : List MemPlace}
/-- one slice of such structs, out of a cell -/
theorem rd_of_trod {fs : Array Field} (ht : P.underlying t = some (.slice e)) (he : P.underlying e = some (.struct fs)) (hC : P.cellsOf e = 2)
    (hfs : ∀ j, j < 2 → ∃ f : Field, fs[j]? = some f ∧ f.offset = j ∧ P.underlying f.type = some (.int .i64) ∧ P.cellsOf f.type = 1)
    {fuel : Nat} {x : DataW H × List MemPlace} (hf : DataW.trod enc P w 0 (fun _ => true) true fuel t [v] = some x) :
    ∃ A n c gs, v = .slice A n c ∧ n = List.length gs ∧ n ≤ c ∧ c ≤ maxLen ∧ Rd w 2 A n (recs gs) := by
  rcases open_slice ht hf with ⟨hcs, hx⟩ | ⟨a, len, cap, m, n, D, Pl, hcs, _, hl, hm, hmm, hx, hi⟩
  · injection hcs with hcs _
    exact ⟨none, 0, 0, [], hcs, rfl, Nat.le_refl _, Nat.zero_le _, Rd.nil⟩
  · injection hcs with hcs _
    subst hcs
    simp only [if_true] at hmm
    rw [hmm] at hi
    clear hmm hx
    have each : ∀ i, i < cap → ∃ g : Rec, ∀ j, j < 2 → w.cell? (a.add (i * 2 + j)) = g.cells[j]? := by
      intro i hi1
      obtain ⟨cs', hc, ht'⟩ := hi i hi1
      rw [hC] at hc
      obtain ⟨xs, n', _, _, _, hxl, hfd⟩ := DataW.trod_struct he ht'
      obtain ⟨_, hcl, hat⟩ := World.cells?_some hc
      have fld : ∀ j, j < 2 → ∃ z : Int, cs'[j]? = some (.int .i64 z) := by
        intro j hj
        obtain ⟨f, hfj, ho, hu, hc1⟩ := hfs j hj
        have h1 := hfd j f hfj
        rw [ho, hc1] at h1
        have hjx : j < xs.length := by rw [hxl]; exact (Array.getElem?_eq_some_iff.1 hfj).1
        rw [List.getElem?_eq_getElem hjx] at h1
        obtain ⟨z, hz, _⟩ := DataW.trod_int hu h1
        refine ⟨z, ?_⟩
        have h2 := congrArg (fun l : List Value => l[0]?) hz
        simpa using h2
      obtain ⟨z0, h0⟩ := fld 0 (by omega)
      obtain ⟨z1, h1⟩ := fld 1 (by omega)
      refine ⟨⟨z0, z1⟩, fun j hj => ?_⟩
      rw [← Go.Deep.add_add, hat j hj]
      exact two' (p := fun j => cs'[j]? = (Rec.cells ⟨z0, z1⟩)[j]?) h0 h1 j hj
    let pick : Nat → Rec := fun i => if h : i < cap then Classical.choose (each i h) else ⟨0, 0⟩
    have hpick : ∀ i, i < cap → ∀ j, j < 2 → w.cell? (a.add (i * 2 + j)) = (pick i).cells[j]? := by
      intro i hi1 j hj
      have := Classical.choose_spec (each i hi1) j hj
      simp only [pick, hi1, dif_pos]
      exact this
    have hgl : ((List.range len).map pick).length = len := by simp
    refine ⟨some a, len, cap, (List.range len).map pick, rfl, hgl.symm, hl, hm, ⟨by rw [len_recs, hgl], fun hn => ?_⟩⟩
    have h0 := hpick 0 (by omega) 0 (by omega)
    have h00 : w.cell? (a.add 0) = some (.int .i64 (pick 0).key) := by simpa [Rec.cells] using h0
    have hs := spot_of h00
    have ha : a = ⟨a.block, a.off, none⟩ := by
      have := hs; simpa [Addr.add] using this
    refine ⟨a.block, a.off, by rw [← ha], fun j u hu => ?_⟩
    have hj : j < len * 2 := by
      have := (List.getElem?_eq_some_iff.1 hu).1
      rw [len_recs, hgl] at this; exact this
    have e1 : a.add j = ⟨a.block, a.off + j, none⟩ := by
      rw [ha]; unfold Addr.add; split
      · rename_i h0; subst h0; rfl
      · rfl
    have hq : j / 2 < len := by omega
    have hr2 : j % 2 < 2 := Nat.mod_lt _ (by omega)
    have hjj : j / 2 * 2 + j % 2 = j := by omega
    have hcj := hpick (j / 2) (by omega) (j % 2) hr2
    have hga := recs_at ((List.range len).map pick) (j / 2) (j % 2) (by rw [hgl]; exact hq) hr2
    rw [hjj] at hcj hga
    rw [← e1, hcj, ← hu, hga]
    simp
/-- an argument that is a slice of slices of such structs -/
theorem open_rd_runs {r : Reach} {b0 : Nat} {fs : Array Field} {t2 : TypeId} (ht2 : P.underlying t2 = some (.slice t)) (hc2 : P.cellsOf t = 1) (ht : P.underlying t = some (.slice e)) (he : P.underlying e = some (.struct fs)) (hC : P.cellsOf e = 2)
    (hfs : ∀ j, j < 2 → ∃ f : Field, fs[j]? = some f ∧ f.offset = j ∧ P.underlying f.type = some (.int .i64) ∧ P.cellsOf f.type = 1)
    (hv : Value.okWide P w r b0 t2 v) (h : DataW.Trod enc P w 0 (fun _ => true) true t2 v d p) :
    ∃ A n c vs rs, v = .slice A n c ∧ n = List.length rs ∧ n ≤ c ∧ c ≤ maxLen ∧ RdL_rec w A vs rs ∧ True := by
  obtain ⟨a0, len, cap, rfl⟩ := okWide_slice ht2 hv
  obtain ⟨fuel, hf⟩ := h
  rcases open_slice1 ht2 hc2 hf with ⟨hcs, hx⟩ | ⟨a, len', cap', m, n, V, D, Pl, hcs, _, hl, hm, hmm, hx, hi⟩
  · simp [Value.cells] at hcs
    obtain ⟨rfl, rfl, rfl⟩ := hcs
    exact ⟨none, 0, 0, [], [], rfl, rfl, Nat.le_refl _, Nat.zero_le _, ⟨Rd.nil, fun i hi => absurd hi (by simp)⟩, trivial⟩
  · simp [Value.cells] at hcs
    obtain ⟨rfl, rfl, rfl⟩ := hcs
    simp only [if_true] at hmm
    rw [hmm] at hi
    clear hmm hx
    have each : ∀ i, i < cap → ∃ (gs : List Rec), ∃ A c, V i = .slice A gs.length c ∧ gs.length ≤ c ∧ c ≤ maxLen ∧ Rd w 2 A gs.length (recs gs) := by
      intro i hi1
      obtain ⟨_, h2⟩ := hi i hi1
      obtain ⟨A, n', c, gs, h3, rfl, h4, h5, h6⟩ := rd_of_trod ht he hC hfs h2
      exact ⟨gs, A, c, h3, h4, h5, h6⟩
    let pick : Nat → List Rec := fun i => if h : i < cap then Classical.choose (each i h) else []
    have hpick : ∀ i, i < cap → ∃ A c, V i = .slice A (pick i).length c ∧ (pick i).length ≤ c ∧ c ≤ maxLen ∧ Rd w 2 A (pick i).length (recs (pick i)) := by
      intro i hi1
      have := Classical.choose_spec (each i hi1)
      simp only [pick, hi1, dif_pos]
      exact this
    have hgl : ((List.range len).map pick).length = len := by simp
    refine ⟨some a, len, cap, (List.range len).map V, (List.range len).map pick, rfl, hgl.symm, hl, hm, ⟨⟨by simp, fun hn => ?_⟩, fun i hi1 => ?_⟩, trivial⟩
    · rw [hgl] at hn
      have h0 := (hi 0 (by omega)).1
      have hs := spot_of h0
      have ha : a = ⟨a.block, a.off, none⟩ := by
        have := hs; simpa [Addr.add] using this
      refine ⟨a.block, a.off, by rw [← ha], fun j u hu => ?_⟩
      have hj : j < len := by
        have := (List.getElem?_eq_some_iff.1 hu).1
        simpa using this
      have e1 : a.add j = ⟨a.block, a.off + j, none⟩ := by
        rw [ha]; unfold Addr.add; split
        · rename_i h0; subst h0; rfl
        · rfl
      rw [← e1, (hi j (by omega)).1, ← hu]
      simp [hj]
    · rw [hgl] at hi1
      obtain ⟨A, c, h1, h2, h3, h4⟩ := hpick i (by omega)
      have e : ((List.range len).map pick)[i]'(by rw [hgl]; exact hi1) = pick i := by simp
      rw [e]
      exact ⟨A, c, by simp [hi1, h1], h2, h3, h4⟩
end
end Go.Proofs.Ytgffabjajbgbjaa.mem
