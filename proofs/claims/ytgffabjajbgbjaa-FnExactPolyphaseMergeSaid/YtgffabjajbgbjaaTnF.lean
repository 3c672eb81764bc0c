/- The merge's own state, and how its closure fills one leaf. Condition: 1 to 1024 lists. -/
import Derived.Test.YtgffabjajbgbjaaTnT
import Derived.Test.YtgffabjajbgbjaaTnKm
import Derived.Test.YtgffabjajbgbjaaNest
import Derived.BigRegion
set_option linter.unusedVariables false
set_option linter.unusedSimpArgs false
namespace Go.Proofs.Ytgffabjajbgbjaa.tn
open Go.RowKit Go.Proofs.Ytgffabjajbgbjaa.mem Go.Proofs.Ytgffabjajbgbjaa.nest

structure St (w : World) (B bN bL bD bK rn rd rk k c : Nat) (A : Option Addr) (ks : List Int) (ds : List Bool) (nx : List Int) : Prop where
  nd : [bN, bL, bD, bK, rn, rd, rk].Nodup
  lo : ∀ x ∈ [bN, bL, bD, bK, rn, rd, rk], B ≤ x
  cN : Blk w bN 22 #[.slice (some ⟨rn, 0, none⟩) k k]
  cL : Blk w bL 47 #[.slice A k c]
  cD : Blk w bD 93 #[.slice (some ⟨rd, 0, none⟩) k k]
  cK : Blk w bK 22 #[.slice (some ⟨rk, 0, none⟩) k k]
  N : Blk w rn 3 (ints nx).toArray
  D : Blk w rd 4 (bools ds).toArray
  K : Blk w rk 3 (ints ks).toArray
  ln : nx.length = k ∧ ds.length = k ∧ ks.length = k
section
variable {w w' : World} {B bN bL bD bK rn rd rk k c : Nat} {A : Option Addr} {ks : List Int} {ds : List Bool} {nx : List Int}
theorem St.apart (h : St w B bN bL bD bK rn rd rk k c A ks ds nx) : (bN ≠ rd ∧ bL ≠ rd ∧ bD ≠ rd ∧ bK ≠ rd ∧ rn ≠ rd ∧ rk ≠ rd) ∧ (bN ≠ rk ∧ bL ≠ rk ∧ bD ≠ rk ∧ bK ≠ rk ∧ rn ≠ rk ∧ rd ≠ rk) ∧ (bN ≠ rn ∧ bL ≠ rn ∧ bD ≠ rn ∧ bK ≠ rn ∧ rd ≠ rn ∧ rk ≠ rn) := by
  have := h.nd
  simp only [List.nodup_cons, List.mem_cons, List.not_mem_nil, or_false, not_or] at this
  omega
theorem St.lt (h : St w B bN bL bD bK rn rd rk k c A ks ds nx) : ∀ x ∈ [bN, bL, bD, bK, rn, rd, rk], x < w.heap.size := by
  intro x hx
  simp only [List.mem_cons, List.not_mem_nil, or_false] at hx
  rcases hx with rfl | rfl | rfl | rfl | rfl | rfl | rfl
  · exact h.cN.lt
  · exact h.cL.lt
  · exact h.cD.lt
  · exact h.cK.lt
  · exact h.N.lt
  · exact h.D.lt
  · exact h.K.lt
theorem St.grown (h : St w B bN bL bD bK rn rd rk k c A ks ds nx) {row : Option Nat} (hg : w.grownBy w' row) (hr : ∀ x ∈ [bN, bL, bD, bK, rn, rd, rk], some x ≠ row) : St w' B bN bL bD bK rn rd rk k c A ks ds nx :=
  ⟨h.nd, h.lo, h.cN.grown hg (hr _ (by simp)), h.cL.grown hg (hr _ (by simp)), h.cD.grown hg (hr _ (by simp)), h.cK.grown hg (hr _ (by simp)), h.N.grown hg (hr _ (by simp)), h.D.grown hg (hr _ (by simp)), h.K.grown hg (hr _ (by simp)), h.ln⟩
theorem St.below (h : St w B bN bL bD bK rn rd rk k c A ks ds nx) (hb : Below w.heap.size w w') : St w' B bN bL bD bK rn rd rk k c A ks ds nx :=
  h.grown (grownBy_of_below hb) (fun x _ => by simp)
theorem St.drewN (h : St w B bN bL bD bK rn rd rk k c A ks ds nx) (n : Nat) : St (w.drewN n) B bN bL bD bK rn rd rk k c A ks ds nx := ⟨h.nd, h.lo, h.cN, h.cL, h.cD, h.cK, h.N, h.D, h.K, h.ln⟩
theorem bools_put (l : List Bool) (i : Nat) (x : Bool) : (bools l).toArray.setIfInBounds i (.bool x) = (bools (l.set i x)).toArray := by simp [bools, List.map_set]
theorem bools_cell {l : List Bool} {i : Nat} {x : Bool} (h : l[i]? = some x) : (bools l).toArray[i]? = some (.bool x) := by
  simp only [List.getElem?_toArray, bools, List.getElem?_map, h]; rfl
theorem St.putD (h : St w B bN bL bD bK rn rd rk k c A ks ds nx) (i : Nat) (x : Bool) : St (w.setCell ⟨rd, i, none⟩ (.bool x)) B bN bL bD bK rn rd rk k c A ks (ds.set i x) nx := by
  obtain ⟨⟨a1, a2, a3, a4, a5, a6⟩, _, _⟩ := h.apart
  exact ⟨h.nd, h.lo, h.cN.far a1 _, h.cL.far a2 _, h.cD.far a3 _, h.cK.far a4 _, h.N.far a5 _, by rw [← bools_put]; exact h.D.put _ _, h.K.far a6 _, by rw [List.length_set]; exact h.ln⟩
theorem St.putK (h : St w B bN bL bD bK rn rd rk k c A ks ds nx) (i : Nat) (x : Int) : St (w.setCell ⟨rk, i, none⟩ (.int .i64 x)) B bN bL bD bK rn rd rk k c A (ks.set i x) ds nx := by
  obtain ⟨_, ⟨a1, a2, a3, a4, a5, a6⟩, _⟩ := h.apart
  exact ⟨h.nd, h.lo, h.cN.far a1 _, h.cL.far a2 _, h.cD.far a3 _, h.cK.far a4 _, h.N.far a5 _, h.D.far a6 _, by rw [← ints_put]; exact h.K.put _ _, by rw [List.length_set]; exact h.ln⟩
theorem St.putN (h : St w B bN bL bD bK rn rd rk k c A ks ds nx) (i : Nat) (x : Int) : St (w.setCell ⟨rn, i, none⟩ (.int .i64 x)) B bN bL bD bK rn rd rk k c A ks ds (nx.set i x) := by
  obtain ⟨_, _, ⟨a1, a2, a3, a4, a5, a6⟩⟩ := h.apart
  exact ⟨h.nd, h.lo, h.cN.far a1 _, h.cL.far a2 _, h.cD.far a3 _, h.cK.far a4 _, by rw [← ints_put]; exact h.N.put _ _, h.D.far a5 _, h.K.far a6 _, by rw [List.length_set]; exact h.ln⟩
theorem St.rdK (h : St w B bN bL bD bK rn rd rk k c A ks ds nx) : Rd w 1 (some ⟨rk, 0, none⟩) k (ints ks) := by
  have := h.K.rd_all
  rwa [len_ints, h.ln.2.2] at this
theorem St.rdD (h : St w B bN bL bD bK rn rd rk k c A ks ds nx) : Rd w 1 (some ⟨rd, 0, none⟩) k (bools ds) := by
  have := h.D.rd_all
  rwa [len_bools, h.ln.2.1] at this
end
theorem below_set {B : Nat} {a w : World} (h : Below B a w) {b : Nat} (hb : B ≤ b) (i : Nat) (u : Value) : Below B a (w.setCell ⟨b, i, none⟩ u) := h.setCell (p := ⟨b, i, none⟩) hb u
theorem grown_put (w : World) (b i : Nat) (u : Value) : w.grownBy (w.setCell ⟨b, i, none⟩ u) (some b) := only_put (World.grownBy.refl _ _) i u
/-- the front of what is left -/
theorem hd_drop {r : List Rec} {p : Nat} (h : p < r.length) : hd (r.drop p) = r[p].key := by
  rw [List.drop_eq_getElem_cons h]; rfl
theorem St.below_fill {w0 w w1 w2 : World} {bN bL bD bK rn rd rk k c : Nat} {A : Option Addr} {ks : List Int} {ds : List Bool} {nx : List Int} (h : St w w0.heap.size bN bL bD bK rn rd rk k c A ks ds nx) (hb : Below w0.heap.size w0 w) (h1 : w.grownBy w1 (some rd)) (h2 : w1.grownBy w2 (some rk)) : Below w0.heap.size w0 w2 := by
  have l1 := h.lo rd (by simp)
  have l2 := h.lo rk (by simp)
  have hb1 := below_grown hb hb.size h1 (fun g e => by injection e with e; omega)
  exact below_grown hb1 hb1.size h2 (fun g e => by injection e with e; omega)
set_option maxRecDepth 100000 in
set_option maxHeartbeats 2000000 in
theorem fill_any (w0 w : World) (bN bL bD bK rn rd rk k c i p : Nat) (A : Option Addr) (vs : List Value) (rs : List (List Rec)) (r : List Rec) (ks : List Int) (ds : List Bool) (nx : List Int)
    (hS : St w w0.heap.size bN bL bD bK rn rd rk k c A ks ds nx) (hr : RdL_rec w0 A vs rs) (hb : Below w0.heap.size w0 w) (hk : rs.length = k) (hi : i < k) (hn : k ≤ 1024) (hp : nx[i]? = some (p : Int)) (hri : rs[i]? = some r) (hpl : p ≤ r.length) :
    Calls Try.prog 96 #[.int .i64 i, .pointer (some ⟨bN, 0, none⟩), .pointer (some ⟨bL, 0, none⟩), .pointer (some ⟨bD, 0, none⟩), .pointer (some ⟨bK, 0, none⟩)] w fun e w' => e = .returned (.tuple #[]) ∧ St w' w0.heap.size bN bL bD bK rn rd rk k c A (ks.set i (hd (r.drop p))) (ds.set i (r.drop p).isEmpty) nx ∧ ∃ w1, w.grownBy w1 (some rd) ∧ w1.grownBy w' (some rk) := by
  have HRL := Lib.hid (fun W (h : Below w0.heap.size w0 W) => (hr.below h).cell (i := i) (by omega))
  obtain ⟨b, off, rfl, Ar, cr, hcell, hrc, hcm, hrr⟩ := (hr.below hb).cell (i := i) (by omega)
  have hri2 : rs[i]'(by omega) = r := by rw [List.getElem?_eq_getElem (by omega)] at hri; exact Option.some.inj hri
  rw [hri2] at hcell hrc hrr
  have HRW := Lib.hid (fun W (h : Below w.heap.size w W) => hcell)
  have hbd : Below w0.heap.size w0 ((w.setCell ⟨rd, i, none⟩ (.bool (r.drop p).isEmpty)).drew) := below_drewN (below_set hb (hS.lo rd (by simp)) i _) 1
  have HRR := Lib.hid (show (((w.setCell ⟨rd, i, none⟩ (.bool (r.drop p).isEmpty)).drew).cell? ⟨b, off + i, none⟩ = some (.slice Ar r.length cr)) ∧ Rd ((w.setCell ⟨rd, i, none⟩ (.bool (r.drop p).isEmpty)).drew) 2 Ar r.length (recs r) from by
    have h0 : b < w0.heap.size := by
      obtain ⟨b', off', e, Ar', cr', hc', _⟩ := hr.cell (i := i) (by omega)
      injection e with e
      injection e with e1 e2
      subst e1
      exact World.block_lt_of_cell? w0 _ hc'
    obtain ⟨b', off', e, Ar', cr', hc', _, _, hrr'⟩ := HRL.out _ hbd
    injection e with e
    injection e with e1 e2
    subst e1; subst e2
    obtain ⟨b'', off'', e, Ar'', cr'', hc'', _, _, hrr''⟩ := HRL.out _ hb
    injection e with e
    injection e with e1 e2
    subst e1; subst e2
    obtain ⟨b3, off3, e, A3, c3, hc3, _⟩ := hr.cell (i := i) (by omega)
    injection e with e
    injection e with e1 e2
    subst e1; subst e2
    have hx := hb.cell (p := ⟨b, off + i, none⟩) h0
    have hy := hbd.cell (p := ⟨b, off + i, none⟩) h0
    rw [hy, ← hx, hcell] at hc'
    injection hc' with hc'
    injection hc' with f1 f2 f3
    subst f1; subst f3
    rw [hri2] at hrr'
    exact ⟨by rw [hy, ← hx, hcell], hrr'⟩)
  have HS := Lib.hid hS
  have HSD := Lib.hid ((hS.putD i (r.drop p).isEmpty).drewN 1)
  have HAP := Lib.hid hS.apart
  have n0 := hS.cN.cell 0
  have l0 := hS.cL.cell 0
  have d0 := hS.cD.cell 0
  have k0 := hS.cK.cell 0
  simp only [List.getElem?_toArray, List.getElem?_cons_zero] at n0 l0 d0 k0
  have n1 := (hS.N.cell i).trans (ints_cell hp)
  obtain ⟨z, hz⟩ : ∃ z, ds[i]? = some z := ⟨_, List.getElem?_eq_getElem (by have := hS.ln; omega)⟩
  obtain ⟨y, hy⟩ : ∃ y, ks[i]? = some y := ⟨_, List.getElem?_eq_getElem (by have := hS.ln; omega)⟩
  have HNX := Lib.hid (ints_cell hp)
  have d1 := (hS.D.cell i).trans (bools_cell hz)
  have d2 := fun i => hS.D.thaw i
  have q1 : (i : Int) < (k : Int) := by omega
  have HYZ := Lib.hid (And.intro (ints_cell hy) (bools_cell (show (ds.set i (r.drop p).isEmpty)[i]? = some (r.drop p).isEmpty by rw [List.getElem?_set_self (by have := hS.ln; omega)])))
  have HBD := Lib.hid (And.intro hb hbd)
  unfold maxLen at hcm
  clear hri hri2 hp hr hrr hS hy hz hb hbd HRL HRW
  by_cases hlt : p < r.length
  · have q2 : ((p : Int) == (r.length : Int)) = false := by rw [beq_eq_false_iff_ne]; omega
    have hie : (r.drop p).isEmpty = false := by rw [List.drop_eq_getElem_cons hlt]; rfl
    rw [hie] at HRR HSD HYZ HBD ⊢
    have HE := Lib.hid (hd_drop hlt)
    have q3 : (p : Int) < (r.length : Int) := by omega
    clear hie
    go_enter Try.func96, Try.ntmps96
    go_wp2_with fail
    go_region
    have HG1 := Lib.hid (show w.grownBy ((w.setCell ⟨rd, i, none⟩ (.bool false)).drew) (some rd) from only_drewN (grown_put w rd i _) 1)
    obtain ⟨w1, hw1⟩ : ∃ W : World, W = (w.setCell ⟨rd, i, none⟩ (.bool false)).drew := ⟨_, rfl⟩
    have HSD2 := Lib.hid (show St w1 w0.heap.size bN bL bD bK rn rd rk k c _ ks (ds.set i false) nx by rw [hw1]; exact HSD.out)
    rw [← hw1] at HRR HG1 HBD ⊢
    clear n0 l0 d0 k0 n1 d1 d2 hcell hw1 HSD
    obtain ⟨br, orr, rfl, hkey, _⟩ := HRR.out.2.rec hlt
    have n0 := HSD2.out.cN.cell 0
    have l0 := HSD2.out.cL.cell 0
    have d0 := HSD2.out.cD.cell 0
    have k0 := HSD2.out.cK.cell 0
    simp only [List.getElem?_toArray, List.getElem?_cons_zero] at n0 l0 d0 k0
    have d1 := (HSD2.out.D.cell i).trans HYZ.out.2
    have n1 := (HSD2.out.N.cell i).trans HNX.out
    have k1 := (HSD2.out.K.cell i).trans HYZ.out.1
    have k2 := fun i => HSD2.out.K.thaw i
    have l1 := HRR.out.1
    obtain ⟨zk, hzk⟩ : ∃ zk, zk = r[p].key := ⟨_, rfl⟩
    rw [← hzk] at hkey HE
    clear hzk
    go_wp2
    go_region
    have HF := Lib.hid (show St ((w1.setCell ⟨rk, i, none⟩ (.int .i64 zk)).drew) w0.heap.size bN bL bD bK rn rd rk k c _ (ks.set i (hd (r.drop p))) (ds.set i false) nx by rw [HE.out]; exact (HSD2.out.putK i zk).drewN 1)
    have HG2 := Lib.hid (show w1.grownBy ((w1.setCell ⟨rk, i, none⟩ (.int .i64 zk)).drew) (some rk) from only_drewN (grown_put w1 rk i _) 1)
    go_wp2
    go_end0
    exact ⟨rfl, HF.out, w1, HG1.out, HG2.out⟩
  · have hpe : p = r.length := by omega
    have q2 : ((p : Int) == (r.length : Int)) = true := by rw [hpe]; simp
    have hie : (r.drop p).isEmpty = true := by rw [hpe]; simp
    have HE := Lib.hid (show hd (r.drop p) = 0 by rw [hpe, List.drop_length]; rfl)
    rw [hie] at HRR HSD HYZ HBD ⊢
    clear hie hpe
    go_enter Try.func96, Try.ntmps96
    go_wp2_with fail
    go_region
    have HG1 := Lib.hid (show w.grownBy ((w.setCell ⟨rd, i, none⟩ (.bool true)).drew) (some rd) from only_drewN (grown_put w rd i _) 1)
    obtain ⟨w1, hw1⟩ : ∃ W : World, W = (w.setCell ⟨rd, i, none⟩ (.bool true)).drew := ⟨_, rfl⟩
    have HSD2 := Lib.hid (show St w1 w0.heap.size bN bL bD bK rn rd rk k c _ ks (ds.set i true) nx by rw [hw1]; exact HSD.out)
    rw [← hw1] at HRR HG1 HBD ⊢
    clear n0 l0 d0 k0 n1 d1 d2 hcell hw1 HSD
    have d0 := HSD2.out.cD.cell 0
    have k0 := HSD2.out.cK.cell 0
    simp only [List.getElem?_toArray, List.getElem?_cons_zero] at d0 k0
    have d1 := (HSD2.out.D.cell i).trans HYZ.out.2
    have k1 := (HSD2.out.K.cell i).trans HYZ.out.1
    have k2 := fun i => HSD2.out.K.thaw i
    have HF := Lib.hid (show St (w1.setCell ⟨rk, i, none⟩ (.int .i64 0)) w0.heap.size bN bL bD bK rn rd rk k c _ (ks.set i (hd (r.drop p))) (ds.set i true) nx by rw [HE.out]; exact (HSD2.out.putK i 0))
    have HG2 := Lib.hid (show w1.grownBy (w1.setCell ⟨rk, i, none⟩ (.int .i64 0)) (some rk) from grown_put w1 rk i _)
    go_wp2
    go_end0
    exact ⟨rfl, HF.out, w1, HG1.out, HG2.out⟩
end Go.Proofs.Ytgffabjajbgbjaa.tn
