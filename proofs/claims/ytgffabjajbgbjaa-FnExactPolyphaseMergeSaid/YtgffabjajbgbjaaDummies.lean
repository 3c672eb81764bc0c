/- DummyRuns, the program's and the reference's: the perfect distribution less the missing runs, each taken off the greatest tape. No condition. -/
import Derived.Test.YtgffabjajbgbjaaLevel
set_option linter.unusedVariables false
set_option linter.unusedSimpArgs false
namespace Go.Proofs.Ytgffabjajbgbjaa.dummies
open Go.RowKit Go.Proofs.Ytgffabjajbgbjaa.mem Go.Proofs.Ytgffabjajbgbjaa.dists Go.Proofs.Ytgffabjajbgbjaa.sums Go.Proofs.Ytgffabjajbgbjaa.level
open Go.Proofs.Ytgffabjajbgbjaa.ins (inB inB_true inB_false inB_iff)

/-! ### the plain law -/
/-- the first index of the greatest among the first k elements -/
def am (l : List Int) : Nat → Nat
  | 0 => 0
  | k + 1 => if l.getD (am l k) 0 < l.getD k 0 then k else am l k
theorem am_lt {l : List Int} (h : 0 < l.length) : ∀ {k : Nat}, k ≤ l.length → am l k < l.length
  | 0, _ => h
  | k + 1, hk => by
    have := am_lt h (k := k) (by omega)
    unfold am; split <;> omega
def dstep (p : List Int × List Int) : List Int × List Int :=
  (p.1.set (am p.1 p.1.length) (p.1.getD (am p.1 p.1.length) 0 - 1), p.2.set (am p.1 p.1.length) (p.2.getD (am p.1 p.1.length) 0 + 1))
def dsteps (p : List Int × List Int) : Nat → List Int × List Int
  | 0 => p
  | j + 1 => dstep (dsteps p j)
theorem dsteps_len (p : List Int × List Int) : ∀ j, (dsteps p j).1.length = p.1.length ∧ (dsteps p j).2.length = p.2.length
  | 0 => ⟨rfl, rfl⟩
  | j + 1 => by have := dsteps_len p j; simp [dsteps, dstep, this]
/-- bounds, by the number of steps -/
def Bd (b : Int) (l : List Int) : Prop := ∀ i, -b ≤ l.getD i 0 ∧ l.getD i 0 ≤ b
theorem Bd.set {b c : Int} {l : List Int} (h : Bd b l) (hbc : b ≤ c) (i : Nat) (z : Int) (hz : -c ≤ z ∧ z ≤ c) : Bd c (l.set i z) := by
  intro j
  have hj := h j
  rw [List.getD_eq_getElem?_getD, List.getElem?_set]
  split
  · split
    · simpa using hz
    · simp; omega
  · rw [← List.getD_eq_getElem?_getD]; omega
theorem dsteps_bd {b : Int} {p : List Int × List Int} (h1 : Bd b p.1) (h2 : Bd b p.2) : ∀ j : Nat, Bd (b + j) (dsteps p j).1 ∧ Bd (b + j) (dsteps p j).2
  | 0 => by simpa [dsteps] using And.intro h1 h2
  | j + 1 => by
    obtain ⟨i1, i2⟩ := dsteps_bd h1 h2 j
    have a1 := i1 (am (dsteps p j).1 (dsteps p j).1.length)
    have a2 := i2 (am (dsteps p j).1 (dsteps p j).1.length)
    exact ⟨i1.set (by omega) _ _ (by omega), i2.set (by omega) _ _ (by omega)⟩
/-- how many runs are missing at level l -/
def miss (u l r : Nat) : Nat := ((dist u l).sum - r).toNat
def dum (u r : Nat) : List Int × List Int := dsteps (dist u (lev u r), List.replicate u 0) (miss u (lev u r) r)
theorem sum_le {u l : Nat} (hu : 2 ≤ u) (hu2 : u ≤ 7) (hl : l ≤ 15) : 0 ≤ (dist u l).sum ∧ (dist u l).sum ≤ 7340032 := by
  have h := take_bound (dist_small hu hl) (dist u l).length (Nat.le_refl _)
  rw [List.take_length, dist_len hu] at h
  omega
theorem bd_dist {u l : Nat} (hu : 2 ≤ u) (hl : l ≤ 15) : Bd 1048576 (dist u l) := by
  intro i
  rw [List.getD_eq_getElem?_getD]
  cases h : (dist u l)[i]? with
  | none => simp
  | some z =>
    have := dist_small hu hl z (List.mem_of_getElem? h)
    simp; omega
theorem bd_zero (u : Nat) : Bd 1048576 (List.replicate u 0) := by
  intro i
  rw [List.getD_eq_getElem?_getD, List.getElem?_replicate]
  split <;> simp

set_option maxRecDepth 100000 in
set_option maxHeartbeats 1000000 in
theorem impl_dum (u r : Nat) (w : World) (hu : 2 ≤ u) (hu2 : u ≤ 7) (hr : r ≤ 1000) :
    Calls Try.prog 59 #[.int .i64 ((u : Int) + 1), .int .i64 (r : Int)] w fun e w' => ∃ v x, e = .returned (.tuple #[v, x]) ∧ w'.ownsRow w.heap.size 3 1 v u (ints (dum u r).1) ∧ w'.ownsRow w.heap.size 3 1 x u (ints (dum u r).2) ∧
      (v.ownBlock = none ∨ v.ownBlock ≠ x.ownBlock) ∧ Below w.heap.size w w' := by
  have hmk := make_rep (P := Try.prog) 22 3 _ _ Try.underlying22 info rfl u (by omega) (by unfold maxLen; omega)
  go_enter Try.func59, Try.ntmps59
  go_wp2_with fail
  refine (impl_lev u r _ hu hu2 hr).mono ?_
  rintro e w1 ⟨n, rfl, hI, hn, hb1⟩
  have HN := Lib.hid (hI.lev hn)
  have HI := Lib.hid hI
  clear hI
  go_wp2_with fail
  refine (dists.impl_any u n _ hu hu2 hn).mono ?_
  rintro e w2 ⟨v, rfl, ho, hb2⟩
  have hbb := below_step hb1 hb2
  have hlt := ho.lt
  have ho := own_base ho hb1.size
  have hl := dist_len hu n
  have hsm := dist_small hu hn
  have hbd := bd_dist hu hn
  have hsb := sum_le hu hu2 hn
  obtain ⟨ds, hds⟩ : ∃ ds, ds = dist u n := ⟨_, rfl⟩
  have hpos : (r : Int) ≤ ds.sum := by rw [hds]; exact HI.out.2
  have HR := Lib.hid (show dum u r = dsteps (ds, List.replicate u 0) (ds.sum - r).toNat by rw [dum, miss, ← HN.out, ← hds])
  rw [← hds] at hl hsm ho hbd hsb
  clear hds
  have HBD := Lib.hid hbd
  clear hbd
  subst hl
  obtain ⟨A, c, rfl, hnc, hcm, hrd⟩ := own_form ho
  obtain ⟨g, rfl, hg1, hg2⟩ := own_addr ho (by omega)
  go_wp2_with fail
  refine (sums.impl_any (some ⟨g, 0, none⟩) c ds _ (by omega) hsm (hrd.alloc _)).mono ?_
  rintro e w3 ⟨rfl, rfl⟩
  obtain ⟨M, hM⟩ : ∃ M : Nat, (M : Int) = ds.sum - r := ⟨(ds.sum - r).toNat, by omega⟩
  have hM2 : (M : Int) ≤ 7340032 := by omega
  rw [show ds.sum = (M : Int) + r by omega]
  have HM := Lib.hid (show (ds.sum - r).toNat = M by omega)
  have hZ := Blk.new w2 3 (rep ds.length (.int .i64 0))
  have hO : (w2.alloc (.cells (rep ds.length (.int .i64 0)) 3)).ownsRow w.heap.size 3 1 (.slice (some ⟨w2.heap.size, 0, none⟩) ds.length ds.length) ds.length (ints (List.replicate ds.length 0)) := by
    have h := hZ.own (base := w.heap.size) (size := 1) (n := ds.length) (c := ds.length) (by have := hbb.size; omega) (Nat.le_refl _) (by unfold maxLen; omega) (by simp [rep])
    rw [List.take_of_length_le (by simp [rep])] at h
    have e : (rep ds.length (.int .i64 0)).toList = ints (List.replicate ds.length 0) := by simp [rep, ints]
    rwa [e] at h
  have ho1 := ho.alloc (.cells (rep ds.length (.int .i64 0)) 3)
  have hbw : Below w.heap.size w (w2.alloc (.cells (rep ds.length (.int .i64 0)) 3)) := hbb.alloc hbb.size _
  clear hM hsb hpos hsm hrd ho hZ hmk
  obtain ⟨d, hd⟩ : ∃ d, d = w2.heap.size := ⟨_, rfl⟩
  rw [← hd] at hO
  have hgd : g < d := by omega
  have hd1 : w.heap.size ≤ d := by have := hbb.size; omega
  rw [← hd]
  clear hd
  obtain ⟨W0, hW0⟩ : ∃ W0, W0 = w2.alloc (.cells (rep ds.length (.int .i64 0)) 3) := ⟨_, rfl⟩
  rw [← hW0] at hO ho1 hbw
  rw [← hW0]
  clear hW0
  go_wp2
  go_loopw [8, 9, 10, 11] (fun m _ _ _ wr => ∃ (j k : Nat), j + k ≤ M ∧ M ≤ j + k ∧ m = .int .i64 (k : Int) ∧
      wr.ownsRow w.heap.size 3 1 (.slice (some ⟨g, 0, none⟩) ds.length c) ds.length (ints (dsteps (ds, List.replicate ds.length 0) j).1) ∧
      wr.ownsRow w.heap.size 3 1 (.slice (some ⟨d, 0, none⟩) ds.length ds.length) ds.length (ints (dsteps (ds, List.replicate ds.length 0) j).2) ∧ Below w.heap.size w wr)
    (fun m _ _ _ _ => (intOf m).toNat)
  case atStart => exact ⟨0, M, by omega, by omega, rfl, ho1, hO, hbw⟩
  case round =>
    obtain ⟨j, k, hjk, hjk2, rfl, hv, hx, hb⟩ := hrel
    clear ho1 hO hbw
    by_cases hlt : 0 < k
    · have hbds := dsteps_bd (p := (ds, List.replicate ds.length 0)) HBD.out (bd_zero ds.length) j
      have hlen := dsteps_len (ds, List.replicate ds.length 0) j
      have HS := Lib.hid (show dsteps (ds, List.replicate ds.length 0) (j + 1) = dstep (dsteps (ds, List.replicate ds.length 0) j) from rfl)
      obtain ⟨p, hp⟩ : ∃ p, p = dsteps (ds, List.replicate ds.length 0) j := ⟨_, rfl⟩
      rw [← hp] at hv hx hbds hlen HS
      clear hp
      obtain ⟨rl, dl⟩ := p
      simp only [List.length_replicate] at hlen
      obtain ⟨hl1, hl2⟩ := hlen
      simp only at hv hx hbds hl1 hl2
      have HL1 := Lib.hid hl1
      have HL2 := Lib.hid hl2
      have hle : rl.length ≤ ds.length ∧ ds.length ≤ rl.length ∧ dl.length ≤ ds.length ∧ ds.length ≤ dl.length := by omega
      clear hl1 hl2
      have HB1 := Lib.hid hbds.1
      have HB2 := Lib.hid hbds.2
      clear hbds
      go_wp2
      go_loop [9, 10, 11, 30] (fun a _ _ i => ∃ q : Nat, q ≤ ds.length ∧ i = .int .i64 (q : Int) ∧ a = .int .i64 (am rl q : Int)) (fun _ _ _ i => ds.length - (intOf i).toNat)
      case atStart => exact ⟨0, by omega, rfl, rfl⟩
      case round =>
        obtain ⟨q, hq, rfl, rfl⟩ := hrel
        have ha := am_lt (l := rl) (by omega) (k := q) (by omega)
        obtain ⟨a, hae⟩ : ∃ a, a = am rl q := ⟨_, rfl⟩
        rw [← hae] at ha
        rw [← hae]
        have HA := Lib.hid hae
        clear hae
        by_cases hql : q < ds.length
        · have hc1 : wr.cell? ⟨g, q, none⟩ = some (.int .i64 (rl.getD q 0)) := own_cell hv (ints_getD _ _ (by omega))
          have hc2 : wr.cell? ⟨g, a, none⟩ = some (.int .i64 (rl.getD a 0)) := own_cell hv (ints_getD _ _ (by omega))
          obtain ⟨xq, hxq⟩ : ∃ xq, xq = rl.getD q 0 := ⟨_, rfl⟩
          obtain ⟨xa, hxa⟩ : ∃ xa, xa = rl.getD a 0 := ⟨_, rfl⟩
          rw [← hxq] at hc1
          rw [← hxa] at hc2
          have HM2 := Lib.hid (show am rl (q + 1) = if xa < xq then q else a by rw [am, ← HA.out, hxq, hxa])
          clear hxq hxa
          by_cases hc : xa < xq
          · have HM3 := Lib.hid (show am rl (q + 1) = q by rw [HM2.out, if_pos hc])
            go_wp2
            go_round
            case rel => exact ⟨q + 1, by omega, by go_num, by rw [HM3.out]⟩
            case measure => simp [intOf]; omega
          · have HM3 := Lib.hid (show am rl (q + 1) = a by rw [HM2.out, if_neg hc])
            go_wp2
            go_round
            case rel => exact ⟨q + 1, by omega, by go_num, by rw [HM3.out]⟩
            case measure => simp [intOf]; omega
        · have HA2 := Lib.hid (show a = am rl rl.length by rw [HA.out, show q = rl.length by omega])
          have hc1 : wr.cell? ⟨g, a, none⟩ = some (.int .i64 (rl.getD a 0)) := own_cell hv (ints_getD _ _ (by omega))
          have hf1 := own_thaw hv a
          have hv2 := own_put hv (i := a) (by rw [len_ints]; omega) (.int .i64 (rl.getD a 0 - 1))
          have hx2 := own_far hx (p := ⟨g, a, none⟩) (by simp [Value.ownBlock]; omega) (.int .i64 (rl.getD a 0 - 1))
          have hc2 := own_cell hx2 (ints_getD dl a (by omega))
          have hf2 := own_thaw hx2 a
          have hx3 := own_put hx2 (i := a) (by rw [len_ints]; omega) (.int .i64 (dl.getD a 0 + 1))
          have hv3 := own_far hv2 (p := ⟨d, a, none⟩) (by simp [Value.ownBlock]; omega) (.int .i64 (dl.getD a 0 + 1))
          have hB1 := HB1.out a
          have hB2 := HB2.out a
          have hb3 := (hb.setCell (p := ⟨g, a, none⟩) (by exact hg1) (.int .i64 (rl.getD a 0 - 1))).setCell (p := ⟨d, a, none⟩) (by exact hd1) (.int .i64 (dl.getD a 0 + 1))
          obtain ⟨xa, hxa⟩ : ∃ xa, xa = rl.getD a 0 := ⟨_, rfl⟩
          obtain ⟨ya, hya⟩ : ∃ ya, ya = dl.getD a 0 := ⟨_, rfl⟩
          have HP := Lib.hid (show dsteps (ds, List.replicate ds.length 0) (j + 1) = (rl.set a (xa - 1), dl.set a (ya + 1)) by
            rw [HS.out, dstep, ← HA2.out, ← hxa, ← hya])
          rw [← hxa] at hc1 hv2 hx2 hc2 hf2 hx3 hv3 hB1 hb3
          rw [← hya] at hc2 hx3 hv3 hB2 hb3
          rw [ints_set] at hx3 hv3
          clear hxa hya hv hx hv2 hx2
          go_wp2
          go_roundw
          case rel => exact ⟨j + 1, k - 1, by omega, by omega, by go_num, by rw [HP.out]; exact hv3, by rw [HP.out]; exact hx3, hb3⟩
          case measure => simp [intOf]; omega
    · have e : j = M := by omega
      subst e
      have HE := Lib.hid (show dum ds.length r = dsteps (ds, List.replicate ds.length 0) j by rw [HR.out, HM.out])
      rw [← HE.out] at hv hx
      go_wp2
      go_ret2
      exact ⟨_, _, rfl, hv, hx, .inr (by simp [Value.ownBlock]; omega), hb⟩
set_option maxRecDepth 100000 in
set_option maxHeartbeats 1000000 in
theorem spec_dum (u r : Nat) (w : World) (hu : 2 ≤ u) (hu2 : u ≤ 7) (hr : r ≤ 1000) :
    Calls Try.prog 60 #[.int .i64 ((u : Int) + 1), .int .i64 (r : Int)] w fun e w' => ∃ v x, e = .returned (.tuple #[v, x]) ∧ w'.ownsRow w.heap.size 3 1 v u (ints (dum u r).1) ∧ w'.ownsRow w.heap.size 3 1 x u (ints (dum u r).2) ∧
      (v.ownBlock = none ∨ v.ownBlock ≠ x.ownBlock) ∧ Below w.heap.size w w' := by
  have hmk := make_rep (P := Try.prog) 22 3 _ _ Try.underlying22 info rfl u (by omega) (by unfold maxLen; omega)
  go_enter Try.func60, Try.ntmps60
  go_wp2_with fail
  refine (spec_lev u r _ hu hu2 hr).mono ?_
  rintro e w1 ⟨n, rfl, hI, hn, hb1⟩
  have HN := Lib.hid (hI.lev hn)
  have HI := Lib.hid hI
  clear hI
  go_wp2_with fail
  refine (dists.spec_any u n _ hu hu2 hn).mono ?_
  rintro e w2 ⟨v, rfl, ho, hb2⟩
  have hbb := below_step hb1 hb2
  have hlt := ho.lt
  have ho := own_base ho hb1.size
  have hl := dist_len hu n
  have hsm := dist_small hu hn
  have hbd := bd_dist hu hn
  have hsb := sum_le hu hu2 hn
  obtain ⟨ds, hds⟩ : ∃ ds, ds = dist u n := ⟨_, rfl⟩
  have hpos : (r : Int) ≤ ds.sum := by rw [hds]; exact HI.out.2
  have HR := Lib.hid (show dum u r = dsteps (ds, List.replicate u 0) (ds.sum - r).toNat by rw [dum, miss, ← HN.out, ← hds])
  rw [← hds] at hl hsm ho hbd hsb
  clear hds
  have HBD := Lib.hid hbd
  clear hbd
  subst hl
  obtain ⟨A, c, rfl, hnc, hcm, hrd⟩ := own_form ho
  obtain ⟨g, rfl, hg1, hg2⟩ := own_addr ho (by omega)
  go_wp2_with fail
  refine (sums.spec_any (some ⟨g, 0, none⟩) c ds _ (by omega) hsm (hrd.alloc _)).mono ?_
  rintro e w3 ⟨rfl, rfl⟩
  obtain ⟨M, hM⟩ : ∃ M : Nat, (M : Int) = ds.sum - r := ⟨(ds.sum - r).toNat, by omega⟩
  have hM2 : (M : Int) ≤ 7340032 := by omega
  rw [show ds.sum = (M : Int) + r by omega]
  have HM := Lib.hid (show (ds.sum - r).toNat = M by omega)
  have hZ := Blk.new w2 3 (rep ds.length (.int .i64 0))
  have hO : (w2.alloc (.cells (rep ds.length (.int .i64 0)) 3)).ownsRow w.heap.size 3 1 (.slice (some ⟨w2.heap.size, 0, none⟩) ds.length ds.length) ds.length (ints (List.replicate ds.length 0)) := by
    have h := hZ.own (base := w.heap.size) (size := 1) (n := ds.length) (c := ds.length) (by have := hbb.size; omega) (Nat.le_refl _) (by unfold maxLen; omega) (by simp [rep])
    rw [List.take_of_length_le (by simp [rep])] at h
    have e : (rep ds.length (.int .i64 0)).toList = ints (List.replicate ds.length 0) := by simp [rep, ints]
    rwa [e] at h
  have ho1 := ho.alloc (.cells (rep ds.length (.int .i64 0)) 3)
  have hbw : Below w.heap.size w (w2.alloc (.cells (rep ds.length (.int .i64 0)) 3)) := hbb.alloc hbb.size _
  clear hM hsb hpos hsm hrd ho hZ hmk
  obtain ⟨d, hd⟩ : ∃ d, d = w2.heap.size := ⟨_, rfl⟩
  rw [← hd] at hO
  have hgd : g < d := by omega
  have hd1 : w.heap.size ≤ d := by have := hbb.size; omega
  rw [← hd]
  clear hd
  obtain ⟨W0, hW0⟩ : ∃ W0, W0 = w2.alloc (.cells (rep ds.length (.int .i64 0)) 3) := ⟨_, rfl⟩
  rw [← hW0] at hO ho1 hbw
  rw [← hW0]
  clear hW0
  go_wp2
  go_loopw [8, 9, 10] (fun m _ _ wr => ∃ (j k : Nat), j + k ≤ M ∧ M ≤ j + k ∧ m = .int .i64 (k : Int) ∧
      wr.ownsRow w.heap.size 3 1 (.slice (some ⟨g, 0, none⟩) ds.length c) ds.length (ints (dsteps (ds, List.replicate ds.length 0) j).1) ∧
      wr.ownsRow w.heap.size 3 1 (.slice (some ⟨d, 0, none⟩) ds.length ds.length) ds.length (ints (dsteps (ds, List.replicate ds.length 0) j).2) ∧ Below w.heap.size w wr)
    (fun m _ _ _ => (intOf m).toNat)
  case atStart => exact ⟨0, M, by omega, by omega, rfl, ho1, hO, hbw⟩
  case round =>
    obtain ⟨j, k, hjk, hjk2, rfl, hv, hx, hb⟩ := hrel
    clear ho1 hO hbw
    by_cases hlt : 0 < k
    · have hbds := dsteps_bd (p := (ds, List.replicate ds.length 0)) HBD.out (bd_zero ds.length) j
      have hlen := dsteps_len (ds, List.replicate ds.length 0) j
      have HS := Lib.hid (show dsteps (ds, List.replicate ds.length 0) (j + 1) = dstep (dsteps (ds, List.replicate ds.length 0) j) from rfl)
      obtain ⟨p, hp⟩ : ∃ p, p = dsteps (ds, List.replicate ds.length 0) j := ⟨_, rfl⟩
      rw [← hp] at hv hx hbds hlen HS
      clear hp
      obtain ⟨rl, dl⟩ := p
      simp only [List.length_replicate] at hlen
      obtain ⟨hl1, hl2⟩ := hlen
      simp only at hv hx hbds hl1 hl2
      have HL1 := Lib.hid hl1
      have HL2 := Lib.hid hl2
      have hle : rl.length ≤ ds.length ∧ ds.length ≤ rl.length ∧ dl.length ≤ ds.length ∧ ds.length ≤ dl.length := by omega
      clear hl1 hl2
      have HB1 := Lib.hid hbds.1
      have HB2 := Lib.hid hbds.2
      clear hbds
      obtain ⟨wo, hwo⟩ : ∃ wo : World, wo = wr := ⟨_, rfl⟩
      subst hwo
      go_wp2
      go_loopw [9, 10] (fun a i wi => ∃ q : Nat, 1 ≤ q ∧ q ≤ ds.length ∧ i = .int .i64 (q : Int) ∧ a = .int .i64 (am rl q : Int) ∧ ∃ m, wi = wo.drewN m) (fun _ i _ => ds.length - (intOf i).toNat)
      case atStart => exact ⟨1, by omega, by omega, rfl, by simp [am], 0, rfl⟩
      case round =>
        obtain ⟨q, hq0, hq, rfl, rfl, m, rfl⟩ := hrel
        have ha := am_lt (l := rl) (by omega) (k := q) (by omega)
        obtain ⟨a, hae⟩ : ∃ a, a = am rl q := ⟨_, rfl⟩
        rw [← hae] at ha
        rw [← hae]
        have HA := Lib.hid hae
        clear hae
        by_cases hql : q < ds.length
        · have hc1 : wo.cell? ⟨g, q, none⟩ = some (.int .i64 (rl.getD q 0)) := own_cell hv (ints_getD _ _ (by omega))
          have hc2 : wo.cell? ⟨g, a, none⟩ = some (.int .i64 (rl.getD a 0)) := own_cell hv (ints_getD _ _ (by omega))
          obtain ⟨xq, hxq⟩ : ∃ xq, xq = rl.getD q 0 := ⟨_, rfl⟩
          obtain ⟨xa, hxa⟩ : ∃ xa, xa = rl.getD a 0 := ⟨_, rfl⟩
          rw [← hxq] at hc1
          rw [← hxa] at hc2
          have HM2 := Lib.hid (show am rl (q + 1) = if xa < xq then q else a by rw [am, ← HA.out, hxq, hxa])
          clear hxq hxa
          have hi1 : (q : Int) < (ds.length : Int) := by omega
          have hi2 : (a : Int) < (ds.length : Int) := by omega
          by_cases hc : xa < xq
          · have HM3 := Lib.hid (show am rl (q + 1) = q by rw [HM2.out, if_pos hc])
            go_wp2_with fail
            go_quiet (fail)
            go_wp2
            go_roundw
            case rel => exact ⟨q + 1, by omega, by omega, by go_num, by rw [HM3.out], _, rfl⟩
            case measure => simp [intOf]; omega
          · have HM3 := Lib.hid (show am rl (q + 1) = a by rw [HM2.out, if_neg hc])
            go_wp2_with fail
            go_quiet (fail)
            go_wp2
            go_roundw
            case rel => exact ⟨q + 1, by omega, by omega, by go_num, by rw [HM3.out], _, rfl⟩
            case measure => simp [intOf]; omega
        · have hv := own_drewN hv m
          have hx := own_drewN hx m
          have hb := below_drewN hb m
          have HA2 := Lib.hid (show a = am rl rl.length by rw [HA.out, show q = rl.length by omega])
          have hc1 : (wo.drewN m).cell? ⟨g, a, none⟩ = some (.int .i64 (rl.getD a 0)) := own_cell hv (ints_getD _ _ (by omega))
          have hf1 := own_thaw hv a
          have hv2 := own_put hv (i := a) (by rw [len_ints]; omega) (.int .i64 (rl.getD a 0 - 1))
          have hx2 := own_far hx (p := ⟨g, a, none⟩) (by simp [Value.ownBlock]; omega) (.int .i64 (rl.getD a 0 - 1))
          have hc2 := own_cell hx2 (ints_getD dl a (by omega))
          have hf2 := own_thaw hx2 a
          have hx3 := own_put hx2 (i := a) (by rw [len_ints]; omega) (.int .i64 (dl.getD a 0 + 1))
          have hv3 := own_far hv2 (p := ⟨d, a, none⟩) (by simp [Value.ownBlock]; omega) (.int .i64 (dl.getD a 0 + 1))
          have hB1 := HB1.out a
          have hB2 := HB2.out a
          have hb3 := (hb.setCell (p := ⟨g, a, none⟩) (by exact hg1) (.int .i64 (rl.getD a 0 - 1))).setCell (p := ⟨d, a, none⟩) (by exact hd1) (.int .i64 (dl.getD a 0 + 1))
          obtain ⟨xa, hxa⟩ : ∃ xa, xa = rl.getD a 0 := ⟨_, rfl⟩
          obtain ⟨ya, hya⟩ : ∃ ya, ya = dl.getD a 0 := ⟨_, rfl⟩
          have HP := Lib.hid (show dsteps (ds, List.replicate ds.length 0) (j + 1) = (rl.set a (xa - 1), dl.set a (ya + 1)) by
            rw [HS.out, dstep, ← HA2.out, ← hxa, ← hya])
          rw [← hxa] at hc1 hv2 hx2 hc2 hf2 hx3 hv3 hB1 hb3
          rw [← hya] at hc2 hx3 hv3 hB2 hb3
          rw [ints_set] at hx3 hv3
          clear hxa hya hv hx hv2 hx2
          go_wp2
          go_roundw
          case rel => exact ⟨j + 1, k - 1, by omega, by omega, by go_num, by rw [HP.out]; exact hv3, by rw [HP.out]; exact hx3, hb3⟩
          case measure => simp [intOf]; omega
    · have e : j = M := by omega
      subst e
      have HE := Lib.hid (show dum ds.length r = dsteps (ds, List.replicate ds.length 0) j by rw [HR.out, HM.out])
      rw [← HE.out] at hv hx
      go_wp2
      go_ret2
      exact ⟨_, _, rfl, hv, hx, .inr (by simp [Value.ownBlock]; omega), hb⟩

def resR (t r : Int) : List Int := if can t r = true then (dum (t.toNat - 1) r.toNat).1 else []
def resD (t r : Int) : List Int := if can t r = true then (dum (t.toNat - 1) r.toNat).2 else []
theorem dum_len {u r : Nat} (hu : 2 ≤ u) : (dum u r).1.length = u ∧ (dum u r).2.length = u := by
  have := dsteps_len (dist u (lev u r), List.replicate u 0) (miss u (lev u r) r)
  simpa [dum, dist_len hu] using this

set_option maxHeartbeats 1000000 in
theorem impl_any (t r : Int) (w : World) :
    Calls Try.prog 23 #[.int .i64 t, .int .i64 r] w fun e w' => ∃ v x, e = .returned (.tuple #[v, x, .bool (can t r)]) ∧ OwnI w w' v (resR t r) ∧ OwnI w w' x (resD t r) ∧ (v.ownBlock = none ∨ v.ownBlock ≠ x.ownBlock) ∧ Below w.heap.size w w' := by
  by_cases h : can t r = true
  · obtain ⟨u, n, ⟨hu, hu2⟩, ⟨hn, hn2⟩, rfl, rfl⟩ := can_nat h
    have HR := Lib.hid (show resR ((u : Int) + 1) (n : Int) = (dum u n).1 ∧ resD ((u : Int) + 1) (n : Int) = (dum u n).2 by
      rw [resR, resD, if_pos h, if_pos h, show ((u : Int) + 1).toNat - 1 = u by omega, show ((n : Int)).toNat = n by omega]; exact ⟨rfl, rfl⟩)
    have HC := Lib.hid h
    clear h
    rw [HR.out.1, HR.out.2, HC.out]
    go_enter Try.func23, Try.ntmps23
    go_wp2_with fail
    refine (impl_can _ _ _).mono ?_
    rintro e w1 ⟨rfl, rfl⟩
    rw [HC.out]
    go_wp2_with fail
    refine (impl_dum u n _ hu hu2 hn2).mono ?_
    rintro e w2 ⟨v, x, rfl, hv, hx, hap, hb⟩
    have hl := dum_len (r := n) hu
    rw [← hl.1] at hv
    rw [← hl.2] at hx
    have HL := Lib.hid hl
    clear hl
    go_wp2
    go_ret3
    exact ⟨_, _, rfl, ⟨by rw [HL.out.1] at hv ⊢; exact hv, by rw [HL.out.1]; omega⟩, ⟨by rw [HL.out.2] at hx ⊢; exact hx, by rw [HL.out.2]; omega⟩, hap, hb⟩
  · have h2 : can t r = false := by simpa using h
    have HR := Lib.hid (show resR t r = [] ∧ resD t r = [] by rw [resR, resD, if_neg h, if_neg h]; exact ⟨rfl, rfl⟩)
    have HC := Lib.hid h2
    clear h h2
    rw [HR.out.1, HR.out.2, HC.out]
    go_enter Try.func23, Try.ntmps23
    go_wp2_with fail
    refine (impl_can _ _ _).mono ?_
    rintro e w1 ⟨rfl, rfl⟩
    rw [HC.out]
    go_wp2
    go_ret3
    exact ⟨_, _, rfl, ⟨World.ownsRow_nil _ _ _ _, by simp⟩, ⟨World.ownsRow_nil _ _ _ _, by simp⟩, .inl rfl, Below.refl _ _⟩
set_option maxHeartbeats 1000000 in
theorem spec_any (t r : Int) (w : World) :
    Calls Try.prog 25 #[.int .i64 t, .int .i64 r] w fun e w' => ∃ v x, e = .returned (.tuple #[v, x, .bool (can t r)]) ∧ OwnI w w' v (resR t r) ∧ OwnI w w' x (resD t r) ∧ (v.ownBlock = none ∨ v.ownBlock ≠ x.ownBlock) ∧ Below w.heap.size w w' := by
  by_cases h : can t r = true
  · obtain ⟨u, n, ⟨hu, hu2⟩, ⟨hn, hn2⟩, rfl, rfl⟩ := can_nat h
    have HR := Lib.hid (show resR ((u : Int) + 1) (n : Int) = (dum u n).1 ∧ resD ((u : Int) + 1) (n : Int) = (dum u n).2 by
      rw [resR, resD, if_pos h, if_pos h, show ((u : Int) + 1).toNat - 1 = u by omega, show ((n : Int)).toNat = n by omega]; exact ⟨rfl, rfl⟩)
    have HC := Lib.hid h
    clear h
    rw [HR.out.1, HR.out.2, HC.out]
    go_enter Try.func25, Try.ntmps25
    go_wp2_with fail
    refine (spec_can _ _ _).mono ?_
    rintro e w1 ⟨rfl, rfl⟩
    rw [HC.out]
    go_wp2_with fail
    refine (spec_dum u n _ hu hu2 hn2).mono ?_
    rintro e w2 ⟨v, x, rfl, hv, hx, hap, hb⟩
    have hl := dum_len (r := n) hu
    rw [← hl.1] at hv
    rw [← hl.2] at hx
    have HL := Lib.hid hl
    clear hl
    go_wp2
    go_ret3
    exact ⟨_, _, rfl, ⟨by rw [HL.out.1] at hv ⊢; exact hv, by rw [HL.out.1]; omega⟩, ⟨by rw [HL.out.2] at hx ⊢; exact hx, by rw [HL.out.2]; omega⟩, hap, hb⟩
  · have h2 : can t r = false := by simpa using h
    have HR := Lib.hid (show resR t r = [] ∧ resD t r = [] by rw [resR, resD, if_neg h, if_neg h]; exact ⟨rfl, rfl⟩)
    have HC := Lib.hid h2
    clear h h2
    rw [HR.out.1, HR.out.2, HC.out]
    go_enter Try.func25, Try.ntmps25
    go_wp2_with fail
    refine (spec_can _ _ _).mono ?_
    rintro e w1 ⟨rfl, rfl⟩
    rw [HC.out]
    go_wp2
    go_ret3
    exact ⟨_, _, rfl, ⟨own_below (World.ownsRow_made w #[] 0 (Nat.le_refl _) (Nat.zero_le _) (by simp)) ((Below.refl _ _).alloc (Nat.le_refl _) _), by simp⟩, ⟨own_made2 w 3 1, by simp⟩, .inr (by simp [Value.ownBlock]), ((Below.refl _ _).alloc (Nat.le_refl _) _).alloc (by simp) _⟩
end Go.Proofs.Ytgffabjajbgbjaa.dummies
