/- The union of two summaries, the reference's. Condition: at most 64 entries each, of bounded ranks. -/
import Derived.Test.YtlckeefjhafloaaSmyMgS
set_option linter.unusedVariables false
set_option linter.unusedSimpArgs false
namespace Go.Proofs.Ytlckeefjhafloaa.smyMg
open Go.RowKit Go.Proofs.Ytlckeefjhafloaa.mem Go.Proofs.Ytlckeefjhafloaa.smy Go.Proofs.Ytlckeefjhafloaa.smyQ Go.Proofs.Ytlckeefjhafloaa.mgLaw

theorem un_a {ca cb : Int} {a b : List Rkv} {i k : Nat} (hi : i < a.length) (hk : k ≤ b.length) (h : k = b.length ∨ ∃ h : k < b.length, a[i].value ≤ b[k].value) : un ca cb a b (a.length - i + (b.length - k)) i k = moved a[i] cb b k :: un ca cb a b (a.length - (i + 1) + (b.length - k)) (i + 1) k := by
  rw [show a.length - i + (b.length - k) = (a.length - (i + 1) + (b.length - k)) + 1 by omega, un, if_pos (Or.inl hi), if_pos ?_, getD_r a hi]
  rcases h with h | ⟨h, h2⟩
  · exact Or.inl h
  · exact Or.inr ⟨hi, by rw [getD_r a hi, getD_r b h]; exact h2⟩
theorem un_b {ca cb : Int} {a b : List Rkv} {i k : Nat} (hi : i ≤ a.length) (hk : k < b.length) (h : i = a.length ∨ ∃ h : i < a.length, ¬ a[i].value ≤ b[k].value) : un ca cb a b (a.length - i + (b.length - k)) i k = moved b[k] ca a i :: un ca cb a b (a.length - i + (b.length - (k + 1))) i (k + 1) := by
  rw [show a.length - i + (b.length - k) = (a.length - i + (b.length - (k + 1))) + 1 by omega, un, if_pos (Or.inr hk), if_neg ?_, getD_r b hk]
  intro hc
  rcases hc with hc | ⟨hc, h3⟩
  · omega
  · rcases h with h | ⟨h, h2⟩
    · omega
    · rw [getD_r a h, getD_r b hk] at h3; exact h2 h3
theorem un_end {ca cb : Int} {a b : List Rkv} : un ca cb a b (a.length - a.length + (b.length - b.length)) a.length b.length = [] := by
  rw [show a.length - a.length + (b.length - b.length) = 0 by omega, un]

set_option maxRecDepth 100000 in
theorem ent_moved : Enters 88 := fun _ _ => rfl
set_option maxRecDepth 100000 in
set_option maxHeartbeats 8000000 in
theorem union_any {ca cb : Int} (A : Option Addr) (c : Nat) (a : List Rkv) (B : Option Addr) (d : Nat) (b : List Rkv) (w : World) (a3 : a.length ≤ 64) (b3 : b.length ≤ 64) (hBa : Bd a) (hBb : Bd b) (a1 : 0 ≤ ca) (a2 : ca ≤ 1000) (b1 : 0 ≤ cb) (b2 : cb ≤ 1000) (hr : Rd w 3 A a.length (rkvs a)) (hr2 : Rd w 3 B b.length (rkvs b)) :
    Calls Try.prog 72 #[.agg #[.int .i64 ca, .slice A a.length c], .agg #[.int .i64 cb, .slice B b.length d]] w fun e w' => ∃ v, e = .returned (.agg #[.int .i64 (ca + cb), v]) ∧ OwnRkv w w' v (union ca cb a b) ∧ Below w.heap.size w w' := by
  have HB4 := Lib.hid (box4 w 29 29 29 29 #[.int .i64 ca, .slice A a.length c] #[.int .i64 cb, .slice B b.length d] #[.int .i64 0, .slice none 0 0] #[.int .i64 (ca + cb), .slice none 0 0])
  have HBA := Lib.hid hBa
  have HBB := Lib.hid hBb
  have HMA := Lib.hid (fun (i k : Nat) (h : i < a.length) (hk : k ≤ b.length) W (hW : Below w.heap.size w W) => moved_any (cb := cb) a[i] B d b k W b3 hBb b1 b2 (by have := hBa i h; omega) (by have := hBa i h; omega) (by have := hBa i h; omega) (by have := hBa i h; omega) hk (hr2.below hW))
  have HMB := Lib.hid (fun (i k : Nat) (h : k < b.length) (hi : i ≤ a.length) W (hW : Below w.heap.size w W) => moved_any (cb := ca) b[k] A c a i W a3 hBa a1 a2 (by have := hBb k h; omega) (by have := hBb k h; omega) (by have := hBb k h; omega) (by have := hBb k h; omega) hi (hr.below hW))
  clear hBa hBb
  go_enter Try.func72, Try.ntmps72
  go_wp2
  go_loopg [6, 7] (a.length + b.length + 1) (fun f s6 s7 wr => ∃ (i k : Nat) (M : List Rkv) (v : Value), s6 = .int .i64 (i : Int) ∧ s7 = .int .i64 (k : Int) ∧ i ≤ a.length ∧ k ≤ b.length ∧ (a.length - i) + (b.length - k) < f ∧ M.length ≤ i + k ∧ M ++ un ca cb a b (a.length - i + (b.length - k)) i k = union ca cb a b ∧ Blk wr w.heap.size 29 #[.int .i64 ca, .slice A a.length c] ∧ Blk wr (w.heap.size + 1) 29 #[.int .i64 cb, .slice B b.length d] ∧ Blk wr (w.heap.size + 2) 29 #[.int .i64 0, .slice none 0 0] ∧ Blk wr (w.heap.size + 3) 29 #[.int .i64 (ca + cb), v] ∧ wr.ownsRow (w.heap.size + 4) 51 3 v M.length (rkvs M) ∧ Below w.heap.size w wr)
  case atStart => exact ⟨0, 0, [], _, rfl, rfl, by omega, by omega, by omega, by simp, by simp [union], HB4.out.1, HB4.out.2.1, HB4.out.2.2.1, HB4.out.2.2.2.1, World.ownsRow_nil _ _ _ _, HB4.out.2.2.2.2⟩
  case round =>
    obtain ⟨i, k, M, v, rfl, rfl, hi, hk, hgk, hMl, hM, hA, hB, hZ, hO, ho, hb⟩ := hrel
    obtain ⟨Av, cv, hve, _, _, _⟩ := own_form ho
    subst hve
    have HM := Lib.hid hM
    have HH := Lib.hid (And.intro hA (And.intro hB (And.intro hZ (And.intro hO (And.intro ho hb)))))
    have hA0 : wr.cell? ⟨w.heap.size, 0, none⟩ = some (.int .i64 ca) := hA.cell 0
    have hA1 : wr.cell? ⟨w.heap.size, 1, none⟩ = some (.slice A a.length c) := hA.cell 1
    have hB0 : wr.cell? ⟨w.heap.size + 1, 0, none⟩ = some (.int .i64 cb) := hB.cell 0
    have hB1 : wr.cell? ⟨w.heap.size + 1, 1, none⟩ = some (.slice B b.length d) := hB.cell 1
    have hO1 : wr.cell? ⟨w.heap.size + 3, 1, none⟩ = some (.slice Av M.length cv) := hO.cell 1
    clear hM hA hB hZ hO ho
    by_cases h1 : i < a.length
    · by_cases h2 : k < b.length
      · have q1 : ((k : Int) == (b.length : Int)) = false := by simp; omega
        by_cases hle : a[i].value ≤ b[k].value
        · have hi0 := h1
          have HMV := Lib.hid (HMA.out i k hi0 hk)
          have HM2 := Lib.hid (show (M ++ [moved a[i] cb b k]) ++ un ca cb a b (a.length - (i + 1) + (b.length - k)) (i + 1) k = union ca cb a b by
            rw [← HM.out, un_a hi0 hk (Or.inr ⟨h2, hle⟩), List.append_assoc]; rfl)
          obtain ⟨b0, off0, rfl, p0, p1, p2⟩ := (hr.below hb).rkv hi0
          generalize moved a[i] cb b k = mv at HMV HM2
          generalize a[i] = ex at p0 p1 p2 HMV hle
          obtain ⟨b1, off1, rfl, r0, r1, r2⟩ := (hr2.below hb).rkv h2
          generalize b[k] = ey at r0 r1 r2 hle
          go_wp2_with fail
          go_quiet (fail)
          obtain ⟨wq, hwq⟩ : ∃ W : World, W = wr.drewN nq := ⟨_, rfl⟩
          rw [← hwq]
          have p0q : wq.cell? ⟨b0, off0 + i * 3, none⟩ = some (.int .i64 ex.value) := by rw [hwq]; exact p0
          have p1q : wq.cell? ⟨b0, off0 + i * 3 + 1, none⟩ = some (.int .i64 ex.least) := by rw [hwq]; exact p1
          have p2q : wq.cell? ⟨b0, off0 + i * 3 + 2, none⟩ = some (.int .i64 ex.most) := by rw [hwq]; exact p2
          have HQ := Lib.hid (show Blk wq w.heap.size 29 #[.int .i64 ca, .slice (some ⟨b0, off0, none⟩) a.length c] ∧ Blk wq (w.heap.size + 1) 29 #[.int .i64 cb, .slice (some ⟨b1, off1, none⟩) b.length d] ∧ Blk wq (w.heap.size + 2) 29 #[.int .i64 0, .slice none 0 0] ∧ Blk wq (w.heap.size + 3) 29 #[.int .i64 (ca + cb), .slice Av M.length cv] ∧ wq.ownsRow (w.heap.size + 4) 51 3 (.slice Av M.length cv) M.length (rkvs M) ∧ Below w.heap.size w wq from by rw [hwq]; exact And.intro (HH.out.1.drewN nq) (And.intro (HH.out.2.1.drewN nq) (And.intro (HH.out.2.2.1.drewN nq) (And.intro (HH.out.2.2.2.1.drewN nq) (And.intro (own_drewN HH.out.2.2.2.2.1 nq) (below_drewN HH.out.2.2.2.2.2 nq))))))
          clear p0 p1 p2 hA0 hA1 hB0 hB1 hO1 hwq HH hb r0 r1 r2
          have hA0 : wq.cell? ⟨w.heap.size, 0, none⟩ = some (.int .i64 ca) := HQ.out.1.cell 0
          have hA1 : wq.cell? ⟨w.heap.size, 1, none⟩ = some _ := HQ.out.1.cell 1
          have hB0 : wq.cell? ⟨w.heap.size + 1, 0, none⟩ = some (.int .i64 cb) := HQ.out.2.1.cell 0
          have hB1 : wq.cell? ⟨w.heap.size + 1, 1, none⟩ = some _ := HQ.out.2.1.cell 1
          have hO1 : wq.cell? ⟨w.heap.size + 3, 1, none⟩ = some (.slice Av M.length cv) := HQ.out.2.2.2.1.cell 1
          have HKC := Lib.hid (fun (w' : World) (h : Below wq.heap.size wq w') => And.intro (cells_below h hA0) (And.intro (cells_below h hA1) (And.intro (cells_below h hB0) (And.intro (cells_below h hB1) (And.intro (cells_below h hO1) (And.intro (cells_below h p0q) (And.intro (cells_below h p1q) (cells_below h p2q))))))))
          have HG := Lib.hid (own_ge HQ.out.2.2.2.2.1)
          have hh : M.length ≤ 1099511627776 := by omega
          have hgl : w.heap.size + 3 < wq.heap.size := HQ.out.2.2.2.1.lt
          have HBD := Lib.hid (show Below w.heap.size w wq.drew from drew_one HQ.out.2.2.2.2.2)
          have HDR := Lib.hid (show Below wq.heap.size wq wq.drew from drew_one (Below.refl _ _))
          go_upto_region 5 with fail
          go_cut [] (fun wx => ∃ v, Blk wx w.heap.size 29 #[.int .i64 ca, .slice (some ⟨b0, off0, none⟩) a.length c] ∧ Blk wx (w.heap.size + 1) 29 #[.int .i64 cb, .slice (some ⟨b1, off1, none⟩) b.length d] ∧ Blk wx (w.heap.size + 2) 29 #[.int .i64 0, .slice none 0 0] ∧ Blk wx (w.heap.size + 3) 29 #[.int .i64 (ca + cb), v] ∧ wx.ownsRow (w.heap.size + 4) 51 3 v (M ++ [mv]).length (rkvs (M ++ [mv])) ∧ Below w.heap.size w wx)
          case first =>
            go_region_law ((first
              | (refine step_call rfl 88 _ _ rfl ent_moved (by simp [Act.eval, Act.put]) (HMV.out _ HBD.out) ?_; rintro e w3 ⟨rfl, hb3⟩; refine ⟨_, rfl, ?_⟩; have hbq := below_step HDR.out hb3; have hall := HKC.out _ hbq; obtain ⟨k0, k1, k2, k3, k4, k5, k6, k7⟩ := hall; have k4z := fun (o : Obj) => cells_below (w' := w3.alloc o) ((Below.refl _ _).alloc (Nat.le_refl _) o) k4; have ho3 := own_below HQ.out.2.2.2.2.1 hbq; have hbs : w.heap.size + 4 ≤ w3.heap.size := by have := hbq.size; omega)
              | (refine mem.step_push_atH w3 rfl (.tmp 54) (.tmp 63) 27 rfl (w.heap.size + 4) 51 _ 3 24 Try.underlying27 mem.info_rkv rfl (by decide) (.slice Av M.length cv) M.length (rkvs M) (by simp [Act.eval, Act.put]) ho3 w3.heap.size rfl (rkvs [mv]) 1 rfl (mem.rkvs_one [mv]) (by simp [Act.eval, Act.put]) hh (by decide) hbs ?_; intro v' w' ho' hg' hnw'; have hO2 := (HQ.out.2.2.2.1.below hbq HQ.out.2.2.2.1.lt).grown hg' (fun e => by have := HG.out _ e.symm; omega); have hcc : w'.cell? ⟨w.heap.size + 3, 1, none⟩ = some (.slice Av M.length cv) := hO2.cell 1; have hff := hO2.thaw 1; obtain ⟨A', c', hve, _, _, _⟩ := own_form ho'; subst hve)))
            all_goals
              have hO3 := hO2.put 1 (.slice A' (M.length + 1) c')
              have hoo := own_far ho' (p := ⟨w.heap.size + 3, 1, none⟩) (fun e => by have := (ho'.lt _ e).1; simp at this) (.slice A' (M.length + 1) c')
              have hA3 := ((HQ.out.1.below hbq HQ.out.1.lt).grown hg' (fun e => by have := HG.out _ e.symm; omega)).far (p := ⟨w.heap.size + 3, 1, none⟩) (by simp only; omega) (.slice A' (M.length + 1) c')
              have hB3 := ((HQ.out.2.1.below hbq HQ.out.2.1.lt).grown hg' (fun e => by have := HG.out _ e.symm; omega)).far (p := ⟨w.heap.size + 3, 1, none⟩) (by simp only; omega) (.slice A' (M.length + 1) c')
              have hZ3 := ((HQ.out.2.2.1.below hbq HQ.out.2.2.1.lt).grown hg' (fun e => by have := HG.out _ e.symm; omega)).far (p := ⟨w.heap.size + 3, 1, none⟩) (by simp only; omega) (.slice A' (M.length + 1) c')
              have hb4 := (below_grown (below_step HQ.out.2.2.2.2.2 hbq) (by omega) hg' (fun g h => by have := HG.out _ h; omega)).setCell (p := ⟨w.heap.size + 3, 1, none⟩) (by simp only; omega) (.slice A' (M.length + 1) c')
              go_wp2_with fail
              go_meet
              exact ⟨_, hA3, hB3, hZ3, hO3, by rw [List.length_append, rkvs_app]; exact hoo, hb4⟩
          case rest =>
            obtain ⟨v5, hA5, hB5, hZ5, hO5, ho5, hb5⟩ := hcut
            go_wp2
            go_roundg (gk - 1)
            case rel => exact ⟨i + 1, k, M ++ [mv], v5, by go_num, by go_num, by omega, by omega, by omega, by rw [List.length_append]; simp only [List.length_cons, List.length_nil]; omega, HM2.out, hA5, hB5, hZ5, hO5, ho5, hb5⟩
            case measure => omega
        · have hk0 := h2
          have HMV := Lib.hid (HMB.out i k hk0 hi)
          have HM2 := Lib.hid (show (M ++ [moved b[k] ca a i]) ++ un ca cb a b (a.length - i + (b.length - (k + 1))) i (k + 1) = union ca cb a b by
            rw [← HM.out, un_b hi hk0 (Or.inr ⟨h1, hle⟩), List.append_assoc]; rfl)
          obtain ⟨b0, off0, rfl, p0, p1, p2⟩ := (hr2.below hb).rkv hk0
          generalize moved b[k] ca a i = mv at HMV HM2
          generalize b[k] = ey at p0 p1 p2 HMV hle
          obtain ⟨b1, off1, rfl, r0, r1, r2⟩ := (hr.below hb).rkv h1
          generalize a[i] = ex at r0 r1 r2 hle
          go_wp2_with fail
          go_quiet (fail)
          obtain ⟨wq, hwq⟩ : ∃ W : World, W = wr.drewN nq := ⟨_, rfl⟩
          rw [← hwq]
          have p0q : wq.cell? ⟨b0, off0 + k * 3, none⟩ = some (.int .i64 ey.value) := by rw [hwq]; exact p0
          have p1q : wq.cell? ⟨b0, off0 + k * 3 + 1, none⟩ = some (.int .i64 ey.least) := by rw [hwq]; exact p1
          have p2q : wq.cell? ⟨b0, off0 + k * 3 + 2, none⟩ = some (.int .i64 ey.most) := by rw [hwq]; exact p2
          have HQ := Lib.hid (show Blk wq w.heap.size 29 #[.int .i64 ca, .slice (some ⟨b1, off1, none⟩) a.length c] ∧ Blk wq (w.heap.size + 1) 29 #[.int .i64 cb, .slice (some ⟨b0, off0, none⟩) b.length d] ∧ Blk wq (w.heap.size + 2) 29 #[.int .i64 0, .slice none 0 0] ∧ Blk wq (w.heap.size + 3) 29 #[.int .i64 (ca + cb), .slice Av M.length cv] ∧ wq.ownsRow (w.heap.size + 4) 51 3 (.slice Av M.length cv) M.length (rkvs M) ∧ Below w.heap.size w wq from by rw [hwq]; exact And.intro (HH.out.1.drewN nq) (And.intro (HH.out.2.1.drewN nq) (And.intro (HH.out.2.2.1.drewN nq) (And.intro (HH.out.2.2.2.1.drewN nq) (And.intro (own_drewN HH.out.2.2.2.2.1 nq) (below_drewN HH.out.2.2.2.2.2 nq))))))
          clear p0 p1 p2 hA0 hA1 hB0 hB1 hO1 hwq HH hb r0 r1 r2
          have hA0 : wq.cell? ⟨w.heap.size, 0, none⟩ = some (.int .i64 ca) := HQ.out.1.cell 0
          have hA1 : wq.cell? ⟨w.heap.size, 1, none⟩ = some _ := HQ.out.1.cell 1
          have hB0 : wq.cell? ⟨w.heap.size + 1, 0, none⟩ = some (.int .i64 cb) := HQ.out.2.1.cell 0
          have hB1 : wq.cell? ⟨w.heap.size + 1, 1, none⟩ = some _ := HQ.out.2.1.cell 1
          have hO1 : wq.cell? ⟨w.heap.size + 3, 1, none⟩ = some (.slice Av M.length cv) := HQ.out.2.2.2.1.cell 1
          have HKC := Lib.hid (fun (w' : World) (h : Below wq.heap.size wq w') => And.intro (cells_below h hA0) (And.intro (cells_below h hA1) (And.intro (cells_below h hB0) (And.intro (cells_below h hB1) (And.intro (cells_below h hO1) (And.intro (cells_below h p0q) (And.intro (cells_below h p1q) (cells_below h p2q))))))))
          have HG := Lib.hid (own_ge HQ.out.2.2.2.2.1)
          have hh : M.length ≤ 1099511627776 := by omega
          have hgl : w.heap.size + 3 < wq.heap.size := HQ.out.2.2.2.1.lt
          have HBD := Lib.hid (show Below w.heap.size w wq.drew from drew_one HQ.out.2.2.2.2.2)
          have HDR := Lib.hid (show Below wq.heap.size wq wq.drew from drew_one (Below.refl _ _))
          go_upto_region 7 with fail
          go_cut [] (fun wx => ∃ v, Blk wx w.heap.size 29 #[.int .i64 ca, .slice (some ⟨b1, off1, none⟩) a.length c] ∧ Blk wx (w.heap.size + 1) 29 #[.int .i64 cb, .slice (some ⟨b0, off0, none⟩) b.length d] ∧ Blk wx (w.heap.size + 2) 29 #[.int .i64 0, .slice none 0 0] ∧ Blk wx (w.heap.size + 3) 29 #[.int .i64 (ca + cb), v] ∧ wx.ownsRow (w.heap.size + 4) 51 3 v (M ++ [mv]).length (rkvs (M ++ [mv])) ∧ Below w.heap.size w wx)
          case first =>
            go_region_law ((first
              | (refine step_call rfl 88 _ _ rfl ent_moved (by simp [Act.eval, Act.put]) (HMV.out _ HBD.out) ?_; rintro e w3 ⟨rfl, hb3⟩; refine ⟨_, rfl, ?_⟩; have hbq := below_step HDR.out hb3; have hall := HKC.out _ hbq; obtain ⟨k0, k1, k2, k3, k4, k5, k6, k7⟩ := hall; have k4z := fun (o : Obj) => cells_below (w' := w3.alloc o) ((Below.refl _ _).alloc (Nat.le_refl _) o) k4; have ho3 := own_below HQ.out.2.2.2.2.1 hbq; have hbs : w.heap.size + 4 ≤ w3.heap.size := by have := hbq.size; omega)
              | (refine mem.step_push_atH w3 rfl (.tmp 69) (.tmp 78) 27 rfl (w.heap.size + 4) 51 _ 3 24 Try.underlying27 mem.info_rkv rfl (by decide) (.slice Av M.length cv) M.length (rkvs M) (by simp [Act.eval, Act.put]) ho3 w3.heap.size rfl (rkvs [mv]) 1 rfl (mem.rkvs_one [mv]) (by simp [Act.eval, Act.put]) hh (by decide) hbs ?_; intro v' w' ho' hg' hnw'; have hO2 := (HQ.out.2.2.2.1.below hbq HQ.out.2.2.2.1.lt).grown hg' (fun e => by have := HG.out _ e.symm; omega); have hcc : w'.cell? ⟨w.heap.size + 3, 1, none⟩ = some (.slice Av M.length cv) := hO2.cell 1; have hff := hO2.thaw 1; obtain ⟨A', c', hve, _, _, _⟩ := own_form ho'; subst hve)))
            all_goals
              have hO3 := hO2.put 1 (.slice A' (M.length + 1) c')
              have hoo := own_far ho' (p := ⟨w.heap.size + 3, 1, none⟩) (fun e => by have := (ho'.lt _ e).1; simp at this) (.slice A' (M.length + 1) c')
              have hA3 := ((HQ.out.1.below hbq HQ.out.1.lt).grown hg' (fun e => by have := HG.out _ e.symm; omega)).far (p := ⟨w.heap.size + 3, 1, none⟩) (by simp only; omega) (.slice A' (M.length + 1) c')
              have hB3 := ((HQ.out.2.1.below hbq HQ.out.2.1.lt).grown hg' (fun e => by have := HG.out _ e.symm; omega)).far (p := ⟨w.heap.size + 3, 1, none⟩) (by simp only; omega) (.slice A' (M.length + 1) c')
              have hZ3 := ((HQ.out.2.2.1.below hbq HQ.out.2.2.1.lt).grown hg' (fun e => by have := HG.out _ e.symm; omega)).far (p := ⟨w.heap.size + 3, 1, none⟩) (by simp only; omega) (.slice A' (M.length + 1) c')
              have hb4 := (below_grown (below_step HQ.out.2.2.2.2.2 hbq) (by omega) hg' (fun g h => by have := HG.out _ h; omega)).setCell (p := ⟨w.heap.size + 3, 1, none⟩) (by simp only; omega) (.slice A' (M.length + 1) c')
              go_wp2_with fail
              go_meet
              exact ⟨_, hA3, hB3, hZ3, hO3, by rw [List.length_append, rkvs_app]; exact hoo, hb4⟩
          case rest =>
            obtain ⟨v5, hA5, hB5, hZ5, hO5, ho5, hb5⟩ := hcut
            go_wp2
            go_roundg (gk - 1)
            case rel => exact ⟨i, k + 1, M ++ [mv], v5, by go_num, by go_num, by omega, by omega, by omega, by rw [List.length_append]; simp only [List.length_cons, List.length_nil]; omega, HM2.out, hA5, hB5, hZ5, hO5, ho5, hb5⟩
            case measure => omega
      · obtain rfl : k = b.length := by omega
        have hi0 := h1
        have HMV := Lib.hid (HMA.out i b.length hi0 hk)
        have HM2 := Lib.hid (show (M ++ [moved a[i] cb b b.length]) ++ un ca cb a b (a.length - (i + 1) + (b.length - b.length)) (i + 1) b.length = union ca cb a b by
          rw [← HM.out, un_a hi0 hk (Or.inl rfl), List.append_assoc]; rfl)
        obtain ⟨b0, off0, rfl, p0, p1, p2⟩ := (hr.below hb).rkv hi0
        generalize moved a[i] cb b b.length = mv at HMV HM2
        generalize a[i] = ex at p0 p1 p2 HMV
        
        go_wp2_with fail
        go_quiet (fail)
        obtain ⟨wq, hwq⟩ : ∃ W : World, W = wr.drewN nq := ⟨_, rfl⟩
        rw [← hwq]
        have p0q : wq.cell? ⟨b0, off0 + i * 3, none⟩ = some (.int .i64 ex.value) := by rw [hwq]; exact p0
        have p1q : wq.cell? ⟨b0, off0 + i * 3 + 1, none⟩ = some (.int .i64 ex.least) := by rw [hwq]; exact p1
        have p2q : wq.cell? ⟨b0, off0 + i * 3 + 2, none⟩ = some (.int .i64 ex.most) := by rw [hwq]; exact p2
        have HQ := Lib.hid (show Blk wq w.heap.size 29 #[.int .i64 ca, .slice (some ⟨b0, off0, none⟩) a.length c] ∧ Blk wq (w.heap.size + 1) 29 #[.int .i64 cb, .slice B b.length d] ∧ Blk wq (w.heap.size + 2) 29 #[.int .i64 0, .slice none 0 0] ∧ Blk wq (w.heap.size + 3) 29 #[.int .i64 (ca + cb), .slice Av M.length cv] ∧ wq.ownsRow (w.heap.size + 4) 51 3 (.slice Av M.length cv) M.length (rkvs M) ∧ Below w.heap.size w wq from by rw [hwq]; exact And.intro (HH.out.1.drewN nq) (And.intro (HH.out.2.1.drewN nq) (And.intro (HH.out.2.2.1.drewN nq) (And.intro (HH.out.2.2.2.1.drewN nq) (And.intro (own_drewN HH.out.2.2.2.2.1 nq) (below_drewN HH.out.2.2.2.2.2 nq))))))
        clear p0 p1 p2 hA0 hA1 hB0 hB1 hO1 hwq HH hb
        have hA0 : wq.cell? ⟨w.heap.size, 0, none⟩ = some (.int .i64 ca) := HQ.out.1.cell 0
        have hA1 : wq.cell? ⟨w.heap.size, 1, none⟩ = some _ := HQ.out.1.cell 1
        have hB0 : wq.cell? ⟨w.heap.size + 1, 0, none⟩ = some (.int .i64 cb) := HQ.out.2.1.cell 0
        have hB1 : wq.cell? ⟨w.heap.size + 1, 1, none⟩ = some _ := HQ.out.2.1.cell 1
        have hO1 : wq.cell? ⟨w.heap.size + 3, 1, none⟩ = some (.slice Av M.length cv) := HQ.out.2.2.2.1.cell 1
        have HKC := Lib.hid (fun (w' : World) (h : Below wq.heap.size wq w') => And.intro (cells_below h hA0) (And.intro (cells_below h hA1) (And.intro (cells_below h hB0) (And.intro (cells_below h hB1) (And.intro (cells_below h hO1) (And.intro (cells_below h p0q) (And.intro (cells_below h p1q) (cells_below h p2q))))))))
        have HG := Lib.hid (own_ge HQ.out.2.2.2.2.1)
        have hh : M.length ≤ 1099511627776 := by omega
        have hgl : w.heap.size + 3 < wq.heap.size := HQ.out.2.2.2.1.lt
        have HBD := Lib.hid (show Below w.heap.size w wq.drew from drew_one HQ.out.2.2.2.2.2)
        have HDR := Lib.hid (show Below wq.heap.size wq wq.drew from drew_one (Below.refl _ _))
        go_upto_region 5 with fail
        go_cut [] (fun wx => ∃ v, Blk wx w.heap.size 29 #[.int .i64 ca, .slice (some ⟨b0, off0, none⟩) a.length c] ∧ Blk wx (w.heap.size + 1) 29 #[.int .i64 cb, .slice B b.length d] ∧ Blk wx (w.heap.size + 2) 29 #[.int .i64 0, .slice none 0 0] ∧ Blk wx (w.heap.size + 3) 29 #[.int .i64 (ca + cb), v] ∧ wx.ownsRow (w.heap.size + 4) 51 3 v (M ++ [mv]).length (rkvs (M ++ [mv])) ∧ Below w.heap.size w wx)
        case first =>
          go_region_law ((first
            | (refine step_call rfl 88 _ _ rfl ent_moved (by simp [Act.eval, Act.put]) (HMV.out _ HBD.out) ?_; rintro e w3 ⟨rfl, hb3⟩; refine ⟨_, rfl, ?_⟩; have hbq := below_step HDR.out hb3; have hall := HKC.out _ hbq; obtain ⟨k0, k1, k2, k3, k4, k5, k6, k7⟩ := hall; have k4z := fun (o : Obj) => cells_below (w' := w3.alloc o) ((Below.refl _ _).alloc (Nat.le_refl _) o) k4; have ho3 := own_below HQ.out.2.2.2.2.1 hbq; have hbs : w.heap.size + 4 ≤ w3.heap.size := by have := hbq.size; omega)
            | (refine mem.step_push_atH w3 rfl (.tmp 54) (.tmp 63) 27 rfl (w.heap.size + 4) 51 _ 3 24 Try.underlying27 mem.info_rkv rfl (by decide) (.slice Av M.length cv) M.length (rkvs M) (by simp [Act.eval, Act.put]) ho3 w3.heap.size rfl (rkvs [mv]) 1 rfl (mem.rkvs_one [mv]) (by simp [Act.eval, Act.put]) hh (by decide) hbs ?_; intro v' w' ho' hg' hnw'; have hO2 := (HQ.out.2.2.2.1.below hbq HQ.out.2.2.2.1.lt).grown hg' (fun e => by have := HG.out _ e.symm; omega); have hcc : w'.cell? ⟨w.heap.size + 3, 1, none⟩ = some (.slice Av M.length cv) := hO2.cell 1; have hff := hO2.thaw 1; obtain ⟨A', c', hve, _, _, _⟩ := own_form ho'; subst hve)))
          all_goals
            have hO3 := hO2.put 1 (.slice A' (M.length + 1) c')
            have hoo := own_far ho' (p := ⟨w.heap.size + 3, 1, none⟩) (fun e => by have := (ho'.lt _ e).1; simp at this) (.slice A' (M.length + 1) c')
            have hA3 := ((HQ.out.1.below hbq HQ.out.1.lt).grown hg' (fun e => by have := HG.out _ e.symm; omega)).far (p := ⟨w.heap.size + 3, 1, none⟩) (by simp only; omega) (.slice A' (M.length + 1) c')
            have hB3 := ((HQ.out.2.1.below hbq HQ.out.2.1.lt).grown hg' (fun e => by have := HG.out _ e.symm; omega)).far (p := ⟨w.heap.size + 3, 1, none⟩) (by simp only; omega) (.slice A' (M.length + 1) c')
            have hZ3 := ((HQ.out.2.2.1.below hbq HQ.out.2.2.1.lt).grown hg' (fun e => by have := HG.out _ e.symm; omega)).far (p := ⟨w.heap.size + 3, 1, none⟩) (by simp only; omega) (.slice A' (M.length + 1) c')
            have hb4 := (below_grown (below_step HQ.out.2.2.2.2.2 hbq) (by omega) hg' (fun g h => by have := HG.out _ h; omega)).setCell (p := ⟨w.heap.size + 3, 1, none⟩) (by simp only; omega) (.slice A' (M.length + 1) c')
            go_wp2_with fail
            go_meet
            exact ⟨_, hA3, hB3, hZ3, hO3, by rw [List.length_append, rkvs_app]; exact hoo, hb4⟩
        case rest =>
          obtain ⟨v5, hA5, hB5, hZ5, hO5, ho5, hb5⟩ := hcut
          go_wp2
          go_roundg (gk - 1)
          case rel => exact ⟨i + 1, b.length, M ++ [mv], v5, by go_num, by go_num, by omega, by omega, by omega, by rw [List.length_append]; simp only [List.length_cons, List.length_nil]; omega, HM2.out, hA5, hB5, hZ5, hO5, ho5, hb5⟩
          case measure => omega
    · obtain rfl : i = a.length := by omega
      by_cases h2 : k < b.length
      · have q1 : ((k : Int) == (b.length : Int)) = false := by simp; omega
        have hk0 := h2
        have HMV := Lib.hid (HMB.out a.length k hk0 hi)
        have HM2 := Lib.hid (show (M ++ [moved b[k] ca a a.length]) ++ un ca cb a b (a.length - a.length + (b.length - (k + 1))) a.length (k + 1) = union ca cb a b by
          rw [← HM.out, un_b hi hk0 (Or.inl rfl), List.append_assoc]; rfl)
        obtain ⟨b0, off0, rfl, p0, p1, p2⟩ := (hr2.below hb).rkv hk0
        generalize moved b[k] ca a a.length = mv at HMV HM2
        generalize b[k] = ey at p0 p1 p2 HMV
        
        go_wp2_with fail
        go_quiet (fail)
        obtain ⟨wq, hwq⟩ : ∃ W : World, W = wr.drewN nq := ⟨_, rfl⟩
        rw [← hwq]
        have p0q : wq.cell? ⟨b0, off0 + k * 3, none⟩ = some (.int .i64 ey.value) := by rw [hwq]; exact p0
        have p1q : wq.cell? ⟨b0, off0 + k * 3 + 1, none⟩ = some (.int .i64 ey.least) := by rw [hwq]; exact p1
        have p2q : wq.cell? ⟨b0, off0 + k * 3 + 2, none⟩ = some (.int .i64 ey.most) := by rw [hwq]; exact p2
        have HQ := Lib.hid (show Blk wq w.heap.size 29 #[.int .i64 ca, .slice A a.length c] ∧ Blk wq (w.heap.size + 1) 29 #[.int .i64 cb, .slice (some ⟨b0, off0, none⟩) b.length d] ∧ Blk wq (w.heap.size + 2) 29 #[.int .i64 0, .slice none 0 0] ∧ Blk wq (w.heap.size + 3) 29 #[.int .i64 (ca + cb), .slice Av M.length cv] ∧ wq.ownsRow (w.heap.size + 4) 51 3 (.slice Av M.length cv) M.length (rkvs M) ∧ Below w.heap.size w wq from by rw [hwq]; exact And.intro (HH.out.1.drewN nq) (And.intro (HH.out.2.1.drewN nq) (And.intro (HH.out.2.2.1.drewN nq) (And.intro (HH.out.2.2.2.1.drewN nq) (And.intro (own_drewN HH.out.2.2.2.2.1 nq) (below_drewN HH.out.2.2.2.2.2 nq))))))
        clear p0 p1 p2 hA0 hA1 hB0 hB1 hO1 hwq HH hb
        have hA0 : wq.cell? ⟨w.heap.size, 0, none⟩ = some (.int .i64 ca) := HQ.out.1.cell 0
        have hA1 : wq.cell? ⟨w.heap.size, 1, none⟩ = some _ := HQ.out.1.cell 1
        have hB0 : wq.cell? ⟨w.heap.size + 1, 0, none⟩ = some (.int .i64 cb) := HQ.out.2.1.cell 0
        have hB1 : wq.cell? ⟨w.heap.size + 1, 1, none⟩ = some _ := HQ.out.2.1.cell 1
        have hO1 : wq.cell? ⟨w.heap.size + 3, 1, none⟩ = some (.slice Av M.length cv) := HQ.out.2.2.2.1.cell 1
        have HKC := Lib.hid (fun (w' : World) (h : Below wq.heap.size wq w') => And.intro (cells_below h hA0) (And.intro (cells_below h hA1) (And.intro (cells_below h hB0) (And.intro (cells_below h hB1) (And.intro (cells_below h hO1) (And.intro (cells_below h p0q) (And.intro (cells_below h p1q) (cells_below h p2q))))))))
        have HG := Lib.hid (own_ge HQ.out.2.2.2.2.1)
        have hh : M.length ≤ 1099511627776 := by omega
        have hgl : w.heap.size + 3 < wq.heap.size := HQ.out.2.2.2.1.lt
        have HBD := Lib.hid (show Below w.heap.size w wq.drew from drew_one HQ.out.2.2.2.2.2)
        have HDR := Lib.hid (show Below wq.heap.size wq wq.drew from drew_one (Below.refl _ _))
        go_upto_region 7 with fail
        go_cut [] (fun wx => ∃ v, Blk wx w.heap.size 29 #[.int .i64 ca, .slice A a.length c] ∧ Blk wx (w.heap.size + 1) 29 #[.int .i64 cb, .slice (some ⟨b0, off0, none⟩) b.length d] ∧ Blk wx (w.heap.size + 2) 29 #[.int .i64 0, .slice none 0 0] ∧ Blk wx (w.heap.size + 3) 29 #[.int .i64 (ca + cb), v] ∧ wx.ownsRow (w.heap.size + 4) 51 3 v (M ++ [mv]).length (rkvs (M ++ [mv])) ∧ Below w.heap.size w wx)
        case first =>
          go_region_law ((first
            | (refine step_call rfl 88 _ _ rfl ent_moved (by simp [Act.eval, Act.put]) (HMV.out _ HBD.out) ?_; rintro e w3 ⟨rfl, hb3⟩; refine ⟨_, rfl, ?_⟩; have hbq := below_step HDR.out hb3; have hall := HKC.out _ hbq; obtain ⟨k0, k1, k2, k3, k4, k5, k6, k7⟩ := hall; have k4z := fun (o : Obj) => cells_below (w' := w3.alloc o) ((Below.refl _ _).alloc (Nat.le_refl _) o) k4; have ho3 := own_below HQ.out.2.2.2.2.1 hbq; have hbs : w.heap.size + 4 ≤ w3.heap.size := by have := hbq.size; omega)
            | (refine mem.step_push_atH w3 rfl (.tmp 69) (.tmp 78) 27 rfl (w.heap.size + 4) 51 _ 3 24 Try.underlying27 mem.info_rkv rfl (by decide) (.slice Av M.length cv) M.length (rkvs M) (by simp [Act.eval, Act.put]) ho3 w3.heap.size rfl (rkvs [mv]) 1 rfl (mem.rkvs_one [mv]) (by simp [Act.eval, Act.put]) hh (by decide) hbs ?_; intro v' w' ho' hg' hnw'; have hO2 := (HQ.out.2.2.2.1.below hbq HQ.out.2.2.2.1.lt).grown hg' (fun e => by have := HG.out _ e.symm; omega); have hcc : w'.cell? ⟨w.heap.size + 3, 1, none⟩ = some (.slice Av M.length cv) := hO2.cell 1; have hff := hO2.thaw 1; obtain ⟨A', c', hve, _, _, _⟩ := own_form ho'; subst hve)))
          all_goals
            have hO3 := hO2.put 1 (.slice A' (M.length + 1) c')
            have hoo := own_far ho' (p := ⟨w.heap.size + 3, 1, none⟩) (fun e => by have := (ho'.lt _ e).1; simp at this) (.slice A' (M.length + 1) c')
            have hA3 := ((HQ.out.1.below hbq HQ.out.1.lt).grown hg' (fun e => by have := HG.out _ e.symm; omega)).far (p := ⟨w.heap.size + 3, 1, none⟩) (by simp only; omega) (.slice A' (M.length + 1) c')
            have hB3 := ((HQ.out.2.1.below hbq HQ.out.2.1.lt).grown hg' (fun e => by have := HG.out _ e.symm; omega)).far (p := ⟨w.heap.size + 3, 1, none⟩) (by simp only; omega) (.slice A' (M.length + 1) c')
            have hZ3 := ((HQ.out.2.2.1.below hbq HQ.out.2.2.1.lt).grown hg' (fun e => by have := HG.out _ e.symm; omega)).far (p := ⟨w.heap.size + 3, 1, none⟩) (by simp only; omega) (.slice A' (M.length + 1) c')
            have hb4 := (below_grown (below_step HQ.out.2.2.2.2.2 hbq) (by omega) hg' (fun g h => by have := HG.out _ h; omega)).setCell (p := ⟨w.heap.size + 3, 1, none⟩) (by simp only; omega) (.slice A' (M.length + 1) c')
            go_wp2_with fail
            go_meet
            exact ⟨_, hA3, hB3, hZ3, hO3, by rw [List.length_append, rkvs_app]; exact hoo, hb4⟩
        case rest =>
          obtain ⟨v5, hA5, hB5, hZ5, hO5, ho5, hb5⟩ := hcut
          go_wp2
          go_roundg (gk - 1)
          case rel => exact ⟨a.length, k + 1, M ++ [mv], v5, by go_num, by go_num, by omega, by omega, by omega, by rw [List.length_append]; simp only [List.length_cons, List.length_nil]; omega, HM2.out, hA5, hB5, hZ5, hO5, ho5, hb5⟩
          case measure => omega
      · obtain rfl : k = b.length := by omega
        have HMU := Lib.hid (show M = union ca cb a b by rw [← HM.out, un_end, List.append_nil])
        have e0 : wr.cell? ⟨w.heap.size + 2, 0, none⟩ = some (.int .i64 0) := HH.out.2.2.1.cell 0
        have e1 : wr.cell? ⟨w.heap.size + 2, 1, none⟩ = some (.slice none 0 0) := HH.out.2.2.1.cell 1
        have e3 := HH.out.2.2.1.thaw 0
        have e4 := HH.out.2.2.1.thaw 1
        have hO0 : wr.cell? ⟨w.heap.size + 3, 0, none⟩ = some (.int .i64 (ca + cb)) := HH.out.2.2.2.1.cell 0
        have HOF := Lib.hid (fun u1 u2 => own_far (own_far HH.out.2.2.2.2.1 (p := ⟨w.heap.size + 2, 0, none⟩) (fun e => by have := (HH.out.2.2.2.2.1.lt _ e).1; simp at this) u1) (p := ⟨w.heap.size + 2, 1, none⟩) (fun e => by have := (HH.out.2.2.2.2.1.lt _ e).1; simp at this) u2)
        have HBF := Lib.hid (fun u1 u2 => (hb.setCell (p := ⟨w.heap.size + 2, 0, none⟩) (by simp) u1).setCell (p := ⟨w.heap.size + 2, 1, none⟩) (by simp) u2)
        clear hb
        go_wp2
        refine bodyPost_ret (v := .agg #[.int .i64 (ca + cb), .slice Av M.length cv]) (by simp [results, Try.results72, go_sem, e0, e1]) rfl ⟨_, rfl, ⟨by rw [← HMU.out]; exact own_base (HOF.out _ _) (by omega), by rw [← HMU.out]; omega⟩, HBF.out _ _⟩
end Go.Proofs.Ytlckeefjhafloaa.smyMg
