/- Entries placed among those of another summary, the program's. Condition: at most 64 entries, of bounded ranks. -/
import Derived.Test.YtlckeefjhafloaaMgLaw
import Derived.Test.YtlckeefjhafloaaSmyQ
import Derived.Test.YtlckeefjhafloaaMemAt
set_option linter.unusedVariables false
set_option linter.unusedSimpArgs false
namespace Go.Proofs.Ytlckeefjhafloaa.smyMg
open Go.RowKit Go.Proofs.Ytlckeefjhafloaa.mem Go.Proofs.Ytlckeefjhafloaa.smy Go.Proofs.Ytlckeefjhafloaa.smyQ Go.Proofs.Ytlckeefjhafloaa.mgLaw
open Go.Proofs.Ytlckeefjhafloaa.ins (inB inB_true inB_false inB_iff)

def lo (o : List Rkv) (m : Nat) : Int := if m = 0 then 0 else (o.getD (m - 1) z0).least
def hi (cb : Int) (o : List Rkv) (m : Nat) : Int := if m < o.length then (o.getD m z0).most - 1 else cb
theorem moved_lo (x : Rkv) (cb : Int) (o : List Rkv) (m : Nat) : moved x cb o m = ⟨x.value, x.least + lo o m, x.most + hi cb o m⟩ := rfl
theorem lo_bd {o : List Rkv} (h : Bd o) {m : Nat} (hm : m ≤ o.length) : 0 ≤ lo o m ∧ lo o m ≤ 1000 := by
  unfold lo
  split
  · omega
  · have := bd_D h (show m - 1 < o.length by omega); omega
theorem placed_len (l : List Rkv) (cb : Int) (o : List Rkv) (late : Bool) : (placed l cb o late).length = l.length := by simp [placed]
theorem placed_step (l : List Rkv) (cb : Int) (o : List Rkv) (late : Bool) {k : Nat} (h : k < l.length) : (placed l cb o late).take (k + 1) = (placed l cb o late).take k ++ [moved l[k] cb o (pos late l[k] o)] := by
  rw [List.take_succ_eq_append_getElem (by rw [placed_len]; exact h)]
  simp [placed]
theorem ahead_yes {late : Bool} {x y : Rkv} (h : mgLaw.ahead late x y = true) : y.value < x.value ∨ (¬ y.value < x.value ∧ (y.value == x.value) = true ∧ late = true) := by
  by_cases h1 : y.value < x.value
  · exact Or.inl h1
  · right
    simp [mgLaw.ahead, h1] at h
    exact ⟨h1, by simpa using h.2, h.1⟩
theorem ahead_no {late : Bool} {x y : Rkv} (h : mgLaw.ahead late x y = false) : ¬ y.value < x.value ∧ (late = true → (y.value == x.value) = false) := by
  simp only [mgLaw.ahead, Bool.or_eq_false_iff, Bool.and_eq_false_iff, decide_eq_false_iff_not] at h
  refine ⟨h.1, fun hl => ?_⟩
  rcases h.2 with h2 | h2
  · rw [hl] at h2; cases h2
  · simpa using h2
set_option maxRecDepth 100000 in
set_option maxHeartbeats 4000000 in
theorem placed_false {ca cb : Int} (A B : Option Addr) (c d : Nat) (l o : List Rkv) (w : World) (hl : l.length ≤ 64) (ho0 : o.length ≤ 64) (hBl : Bd l) (hBo : Bd o) (hc1 : 0 ≤ cb) (hc2 : cb ≤ 1000) (hr : Rd w 3 A l.length (rkvs l)) (hr2 : Rd w 3 B o.length (rkvs o)) :
    Calls Try.prog 59 #[.agg #[.int .i64 ca, .slice A l.length c], .agg #[.int .i64 cb, .slice B o.length d], .bool false] w fun e w' => ∃ v, e = .returned v ∧ OwnRkv w w' v (placed l cb o false) ∧ Below w.heap.size w w' := by
  have HBX := Lib.hid (fun (o o2 o3 : Obj) => (((Below.refl w.heap.size w).alloc (Nat.le_refl _) o).alloc (by simp) o2).alloc (by simp; omega) o3)
  have HBL := Lib.hid hBl
  have HBO := Lib.hid hBo
  clear hBl hBo
  go_enter Try.func59, Try.ntmps59
  go_wp2
  go_loopw [7, 18] (fun v i wr => ∃ k : Nat, k ≤ l.length ∧ i = .int .i64 (k : Int) ∧ Blk wr w.heap.size 29 #[.int .i64 ca, .slice A l.length c] ∧ Blk wr (w.heap.size + 1) 29 #[.int .i64 cb, .slice B o.length d] ∧ wr.ownsRow (w.heap.size + 2) 51 3 v ((placed l cb o false).take k).length (rkvs ((placed l cb o false).take k)) ∧ Below w.heap.size w wr) (fun _ i _ => l.length - (intOf i).toNat)
  case atStart =>
    refine ⟨0, by omega, rfl, ((Blk.new _ _ _).alloc _).alloc _, ?_, ?_, HBX.out _ _ _⟩
    · have := (Blk.new (w.alloc (.cells #[.int .i64 ca, .slice A l.length c] 29)) 29 #[.int .i64 cb, .slice B o.length d]).alloc (.cells #[] 51)
      rwa [show (w.alloc (.cells #[.int .i64 ca, .slice A l.length c] 29)).heap.size = w.heap.size + 1 by simp] at this
    · have hm0 := World.ownsRow_made (e := 51) (size := 3) ((w.alloc (.cells #[.int .i64 ca, .slice A l.length c] 29)).alloc (.cells #[.int .i64 cb, .slice B o.length d] 29)) #[] 0 (Nat.le_refl _) (Nat.zero_le _) (by simp)
      rwa [show ((w.alloc (.cells #[.int .i64 ca, .slice A l.length c] 29)).alloc (.cells #[.int .i64 cb, .slice B o.length d] 29)).heap.size = w.heap.size + 2 by simp] at hm0
  case round =>
    obtain ⟨k, hk, rfl, hS, hO, ho, hb⟩ := hrel
    obtain ⟨Av, cv, hve, _, _, _⟩ := own_form ho
    subst hve
    by_cases hlt : k < l.length
    · obtain ⟨b, off, rfl, c0, c1, c2⟩ := (hr.below hb).rkv hlt
      have hx := HBL.out k hlt
      have HPS := Lib.hid (placed_step l cb o false hlt)
      have HPL := Lib.hid (show ((placed l cb o false).take k).length = k by rw [List.length_take, placed_len]; omega)
      generalize l[k] = x at c0 c1 c2 hx HPS
      generalize (placed l cb o false).take k = pk at ho HPS HPL
      have hO0 : wr.cell? ⟨w.heap.size + 1, 0, none⟩ = some (.int .i64 cb) := hO.cell 0
      have hO1 : wr.cell? ⟨w.heap.size + 1, 1, none⟩ = some (.slice B o.length d) := hO.cell 1
      have z0' := fun (o : Obj) => cells_below (w' := wr.alloc o) ((Below.refl _ _).alloc (Nat.le_refl _) o) hO0
      have z1' := fun (o : Obj) => cells_below (w' := wr.alloc o) ((Below.refl _ _).alloc (Nat.le_refl _) o) hO1
      go_wp2_with fail
      go_quiet (fail)
      go_wp2
      obtain ⟨gx, hgx⟩ : ∃ g, g = wr.heap.size := ⟨_, rfl⟩
      have HX1 := (Blk.new wr 51 #[.int .i64 x.value, .int .i64 x.least, .int .i64 x.most]).drewN nq
      have HS1 := (hS.alloc (.cells #[.int .i64 x.value, .int .i64 x.least, .int .i64 x.most] 51)).drewN nq
      have HO1 := (hO.alloc (.cells #[.int .i64 x.value, .int .i64 x.least, .int .i64 x.most] 51)).drewN nq
      have ho1 := own_drewN (ho.alloc (.cells #[.int .i64 x.value, .int .i64 x.least, .int .i64 x.most] 51)) nq
      have hb1 := below_drewN (hb.alloc hb.size (.cells #[.int .i64 x.value, .int .i64 x.least, .int .i64 x.most] 51)) nq
      rw [← hgx] at HX1 ⊢
      have hgw : w.heap.size + 1 < gx := by rw [hgx]; exact hO.lt
      clear z0' z1' hO0 hO1 hS hO ho hb c0 c1 c2 hgx
      generalize (wr.alloc (.cells #[.int .i64 x.value, .int .i64 x.least, .int .i64 x.most] 51)).drewN nq = ws at HX1 HS1 HO1 ho1 hb1 ⊢
      have HST := Lib.hid (And.intro HX1 (And.intro HS1 (And.intro HO1 (And.intro ho1 hb1))))
      clear HX1 HS1 HO1 ho1 hb1
      go_loopw [10, 11, 27] (fun a b j wi => ∃ m : Nat, m ≤ o.length ∧ j = .int .i64 (m : Int) ∧ a = .int .i64 (lo o m) ∧ b = .int .i64 cb ∧ (∀ i (h : i < o.length), i < m → mgLaw.ahead false x o[i] = true) ∧ Below ws.heap.size ws wi) (fun _ _ j _ => o.length - (intOf j).toNat)
      case atStart => exact ⟨0, by omega, rfl, rfl, rfl, fun i h h2 => by omega, Below.refl _ _⟩
      case round =>
        obtain ⟨m, hm, rfl, rfl, rfl, hall, hbi⟩ := hrel
        have HALL := Lib.hid hall
        clear hall
        have hlb := lo_bd HBO.out hm
        have hcase : (∃ h : m < o.length, mgLaw.ahead false x o[m] = true) ∨ (∃ h : m < o.length, mgLaw.ahead false x o[m] = false) ∨ ¬ m < o.length := by
          by_cases h : m < o.length
          · by_cases ha : mgLaw.ahead false x o[m] = true
            · exact Or.inl ⟨h, ha⟩
            · exact Or.inr (Or.inl ⟨h, by simpa using ha⟩)
          · exact Or.inr (Or.inr h)
        have hXi := HST.out.1.below hbi HST.out.1.lt
        have e0 : wr.cell? ⟨gx, 0, none⟩ = some (.int .i64 x.value) := hXi.cell 0
        have e1 : wr.cell? ⟨gx, 1, none⟩ = some (.int .i64 x.least) := hXi.cell 1
        have e2 : wr.cell? ⟨gx, 2, none⟩ = some (.int .i64 x.most) := hXi.cell 2
        have e0z := fun (o : Obj) => cells_below (w' := wr.alloc o) ((Below.refl _ _).alloc (Nat.le_refl _) o) e0
        have e1z := fun (o : Obj) => cells_below (w' := wr.alloc o) ((Below.refl _ _).alloc (Nat.le_refl _) o) e1
        have e2z := fun (o : Obj) => cells_below (w' := wr.alloc o) ((Below.refl _ _).alloc (Nat.le_refl _) o) e2
        rcases hcase with ⟨hm2, hah⟩ | ⟨hm2, hah⟩ | hm2
        · obtain ⟨b2, off2, rfl, d0, d1, d2⟩ := (hr2.below (below_step HST.out.2.2.2.2 hbi)).rkv hm2
          have hy := HBO.out m hm2
          have hq := ahead_yes hah
          have HLO := Lib.hid (show lo o (m + 1) = o[m].least by rw [lo, if_neg (by omega), Nat.add_sub_cancel, getD_r o hm2])
          have HALL2 := Lib.hid (show ∀ i (h : i < o.length), i < m + 1 → mgLaw.ahead false x o[i] = true from fun i h hi => by
            by_cases e : i = m
            · subst e; exact hah
            · exact HALL.out i h (by omega))
          have HN := Lib.hid (fun (o : Obj) => hbi.alloc hbi.size o)
          clear hah hXi
          generalize o[m] = y at d0 d1 d2 hy hq HLO
          rcases hq with h1 | ⟨h1, h2, h3⟩
          · go_wp2
            go_roundw
            case rel => exact ⟨m + 1, by omega, by go_num, by rw [HLO.out], rfl, HALL2.out, HN.out _⟩
            case measure => simp [intOf]; omega
          · first
            | exact absurd h3 (by decide)
            | skip
            all_goals
              clear h3
              go_wp2
              go_roundw
              case rel => exact ⟨m + 1, by omega, by go_num, by rw [HLO.out], rfl, HALL2.out, HN.out _⟩
              case measure => simp [intOf]; omega
        · obtain ⟨b2, off2, rfl, d0, d1, d2⟩ := (hr2.below (below_step HST.out.2.2.2.2 hbi)).rkv hm2
          have hy := HBO.out m hm2
          obtain ⟨hq1, hq2⟩ := ahead_no hah
          have HPOS := Lib.hid (show pos false x o = m from pos_is hm (fun j hj hjm => HALL.out j hj hjm) (fun h => hah))
          have HHI := Lib.hid (show hi cb o m = o[m].most - 1 by rw [hi, if_pos hm2, getD_r o hm2])
          clear hah
          generalize o[m] = y at d0 d1 d2 hy hq1 hq2 HHI
          first | (replace hq2 := hq2 rfl) | clear hq2
          have HP2 := Lib.hid (show (placed l cb o false).take (k + 1) = pk ++ [(⟨x.value, x.least + lo o m, x.most + (y.most - 1)⟩ : Rkv)] by
            rw [HPS.out, HPOS.out, moved_lo, HHI.out])
          have hW := hbi.alloc hbi.size (.cells #[.int .i64 y.value, .int .i64 y.least, .int .i64 y.most] 51)
          have hoW := own_below HST.out.2.2.2.1 hW
          have HG := Lib.hid (own_ge hoW)
          have HSW := HST.out.2.1.below hW HST.out.2.1.lt
          have HOW := HST.out.2.2.1.below hW HST.out.2.2.1.lt
          have HbW := below_step HST.out.2.2.2.2 hW
          have HWW := Lib.hid (And.intro HSW (And.intro HOW HbW))
          have hh : pk.length ≤ 1099511627776 := by have := HPL.out; omega
          have hbs : w.heap.size + 2 ≤ (wr.alloc (.cells #[.int .i64 y.value, .int .i64 y.least, .int .i64 y.most] 51)).heap.size := by have := HOW.lt; omega
          clear hXi hW HSW HOW HbW
          go_wp2_with (at_builtin; refine mem.push_atH _ rfl _ _ 27 rfl (w.heap.size + 2) 51 _ 3 24 Try.underlying27 mem.info_rkv rfl (by decide) (.slice Av pk.length cv) _ _ (by rfl) hoW (wr.heap.size + 1) (by simp) (rkvs [(⟨x.value, x.least + lo o m, x.most + (y.most - 1)⟩ : Rkv)]) _ rfl (mem.rkvs_one [_]) (by rfl) hh (by decide) hbs ?_; intro v' w' ho' hg' hnw')
          have hoo : w'.ownsRow (w.heap.size + 2) 51 3 v' ((placed l cb o false).take (k + 1)).length (rkvs ((placed l cb o false).take (k + 1))) := by
            rw [HP2.out, List.length_append, rkvs_app]; exact ho'
          have hS3 := HWW.out.1.grown hg' (fun e => by have := HG.out _ e.symm; omega)
          have hO3 := HWW.out.2.1.grown hg' (fun e => by have := HG.out _ e.symm; omega)
          have hb3 := below_grown HWW.out.2.2 HWW.out.2.2.size hg' (fun g h => by have := HG.out _ h; omega)
          have HEND := Lib.hid (And.intro hS3 (And.intro hO3 (And.intro hoo hb3)))
          clear ho' hg' hnw' hoo hS3 hO3 hb3 hoW
          go_wp2
          go_roundw
          case rel => exact ⟨k + 1, by omega, by go_num, HEND.out.1, HEND.out.2.1, HEND.out.2.2.1, HEND.out.2.2.2⟩
          case measure => simp [intOf]; omega
        · obtain rfl : m = o.length := by omega
          have HPOS := Lib.hid (show pos false x o = o.length from pos_is hm (fun j hj hjm => HALL.out j hj hjm) (fun h => absurd h (by omega)))
          have HHI := Lib.hid (show hi cb o o.length = cb by rw [hi, if_neg (by omega)])
          have HP2 := Lib.hid (show (placed l cb o false).take (k + 1) = pk ++ [(⟨x.value, x.least + lo o o.length, x.most + cb⟩ : Rkv)] by
            rw [HPS.out, HPOS.out, moved_lo, HHI.out])
          have hW := hbi
          have hoW := own_below HST.out.2.2.2.1 hW
          have HG := Lib.hid (own_ge hoW)
          have HSW := HST.out.2.1.below hW HST.out.2.1.lt
          have HOW := HST.out.2.2.1.below hW HST.out.2.2.1.lt
          have HbW := below_step HST.out.2.2.2.2 hW
          have HWW := Lib.hid (And.intro HSW (And.intro HOW HbW))
          have hh : pk.length ≤ 1099511627776 := by have := HPL.out; omega
          have hbs : w.heap.size + 2 ≤ (wr).heap.size := by have := HOW.lt; omega
          clear hXi hW HSW HOW HbW
          go_wp2_with (at_builtin; refine mem.push_atH _ rfl _ _ 27 rfl (w.heap.size + 2) 51 _ 3 24 Try.underlying27 mem.info_rkv rfl (by decide) (.slice Av pk.length cv) _ _ (by rfl) hoW (wr.heap.size) (by simp) (rkvs [(⟨x.value, x.least + lo o o.length, x.most + cb⟩ : Rkv)]) _ rfl (mem.rkvs_one [_]) (by rfl) hh (by decide) hbs ?_; intro v' w' ho' hg' hnw')
          have hoo : w'.ownsRow (w.heap.size + 2) 51 3 v' ((placed l cb o false).take (k + 1)).length (rkvs ((placed l cb o false).take (k + 1))) := by
            rw [HP2.out, List.length_append, rkvs_app]; exact ho'
          have hS3 := HWW.out.1.grown hg' (fun e => by have := HG.out _ e.symm; omega)
          have hO3 := HWW.out.2.1.grown hg' (fun e => by have := HG.out _ e.symm; omega)
          have hb3 := below_grown HWW.out.2.2 HWW.out.2.2.size hg' (fun g h => by have := HG.out _ h; omega)
          have HEND := Lib.hid (And.intro hS3 (And.intro hO3 (And.intro hoo hb3)))
          clear ho' hg' hnw' hoo hS3 hO3 hb3 hoW
          go_wp2
          go_roundw
          case rel => exact ⟨k + 1, by omega, by go_num, HEND.out.1, HEND.out.2.1, HEND.out.2.2.1, HEND.out.2.2.2⟩
          case measure => simp [intOf]; omega
    · obtain rfl : k = l.length := by omega
      have HPF := Lib.hid (show (placed l cb o false).take l.length = placed l cb o false by rw [List.take_of_length_le (by rw [placed_len]; omega)])
      have HPL := Lib.hid (placed_len l cb o false)
      rw [HPF.out] at ho ⊢
      go_wp2
      go_ret
      exact ⟨_, rfl, ⟨own_base (base' := w.heap.size) ho (by omega), by rw [HPL.out]; omega⟩, hb⟩
set_option maxRecDepth 100000 in
set_option maxHeartbeats 4000000 in
theorem placed_true {ca cb : Int} (A B : Option Addr) (c d : Nat) (l o : List Rkv) (w : World) (hl : l.length ≤ 64) (ho0 : o.length ≤ 64) (hBl : Bd l) (hBo : Bd o) (hc1 : 0 ≤ cb) (hc2 : cb ≤ 1000) (hr : Rd w 3 A l.length (rkvs l)) (hr2 : Rd w 3 B o.length (rkvs o)) :
    Calls Try.prog 59 #[.agg #[.int .i64 ca, .slice A l.length c], .agg #[.int .i64 cb, .slice B o.length d], .bool true] w fun e w' => ∃ v, e = .returned v ∧ OwnRkv w w' v (placed l cb o true) ∧ Below w.heap.size w w' := by
  have HBX := Lib.hid (fun (o o2 o3 : Obj) => (((Below.refl w.heap.size w).alloc (Nat.le_refl _) o).alloc (by simp) o2).alloc (by simp; omega) o3)
  have HBL := Lib.hid hBl
  have HBO := Lib.hid hBo
  clear hBl hBo
  go_enter Try.func59, Try.ntmps59
  go_wp2
  go_loopw [7, 18] (fun v i wr => ∃ k : Nat, k ≤ l.length ∧ i = .int .i64 (k : Int) ∧ Blk wr w.heap.size 29 #[.int .i64 ca, .slice A l.length c] ∧ Blk wr (w.heap.size + 1) 29 #[.int .i64 cb, .slice B o.length d] ∧ wr.ownsRow (w.heap.size + 2) 51 3 v ((placed l cb o true).take k).length (rkvs ((placed l cb o true).take k)) ∧ Below w.heap.size w wr) (fun _ i _ => l.length - (intOf i).toNat)
  case atStart =>
    refine ⟨0, by omega, rfl, ((Blk.new _ _ _).alloc _).alloc _, ?_, ?_, HBX.out _ _ _⟩
    · have := (Blk.new (w.alloc (.cells #[.int .i64 ca, .slice A l.length c] 29)) 29 #[.int .i64 cb, .slice B o.length d]).alloc (.cells #[] 51)
      rwa [show (w.alloc (.cells #[.int .i64 ca, .slice A l.length c] 29)).heap.size = w.heap.size + 1 by simp] at this
    · have hm0 := World.ownsRow_made (e := 51) (size := 3) ((w.alloc (.cells #[.int .i64 ca, .slice A l.length c] 29)).alloc (.cells #[.int .i64 cb, .slice B o.length d] 29)) #[] 0 (Nat.le_refl _) (Nat.zero_le _) (by simp)
      rwa [show ((w.alloc (.cells #[.int .i64 ca, .slice A l.length c] 29)).alloc (.cells #[.int .i64 cb, .slice B o.length d] 29)).heap.size = w.heap.size + 2 by simp] at hm0
  case round =>
    obtain ⟨k, hk, rfl, hS, hO, ho, hb⟩ := hrel
    obtain ⟨Av, cv, hve, _, _, _⟩ := own_form ho
    subst hve
    by_cases hlt : k < l.length
    · obtain ⟨b, off, rfl, c0, c1, c2⟩ := (hr.below hb).rkv hlt
      have hx := HBL.out k hlt
      have HPS := Lib.hid (placed_step l cb o true hlt)
      have HPL := Lib.hid (show ((placed l cb o true).take k).length = k by rw [List.length_take, placed_len]; omega)
      generalize l[k] = x at c0 c1 c2 hx HPS
      generalize (placed l cb o true).take k = pk at ho HPS HPL
      have hO0 : wr.cell? ⟨w.heap.size + 1, 0, none⟩ = some (.int .i64 cb) := hO.cell 0
      have hO1 : wr.cell? ⟨w.heap.size + 1, 1, none⟩ = some (.slice B o.length d) := hO.cell 1
      have z0' := fun (o : Obj) => cells_below (w' := wr.alloc o) ((Below.refl _ _).alloc (Nat.le_refl _) o) hO0
      have z1' := fun (o : Obj) => cells_below (w' := wr.alloc o) ((Below.refl _ _).alloc (Nat.le_refl _) o) hO1
      go_wp2_with fail
      go_quiet (fail)
      go_wp2
      obtain ⟨gx, hgx⟩ : ∃ g, g = wr.heap.size := ⟨_, rfl⟩
      have HX1 := (Blk.new wr 51 #[.int .i64 x.value, .int .i64 x.least, .int .i64 x.most]).drewN nq
      have HS1 := (hS.alloc (.cells #[.int .i64 x.value, .int .i64 x.least, .int .i64 x.most] 51)).drewN nq
      have HO1 := (hO.alloc (.cells #[.int .i64 x.value, .int .i64 x.least, .int .i64 x.most] 51)).drewN nq
      have ho1 := own_drewN (ho.alloc (.cells #[.int .i64 x.value, .int .i64 x.least, .int .i64 x.most] 51)) nq
      have hb1 := below_drewN (hb.alloc hb.size (.cells #[.int .i64 x.value, .int .i64 x.least, .int .i64 x.most] 51)) nq
      rw [← hgx] at HX1 ⊢
      have hgw : w.heap.size + 1 < gx := by rw [hgx]; exact hO.lt
      clear z0' z1' hO0 hO1 hS hO ho hb c0 c1 c2 hgx
      generalize (wr.alloc (.cells #[.int .i64 x.value, .int .i64 x.least, .int .i64 x.most] 51)).drewN nq = ws at HX1 HS1 HO1 ho1 hb1 ⊢
      have HST := Lib.hid (And.intro HX1 (And.intro HS1 (And.intro HO1 (And.intro ho1 hb1))))
      clear HX1 HS1 HO1 ho1 hb1
      go_loopw [10, 11, 27] (fun a b j wi => ∃ m : Nat, m ≤ o.length ∧ j = .int .i64 (m : Int) ∧ a = .int .i64 (lo o m) ∧ b = .int .i64 cb ∧ (∀ i (h : i < o.length), i < m → mgLaw.ahead true x o[i] = true) ∧ Below ws.heap.size ws wi) (fun _ _ j _ => o.length - (intOf j).toNat)
      case atStart => exact ⟨0, by omega, rfl, rfl, rfl, fun i h h2 => by omega, Below.refl _ _⟩
      case round =>
        obtain ⟨m, hm, rfl, rfl, rfl, hall, hbi⟩ := hrel
        have HALL := Lib.hid hall
        clear hall
        have hlb := lo_bd HBO.out hm
        have hcase : (∃ h : m < o.length, mgLaw.ahead true x o[m] = true) ∨ (∃ h : m < o.length, mgLaw.ahead true x o[m] = false) ∨ ¬ m < o.length := by
          by_cases h : m < o.length
          · by_cases ha : mgLaw.ahead true x o[m] = true
            · exact Or.inl ⟨h, ha⟩
            · exact Or.inr (Or.inl ⟨h, by simpa using ha⟩)
          · exact Or.inr (Or.inr h)
        have hXi := HST.out.1.below hbi HST.out.1.lt
        have e0 : wr.cell? ⟨gx, 0, none⟩ = some (.int .i64 x.value) := hXi.cell 0
        have e1 : wr.cell? ⟨gx, 1, none⟩ = some (.int .i64 x.least) := hXi.cell 1
        have e2 : wr.cell? ⟨gx, 2, none⟩ = some (.int .i64 x.most) := hXi.cell 2
        have e0z := fun (o : Obj) => cells_below (w' := wr.alloc o) ((Below.refl _ _).alloc (Nat.le_refl _) o) e0
        have e1z := fun (o : Obj) => cells_below (w' := wr.alloc o) ((Below.refl _ _).alloc (Nat.le_refl _) o) e1
        have e2z := fun (o : Obj) => cells_below (w' := wr.alloc o) ((Below.refl _ _).alloc (Nat.le_refl _) o) e2
        rcases hcase with ⟨hm2, hah⟩ | ⟨hm2, hah⟩ | hm2
        · obtain ⟨b2, off2, rfl, d0, d1, d2⟩ := (hr2.below (below_step HST.out.2.2.2.2 hbi)).rkv hm2
          have hy := HBO.out m hm2
          have hq := ahead_yes hah
          have HLO := Lib.hid (show lo o (m + 1) = o[m].least by rw [lo, if_neg (by omega), Nat.add_sub_cancel, getD_r o hm2])
          have HALL2 := Lib.hid (show ∀ i (h : i < o.length), i < m + 1 → mgLaw.ahead true x o[i] = true from fun i h hi => by
            by_cases e : i = m
            · subst e; exact hah
            · exact HALL.out i h (by omega))
          have HN := Lib.hid (fun (o : Obj) => hbi.alloc hbi.size o)
          clear hah hXi
          generalize o[m] = y at d0 d1 d2 hy hq HLO
          rcases hq with h1 | ⟨h1, h2, h3⟩
          · go_wp2
            go_roundw
            case rel => exact ⟨m + 1, by omega, by go_num, by rw [HLO.out], rfl, HALL2.out, HN.out _⟩
            case measure => simp [intOf]; omega
          · first
            | exact absurd h3 (by decide)
            | skip
            all_goals
              clear h3
              go_wp2
              go_roundw
              case rel => exact ⟨m + 1, by omega, by go_num, by rw [HLO.out], rfl, HALL2.out, HN.out _⟩
              case measure => simp [intOf]; omega
        · obtain ⟨b2, off2, rfl, d0, d1, d2⟩ := (hr2.below (below_step HST.out.2.2.2.2 hbi)).rkv hm2
          have hy := HBO.out m hm2
          obtain ⟨hq1, hq2⟩ := ahead_no hah
          have HPOS := Lib.hid (show pos true x o = m from pos_is hm (fun j hj hjm => HALL.out j hj hjm) (fun h => hah))
          have HHI := Lib.hid (show hi cb o m = o[m].most - 1 by rw [hi, if_pos hm2, getD_r o hm2])
          clear hah
          generalize o[m] = y at d0 d1 d2 hy hq1 hq2 HHI
          first | (replace hq2 := hq2 rfl) | clear hq2
          have HP2 := Lib.hid (show (placed l cb o true).take (k + 1) = pk ++ [(⟨x.value, x.least + lo o m, x.most + (y.most - 1)⟩ : Rkv)] by
            rw [HPS.out, HPOS.out, moved_lo, HHI.out])
          have hW := hbi.alloc hbi.size (.cells #[.int .i64 y.value, .int .i64 y.least, .int .i64 y.most] 51)
          have hoW := own_below HST.out.2.2.2.1 hW
          have HG := Lib.hid (own_ge hoW)
          have HSW := HST.out.2.1.below hW HST.out.2.1.lt
          have HOW := HST.out.2.2.1.below hW HST.out.2.2.1.lt
          have HbW := below_step HST.out.2.2.2.2 hW
          have HWW := Lib.hid (And.intro HSW (And.intro HOW HbW))
          have hh : pk.length ≤ 1099511627776 := by have := HPL.out; omega
          have hbs : w.heap.size + 2 ≤ (wr.alloc (.cells #[.int .i64 y.value, .int .i64 y.least, .int .i64 y.most] 51)).heap.size := by have := HOW.lt; omega
          clear hXi hW HSW HOW HbW
          go_wp2_with (at_builtin; refine mem.push_atH _ rfl _ _ 27 rfl (w.heap.size + 2) 51 _ 3 24 Try.underlying27 mem.info_rkv rfl (by decide) (.slice Av pk.length cv) _ _ (by rfl) hoW (wr.heap.size + 1) (by simp) (rkvs [(⟨x.value, x.least + lo o m, x.most + (y.most - 1)⟩ : Rkv)]) _ rfl (mem.rkvs_one [_]) (by rfl) hh (by decide) hbs ?_; intro v' w' ho' hg' hnw')
          have hoo : w'.ownsRow (w.heap.size + 2) 51 3 v' ((placed l cb o true).take (k + 1)).length (rkvs ((placed l cb o true).take (k + 1))) := by
            rw [HP2.out, List.length_append, rkvs_app]; exact ho'
          have hS3 := HWW.out.1.grown hg' (fun e => by have := HG.out _ e.symm; omega)
          have hO3 := HWW.out.2.1.grown hg' (fun e => by have := HG.out _ e.symm; omega)
          have hb3 := below_grown HWW.out.2.2 HWW.out.2.2.size hg' (fun g h => by have := HG.out _ h; omega)
          have HEND := Lib.hid (And.intro hS3 (And.intro hO3 (And.intro hoo hb3)))
          clear ho' hg' hnw' hoo hS3 hO3 hb3 hoW
          go_wp2
          go_roundw
          case rel => exact ⟨k + 1, by omega, by go_num, HEND.out.1, HEND.out.2.1, HEND.out.2.2.1, HEND.out.2.2.2⟩
          case measure => simp [intOf]; omega
        · obtain rfl : m = o.length := by omega
          have HPOS := Lib.hid (show pos true x o = o.length from pos_is hm (fun j hj hjm => HALL.out j hj hjm) (fun h => absurd h (by omega)))
          have HHI := Lib.hid (show hi cb o o.length = cb by rw [hi, if_neg (by omega)])
          have HP2 := Lib.hid (show (placed l cb o true).take (k + 1) = pk ++ [(⟨x.value, x.least + lo o o.length, x.most + cb⟩ : Rkv)] by
            rw [HPS.out, HPOS.out, moved_lo, HHI.out])
          have hW := hbi
          have hoW := own_below HST.out.2.2.2.1 hW
          have HG := Lib.hid (own_ge hoW)
          have HSW := HST.out.2.1.below hW HST.out.2.1.lt
          have HOW := HST.out.2.2.1.below hW HST.out.2.2.1.lt
          have HbW := below_step HST.out.2.2.2.2 hW
          have HWW := Lib.hid (And.intro HSW (And.intro HOW HbW))
          have hh : pk.length ≤ 1099511627776 := by have := HPL.out; omega
          have hbs : w.heap.size + 2 ≤ (wr).heap.size := by have := HOW.lt; omega
          clear hXi hW HSW HOW HbW
          go_wp2_with (at_builtin; refine mem.push_atH _ rfl _ _ 27 rfl (w.heap.size + 2) 51 _ 3 24 Try.underlying27 mem.info_rkv rfl (by decide) (.slice Av pk.length cv) _ _ (by rfl) hoW (wr.heap.size) (by simp) (rkvs [(⟨x.value, x.least + lo o o.length, x.most + cb⟩ : Rkv)]) _ rfl (mem.rkvs_one [_]) (by rfl) hh (by decide) hbs ?_; intro v' w' ho' hg' hnw')
          have hoo : w'.ownsRow (w.heap.size + 2) 51 3 v' ((placed l cb o true).take (k + 1)).length (rkvs ((placed l cb o true).take (k + 1))) := by
            rw [HP2.out, List.length_append, rkvs_app]; exact ho'
          have hS3 := HWW.out.1.grown hg' (fun e => by have := HG.out _ e.symm; omega)
          have hO3 := HWW.out.2.1.grown hg' (fun e => by have := HG.out _ e.symm; omega)
          have hb3 := below_grown HWW.out.2.2 HWW.out.2.2.size hg' (fun g h => by have := HG.out _ h; omega)
          have HEND := Lib.hid (And.intro hS3 (And.intro hO3 (And.intro hoo hb3)))
          clear ho' hg' hnw' hoo hS3 hO3 hb3 hoW
          go_wp2
          go_roundw
          case rel => exact ⟨k + 1, by omega, by go_num, HEND.out.1, HEND.out.2.1, HEND.out.2.2.1, HEND.out.2.2.2⟩
          case measure => simp [intOf]; omega
    · obtain rfl : k = l.length := by omega
      have HPF := Lib.hid (show (placed l cb o true).take l.length = placed l cb o true by rw [List.take_of_length_le (by rw [placed_len]; omega)])
      have HPL := Lib.hid (placed_len l cb o true)
      rw [HPF.out] at ho ⊢
      go_wp2
      go_ret
      exact ⟨_, rfl, ⟨own_base (base' := w.heap.size) ho (by omega), by rw [HPL.out]; omega⟩, hb⟩
end Go.Proofs.Ytlckeefjhafloaa.smyMg
