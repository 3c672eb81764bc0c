/- Groups joined by their keys, the program's. Condition: at most 2^20 groups, numbers of at most 2^40. -/
import Derived.Test.YtgngoedooemboaaStbGrp
import Derived.Test.YtgngoedooemboaaCmpI
import Derived.Test.YtgngoedooemboaaCopy
import Derived.Test.YtgngoedooemboaaGjLaw
set_option linter.unusedVariables false
set_option linter.unusedSimpArgs false
namespace Go.Proofs.Ytgngoedooemboaa.gj
open Go.RowKit Go.Proofs.Ytgngoedooemboaa.mem Go.Proofs.Ytgngoedooemboaa.stb Go.Proofs.Ytgngoedooemboaa.cmpI

/-- a row that lies low -/
theorem own_low {w w' : World} {base B n sz : Nat} {e : TypeId} {v : Value} {xs : List Value} (h : w.ownsRow base e sz v n xs) (hv : ∀ g, v.ownBlock = some g → g < B) (hb : Below B w w') : w'.ownsRow base e sz v n xs := by
  refine ⟨h.1, ?_⟩
  rcases h.2 with h0 | ⟨g, cap, cur, rfl, hg, hc, r⟩
  · exact .inl h0
  · exact .inr ⟨g, cap, cur, rfl, hg, (hb.block g (hv g rfl)).trans hc, r⟩
/-- numbers that add up without harm -/
def Tame (B : Int) (l : List Grp) : Prop := ∀ g ∈ l, (0 ≤ g.count ∧ g.count ≤ B) ∧ (0 ≤ g.sum ∧ g.sum ≤ B)
theorem tame_step {B C : Int} {o : List Grp} {g : Grp} (ho : Tame B o) (hg : (0 ≤ g.count ∧ g.count ≤ C) ∧ (0 ≤ g.sum ∧ g.sum ≤ C)) (hB : 0 ≤ B) : Tame (B + C) (jstep o g) := by
  intro x hx
  have hC : 0 ≤ C := by omega
  unfold jstep at hx
  split at hx
  · rcases List.mem_append.1 hx with h | h
    · have := ho x h; omega
    · simp at h; subst h; omega
  · rename_i h hh
    have h1 := ho h (List.mem_of_getElem? hh)
    split at hx
    · rcases List.mem_or_eq_of_mem_set hx with h2 | rfl
      · have := ho x h2; omega
      · simp only [both]; omega
    · rcases List.mem_append.1 hx with h2 | h2
      · have := ho x h2; omega
      · simp at h2; subst h2; omega
theorem tame_join {C : Int} (hC : 0 ≤ C) {l : List Grp} (hl : Tame C l) : ∀ k, k ≤ l.length → Tame (C * (k : Int)) (join (l.take k))
  | 0, _ => by intro x hx; simp [join] at hx
  | k + 1, hk => by
    rw [join_take l (by omega)]
    have h := tame_step (tame_join hC hl k (by omega)) (hl l[k] (List.getElem_mem _)) (Int.mul_nonneg hC (by omega))
    rwa [show C * (((k + 1 : Nat)) : Int) = C * (k : Int) + C by rw [Int.natCast_add, Int.mul_add]; simp]
set_option maxRecDepth 100000 in
set_option maxHeartbeats 1000000 in
theorem clo_any (a b : Grp) (w : World) : Calls Try.prog 108 #[.agg #[.int .i64 a.key, .int .i64 a.count, .int .i64 a.sum, .int .i64 a.least, .int .i64 a.most], .agg #[.int .i64 b.key, .int .i64 b.count, .int .i64 b.sum, .int .i64 b.least, .int .i64 b.most]] w fun e w' => e = .returned (.int .i64 (cmpI a.key b.key)) ∧ Below w.heap.size w w' := by
  have hbb : ∀ o o' : Obj, Below w.heap.size w ((w.alloc o).alloc o') := fun o o' => ((Below.refl _ _).alloc (Nat.le_refl _) o).alloc (by simp) o'
  have HB := Lib.hid hbb
  clear hbb
  go_enter Try.func108, Try.ntmps108
  go_wp2_with fail
  refine (compare_any _ _ _).mono ?_
  rintro e w1 ⟨rfl, rfl⟩
  go_wp2
  go_ret
  exact ⟨rfl, HB.out _ _⟩
set_option maxRecDepth 100000 in
set_option maxHeartbeats 8000000 in
theorem joined_any (A : Option Addr) (c : Nat) (zs : List Grp) (w : World) (hn : zs.length ≤ 1048576) (hT : Tame 1048576 zs) (hr : Rd w 5 A zs.length (grps zs)) :
    Calls Try.prog 79 #[.slice A zs.length c] w fun e w' => ∃ v, e = .returned v ∧ w'.ownsRow w.heap.size 71 5 v (join (stab ltK zs)).length (grps (join (stab ltK zs))) ∧ Below w.heap.size w w' := by
  have HC := Lib.hid (copies.grp_any A c zs w hn hr)
  have hT2 : Tame 1048576 (stab ltK zs) := fun g hg => hT g ((stab_perm zs).mem_iff.1 hg)
  have HTJ := Lib.hid (fun k hk => tame_join (by omega) hT2 k hk)
  have HTS := Lib.hid hT2
  have HSL := Lib.hid (stab_len (lt := ltK) zs)
  clear hT hT2
  go_enter Try.func79, Try.ntmps79
  go_wp2_with fail
  refine HC.out.mono ?_
  rintro e w1 ⟨v1, rfl, ho1, hb1⟩
  have hlt1 := fun g h => (ho1.lt g h).2
  have he1 : Below w1.heap.size w1 (w1.alloc (.cells #[] 71)) := (Below.refl _ _).alloc (Nat.le_refl _) _
  have ho2 := own_below ho1 he1
  have HMK := Lib.hid (World.ownsRow_made (e := 71) (size := 5) w1 #[] 0 (Nat.le_refl _) (Nat.zero_le _) (by simp))
  have HS := Lib.hid (sortStable_grp w.heap.size v1 108 #[] (fun a b => cmpI a.key b.key) ltK (fun x y => cmpI_neg _ _) weakK zs (w1.alloc (.cells #[] 71)) (fun g _ => ⟨fun _ _ => rfl, fun x y W _ => clo_any x y W⟩) hn ho2)
  go_wp2_with fail
  refine HS.out.mono ?_
  rintro e w4 ⟨rfl, ho4, hg4⟩
  have hap : (Value.slice (some ⟨w1.heap.size, 0, none⟩) 0 0).ownBlock = none ∨ (Value.slice (some ⟨w1.heap.size, 0, none⟩) 0 0).ownBlock ≠ v1.ownBlock := by
    right
    intro e
    have := hlt1 w1.heap.size e.symm
    omega
  have hO4 := HMK.out.kept hg4 hap
  have hb4 := below_push (hb1.trans (he1.mono hb1.size)) (below_step hb1 he1).size hg4 ho2
  have hsz4 : w1.heap.size ≤ w4.heap.size := Nat.le_trans he1.size hg4.size
  obtain ⟨S, hS⟩ : ∃ S, S = stab ltK zs := ⟨_, rfl⟩
  rw [← hS] at ho4 HTJ HSL HTS
  have HSE := Lib.hid hS
  obtain ⟨A4, c4, rfl, hc4, hc4m, hr4⟩ := own_form ho4
  have HLOW := Lib.hid (fun W (h : Below w1.heap.size w4 W) => own_rd (own_low ho4 hlt1 h))
  have H4 := Lib.hid (And.intro hO4 (And.intro hb4 (And.intro hb1.size hsz4)))
  clear hS ho4 hg4 hap hO4 hb4 hr4 ho1 ho2 he1 hb1 hlt1
  go_wp2
  go_loopg [4, 16] (zs.length + 1) (fun f v i wr => ∃ (k : Nat), zs.length < k + f ∧ k ≤ zs.length ∧ i = .int .i64 (k : Int) ∧ wr.ownsRow w1.heap.size 71 5 v (join (S.take k)).length (grps (join (S.take k))) ∧ Below w1.heap.size w4 wr)
  case atStart => exact ⟨0, by omega, by omega, rfl, H4.out.1, Below.refl _ _⟩
  case round =>
    obtain ⟨k, hkf, hk, rfl, hov, hb⟩ := hrel
    have hjl := join_len S k
    by_cases hlt : k < zs.length
    · have hkS : k < S.length := by have := HSL.out; omega
      have HJ := Lib.hid (join_take S hkS)
      have hrS : Rd wr 5 A4 S.length (grps S) := by rw [HSL.out]; exact HLOW.out wr hb
      obtain ⟨b, off, rfl, x0, x1, x2, x3, x4⟩ := hrS.grp hkS
      have hTm := HTJ.out k (by omega)
      have hxt : (0 ≤ S[k].count ∧ S[k].count ≤ 1048576) ∧ (0 ≤ S[k].sum ∧ S[k].sum ≤ 1048576) := HTS.out S[k] (List.getElem_mem _)
      generalize S[k] = x at x0 x1 x2 x3 x4 HJ hxt
      generalize join (S.take k) = o at hov hjl HJ hTm
      have hbw : w1.heap.size ≤ wr.heap.size := Nat.le_trans H4.out.2.2.2 hb.size
      have hh : o.length ≤ 1099511627776 := by omega
      have q1 : (k : Int) < (zs.length : Int) := by omega
      obtain ⟨Ao, co, rfl, hco, hcom, hro⟩ := own_form hov
      obtain ⟨wb, hwb⟩ : ∃ W : World, W = wr.alloc (.cells #[.int .i64 x.key, .int .i64 x.count, .int .i64 x.sum, .int .i64 x.least, .int .i64 x.most] 71) := ⟨_, rfl⟩
      have HWB := Lib.hid hwb
      have hBk : Blk wb wr.heap.size 71 #[.int .i64 x.key, .int .i64 x.count, .int .i64 x.sum, .int .i64 x.least, .int .i64 x.most] := by rw [hwb]; exact Blk.new _ _ _
      have hbb : Below wr.heap.size wr wb := by rw [hwb]; exact (Below.refl _ _).alloc (Nat.le_refl _) _
      have hovb := own_below hov hbb
      have hb5 : Below w1.heap.size w4 wb := hb.trans (hbb.mono hbw)
      have HX := Lib.hid (And.intro hovb (And.intro hb5 hBk))
      have g0 : wb.cell? ⟨wr.heap.size, 0, none⟩ = some (.int .i64 x.key) := hBk.cell 0
      have g1 : wb.cell? ⟨wr.heap.size, 1, none⟩ = some (.int .i64 x.count) := hBk.cell 1
      have g2 : wb.cell? ⟨wr.heap.size, 2, none⟩ = some (.int .i64 x.sum) := hBk.cell 2
      have g3 : wb.cell? ⟨wr.heap.size, 3, none⟩ = some (.int .i64 x.least) := hBk.cell 3
      have g4 : wb.cell? ⟨wr.heap.size, 4, none⟩ = some (.int .i64 x.most) := hBk.cell 4
      have hbw2 : w1.heap.size ≤ wb.heap.size := Nat.le_trans hbw hbb.size
      have hltg : wr.heap.size < wb.heap.size := hBk.lt
      clear hwb hBk hbb hovb hb5 hov hb
      by_cases h0 : o.length = 0
      · obtain rfl := List.eq_nil_of_length_eq_zero h0
        have HJ0 := Lib.hid (show join (S.take (k + 1)) = [x] by rw [HJ.out, jstep_nil])
        clear hro hTm h0
        simp only [List.length_nil]
        go_wp2_with fail
        rw [← HWB.out]
        clear x0 x1 x2 x3 x4
        go_quiet (fail)
        obtain ⟨wq, hwq⟩ : ∃ W : World, W = wb.drewN nq := ⟨_, rfl⟩
        rw [← hwq]
        have k0 : wq.cell? ⟨wr.heap.size, 0, none⟩ = some (.int .i64 x.key) := by rw [hwq]; exact g0
        have k1 : wq.cell? ⟨wr.heap.size, 1, none⟩ = some (.int .i64 x.count) := by rw [hwq]; exact g1
        have k2 : wq.cell? ⟨wr.heap.size, 2, none⟩ = some (.int .i64 x.sum) := by rw [hwq]; exact g2
        have k3 : wq.cell? ⟨wr.heap.size, 3, none⟩ = some (.int .i64 x.least) := by rw [hwq]; exact g3
        have k4 : wq.cell? ⟨wr.heap.size, 4, none⟩ = some (.int .i64 x.most) := by rw [hwq]; exact g4
        have hovq : wq.ownsRow w1.heap.size 71 5 (.slice Ao 0 co) 0 (grps []) := by rw [hwq]; exact HX.out.1
        have hbq : Below w1.heap.size w4 wq := by rw [hwq]; exact below_drewN HX.out.2.1 _
        have hbwq : w1.heap.size ≤ wq.heap.size := by rw [hwq]; exact hbw2
        have hh0 : 0 ≤ 1099511627776 := by omega
        clear hwq g0 g1 g2 g3 g4
        go_wp2_with (at_builtin; refine mem.push _ rfl _ _ 25 rfl w1.heap.size 71 _ 5 40 Try.underlying25 mem.info_grp rfl (by decide) _ _ _ rfl hovq (grps [x]) _ rfl (mem.grps_one [x]) rfl hh0 (by decide) hbwq ?_; intro v' w' ho' hg')
        have hb6 := below_push hbq hbwq hg' hovq
        have HALL := Lib.hid (And.intro (show w'.ownsRow w1.heap.size 71 5 v' [x].length (grps [x]) from ho') hb6)
        clear ho' hb6 hg' hovq hbq k0 k1 k2 k3 k4
        go_wp2
        go_roundg (gk - 1)
        case measure => omega
        case rel => exact ⟨k + 1, by omega, by omega, by go_num, by rw [HJ0.out]; exact HALL.out.1, HALL.out.2⟩
      · obtain ⟨q, hq⟩ : ∃ q, o.length = q + 1 := ⟨o.length - 1, by omega⟩
        have hqo : q < o.length := by omega
        obtain ⟨gb, rfl, hgb1, hgb2⟩ := own_addr HX.out.1 (by omega)
        obtain ⟨ca0, ca1, ca2, ca3, ca4⟩ := cells_grp HX.out.1 (i := q) (x := o[q]) (List.getElem?_eq_getElem hqo)
        have HLQ := Lib.hid (show o[o.length - 1]? = some o[q] by rw [hq]; simp only [Nat.add_sub_cancel]; exact List.getElem?_eq_getElem hqo)
        have hym := hTm o[q] (List.getElem_mem hqo)
        have HQ := Lib.hid hq
        generalize o[q] = y at ca0 ca1 ca2 ca3 ca4 HLQ hym
        have p1 : IntKind.i64.wrap ((o.length : Int) - 1) = (q : Int) := by rw [IntWalk.i64_in _ (by omega)]; omega
        have p2 : ¬ (q : Int) < 0 := by omega
        have p3 : (q : Int) < (o.length : Int) := by omega
        clear hq h0 hTm hro
        by_cases hke : y.key = x.key
        · have HJ1 := Lib.hid (show join (S.take (k + 1)) = o.set q ⟨x.key, y.count + x.count, y.sum + x.sum, min y.least x.least, max y.most x.most⟩ by rw [HJ.out, jstep_old HLQ.out hke, show o.length - 1 = q by have := HQ.out; omega, ← hke]; rfl)
          have p4 : (y.key != x.key) = false := by simp [hke]
          have pc : IntKind.i64.wrap (y.count + x.count) = y.count + x.count := IntWalk.i64_in _ (by omega)
          have ps : IntKind.i64.wrap (y.sum + x.sum) = y.sum + x.sum := IntWalk.i64_in _ (by omega)
          clear hke hh hym hxt
          go_wp2_with fail
          rw [← HWB.out]
          clear x0 x1 x2 x3 x4
          go_quiet (fail)
          obtain ⟨wq, hwq⟩ : ∃ W : World, W = wb.drewN nq := ⟨_, rfl⟩
          rw [← hwq]
          have k0 : wq.cell? ⟨wr.heap.size, 0, none⟩ = some (.int .i64 x.key) := by rw [hwq]; exact g0
          have k1 : wq.cell? ⟨wr.heap.size, 1, none⟩ = some (.int .i64 x.count) := by rw [hwq]; exact g1
          have k2 : wq.cell? ⟨wr.heap.size, 2, none⟩ = some (.int .i64 x.sum) := by rw [hwq]; exact g2
          have k3 : wq.cell? ⟨wr.heap.size, 3, none⟩ = some (.int .i64 x.least) := by rw [hwq]; exact g3
          have k4 : wq.cell? ⟨wr.heap.size, 4, none⟩ = some (.int .i64 x.most) := by rw [hwq]; exact g4
          have c0 : wq.cell? ⟨gb, q * 5, none⟩ = some (.int .i64 y.key) := by rw [hwq]; exact ca0
          have c1 : wq.cell? ⟨gb, q * 5 + 1, none⟩ = some (.int .i64 y.count) := by rw [hwq]; exact ca1
          have c2 : wq.cell? ⟨gb, q * 5 + 2, none⟩ = some (.int .i64 y.sum) := by rw [hwq]; exact ca2
          have c3 : wq.cell? ⟨gb, q * 5 + 3, none⟩ = some (.int .i64 y.least) := by rw [hwq]; exact ca3
          have c4 : wq.cell? ⟨gb, q * 5 + 4, none⟩ = some (.int .i64 y.most) := by rw [hwq]; exact ca4
          have hovq : wq.ownsRow w1.heap.size 71 5 (.slice (some ⟨gb, 0, none⟩) o.length co) o.length (grps o) := by rw [hwq]; exact HX.out.1
          have hbq : Below w1.heap.size w4 wq := by rw [hwq]; exact below_drewN HX.out.2.1 _
          have hbwq : w1.heap.size ≤ wq.heap.size := by rw [hwq]; exact hbw2
          have hgq : wr.heap.size < wq.heap.size := by rw [hwq]; exact hltg
          have hgb3 : gb < wq.heap.size := by rw [hwq]; exact hgb2
          clear hwq g0 g1 g2 g3 g4 ca0 ca1 ca2 ca3 ca4 p1
          obtain ⟨wh, hwh⟩ : ∃ W : World, W = wq.alloc (.cells #[.int .i64 y.key, .int .i64 y.count, .int .i64 y.sum, .int .i64 y.least, .int .i64 y.most] 71) := ⟨_, rfl⟩
          have hbh : Below wq.heap.size wq wh := by rw [hwh]; exact (Below.refl _ _).alloc (Nat.le_refl _) _
          have hBh : Blk wh wq.heap.size 71 #[.int .i64 y.key, .int .i64 y.count, .int .i64 y.sum, .int .i64 y.least, .int .i64 y.most] := by rw [hwh]; exact Blk.new _ _ _
          have n0 : wh.cell? ⟨wr.heap.size, 0, none⟩ = some (.int .i64 x.key) := (hbh.cell hgq).trans k0
          have n1 : wh.cell? ⟨wr.heap.size, 1, none⟩ = some (.int .i64 x.count) := (hbh.cell hgq).trans k1
          have n2 : wh.cell? ⟨wr.heap.size, 2, none⟩ = some (.int .i64 x.sum) := (hbh.cell hgq).trans k2
          have n3 : wh.cell? ⟨wr.heap.size, 3, none⟩ = some (.int .i64 x.least) := (hbh.cell hgq).trans k3
          have n4 : wh.cell? ⟨wr.heap.size, 4, none⟩ = some (.int .i64 x.most) := (hbh.cell hgq).trans k4
          have m0 : wh.cell? ⟨wq.heap.size, 0, none⟩ = some (.int .i64 y.key) := hBh.cell 0
          have m1 : wh.cell? ⟨wq.heap.size, 1, none⟩ = some (.int .i64 y.count) := hBh.cell 1
          have m2 : wh.cell? ⟨wq.heap.size, 2, none⟩ = some (.int .i64 y.sum) := hBh.cell 2
          have m3 : wh.cell? ⟨wq.heap.size, 3, none⟩ = some (.int .i64 y.least) := hBh.cell 3
          have m4 : wh.cell? ⟨wq.heap.size, 4, none⟩ = some (.int .i64 y.most) := hBh.cell 4
          have HPP := Lib.hid (fun ob => own_below (put_grp hovq hqo ⟨x.key, y.count + x.count, y.sum + x.sum, min y.least x.least, max y.most x.most⟩) ((Below.refl _ _).alloc (Nat.le_refl _) ob))
          have f1 := fun i => own_thaw hovq i
          have HBP := Lib.hid (fun ob => ((((((hbq.setCell (p := ⟨gb, q * 5, none⟩) hgb1 (.int .i64 x.key)).setCell (p := ⟨gb, q * 5 + 1, none⟩) hgb1 (.int .i64 (y.count + x.count))).setCell (p := ⟨gb, q * 5 + 2, none⟩) hgb1 (.int .i64 (y.sum + x.sum))).setCell (p := ⟨gb, q * 5 + 3, none⟩) hgb1 (.int .i64 (min y.least x.least))).setCell (p := ⟨gb, q * 5 + 4, none⟩) hgb1 (.int .i64 (max y.most x.most))).alloc (by simpa using hbwq) ob))
          subst hwh
          clear hbh hBh hovq hbq k0 k1 k2 k3 k4
          go_wp2_with fail
          all_goals
            first | have e1 : min y.least x.least = x.least := by omega | have e1 : min y.least x.least = y.least := by omega
            first | have e2 : max y.most x.most = x.most := by omega | have e2 : max y.most x.most = y.most := by omega
            have HP2 := HPP.out
            have HB2 := HBP.out
            have HJ2 := HJ1.out
            rw [e1, e2] at HP2 HB2 HJ2
            have HALL := Lib.hid (And.intro HP2 (And.intro HB2 HJ2))
            clear e1 e2 HP2 HB2 HJ2 c0 c1 c2 c3 c4 n0 n1 n2 n3 n4 m0 m1 m2 m3 m4 f1 pc ps
            go_wp2
            go_roundg (gk - 1)
            case measure => omega
            case rel => exact ⟨k + 1, by omega, by omega, by go_num, by rw [HALL.out.2.2, List.length_set]; exact HALL.out.1 _, HALL.out.2.1 _⟩
        · have HJ1 := Lib.hid (show join (S.take (k + 1)) = o ++ [x] by rw [HJ.out, jstep_new HLQ.out hke])
          have p4 : (y.key != x.key) = true := by rw [bne_iff_ne]; exact hke
          clear hke
          go_wp2_with fail
          rw [← HWB.out]
          clear x0 x1 x2 x3 x4
          go_quiet (fail)
          obtain ⟨wq, hwq⟩ : ∃ W : World, W = wb.drewN nq := ⟨_, rfl⟩
          rw [← hwq]
          have k0 : wq.cell? ⟨wr.heap.size, 0, none⟩ = some (.int .i64 x.key) := by rw [hwq]; exact g0
          have k1 : wq.cell? ⟨wr.heap.size, 1, none⟩ = some (.int .i64 x.count) := by rw [hwq]; exact g1
          have k2 : wq.cell? ⟨wr.heap.size, 2, none⟩ = some (.int .i64 x.sum) := by rw [hwq]; exact g2
          have k3 : wq.cell? ⟨wr.heap.size, 3, none⟩ = some (.int .i64 x.least) := by rw [hwq]; exact g3
          have k4 : wq.cell? ⟨wr.heap.size, 4, none⟩ = some (.int .i64 x.most) := by rw [hwq]; exact g4
          have hovq : wq.ownsRow w1.heap.size 71 5 (.slice (some ⟨gb, 0, none⟩) o.length co) o.length (grps o) := by rw [hwq]; exact HX.out.1
          have hbq : Below w1.heap.size w4 wq := by rw [hwq]; exact below_drewN HX.out.2.1 _
          have hbwq : w1.heap.size ≤ wq.heap.size := by rw [hwq]; exact hbw2
          clear hwq g0 g1 g2 g3 g4 ca0 ca1 ca2 ca3 ca4 p1
          go_wp2_with (at_builtin; refine mem.push _ rfl _ _ 25 rfl w1.heap.size 71 _ 5 40 Try.underlying25 mem.info_grp rfl (by decide) _ _ _ rfl hovq (grps [x]) _ rfl (mem.grps_one [x]) rfl hh (by decide) hbwq ?_; intro v' w' ho' hg')
          have hb6 := below_push hbq hbwq hg' hovq
          have HALL := Lib.hid (And.intro ho' hb6)
          clear ho' hb6 hg' hovq hbq k0 k1 k2 k3 k4
          go_wp2
          go_roundg (gk - 1)
          case measure => omega
          case rel => exact ⟨k + 1, by omega, by omega, by go_num, by rw [HJ1.out, List.length_append, grps_app]; exact HALL.out.1, HALL.out.2⟩
    · obtain rfl : k = zs.length := by omega
      have HE := Lib.hid (show S.take zs.length = S from List.take_of_length_le (by have := HSL.out; omega))
      rw [HE.out] at hov
      have HALL := Lib.hid (And.intro (own_base hov H4.out.2.2.1) (H4.out.2.1.trans (hb.mono H4.out.2.2.1)))
      clear hov hb
      go_wp2
      go_ret
      exact ⟨_, rfl, by rw [← HSE.out]; exact HALL.out.1, HALL.out.2⟩
end Go.Proofs.Ytgngoedooemboaa.gj
