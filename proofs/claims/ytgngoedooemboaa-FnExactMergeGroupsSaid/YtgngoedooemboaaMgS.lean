/- MergeGroups, the reference's. Condition: at most 2^20 groups each. -/
import Derived.Test.YtgngoedooemboaaMgB
import Derived.Test.YtgngoedooemboaaMemAt
import Derived.Deep.DeepCutAuto
import Derived.Deep.RegionLaw
set_option linter.unusedVariables false
set_option linter.unusedSimpArgs false
namespace Go.Proofs.Ytgngoedooemboaa.gm
open Go.RowKit Go.Proofs.Ytgngoedooemboaa.mem Go.Proofs.Ytgngoedooemboaa.stb Go.Proofs.Ytgngoedooemboaa.gj
open Go.Proofs.Ytgngoedooemboaa.groups (vgroups gB gB_mono getD_g vg_len okG mul_bd)

def res2 (r : List Grp) : List Grp := if vgroups r = true then r else []
set_option maxRecDepth 100000 in
theorem ent_both : Enters 80 := fun _ _ => rfl
/-- the next group of the merge -/
theorem mg_left {a b : List Grp} {i j : Nat} (hi : i < a.length) (h : j < b.length → ∃ hj : j < b.length, a[i].key < b[j].key) : mg (a.drop i) (b.drop j) = a[i] :: mg (a.drop (i + 1)) (b.drop j) := by
  rw [List.drop_eq_getElem_cons hi]
  by_cases hj : j < b.length
  · obtain ⟨_, hk⟩ := h hj
    rw [List.drop_eq_getElem_cons hj, mg, if_pos hk]
  · have e : b.drop j = [] := List.drop_eq_nil_of_le (by omega)
    rw [e, mg_nil_right, mg_nil_right]
theorem mg_right {a b : List Grp} {i j : Nat} (hj : j < b.length) (h : i < a.length → ∃ hi : i < a.length, b[j].key < a[i].key) : mg (a.drop i) (b.drop j) = b[j] :: mg (a.drop i) (b.drop (j + 1)) := by
  rw [List.drop_eq_getElem_cons hj]
  by_cases hi : i < a.length
  · obtain ⟨_, hk⟩ := h hi
    rw [List.drop_eq_getElem_cons hi, mg, if_neg (by omega), if_pos hk]
  · have e : a.drop i = [] := List.drop_eq_nil_of_le (by omega)
    rw [e, mg_nil_left, mg_nil_left]
theorem mg_both {a b : List Grp} {i j : Nat} (hi : i < a.length) (hj : j < b.length) (h1 : ¬ a[i].key < b[j].key) (h2 : ¬ b[j].key < a[i].key) : mg (a.drop i) (b.drop j) = both a[i] b[j] :: mg (a.drop (i + 1)) (b.drop (j + 1)) := by
  rw [List.drop_eq_getElem_cons hi, List.drop_eq_getElem_cons hj, mg, if_neg h1, if_neg h2]
/-- the merge so far -/
structure Now (w0 W : World) (a b : List Grp) (i j : Nat) (v : Value) (o : List Grp) : Prop where
  own : W.ownsRow w0.heap.size 71 5 v o.length (grps o)
  bel : Below w0.heap.size w0 W
  ia : i ≤ a.length
  jb : j ≤ b.length
  ol : o.length ≤ i + j
  eq : o ++ mg (a.drop i) (b.drop j) = mg a b
theorem Now.drewN {w0 W : World} {a b : List Grp} {i j : Nat} {v : Value} {o : List Grp} (h : Now w0 W a b i j v o) (n : Nat) : Now w0 (W.drewN n) a b i j v o :=
  ⟨own_drewN h.own n, below_drewN h.bel n, h.ia, h.jb, h.ol, h.eq⟩
theorem Now.left {w0 W W' : World} {a b : List Grp} {i j : Nat} {v v' : Value} {o : List Grp} (h : Now w0 W a b i j v o) {x : Grp} (hi : i < a.length) (he : mg (a.drop i) (b.drop j) = x :: mg (a.drop (i + 1)) (b.drop j))
    (ho : W'.ownsRow w0.heap.size 71 5 v' (o.length + 1) (grps o ++ grps [x])) (hg : W.grownBy W' v.ownBlock) : Now w0 W' a b (i + 1) j v' (o ++ [x]) :=
  ⟨by rw [List.length_append, grps_app]; exact ho, below_push h.bel h.bel.size hg h.own, by omega, h.jb, by have := h.ol; simp; omega, by rw [← h.eq, he]; simp⟩
theorem Now.right {w0 W W' : World} {a b : List Grp} {i j : Nat} {v v' : Value} {o : List Grp} (h : Now w0 W a b i j v o) {x : Grp} (hj : j < b.length) (he : mg (a.drop i) (b.drop j) = x :: mg (a.drop i) (b.drop (j + 1)))
    (ho : W'.ownsRow w0.heap.size 71 5 v' (o.length + 1) (grps o ++ grps [x])) (hg : W.grownBy W' v.ownBlock) : Now w0 W' a b i (j + 1) v' (o ++ [x]) :=
  ⟨by rw [List.length_append, grps_app]; exact ho, below_push h.bel h.bel.size hg h.own, h.ia, by omega, by have := h.ol; simp; omega, by rw [← h.eq, he]; simp⟩
theorem Now.both {w0 W W1 W' : World} {a b : List Grp} {i j : Nat} {v v' : Value} {o : List Grp} (h : Now w0 W a b i j v o) {x : Grp} (hi : i < a.length) (hj : j < b.length) (he : mg (a.drop i) (b.drop j) = x :: mg (a.drop (i + 1)) (b.drop (j + 1)))
    (hb : Below W.heap.size W W1) (ho : W'.ownsRow w0.heap.size 71 5 v' (o.length + 1) (grps o ++ grps [x])) (hg : W1.grownBy W' v.ownBlock) : Now w0 W' a b (i + 1) (j + 1) v' (o ++ [x]) :=
  ⟨by rw [List.length_append, grps_app]; exact ho, below_push (below_step h.bel hb) (Nat.le_trans h.bel.size hb.size) hg (own_below h.own hb), by omega, by omega, by have := h.ol; simp; omega, by rw [← h.eq, he]; simp⟩
set_option maxRecDepth 100000 in
set_option maxHeartbeats 2000000 in
theorem good_spec (A : Option Addr) (c : Nat) (l : List Grp) (w : World) (hn : l.length ≤ 1048576) (hr : Rd w 5 A l.length (grps l)) :
    Calls Try.prog 52 #[.slice A l.length c] w fun e w' => e = .returned (.bool (vgroups l)) ∧ Below w.heap.size w w' :=
  (groups.spec_good A c l w hn hr).mono fun e w' h => ⟨h.1, by first | exact h.2 | (rw [← h.2]; exact Below.refl _ _)⟩
set_option maxRecDepth 100000 in
set_option maxHeartbeats 8000000 in
theorem merge_any (A : Option Addr) (c : Nat) (a : List Grp) (B : Option Addr) (d : Nat) (b : List Grp) (w : World) (hn : a.length ≤ 1048576) (hr : Rd w 5 A a.length (grps a)) (hm : b.length ≤ 1048576) (hs : Rd w 5 B b.length (grps b)) (hla : a.length ≤ 64) (hlb : b.length ≤ 64) (ha : vgroups a = true) (hb : vgroups b = true) :
    Calls Try.prog 43 #[.slice A a.length c, .slice B b.length d] w fun e w' => ∃ v, e = .returned (.tuple #[v, .bool (vgroups (mg a b))]) ∧ OwnGrp w w' v (res2 (mg a b)) ∧ Below w.heap.size w w' := by
  have HA := Lib.hid (good_spec A c a w hn hr)
  have HB := Lib.hid (fun w1 h => good_spec B d b w1 hm h)
  have HM := Lib.hid (fun (w : World) => World.ownsRow_made (e := 71) (size := 5) w #[] 0 (Nat.le_refl _) (Nat.zero_le _) (by simp))
  have HTM := Lib.hid (And.intro (vg_tame ha) (vg_tame hb))
  have HML := Lib.hid (mg_len a b)
  rw [ha] at HA
  rw [hb] at HB
  clear ha hb
  go_enter Try.func43, Try.ntmps43
  go_wp2_with fail
  refine HA.out.mono ?_
  rintro e w1 ⟨rfl, hb1⟩
  go_wp2_with fail
  refine (HB.out _ (hs.below hb1)).mono ?_
  rintro e w2 ⟨rfl, hb2⟩
  have hb3 := below_step hb1 hb2
  have HN0 := Lib.hid (show Now w (w2.alloc (.cells #[] 71)) a b 0 0 (.slice (some ⟨w2.heap.size, 0, none⟩) 0 0) [] from ⟨own_base (HM.out w2) hb3.size, hb3.alloc hb3.size _, by omega, by omega, by simp, by simp⟩)
  clear hb1 hb2 hb3
  go_wp2_with fail
  go_loopg [6, 7, 8] (a.length + b.length + 1) (fun fu v si sj wr => ∃ (i j : Nat) (o : List Grp), si = .int .i64 (i : Int) ∧ sj = .int .i64 (j : Int) ∧ a.length + b.length < i + j + fu ∧ Now w wr a b i j v o)
  case atStart => exact ⟨0, 0, [], rfl, rfl, by omega, HN0.out⟩
  case round =>
    obtain ⟨i, j, o, rfl, rfl, hfu, hN⟩ := hrel
    have hib := hN.ia
    have hjb := hN.jb
    have hob := hN.ol
    obtain ⟨Ao, co, rfl, _, _, _⟩ := own_form hN.own
    by_cases hi : i < a.length
    · have qi : (i : Int) < (a.length : Int) := by omega
      have qi2 : ((i : Int) == (a.length : Int)) = false := by rw [beq_eq_false_iff_ne]; omega
      obtain ⟨ba, oa, rfl, xa0, xa1, xa2, xa3, xa4⟩ := (hr.below hN.bel).grp hi
      by_cases hj : j < b.length
      · have qj : (j : Int) < (b.length : Int) := by omega
        have qj2 : ((j : Int) == (b.length : Int)) = false := by rw [beq_eq_false_iff_ne]; omega
        obtain ⟨bb, ob, rfl, yb0, yb1, yb2, yb3, yb4⟩ := (hs.below hN.bel).grp hj
        have HL := Lib.hid (fun (h : a[i].key < b[j].key) => mg_left (b := b) (j := j) hi (fun hj => ⟨hj, h⟩))
        have HG := Lib.hid (fun (h : b[j].key < a[i].key) => mg_right (a := a) (i := i) hj (fun hi => ⟨hi, h⟩))
        have HBO := Lib.hid (fun h1 h2 => mg_both hi hj h1 h2)
        have HT1 := Lib.hid (HTM.out.1 a[i] (List.getElem_mem hi))
        have HT2 := Lib.hid (HTM.out.2 b[j] (List.getElem_mem hj))
        generalize a[i] = x at xa0 xa1 xa2 xa3 xa4 HL HG HBO HT1
        generalize b[j] = y at yb0 yb1 yb2 yb3 yb4 HL HG HBO HT2
        by_cases hlt : x.key < y.key
        · have HE := Lib.hid (HL.out hlt)
          go_wp2_with fail
          go_quiet (fail)
          have hNq := hN.drewN nq
          have hoq := hNq.own
          have hbq := hNq.bel.size
          have hh : o.length ≤ 1099511627776 := by have := hN.ol; have := hN.ia; have := hN.jb; omega
          go_wp2_with (at_builtin; refine mem.push _ rfl _ _ 25 rfl w.heap.size 71 _ 5 40 Try.underlying25 mem.info_grp rfl (by decide) _ _ _ rfl hoq (grps [x]) _ rfl (mem.grps_one [x]) rfl hh (by decide) hbq ?_; intro v' w' ho' hg')
          have HP := Lib.hid (hNq.left hi HE.out ho' hg')
          clear ho' hg' hoq hbq hNq hN
          go_wp2
          go_roundg (gk - 1)
          case measure => omega
          case rel => exact ⟨i + 1, j, _, by go_num, rfl, by omega, HP.out⟩
        · by_cases hgt : y.key < x.key
          · have HE := Lib.hid (HG.out hgt)
            go_wp2_with fail
            go_quiet (fail)
            change (wr.drewN nq).cell? _ = _ at xa0
            change (wr.drewN nq).cell? _ = _ at xa1
            change (wr.drewN nq).cell? _ = _ at xa2
            change (wr.drewN nq).cell? _ = _ at xa3
            change (wr.drewN nq).cell? _ = _ at xa4
            change (wr.drewN nq).cell? _ = _ at yb0
            change (wr.drewN nq).cell? _ = _ at yb1
            change (wr.drewN nq).cell? _ = _ at yb2
            change (wr.drewN nq).cell? _ = _ at yb3
            change (wr.drewN nq).cell? _ = _ at yb4
            have hNz := hN.drewN nq
            clear hN
            obtain ⟨wz, hwz⟩ : ∃ W : World, W = wr.drewN nq := ⟨_, rfl⟩
            rw [← hwz] at xa0 xa1 xa2 xa3 xa4 yb0 yb1 yb2 yb3 yb4 hNz ⊢
            clear hwz
            go_wp2_with fail
            go_quiet (fail)
            have hNq := hNz.drewN nq
            have hoq := hNq.own
            have hbq := hNq.bel.size
            have hh : o.length ≤ 1099511627776 := by omega
            go_wp2_with (at_builtin; refine mem.push _ rfl _ _ 25 rfl w.heap.size 71 _ 5 40 Try.underlying25 mem.info_grp rfl (by decide) _ _ _ rfl hoq (grps [y]) _ rfl (mem.grps_one [y]) rfl hh (by decide) hbq ?_; intro v' w' ho' hg')
            have HP := Lib.hid (hNq.right hj HE.out ho' hg')
            clear ho' hg' hoq hbq hNq hNz
            go_wp2
            go_roundg (gk - 1)
            case measure => omega
            case rel => exact ⟨i, j + 1, _, rfl, by go_num, by omega, HP.out⟩
          · have HE := Lib.hid (HBO.out hlt hgt)
            go_wp2_with fail
            go_quiet (fail)
            change (wr.drewN nq).cell? _ = _ at xa0
            change (wr.drewN nq).cell? _ = _ at xa1
            change (wr.drewN nq).cell? _ = _ at xa2
            change (wr.drewN nq).cell? _ = _ at xa3
            change (wr.drewN nq).cell? _ = _ at xa4
            change (wr.drewN nq).cell? _ = _ at yb0
            change (wr.drewN nq).cell? _ = _ at yb1
            change (wr.drewN nq).cell? _ = _ at yb2
            change (wr.drewN nq).cell? _ = _ at yb3
            change (wr.drewN nq).cell? _ = _ at yb4
            have hNz := hN.drewN nq
            clear hN
            obtain ⟨wz, hwz⟩ : ∃ W : World, W = wr.drewN nq := ⟨_, rfl⟩
            rw [← hwz] at xa0 xa1 xa2 xa3 xa4 yb0 yb1 yb2 yb3 yb4 hNz ⊢
            clear hwz
            go_wp2_with fail
            go_quiet (fail)
            change (wz.drewN nq).cell? _ = _ at xa0
            change (wz.drewN nq).cell? _ = _ at xa1
            change (wz.drewN nq).cell? _ = _ at xa2
            change (wz.drewN nq).cell? _ = _ at xa3
            change (wz.drewN nq).cell? _ = _ at xa4
            change (wz.drewN nq).cell? _ = _ at yb0
            change (wz.drewN nq).cell? _ = _ at yb1
            change (wz.drewN nq).cell? _ = _ at yb2
            change (wz.drewN nq).cell? _ = _ at yb3
            change (wz.drewN nq).cell? _ = _ at yb4
            have hNq := hNz.drewN nq
            clear hNz
            obtain ⟨wq, hwq⟩ : ∃ W : World, W = wz.drewN nq := ⟨_, rfl⟩
            rw [← hwq] at xa0 xa1 xa2 xa3 xa4 yb0 yb1 yb2 yb3 yb4 hNq ⊢
            clear hwq
            go_wp2_with fail
            have HDR := Lib.hid (show Below wq.heap.size wq wq.drew from below_drewN (Below.refl _ _) 1)
            have hh : o.length ≤ 1099511627776 := by omega
            have hsq := hNq.bel.size
            go_region_law ((first
              | (refine step_call rfl 80 _ _ rfl ent_both (by simp [Act.eval, Act.put]) (both_any x y _ HT1.out HT2.out) ?_; rintro e w3 ⟨rfl, hb3⟩; refine ⟨_, rfl, ?_⟩; have hbq := below_step HDR.out hb3; have ho3 := own_below hNq.own hbq; have hbs : w.heap.size ≤ w3.heap.size := Nat.le_trans hsq hbq.size)
              | (refine mem.step_push_atH w3 rfl (.tmp 29) (.tmp 39) 25 rfl w.heap.size 71 _ 5 40 Try.underlying25 mem.info_grp rfl (by decide) (.slice Ao o.length co) o.length (grps o) (by simp [Act.eval, Act.put]) ho3 w3.heap.size rfl (grps [⟨x.key, x.count + y.count, x.sum + y.sum, min x.least y.least, max x.most y.most⟩]) 1 rfl (mem.grps_one [⟨x.key, x.count + y.count, x.sum + y.sum, min x.least y.least, max x.most y.most⟩]) (by simp [Act.eval, Act.put]) hh (by decide) hbs ?_; intro v' w' ho' hg' hnw')))
            all_goals
              have HP := Lib.hid (hNq.both hi hj HE.out hbq ho' hg')
              clear ho' hg' hnw' ho3 hNq xa0 xa1 xa2 xa3 xa4 yb0 yb1 yb2 yb3 yb4
              go_wp2
              go_roundg (gk - 1)
              case measure => omega
              case rel => exact ⟨i + 1, j + 1, _, by go_num, by go_num, by omega, HP.out⟩
      · have HE := Lib.hid (mg_left (b := b) (j := j) hi (fun h => absurd h hj))
        have qj : ¬ (j : Int) < (b.length : Int) := by omega
        have qj2 : ((j : Int) == (b.length : Int)) = true := by rw [beq_iff_eq]; have := hN.jb; omega
        generalize a[i] = x at xa0 xa1 xa2 xa3 xa4 HE
        go_wp2_with fail
        go_quiet (fail)
        have hNq := hN.drewN nq
        have hoq := hNq.own
        have hbq := hNq.bel.size
        have hh : o.length ≤ 1099511627776 := by have := hN.ol; have := hN.ia; have := hN.jb; omega
        go_wp2_with (at_builtin; refine mem.push _ rfl _ _ 25 rfl w.heap.size 71 _ 5 40 Try.underlying25 mem.info_grp rfl (by decide) _ _ _ rfl hoq (grps [x]) _ rfl (mem.grps_one [x]) rfl hh (by decide) hbq ?_; intro v' w' ho' hg')
        have HP := Lib.hid (hNq.left hi HE.out ho' hg')
        clear ho' hg' hoq hbq hNq hN
        go_wp2
        go_roundg (gk - 1)
        case measure => omega
        case rel => exact ⟨i + 1, j, _, by go_num, rfl, by omega, HP.out⟩
    · have qi : ¬ (i : Int) < (a.length : Int) := by omega
      have qi2 : ((i : Int) == (a.length : Int)) = true := by rw [beq_iff_eq]; have := hN.ia; omega
      by_cases hj : j < b.length
      · have qj : (j : Int) < (b.length : Int) := by omega
        have qj2 : ((j : Int) == (b.length : Int)) = false := by rw [beq_eq_false_iff_ne]; omega
        obtain ⟨bb, ob, rfl, yb0, yb1, yb2, yb3, yb4⟩ := (hs.below hN.bel).grp hj
        have HE := Lib.hid (mg_right (a := a) (i := i) hj (fun h => absurd h hi))
        generalize b[j] = y at yb0 yb1 yb2 yb3 yb4 HE
        go_wp2_with fail
        go_quiet (fail)
        change (wr.drewN nq).cell? _ = _ at yb0
        change (wr.drewN nq).cell? _ = _ at yb1
        change (wr.drewN nq).cell? _ = _ at yb2
        change (wr.drewN nq).cell? _ = _ at yb3
        change (wr.drewN nq).cell? _ = _ at yb4
        have hNz := hN.drewN nq
        clear hN
        obtain ⟨wz, hwz⟩ : ∃ W : World, W = wr.drewN nq := ⟨_, rfl⟩
        rw [← hwz] at yb0 yb1 yb2 yb3 yb4 hNz ⊢
        clear hwz
        go_wp2_with fail
        go_quiet (fail)
        have hNq := hNz.drewN nq
        have hoq := hNq.own
        have hbq := hNq.bel.size
        have hh : o.length ≤ 1099511627776 := by omega
        go_wp2_with (at_builtin; refine mem.push _ rfl _ _ 25 rfl w.heap.size 71 _ 5 40 Try.underlying25 mem.info_grp rfl (by decide) _ _ _ rfl hoq (grps [y]) _ rfl (mem.grps_one [y]) rfl hh (by decide) hbq ?_; intro v' w' ho' hg')
        have HP := Lib.hid (hNq.right hj HE.out ho' hg')
        clear ho' hg' hoq hbq hNq hNz
        go_wp2
        go_roundg (gk - 1)
        case measure => omega
        case rel => exact ⟨i, j + 1, _, rfl, by go_num, by omega, HP.out⟩
      · have qj : ¬ (j : Int) < (b.length : Int) := by omega
        have HOL := Lib.hid (show o = mg a b from by
          have e1 : a.drop i = [] := List.drop_eq_nil_of_le (by omega)
          have e2 : b.drop j = [] := List.drop_eq_nil_of_le (by omega)
          have := hN.eq
          rw [e1, e2, mg_nil_left, List.append_nil] at this
          exact this)
        have hol2 : o.length ≤ 1048576 := by omega
        have HGd := Lib.hid (good_spec Ao co o wr hol2 (own_rd hN.own))
        cases hv : vgroups o with
        | false =>
          rw [hv] at HGd
          rw [HOL.out] at hv
          have HV := Lib.hid hv
          clear hv
          go_wp2_with fail
          (with_reducible refine HGd.out.mono ?_)
          rintro e w5 ⟨rfl, hb8⟩
          have hb9 := below_step hN.bel hb8
          go_wp2
          go_ret2
          exact ⟨_, by rw [HV.out]; rfl, by rw [res2, if_neg (by rw [HV.out]; simp)]; exact ⟨own_base (HM.out w5) hb9.size, by simp⟩, hb9.alloc hb9.size _⟩
        | true =>
          rw [hv] at HGd
          rw [HOL.out] at hv
          have HV := Lib.hid hv
          clear hv
          go_wp2_with fail
          (with_reducible refine HGd.out.mono ?_)
          rintro e w5 ⟨rfl, hb8⟩
          have hb9 := below_step hN.bel hb8
          have hob := own_below hN.own hb8
          go_wp2
          go_ret2
          exact ⟨_, by rw [HV.out]; rfl, by rw [res2, if_pos HV.out, ← HOL.out]; exact ⟨hob, hol2⟩, hb9⟩
set_option maxRecDepth 100000 in
set_option maxHeartbeats 2000000 in
theorem mg_spec (A : Option Addr) (c : Nat) (a : List Grp) (B : Option Addr) (d : Nat) (b : List Grp) (w : World) (hn : a.length ≤ 1048576) (hca : a.length ≤ c) (hca2 : c ≤ maxLen) (hr : Rd w 5 A a.length (grps a)) (hm : b.length ≤ 1048576) (hcb : b.length ≤ d) (hcb2 : d ≤ maxLen) (hs : Rd w 5 B b.length (grps b)) :
    Calls Try.prog 43 #[.slice A a.length c, .slice B b.length d] w fun e w' => ∃ v, e = .returned (.tuple #[v, .bool (okM a b)]) ∧ OwnGrp w w' v (resM a b) ∧ Below w.heap.size w w' := by
  have HA := Lib.hid (good_spec A c a w hn hr)
  have HB := Lib.hid (fun w1 h => good_spec B d b w1 hm h)
  have HM := Lib.hid (fun (w : World) => World.ownsRow_made (e := 71) (size := 5) w #[] 0 (Nat.le_refl _) (Nat.zero_le _) (by simp))
  cases ha : vgroups a with
  | false =>
    have HR := Lib.hid (show okM a b = false ∧ resM a b = [] by simp [okM, resM, ha])
    rw [ha] at HA
    clear ha
    go_enter Try.func43, Try.ntmps43
    go_wp2_with fail
    refine HA.out.mono ?_
    rintro e w1 ⟨rfl, hb1⟩
    go_wp2
    go_ret2
    exact ⟨_, by rw [HR.out.1]; rfl, ⟨by rw [HR.out.2]; exact own_base (HM.out w1) hb1.size, by rw [HR.out.2]; simp⟩, hb1.alloc hb1.size _⟩
  | true =>
    cases hb : vgroups b with
    | false =>
      have HR := Lib.hid (show okM a b = false ∧ resM a b = [] by simp [okM, resM, hb])
      rw [ha] at HA
      rw [hb] at HB
      clear ha hb
      go_enter Try.func43, Try.ntmps43
      go_wp2_with fail
      refine HA.out.mono ?_
      rintro e w1 ⟨rfl, hb1⟩
      go_wp2_with fail
      refine (HB.out _ (hs.below hb1)).mono ?_
      rintro e w2 ⟨rfl, hb2⟩
      have hb3 := below_step hb1 hb2
      go_wp2
      go_ret2
      exact ⟨_, by rw [HR.out.1]; rfl, ⟨by rw [HR.out.2]; exact own_base (HM.out w2) hb3.size, by rw [HR.out.2]; simp⟩, hb3.alloc hb3.size _⟩
    | true =>
      have h := merge_any A c a B d b w hn hr hm hs (vg_len ha) (vg_len hb) ha hb
      have e1 : okM a b = vgroups (mg a b) := by rw [okM, ha, hb]; rfl
      have e2 : resM a b = res2 (mg a b) := by rw [resM, e1, res2]
      rw [e1, e2]
      exact h
end Go.Proofs.Ytgngoedooemboaa.gm
