/- PairwiseRounds, the program's and the reference's. Condition: at most 2^20 sizes. -/
import Derived.Test.YtfjmpplpagmpbaaRndLaw
import Derived.Test.YtfjmpplpagmpbaaNest
import Derived.Test.YtfjmpplpagmpbaaAllInt
import Derived.Test.YtfjmpplpagmpbaaIn
import Derived.Test.YtfjmpplpagmpbaaCopyInt
import Derived.Deep.LoopGhost
import Derived.Deep.RegionLaw
set_option linter.unusedVariables false
set_option linter.unusedSimpArgs false
namespace Go.Proofs.Ytfjmpplpagmpbaa.rnd
open Go.RowKit Go.Proofs.Ytfjmpplpagmpbaa.mem Go.Proofs.Ytfjmpplpagmpbaa.nest
open Go.Proofs.Ytfjmpplpagmpbaa.ins (inB inB_iff)

def okP (zs : List Int) : Bool := decide (zs.length ≤ 40) && zs.all (fun n => inB n 0 100000)
theorem okP_iff {zs : List Int} : okP zs = true ↔ zs.length ≤ 40 ∧ ∀ z ∈ zs, 0 ≤ z ∧ z ≤ 100000 := by
  simp [okP, inB]
def resP (zs : List Int) : List (List Int) := if okP zs = true then rnds zs else []
def spanP (zs : List Int) : Int := if okP zs = true then span zs else 0
theorem rnds_row : ∀ (l : List Int), ∀ r ∈ rnds l, r.length ≤ l.length := by
  intro l
  induction hn : l.length using Nat.strongRecOn generalizing l with
  | _ n ih =>
    intro r hr
    by_cases hl : 1 < l.length
    · rw [rnds_more hl] at hr
      have e := nx_len l
      rcases List.mem_cons.1 hr with rfl | hr
      · omega
      · have := ih (nx l).length (by omega) (nx l) rfl r hr
        omega
    · rw [rnds_end hl] at hr; simp at hr
theorem bd_of {zs : List Int} (h : okP zs = true) : Bd 4000000 zs := by
  obtain ⟨h1, h2⟩ := okP_iff.1 h
  have := sum_le_mul (B := 100000) (by omega) h2
  exact ⟨fun z hz => (h2 z hz).1, by omega⟩
theorem mo_step (l : List Int) (k : Nat) : mo l (k + 1) = max (mo l k) (l.getD (2 * k) 0 + l.getD (2 * k + 1) 0) := rfl
/-- one pair, or the last alone -/
theorem max2_int (P : Program) (w : World) (a b : Int) : (Builtin.max2 (.int .i64 a) (.int .i64 b)).run P w = .ok (.int .i64 (max a b)) w := by
  simp only [Builtin.max2, Sem.run_pure]
  congr 2
  by_cases h : b > a
  · rw [if_pos h]; omega
  · rw [if_neg h]; omega
theorem run_max2 (P : Program) (w : World) (ts : Array TypeId) (t : TypeId) (a b : Int) : (Builtin.max_ ts t #[.int .i64 a, .int .i64 b]).run P w = .ok (.int .i64 (max a b)) w := by
  simp only [Builtin.max_, List.foldlM_cons, List.foldlM_nil, Sem.run_bind, max2_int, Result.andThen_ok, Sem.run_pure]
theorem pr_pair (l : List Int) {k : Nat} (h : 2 * k + 1 < l.length) : pr l (k + 1) = pr l k ++ [(l[2 * k]'(by omega)) + l[2 * k + 1]] ∧ mo l (k + 1) = max (mo l k) ((l[2 * k]'(by omega)) + l[2 * k + 1]) := by
  have e1 : l.getD (2 * k) 0 = l[2 * k]'(by omega) := by rw [List.getD_eq_getElem?_getD, List.getElem?_eq_getElem]; rfl
  have e2 : l.getD (2 * k + 1) 0 = l[2 * k + 1] := by rw [List.getD_eq_getElem?_getD, List.getElem?_eq_getElem h]; rfl
  rw [pr_step, mo_step, e1, e2]
  exact ⟨rfl, rfl⟩
theorem pr_last (l : List Int) {k : Nat} (h : 2 * k + 1 = l.length) : pr l (k + 1) = pr l k ++ [l[2 * k]'(by omega)] := by
  have e1 : l.getD (2 * k) 0 = l[2 * k]'(by omega) := by rw [List.getD_eq_getElem?_getD, List.getElem?_eq_getElem]; rfl
  have e2 : l.getD (2 * k + 1) 0 = 0 := by rw [List.getD_eq_getElem?_getD, List.getElem?_eq_none (by omega)]; rfl
  rw [pr_step, e1, e2, Int.add_zero]
theorem pair_at (l : List Int) {j k : Nat} (hj : j = 2 * k) (h : j + 1 < l.length) : pr l (k + 1) = pr l k ++ [(l[j]'(by omega)) + l[j + 1]] ∧ mo l (k + 1) = max (mo l k) ((l[j]'(by omega)) + l[j + 1]) := by subst hj; exact pr_pair l h
theorem last_at (l : List Int) {j k : Nat} (hj : j = 2 * k) (h : j + 1 = l.length) : pr l (k + 1) = pr l k ++ [l[j]'(by omega)] := by subst hj; exact pr_last l h
theorem at_bd {B : Int} {l : List Int} (h : Bd B l) {i : Nat} (hi : i < l.length) : 0 ≤ l[i] ∧ l[i] ≤ B := by
  have h1 := h.1 _ (List.getElem_mem hi)
  have h2 := h.2
  have h3 : ∀ (l : List Int), (∀ z ∈ l, 0 ≤ z) → ∀ x ∈ l, x ≤ l.sum := by
    intro l
    induction l with
    | nil => intro _ x hx; simp at hx
    | cons a l ih =>
      intro hp x hx
      have ha := hp a (by simp)
      have hl := nonneg_sum (l := l) (fun z hz => hp z (by simp [hz]))
      rw [List.sum_cons]
      rcases List.mem_cons.1 hx with rfl | hx
      · omega
      · have := ih (fun z hz => hp z (by simp [hz])) x hx; omega
  have := h3 l h.1 _ (List.getElem_mem hi)
  omega
theorem nx_of {l : List Int} {k : Nat} (h : k = (l.length + 1) / 2) : pr l k = nx l := by subst h; rfl
theorem info_row : (Try.prog.info? 22).map (fun i => (i.zero, i.size, i.bytes)) = some (some (.slice none 0 0), 1, 24) := by kernel_rfl
theorem one_row (A : Option Addr) (n c : Nat) : ∀ u ∈ [Value.slice A n c], u.oneCell' = true := by
  intro u hu
  obtain rfl := List.mem_singleton.1 hu
  rfl
set_option maxHeartbeats 400000 in
theorem size_clo (x : Int) (w : World) : Calls Try.prog 56 #[.int .i64 x] w fun e w' => e = .returned (.bool (inB x 0 100000)) ∧ Below w.heap.size w w' := by
  go_enter Try.func56, Try.ntmps56
  go_wp2_with fail
  refine (ins.impl_any _ _ _ _).mono ?_
  rintro e w1 ⟨rfl, rfl⟩
  go_wp2
  go_ret
  exact ⟨rfl, Below.refl _ _⟩
theorem most_any (a b : Int) (w : World) : Calls Try.prog 60 #[.int .i64 a, .int .i64 b] w fun e w' => e = .returned (.int .i64 (max a b)) ∧ w = w' := by
  by_cases h : a > b
  · have HE := Lib.hid (show max a b = a by omega)
    go_enter Try.func60, Try.ntmps60
    go_wp2
    go_ret
    exact ⟨ret_int HE.out.symm, rfl⟩
  · have HE := Lib.hid (show max a b = b by omega)
    go_enter Try.func60, Try.ntmps60
    go_wp2
    go_ret
    exact ⟨ret_int HE.out.symm, rfl⟩

set_option maxRecDepth 100000 in
set_option maxHeartbeats 2000000 in
theorem impl_any (A : Option Addr) (c : Nat) (zs : List Int) (w : World) (hn : zs.length ≤ 1048576) (hr : Rd w 1 A zs.length (ints zs)) :
    Calls Try.prog 23 #[.slice A zs.length c] w fun e w' => ∃ v, e = .returned (.tuple #[v, .int .i64 (spanP zs), .bool (okP zs)]) ∧ OwnL_int w w' v (resP zs) ∧ Below w.heap.size w w' := by
  by_cases h40 : zs.length ≤ 40
  · have HV := Lib.hid (allInt.all_any A c zs 56 (fun x => inB x 0 100000) w (by unfold maxLen; omega) hr ⟨fun _ _ => rfl, fun s _ W _ => size_clo s W⟩)
    cases ha : zs.all (fun n => inB n 0 100000) with
    | false =>
      rw [ha] at HV
      have HR := Lib.hid (show okP zs = false ∧ resP zs = [] ∧ spanP zs = 0 by simp [okP, resP, spanP, ha])
      clear ha
      go_enter Try.func23, Try.ntmps23
      go_wp2_with fail
      refine HV.out.mono ?_
      rintro e w1 ⟨rfl, hb1⟩
      go_wp2
      go_ret3
      exact ⟨_, by rw [HR.out.1, HR.out.2.2]; rfl, ⟨⟨[], by rw [HR.out.2.1]; exact nl_nil_int _ _⟩, by rw [HR.out.2.1]; simp, by rw [HR.out.2.1]; simp⟩, hb1⟩
    | true =>
      rw [ha] at HV
      have hok : okP zs = true := by simp [okP, ha, h40]
      have HR := Lib.hid (show okP zs = true ∧ resP zs = rnds zs ∧ spanP zs = span zs by simp [resP, spanP, hok])
      have HBD := Lib.hid (bd_of hok)
      clear ha hok
      go_enter Try.func23, Try.ntmps23
      go_wp2_with fail
      refine HV.out.mono ?_
      rintro e w1 ⟨rfl, hb1⟩
      clear HV
      have HO1 := Lib.hid (World.ownsRow_made (base := w.heap.size) (e := 22) (size := 1) w1 #[] 0 hb1.size (Nat.zero_le _) (by simp))
      have HB1 := Lib.hid (hb1.alloc hb1.size (.cells #[] 22))
      have HR1 := Lib.hid ((hr.below hb1).alloc (.cells #[] 22))
      go_wp2
      go_loopg [0, 5, 6] (zs.length + 1) (fun f s o tt wr => ∃ (vs : List Value) (done : List (List Int)) (cur : List Int) (A' : Option Addr) (c' : Nat) (tot : Int), cur.length < f ∧ cur.length ≤ 40 ∧ done ++ rnds cur = rnds zs ∧ tot + span cur = span zs ∧ Bd 4000000 cur ∧ 0 ≤ tot ∧ tot ≤ 4000000 * (done.length : Int) ∧ done.length + cur.length ≤ 40 ∧
        s = .slice A' cur.length c' ∧ tt = .int .i64 tot ∧ NL_int wr w.heap.size o vs done ∧ Rd wr 1 A' cur.length (ints cur) ∧ Below w.heap.size w wr)
      case atStart => exact ⟨[], [], zs, A, c, 0, by omega, by omega, rfl, by omega, HBD.out, by omega, by simp, by simp; omega, rfl, rfl, nl_made_int HO1.out, HR1.out, HB1.out⟩
      case round =>
        obtain ⟨vs, done, cur, A', c', tot, hf, h40c, hdone, hspan, hbd, ht0, ht1, hlen, rfl, rfl, ho, hrc, hb⟩ := hrel
        have HD := Lib.hid (And.intro hdone hspan)
        have HBD2 := Lib.hid hbd
        have HO := Lib.hid ho
        clear hdone hspan hbd
        by_cases hl : 1 < cur.length
        · have q1 : (1 : Int) < (cur.length : Int) := by omega
          obtain ⟨wo, hwo⟩ : ∃ wo : World, wo = wr := ⟨_, rfl⟩
          rw [← hwo] at ho hrc hb HO
          rw [← hwo]
          clear hwo
          have HN1 := Lib.hid (World.ownsRow_made (base := wo.heap.size) (e := 3) (size := 1) wo #[] 0 (Nat.le_refl _) (Nat.zero_le _) (by simp))
          have HNB := Lib.hid ((Below.refl wo.heap.size wo).alloc (Nat.le_refl _) (.cells #[] 3))
          have HF := Lib.hid hf
          clear ho hf
          go_wp2
          go_loopg [7, 8, 9] (cur.length + 1) (fun f x m i wi => ∃ (k j : Nat) (mm : Int), cur.length < k + f ∧ i = .int .i64 (j : Int) ∧ j = 2 * k ∧ j ≤ cur.length + 1 ∧ m = .int .i64 mm ∧ mm = mo cur (min k (cur.length / 2)) ∧ 0 ≤ mm ∧ mm ≤ 4000000 ∧ wi.ownsRow wo.heap.size 3 1 x k (ints (pr cur k)) ∧ Below wo.heap.size wo wi)
          case atStart => exact ⟨0, 0, 0, by omega, rfl, rfl, by omega, rfl, by simp [mo], by omega, by omega, HN1.out, HNB.out⟩
          case round =>
            obtain ⟨k, j, mm, hkf, rfl, hjk, hjl, rfl, hmm, hm0, hm1, hoi, hbi⟩ := hrel
            have HJK := Lib.hid hjk
            have HMM := Lib.hid hmm
            have hkl : k ≤ 41 := by omega
            clear hjk hmm
            have hrc2 := hrc.below hbi
            by_cases hlt : j < cur.length
            · have q2 : (j : Int) < (cur.length : Int) := by omega
              obtain ⟨b, off, rfl, hc0⟩ := hrc2.int (k := j) hlt
              have hx0 := at_bd HBD2.out hlt
              have hjb : k ≤ 1099511627776 := by omega
              have hbw := hbi.size
              by_cases hlast : j + 1 = cur.length
              · have HP := Lib.hid (show ints (pr cur k) ++ [.int .i64 cur[j]] = ints (pr cur (k + 1)) by rw [last_at cur HJK.out hlast, ints_app]; rfl)
                have HMM2 := Lib.hid (show mm = mo cur (min (k + 1) (cur.length / 2)) by
                  rw [HMM.out]; have := HJK.out; rw [show min k (cur.length / 2) = min (k + 1) (cur.length / 2) by omega])
                generalize cur[j] = x0 at hc0 HP hx0
                have q3 : (j : Int) + 1 = (cur.length : Int) := by omega
                go_wp2_with (at_builtin; refine mem.push _ rfl _ _ 22 rfl wo.heap.size 3 _ 1 8 Try.underlying22 mem.info_int rfl Nat.one_pos _ _ _ rfl hoi [.int .i64 (x0)] _ rfl (mem.ints_one [x0]) rfl hjb (by decide) hbw ?_; intro v' w' ho' hg')
                have hb2 := below_push hbi hbw hg' hoi
                rw [HP.out] at ho'
                go_wp2
                go_roundg (gk - 1)
                case measure => have := HJK.out; omega
                case rel => exact ⟨k + 1, j + 2, mm, by omega, by go_num, by have := HJK.out; omega, by omega, rfl, HMM2.out, hm0, hm1, ho', hb2⟩
              · have hlt2 : j + 1 < cur.length := by omega
                have hc1 := hrc2.int_at (k := j + 1) hlt2
                have hx1 := at_bd HBD2.out hlt2
                have hsum := (pair_bd HBD2.out.1 k).2.1
                have hpair := pair_at cur HJK.out hlt2
                have HS2 := Lib.hid (show (cur[j]'hlt) + cur[j + 1] ≤ 4000000 by
                  have h1 := (pair_bd HBD2.out.1 k)
                  have e1 : cur.getD (2 * k) 0 = cur[j] := by rw [← HJK.out, List.getD_eq_getElem?_getD, List.getElem?_eq_getElem hlt]; rfl
                  have e2 : cur.getD (2 * k + 1) 0 = cur[j + 1] := by rw [← HJK.out, List.getD_eq_getElem?_getD, List.getElem?_eq_getElem hlt2]; rfl
                  rw [e1, e2] at h1
                  have := HBD2.out.2
                  omega)
                clear hsum
                have HPM := Lib.hid hpair
                have HCW := Lib.hid (fun (W : World) (h : Below wo.heap.size wo W) => And.intro ((hrc.below h).int_at (k := j) hlt) ((hrc.below h).int_at (k := j + 1) hlt2))
                clear hpair
                generalize cur[j] = x0 at hc0 hx0 HS2 HPM HCW
                generalize cur[j + 1] = x1 at hc1 hx1 HS2 HPM HCW
                have hs2 := HS2.out
                have HP := Lib.hid (show ints (pr cur k) ++ [.int .i64 (x0 + x1)] = ints (pr cur (k + 1)) by rw [HPM.out.1, ints_app]; rfl)
                have HMM2 := Lib.hid (show max mm (x0 + x1) = mo cur (min (k + 1) (cur.length / 2)) by
                  have e := HJK.out
                  rw [show min (k + 1) (cur.length / 2) = k + 1 by omega, HPM.out.2, HMM.out, show min k (cur.length / 2) = k by omega])
                have q3 : ¬ (j : Int) + 1 = (cur.length : Int) := by omega
                have q4 : (j : Int) + 1 < (cur.length : Int) := by omega
                have q5 : (0 : Int) ≤ (j : Int) + 1 := by omega
                have q6 : ((j : Int) + 1).toNat = j + 1 := by omega
                have q7 : IntKind.i64.wrap ((j : Int) + 1) = (j : Int) + 1 := IntWalk.i64_in _ (by omega)
                have hwr : IntKind.i64.wrap (x0 + x1) = x0 + x1 := IntWalk.i64_in _ (by omega)
                have hmx := fun (P : Program) (W : World) (ts : Array TypeId) (ty : TypeId) => run_max2 P W ts ty mm (x0 + x1)
                go_wp2_with fail
                go_region_law (refine mem.step_push wr.drew rfl (.tmp 41) (.tmp 52) 22 rfl wo.heap.size 3 (.int .i64 0) 1 8 Try.underlying22 mem.info_int rfl Nat.one_pos u7 k (ints (pr cur k)) (by simp [Act.eval, Act.put]) hoi [.int .i64 (x0 + x1)] 1 rfl (mem.ints_one [x0 + x1]) (by simp [Act.eval, Act.put]) hjb (by decide) hbw ?_; intro v' w' ho' hg0; have hg' := mem.grown_undrew hg0; clear hg0)
                all_goals
                  have hb2 := below_push hbi hbw hg' hoi
                  obtain ⟨hcA, hcB⟩ := HCW.out _ hb2
                  rw [HP.out] at ho'
                  clear hc0 hc1 hoi hbi hg' HCW
                  go_wp2_with fail
                  go_quiet (fail)
                  have ho2 := own_drewN ho' nq
                  have hb3 := below_drewN hb2 nq
                  rw [HMM2.out]
                  have hmm2 := mo_bd HBD2.out.1 (min (k + 1) (cur.length / 2))
                  have HBM := Lib.hid (show 0 ≤ mo cur (min (k + 1) (cur.length / 2)) ∧ mo cur (min (k + 1) (cur.length / 2)) ≤ 4000000 by have := HBD2.out.2; omega)
                  clear hcA hcB hmm2
                  go_wp2
                  go_roundg (gk - 1)
                  case measure => have := HJK.out; omega
                  case rel => exact ⟨k + 1, j + 2, _, by omega, by go_num, by have := HJK.out; omega, by omega, rfl, rfl, HBM.out.1, HBM.out.2, ho2, hb3⟩
            · have HE := Lib.hid (show pr cur k = nx cur ∧ mm = mo cur (cur.length / 2) by
                have e := HJK.out
                have e2 : k = (cur.length + 1) / 2 := by omega
                exact ⟨nx_of e2, by rw [HMM.out, show min k (cur.length / 2) = cur.length / 2 by omega]⟩)
              have HKN := Lib.hid (show k = (nx cur).length by rw [← HE.out.1, pr_len])
              have q2 : ¬ (j : Int) < (cur.length : Int) := by omega
              have hapt := nl_apart_int HO.out (own_ge hoi)
              have ho2 := nl_below_int HO.out hbi
              obtain ⟨A2, c2, rfl, _, _, _⟩ := own_form hoi
              have hx0 := own_base hoi hb.size
              rw [HE.out.1] at hx0
              have HX := Lib.hid (show wr.ownsRow w.heap.size 3 1 (.slice A2 k c2) (nx cur).length (ints (nx cur)) by rw [← HKN.out]; exact hx0)
              have HXA := Lib.hid hapt
              have HO2 := Lib.hid ho2
              have hbr : Below w.heap.size w wr := below_at hb hb.size hbi
              have hbs := hbr.size
              have hnl : done.length ≤ 1099511627776 := by omega
              have htop := ho2.top
              have HSUM := Lib.hid (show tot + mm + span (nx cur) = span zs ∧ (done ++ [nx cur]) ++ rnds (nx cur) = rnds zs by
                have := HD.out
                rw [rnds_more hl, span_more hl] at this
                refine ⟨by rw [HE.out.2]; omega, by rw [← this.1]; simp⟩)
              have hwr : IntKind.i64.wrap (tot + mm) = tot + mm := IntWalk.i64_in _ (by omega)
              have HNL := Lib.hid (nx_len cur)
              have HBN := Lib.hid (bd_nx HBD2.out)
              have HTE := Lib.hid (show 0 ≤ tot + mm ∧ tot + mm ≤ 4000000 * ((done ++ [nx cur]).length : Int) by
                rw [List.length_append, List.length_singleton, Int.natCast_add, Int.mul_add]; omega)
              have HDL := Lib.hid (show (done ++ [nx cur]).length = done.length + 1 by simp)
              clear hapt ho2 hx0 hoi
              go_wp2_with (at_builtin; refine mem.push_at _ rfl _ _ 31 rfl w.heap.size 22 _ 1 24 Try.underlying31 info_row rfl Nat.one_pos _ _ _ rfl htop [.slice A2 k c2] _ rfl (one_row _ _ _) rfl hnl (by decide) hbs ?_; intro v' w' ho' hg' hnw')
              have HN := Lib.hid (nl_push_int HO2.out HX.out HXA.out.1 HXA.out.2 ho' hg' hnw')
              have HRX := Lib.hid (show Rd w' 1 A2 (nx cur).length (ints (nx cur)) by
                have := HX.out.kept hg' (HXA.out.1.symm)
                rw [← HKN.out] at this ⊢
                exact own_rd this)
              have hb4 := below_push hbr hbs hg' htop
              rw [HKN.out]
              clear ho' hg' hnw' htop
              go_wp2
              go_roundg ((nx cur).length + 1)
              case measure => have := HNL.out; have := HF.out; omega
              case rel => exact ⟨_, done ++ [nx cur], nx cur, A2, c2, tot + mm, by omega, by have := HNL.out; omega, HSUM.out.2, HSUM.out.1, HBN.out, HTE.out.1, HTE.out.2, by have := HNL.out; have := HDL.out; omega, rfl, rfl, HN.out, HRX.out, hb4⟩
        · have HE := Lib.hid (show done = rnds zs ∧ tot = span zs by
            have := HD.out
            rw [rnds_end hl, span_end hl] at this
            simpa using this)
          have HRL := Lib.hid (show done.length ≤ 1024 by omega)
          clear ho
          have q1 : ¬ (1 : Int) < (cur.length : Int) := by omega
          go_wp2
          go_ret3
          exact ⟨_, by rw [HR.out.1, HR.out.2.2, HE.out.2]; rfl, ⟨⟨vs, by rw [HR.out.2.1, ← HE.out.1]; exact HO.out⟩, by rw [HR.out.2.1, ← HE.out.1]; exact HRL.out, by rw [HR.out.2.1]; exact fun r hr => Nat.le_trans (rnds_row zs r hr) hn⟩, hb⟩
  · have HR := Lib.hid (show okP zs = false ∧ resP zs = [] ∧ spanP zs = 0 by simp [okP, resP, spanP, h40])
    have q : (40 : Int) < (zs.length : Int) := by omega
    go_enter Try.func23, Try.ntmps23
    go_wp2
    go_ret3
    exact ⟨_, by rw [HR.out.1, HR.out.2.2]; rfl, ⟨⟨[], by rw [HR.out.2.1]; exact nl_nil_int _ _⟩, by rw [HR.out.2.1]; simp, by rw [HR.out.2.1]; simp⟩, Below.refl _ _⟩
end Go.Proofs.Ytfjmpplpagmpbaa.rnd
