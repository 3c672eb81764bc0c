/- One merging pass, the program's: areLists, mergePass, MergePass. Condition: at most 2^20 runs, of at most 2^20 records each. -/
import Derived.Test.YtgffabjajbgbjaaTnW
import Derived.Test.YtgffabjajbgbjaaPassLaw
import Derived.Test.YtgffabjajbgbjaaAscR
import Derived.Test.YtgffabjajbgbjaaCut
set_option linter.unusedVariables false
set_option linter.unusedSimpArgs false
namespace Go.Proofs.Ytgffabjajbgbjaa.pas
open Go.RowKit Go.Proofs.Ytgffabjajbgbjaa.mem Go.Proofs.Ytgffabjajbgbjaa.nest Go.Proofs.Ytgffabjajbgbjaa.tn Go.Proofs.Ytgffabjajbgbjaa.ascr
open Go.Proofs.Ytgffabjajbgbjaa.ins (inB inB_iff)
open Go.Proofs.Ytgffabjajbgbjaa.vrecs (vrec vrec_len)

def okRs (rs : List (List Rec)) : Bool := rs.all okR && decide (tot rs ≤ 64)
def okP (rs : List (List Rec)) (ways : Int) : Bool := inB ways 2 16 && okRs rs
def resP (rs : List (List Rec)) (ways : Int) : List (List Rec) := if okP rs ways = true then (mp ways.toNat rs.length rs).1 else []
def cmpP (rs : List (List Rec)) (ways : Int) : Int := if okP rs ways = true then ((mp ways.toNat rs.length rs).2 : Nat) else 0
/-- rows of records of the call's own, few records in all -/
def OwnT (w w' : World) (v : Value) (zss : List (List Rec)) : Prop := (∃ vs, NL_rec w' w.heap.size v vs zss) ∧ zss.length ≤ 1048576 ∧ tot zss ≤ 1048576
theorem okR_len {r : List Rec} (h : okR r = true) : r.length ≤ 64 := by
  simp only [okR, Bool.and_eq_true] at h
  exact vrec_len h.1
theorem okRs_tot {rs : List (List Rec)} (h : okRs rs = true) : tot rs ≤ 64 := by
  simp only [okRs, Bool.and_eq_true, decide_eq_true_eq] at h; exact h.2
theorem okRs_mem {rs : List (List Rec)} (h : okRs rs = true) : ∀ r ∈ rs, okR r = true := by
  simp only [okRs, Bool.and_eq_true, List.all_eq_true] at h; exact h.1
theorem okRs_not {rs : List (List Rec)} {i : Nat} (hi : i < rs.length) (h : okR rs[i] = false) : okRs rs = false := by
  have : rs.all okR = false := by rw [List.all_eq_false]; exact ⟨rs[i], List.getElem_mem hi, by rw [h]; simp⟩
  rw [okRs, this, Bool.false_and]
theorem tot_take_succ (rs : List (List Rec)) {i : Nat} (hi : i < rs.length) : tot (rs.take (i + 1)) = tot (rs.take i) + rs[i].length := by
  rw [List.take_succ_eq_append_getElem hi, tot, tot, List.map_append, List.sum_append]; simp
theorem tot_small {rs : List (List Rec)} (h : ∀ r ∈ rs, r.length ≤ 64) : tot rs ≤ rs.length * 64 := by
  induction rs with
  | nil => simp [tot]
  | cons a rs ih =>
    rw [tot_cons]
    have h1 := h a (by simp)
    have h2 := ih fun r hr => h r (by simp [hr])
    simp only [List.length_cons, Nat.succ_mul]; omega
theorem rdl_cut {w : World} {A : Option Addr} {vs : List Value} {rs : List (List Rec)} (h : RdL_rec w A vs rs) {k m cap : Nat} (hk : k + m ≤ rs.length) (hc : rs.length ≤ cap) : RdL_rec w (cutA A cap k 1) ((vs.drop k).take m) ((rs.drop k).take m) := by
  have hl : ((rs.drop k).take m).length = m := by rw [List.length_take, List.length_drop]; omega
  refine ⟨?_, fun i hi => ?_⟩
  · rw [hl]
    have := h.1.cut_at (k := k) (m := m) hk hc
    simpa using this
  · rw [hl] at hi
    obtain ⟨B, c, h1, h2, h3, h4⟩ := h.2 (k + i) (by omega)
    have e : ((rs.drop k).take m)[i]'(by rw [hl]; exact hi) = rs[k + i]'(by omega) := by simp
    rw [e]
    refine ⟨B, c, ?_, h2, h3, h4⟩
    rw [List.getElem?_take, if_pos hi, List.getElem?_drop]; exact h1
theorem info_recS : (Try.prog.info? 54).map (fun i => (i.zero, i.size, i.bytes)) = some (some (.slice none 0 0), 1, 24) := by kernel_rfl
theorem one_row (A : Option Addr) (n c : Nat) : ∀ u ∈ [Value.slice A n c], u.oneCell' = true := by
  intro u hu
  obtain rfl := List.mem_singleton.1 hu
  rfl
set_option maxRecDepth 100000 in
set_option maxHeartbeats 1000000 in
theorem lists_any (A : Option Addr) (c : Nat) (vs : List Value) (rs : List (List Rec)) (w : World) (hn : rs.length ≤ 1048576) (hrl : ∀ r ∈ rs, r.length ≤ 1048576) (hr : RdL_rec w A vs rs) :
    Calls Try.prog 78 #[.slice A rs.length c] w fun e w' => e = .returned (.bool (okRs rs)) ∧ Below w.heap.size w w' := by
  go_enter Try.func78, Try.ntmps78
  go_wp2
  go_loopg [3, 8] (rs.length + 1) (fun f t x wr => ∃ (i : Nat) (s : Nat), rs.length < i + f ∧ i ≤ rs.length ∧ x = .int .i64 (i : Int) ∧ t = .int .i64 (s : Int) ∧ s = tot (rs.take i) ∧ (∀ r ∈ rs.take i, okR r = true) ∧ Below w.heap.size w wr)
  case atStart => exact ⟨0, 0, by omega, Nat.zero_le _, rfl, rfl, by simp [tot], by simp, Below.refl _ _⟩
  case round =>
    obtain ⟨i, s, hif, hi, rfl, rfl, hs, hok, hb⟩ := hrel
    have HS := Lib.hid hs
    have HOK := Lib.hid hok
    have hsb : s ≤ 67108864 := by
      have h1 := tot_small (rs := rs.take i) fun r hr => okR_len (hok r hr)
      rw [List.length_take] at h1
      have h2 : min i rs.length * 64 ≤ 1048576 * 64 := Nat.mul_le_mul_right _ (by omega)
      omega
    clear hs hok
    by_cases hlt : i < rs.length
    · have q1 : (i : Int) < (rs.length : Int) := by omega
      obtain ⟨b, off, rfl, Ar, cr, hcell, hrc, hcm, hrr⟩ := (hr.below hb).cell (i := i) hlt
      have HT := Lib.hid (tot_take_succ rs hlt)
      have HM := Lib.hid (List.take_succ_eq_append_getElem hlt)
      have HN := Lib.hid (fun h => okRs_not hlt h)
      have hlen := hrl _ (List.getElem_mem hlt)
      have HA := Lib.hid (asc_impl Ar cr rs[i] wr hlen hrr)
      generalize rs[i] = r at hcell hrc hrr HT HM HN hlen HA
      cases hv : okR r with
      | false =>
        rw [hv] at HA
        have HR := Lib.hid (HN.out hv)
        clear hv
        go_wp2_with fail
        (with_reducible refine HA.out.mono ?_)
        rintro e w1 ⟨rfl, hb1⟩
        have hb2 := below_at hb hb.size hb1
        go_wp2
        go_ret
        exact ⟨ret_bool HR.out.symm, hb2⟩
      | true =>
        rw [hv] at HA
        have hr64 := okR_len hv
        have HV := Lib.hid hv
        clear hv
        go_wp2_with fail
        (with_reducible refine HA.out.mono ?_)
        rintro e w1 ⟨rfl, hb1⟩
        have hb2 := below_at hb hb.size hb1
        go_wp2
        go_roundg (gk - 1)
        case measure => omega
        case rel => exact ⟨i + 1, s + r.length, by omega, by omega, by go_num, by go_num, by rw [HT.out, HS.out], fun r' hr' => by
          rw [HM.out] at hr'
          rcases List.mem_append.1 hr' with h | h
          · exact HOK.out r' h
          · obtain rfl := List.mem_singleton.1 h
            exact HV.out, hb2⟩
    · have HR := Lib.hid (show okRs rs = decide ((s : Int) ≤ 64) from by
        have e : rs.take i = rs := List.take_of_length_le (by omega)
        have h1 := HS.out
        have h2 := HOK.out
        rw [e] at h1 h2
        have h3 : rs.all okR = true := List.all_eq_true.2 h2
        rw [okRs, h3, Bool.true_and, h1]
        exact decide_eq_decide.2 (by omega))
      go_wp2
      go_ret
      exact ⟨ret_bool (by rw [HR.out]), hb⟩
/-- what a pass hands on: the row of runs, and what is still to be merged -/
def Left (W : Nat) (rs : List (List Rec)) (i : Nat) (done : List (List Rec)) (cmp : Nat) : Prop := ∃ f, (rs.drop i).length ≤ f ∧ done ++ (mp W f (rs.drop i)).1 = (mp W rs.length rs).1 ∧ cmp + (mp W f (rs.drop i)).2 = (mp W rs.length rs).2
theorem left_start (W : Nat) (rs : List (List Rec)) : Left W rs 0 [] 0 := ⟨rs.length, by simp, by simp, by simp⟩
theorem left_step {W : Nat} {rs : List (List Rec)} {i : Nat} {done : List (List Rec)} {cmp : Nat} (h0 : 0 < W) (h : Left W rs i done cmp) (hi : i < rs.length) : Left W rs (i + W) (done ++ [(km (tot ((rs.drop i).take W)) ((rs.drop i).take W)).1]) (cmp + (((rs.drop i).take W).length - 1 + (km (tot ((rs.drop i).take W)) ((rs.drop i).take W)).2)) := by
  obtain ⟨f, hf, h1, h2⟩ := h
  have hl : 0 < (rs.drop i).length := by rw [List.length_drop]; omega
  cases f with
  | zero => omega
  | succ f =>
    rw [mp_step hl] at h1 h2
    refine ⟨f, ?_, ?_, ?_⟩
    · rw [List.length_drop] at hf ⊢; omega
    · rw [← h1, List.drop_drop, List.append_assoc]; rfl
    · rw [List.drop_drop] at h2
      omega
theorem left_end {W : Nat} {rs : List (List Rec)} {i : Nat} {done : List (List Rec)} {cmp : Nat} (h : Left W rs i done cmp) (hi : rs.length ≤ i) : done = (mp W rs.length rs).1 ∧ cmp = (mp W rs.length rs).2 := by
  obtain ⟨f, _, h1, h2⟩ := h
  rw [List.drop_eq_nil_of_le hi, mp_end] at h1 h2
  exact ⟨by simpa using h1, by simpa using h2⟩
theorem left_bd {W : Nat} {rs : List (List Rec)} {i : Nat} {done : List (List Rec)} {cmp : Nat} (h0 : 0 < W) (hW : W ≤ 16) (h : Left W rs i done cmp) (hn : rs.length ≤ 1048576) (ht : tot rs ≤ 1048576) : cmp ≤ 1090519040 ∧ done.length ≤ 1048576 := by
  obtain ⟨f, _, h1, h2⟩ := h
  have h3 := mp_cost h0 hW rs.length rs
  have h4 := mp_len W rs.length rs
  rw [← h1, List.length_append] at h4
  omega
theorem take_cut {rs : List (List Rec)} {i W : Nat} (h : rs.length < i + W) (hi : i ≤ rs.length) : (rs.drop i).take (rs.length - i) = (rs.drop i).take W := by
  rw [List.take_of_length_le (by rw [List.length_drop]; omega), List.take_of_length_le (by rw [List.length_drop]; omega)]
theorem tot_part (rs : List (List Rec)) (i W : Nat) : tot ((rs.drop i).take W) ≤ tot rs := by
  have h1 := tot_cut rs i
  have h2 := tot_cut (rs.drop i) W
  omega
set_option maxRecDepth 100000 in
set_option maxHeartbeats 2000000 in
theorem pass_any (A : Option Addr) (c : Nat) (vs : List Value) (rs : List (List Rec)) (W : Nat) (w : World) (hW2 : 2 ≤ W) (hW16 : W ≤ 16) (hn : rs.length ≤ 1048576) (htot : tot rs ≤ 1048576) (hnc : rs.length ≤ c) (hcm : c ≤ maxLen) (hr : RdL_rec w A vs rs) :
    Calls Try.prog 79 #[.slice A rs.length c, .int .i64 (W : Int)] w fun e w' => ∃ v, e = .returned (.tuple #[v, .int .i64 ((mp W rs.length rs).2 : Nat)]) ∧ OwnT w w' v (mp W rs.length rs).1 ∧ Below w.heap.size w w' := by
  have HO1 := Lib.hid (World.ownsRow_made (base := w.heap.size) (e := 54) (size := 1) w #[] 0 (Nat.le_refl _) (Nat.zero_le _) (by simp))
  have HB1 := Lib.hid ((Below.refl w.heap.size w).alloc (Nat.le_refl _) (.cells #[] 54))
  unfold maxLen at hcm
  go_enter Try.func79, Try.ntmps79
  go_wp2
  go_loopg [6, 7, 8] (rs.length + 1) (fun f o x y wr => ∃ (i cmp : Nat) (vo : List Value) (done : List (List Rec)), rs.length < i + f ∧ i ≤ rs.length + 16 ∧ y = .int .i64 (i : Int) ∧ x = .int .i64 (cmp : Int) ∧ Left W rs i done cmp ∧ NL_rec wr w.heap.size o vo done ∧ Below w.heap.size w wr)
  case atStart => exact ⟨0, 0, [], [], by omega, by omega, rfl, rfl, left_start W rs, nl_made_rec HO1.out, HB1.out⟩
  case round =>
    obtain ⟨i, cmp, vo, done, hif, hi, rfl, rfl, hl, ho, hb⟩ := hrel
    have hbd := left_bd (by omega) hW16 hl hn htot
    have HL := Lib.hid hl
    have HO := Lib.hid ho
    clear hl ho
    by_cases hlt : i < rs.length
    · have q1 : (i : Int) < (rs.length : Int) := by omega
      have HST := Lib.hid (left_step (by omega) HL.out hlt)
      have hgl : ((rs.drop i).take W).length ≤ 16 ∧ 0 < ((rs.drop i).take W).length := by rw [List.length_take, List.length_drop]; omega
      have htp := tot_part rs i W
      have hcost := km_cost (tot ((rs.drop i).take W)) ((rs.drop i).take W) hgl.2 (by omega)
      have hkl := km_len (tot ((rs.drop i).take W)) ((rs.drop i).take W)
      have htc := Nat.mul_le_mul_right 1024 (Nat.le_trans htp htot)
      have HKW : ∃ (m hi : Nat), i + m = hi ∧ hi ≤ rs.length ∧ (rs.drop i).take m = (rs.drop i).take W ∧ ((rs.drop i).take W).length = m ∧ ((if (rs.length : Int) < (i : Int) + (W : Int) then (rs.length : Int) else (i : Int) + (W : Int)) = (hi : Int)) := by
        by_cases h : rs.length < i + W
        · exact ⟨rs.length - i, rs.length, by omega, by omega, take_cut h (by omega), by rw [List.length_take, List.length_drop]; omega, by rw [if_pos (by omega)]⟩
        · exact ⟨W, i + W, rfl, by omega, rfl, by rw [List.length_take, List.length_drop]; omega, by rw [if_neg (by omega)]; omega⟩
      obtain ⟨m, hiN, hm1, hm2, hm3, hm4, hm5⟩ := HKW
      have HK := Lib.hid (show Calls Try.prog 84 #[.slice (cutA A c i 1) m (c - i)] wr fun e w' => ∃ v, e = .returned (.tuple #[v, .int .i64 ((((rs.drop i).take W).length - 1 + (km (tot ((rs.drop i).take W)) ((rs.drop i).take W)).2 : Nat) : Int)]) ∧ OwnRec wr w' v (km (tot ((rs.drop i).take W)) ((rs.drop i).take W)).1 ∧ Below wr.heap.size wr w' from by
        have h := kway_any (cutA A c i 1) (c - i) ((vs.drop i).take m) ((rs.drop i).take W) wr hgl.2 (by omega) (by omega) (by rw [← hm3]; exact rdl_cut (hr.below hb) (by omega) hnc)
        rw [hm4] at h ⊢
        exact h)
      have hsl : ∀ X : World, (Instr.slice 47 (.slice A rs.length c) (some (.int .i64 (i : Int))) (some (.int .i64 (if (rs.length : Int) < (i : Int) + (W : Int) then (rs.length : Int) else (i : Int) + (W : Int)))) none).run Try.prog X = .ok (.slice (cutA A c i 1) m (c - i)) X := fun X => by
        have h := run_cut (P := Try.prog) 47 54 _ 1 24 Try.underlying47 info_recS A rs.length c i hiN (i : Int) (if (rs.length : Int) < (i : Int) + (W : Int) then (rs.length : Int) else (i : Int) + (W : Int)) rfl hm5 (by omega) (by omega) X
        rw [show hiN - i = m by omega] at h
        exact h
      have hadd : IntKind.i64.wrap ((i : Int) + (W : Int)) = (i : Int) + (W : Int) := IntWalk.i64_in _ (by omega)
      have hcn : ((rs.drop i).take W).length - 1 + (km (tot ((rs.drop i).take W)) ((rs.drop i).take W)).2 ≤ 1073741840 := by omega
      generalize ((rs.drop i).take W).length - 1 + (km (tot ((rs.drop i).take W)) ((rs.drop i).take W)).2 = cn at HST HK hcn
      generalize (km (tot ((rs.drop i).take W)) ((rs.drop i).take W)).1 = G at HST HK hkl
      clear hcost htc hm1 hm2 hm3 hm4 hm5 htp hgl hkl
      go_wp2_with fail
      all_goals
        (with_reducible refine HK.out.mono ?_)
        rintro e w2 ⟨v2, rfl, ⟨ho2, hG⟩, hb2⟩
        have hapt := nl_apart_rec HO.out (own_ge ho2)
        have HXA := Lib.hid hapt
        have HO2 := Lib.hid (nl_below_rec HO.out hb2)
        obtain ⟨A2, c2, rfl, _, _, _⟩ := own_form ho2
        have HX := Lib.hid (own_base ho2 hb.size)
        have hbr : Below w.heap.size w w2 := below_at hb hb.size hb2
        have hbs := hbr.size
        have hnl : done.length ≤ 1099511627776 := by omega
        have htop := HO2.out.top
        clear hapt ho2 hb2
        go_wp2_with (at_builtin; refine mem.push_at _ rfl _ _ 47 rfl w.heap.size 54 _ 1 24 Try.underlying47 info_recS rfl Nat.one_pos _ _ _ rfl htop [.slice A2 G.length c2] _ rfl (one_row _ _ _) rfl hnl (by decide) hbs ?_; intro v' w' ho' hg' hnw')
        have HN := Lib.hid (nl_push_rec HO2.out HX.out HXA.out.1 HXA.out.2 ho' hg' hnw')
        have hb4 := below_push hbr hbs hg' htop
        clear ho' hg' hnw' htop
        go_wp2
        go_roundg (gk - 1)
        case measure => omega
        case rel => exact ⟨i + W, cmp + cn, _, done ++ [G], by omega, by omega, by go_num, by go_num, HST.out, HN.out, hb4⟩
    · have HE := Lib.hid (left_end HL.out (by omega))
      go_wp2
      go_ret2
      refine ⟨_, by rw [HE.out.2]; rfl, ⟨⟨vo, by rw [← HE.out.1]; exact HO.out⟩, by rw [← HE.out.1]; exact hbd.2, Nat.le_trans (mp_tot W _ _) htot⟩, hb⟩
theorem own_none (w : World) : OwnT w w (.slice none 0 0) [] := ⟨⟨[], nl_nil_rec _ _⟩, by simp, by simp [tot]⟩
set_option maxRecDepth 100000 in
set_option maxHeartbeats 2000000 in
theorem merge_impl (A : Option Addr) (c : Nat) (vs : List Value) (rs : List (List Rec)) (ways : Int) (w : World) (hk : rs.length + tot rs ≤ 1048576) (hnc : rs.length ≤ c) (hcm : c ≤ maxLen) (hr : RdL_rec w A vs rs) :
    Calls Try.prog 41 #[.slice A rs.length c, .int .i64 ways] w fun e w' => ∃ v, e = .returned (.tuple #[v, .int .i64 (cmpP rs ways), .bool (okP rs ways)]) ∧ OwnT w w' v (resP rs ways) ∧ Below w.heap.size w w' := by
  have HL := Lib.hid (lists_any A c vs rs w (by omega) (fun r h => by have := mem_tot h; omega) hr)
  have HIN := Lib.hid (fun W => ins.impl_any ways 2 16 W)
  cases hi : inB ways 2 16 with
  | false =>
    have HR := Lib.hid (show okP rs ways = false ∧ resP rs ways = [] ∧ cmpP rs ways = 0 by simp [okP, resP, cmpP, hi])
    rw [hi] at HIN
    clear hi
    go_enter Try.func41, Try.ntmps41
    go_wp2_with fail
    (with_reducible refine (HIN.out _).mono ?_)
    rintro e w1 ⟨rfl, rfl⟩
    go_wp2
    go_ret3
    exact ⟨_, by rw [HR.out.1, HR.out.2.2]; rfl, by rw [HR.out.2.1]; exact own_none _, Below.refl _ _⟩
  | true =>
    have hw := inB_iff.1 hi
    rw [hi] at HIN
    cases hv : okRs rs with
    | false =>
      have HR := Lib.hid (show okP rs ways = false ∧ resP rs ways = [] ∧ cmpP rs ways = 0 by simp [okP, resP, cmpP, hi, hv])
      rw [hv] at HL
      clear hi hv
      go_enter Try.func41, Try.ntmps41
      go_wp2_with fail
      (with_reducible refine (HIN.out _).mono ?_)
      rintro e w1 ⟨rfl, rfl⟩
      go_wp2_with fail
      (with_reducible refine HL.out.mono ?_)
      rintro e w1 ⟨rfl, hb1⟩
      have HON := Lib.hid (show OwnT w w1 (.slice none 0 0) [] from ⟨⟨[], nl_nil_rec _ _⟩, by simp, by simp [tot]⟩)
      go_wp2
      go_ret3
      exact ⟨_, by rw [HR.out.1, HR.out.2.2]; rfl, by rw [HR.out.2.1]; exact HON.out, hb1⟩
    | true =>
      have HR := Lib.hid (show okP rs ways = true ∧ resP rs ways = (mp ways.toNat rs.length rs).1 ∧ cmpP rs ways = ((mp ways.toNat rs.length rs).2 : Nat) by simp [okP, resP, cmpP, hi, hv])
      rw [hv] at HL
      obtain ⟨W, rfl⟩ : ∃ W : Nat, ways = (W : Int) := ⟨ways.toNat, by omega⟩
      have HPS := Lib.hid (fun (X : World) (hx : Below w.heap.size w X) => pass_any A c vs rs W X (by omega) (by omega) (by omega) (by omega) hnc hcm (hr.below hx))
      clear hi hv
      go_enter Try.func41, Try.ntmps41
      go_wp2_with fail
      (with_reducible refine (HIN.out _).mono ?_)
      rintro e w1 ⟨rfl, rfl⟩
      go_wp2_with fail
      (with_reducible refine HL.out.mono ?_)
      rintro e w1 ⟨rfl, hb1⟩
      go_wp2_with fail
      (with_reducible refine (HPS.out _ hb1).mono ?_)
      rintro e w2 ⟨v2, rfl, ⟨⟨vs2, ho2⟩, ht2, ht3⟩, hb2⟩
      have hb3 := below_step hb1 hb2
      have HF := Lib.hid (show OwnT w w2 v2 (mp W rs.length rs).1 from ⟨⟨vs2, nl_base_rec ho2 hb1.size⟩, ht2, ht3⟩)
      clear ho2 ht2 ht3
      go_wp2
      go_ret3
      exact ⟨_, by rw [HR.out.1, HR.out.2.2]; rfl, by rw [HR.out.2.1]; exact HF.out, hb3⟩
end Go.Proofs.Ytgffabjajbgbjaa.pas
