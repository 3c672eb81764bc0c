/- DistinctStable, the program's and the reference's. Condition: at most 2^20 elements. -/
import Derived.Test.YtgngoedooemboaaDst
import Derived.Test.YtgngoedooemboaaCut
set_option linter.unusedVariables false
set_option linter.unusedSimpArgs false
namespace Go.Proofs.Ytgngoedooemboaa.distinct
open Go.RowKit Go.Proofs.Ytgngoedooemboaa.mem Go.Proofs.Ytgngoedooemboaa.srt Go.Proofs.Ytgngoedooemboaa.lists

theorem far_of {v : Value} {g m n c : Nat} (h : v.ownBlock = none ∨ v.ownBlock ≠ (Value.slice (some ⟨g, 0, none⟩) n c).ownBlock) : v.ownBlock ≠ some (⟨g, m, none⟩ : Addr).block := by
  rcases h with h | h
  · rw [h]; simp
  · exact h
def cnts (zs o : List Int) (k : Nat) : List Int := (o.take k).map fun x => ((zs.count x : Nat) : Int)
theorem cnts_step (zs : List Int) {o : List Int} {k : Nat} (h : k < o.length) : cnts zs o (k + 1) = cnts zs o k ++ [((zs.count o[k] : Nat) : Int)] := by
  rw [cnts, List.take_succ_eq_append_getElem h, List.map_append]; rfl
theorem cnts_len (zs o : List Int) {k : Nat} (h : k ≤ o.length) : (cnts zs o k).length = k := by simp [cnts]; omega
def resA (zs : List Int) : List Int := if vlist zs = true then dst zs else []
def resB (zs : List Int) : List Int := if vlist zs = true then tms zs else []
theorem dst_le (zs : List Int) : (dst zs).length ≤ zs.length := by
  have := dst_len zs zs.length
  rwa [List.take_length] at this
theorem has_ix {l : List Int} {x : Int} : (ix l x = -1 ∧ x ∉ l) ∨ ∃ m : Nat, ix l x = (m : Int) ∧ m < l.length ∧ l[m]? = some x := by
  by_cases h : x ∈ l
  · exact Or.inr (ix_some h)
  · exact Or.inl ⟨ix_none h, h⟩
set_option maxRecDepth 100000 in
set_option maxHeartbeats 2000000 in
theorem implT_any (A : Option Addr) (c : Nat) (zs : List Int) (w : World) (hn : zs.length ≤ 1048576) (hr : Rd w 1 A zs.length (ints zs)) :
    Calls Try.prog 21 #[.slice A zs.length c] w fun e w' => ∃ v u, e = .returned (.tuple #[v, u, .bool (vlist zs)]) ∧ OwnI w w' v (resA zs) ∧ OwnI w w' u (resB zs) ∧ (v.ownBlock = none ∨ v.ownBlock ≠ u.ownBlock) ∧ Below w.heap.size w w' := by
  have HV := Lib.hid (lists.impl_any A c zs w hn hr)
  cases hv : vlist zs with
  | false =>
    have HR := Lib.hid (show resA zs = [] ∧ resB zs = [] by simp [resA, resB, hv])
    rw [hv] at HV
    clear hv
    go_enter Try.func21, Try.ntmps21
    go_wp2_with fail
    refine HV.out.mono ?_
    rintro e w1 ⟨rfl, hb1⟩
    go_wp2
    go_ret3
    exact ⟨_, _, rfl, ⟨by rw [HR.out.1]; exact World.ownsRow_nil _ _ _ _, by rw [HR.out.1]; simp⟩, ⟨by rw [HR.out.2]; exact World.ownsRow_nil _ _ _ _, by rw [HR.out.2]; simp⟩, Or.inl rfl, hb1⟩
  | true =>
    have HR := Lib.hid (show resA zs = dst zs ∧ resB zs = tms zs by simp [resA, resB, hv])
    have HL := Lib.hid (And.intro (Nat.le_trans (dst_le zs) hn) (tms_len zs))
    rw [hv] at HV
    clear hv
    go_enter Try.func21, Try.ntmps21
    go_wp2_with fail
    refine HV.out.mono ?_
    rintro e w1 ⟨rfl, hb1⟩
    have HO1 := Lib.hid (World.ownsRow_made (e := 3) (size := 1) w1 #[] 0 (Nat.le_refl _) (Nat.zero_le _) (by simp))
    have HO2 := Lib.hid (own_made2 w1 3 1)
    have HBX := Lib.hid (box2 w1 3 3 #[] #[])
    have HB1 := Lib.hid hb1
    have hr1 := hr.below hb1
    clear hr hb1
    go_wp2
    go_loopg [5, 6, 17] (zs.length + 1) (fun f v u i wr => ∃ (k : Nat), zs.length < k + f ∧ k ≤ zs.length ∧ i = .int .i64 (k : Int) ∧ wr.ownsRow w1.heap.size 3 1 v (dst (zs.take k)).length (ints (dst (zs.take k))) ∧ wr.ownsRow w1.heap.size 3 1 u (dst (zs.take k)).length (ints (tms (zs.take k))) ∧ (v.ownBlock = none ∨ v.ownBlock ≠ u.ownBlock) ∧ Below w1.heap.size w1 wr)
    case atStart => exact ⟨0, by omega, by omega, rfl, own_below HO1.out ((Below.refl _ _).alloc (Nat.le_refl _) _), HO2.out, Or.inr (by simp [Value.ownBlock]), HBX.out.2.2⟩
    case round =>
      obtain ⟨k, hkf, hk, rfl, hov, hou, hap, hb⟩ := hrel
      have hdl := dst_len zs k
      by_cases hlt : k < zs.length
      · have HT := Lib.hid (List.take_succ_eq_append_getElem hlt)
        obtain ⟨b, off, rfl, hx⟩ := (hr1.below hb).int hlt
        generalize zs[k] = x at HT hx
        have HN := Lib.hid (fun (h : x ∉ dst (zs.take k)) => tms_new h)
        have HD := Lib.hid (fun (m : Nat) (h : (dst (zs.take k))[m]? = some x) => tms_old h)
        have htl := tms_len (zs.take k)
        have htb := tms_bound (zs.take k)
        have hzk : (zs.take k).length ≤ k := List.length_take_le _ _
        rw [← HT.out] at HN HD
        generalize dst (zs.take k) = o at hov hou hdl HN HD htl
        generalize tms (zs.take k) = t at hou HN HD htl htb
        obtain ⟨A1, c1, rfl, hc1, hc1m, hr2⟩ := own_form hov
        obtain ⟨A2, c2, rfl, hc2, hc2m, hr3⟩ := own_form hou
        have HIX := Lib.hid (index_any A1 c1 o x wr (by omega) hr2)
        have hbw := hb.size
        have hh : o.length ≤ 1099511627776 := by omega
        have q1 : (k : Int) < (zs.length : Int) := by omega
        rcases (has_ix (l := o) (x := x)) with ⟨hix, hnot⟩ | ⟨m, hix, hm, hat⟩
        · have HN2 := Lib.hid (HN.out hnot)
          rw [hix] at HIX
          have HH := Lib.hid (And.intro hov (And.intro hou (And.intro hap hb)))
          clear hix hnot htb htl hr2 hr3 hov hou hap hb
          have ho1 := HH.out.1
          have ho2 := HH.out.2.1
          go_wp2_with fail
          refine HIX.out.mono ?_
          rintro e w2 ⟨rfl, rfl⟩
          go_wp2_with (first
            | ((at_builtin; refine mem.push_at _ rfl _ _ 29 rfl w1.heap.size 3 _ 1 8 Try.underlying29 mem.info_int rfl Nat.one_pos (.slice A1 o.length c1) _ _ rfl ho1 (ints [x]) _ rfl (mem.ints_one [x]) rfl hh (by decide) hbw ?_; intro v' w' ho' hg' hnw'); have hoa := ho'; have hga := hg'; have hna := hnw'; have hbv := hga.size; have hob := ho2.kept hga (apt_symm HH.out.2.2.1); have hbz := Nat.le_trans hbw hbv; clear ho' hg' hnw')
            | (at_builtin; refine mem.push_at _ rfl _ _ 29 rfl w1.heap.size 3 _ 1 8 Try.underlying29 mem.info_int rfl Nat.one_pos (.slice A2 o.length c2) _ _ rfl hob (ints [(1 : Int)]) _ rfl (mem.ints_one [(1 : Int)]) rfl hh (by decide) hbz ?_; intro v' w' ho' hg' hnw'))
          have ap1 := apt_new HH.out.2.2.1 hna (own_lt HH.out.2.1)
          have ap2 := apt_symm (apt_new (apt_symm ap1) hnw' (own_lt hoa))
          have hoc := hoa.kept hg' ap1
          have hb3 := below_push HH.out.2.2.2 hbw hga HH.out.1
          have hb4 := below_push hb3 hb3.size hg' hob
          have HALL := Lib.hid (And.intro hoc (And.intro ho' (And.intro ap2 hb4)))
          clear hoc ho' ap2 hb4 hb3 ap1 hoa hob hga hna hnw' hg'
          go_wp2
          go_roundg (gk - 1)
          case measure => omega
          case rel => exact ⟨k + 1, by omega, by omega, by go_num, by rw [HN2.out.1, List.length_append, ints_app]; exact HALL.out.1, by rw [HN2.out.1, HN2.out.2, List.length_append, ints_app]; exact HALL.out.2.1, HALL.out.2.2.1, HALL.out.2.2.2⟩
        · have HD2 := Lib.hid (HD.out m hat)
          rw [hix] at HIX
          obtain ⟨g2, rfl, hg2a, hg2b⟩ := own_addr hou (by omega)
          have hmt : m < t.length := by omega
          have hcell := own_cell hou (mem.ints_getD t m hmt)
          have hfz := own_thaw hou m
          have hbd := htb m
          have hput := own_put hou (i := m) (by rw [len_ints]; exact hmt) (.int .i64 (t.getD m 0 + 1))
          rw [mem.ints_set] at hput
          have hb3 := hb.setCell (p := ⟨g2, m, none⟩) hg2a (.int .i64 (t.getD m 0 + 1))
          have hof := own_far hov (p := ⟨g2, m, none⟩) (far_of hap) (.int .i64 (t.getD m 0 + 1))
          have HALL := Lib.hid (And.intro hof (And.intro hput (And.intro hap hb3)))
          have HMM := Lib.hid hm
          generalize t.getD m 0 = y at hcell hbd HALL HD2
          have q2 : (m : Int) < (o.length : Int) := by omega
          have q3 : ¬ (m : Int) < 0 := by omega
          clear hix hat hov hou hap hb hput hof hb3 hr2 hr3 htb htl hmt
          go_wp2_with fail
          refine HIX.out.mono ?_
          rintro e w2 ⟨rfl, rfl⟩
          go_wp2
          go_roundg (gk - 1)
          case measure => omega
          case rel => exact ⟨k + 1, by omega, by omega, by go_num, by rw [HD2.out.1]; exact HALL.out.1, by rw [HD2.out.1, HD2.out.2]; exact HALL.out.2.1, HALL.out.2.2.1, HALL.out.2.2.2⟩
      · obtain rfl : k = zs.length := by omega
        rw [List.take_length] at hov hou
        have HALL := Lib.hid (And.intro (own_base hov HB1.out.size) (And.intro (own_base hou HB1.out.size) (And.intro hap (below_step HB1.out hb))))
        clear hov hou hap hb
        go_wp2
        go_ret3
        exact ⟨_, _, rfl, ⟨by rw [HR.out.1]; exact HALL.out.1, by rw [HR.out.1]; exact HL.out.1⟩, ⟨by rw [HR.out.2, HL.out.2]; exact HALL.out.2.1, by rw [HR.out.2, HL.out.2]; exact HL.out.1⟩, HALL.out.2.2.1, HALL.out.2.2.2⟩
set_option maxRecDepth 100000 in
set_option maxHeartbeats 2000000 in
theorem specT_any (A : Option Addr) (c : Nat) (zs : List Int) (w : World) (hn : zs.length ≤ 1048576) (hr : Rd w 1 A zs.length (ints zs)) :
    Calls Try.prog 19 #[.slice A zs.length c] w fun e w' => ∃ v u, e = .returned (.tuple #[v, u, .bool (vlist zs)]) ∧ OwnI w w' v (resA zs) ∧ OwnI w w' u (resB zs) ∧ (v.ownBlock = none ∨ v.ownBlock ≠ u.ownBlock) ∧ Below w.heap.size w w' := by
  have HV := Lib.hid (fun W h => lists.spec_any A c zs W hn h)
  have HO1 := Lib.hid (World.ownsRow_made (e := 3) (size := 1) w #[] 0 (Nat.le_refl _) (Nat.zero_le _) (by simp))
  have hb0 : Below w.heap.size w (w.alloc (.cells #[] 3)) := (Below.refl _ _).alloc (Nat.le_refl _) _
  have HB0 := Lib.hid hb0
  have HR0 := Lib.hid (hr.below hb0)
  clear hb0
  cases hv : vlist zs with
  | false =>
    have HR := Lib.hid (show resA zs = [] ∧ resB zs = [] by simp [resA, resB, hv])
    have HO2 := Lib.hid (own_made2 w 3 1)
    have HBX := Lib.hid (box2 w 3 3 #[] #[])
    rw [hv] at HV
    clear hv
    go_enter Try.func19, Try.ntmps19
    go_wp2_with fail
    refine (HV.out _ HR0.out).mono ?_
    rintro e w1 ⟨rfl, rfl⟩
    go_wp2
    go_ret3
    exact ⟨_, _, rfl, ⟨by rw [HR.out.1]; exact HO2.out, by rw [HR.out.1]; simp⟩, ⟨by rw [HR.out.2]; exact own_below HO1.out ((Below.refl _ _).alloc (Nat.le_refl _) _), by rw [HR.out.2]; simp⟩, Or.inr (by simp [Value.ownBlock]), HBX.out.2.2⟩
  | true =>
    have HR := Lib.hid (show resA zs = dst zs ∧ resB zs = tms zs by simp [resA, resB, hv])
    have HL := Lib.hid (And.intro (Nat.le_trans (dst_le zs) hn) (tms_len zs))
    rw [hv] at HV
    clear hv
    go_enter Try.func19, Try.ntmps19
    go_wp2_with fail
    refine (HV.out _ HR0.out).mono ?_
    rintro e w1 ⟨rfl, rfl⟩
    go_wp2_with fail
    refine (dist_any A c zs _ hn HR0.out).mono ?_
    rintro e w2 ⟨v, rfl, hov, hb2⟩
    obtain ⟨A1, c1, rfl, hc1, hc1m, hr1⟩ := own_form hov
    have HT0 := Lib.hid (show w2.ownsRow w.heap.size 3 1 (.slice (some ⟨w.heap.size, 0, none⟩) 0 0) 0 [] from own_below HO1.out hb2)
    have HB2 := Lib.hid (below_step HB0.out hb2)
    have hw01 : (w.alloc (.cells #[] 3)).heap.size = w.heap.size + 1 := by simp
    rw [hw01] at hov
    have HOV := Lib.hid hov
    have HRZ := Lib.hid (HR0.out.below hb2)
    have HDL := Lib.hid (Nat.le_trans (dst_le zs) hn)
    have HTM := Lib.hid (show tms zs = cnts zs (dst zs) (dst zs).length by rw [cnts, List.take_length]; rfl)
    have hdb := Nat.le_trans (dst_le zs) hn
    generalize dst zs = o at hr1 HOV HDL HTM HR HL hc1 hdb
    have hap0 : (Value.slice A1 o.length c1).ownBlock = none ∨ (Value.slice A1 o.length c1).ownBlock ≠ (Value.slice (some ⟨w.heap.size, 0, none⟩) 0 0).ownBlock := by
      cases h : (Value.slice A1 o.length c1).ownBlock with
      | none => exact Or.inl rfl
      | some g =>
        right
        have := (HOV.out.lt g h).1
        simp [Value.ownBlock]; omega
    have HAP := Lib.hid hap0
    clear hov hw01 hb2 hr1 hap0
    go_wp2
    go_loopg [5, 7] (o.length + 1) (fun f u i wr => ∃ (k : Nat), o.length < k + f ∧ k ≤ o.length ∧ i = .int .i64 (k : Int) ∧ wr.ownsRow w.heap.size 3 1 u k (ints (cnts zs o k)) ∧ wr.ownsRow (w.heap.size + 1) 3 1 (.slice A1 o.length c1) o.length (ints o) ∧ ((Value.slice A1 o.length c1).ownBlock = none ∨ (Value.slice A1 o.length c1).ownBlock ≠ u.ownBlock) ∧ Below w.heap.size w wr)
    case atStart => exact ⟨0, by omega, by omega, rfl, HT0.out, HOV.out, HAP.out, HB2.out⟩
    case round =>
      obtain ⟨k, hkf, hk, rfl, hou, hov, hap, hb⟩ := hrel
      by_cases hlt : k < o.length
      · obtain ⟨b1, off1, rfl, hy⟩ := (own_rd hov).int hlt
        have HS := Lib.hid (cnts_step zs hlt)
        have HTI := Lib.hid (fun x => times_any A c zs x wr hn (hr.below hb))
        have hbw := hb.size
        have hh : k ≤ 1099511627776 := by omega
        generalize o[k] = x at hy HS
        obtain ⟨A2, c2, rfl, hc2, hc2m, hr3⟩ := own_form hou
        have HH := Lib.hid (And.intro hou (And.intro hov (And.intro hap hb)))
        have hc9 : ((zs.count x : Nat) : Int) ≤ 1048576 := by have := List.count_le_length (a := x) (l := zs); omega
        have HC9 := Lib.hid (HTI.out x)
        generalize ((zs.count x : Nat) : Int) = y at HS HC9 hc9
        have q1 : (k : Int) < (o.length : Int) := by omega
        have ho1 := HH.out.1
        clear hr3 hov hap hb hou
        go_wp2_with fail
        refine HC9.out.mono ?_
        rintro e w3 ⟨rfl, rfl⟩
        go_wp2_with (at_builtin; refine mem.push_at _ rfl _ _ 29 rfl w.heap.size 3 _ 1 8 Try.underlying29 mem.info_int rfl Nat.one_pos (.slice A2 k c2) _ _ rfl ho1 (ints [y]) _ rfl (mem.ints_one [y]) rfl hh (by decide) hbw ?_; intro v' w' ho' hg' hnw')
        have ap1 := apt_symm (apt_new (apt_symm HH.out.2.2.1) hnw' (own_lt HH.out.2.1))
        have hov2 := HH.out.2.1.kept hg' HH.out.2.2.1
        have hb4 := below_push HH.out.2.2.2 hbw hg' HH.out.1
        have HALL := Lib.hid (And.intro ho' (And.intro hov2 (And.intro ap1 hb4)))
        clear ho' hov2 ap1 hb4 hg' hnw' hc9
        go_wp2
        go_roundg (gk - 1)
        case measure => omega
        case rel => exact ⟨k + 1, by omega, by omega, by go_num, by rw [HS.out, ints_app]; exact HALL.out.1, HALL.out.2.1, HALL.out.2.2.1, HALL.out.2.2.2⟩
      · obtain rfl : k = o.length := by omega
        have HALL := Lib.hid (And.intro (own_base hov (Nat.le_succ _)) (And.intro hou (And.intro hap hb)))
        clear hov hou hap hb
        go_wp2
        go_ret3
        exact ⟨_, _, rfl, ⟨by rw [HR.out.1]; exact HALL.out.1, by rw [HR.out.1]; exact HL.out.1⟩, ⟨by rw [HR.out.2, HL.out.2, HTM.out]; exact HALL.out.2.1, by rw [HR.out.2, HL.out.2]; exact HL.out.1⟩, HALL.out.2.2.1, HALL.out.2.2.2⟩
end Go.Proofs.Ytgngoedooemboaa.distinct
