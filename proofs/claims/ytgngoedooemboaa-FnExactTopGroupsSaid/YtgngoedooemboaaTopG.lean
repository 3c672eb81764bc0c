/- TopGroups, the program's and the reference's. Condition: at most 2^20 groups. -/
import Derived.Test.YtgngoedooemboaaStbGrp
import Derived.Test.YtgngoedooemboaaCmpI
import Derived.Test.YtgngoedooemboaaVrec
import Derived.Test.YtgngoedooemboaaCopy
import Derived.Test.YtgngoedooemboaaGroupsS
set_option linter.unusedVariables false
set_option linter.unusedSimpArgs false
namespace Go.Proofs.Ytgngoedooemboaa.topG
open Go.RowKit Go.Proofs.Ytgngoedooemboaa.mem Go.Proofs.Ytgngoedooemboaa.stb Go.Proofs.Ytgngoedooemboaa.cmpI
open Go.Proofs.Ytgngoedooemboaa.ins (inB inB_iff)

def ltC (x y : Grp) : Bool := decide (y.count < x.count)
theorem weakC : Weak ltC := weak_down Grp.count
def T (zs : List Grp) (k : Nat) : List Grp := stab ltC (zs.take k)
theorem T_len (zs : List Grp) {k : Nat} (h : k ≤ zs.length) : (T zs k).length = k := by rw [T, stab_len, List.length_take]; omega
theorem T_step (zs : List Grp) {k : Nat} (h : k < zs.length) : T zs (k + 1) = insR ltC (T zs k) zs[k] := stab_take zs h
theorem ins_form (l : List Grp) (x : Grp) {p : Nat} (h : pos ltC x l l.length = p) : insR ltC l x = l.take p ++ ([x] ++ l.drop p) := by subst h; simp [insR]
def tp (zs : List Grp) (k : Nat) : List Grp := (stab ltC zs).take k
theorem tp_len (zs : List Grp) (k : Nat) : (tp zs k).length = min k zs.length := by rw [tp, List.length_take, stab_len]
theorem grps_take' (l : List Grp) (k : Nat) : (grps l).take (k * 5) = grps (l.take k) := (grps_take l k).symm
theorem grps_drop' (l : List Grp) (k : Nat) : (grps l).drop (k * 5) = grps (l.drop k) := (grps_drop l k).symm
def okTG (zs : List Grp) (k : Int) : Bool := groups.vgroups zs && inB k 1 16
def resG (zs : List Grp) (k : Int) : List Grp := if okTG zs k = true then tp zs k.toNat else []
theorem resG_len (zs : List Grp) (k : Int) : (resG zs k).length ≤ zs.length := by
  unfold resG; split
  · rw [tp_len]; omega
  · simp
set_option maxRecDepth 100000 in
set_option maxHeartbeats 1000000 in
theorem clo_any (a b : Grp) (w : World) : Calls Try.prog 75 #[.agg #[.int .i64 a.key, .int .i64 a.count, .int .i64 a.sum, .int .i64 a.least, .int .i64 a.most], .agg #[.int .i64 b.key, .int .i64 b.count, .int .i64 b.sum, .int .i64 b.least, .int .i64 b.most]] w fun e w' => e = .returned (.int .i64 (cmpI b.count a.count)) ∧ Below w.heap.size w w' := by
  have hbb : ∀ o o' : Obj, Below w.heap.size w ((w.alloc o).alloc o') := fun o o' => ((Below.refl _ _).alloc (Nat.le_refl _) o).alloc (by simp) o'
  have HB := Lib.hid hbb
  clear hbb
  go_enter Try.func75, Try.ntmps75
  go_wp2_with fail
  refine (compare_any _ _ _).mono ?_
  rintro e w1 ⟨rfl, rfl⟩
  go_wp2
  go_ret
  exact ⟨rfl, HB.out _ _⟩
set_option maxRecDepth 100000 in
set_option maxHeartbeats 8000000 in
theorem topG_impl (A : Option Addr) (c : Nat) (zs : List Grp) (k : Int) (w : World) (hn : zs.length ≤ 1048576) (hr : Rd w 5 A zs.length (grps zs)) :
    Calls Try.prog 36 #[.slice A zs.length c, .int .i64 k] w fun e w' => ∃ v, e = .returned (.tuple #[v, .bool (okTG zs k)]) ∧ OwnGrp w w' v (resG zs k) ∧ Below w.heap.size w w' := by
  have HV := Lib.hid (groups.impl_any A c zs w hn hr)
  have HL := Lib.hid (resG_len zs k)
  cases hv : groups.vgroups zs with
  | false =>
    have HR := Lib.hid (show okTG zs k = false ∧ resG zs k = [] by simp [okTG, resG, hv])
    rw [hv] at HV
    clear hv
    have HM := Lib.hid (fun (w : World) => World.ownsRow_made (e := 71) (size := 5) w #[] 0 (Nat.le_refl _) (Nat.zero_le _) (by simp))
    go_enter Try.func36, Try.ntmps36
    go_wp2_with fail
    refine HV.out.mono ?_
    rintro e w1 ⟨rfl, hb1⟩
    go_wp2
    go_ret2
    exact ⟨_, by rw [HR.out.1]; rfl, ⟨by rw [HR.out.2]; exact World.ownsRow_nil _ _ _ _, by rw [HR.out.2]; simp⟩, by first | exact hb1 | exact hb1.alloc hb1.size _⟩
  | true =>
    rw [hv] at HV
    cases hi : inB k 1 16 with
    | false =>
      have HR := Lib.hid (show okTG zs k = false ∧ resG zs k = [] by simp [okTG, resG, hv, hi])
      have HI := Lib.hid hi
      clear hv hi
      have HM := Lib.hid (fun (w : World) => World.ownsRow_made (e := 71) (size := 5) w #[] 0 (Nat.le_refl _) (Nat.zero_le _) (by simp))
      go_enter Try.func36, Try.ntmps36
      go_wp2_with fail
      refine HV.out.mono ?_
      rintro e w1 ⟨rfl, hb1⟩
      go_wp2_with fail
      refine (vrecs.itop_any _ _).mono ?_
      rintro e w2 ⟨rfl, rfl⟩
      rw [HI.out]
      go_wp2
      go_ret2
      exact ⟨_, by rw [HR.out.1]; rfl, ⟨by rw [HR.out.2]; exact World.ownsRow_nil _ _ _ _, by rw [HR.out.2]; simp⟩, by first | exact hb1 | exact hb1.alloc hb1.size _⟩
    | true =>
      obtain ⟨h1, h2⟩ := inB_iff.1 hi
      obtain ⟨kk, rfl⟩ : ∃ q : Nat, k = (q : Int) := ⟨k.toNat, by omega⟩
      have HR := Lib.hid (show okTG zs (kk : Int) = true ∧ resG zs (kk : Int) = tp zs kk by
        have : okTG zs (kk : Int) = true := by rw [okTG, hv, hi]; rfl
        exact ⟨this, by rw [resG, if_pos this, Int.toNat_natCast]⟩)
      have HI := Lib.hid hi
      clear hv hi
      go_enter Try.func36, Try.ntmps36
      go_wp2_with fail
      refine HV.out.mono ?_
      rintro e w1 ⟨rfl, hb1⟩
      go_wp2_with fail
      refine (vrecs.itop_any _ _).mono ?_
      rintro e w2 ⟨rfl, rfl⟩
      rw [HI.out]
      have HC := Lib.hid (copies.grp_any A c zs w1 hn (hr.below hb1))
      go_wp2_with fail
      refine HC.out.mono ?_
      rintro e w2 ⟨v1, rfl, ho1, hb2⟩
      have HS := Lib.hid (sortStable_grp w1.heap.size v1 75 #[] (fun a b => cmpI b.count a.count) ltC (fun x y => cmpI_neg _ _) weakC zs w2 (fun g _ => ⟨fun _ _ => rfl, fun x y W _ => clo_any x y W⟩) hn ho1)
      go_wp2_with fail
      refine HS.out.mono ?_
      rintro e w3 ⟨rfl, ho2, hg⟩
      have hb3 := below_push hb2 hb2.size hg ho1
      clear ho1 hg
      obtain ⟨A1, c1, rfl, hc1, hc1m, hr1⟩ := own_form ho2
      by_cases hkk : kk < zs.length
      · have hkz : (kk : Int) < (zs.length : Int) := by omega
        have hkz2 : (kk : Int) ≤ (zs.length : Int) := by omega
        have hru := fun W => run_upto (P := Try.prog) 25 71 _ 5 40 Try.underlying25 info_grp A1 zs.length c1 kk (kk : Int) rfl (by omega) W
        rw [cutA_zero] at hru
        have HO := Lib.hid (show w3.ownsRow w1.heap.size 71 5 (.slice A1 kk c1) (tp zs kk).length (grps (tp zs kk)) by
          have := own_lessN ho2 (k := kk) (by omega)
          rw [grps_take'] at this
          rw [tp_len, Nat.min_eq_left (by omega)]; exact this)
        clear ho2
        go_wp2
        go_ret2
        exact ⟨_, by rw [HR.out.1]; rfl, ⟨by rw [HR.out.2]; exact own_base HO.out hb1.size, Nat.le_trans HL.out hn⟩, below_step hb1 hb3⟩
      · have hkz : ¬ (kk : Int) < (zs.length : Int) := by omega
        have hru := fun W => run_upto (P := Try.prog) 25 71 _ 5 40 Try.underlying25 info_grp A1 zs.length c1 zs.length (zs.length : Int) rfl (by omega) W
        rw [cutA_zero] at hru
        have HO := Lib.hid (show w3.ownsRow w1.heap.size 71 5 (.slice A1 zs.length c1) (tp zs kk).length (grps (tp zs kk)) by
          rw [tp_len, Nat.min_eq_right (by omega), tp, List.take_of_length_le (by rw [stab_len]; omega)]; exact ho2)
        clear ho2
        by_cases he : kk = zs.length
        · subst he
          go_wp2
          go_ret2
          exact ⟨_, by rw [HR.out.1]; rfl, ⟨by rw [HR.out.2]; exact own_base HO.out hb1.size, Nat.le_trans HL.out hn⟩, below_step hb1 hb3⟩
        · have hkz3 : (zs.length : Int) < (kk : Int) := by omega
          have hkz4 : ¬ (kk : Int) ≤ (zs.length : Int) := by omega
          go_wp2
          go_ret2
          exact ⟨_, by rw [HR.out.1]; rfl, ⟨by rw [HR.out.2]; exact own_base HO.out hb1.size, Nat.le_trans HL.out hn⟩, below_step hb1 hb3⟩
set_option maxRecDepth 100000 in
set_option maxHeartbeats 8000000 in
theorem topG_spec (A : Option Addr) (c : Nat) (zs : List Grp) (k : Int) (w : World) (hn : zs.length ≤ 1048576) (hr : Rd w 5 A zs.length (grps zs)) :
    Calls Try.prog 35 #[.slice A zs.length c, .int .i64 k] w fun e w' => ∃ v, e = .returned (.tuple #[v, .bool (okTG zs k)]) ∧ OwnGrp w w' v (resG zs k) ∧ Below w.heap.size w w' := by
  have HV := Lib.hid (groups.spec_good A c zs w hn hr)
  have HL := Lib.hid (resG_len zs k)
  cases hv : groups.vgroups zs with
  | false =>
    have HR := Lib.hid (show okTG zs k = false ∧ resG zs k = [] by simp [okTG, resG, hv])
    rw [hv] at HV
    clear hv
    have HM := Lib.hid (fun (w : World) => World.ownsRow_made (e := 71) (size := 5) w #[] 0 (Nat.le_refl _) (Nat.zero_le _) (by simp))
    go_enter Try.func35, Try.ntmps35
    go_wp2_with fail
    refine HV.out.mono ?_
    rintro e w1 ⟨rfl, hb1⟩
    go_wp2
    go_ret2
    exact ⟨_, by rw [HR.out.1]; rfl, ⟨by rw [HR.out.2]; exact own_base (HM.out w1) hb1.size, by rw [HR.out.2]; simp⟩, by first | exact hb1 | exact hb1.alloc hb1.size _⟩
  | true =>
    rw [hv] at HV
    cases hi : inB k 1 16 with
    | false =>
      have HR := Lib.hid (show okTG zs k = false ∧ resG zs k = [] by simp [okTG, resG, hv, hi])
      have HI := Lib.hid hi
      clear hv hi
      have HM := Lib.hid (fun (w : World) => World.ownsRow_made (e := 71) (size := 5) w #[] 0 (Nat.le_refl _) (Nat.zero_le _) (by simp))
      go_enter Try.func35, Try.ntmps35
      go_wp2_with fail
      refine HV.out.mono ?_
      rintro e w1 ⟨rfl, hb1⟩
      go_wp2_with fail
      refine (ins.spec_any _ _ _ _).mono ?_
      rintro e w2 ⟨rfl, rfl⟩
      rw [HI.out]
      go_wp2
      go_ret2
      exact ⟨_, by rw [HR.out.1]; rfl, ⟨by rw [HR.out.2]; exact own_base (HM.out w1) hb1.size, by rw [HR.out.2]; simp⟩, by first | exact hb1 | exact hb1.alloc hb1.size _⟩
    | true =>
      obtain ⟨h1, h2⟩ := inB_iff.1 hi
      obtain ⟨kk, rfl⟩ : ∃ q : Nat, k = (q : Int) := ⟨k.toNat, by omega⟩
      have HR := Lib.hid (show okTG zs (kk : Int) = true ∧ resG zs (kk : Int) = tp zs kk by
        have : okTG zs (kk : Int) = true := by rw [okTG, hv, hi]; rfl
        exact ⟨this, by rw [resG, if_pos this, Int.toNat_natCast]⟩)
      have HI := Lib.hid hi
      clear hv hi
      go_enter Try.func35, Try.ntmps35
      go_wp2_with fail
      refine HV.out.mono ?_
      rintro e w1 ⟨rfl, hb1⟩
      go_wp2_with fail
      refine (ins.spec_any _ _ _ _).mono ?_
      rintro e w2 ⟨rfl, rfl⟩
      rw [HI.out]
      have HO1 := Lib.hid (World.ownsRow_made (e := 71) (size := 5) w1 #[] 0 (Nat.le_refl _) (Nat.zero_le _) (by simp))
      go_wp2
      go_loopg [6, 7] (zs.length + 1) (fun f v i wr => ∃ k : Nat, zs.length < k + f ∧ k ≤ zs.length ∧ i = .int .i64 (k : Int) ∧ wr.ownsRow w1.heap.size 71 5 v k (grps (T zs k)) ∧ Below w1.heap.size w1 wr)
      case atStart => exact ⟨0, by omega, by omega, rfl, HO1.out, (Below.refl _ _).alloc (Nat.le_refl _) _⟩
      case round =>
        obtain ⟨k, hkf, hk, rfl, hov, hb⟩ := hrel
        by_cases hlt : k < zs.length
        · have HT := Lib.hid (T_step zs hlt)
          have HL := Lib.hid (T_len zs hk)
          obtain ⟨b1, off1, rfl, hx0, hx1, hx2, hx3, hx4⟩ := ((hr.below hb1).below hb).grp (k := k) hlt
          obtain ⟨L, hL⟩ : ∃ L, L = T zs k := ⟨_, rfl⟩
          rw [← hL] at hov HT HL
          clear hL
          generalize zs[k] = x at hx0 hx1 hx2 hx3 hx4 HT
          obtain ⟨A1, c1, rfl, hc1, hc1m, hr1⟩ := own_form hov
          have q1 : (k : Int) < (zs.length : Int) := by omega
          go_upto_block 2 with fail
          go_cut [8] (fun s7 wx => (∃ j : Nat, s7 = .int .i64 (j : Int) ∧ j ≤ k ∧ pos ltC x L L.length = j) ∧ ∃ m, wx = wr.drewN m)
          case first =>
            go_wp2
            go_loopg [8] (k + 1) (fun f s wi => ∃ j m : Nat, j < f ∧ s = .int .i64 (j : Int) ∧ j ≤ k ∧ pos ltC x L L.length = pos ltC x L j ∧ wi = wr.drewN m)
            case atStart => exact ⟨k, 0, by omega, rfl, by omega, by rw [HL.out], rfl⟩
            case round =>
              obtain ⟨j, m, hjf, rfl, hj, hp, rfl⟩ := hrel
              have HP := Lib.hid hp
              clear hp
              by_cases h0 : j = 0
              · subst h0
                have HE := Lib.hid (show pos ltC x L L.length = 0 by rw [HP.out]; rfl)
                go_wp2_with fail
                go_quiet (fail)
                go_wp2_with fail
                go_meet
                exact ⟨⟨0, rfl, by omega, HE.out⟩, _, World.drewN_drewN _ _ _⟩
              · obtain ⟨t, rfl⟩ : ∃ t, j = t + 1 := ⟨j - 1, by omega⟩
                have htL : t < L.length := by have := HL.out; omega
                obtain ⟨b3, off3, rfl, hz0, hz1, hz2, hz3, hz4⟩ := (show Rd wr 5 A1 L.length (grps L) by rw [HL.out]; exact hr1).grp (k := t) htL
                have HD := Lib.hid (fun (h : ltC x L[t] = true) => pos_down htL h)
                have HS := Lib.hid (fun (h : ltC x L[t] = false) => pos_stop htL h)
                have HLT := Lib.hid (show ltC x L[t] = decide (L[t].count < x.count) from rfl)
                generalize ltC x L[t] = bb at HD HS HLT
                generalize L[t] = y at hz0 hz1 hz2 hz3 hz4 HLT
                rw [show (((t + 1 : Nat)) : Int) = (t : Int) + 1 by omega]
                have q2 : (t : Int) < (k : Int) := by omega
                have q3 : (0 : Int) < (t : Int) + 1 := by omega
                cases bb with
                | true =>
                  have HE := Lib.hid (show pos ltC x L L.length = pos ltC x L t by rw [HP.out, HD.out rfl])
                  have hbl : y.count < x.count := of_decide_eq_true HLT.out.symm
                  go_wp2_with fail
                  go_quiet (fail)
                  go_wp2
                  go_roundg (gk - 1)
                  case rel => exact ⟨t, _, by omega, by go_num, by omega, HE.out, rfl⟩
                  case measure => omega
                | false =>
                  have HE := Lib.hid (show pos ltC x L L.length = t + 1 by rw [HP.out, HS.out rfl])
                  have hbl : ¬ y.count < x.count := of_decide_eq_false HLT.out.symm
                  go_wp2_with fail
                  go_quiet (fail)
                  go_wp2_with fail
                  go_meet
                  exact ⟨⟨t + 1, by go_num, by omega, HE.out⟩, _, World.drewN_drewN _ _ _⟩
          case rest =>
            obtain ⟨⟨j, rfl, hj, hp⟩, m, hwc⟩ := hcut
            obtain ⟨wq, hwq⟩ : ∃ W : World, W = wc := ⟨_, rfl⟩
            rw [← hwq] at hwc
            rw [← hwq]
            have hxq0 : wq.cell? ⟨b1, off1 + k * 5, none⟩ = some (.int .i64 x.key) := by rw [hwc]; exact hx0
            have hxq1 : wq.cell? ⟨b1, off1 + k * 5 + 1, none⟩ = some (.int .i64 x.count) := by rw [hwc]; exact hx1
            have hxq2 : wq.cell? ⟨b1, off1 + k * 5 + 2, none⟩ = some (.int .i64 x.sum) := by rw [hwc]; exact hx2
            have hxq3 : wq.cell? ⟨b1, off1 + k * 5 + 3, none⟩ = some (.int .i64 x.least) := by rw [hwc]; exact hx3
            have hxq4 : wq.cell? ⟨b1, off1 + k * 5 + 4, none⟩ = some (.int .i64 x.most) := by rw [hwc]; exact hx4
            have hovq := own_drewN hov m
            have hbq := below_drewN hb m
            rw [← hwc] at hovq hbq
            clear hwq hwc hx0 hx1 hx2 hx3 hx4 hov hb hr1
            have HTK := Lib.hid (show ∀ W, Below wq.heap.size wq W → Rd W 5 A1 j (grps (L.take j)) from fun W h => by
              have := ((own_rd hovq).below h).take hj
              rwa [grps_take'] at this)
            have HDP := Lib.hid (show ∀ W, Below wq.heap.size wq W → Rd W 5 (cutA A1 c1 j 5) (k - j) (grps (L.drop j)) from fun W h => by
              have := ((own_rd hovq).below h).cut_at (k := j) (m := k - j) (cap := c1) (by omega) hc1
              rwa [grps_drop', List.take_of_length_le (by rw [len_grps, List.length_drop, HL.out]; omega)] at this)
            have hrf := fun W => run_from (P := Try.prog) 25 71 _ 5 40 Try.underlying25 info_grp A1 k c1 j (j : Int) rfl hj W
            have hru := fun W => run_upto (P := Try.prog) 25 71 _ 5 40 Try.underlying25 info_grp A1 k c1 j (j : Int) rfl (by omega) W
            rw [cutA_zero] at hru
            have HI := Lib.hid (ins3 wq 71 5 #[.int .i64 x.key, .int .i64 x.count, .int .i64 x.sum, .int .i64 x.least, .int .i64 x.most])
            have HKS := Lib.hid (fun W (h : Below wq.heap.size wq W) => And.intro (cells_below h hxq0) (And.intro (cells_below h hxq1) (And.intro (cells_below h hxq2) (And.intro (cells_below h hxq3) (cells_below h hxq4)))))
            have hh1 : 0 + j ≤ 1099511627776 := by omega
            have hh2 : 0 + j + 1 ≤ 1099511627776 := by omega
            have hh3 : 0 + j + 1 + (k - j) ≤ 1099511627776 := by omega
            have HLEN := Lib.hid (show 0 + j + 1 + (k - j) = k + 1 by omega)
            have HRES := Lib.hid (show [] ++ grps (L.take j) ++ grps [x] ++ grps (L.drop j) = grps (insR ltC L x) by rw [ins_form L x hp, List.nil_append, grps_app, grps_app, List.append_assoc])
            go_upto_region 10 with fail
            (go_region_held3 (fun w' => w'.cell? ⟨b1, off1 + k * 5, none⟩ = some (.int .i64 x.key) ∧ w'.cell? ⟨b1, off1 + k * 5 + 1, none⟩ = some (.int .i64 x.count) ∧ w'.cell? ⟨b1, off1 + k * 5 + 2, none⟩ = some (.int .i64 x.sum) ∧ w'.cell? ⟨b1, off1 + k * 5 + 3, none⟩ = some (.int .i64 x.least) ∧ w'.cell? ⟨b1, off1 + k * 5 + 4, none⟩ = some (.int .i64 x.most)) (first | exact HKS.out _ hqE | exact HKS.out _ hqD | exact HKS.out _ hqB | go_keep) (first | (refine mem.step_extend_at (wq.alloc (.cells #[] 71)).drew rfl (.tmp 45) (.tmp 48) 25 rfl wq.heap.size 71 _ 5 40 Try.underlying25 mem.info_grp rfl (by decide) (.slice (some ⟨wq.heap.size, 0, none⟩) 0 0) 0 [] (by simp [Act.eval, Act.put]) HI.out.1.1 A1 j c1 (grps (L.take j)) (by simp [Act.eval, Act.put]) (HTK.out _ HI.out.1.2) (mem.grps_one _) hh1 (by decide) HI.out.1.2.size ?_; intro vB wB hoB hgB hnB; have hqB := below_grown HI.out.1.2 HI.out.1.2.size hgB (own_ge HI.out.1.1)) | (refine mem.step_extend_at ((wq.alloc (.cells #[] 71)).alloc (.cells #[.int .i64 x.key, .int .i64 x.count, .int .i64 x.sum, .int .i64 x.least, .int .i64 x.most] 71)).drew rfl (.tmp 45) (.tmp 48) 25 rfl wq.heap.size 71 _ 5 40 Try.underlying25 mem.info_grp rfl (by decide) (.slice (some ⟨wq.heap.size, 0, none⟩) 0 0) 0 [] (by simp [Act.eval, Act.put]) HI.out.2.1.1 A1 j c1 (grps (L.take j)) (by simp [Act.eval, Act.put]) (HTK.out _ HI.out.2.1.2.2) (mem.grps_one _) hh1 (by decide) HI.out.2.1.2.2.size ?_; intro vB wB hoB hgB hnB; have hqB := below_grown HI.out.2.1.2.2 HI.out.2.1.2.2.size hgB (own_ge HI.out.2.1.1); have hbx := HI.out.2.1.2.1.grown hgB (by simp [Value.ownBlock])) | (refine mem.step_extend_at ((wq.alloc (.cells #[.int .i64 x.key, .int .i64 x.count, .int .i64 x.sum, .int .i64 x.least, .int .i64 x.most] 71)).alloc (.cells #[] 71)).drew rfl (.tmp 45) (.tmp 48) 25 rfl wq.heap.size 71 _ 5 40 Try.underlying25 mem.info_grp rfl (by decide) (.slice (some ⟨wq.heap.size + 1, 0, none⟩) 0 0) 0 [] (by simp [Act.eval, Act.put]) HI.out.2.2.1 A1 j c1 (grps (L.take j)) (by simp [Act.eval, Act.put]) (HTK.out _ HI.out.2.2.2.2) (mem.grps_one _) hh1 (by decide) HI.out.2.2.2.2.size ?_; intro vB wB hoB hgB hnB; have hqB := below_grown HI.out.2.2.2.2 HI.out.2.2.2.2.size hgB (own_ge HI.out.2.2.1); have hbx := HI.out.2.2.2.1.grown hgB (by simp [Value.ownBlock])) | (refine mem.step_extend_at wB rfl (.tmp 49) (.tmp 54) 25 rfl wq.heap.size 71 _ 5 40 Try.underlying25 mem.info_grp rfl (by decide) vB (0 + j) _ (by simp [Act.eval, Act.put]) hoB _ 1 1 (grps [x]) (by simp [Act.eval, Act.put]) (Blk.rd_one hbx rfl) (mem.grps_one _) hh2 (by decide) hqB.size ?_; intro vD wD hoD hgD hnD; have hqD := below_grown hqB hqB.size hgD (own_ge hoB)) | (refine mem.step_extend_at (wB.alloc (.cells #[.int .i64 x.key, .int .i64 x.count, .int .i64 x.sum, .int .i64 x.least, .int .i64 x.most] 71)) rfl (.tmp 49) (.tmp 54) 25 rfl wq.heap.size 71 _ 5 40 Try.underlying25 mem.info_grp rfl (by decide) vB (0 + j) _ (by simp [Act.eval, Act.put]) (own_below hoB ((Below.refl _ _).alloc (Nat.le_refl _) _)) (some ⟨wB.heap.size, 0, none⟩) 1 1 (grps [x]) (by simp [Act.eval, Act.put]) (Blk.rd_one (Blk.new _ _ _) rfl) (mem.grps_one _) hh2 (by decide) (hqB.alloc hqB.size _).size ?_; intro vD wD hoD hgD hnD; have hqD := below_grown (hqB.alloc hqB.size _) (hqB.alloc hqB.size _).size hgD (own_ge hoB)) | (refine mem.step_extend_at wD rfl (.tmp 55) (.tmp 58) 25 rfl wq.heap.size 71 _ 5 40 Try.underlying25 mem.info_grp rfl (by decide) vD (0 + j + 1) _ (by simp [Act.eval, Act.put]) hoD (cutA A1 c1 j 5) (k - j) (c1 - j) (grps (L.drop j)) (by simp [Act.eval, Act.put]) (HDP.out _ hqD) (mem.grps_one _) hh3 (by decide) hqD.size ?_; intro vE wE hoE hgE hnE; have hqE := below_grown hqD hqD.size hgE (own_ge hoD))))
            all_goals
              have ho6 : wE.ownsRow wq.heap.size 71 5 vE (k + 1) (grps (insR ltC L x)) := by rw [← HRES.out, ← HLEN.out]; exact hoE
              have HALL := Lib.hid (And.intro (own_base ho6 hbq.size) (below_at hbq hbq.size hqE))
              clear ho6 hoE hgE hnE hqE hovq hbq hxq0 hxq1 hxq2 hxq3 hxq4 hp hrf hru
              go_wp2
              go_roundg (gk - 1)
              case rel => exact ⟨k + 1, by omega, by omega, by go_num, by rw [HT.out]; exact HALL.out.1, HALL.out.2⟩
              case measure => omega
        · obtain rfl : k = zs.length := by omega
          have HE := Lib.hid (show T zs zs.length = stab ltC zs by rw [T, List.take_length])
          rw [HE.out] at hov
          obtain ⟨A1, c1, rfl, hc1, hc1m, hr1⟩ := own_form hov
          by_cases hkk : kk < zs.length
          · have hkz : (kk : Int) < (zs.length : Int) := by omega
            have hru := fun W => run_upto (P := Try.prog) 25 71 _ 5 40 Try.underlying25 info_grp A1 zs.length c1 kk (kk : Int) rfl (by omega) W
            rw [cutA_zero] at hru
            have HO := Lib.hid (show wr.ownsRow w1.heap.size 71 5 (.slice A1 kk c1) (tp zs kk).length (grps (tp zs kk)) by
              have := own_lessN hov (k := kk) (by omega)
              rw [grps_take'] at this
              rw [tp_len, Nat.min_eq_left (by omega)]; exact this)
            clear hov
            go_wp2
            go_ret2
            exact ⟨_, by rw [HR.out.1]; rfl, ⟨by rw [HR.out.2]; exact own_base HO.out hb1.size, Nat.le_trans HL.out hn⟩, below_step hb1 hb⟩
          · have hkz : ¬ (kk : Int) < (zs.length : Int) := by omega
            have HO := Lib.hid (show wr.ownsRow w1.heap.size 71 5 (.slice A1 zs.length c1) (tp zs kk).length (grps (tp zs kk)) by
              rw [tp_len, Nat.min_eq_right (by omega), tp, List.take_of_length_le (by rw [stab_len]; omega)]; exact hov)
            clear hov
            go_wp2
            go_ret2
            exact ⟨_, by rw [HR.out.1]; rfl, ⟨by rw [HR.out.2]; exact own_base HO.out hb1.size, Nat.le_trans HL.out hn⟩, below_step hb1 hb⟩
end Go.Proofs.Ytgngoedooemboaa.topG
