/- Multikey quicksort, the reference's. No condition beyond the bounds that the contracts name. -/
import Derived.Test.YtaeimdcmpjanbaaMulti
set_option linter.unusedVariables false
set_option linter.unusedSimpArgs false
namespace Go.Proofs.Ytaeimdcmpjanbaa.multi
open Go.RowKit Go.Proofs.Ytaeimdcmpjanbaa.mem

set_option maxRecDepth 100000 in
set_option maxHeartbeats 2000000 in
theorem spec_small (A : Option Addr) (c : Nat) (l : List ByteArray) (d f : Nat) (w : World) (h2 : l.length < 2) (hr : Rd w 1 A l.length (strs l)) :
    Calls Try.prog 54 #[.slice A l.length c, .int .i64 (d : Int)] w fun e w' => ∃ v, e = .returned (.tuple #[v, .int .i64 ((mk f l d).2 : Int)]) ∧ w'.ownsRow w.heap.size 9 1 v (mk f l d).1.length (strs (mk f l d).1) ∧ Below w.heap.size w w' := by
  have HM := Lib.hid (show mk f l d = (l, 0) by cases f <;> simp [mk, h2])
  have hh : 0 + l.length ≤ 1099511627776 := by omega
  have h0 := World.ownsRow_made (e := 9) (size := 1) w #[] 0 (Nat.le_refl _) (Nat.zero_le _) (by simp)
  have hb0 : Below w.heap.size w (w.alloc (.cells #[] 9)) := (Below.refl _ _).alloc (Nat.le_refl _) _
  have hs0 := hb0.size
  have hr0 := hr.alloc (.cells #[] 9)
  go_enter Try.func54, Try.ntmps54
  go_wp2_with (at_builtin; refine mem.extend _ rfl _ _ 24 rfl w.heap.size 9 _ 1 16 Try.underlying24 mem.info_str rfl Nat.one_pos _ _ _ rfl h0 _ _ _ _ rfl hr0 (mem.strs_one l) hh (by decide) hs0 ?_; intro v' w' ho' hg')
  have hb := below_push hb0 hs0 hg' h0
  simp only [Nat.zero_add, List.nil_append] at ho'
  go_wp2
  go_ret2
  exact ⟨_, by rw [HM.out]; rfl, by rw [HM.out]; exact ho', hb⟩
theorem made3 (w : World) (e : TypeId) :
    (((w.alloc (.cells #[] e)).alloc (.cells #[] e)).alloc (.cells #[] e)).ownsRow w.heap.size e 1 (.slice (some ⟨w.heap.size, 0, none⟩) 0 0) 0 [] ∧
    (((w.alloc (.cells #[] e)).alloc (.cells #[] e)).alloc (.cells #[] e)).ownsRow w.heap.size e 1 (.slice (some ⟨w.heap.size + 1, 0, none⟩) 0 0) 0 [] ∧
    (((w.alloc (.cells #[] e)).alloc (.cells #[] e)).alloc (.cells #[] e)).ownsRow w.heap.size e 1 (.slice (some ⟨w.heap.size + 2, 0, none⟩) 0 0) 0 [] := by
  have h0 := World.ownsRow_made (e := e) (size := 1) w #[] 0 (Nat.le_refl _) (Nat.zero_le _) (by simp)
  have h1 := World.ownsRow_made (e := e) (size := 1) (w.alloc (.cells #[] e)) #[] 0 (Nat.le_refl _) (Nat.zero_le _) (by simp)
  have h2 := World.ownsRow_made (e := e) (size := 1) ((w.alloc (.cells #[] e)).alloc (.cells #[] e)) #[] 0 (Nat.le_refl _) (Nat.zero_le _) (by simp)
  have s1 : (w.alloc (.cells #[] e)).heap.size = w.heap.size + 1 := by simp
  have s2 : ((w.alloc (.cells #[] e)).alloc (.cells #[] e)).heap.size = w.heap.size + 2 := by simp
  rw [s1] at h1
  rw [s2] at h2
  exact ⟨(h0.alloc _).alloc _, own_base (h1.alloc _) (by omega), own_base h2 (by omega)⟩

set_option maxRecDepth 100000 in
set_option maxHeartbeats 4000000 in
theorem spec_step (f : Nat) (ih : ∀ (A : Option Addr) (c : Nat) (l : List ByteArray) (d : Nat) (w : World), M l d ≤ f → l.length ≤ 1048576 → d ≤ 1048576 → (∀ s ∈ l, s.size ≤ 1048576) → l.length * f ≤ 1099511627776 → Rd w 1 A l.length (strs l) →
      Calls Try.prog 54 #[.slice A l.length c, .int .i64 (d : Int)] w fun e w' => ∃ v, e = .returned (.tuple #[v, .int .i64 ((mk f l d).2 : Int)]) ∧ w'.ownsRow w.heap.size 9 1 v (mk f l d).1.length (strs (mk f l d).1) ∧ Below w.heap.size w w')
    (A : Option Addr) (c : Nat) (l : List ByteArray) (d : Nat) (w : World) (hM : M l d ≤ f + 1) (hn : l.length ≤ 1048576) (hd : d ≤ 1048576) (hs : ∀ s ∈ l, s.size ≤ 1048576) (hf : l.length * (f + 1) ≤ 1099511627776) (hr : Rd w 1 A l.length (strs l)) :
    Calls Try.prog 54 #[.slice A l.length c, .int .i64 (d : Int)] w fun e w' => ∃ v, e = .returned (.tuple #[v, .int .i64 ((mk (f + 1) l d).2 : Int)]) ∧ w'.ownsRow w.heap.size 9 1 v (mk (f + 1) l d).1.length (strs (mk (f + 1) l d).1) ∧ Below w.heap.size w w' := by
    have IH := Lib.hid ih
    clear ih
    by_cases h2 : l.length < 2
    · exact spec_small A c l d (f + 1) w h2 hr
    obtain ⟨b, off, rfl, hp⟩ := hr.str (k := l.length / 2) (by omega)
    have HP := Lib.hid (show piv l d = chr (l[l.length / 2]'(by omega)) d by rw [piv, List.getD_eq_getElem?_getD, List.getElem?_eq_getElem (by omega)]; rfl)
    have hsp := hs (l[l.length / 2]'(by omega)) (List.getElem_mem _)
    have HS := Lib.hid hs
    have HSP := Lib.hid hsp
    have hcl := chr_lo (l[l.length / 2]'(by omega)) d
    have HC := Lib.hid (fun W => spec_chr (l[l.length / 2]'(by omega)) d W (Nat.le_trans hsp (by decide)) (Nat.le_trans hd (by decide)))
    rw [← HP.out] at HC hcl
    clear hs hsp
    generalize l[l.length / 2]'(by omega) = sp at hp HP HC HSP
    obtain ⟨p, hpv⟩ : ∃ p, p = piv l d := ⟨_, rfl⟩
    rw [← hpv] at HC hcl HP
    have HPV := Lib.hid hpv
    clear hpv
    go_enter Try.func54, Try.ntmps54
    go_wp2_with fail
    refine (HC.out _).mono ?_
    rintro e w' ⟨rfl, rfl⟩
    go_wp2
    go_loopw [8, 9, 10, 11] (fun v0 v1 v2 i wr => ∃ (k : Nat), k ≤ l.length ∧ i = .int .i64 (k : Int) ∧ Parts w.heap.size wr l d p k v0 v1 v2 ∧ Below w.heap.size w wr) (fun _ _ _ i _ => l.length - (intOf i).toNat)
    case atStart =>
      refine ⟨0, by omega, rfl, ?_, (((Below.refl _ _).alloc (Nat.le_refl _) _).alloc (by simp) _).alloc (by simp; omega) _⟩
      obtain ⟨m0, m1, m2⟩ := made3 w 9
      exact ⟨m0, m1, m2, Or.inr (by simp [Value.ownBlock]), Or.inr (by simp [Value.ownBlock]; omega), Or.inr (by simp [Value.ownBlock])⟩
    case round =>
      obtain ⟨k, hk, rfl, hP, hb⟩ := hrel
      by_cases hlt : k < l.length
      · have hx := (hr.below hb).str_at hlt
        have hsx := HS.out l[k] (List.getElem_mem _)
        have HCX := Lib.hid (fun W => spec_chr l[k] d W (Nat.le_trans hsx (by decide)) (Nat.le_trans hd (by decide)))
        have hpl := part_len l d p k
        have HL0 := Lib.hid (fun (h : chr l[k] d < p) v' w' ho hg hn => Parts.less (v' := v') (w' := w') hP hlt h ho hg hn)
        have HL1 := Lib.hid (fun (h : chr l[k] d = p) v' w' ho hg hn => Parts.eq (v' := v') (w' := w') hP hlt h ho hg hn)
        have HL2 := Lib.hid (fun (h : p < chr l[k] d) v' w' ho hg hn => Parts.more (v' := v') (w' := w') hP hlt h ho hg hn)
        have ho0 := hP.o0
        have ho1 := hP.o1
        have ho2 := hP.o2
        have hbs := hb.size
        have HBL := Lib.hid (fun (row : Option Nat) (w' : World) (hg : wr.grownBy w' row) (hr : ∀ g, row = some g → w.heap.size ≤ g) => below_grown hb hb.size hg hr)
        clear hsx hP
        have hcx := chr_lo l[k] d
        generalize chr l[k] d = q at HCX HL0 HL1 HL2 hcx
        generalize l[k] = x at hx HCX HL0 HL1 HL2
        rcases Int.lt_trichotomy q p with hq | hq | hq
        · have hh : (lessL (l.take k) d p).length ≤ 1099511627776 := by have := hpl.1; omega
          go_wp2_with fail
          refine (HCX.out _).mono ?_
          rintro e w1 ⟨rfl, rfl⟩
          go_wp2_with (at_builtin; refine mem.push_at _ rfl _ _ 24 rfl w.heap.size 9 _ 1 16 Try.underlying24 mem.info_str rfl Nat.one_pos u8 _ _ rfl ho0 (strs [x]) _ rfl (mem.strs_one [x]) rfl hh (by decide) hbs ?_; intro v' w' ho' hg' hnw')
          have hP2 := HL0.out hq v' w' ho' hg' hnw'
          have hb2 := HBL.out _ _ hg' (fun g h => (ho0.lt g h).1)
          clear ho' hg' hnw'
          go_wp2
          go_roundw
          case rel => exact ⟨k + 1, by omega, by go_num, hP2, hb2⟩
          case measure => simp [intOf]; omega
        · have hh : (eqL (l.take k) d p).length ≤ 1099511627776 := by have := hpl.2.1; omega
          go_wp2_with fail
          refine (HCX.out _).mono ?_
          rintro e w1 ⟨rfl, rfl⟩
          go_wp2_with (at_builtin; refine mem.push_at _ rfl _ _ 24 rfl w.heap.size 9 _ 1 16 Try.underlying24 mem.info_str rfl Nat.one_pos u9 _ _ rfl ho1 (strs [x]) _ rfl (mem.strs_one [x]) rfl hh (by decide) hbs ?_; intro v' w' ho' hg' hnw')
          have hP2 := HL1.out hq v' w' ho' hg' hnw'
          have hb2 := HBL.out _ _ hg' (fun g h => (ho1.lt g h).1)
          clear ho' hg' hnw'
          go_wp2
          go_roundw
          case rel => exact ⟨k + 1, by omega, by go_num, hP2, hb2⟩
          case measure => simp [intOf]; omega
        · have hh : (moreL (l.take k) d p).length ≤ 1099511627776 := by have := hpl.2.2; omega
          go_wp2_with fail
          refine (HCX.out _).mono ?_
          rintro e w1 ⟨rfl, rfl⟩
          go_wp2_with (at_builtin; refine mem.push_at _ rfl _ _ 24 rfl w.heap.size 9 _ 1 16 Try.underlying24 mem.info_str rfl Nat.one_pos u10 _ _ rfl ho2 (strs [x]) _ rfl (mem.strs_one [x]) rfl hh (by decide) hbs ?_; intro v' w' ho' hg' hnw')
          have hP2 := HL2.out hq v' w' ho' hg' hnw'
          have hb2 := HBL.out _ _ hg' (fun g h => (ho2.lt g h).1)
          clear ho' hg' hnw'
          go_wp2
          go_roundw
          case rel => exact ⟨k + 1, by omega, by go_num, hP2, hb2⟩
          case measure => simp [intOf]; omega
      · obtain rfl : k = l.length := by omega
        replace hP := hP.full
        have HPM := Lib.hid (show M (lessL l d p) d ≤ f ∧ (0 ≤ p → M (eqL l d p) (d + 1) ≤ f ∧ d + 1 ≤ 1048576) ∧ M (moreL l d p) d ≤ f from by
          have h1 := M_less (l := l) (d := d) (by omega)
          have h3 := M_more (l := l) (d := d) (by omega)
          refine ⟨by rw [HPV.out]; omega, fun h0 => ⟨?_, ?_⟩, by rw [HPV.out]; omega⟩
          · have h2 := M_eq (l := l) (d := d) (by omega) (by rw [← HPV.out]; exact h0)
            rw [HPV.out]; omega
          · by_cases hds : d < sp.size
            · have := HSP.out; omega
            · have := HP.out; rw [chr_out hds] at this; omega)
        have hl3 := len3 l d p
        have HMK := Lib.hid (mk_succ f l d h2)
        rw [← HPV.out] at HMK
        have hmul : (lessL l d p).length * f + (eqL l d p).length * f + (moreL l d p).length * f + l.length ≤ 1099511627776 := by
          rw [← Nat.add_mul, ← Nat.add_mul, hl3]; rw [Nat.mul_add, Nat.mul_one] at hf; exact hf
        have HMUL := Lib.hid hmul
        have HSS := Lib.hid (show (∀ s ∈ lessL l d p, s.size ≤ 1048576) ∧ (∀ s ∈ eqL l d p, s.size ≤ 1048576) ∧ (∀ s ∈ moreL l d p, s.size ≤ 1048576) from
          ⟨fun s h => HS.out s (List.mem_filter.1 h).1, fun s h => HS.out s (List.mem_filter.1 h).1, fun s h => HS.out s (List.mem_filter.1 h).1⟩)
        have HK0 := Lib.hid (mk_len f (lessL l d p) d)
        have HK1 := Lib.hid (mk_len f (eqL l d p) (d + 1))
        have HK2 := Lib.hid (mk_len f (moreL l d p) d)
        have HL3 := Lib.hid hl3
        have hlx : (lessL l d p).length ≤ 1048576 ∧ (eqL l d p).length ≤ 1048576 ∧ (moreL l d p).length ≤ 1048576 := by omega
        clear hl3 hmul
        obtain ⟨A0, c0, e0', h01, h02, hr0⟩ := own_form hP.o0
        obtain ⟨A1, c1, e1', h11, h12, hr1⟩ := own_form hP.o1
        obtain ⟨A2, c2, e2', h21, h22, hr2⟩ := own_form hP.o2
        subst e0' e1' e2'
        have IH0 := Lib.hid (fun W h => IH.out A0 c0 (lessL l d p) d W HPM.out.1 (by omega) hd HSS.out.1 (by have := HMUL.out; omega) h)
        have IH1 := Lib.hid (fun (h0 : 0 ≤ p) W h => IH.out A1 c1 (eqL l d p) (d + 1) W (HPM.out.2.1 h0).1 (by omega) (HPM.out.2.1 h0).2 HSS.out.2.1 (by have := HMUL.out; omega) h)
        rw [show ((d + 1 : Nat) : Int) = (d : Int) + 1 from by omega] at IH1
        have IH2 := Lib.hid (fun W h => IH.out A2 c2 (moreL l d p) d W HPM.out.2.2 (by omega) hd HSS.out.2.2 (by have := HMUL.out; omega) h)
        clear HPM HSS hP
        generalize lessL l d p = l0 at hr0 h01 HMK HMUL HK0 HL3 hlx IH0
        generalize eqL l d p = l1 at hr1 h11 HMK HMUL HK1 HL3 hlx IH1
        generalize moreL l d p = l2 at hr2 h21 HMK HMUL HK2 HL3 hlx IH2
        clear hk
        go_wp2_with fail
        refine (IH0.out _ hr0).mono ?_
        rintro e w1 ⟨va, rfl, hO0, hb1⟩
        have hbw1 := below_step hb hb1
        have hbs0 := hb.size
        have hr1' := hr1.below hb1
        generalize mk f l0 d = m0 at HMK HK0 hO0 IH0
        by_cases h0 : 0 ≤ p
        · rw [if_pos h0] at HMK
          go_wp2_with fail
          refine (IH1.out h0 _ hr1').mono ?_
          rintro e w2 ⟨vb, rfl, hO1, hb2⟩
          have hbw2 := below_step hbw1 hb2
          have hr2' := hr2.below (below_step hb1 hb2)
          generalize mk f l1 (d + 1) = m1 at HMK HK1 hO1 IH1
          go_wp2_with fail
          refine (IH2.out _ hr2').mono ?_
          rintro e w3 ⟨vc, rfl, hO2, hb3⟩
          have hbw3 := below_step hbw2 hb3
          generalize mk f l2 d = m2 at HMK HK2 hO2 IH2
          have hoa := own_base (own_below hO0 (below_step hb2 hb3)) hbs0
          have hslb := (SL.of_own hO1).below hb3
          have hslc := SL.of_own hO2
          have hapt := apt_symm (apt_above (own_ge hO2) (own_lt (own_below hO0 hb2)))
          have hcnt : m0.2 + m1.2 + m2.2 + l.length ≤ 1099511627776 := by have := HMUL.out; have := HK0.out.2; have := HK1.out.2; have := HK2.out.2; omega
          have hlz : m0.1.length + m1.1.length + m2.1.length ≤ 1048576 := by have := HK0.out.1; have := HK1.out.1; have := HK2.out.1; have := HL3.out; omega
          have hvc := own_lt hO2
          have HO2 := Lib.hid hO2
          clear HK0 HK1 HK2 IH0 IH1 IH2 hO2
          obtain ⟨Ab, cb, hvb, _, _, hrb⟩ := hslb
          obtain ⟨Ac, cc, hvc2, _, _, hrc⟩ := hslc
          subst hvc2
          subst hvb
          have hbs3 := hbw3.size
          have hh : m0.1.length + m1.1.length ≤ 1099511627776 := by omega
          have tok1 : True := trivial
          have HNE := Lib.hid (rd_apart hapt)
          have HHH := Lib.hid (show m0.1.length + m1.1.length + m2.1.length ≤ 1099511627776 by omega)
          go_wp2_with (first
            | (at_builtin; have _t := tok1; refine mem.extend_at _ rfl _ _ 24 rfl w.heap.size 9 _ 1 16 Try.underlying24 mem.info_str rfl Nat.one_pos va _ _ (by rfl) hoa _ _ _ _ rfl hrb (mem.strs_one m1.1) hh (by decide) hbs3 ?_; intro v1 w5 ho5 hg5 hn5; have hrc5 := hrc.grown hg5 HNE.out; have hbs5 := Nat.le_trans hbs3 hg5.size; clear tok1)
            | (at_builtin; refine mem.extend_at _ rfl _ _ 24 rfl w.heap.size 9 _ 1 16 Try.underlying24 mem.info_str rfl Nat.one_pos v1 _ _ (by rfl) ho5 _ _ _ _ rfl hrc5 (mem.strs_one m2.1) HHH.out (by decide) hbs5 ?_; intro v6 w6 ho6 hg6 hn6))
          have hb5 := below_push hbw3 hbs3 hg5 hoa
          have hb6 := below_push hb5 hbs5 hg6 ho5
          have HO := Lib.hid (show w6.ownsRow w.heap.size 9 1 v6 (m0.1 ++ m1.1 ++ m2.1).length (strs (m0.1 ++ m1.1 ++ m2.1)) by rw [strs_app, strs_app, List.length_append, List.length_append]; exact ho6)
          clear ho5 ho6 hg5 hg6 hn5 hn6 hrc5 hoa
          go_wp2
          go_ret2
          refine ⟨_, by rw [HMK.out]; exact congrArg Ending.returned (congrArg Value.tuple (congrArg (fun z => #[v6, .int .i64 z]) (by simp only; omega))), by rw [HMK.out]; exact HO.out, hb6⟩
        · rw [if_neg h0] at HMK
          have hr2' := hr2.below hb1
          go_wp2_with fail
          refine (IH2.out _ hr2').mono ?_
          rintro e w3 ⟨vc, rfl, hO2, hb3⟩
          have hbw3 := below_step hbw1 hb3
          generalize mk f l2 d = m2 at HMK HK2 hO2 IH2
          have hoa := own_base (own_below hO0 hb3) hbs0
          have hslb : SL w3 1 (.slice A1 l1.length c1) l1.length (strs l1) := ⟨A1, c1, rfl, h11, h12, (hr1.below hb1).below hb3⟩
          have hslc := SL.of_own hO2
          have hapt := apt_symm (apt_above (own_ge hO2) (own_lt hO0))
          have hcnt : m0.2 + m2.2 + l.length ≤ 1099511627776 := by have := HMUL.out; have := HK0.out.2; have := HK2.out.2; omega
          have hlz : m0.1.length + l1.length + m2.1.length ≤ 1048576 := by have := HK0.out.1; have := HK2.out.1; have := HL3.out; omega
          have hvc := own_lt hO2
          have HO2 := Lib.hid hO2
          clear HK0 HK1 HK2 IH0 IH1 IH2 hO2
          obtain ⟨Ab, cb, hvb, _, _, hrb⟩ := hslb
          obtain ⟨Ac, cc, hvc2, _, _, hrc⟩ := hslc
          subst hvc2
          injection hvb with hv1 _ hv3; subst hv1; subst hv3
          have hbs3 := hbw3.size
          have hh : m0.1.length + l1.length ≤ 1099511627776 := by omega
          have tok1 : True := trivial
          have HNE := Lib.hid (rd_apart hapt)
          have HHH := Lib.hid (show m0.1.length + l1.length + m2.1.length ≤ 1099511627776 by omega)
          go_wp2_with (first
            | (at_builtin; have _t := tok1; refine mem.extend_at _ rfl _ _ 24 rfl w.heap.size 9 _ 1 16 Try.underlying24 mem.info_str rfl Nat.one_pos va _ _ (by rfl) hoa _ _ _ _ rfl hrb (mem.strs_one l1) hh (by decide) hbs3 ?_; intro v1 w5 ho5 hg5 hn5; have hrc5 := hrc.grown hg5 HNE.out; have hbs5 := Nat.le_trans hbs3 hg5.size; clear tok1)
            | (at_builtin; refine mem.extend_at _ rfl _ _ 24 rfl w.heap.size 9 _ 1 16 Try.underlying24 mem.info_str rfl Nat.one_pos v1 _ _ (by rfl) ho5 _ _ _ _ rfl hrc5 (mem.strs_one m2.1) HHH.out (by decide) hbs5 ?_; intro v6 w6 ho6 hg6 hn6))
          have hb5 := below_push hbw3 hbs3 hg5 hoa
          have hb6 := below_push hb5 hbs5 hg6 ho5
          have HO := Lib.hid (show w6.ownsRow w.heap.size 9 1 v6 (m0.1 ++ l1 ++ m2.1).length (strs (m0.1 ++ l1 ++ m2.1)) by rw [strs_app, strs_app, List.length_append, List.length_append]; exact ho6)
          clear ho5 ho6 hg5 hg6 hn5 hn6 hrc5 hoa
          go_wp2
          go_ret2
          refine ⟨_, by rw [HMK.out]; exact congrArg Ending.returned (congrArg Value.tuple (congrArg (fun z => #[v6, .int .i64 z]) (by simp only; omega))), by rw [HMK.out]; exact HO.out, hb6⟩
theorem spec_any : ∀ (f : Nat) (A : Option Addr) (c : Nat) (l : List ByteArray) (d : Nat) (w : World), M l d ≤ f → l.length ≤ 1048576 → d ≤ 1048576 → (∀ s ∈ l, s.size ≤ 1048576) → l.length * f ≤ 1099511627776 → Rd w 1 A l.length (strs l) →
      Calls Try.prog 54 #[.slice A l.length c, .int .i64 (d : Int)] w fun e w' => ∃ v, e = .returned (.tuple #[v, .int .i64 ((mk f l d).2 : Int)]) ∧ w'.ownsRow w.heap.size 9 1 v (mk f l d).1.length (strs (mk f l d).1) ∧ Below w.heap.size w w' := by
  intro f
  induction f with
  | zero =>
    intro A c l d w hM hn hd hs hf hr
    have : l = [] := by
      cases l with
      | nil => rfl
      | cons s r => simp only [M, List.map_cons, List.sum_cons] at hM; omega
    subst this
    exact spec_small A c [] d 0 w (by simp) hr
  | succ f ih =>
    intro A c l d w hM hn hd hs hf hr
    exact spec_step f ih A c l d w hM hn hd hs hf hr
end Go.Proofs.Ytaeimdcmpjanbaa.multi
