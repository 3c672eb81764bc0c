/- Multikey quicksort, the program's and the reference's. No condition beyond the bounds that the contracts name. -/
import Derived.Test.YtaeimdcmpjanbaaMkLaw
import Derived.Test.YtaeimdcmpjanbaaConcat
import Derived.Test.YtaeimdcmpjanbaaMemAt
import Derived.Test.YtaeimdcmpjanbaaValidStr
set_option linter.unusedVariables false
set_option linter.unusedSimpArgs false
namespace Go.Proofs.Ytaeimdcmpjanbaa.multi
open Go.RowKit Go.Proofs.Ytaeimdcmpjanbaa.mem

set_option maxHeartbeats 400000 in
theorem impl_chr (s : ByteArray) (d : Nat) (w : World) (hs : s.size ≤ maxLen) (hd : d ≤ maxLen) :
    Calls Try.prog 65 #[.string s, .int .i64 (d : Int)] w fun e w' => e = .returned (.int .i64 (chr s d)) ∧ w = w' := by
  unfold maxLen at hs hd
  by_cases h : d < s.size
  · have HE := Lib.hid (chr_in h)
    have hb : ((s[d]).toNat : Int) ≤ 255 := by have := (s[d]).toNat_lt; omega
    go_enter Try.func65, Try.ntmps65
    go_wp2
    go_ret
    exact ⟨ret_int HE.out.symm, rfl⟩
  · have HE := Lib.hid (chr_out h)
    go_enter Try.func65, Try.ntmps65
    go_wp2
    go_ret
    exact ⟨ret_int HE.out.symm, rfl⟩
set_option maxHeartbeats 400000 in
theorem spec_chr (s : ByteArray) (d : Nat) (w : World) (hs : s.size ≤ maxLen) (hd : d ≤ maxLen) :
    Calls Try.prog 70 #[.string s, .int .i64 (d : Int)] w fun e w' => e = .returned (.int .i64 (chr s d)) ∧ w = w' := by
  unfold maxLen at hs hd
  by_cases h : d < s.size
  · have HE := Lib.hid (chr_in h)
    have hb : ((s[d]).toNat : Int) ≤ 255 := by have := (s[d]).toNat_lt; omega
    go_enter Try.func70, Try.ntmps70
    go_wp2
    go_ret
    exact ⟨ret_int HE.out.symm, rfl⟩
  · have HE := Lib.hid (chr_out h)
    go_enter Try.func70, Try.ntmps70
    go_wp2
    go_ret
    exact ⟨ret_int HE.out.symm, rfl⟩

def e0 : ByteArray := ByteArray.empty
/-- what multikey hands back: a row of the call's own, or the argument itself -/
def Out (w w' : World) (A : Option Addr) (c : Nat) (l res : List ByteArray) (v : Value) : Prop :=
  SL w' 1 v res.length (strs res) ∧ (w'.ownsRow w.heap.size 9 1 v res.length (strs res) ∨ (v = .slice A l.length c ∧ res = l))
theorem lessL_take {l : List ByteArray} {d : Nat} {p : Int} {k : Nat} (h : k < l.length) : lessL (l.take (k + 1)) d p = lessL (l.take k) d p ++ (if chr l[k] d < p then [l[k]] else []) := by
  rw [List.take_succ_eq_append_getElem h, lessL, List.filter_append, List.filter_cons, List.filter_nil]
  by_cases hc : chr l[k] d < p <;> simp [hc, lessL]
theorem eqL_take {l : List ByteArray} {d : Nat} {p : Int} {k : Nat} (h : k < l.length) : eqL (l.take (k + 1)) d p = eqL (l.take k) d p ++ (if chr l[k] d = p then [l[k]] else []) := by
  rw [List.take_succ_eq_append_getElem h, eqL, List.filter_append, List.filter_cons, List.filter_nil]
  by_cases hc : chr l[k] d = p <;> simp [hc, eqL]
theorem moreL_take {l : List ByteArray} {d : Nat} {p : Int} {k : Nat} (h : k < l.length) : moreL (l.take (k + 1)) d p = moreL (l.take k) d p ++ (if p < chr l[k] d then [l[k]] else []) := by
  rw [List.take_succ_eq_append_getElem h, moreL, List.filter_append, List.filter_cons, List.filter_nil]
  by_cases hc : p < chr l[k] d <;> simp [hc, moreL]
/-- the three parts behind k strings -/
structure Parts (B : Nat) (wr : World) (l : List ByteArray) (d : Nat) (p : Int) (k : Nat) (v0 v1 v2 : Value) : Prop where
  o0 : wr.ownsRow B 9 1 v0 (lessL (l.take k) d p).length (strs (lessL (l.take k) d p))
  o1 : wr.ownsRow B 9 1 v1 (eqL (l.take k) d p).length (strs (eqL (l.take k) d p))
  o2 : wr.ownsRow B 9 1 v2 (moreL (l.take k) d p).length (strs (moreL (l.take k) d p))
  a01 : v0.ownBlock = none ∨ v0.ownBlock ≠ v1.ownBlock
  a02 : v0.ownBlock = none ∨ v0.ownBlock ≠ v2.ownBlock
  a12 : v1.ownBlock = none ∨ v1.ownBlock ≠ v2.ownBlock
section
variable {B : Nat} {wr w' : World} {l : List ByteArray} {d : Nat} {p : Int} {k : Nat} {v0 v1 v2 v' : Value}
theorem Parts.less (h : Parts B wr l d p k v0 v1 v2) (hk : k < l.length) (hc : chr l[k] d < p) (ho : w'.ownsRow B 9 1 v' ((lessL (l.take k) d p).length + 1) (strs (lessL (l.take k) d p) ++ strs [l[k]]))
    (hg : wr.grownBy w' v0.ownBlock) (hn : NewAt wr v0 v') : Parts B w' l d p (k + 1) v' v1 v2 := by
  have e0 : lessL (l.take (k + 1)) d p = lessL (l.take k) d p ++ [l[k]] := by rw [lessL_take hk, if_pos hc]
  have e1 : eqL (l.take (k + 1)) d p = eqL (l.take k) d p := by rw [eqL_take hk, if_neg (by omega)]; simp
  have e2 : moreL (l.take (k + 1)) d p = moreL (l.take k) d p := by rw [moreL_take hk, if_neg (by omega)]; simp
  refine ⟨by rw [e0, strs_app, List.length_append]; exact ho, by rw [e1]; exact h.o1.kept hg (apt_symm h.a01), by rw [e2]; exact h.o2.kept hg (apt_symm h.a02), apt_new h.a01 hn (own_lt h.o1), apt_new h.a02 hn (own_lt h.o2), h.a12⟩
theorem Parts.eq (h : Parts B wr l d p k v0 v1 v2) (hk : k < l.length) (hc : chr l[k] d = p) (ho : w'.ownsRow B 9 1 v' ((eqL (l.take k) d p).length + 1) (strs (eqL (l.take k) d p) ++ strs [l[k]]))
    (hg : wr.grownBy w' v1.ownBlock) (hn : NewAt wr v1 v') : Parts B w' l d p (k + 1) v0 v' v2 := by
  have e0 : lessL (l.take (k + 1)) d p = lessL (l.take k) d p := by rw [lessL_take hk, if_neg (by omega)]; simp
  have e1 : eqL (l.take (k + 1)) d p = eqL (l.take k) d p ++ [l[k]] := by rw [eqL_take hk, if_pos hc]
  have e2 : moreL (l.take (k + 1)) d p = moreL (l.take k) d p := by rw [moreL_take hk, if_neg (by omega)]; simp
  refine ⟨by rw [e0]; exact h.o0.kept hg h.a01, by rw [e1, strs_app, List.length_append]; exact ho, by rw [e2]; exact h.o2.kept hg (apt_symm h.a12), apt_symm (apt_new (apt_symm h.a01) hn (own_lt h.o0)), h.a02, apt_new h.a12 hn (own_lt h.o2)⟩
theorem Parts.more (h : Parts B wr l d p k v0 v1 v2) (hk : k < l.length) (hc : p < chr l[k] d) (ho : w'.ownsRow B 9 1 v' ((moreL (l.take k) d p).length + 1) (strs (moreL (l.take k) d p) ++ strs [l[k]]))
    (hg : wr.grownBy w' v2.ownBlock) (hn : NewAt wr v2 v') : Parts B w' l d p (k + 1) v0 v1 v' := by
  have e0 : lessL (l.take (k + 1)) d p = lessL (l.take k) d p := by rw [lessL_take hk, if_neg (by omega)]; simp
  have e1 : eqL (l.take (k + 1)) d p = eqL (l.take k) d p := by rw [eqL_take hk, if_neg (by omega)]; simp
  have e2 : moreL (l.take (k + 1)) d p = moreL (l.take k) d p ++ [l[k]] := by rw [moreL_take hk, if_pos hc]
  refine ⟨by rw [e0]; exact h.o0.kept hg h.a02, by rw [e1]; exact h.o1.kept hg h.a12, by rw [e2, strs_app, List.length_append]; exact ho, h.a01, apt_symm (apt_new (apt_symm h.a02) hn (own_lt h.o0)), apt_symm (apt_new (apt_symm h.a12) hn (own_lt h.o1))⟩
theorem Parts.put (h : Parts B wr l d p k v0 v1 v2) {g : Nat} (hg : g < B) (i : Nat) (u : Value) : Parts B (wr.setCell ⟨g, i, none⟩ u) l d p k v0 v1 v2 := by
  have f : ∀ {v : Value} {n : Nat} {xs : List Value}, wr.ownsRow B 9 1 v n xs → (wr.setCell ⟨g, i, none⟩ u).ownsRow B 9 1 v n xs := fun h =>
    own_far h (fun e => by have := (h.lt _ e).1; simp at this; omega) u
  exact ⟨f h.o0, f h.o1, f h.o2, h.a01, h.a02, h.a12⟩
end
theorem mk_succ (f : Nat) (l : List ByteArray) (d : Nat) (h : ¬ l.length < 2) : mk (f + 1) l d = ((mk f (lessL l d (piv l d)) d).1 ++ (if 0 ≤ piv l d then mk f (eqL l d (piv l d)) (d + 1) else (eqL l d (piv l d), 0)).1 ++ (mk f (moreL l d (piv l d)) d).1,
    l.length + (mk f (lessL l d (piv l d)) d).2 + (if 0 ≤ piv l d then mk f (eqL l d (piv l d)) (d + 1) else (eqL l d (piv l d), 0)).2 + (mk f (moreL l d (piv l d)) d).2) := by
  rw [mk, if_neg h]
structure Full (B : Nat) (wr : World) (l : List ByteArray) (d : Nat) (p : Int) (v0 v1 v2 : Value) : Prop where
  o0 : wr.ownsRow B 9 1 v0 (lessL l d p).length (strs (lessL l d p))
  o1 : wr.ownsRow B 9 1 v1 (eqL l d p).length (strs (eqL l d p))
  o2 : wr.ownsRow B 9 1 v2 (moreL l d p).length (strs (moreL l d p))
theorem Parts.full {B : Nat} {wr : World} {l : List ByteArray} {d : Nat} {p : Int} {v0 v1 v2 : Value} (h : Parts B wr l d p l.length v0 v1 v2) : Full B wr l d p v0 v1 v2 := by
  obtain ⟨h0, h1, h2, _, _, _⟩ := h
  rw [List.take_length] at h0 h1 h2
  exact ⟨h0, h1, h2⟩
theorem joined_of {w3 : World} {la lb lc : List ByteArray} {va vb vc : Value} (h0 : SL w3 1 va la.length (strs la)) (h1 : SL w3 1 vb lb.length (strs lb)) (h2 : SL w3 1 vc lc.length (strs lc)) (hl : la.length + lb.length + lc.length ≤ 1048576) :
    Calls Try.prog 66 #[.slice (some ⟨w3.heap.size, 0, none⟩) 3 3] (w3.alloc (.cells #[va, vb, vc] 24)) fun e w' => ∃ v, e = .returned v ∧ w'.ownsRow w3.heap.size 9 1 v (la ++ lb ++ lc).length (strs (la ++ lb ++ lc)) ∧ Below w3.heap.size w3 w' := by
  have hb : Below w3.heap.size w3 (w3.alloc (.cells #[va, vb, vc] 24)) := (Below.refl _ _).alloc (Nat.le_refl _) _
  have hl2 : [la, lb, lc].flatten = la ++ lb ++ lc := by simp
  have h := concat.concat_str (some ⟨w3.heap.size, 0, none⟩) 3 [va, vb, vc] [la, lb, lc] (w3.alloc (.cells #[va, vb, vc] 24)) (Blk.rd_all (Blk.new w3 _ [va, vb, vc].toArray)) (SLs.cons (h0.below hb) (SLs.cons (h1.below hb) (SLs.cons (h2.below hb) SLs.nil))) (by simp) (by rw [hl2, List.length_append, List.length_append]; omega)
  rw [hl2] at h
  exact h.mono fun e w' ⟨v, he, ho, hb2⟩ => ⟨v, he, own_base ho hb.size, below_step hb hb2⟩
theorem part_len (l : List ByteArray) (d : Nat) (p : Int) (k : Nat) : (lessL (l.take k) d p).length ≤ k ∧ (eqL (l.take k) d p).length ≤ k ∧ (moreL (l.take k) d p).length ≤ k := by
  have h := len3 (l.take k) d p
  have := List.length_take_le k l
  omega

set_option maxRecDepth 100000 in
set_option maxHeartbeats 2000000 in
theorem impl_small (A : Option Addr) (c : Nat) (l : List ByteArray) (d f : Nat) (w : World) (h2 : l.length < 2) (hc : l.length ≤ c) (hm : c ≤ maxLen) (hr : Rd w 1 A l.length (strs l)) :
    Calls Try.prog 43 #[.slice A l.length c, .int .i64 (d : Int)] w fun e w' => ∃ v, e = .returned (.tuple #[v, .int .i64 ((mk f l d).2 : Int)]) ∧ Out w w' A c l (mk f l d).1 v ∧ Below w.heap.size w w' := by
  have HM := Lib.hid (show mk f l d = (l, 0) by cases f <;> simp [mk, h2])
  go_enter Try.func43, Try.ntmps43
  go_wp2
  go_ret2
  exact ⟨_, by rw [HM.out]; rfl, by rw [HM.out]; exact ⟨⟨A, c, rfl, hc, hm, hr⟩, Or.inr ⟨rfl, rfl⟩⟩, Below.refl _ _⟩

set_option maxRecDepth 100000 in
set_option maxHeartbeats 4000000 in
theorem impl_step (f : Nat) (ih : ∀ (A : Option Addr) (c : Nat) (l : List ByteArray) (d : Nat) (w : World), M l d ≤ f → l.length ≤ c → c ≤ maxLen → l.length ≤ 1048576 → d ≤ 1048576 → (∀ s ∈ l, s.size ≤ 1048576) → l.length * f ≤ 1099511627776 → Rd w 1 A l.length (strs l) →
      Calls Try.prog 43 #[.slice A l.length c, .int .i64 (d : Int)] w fun e w' => ∃ v, e = .returned (.tuple #[v, .int .i64 ((mk f l d).2 : Int)]) ∧ Out w w' A c l (mk f l d).1 v ∧ Below w.heap.size w w')
    (A : Option Addr) (c : Nat) (l : List ByteArray) (d : Nat) (w : World) (hM : M l d ≤ f + 1) (hc : l.length ≤ c) (hm : c ≤ maxLen) (hn : l.length ≤ 1048576) (hd : d ≤ 1048576) (hs : ∀ s ∈ l, s.size ≤ 1048576) (hf : l.length * (f + 1) ≤ 1099511627776) (hr : Rd w 1 A l.length (strs l)) :
    Calls Try.prog 43 #[.slice A l.length c, .int .i64 (d : Int)] w fun e w' => ∃ v, e = .returned (.tuple #[v, .int .i64 ((mk (f + 1) l d).2 : Int)]) ∧ Out w w' A c l (mk (f + 1) l d).1 v ∧ Below w.heap.size w w' := by
    have IH := Lib.hid ih
    clear ih
    by_cases h2 : l.length < 2
    · exact impl_small A c l d (f + 1) w h2 hc hm hr
    obtain ⟨b, off, rfl, hp⟩ := hr.str (k := l.length / 2) (by omega)
    have HP := Lib.hid (show piv l d = chr (l[l.length / 2]'(by omega)) d by rw [piv, List.getD_eq_getElem?_getD, List.getElem?_eq_getElem (by omega)]; rfl)
    have hsp := hs (l[l.length / 2]'(by omega)) (List.getElem_mem _)
    have HS := Lib.hid hs
    have HSP := Lib.hid hsp
    have hcl := chr_lo (l[l.length / 2]'(by omega)) d
    have HC := Lib.hid (fun W => impl_chr (l[l.length / 2]'(by omega)) d W (Nat.le_trans hsp (by decide)) (Nat.le_trans hd (by decide)))
    rw [← HP.out] at HC hcl
    clear hs hsp
    generalize l[l.length / 2]'(by omega) = sp at hp HP HC HSP
    obtain ⟨p, hpv⟩ : ∃ p, p = piv l d := ⟨_, rfl⟩
    rw [← hpv] at HC hcl HP
    have HPV := Lib.hid hpv
    clear hpv
    go_enter Try.func43, Try.ntmps43
    go_wp2_with fail
    refine (HC.out _).mono ?_
    rintro e w' ⟨rfl, rfl⟩
    go_wp2
    go_loopw [33] (fun i wr => ∃ (k : Nat) (v0 v1 v2 : Value), k ≤ l.length ∧ i = .int .i64 (k : Int) ∧ Blk wr w.heap.size 74 #[v0, v1, v2] ∧ Parts (w.heap.size + 1) wr l d p k v0 v1 v2 ∧ Below w.heap.size w wr) (fun i _ => l.length - (intOf i).toNat)
    case atStart =>
      refine ⟨0, .slice none 0 0, .slice none 0 0, .slice none 0 0, by omega, rfl, Blk.new _ _ _, ?_, (Below.refl _ _).alloc (Nat.le_refl _) _⟩
      exact ⟨World.ownsRow_nil _ _ _ _, World.ownsRow_nil _ _ _ _, World.ownsRow_nil _ _ _ _, Or.inl rfl, Or.inl rfl, Or.inl rfl⟩
    case round =>
      obtain ⟨k, v0, v1, v2, hk, rfl, hB, hP, hb⟩ := hrel
      by_cases hlt : k < l.length
      · have hx := (hr.below hb).str_at hlt
        have hsx := HS.out l[k] (List.getElem_mem _)
        have HCX := Lib.hid (fun W => impl_chr l[k] d W (Nat.le_trans hsx (by decide)) (Nat.le_trans hd (by decide)))
        have hpl := part_len l d p k
        have HL0 := Lib.hid (fun (h : chr l[k] d < p) v' w' ho hg hn => Parts.less (v' := v') (w' := w') hP hlt h ho hg hn)
        have HL1 := Lib.hid (fun (h : chr l[k] d = p) v' w' ho hg hn => Parts.eq (v' := v') (w' := w') hP hlt h ho hg hn)
        have HL2 := Lib.hid (fun (h : p < chr l[k] d) v' w' ho hg hn => Parts.more (v' := v') (w' := w') hP hlt h ho hg hn)
        have hg0 : some w.heap.size ≠ v0.ownBlock := fun e => by have := (hP.o0.lt _ e.symm).1; omega
        have hg1 : some w.heap.size ≠ v1.ownBlock := fun e => by have := (hP.o1.lt _ e.symm).1; omega
        have hg2 : some w.heap.size ≠ v2.ownBlock := fun e => by have := (hP.o2.lt _ e.symm).1; omega
        have HG := Lib.hid (And.intro hg0 (And.intro hg1 hg2))
        have ho0 := hP.o0
        have ho1 := hP.o1
        have ho2 := hP.o2
        have hbs := hB.lt
        have HB := Lib.hid hB
        have HBL := Lib.hid (fun (row : Option Nat) (w' : World) (hg : wr.grownBy w' row) (hr : ∀ g, row = some g → w.heap.size ≤ g) => below_grown hb hb.size hg hr)
        have hbc0 := hB.cell 0
        have hbc1 := hB.cell 1
        have hbc2 := hB.cell 2
        simp at hbc0 hbc1 hbc2
        clear hsx hP hB hg0 hg1 hg2
        have hcx := chr_lo l[k] d
        generalize chr l[k] d = q at HCX HL0 HL1 HL2 hcx
        generalize l[k] = x at hx HCX HL0 HL1 HL2
        rcases Int.lt_trichotomy q p with hq | hq | hq
        · have hh : (lessL (l.take k) d p).length ≤ 1099511627776 := by have := hpl.1; omega
          go_wp2_with fail
          refine (HCX.out _).mono ?_
          rintro e w1 ⟨rfl, rfl⟩
          go_wp2_with (at_builtin; refine mem.push_at _ rfl _ _ 24 rfl (w.heap.size + 1) 9 _ 1 16 Try.underlying24 mem.info_str rfl Nat.one_pos v0 _ _ rfl ho0 (strs [x]) _ rfl (mem.strs_one [x]) rfl hh (by decide) hbs ?_; intro v' w' ho' hg' hnw'; have hB2 := HB.out.grown hg' (by first | exact HG.out.1 | exact HG.out.2.1 | exact HG.out.2.2); have hcc := hB2.cell 0; simp at hcc; have hff := hB2.thaw 0; obtain ⟨A', c', hve, _, _, _⟩ := own_form ho'; subst hve)
          have hP2 := ((HL0.out hq (.slice A' ((lessL (l.take k) d p).length + 1) c') w' ho' hg' hnw').put (g := w.heap.size) (by omega) 0 (.slice A' ((lessL (l.take k) d p).length + 1) c'))
          have hB3 := hB2.put 0 (.slice A' ((lessL (l.take k) d p).length + 1) c')
          have hb2 := (HBL.out _ _ hg' (fun g h => by have := (ho0.lt g h).1; omega)).setCell (p := ⟨w.heap.size, 0, none⟩) (Nat.le_refl _) (.slice A' ((lessL (l.take k) d p).length + 1) c')
          clear ho' hg' hnw'
          go_roundw
          case rel => exact ⟨k + 1, _, v1, v2, by omega, by go_num, hB3, hP2, hb2⟩
          case measure => simp [intOf]; omega
        · have hh : (eqL (l.take k) d p).length ≤ 1099511627776 := by have := hpl.2.1; omega
          go_wp2_with fail
          refine (HCX.out _).mono ?_
          rintro e w1 ⟨rfl, rfl⟩
          go_wp2_with (at_builtin; refine mem.push_at _ rfl _ _ 24 rfl (w.heap.size + 1) 9 _ 1 16 Try.underlying24 mem.info_str rfl Nat.one_pos v1 _ _ rfl ho1 (strs [x]) _ rfl (mem.strs_one [x]) rfl hh (by decide) hbs ?_; intro v' w' ho' hg' hnw'; have hB2 := HB.out.grown hg' (by first | exact HG.out.1 | exact HG.out.2.1 | exact HG.out.2.2); have hcc := hB2.cell 1; simp at hcc; have hff := hB2.thaw 1; obtain ⟨A', c', hve, _, _, _⟩ := own_form ho'; subst hve)
          have hP2 := ((HL1.out hq (.slice A' ((eqL (l.take k) d p).length + 1) c') w' ho' hg' hnw').put (g := w.heap.size) (by omega) 1 (.slice A' ((eqL (l.take k) d p).length + 1) c'))
          have hB3 := hB2.put 1 (.slice A' ((eqL (l.take k) d p).length + 1) c')
          have hb2 := (HBL.out _ _ hg' (fun g h => by have := (ho1.lt g h).1; omega)).setCell (p := ⟨w.heap.size, 1, none⟩) (Nat.le_refl _) (.slice A' ((eqL (l.take k) d p).length + 1) c')
          clear ho' hg' hnw'
          go_roundw
          case rel => exact ⟨k + 1, v0, _, v2, by omega, by go_num, hB3, hP2, hb2⟩
          case measure => simp [intOf]; omega
        · have hh : (moreL (l.take k) d p).length ≤ 1099511627776 := by have := hpl.2.2; omega
          go_wp2_with fail
          refine (HCX.out _).mono ?_
          rintro e w1 ⟨rfl, rfl⟩
          go_wp2_with (at_builtin; refine mem.push_at _ rfl _ _ 24 rfl (w.heap.size + 1) 9 _ 1 16 Try.underlying24 mem.info_str rfl Nat.one_pos v2 _ _ rfl ho2 (strs [x]) _ rfl (mem.strs_one [x]) rfl hh (by decide) hbs ?_; intro v' w' ho' hg' hnw'; have hB2 := HB.out.grown hg' (by first | exact HG.out.1 | exact HG.out.2.1 | exact HG.out.2.2); have hcc := hB2.cell 2; simp at hcc; have hff := hB2.thaw 2; obtain ⟨A', c', hve, _, _, _⟩ := own_form ho'; subst hve)
          have hP2 := ((HL2.out hq (.slice A' ((moreL (l.take k) d p).length + 1) c') w' ho' hg' hnw').put (g := w.heap.size) (by omega) 2 (.slice A' ((moreL (l.take k) d p).length + 1) c'))
          have hB3 := hB2.put 2 (.slice A' ((moreL (l.take k) d p).length + 1) c')
          have hb2 := (HBL.out _ _ hg' (fun g h => by have := (ho2.lt g h).1; omega)).setCell (p := ⟨w.heap.size, 2, none⟩) (Nat.le_refl _) (.slice A' ((moreL (l.take k) d p).length + 1) c')
          clear ho' hg' hnw'
          go_roundw
          case rel => exact ⟨k + 1, v0, v1, _, by omega, by go_num, hB3, hP2, hb2⟩
          case measure => simp [intOf]; omega
      · obtain rfl : k = l.length := by omega
        replace hP := hP.full
        have HPM := Lib.hid (show M (lessL l d p) d ≤ f ∧ (0 ≤ p → M (eqL l d p) (d + 1) ≤ f ∧ d + 1 ≤ 1048576) ∧ M (moreL l d p) d ≤ f from by
          have h1 := M_less (l := l) (d := d) (by omega)
          have h3 := M_more (l := l) (d := d) (by omega)
          refine ⟨by rw [HPV.out]; omega, fun h0 => ⟨?_, ?_⟩, by rw [HPV.out]; omega⟩
          · have h2 := M_eq (l := l) (d := d) (by omega) (by rw [← HPV.out]; exact h0)
            rw [HPV.out]; omega
          · by_cases hds : d < sp.size
            · have := HSP.out; omega
            · have := HP.out; rw [chr_out hds] at this; omega)
        have hl3 := len3 l d p
        have HMK := Lib.hid (mk_succ f l d h2)
        rw [← HPV.out] at HMK
        have hmul : (lessL l d p).length * f + (eqL l d p).length * f + (moreL l d p).length * f + l.length ≤ 1099511627776 := by
          rw [← Nat.add_mul, ← Nat.add_mul, hl3]; rw [Nat.mul_add, Nat.mul_one] at hf; exact hf
        have HMUL := Lib.hid hmul
        have HSS := Lib.hid (show (∀ s ∈ lessL l d p, s.size ≤ 1048576) ∧ (∀ s ∈ eqL l d p, s.size ≤ 1048576) ∧ (∀ s ∈ moreL l d p, s.size ≤ 1048576) from
          ⟨fun s h => HS.out s (List.mem_filter.1 h).1, fun s h => HS.out s (List.mem_filter.1 h).1, fun s h => HS.out s (List.mem_filter.1 h).1⟩)
        have HK0 := Lib.hid (mk_len f (lessL l d p) d)
        have HK1 := Lib.hid (mk_len f (eqL l d p) (d + 1))
        have HK2 := Lib.hid (mk_len f (moreL l d p) d)
        have HL3 := Lib.hid hl3
        have hlx : (lessL l d p).length ≤ 1048576 ∧ (eqL l d p).length ≤ 1048576 ∧ (moreL l d p).length ≤ 1048576 := by omega
        clear hl3 hmul
        obtain ⟨A0, c0, e0', h01, h02, hr0⟩ := own_form hP.o0
        obtain ⟨A1, c1, e1', h11, h12, hr1⟩ := own_form hP.o1
        obtain ⟨A2, c2, e2', h21, h22, hr2⟩ := own_form hP.o2
        subst e0' e1' e2'
        have IH0 := Lib.hid (fun W h => IH.out A0 c0 (lessL l d p) d W HPM.out.1 h01 h02 (by omega) hd HSS.out.1 (by have := HMUL.out; omega) h)
        have IH1 := Lib.hid (fun (h0 : 0 ≤ p) W h => IH.out A1 c1 (eqL l d p) (d + 1) W (HPM.out.2.1 h0).1 h11 h12 (by omega) (HPM.out.2.1 h0).2 HSS.out.2.1 (by have := HMUL.out; omega) h)
        rw [show ((d + 1 : Nat) : Int) = (d : Int) + 1 from by omega] at IH1
        have IH2 := Lib.hid (fun W h => IH.out A2 c2 (moreL l d p) d W HPM.out.2.2 h21 h22 (by omega) hd HSS.out.2.2 (by have := HMUL.out; omega) h)
        have HSL1 := Lib.hid (show SL wr 1 (.slice A1 (eqL l d p).length c1) (eqL l d p).length (strs (eqL l d p)) from ⟨A1, c1, rfl, h11, h12, hr1⟩)
        clear HPM HSS hP
        generalize lessL l d p = l0 at hr0 h01 HMK HMUL HK0 HL3 hlx IH0 hB
        generalize eqL l d p = l1 at hr1 h11 HMK HMUL HK1 HL3 hlx IH1 hB HSL1
        generalize moreL l d p = l2 at hr2 h21 HMK HMUL HK2 HL3 hlx IH2 hB
        have hbc0 : wr.cell? ⟨w.heap.size, 0, none⟩ = some (.slice A0 l0.length c0) := hB.cell 0
        have hlt0 := hB.lt
        clear hk
        go_wp2_with fail
        refine (IH0.out _ hr0).mono ?_
        rintro e w1 ⟨va, rfl, hO0, hb1⟩
        have hB1 := hB.below hb1 hlt0
        have hbc1 : w1.cell? ⟨w.heap.size, 1, none⟩ = some (.slice A1 l1.length c1) := hB1.cell 1
        have hbw1 := below_step hb hb1
        have hr1' := hr1.below hb1
        clear hB hbc0
        generalize mk f l0 d = m0 at HMK HK0 hO0 IH0
        have HSa := Lib.hid hO0.1
        obtain ⟨⟨Aa, ca, hva, _, _, _⟩, _⟩ := hO0
        subst hva
        by_cases h0 : 0 ≤ p
        · rw [if_pos h0] at HMK
          go_wp2_with fail
          refine (IH1.out h0 _ hr1').mono ?_
          rintro e w2 ⟨vb, rfl, hO1, hb2⟩
          have hB2 := hB1.below hb2 hB1.lt
          have hbc2 : w2.cell? ⟨w.heap.size, 2, none⟩ = some (.slice A2 l2.length c2) := hB2.cell 2
          have hbw2 := below_step hbw1 hb2
          have hr2' := hr2.below (below_step hb1 hb2)
          clear hB1 hbc1
          generalize mk f l1 (d + 1) = m1 at HMK HK1 hO1 IH1
          have HSb := Lib.hid hO1.1
          obtain ⟨⟨Ab, cb, hvb, _, _, _⟩, _⟩ := hO1
          subst hvb
          go_wp2_with fail
          refine (IH2.out _ hr2').mono ?_
          rintro e w3 ⟨vc, rfl, hO2, hb3⟩
          have hbw3 := below_step hbw2 hb3
          generalize mk f l2 d = m2 at HMK HK2 hO2 IH2
          have HSc := Lib.hid hO2.1
          obtain ⟨⟨Ac, cc, hvc, _, _, _⟩, _⟩ := hO2
          subst hvc
          have HC := Lib.hid (joined_of (HSa.out.below (below_step hb2 hb3)) (HSb.out.below hb3) HSc.out (by rw [HK0.out.1, HK1.out.1, HK2.out.1]; have := HL3.out; omega))
          have hcnt : m0.2 + m1.2 + m2.2 + l.length ≤ 1099511627776 := by have := HMUL.out; have := HK0.out.2; have := HK1.out.2; have := HK2.out.2; omega
          have HLN := Lib.hid (show (m0.1 ++ m1.1 ++ m2.1).length ≤ 1048576 by rw [List.length_append, List.length_append, HK0.out.1, HK1.out.1, HK2.out.1]; have := HL3.out; omega)
          clear HK0 HK1 HK2 IH0 IH1 IH2
          go_wp2_with fail
          refine HC.out.mono ?_
          rintro e w4 ⟨v, rfl, ho, hb4⟩
          have hbw4 := below_step hbw3 hb4
          have HO := Lib.hid ho
          clear ho
          go_wp2
          go_ret2
          refine ⟨_, by rw [HMK.out]; exact congrArg Ending.returned (congrArg Value.tuple (congrArg (fun z => #[v, .int .i64 z]) (by omega))), ?_, hbw4⟩
          rw [HMK.out]
          exact ⟨.of_own HO.out, Or.inl (own_base HO.out hbw3.size)⟩
        · rw [if_neg h0] at HMK
          have hbc2 : w1.cell? ⟨w.heap.size, 2, none⟩ = some (.slice A2 l2.length c2) := hB1.cell 2
          have hr2' := hr2.below hb1
          clear hB1
          go_wp2_with fail
          refine (IH2.out _ hr2').mono ?_
          rintro e w3 ⟨vc, rfl, hO2, hb3⟩
          have hbw3 := below_step hbw1 hb3
          generalize mk f l2 d = m2 at HMK HK2 hO2 IH2
          have HSc := Lib.hid hO2.1
          obtain ⟨⟨Ac, cc, hvc, _, _, _⟩, _⟩ := hO2
          subst hvc
          have HC := Lib.hid (joined_of (HSa.out.below hb3) ((HSL1.out.below hb1).below hb3) HSc.out (by rw [HK0.out.1, HK2.out.1]; have := HL3.out; omega))
          have hcnt : m0.2 + m2.2 + l.length ≤ 1099511627776 := by have := HMUL.out; have := HK0.out.2; have := HK2.out.2; omega
          clear HK0 HK1 HK2 IH0 IH1 IH2
          go_wp2_with fail
          refine HC.out.mono ?_
          rintro e w4 ⟨v, rfl, ho, hb4⟩
          have hbw4 := below_step hbw3 hb4
          have HO := Lib.hid ho
          clear ho
          go_wp2
          go_ret2
          refine ⟨_, by rw [HMK.out]; exact congrArg Ending.returned (congrArg Value.tuple (congrArg (fun z => #[v, .int .i64 z]) (by simp only; omega))), ?_, hbw4⟩
          rw [HMK.out]
          exact ⟨.of_own HO.out, Or.inl (own_base HO.out hbw3.size)⟩
theorem impl_any : ∀ (f : Nat) (A : Option Addr) (c : Nat) (l : List ByteArray) (d : Nat) (w : World), M l d ≤ f → l.length ≤ c → c ≤ maxLen → l.length ≤ 1048576 → d ≤ 1048576 → (∀ s ∈ l, s.size ≤ 1048576) → l.length * f ≤ 1099511627776 → Rd w 1 A l.length (strs l) →
      Calls Try.prog 43 #[.slice A l.length c, .int .i64 (d : Int)] w fun e w' => ∃ v, e = .returned (.tuple #[v, .int .i64 ((mk f l d).2 : Int)]) ∧ Out w w' A c l (mk f l d).1 v ∧ Below w.heap.size w w' := by
  intro f
  induction f with
  | zero =>
    intro A c l d w hM hc hm hn hd hs hf hr
    have : l = [] := by
      cases l with
      | nil => rfl
      | cons s r => simp only [M, List.map_cons, List.sum_cons] at hM; omega
    subst this
    exact impl_small A c [] d 0 w (by simp) hc hm hr
  | succ f ih =>
    intro A c l d w hM hc hm hn hd hs hf hr
    exact impl_step f ih A c l d w hM hc hm hn hd hs hf hr
end Go.Proofs.Ytaeimdcmpjanbaa.multi
