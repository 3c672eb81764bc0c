/- The reference's merge of many lists: l16Merge. Condition: 1 to 1024 lists, at most 2^20 records. -/
import Derived.Test.YtgffabjajbgbjaaTnRp
import Derived.Test.YtgffabjajbgbjaaTnCu
import Derived.Test.YtgffabjajbgbjaaTnF
import Derived.Test.YtgffabjajbgbjaaNest
import Derived.Deep.RegionLaw
import Derived.Deep.DeepCutAuto
import Derived.Deep.CutBlock
set_option linter.unusedVariables false
set_option linter.unusedSimpArgs false
namespace Go.Proofs.Ytgffabjajbgbjaa.tn
open Go.RowKit Go.Proofs.Ytgffabjajbgbjaa.mem Go.Proofs.Ytgffabjajbgbjaa.nest

/-- the reference's state between two rounds -/
structure Ms (w wr : World) (k bt ra : Nat) (A1 : Option Addr) (c1 : Nat) (A2 : Option Addr) (c2 : Nat) (A3 : Option Addr) (c3 : Nat) (cur : List (List Rec)) (nx : List Int) (o : Value) (dn : List Rec) : Prop where
  tb : Blk wr bt 96 #[.slice A1 k c1, .slice A2 k c2, .slice A3 k c3, .int .i64 ((wn cur : Nat) : Int)]
  K : wr.ownsRow w.heap.size 3 1 (.slice A1 k c1) k (ints (kys cur))
  D : wr.ownsRow w.heap.size 4 1 (.slice A2 k c2) k (bools (dns cur))
  N : Blk wr ra 3 (ints nx).toArray
  O : wr.ownsRow (bt + 1) 87 2 o dn.length (recs dn)
  ko : nest.Apt (.slice A1 k c1) o
  dq : nest.Apt (.slice A2 k c2) o
  kb : (Value.slice A1 k c1).ownBlock ≠ some bt ∧ (Value.slice A1 k c1).ownBlock ≠ some ra ∧ (Value.slice A2 k c2).ownBlock ≠ some bt ∧ (Value.slice A2 k c2).ownBlock ≠ some ra
  lo : w.heap.size ≤ ra ∧ ra < bt
  bel : Below w.heap.size w wr
section
variable {w wr w' : World} {k bt ra : Nat} {A1 : Option Addr} {c1 : Nat} {A2 : Option Addr} {c2 : Nat} {A3 : Option Addr} {c3 : Nat} {cur : List (List Rec)} {nx : List Int} {o : Value} {dn : List Rec}
theorem Ms.below (h : Ms w wr k bt ra A1 c1 A2 c2 A3 c3 cur nx o dn) (hb : Below wr.heap.size wr w') : Ms w w' k bt ra A1 c1 A2 c2 A3 c3 cur nx o dn :=
  ⟨h.tb.below hb h.tb.lt, own_below h.K hb, own_below h.D hb, h.N.below hb h.N.lt, own_below h.O hb, h.ko, h.dq, h.kb, h.lo, below_at h.bel h.bel.size hb⟩
theorem Ms.push (h : Ms w wr k bt ra A1 c1 A2 c2 A3 c3 cur nx o dn) {o' : Value} {x : Rec} (ho : w'.ownsRow (bt + 1) 87 2 o' (dn.length + 1) (recs dn ++ recs [x])) (hg : wr.grownBy w' o.ownBlock) (hn : NewAt wr o o') : Ms w w' k bt ra A1 c1 A2 c2 A3 c3 cur nx o' (dn ++ [x]) := by
  have hlo := h.lo
  have hge := own_ge h.O
  have far : ∀ y, y ≤ bt → some y ≠ o.ownBlock := fun y hy e => by have := hge y e.symm; omega
  refine ⟨h.tb.grown hg (far bt (Nat.le_refl _)), h.K.kept hg h.ko, h.D.kept hg h.dq, h.N.grown hg (far ra (by omega)), by rw [List.length_append, recs_app]; exact ho, (apt_symm (apt_new (apt_symm h.ko) hn (own_lt h.K))), (apt_symm (apt_new (apt_symm h.dq) hn (own_lt h.D))), h.kb, h.lo, below_grown h.bel h.bel.size hg (fun g e => by have := hge g e; omega)⟩
theorem Ms.putN (h : Ms w wr k bt ra A1 c1 A2 c2 A3 c3 cur nx o dn) (i : Nat) (x : Int) : Ms w (wr.setCell ⟨ra, i, none⟩ (.int .i64 x)) k bt ra A1 c1 A2 c2 A3 c3 cur (nx.set i x) o dn := by
  have hlo := h.lo
  exact ⟨h.tb.far (p := ⟨ra, i, none⟩) (by simp; omega) _, own_far h.K (p := ⟨ra, i, none⟩) h.kb.2.1 _, own_far h.D (p := ⟨ra, i, none⟩) h.kb.2.2.2 _, by rw [← ints_put]; exact h.N.put _ _, own_far h.O (p := ⟨ra, i, none⟩) (fun e => by have := own_ge h.O _ e; simp at this; omega) _, h.ko, h.dq, h.kb, h.lo, h.bel.setCell (p := ⟨ra, i, none⟩) h.lo.1 _⟩
/-- the tree written over by the next one -/
theorem Ms.next (h : Ms w wr k bt ra A1 c1 A2 c2 A3 c3 cur nx o dn) {B1 : Option Addr} {d1 : Nat} {B2 : Option Addr} {d2 : Nat} {B3 : Option Addr} {d3 : Nat} {cur' : List (List Rec)} {nx' : List Int} {dn' : List Rec} (hnx : nx' = nx) (hdn : dn' = dn)
    (hK : w'.ownsRow wr.heap.size 3 1 (.slice B1 k d1) k (ints (kys cur'))) (hD : w'.ownsRow wr.heap.size 4 1 (.slice B2 k d2) k (bools (dns cur'))) (hb : Below wr.heap.size wr w') :
    Ms w ((((w'.setCell ⟨bt, 0, none⟩ (.slice B1 k d1)).setCell ⟨bt, 1, none⟩ (.slice B2 k d2)).setCell ⟨bt, 2, none⟩ (.slice B3 k d3)).setCell ⟨bt, 3, none⟩ (.int .i64 ((wn cur' : Nat) : Int))) k bt ra B1 d1 B2 d2 B3 d3 cur' nx' o dn' := by
  subst hnx; subst hdn
  have h' := h.below hb
  have hlo := h.lo
  have hbl := h.tb.lt
  have hral := h.N.lt
  have ne : ∀ {e : TypeId} {v : Value} {xs : List Value} {y : Nat}, w'.ownsRow wr.heap.size e 1 v k xs → y < wr.heap.size → v.ownBlock ≠ some y := fun ho hy e => by have := own_ge ho _ e; omega
  have four : ∀ {e : TypeId} {B sz n : Nat} {v : Value} {xs : List Value}, w'.ownsRow B e sz v n xs → v.ownBlock ≠ some bt → ((((w'.setCell ⟨bt, 0, none⟩ (.slice B1 k d1)).setCell ⟨bt, 1, none⟩ (.slice B2 k d2)).setCell ⟨bt, 2, none⟩ (.slice B3 k d3)).setCell ⟨bt, 3, none⟩ (.int .i64 ((wn cur' : Nat) : Int))).ownsRow B e sz v n xs := fun ho hne =>
    own_far (own_far (own_far (own_far ho (p := ⟨bt, 0, none⟩) hne _) (p := ⟨bt, 1, none⟩) hne _) (p := ⟨bt, 2, none⟩) hne _) (p := ⟨bt, 3, none⟩) hne _
  have hra : ra ≠ bt := by omega
  have hwb : w.heap.size ≤ bt := by omega
  exact ⟨((((h'.tb).put 0 (.slice B1 k d1)).put 1 (.slice B2 k d2)).put 2 (.slice B3 k d3)).put 3 (.int .i64 ((wn cur' : Nat) : Int)), own_base (four hK (ne hK hbl)) h.bel.size, own_base (four hD (ne hD hbl)) h.bel.size,
    (((h'.N.far (p := ⟨bt, 0, none⟩) hra _).far (p := ⟨bt, 1, none⟩) hra _).far (p := ⟨bt, 2, none⟩) hra _).far (p := ⟨bt, 3, none⟩) hra _, four h'.O (fun e => by have := own_ge h'.O _ e; omega),
    apt_above (own_ge hK) (own_lt h.O), apt_above (own_ge hD) (own_lt h.O), ⟨ne hK hbl, ne hK hral, ne hD hbl, ne hD hral⟩, h.lo,
    (((h'.bel.setCell (p := ⟨bt, 0, none⟩) hwb _).setCell (p := ⟨bt, 1, none⟩) hwb _).setCell (p := ⟨bt, 2, none⟩) hwb _).setCell (p := ⟨bt, 3, none⟩) hwb _⟩
end
theorem rep_bools' (n : Nat) : rep n (.bool false) = (bools (List.replicate n false)).toArray := by simp [rep, bools]
theorem fill_step {rs : List (List Rec)} {i : Nat} {ks : List Int} {ds : List Bool} (hi : i < rs.length) (hk : ks.length = rs.length) (hdl : ds.length = rs.length) (h : ∀ p, p < rs.length → ks[p]? = some (if p < i then hd (rs.getD p []) else 0) ∧ ds[p]? = some (if p < i then (rs.getD p []).isEmpty else false)) {ks' : List Int} (hks : ks' = ks.set i (hd (rs.getD i []))) :
    ∀ p, p < rs.length → ks'[p]? = some (if p < i + 1 then hd (rs.getD p []) else 0) ∧ (ds.set i (rs.getD i []).isEmpty)[p]? = some (if p < i + 1 then (rs.getD p []).isEmpty else false) := by
  subst hks
  intro p hp
  by_cases e : p = i
  · subst e
    rw [List.getElem?_set_self (by omega), List.getElem?_set_self (by omega), if_pos (by omega), if_pos (by omega)]
    exact ⟨rfl, rfl⟩
  · rw [List.getElem?_set_ne (Ne.symm e), List.getElem?_set_ne (Ne.symm e), (h p hp).1, (h p hp).2]
    by_cases h2 : p < i
    · rw [if_pos h2, if_pos h2, if_pos (by omega), if_pos (by omega)]; exact ⟨rfl, rfl⟩
    · rw [if_neg h2, if_neg h2, if_neg (by omega), if_neg (by omega)]; exact ⟨rfl, rfl⟩
theorem kset_eq (cur : List (List Rec)) (W : Nat) (t : List Rec) : kset (kys cur) W (hd t) t.isEmpty = kys (cur.set W t) := by
  rw [kys_set]; unfold kset
  cases t <;> rfl
theorem dset_eq (cur : List (List Rec)) (W : Nat) (x : Rec) (t : List Rec) (h : cur.getD W [] = x :: t) : dset (dns cur) W t.isEmpty = dns (cur.set W t) := by
  rw [dns_set]; unfold dset
  cases t with
  | nil => rfl
  | cons y t' =>
    refine list_of (by simp) fun p hp => ?_
    have hp' : p < (dns cur).length := hp
    by_cases e : p = W
    · subst e
      show (dns cur)[p]? = _
      rw [List.getElem?_set_self hp', dns_get (by rw [dns_len] at hp'; exact hp'), h]; rfl
    · show (dns cur)[p]? = _
      rw [List.getElem?_set_ne (Ne.symm e)]
set_option maxRecDepth 100000 in
set_option maxHeartbeats 4000000 in
theorem merge_any (A : Option Addr) (c : Nat) (vs : List Value) (rs : List (List Rec)) (w : World) (h0 : 0 < rs.length) (hn : rs.length ≤ 1024) (htot : tot rs ≤ 1048576) (hr : RdL_rec w A vs rs) :
    Calls Try.prog 91 #[.slice A rs.length c] w fun e w' => ∃ v, e = .returned (.tuple #[v, .int .i64 ((rs.length - 1 + (km (tot rs) rs).2 : Nat) : Int)]) ∧ OwnRec w w' v (km (tot rs) rs).1 ∧ Below w.heap.size w w' := by
  have hmk := make_rep (P := Try.prog) 22 3 _ _ Try.underlying22 info_int rfl rs.length (by omega) (by unfold maxLen; omega)
  have hmb := make_rep (P := Try.prog) 93 4 _ _ Try.underlying93 info_bool rfl rs.length (by omega) (by unfold maxLen; omega)
  have HBX := Lib.hid (box3 w 3 4 3 (rep rs.length (.int .i64 0)) (rep rs.length (.bool false)) (rep rs.length (.int .i64 0)))
  obtain ⟨b, off, rfl, hcl⟩ := hr.1.cells h0
  have HCL := Lib.hid (fun (i : Nat) (hi : i < rs.length) => show ∃ Ar cr, (∀ W, Below w.heap.size w W → W.cell? ⟨b, off + i, none⟩ = some (.slice Ar (rs.getD i []).length cr)) ∧ (rs.getD i []).length ≤ cr ∧ cr ≤ maxLen ∧ ∀ W, Below w.heap.size w W → Rd W 2 Ar (rs.getD i []).length (recs (rs.getD i [])) from by
    obtain ⟨Ar, cr, hvi, h1, h2, h3⟩ := hr.2 i hi
    have hre : rs[i] = rs.getD i [] := by rw [List.getD_eq_getElem?_getD, List.getElem?_eq_getElem hi]; rfl
    rw [hre] at hvi h1 h3
    exact ⟨Ar, cr, fun W hb => cells_below hb (hcl i _ hvi), h1, h2, fun W hb => h3.below hb⟩)
  clear hcl hr
  go_enter Try.func91, Try.ntmps91
  go_wp2
  clear hmk hmb
  go_loopw [7] (fun x wr => ∃ (i : Nat) (ks : List Int) (ds : List Bool), i ≤ rs.length ∧ x = .int .i64 (i : Int) ∧ ks.length = rs.length ∧ ds.length = rs.length ∧ (∀ p, p < rs.length → ks[p]? = some (if p < i then hd (rs.getD p []) else 0) ∧ ds[p]? = some (if p < i then (rs.getD p []).isEmpty else false)) ∧ Blk wr w.heap.size 3 (ints ks).toArray ∧ Blk wr (w.heap.size + 1) 4 (bools ds).toArray ∧ Blk wr (w.heap.size + 2) 3 (ints (List.replicate rs.length 0)).toArray ∧ Below w.heap.size w wr) (fun x _ => rs.length - (intOf x).toNat)
  case atStart => exact ⟨0, List.replicate rs.length 0, List.replicate rs.length false, Nat.zero_le _, rfl, by simp, by simp, fun p hp => by simp [hp], by rw [← rep_ints]; exact HBX.out.1, by rw [← rep_bools']; exact HBX.out.2.1, by rw [← rep_ints]; exact HBX.out.2.2.1, HBX.out.2.2.2⟩
  case round =>
    obtain ⟨i, ks, ds, hi, rfl, hkl, hdl, hkd, hbk, hbd, hbn, hb⟩ := hrel
    have HKD := Lib.hid hkd
    have HLN := Lib.hid (And.intro hkl hdl)
    have HBK := Lib.hid hbk
    have HBD := Lib.hid hbd
    have HBN := Lib.hid hbn
    by_cases hlt : i < rs.length
    · have q1 : (i : Int) < (rs.length : Int) := by omega
      obtain ⟨Ar, cr, hcw, hrc, hcm, hrw⟩ := HCL.out i hlt
      have HRW := Lib.hid hrw
      have HCW := Lib.hid hcw
      have hcell := hcw wr hb
      have hkd' := hkd i hlt
      rw [if_neg (Nat.lt_irrefl i), if_neg (Nat.lt_irrefl i)] at hkd'
      have k1 := (hbk.cell i).trans (ints_cell hkd'.1)
      have d1 := (hbd.cell i).trans (bools_cell hkd'.2)
      have k2 := fun i => hbk.thaw i
      have d2 := fun i => hbd.thaw i
      obtain ⟨r, hrd⟩ : ∃ r, r = rs.getD i [] := ⟨_, rfl⟩
      rw [← hrd] at hcell hrc HRW HCW
      unfold maxLen at hcm
      have HFS := Lib.hid (fun ks' => fill_step (ks' := ks') hlt HLN.out.1 HLN.out.2 HKD.out)
      rw [← hrd] at HFS
      clear hrd hkd' hkd hbk hbd hbn hrw hcw hkl hdl
      cases r with
      | nil =>
        have HS := Lib.hid (HFS.out ks (by
          refine (list_of (by rw [List.length_set]) fun p hp => ?_)
          by_cases e : p = i
          · subst e
            rw [List.getElem?_set_self (by have := HLN.out; omega), (HKD.out p (by omega)).1, if_neg (Nat.lt_irrefl p)]; rfl
          · rw [List.getElem?_set_ne (Ne.symm e)]))
        simp only [List.isEmpty_nil] at HS
        have HW := Lib.hid (show Blk (wr.setCell ⟨w.heap.size + 1, i, none⟩ (.bool true)) w.heap.size 3 (ints ks).toArray ∧ Blk (wr.setCell ⟨w.heap.size + 1, i, none⟩ (.bool true)) (w.heap.size + 1) 4 (bools (ds.set i true)).toArray ∧ Blk (wr.setCell ⟨w.heap.size + 1, i, none⟩ (.bool true)) (w.heap.size + 2) 3 (ints (List.replicate rs.length 0)).toArray ∧ Below w.heap.size w (wr.setCell ⟨w.heap.size + 1, i, none⟩ (.bool true)) from
          ⟨HBK.out.far (p := ⟨w.heap.size + 1, i, none⟩) (by simp) _, by rw [← bools_put]; exact HBD.out.put _ _, HBN.out.far (p := ⟨w.heap.size + 1, i, none⟩) (by simp) _, below_set hb (Nat.le_succ _) i _⟩)
        clear hb
        go_wp2
        go_roundw
        case rel => exact ⟨i + 1, ks, ds.set i true, by omega, by go_num, HLN.out.1, by rw [List.length_set]; exact HLN.out.2, HS.out, HW.out.1, HW.out.2.1, HW.out.2.2.1, HW.out.2.2.2⟩
        case measure => simp [intOf]; omega
      | cons x t =>
        have HS := Lib.hid (HFS.out _ rfl)
        simp only [List.isEmpty_cons, hd] at HS
        have hbf : Below w.heap.size w (wr.setCell ⟨w.heap.size + 1, i, none⟩ (.bool false)) := below_set hb (Nat.le_succ _) i _
        obtain ⟨br, orr, rfl, hk0, _⟩ := (HRW.out _ hbf).rec (k := 0) (by simp)
        have hcell2 := HCW.out _ hbf
        simp only [List.getElem_cons_zero, Nat.zero_mul, Nat.add_zero] at hk0
        have q2 : (((x :: t).length : Int) == 0) = false := by rw [beq_eq_false_iff_ne]; simp only [List.length_cons]; omega
        have q3 : (0 : Int) < ((x :: t).length : Int) := by simp only [List.length_cons]; omega
        have k1' : (wr.setCell ⟨w.heap.size + 1, i, none⟩ (.bool false)).cell? ⟨w.heap.size, i, none⟩ = some (.int .i64 0) := ((HBK.out.far (p := ⟨w.heap.size + 1, i, none⟩) (by simp) (.bool false)).cell i).trans (ints_cell (by rw [(HKD.out i hlt).1, if_neg (Nat.lt_irrefl i)]))
        have HW := Lib.hid (show Blk ((wr.setCell ⟨w.heap.size + 1, i, none⟩ (.bool false)).setCell ⟨w.heap.size, i, none⟩ (.int .i64 x.key)) w.heap.size 3 (ints (ks.set i x.key)).toArray ∧ Blk ((wr.setCell ⟨w.heap.size + 1, i, none⟩ (.bool false)).setCell ⟨w.heap.size, i, none⟩ (.int .i64 x.key)) (w.heap.size + 1) 4 (bools (ds.set i false)).toArray ∧ Blk ((wr.setCell ⟨w.heap.size + 1, i, none⟩ (.bool false)).setCell ⟨w.heap.size, i, none⟩ (.int .i64 x.key)) (w.heap.size + 2) 3 (ints (List.replicate rs.length 0)).toArray ∧ Below w.heap.size w ((wr.setCell ⟨w.heap.size + 1, i, none⟩ (.bool false)).setCell ⟨w.heap.size, i, none⟩ (.int .i64 x.key)) from
          ⟨by rw [← ints_put]; exact (HBK.out.far (p := ⟨w.heap.size + 1, i, none⟩) (by simp) _).put _ _, by rw [← bools_put]; exact (HBD.out.put _ _).far (p := ⟨w.heap.size, i, none⟩) (by simp) _, (HBN.out.far (p := ⟨w.heap.size + 1, i, none⟩) (by simp) _).far (p := ⟨w.heap.size, i, none⟩) (by simp) _, below_set hbf (Nat.le_refl _) i _⟩)
        obtain ⟨n, hnn⟩ : ∃ n, n = (x :: t).length := ⟨_, rfl⟩
        rw [← hnn] at hcell hcell2 hrc q2 q3
        clear hb hbf hnn
        go_wp2
        go_roundw
        case rel => exact ⟨i + 1, ks.set i x.key, ds.set i false, by omega, by go_num, by rw [List.length_set]; exact HLN.out.1, by rw [List.length_set]; exact HLN.out.2, HS.out, HW.out.1, HW.out.2.1, HW.out.2.2.1, HW.out.2.2.2⟩
        case measure => simp [intOf]; omega
    · obtain rfl : i = rs.length := by omega
      have e1 : ks = kys rs := list_of (by rw [kys_len]; exact hkl) fun p hp => by
        rw [(hkd p (by omega)).1, if_pos (by omega), kys_get (by omega)]
      have e2 : ds = dns rs := list_of (by rw [dns_len]; exact hdl) fun p hp => by
        rw [(hkd p (by omega)).2, if_pos (by omega), dns_get (by omega)]
      subst e1
      subst e2
      have HMK := Lib.hid (make_any (some ⟨w.heap.size, 0, none⟩) (some ⟨w.heap.size + 1, 0, none⟩) rs.length rs.length rs.length (kys rs) (dns rs) wr (kys_len rs) (dns_len rs) h0 hn (by have := hbk.rd_all; rwa [len_ints, kys_len] at this) (by have := hbd.rd_all; rwa [len_bools, dns_len] at this))
      have HB := Lib.hid hb
      have q2 : IntKind.i64.wrap ((rs.length : Int) - 1) = (rs.length : Int) - 1 := by rw [IntKind.wrap_i64]; omega
      have HK1 := Lib.hid (show ((rs.length : Int) - 1) = ((rs.length - 1 : Nat) : Int) by omega)
      have HCOST := Lib.hid (km_cost (tot rs) rs h0 hn)
      have HKL := Lib.hid (km_len (tot rs) rs)
      have q1 : ¬ (rs.length : Int) < (rs.length : Int) := by omega
      have hw3 := hbn.lt
      clear hkd hbk hbd hbn hb hkl hdl
      obtain ⟨wo, hwo⟩ : ∃ wo : World, wo = wr := ⟨_, rfl⟩
      rw [← hwo] at HMK HB HBN hw3 ⊢
      clear hwo HKD HBK HBD HBX
      go_wp2_with fail
      with_reducible refine HMK.out.mono ?_
      rintro e w2 ⟨A1, c1, A2, c2, A3, c3, rfl, ho2, hd2, hb2⟩
      go_wp2
      have HM0 := Lib.hid (show Ms w ((w2.alloc (.cells #[.slice A1 rs.length c1, .slice A2 rs.length c2, .slice A3 rs.length c3, .int .i64 ((win (kys rs) (dns rs) rs.length 1 : Nat) : Int)] 96)).alloc (.cells #[] 87)) rs.length w2.heap.size (w.heap.size + 1 + 1) A1 c1 A2 c2 A3 c3 rs (List.replicate rs.length 0) (.slice (some ⟨w2.heap.size + 1, 0, none⟩) 0 0) [] from by
        obtain ⟨x1, x2, x3⟩ := box2 w2 96 87 #[.slice A1 rs.length c1, .slice A2 rs.length c2, .slice A3 rs.length c3, .int .i64 ((win (kys rs) (dns rs) rs.length 1 : Nat) : Int)] #[]
        have hs2 := hb2.size
        have hwo := HB.out.size
        have lt1 := own_lt ho2
        have lt2 := own_lt hd2
        have ge1 := own_ge ho2
        have ge2 := own_ge hd2
        have hoo : ∀ g, (Value.slice (some ⟨w2.heap.size + 1, 0, none⟩) 0 0).ownBlock = some g → w2.heap.size ≤ g := fun g e => by simp [Value.ownBlock] at e; omega
        refine ⟨x1, own_base (own_below ho2 x3) hwo, own_base (own_below hd2 x3) hwo, (HBN.out.below hb2 HBN.out.lt).below x3 (HBN.out.below hb2 HBN.out.lt).lt, ?_, apt_symm (apt_above hoo lt1), apt_symm (apt_above hoo lt2), ⟨fun e => by have := lt1 _ e; omega, fun e => by have := ge1 _ e; omega, fun e => by have := lt2 _ e; omega, fun e => by have := ge2 _ e; omega⟩, ⟨by omega, by omega⟩, below_at (below_at HB.out hwo hb2) (by omega) x3⟩
        have := x2.own (base := w2.heap.size + 1) (size := 2) (n := 0) (c := 0) (Nat.le_refl _) (Nat.le_refl _) (Nat.zero_le _) (by simp)
        simpa [recs] using this)
      rw [HK1.out]
      obtain ⟨bt, hbt⟩ : ∃ bt, bt = w2.heap.size := ⟨_, rfl⟩
      obtain ⟨ra, hra⟩ : ∃ ra, ra = w.heap.size + 1 + 1 := ⟨_, rfl⟩
      have HW2 := Lib.hid (show Below w.heap.size w w2 from below_at HB.out HB.out.size hb2)
      rw [← hbt, ← hra] at HM0 ⊢
      clear q2 ho2 hd2 hb2 HMK HBN hw3 hbt hra
      go_loopg [9, 10] (tot rs + 2) (fun f o x wr => ∃ (cur : List (List Rec)) (nx : List Int) (dn : List Rec) (cmp : Nat) (A1 : Option Addr) (c1 : Nat) (A2 : Option Addr) (c2 : Nat) (A3 : Option Addr) (c3 : Nat), tot cur + 1 < f ∧ Cur rs cur nx ∧ Ms w wr rs.length bt ra A1 c1 A2 c2 A3 c3 cur nx o dn ∧ dn ++ (km (tot cur) cur).1 = (km (tot rs) rs).1 ∧ x = .int .i64 (cmp : Int) ∧ cmp + (km (tot cur) cur).2 = rs.length - 1 + (km (tot rs) rs).2)
      case atStart => exact ⟨rs, List.replicate rs.length 0, [], rs.length - 1, A1, c1, A2, c2, A3, c3, by omega, cur_init rs, HM0.out, rfl, rfl, rfl⟩
      case round =>
        clear HM0
        obtain ⟨cur, nx, dn, cmp, A1, c1, A2, c2, A3, c3, hgk, hcur, hS, hkm, rfl, hcm⟩ := hrel
        have HCU := Lib.hid hcur
        have HS := Lib.hid hS
        have HKM := Lib.hid hkm
        have HCM := Lib.hid hcm
        obtain ⟨W, hW⟩ : ∃ W, W = wn cur := ⟨_, rfl⟩
        have hWk : W < rs.length := by rw [hW, ← hcur.len]; exact wn_lt (by rw [hcur.len]; exact h0)
        have hWc : W < cur.length := by rw [hcur.len]; exact hWk
        have HW := Lib.hid hW
        obtain ⟨g2, rfl, _, _⟩ := own_addr hS.D h0
        have t1 := hS.tb.cell 1
        have t3 := hS.tb.cell 3
        simp only [List.getElem?_toArray, List.getElem?_cons_zero, List.getElem?_cons_succ] at t1 t3
        rw [← hW] at t3
        have d1 := own_cell hS.D (i := W) (show (bools (dns cur))[W]? = some (.bool (cur.getD W []).isEmpty) by simp [bools, dns_get hWc])
        have q3 : (W : Int) < (rs.length : Int) := by omega
        clear hcur hS hkm hcm hW
        cases hg : cur.getD W [] with
        | nil =>
          rw [hg] at d1
          simp only [List.isEmpty_nil] at d1
          have HKD := Lib.hid (show km (tot cur) cur = ([], 0) from km_done (by rw [← HW.out]; exact hg))
          clear hg
          go_wp2
          go_ret2
          have e1 : dn = (km (tot rs) rs).1 := by have := HKM.out; rw [HKD.out] at this; simpa using this
          have e2 : cmp = rs.length - 1 + (km (tot rs) rs).2 := by have := HCM.out; rw [HKD.out] at this; simpa using this
          refine ⟨_, by rw [e2]; rfl, ⟨?_, Nat.le_trans HKL.out htot⟩, HS.out.bel⟩
          rw [← e1]
          exact own_base HS.out.O (by have := HS.out.lo; omega)
        | cons x t =>
          rw [hg] at d1
          simp only [List.isEmpty_cons] at d1
          obtain ⟨p, hp, hnp, hrx, htp, hcs⟩ := HCU.out.step hWk hg
          have HTS := Lib.hid (tot_set cur W x t hg)
          have HKS := Lib.hid (km_step (f := tot (cur.set W t)) (by rw [← HW.out]; exact hg))
          rw [← HW.out, HCU.out.len] at HKS
          have HDE := Lib.hid (dset_eq cur W x t hg)
          have HKE := Lib.hid (kset_eq cur W t)
          obtain ⟨Ar, cr, hcw, hrc, hcm2, hrw⟩ := HCL.out W hWk
          obtain ⟨r, hrd⟩ : ∃ r, r = rs.getD W [] := ⟨_, rfl⟩
          rw [← hrd] at hcw hrc hrw
          have HTP := Lib.hid (show t = r.drop (p + 1) by rw [hrd]; exact htp)
          have hp2 : p < r.length := by rw [hrd]; exact hp
          have hrx2 : r[p] = x := by simp only [hrd]; exact hrx
          have hb := HS.out.bel
          obtain ⟨br, orr, rfl, hk0, hk1⟩ := (hrw wr hb).rec hp2
          rw [hrx2] at hk0 hk1
          have hcell := hcw wr hb
          have HCW := Lib.hid hcw
          have HRW := Lib.hid hrw
          have HCS := Lib.hid hcs
          unfold maxLen at hcm2
          have hcb : cmp ≤ 1048576 * 1024 + 1024 := by
            have h1 := HCM.out
            have h2 := HCOST.out
            have h3 : tot rs * 1024 ≤ 1048576 * 1024 := Nat.mul_le_mul_right _ htot
            omega
          have hdb : dn.length ≤ 1099511627776 := by
            have h1 := congrArg List.length HKM.out
            rw [List.length_append] at h1
            have h2 := HKL.out
            omega
          have HNP := Lib.hid (And.intro hnp HCU.out.nl)
          have e1 := (HS.out.N.cell W).trans (ints_cell hnp)
          have q4 : (p : Int) < (r.length : Int) := by omega
          obtain ⟨Ao, co, rfl, _, _, _⟩ := own_form HS.out.O
          have ho3 : wr.drew.ownsRow (bt + 1) 87 2 (.slice Ao dn.length co) dn.length (recs dn) := HS.out.O
          have hsz2 : bt + 1 ≤ wr.heap.size := HS.out.tb.lt
          clear hg hnp hrx htp hcs hrd hrx2 hcw hrw hb
          go_upto_region 15 with fail
          go_cut [9] (fun v wx => wx.ownsRow (bt + 1) 87 2 v (dn.length + 1) (recs dn ++ recs [x]) ∧ wr.grownBy wx (Value.slice Ao dn.length co).ownBlock ∧ NewAt wr (.slice Ao dn.length co) v)
          case first =>
            go_region_law ((refine mem.step_push_atH wr.drew rfl (.tmp 71) (.tmp 82) 54 rfl (bt + 1) 87 _ 2 16 Try.underlying54 mem.info_rec rfl (by decide) (.slice Ao dn.length co) dn.length (recs dn) (by simp [Act.eval, Act.put]) ho3 wr.heap.size rfl (recs [x]) 1 rfl (mem.recs_one [x]) (by simp [Act.eval, Act.put]) hdb (by decide) hsz2 ?_; intro v' w' ho' hg0 hnw'; have hg' := mem.grown_undrew hg0; clear hg0))
            all_goals
              go_wp2_with fail
              go_meet
              exact ⟨ho', hg', hnw'⟩
          case rest =>
            obtain ⟨ho4, hg4, hn4⟩ := hcut
            have HS4 := Lib.hid (HS.out.push ho4 hg4 hn4)
            clear ho4 hg4 hn4 e1 ho3 hk0 hk1 hcell d1 t1 t3
            have e1 := (HS4.out.N.cell W).trans (ints_cell HNP.out.1)
            have e2 := fun i => HS4.out.N.thaw i
            have HS5 := Lib.hid (HS4.out.putN W ((p : Int) + 1))
            have HNP5 := Lib.hid (show (nx.set W ((p : Int) + 1))[W]? = some ((p : Int) + 1) by rw [List.getElem?_set_self (by rw [HNP.out.2]; exact hWk)])
            go_wp2_with fail
            obtain ⟨w5, hw5⟩ : ∃ X : World, X = wc.setCell ⟨ra, W, none⟩ (.int .i64 ((p : Int) + 1)) := ⟨_, rfl⟩
            rw [← hw5] at HS5 ⊢
            clear hw5 e1 e2 HS4
            have e5 := (HS5.out.N.cell W).trans (ints_cell HNP5.out)
            have hcell := HCW.out w5 HS5.out.bel
            have HRP := Lib.hid (show ∀ d, Calls Try.prog 102 #[.agg #[.slice A1 rs.length c1, .slice (some ⟨g2, 0, none⟩) rs.length c2, .slice A3 rs.length c3, .int .i64 (W : Int)], .int .i64 (hd t), .bool t.isEmpty] (w5.drewN d) fun e w' => ∃ B1 d1 B2 d2 B3 d3, e = .returned (.tuple #[.agg #[.slice B1 rs.length d1, .slice B2 rs.length d2, .slice B3 rs.length d3, .int .i64 ((wn (cur.set W t) : Nat) : Int)], .int .i64 (up ((rs.length + W) / 2) : Nat)]) ∧ w'.ownsRow (w5.drewN d).heap.size 3 1 (.slice B1 rs.length d1) rs.length (ints (kys (cur.set W t))) ∧ w'.ownsRow (w5.drewN d).heap.size 4 1 (.slice B2 rs.length d2) rs.length (bools (dns (cur.set W t))) ∧ Below (w5.drewN d).heap.size (w5.drewN d) w' from fun d => by
              have h := replace_any A1 (some ⟨g2, 0, none⟩) A3 c1 c2 rs.length c3 rs.length W (kys cur) (dns cur) (hd t) t.isEmpty (w5.drewN d) (by rw [kys_len, HCU.out.len]) (by rw [dns_len, HCU.out.len]) hWk hn (own_rd HS5.out.K) (own_rd HS5.out.D)
              rw [HKE.out, HDE.out] at h
              have e : win (kys (cur.set W t)) (dns (cur.set W t)) rs.length 1 = wn (cur.set W t) := by unfold wn; rw [List.length_set, HCU.out.len]
              rw [e] at h
              exact h)
            have t0 := HS5.out.tb.cell 0
            have t1 := HS5.out.tb.cell 1
            have t2 := HS5.out.tb.cell 2
            have t3 := HS5.out.tb.cell 3
            simp only [List.getElem?_toArray, List.getElem?_cons_zero, List.getElem?_cons_succ] at t0 t1 t2 t3
            rw [← HW.out] at t3
            have hul := up_div_le rs.length W hn hWk
            have HT1 := Lib.hid (show tot (cur.set W t) + 1 < gk - 1 by have := HTS.out; omega)
            have HL1 := Lib.hid (show (dn ++ [x]) ++ (km (tot (cur.set W t)) (cur.set W t)).1 = (km (tot rs) rs).1 from by
              have h1 := HKM.out
              rw [← HTS.out, HKS.out] at h1
              rw [List.append_assoc]; exact h1)
            have HL2 := Lib.hid (show (cmp + up ((rs.length + W) / 2)) + (km (tot (cur.set W t)) (cur.set W t)).2 = rs.length - 1 + (km (tot rs) rs).2 from by
              have h1 := HCM.out
              rw [← HTS.out, HKS.out] at h1
              have h2 : cmp + (up ((rs.length + W) / 2) + (km (tot (cur.set W t)) (cur.set W t)).2) = rs.length - 1 + (km (tot rs) rs).2 := h1
              omega)
            have q5 : IntKind.i64.wrap ((p : Int) + 1) = (p : Int) + 1 := by rw [IntKind.wrap_i64]; omega
            have q6 : ((p : Int) + 1).toNat = p + 1 := by omega
            have q7 : (0 : Int) ≤ (p : Int) + 1 := by omega
            generalize up ((rs.length + W) / 2) = un at hul HL2 HRP
            have HFIN := Lib.hid (show ∀ (d : Nat) (w7 : World) (B1 : Option Addr) (d1 : Nat) (B2 : Option Addr) (d2 : Nat) (B3 : Option Addr) (d3 : Nat) (o : Obj), w7.ownsRow (w5.drewN d).heap.size 3 1 (.slice B1 rs.length d1) rs.length (ints (kys (cur.set W t))) → w7.ownsRow (w5.drewN d).heap.size 4 1 (.slice B2 rs.length d2) rs.length (bools (dns (cur.set W t))) → Below (w5.drewN d).heap.size (w5.drewN d) w7 →
              Ms w (((((w7.alloc o).setCell ⟨bt, 0, none⟩ (.slice B1 rs.length d1)).setCell ⟨bt, 1, none⟩ (.slice B2 rs.length d2)).setCell ⟨bt, 2, none⟩ (.slice B3 rs.length d3)).setCell ⟨bt, 3, none⟩ (.int .i64 ((wn (cur.set W t) : Nat) : Int))) rs.length bt ra B1 d1 B2 d2 B3 d3 (cur.set W t) (nx.set W ((p : Int) + 1)) u9 (dn ++ [x]) from fun d w7 B1 d1 B2 d2 B3 d3 o hK hD hb => by
              have hba : Below w7.heap.size w7 (w7.alloc o) := (Below.refl _ _).alloc (Nat.le_refl _) o
              exact (HS5.out.below (show Below w5.heap.size w5 (w5.drewN d) from below_drewN (Below.refl _ _) d)).next rfl rfl (own_below hK hba) (own_below hD hba) (below_at hb hb.size hba))
            have HTB := Lib.hid (show ∀ (d : Nat) (w7 : World) (o : Obj), Below (w5.drewN d).heap.size (w5.drewN d) w7 → Blk (w7.alloc o) bt 96 #[.slice A1 rs.length c1, .slice (some ⟨g2, 0, none⟩) rs.length c2, .slice A3 rs.length c3, .int .i64 ((wn cur : Nat) : Int)] ∧ bt ≠ w7.heap.size from fun d w7 o hb => ⟨((HS5.out.tb.drewN d).below hb HS5.out.tb.lt).alloc o, by have := HS5.out.tb.lt; have := hb.size; simp at this; omega⟩)
            cases t with
            | nil =>
              have hpe : r.length = p + 1 := by
                have := HTP.out
                have h2 := congrArg List.length this
                simp at h2; omega
              have q8 : ((p : Int) + 1 == (r.length : Int)) = true := by rw [hpe]; simp
              simp only [List.isEmpty_nil, hd] at HRP
              have q9 : (r.length : Int) = (p : Int) + 1 := by omega
              clear hpe q9
              go_quiet (fail)
              go_wp2_with fail
              with_reducible refine (HRP.out _).mono ?_
              rintro e w7 ⟨B1, d1, B2, d2, B3, d3, rfl, ho7, hd7, hb7⟩
              have HF7 := Lib.hid (fun (o : Obj) => HFIN.out _ w7 B1 d1 B2 d2 B3 d3 o ho7 hd7 hb7)
              have r0 := fun (o : Obj) => ((HTB.out _ w7 o hb7).1.cell 0 : (w7.alloc o).cell? ⟨bt, 0, none⟩ = some (.slice A1 rs.length c1))
              have r1 := fun (o : Obj) => ((HTB.out _ w7 o hb7).1.cell 1 : (w7.alloc o).cell? ⟨bt, 1, none⟩ = some (.slice (some ⟨g2, 0, none⟩) rs.length c2))
              have r2 := fun (o : Obj) => ((HTB.out _ w7 o hb7).1.cell 2 : (w7.alloc o).cell? ⟨bt, 2, none⟩ = some (.slice A3 rs.length c3))
              have r3 := fun (o : Obj) => ((HTB.out _ w7 o hb7).1.cell 3 : (w7.alloc o).cell? ⟨bt, 3, none⟩ = some (.int .i64 ((wn cur : Nat) : Int)))
              have r4 := fun (o : Obj) i => (HTB.out _ w7 o hb7).1.thaw i
              have r5 : bt ≠ w7.heap.size := (HTB.out _ w7 (.cells #[] 96) hb7).2
              have r6 : w7.heap.size ≠ bt := fun e => r5 e.symm
              clear ho7 hd7 hb7 t0 t1 t2 t3 e5 hcell
              go_wp2
              go_roundg (gk - 1)
              case measure => omega
              case rel => exact ⟨cur.set W [], nx.set W ((p : Int) + 1), dn ++ [x], cmp + un, B1, d1, B2, d2, B3, d3, HT1.out, HCS.out, HF7.out _, HL1.out, by go_num, HL2.out⟩
            | cons y t' =>
              have hpe : p + 1 < r.length := by
                have := HTP.out
                have h2 := congrArg List.length this
                simp at h2; omega
              have hry : r[p + 1] = y := by
                have := HTP.out
                rw [List.drop_eq_getElem_cons hpe] at this
                injection this with h1 h2
                exact h1.symm
              have q8 : ((p : Int) + 1 == (r.length : Int)) = false := by rw [beq_eq_false_iff_ne]; omega
              have q9 : (p : Int) + 1 < (r.length : Int) := by omega
              obtain ⟨br2, orr2, hbe, hk2, _⟩ := (HRW.out w5 HS5.out.bel).rec hpe
              injection hbe with hbe
              injection hbe with hbe1 hbe2
              subst hbe1; subst hbe2
              rw [hry] at hk2
              simp only [List.isEmpty_cons, hd] at HRP
              clear hry
              go_quiet (fail)
              go_wp2_with fail
              go_quiet (fail)
              go_wp2_with fail
              with_reducible refine (HRP.out _).mono ?_
              rintro e w7 ⟨B1, d1, B2, d2, B3, d3, rfl, ho7, hd7, hb7⟩
              have HF7 := Lib.hid (fun (o : Obj) => HFIN.out _ w7 B1 d1 B2 d2 B3 d3 o ho7 hd7 hb7)
              have r0 := fun (o : Obj) => ((HTB.out _ w7 o hb7).1.cell 0 : (w7.alloc o).cell? ⟨bt, 0, none⟩ = some (.slice A1 rs.length c1))
              have r1 := fun (o : Obj) => ((HTB.out _ w7 o hb7).1.cell 1 : (w7.alloc o).cell? ⟨bt, 1, none⟩ = some (.slice (some ⟨g2, 0, none⟩) rs.length c2))
              have r2 := fun (o : Obj) => ((HTB.out _ w7 o hb7).1.cell 2 : (w7.alloc o).cell? ⟨bt, 2, none⟩ = some (.slice A3 rs.length c3))
              have r3 := fun (o : Obj) => ((HTB.out _ w7 o hb7).1.cell 3 : (w7.alloc o).cell? ⟨bt, 3, none⟩ = some (.int .i64 ((wn cur : Nat) : Int)))
              have r4 := fun (o : Obj) i => (HTB.out _ w7 o hb7).1.thaw i
              have r5 : bt ≠ w7.heap.size := (HTB.out _ w7 (.cells #[] 96) hb7).2
              have r6 : w7.heap.size ≠ bt := fun e => r5 e.symm
              clear ho7 hd7 hb7 t0 t1 t2 t3 e5 hcell
              go_wp2
              go_roundg (gk - 1)
              case measure => omega
              case rel => exact ⟨cur.set W (y :: t'), nx.set W ((p : Int) + 1), dn ++ [x], cmp + un, B1, d1, B2, d2, B3, d3, HT1.out, HCS.out, HF7.out _, HL1.out, by go_num, HL2.out⟩
end Go.Proofs.Ytgffabjajbgbjaa.tn
