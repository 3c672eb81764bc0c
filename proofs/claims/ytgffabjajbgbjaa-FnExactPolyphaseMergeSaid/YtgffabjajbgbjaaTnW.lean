/- The program's merge of many lists. Condition: 1 to 1024 lists, at most 2^20 records. -/
import Derived.Test.YtgffabjajbgbjaaTnF
import Derived.Test.YtgffabjajbgbjaaTnCu
import Derived.Test.YtgffabjajbgbjaaAny6
import Derived.Deep.RegionLaw
import Derived.Deep.DeepCutAuto
import Derived.Deep.CutBlock
set_option linter.unusedVariables false
set_option linter.unusedSimpArgs false
namespace Go.Proofs.Ytgffabjajbgbjaa.tn
open Go.RowKit Go.Proofs.Ytgffabjajbgbjaa.mem Go.Proofs.Ytgffabjajbgbjaa.nest

theorem info_intS : (Try.prog.info? 22).map (fun i => (i.zero, i.size, i.bytes)) = some (some (.slice none 0 0), 1, 24) := by kernel_rfl
theorem info_boolS : (Try.prog.info? 93).map (fun i => (i.zero, i.size, i.bytes)) = some (some (.slice none 0 0), 1, 24) := by kernel_rfl
set_option maxRecDepth 100000 in
theorem fill_enters : Enters 96 := fun _ _ => rfl
theorem field_w (x y z : Value) (W : Int) (w : World) : (Instr.field 96 (.agg #[x, y, z, .int .i64 W]) 3).run Try.prog w = .ok (.int .i64 W) w := by
  unfold Instr.field
  go_simp
  rfl
theorem rep_bools (n : Nat) : rep n (.bool false) = (bools (List.replicate n false)).toArray := by simp [rep, bools]
theorem runs6 (k : Nat) (hk : k ≤ 1024) : any6.Runs Try.prog 22 93 3 4 k (.int .i64 0) (.bool false) :=
  ⟨make_rep (P := Try.prog) 22 3 _ _ Try.underlying22 info_int rfl k (by omega) (by unfold maxLen; omega),
   make_rep (P := Try.prog) 93 4 _ _ Try.underlying93 info_bool rfl k (by omega) (by unfold maxLen; omega),
   fun w => by go_simp, fun w => by go_simp,
   fun w g r h => by
    have c := h.cell 0
    have f := h.thaw 0
    simp only [List.getElem?_toArray, List.getElem?_cons_zero] at c
    go_simp,
   fun w g r h => by
    have c := h.cell 0
    have f := h.thaw 0
    simp only [List.getElem?_toArray, List.getElem?_cons_zero] at c
    go_simp⟩
set_option maxRecDepth 100000 in
set_option maxHeartbeats 2000000 in
theorem kway_any (A : Option Addr) (c : Nat) (vs : List Value) (rs : List (List Rec)) (w : World) (h0 : 0 < rs.length) (hn : rs.length ≤ 1024) (htot : tot rs ≤ 1048576) (hr : RdL_rec w A vs rs) :
    Calls Try.prog 84 #[.slice A rs.length c] w fun e w' => ∃ v, e = .returned (.tuple #[v, .int .i64 ((rs.length - 1 + (km (tot rs) rs).2 : Nat) : Int)]) ∧ OwnRec w w' v (km (tot rs) rs).1 ∧ Below w.heap.size w w' := by
  have HR6 := Lib.hid (runs6 rs.length hn)
  have hent := fill_enters
  unfold Enters at hent
  go_enter Try.func84, Try.ntmps84
  go_wp2
  refine wp_region_any (by kernel_rfl) ?_
  refine any6.made6 ⟨rfl, ⟨_, rfl, rfl, rfl, rfl, by kernel_rfl, by kernel_rfl⟩, ⟨_, rfl, rfl, rfl, rfl, by kernel_rfl, by kernel_rfl⟩, ⟨_, rfl, rfl, rfl, rfl, by kernel_rfl, by kernel_rfl⟩, ⟨_, rfl, rfl, rfl, rfl, by kernel_rfl, by kernel_rfl⟩, ⟨_, rfl, rfl, rfl, rfl, by kernel_rfl, by kernel_rfl⟩, ⟨_, rfl, rfl, rfl, rfl, by kernel_rfl, by kernel_rfl⟩, ⟨_, rfl, rfl, rfl, rfl, by kernel_rfl, by kernel_rfl⟩, ⟨_, rfl, rfl, rfl, rfl, by kernel_rfl, by kernel_rfl⟩, ⟨_, rfl, rfl, rfl, rfl, by kernel_rfl, by kernel_rfl⟩, ⟨_, rfl, rfl, rfl, rfl, by kernel_rfl, by kernel_rfl⟩, ⟨_, rfl, rfl, rfl, rfl, by kernel_rfl, by kernel_rfl⟩, ⟨_, rfl, rfl, rfl, rfl, by kernel_rfl, by kernel_rfl⟩⟩ HR6.out rfl (show ∀ s ∈ any6.slots, s < 71 from by decide) ?_
  intro n1 n3 n5 n6 n7 n8 w1 hnd hlo b1 b3 b5 b6 b7 b8 hbel
  have hbel' : Below (w.alloc (.cells #[.slice A rs.length c] 47)).heap.size (w.alloc (.cells #[.slice A rs.length c] 47)) w1 := ⟨hbel.os, hbel.tape, hbel.output, hbel.size, hbel.block⟩
  have hlo' : ∀ x ∈ [n1, n3, n5, n6, n7, n8], w.heap.size + 1 ≤ x := fun x hx => by
    have := hlo x hx
    simpa using this
  clear hlo hbel
  have HB1 := Lib.hid (below_step ((Below.refl w.heap.size w).alloc (Nat.le_refl _) (.cells #[.slice A rs.length c] 47)) hbel')
  have HS1 := Lib.hid (show St w1 w.heap.size n8 w.heap.size n7 n6 n5 n3 n1 rs.length c A (List.replicate rs.length 0) (List.replicate rs.length false) (List.replicate rs.length 0) from by
    have l1 := hlo' n1 (by simp)
    have l3 := hlo' n3 (by simp)
    have l5 := hlo' n5 (by simp)
    have l6 := hlo' n6 (by simp)
    have l7 := hlo' n7 (by simp)
    have l8 := hlo' n8 (by simp)
    simp only [List.nodup_cons, List.mem_cons, List.not_mem_nil, or_false, not_or, List.nodup_nil, and_true, not_false_eq_true] at hnd
    refine ⟨?_, ?_, b8, (Blk.new w _ _).below hbel' (by simp), b7, b6, by rw [← rep_ints]; exact b5, by rw [← rep_bools]; exact b3, by rw [← rep_ints]; exact b1, by simp⟩
    · simp only [List.nodup_cons, List.mem_cons, List.not_mem_nil, or_false, not_or, List.nodup_nil, and_true, not_false_eq_true]
      omega
    · intro x hx
      simp only [List.mem_cons, List.not_mem_nil, or_false] at hx
      omega)
  clear hbel' hlo' hnd b1 b3 b5 b6 b7 b8
  have l0 := HS1.out.cL.cell 0
  simp only [List.getElem?_toArray, List.getElem?_cons_zero] at l0
  unfold any6.fin
  go_wp2
  clear l0
  go_loopw [24] (fun x wr => ∃ (i : Nat) (ks : List Int) (ds : List Bool), i ≤ rs.length ∧ x = .int .i64 (i : Int) ∧ St wr w.heap.size n8 w.heap.size n7 n6 n5 n3 n1 rs.length c A ks ds (List.replicate rs.length 0) ∧ (∀ p, p < i → ks[p]? = some (hd (rs.getD p [])) ∧ ds[p]? = some (rs.getD p []).isEmpty) ∧ Below w.heap.size w wr) (fun x _ => rs.length - (intOf x).toNat)
  case atStart => exact ⟨0, _, _, Nat.zero_le _, rfl, HS1.out, fun p h => absurd h (by omega), HB1.out⟩
  case round =>
    obtain ⟨i, ks, ds, hi, rfl, hS, hkd, hb⟩ := hrel
    have HS := Lib.hid hS
    have HKD := Lib.hid hkd
    have HB := Lib.hid hb
    clear hkd
    by_cases hlt : i < rs.length
    · have q1 : (i : Int) < (rs.length : Int) := by omega
      have HF := Lib.hid (fill_any w wr n8 w.heap.size n7 n6 n5 n3 n1 rs.length c i 0 A vs rs (rs.getD i []) ks ds (List.replicate rs.length 0) hS hr hb rfl hlt hn (by simp [hlt]) (getD_some hlt) (Nat.zero_le _))
      clear hS hb
      go_wp2_with fail
      with_reducible refine HF.out.mono ?_
      rintro e w2 ⟨rfl, hS2, w3, hg1, hg2⟩
      have HB2 := Lib.hid (HS.out.below_fill HB.out hg1 hg2)
      have HS2 := Lib.hid hS2
      have HLN := Lib.hid HS.out.ln
      clear hS2 hg1 hg2
      go_wp2
      go_roundw
      case rel => exact ⟨i + 1, _, _, by omega, by go_num, HS2.out, fun p hp => by
        by_cases e : p = i
        · subst e
          rw [List.drop_zero, List.getElem?_set_self (by have := HLN.out; omega), List.getElem?_set_self (by have := HLN.out; omega)]
          exact ⟨rfl, rfl⟩
        · rw [List.drop_zero, List.getElem?_set_ne (Ne.symm e), List.getElem?_set_ne (Ne.symm e)]
          exact HKD.out p (by omega), HB2.out⟩
      case measure => simp [intOf]; omega
    · have hie : i = rs.length := by omega
      have HS2 := Lib.hid (show St wr w.heap.size n8 w.heap.size n7 n6 n5 n3 n1 rs.length c A (kys rs) (dns rs) (List.replicate rs.length 0) from by
        have e1 : ks = kys rs := list_of (by rw [kys_len]; exact HS.out.ln.2.2) fun p hp => by
          have hp2 : p < rs.length := by have := HS.out.ln.2.2; omega
          rw [(HKD.out p (by omega)).1, kys_get hp2]
        have e2 : ds = dns rs := list_of (by rw [dns_len]; exact HS.out.ln.2.1) fun p hp => by
          have hp2 : p < rs.length := by have := HS.out.ln.2.1; omega
          rw [(HKD.out p (by omega)).2, dns_get hp2]
        rw [← e1, ← e2]; exact HS.out)
      clear hie HS HS1 HB1 hS hb HKD
      have q1 : ¬ (i : Int) < (rs.length : Int) := by omega
      obtain ⟨wB, hwB⟩ : ∃ wB : World, wB = wr := ⟨_, rfl⟩
      rw [← hwB] at HS2 HB ⊢
      clear hwB
      have HLT := Lib.hid HS2.out.lt
      have HO := Lib.hid (World.ownsRow_made (base := wB.heap.size) (e := 87) (size := 2) wB #[] 0 (Nat.le_refl _) (Nat.zero_le _) (by simp))
      have HBA := Lib.hid (HB.out.alloc HB.out.size (.cells #[] 87))
      have HSA := Lib.hid (HS2.out.below ((Below.refl _ _).alloc (Nat.le_refl _) (.cells #[] 87)))
      have HSZ := Lib.hid (show wB.heap.size ≤ (wB.alloc (.cells #[] 87)).heap.size by simp)
      have q2 : IntKind.i64.wrap ((rs.length : Int) - 1) = (rs.length : Int) - 1 := by rw [IntKind.wrap_i64]; omega
      have HK1 := Lib.hid (show ((rs.length : Int) - 1) = ((rs.length - 1 : Nat) : Int) by omega)
      have HCOST := Lib.hid (km_cost (tot rs) rs h0 hn)
      have HKL := Lib.hid (km_len (tot rs) rs)
      clear HS2 HB
      go_wp2
      rw [HK1.out]
      clear q2
      go_loopg [10, 11] (tot rs + 2) (fun f o x wr => ∃ (cur : List (List Rec)) (nx : List Int) (dn : List Rec) (cmp : Nat), tot cur + 1 < f ∧ Cur rs cur nx ∧ St wr w.heap.size n8 w.heap.size n7 n6 n5 n3 n1 rs.length c A (kys cur) (dns cur) nx ∧ wr.ownsRow wB.heap.size 87 2 o dn.length (recs dn) ∧ Below w.heap.size w wr ∧ wB.heap.size ≤ wr.heap.size ∧ dn ++ (km (tot cur) cur).1 = (km (tot rs) rs).1 ∧ x = .int .i64 (cmp : Int) ∧ cmp + (km (tot cur) cur).2 = rs.length - 1 + (km (tot rs) rs).2)
      case atStart => exact ⟨rs, List.replicate rs.length 0, [], rs.length - 1, by omega, cur_init rs, HSA.out, HO.out, HBA.out, HSZ.out, rfl, rfl, rfl⟩
      case round =>
        obtain ⟨cur, nx, dn, cmp, hgk, hcur, hS, ho, hb, hsz, hkm, rfl, hcm⟩ := hrel
        have HCU := Lib.hid hcur
        have HS := Lib.hid hS
        have HB := Lib.hid hb
        have HKM := Lib.hid hkm
        have HCM := Lib.hid hcm
        have HOO := Lib.hid ho
        obtain ⟨W, hW⟩ : ∃ W, W = wn cur := ⟨_, rfl⟩
        have hWk : W < rs.length := by rw [hW, ← hcur.len]; exact wn_lt (by rw [hcur.len]; exact h0)
        have HT := Lib.hid (show Calls Try.prog 97 #[.slice (some ⟨n1, 0, none⟩) rs.length rs.length, .slice (some ⟨n3, 0, none⟩) rs.length rs.length] wr fun e w' => ∃ x y z, e = .returned (.agg #[x, y, z, .int .i64 (W : Nat)]) ∧ Below wr.heap.size wr w' from by
          have := tree_any (some ⟨n1, 0, none⟩) (some ⟨n3, 0, none⟩) rs.length rs.length rs.length (kys cur) (dns cur) wr (by rw [kys_len, hcur.len]) (by rw [dns_len, hcur.len]) h0 hn hS.rdK hS.rdD
          rw [hW]; unfold wn; rw [hcur.len]; exact this)
        have HW := Lib.hid hW
        have c5 := hS.cK.cell 0
        have c6 := hS.cD.cell 0
        simp only [List.getElem?_toArray, List.getElem?_cons_zero] at c5 c6
        clear hcur hS ho hb hkm hcm hW
        go_wp2_with fail
        with_reducible refine HT.out.mono ?_
        rintro e w2 ⟨x, y, z, rfl, hb2⟩
        have hfw := field_w x y z W w2
        have HS2 := Lib.hid (HS.out.below hb2)
        have HB2 := Lib.hid (below_at HB.out HB.out.size hb2)
        have HO2 := Lib.hid (own_below HOO.out hb2)
        have hsz2 : wB.heap.size ≤ w2.heap.size := Nat.le_trans hsz hb2.size
        have d0 := HS2.out.cD.cell 0
        simp only [List.getElem?_toArray, List.getElem?_cons_zero] at d0
        have d1 := (HS2.out.D.cell W).trans (bools_cell (dns_get (by rw [HCU.out.len]; exact hWk)))
        have q3 : (W : Int) < (rs.length : Int) := by omega
        clear hb2 HS HB HOO HT c5 c6
        cases hg : cur.getD W [] with
        | nil =>
          rw [hg] at d1
          simp only [List.isEmpty_nil] at d1
          have HKD := Lib.hid (show km (tot cur) cur = ([], 0) from km_done (by rw [← HW.out]; exact hg))
          clear hg
          go_wp2
          go_ret2
          have e1 : dn = (km (tot rs) rs).1 := by have := HKM.out; rw [HKD.out] at this; simpa using this
          have e2 : cmp = rs.length - 1 + (km (tot rs) rs).2 := by have := HCM.out; rw [HKD.out] at this; simpa using this
          refine ⟨_, by rw [e2]; rfl, ⟨?_, Nat.le_trans HKL.out htot⟩, HB2.out⟩
          rw [← e1]
          exact own_base HO2.out (HLT.out w.heap.size (by simp) |> Nat.le_of_lt)
        | cons x t =>
          rw [hg] at d1
          simp only [List.isEmpty_cons] at d1
          have hcl : W < cur.length := by rw [HCU.out.len]; exact hWk
          obtain ⟨p, hp, hnp, hrx, htp, hcs⟩ := HCU.out.step hWk hg
          have HTS := Lib.hid (tot_set cur W x t hg)
          have HKS := Lib.hid (km_step (f := tot (cur.set W t)) (by rw [← HW.out]; exact hg))
          rw [← HW.out, HCU.out.len] at HKS
          obtain ⟨b, off, rfl, Ar, cr, hcell, hrc, hcm2, hrr⟩ := (hr.below HB2.out).cell (i := W) hWk
          have hre : rs[W] = rs.getD W [] := by rw [List.getD_eq_getElem?_getD, List.getElem?_eq_getElem hWk]; rfl
          have HRI := Lib.hid (getD_some (d := []) hWk)
          rw [hre] at hcell hrc hrr
          obtain ⟨r, hrd⟩ : ∃ r, r = rs.getD W [] := ⟨_, rfl⟩
          rw [← hrd] at hcell hrc hrr HRI
          have HTP2 := Lib.hid (show t = r.drop (p + 1) by rw [hrd]; exact htp)
          have hp2 : p < r.length := by rw [hrd]; exact hp
          have hrx2 : r[p] = x := by simp only [hrd]; exact hrx
          obtain ⟨br, orr, rfl, hk0, hk1⟩ := hrr.rec hp2
          rw [hrx2] at hk0 hk1
          have HCS := Lib.hid hcs
          have HG := Lib.hid hg
          unfold maxLen at hcm2
          have hcb : cmp ≤ 1048576 * 1024 + 1024 := by
            have h1 := HCM.out
            have h2 := HCOST.out
            have h3 : tot rs * 1024 ≤ 1048576 * 1024 := Nat.mul_le_mul_right _ htot
            omega
          have hdb : dn.length ≤ 1099511627776 := by
            have h1 := congrArg List.length HKM.out
            rw [List.length_append] at h1
            have h2 := HKL.out
            omega
          have HNP := Lib.hid (And.intro hnp HCU.out.nl)
          have e1 := (HS2.out.N.cell W).trans (ints_cell hnp)
          have l0 := HS2.out.cL.cell 0
          have n0 := HS2.out.cN.cell 0
          simp only [List.getElem?_toArray, List.getElem?_cons_zero] at l0 n0
          have q4 : (p : Int) < (r.length : Int) := by omega
          obtain ⟨Ao, co, rfl, _, _, _⟩ := own_form HO2.out
          have ho3 : w2.drew.ownsRow wB.heap.size 87 2 (.slice Ao dn.length co) dn.length (recs dn) := HO2.out
          clear hg hnp hrx htp hcs hre hrd hp hrx2 hrr
          go_upto_region 13 with fail
          go_cut [10] (fun v wx => wx.ownsRow wB.heap.size 87 2 v (dn.length + 1) (recs dn ++ recs [x]) ∧ w2.grownBy wx (Value.slice Ao dn.length co).ownBlock)
          case first =>
            go_region_law ((refine mem.step_push_atH w2.drew rfl (.tmp 44) (.tmp 55) 54 rfl wB.heap.size 87 _ 2 16 Try.underlying54 mem.info_rec rfl (by decide) (.slice Ao dn.length co) dn.length (recs dn) (by simp [Act.eval, Act.put]) ho3 w2.heap.size rfl (recs [x]) 1 rfl (mem.recs_one [x]) (by simp [Act.eval, Act.put]) hdb (by decide) hsz2 ?_; intro v' w' ho' hg0 hnw'; have hg' := mem.grown_undrew hg0; clear hg0))
            all_goals
              go_wp2_with fail
              go_meet
              exact ⟨ho', hg'⟩
          case rest =>
            obtain ⟨ho4, hg4⟩ := hcut
            have HG4 := Lib.hid hg4
            have HRW := Lib.hid (own_ge HO2.out)
            have HS4 := Lib.hid (HS2.out.grown hg4 (fun y hy e => by have := HRW.out _ e.symm; have := HLT.out y hy; omega))
            have HB4 := Lib.hid (below_grown HB2.out HB2.out.size hg4 (fun g h => by have := HRW.out _ h; have := HLT.out w.heap.size (by simp); omega))
            have hsz4 : wB.heap.size ≤ wc.heap.size := Nat.le_trans hsz2 hg4.size
            have HO4 := Lib.hid ho4
            clear ho4 hg4 e1 l0 n0 ho3 hk0 hk1 hcell d0 d1 hfw
            have n0 := HS4.out.cN.cell 0
            simp only [List.getElem?_toArray, List.getElem?_cons_zero] at n0
            have e1 := (HS4.out.N.cell W).trans (ints_cell HNP.out.1)
            have e2 := fun i => HS4.out.N.thaw i
            have HS5 := Lib.hid (HS4.out.putN W ((p : Int) + 1))
            have hb5 : Below w.heap.size w (wc.setCell ⟨n5, W, none⟩ (.int .i64 ((p : Int) + 1))) := below_set HB4.out (HS4.out.lo n5 (by simp)) W _
            have ho5 : (wc.setCell ⟨n5, W, none⟩ (.int .i64 ((p : Int) + 1))).ownsRow wB.heap.size 87 2 u10 (dn.length + 1) (recs dn ++ recs [x]) := own_far HO4.out (p := ⟨n5, W, none⟩) (fun e => by have h1 := (HO4.out.lt _ e).1; have h2 := HLT.out n5 (by simp); simp at h1; omega) _
            have HF := Lib.hid (fill_any w (wc.setCell ⟨n5, W, none⟩ (.int .i64 ((p : Int) + 1))) n8 w.heap.size n7 n6 n5 n3 n1 rs.length c W (p + 1) _ vs rs r (kys cur) (dns cur) _ HS5.out hr hb5 rfl hWk hn (by rw [List.getElem?_set_self (by rw [HNP.out.2]; exact hWk)]; rfl) HRI.out (by omega))
            have HB5 := Lib.hid hb5
            have HO5 := Lib.hid ho5
            have hsz5 : wB.heap.size ≤ (wc.setCell ⟨n5, W, none⟩ (.int .i64 ((p : Int) + 1))).heap.size := by rw [World.size_setCell]; exact hsz4
            clear hb5 ho5
            go_wp2_with fail
            with_reducible refine HF.out.mono ?_
            rintro e w6 ⟨rfl, hS6, w7, hg6, hg7⟩
            have HB6 := Lib.hid (HS5.out.below_fill HB5.out hg6 hg7)
            have HO6 := Lib.hid (show w6.ownsRow wB.heap.size 87 2 u10 (dn ++ [x]).length (recs (dn ++ [x])) from by
              have hne : ∀ y ∈ [n8, w.heap.size, n7, n6, n5, n3, n1], u10.ownBlock ≠ some y := fun y hy e => by have h1 := (HO5.out.lt _ e).1; have h2 := HLT.out y hy; omega
              rw [List.length_append, recs_app]
              exact (HO5.out.kept hg6 (Or.inr (hne n3 (by simp)))).kept hg7 (Or.inr (hne n1 (by simp))))
            have hsz6 : wB.heap.size ≤ w6.heap.size := Nat.le_trans hsz5 (Nat.le_trans hg6.size hg7.size)
            have HS6 := Lib.hid (show St w6 w.heap.size n8 w.heap.size n7 n6 n5 n3 n1 rs.length c _ (kys (cur.set W t)) (dns (cur.set W t)) (nx.set W ((p : Int) + 1)) from by
              rw [kys_set, dns_set, HTP2.out]; exact hS6)
            have HPA := Lib.hid (path_any rs.length W w6 hn (by omega))
            have hul := up_div_le rs.length W hn hWk
            clear hS6 hg6 hg7 n0 e1 e2
            go_wp2_with fail
            with_reducible refine HPA.out.mono ?_
            rintro e w8 ⟨rfl, rfl⟩
            have HU := Lib.hid (And.intro HKM.out HCM.out)
            have HT1 := Lib.hid (show tot (cur.set W t) + 1 < gk - 1 by have := HTS.out; omega)
            have HK1 := Lib.hid (show (dn ++ [x]) ++ (km (tot (cur.set W t)) (cur.set W t)).1 = (km (tot rs) rs).1 from by
              have h1 := HKM.out
              rw [← HTS.out, HKS.out] at h1
              rw [List.append_assoc]; exact h1)
            have HK2 := Lib.hid (show (cmp + up ((rs.length + W) / 2)) + (km (tot (cur.set W t)) (cur.set W t)).2 = rs.length - 1 + (km (tot rs) rs).2 from by
              have h1 := HCM.out
              rw [← HTS.out, HKS.out] at h1
              have h2 : cmp + (up ((rs.length + W) / 2) + (km (tot (cur.set W t)) (cur.set W t)).2) = rs.length - 1 + (km (tot rs) rs).2 := h1
              omega)
            generalize up ((rs.length + W) / 2) = un at hul HK2 ⊢
            go_wp2
            go_roundg (gk - 1)
            case measure => omega
            case rel => exact ⟨cur.set W t, nx.set W ((p : Int) + 1), dn ++ [x], cmp + un, HT1.out, HCS.out, HS6.out, HO6.out, HB6.out, hsz6, HK1.out, by go_num, HK2.out⟩
end Go.Proofs.Ytgffabjajbgbjaa.tn
