/- impl.CollationSort: keys in a map, the library's stable sort by them. Condition: at most 2^20 strings of at most 2^20 bytes. -/
import Derived.Test.YtaeimdcmpjanbaaDoorColSl
import Derived.Test.YtaeimdcmpjanbaaDoorColK
import Derived.Test.YtaeimdcmpjanbaaDoorStbStr
import Derived.Test.YtaeimdcmpjanbaaDoorCopy
set_option linter.unusedVariables false
set_option linter.unusedSimpArgs false
namespace Go.Proofs.YtaeimdcmpjanbaaDoor.colS
open Go.RowKit Go.Proofs.YtaeimdcmpjanbaaDoor.mem Go.Proofs.YtaeimdcmpjanbaaDoor.stb Go.Proofs.YtaeimdcmpjanbaaDoor.col Go.Proofs.YtaeimdcmpjanbaaDoor.cmap Go.Proofs.YtaeimdcmpjanbaaDoor.validStr

theorem box2c (w : World) (o : Obj) (t : TypeId) (v : Value) : ((w.alloc o).alloc (.cells #[v] t)).cell? ⟨w.heap.size + 1, 0, none⟩ = some v := by
  have h := Blk.new (w.alloc o) t #[v]
  rw [show (w.alloc o).heap.size = w.heap.size + 1 by simp] at h
  exact (h.cell 0).trans rfl
theorem below_box2 {B : Nat} {w w2 : World} (h : Below B w w2) (hB : B ≤ w2.heap.size) (o1 o2 : Obj) : Below B w ((w2.alloc o1).alloc o2) := (h.alloc hB _).alloc (by simp; omega) _
set_option maxRecDepth 100000 in
set_option maxHeartbeats 2000000 in
theorem cs_impl (A : Option Addr) (c : Nat) (ss : List ByteArray) (f n : Bool) (w : World) (hn : ss.length ≤ 1048576) (hs : ∀ s ∈ ss, s.size ≤ 1048576) (hr : Rd w 1 A ss.length (strs ss)) :
    Calls Tryd.prog 11 #[.slice A ss.length c, .bool f, .bool n] w fun e w' => ∃ v, e = .returned (.tuple #[v, .bool (okC f n ss)]) ∧ OwnS w w' v (resC f n ss) ∧ Below w.heap.size w w' := by
  have HI := Lib.hid (validStr.impl_any A c ss w (by unfold maxLen; omega) (fun s h => Nat.le_trans (hs s h) (by decide)) hr)
  clear hs
  cases hv : vstr ss with
  | false =>
    have HR := Lib.hid (show okC f n ss = false ∧ resC f n ss = [] by simp [resC, okC, hv])
    rw [hv] at HI
    clear hv
    go_enter Tryd.func11, Tryd.ntmps11
    go_wp2_with fail
    refine HI.out.mono ?_
    rintro e w1 ⟨rfl, hb⟩
    go_wp2
    go_ret2
    exact ⟨_, by rw [HR.out.1]; rfl, ⟨by rw [HR.out.2]; exact World.ownsRow_nil _ _ _ _, by rw [HR.out.2]; simp⟩, hb⟩
  | true =>
    have hlen := vstr_len hv
    have HSZ := Lib.hid (vstr_size hv)
    have HV := Lib.hid hv
    rw [hv] at HI
    clear hv
    have hmm := @run_makeMap Tryd.prog
    go_enter Tryd.func11, Tryd.ntmps11
    go_wp2_with fail
    refine HI.out.mono ?_
    rintro e w2 ⟨rfl, hb2⟩
    have HM0 := Lib.hid (show KM Tryd.prog 9 9 ((w2.alloc (.map #[] 0)).alloc (.cells #[.map (some w2.heap.size)] 42)) w2.heap.size 0 fun _ => ⟨#[]⟩ from KM_below (KM.made _ _ _ w2) ((Below.refl _ _).alloc (Nat.le_refl _) _))
    have HC0 := Lib.hid (box2c w2 (.map #[] 0) 42 (.map (some w2.heap.size)))
    have HB0 := Lib.hid (below_box2 hb2 hb2.size (.map #[] 0) (.cells #[.map (some w2.heap.size)] 42))
    go_wp2
    clear hmm
    go_loopw [20] (fun i wr => ∃ k : Nat, k ≤ ss.length ∧ i = .int .i64 (k : Int) ∧ (∃ L, KM Tryd.prog 9 9 wr w2.heap.size k L ∧ ∀ j (h : j < ss.length), j < k → L ss[j] = resS f n ss[j]) ∧ (∀ j (h : j < ss.length), j < k → resB f n ss[j] = true) ∧ wr.cell? ⟨w2.heap.size + 1, 0, none⟩ = some (.map (some w2.heap.size)) ∧ Below w.heap.size w wr) (fun i _ => ss.length - (intOf i).toNat)
    case atStart => exact ⟨0, Nat.zero_le _, rfl, ⟨_, HM0.out, fun j _ h0 => absurd h0 (by omega)⟩, fun j _ h0 => absurd h0 (by omega), HC0.out, HB0.out⟩
    case round =>
      obtain ⟨k, hk1, rfl, ⟨L, hkm, hL⟩, hok, hcell, hb⟩ := hrel
      have HL := Lib.hid hL
      have HOK := Lib.hid hok
      clear hL hok
      have hbs := hb.size
      by_cases hlt : k < ss.length
      · obtain ⟨b, off, rfl, hc0⟩ := (hr.below hb).str hlt
        have hsz := HSZ.out _ (List.getElem_mem hlt)
        have HNO := Lib.hid (fun h : resB f n ss[k] = false => okC_not (f := f) (n := n) (List.getElem_mem hlt) h)
        have HX := Lib.hid (Eq.refl ss[k])
        obtain ⟨x, hx⟩ : ∃ x, x = ss[k] := ⟨_, rfl⟩
        rw [← hx] at hc0 hsz HNO
        have HX := Lib.hid hx
        clear hx
        have q1 : (k : Int) < (ss.length : Int) := by omega
        have hR := res_size f n x
        have HK := Lib.hid (fun W => colI_any x f n W (by omega))
        cases hrb : resB f n x with
        | false =>
          have HR := Lib.hid (show okC f n ss = false ∧ resC f n ss = [] from ⟨HNO.out hrb, by simp [resC, HNO.out hrb]⟩)
          rw [hrb] at HK
          clear hrb
          go_wp2_with fail
          refine (HK.out _).mono ?_
          rintro e w3 ⟨rfl, hb3⟩
          have hbw := below_step hb hb3
          go_wp2
          go_ret2
          exact ⟨_, by rw [HR.out.1]; rfl, ⟨by rw [HR.out.2]; exact World.ownsRow_nil _ _ _ _, by rw [HR.out.2]; simp⟩, hbw⟩
        | true =>
          have HRB := Lib.hid hrb
          rw [hrb] at HK
          clear hrb
          go_wp2_with fail
          refine (HK.out _).mono ?_
          rintro e w3 ⟨rfl, hb3⟩
          have hbw := below_step hb hb3
          have hkm3 := KM_below hkm hb3
          have hcell3 := (hb3.cell (World.block_lt_of_cell? _ _ hcell)).trans hcell
          go_wp2_with (first
            | (at_mapUpdate; refine wpList_update_km _ rfl _ _ _ 42 rfl 9 9 Tryd.underlying9 Tryd.underlying9 Tryd.underlying42 w2.heap.size k L hkm3 (by unfold maxLen; omega) rfl _ _ rfl rfl (by unfold maxLen; omega) (by unfold maxLen; omega) ?_; intro w4 hkm4 hgrow4)
            | fail)
          go_roundw
          case rel => exact ⟨k + 1, by omega, by go_num, ⟨_, hkm4, fun j hj h0 => by
            by_cases e1 : ss[j] = x
            · simp only [if_pos e1]; rw [e1]
            · simp only [if_neg e1]
              exact HL.out j hj (by
                rcases Nat.lt_succ_iff_lt_or_eq.1 h0 with h | h
                · exact h
                · subst h; exact absurd HX.out.symm e1)⟩, fun j hj h0 => by
            rcases Nat.lt_succ_iff_lt_or_eq.1 h0 with h | h
            · exact HOK.out j hj h
            · subst h; rw [← HX.out]; exact HRB.out, hgrow4.cell hcell3 (by simp), below_grown hbw hbw.size hgrow4 (fun g hg => by cases hg; exact hb2.size)⟩
          case measure => simp [intOf]; omega
      · have HR := Lib.hid (show okC f n ss = true ∧ resC f n ss = stab (klt (resS f n)) ss from by
          have h := okC_all (f := f) (n := n) HV.out (fun j h => HOK.out j h (by omega))
          exact ⟨h, by rw [resC, if_pos h]⟩)
        have HST := Lib.hid (stab_keys (f := f) (n := n) (ss := ss) (L := L) (fun j h => HL.out j h (by omega)))
        have q1 : ¬ (k : Int) < (ss.length : Int) := by omega
        have HC := Lib.hid (copies.str_any A c ss wr hn (hr.below hb))
        go_wp2_with fail
        refine HC.out.mono ?_
        rintro e w3 ⟨v3, rfl, ho3, hb3⟩
        have hbw := below_step hb hb3
        have hkm3 := KM_below hkm hb3
        have hcell3 := (hb3.cell (World.block_lt_of_cell? _ _ hcell)).trans hcell
        have hlt1 := World.block_lt_of_cell? _ _ hcell
        have HS := Lib.hid (sortStable_str wr.heap.size v3 28 #[.pointer (some ⟨w2.heap.size + 1, 0, none⟩)] (kcf L) (klt L) (kcf_lt L) (weak_klt L) ss w3 (fun g hg => by
          have hge : wr.heap.size ≤ g := by
            rcases ho3.2 with ⟨rfl, _⟩ | ⟨g', cap0, cur, rfl, hb0, _⟩
            · cases hg
            · have e1 : g' = g := by simpa [Value.ownBlock] using hg
              omega
          exact ⟨fun _ _ => rfl, fun x y W hW => cmp_ok w3 g (w2.heap.size + 1) w2.heap.size k L hcell3 hkm3 (by simp at hlt1; omega) (by simp at hlt1; omega) _ _ rfl rfl x y W hW⟩) hn ho3)
        go_wp2_with fail
        refine HS.out.mono ?_
        rintro e w4 ⟨rfl, ho4, hg4⟩
        have hb4 := below_push hb3 hb3.size hg4 ho3
        have hbw4 := below_step hb hb4
        go_wp2
        go_ret2
        exact ⟨_, by rw [HR.out.1]; rfl, ⟨by rw [HR.out.2, ← HST.out, stab_len]; exact own_base ho4 hb.size, by rw [HR.out.2, stab_len]; exact hn⟩, hbw4⟩
set_option maxRecDepth 100000 in
set_option maxHeartbeats 2000000 in
theorem cs_spec (A : Option Addr) (c : Nat) (ss : List ByteArray) (f n : Bool) (w : World) (hn : ss.length ≤ 1048576) (hs : ∀ s ∈ ss, s.size ≤ 1048576) (hr : Rd w 1 A ss.length (strs ss)) :
    Calls Tryd.prog 9 #[.slice A ss.length c, .bool f, .bool n] w fun e w' => ∃ v, e = .returned (.tuple #[v, .bool (okC f n ss)]) ∧ OwnS w w' v (resC f n ss) ∧ Below w.heap.size w w' := by
  have HI := Lib.hid (validStr.list_any A c ss w (by unfold maxLen; omega) (fun s h => Nat.le_trans (hs s h) (by decide)) hr)
  clear hs
  have hm0 := World.ownsRow_made (e := 9) (size := 1) w #[] 0 (Nat.le_refl _) (Nat.zero_le _) (by simp)
  cases hv : vstr ss with
  | false =>
    have HR := Lib.hid (show okC f n ss = false ∧ resC f n ss = [] by simp [resC, okC, hv])
    rw [hv] at HI
    clear hv
    go_enter Tryd.func9, Tryd.ntmps9
    go_wp2_with fail
    refine HI.out.mono ?_
    rintro e w1 ⟨rfl, rfl⟩
    go_wp2
    go_ret2
    exact ⟨_, by rw [HR.out.1]; rfl, ⟨by rw [HR.out.2]; exact hm0, by rw [HR.out.2]; simp⟩, (Below.refl _ _).alloc (Nat.le_refl _) _⟩
  | true =>
    have hlen := vstr_len hv
    have HSZ := Lib.hid (vstr_size hv)
    have HV := Lib.hid hv
    rw [hv] at HI
    clear hv
    have HM0 := Lib.hid hm0
    clear hm0
    go_enter Tryd.func9, Tryd.ntmps9
    go_wp2_with fail
    refine HI.out.mono ?_
    rintro e w1 ⟨rfl, rfl⟩
    go_wp2
    go_loopw [8, 9] (fun v i wr => ∃ k : Nat, k ≤ ss.length ∧ i = .int .i64 (k : Int) ∧ wr.ownsRow w.heap.size 9 1 v k (strs ((ss.take k).map (resS f n))) ∧ (∀ j (h : j < ss.length), j < k → resB f n ss[j] = true) ∧ Below w.heap.size w wr) (fun _ i _ => ss.length - (intOf i).toNat)
    case atStart => exact ⟨0, Nat.zero_le _, rfl, HM0.out, fun j _ h0 => absurd h0 (by omega), (Below.refl _ _).alloc (Nat.le_refl _) _⟩
    case round =>
      obtain ⟨k, hk1, rfl, ho, hok, hb⟩ := hrel
      have HOK := Lib.hid hok
      clear hok
      have hbs := hb.size
      by_cases hlt : k < ss.length
      · obtain ⟨b, off, rfl, hc0⟩ := (hr.below hb).str hlt
        have hsz := HSZ.out _ (List.getElem_mem hlt)
        have HNO := Lib.hid (fun h : resB f n ss[k] = false => okC_not (f := f) (n := n) (List.getElem_mem hlt) h)
        have HT := Lib.hid (show strs ((ss.take k).map (resS f n)) ++ [.string (resS f n ss[k])] = strs ((ss.take (k + 1)).map (resS f n)) by
          rw [List.take_succ_eq_append_getElem hlt, List.map_append, strs, strs, List.map_append]; rfl)
        obtain ⟨x, hx⟩ : ∃ x, x = ss[k] := ⟨_, rfl⟩
        rw [← hx] at hc0 hsz HNO HT
        have HX := Lib.hid hx
        clear hx
        have q1 : (k : Int) < (ss.length : Int) := by omega
        have HK := Lib.hid (fun W => key_any x f n W (by omega))
        cases hrb : resB f n x with
        | false =>
          have HR := Lib.hid (show okC f n ss = false ∧ resC f n ss = [] from ⟨HNO.out hrb, by simp [resC, HNO.out hrb]⟩)
          rw [hrb] at HK
          clear hrb
          go_wp2_with fail
          refine (HK.out _).mono ?_
          rintro e w3 ⟨rfl, hb3⟩
          have hbw := below_step hb hb3
          have HM3 := Lib.hid (World.ownsRow_made (e := 9) (size := 1) w3 #[] 0 (Nat.le_refl _) (Nat.zero_le _) (by simp))
          have HB3 := Lib.hid (hbw.alloc hbw.size (.cells #[] 9))
          go_wp2
          go_ret2
          exact ⟨_, by rw [HR.out.1]; rfl, ⟨by rw [HR.out.2]; exact own_base HM3.out hbw.size, by rw [HR.out.2]; simp⟩, HB3.out⟩
        | true =>
          have HRB := Lib.hid hrb
          rw [hrb] at HK
          clear hrb
          go_wp2_with fail
          refine (HK.out _).mono ?_
          rintro e w3 ⟨rfl, hb3⟩
          have hbw := below_step hb hb3
          have ho3 := own_below ho hb3
          have hkb : k ≤ 1099511627776 := by omega
          have hbs3 := hbw.size
          go_wp2_with (at_builtin; refine mem.push _ rfl _ _ 25 rfl w.heap.size 9 _ 1 16 Tryd.underlying25 mem.info_str rfl Nat.one_pos _ _ _ rfl ho3 (strs [(resS f n x)]) _ rfl (mem.strs_one [(resS f n x)]) rfl hkb (by decide) hbs3 ?_; intro v' w' ho' hg')
          have hbx := below_push hbw hbs3 hg' ho3
          simp only [strs, List.map_cons, List.map_nil] at ho'
          go_roundw
          case rel => exact ⟨k + 1, by omega, by go_num, by rw [← HT.out]; exact ho', fun j hj h0 => by
            rcases Nat.lt_succ_iff_lt_or_eq.1 h0 with h | h
            · exact HOK.out j hj h
            · subst h; rw [← HX.out]; exact HRB.out, hbx⟩
          case measure => simp [intOf]; omega
      · have HR := Lib.hid (show okC f n ss = true ∧ resC f n ss = stab (klt (resS f n)) ss from by
          have h := okC_all (f := f) (n := n) HV.out (fun j h => HOK.out j h (by omega))
          exact ⟨h, by rw [resC, if_pos h]⟩)
        have q1 : ¬ (k : Int) < (ss.length : Int) := by omega
        have e1 : k = ss.length := by omega
        have e2 : ss.take k = ss := by rw [e1, List.take_length]
        rw [e2] at ho
        clear e2
        have HKL := Lib.hid e1
        have hpl : (ss.map fun s => (s, resS f n s)).length = ss.length := List.length_map _
        have hp1 : ins22.fs (ss.map fun s => (s, resS f n s)) = ss := by rw [ins22.fs, List.map_map]; exact List.map_id _
        have hp2 : ins22.sn (ss.map fun s => (s, resS f n s)) = ss.map (resS f n) := by rw [ins22.sn, List.map_map]; rfl
        rw [e1] at ho
        obtain ⟨A2, c2, rfl, hc2, hc2m, hr2⟩ := own_form ho
        have HS := Lib.hid (ins22.sorted_any A A2 c c2 (ss.map fun s => (s, resS f n s)) wr (by rw [hpl]; exact hn) (by rw [hpl, hp1]; exact hr.below hb) (by rw [hpl, hp2]; exact hr2))
        rw [hpl, stab_pairs] at HS
        clear hpl hp1 hp2 e1
        go_wp2_with fail
        refine HS.out.mono ?_
        rintro e w4 ⟨v4, rfl, ho4, hb4⟩
        have hbw4 := below_step hb hb4
        go_wp2
        go_ret2
        exact ⟨_, by rw [HR.out.1]; rfl, ⟨by rw [HR.out.2, stab_len]; exact own_base ho4 hb.size, by rw [HR.out.2, stab_len]; exact hn⟩, hbw4⟩
end Go.Proofs.YtaeimdcmpjanbaaDoor.colS
