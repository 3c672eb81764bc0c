/- Strings in the order of their keys, the reference's. Condition: at most 2^20 strings. -/
import Derived.Test.YtaeimdcmpjanbaaDoorSsLaw
import Derived.Test.YtaeimdcmpjanbaaDoorMemAt
import Derived.Test.YtaeimdcmpjanbaaDoorCut
import Derived.Deep.DeepCutAuto
import Derived.Deep.CutBlock
import Derived.Deep.RegionHeld3
import Derived.Deep.RegionLaw
set_option linter.unusedVariables false
set_option linter.unusedSimpArgs false
namespace Go.Proofs.YtaeimdcmpjanbaaDoor.ins22
open Go.RowKit Go.Proofs.YtaeimdcmpjanbaaDoor.mem Go.Proofs.YtaeimdcmpjanbaaDoor.stb Go.Proofs.YtaeimdcmpjanbaaDoor.ascStr

def ltP (p q : ByteArray × ByteArray) : Bool := lt p.2 q.2
/-- the first k strings with their keys, sorted -/
def T (ps : List (ByteArray × ByteArray)) (k : Nat) : List (ByteArray × ByteArray) := stab ltP (ps.take k)
theorem T_len (ps : List (ByteArray × ByteArray)) {k : Nat} (h : k ≤ ps.length) : (T ps k).length = k := by rw [T, stab_len, List.length_take]; omega
theorem T_step (ps : List (ByteArray × ByteArray)) {k : Nat} (h : k < ps.length) : T ps (k + 1) = insR ltP (T ps k) ps[k] := stab_take ps h
def fs (ps : List (ByteArray × ByteArray)) : List ByteArray := ps.map Prod.fst
def sn (ps : List (ByteArray × ByteArray)) : List ByteArray := ps.map Prod.snd
theorem fs_len (ps : List (ByteArray × ByteArray)) : (fs ps).length = ps.length := List.length_map _
theorem sn_len (ps : List (ByteArray × ByteArray)) : (sn ps).length = ps.length := List.length_map _
theorem sn_at (ps : List (ByteArray × ByteArray)) {k : Nat} (h : k < ps.length) : (sn ps)[k]'(by rw [sn_len]; exact h) = ps[k].2 := by simp [sn]
theorem fs_at (ps : List (ByteArray × ByteArray)) {k : Nat} (h : k < ps.length) : (fs ps)[k]'(by rw [fs_len]; exact h) = ps[k].1 := by simp [fs]
theorem fs_ins (l : List (ByteArray × ByteArray)) (x : ByteArray × ByteArray) {p : Nat} (h : pos ltP x l l.length = p) : fs (insR ltP l x) = (fs l).take p ++ ([x.1] ++ (fs l).drop p) := by
  subst h; simp [fs, insR]
theorem sn_ins (l : List (ByteArray × ByteArray)) (x : ByteArray × ByteArray) {p : Nat} (h : pos ltP x l l.length = p) : sn (insR ltP l x) = (sn l).take p ++ ([x.2] ++ (sn l).drop p) := by
  subst h; simp [sn, insR]

set_option maxRecDepth 100000 in
set_option maxHeartbeats 4000000 in
theorem sorted_any (A B : Option Addr) (c d : Nat) (ps : List (ByteArray × ByteArray)) (w : World) (hn : ps.length ≤ 1048576) (hra : Rd w 1 A ps.length (strs (fs ps))) (hrb : Rd w 1 B ps.length (strs (sn ps))) :
    Calls Tryd.prog 24 #[.slice A ps.length c, .slice B ps.length d] w fun e w' => ∃ v, e = .returned v ∧ w'.ownsRow w.heap.size 9 1 v ps.length (strs (fs (stab ltP ps))) ∧ Below w.heap.size w w' := by
  have HO2 := Lib.hid (own_made2 w 9 1)
  have HB2 := Lib.hid (box2 w 9 9 #[] #[])
  have HO1 := Lib.hid (World.ownsRow_made (e := 9) (size := 1) w #[] 0 (Nat.le_refl _) (Nat.zero_le _) (by simp))
  go_enter Tryd.func24, Tryd.ntmps24
  go_wp2
  go_loopg [5, 6, 7] (ps.length + 1) (fun f v u i wr => ∃ k : Nat, ps.length < k + f ∧ k ≤ ps.length ∧ i = .int .i64 (k : Int) ∧ wr.ownsRow w.heap.size 9 1 v k (strs (fs (T ps k))) ∧ wr.ownsRow w.heap.size 9 1 u k (strs (sn (T ps k))) ∧ Below w.heap.size w wr)
  case atStart => exact ⟨0, by omega, by omega, rfl, own_below HO1.out ((Below.refl _ _).alloc (Nat.le_refl _) _), HO2.out, HB2.out.2.2⟩
  case round =>
    obtain ⟨k, hkf, hk, rfl, hov, hou, hb⟩ := hrel
    by_cases hlt : k < ps.length
    · have HT := Lib.hid (T_step ps hlt)
      have HL := Lib.hid (T_len ps hk)
      have hxa : Rd w 1 A (fs ps).length (strs (fs ps)) := by rw [fs_len]; exact hra
      have hxb : Rd w 1 B (sn ps).length (strs (sn ps)) := by rw [sn_len]; exact hrb
      obtain ⟨b1, off1, rfl, hx⟩ := (hxa.below hb).str (k := k) (by rw [fs_len]; exact hlt)
      obtain ⟨b2, off2, rfl, hy⟩ := (hxb.below hb).str (k := k) (by rw [sn_len]; exact hlt)
      rw [fs_at ps hlt] at hx
      rw [sn_at ps hlt] at hy
      obtain ⟨L, hL⟩ : ∃ L, L = T ps k := ⟨_, rfl⟩
      rw [← hL] at hov hou HT HL
      clear hL
      generalize ps[k] = x at hx hy HT
      obtain ⟨A1, c1, rfl, hc1, hc1m, hr1⟩ := own_form hov
      obtain ⟨A2, c2, rfl, hc2, hc2m, hr2⟩ := own_form hou
      have q1 : (k : Int) < (ps.length : Int) := by omega
      clear hxa hxb
      go_upto_block 2 with fail
      go_cut [8] (fun s8 wx => (∃ j : Nat, s8 = .int .i64 (j : Int) ∧ j ≤ k ∧ pos ltP x L L.length = j) ∧ ∃ m, wx = wr.drewN m)
      case first =>
        go_wp2
        go_loopg [8] (k + 1) (fun f s wi => ∃ j m : Nat, j < f ∧ s = .int .i64 (j : Int) ∧ j ≤ k ∧ pos ltP x L L.length = pos ltP x L j ∧ wi = wr.drewN m)
        case atStart => exact ⟨k, 0, by omega, rfl, by omega, by rw [HL.out], rfl⟩
        case round =>
          obtain ⟨j, m, hjf, rfl, hj, hp, rfl⟩ := hrel
          have HP := Lib.hid hp
          clear hp
          by_cases h0 : j = 0
          · subst h0
            have HE := Lib.hid (show pos ltP x L L.length = 0 by rw [HP.out]; rfl)
            go_wp2_with fail
            go_quiet (fail)
            go_wp2_with fail
            go_meet
            exact ⟨⟨0, rfl, by omega, HE.out⟩, _, World.drewN_drewN _ _ _⟩
          · obtain ⟨t, rfl⟩ : ∃ t, j = t + 1 := ⟨j - 1, by omega⟩
            have htL : t < L.length := by have := HL.out; omega
            have hz := (show Rd wr 1 A2 (sn L).length (strs (sn L)) by rw [sn_len, HL.out]; exact hr2).str (k := t) (by rw [sn_len]; exact htL)
            obtain ⟨b3, off3, rfl, hz⟩ := hz
            rw [sn_at L htL] at hz
            have HD := Lib.hid (fun (h : ltP x L[t] = true) => pos_down htL h)
            have HS := Lib.hid (fun (h : ltP x L[t] = false) => pos_stop htL h)
            have HLT := Lib.hid (show lt x.2 L[t].2 = ltP x L[t] from rfl)
            have HLT2 := Lib.hid (show Op.bytesLess x.2.toList L[t].2.toList = ltP x L[t] from rfl)
            generalize ltP x L[t] = bb at HD HS HLT HLT2
            generalize L[t].2 = y at hz HLT HLT2
            rw [show (((t + 1 : Nat)) : Int) = (t : Int) + 1 by omega]
            have q2 : (t : Int) < (k : Int) := by omega
            have q3 : (0 : Int) < (t : Int) + 1 := by omega
            cases bb with
            | true =>
              have HE := Lib.hid (show pos ltP x L L.length = pos ltP x L t by rw [HP.out, HD.out rfl])
              have hbl := HLT2.out
              go_wp2_with fail
              go_quiet (fail)
              go_wp2
              go_roundg (gk - 1)
              case rel => exact ⟨t, _, by omega, by go_num, by omega, HE.out, rfl⟩
              case measure => omega
            | false =>
              have HE := Lib.hid (show pos ltP x L L.length = t + 1 by rw [HP.out, HS.out rfl])
              have hbl := HLT2.out
              go_wp2_with fail
              go_quiet (fail)
              go_wp2_with fail
              go_meet
              exact ⟨⟨t + 1, by go_num, by omega, HE.out⟩, _, World.drewN_drewN _ _ _⟩
      case rest =>
        obtain ⟨⟨j, rfl, hj, hp⟩, m, hwc⟩ := hcut
        obtain ⟨wq, hwq⟩ : ∃ W : World, W = wc := ⟨_, rfl⟩
        rw [← hwq] at hwc
        rw [← hwq]
        have hxq : wq.cell? ⟨b1, off1 + k, none⟩ = some (.string x.1) := by rw [hwc]; exact hx
        have hyq : wq.cell? ⟨b2, off2 + k, none⟩ = some (.string x.2) := by rw [hwc]; exact hy
        have hovq := own_drewN hov m
        have houq := own_drewN hou m
        have hbq := below_drewN hb m
        rw [← hwc] at hovq houq hbq
        clear hwq hwc hx hy hov hou hb hr1 hr2
        have HTK := Lib.hid (show ∀ W, Below wq.heap.size wq W → Rd W 1 A1 j (strs ((fs L).take j)) from fun W h => by
          have := ((own_rd hovq).below h).take hj
          rwa [Nat.mul_one, show (strs (fs L)).take j = strs ((fs L).take j) by simp [strs]] at this)
        have HDP := Lib.hid (show ∀ W, Below wq.heap.size wq W → Rd W 1 (cutA A1 c1 j 1) (k - j) (strs ((fs L).drop j)) from fun W h => by
          have := ((own_rd hovq).below h).cut_at (k := j) (m := k - j) (cap := c1) (by omega) hc1
          rwa [Nat.mul_one, Nat.mul_one, show (strs (fs L)).drop j = strs ((fs L).drop j) by simp [strs], List.take_of_length_le (by rw [len_strs, List.length_drop, fs_len, HL.out]; omega)] at this)
        have hrf := fun W => run_from (P := Tryd.prog) 25 9 _ 1 16 Tryd.underlying25 info_str A1 k c1 j (j : Int) rfl hj W
        have hru := fun W => run_upto (P := Tryd.prog) 25 9 _ 1 16 Tryd.underlying25 info_str A1 k c1 j (j : Int) rfl (by omega) W
        rw [cutA_zero] at hru
        have HTU := Lib.hid (show ∀ W, Below wq.heap.size wq W → Rd W 1 A2 j (strs ((sn L).take j)) from fun W h => by
          have := ((own_rd houq).below h).take hj
          rwa [Nat.mul_one, show (strs (sn L)).take j = strs ((sn L).take j) by simp [strs]] at this)
        have HDU := Lib.hid (show ∀ W, Below wq.heap.size wq W → Rd W 1 (cutA A2 c2 j 1) (k - j) (strs ((sn L).drop j)) from fun W h => by
          have := ((own_rd houq).below h).cut_at (k := j) (m := k - j) (cap := c2) (by omega) hc2
          rwa [Nat.mul_one, Nat.mul_one, show (strs (sn L)).drop j = strs ((sn L).drop j) by simp [strs], List.take_of_length_le (by rw [len_strs, List.length_drop, sn_len, HL.out]; omega)] at this)
        have hsf := fun W => run_from (P := Tryd.prog) 25 9 _ 1 16 Tryd.underlying25 info_str A2 k c2 j (j : Int) rfl hj W
        have hsu := fun W => run_upto (P := Tryd.prog) 25 9 _ 1 16 Tryd.underlying25 info_str A2 k c2 j (j : Int) rfl (by omega) W
        rw [cutA_zero] at hsu
        have HIN := Lib.hid (fun (W : World) (y : ByteArray) => ins3 W 9 1 #[.string y])
        have HI := Lib.hid (HIN.out wq x.1)
        have HKS := Lib.hid (fun W (h : Below wq.heap.size wq W) => cells_below h hxq)
        have hh1 : 0 + j ≤ 1099511627776 := by omega
        have hh2 : 0 + j + 1 ≤ 1099511627776 := by omega
        have hh3 : 0 + j + 1 + (k - j) ≤ 1099511627776 := by omega
        have HLEN := Lib.hid (show 0 + j + 1 + (k - j) = k + 1 by omega)
        have HRES := Lib.hid (show [] ++ strs ((fs L).take j) ++ strs [x.1] ++ strs ((fs L).drop j) = strs (fs (insR ltP L x)) by rw [fs_ins L x hp, List.nil_append, strs_app, strs_app, List.append_assoc])
        have HRES2 := Lib.hid (show [] ++ strs ((sn L).take j) ++ strs [x.2] ++ strs ((sn L).drop j) = strs (sn (insR ltP L x)) by rw [sn_ins L x hp, List.nil_append, strs_app, strs_app, List.append_assoc])
        go_upto_region 9 with fail
        go_cut [5] (fun s5 wx => ∃ v : Value, v = s5 ∧ wx.ownsRow wq.heap.size 9 1 v (k + 1) (strs (fs (insR ltP L x))) ∧ Below wq.heap.size wq wx)
        case first =>
          (go_region_held3 (fun w' => w'.cell? ⟨b1, off1 + k, none⟩ = some (.string x.1)) (first | exact HKS.out _ hqE | exact HKS.out _ hqD | exact HKS.out _ hqB | go_keep) (first | (refine mem.step_extend_at (wq.alloc (.cells #[] 9)).drew rfl (.tmp 35) (.tmp 38) 25 rfl wq.heap.size 9 _ 1 16 Tryd.underlying25 mem.info_str rfl Nat.one_pos (.slice (some ⟨wq.heap.size, 0, none⟩) 0 0) 0 [] (by simp [Act.eval, Act.put]) HI.out.1.1 A1 j c1 (strs ((fs L).take j)) (by simp [Act.eval, Act.put]) (HTK.out _ HI.out.1.2) (mem.strs_one _) hh1 (by decide) HI.out.1.2.size ?_; intro vB wB hoB hgB hnB; have hqB := below_grown HI.out.1.2 HI.out.1.2.size hgB (own_ge HI.out.1.1)) | (refine mem.step_extend_at ((wq.alloc (.cells #[] 9)).alloc (.cells #[.string x.1] 9)).drew rfl (.tmp 35) (.tmp 38) 25 rfl wq.heap.size 9 _ 1 16 Tryd.underlying25 mem.info_str rfl Nat.one_pos (.slice (some ⟨wq.heap.size, 0, none⟩) 0 0) 0 [] (by simp [Act.eval, Act.put]) HI.out.2.1.1 A1 j c1 (strs ((fs L).take j)) (by simp [Act.eval, Act.put]) (HTK.out _ HI.out.2.1.2.2) (mem.strs_one _) hh1 (by decide) HI.out.2.1.2.2.size ?_; intro vB wB hoB hgB hnB; have hqB := below_grown HI.out.2.1.2.2 HI.out.2.1.2.2.size hgB (own_ge HI.out.2.1.1); have hbx := HI.out.2.1.2.1.grown hgB (by simp [Value.ownBlock])) | (refine mem.step_extend_at ((wq.alloc (.cells #[.string x.1] 9)).alloc (.cells #[] 9)).drew rfl (.tmp 35) (.tmp 38) 25 rfl wq.heap.size 9 _ 1 16 Tryd.underlying25 mem.info_str rfl Nat.one_pos (.slice (some ⟨wq.heap.size + 1, 0, none⟩) 0 0) 0 [] (by simp [Act.eval, Act.put]) HI.out.2.2.1 A1 j c1 (strs ((fs L).take j)) (by simp [Act.eval, Act.put]) (HTK.out _ HI.out.2.2.2.2) (mem.strs_one _) hh1 (by decide) HI.out.2.2.2.2.size ?_; intro vB wB hoB hgB hnB; have hqB := below_grown HI.out.2.2.2.2 HI.out.2.2.2.2.size hgB (own_ge HI.out.2.2.1); have hbx := HI.out.2.2.2.1.grown hgB (by simp [Value.ownBlock])) | (refine mem.step_extend_at wB rfl (.tmp 39) (.tmp 44) 25 rfl wq.heap.size 9 _ 1 16 Tryd.underlying25 mem.info_str rfl Nat.one_pos vB (0 + j) _ (by simp [Act.eval, Act.put]) hoB _ 1 1 (strs [x.1]) (by simp [Act.eval, Act.put]) (Blk.rd_one hbx rfl) (mem.strs_one _) hh2 (by decide) hqB.size ?_; intro vD wD hoD hgD hnD; have hqD := below_grown hqB hqB.size hgD (own_ge hoB)) | (refine mem.step_extend_at (wB.alloc (.cells #[.string x.1] 9)) rfl (.tmp 39) (.tmp 44) 25 rfl wq.heap.size 9 _ 1 16 Tryd.underlying25 mem.info_str rfl Nat.one_pos vB (0 + j) _ (by simp [Act.eval, Act.put]) (own_below hoB ((Below.refl _ _).alloc (Nat.le_refl _) _)) (some ⟨wB.heap.size, 0, none⟩) 1 1 (strs [x.1]) (by simp [Act.eval, Act.put]) (Blk.rd_one (Blk.new _ _ _) rfl) (mem.strs_one _) hh2 (by decide) (hqB.alloc hqB.size _).size ?_; intro vD wD hoD hgD hnD; have hqD := below_grown (hqB.alloc hqB.size _) (hqB.alloc hqB.size _).size hgD (own_ge hoB)) | (refine mem.step_extend_at wD rfl (.tmp 45) (.tmp 48) 25 rfl wq.heap.size 9 _ 1 16 Tryd.underlying25 mem.info_str rfl Nat.one_pos vD (0 + j + 1) _ (by simp [Act.eval, Act.put]) hoD (cutA A1 c1 j 1) (k - j) (c1 - j) (strs ((fs L).drop j)) (by simp [Act.eval, Act.put]) (HDP.out _ hqD) (mem.strs_one _) hh3 (by decide) hqD.size ?_; intro vE wE hoE hgE hnE; have hqE := below_grown hqD hqD.size hgE (own_ge hoD))))
          all_goals (go_wp2_with fail; go_meet; exact ⟨vE, rfl, by rw [← HRES.out, ← HLEN.out]; exact hoE, hqE⟩)
        case rest =>
          obtain ⟨v5, rfl, ho5, hb5⟩ := hcut
          obtain ⟨wz, hwz⟩ : ∃ W : World, W = wc := ⟨_, rfl⟩
          rw [← hwz] at ho5 hb5
          rw [← hwz]
          clear hwz HI HKS
          have HI2 := Lib.hid (HIN.out wz x.2)
          have hyz := cells_below hb5 hyq
          have HTU2 := Lib.hid (fun W (h : Below wz.heap.size wz W) => HTU.out W (below_step hb5 h))
          have HDU2 := Lib.hid (fun W (h : Below wz.heap.size wz W) => HDU.out W (below_step hb5 h))
          have HKS2 := Lib.hid (fun W (h : Below wz.heap.size wz W) => cells_below h hyz)
          go_upto_region 10 with fail
          (go_region_held3 (fun w' => w'.cell? ⟨b2, off2 + k, none⟩ = some (.string x.2)) (first | exact HKS2.out _ hqE | exact HKS2.out _ hqD | exact HKS2.out _ hqB | go_keep) (first | (refine mem.step_extend_at (wz.alloc (.cells #[] 9)).drew rfl (.tmp 50) (.tmp 53) 25 rfl wz.heap.size 9 _ 1 16 Tryd.underlying25 mem.info_str rfl Nat.one_pos (.slice (some ⟨wz.heap.size, 0, none⟩) 0 0) 0 [] (by simp [Act.eval, Act.put]) HI2.out.1.1 A2 j c2 (strs ((sn L).take j)) (by simp [Act.eval, Act.put]) (HTU2.out _ HI2.out.1.2) (mem.strs_one _) hh1 (by decide) HI2.out.1.2.size ?_; intro vB wB hoB hgB hnB; have hqB := below_grown HI2.out.1.2 HI2.out.1.2.size hgB (own_ge HI2.out.1.1)) | (refine mem.step_extend_at ((wz.alloc (.cells #[] 9)).alloc (.cells #[.string x.2] 9)).drew rfl (.tmp 50) (.tmp 53) 25 rfl wz.heap.size 9 _ 1 16 Tryd.underlying25 mem.info_str rfl Nat.one_pos (.slice (some ⟨wz.heap.size, 0, none⟩) 0 0) 0 [] (by simp [Act.eval, Act.put]) HI2.out.2.1.1 A2 j c2 (strs ((sn L).take j)) (by simp [Act.eval, Act.put]) (HTU2.out _ HI2.out.2.1.2.2) (mem.strs_one _) hh1 (by decide) HI2.out.2.1.2.2.size ?_; intro vB wB hoB hgB hnB; have hqB := below_grown HI2.out.2.1.2.2 HI2.out.2.1.2.2.size hgB (own_ge HI2.out.2.1.1); have hbx := HI2.out.2.1.2.1.grown hgB (by simp [Value.ownBlock])) | (refine mem.step_extend_at ((wz.alloc (.cells #[.string x.2] 9)).alloc (.cells #[] 9)).drew rfl (.tmp 50) (.tmp 53) 25 rfl wz.heap.size 9 _ 1 16 Tryd.underlying25 mem.info_str rfl Nat.one_pos (.slice (some ⟨wz.heap.size + 1, 0, none⟩) 0 0) 0 [] (by simp [Act.eval, Act.put]) HI2.out.2.2.1 A2 j c2 (strs ((sn L).take j)) (by simp [Act.eval, Act.put]) (HTU2.out _ HI2.out.2.2.2.2) (mem.strs_one _) hh1 (by decide) HI2.out.2.2.2.2.size ?_; intro vB wB hoB hgB hnB; have hqB := below_grown HI2.out.2.2.2.2 HI2.out.2.2.2.2.size hgB (own_ge HI2.out.2.2.1); have hbx := HI2.out.2.2.2.1.grown hgB (by simp [Value.ownBlock])) | (refine mem.step_extend_at wB rfl (.tmp 54) (.tmp 59) 25 rfl wz.heap.size 9 _ 1 16 Tryd.underlying25 mem.info_str rfl Nat.one_pos vB (0 + j) _ (by simp [Act.eval, Act.put]) hoB _ 1 1 (strs [x.2]) (by simp [Act.eval, Act.put]) (Blk.rd_one hbx rfl) (mem.strs_one _) hh2 (by decide) hqB.size ?_; intro vD wD hoD hgD hnD; have hqD := below_grown hqB hqB.size hgD (own_ge hoB)) | (refine mem.step_extend_at (wB.alloc (.cells #[.string x.2] 9)) rfl (.tmp 54) (.tmp 59) 25 rfl wz.heap.size 9 _ 1 16 Tryd.underlying25 mem.info_str rfl Nat.one_pos vB (0 + j) _ (by simp [Act.eval, Act.put]) (own_below hoB ((Below.refl _ _).alloc (Nat.le_refl _) _)) (some ⟨wB.heap.size, 0, none⟩) 1 1 (strs [x.2]) (by simp [Act.eval, Act.put]) (Blk.rd_one (Blk.new _ _ _) rfl) (mem.strs_one _) hh2 (by decide) (hqB.alloc hqB.size _).size ?_; intro vD wD hoD hgD hnD; have hqD := below_grown (hqB.alloc hqB.size _) (hqB.alloc hqB.size _).size hgD (own_ge hoB)) | (refine mem.step_extend_at wD rfl (.tmp 60) (.tmp 63) 25 rfl wz.heap.size 9 _ 1 16 Tryd.underlying25 mem.info_str rfl Nat.one_pos vD (0 + j + 1) _ (by simp [Act.eval, Act.put]) hoD (cutA A2 c2 j 1) (k - j) (c2 - j) (strs ((sn L).drop j)) (by simp [Act.eval, Act.put]) (HDU2.out _ hqD) (mem.strs_one _) hh3 (by decide) hqD.size ?_; intro vE wE hoE hgE hnE; have hqE := below_grown hqD hqD.size hgE (own_ge hoD))))
          all_goals
            have ho6 : wE.ownsRow wz.heap.size 9 1 vE (k + 1) (strs (sn (insR ltP L x))) := by rw [← HRES2.out, ← HLEN.out]; exact hoE
            have HALL := Lib.hid (And.intro (own_base (own_below ho5 hqE) hbq.size) (And.intro (own_base ho6 (Nat.le_trans hbq.size hb5.size)) (below_at hbq hbq.size (below_step hb5 hqE))))
            clear ho5 ho6 hoE hgE hnE hqE hb5 hyz hovq houq hbq hxq hyq hp hrf hru hsf hsu
            go_wp2
            go_roundg (gk - 1)
            case rel => exact ⟨k + 1, by omega, by omega, by go_num, by rw [HT.out]; exact HALL.out.1, by rw [HT.out]; exact HALL.out.2.1, HALL.out.2.2⟩
            case measure => omega
    · obtain rfl : k = ps.length := by omega
      have HE := Lib.hid (show T ps ps.length = stab ltP ps by rw [T, List.take_length])
      rw [HE.out] at hov
      go_wp2
      go_ret
      exact ⟨_, rfl, hov, hb⟩
end Go.Proofs.YtaeimdcmpjanbaaDoor.ins22
