/- The records with the greatest keys, the program's and the reference's. Condition: at most 2^20 records. -/
import Derived.Test.YtgngoedooemboaaStbRec
import Derived.Test.YtgngoedooemboaaCmpI
import Derived.Test.YtgngoedooemboaaVrec
import Derived.Test.YtgngoedooemboaaCopy
set_option linter.unusedVariables false
set_option linter.unusedSimpArgs false
namespace Go.Proofs.Ytgngoedooemboaa.tops
open Go.RowKit Go.Proofs.Ytgngoedooemboaa.mem Go.Proofs.Ytgngoedooemboaa.stb Go.Proofs.Ytgngoedooemboaa.cmpI
open Go.Proofs.Ytgngoedooemboaa.ins (inB inB_iff)

def ltT (x y : Rec) : Bool := decide (y.key < x.key)
theorem weakT : Weak ltT := weak_down Rec.key
def T (zs : List Rec) (k : Nat) : List Rec := stab ltT (zs.take k)
theorem T_len (zs : List Rec) {k : Nat} (h : k ≤ zs.length) : (T zs k).length = k := by rw [T, stab_len, List.length_take]; omega
theorem T_step (zs : List Rec) {k : Nat} (h : k < zs.length) : T zs (k + 1) = insR ltT (T zs k) zs[k] := stab_take zs h
theorem ins_form (l : List Rec) (x : Rec) {p : Nat} (h : pos ltT x l l.length = p) : insR ltT l x = l.take p ++ ([x] ++ l.drop p) := by subst h; simp [insR]
/-- the greatest k -/
def tp (zs : List Rec) (k : Nat) : List Rec := (stab ltT zs).take k
theorem tp_len (zs : List Rec) (k : Nat) : (tp zs k).length = min k zs.length := by rw [tp, List.length_take, stab_len]
theorem recs_take' (l : List Rec) (k : Nat) : (recs l).take (k * 2) = recs (l.take k) := (recs_take l k).symm
theorem recs_drop' (l : List Rec) (k : Nat) : (recs l).drop (k * 2) = recs (l.drop k) := (recs_drop l k).symm

set_option maxRecDepth 100000 in
set_option maxHeartbeats 8000000 in
theorem spec_top (A : Option Addr) (c : Nat) (zs : List Rec) (kk : Nat) (w : World) (hn : zs.length ≤ 1048576) (hk2 : kk ≤ 1048576) (hr : Rd w 2 A zs.length (recs zs)) :
    Calls Try.prog 63 #[.slice A zs.length c, .int .i64 (kk : Int)] w fun e w' => ∃ v, e = .returned v ∧ w'.ownsRow w.heap.size 49 2 v (tp zs kk).length (recs (tp zs kk)) ∧ Below w.heap.size w w' := by
  have HO1 := Lib.hid (World.ownsRow_made (e := 49) (size := 2) w #[] 0 (Nat.le_refl _) (Nat.zero_le _) (by simp))
  go_enter Try.func63, Try.ntmps63
  go_wp2
  go_loopg [5, 6] (zs.length + 1) (fun f v i wr => ∃ k : Nat, zs.length < k + f ∧ k ≤ zs.length ∧ i = .int .i64 (k : Int) ∧ wr.ownsRow w.heap.size 49 2 v k (recs (T zs k)) ∧ Below w.heap.size w wr)
  case atStart => exact ⟨0, by omega, by omega, rfl, HO1.out, (Below.refl _ _).alloc (Nat.le_refl _) _⟩
  case round =>
    obtain ⟨k, hkf, hk, rfl, hov, hb⟩ := hrel
    by_cases hlt : k < zs.length
    · have HT := Lib.hid (T_step zs hlt)
      have HL := Lib.hid (T_len zs hk)
      obtain ⟨b1, off1, rfl, hx0, hx1⟩ := (hr.below hb).rec (k := k) hlt
      obtain ⟨L, hL⟩ : ∃ L, L = T zs k := ⟨_, rfl⟩
      rw [← hL] at hov HT HL
      clear hL
      generalize zs[k] = x at hx0 hx1 HT
      obtain ⟨A1, c1, rfl, hc1, hc1m, hr1⟩ := own_form hov
      have q1 : (k : Int) < (zs.length : Int) := by omega
      go_upto_block 2 with fail
      go_cut [7] (fun s7 wx => (∃ j : Nat, s7 = .int .i64 (j : Int) ∧ j ≤ k ∧ pos ltT x L L.length = j) ∧ ∃ m, wx = wr.drewN m)
      case first =>
        go_wp2
        go_loopg [7] (k + 1) (fun f s wi => ∃ j m : Nat, j < f ∧ s = .int .i64 (j : Int) ∧ j ≤ k ∧ pos ltT x L L.length = pos ltT x L j ∧ wi = wr.drewN m)
        case atStart => exact ⟨k, 0, by omega, rfl, by omega, by rw [HL.out], rfl⟩
        case round =>
          obtain ⟨j, m, hjf, rfl, hj, hp, rfl⟩ := hrel
          have HP := Lib.hid hp
          clear hp
          by_cases h0 : j = 0
          · subst h0
            have HE := Lib.hid (show pos ltT x L L.length = 0 by rw [HP.out]; rfl)
            go_wp2_with fail
            go_quiet (fail)
            go_wp2_with fail
            go_meet
            exact ⟨⟨0, rfl, by omega, HE.out⟩, _, World.drewN_drewN _ _ _⟩
          · obtain ⟨t, rfl⟩ : ∃ t, j = t + 1 := ⟨j - 1, by omega⟩
            have htL : t < L.length := by have := HL.out; omega
            obtain ⟨b3, off3, rfl, hz0, hz1⟩ := (show Rd wr 2 A1 L.length (recs L) by rw [HL.out]; exact hr1).rec (k := t) htL
            have HD := Lib.hid (fun (h : ltT x L[t] = true) => pos_down htL h)
            have HS := Lib.hid (fun (h : ltT x L[t] = false) => pos_stop htL h)
            have HLT := Lib.hid (show ltT x L[t] = decide (L[t].key < x.key) from rfl)
            generalize ltT x L[t] = bb at HD HS HLT
            generalize L[t] = y at hz0 hz1 HLT
            rw [show (((t + 1 : Nat)) : Int) = (t : Int) + 1 by omega]
            have q2 : (t : Int) < (k : Int) := by omega
            have q3 : (0 : Int) < (t : Int) + 1 := by omega
            cases bb with
            | true =>
              have HE := Lib.hid (show pos ltT x L L.length = pos ltT x L t by rw [HP.out, HD.out rfl])
              have hbl : y.key < x.key := of_decide_eq_true HLT.out.symm
              go_wp2_with fail
              go_quiet (fail)
              go_wp2
              go_roundg (gk - 1)
              case rel => exact ⟨t, _, by omega, by go_num, by omega, HE.out, rfl⟩
              case measure => omega
            | false =>
              have HE := Lib.hid (show pos ltT x L L.length = t + 1 by rw [HP.out, HS.out rfl])
              have hbl : ¬ y.key < x.key := of_decide_eq_false HLT.out.symm
              go_wp2_with fail
              go_quiet (fail)
              go_wp2_with fail
              go_meet
              exact ⟨⟨t + 1, by go_num, by omega, HE.out⟩, _, World.drewN_drewN _ _ _⟩
      case rest =>
        obtain ⟨⟨j, rfl, hj, hp⟩, m, hwc⟩ := hcut
        obtain ⟨wq, hwq⟩ : ∃ W : World, W = wc := ⟨_, rfl⟩
        rw [← hwq] at hwc
        rw [← hwq]
        have hxq0 : wq.cell? ⟨b1, off1 + k * 2, none⟩ = some (.int .i64 x.key) := by rw [hwc]; exact hx0
        have hxq1 : wq.cell? ⟨b1, off1 + k * 2 + 1, none⟩ = some (.int .i64 x.tag) := by rw [hwc]; exact hx1
        have hovq := own_drewN hov m
        have hbq := below_drewN hb m
        rw [← hwc] at hovq hbq
        clear hwq hwc hx0 hx1 hov hb hr1
        have HTK := Lib.hid (show ∀ W, Below wq.heap.size wq W → Rd W 2 A1 j (recs (L.take j)) from fun W h => by
          have := ((own_rd hovq).below h).take hj
          rwa [recs_take'] at this)
        have HDP := Lib.hid (show ∀ W, Below wq.heap.size wq W → Rd W 2 (cutA A1 c1 j 2) (k - j) (recs (L.drop j)) from fun W h => by
          have := ((own_rd hovq).below h).cut_at (k := j) (m := k - j) (cap := c1) (by omega) hc1
          rwa [recs_drop', List.take_of_length_le (by rw [len_recs, List.length_drop, HL.out]; omega)] at this)
        have hrf := fun W => run_from (P := Try.prog) 38 49 _ 2 16 Try.underlying38 info_rec A1 k c1 j (j : Int) rfl hj W
        have hru := fun W => run_upto (P := Try.prog) 38 49 _ 2 16 Try.underlying38 info_rec A1 k c1 j (j : Int) rfl (by omega) W
        rw [cutA_zero] at hru
        have HI := Lib.hid (ins3 wq 49 2 #[.int .i64 x.key, .int .i64 x.tag])
        have HKS := Lib.hid (fun W (h : Below wq.heap.size wq W) => And.intro (cells_below h hxq0) (cells_below h hxq1))
        have hh1 : 0 + j ≤ 1099511627776 := by omega
        have hh2 : 0 + j + 1 ≤ 1099511627776 := by omega
        have hh3 : 0 + j + 1 + (k - j) ≤ 1099511627776 := by omega
        have HLEN := Lib.hid (show 0 + j + 1 + (k - j) = k + 1 by omega)
        have HRES := Lib.hid (show [] ++ recs (L.take j) ++ recs [x] ++ recs (L.drop j) = recs (insR ltT L x) by rw [ins_form L x hp, List.nil_append, recs_app, recs_app, List.append_assoc])
        go_upto_region 8 with fail
        (go_region_held3 (fun w' => w'.cell? ⟨b1, off1 + k * 2, none⟩ = some (.int .i64 x.key) ∧ w'.cell? ⟨b1, off1 + k * 2 + 1, none⟩ = some (.int .i64 x.tag)) (first | exact HKS.out _ hqE | exact HKS.out _ hqD | exact HKS.out _ hqB | go_keep) (first | (refine mem.step_extend_at (wq.alloc (.cells #[] 49)).drew rfl (.tmp 35) (.tmp 38) 38 rfl wq.heap.size 49 _ 2 16 Try.underlying38 mem.info_rec rfl (by decide) (.slice (some ⟨wq.heap.size, 0, none⟩) 0 0) 0 [] (by simp [Act.eval, Act.put]) HI.out.1.1 A1 j c1 (recs (L.take j)) (by simp [Act.eval, Act.put]) (HTK.out _ HI.out.1.2) (mem.recs_one _) hh1 (by decide) HI.out.1.2.size ?_; intro vB wB hoB hgB hnB; have hqB := below_grown HI.out.1.2 HI.out.1.2.size hgB (own_ge HI.out.1.1)) | (refine mem.step_extend_at ((wq.alloc (.cells #[] 49)).alloc (.cells #[.int .i64 x.key, .int .i64 x.tag] 49)).drew rfl (.tmp 35) (.tmp 38) 38 rfl wq.heap.size 49 _ 2 16 Try.underlying38 mem.info_rec rfl (by decide) (.slice (some ⟨wq.heap.size, 0, none⟩) 0 0) 0 [] (by simp [Act.eval, Act.put]) HI.out.2.1.1 A1 j c1 (recs (L.take j)) (by simp [Act.eval, Act.put]) (HTK.out _ HI.out.2.1.2.2) (mem.recs_one _) hh1 (by decide) HI.out.2.1.2.2.size ?_; intro vB wB hoB hgB hnB; have hqB := below_grown HI.out.2.1.2.2 HI.out.2.1.2.2.size hgB (own_ge HI.out.2.1.1); have hbx := HI.out.2.1.2.1.grown hgB (by simp [Value.ownBlock])) | (refine mem.step_extend_at ((wq.alloc (.cells #[.int .i64 x.key, .int .i64 x.tag] 49)).alloc (.cells #[] 49)).drew rfl (.tmp 35) (.tmp 38) 38 rfl wq.heap.size 49 _ 2 16 Try.underlying38 mem.info_rec rfl (by decide) (.slice (some ⟨wq.heap.size + 1, 0, none⟩) 0 0) 0 [] (by simp [Act.eval, Act.put]) HI.out.2.2.1 A1 j c1 (recs (L.take j)) (by simp [Act.eval, Act.put]) (HTK.out _ HI.out.2.2.2.2) (mem.recs_one _) hh1 (by decide) HI.out.2.2.2.2.size ?_; intro vB wB hoB hgB hnB; have hqB := below_grown HI.out.2.2.2.2 HI.out.2.2.2.2.size hgB (own_ge HI.out.2.2.1); have hbx := HI.out.2.2.2.1.grown hgB (by simp [Value.ownBlock])) | (refine mem.step_extend_at wB rfl (.tmp 39) (.tmp 44) 38 rfl wq.heap.size 49 _ 2 16 Try.underlying38 mem.info_rec rfl (by decide) vB (0 + j) _ (by simp [Act.eval, Act.put]) hoB _ 1 1 (recs [x]) (by simp [Act.eval, Act.put]) (Blk.rd_one hbx rfl) (mem.recs_one _) hh2 (by decide) hqB.size ?_; intro vD wD hoD hgD hnD; have hqD := below_grown hqB hqB.size hgD (own_ge hoB)) | (refine mem.step_extend_at (wB.alloc (.cells #[.int .i64 x.key, .int .i64 x.tag] 49)) rfl (.tmp 39) (.tmp 44) 38 rfl wq.heap.size 49 _ 2 16 Try.underlying38 mem.info_rec rfl (by decide) vB (0 + j) _ (by simp [Act.eval, Act.put]) (own_below hoB ((Below.refl _ _).alloc (Nat.le_refl _) _)) (some ⟨wB.heap.size, 0, none⟩) 1 1 (recs [x]) (by simp [Act.eval, Act.put]) (Blk.rd_one (Blk.new _ _ _) rfl) (mem.recs_one _) hh2 (by decide) (hqB.alloc hqB.size _).size ?_; intro vD wD hoD hgD hnD; have hqD := below_grown (hqB.alloc hqB.size _) (hqB.alloc hqB.size _).size hgD (own_ge hoB)) | (refine mem.step_extend_at wD rfl (.tmp 45) (.tmp 48) 38 rfl wq.heap.size 49 _ 2 16 Try.underlying38 mem.info_rec rfl (by decide) vD (0 + j + 1) _ (by simp [Act.eval, Act.put]) hoD (cutA A1 c1 j 2) (k - j) (c1 - j) (recs (L.drop j)) (by simp [Act.eval, Act.put]) (HDP.out _ hqD) (mem.recs_one _) hh3 (by decide) hqD.size ?_; intro vE wE hoE hgE hnE; have hqE := below_grown hqD hqD.size hgE (own_ge hoD))))
        all_goals
          have ho6 : wE.ownsRow wq.heap.size 49 2 vE (k + 1) (recs (insR ltT L x)) := by rw [← HRES.out, ← HLEN.out]; exact hoE
          have HALL := Lib.hid (And.intro (own_base ho6 hbq.size) (below_at hbq hbq.size hqE))
          clear ho6 hoE hgE hnE hqE hovq hbq hxq0 hxq1 hp hrf hru
          go_wp2
          go_roundg (gk - 1)
          case rel => exact ⟨k + 1, by omega, by omega, by go_num, by rw [HT.out]; exact HALL.out.1, HALL.out.2⟩
          case measure => omega
    · obtain rfl : k = zs.length := by omega
      have HE := Lib.hid (show T zs zs.length = stab ltT zs by rw [T, List.take_length])
      rw [HE.out] at hov
      obtain ⟨A1, c1, rfl, hc1, hc1m, hr1⟩ := own_form hov
      by_cases hkk : kk < zs.length
      · have hkz : (kk : Int) < (zs.length : Int) := by omega
        have hru := fun W => run_upto (P := Try.prog) 38 49 _ 2 16 Try.underlying38 info_rec A1 zs.length c1 kk (kk : Int) rfl (by omega) W
        rw [cutA_zero] at hru
        have HO := Lib.hid (show wr.ownsRow w.heap.size 49 2 (.slice A1 kk c1) (tp zs kk).length (recs (tp zs kk)) by
          have := own_lessN hov (k := kk) (by omega)
          rw [recs_take'] at this
          rw [tp_len, Nat.min_eq_left (by omega)]; exact this)
        clear hov
        go_wp2
        go_ret
        exact ⟨_, rfl, HO.out, hb⟩
      · have hkz : ¬ (kk : Int) < (zs.length : Int) := by omega
        have HO := Lib.hid (show wr.ownsRow w.heap.size 49 2 (.slice A1 zs.length c1) (tp zs kk).length (recs (tp zs kk)) by
          rw [tp_len, Nat.min_eq_right (by omega), tp, List.take_of_length_le (by rw [stab_len]; omega)]; exact hov)
        clear hov
        go_wp2
        go_ret
        exact ⟨_, rfl, HO.out, hb⟩
set_option maxRecDepth 100000 in
set_option maxHeartbeats 2000000 in
theorem impl_top (A : Option Addr) (c : Nat) (zs : List Rec) (kk : Nat) (w : World) (hn : zs.length ≤ 1048576) (hk2 : kk ≤ 1048576) (hr : Rd w 2 A zs.length (recs zs)) :
    Calls Try.prog 66 #[.slice A zs.length c, .int .i64 (kk : Int)] w fun e w' => ∃ v, e = .returned v ∧ w'.ownsRow w.heap.size 49 2 v (tp zs kk).length (recs (tp zs kk)) ∧ Below w.heap.size w w' := by
  have HC := Lib.hid (copies.rec_any A c zs w hn hr)
  go_enter Try.func66, Try.ntmps66
  go_wp2_with fail
  refine HC.out.mono ?_
  rintro e w1 ⟨v1, rfl, ho1, hb1⟩
  have HS := Lib.hid (sortStable_rec w.heap.size v1 96 #[] (fun a b => cmpI b.key a.key) ltT (fun x y => cmpI_neg _ _) weakT zs w1 (fun g _ => ⟨fun _ _ => rfl, fun x y W _ => top_clo x y W⟩) hn ho1)
  go_wp2_with fail
  refine HS.out.mono ?_
  rintro e w2 ⟨rfl, ho2, hg⟩
  have hb2 := below_push hb1 hb1.size hg ho1
  clear ho1 hg
  obtain ⟨A1, c1, rfl, hc1, hc1m, hr1⟩ := own_form ho2
  by_cases hkk : kk < zs.length
  · have hkz : (kk : Int) < (zs.length : Int) := by omega
    have hkz2 : (kk : Int) ≤ (zs.length : Int) := by omega
    have hru := fun W => run_upto (P := Try.prog) 38 49 _ 2 16 Try.underlying38 info_rec A1 zs.length c1 kk (kk : Int) rfl (by omega) W
    rw [cutA_zero] at hru
    have HO := Lib.hid (show w2.ownsRow w.heap.size 49 2 (.slice A1 kk c1) (tp zs kk).length (recs (tp zs kk)) by
      have := own_lessN ho2 (k := kk) (by omega)
      rw [recs_take'] at this
      rw [tp_len, Nat.min_eq_left (by omega)]; exact this)
    clear ho2
    go_wp2
    go_ret
    exact ⟨_, rfl, HO.out, hb2⟩
  · have hkz : ¬ (kk : Int) < (zs.length : Int) := by omega
    have hru := fun W => run_upto (P := Try.prog) 38 49 _ 2 16 Try.underlying38 info_rec A1 zs.length c1 zs.length (zs.length : Int) rfl (by omega) W
    rw [cutA_zero] at hru
    have HO := Lib.hid (show w2.ownsRow w.heap.size 49 2 (.slice A1 zs.length c1) (tp zs kk).length (recs (tp zs kk)) by
      rw [tp_len, Nat.min_eq_right (by omega), tp, List.take_of_length_le (by rw [stab_len]; omega)]; exact ho2)
    clear ho2
    by_cases he : kk = zs.length
    · subst he
      go_wp2
      go_ret
      exact ⟨_, rfl, HO.out, hb2⟩
    · have hkz3 : (zs.length : Int) < (kk : Int) := by omega
      have hkz4 : ¬ (kk : Int) ≤ (zs.length : Int) := by omega
      go_wp2
      go_ret
      exact ⟨_, rfl, HO.out, hb2⟩
end Go.Proofs.Ytgngoedooemboaa.tops
