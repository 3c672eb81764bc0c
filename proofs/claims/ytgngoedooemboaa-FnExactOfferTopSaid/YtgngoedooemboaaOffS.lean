/- OfferTop, the reference's. Condition: at most 2^20 records. -/
import Derived.Test.YtgngoedooemboaaOffI
set_option linter.unusedVariables false
set_option linter.unusedSimpArgs false
namespace Go.Proofs.Ytgngoedooemboaa.tops
open Go.RowKit Go.Proofs.Ytgngoedooemboaa.mem Go.Proofs.Ytgngoedooemboaa.stb
open Go.Proofs.Ytgngoedooemboaa.cmpI (own_lessN)
open Go.Proofs.Ytgngoedooemboaa.ins (inB inB_iff)
open Go.Proofs.Ytgngoedooemboaa.vrecs (vrec vrec_len recB)

set_option maxRecDepth 100000 in
set_option maxHeartbeats 4000000 in
theorem off_spec (A : Option Addr) (c : Nat) (l : List Rec) (k x y : Int) (w : World) (hn : l.length ≤ 1048576) (hr : Rd w 2 A l.length (recs l)) :
    Calls Try.prog 32 #[.slice A l.length c, .int .i64 k, .agg #[.int .i64 x, .int .i64 y]] w fun e w' => ∃ v, e = .returned (.tuple #[v, .bool (inO l k ⟨x, y⟩), .bool (okO l k ⟨x, y⟩)]) ∧ OwnRec w w' v (resO l k ⟨x, y⟩) ∧ Below w.heap.size w w' := by
  obtain ⟨w1, hw1⟩ : ∃ W, W = w.alloc (.cells #[.int .i64 x, .int .i64 y] 49) := ⟨_, rfl⟩
  have hB1 : Blk w1 w.heap.size 49 #[.int .i64 x, .int .i64 y] := by rw [hw1]; exact Blk.new _ _ _
  have hb1 : Below w.heap.size w w1 := by rw [hw1]; exact (Below.refl _ _).alloc (Nat.le_refl _) _
  have HW1 := Lib.hid hw1
  clear hw1
  have HA := Lib.hid (list_spec A c l k w1 hn (hr.below hb1))
  have HL := Lib.hid (resO_len l k ⟨x, y⟩)
  have HM := Lib.hid (fun (w : World) => World.ownsRow_made (e := 49) (size := 2) w #[] 0 (Nat.le_refl _) (Nat.zero_le _) (by simp))
  have HBR := Lib.hid (fun (W : World) => vrecs.spec_any (some ⟨W.heap.size, 0, none⟩) 1 [⟨x, y⟩] (W.alloc (.cells #[.int .i64 x, .int .i64 y] 49)) (by simp) ((Blk.new W 49 #[.int .i64 x, .int .i64 y]).rd (sz := 2) (n := 1) (by rw [len_recs]; rfl) (by rw [recs_single]; rfl)))
  cases ha : okL l k with
  | false =>
    have HR := Lib.hid (show okO l k ⟨x, y⟩ = false ∧ inO l k ⟨x, y⟩ = false ∧ resO l k ⟨x, y⟩ = [] by simp [okO, inO, resO, ha])
    rw [ha] at HA
    clear ha
    go_enter Try.func32, Try.ntmps32
    go_wp2_with fail
    rw [← HW1.out]
    refine HA.out.mono ?_
    rintro e w2 ⟨rfl, hb2⟩
    have hb3 := below_step hb1 hb2
    have hB2 := hB1.below hb2 hB1.lt
    go_wp2
    go_ret3
    exact ⟨_, by rw [HR.out.1, HR.out.2.1]; rfl, ⟨by rw [HR.out.2.2]; exact own_base (HM.out w2) hb3.size, by rw [HR.out.2.2]; simp⟩, hb3.alloc hb3.size _⟩
  | true =>
    have hk := okL_len' ha
    rw [ha] at HA
    cases hv : recB ⟨x, y⟩ with
    | false =>
      have HR := Lib.hid (show okO l k ⟨x, y⟩ = false ∧ inO l k ⟨x, y⟩ = false ∧ resO l k ⟨x, y⟩ = [] by simp [okO, inO, resO, vrec_one, hv])
      rw [vrec_one, hv] at HBR
      clear ha hv
      go_enter Try.func32, Try.ntmps32
      go_wp2_with fail
      rw [← HW1.out]
      refine HA.out.mono ?_
      rintro e w2 ⟨rfl, hb2⟩
      have hb3 := below_step hb1 hb2
      have hB2 := hB1.below hb2 hB1.lt
      have hc0 : w2.cell? ⟨w.heap.size, 0, none⟩ = some (.int .i64 x) := hB2.cell 0
      have hc1 : w2.cell? ⟨w.heap.size, 1, none⟩ = some (.int .i64 y) := hB2.cell 1
      go_wp2_with fail
      refine (HBR.out w2).mono ?_
      rintro e w3 ⟨rfl, hw3⟩
      have hb4 : Below w2.heap.size w2 w3 := by rw [← hw3]; exact (Below.refl _ _).alloc (Nat.le_refl _) _
      clear hw3
      have hb5 := below_step hb3 hb4
      go_wp2
      go_ret3
      exact ⟨_, by rw [HR.out.1, HR.out.2.1]; rfl, ⟨by rw [HR.out.2.2]; exact own_base (HM.out w3) hb5.size, by rw [HR.out.2.2]; simp⟩, hb5.alloc hb5.size _⟩
    | true =>
      have HOK := Lib.hid (show okO l k ⟨x, y⟩ = true by simp [okO, vrec_one, ha, hv])
      obtain ⟨q, rfl⟩ : ∃ q : Nat, k = (q : Int) := ⟨k.toNat, by omega⟩
      have hlq : l.length ≤ q ∧ q ≤ 16 := by omega
      have HF := Lib.hid hk.2.2.2
      rw [vrec_one, hv] at HBR
      clear ha hv hk
      go_enter Try.func32, Try.ntmps32
      go_wp2_with fail
      rw [← HW1.out]
      refine HA.out.mono ?_
      rintro e w2 ⟨rfl, hb2⟩
      have hb3 := below_step hb1 hb2
      have hB2 := hB1.below hb2 hB1.lt
      have hc0 : w2.cell? ⟨w.heap.size, 0, none⟩ = some (.int .i64 x) := hB2.cell 0
      have hc1 : w2.cell? ⟨w.heap.size, 1, none⟩ = some (.int .i64 y) := hB2.cell 1
      go_wp2_with fail
      refine (HBR.out w2).mono ?_
      rintro e w3 ⟨rfl, hw3⟩
      have hb4 : Below w2.heap.size w2 w3 := by rw [← hw3]; exact (Below.refl _ _).alloc (Nat.le_refl _) _
      clear hw3
      have hb5 := below_step hb3 hb4
      have hB3 := (hB2.below hb4 hB2.lt)
      have hr3 := hr.below hb5
      have hd0 : w3.cell? ⟨w.heap.size, 0, none⟩ = some (.int .i64 x) := hB3.cell 0
      have hd1 : w3.cell? ⟨w.heap.size, 1, none⟩ = some (.int .i64 y) := hB3.cell 1
      clear hc0 hc1 hB2 hb3 hb4 hB1
      go_upto_block 0 with fail
      go_cut [9] (fun s wx => s = .int .i64 (at' l ⟨x, y⟩ : Int) ∧ ∃ m, wx = w3.drewN m)
      case first =>
        go_wp2
        go_loopg [9] (l.length + 1) (fun f s wi => ∃ j m : Nat, l.length < j + f ∧ j ≤ at' l ⟨x, y⟩ ∧ s = .int .i64 (j : Int) ∧ wi = w3.drewN m)
        case atStart => exact ⟨0, 0, by omega, by omega, rfl, rfl⟩
        case round =>
          obtain ⟨j, m, hjf, hj, rfl, rfl⟩ := hrel
          have HJ := Lib.hid hj
          have hal := at_le l ⟨x, y⟩
          by_cases hlt : j < l.length
          · obtain ⟨b, off, rfl, cb0, cb1⟩ := hr3.rec hlt
            have HP := Lib.hid (fun h => at_past (r := ⟨x, y⟩) hlt hj h)
            have HS := Lib.hid (fun h => at_stop (r := ⟨x, y⟩) HF.out hlt hj h)
            generalize l[j] = z at cb0 cb1 HP HS
            have q1 : (j : Int) < (l.length : Int) := by omega
            clear hj hal
            by_cases hz : x ≤ z.key
            · have HE := Lib.hid (HP.out hz)
              go_wp2_with fail
              go_quiet (fail)
              go_wp2
              go_roundg (gk - 1)
              case rel => exact ⟨j + 1, _, by omega, HE.out, by go_num, rfl⟩
              case measure => omega
            · have HE := Lib.hid (HS.out (show z.key < x by omega))
              go_wp2_with fail
              go_quiet (fail)
              go_wp2_with fail
              go_meet
              exact ⟨by rw [HE.out], _, World.drewN_drewN _ _ _⟩
          · have HE := Lib.hid (show at' l ⟨x, y⟩ = j by omega)
            have q1 : ¬ (j : Int) < (l.length : Int) := by omega
            clear hj hal
            go_wp2_with fail
            go_quiet (fail)
            go_wp2_with fail
            go_meet
            exact ⟨by rw [HE.out], _, World.drewN_drewN _ _ _⟩
      case rest =>
        obtain ⟨rfl, m, hwc⟩ := hcut
        obtain ⟨wq, hwq⟩ : ∃ W : World, W = wc := ⟨_, rfl⟩
        rw [← hwq] at hwc
        rw [← hwq]
        have hdq0 : wq.cell? ⟨w.heap.size, 0, none⟩ = some (.int .i64 x) := by rw [hwc]; exact hd0
        have hdq1 : wq.cell? ⟨w.heap.size, 1, none⟩ = some (.int .i64 y) := by rw [hwc]; exact hd1
        have hrq : Rd wq 2 A l.length (recs l) := by rw [hwc]; exact hr3.drewN m
        have hbq : Below w.heap.size w wq := by rw [hwc]; exact below_drewN hb5 m
        clear hwq hwc hd0 hd1 hr3 hb5 hB3
        have hpl := at_le l ⟨x, y⟩
        have HIA := Lib.hid (ins_at l ⟨x, y⟩)
        have HRO := Lib.hid (show resO l (q : Int) ⟨x, y⟩ = if (at' l ⟨x, y⟩ : Int) = (q : Int) then l else (insR ltT l ⟨x, y⟩).take q by rw [resO, if_pos HOK.out, Int.toNat_natCast])
        have HIO := Lib.hid (show inO l (q : Int) ⟨x, y⟩ = !decide ((at' l ⟨x, y⟩ : Int) = (q : Int)) by rw [inO, HOK.out, Bool.true_and])
        generalize at' l ⟨x, y⟩ = p at hpl HIA HRO HIO
        by_cases he : (p : Int) = (q : Int)
        · have HR := Lib.hid (show inO l (q : Int) ⟨x, y⟩ = false ∧ resO l (q : Int) ⟨x, y⟩ = l by rw [HIO.out, HRO.out, if_pos he, decide_eq_true he]; exact ⟨rfl, rfl⟩)
          have h0 := HM.out wq
          have hbe : Below wq.heap.size wq (wq.alloc (.cells #[] 49)) := (Below.refl _ _).alloc (Nat.le_refl _) _
          have hra := hrq.below hbe
          have hs0 := hbe.size
          have hh : 0 + l.length ≤ 1099511627776 := by omega
          go_wp2_with (at_builtin; refine mem.extend _ rfl _ _ 38 rfl wq.heap.size 49 _ 2 16 Try.underlying38 mem.info_rec rfl (by decide) _ _ _ rfl h0 _ _ _ _ rfl hra (mem.recs_one l) hh (by decide) hs0 ?_; intro v' w' ho' hg')
          have hba := below_push hbe hs0 hg' h0
          simp only [Nat.zero_add, List.nil_append] at ho'
          have hb7 := below_step hbq hba
          go_wp2
          go_ret3
          exact ⟨_, by rw [HR.out.1, HOK.out]; rfl, ⟨by rw [HR.out.2]; exact own_base ho' hbq.size, HL.out⟩, hb7⟩
        · have HR := Lib.hid (show inO l (q : Int) ⟨x, y⟩ = true ∧ resO l (q : Int) ⟨x, y⟩ = tp (l ++ [⟨x, y⟩]) q by rw [HIO.out, HRO.out, if_neg he, decide_eq_false he, tp_off HF.out]; exact ⟨rfl, rfl⟩)
          have HI := Lib.hid (ins3 wq 49 2 #[.int .i64 x, .int .i64 y])
          have HKC := Lib.hid (fun (w' : World) (h : Below wq.heap.size wq w') => And.intro (cells_below h hdq0) (cells_below h hdq1))
          have HTK := Lib.hid (fun (w' : World) (h : Below wq.heap.size wq w') => hrq.below h)
          have HT := Lib.hid (show ∀ (A5 : Option Addr) (c5 : Nat) (W : World), Rd W 2 A5 (l.length + 1) (recs (l ++ [⟨x, y⟩])) → Calls Try.prog 63 #[.slice A5 (l.length + 1) c5, .int .i64 (q : Int)] W fun e w' => ∃ v, e = .returned v ∧ w'.ownsRow W.heap.size 49 2 v (tp (l ++ [⟨x, y⟩]) q).length (recs (tp (l ++ [⟨x, y⟩]) q)) ∧ Below W.heap.size W w' from fun A5 c5 W h => by
            have e1 : (l ++ [(⟨x, y⟩ : Rec)]).length = l.length + 1 := by rw [List.length_append, List.length_singleton]
            have := spec_top A5 c5 (l ++ [⟨x, y⟩]) q W (by rw [e1]; omega) (by omega) (by rw [e1]; exact h)
            rw [e1] at this; exact this)
          have HAP := Lib.hid (show [] ++ recs l ++ recs [⟨x, y⟩] = recs (l ++ [⟨x, y⟩]) by rw [List.nil_append, recs_app])
          have hh1 : 0 + l.length ≤ 1099511627776 := by omega
          have hh2 : 0 + l.length + 1 ≤ 1099511627776 := by omega
          go_upto_region 8 with fail
          go_region_held3 (fun w' => w'.cell? ⟨w.heap.size, 0, none⟩ = some (.int .i64 x) ∧ w'.cell? ⟨w.heap.size, 1, none⟩ = some (.int .i64 y)) (first | exact HKC.out _ hqT | exact HKC.out _ hqD | exact HKC.out _ hqB | exact HKC.out _ (hqB.alloc hqB.size _) | exact HKC.out _ HI.out.1.2 | exact HKC.out _ HI.out.2.1.2.2 | exact HKC.out _ HI.out.2.2.2.2 | go_keep) (first
            | (refine mem.step_extend_at (wq.alloc (.cells #[] 49)).drew rfl (.tmp 43) (.tmp 44) 38 rfl wq.heap.size 49 _ 2 16 Try.underlying38 info_rec rfl (by decide) (.slice (some ⟨wq.heap.size, 0, none⟩) 0 0) 0 [] (by simp [Act.eval, Act.put]) HI.out.1.1 A l.length c (recs l) (by simp [Act.eval, Act.put]) (HTK.out _ HI.out.1.2) (recs_one _) hh1 (by decide) HI.out.1.2.size ?_; intro vB wB hoB hgB hnB; have hqB := below_grown HI.out.1.2 HI.out.1.2.size hgB (own_ge HI.out.1.1))
            | (refine mem.step_extend_at ((wq.alloc (.cells #[] 49)).alloc (.cells #[.int .i64 x, .int .i64 y] 49)).drew rfl (.tmp 43) (.tmp 44) 38 rfl wq.heap.size 49 _ 2 16 Try.underlying38 info_rec rfl (by decide) (.slice (some ⟨wq.heap.size, 0, none⟩) 0 0) 0 [] (by simp [Act.eval, Act.put]) HI.out.2.1.1 A l.length c (recs l) (by simp [Act.eval, Act.put]) (HTK.out _ HI.out.2.1.2.2) (recs_one _) hh1 (by decide) HI.out.2.1.2.2.size ?_; intro vB wB hoB hgB hnB; have hqB := below_grown HI.out.2.1.2.2 HI.out.2.1.2.2.size hgB (own_ge HI.out.2.1.1); have hbx := HI.out.2.1.2.1.grown hgB (by simp [Value.ownBlock]))
            | (refine mem.step_extend_at ((wq.alloc (.cells #[.int .i64 x, .int .i64 y] 49)).alloc (.cells #[] 49)).drew rfl (.tmp 43) (.tmp 44) 38 rfl wq.heap.size 49 _ 2 16 Try.underlying38 info_rec rfl (by decide) (.slice (some ⟨wq.heap.size + 1, 0, none⟩) 0 0) 0 [] (by simp [Act.eval, Act.put]) HI.out.2.2.1 A l.length c (recs l) (by simp [Act.eval, Act.put]) (HTK.out _ HI.out.2.2.2.2) (recs_one _) hh1 (by decide) HI.out.2.2.2.2.size ?_; intro vB wB hoB hgB hnB; have hqB := below_grown HI.out.2.2.2.2 HI.out.2.2.2.2.size hgB (own_ge HI.out.2.2.1); have hbx := HI.out.2.2.2.1.grown hgB (by simp [Value.ownBlock]))
            | (refine mem.step_extend_at wB rfl (.tmp 45) (.tmp 47) 38 rfl wq.heap.size 49 _ 2 16 Try.underlying38 info_rec rfl (by decide) vB (0 + l.length) _ (by simp [Act.eval, Act.put]) hoB _ 1 1 (recs [⟨x, y⟩]) (by simp [Act.eval, Act.put]) (Blk.rd_one hbx rfl) (recs_one _) hh2 (by decide) hqB.size ?_; intro vD wD hoD hgD hnD; have hqD := below_grown hqB hqB.size hgD (own_ge hoB); obtain ⟨A5, c5, rfl, _, _, hr5⟩ := own_form hoD)
            | (refine mem.step_extend_at (wB.alloc (.cells #[.int .i64 x, .int .i64 y] 49)) rfl (.tmp 45) (.tmp 47) 38 rfl wq.heap.size 49 _ 2 16 Try.underlying38 info_rec rfl (by decide) vB (0 + l.length) _ (by simp [Act.eval, Act.put]) (own_below hoB ((Below.refl _ _).alloc (Nat.le_refl _) _)) (some ⟨wB.heap.size, 0, none⟩) 1 1 (recs [⟨x, y⟩]) (by simp [Act.eval, Act.put]) (Blk.rd_one (Blk.new _ _ _) rfl) (recs_one _) hh2 (by decide) (hqB.alloc hqB.size _).size ?_; intro vD wD hoD hgD hnD; have hqD := below_grown (hqB.alloc hqB.size _) (hqB.alloc hqB.size _).size hgD (own_ge hoB); obtain ⟨A5, c5, rfl, _, _, hr5⟩ := own_form hoD)
            | (go_at_call 63; (with_reducible refine (HT.out A5 c5 _ (by have := hr5; rw [HAP.out, Nat.zero_add] at this; exact this)).mono ?_); rintro e wT ⟨vT, rfl, hoT, hbT⟩; have hqT := below_step hqD hbT))
          all_goals
            have HO := Lib.hid (show OwnRec w wT vT (resO l (q : Int) ⟨x, y⟩) from by
              refine ⟨?_, HL.out⟩
              rw [HR.out.2]
              exact own_base hoT (Nat.le_trans hbq.size hqD.size))
            have hb9 := below_step hbq hqT
            clear hoT hbT hqT hqD hoD hgD hnD hr5 hqB hoB hgB hnB hdq0 hdq1
            try clear hbx
            go_wp2
            go_ret3
            exact ⟨vT, by rw [HR.out.1, HOK.out]; rfl, HO.out, hb9⟩
end Go.Proofs.Ytgngoedooemboaa.tops
