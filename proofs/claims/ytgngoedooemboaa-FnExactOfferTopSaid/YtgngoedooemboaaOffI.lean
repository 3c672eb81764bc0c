/- OfferTop, the program's. Condition: at most 2^20 records. -/
import Derived.Test.YtgngoedooemboaaOffLaw
import Derived.Test.YtgngoedooemboaaInsRec
import Derived.Test.YtgngoedooemboaaTopM
set_option linter.unusedVariables false
set_option linter.unusedSimpArgs false
namespace Go.Proofs.Ytgngoedooemboaa.tops
open Go.RowKit Go.Proofs.Ytgngoedooemboaa.mem Go.Proofs.Ytgngoedooemboaa.stb
open Go.Proofs.Ytgngoedooemboaa.cmpI (own_lessN)
open Go.Proofs.Ytgngoedooemboaa.ins (inB inB_iff)
open Go.Proofs.Ytgngoedooemboaa.vrecs (vrec vrec_len recB)

theorem vrec_one (r : Rec) : vrec [r] = recB r := by simp [vrec]
set_option maxRecDepth 100000 in
set_option maxHeartbeats 4000000 in
theorem off_impl (A : Option Addr) (c : Nat) (l : List Rec) (k x y : Int) (w : World) (hn : l.length ≤ 1048576) (hr : Rd w 2 A l.length (recs l)) :
    Calls Try.prog 34 #[.slice A l.length c, .int .i64 k, .agg #[.int .i64 x, .int .i64 y]] w fun e w' => ∃ v, e = .returned (.tuple #[v, .bool (inO l k ⟨x, y⟩), .bool (okO l k ⟨x, y⟩)]) ∧ OwnRec w w' v (resO l k ⟨x, y⟩) ∧ Below w.heap.size w w' := by
  obtain ⟨w1, hw1⟩ : ∃ W, W = w.alloc (.cells #[.int .i64 x, .int .i64 y] 49) := ⟨_, rfl⟩
  have hB1 : Blk w1 w.heap.size 49 #[.int .i64 x, .int .i64 y] := by rw [hw1]; exact Blk.new _ _ _
  have hb1 : Below w.heap.size w w1 := by rw [hw1]; exact (Below.refl _ _).alloc (Nat.le_refl _) _
  have HW1 := Lib.hid hw1
  clear hw1
  have HA := Lib.hid (list_impl A c l k w1 hn (hr.below hb1))
  have HL := Lib.hid (resO_len l k ⟨x, y⟩)
  cases ha : okL l k with
  | false =>
    have HR := Lib.hid (show okO l k ⟨x, y⟩ = false ∧ inO l k ⟨x, y⟩ = false ∧ resO l k ⟨x, y⟩ = [] by simp [okO, inO, resO, ha])
    rw [ha] at HA
    clear ha
    go_enter Try.func34, Try.ntmps34
    go_wp2_with fail
    rw [← HW1.out]
    refine HA.out.mono ?_
    rintro e w2 ⟨rfl, hb2⟩
    have hb3 := below_step hb1 hb2
    have hB2 := hB1.below hb2 hB1.lt
    go_wp2
    go_ret3
    exact ⟨_, by rw [HR.out.1, HR.out.2.1]; rfl, ⟨by rw [HR.out.2.2]; exact World.ownsRow_nil _ _ _ _, by rw [HR.out.2.2]; simp⟩, hb3⟩
  | true =>
    have hk := okL_len' ha
    rw [ha] at HA
    cases hv : recB ⟨x, y⟩ with
    | false =>
      have HR := Lib.hid (show okO l k ⟨x, y⟩ = false ∧ inO l k ⟨x, y⟩ = false ∧ resO l k ⟨x, y⟩ = [] by simp [okO, inO, resO, vrec_one, hv])
      have HV := Lib.hid (fun W => vrecs.rec_any x y W)
      rw [hv] at HV
      clear ha hv
      go_enter Try.func34, Try.ntmps34
      go_wp2_with fail
      rw [← HW1.out]
      refine HA.out.mono ?_
      rintro e w2 ⟨rfl, hb2⟩
      have hb3 := below_step hb1 hb2
      have hB2 := hB1.below hb2 hB1.lt
      have hc0 : w2.cell? ⟨w.heap.size, 0, none⟩ = some (.int .i64 x) := hB2.cell 0
      have hc1 : w2.cell? ⟨w.heap.size, 1, none⟩ = some (.int .i64 y) := hB2.cell 1
      go_wp2_with fail
      refine (HV.out _).mono ?_
      rintro e w3 ⟨rfl, hb4⟩
      have hb5 := below_step hb3 hb4
      go_wp2
      go_ret3
      exact ⟨_, by rw [HR.out.1, HR.out.2.1]; rfl, ⟨by rw [HR.out.2.2]; exact World.ownsRow_nil _ _ _ _, by rw [HR.out.2.2]; simp⟩, hb5⟩
    | true =>
      have HOK := Lib.hid (show okO l k ⟨x, y⟩ = true by simp [okO, vrec_one, ha, hv])
      obtain ⟨q, rfl⟩ : ∃ q : Nat, k = (q : Int) := ⟨k.toNat, by omega⟩
      have hlq : l.length ≤ q ∧ q ≤ 16 := by omega
      have HF := Lib.hid hk.2.2.2
      have HV := Lib.hid (fun W => vrecs.rec_any x y W)
      rw [hv] at HV
      clear ha hv hk
      go_enter Try.func34, Try.ntmps34
      go_wp2_with fail
      rw [← HW1.out]
      refine HA.out.mono ?_
      rintro e w2 ⟨rfl, hb2⟩
      have hb3 := below_step hb1 hb2
      have hB2 := hB1.below hb2 hB1.lt
      have hc0 : w2.cell? ⟨w.heap.size, 0, none⟩ = some (.int .i64 x) := hB2.cell 0
      have hc1 : w2.cell? ⟨w.heap.size, 1, none⟩ = some (.int .i64 y) := hB2.cell 1
      go_wp2_with fail
      refine (HV.out _).mono ?_
      rintro e w3 ⟨rfl, hb4⟩
      have hb5 := below_step hb3 hb4
      have hB3 := (hB2.below hb4 hB2.lt)
      have hr3 := hr.below hb5
      have hd0 : w3.cell? ⟨w.heap.size, 0, none⟩ = some (.int .i64 x) := hB3.cell 0
      have hd1 : w3.cell? ⟨w.heap.size, 1, none⟩ = some (.int .i64 y) := hB3.cell 1
      clear hc0 hc1 hB2 hb3 hb4 hB1
      go_upto_block 0 with fail
      go_cut [9] (fun s wx => s = .int .i64 (at' l ⟨x, y⟩ : Int) ∧ ∃ m, wx = w3.drewN m)
      case first =>
        go_wp2
        go_loopg [9] (l.length + 1) (fun f s wi => ∃ j m : Nat, l.length < j + f ∧ j ≤ at' l ⟨x, y⟩ ∧ s = .int .i64 (j : Int) ∧ wi = w3.drewN m)
        case atStart => exact ⟨0, 0, by omega, by omega, rfl, rfl⟩
        case round =>
          obtain ⟨j, m, hjf, hj, rfl, rfl⟩ := hrel
          have HJ := Lib.hid hj
          have hal := at_le l ⟨x, y⟩
          by_cases hlt : j < l.length
          · obtain ⟨b, off, rfl, cb0, cb1⟩ := hr3.rec hlt
            have HP := Lib.hid (fun h => at_past (r := ⟨x, y⟩) hlt hj h)
            have HS := Lib.hid (fun h => at_stop (r := ⟨x, y⟩) HF.out hlt hj h)
            generalize l[j] = z at cb0 cb1 HP HS
            have q1 : (j : Int) < (l.length : Int) := by omega
            clear hj hal
            by_cases hz : x ≤ z.key
            · have HE := Lib.hid (HP.out hz)
              go_wp2_with fail
              go_quiet (fail)
              go_wp2
              go_roundg (gk - 1)
              case rel => exact ⟨j + 1, _, by omega, HE.out, by go_num, rfl⟩
              case measure => omega
            · have HE := Lib.hid (HS.out (show z.key < x by omega))
              go_wp2_with fail
              go_quiet (fail)
              go_wp2_with fail
              go_meet
              exact ⟨by rw [HE.out], _, World.drewN_drewN _ _ _⟩
          · have HE := Lib.hid (show at' l ⟨x, y⟩ = j by omega)
            have q1 : ¬ (j : Int) < (l.length : Int) := by omega
            clear hj hal
            go_wp2_with fail
            go_quiet (fail)
            go_wp2_with fail
            go_meet
            exact ⟨by rw [HE.out], _, World.drewN_drewN _ _ _⟩
      case rest =>
        obtain ⟨rfl, m, hwc⟩ := hcut
        obtain ⟨wq, hwq⟩ : ∃ W : World, W = wc := ⟨_, rfl⟩
        rw [← hwq] at hwc
        rw [← hwq]
        have hdq0 : wq.cell? ⟨w.heap.size, 0, none⟩ = some (.int .i64 x) := by rw [hwc]; exact hd0
        have hdq1 : wq.cell? ⟨w.heap.size, 1, none⟩ = some (.int .i64 y) := by rw [hwc]; exact hd1
        have hrq : Rd wq 2 A l.length (recs l) := by rw [hwc]; exact hr3.drewN m
        have hbq : Below w.heap.size w wq := by rw [hwc]; exact below_drewN hb5 m
        clear hwq hwc hd0 hd1 hr3 hb5 hB3
        have hpl := at_le l ⟨x, y⟩
        have HIA := Lib.hid (ins_at l ⟨x, y⟩)
        have HRO := Lib.hid (show resO l (q : Int) ⟨x, y⟩ = if (at' l ⟨x, y⟩ : Int) = (q : Int) then l else (insR ltT l ⟨x, y⟩).take q by rw [resO, if_pos HOK.out, Int.toNat_natCast])
        have HIO := Lib.hid (show inO l (q : Int) ⟨x, y⟩ = !decide ((at' l ⟨x, y⟩ : Int) = (q : Int)) by rw [inO, HOK.out, Bool.true_and])
        generalize at' l ⟨x, y⟩ = p at hpl HIA HRO HIO
        by_cases he : (p : Int) = (q : Int)
        · have HR := Lib.hid (show inO l (q : Int) ⟨x, y⟩ = false ∧ resO l (q : Int) ⟨x, y⟩ = l by rw [HIO.out, HRO.out, if_pos he, decide_eq_true he]; exact ⟨rfl, rfl⟩)
          have HC := Lib.hid (copies.rec_any A c l wq hn hrq)
          go_wp2_with fail
          refine HC.out.mono ?_
          rintro e w4 ⟨v, rfl, ho, hb6⟩
          have hb7 := below_step hbq hb6
          go_wp2
          go_ret3
          exact ⟨_, by rw [HR.out.1, HOK.out]; rfl, ⟨by rw [HR.out.2]; exact own_base ho hbq.size, HL.out⟩, hb7⟩
        · have HR := Lib.hid (show inO l (q : Int) ⟨x, y⟩ = true ∧ resO l (q : Int) ⟨x, y⟩ = (insR ltT l ⟨x, y⟩).take q by rw [HIO.out, HRO.out, if_neg he, decide_eq_false he]; exact ⟨rfl, rfl⟩)
          have HKC := Lib.hid (fun (w' : World) (h : Below wq.heap.size wq w') => And.intro (cells_below h hdq0) (cells_below h hdq1))
          have HDR := Lib.hid (show Below wq.heap.size wq wq.drew from below_drewN (Below.refl _ _) 1)
          have HDRA := Lib.hid (show Below wq.heap.size wq (wq.alloc (.cells #[.int .i64 x, .int .i64 y] 49)).drew from below_drewN ((Below.refl _ _).alloc (Nat.le_refl _) _) 1)
          have HZ := Lib.hid (show Blk (wq.alloc (.cells #[.int .i64 x, .int .i64 y] 49)).drew wq.heap.size 49 #[.int .i64 x, .int .i64 y] from Blk.new _ _ _)
          have HC := Lib.hid (fun (w' : World) (h : Below wq.heap.size wq w') => copies.rec_any A c l w' hn (hrq.below h))
          have HIN := Lib.hid (fun (A3 : Option Addr) (c3 vb : Nat) (W : World) h1 h2 h3 h4 => insRec.ins_any A3 c3 l p ⟨x, y⟩ wq.heap.size vb W hn hpl h1 h2 h3 h4)
          have hZ1 : ∀ (w4 : World) (A4 : Option Addr) (c4 : Nat), Below wq.heap.size wq w4 → w4.ownsRow wq.drew.heap.size 49 2 (.slice A4 l.length c4) l.length (recs l) → Calls Try.prog 72 #[.slice A4 l.length c4, .int .i64 (p : Int), .slice (some ⟨w4.heap.size, 0, none⟩) 1 1] (w4.alloc (.cells #[.int .i64 x, .int .i64 y] 49)) fun e w' => ∃ v, e = .returned v ∧ w'.ownsRow wq.heap.size 49 2 v (l.length + 1) (recs (l.take p ++ ([⟨x, y⟩] ++ l.drop p))) ∧ Below wq.heap.size wq w' := fun w4 A4 c4 hq3 ho4 => by
            refine (HIN.out A4 c4 w4.heap.size (w4.alloc (.cells #[.int .i64 x, .int .i64 y] 49)) (hq3.alloc hq3.size _).size (own_base (ho4.alloc _) (Nat.le_refl _)) (Blk.new _ _ _) (fun e => Nat.lt_irrefl _ (ho4.lt _ e).2)).mono ?_
            rintro e w5 ⟨v5, rfl, ho5, hg5⟩
            exact ⟨_, rfl, ho5, below_grown (hq3.alloc hq3.size _) (hq3.alloc hq3.size _).size hg5 (fun k hk => (ho4.lt k hk).1)⟩
          have hZ2 : ∀ (w4 : World) (A4 : Option Addr) (c4 : Nat), Below wq.heap.size wq w4 → w4.ownsRow (wq.alloc (.cells #[.int .i64 x, .int .i64 y] 49)).drew.heap.size 49 2 (.slice A4 l.length c4) l.length (recs l) → Blk w4 wq.heap.size 49 #[.int .i64 x, .int .i64 y] → Calls Try.prog 72 #[.slice A4 l.length c4, .int .i64 (p : Int), .slice (some ⟨wq.heap.size, 0, none⟩) 1 1] w4 fun e w' => ∃ v, e = .returned v ∧ w'.ownsRow wq.heap.size 49 2 v (l.length + 1) (recs (l.take p ++ ([⟨x, y⟩] ++ l.drop p))) ∧ Below wq.heap.size wq w' := fun w4 A4 c4 hq3 ho4 hz3 => by
            have hlow : ∀ k, (Value.slice A4 l.length c4).ownBlock = some k → wq.heap.size + 1 ≤ k := fun k hk => by
              have := (ho4.lt _ hk).1
              simpa using this
            refine (HIN.out A4 c4 wq.heap.size w4 hq3.size (own_base ho4 (by simp)) hz3 (fun e => by have := hlow _ e; omega)).mono ?_
            rintro e w5 ⟨v5, rfl, ho5, hg5⟩
            exact ⟨_, rfl, ho5, below_grown hq3 hq3.size hg5 (fun k hk => by have := hlow _ hk; omega)⟩
          have HZ1 := Lib.hid hZ1
          have HZ2 := Lib.hid hZ2
          clear hZ1 hZ2
          go_upto_region 8 with fail
          go_region_held3 (fun w' => w'.cell? ⟨w.heap.size, 0, none⟩ = some (.int .i64 x) ∧ w'.cell? ⟨w.heap.size, 1, none⟩ = some (.int .i64 y)) (first | exact HKC.out _ hq4 | exact HKC.out _ hq3 | exact HKC.out _ (hq3.alloc hq3.size _) | exact HKC.out _ HDR.out | exact HKC.out _ HDRA.out | go_keep) (first
            | (go_at_call 71; (with_reducible refine (HC.out _ (by first | exact HDR.out | exact HDRA.out)).mono ?_); rintro e w4 ⟨v4, rfl, ho4, hb4⟩; obtain ⟨A4, c4, rfl, hc4, hc4m, _⟩ := own_form ho4; have hq3 : Below wq.heap.size wq w4 := (by first | exact below_step HDR.out hb4 | exact below_step HDRA.out hb4); try (have hz3 := HZ.out.below hb4 HZ.out.lt))
            | (go_at_call 72; (first | (with_reducible refine (HZ1.out _ A4 c4 hq3 ho4).mono ?_) | (with_reducible refine (HZ2.out _ A4 c4 hq3 ho4 hz3).mono ?_)); rintro e w5 ⟨v5, rfl, ho5, hq4⟩; obtain ⟨A5, c5, rfl, hc5, hc5m, _⟩ := own_form ho5))
          all_goals
            have HN := Lib.hid (insR_len (lt := ltT) l ⟨x, y⟩)
            have hb9 := below_step hbq hq4
            rw [← HIA.out] at ho5
            clear hq4 hq3 ho4 hb4 hdq0 hdq1
            try clear hz3
            by_cases hkk : q = l.length
            · have hru := fun W => run_upto (P := Try.prog) 38 49 _ 2 16 Try.underlying38 info_rec A5 (l.length + 1) c5 q (q : Int) rfl (by omega) W
              rw [cutA_zero] at hru
              have HO := Lib.hid (show OwnRec w w5 (.slice A5 q c5) (resO l (q : Int) ⟨x, y⟩) from by
                refine ⟨?_, HL.out⟩
                have := own_lessN ho5 (k := q) (by omega)
                rw [recs_take'] at this
                rw [HR.out.2]
                refine own_base ?_ hbq.size
                rw [List.length_take, HN.out, Nat.min_eq_left (by omega)]; exact this)
              have HM := Lib.hid (show (min (q : Int) ((l.length : Int) + 1)).toNat = q by omega)
              clear ho5 hkk
              go_wp2
              go_ret3
              exact ⟨.slice A5 (min (q : Int) ((l.length : Int) + 1)).toNat c5, by rw [HR.out.1, HOK.out]; rfl, by rw [HM.out]; exact HO.out, hb9⟩
            · have HO := Lib.hid (show OwnRec w w5 (.slice A5 (l.length + 1) c5) (resO l (q : Int) ⟨x, y⟩) from by
                refine ⟨?_, HL.out⟩
                rw [HR.out.2]
                refine own_base ?_ hbq.size
                rw [List.take_of_length_le (by rw [HN.out]; omega), HN.out]; exact ho5)
              have HM := Lib.hid (show (min (q : Int) ((l.length : Int) + 1)).toNat = l.length + 1 by omega)
              have h9 : l.length + 1 ≤ q := by omega
              clear ho5 hkk
              go_wp2
              go_ret3
              exact ⟨.slice A5 (min (q : Int) ((l.length : Int) + 1)).toNat c5, by rw [HR.out.1, HOK.out]; rfl, by rw [HM.out]; exact HO.out, hb9⟩
end Go.Proofs.Ytgngoedooemboaa.tops
