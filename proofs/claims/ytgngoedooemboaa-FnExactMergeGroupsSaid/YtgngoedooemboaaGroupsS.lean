/- Valid lists of groups, the reference's. No condition beyond 2^20 groups. -/
import Derived.Test.YtgngoedooemboaaGroupsV
set_option linter.unusedVariables false
set_option linter.unusedSimpArgs false
namespace Go.Proofs.Ytgngoedooemboaa.groups
open Go.RowKit Go.Proofs.Ytgngoedooemboaa.mem

set_option maxRecDepth 100000 in
set_option maxHeartbeats 4000000 in
theorem spec_good (A : Option Addr) (c : Nat) (l : List Grp) (w : World) (hn : l.length ≤ 1048576) (hr : Rd w 5 A l.length (grps l)) :
    Calls Try.prog 52 #[.slice A l.length c] w fun e w' => e = .returned (.bool (vgroups l)) ∧ Below w.heap.size w w' := by
  go_enter Try.func52, Try.ntmps52
  go_wp2
  go_loopg [3] (l.length + 1) (fun f i wr => ∃ k : Nat, l.length < k + f ∧ k ≤ l.length ∧ i = .int .i64 (k : Int) ∧ gB l k = true ∧ Below w.heap.size w wr)
  case atStart => exact ⟨0, by omega, by omega, rfl, rfl, Below.refl _ _⟩
  case round =>
    obtain ⟨k, hkf, hk, rfl, hB, hb⟩ := hrel
    have HB := Lib.hid hB
    clear hB
    by_cases hlt : k < l.length
    · by_cases h64 : k ≤ 64
      · have hrd := hr.below hb
        obtain ⟨b, off, rfl, y0, y1, y2, y3, y4⟩ := hrd.grp hlt
        have HS := Lib.hid (show gB l (k + 1) = (okG l[k] && (decide (k = 0) || decide ((l.getD (k - 1) g0).key < l[k].key))) by
          rw [gB, HB.out, Bool.true_and, getD_g l hlt])
        have HF := Lib.hid (show (okG l[k] && (decide (k = 0) || decide ((l.getD (k - 1) g0).key < l[k].key))) = false → vgroups l = false from fun h => gB_not hlt (by rw [getD_g l hlt]; exact h))
        have hp : 0 < k → wr.cell? ⟨b, off + (k - 1) * 5, none⟩ = some (.int .i64 (l.getD (k - 1) g0).key) := fun h0 => by
          rw [getD_g l (show k - 1 < l.length by omega)]
          exact (hrd.grp_at (k := k - 1) (by omega)).1
        have HP := Lib.hid hp
        clear hp
        generalize l[k] = x at y0 y1 y2 y3 y4 HS HF
        generalize (l.getD (k - 1) g0).key = pk at HP HS HF
        obtain ⟨ox, hox⟩ : ∃ ox, ox = okG x := ⟨_, rfl⟩
        have h1 := (spec_one x)
        rw [← hox] at h1 HS HF
        have H1 := Lib.hid h1
        clear h1 hox
        have hbl : b < wr.heap.size := World.block_lt_of_cell? _ _ y0
        have HE := Lib.hid (fun (w' : World) (h : Below wr.heap.size wr.drew w') (i : Nat) (v : Value) (hv : wr.cell? ⟨b, i, none⟩ = some v) => (show w'.cell? ⟨b, i, none⟩ = some v from (h.cell (p := ⟨b, i, none⟩) hbl).trans hv))
        have HC := Lib.hid (fun w' (h : Below wr.heap.size wr.drew w') => (⟨HE.out w' h _ _ y0, HE.out w' h _ _ y1, HE.out w' h _ _ y2, HE.out w' h _ _ y3, HE.out w' h _ _ y4⟩ : w'.cell? ⟨b, off + k * 5, none⟩ = some (.int .i64 x.key) ∧ w'.cell? ⟨b, off + k * 5 + 1, none⟩ = some (.int .i64 x.count) ∧ w'.cell? ⟨b, off + k * 5 + 2, none⟩ = some (.int .i64 x.sum) ∧ w'.cell? ⟨b, off + k * 5 + 3, none⟩ = some (.int .i64 x.least) ∧ w'.cell? ⟨b, off + k * 5 + 4, none⟩ = some (.int .i64 x.most)))
        have q0 : (k : Int) < (l.length : Int) := by omega
        have q01 : (0 : Int) ≤ (k : Int) := by omega
        have q02 : (k : Int) ≤ 64 := by omega
        cases ox with
        | false =>
          have HV := Lib.hid (HF.out rfl)
          go_wp2_with fail
          refine wp_region_held_drew (S := fun w' => w'.cell? ⟨b, off + k * 5, none⟩ = some (.int .i64 x.key) ∧ w'.cell? ⟨b, off + k * 5 + 1, none⟩ = some (.int .i64 x.count) ∧ w'.cell? ⟨b, off + k * 5 + 2, none⟩ = some (.int .i64 x.sum) ∧ w'.cell? ⟨b, off + k * 5 + 3, none⟩ = some (.int .i64 x.least) ∧ w'.cell? ⟨b, off + k * 5 + 4, none⟩ = some (.int .i64 x.most)) (by kernel_rfl) (HC.out _ (Below.refl _ _)) (fun hHeld => ?_)
          refine' wpAnyH_take (i := 0) (oi := Oper.mk (some 14) _ _ _ _ _) (v := _) rfl (by kernel_rfl) (by kernel_rfl) (by kernel_rfl) (fun _ _ _ h => h) (Or.inl ⟨by rfl, ?yy1⟩) (by assumption) ?rr1
          case yy1 => (intro w hSw; (try dsimp only at hSw); go_simp; (try with_reducible rfl))
          try simp only [Act.put, List.setIfInBounds_toArray, List.set_cons_zero, List.set_cons_succ]
          refine' wpAnyH_take (i := 1) (oi := Oper.mk (some 15) _ _ _ _ _) (v := _) rfl (by kernel_rfl) (by kernel_rfl) (by kernel_rfl) (fun _ _ _ h => h) (Or.inl ⟨by rfl, ?yy2⟩) (by assumption) ?rr2
          case yy2 => (intro w hSw; (try dsimp only at hSw); go_simp; (try with_reducible rfl))
          try simp only [Act.put, List.setIfInBounds_toArray, List.set_cons_zero, List.set_cons_succ]
          refine' wpAnyH_take (i := 2) (oi := Oper.mk (some 16) _ _ _ _ _) (v := _) rfl (by kernel_rfl) (by kernel_rfl) (by kernel_rfl) (fun _ _ _ h => h) (Or.inl ⟨by rfl, ?yy3⟩) (by assumption) ?rr3
          case yy3 => (intro w hSw; (try dsimp only at hSw); go_simp; (try with_reducible rfl))
          try simp only [Act.put, List.setIfInBounds_toArray, List.set_cons_zero, List.set_cons_succ]
          refine' wpAnyH_take (i := 3) (oi := Oper.mk (some 17) _ _ _ _ _) (v := _) rfl (by kernel_rfl) (by kernel_rfl) (by kernel_rfl) (fun _ _ _ h => h) (Or.inl ⟨by rfl, ?yy4⟩) (by assumption) ?rr4
          case yy4 => (intro w hSw; (try dsimp only at hSw); go_simp; (try with_reducible rfl))
          try simp only [Act.put, List.setIfInBounds_toArray, List.set_cons_zero, List.set_cons_succ]
          refine wpAnyH_ready (rs := [4]) (by kernel_rfl) (by simp) ?_
          refine AllReadyH.cons (o := Oper.mk (some 18) _ _ _ _ _) rfl (fun K hK => ?_) AllReadyH.nil
          go_simp
          (go_at_call 89; refine (H1.out _).mono ?_; rintro e w2 ⟨rfl, hb1⟩)
          go_wp2_with fail
          refine hK.out _ _ (HC.out _ hb1) (fun hHeld => ?_)
          clear hK K
          try simp only [Act.put, List.setIfInBounds_toArray, List.set_cons_zero, List.set_cons_succ]
          refine' wpAnyH_take (i := 5) (oi := Oper.mk (some 19) _ _ _ _ _) (v := _) rfl (by kernel_rfl) (by kernel_rfl) (by kernel_rfl) (fun _ _ _ h => h) (Or.inl ⟨by rfl, ?yy5⟩) (by assumption) ?rr5
          case yy5 => (intro w hSw; (try dsimp only at hSw); go_simp; (try with_reducible rfl))
          try simp only [Act.put, List.setIfInBounds_toArray, List.set_cons_zero, List.set_cons_succ]
          refine' wpAnyH_take (i := 6) (oi := Oper.mk (some 20) _ _ _ _ _) (v := _) rfl (by kernel_rfl) (by kernel_rfl) (by kernel_rfl) (fun _ _ _ h => h) (Or.inl ⟨by rfl, ?yy6⟩) (by assumption) ?rr6
          case yy6 => (intro w hSw; (try dsimp only at hSw); go_simp; (try with_reducible rfl))
          try simp only [Act.put, List.setIfInBounds_toArray, List.set_cons_zero, List.set_cons_succ]
          refine wpAnyH_take (i := 7) (oi := Oper.mk (some 21) _ _ _ _ _) (v := undef) rfl (by kernel_rfl) (by kernel_rfl) (by kernel_rfl) (fun _ _ _ h => h) (Or.inr ⟨by rfl, rfl⟩) (by assumption) ?_
          try simp only [Act.put, List.setIfInBounds_toArray, List.set_cons_zero, List.set_cons_succ]
          refine wpAnyH_take (i := 8) (oi := Oper.mk (some 22) _ _ _ _ _) (v := undef) rfl (by kernel_rfl) (by kernel_rfl) (by kernel_rfl) (fun _ _ _ h => h) (Or.inr ⟨by rfl, rfl⟩) (by assumption) ?_
          try simp only [Act.put, List.setIfInBounds_toArray, List.set_cons_zero, List.set_cons_succ]
          refine wpAnyH_take (i := 9) (oi := Oper.mk (some 23) _ _ _ _ _) (v := undef) rfl (by kernel_rfl) (by kernel_rfl) (by kernel_rfl) (fun _ _ _ h => h) (Or.inr ⟨by rfl, rfl⟩) (by assumption) ?_
          try simp only [Act.put, List.setIfInBounds_toArray, List.set_cons_zero, List.set_cons_succ]
          refine wpAnyH_take (i := 10) (oi := Oper.mk (some 24) _ _ _ _ _) (v := undef) rfl (by kernel_rfl) (by kernel_rfl) (by kernel_rfl) (fun _ _ _ h => h) (Or.inr ⟨by rfl, rfl⟩) (by assumption) ?_
          try simp only [Act.put, List.setIfInBounds_toArray, List.set_cons_zero, List.set_cons_succ]
          refine wpAnyH_take (i := 11) (oi := Oper.mk (some 25) _ _ _ _ _) (v := undef) rfl (by kernel_rfl) (by kernel_rfl) (by kernel_rfl) (fun _ _ _ h => h) (Or.inr ⟨by rfl, rfl⟩) (by assumption) ?_
          try simp only [Act.put, List.setIfInBounds_toArray, List.set_cons_zero, List.set_cons_succ]
          refine wpAnyH_take (i := 12) (oi := Oper.mk (some 26) _ _ _ _ _) (v := undef) rfl (by kernel_rfl) (by kernel_rfl) (by kernel_rfl) (fun _ _ _ h => h) (Or.inr ⟨by rfl, rfl⟩) (by assumption) ?_
          try simp only [Act.put, List.setIfInBounds_toArray, List.set_cons_zero, List.set_cons_succ]
          refine wpAnyH_take (i := 13) (oi := Oper.mk (some 27) _ _ _ _ _) (v := undef) rfl (by kernel_rfl) (by kernel_rfl) (by kernel_rfl) (fun _ _ _ h => h) (Or.inr ⟨by rfl, rfl⟩) (by assumption) ?_
          try simp only [Act.put, List.setIfInBounds_toArray, List.set_cons_zero, List.set_cons_succ]
          refine wpAnyH_take (i := 14) (oi := Oper.mk (some 28) _ _ _ _ _) (v := undef) rfl (by kernel_rfl) (by kernel_rfl) (by kernel_rfl) (fun _ _ _ h => h) (Or.inr ⟨by rfl, rfl⟩) (by assumption) ?_
          try simp only [Act.put, List.setIfInBounds_toArray, List.set_cons_zero, List.set_cons_succ]
          refine wpAnyH_take (i := 15) (oi := Oper.mk (some 29) _ _ _ _ _) (v := undef) rfl (by kernel_rfl) (by kernel_rfl) (by kernel_rfl) (fun _ _ _ h => h) (Or.inr ⟨by rfl, rfl⟩) (by assumption) ?_
          try simp only [Act.put, List.setIfInBounds_toArray, List.set_cons_zero, List.set_cons_succ]
          refine wpAnyH_take (i := 16) (oi := Oper.mk (some 30) _ _ _ _ _) (v := undef) rfl (by kernel_rfl) (by kernel_rfl) (by kernel_rfl) (fun _ _ _ h => h) (Or.inr ⟨by rfl, rfl⟩) (by assumption) ?_
          try simp only [Act.put, List.setIfInBounds_toArray, List.set_cons_zero, List.set_cons_succ]
          refine wpAnyH_take (i := 17) (oi := Oper.mk (some 31) _ _ _ _ _) (v := undef) rfl (by kernel_rfl) (by kernel_rfl) (by kernel_rfl) (fun _ _ _ h => h) (Or.inr ⟨by rfl, rfl⟩) (by assumption) ?_
          try simp only [Act.put, List.setIfInBounds_toArray, List.set_cons_zero, List.set_cons_succ]
          refine wpAnyH_take (i := 18) (oi := Oper.mk (some 32) _ _ _ _ _) (v := undef) rfl (by kernel_rfl) (by kernel_rfl) (by kernel_rfl) (fun _ _ _ h => h) (Or.inr ⟨by rfl, rfl⟩) (by assumption) ?_
          try simp only [Act.put, List.setIfInBounds_toArray, List.set_cons_zero, List.set_cons_succ]
          refine wpAnyH_take (i := 19) (oi := Oper.mk (some 33) _ _ _ _ _) (v := undef) rfl (by kernel_rfl) (by kernel_rfl) (by kernel_rfl) (fun _ _ _ h => h) (Or.inr ⟨by rfl, rfl⟩) (by assumption) ?_
          try simp only [Act.put, List.setIfInBounds_toArray, List.set_cons_zero, List.set_cons_succ]
          refine wpAnyH_take (i := 20) (oi := Oper.mk (some 34) _ _ _ _ _) (v := undef) rfl (by kernel_rfl) (by kernel_rfl) (by kernel_rfl) (fun _ _ _ h => h) (Or.inr ⟨by rfl, rfl⟩) (by assumption) ?_
          try simp only [Act.put, List.setIfInBounds_toArray, List.set_cons_zero, List.set_cons_succ]
          refine wpAnyH_take (i := 21) (oi := Oper.mk (some 35) _ _ _ _ _) (v := undef) rfl (by kernel_rfl) (by kernel_rfl) (by kernel_rfl) (fun _ _ _ h => h) (Or.inr ⟨by rfl, rfl⟩) (by assumption) ?_
          try simp only [Act.put, List.setIfInBounds_toArray, List.set_cons_zero, List.set_cons_succ]
          refine wpAnyH_take (i := 22) (oi := Oper.mk (some 36) _ _ _ _ _) (v := undef) rfl (by kernel_rfl) (by kernel_rfl) (by kernel_rfl) (fun _ _ _ h => h) (Or.inr ⟨by rfl, rfl⟩) (by assumption) ?_
          try simp only [Act.put, List.setIfInBounds_toArray, List.set_cons_zero, List.set_cons_succ]
          refine' wpAnyH_take (i := 23) (oi := Oper.mk (some 37) _ _ _ _ _) (v := _) rfl (by kernel_rfl) (by kernel_rfl) (by kernel_rfl) (fun _ _ _ h => h) (Or.inl ⟨by rfl, ?yy7⟩) (by assumption) ?rr7
          case yy7 => (intro w hSw; (try dsimp only at hSw); go_simp; (try with_reducible rfl))
          try simp only [Act.put, List.setIfInBounds_toArray, List.set_cons_zero, List.set_cons_succ]
          refine wpAnyH_done (by kernel_rfl) ?_ _
          go_wp2
          go_ret
          refine ⟨ret_bool HV.out.symm, below_at hb hb.size ?_⟩
          exact (Below.refl _ _).drew.trans hb1
        | true =>
          by_cases hk0 : k = 0
          · have HV := Lib.hid (show gB l (k + 1) = true by rw [HS.out]; simp [hk0])
            have q1 : decide (0 < k) = false := by simp [hk0]
            clear hk0
            go_wp2_with fail
            refine wp_region_held_drew (S := fun w' => w'.cell? ⟨b, off + k * 5, none⟩ = some (.int .i64 x.key) ∧ w'.cell? ⟨b, off + k * 5 + 1, none⟩ = some (.int .i64 x.count) ∧ w'.cell? ⟨b, off + k * 5 + 2, none⟩ = some (.int .i64 x.sum) ∧ w'.cell? ⟨b, off + k * 5 + 3, none⟩ = some (.int .i64 x.least) ∧ w'.cell? ⟨b, off + k * 5 + 4, none⟩ = some (.int .i64 x.most)) (by kernel_rfl) (HC.out _ (Below.refl _ _)) (fun hHeld => ?_)
            refine' wpAnyH_take (i := 0) (oi := Oper.mk (some 14) _ _ _ _ _) (v := _) rfl (by kernel_rfl) (by kernel_rfl) (by kernel_rfl) (fun _ _ _ h => h) (Or.inl ⟨by rfl, ?yy8⟩) (by assumption) ?rr8
            case yy8 => (intro w hSw; (try dsimp only at hSw); go_simp; (try with_reducible rfl))
            try simp only [Act.put, List.setIfInBounds_toArray, List.set_cons_zero, List.set_cons_succ]
            refine' wpAnyH_take (i := 1) (oi := Oper.mk (some 15) _ _ _ _ _) (v := _) rfl (by kernel_rfl) (by kernel_rfl) (by kernel_rfl) (fun _ _ _ h => h) (Or.inl ⟨by rfl, ?yy9⟩) (by assumption) ?rr9
            case yy9 => (intro w hSw; (try dsimp only at hSw); go_simp; (try with_reducible rfl))
            try simp only [Act.put, List.setIfInBounds_toArray, List.set_cons_zero, List.set_cons_succ]
            refine' wpAnyH_take (i := 2) (oi := Oper.mk (some 16) _ _ _ _ _) (v := _) rfl (by kernel_rfl) (by kernel_rfl) (by kernel_rfl) (fun _ _ _ h => h) (Or.inl ⟨by rfl, ?yy10⟩) (by assumption) ?rr10
            case yy10 => (intro w hSw; (try dsimp only at hSw); go_simp; (try with_reducible rfl))
            try simp only [Act.put, List.setIfInBounds_toArray, List.set_cons_zero, List.set_cons_succ]
            refine' wpAnyH_take (i := 3) (oi := Oper.mk (some 17) _ _ _ _ _) (v := _) rfl (by kernel_rfl) (by kernel_rfl) (by kernel_rfl) (fun _ _ _ h => h) (Or.inl ⟨by rfl, ?yy11⟩) (by assumption) ?rr11
            case yy11 => (intro w hSw; (try dsimp only at hSw); go_simp; (try with_reducible rfl))
            try simp only [Act.put, List.setIfInBounds_toArray, List.set_cons_zero, List.set_cons_succ]
            refine wpAnyH_ready (rs := [4]) (by kernel_rfl) (by simp) ?_
            refine AllReadyH.cons (o := Oper.mk (some 18) _ _ _ _ _) rfl (fun K hK => ?_) AllReadyH.nil
            go_simp
            (go_at_call 89; refine (H1.out _).mono ?_; rintro e w2 ⟨rfl, hb1⟩)
            go_wp2_with fail
            refine hK.out _ _ (HC.out _ hb1) (fun hHeld => ?_)
            clear hK K
            try simp only [Act.put, List.setIfInBounds_toArray, List.set_cons_zero, List.set_cons_succ]
            refine' wpAnyH_take (i := 5) (oi := Oper.mk (some 19) _ _ _ _ _) (v := _) rfl (by kernel_rfl) (by kernel_rfl) (by kernel_rfl) (fun _ _ _ h => h) (Or.inl ⟨by rfl, ?yy12⟩) (by assumption) ?rr12
            case yy12 => (intro w hSw; (try dsimp only at hSw); go_simp; (try with_reducible rfl))
            try simp only [Act.put, List.setIfInBounds_toArray, List.set_cons_zero, List.set_cons_succ]
            refine' wpAnyH_take (i := 6) (oi := Oper.mk (some 20) _ _ _ _ _) (v := _) rfl (by kernel_rfl) (by kernel_rfl) (by kernel_rfl) (fun _ _ _ h => h) (Or.inl ⟨by rfl, ?yy13⟩) (by assumption) ?rr13
            case yy13 => (intro w hSw; (try dsimp only at hSw); go_simp; (try with_reducible rfl))
            try simp only [Act.put, List.setIfInBounds_toArray, List.set_cons_zero, List.set_cons_succ]
            refine' wpAnyH_take (i := 7) (oi := Oper.mk (some 21) _ _ _ _ _) (v := _) rfl (by kernel_rfl) (by kernel_rfl) (by kernel_rfl) (fun _ _ _ h => h) (Or.inl ⟨by rfl, ?yy14⟩) (by assumption) ?rr14
            case yy14 => (intro w hSw; (try dsimp only at hSw); go_simp; (try with_reducible rfl))
            try simp only [Act.put, List.setIfInBounds_toArray, List.set_cons_zero, List.set_cons_succ]
            refine' wpAnyH_take (i := 8) (oi := Oper.mk (some 22) _ _ _ _ _) (v := _) rfl (by kernel_rfl) (by kernel_rfl) (by kernel_rfl) (fun _ _ _ h => h) (Or.inl ⟨by rfl, ?yy15⟩) (by assumption) ?rr15
            case yy15 => (intro w hSw; (try dsimp only at hSw); go_simp; (try with_reducible rfl))
            try simp only [Act.put, List.setIfInBounds_toArray, List.set_cons_zero, List.set_cons_succ]
            refine' wpAnyH_take (i := 9) (oi := Oper.mk (some 23) _ _ _ _ _) (v := _) rfl (by kernel_rfl) (by kernel_rfl) (by kernel_rfl) (fun _ _ _ h => h) (Or.inl ⟨by rfl, ?yy16⟩) (by assumption) ?rr16
            case yy16 => (intro w hSw; (try dsimp only at hSw); go_simp; (try with_reducible rfl))
            try simp only [Act.put, List.setIfInBounds_toArray, List.set_cons_zero, List.set_cons_succ]
            refine wpAnyH_take (i := 10) (oi := Oper.mk (some 24) _ _ _ _ _) (v := undef) rfl (by kernel_rfl) (by kernel_rfl) (by kernel_rfl) (fun _ _ _ h => h) (Or.inr ⟨by rfl, rfl⟩) (by assumption) ?_
            try simp only [Act.put, List.setIfInBounds_toArray, List.set_cons_zero, List.set_cons_succ]
            refine wpAnyH_take (i := 11) (oi := Oper.mk (some 25) _ _ _ _ _) (v := undef) rfl (by kernel_rfl) (by kernel_rfl) (by kernel_rfl) (fun _ _ _ h => h) (Or.inr ⟨by rfl, rfl⟩) (by assumption) ?_
            try simp only [Act.put, List.setIfInBounds_toArray, List.set_cons_zero, List.set_cons_succ]
            refine wpAnyH_take (i := 12) (oi := Oper.mk (some 26) _ _ _ _ _) (v := undef) rfl (by kernel_rfl) (by kernel_rfl) (by kernel_rfl) (fun _ _ _ h => h) (Or.inr ⟨by rfl, rfl⟩) (by assumption) ?_
            try simp only [Act.put, List.setIfInBounds_toArray, List.set_cons_zero, List.set_cons_succ]
            refine wpAnyH_take (i := 13) (oi := Oper.mk (some 27) _ _ _ _ _) (v := undef) rfl (by kernel_rfl) (by kernel_rfl) (by kernel_rfl) (fun _ _ _ h => h) (Or.inr ⟨by rfl, rfl⟩) (by assumption) ?_
            try simp only [Act.put, List.setIfInBounds_toArray, List.set_cons_zero, List.set_cons_succ]
            refine wpAnyH_take (i := 14) (oi := Oper.mk (some 28) _ _ _ _ _) (v := undef) rfl (by kernel_rfl) (by kernel_rfl) (by kernel_rfl) (fun _ _ _ h => h) (Or.inr ⟨by rfl, rfl⟩) (by assumption) ?_
            try simp only [Act.put, List.setIfInBounds_toArray, List.set_cons_zero, List.set_cons_succ]
            refine wpAnyH_take (i := 15) (oi := Oper.mk (some 29) _ _ _ _ _) (v := undef) rfl (by kernel_rfl) (by kernel_rfl) (by kernel_rfl) (fun _ _ _ h => h) (Or.inr ⟨by rfl, rfl⟩) (by assumption) ?_
            try simp only [Act.put, List.setIfInBounds_toArray, List.set_cons_zero, List.set_cons_succ]
            refine wpAnyH_take (i := 16) (oi := Oper.mk (some 30) _ _ _ _ _) (v := undef) rfl (by kernel_rfl) (by kernel_rfl) (by kernel_rfl) (fun _ _ _ h => h) (Or.inr ⟨by rfl, rfl⟩) (by assumption) ?_
            try simp only [Act.put, List.setIfInBounds_toArray, List.set_cons_zero, List.set_cons_succ]
            refine wpAnyH_take (i := 17) (oi := Oper.mk (some 31) _ _ _ _ _) (v := undef) rfl (by kernel_rfl) (by kernel_rfl) (by kernel_rfl) (fun _ _ _ h => h) (Or.inr ⟨by rfl, rfl⟩) (by assumption) ?_
            try simp only [Act.put, List.setIfInBounds_toArray, List.set_cons_zero, List.set_cons_succ]
            refine wpAnyH_take (i := 18) (oi := Oper.mk (some 32) _ _ _ _ _) (v := undef) rfl (by kernel_rfl) (by kernel_rfl) (by kernel_rfl) (fun _ _ _ h => h) (Or.inr ⟨by rfl, rfl⟩) (by assumption) ?_
            try simp only [Act.put, List.setIfInBounds_toArray, List.set_cons_zero, List.set_cons_succ]
            refine wpAnyH_take (i := 19) (oi := Oper.mk (some 33) _ _ _ _ _) (v := undef) rfl (by kernel_rfl) (by kernel_rfl) (by kernel_rfl) (fun _ _ _ h => h) (Or.inr ⟨by rfl, rfl⟩) (by assumption) ?_
            try simp only [Act.put, List.setIfInBounds_toArray, List.set_cons_zero, List.set_cons_succ]
            refine wpAnyH_take (i := 20) (oi := Oper.mk (some 34) _ _ _ _ _) (v := undef) rfl (by kernel_rfl) (by kernel_rfl) (by kernel_rfl) (fun _ _ _ h => h) (Or.inr ⟨by rfl, rfl⟩) (by assumption) ?_
            try simp only [Act.put, List.setIfInBounds_toArray, List.set_cons_zero, List.set_cons_succ]
            refine wpAnyH_take (i := 21) (oi := Oper.mk (some 35) _ _ _ _ _) (v := undef) rfl (by kernel_rfl) (by kernel_rfl) (by kernel_rfl) (fun _ _ _ h => h) (Or.inr ⟨by rfl, rfl⟩) (by assumption) ?_
            try simp only [Act.put, List.setIfInBounds_toArray, List.set_cons_zero, List.set_cons_succ]
            refine' wpAnyH_take (i := 22) (oi := Oper.mk (some 36) _ _ _ _ _) (v := _) rfl (by kernel_rfl) (by kernel_rfl) (by kernel_rfl) (fun _ _ _ h => h) (Or.inl ⟨by rfl, ?yy17⟩) (by assumption) ?rr17
            case yy17 => (intro w hSw; (try dsimp only at hSw); go_simp; (try with_reducible rfl))
            try simp only [Act.put, List.setIfInBounds_toArray, List.set_cons_zero, List.set_cons_succ]
            refine' wpAnyH_take (i := 23) (oi := Oper.mk (some 37) _ _ _ _ _) (v := _) rfl (by kernel_rfl) (by kernel_rfl) (by kernel_rfl) (fun _ _ _ h => h) (Or.inl ⟨by rfl, ?yy18⟩) (by assumption) ?rr18
            case yy18 => (intro w hSw; (try dsimp only at hSw); go_simp; (try with_reducible rfl))
            try simp only [Act.put, List.setIfInBounds_toArray, List.set_cons_zero, List.set_cons_succ]
            refine wpAnyH_done (by kernel_rfl) ?_ _
            go_wp2
            go_roundg (gk - 1)
            case measure => omega
            case rel =>
              refine ⟨k + 1, by omega, by omega, by go_num, HV.out, below_at hb hb.size ?_⟩
              exact (Below.refl _ _).drew.trans hb1
          · have hp := HP.out (by omega)
            have HC2 := Lib.hid (fun w' (h : Below wr.heap.size wr.drew w') => (⟨HE.out w' h _ _ hp, HC.out w' h⟩ : w'.cell? ⟨b, off + (k - 1) * 5, none⟩ = some (.int .i64 pk) ∧ w'.cell? ⟨b, off + k * 5, none⟩ = some (.int .i64 x.key) ∧ w'.cell? ⟨b, off + k * 5 + 1, none⟩ = some (.int .i64 x.count) ∧ w'.cell? ⟨b, off + k * 5 + 2, none⟩ = some (.int .i64 x.sum) ∧ w'.cell? ⟨b, off + k * 5 + 3, none⟩ = some (.int .i64 x.least) ∧ w'.cell? ⟨b, off + k * 5 + 4, none⟩ = some (.int .i64 x.most)))
            have q1 : (0 : Int) < (k : Int) := by omega
            have q1n : 0 < k := by omega
            have q1m : (1 : Int) ≤ (k : Int) := by omega
            have q2 : (k : Int) - 1 < (l.length : Int) := by omega
            have q3 : (0 : Int) ≤ (k : Int) - 1 := by omega
            have q4 : ((k : Int) - 1).toNat = k - 1 := by omega
            have q5 : IntKind.i64.wrap ((k : Int) - 1) = (k : Int) - 1 := IntWalk.i64_in _ (by omega)
            by_cases hlt2 : pk < x.key
            · have HV := Lib.hid (show gB l (k + 1) = true by rw [HS.out]; simp [hlt2])
              have q6 : decide (x.key ≤ pk) = false := by simpa using hlt2
              go_wp2_with fail
              refine wp_region_held_drew (S := fun w' => w'.cell? ⟨b, off + (k - 1) * 5, none⟩ = some (.int .i64 pk) ∧ w'.cell? ⟨b, off + k * 5, none⟩ = some (.int .i64 x.key) ∧ w'.cell? ⟨b, off + k * 5 + 1, none⟩ = some (.int .i64 x.count) ∧ w'.cell? ⟨b, off + k * 5 + 2, none⟩ = some (.int .i64 x.sum) ∧ w'.cell? ⟨b, off + k * 5 + 3, none⟩ = some (.int .i64 x.least) ∧ w'.cell? ⟨b, off + k * 5 + 4, none⟩ = some (.int .i64 x.most)) (by kernel_rfl) (HC2.out _ (Below.refl _ _)) (fun hHeld => ?_)
              refine' wpAnyH_take (i := 0) (oi := Oper.mk (some 14) _ _ _ _ _) (v := _) rfl (by kernel_rfl) (by kernel_rfl) (by kernel_rfl) (fun _ _ _ h => h) (Or.inl ⟨by rfl, ?yy19⟩) (by assumption) ?rr19
              case yy19 => (intro w hSw; (try dsimp only at hSw); go_simp; (try with_reducible rfl))
              try simp only [Act.put, List.setIfInBounds_toArray, List.set_cons_zero, List.set_cons_succ]
              refine' wpAnyH_take (i := 1) (oi := Oper.mk (some 15) _ _ _ _ _) (v := _) rfl (by kernel_rfl) (by kernel_rfl) (by kernel_rfl) (fun _ _ _ h => h) (Or.inl ⟨by rfl, ?yy20⟩) (by assumption) ?rr20
              case yy20 => (intro w hSw; (try dsimp only at hSw); go_simp; (try with_reducible rfl))
              try simp only [Act.put, List.setIfInBounds_toArray, List.set_cons_zero, List.set_cons_succ]
              refine' wpAnyH_take (i := 2) (oi := Oper.mk (some 16) _ _ _ _ _) (v := _) rfl (by kernel_rfl) (by kernel_rfl) (by kernel_rfl) (fun _ _ _ h => h) (Or.inl ⟨by rfl, ?yy21⟩) (by assumption) ?rr21
              case yy21 => (intro w hSw; (try dsimp only at hSw); go_simp; (try with_reducible rfl))
              try simp only [Act.put, List.setIfInBounds_toArray, List.set_cons_zero, List.set_cons_succ]
              refine' wpAnyH_take (i := 3) (oi := Oper.mk (some 17) _ _ _ _ _) (v := _) rfl (by kernel_rfl) (by kernel_rfl) (by kernel_rfl) (fun _ _ _ h => h) (Or.inl ⟨by rfl, ?yy22⟩) (by assumption) ?rr22
              case yy22 => (intro w hSw; (try dsimp only at hSw); go_simp; (try with_reducible rfl))
              try simp only [Act.put, List.setIfInBounds_toArray, List.set_cons_zero, List.set_cons_succ]
              refine wpAnyH_ready (rs := [4]) (by kernel_rfl) (by simp) ?_
              refine AllReadyH.cons (o := Oper.mk (some 18) _ _ _ _ _) rfl (fun K hK => ?_) AllReadyH.nil
              go_simp
              (go_at_call 89; refine (H1.out _).mono ?_; rintro e w2 ⟨rfl, hb1⟩)
              go_wp2_with fail
              refine hK.out _ _ (HC2.out _ hb1) (fun hHeld => ?_)
              clear hK K
              try simp only [Act.put, List.setIfInBounds_toArray, List.set_cons_zero, List.set_cons_succ]
              refine' wpAnyH_take (i := 5) (oi := Oper.mk (some 19) _ _ _ _ _) (v := _) rfl (by kernel_rfl) (by kernel_rfl) (by kernel_rfl) (fun _ _ _ h => h) (Or.inl ⟨by rfl, ?yy23⟩) (by assumption) ?rr23
              case yy23 => (intro w hSw; (try dsimp only at hSw); go_simp; (try with_reducible rfl))
              try simp only [Act.put, List.setIfInBounds_toArray, List.set_cons_zero, List.set_cons_succ]
              refine' wpAnyH_take (i := 6) (oi := Oper.mk (some 20) _ _ _ _ _) (v := _) rfl (by kernel_rfl) (by kernel_rfl) (by kernel_rfl) (fun _ _ _ h => h) (Or.inl ⟨by rfl, ?yy24⟩) (by assumption) ?rr24
              case yy24 => (intro w hSw; (try dsimp only at hSw); go_simp; (try with_reducible rfl))
              try simp only [Act.put, List.setIfInBounds_toArray, List.set_cons_zero, List.set_cons_succ]
              refine' wpAnyH_take (i := 7) (oi := Oper.mk (some 21) _ _ _ _ _) (v := _) rfl (by kernel_rfl) (by kernel_rfl) (by kernel_rfl) (fun _ _ _ h => h) (Or.inl ⟨by rfl, ?yy25⟩) (by assumption) ?rr25
              case yy25 => (intro w hSw; (try dsimp only at hSw); go_simp; (try with_reducible rfl))
              try simp only [Act.put, List.setIfInBounds_toArray, List.set_cons_zero, List.set_cons_succ]
              refine' wpAnyH_take (i := 8) (oi := Oper.mk (some 22) _ _ _ _ _) (v := _) rfl (by kernel_rfl) (by kernel_rfl) (by kernel_rfl) (fun _ _ _ h => h) (Or.inl ⟨by rfl, ?yy26⟩) (by assumption) ?rr26
              case yy26 => (intro w hSw; (try dsimp only at hSw); go_simp; (try with_reducible rfl))
              try simp only [Act.put, List.setIfInBounds_toArray, List.set_cons_zero, List.set_cons_succ]
              refine' wpAnyH_take (i := 9) (oi := Oper.mk (some 23) _ _ _ _ _) (v := _) rfl (by kernel_rfl) (by kernel_rfl) (by kernel_rfl) (fun _ _ _ h => h) (Or.inl ⟨by rfl, ?yy27⟩) (by assumption) ?rr27
              case yy27 => (intro w hSw; (try dsimp only at hSw); go_simp; (try with_reducible rfl))
              try simp only [Act.put, List.setIfInBounds_toArray, List.set_cons_zero, List.set_cons_succ]
              refine' wpAnyH_take (i := 10) (oi := Oper.mk (some 24) _ _ _ _ _) (v := _) rfl (by kernel_rfl) (by kernel_rfl) (by kernel_rfl) (fun _ _ _ h => h) (Or.inl ⟨by rfl, ?yy28⟩) (by assumption) ?rr28
              case yy28 => (intro w hSw; (try dsimp only at hSw); go_simp; (try with_reducible rfl))
              try simp only [Act.put, List.setIfInBounds_toArray, List.set_cons_zero, List.set_cons_succ]
              refine' wpAnyH_take (i := 11) (oi := Oper.mk (some 25) _ _ _ _ _) (v := _) rfl (by kernel_rfl) (by kernel_rfl) (by kernel_rfl) (fun _ _ _ h => h) (Or.inl ⟨by rfl, ?yy29⟩) (by assumption) ?rr29
              case yy29 => (intro w hSw; (try dsimp only at hSw); go_simp; (try with_reducible rfl))
              try simp only [Act.put, List.setIfInBounds_toArray, List.set_cons_zero, List.set_cons_succ]
              refine' wpAnyH_take (i := 12) (oi := Oper.mk (some 26) _ _ _ _ _) (v := _) rfl (by kernel_rfl) (by kernel_rfl) (by kernel_rfl) (fun _ _ _ h => h) (Or.inl ⟨by rfl, ?yy30⟩) (by assumption) ?rr30
              case yy30 => (intro w hSw; (try dsimp only at hSw); go_simp; (try with_reducible rfl))
              try simp only [Act.put, List.setIfInBounds_toArray, List.set_cons_zero, List.set_cons_succ]
              refine' wpAnyH_take (i := 13) (oi := Oper.mk (some 27) _ _ _ _ _) (v := _) rfl (by kernel_rfl) (by kernel_rfl) (by kernel_rfl) (fun _ _ _ h => h) (Or.inl ⟨by rfl, ?yy31⟩) (by assumption) ?rr31
              case yy31 => (intro w hSw; (try dsimp only at hSw); go_simp; (try with_reducible rfl))
              try simp only [Act.put, List.setIfInBounds_toArray, List.set_cons_zero, List.set_cons_succ]
              refine' wpAnyH_take (i := 14) (oi := Oper.mk (some 28) _ _ _ _ _) (v := _) rfl (by kernel_rfl) (by kernel_rfl) (by kernel_rfl) (fun _ _ _ h => h) (Or.inl ⟨by rfl, ?yy32⟩) (by assumption) ?rr32
              case yy32 => (intro w hSw; (try dsimp only at hSw); go_simp; (try with_reducible rfl))
              try simp only [Act.put, List.setIfInBounds_toArray, List.set_cons_zero, List.set_cons_succ]
              refine' wpAnyH_take (i := 15) (oi := Oper.mk (some 29) _ _ _ _ _) (v := _) rfl (by kernel_rfl) (by kernel_rfl) (by kernel_rfl) (fun _ _ _ h => h) (Or.inl ⟨by rfl, ?yy33⟩) (by assumption) ?rr33
              case yy33 => (intro w hSw; (try dsimp only at hSw); go_simp; (try with_reducible rfl))
              try simp only [Act.put, List.setIfInBounds_toArray, List.set_cons_zero, List.set_cons_succ]
              refine' wpAnyH_take (i := 16) (oi := Oper.mk (some 30) _ _ _ _ _) (v := _) rfl (by kernel_rfl) (by kernel_rfl) (by kernel_rfl) (fun _ _ _ h => h) (Or.inl ⟨by rfl, ?yy34⟩) (by assumption) ?rr34
              case yy34 => (intro w hSw; (try dsimp only at hSw); go_simp; (try with_reducible rfl))
              try simp only [Act.put, List.setIfInBounds_toArray, List.set_cons_zero, List.set_cons_succ]
              refine' wpAnyH_take (i := 17) (oi := Oper.mk (some 31) _ _ _ _ _) (v := _) rfl (by kernel_rfl) (by kernel_rfl) (by kernel_rfl) (fun _ _ _ h => h) (Or.inl ⟨by rfl, ?yy35⟩) (by assumption) ?rr35
              case yy35 => (intro w hSw; (try dsimp only at hSw); go_simp; (try with_reducible rfl))
              try simp only [Act.put, List.setIfInBounds_toArray, List.set_cons_zero, List.set_cons_succ]
              refine' wpAnyH_take (i := 18) (oi := Oper.mk (some 32) _ _ _ _ _) (v := _) rfl (by kernel_rfl) (by kernel_rfl) (by kernel_rfl) (fun _ _ _ h => h) (Or.inl ⟨by rfl, ?yy36⟩) (by assumption) ?rr36
              case yy36 => (intro w hSw; (try dsimp only at hSw); go_simp; (try with_reducible rfl))
              try simp only [Act.put, List.setIfInBounds_toArray, List.set_cons_zero, List.set_cons_succ]
              refine' wpAnyH_take (i := 19) (oi := Oper.mk (some 33) _ _ _ _ _) (v := _) rfl (by kernel_rfl) (by kernel_rfl) (by kernel_rfl) (fun _ _ _ h => h) (Or.inl ⟨by rfl, ?yy37⟩) (by assumption) ?rr37
              case yy37 => (intro w hSw; (try dsimp only at hSw); go_simp; (try with_reducible rfl))
              try simp only [Act.put, List.setIfInBounds_toArray, List.set_cons_zero, List.set_cons_succ]
              refine' wpAnyH_take (i := 20) (oi := Oper.mk (some 34) _ _ _ _ _) (v := _) rfl (by kernel_rfl) (by kernel_rfl) (by kernel_rfl) (fun _ _ _ h => h) (Or.inl ⟨by rfl, ?yy38⟩) (by assumption) ?rr38
              case yy38 => (intro w hSw; (try dsimp only at hSw); go_simp; (try with_reducible rfl))
              try simp only [Act.put, List.setIfInBounds_toArray, List.set_cons_zero, List.set_cons_succ]
              refine' wpAnyH_take (i := 21) (oi := Oper.mk (some 35) _ _ _ _ _) (v := _) rfl (by kernel_rfl) (by kernel_rfl) (by kernel_rfl) (fun _ _ _ h => h) (Or.inl ⟨by rfl, ?yy39⟩) (by assumption) ?rr39
              case yy39 => (intro w hSw; (try dsimp only at hSw); go_simp; (try with_reducible rfl))
              try simp only [Act.put, List.setIfInBounds_toArray, List.set_cons_zero, List.set_cons_succ]
              refine' wpAnyH_take (i := 22) (oi := Oper.mk (some 36) _ _ _ _ _) (v := _) rfl (by kernel_rfl) (by kernel_rfl) (by kernel_rfl) (fun _ _ _ h => h) (Or.inl ⟨by rfl, ?yy40⟩) (by assumption) ?rr40
              case yy40 => (intro w hSw; (try dsimp only at hSw); go_simp; (try with_reducible rfl))
              try simp only [Act.put, List.setIfInBounds_toArray, List.set_cons_zero, List.set_cons_succ]
              refine' wpAnyH_take (i := 23) (oi := Oper.mk (some 37) _ _ _ _ _) (v := _) rfl (by kernel_rfl) (by kernel_rfl) (by kernel_rfl) (fun _ _ _ h => h) (Or.inl ⟨by rfl, ?yy41⟩) (by assumption) ?rr41
              case yy41 => (intro w hSw; (try dsimp only at hSw); go_simp; (try with_reducible rfl))
              try simp only [Act.put, List.setIfInBounds_toArray, List.set_cons_zero, List.set_cons_succ]
              refine wpAnyH_done (by kernel_rfl) ?_ _
              go_wp2
              go_roundg (gk - 1)
              case measure => omega
              case rel =>
                refine ⟨k + 1, by omega, by omega, by go_num, HV.out, below_at hb hb.size ?_⟩
                exact (Below.refl _ _).drew.trans hb1
            · have HV := Lib.hid (HF.out (by simp [hk0, hlt2]))
              have q6 : x.key ≤ pk := by omega
              go_wp2_with fail
              refine wp_region_held_drew (S := fun w' => w'.cell? ⟨b, off + (k - 1) * 5, none⟩ = some (.int .i64 pk) ∧ w'.cell? ⟨b, off + k * 5, none⟩ = some (.int .i64 x.key) ∧ w'.cell? ⟨b, off + k * 5 + 1, none⟩ = some (.int .i64 x.count) ∧ w'.cell? ⟨b, off + k * 5 + 2, none⟩ = some (.int .i64 x.sum) ∧ w'.cell? ⟨b, off + k * 5 + 3, none⟩ = some (.int .i64 x.least) ∧ w'.cell? ⟨b, off + k * 5 + 4, none⟩ = some (.int .i64 x.most)) (by kernel_rfl) (HC2.out _ (Below.refl _ _)) (fun hHeld => ?_)
              refine' wpAnyH_take (i := 0) (oi := Oper.mk (some 14) _ _ _ _ _) (v := _) rfl (by kernel_rfl) (by kernel_rfl) (by kernel_rfl) (fun _ _ _ h => h) (Or.inl ⟨by rfl, ?yy42⟩) (by assumption) ?rr42
              case yy42 => (intro w hSw; (try dsimp only at hSw); go_simp; (try with_reducible rfl))
              try simp only [Act.put, List.setIfInBounds_toArray, List.set_cons_zero, List.set_cons_succ]
              refine' wpAnyH_take (i := 1) (oi := Oper.mk (some 15) _ _ _ _ _) (v := _) rfl (by kernel_rfl) (by kernel_rfl) (by kernel_rfl) (fun _ _ _ h => h) (Or.inl ⟨by rfl, ?yy43⟩) (by assumption) ?rr43
              case yy43 => (intro w hSw; (try dsimp only at hSw); go_simp; (try with_reducible rfl))
              try simp only [Act.put, List.setIfInBounds_toArray, List.set_cons_zero, List.set_cons_succ]
              refine' wpAnyH_take (i := 2) (oi := Oper.mk (some 16) _ _ _ _ _) (v := _) rfl (by kernel_rfl) (by kernel_rfl) (by kernel_rfl) (fun _ _ _ h => h) (Or.inl ⟨by rfl, ?yy44⟩) (by assumption) ?rr44
              case yy44 => (intro w hSw; (try dsimp only at hSw); go_simp; (try with_reducible rfl))
              try simp only [Act.put, List.setIfInBounds_toArray, List.set_cons_zero, List.set_cons_succ]
              refine' wpAnyH_take (i := 3) (oi := Oper.mk (some 17) _ _ _ _ _) (v := _) rfl (by kernel_rfl) (by kernel_rfl) (by kernel_rfl) (fun _ _ _ h => h) (Or.inl ⟨by rfl, ?yy45⟩) (by assumption) ?rr45
              case yy45 => (intro w hSw; (try dsimp only at hSw); go_simp; (try with_reducible rfl))
              try simp only [Act.put, List.setIfInBounds_toArray, List.set_cons_zero, List.set_cons_succ]
              refine wpAnyH_ready (rs := [4]) (by kernel_rfl) (by simp) ?_
              refine AllReadyH.cons (o := Oper.mk (some 18) _ _ _ _ _) rfl (fun K hK => ?_) AllReadyH.nil
              go_simp
              (go_at_call 89; refine (H1.out _).mono ?_; rintro e w2 ⟨rfl, hb1⟩)
              go_wp2_with fail
              refine hK.out _ _ (HC2.out _ hb1) (fun hHeld => ?_)
              clear hK K
              try simp only [Act.put, List.setIfInBounds_toArray, List.set_cons_zero, List.set_cons_succ]
              refine' wpAnyH_take (i := 5) (oi := Oper.mk (some 19) _ _ _ _ _) (v := _) rfl (by kernel_rfl) (by kernel_rfl) (by kernel_rfl) (fun _ _ _ h => h) (Or.inl ⟨by rfl, ?yy46⟩) (by assumption) ?rr46
              case yy46 => (intro w hSw; (try dsimp only at hSw); go_simp; (try with_reducible rfl))
              try simp only [Act.put, List.setIfInBounds_toArray, List.set_cons_zero, List.set_cons_succ]
              refine' wpAnyH_take (i := 6) (oi := Oper.mk (some 20) _ _ _ _ _) (v := _) rfl (by kernel_rfl) (by kernel_rfl) (by kernel_rfl) (fun _ _ _ h => h) (Or.inl ⟨by rfl, ?yy47⟩) (by assumption) ?rr47
              case yy47 => (intro w hSw; (try dsimp only at hSw); go_simp; (try with_reducible rfl))
              try simp only [Act.put, List.setIfInBounds_toArray, List.set_cons_zero, List.set_cons_succ]
              refine' wpAnyH_take (i := 7) (oi := Oper.mk (some 21) _ _ _ _ _) (v := _) rfl (by kernel_rfl) (by kernel_rfl) (by kernel_rfl) (fun _ _ _ h => h) (Or.inl ⟨by rfl, ?yy48⟩) (by assumption) ?rr48
              case yy48 => (intro w hSw; (try dsimp only at hSw); go_simp; (try with_reducible rfl))
              try simp only [Act.put, List.setIfInBounds_toArray, List.set_cons_zero, List.set_cons_succ]
              refine' wpAnyH_take (i := 8) (oi := Oper.mk (some 22) _ _ _ _ _) (v := _) rfl (by kernel_rfl) (by kernel_rfl) (by kernel_rfl) (fun _ _ _ h => h) (Or.inl ⟨by rfl, ?yy49⟩) (by assumption) ?rr49
              case yy49 => (intro w hSw; (try dsimp only at hSw); go_simp; (try with_reducible rfl))
              try simp only [Act.put, List.setIfInBounds_toArray, List.set_cons_zero, List.set_cons_succ]
              refine' wpAnyH_take (i := 9) (oi := Oper.mk (some 23) _ _ _ _ _) (v := _) rfl (by kernel_rfl) (by kernel_rfl) (by kernel_rfl) (fun _ _ _ h => h) (Or.inl ⟨by rfl, ?yy50⟩) (by assumption) ?rr50
              case yy50 => (intro w hSw; (try dsimp only at hSw); go_simp; (try with_reducible rfl))
              try simp only [Act.put, List.setIfInBounds_toArray, List.set_cons_zero, List.set_cons_succ]
              refine' wpAnyH_take (i := 10) (oi := Oper.mk (some 24) _ _ _ _ _) (v := _) rfl (by kernel_rfl) (by kernel_rfl) (by kernel_rfl) (fun _ _ _ h => h) (Or.inl ⟨by rfl, ?yy51⟩) (by assumption) ?rr51
              case yy51 => (intro w hSw; (try dsimp only at hSw); go_simp; (try with_reducible rfl))
              try simp only [Act.put, List.setIfInBounds_toArray, List.set_cons_zero, List.set_cons_succ]
              refine' wpAnyH_take (i := 11) (oi := Oper.mk (some 25) _ _ _ _ _) (v := _) rfl (by kernel_rfl) (by kernel_rfl) (by kernel_rfl) (fun _ _ _ h => h) (Or.inl ⟨by rfl, ?yy52⟩) (by assumption) ?rr52
              case yy52 => (intro w hSw; (try dsimp only at hSw); go_simp; (try with_reducible rfl))
              try simp only [Act.put, List.setIfInBounds_toArray, List.set_cons_zero, List.set_cons_succ]
              refine' wpAnyH_take (i := 12) (oi := Oper.mk (some 26) _ _ _ _ _) (v := _) rfl (by kernel_rfl) (by kernel_rfl) (by kernel_rfl) (fun _ _ _ h => h) (Or.inl ⟨by rfl, ?yy53⟩) (by assumption) ?rr53
              case yy53 => (intro w hSw; (try dsimp only at hSw); go_simp; (try with_reducible rfl))
              try simp only [Act.put, List.setIfInBounds_toArray, List.set_cons_zero, List.set_cons_succ]
              refine' wpAnyH_take (i := 13) (oi := Oper.mk (some 27) _ _ _ _ _) (v := _) rfl (by kernel_rfl) (by kernel_rfl) (by kernel_rfl) (fun _ _ _ h => h) (Or.inl ⟨by rfl, ?yy54⟩) (by assumption) ?rr54
              case yy54 => (intro w hSw; (try dsimp only at hSw); go_simp; (try with_reducible rfl))
              try simp only [Act.put, List.setIfInBounds_toArray, List.set_cons_zero, List.set_cons_succ]
              refine' wpAnyH_take (i := 14) (oi := Oper.mk (some 28) _ _ _ _ _) (v := _) rfl (by kernel_rfl) (by kernel_rfl) (by kernel_rfl) (fun _ _ _ h => h) (Or.inl ⟨by rfl, ?yy55⟩) (by assumption) ?rr55
              case yy55 => (intro w hSw; (try dsimp only at hSw); go_simp; (try with_reducible rfl))
              try simp only [Act.put, List.setIfInBounds_toArray, List.set_cons_zero, List.set_cons_succ]
              refine' wpAnyH_take (i := 15) (oi := Oper.mk (some 29) _ _ _ _ _) (v := _) rfl (by kernel_rfl) (by kernel_rfl) (by kernel_rfl) (fun _ _ _ h => h) (Or.inl ⟨by rfl, ?yy56⟩) (by assumption) ?rr56
              case yy56 => (intro w hSw; (try dsimp only at hSw); go_simp; (try with_reducible rfl))
              try simp only [Act.put, List.setIfInBounds_toArray, List.set_cons_zero, List.set_cons_succ]
              refine' wpAnyH_take (i := 16) (oi := Oper.mk (some 30) _ _ _ _ _) (v := _) rfl (by kernel_rfl) (by kernel_rfl) (by kernel_rfl) (fun _ _ _ h => h) (Or.inl ⟨by rfl, ?yy57⟩) (by assumption) ?rr57
              case yy57 => (intro w hSw; (try dsimp only at hSw); go_simp; (try with_reducible rfl))
              try simp only [Act.put, List.setIfInBounds_toArray, List.set_cons_zero, List.set_cons_succ]
              refine' wpAnyH_take (i := 17) (oi := Oper.mk (some 31) _ _ _ _ _) (v := _) rfl (by kernel_rfl) (by kernel_rfl) (by kernel_rfl) (fun _ _ _ h => h) (Or.inl ⟨by rfl, ?yy58⟩) (by assumption) ?rr58
              case yy58 => (intro w hSw; (try dsimp only at hSw); go_simp; (try with_reducible rfl))
              try simp only [Act.put, List.setIfInBounds_toArray, List.set_cons_zero, List.set_cons_succ]
              refine' wpAnyH_take (i := 18) (oi := Oper.mk (some 32) _ _ _ _ _) (v := _) rfl (by kernel_rfl) (by kernel_rfl) (by kernel_rfl) (fun _ _ _ h => h) (Or.inl ⟨by rfl, ?yy59⟩) (by assumption) ?rr59
              case yy59 => (intro w hSw; (try dsimp only at hSw); go_simp; (try with_reducible rfl))
              try simp only [Act.put, List.setIfInBounds_toArray, List.set_cons_zero, List.set_cons_succ]
              refine' wpAnyH_take (i := 19) (oi := Oper.mk (some 33) _ _ _ _ _) (v := _) rfl (by kernel_rfl) (by kernel_rfl) (by kernel_rfl) (fun _ _ _ h => h) (Or.inl ⟨by rfl, ?yy60⟩) (by assumption) ?rr60
              case yy60 => (intro w hSw; (try dsimp only at hSw); go_simp; (try with_reducible rfl))
              try simp only [Act.put, List.setIfInBounds_toArray, List.set_cons_zero, List.set_cons_succ]
              refine' wpAnyH_take (i := 20) (oi := Oper.mk (some 34) _ _ _ _ _) (v := _) rfl (by kernel_rfl) (by kernel_rfl) (by kernel_rfl) (fun _ _ _ h => h) (Or.inl ⟨by rfl, ?yy61⟩) (by assumption) ?rr61
              case yy61 => (intro w hSw; (try dsimp only at hSw); go_simp; (try with_reducible rfl))
              try simp only [Act.put, List.setIfInBounds_toArray, List.set_cons_zero, List.set_cons_succ]
              refine' wpAnyH_take (i := 21) (oi := Oper.mk (some 35) _ _ _ _ _) (v := _) rfl (by kernel_rfl) (by kernel_rfl) (by kernel_rfl) (fun _ _ _ h => h) (Or.inl ⟨by rfl, ?yy62⟩) (by assumption) ?rr62
              case yy62 => (intro w hSw; (try dsimp only at hSw); go_simp; (try with_reducible rfl))
              try simp only [Act.put, List.setIfInBounds_toArray, List.set_cons_zero, List.set_cons_succ]
              refine' wpAnyH_take (i := 22) (oi := Oper.mk (some 36) _ _ _ _ _) (v := _) rfl (by kernel_rfl) (by kernel_rfl) (by kernel_rfl) (fun _ _ _ h => h) (Or.inl ⟨by rfl, ?yy63⟩) (by assumption) ?rr63
              case yy63 => (intro w hSw; (try dsimp only at hSw); go_simp; (try with_reducible rfl))
              try simp only [Act.put, List.setIfInBounds_toArray, List.set_cons_zero, List.set_cons_succ]
              refine' wpAnyH_take (i := 23) (oi := Oper.mk (some 37) _ _ _ _ _) (v := _) rfl (by kernel_rfl) (by kernel_rfl) (by kernel_rfl) (fun _ _ _ h => h) (Or.inl ⟨by rfl, ?yy64⟩) (by assumption) ?rr64
              case yy64 => (intro w hSw; (try dsimp only at hSw); go_simp; (try with_reducible rfl))
              try simp only [Act.put, List.setIfInBounds_toArray, List.set_cons_zero, List.set_cons_succ]
              refine wpAnyH_done (by kernel_rfl) ?_ _
              go_wp2
              go_ret
              refine ⟨ret_bool HV.out.symm, below_at hb hb.size ?_⟩
              exact (Below.refl _ _).drew.trans hb1
      · have HV := Lib.hid (vg_long (l := l) (by omega))
        have q0 : (k : Int) < (l.length : Int) := by omega
        have q02 : decide ((k : Int) ≤ 64) = false := by simp; omega
        have q03 : decide (k ≤ 64) = false := by simp; omega
        have q1 : decide ((l.length : Int) ≤ 64) = false := by simp; omega
        have q1n : decide (l.length ≤ 64) = false := by simp; omega
        go_wp2
        go_ret
        exact ⟨ret_bool HV.out.symm, hb⟩
    · obtain rfl : k = l.length := by omega
      by_cases h64 : l.length ≤ 64
      · have HV := Lib.hid (show vgroups l = true by rw [vgroups, HB.out]; simpa using h64)
        have q0 : (l.length : Int) ≤ 64 := by omega
        go_wp2
        go_ret
        exact ⟨ret_bool HV.out.symm, hb⟩
      · have HV := Lib.hid (vg_long h64)
        have q0 : (64 : Int) < (l.length : Int) := by omega
        have q1 : decide ((l.length : Int) ≤ 64) = false := by simpa using q0
        go_wp2
        go_ret
        exact ⟨ret_bool HV.out.symm, hb⟩

set_option maxHeartbeats 400000 in
theorem spec_any (A : Option Addr) (c : Nat) (l : List Grp) (w : World) (hn : l.length ≤ 1048576) (hr : Rd w 5 A l.length (grps l)) :
    Calls Try.prog 15 #[.slice A l.length c] w fun e w' => e = .returned (.bool (vgroups l)) ∧ Below w.heap.size w w' := by
  go_enter Try.func15, Try.ntmps15
  go_wp2_with fail
  refine (spec_good A c l w hn hr).mono ?_
  rintro e w' ⟨rfl, hb⟩
  go_wp2
  go_ret
  exact ⟨rfl, hb⟩
end Go.Proofs.Ytgngoedooemboaa.groups
