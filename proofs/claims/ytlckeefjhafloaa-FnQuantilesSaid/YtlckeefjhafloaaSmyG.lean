/- Valid summaries, the reference's. Condition: at most 2^20 entries. -/
import Derived.Test.YtlckeefjhafloaaSmyV
set_option linter.unusedVariables false
set_option linter.unusedSimpArgs false
namespace Go.Proofs.Ytlckeefjhafloaa.smy
open Go.RowKit Go.Proofs.Ytlckeefjhafloaa.mem
open Go.Proofs.Ytlckeefjhafloaa.ins (inB inB_true inB_false inB_iff)

set_option maxRecDepth 100000 in
set_option maxHeartbeats 4000000 in
theorem good_any {cnt : Int} (A : Option Addr) (c : Nat) (l : List Rkv) (w : World) (hn : l.length ≤ 1048576) (hr : Rd w 3 A l.length (rkvs l)) :
    Calls Try.prog 61 #[.agg #[.int .i64 cnt, .slice A l.length c]] w fun e w' => e = .returned (.bool (vsmy cnt l)) ∧ Below w.heap.size w w' := by

  have HBX := Lib.hid (fun (o : Obj) => (Below.refl w.heap.size w).alloc (Nat.le_refl _) o)
  by_cases h1 : inB cnt 0 1000 = true
  · by_cases h2 : l.length ≤ 64
    · by_cases h3 : l.length = 0
      · by_cases h4 : cnt = 0
        · subst h4
          have HV := Lib.hid (show vsmy 0 l = true by
            have : l = [] := List.eq_nil_of_length_eq_zero h3
            subst this; rfl)
          obtain rfl : l = [] := List.eq_nil_of_length_eq_zero h3
          clear h2 h3 hn
          go_enter Try.func61, Try.ntmps61
          go_wp2_with (first | (go_at_call 65; refine (ins.spec_any _ _ _ _).mono ?_; rintro e w' ⟨rfl, rfl⟩))
          refine wp_loop_rounds 1 ?_
          rw [rounds_succ]
          go_wp2
          go_quiet (fail)
          go_wp2
          go_ret
          exact ⟨ret_bool HV.out.symm, below_drewN (HBX.out _) _⟩
        · have HV := Lib.hid (vsmy_hd (show hd cnt l.length = false by simp [hd, h3, h4]))
          have q1 : (cnt == 0) = false := by simpa using h4
          obtain rfl : l = [] := List.eq_nil_of_length_eq_zero h3
          clear h4 h2 h3 hn
          go_enter Try.func61, Try.ntmps61
          go_wp2_with (first | (go_at_call 65; refine (ins.spec_any _ _ _ _).mono ?_; rintro e w' ⟨rfl, rfl⟩))
          go_ret
          exact ⟨ret_bool HV.out.symm, HBX.out _⟩
      · by_cases h4 : cnt = 0
        · have HV := Lib.hid (vsmy_hd (show hd cnt l.length = false by simp [hd, h3, h4]))
          have q1 : ((l.length : Int) == 0) = false := by simpa using h3
          subst h4
          have h5 : 0 < l.length := by omega
          clear h3
          go_enter Try.func61, Try.ntmps61
          go_wp2_with (first | (go_at_call 65; refine (ins.spec_any _ _ _ _).mono ?_; rintro e w' ⟨rfl, rfl⟩))
          go_ret
          exact ⟨ret_bool HV.out.symm, HBX.out _⟩
        · have HH := Lib.hid (show hd cnt l.length = true by simp [hd, h1, h2, h3, h4])
          have q1 : ((l.length : Int) == 0) = false := by simpa using h3
          have q2 : (cnt == 0) = false := by simpa using h4
          have h5 : 0 < l.length := by omega
          have h6 : 1 ≤ cnt ∧ cnt ≤ 1000 := by have := inB_iff.1 h1; omega
          clear h3 h4
          go_enter Try.func61, Try.ntmps61
          go_wp2_with (first | (go_at_call 65; refine (ins.spec_any _ _ _ _).mono ?_; rintro e w' ⟨rfl, rfl⟩))

          go_loopg [4] (l.length + 1) (fun f i wr => ∃ k : Nat, l.length < k + f ∧ k ≤ l.length ∧ i = .int .i64 (k : Int) ∧ okB cnt l k = true ∧ Blk wr w.heap.size 29 #[.int .i64 cnt, .slice A l.length c] ∧ Below w.heap.size w wr)
          case atStart => exact ⟨0, by omega, by omega, rfl, rfl, Blk.new _ _ _, HBX.out _⟩
          case round =>
            obtain ⟨k, hkf, hk, rfl, hok, hB, hb⟩ := hrel
            have HOK := Lib.hid hok
            have HB := Lib.hid hB
            have hB0 := hB.cell 0
            have hB1 := hB.cell 1
            simp at hB0 hB1
            have hlt0 := hB.lt
            have HBW := Lib.hid (fun (w' : World) (h : Below wr.heap.size wr w') => And.intro (hB.below h hlt0) (below_step hb h))
            by_cases hlt : k < l.length
            · have hrd := hr.below hb
              obtain ⟨b, off, rfl, c0, c1, c2⟩ := hrd.rkv hlt
              have HS := Lib.hid (okB_step (cnt := cnt) (l := l) hok)
              rw [getD_r l hlt] at HS
              have HF := Lib.hid (fun h => vsmy_bad (cnt := cnt) hlt h)
              have q3 : (k : Int) < (l.length : Int) := by omega
              clear hok hB hb
              generalize l[k] = x at c0 c1 c2 HS
              have HN := Lib.hid (fun (o : Obj) => (Below.refl wr.heap.size wr).alloc (Nat.le_refl _) o)
              by_cases g1 : inB x.value (-100000) 100000 = true
              · by_cases g2 : inB x.least 1 x.most = true
                · by_cases g3 : x.most ≤ cnt
                  · rw [oke_4 g1 g2 g3] at HS
                    have g7 : inB x.most 1 cnt = true := inB_true (by have := inB_iff.1 g2; omega) g3
                    by_cases hk0 : k = 0
                    · subst hk0
                      have HV := Lib.hid (show okB cnt l (0 + 1) = true by rw [HS.out]; simp)
                      clear hrd
                      simp only [Nat.zero_mul, Nat.add_zero] at c0 c1 c2
                      go_wp2_with (first | (go_at_call 65; refine (ins.spec_any _ _ _ _).mono ?_; rintro e w' ⟨rfl, rfl⟩))
                      go_roundg (gk - 1)
                      case measure => omega
                      case rel => exact ⟨1, by omega, by omega, by go_num, HV.out, HBW.out _ (HN.out _)⟩
                    · have e0 := fun (o : Obj) => ((hrd.alloc o).rkv_at (k := k - 1) (by omega)).1
                      have e1 := fun (o : Obj) => ((hrd.alloc o).rkv_at (k := k - 1) (by omega)).2.1
                      have e2 := fun (o : Obj) => ((hrd.alloc o).rkv_at (k := k - 1) (by omega)).2.2
                      rw [getD_r l (show k - 1 < l.length by omega)] at HS
                      have q4 : (0 : Int) < (k : Int) := by omega
                      have q5 : IntKind.i64.wrap ((k : Int) - 1) = (k : Int) - 1 := IntWalk.i64_in _ (by omega)
                      have q6 : ((k : Int) - 1).toNat = k - 1 := by omega
                      have q7 : (1 : Int) ≤ (k : Int) := by omega
                      have HN2 := Lib.hid (fun (o o2 : Obj) => ((Below.refl wr.heap.size wr).alloc (Nat.le_refl _) o).alloc (by simp) o2)
                      have hkd : decide (k = 0) = false := by simp [hk0]
                      rw [hkd] at HS
                      clear hrd hk0 hkd
                      generalize l[k - 1]'(by omega) = p at e0 e1 e2 HS
                      by_cases g4 : p.value ≤ x.value
                      · by_cases g5 : p.least < x.least
                        · by_cases g6 : p.most < x.most
                          · have HV := Lib.hid (show okB cnt l (k + 1) = true by rw [HS.out]; simp [okp, g4, g5, g6])
                            go_wp2_with (first | (go_at_call 65; refine (ins.spec_any _ _ _ _).mono ?_; rintro e w' ⟨rfl, rfl⟩))
                            go_roundg (gk - 1)
                            case measure => omega
                            case rel => exact ⟨k + 1, by omega, by omega, by go_num, HV.out, HBW.out _ (HN2.out _ _)⟩
                          · have HV := Lib.hid (HF.out (by rw [HS.out]; simp [okp, g6]))
                            have g6' : x.most ≤ p.most := by omega
                            go_wp2_with (first | (go_at_call 65; refine (ins.spec_any _ _ _ _).mono ?_; rintro e w' ⟨rfl, rfl⟩))
                            go_ret
                            exact ⟨ret_bool HV.out.symm, (HBW.out _ (HN2.out _ _)).2⟩
                        · have HV := Lib.hid (HF.out (by rw [HS.out]; simp [okp, g5]))
                          have g5' : x.least ≤ p.least := by omega
                          go_wp2_with (first | (go_at_call 65; refine (ins.spec_any _ _ _ _).mono ?_; rintro e w' ⟨rfl, rfl⟩))
                          go_ret
                          exact ⟨ret_bool HV.out.symm, (HBW.out _ (HN2.out _ _)).2⟩
                      · have HV := Lib.hid (HF.out (by rw [HS.out]; simp [okp, g4]))
                        have g4' : x.value < p.value := by omega
                        go_wp2_with (first | (go_at_call 65; refine (ins.spec_any _ _ _ _).mono ?_; rintro e w' ⟨rfl, rfl⟩))
                        go_ret
                        exact ⟨ret_bool HV.out.symm, (HBW.out _ (HN2.out _ _)).2⟩
                  · have HV := Lib.hid (HF.out (by rw [HS.out, oke_3 g3]; rfl))
                    have q4 : cnt < x.most := by omega
                    clear hrd
                    have _q := q3
                    have g7 : inB x.most 1 cnt = false := inB_false (by omega)
                    go_wp2_with (first | (go_at_call 65; refine (ins.spec_any _ _ _ _).mono ?_; rintro e w' ⟨rfl, rfl⟩))
                    go_ret
                    exact ⟨ret_bool HV.out.symm, (HBW.out _ ((HN.out _))).2⟩
                · have HV := Lib.hid (HF.out (by rw [HS.out, oke_2 (by simpa using g2)]; rfl))
                  have g2' : inB x.least 1 x.most = false := by simpa using g2
                  clear g2 hrd
                  have _q := q3
                  by_cases g7 : inB x.most 1 cnt = true
                  rotate_left
                  have g7x : inB x.most 1 cnt = false := by simpa using g7
                  clear g7
                  rotate_left
                  all_goals go_wp2_with (first | (go_at_call 65; refine (ins.spec_any _ _ _ _).mono ?_; rintro e w' ⟨rfl, rfl⟩))
                  all_goals go_ret
                  all_goals exact ⟨ret_bool HV.out.symm, (HBW.out _ ((HN.out _))).2⟩
              · have HV := Lib.hid (HF.out (by rw [HS.out, oke_1 (by simpa using g1)]; rfl))
                have g1' : inB x.value (-100000) 100000 = false := by simpa using g1
                clear g1 hrd
                have _q := q3
                go_wp2_with (first | (go_at_call 65; refine (ins.spec_any _ _ _ _).mono ?_; rintro e w' ⟨rfl, rfl⟩))
                go_ret
                exact ⟨ret_bool HV.out.symm, (HBW.out _ ((HN.out _))).2⟩
            · obtain rfl : k = l.length := by omega
              have HV := Lib.hid (vsmy_end HH.out hok)
              obtain ⟨b, off, rfl, d0, d1, d2⟩ := (hr.below hb).rkv (k := 0) h5
              obtain ⟨d3, d4, d5⟩ := (hr.below hb).rkv_at (k := l.length - 1) (by omega)
              have HE := Lib.hid (show ends cnt l = (decide (l[0].most = 1) && decide ((l[l.length - 1]'(by omega)).least = cnt)) by rw [ends, getD_r l h5, getD_r l (by omega), decide_eq_false (show ¬ l.length = 0 by omega), Bool.false_or])
              clear hok hB hkf hk hlt d0 d1 d3 d5
              have q5 : IntKind.i64.wrap ((l.length : Int) - 1) = (l.length : Int) - 1 := IntWalk.i64_in _ (by omega)
              have q6 : ((l.length : Int) - 1).toNat = l.length - 1 := by omega
              have q7 : (0 : Int) ≤ (l.length : Int) - 1 := by omega
              have q8 : (1 : Int) ≤ (l.length : Int) := by omega
              have q9 : (l.length : Int) - 1 < (l.length : Int) := by omega
              have q10 : (0 : Int) < (l.length : Int) := by omega
              generalize l[0].most = m0 at d2 HE
              generalize (l[l.length - 1]'(by omega)).least = m1 at d4 HE
              simp only [Nat.zero_mul, Nat.add_zero] at d2
              by_cases g1 : m0 = 1
              · subst g1
                by_cases g2 : m1 = cnt
                · subst g2
                  have HD := Lib.hid (show vsmy m1 l = true by rw [HV.out, HE.out]; simp)
                  go_wp2
                  go_quiet (fail)
                  go_wp2
                  go_ret
                  exact ⟨ret_bool HD.out.symm, below_drewN hb _⟩
                · have q4 : (m1 == cnt) = false := by simpa using g2
                  have HD := Lib.hid (show vsmy cnt l = false by rw [HV.out, HE.out]; simp [g2])
                  clear g2
                  go_wp2
                  go_quiet (fail)
                  go_wp2
                  go_ret
                  exact ⟨ret_bool HD.out.symm, below_drewN hb _⟩
              · have q4 : (m0 == 1) = false := by simpa using g1
                have HD := Lib.hid (show vsmy cnt l = false by rw [HV.out, HE.out]; simp [g1])
                clear g1
                go_wp2
                go_quiet (fail)
                go_wp2
                go_ret
                exact ⟨ret_bool HD.out.symm, below_drewN hb _⟩
    · have HV := Lib.hid (vsmy_hd (show hd cnt l.length = false by simp [hd, h2]))
      have q1 : (64 : Int) < (l.length : Int) := by omega
      go_enter Try.func61, Try.ntmps61
      go_wp2_with (first | (go_at_call 65; refine (ins.spec_any _ _ _ _).mono ?_; rintro e w' ⟨rfl, rfl⟩))
      go_ret
      exact ⟨ret_bool HV.out.symm, HBX.out _⟩
  · have h1' : inB cnt 0 1000 = false := by simpa using h1
    have HV := Lib.hid (vsmy_hd (show hd cnt l.length = false by simp [hd, h1']))
    clear h1
    go_enter Try.func61, Try.ntmps61
    go_wp2_with (first | (go_at_call 65; refine (ins.spec_any _ _ _ _).mono ?_; rintro e w' ⟨rfl, rfl⟩))
    go_ret
    exact ⟨ret_bool HV.out.symm, HBX.out _⟩

theorem spec_any {cnt : Int} (A : Option Addr) (c : Nat) (l : List Rkv) (w : World) (hn : l.length ≤ 1048576) (hr : Rd w 3 A l.length (rkvs l)) :
    Calls Try.prog 26 #[.agg #[.int .i64 cnt, .slice A l.length c]] w fun e w' => e = .returned (.bool (vsmy cnt l)) ∧ Below w.heap.size w w' := by
  have HB := Lib.hid (fun (o : Obj) => (Below.refl w.heap.size w).alloc (Nat.le_refl _) o)
  have HG := Lib.hid (fun o => good_any (cnt := cnt) A c l (w.alloc o) hn (hr.alloc o))
  clear hr
  go_enter Try.func26, Try.ntmps26
  go_wp2_with fail
  refine (HG.out _).mono ?_
  rintro e w1 ⟨rfl, hb⟩
  have hb2 := below_at (HB.out _) (by simp) hb
  go_wp2
  go_ret
  exact ⟨rfl, hb2⟩
end Go.Proofs.Ytlckeefjhafloaa.smy
