/- One element passes the counters: the reference's l21Count. Condition: at most 2^20 counters, each at most 2^20. -/
import Derived.Test.YtgngoedooemboaaFrqMore
import Derived.Test.YtgngoedooemboaaMemAt
import Derived.Test.YtgngoedooemboaaCut
import Derived.Deep.LoopGhost
set_option linter.unusedVariables false
set_option linter.unusedSimpArgs false
namespace Go.Proofs.Ytgngoedooemboaa.frq
open Go.RowKit Go.Proofs.Ytgngoedooemboaa.mem

/-- two rows of the call's own that hold the keys and the counts -/
structure Two (w : World) (base : Nat) (v u : Value) (L : Ctr) : Prop where
  ks : w.ownsRow base 3 1 v L.length (ints (keys L))
  cs : w.ownsRow base 3 1 u L.length (ints (vals L))
  ap : v.ownBlock = none ∨ v.ownBlock ≠ u.ownBlock
theorem Two.lows {w : World} {base : Nat} {v u : Value} {L : Ctr} (h : Two w base v u L) {base' : Nat} (hb : base' ≤ base) : Two w base' v u L := ⟨own_base h.ks hb, own_base h.cs hb, h.ap⟩
theorem Two.below {w w' : World} {base : Nat} {v u : Value} {L : Ctr} (h : Two w base v u L) (hb : Below w.heap.size w w') : Two w' base v u L := ⟨own_below h.ks hb, own_below h.cs hb, h.ap⟩
theorem keys_i {L : Ctr} {k : Nat} (h : k < L.length) : (ints (keys L))[k]? = some (.int .i64 L[k].1) := by simp [ints, keys, h]
theorem vals_i {L : Ctr} {k : Nat} (h : k < L.length) : (ints (vals L))[k]? = some (.int .i64 L[k].2) := by simp [ints, vals, h]
theorem far_two {v : Value} {g m n c : Nat} (h : v.ownBlock = none ∨ v.ownBlock ≠ (Value.slice (some ⟨g, 0, none⟩) n c).ownBlock) : v.ownBlock ≠ some (⟨g, m, none⟩ : Addr).block := by
  rcases h with h | h
  · rw [h]; simp
  · exact h
set_option maxRecDepth 100000 in
set_option maxHeartbeats 4000000 in
theorem count_any (v u : Value) (L : Ctr) (x : Int) (m : Nat) (w : World) (base : Nat) (hB : base ≤ w.heap.size) (hn : L.length ≤ 1048576) (hm : m ≤ 1048576) (hO : Ok L) (hle : Le L 1048576) (h : Two w base v u L) :
    Calls Try.prog 88 #[v, u, .int .i64 x, .int .i64 (m : Int)] w fun e w' => ∃ v' u', e = .returned (.tuple #[v', u']) ∧ Two w' base v' u' (step m L x) ∧ Below base w w' := by
  obtain ⟨hks, hcs, hap⟩ := h
  obtain ⟨A1, c1, rfl, hc1, hc1m, hr1⟩ := own_form hks
  obtain ⟨A2, c2, rfl, hc2, hc2m, hr2⟩ := own_form hcs
  have HH := Lib.hid (And.intro hks (And.intro hcs hap))
  have HO := Lib.hid hO
  have HLE := Lib.hid hle
  have HB := Lib.hid (Below.refl base w)
  clear hO hle hks hcs hap
  go_enter Try.func88, Try.ntmps88
  go_wp2
  go_loop [10] (fun i => ∃ k : Nat, k ≤ L.length ∧ i = .int .i64 k ∧ ∀ j (hj : j < L.length), j < k → L[j].1 ≠ x) (fun i => L.length - (intOf i).toNat)
  case atStart => exact ⟨0, by omega, rfl, fun j _ h => by omega⟩
  case round =>
    obtain ⟨k, hk, rfl, hj⟩ := hrel
    have HJ := Lib.hid hj
    clear hj
    by_cases hlt : k < L.length
    · obtain ⟨g1, rfl, hg1a, hg1b⟩ := own_addr HH.out.1 (by omega)
      obtain ⟨g2, rfl, hg2a, hg2b⟩ := own_addr HH.out.2.1 (by omega)
      have hx1 := own_cell HH.out.1 (keys_i hlt)
      have q1 : (k : Int) < (L.length : Int) := by omega
      by_cases he : L[k].1 = x
      · have HS := Lib.hid (show step m L x = bump L x from by rw [step, if_pos (by rw [← he]; exact mem_at hlt)])
        have hx2 := own_cell HH.out.2.1 (vals_i hlt)
        have hfz := own_thaw HH.out.2.1 k
        have hp1 := HO.out.pos _ (List.getElem_mem hlt)
        have hp2 := HLE.out _ (List.getElem_mem hlt)
        have hput := own_put HH.out.2.1 (i := k) (by rw [len_ints, vals_len]; exact hlt) (.int .i64 (L[k].2 + 1))
        rw [mem.ints_set, ← vals_bump HO.out.nd hlt, he] at hput
        have hof := own_far HH.out.1 (p := ⟨g2, k, none⟩) (far_two HH.out.2.2) (.int .i64 (L[k].2 + 1))
        have hb1 := HB.out.setCell (p := ⟨g2, k, none⟩) hg2a (.int .i64 (L[k].2 + 1))
        have HALL := Lib.hid (And.intro hof (And.intro hput hb1))
        have HLN := Lib.hid (show (bump L x).length = L.length from List.length_map _)
        have HKB := Lib.hid (keys_bump L x)
        rw [he] at hx1
        generalize L[k].2 = c at hx2 hp1 hp2 HALL
        clear hput hof hb1 he
        go_wp2
        go_ret2
        exact ⟨_, _, rfl, ⟨by rw [HS.out, HLN.out, HKB.out]; exact HALL.out.1, by rw [HS.out, HLN.out]; exact HALL.out.2.1, HH.out.2.2⟩, HALL.out.2.2⟩
      · have HN := Lib.hid (show ∀ j (hj : j < L.length), j < k + 1 → L[j].1 ≠ x from fun j hj h => by
          rcases Nat.lt_or_ge j k with h1 | h1
          · exact HJ.out j hj h1
          · obtain rfl : j = k := by omega
            exact he)
        generalize L[k].1 = y at hx1 he
        go_wp2
        go_round
        case rel => exact ⟨k + 1, by omega, by go_num, HN.out⟩
        case measure => simp [intOf]; omega
    · have HN := Lib.hid (show x ∉ keys L from not_mem_of fun j hj => HJ.out j hj (by omega))
      have q1 : ¬ (k : Int) < (L.length : Int) := by omega
      by_cases hm2 : L.length < m
      · have HS := Lib.hid (show step m L x = L ++ [(x, 1)] by rw [step, if_neg HN.out, if_pos hm2])
        have q2 : (L.length : Int) < (m : Int) := by omega
        have ho1 := HH.out.1
        have ho2 := HH.out.2.1
        have hh : L.length ≤ 1099511627776 := by omega
        clear hr1 hr2
        go_wp2_with (first
          | ((at_builtin; refine mem.push_at _ rfl _ _ 29 rfl base 3 _ 1 8 Try.underlying29 mem.info_int rfl Nat.one_pos (.slice A1 L.length c1) _ _ rfl ho1 (ints [x]) _ rfl (mem.ints_one [x]) rfl hh (by decide) hB ?_; intro v' w' ho' hg' hnw'); have hoa := ho'; have hga := hg'; have hna := hnw'; have hbv := hga.size; have hob := ho2.kept hga (apt_symm HH.out.2.2); have hbz := Nat.le_trans hB hbv; clear ho' hg' hnw')
          | (at_builtin; refine mem.push_at _ rfl _ _ 29 rfl base 3 _ 1 8 Try.underlying29 mem.info_int rfl Nat.one_pos (.slice A2 L.length c2) _ _ rfl hob (ints [(1 : Int)]) _ rfl (mem.ints_one [(1 : Int)]) rfl hh (by decide) hbz ?_; intro v' w' ho' hg' hnw'))
        have ap1 := apt_new HH.out.2.2 hna (own_lt HH.out.2.1)
        have ap2 := apt_symm (apt_new (apt_symm ap1) hnw' (own_lt hoa))
        have hoc := hoa.kept hg' ap1
        have hb3 := below_push HB.out hB hga HH.out.1
        have hb4 := below_push hb3 hbz hg' hob
        go_wp2
        go_ret2
        exact ⟨_, _, rfl, ⟨by rw [HS.out, List.length_append, keys_app, ints_app]; exact hoc, by rw [HS.out, List.length_append, vals_app, ints_app]; exact ho', ap2⟩, hb4⟩
      · have HS := Lib.hid (show step m L x = dec L by rw [step, if_neg HN.out, if_neg hm2])
        have q2 : ¬ (L.length : Int) < (m : Int) := by omega
        have HT0 := Lib.hid (show Two ((w.alloc (.cells #[] 3)).alloc (.cells #[] 3)) w.heap.size (.slice (some ⟨w.heap.size, 0, none⟩) 0 0) (.slice (some ⟨w.heap.size + 1, 0, none⟩) 0 0) (dec (L.take 0)) from ⟨(World.ownsRow_made (e := 3) (size := 1) w #[] 0 (Nat.le_refl _) (Nat.zero_le _) (by simp)).alloc (.cells #[] 3), own_made2 w 3 1, Or.inr (by simp [Value.ownBlock])⟩)
        have HBX := Lib.hid ((box2 w 3 3 #[] #[]).2.2)
        go_wp2
        go_loopg [11, 12, 13] (L.length + 1) (fun f v u i wr => ∃ k : Nat, L.length < k + f ∧ k ≤ L.length ∧ i = .int .i64 (k : Int) ∧ Two wr w.heap.size v u (dec (L.take k)) ∧ Below w.heap.size w wr)
        case atStart => exact ⟨0, by omega, by omega, rfl, HT0.out, HBX.out⟩
        case round =>
          obtain ⟨k2, hkf, hk2, rfl, hT, hb⟩ := hrel
          have HD := Lib.hid hT
          have HBB := Lib.hid hb
          have hbw := hb.size
          by_cases hlt2 : k2 < L.length
          · have q3 : (k2 : Int) < (L.length : Int) := by omega
            obtain ⟨g1, rfl, hg1a, hg1b⟩ := own_addr HH.out.1 (by omega)
            obtain ⟨g2, rfl, hg2a, hg2b⟩ := own_addr HH.out.2.1 (by omega)
            have hx1 := (own_cell (own_below HH.out.1 hb) (keys_i hlt2))
            have hx2 := (own_cell (own_below HH.out.2.1 hb) (vals_i hlt2))
            have hp1 := HO.out.pos _ (List.getElem_mem hlt2)
            have hp2 := HLE.out _ (List.getElem_mem hlt2)
            have HDS := Lib.hid (dec_step L hlt2)
            have hdl := dec_len L k2
            obtain ⟨ho1, ho2, hap⟩ := hT
            generalize dec (L.take k2) = D at ho1 ho2 hdl HDS HD
            generalize L[k2].1 = y at hx1 HDS
            obtain ⟨c, hcd⟩ : ∃ c, c = L[k2].2 := ⟨_, rfl⟩
            rw [← hcd] at hx2 hp1 hp2 HDS
            have HC2 := Lib.hid hcd.symm
            clear hcd
            obtain ⟨A3, c3, rfl, hc3, hc3m, hr3⟩ := own_form ho1
            obtain ⟨A4, c4, rfl, hc4, hc4m, hr4⟩ := own_form ho2
            have hh : D.length ≤ 1099511627776 := by omega
            clear hr3 hr4 hap hb hr1 hr2
            by_cases hc : 1 < c
            · have HE := Lib.hid (show dec (L.take (k2 + 1)) = D ++ [(y, c - 1)] by rw [HDS.out, if_pos hc])
              go_wp2_with (first
                | ((at_builtin; refine mem.push_at _ rfl _ _ 29 rfl w.heap.size 3 _ 1 8 Try.underlying29 mem.info_int rfl Nat.one_pos (.slice A3 D.length c3) _ _ rfl ho1 (ints [y]) _ rfl (mem.ints_one [y]) rfl hh (by decide) hbw ?_; intro v' w' ho' hg' hnw'); have hoa := ho'; have hga := hg'; have hna := hnw'; have hbv := hga.size; have hob := ho2.kept hga (apt_symm HD.out.ap); have hbz := Nat.le_trans hbw hbv; have hb3 := below_push HBB.out hbw hga HD.out.ks; have hx3 := own_cell (own_below HH.out.2.1 hb3) (vals_i hlt2); rw [HC2.out] at hx3; clear ho' hg' hnw')
                | (at_builtin; refine mem.push_at _ rfl _ _ 29 rfl w.heap.size 3 _ 1 8 Try.underlying29 mem.info_int rfl Nat.one_pos (.slice A4 D.length c4) _ _ rfl hob (ints [c - 1]) _ rfl (mem.ints_one [c - 1]) rfl hh (by decide) hbz ?_; intro v' w' ho' hg' hnw'))
              have ap1 := apt_new HD.out.ap hna (own_lt HD.out.cs)
              have ap2 := apt_symm (apt_new (apt_symm ap1) hnw' (own_lt hoa))
              have hoc := hoa.kept hg' ap1
              have hb4 := below_push hb3 hbz hg' hob
              have HALL := Lib.hid (And.intro hoc (And.intro ho' (And.intro ap2 hb4)))
              clear hoc ho' ap2 hb4 hb3 ap1 hoa hob hga hna hnw' hg' hx3
              go_wp2
              go_roundg (gk - 1)
              case measure => omega
              case rel => exact ⟨k2 + 1, by omega, by omega, by go_num, by rw [HE.out]; exact ⟨by rw [List.length_append, keys_app, ints_app]; exact HALL.out.1, by rw [List.length_append, vals_app, ints_app]; exact HALL.out.2.1, HALL.out.2.2.1⟩, HALL.out.2.2.2⟩
            · have HE := Lib.hid (show dec (L.take (k2 + 1)) = D by rw [HDS.out, if_neg hc])
              clear ho1 ho2
              go_wp2
              go_roundg (gk - 1)
              case measure => omega
              case rel => exact ⟨k2 + 1, by omega, by omega, by go_num, by rw [HE.out]; exact HD.out, HBB.out⟩
          · obtain rfl : k2 = L.length := by omega
            rw [List.take_length] at hT
            have HALL := Lib.hid (And.intro (hT.lows hB) (HBB.out.mono hB))
            clear hT hb
            go_wp2
            go_ret2
            exact ⟨_, _, rfl, by rw [HS.out]; exact HALL.out.1, HALL.out.2⟩
end Go.Proofs.Ytgngoedooemboaa.frq
