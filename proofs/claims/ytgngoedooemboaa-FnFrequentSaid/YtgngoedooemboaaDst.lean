/- Distinct elements, the program's and the reference's. Condition: at most 2^20 elements. -/
import Derived.Test.YtgngoedooemboaaDistLaw
import Derived.Test.YtgngoedooemboaaSortI
import Derived.Test.YtgngoedooemboaaList
import Derived.Test.YtgngoedooemboaaMemAt
set_option linter.unusedVariables false
set_option linter.unusedSimpArgs false
namespace Go.Proofs.Ytgngoedooemboaa.distinct
open Go.RowKit Go.Proofs.Ytgngoedooemboaa.mem Go.Proofs.Ytgngoedooemboaa.srt Go.Proofs.Ytgngoedooemboaa.lists

theorem own_less {w : World} {base n c : Nat} {e : TypeId} {A : Option Addr} {xs : List Value} (h : w.ownsRow base e 1 (.slice A n c) n xs) {k : Nat} (hk : k ≤ n) : w.ownsRow base e 1 (.slice A k c) k (xs.take k) := by
  have hl := h.1
  rcases h.2 with ⟨hv, h0⟩ | ⟨g, cap, cur, hv, hb, hg, hnc, hcm, hcs, ht⟩
  · injection hv with h1 h2 h3
    subst h1; subst h3
    obtain rfl : k = 0 := by omega
    exact ⟨by simp, .inl ⟨rfl, rfl⟩⟩
  · injection hv with h1 h2 h3
    subst h1; subst h3
    refine ⟨by rw [List.length_take]; omega, .inr ⟨g, c, cur, rfl, hb, hg, by omega, hcm, hcs, ?_⟩⟩
    rw [← ht, List.take_take, Nat.mul_one, Nat.mul_one, Nat.min_eq_left hk]
theorem compact_len (zs : List Int) : (Lib.compact zs).length ≤ zs.length := by
  unfold Lib.compact Lib.compactUpTo
  rw [List.length_map]
  have := List.length_filter_le (Lib.keeps zs.toArray) (List.range zs.length)
  rw [List.length_range] at this; exact this
/-- slices.Compact on a row of the call's own -/
theorem compact_own (zs : List Int) (v : Value) (w : World) (base : Nat) (hn : zs.length ≤ 1048576) (ho : w.ownsRow base 3 1 v zs.length (ints zs)) :
    Calls Try.prog 83 #[v] w fun e w' => ∃ v', e = .returned v' ∧ w'.ownsRow base 3 1 v' (Lib.compact zs).length (ints (Lib.compact zs)) ∧ w.grownBy w' v.ownBlock := by
  rcases ho.2 with ⟨rfl, h0⟩ | ⟨g, cap, cur, rfl, hb, hg, h1, h2, h3, h4⟩
  · have : zs = [] := List.eq_nil_of_length_eq_zero h0
    subst this
    refine (Try.slices_Compact_int_empty none 0 w).mono ?_
    rintro e w' ⟨rfl, rfl⟩
    exact ⟨_, rfl, ho, World.grownBy.refl _ _⟩
  · have hH : Go.Sort.Holds (Value.int .i64) w g 0 zs.toArray := Go.holds_of_blockI hg (by rw [Nat.mul_one] at h4; first | exact h4 | exact h4.symm)
    refine (Try.slices_Compact_int g 0 cap zs w hH (by omega) h1).mono ?_
    rintro e w' ⟨rfl, q, rfl⟩
    have hl : (Lib.compact zs ++ List.replicate (zs.length - (Lib.compact zs).length) 0).length = zs.length := by
      have := compact_len zs; simp; omega
    have hs := Go.ownsRow_sortedI (os := #[]) (n := q) (ts := Lib.compact zs ++ List.replicate (zs.length - (Lib.compact zs).length) 0) hl hb hg h1 h2 h3
    rw [Go.Sort.grow_empty] at hs
    have hk := own_less hs (compact_len zs)
    have hcut : (((Lib.compact zs ++ List.replicate (zs.length - (Lib.compact zs).length) 0).map (Value.int .i64)).take (Lib.compact zs).length) = ints (Lib.compact zs) := by
      rw [List.map_append, List.take_append_of_le_length (by simp), List.take_of_length_le (by simp)]; rfl
    rw [hcut] at hk
    have hg2 := Go.grownBy_sortedI (w := w) (g := g) (n := q) (os := #[]) (Lib.compact zs ++ List.replicate (zs.length - (Lib.compact zs).length) 0).toArray
    rw [Go.Sort.grow_empty] at hg2
    exact ⟨_, rfl, hk, hg2⟩

def has (l : List Int) (x : Int) : Bool := l.contains x
set_option maxHeartbeats 400000 in
theorem has_any (A : Option Addr) (c : Nat) (zs : List Int) (x : Int) (w : World) (hn : zs.length ≤ 1048576) (hr : Rd w 1 A zs.length (ints zs)) :
    Calls Try.prog 92 #[.slice A zs.length c, .int .i64 x] w fun e w' => e = .returned (.bool (has zs x)) ∧ w = w' := by
  go_enter Try.func92, Try.ntmps92
  go_wp2
  go_loop [5] (fun i => ∃ k : Nat, k ≤ zs.length ∧ i = .int .i64 k ∧ x ∉ zs.take k) (fun i => zs.length - (intOf i).toNat)
  case atStart => exact ⟨0, by omega, rfl, by simp⟩
  case round =>
    obtain ⟨k, hk, rfl, hj⟩ := hrel
    have HJ := Lib.hid hj
    clear hj
    by_cases hlt : k < zs.length
    · obtain ⟨b, off, rfl, hc⟩ := hr.int hlt
      have HM := Lib.hid (List.getElem_mem hlt)
      have HT := Lib.hid (List.take_succ_eq_append_getElem hlt)
      generalize zs[k] = y at hc HM HT
      by_cases he : y = x
      · have HR := Lib.hid (show has zs x = true by rw [has, ← he]; simpa using HM.out)
        have q1 : (y == x) = true := by simpa using he
        clear he
        go_wp2
        go_ret
        exact ⟨ret_bool HR.out.symm, rfl⟩
      · have HR := Lib.hid (show x ∉ zs.take (k + 1) by
          rw [HT.out]; intro h
          rcases List.mem_append.1 h with h | h
          · exact HJ.out h
          · exact he (by simpa using h : x = y).symm)
        have q1 : (y == x) = false := by simpa using he
        clear he
        go_wp2
        go_round
        case rel => exact ⟨k + 1, by omega, by go_num, HR.out⟩
        case measure => simp [intOf]; omega
    · have HR := Lib.hid (show has zs x = false by
        have h := HJ.out
        rw [List.take_of_length_le (by omega)] at h
        rw [has]; simpa using h)
      go_wp2
      go_ret
      exact ⟨ret_bool HR.out.symm, rfl⟩
set_option maxHeartbeats 400000 in
theorem index_any (A : Option Addr) (c : Nat) (zs : List Int) (x : Int) (w : World) (hn : zs.length ≤ 1048576) (hr : Rd w 1 A zs.length (ints zs)) :
    Calls Try.prog 60 #[.slice A zs.length c, .int .i64 x] w fun e w' => e = .returned (.int .i64 (ix zs x)) ∧ w = w' := by
  go_enter Try.func60, Try.ntmps60
  go_wp2
  go_loop [8] (fun i => ∃ k : Nat, k ≤ zs.length ∧ i = .int .i64 k ∧ x ∉ zs.take k) (fun i => zs.length - (intOf i).toNat)
  case atStart => exact ⟨0, by omega, rfl, by simp⟩
  case round =>
    obtain ⟨k, hk, rfl, hj⟩ := hrel
    have HJ := Lib.hid hj
    clear hj
    by_cases hlt : k < zs.length
    · obtain ⟨b, off, rfl, hc⟩ := hr.int hlt
      have HT := Lib.hid (List.take_succ_eq_append_getElem hlt)
      have HI := Lib.hid (fun (h : zs[k] = x) => ix_first hlt h HJ.out)
      generalize zs[k] = y at hc HT HI
      by_cases he : y = x
      · have HR := Lib.hid (HI.out he)
        have q1 : (x == y) = true := by simpa using he.symm
        clear he
        go_wp2
        go_ret
        exact ⟨ret_int HR.out.symm, rfl⟩
      · have HR := Lib.hid (show x ∉ zs.take (k + 1) by
          rw [HT.out]; intro h
          rcases List.mem_append.1 h with h | h
          · exact HJ.out h
          · exact he (by simpa using h : x = y).symm)
        have q1 : (x == y) = false := by simpa using (fun h => he h.symm)
        clear he
        go_wp2
        go_round
        case rel => exact ⟨k + 1, by omega, by go_num, HR.out⟩
        case measure => simp [intOf]; omega
    · have HR := Lib.hid (show ix zs x = -1 from ix_none (by
        have h := HJ.out
        rwa [List.take_of_length_le (by omega)] at h))
      go_wp2
      go_ret
      exact ⟨ret_int HR.out.symm, rfl⟩
set_option maxHeartbeats 400000 in
theorem times_any (A : Option Addr) (c : Nat) (zs : List Int) (x : Int) (w : World) (hn : zs.length ≤ 1048576) (hr : Rd w 1 A zs.length (ints zs)) :
    Calls Try.prog 58 #[.slice A zs.length c, .int .i64 x] w fun e w' => e = .returned (.int .i64 ((zs.count x : Nat) : Int)) ∧ w = w' := by
  go_enter Try.func58, Try.ntmps58
  go_wp2
  go_loop [5, 6] (fun m i => ∃ k n : Nat, k ≤ zs.length ∧ i = .int .i64 k ∧ m = .int .i64 n ∧ n ≤ k ∧ n = (zs.take k).count x) (fun _ i => zs.length - (intOf i).toNat)
  case atStart => exact ⟨0, 0, by omega, rfl, rfl, by omega, by simp⟩
  case round =>
    obtain ⟨k, n, hk, rfl, rfl, hnk, hj⟩ := hrel
    have HJ := Lib.hid hj
    clear hj
    by_cases hlt : k < zs.length
    · obtain ⟨b, off, rfl, hc⟩ := hr.int hlt
      have HT := Lib.hid (show (zs.take (k + 1)).count x = (zs.take k).count x + (if zs[k] = x then 1 else 0) by
        rw [List.take_succ_eq_append_getElem hlt, List.count_append]; congr 1; simp [List.count_singleton])
      generalize zs[k] = y at hc HT
      by_cases he : y = x
      · have HR := Lib.hid (show n + 1 = (zs.take (k + 1)).count x by rw [HT.out, if_pos he, HJ.out])
        have q1 : (y == x) = true := by simpa using he
        clear he
        go_wp2
        go_round
        case rel => exact ⟨k + 1, n + 1, by omega, by go_num, by go_num, by omega, HR.out⟩
        case measure => simp [intOf]; omega
      · have HR := Lib.hid (show n = (zs.take (k + 1)).count x by rw [HT.out, if_neg he, HJ.out]; rfl)
        have q1 : (y == x) = false := by simpa using he
        clear he
        go_wp2
        go_round
        case rel => exact ⟨k + 1, n, by omega, by go_num, rfl, by omega, HR.out⟩
        case measure => simp [intOf]; omega
    · have HR := Lib.hid (show ((n : Nat) : Int) = ((zs.count x : Nat) : Int) by rw [HJ.out, List.take_of_length_le (by omega)])
      go_wp2
      go_ret
      exact ⟨ret_int HR.out, rfl⟩
set_option maxRecDepth 100000 in
set_option maxHeartbeats 2000000 in
theorem dist_any (A : Option Addr) (c : Nat) (zs : List Int) (w : World) (hn : zs.length ≤ 1048576) (hr : Rd w 1 A zs.length (ints zs)) :
    Calls Try.prog 57 #[.slice A zs.length c] w fun e w' => ∃ v, e = .returned v ∧ w'.ownsRow w.heap.size 3 1 v (dst zs).length (ints (dst zs)) ∧ Below w.heap.size w w' := by
  go_enter Try.func57, Try.ntmps57
  go_wp2
  go_loopg [3, 4] (zs.length + 1) (fun f v i wr => ∃ k : Nat, zs.length < k + f ∧ k ≤ zs.length ∧ i = .int .i64 (k : Int) ∧ wr.ownsRow w.heap.size 3 1 v (dst (zs.take k)).length (ints (dst (zs.take k))) ∧ Below w.heap.size w wr)
  case atStart => exact ⟨0, by omega, by omega, rfl, World.ownsRow_made w #[] 0 (Nat.le_refl _) (Nat.zero_le _) (by simp), (Below.refl _ _).alloc (Nat.le_refl _) _⟩
  case round =>
    obtain ⟨k, hkf, hk, rfl, ho, hb⟩ := hrel
    have hdl := dst_len zs k
    by_cases hlt : k < zs.length
    · have HT := Lib.hid (dst_take hlt)
      obtain ⟨b, off, rfl, hx⟩ := (hr.below hb).int hlt
      generalize zs[k] = x at HT hx
      generalize dst (zs.take k) = o at ho hdl HT
      obtain ⟨A1, c1, rfl, hc1, hc2, hr1⟩ := own_form ho
      have HH := Lib.hid (fun W h => has_any A1 c1 o x W (by omega) h)
      have hbw := hb.size
      have hh : o.length ≤ 1099511627776 := by omega
      have q1 : (k : Int) < (zs.length : Int) := by omega
      by_cases hin : has o x = true
      · have HE := Lib.hid (show dst (zs.take (k + 1)) = o by rw [HT.out, add]; exact if_pos hin)
        rw [hin] at HH
        clear hin
        go_wp2_with fail
        refine (HH.out _ hr1).mono ?_
        rintro e w1 ⟨rfl, rfl⟩
        go_wp2
        go_roundg (gk - 1)
        case measure => omega
        case rel => exact ⟨k + 1, by omega, by omega, by go_num, by rw [HE.out]; exact ho, hb⟩
      · have HE := Lib.hid (show dst (zs.take (k + 1)) = o ++ [x] by rw [HT.out, add]; exact if_neg hin)
        have hin' : has o x = false := by simpa using hin
        rw [hin'] at HH
        clear hin hin'
        go_wp2_with fail
        refine (HH.out _ hr1).mono ?_
        rintro e w1 ⟨rfl, rfl⟩
        go_wp2_with (at_builtin; refine mem.push _ rfl _ _ 29 rfl w.heap.size 3 _ 1 8 Try.underlying29 mem.info_int rfl Nat.one_pos _ _ _ rfl ho [.int .i64 (x)] _ rfl (mem.ints_one [x]) rfl hh (by decide) hbw ?_; intro v' w' ho' hg')
        have hbx := below_push hb hbw hg' ho
        go_roundg (gk - 1)
        case measure => omega
        case rel => exact ⟨k + 1, by omega, by omega, by go_num, by rw [HE.out, List.length_append, ints_app]; exact ho', hbx⟩
    · obtain rfl : k = zs.length := by omega
      rw [List.take_length] at ho
      go_wp2
      go_ret
      exact ⟨_, rfl, ho, hb⟩

/-! ### DistinctSorted -/
def resS (zs : List Int) : List Int := if vlist zs = true then dst (srt zs) else []
theorem resS_len (zs : List Int) : (dst (srt zs)).length ≤ zs.length := by
  have := dst_len (srt zs) zs.length
  rwa [List.take_of_length_le (by rw [srt_len]; omega)] at this
set_option maxHeartbeats 1000000 in
theorem implS_any (A : Option Addr) (c : Nat) (zs : List Int) (w : World) (hn : zs.length ≤ 1048576) (hr : Rd w 1 A zs.length (ints zs)) :
    Calls Try.prog 46 #[.slice A zs.length c] w fun e w' => ∃ v, e = .returned (.tuple #[v, .bool (vlist zs)]) ∧ OwnI w w' v (resS zs) ∧ Below w.heap.size w w' := by
  have HV := Lib.hid (lists.impl_any A c zs w hn hr)
  cases hv : vlist zs with
  | false =>
    have HR := Lib.hid (show resS zs = [] by simp [resS, hv])
    rw [hv] at HV
    clear hv
    go_enter Try.func46, Try.ntmps46
    go_wp2_with fail
    refine HV.out.mono ?_
    rintro e w1 ⟨rfl, hb1⟩
    go_wp2
    go_ret2
    exact ⟨_, rfl, ⟨by rw [HR.out]; exact World.ownsRow_nil _ _ _ _, by rw [HR.out]; simp⟩, hb1⟩
  | true =>
    have HR := Lib.hid (show resS zs = Lib.compact (srt zs) by simp [resS, hv, compact_srt])
    have HL := Lib.hid (show (Lib.compact (srt zs)).length ≤ 1048576 by rw [compact_srt]; exact Nat.le_trans (resS_len zs) hn)
    rw [hv] at HV
    clear hv
    go_enter Try.func46, Try.ntmps46
    go_wp2_with fail
    refine HV.out.mono ?_
    rintro e w1 ⟨rfl, hb1⟩
    go_wp2_with fail
    refine (srt.impl_any A c zs w1 hn (hr.below hb1)).mono ?_
    rintro e w2 ⟨v2, rfl, ho2, hb2⟩
    have ho3 : w2.ownsRow w1.heap.size 3 1 v2 (srt zs).length (ints (srt zs)) := by rw [srt_len]; exact ho2
    have HC := Lib.hid (compact_own (srt zs) v2 w2 w1.heap.size (by rw [srt_len]; exact hn) ho3)
    go_wp2_with fail
    refine HC.out.mono ?_
    rintro e w3 ⟨v3, rfl, ho4, hg⟩
    have hb3 := below_push hb2 hb2.size hg ho3
    have hb4 := below_step hb1 hb3
    go_wp2
    go_ret2
    exact ⟨_, rfl, ⟨by rw [HR.out]; exact own_base ho4 hb1.size, by rw [HR.out]; exact HL.out⟩, hb4⟩
set_option maxHeartbeats 1000000 in
theorem specS_any (A : Option Addr) (c : Nat) (zs : List Int) (w : World) (hn : zs.length ≤ 1048576) (hr : Rd w 1 A zs.length (ints zs)) :
    Calls Try.prog 45 #[.slice A zs.length c] w fun e w' => ∃ v, e = .returned (.tuple #[v, .bool (vlist zs)]) ∧ OwnI w w' v (resS zs) ∧ Below w.heap.size w w' := by
  have HV := Lib.hid (lists.spec_any A c zs w hn hr)
  cases hv : vlist zs with
  | false =>
    have HR := Lib.hid (show resS zs = [] by simp [resS, hv])
    rw [hv] at HV
    clear hv
    have hm0 := World.ownsRow_made (e := 3) (size := 1) w #[] 0 (Nat.le_refl _) (Nat.zero_le _) (by simp)
    go_enter Try.func45, Try.ntmps45
    go_wp2_with fail
    refine HV.out.mono ?_
    rintro e w1 ⟨rfl, rfl⟩
    go_wp2
    go_ret2
    exact ⟨_, rfl, ⟨by rw [HR.out]; exact hm0, by rw [HR.out]; simp⟩, (Below.refl _ _).alloc (Nat.le_refl _) _⟩
  | true =>
    have HR := Lib.hid (show resS zs = dst (srt zs) by simp [resS, hv])
    have HL := Lib.hid (Nat.le_trans (resS_len zs) hn)
    rw [hv] at HV
    clear hv
    go_enter Try.func45, Try.ntmps45
    go_wp2_with fail
    refine HV.out.mono ?_
    rintro e w1 ⟨rfl, rfl⟩
    go_wp2_with fail
    refine (srt.spec_any A c zs w hn hr).mono ?_
    rintro e w2 ⟨v2, rfl, ho2, hb2⟩
    obtain ⟨A2, c2, rfl, _, _, hr2⟩ := own_form ho2
    have hr3 : Rd w2 1 A2 (srt zs).length (ints (srt zs)) := by rw [srt_len]; exact hr2
    have hD := dist_any A2 c2 (srt zs) w2 (by rw [srt_len]; exact hn) hr3
    rw [srt_len] at hD
    have HD := Lib.hid hD
    clear hD
    go_wp2_with fail
    refine HD.out.mono ?_
    rintro e w3 ⟨v3, rfl, ho4, hb3⟩
    have hb4 := below_step hb2 hb3
    go_wp2
    go_ret2
    exact ⟨_, rfl, ⟨by rw [HR.out]; exact own_base ho4 hb2.size, by rw [HR.out]; exact HL.out⟩, hb4⟩
end Go.Proofs.Ytgngoedooemboaa.distinct
