/- The laws' marks of a list of strings. Condition: marks of at most 2^40. -/
import Derived.Test.YtaeimdcmpjanbaaDoorLawStr
import Derived.Test.YtaeimdcmpjanbaaDoorMarkText
import Derived.Lib.QuietBelow
set_option linter.unusedVariables false
set_option linter.unusedSimpArgs false
namespace Go.Proofs.YtaeimdcmpjanbaaDoor.lawStr
open Go.RowKit Go.Proofs.YtaeimdcmpjanbaaDoor.mem Go.Proofs.YtaeimdcmpjanbaaDoor.markText

theorem only_below {a w w' : World} {g : Nat} (h : a.grownBy w (some g)) (hb : Below w.heap.size w w') : a.grownBy w' (some g) :=
  ⟨hb.os.trans h.os, hb.tape.trans h.tape, hb.output.trans h.output, Nat.le_trans h.size hb.size, fun k hk hne => (hb.block k (Nat.lt_of_lt_of_le hk h.size)).trans (h.block k hk hne)⟩
/-- the marks k, k+1, .. as texts -/
def miota (k : Int) (n : Nat) : List ByteArray := (List.range n).map fun (i : Nat) => mtext (k.toNat + i)
theorem len_miota (k : Int) (n : Nat) : (miota k n).length = n := by simp [miota]
theorem miota_at (k : Int) (n j : Nat) (h : j < n) : (strs (miota k n))[j]? = some (.string (mtext (k.toNat + j))) := by simp [strs, miota, h]
def mmarked (cur : Array Value) (k : Int) (j : Nat) : Array Value := (strs (miota k j) ++ cur.toList.drop j).toArray
theorem mmarked_zero (cur : Array Value) (k : Int) : mmarked cur k 0 = cur := by simp [mmarked, miota, strs]
theorem mmarked_size (cur : Array Value) (k : Int) (j : Nat) (h : j ≤ cur.size) : (mmarked cur k j).size = cur.size := by
  simp [mmarked, len_strs, len_miota]; omega
theorem mmarked_at (cur : Array Value) (k : Int) (j : Nat) (h : j < cur.size) : (mmarked cur k j)[j]? = cur[j]? := by
  simp only [mmarked, List.getElem?_toArray]
  rw [List.getElem?_append_right (by rw [len_strs, len_miota]; omega), len_strs, len_miota]
  simp
theorem mmarked_step (cur : Array Value) (k : Int) (j : Nat) (h : j < cur.size) : (mmarked cur k j).setIfInBounds j (.string (mtext (k.toNat + j))) = mmarked cur k (j + 1) := by
  have hl : j < cur.toList.length := by simpa using h
  simp only [mmarked, List.setIfInBounds_toArray]
  rw [List.set_append_right _ _ (by rw [len_strs, len_miota]; omega), len_strs, len_miota, Nat.sub_self, List.drop_eq_getElem_cons hl, List.set_cons_zero]
  congr 1
  have e : strs (miota k (j + 1)) = strs (miota k j) ++ [.string (mtext (k.toNat + j))] := by simp [strs, miota, List.range_succ]
  rw [e, List.append_assoc]
  rfl
theorem mmarked_take (cur : Array Value) (k : Int) (n : Nat) : (mmarked cur k n).toList.take n = strs (miota k n) := by
  simp only [mmarked]
  rw [List.take_append_of_le_length (by rw [len_strs, len_miota]; omega), List.take_of_length_le (by rw [len_strs, len_miota]; omega)]

set_option maxHeartbeats 1000000 in
theorem mark_any (B : Nat) (A : Option Addr) (n c : Nat) (xs : List Value) (k : Int) (w : World) (hk : 1 ≤ k) (hk2 : k + n ≤ 1099511627776)
    (ho : w.ownsRow B 9 1 (.slice A n c) n xs) :
    Calls Tryd.prog 13 #[.slice A n c, .int .i64 k] w fun e w' => e = .returned (.int .i64 (k + n)) ∧ w'.ownsRow B 9 1 (.slice A n c) n (strs (miota k n)) ∧ w.grownBy w' (Value.slice A n c).ownBlock := by
  rcases ho.2 with ⟨hv, rfl⟩ | ⟨g, cap, cur, hv, hb, hg, hnc, hcm, hcs, htake⟩
  · injection hv with hA _ hc
    subst hA; subst hc
    go_enter Tryd.func13, Tryd.ntmps13
    go_wp2
    refine wp_loop_rounds 1 ?_
    rw [rounds_succ]
    go_wp2
    go_ret
    exact ⟨ret_int (by simp), World.ownsRow_nil _ _ _ _, World.grownBy.refl _ _⟩
  · injection hv with hA _ hc
    subst hA; subst hc
    have hgB : Blk w g 9 cur := hg
    have HCS := Lib.hid hcs
    have HT := Lib.hid htake
    have hsz : c ≤ cur.size ∧ cur.size ≤ c := by omega
    clear hcs htake hg ho
    go_enter Tryd.func13, Tryd.ntmps13
    go_wp2
    go_loopw [1, 5] (fun x i wr => ∃ j : Nat, j ≤ n ∧ i = .int .i64 j ∧ x = .int .i64 (k + j) ∧ Blk wr g 9 (mmarked cur k j) ∧ w.grownBy wr (some g)) (fun _ i _ => n - (intOf i).toNat)
    case atStart => exact ⟨0, by omega, rfl, by go_num, by rw [mmarked_zero]; exact hgB, World.grownBy.refl _ _⟩
    case round =>
      obtain ⟨j, hj, rfl, rfl, hB, hgr⟩ := hrel
      by_cases hlt : j < n
      · have hl : j < cur.size := by omega
        obtain ⟨u, hu⟩ : ∃ u, cur[j]? = some u := ⟨cur[j], Array.getElem?_eq_getElem hl⟩
        have HK := Lib.hid (show k + (j : Int) = ((k.toNat + j : Nat) : Int) by omega)
        go_wp2_with fail
        rw [HK.out]
        refine (text_any (k.toNat + j) wr (by omega) (by omega)).mono ?_
        rintro e w2 ⟨rfl, _, hb2⟩
        rw [← HK.out]
        have hB1 := hB.below hb2 hB.lt
        have hgr1 := only_below hgr hb2
        have hc : w2.cell? ⟨g, j, none⟩ = some u := by rw [hB1.cell, mmarked_at _ _ _ hl, hu]
        have hf := hB1.thaw j
        have hB2 : Blk (w2.setCell ⟨g, j, none⟩ (.string (mtext (k.toNat + j)))) g 9 (mmarked cur k (j + 1)) := by
          rw [← mmarked_step cur k j hl]; exact hB1.put _ _
        have hgr2 := only_put hgr1 j (.string (mtext (k.toNat + j)))
        clear hB hB1 hu hgr hgr1 hb2
        generalize mtext (k.toNat + j) = s at hB2 hgr2 ⊢
        go_wp2
        go_roundw
        case rel => exact ⟨j + 1, by omega, by go_num, by go_num, hB2, hgr2⟩
        case measure => simp [intOf]; omega
      · have e : j = n := by omega
        have HE := Lib.hid (show k + (j : Int) = k + n by rw [e])
        have hO : wr.ownsRow B 9 1 (.slice (some ⟨g, 0, none⟩) n c) n (strs (miota k n)) := by
          subst e
          have h := hB.own (base := B) (size := 1) (n := j) (c := c) hb hnc hcm (by rw [mmarked_size _ _ _ (by omega), HCS.out])
          rwa [Nat.mul_one, mmarked_take] at h
        clear hB e
        go_wp2
        go_ret
        exact ⟨ret_int HE.out, hO, hgr⟩

set_option maxHeartbeats 1000000 in
theorem held_any (A : Option Addr) (n c : Nat) (k : Int) (w : World) (hk : 1 ≤ k) (hk2 : k + n ≤ 1099511627776)
    (hr : Rd w 1 A n (strs (miota k n))) :
    Calls Tryd.prog 14 #[.slice A n c, .int .i64 k] w fun e w' => e = .returned (.int .i64 (k + n)) ∧ Below w.heap.size w w' := by
  go_enter Tryd.func14, Tryd.ntmps14
  go_wp2
  go_loopw [1, 5] (fun x i wr => ∃ j : Nat, j ≤ n ∧ i = .int .i64 j ∧ x = .int .i64 (k + j) ∧ Below w.heap.size w wr) (fun _ i _ => n - (intOf i).toNat)
  case atStart => exact ⟨0, by omega, rfl, by go_num, Below.refl _ _⟩
  case round =>
    obtain ⟨j, hj, rfl, rfl, hb⟩ := hrel
    by_cases hlt : j < n
    · obtain ⟨b, off, rfl, hcells⟩ := (hr.below hb).cells (by omega)
      have hc := hcells j _ (miota_at k n j hlt)
      have hcr := fun d os => cell_regrown hc d os
      have HT := Lib.hid (fun W => (text_any (k.toNat + j) W (by omega) (by omega)).mono fun e w' ⟨h1, _, h2⟩ => And.intro h1 h2)
      rw [show ((k.toNat + j : Nat) : Int) = k + (j : Int) by omega] at HT
      have q1 : (j : Int) < (n : Int) := by omega
      generalize mtext (k.toNat + j) = s at hc hcr HT
      clear hcells hc
      go_wp2_with fail
      (refine wp_region_quiet_below (by kernel_rfl) (by kernel_rfl) ?_; (repeat (quiet_step (exact Calls.regrown_of (HT.out _)))); refine wpQuiet_nil ?_; intro _ hw'; obtain ⟨⟨dq, osq⟩, hw''⟩ := hw'; subst hw'')
      have hb2 := below_at hb hb.size (below_regrown wr dq osq)
      go_wp2
      go_roundw
      case rel => exact ⟨j + 1, by omega, by go_num, by go_num, hb2⟩
      case measure => simp [intOf]; omega
    · have HE := Lib.hid (show k + (j : Int) = k + n by have e : j = n := by omega
                                                        rw [e])
      go_wp2
      go_ret
      exact ⟨ret_int HE.out, hb⟩
end Go.Proofs.YtaeimdcmpjanbaaDoor.lawStr
