/- The perfect distributions, the program's and the reference's. Condition: 3 to 8 tapes, a level of at most 15. -/
import Derived.Test.YtgffabjajbgbjaaSum
import Derived.Deep.RegionLaw
set_option linter.unusedVariables false
set_option linter.unusedSimpArgs false
namespace Go.Proofs.Ytgffabjajbgbjaa.dists
open Go.RowKit Go.Proofs.Ytgffabjajbgbjaa.mem Go.Proofs.Ytgffabjajbgbjaa.sums

/-! ### the plain law -/
def nextL (l : List Int) : List Int := (l.drop 1).map (fun x => l.headD 0 + x) ++ [l.headD 0]
/-- the perfect distribution over u input tapes -/
def dist (u : Nat) : Nat → List Int
  | 0 => 1 :: List.replicate (u - 1) 0
  | l + 1 => nextL (dist u l)
theorem dist_len {u : Nat} (hu : 2 ≤ u) : ∀ l, (dist u l).length = u
  | 0 => by simp [dist]; omega
  | l + 1 => by simp [dist, nextL, dist_len hu l]; omega
theorem dist_bd {u : Nat} (hu : 2 ≤ u) : ∀ l, ∀ z ∈ dist u l, 0 ≤ z ∧ z ≤ (2 : Int) ^ l
  | 0 => by
    intro z hz
    rcases List.mem_cons.1 hz with rfl | h
    · simp
    · obtain ⟨_, rfl⟩ := List.mem_replicate.1 h; simp
  | l + 1 => by
    have ih := dist_bd hu l
    have hh : 0 ≤ (dist u l).headD 0 ∧ (dist u l).headD 0 ≤ (2 : Int) ^ l := by
      cases h : dist u l with
      | nil => have := dist_len hu l; rw [h] at this; simp at this; omega
      | cons a r => simpa using ih a (by rw [h]; simp)
    have e : (2 : Int) ^ (l + 1) = 2 ^ l + 2 ^ l := by rw [Int.pow_succ]; omega
    intro z hz
    simp only [dist, nextL, List.mem_append, List.mem_map, List.mem_singleton] at hz
    rw [e]
    rcases hz with ⟨x, hx, rfl⟩ | rfl
    · have := ih x (List.mem_of_mem_drop hx); omega
    · omega
theorem dist_small {u l : Nat} (hu : 2 ≤ u) (hl : l ≤ 15) : Small (dist u l) := by
  intro z hz
  have h := dist_bd hu l z hz
  have h2 : (2 : Int) ^ l ≤ 2 ^ 15 := by
    have : (2 : Nat) ^ l ≤ 2 ^ 15 := Nat.pow_le_pow_right (by omega) hl
    exact_mod_cast this
  omega

theorem info : (Try.prog.info? 3).map (fun i => (i.zero, i.size, i.bytes)) = some (some (.int .i64 0), 1, 8) := by kernel_rfl
/-- what has been gathered of the next distribution: the first j sums -/
def part (l : List Int) (j : Nat) : List Int := ((l.drop 1).take j).map (fun x => l.headD 0 + x)
theorem part_step {l : List Int} {j : Nat} (h : j + 1 < l.length) : part l (j + 1) = part l j ++ [l[0] + l[j + 1]] := by
  have h2 : j < (l.drop 1).length := by rw [List.length_drop]; omega
  unfold part
  rw [List.take_add_one, List.getElem?_eq_getElem h2, List.map_append]
  congr 1
  cases l with
  | nil => simp at h
  | cons a r => simp
theorem part_all {l : List Int} (h : 0 < l.length) : part l (l.length - 1) ++ [l[0]] = nextL l := by
  unfold part nextL
  rw [List.take_of_length_le (by rw [List.length_drop]; omega)]
  congr 1
  cases l with
  | nil => simp at h
  | cons a r => simp
theorem len_part {l : List Int} {j : Nat} (h : j + 1 ≤ l.length) : (part l j).length = j := by
  unfold part; rw [List.length_map, List.length_take, List.length_drop]; omega
theorem two_pow {k : Nat} (h : k ≤ 15) : (2 : Int) ^ k ≤ 32768 := by
  have h2 : (2 : Nat) ^ k ≤ 2 ^ 15 := Nat.pow_le_pow_right (by omega) h
  have h3 : (2 : Nat) ^ 15 = 32768 := by decide
  have h4 : ((2 ^ k : Nat) : Int) = (2 : Int) ^ k := by simp
  rw [h3] at h2
  rw [← h4]
  generalize 2 ^ k = p at h2
  omega

set_option maxRecDepth 100000 in
set_option maxHeartbeats 1000000 in
theorem impl_any (u l : Nat) (w : World) (hu : 2 ≤ u) (hu2 : u ≤ 7) (hl : l ≤ 15) :
    Calls Try.prog 54 #[.int .i64 ((u : Int) + 1), .int .i64 (l : Int)] w fun e w' => ∃ v, e = .returned v ∧ w'.ownsRow w.heap.size 3 1 v u (ints (dist u l)) ∧ Below w.heap.size w w' := by
  have hmk := make_rep (P := Try.prog) 22 3 _ _ Try.underlying22 info rfl u (by omega) (by unfold maxLen; omega)
  have h0 : (rep u (.int .i64 0))[0]? = some (.int .i64 0) := by simp only [rep, Array.getElem?_replicate]; rw [if_pos (by omega)]
  go_enter Try.func54, Try.ntmps54
  go_wp2
  go_loopw [5, 15] (fun v i wr => ∃ k : Nat, k ≤ l ∧ i = .int .i64 k ∧ wr.ownsRow w.heap.size 3 1 v u (ints (dist u k)) ∧ Below w.heap.size w wr) (fun _ i _ => l - (intOf i).toNat)
  case atStart =>
    refine ⟨0, by omega, rfl, ?_, (Below.refl _ _).alloc (Nat.le_refl _) _⟩
    have hs : ((rep u (.int .i64 0)).setIfInBounds 0 (.int .i64 1)).size = u * 1 := by simp [rep]
    have h := (Blk.new w 3 ((rep u (.int .i64 0)).setIfInBounds 0 (.int .i64 1))).own (base := w.heap.size) (size := 1) (n := u) (c := u) (Nat.le_refl _) (Nat.le_refl _) (by unfold maxLen; omega) hs
    rw [List.take_of_length_le (by simp [rep])] at h
    have e : ((rep u (.int .i64 0)).setIfInBounds 0 (.int .i64 1)).toList = ints (dist u 0) := by
      obtain ⟨q, rfl⟩ : ∃ q, u = q + 1 := ⟨u - 1, by omega⟩
      simp [rep, dist, ints, List.replicate_succ]
    rwa [e] at h
  case round =>
    obtain ⟨k, hk, rfl, ho, hb⟩ := hrel
    clear hmk h0
    by_cases hlt : k < l
    · obtain ⟨A, c, rfl, hc1, hc2, hr⟩ := own_form ho
      obtain ⟨b, off, rfl, hcells⟩ := hr.cells (by omega)
      have hlen := dist_len hu k
      have hbd := dist_bd hu k
      have hpow := two_pow (k := k) (by omega)
      obtain ⟨ds, hds⟩ : ∃ ds, ds = dist u k := ⟨_, rfl⟩
      have hnx : dist u (k + 1) = nextL ds := by rw [hds]; rfl
      have HN := Lib.hid hnx
      rw [← hds] at hlen hbd ho hr hcells
      clear hnx hds
      have hl1 : ds.length ≤ u := by omega
      have hl2 : u ≤ ds.length := by omega
      have HL := Lib.hid hlen
      clear hlen
      have hc0 : wr.cell? ⟨b, off, none⟩ = some (.int .i64 (ds[0]'(by omega))) := by
        have := hcells 0 (.int .i64 (ds[0]'(by omega))) (by rw [List.getElem?_eq_getElem (by rw [len_ints]; omega)]; simp [ints])
        simpa using this
      have hb0 := hbd (ds[0]'(by omega)) (List.getElem_mem _)
      obtain ⟨x0, hx0⟩ : ∃ x0, x0 = ds[0]'(by omega) := ⟨_, rfl⟩
      rw [← hx0] at hc0 hb0
      have HX0 := Lib.hid hx0
      have HC := Lib.hid hcells
      have HBD := Lib.hid hbd
      clear hx0 hcells hbd hr
      obtain ⟨wo, hwo⟩ : ∃ wo : World, wo = wr := ⟨_, rfl⟩
      subst hwo
      go_wp2
      go_loopw [6, 8, 21] (fun v x i wi => ∃ j : Nat, j + 1 ≤ u ∧ i = .int .i64 j ∧ wi.ownsRow wo.heap.size 3 1 v j (ints (part ds j)) ∧ Below wo.heap.size wo wi) (fun _ _ i _ => u - (intOf i).toNat)
      case atStart =>
        refine ⟨0, by omega, rfl, ?_, (Below.refl _ _).alloc (Nat.le_refl _) _⟩
        exact World.ownsRow_made wo #[] 0 (Nat.le_refl _) (Nat.zero_le _) (by simp)
      case round =>
        obtain ⟨j, hj, rfl, hoi, hbi⟩ := hrel
        by_cases hlj : j + 1 < u
        · have hcj : wr.cell? ⟨b, off + 1 + j, none⟩ = some (.int .i64 (ds[j + 1]'(by omega))) := by
            have h := HC.out (j + 1) (.int .i64 (ds[j + 1]'(by omega))) (by rw [List.getElem?_eq_getElem (by rw [len_ints]; omega)]; simp [ints])
            rw [Nat.add_assoc, Nat.add_comm 1 j, hbi.cell (World.block_lt_of_cell? _ _ h), h]
          have hc0i : wr.cell? ⟨b, off, none⟩ = some (.int .i64 x0) := by rw [hbi.cell (World.block_lt_of_cell? _ _ hc0), hc0]
          have hbj := HBD.out (ds[j + 1]'(by omega)) (List.getElem_mem _)
          have hjb : j ≤ 1099511627776 := by omega
          have hbw := hbi.size
          go_wp2_with (at_builtin; refine push _ rfl _ _ 22 rfl wo.heap.size 3 _ 1 8 Try.underlying22 info rfl (by omega) _ _ _ rfl hoi [.int .i64 (x0 + ds[j + 1])] _ rfl (by simp [Value.oneCell']) rfl hjb (by omega) hbw ?_; intro v' w' ho' hg')
          have hbx := below_push hbi hbw hg' hoi
          have HP := Lib.hid (show ints (part ds j) ++ [.int .i64 (x0 + ds[j + 1])] = ints (part ds (j + 1)) by
            rw [part_step (by omega), ints_app, ← HX0.out]; rfl)
          rw [HP.out] at ho'
          go_roundw
          case rel => exact ⟨j + 1, by omega, by go_num, ho', hbx⟩
          case measure => simp [intOf]; omega
        · have hc0i : wr.cell? ⟨b, off, none⟩ = some (.int .i64 x0) := by rw [hbi.cell (World.block_lt_of_cell? _ _ hc0), hc0]
          have hjb : j ≤ 1099511627776 := by omega
          have hbw := hbi.size
          go_wp2_with (at_builtin; refine push _ rfl _ _ 22 rfl wo.heap.size 3 _ 1 8 Try.underlying22 info rfl (by omega) _ _ _ rfl hoi [.int .i64 x0] _ rfl (by simp [Value.oneCell']) rfl hjb (by omega) hbw ?_; intro v' w' ho' hg')
          have hbx := below_at hb hb.size (below_push hbi hbw hg' hoi)
          have HJ := Lib.hid (show j + 1 = u by omega)
          have HP := Lib.hid (show ints (part ds j) ++ [.int .i64 x0] = ints (dist u (k + 1)) by
            have e : j = ds.length - 1 := by have := HL.out; omega
            rw [HN.out, ← part_all (by omega), ints_app, ← HX0.out, e]; rfl)
          rw [HP.out, HJ.out] at ho'
          have ho2 := own_base ho' hb.size
          go_roundw
          case rel => exact ⟨k + 1, by omega, by go_num, ho2, hbx⟩
          case measure => simp [intOf]; omega
    · have HK := Lib.hid (show k = l by omega)
      rw [HK.out] at ho
      go_wp2
      go_ret
      exact ⟨_, rfl, ho, hb⟩
set_option maxRecDepth 100000 in
set_option maxHeartbeats 1000000 in
theorem spec_any (u l : Nat) (w : World) (hu : 2 ≤ u) (hu2 : u ≤ 7) (hl : l ≤ 15) :
    Calls Try.prog 51 #[.int .i64 ((u : Int) + 1), .int .i64 (l : Int)] w fun e w' => ∃ v, e = .returned v ∧ w'.ownsRow w.heap.size 3 1 v u (ints (dist u l)) ∧ Below w.heap.size w w' := by
  have hmk := make_rep (P := Try.prog) 22 3 _ _ Try.underlying22 info rfl u (by omega) (by unfold maxLen; omega)
  have h0 : (rep u (.int .i64 0))[0]? = some (.int .i64 0) := by simp only [rep, Array.getElem?_replicate]; rw [if_pos (by omega)]
  go_enter Try.func51, Try.ntmps51
  go_wp2
  go_loopw [5, 6] (fun v i wr => ∃ k : Nat, k ≤ l ∧ i = .int .i64 k ∧ wr.ownsRow w.heap.size 3 1 v u (ints (dist u k)) ∧ Below w.heap.size w wr) (fun _ i _ => l - (intOf i).toNat)
  case atStart =>
    refine ⟨0, by omega, rfl, ?_, (Below.refl _ _).alloc (Nat.le_refl _) _⟩
    have hs : ((rep u (.int .i64 0)).setIfInBounds 0 (.int .i64 1)).size = u * 1 := by simp [rep]
    have h := (Blk.new w 3 ((rep u (.int .i64 0)).setIfInBounds 0 (.int .i64 1))).own (base := w.heap.size) (size := 1) (n := u) (c := u) (Nat.le_refl _) (Nat.le_refl _) (by unfold maxLen; omega) hs
    rw [List.take_of_length_le (by simp [rep])] at h
    have e : ((rep u (.int .i64 0)).setIfInBounds 0 (.int .i64 1)).toList = ints (dist u 0) := by
      obtain ⟨q, rfl⟩ : ∃ q, u = q + 1 := ⟨u - 1, by omega⟩
      simp [rep, dist, ints, List.replicate_succ]
    rwa [e] at h
  case round =>
    obtain ⟨k, hk, rfl, ho, hb⟩ := hrel
    clear hmk h0
    by_cases hlt : k < l
    · obtain ⟨A, c, rfl, hc1, hc2, hr⟩ := own_form ho
      obtain ⟨b, off, rfl, hcells⟩ := hr.cells (by omega)
      have hlen := dist_len hu k
      have hbd := dist_bd hu k
      have hpow := two_pow (k := k) (by omega)
      obtain ⟨ds, hds⟩ : ∃ ds, ds = dist u k := ⟨_, rfl⟩
      have hnx : dist u (k + 1) = nextL ds := by rw [hds]; rfl
      have HN := Lib.hid hnx
      rw [← hds] at hlen hbd ho hr hcells
      clear hnx hds
      have hl1 : ds.length ≤ u := by omega
      have hl2 : u ≤ ds.length := by omega
      have HL := Lib.hid hlen
      clear hlen
      have hc0 : wr.cell? ⟨b, off, none⟩ = some (.int .i64 (ds[0]'(by omega))) := by
        have := hcells 0 (.int .i64 (ds[0]'(by omega))) (by rw [List.getElem?_eq_getElem (by rw [len_ints]; omega)]; simp [ints])
        simpa using this
      have hb0 := hbd (ds[0]'(by omega)) (List.getElem_mem _)
      obtain ⟨x0, hx0⟩ : ∃ x0, x0 = ds[0]'(by omega) := ⟨_, rfl⟩
      rw [← hx0] at hc0 hb0
      have HX0 := Lib.hid hx0
      have HC := Lib.hid hcells
      have HBD := Lib.hid hbd
      clear hx0 hcells hbd hr
      obtain ⟨wo, hwo⟩ : ∃ wo : World, wo = wr := ⟨_, rfl⟩
      subst hwo
      go_wp2
      go_loopw [7, 8] (fun v i wi => ∃ j : Nat, j + 1 ≤ u ∧ i = .int .i64 (j + 1 : Int) ∧ wi.ownsRow wo.heap.size 3 1 v j (ints (part ds j)) ∧ Below wo.heap.size wo wi) (fun _ i _ => u + 1 - (intOf i).toNat)
      case atStart =>
        refine ⟨0, by omega, rfl, ?_, (Below.refl _ _).alloc (Nat.le_refl _) _⟩
        exact World.ownsRow_made wo #[] 0 (Nat.le_refl _) (Nat.zero_le _) (by simp)
      case round =>
        obtain ⟨j, hj, rfl, hoi, hbi⟩ := hrel
        by_cases hlj : j + 1 < u
        · have hcj : wr.cell? ⟨b, off + (j + 1), none⟩ = some (.int .i64 (ds[j + 1]'(by omega))) := by
            have h := HC.out (j + 1) (.int .i64 (ds[j + 1]'(by omega))) (by rw [List.getElem?_eq_getElem (by rw [len_ints]; omega)]; simp [ints])
            rw [hbi.cell (World.block_lt_of_cell? _ _ h), h]
          have hc0i : wr.cell? ⟨b, off, none⟩ = some (.int .i64 x0) := by rw [hbi.cell (World.block_lt_of_cell? _ _ hc0), hc0]
          have hbj := HBD.out (ds[j + 1]'(by omega)) (List.getElem_mem _)
          have hjb : j ≤ 1099511627776 := by omega
          have hbw := hbi.size
          have hu0 : 0 < u := by omega
          have hi1 : (0 : Int) ≤ (j : Int) + 1 := by omega
          have hi2 : (j : Int) + 1 < (u : Int) := by omega
          have hi3 : ((j : Int) + 1).toNat = j + 1 := by omega
          have hwr : IntKind.i64.wrap (x0 + ds[j + 1]) = x0 + ds[j + 1] := IntWalk.i64_in _ (by omega)
          go_wp2_with fail
          go_region_law (refine mem.step_push wr.drew rfl (.tmp 26) (.tmp 35) 22 rfl wo.heap.size 3 (.int .i64 0) 1 8 Try.underlying22 mem.info_int rfl Nat.one_pos u7 j (ints (part ds j)) (by simp [Act.eval, Act.put]) hoi [.int .i64 (x0 + ds[j + 1])] 1 rfl (mem.ints_one [x0 + ds[j + 1]]) (by simp [Act.eval, Act.put]) hjb (by decide) hbw ?_; intro v' w' ho' hg0; have hg' := mem.grown_undrew hg0; clear hg0)
          all_goals
            go_wp2
            have hbx := below_push hbi hbw hg' hoi
            have HP := Lib.hid (show ints (part ds j) ++ [.int .i64 (x0 + ds[j + 1])] = ints (part ds (j + 1)) by
              rw [part_step (by omega), ints_app, ← HX0.out]; rfl)
            rw [HP.out] at ho'
            go_roundw
            case rel => exact ⟨j + 1, by omega, by go_num, ho', hbx⟩
            case measure => simp [intOf]; omega
        · have hc0i : wr.cell? ⟨b, off, none⟩ = some (.int .i64 x0) := by rw [hbi.cell (World.block_lt_of_cell? _ _ hc0), hc0]
          have hjb : j ≤ 1099511627776 := by omega
          have hbw := hbi.size
          go_wp2_with (at_builtin; refine mem.push _ rfl _ _ 22 rfl wo.heap.size 3 _ 1 8 Try.underlying22 mem.info_int rfl Nat.one_pos _ _ _ rfl hoi [.int .i64 (x0)] _ rfl (mem.ints_one [x0]) rfl hjb (by decide) hbw ?_; intro v' w' ho' hg')
          have hbx := below_at hb hb.size (below_push hbi hbw hg' hoi)
          have HJ := Lib.hid (show j + 1 = u by omega)
          have HP := Lib.hid (show ints (part ds j) ++ [.int .i64 x0] = ints (dist u (k + 1)) by
            have e : j = ds.length - 1 := by have := HL.out; omega
            rw [HN.out, ← part_all (by omega), ints_app, ← HX0.out, e]; rfl)
          rw [HP.out, HJ.out] at ho'
          have ho2 := own_base ho' hb.size
          go_roundw
          case rel => exact ⟨k + 1, by omega, by go_num, ho2, hbx⟩
          case measure => simp [intOf]; omega
    · have HK := Lib.hid (show k = l by omega)
      rw [HK.out] at ho
      go_wp2
      go_ret
      exact ⟨_, rfl, ho, hb⟩
end Go.Proofs.Ytgffabjajbgbjaa.dists
