/- FrequentKeys, the program's. Condition: at most 2^20 elements. -/
import Derived.Test.YtgngoedooemboaaFrqMore
import Derived.Test.YtgngoedooemboaaSortI
import Derived.Test.YtgngoedooemboaaList
import Derived.Test.YtgngoedooemboaaVrec
import Derived.Test.YtgngoedooemboaaMemAt
import Derived.Deep.DeepCutAuto
import Derived.Deep.CutBlock
import Derived.Deep.LoopGhost
set_option linter.unusedVariables false
set_option linter.unusedSimpArgs false
namespace Go.Proofs.Ytgngoedooemboaa.frq
open Go.RowKit Go.Maps Go.Proofs.Ytgngoedooemboaa.mem Go.Proofs.Ytgngoedooemboaa.lists Go.Proofs.Ytgngoedooemboaa.srt
open Go.Proofs.Ytgngoedooemboaa.ins (inB inB_iff)

theorem law : Keyed Try.prog 3 := int_keyed Try.underlying3
theorem zeroK (w : World) : (zeroValue 3).run Try.prog w = .ok (.int .i64 0) w := by kernel_rfl
def okF (zs : List Int) (k : Int) : Bool := vlist zs && inB k 1 16
def resK (zs : List Int) (k : Int) : List Int := if okF zs k = true then srt (keys (run k.toNat zs)) else []
def resV (zs : List Int) (k : Int) : List Int := (resK zs k).map (look (run k.toNat zs))
/-- the counters behind k elements -/
def at' (m : Nat) (zs : List Int) (k : Nat) : Ctr := run m (zs.take k)
theorem at_step (m : Nat) (zs : List Int) {k : Nat} (h : k < zs.length) : at' m zs (k + 1) = step m (at' m zs k) zs[k] := by
  unfold at' run
  rw [List.take_add_one, List.getElem?_eq_getElem h, List.foldl_append]
  rfl
theorem at_ok (m : Nat) (zs : List Int) : ∀ k, k ≤ zs.length → Ok (at' m zs k) ∧ (at' m zs k).length ≤ m ∧ Le (at' m zs k) k
  | 0, _ => ⟨ok_nil, Nat.zero_le _, fun p h => by cases h⟩
  | k + 1, h => by
    obtain ⟨h1, h2, h3⟩ := at_ok m zs k (by omega)
    rw [at_step m zs (by omega)]
    exact ⟨step_ok h1 _, step_len h2 _, step_le h3 (by omega) _⟩

/-- the counts while the map is ranged over: what is still to come stands as it was -/
def hf (L : Ctr) (left : Lit → Bool) (y : Int) : Int := if left (.int .i64 y) = true then look L y else dn (look L y)
theorem hf_start {D : DataW Unit} {L : Ctr} (h : Rep D (look L)) (h0 : ∀ y, 0 ≤ look L y) (y : Int) : look L y = hf L (Maps.has D) y := by
  rw [hf, h.has]
  by_cases hp : 0 < look L y
  · rw [decide_eq_true hp, if_pos rfl]
  · have := h0 y
    rw [decide_eq_false hp, if_neg (by simp), dn, if_neg hp]; omega
theorem hf_end {L : Ctr} (hO : Ok L) {left : Lit → Bool} (h : ∀ kl, left kl = false) (y : Int) : hf L left y = look (dec L) y := by
  rw [hf, h, if_neg (by simp), look_dec hO]
theorem hf_pos {D : DataW Unit} {L : Ctr} {left : Lit → Bool} (h : Rep D (hf L left)) {y : Int} (hl : left (.int .i64 y) = true) (hh : Maps.has D (.int .i64 y) = true) : 0 < look L y := by
  rw [h.has, decide_eq_true_eq, hf, if_pos hl] at hh
  exact hh
theorem hf_step (L : Ctr) (left : Lit → Bool) {y : Int} (hk : WideAt.IsKeyLit (.int .i64 y)) (hp : 0 < look L y) (z : Int) : (if z = y then look L y - 1 else hf L left z) = hf L (fun x => left x && !x.sameKey (.int .i64 y)) z := by
  by_cases e : z = y
  · subst e
    rw [if_pos rfl, hf, WideAt.sameKey_self hk, if_neg (by simp), dn, if_pos hp]
  · rw [if_neg e, hf, hf, Maps.sameKey_ne (lit_ne e)]
    simp
theorem Rep.zap {D : DataW Unit} {g : Int → Int} (h : Rep D g) (x : Int) (d : DataW Unit) : Rep ((D.put (.int .i64 x) d).del (.int .i64 x)) (fun y => if y = x then 0 else g y) where
  has := fun y => by
    by_cases e : y = x
    · subst e; rw [Maps.has_del_same, if_pos rfl]; rfl
    · rw [Maps.has_del_other (lit_ne e), Maps.has_put_other (lit_ne e), if_neg e]; exact h.has y
  at' := fun y hy z => by
    by_cases e : y = x
    · subst e; rw [if_pos rfl] at hy; omega
    · rw [if_neg e] at hy
      rw [Maps.atKey_del_other (lit_ne e), Maps.atKey_put_other (lit_ne e), if_neg e]; exact h.at' y hy z
  int := fun kl hkl => by
    by_cases e : kl = .int .i64 x
    · exact ⟨x, e⟩
    · rw [Maps.has_del_other e, Maps.has_put_other e] at hkl; exact h.int kl hkl

theorem put_get {D : DataW Unit} (hm : Maps.IsMap D) {y a c : Int} (hk : WideAt.IsKeyLit (.int .i64 y)) {z : DataW Unit} (h : (D.put (.int .i64 y) (.lit (.int .i64 a))).atKey (.int .i64 y) z = .lit (.int .i64 c)) : c = a := by
  rw [Maps.atKey_put_same hm hk] at h
  injection h with h
  injection h with _ h
  exact h.symm
set_option maxRecDepth 100000 in
set_option maxHeartbeats 4000000 in
theorem frq_impl (A : Option Addr) (c : Nat) (zs : List Int) (k : Int) (w : World) (hn : zs.length ≤ 1048576) (hr : Rd w 1 A zs.length (ints zs)) :
    Calls Try.prog 49 #[.slice A zs.length c, .int .i64 k] w fun e w' => ∃ v v2, e = .returned (.tuple #[v, v2, .bool (okF zs k)]) ∧ OwnI w w' v (resK zs k) ∧ OwnI w w' v2 (resV zs k) ∧ (v.ownBlock = none ∨ v.ownBlock ≠ v2.ownBlock) ∧ Below w.heap.size w w' := by
  have HV := Lib.hid (lists.impl_any A c zs w hn hr)
  cases hv : vlist zs with
  | false =>
    have HR := Lib.hid (show okF zs k = false ∧ resK zs k = [] ∧ resV zs k = [] by simp [okF, resK, resV, hv])
    rw [hv] at HV
    clear hv
    go_enter Try.func49, Try.ntmps49
    go_wp2_with fail
    refine HV.out.mono ?_
    rintro e w2 ⟨rfl, hb2⟩
    go_wp2
    go_ret3
    exact ⟨_, _, by rw [HR.out.1]; rfl, ⟨by rw [HR.out.2.1]; exact World.ownsRow_nil _ _ _ _, by rw [HR.out.2.1]; simp⟩, ⟨by rw [HR.out.2.2]; exact World.ownsRow_nil _ _ _ _, by rw [HR.out.2.2]; simp⟩, Or.inl rfl, hb2⟩
  | true =>
    cases hi : inB k 1 16 with
    | false =>
      have HR := Lib.hid (show okF zs k = false ∧ resK zs k = [] ∧ resV zs k = [] by simp [okF, resK, resV, hv, hi])
      have HI := Lib.hid (vrecs.itop_any k)
      rw [hv] at HV
      rw [hi] at HI
      clear hv hi
      go_enter Try.func49, Try.ntmps49
      go_wp2_with fail
      refine HV.out.mono ?_
      rintro e w2 ⟨rfl, hb2⟩
      go_wp2_with fail
      refine (HI.out _).mono ?_
      rintro e w3 ⟨rfl, rfl⟩
      go_wp2
      go_ret3
      exact ⟨_, _, by rw [HR.out.1]; rfl, ⟨by rw [HR.out.2.1]; exact World.ownsRow_nil _ _ _ _, by rw [HR.out.2.1]; simp⟩, ⟨by rw [HR.out.2.2]; exact World.ownsRow_nil _ _ _ _, by rw [HR.out.2.2]; simp⟩, Or.inl rfl, hb2⟩
    | true =>
      have HOK := Lib.hid (show okF zs k = true by simp [okF, hv, hi])
      have hk := inB_iff.1 hi
      obtain ⟨q, rfl⟩ : ∃ q : Nat, k = (q : Int) := ⟨k.toNat, by omega⟩
      have hlen := vlist_len hv
      have HKY := Lib.hid (vlist_key hv)
      have HI := Lib.hid (vrecs.itop_any (q : Int))
      rw [hv] at HV
      rw [hi] at HI
      clear hv hi
      have hmm := @run_makeMap Try.prog
      go_enter Try.func49, Try.ntmps49
      go_wp2_with fail
      refine HV.out.mono ?_
      rintro e w2 ⟨rfl, hb2⟩
      go_wp2_with fail
      refine (HI.out _).mono ?_
      rintro e w3 ⟨rfl, rfl⟩
      go_upto_block 0 with fail
      go_cut [] (fun wx => ∃ n D, n ≤ 64 ∧ wx.ownsMap Try.prog 3 (plainElem (H := Unit) Try.prog 3) w2.heap.size n D ∧ Rep D (look (at' q zs zs.length)) ∧ Below w.heap.size w wx)
      case first =>
        go_wp2
        go_loopw [27] (fun i wr => ∃ k : Nat, k ≤ zs.length ∧ i = .int .i64 (k : Int) ∧ ∃ n D, n ≤ k ∧ wr.ownsMap Try.prog 3 (plainElem (H := Unit) Try.prog 3) w2.heap.size n D ∧ Rep D (look (at' q zs k)) ∧ Below w.heap.size w wr) (fun i _ => zs.length - (intOf i).toNat)
        case atStart => exact ⟨0, Nat.zero_le _, rfl, 0, _, Nat.le_refl _, World.ownsMap_made _ _ _ _, rep_empty, hb2.alloc hb2.size _⟩
        case round =>
          obtain ⟨k, hk1, rfl, n, D, hnk, hown, hrep, hb⟩ := hrel
          by_cases hlt : k < zs.length
          · obtain ⟨b, off, rfl, hc0⟩ := (hr.below hb).int hlt
            have HST := Lib.hid (at_step q zs hlt)
            have hkey0 := HKY.out _ (List.getElem_mem hlt)
            obtain ⟨h1, h2, h3⟩ := at_ok q zs k hk1
            generalize zs[k] = x at hc0 HST hkey0
            generalize hL : at' q zs k = L at hrep HST h1 h2 h3
            clear hL
            have hwx : (Lit.int .i64 x).wf = true := WalkArith.wf_i64 (by omega)
            have hkey : keyOf Try.prog 3 (.int .i64 x) = some (.int .i64 x) := keyOf_int_mk Try.underlying3 hwx
            have HKL := Lib.hid (law.key hkey)
            have HLE := Lib.hid (fun y => look_le h1 h3 (by omega) y)
            have hlx := HLE.out x
            have hlx2 : look L x ≤ 64 := Int.le_trans hlx.2 (by omega)
            have q1 : (k : Int) < (zs.length : Int) := by omega
            by_cases hin : x ∈ keys L
            · have hp := (look_pos h1 x).2 hin
              have HS := Lib.hid (show step q L x = bump L x by rw [step, if_pos hin])
              go_wp2_with (first
                | (at_lookup; refine wpList_lookup_own_int _ rfl _ _ 99 rfl 3 3 .i64 law Try.underlying99 Try.underlying3 (zeroK _) w2.heap.size n _ rfl hown _ _ rfl hkey ?_; intro c0 hat hwc; have hce := hrep.get hlx.1 hat; have hc1 : 0 < c0 := (by omega); have hc2 : c0 ≤ 64 := Int.le_trans (Int.le_of_eq hce) hlx2; have hc3 : IntKind.i64.wrap (c0 + 1) = c0 + 1 := (by rw [IntKind.wrap_i64]; omega); have HCE := Lib.hid hce; clear hat hwc hce)
                | (at_mapUpdate; refine wpList_mapUpdate_own _ rfl _ _ _ 99 rfl 3 3 law Try.underlying99 _ w2.heap.size n _ rfl hown (by unfold maxLen; omega) _ _ _ rfl rfl hkey _ [] (plainElem_int Try.underlying3 (WalkArith.wf_i64 (by omega))) ?_; intro w4 hown1 hgrow1)
                | go_in)
              have HG := Lib.hid (show ∀ y, (if y = x then c0 + 1 else look L y) = look (bump L x) y from fun y => by
                rw [look_bump]
                by_cases e : y = x
                · subst e; rw [if_pos rfl, if_pos ⟨rfl, hin⟩, HCE.out]
                · rw [if_neg e, if_neg (fun h => e h.1)])
              go_roundw
              case rel => exact ⟨k + 1, by omega, by go_num, n + 1, _, by omega, hown1, by rw [HST.out, HS.out]; exact (hrep.put hown.isMap HKL.out (c := c0 + 1) (by omega)).congr HG.out, below_grown hb hb.size hgrow1 (fun j hj => by cases hj; exact hb2.size)⟩
              case measure => simp [intOf]; omega
            · have hp := look_none hin
              have hlr := fun ty => hown.len Try.underlying99 ty
              by_cases hm : L.length < q
              · have HS := Lib.hid (show step q L x = L ++ [(x, 1)] by rw [step, if_neg hin, if_pos hm])
                have hsz : (Maps.size D : Int) < (q : Int) := by have := Rep.size h1 hrep (hown.canon law); omega
                go_wp2_with (first
                  | (at_lookup; refine wpList_lookup_own_int _ rfl _ _ 99 rfl 3 3 .i64 law Try.underlying99 Try.underlying3 (zeroK _) w2.heap.size n _ rfl hown _ _ rfl hkey ?_; intro c0 hat hwc; have hce := hrep.get hlx.1 hat; have hc1 : ¬ 0 < c0 := (by omega); have hc4 : 0 ≤ c0 := (by omega); have hc3 : IntKind.i64.wrap (c0 + 1) = c0 + 1 := (by rw [IntKind.wrap_i64]; omega); have HCE := Lib.hid hce; clear hat hwc hce)
                  | (at_mapUpdate; refine wpList_mapUpdate_own _ rfl _ _ _ 99 rfl 3 3 law Try.underlying99 _ w2.heap.size n _ rfl hown (by unfold maxLen; omega) _ _ _ rfl rfl hkey _ [] (plainElem_int Try.underlying3 (WalkArith.wf_i64 (by omega))) ?_; intro w4 hown1 hgrow1)
                  | go_in)
                have HG := Lib.hid (show ∀ y, (if y = x then c0 + 1 else look L y) = look (L ++ [(x, 1)]) y from fun y => by
                  rw [look_snoc hin]
                  by_cases e : y = x
                  · rw [if_pos e, if_pos e, HCE.out, hp]; rfl
                  · rw [if_neg e, if_neg e])
                go_roundw
                case rel => exact ⟨k + 1, by omega, by go_num, n + 1, _, by omega, hown1, by rw [HST.out, HS.out]; exact (hrep.put hown.isMap HKL.out (c := c0 + 1) (by have := HCE.out; omega)).congr HG.out, below_grown hb hb.size hgrow1 (fun j hj => by cases hj; exact hb2.size)⟩
                case measure => simp [intOf]; omega
              · have HS := Lib.hid (show step q L x = dec L by rw [step, if_neg hin, if_neg hm])
                have hsz : ¬ (Maps.size D : Int) < (q : Int) := by have := Rep.size h1 hrep (hown.canon law); omega
                go_wp2_with (first
                  | (at_lookup; refine wpList_lookup_own_int _ rfl _ _ 99 rfl 3 3 .i64 law Try.underlying99 Try.underlying3 (zeroK _) w2.heap.size n _ rfl hown _ _ rfl hkey ?_; intro c0 hat hwc; have hce := hrep.get hlx.1 hat; have hc1 : ¬ 0 < c0 := (by omega); have hc4 : 0 ≤ c0 := (by omega); have hc3 : IntKind.i64.wrap (c0 + 1) = c0 + 1 := (by rw [IntKind.wrap_i64]; omega); have HCE := Lib.hid hce; clear hat hwc hce)
                  | (at_range; refine wpList_range_own _ rfl _ 99 rfl 3 3 law Try.underlying99 _ w2.heap.size n _ rfl hown ?_; intro w5 hrg0 hg0 hs0)
                  | go_in)
                have HN := Lib.hid (show n < maxLen by unfold maxLen; omega)
                clear hlr
                have hb9 := below_grown hb hb.size hg0 (fun j hj => by cases hj)
                obtain ⟨B2, hB2⟩ : ∃ B2, B2 = wr.heap.size := ⟨_, rfl⟩
                have hB3 : w.heap.size ≤ B2 := by rw [hB2]; exact hb.size
                rw [← hB2] at hrg0 ⊢
                clear hB2
                go_loopw [10] (fun _ wv => ∃ (left : Lit → Bool) (cnt : Nat) (D2 : DataW Unit), wv.ranges Try.prog 3 (plainElem (H := Unit) Try.prog 3) w2.heap.size B2 n D2 left cnt ∧ Rep D2 (hf L left) ∧ Below w.heap.size w wv) (fun _ wv => wv.rangeLeft w2.heap.size B2)
                case atStart => exact ⟨_, _, D, hrg0, hrep.congr (hf_start hrep fun y => (HLE.out y).1), hb9⟩
                case round =>
                  obtain ⟨left, cnt, D2, hrg, hrep2, hb5⟩ := hrel
                  go_wp2_with (first
                    | (at_next; refine wpList_next_ranges_ii _ rfl _ rfl 3 3 .i64 .i64 law Try.underlying3 Try.underlying3 w2.heap.size B2 n _ _ _ rfl hrg ?_ ?_)
                    | go_in)
                  · intro _ hl0
                    go_wp2
                    go_roundw
                    case rel => exact ⟨k + 1, by omega, by go_num, n, D2, by omega, hrg.owns, by rw [HST.out, HS.out]; exact hrep2.congr (hf_end h1 hl0), hb5⟩
                    case measure => simp [intOf]; omega
                  · intro y cy w6 cnt1 hwy hwc hly hat hrg1 hlt1 hg1 hs1 hen
                    have hb6 := below_grown hb5 hb5.size hg1 (fun j hj => by cases hj; exact hB3)
                    have hkeyy : keyOf Try.prog 3 (.int .i64 y) = some (.int .i64 y) := keyOf_int_mk Try.underlying3 hwy
                    have HKY2 := Lib.hid (law.key hkeyy)
                    have hhas := Maps.has_true_of_atKey hat
                    have hpy : 0 < look L y := hf_pos hrep2 hly hhas
                    have hly2 := HLE.out y
                    have hgy : hf L left y = look L y := by rw [hf, if_pos hly]
                    have HFS := Lib.hid (hf_step L left (HKY2.out) hpy)
                    by_cases h1y : look L y = 1
                    · skip
                      go_wp2_with (first
                        | (at_lookup; refine wpList_lookup_own_int _ rfl _ _ 99 rfl 3 3 .i64 law Try.underlying99 Try.underlying3 (zeroK _) w2.heap.size n _ rfl hrg1.owns _ _ rfl hkeyy ?_; intro c1 hat1 hwc1; have hce1 := (hrep2.get (by rw [hgy]; exact hly2.1) hat1).trans hgy; have HCE1 := Lib.hid hce1; have hc5 : 1 ≤ c1 := (by omega); have hc8 : c1 ≤ 64 := (by omega); have hc6 : IntKind.i64.wrap (c1 - 1) = c1 - 1 := (by rw [IntKind.wrap_i64]; omega); clear hat1 hwc1 hce1)
                        | (at_lookup; refine wpList_lookup_own_int _ rfl _ _ 99 rfl 3 3 .i64 law Try.underlying99 Try.underlying3 (zeroK _) w2.heap.size n _ rfl hrg2.owns _ _ rfl hkeyy ?_; intro c2 hat2 hwc2; have hce2 := put_get hrg1.owns.isMap HKY2.out hat2; have hce3 := HCE1.out; have hc7 : c2 = 0 := (by omega); clear hat2 hwc2 hce2 hce3)
                        | (at_mapUpdate; refine maps.mapUpdate_ranges _ rfl _ _ _ 99 rfl 3 3 law Try.underlying99 _ w2.heap.size B2 n _ _ _ rfl hrg1 HN.out _ _ _ rfl rfl hkeyy _ [] (plainElem_int Try.underlying3 (WalkArith.wf_i64 (by omega))) hhas ?_; intro w7 hrg2 hturn2)
                        | (at_delete; refine wpList_delete_ranges _ rfl _ _ 99 3 rfl 3 law Try.underlying99 _ w2.heap.size B2 n _ _ _ rfl hrg2 _ _ rfl hkeyy ?_; intro w8 cnt3 hrg3 hle3 hturn3; go_frame)
                        | go_in)
                      have hb7 := below_grown hb6 hb6.size hturn2.grown (fun j hj => by cases hj; exact hb2.size)
                      have hb8 := below_grown hb7 hb7.size hturn3.grown (fun j hj => by cases hj; exact hb2.size)
                      rw [strike_twice] at hrg3
                      go_roundw
                      case rel => exact ⟨_, cnt3, _, hrg3, (hrep2.zap y _).congr (fun z => by rw [← HFS.out z, h1y]; rfl), hb8⟩
                      case measure => rw [hrg3.left_eq, hrg.left_eq]; omega
                    · skip
                      go_wp2_with (first
                        | (at_lookup; refine wpList_lookup_own_int _ rfl _ _ 99 rfl 3 3 .i64 law Try.underlying99 Try.underlying3 (zeroK _) w2.heap.size n _ rfl hrg1.owns _ _ rfl hkeyy ?_; intro c1 hat1 hwc1; have hce1 := (hrep2.get (by rw [hgy]; exact hly2.1) hat1).trans hgy; have HCE1 := Lib.hid hce1; have hc5 : 1 ≤ c1 := (by omega); have hc8 : c1 ≤ 64 := (by omega); have hc6 : IntKind.i64.wrap (c1 - 1) = c1 - 1 := (by rw [IntKind.wrap_i64]; omega); clear hat1 hwc1 hce1)
                        | (at_lookup; refine wpList_lookup_own_int _ rfl _ _ 99 rfl 3 3 .i64 law Try.underlying99 Try.underlying3 (zeroK _) w2.heap.size n _ rfl hrg2.owns _ _ rfl hkeyy ?_; intro c2 hat2 hwc2; have hce2 := put_get hrg1.owns.isMap HKY2.out hat2; have hce3 := HCE1.out; have hc7 : ¬ c2 = 0 := (by omega); clear hat2 hwc2 hce2 hce3)
                        | (at_mapUpdate; refine maps.mapUpdate_ranges _ rfl _ _ _ 99 rfl 3 3 law Try.underlying99 _ w2.heap.size B2 n _ _ _ rfl hrg1 HN.out _ _ _ rfl rfl hkeyy _ [] (plainElem_int Try.underlying3 (WalkArith.wf_i64 (by omega))) hhas ?_; intro w7 hrg2 hturn2)
                        | (at_delete; refine wpList_delete_ranges _ rfl _ _ 99 3 rfl 3 law Try.underlying99 _ w2.heap.size B2 n _ _ _ rfl hrg2 _ _ rfl hkeyy ?_; intro w8 cnt3 hrg3 hle3 hturn3; go_frame)
                        | go_in)
                      have hb7 := below_grown hb6 hb6.size hturn2.grown (fun j hj => by cases hj; exact hb2.size)
                      go_roundw
                      case rel => exact ⟨_, cnt1, _, hrg2, (hrep2.put hrg1.owns.isMap HKY2.out (by have := HCE1.out; omega)).congr (fun z => by rw [← HFS.out z, HCE1.out]), hb7⟩
                      case measure => rw [hrg2.left_eq, hrg.left_eq]; exact hlt1
          · have HE := Lib.hid (show k = zs.length by omega)
            have q1 : ¬ (k : Int) < (zs.length : Int) := by omega
            go_wp2_with fail
            go_meet
            exact ⟨n, D, by omega, hown, by rw [← HE.out]; exact hrep, hb⟩
      case rest =>
        obtain ⟨n, D, hn64, hown, hrep, hb⟩ := hcut
        obtain ⟨h1, h2, h3⟩ := at_ok q zs zs.length (Nat.le_refl _)
        have HL := Lib.hid (show at' q zs zs.length = run q zs by rw [at', List.take_length])
        rw [HL.out] at hrep h1 h2 h3
        obtain ⟨wx, hwx⟩ : ∃ W : World, W = wc := ⟨_, rfl⟩
        rw [← hwx] at hown hb
        rw [← hwx]
        clear hwx
        have hBx := hown.lt
        have hZ1 := World.ownsRow_made (e := 3) (size := 1) wx #[] 0 (Nat.le_refl _) (Nat.zero_le _) (by simp)
        have hZ2 := own_made2 wx 3 1
        have hsz := hown.size_le
        have HO1 := Lib.hid (hZ1.alloc (.cells #[] 3))
        have HO2 := Lib.hid hZ2
        have HB2 := Lib.hid ((hb.alloc hb.size (.cells #[] 3)).alloc (by simp; exact Nat.le_succ_of_le hb.size) (.cells #[] 3))
        have hown2 := (hown.alloc (.cells #[] 3)).alloc (.cells #[] 3)
        clear hZ1 hZ2
        go_wp2_with (first
          | (at_range; refine wpList_range_own _ rfl _ 99 rfl 3 3 law Try.underlying99 _ w2.heap.size n _ rfl hown2 ?_; intro w5 hrg0 hg0 hs0)
          | go_in)
        go_frame
        obtain ⟨B3, hB3⟩ : ∃ B3, B3 = ((wx.alloc (.cells #[] 3)).alloc (.cells #[] 3)).heap.size := ⟨_, rfl⟩
        have hO1 := HO1.out.kept hg0 (Classical.em _)
        have hO2 := HO2.out.kept hg0 (Classical.em _)
        have hb5 := below_grown HB2.out HB2.out.size hg0 (fun j hj => by cases hj)
        rw [← hB3] at hrg0 ⊢
        have hB3v : wx.heap.size + 1 < B3 := by rw [hB3]; simp
        clear hB3 hg0 hs0 hown2
        go_loopw [11] (fun v wv => ∃ (left : Lit → Bool) (cnt : Nat) (ys : List Int), wv.ranges Try.prog 3 (plainElem (H := Unit) Try.prog 3) w2.heap.size B3 n D left cnt ∧ wv.ownsRow wx.heap.size 3 1 v ys.length (ints ys) ∧ wv.ownsRow wx.heap.size 3 1 (.slice (some ⟨wx.heap.size + 1, 0, none⟩) 0 0) 0 [] ∧ ys.Nodup ∧ (∀ y, y ∈ ys ↔ (Maps.has D (.int .i64 y) = true ∧ left (.int .i64 y) = false)) ∧ ys.length + cnt ≤ 64 ∧ v.ownBlock ≠ some (wx.heap.size + 1) ∧ v.ownBlock ≠ some B3 ∧ Below w.heap.size w wv) (fun _ wv => wv.rangeLeft w2.heap.size B3)
        case atStart => exact ⟨_, _, [], hrg0, hO1, hO2, List.nodup_nil, fun y => by constructor <;> intro h <;> simp at h, by simp; omega, by simp [Value.ownBlock], by simp [Value.ownBlock]; omega, hb5⟩
        case round =>
          obtain ⟨left, cnt, ys, hrg, hv1, hv2, hnd, hmem, hcn, hne1, hne2, hb6⟩ := hrel
          obtain ⟨A1, c1, rfl, hc1, hc1m, hr1⟩ := own_form hv1
          go_wp2_with (first
            | (at_next; refine wpList_next_ranges_ii _ rfl _ rfl 3 3 .i64 .i64 law Try.underlying3 Try.underlying3 w2.heap.size B3 n _ _ _ rfl hrg ?_ ?_)
            | go_in)
          · intro _ hl0
            have hrg9 := hrg.owns
            have hpm : ys.Perm (keys (run q zs)) := (List.perm_ext_iff_of_nodup hnd h1.nd).2 fun y => by
              rw [hmem, hl0, hrep.has, decide_eq_true_eq, look_pos h1]; simp
            have HSR := Lib.hid (show srt ys = srt (keys (run q zs)) from srt_uniq ((srt_perm ys).trans hpm) (srt_asc ys))
            have HSM := Lib.hid (fun y (h : y ∈ srt ys) => HKY.out y (run_sub (hpm.mem_iff.1 (srt_mem.1 h))))
            have HSL := Lib.hid (show (srt ys).length = ys.length from srt_len ys)
            have HLE := Lib.hid (fun y => look_le h1 h3 (by omega) y)
            have hy64 : ys.length ≤ 64 := by omega
            have HSO := Lib.hid (sort_own ys _ wr wx.heap.size (by omega) hv1)
            clear hrg hr1
            go_wp2_with fail
            with_reducible refine HSO.out.mono ?_
            rintro e w6 ⟨rfl, hv3, hg1⟩
            have hb7 := below_push hb6 hb6.size hg1 (own_base hv1 hb.size)
            have hown3 := hrg9.kept hg1 (fun h => by have := (hv1.lt _ h.symm).1; omega)
            have hv4 := hv2.kept hg1 (.inr (fun h => hne1 h.symm))
            generalize srt ys = S at hv3 HSR HSM HSL
            have hSL := HSL.out
            rw [← hSL] at hv3 hy64 hne1 ⊢
            have HNE := Lib.hid hne1
            have HB7 := Lib.hid hb7
            have HV3 := Lib.hid hv3
            have HV4 := Lib.hid hv4
            have HOW := Lib.hid hown3
            clear hSL HSL hv1 hv2 hnd hmem hcn hne1 hne2 hb6 hpm hg1 hb7 hv3 hv4 hown3 hrg9 hl0 HSO
            have HRK := Lib.hid (show resK zs (q : Int) = S by rw [resK, if_pos HOK.out, Int.toNat_natCast, ← HSR.out])
            have HRV := Lib.hid (show resV zs (q : Int) = S.map (look (run q zs)) by rw [resV, HRK.out, Int.toNat_natCast])
            have HREP := Lib.hid hrep
            have hBz := hb.size
            clear hrep HSR hrg0 hO1 hO2 hb5 h1 h3 hown
            generalize run q zs = L at HRK HRV HREP HLE h2
            go_wp2
            go_loopg [12, 79] (S.length + 1) (fun f u i wv => ∃ k : Nat, S.length < k + f ∧ k ≤ S.length ∧ i = .int .i64 (k : Int) ∧ wv.ownsRow wx.heap.size 3 1 u k (ints ((S.take k).map (look L))) ∧ wv.ownsRow wx.heap.size 3 1 (.slice A1 S.length c1) S.length (ints S) ∧ ((Value.slice A1 S.length c1).ownBlock = none ∨ (Value.slice A1 S.length c1).ownBlock ≠ u.ownBlock) ∧ wv.ownsMap Try.prog 3 (plainElem (H := Unit) Try.prog 3) w2.heap.size n D ∧ Below w.heap.size w wv)
            case atStart => exact ⟨0, by omega, by omega, rfl, HV4.out, HV3.out, Or.inr HNE.out, HOW.out, HB7.out⟩
            case round =>
              obtain ⟨k, hkf, hk1, rfl, hu, hs, hap, hom, hb8⟩ := hrel
              by_cases hlt : k < S.length
              · have q1 : (k : Int) < (S.length : Int) := by omega
                obtain ⟨g1, rfl, hg1a, hg1b⟩ := own_addr hs (by omega)
                have hx1 := own_cell hs (show (ints S)[k]? = some (.int .i64 S[k]) by simp [ints, hlt])
                have HST := Lib.hid (show (S.take (k + 1)).map (look L) = (S.take k).map (look L) ++ [look L S[k]] by rw [List.take_succ_eq_append_getElem hlt, List.map_append]; rfl)
                have hxm := HSM.out _ (List.getElem_mem hlt)
                generalize S[k] = x at hx1 HST hxm
                have hkey : keyOf Try.prog 3 (.int .i64 x) = some (.int .i64 x) := keyOf_int_mk Try.underlying3 (WalkArith.wf_i64 (by omega))
                have hlx := HLE.out x
                have hh : k ≤ 1099511627776 := by omega
                have hbw : wx.heap.size ≤ wr.heap.size := by have := (hs.lt _ rfl); omega
                obtain ⟨A6, c6, rfl, hc6, hc6m, hr6⟩ := own_form hu
                clear hr6
                go_wp2_with (first
                  | (at_lookup; refine wpList_lookup_own_int _ rfl _ _ 99 rfl 3 3 .i64 law Try.underlying99 Try.underlying3 (zeroK _) w2.heap.size n _ rfl hom _ _ rfl hkey ?_; intro c0 hat hwc; have hce := HREP.out.get hlx.1 hat; have HCE := Lib.hid hce; clear hat hwc hce)
                  | (at_builtin; refine mem.push_at _ rfl _ _ 29 rfl wx.heap.size 3 _ 1 8 Try.underlying29 mem.info_int rfl Nat.one_pos (.slice A6 k c6) _ _ rfl hu (ints [c0]) _ rfl (mem.ints_one [c0]) rfl hh (by decide) hbw ?_; intro v' w' ho' hg' hnw')
                  | go_in)
                have ap1 := apt_symm (apt_new (apt_symm hap) hnw' (own_lt hs))
                have hs2 := hs.kept hg' hap
                have hb9 := below_push hb8 (by omega) hg' (own_base hu hBz)
                have hom2 := hom.kept hg' (fun h => by have := (hu.lt _ h.symm).1; omega)
                go_wp2
                go_roundg (gk - 1)
                case measure => omega
                case rel => exact ⟨k + 1, by omega, by omega, by go_num, by rw [HST.out, ints_app, ← HCE.out]; exact ho', hs2, ap1, hom2, hb9⟩
              · obtain rfl : k = S.length := by omega
                rw [List.take_length] at hu
                have HF := Lib.hid (And.intro (own_base hs hBz) (And.intro (own_base hu hBz) (And.intro hap hb8)))
                clear hu hs hap hom hb8
                go_wp2
                go_ret3
                exact ⟨_, _, by rw [HOK.out]; rfl, ⟨by rw [HRK.out]; exact HF.out.1, by rw [HRK.out]; omega⟩, ⟨by rw [HRV.out, List.length_map]; exact HF.out.2.1, by rw [HRV.out, List.length_map]; omega⟩, HF.out.2.2.1, HF.out.2.2.2⟩
          · intro y cy w6 cnt1 hwy hwc hly hat hrg1 hlt1 hg1 hs1 hen
            have hb7 := below_grown hb6 hb6.size hg1 (fun j hj => by cases hj; have := hb.size; omega)
            have hhas := Maps.has_true_of_atKey hat
            have hkeyy : keyOf Try.prog 3 (.int .i64 y) = some (.int .i64 y) := keyOf_int_mk Try.underlying3 hwy
            have HKY2 := Lib.hid (law.key hkeyy)
            have hv3 := hv1.kept hg1 (.inr hne2)
            have hv4 := hv2.kept hg1 (.inr (by simp [Value.ownBlock]; omega))
            have hh : ys.length ≤ 1099511627776 := by omega
            have hbw : wx.heap.size ≤ w6.heap.size := by have := hv4.lt _ rfl; omega
            have hlt9 : wx.heap.size + 1 < w6.heap.size := (hv4.lt _ rfl).2
            have hlt8 := hrg1.lt
            clear hr1 hs1
            go_wp2_with (at_builtin; refine mem.push_at _ rfl _ _ 29 rfl wx.heap.size 3 _ 1 8 Try.underlying29 mem.info_int rfl Nat.one_pos (.slice A1 ys.length c1) _ _ rfl hv3 (ints [y]) _ rfl (mem.ints_one [y]) rfl hh (by decide) hbw ?_; intro v' w' ho' hg' hnw')
            have hny : y ∉ ys := fun h => by have := ((hmem y).1 h).2; rw [hly] at this; cases this
            have hn1 : v'.ownBlock ≠ some (wx.heap.size + 1) := fun h => by
              rcases hnw' _ h with h5 | h5
              · exact hne1 h5
              · omega
            have hn2 : v'.ownBlock ≠ some B3 := fun h => by
              rcases hnw' _ h with h5 | h5
              · exact hne2 h5
              · omega
            have hrg2 := hrg1.kept hg' (fun h => by have := (hv3.lt _ h.symm).1; omega) (fun h => hne2 h.symm)
            have hb8 := below_push hb7 (by have := hb.size; omega) hg' (own_base hv3 hb.size)
            have hv5 := hv4.kept hg' (.inr (fun h => hne1 h.symm))
            go_wp2
            go_roundw
            case rel => exact ⟨_, cnt1, ys ++ [y], hrg2, by rw [ints_app, List.length_append]; exact ho', hv5, List.nodup_append.2 ⟨hnd, by simp, fun a ha b hb => by simp at hb; subst hb; rintro rfl; exact hny ha⟩, fun z => by
              rw [List.mem_append, hmem, List.mem_singleton]
              by_cases e : z = y
              · subst e; simp [hhas, WideAt.sameKey_self HKY2.out]
              · simp [e, Maps.sameKey_ne (lit_ne e)], by rw [List.length_append, List.length_singleton]; omega, hn1, hn2, hb8⟩
            case measure => rw [hrg2.left_eq, hrg.left_eq]; exact hlt1
end Go.Proofs.Ytgngoedooemboaa.frq
