/- PolyphaseVolume at one run: no phase, nothing moved. Condition: one run. -/
import Derived.Test.YtgffabjajbgbjaaDummies
import Derived.Test.YtgffabjajbgbjaaConcat
import Derived.Test.YtgffabjajbgbjaaPhsI
import Derived.Test.YtgffabjajbgbjaaCut
import Derived.Deep.LoopGhost
import Derived.Deep.RegionLaw
import Derived.Deep.DeepCutAuto
import Derived.Deep.CutBlock
set_option linter.unusedVariables false
set_option linter.unusedSimpArgs false
namespace Go.Proofs.Ytgffabjajbgbjaa.volOne
open Go.RowKit Go.Proofs.Ytgffabjajbgbjaa.mem Go.Proofs.Ytgffabjajbgbjaa.sums Go.Proofs.Ytgffabjajbgbjaa.dists
open Go.Proofs.Ytgffabjajbgbjaa.ins (inB inB_iff inB_true)

def nil1 : Value := .slice none 0 0
def cs (m : Nat) : List Int := 1 :: List.replicate m 0
theorem cs_len (m : Nat) : (cs m).length = m + 1 := by simp [cs]
theorem rep_sum : ∀ n, (List.replicate n (0 : Int)).sum = 0
  | 0 => rfl
  | n + 1 => by rw [List.replicate_succ, List.sum_cons, rep_sum n]; rfl
theorem cs_sum (m : Nat) : (cs m).sum = 1 := by rw [cs, List.sum_cons, rep_sum]; rfl
theorem cs_small (m : Nat) : Small (cs m) := fun z hz => by
  rcases List.mem_cons.1 hz with rfl | h
  · omega
  · have := (List.mem_replicate.1 h).2; omega
def tps (A : Option Addr) (c m : Nat) : List Value := .slice A 1 c :: List.replicate m nil1
theorem tps_len (A : Option Addr) (c m : Nat) : (tps A c m).length = m + 1 := by simp [tps]
theorem tps_at (A : Option Addr) (c m : Nat) {k : Nat} (h : k < m + 1) : ∃ (B : Option Addr) (d l : Nat), (tps A c m)[k]? = some (.slice B l d) ∧ ((l : Nat) : Int) = (cs m)[k]'(by rw [cs_len]; exact h) := by
  cases k with
  | zero => exact ⟨A, c, 1, rfl, rfl⟩
  | succ k =>
    refine ⟨none, 0, 0, ?_, ?_⟩
    · simp only [tps, List.getElem?_cons_succ, nil1]
      rw [List.getElem?_replicate, if_pos (by omega)]
    · simp [cs]
theorem flat_one (m : Nat) : ([(1 : Int)] :: List.replicate m ([] : List Int)).flatten = [1] := by
  have : ∀ n, (List.replicate n ([] : List Int)).flatten = [] := by
    intro n; induction n with
    | zero => rfl
    | succ n ih => rw [List.replicate_succ, List.flatten_cons, ih]; rfl
  rw [List.flatten_cons, this]; rfl
theorem sls_one {w : World} {A : Option Addr} {c m : Nat} (h : Rd w 1 A 1 (ints [1])) (hc : 1 ≤ c) (hc2 : c ≤ maxLen) :
    SLs w 1 (tps A c m) (([(1 : Int)] :: List.replicate m ([] : List Int)).map fun l => (l.length, ints l)) := by
  rw [List.map_cons]
  refine SLs.cons ⟨A, c, rfl, hc, hc2, h⟩ ?_
  induction m with
  | zero => exact SLs.nil
  | succ m ih =>
    rw [List.replicate_succ, List.replicate_succ, List.map_cons]
    exact SLs.cons ⟨none, 0, rfl, Nat.le_refl _, Nat.zero_le _, Rd.nil⟩ ih
set_option maxRecDepth 100000 in
set_option maxHeartbeats 4000000 in
theorem pp_one (A : Option Addr) (c m : Nat) (A1 : Option Addr) (c1 : Nat) (fv : Value) (w : World) (hm : m ≤ 8) (hr : Rd w 1 A (m + 1) (tps A1 c1 m)) (h1 : Rd w 1 A1 1 (ints [1])) (hc1 : 1 ≤ c1) (hc2 : c1 ≤ maxLen) :
    Calls Try.prog 71 #[.slice A (m + 1) c, fv] w fun e w' => e = .returned (.tuple #[.int .i64 1, .int .i64 0]) ∧ Below w.heap.size w w' := by
  have HM := Lib.hid (World.ownsRow_made (base := w.heap.size) (e := 3) (size := 1) w #[] 0 (Nat.le_refl _) (Nat.zero_le _) (by simp))
  have HB := Lib.hid ((Below.refl w.heap.size w).alloc (Nat.le_refl _) (.cells #[] 3))
  go_enter Try.func71, Try.ntmps71
  go_wp2
  go_loopg [6] 2 (fun f ph wr => ph = .int .i64 0 ∧ w = wr)
  case atStart => exact ⟨rfl, rfl⟩
  case round =>
    obtain ⟨rfl, rfl⟩ := hrel
    go_wp2
    go_loopg [7, 19] (m + 2) (fun f o i wr => ∃ k : Nat, m + 1 < k + f ∧ k ≤ m + 1 ∧ i = .int .i64 (k : Int) ∧ wr.ownsRow w.heap.size 3 1 o k (ints ((cs m).take k)) ∧ Below w.heap.size w wr)
    case atStart => exact ⟨0, by omega, by omega, rfl, HM.out, HB.out⟩
    case round =>
      obtain ⟨k, hkf, hk, rfl, ho, hb⟩ := hrel
      by_cases hlt : k < m + 1
      · have q1 : (k : Int) < ((m + 1 : Nat) : Int) := by omega
        have q1b : (k : Int) < (m : Int) + 1 := by omega
        obtain ⟨b, off, rfl, hcells⟩ := (hr.below hb).cells (by omega)
        obtain ⟨B, d, l, e1, e2⟩ := tps_at A1 c1 m hlt
        have hcell := hcells k _ e1
        have HP := Lib.hid (show ints ((cs m).take k) ++ [.int .i64 (l : Int)] = ints ((cs m).take (k + 1)) by
          rw [List.take_succ_eq_append_getElem (by rw [cs_len]; exact hlt), ints_app, e2]; rfl)
        have hkb : k ≤ 1099511627776 := by omega
        have hbs := hb.size
        clear hcells e1 e2
        go_wp2_with (at_builtin; refine mem.push _ rfl _ _ 22 rfl w.heap.size 3 _ 1 8 Try.underlying22 mem.info_int rfl Nat.one_pos _ _ _ rfl ho [.int .i64 ((l : Int))] _ rfl (mem.ints_one [(l : Int)]) rfl hkb (by decide) hbs ?_; intro v' w' ho' hg')
        have hb3 := below_push hb hbs hg' ho
        rw [HP.out] at ho'
        clear hcell ho hg'
        go_wp2
        go_roundg (m + 1 - k)
        case measure => omega
        case rel => exact ⟨k + 1, by omega, by omega, by go_num, ho', hb3⟩
      · obtain rfl : k = m + 1 := by omega
        have q1 : ¬ ((m + 1 : Nat) : Int) < ((m + 1 : Nat) : Int) := by omega
        rw [List.take_of_length_le (by rw [cs_len]; omega)] at ho
        obtain ⟨AC, cC, rfl, _, _, hrc⟩ := own_form ho
        have HS := Lib.hid (sums.impl_any AC cC (cs m) wr (by rw [cs_len]; omega) (cs_small m) (by rw [cs_len]; exact hrc))
        rw [cs_len, cs_sum] at HS
        have HCC := Lib.hid (concat.concat_int A c (tps A1 c1 m) ([(1 : Int)] :: List.replicate m ([] : List Int)) wr (by rw [tps_len]; exact hr.below hb) (sls_one (h1.below hb) hc1 hc2) (by simp; omega) (by rw [flat_one]; simp))
        rw [tps_len, flat_one] at HCC
        clear ho hrc
        go_wp2_with fail
        with_reducible refine HS.out.mono ?_
        rintro e w2 ⟨rfl, rfl⟩
        go_wp2_with fail
        with_reducible refine HCC.out.mono ?_
        rintro e w3 ⟨v, rfl, hov, hb3⟩
        have hb4 := below_at hb hb.size hb3
        obtain ⟨AV, cV, rfl, _, _, hrv⟩ := own_form hov
        obtain ⟨b, off, rfl, hcells⟩ := hrv.cells (by simp)
        have hcell := hcells 0 (.int .i64 1) rfl
        rw [Nat.add_zero] at hcell
        clear hov hcells hrv
        go_wp2
        go_ret2
        exact ⟨rfl, hb4⟩
theorem tps_get (A : Option Addr) (c m : Nat) : (List.replicate (m + 1) nil1).set 0 (.slice A 1 c) = tps A c m := by
  rw [List.replicate_succ, List.set_cons_zero]; rfl
theorem lev_one {u : Nat} (hu : 2 ≤ u) : level.lev u 1 = 0 := by
  refine (level.IsLev.lev (n := 0) ⟨fun j hj => absurd hj (by omega), by rw [phs.sum_zero]; omega⟩ (by omega)).symm
theorem dum_one {u : Nat} (hu : 2 ≤ u) : dummies.dum u 1 = (dist u 0, List.replicate u 0) := by
  rw [dummies.dum, lev_one hu, dummies.miss, phs.sum_zero]; rfl
theorem dist0_at {u k : Nat} (hu : 2 ≤ u) (h : k < (dist u 0).length) : (dist u 0)[k] = if k = 0 then 1 else 0 := by
  cases k with
  | zero => simp [dist]
  | succ k => simp [dist]
/-- what stands on the tapes: nothing yet, or one run on the first -/
structure ST (w1 wi : World) (g u : Nat) (b : Bool) : Prop where
  no : b = false → Blk wi g 22 (List.replicate (u + 1) nil1).toArray
  yes : b = true → ∃ A1 c1, Blk wi g 22 (tps A1 c1 u).toArray ∧ Rd wi 1 A1 1 (ints [1]) ∧ 1 ≤ c1 ∧ c1 ≤ maxLen
  mv : Blk wi (g + 1) 3 #[.int .i64 0]
  bel : Below w1.heap.size w1 wi
set_option maxRecDepth 100000 in
set_option maxHeartbeats 4000000 in
theorem vol_one (u : Nat) (w : World) (hu : 2 ≤ u) (hu2 : u ≤ 7) :
    Calls Try.prog 32 #[.int .i64 ((u : Int) + 1), .int .i64 1] w fun e w' => e = .returned (.tuple #[.int .i64 0, .int .i64 0, .bool true]) ∧ Below w.heap.size w w' := by
  have HCAN := Lib.hid (show level.can ((u : Int) + 1) 1 = true from level.can_iff.2 (by omega))
  have HD := Lib.hid (dummies.impl_dum u 1 w hu hu2 (by omega))
  rw [dum_one hu, show ((1 : Nat) : Int) = 1 from rfl] at HD
  have hmk : ∀ W : World, (Instr.makeSlice 36 (.int .i64 ((u : Int) + 1)) (.int .i64 ((u : Int) + 1))).run Try.prog W = .ok (.slice (some ⟨W.heap.size, 0, none⟩) (u + 1) (u + 1)) (W.alloc (.cells (rep (u + 1) nil1) 22)) := fun W => by
    have := make_rep (P := Try.prog) 36 22 nil1 24 Try.underlying36 phs.info_row rfl (u + 1) (by omega) (by unfold maxLen; omega) W
    rwa [show ((u + 1 : Nat) : Int) = (u : Int) + 1 by omega] at this
  have hd0 := dist_len hu 0
  go_enter Try.func32, Try.ntmps32
  go_wp2_with fail
  refine (level.impl_can _ _ _).mono ?_
  rintro e w1 ⟨rfl, rfl⟩
  rw [HCAN.out]
  go_wp2_with fail
  with_reducible refine HD.out.mono ?_
  rintro e w1 ⟨v, x, rfl, hov, hox, _, hb1⟩
  obtain ⟨AR, cR, rfl, _, _, hrR⟩ := own_form hov
  obtain ⟨AD, cD, rfl, _, _, hrD⟩ := own_form hox
  clear hov hox HD
  have HST := Lib.hid (show ST w1 ((w1.alloc (.cells (rep (u + 1) nil1) 22)).alloc (.cells #[.int .i64 0] 3)) w1.heap.size u false by
    obtain ⟨h1, h2, h3⟩ := box2 w1 22 3 (rep (u + 1) nil1) #[.int .i64 0]
    refine ⟨fun _ => ?_, fun h => Bool.noConfusion h, h2, h3⟩
    have e : rep (u + 1) nil1 = (List.replicate (u + 1) nil1).toArray := by simp [rep]
    rw [e] at h1 ⊢
    exact h1)
  have hcm := (box2 w1 22 3 (rep (u + 1) nil1) #[.int .i64 0]).2.1.cell 0
  have hfm := (box2 w1 22 3 (rep (u + 1) nil1) #[.int .i64 0]).2.1.thaw 0
  go_wp2
  clear hcm hfm
  go_loopg [28] (u + 1) (fun f i wr => ∃ k : Nat, u < k + f ∧ k ≤ u ∧ i = .int .i64 (k : Int) ∧ ST w1 wr w1.heap.size u (decide (0 < k)))
  case atStart => exact ⟨0, by omega, by omega, rfl, by simpa using HST.out⟩
  case round =>
    obtain ⟨k, hkf, hk, rfl, hst⟩ := hrel
    have HS := Lib.hid hst
    have hb := hst.bel
    clear hst HST hmk
    by_cases hlt : k < u
    · have q1 : (k : Int) < (u : Int) := by omega
      obtain ⟨bR, oR, rfl, cRk⟩ := (show Rd wr 1 AR (dist u 0).length (ints (dist u 0)) by rw [hd0]; exact hrR.below hb).int (k := k) (by omega)
      obtain ⟨bD, oD, rfl, cDk⟩ := (show Rd wr 1 AD (List.replicate u (0 : Int)).length (ints (List.replicate u 0)) by rw [List.length_replicate]; exact hrD.below hb).int (k := k) (by simpa using hlt)
      rw [List.getElem_replicate] at cDk
      rw [dist0_at hu] at cRk
      go_wp2
      refine wp_loop_rounds 1 ?_
      rw [rounds_succ]
      by_cases hk0 : k = 0
      · subst hk0
        rw [if_pos rfl, Nat.add_zero] at cRk
        rw [Nat.add_zero] at cDk
        have hS0 := Lib.hid (show ST w1 wr w1.heap.size u false from HS.out)
        obtain ⟨wo, hwo⟩ : ∃ wo : World, wo = wr := ⟨_, rfl⟩
        rw [← hwo] at hS0 cRk cDk hb
        rw [← hwo]
        clear hwo HS
        go_wp2
        go_loopg [51] 3 (fun f j wi => ∃ jj : Nat, jj + f = 3 ∧ jj ≤ 1 ∧ j = .int .i64 (jj : Int) ∧ (jj = 0 → wo = wi) ∧ (jj = 1 → ST w1 wi w1.heap.size u true))
        case atStart => exact ⟨0, by omega, by omega, rfl, fun _ => rfl, fun h => absurd h (by omega)⟩
        case round =>
          obtain ⟨jj, hjf, hj1, rfl, h0, h1⟩ := hrel
          by_cases hj0 : jj = 0
          · subst hj0
            obtain rfl := h0 rfl
            have bn := hS0.out.no rfl
            have bm := hS0.out.mv
            have hc0 : wo.cell? ⟨w1.heap.size, 0, none⟩ = some (.slice none 0 0) := by rw [bn.cell]; simp [nil1]
            have hon := World.ownsRow_nil wo wo.heap.size 3 1
            have hgl := bn.lt
            clear h0 h1 cRk cDk
            go_wp2_with ((at_builtin; refine mem.push _ rfl _ _ 22 rfl wo.heap.size 3 _ 1 8 Try.underlying22 mem.info_int rfl Nat.one_pos _ _ _ rfl hon [.int .i64 ((1 : Int))] _ rfl (mem.ints_one [(1 : Int)]) rfl (Nat.zero_le _) (by decide) (Nat.le_refl _) ?_; intro v' w' ho' hg'); obtain ⟨A2, c2, rfl, hcc1, hcc2, hr2⟩ := own_form ho'; have hg2 : wo.grownBy w' none := hg'; have bn2 := bn.grown hg2 (by simp); have bm2 := bm.grown hg2 (by simp); have hc2 := bn2.cell 0; have hf2 := bn2.thaw 0)
            have HN := Lib.hid (show ST w1 (w'.setCell ⟨w1.heap.size, 0, none⟩ (.slice A2 1 c2)) w1.heap.size u true by
              have b3 := bn2.put 0 (.slice A2 1 c2)
              rw [List.setIfInBounds_toArray, tps_get] at b3
              refine ⟨fun h => Bool.noConfusion h, fun _ => ⟨A2, c2, b3, ?_, hcc1, hcc2⟩, bm2.far (by simp) _, (below_grown hb hb.size hg2 (fun k hk => by cases hk)).setCell (Nat.le_refl _) _⟩
              exact own_rd (own_far ho' (p := ⟨w1.heap.size, 0, none⟩) (by
                intro e
                have := (ho'.lt w1.heap.size e).1
                omega) _))
            clear ho' hg' hg2 bn bn2 bm bm2 hc0 hc2 hf2 hr2
            go_wp2
            go_roundg (2 - 0)
            case measure => omega
            case rel => exact ⟨1, by omega, by omega, by go_num, fun h => absurd h (by omega), fun _ => HN.out⟩
          · obtain rfl : jj = 1 := by omega
            have HN := Lib.hid (h1 rfl)
            clear h0 h1 hj0
            go_wp2
            go_roundg (u - 0)
            case measure => omega
            case rel => exact ⟨1, by omega, by omega, by go_num, by simpa using HN.out⟩
      · rw [if_neg hk0] at cRk
        have hkp : decide (0 < k + 1) = decide (0 < k) := by simp; omega
        have HSN := Lib.hid (show ST w1 wr w1.heap.size u (decide (0 < k + 1)) by rw [hkp]; exact HS.out)
        clear hkp
        go_wp2
        refine wp_loop_rounds 1 ?_
        rw [rounds_succ]
        go_wp2
        go_roundg (u - k)
        case measure => omega
        case rel => exact ⟨k + 1, by omega, by omega, by go_num, HSN.out⟩
    · have hku : k = u := by omega
      have hkp : decide (0 < k) = true := decide_eq_true (by omega)
      have hS := HS.out
      rw [hkp] at hS
      obtain ⟨A1, c1, bt, hr1, hc1, hc2⟩ := hS.yes rfl
      have bm := hS.mv
      have q1 : ¬ (k : Int) < (u : Int) := by omega
      have hrt : Rd wr 1 (some ⟨w1.heap.size, 0, none⟩) (u + 1) (tps A1 c1 u) := by
        have := bt.rd_all
        rwa [tps_len] at this
      have HPP := Lib.hid (fun fv => pp_one (some ⟨w1.heap.size, 0, none⟩) (u + 1) u A1 c1 fv wr (by omega) hrt hr1 hc1 hc2)
      have hmf : ∀ (fn : Fn) (first cap : Array Value) (w : World), (Instr.makeFunc fn first cap).run Try.prog w = .ok (.func fn first cap) w := fun _ _ _ _ => rfl
      have hbw := below_step hb1 hb
      clear bt hr1 hrt hS HS hku hkp
      go_wp2_with fail
      with_reducible refine (HPP.out _).mono ?_
      rintro e w3 ⟨rfl, hb3⟩
      have hcm : w3.cell? ⟨w1.heap.size + 1, 0, none⟩ = some (.int .i64 0) := cells_below hb3 (bm.cell 0)
      have hb4 := below_at hbw hbw.size hb3
      clear bm
      go_wp2_with fail
      go_quiet (fail)
      have hb5 := below_drewN hb4 nq
      go_wp2
      go_ret3
      exact ⟨rfl, hb5⟩
end Go.Proofs.Ytgffabjajbgbjaa.volOne
