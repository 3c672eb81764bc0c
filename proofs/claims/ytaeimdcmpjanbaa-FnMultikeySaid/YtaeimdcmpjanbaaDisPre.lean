/- DistinguishingPrefix, the program's and the reference's. No condition beyond 2^20 strings of 2^20 bytes. -/
import Derived.Test.YtaeimdcmpjanbaaSrtStr
import Derived.Deep.LoopGhost
set_option linter.unusedVariables false
set_option linter.unusedSimpArgs false
namespace Go.Proofs.Ytaeimdcmpjanbaa.disPre
open Go.RowKit Go.Proofs.Ytaeimdcmpjanbaa.mem Go.Proofs.Ytaeimdcmpjanbaa.ssLaw Go.Proofs.Ytaeimdcmpjanbaa.validStr Go.Proofs.Ytaeimdcmpjanbaa.pfxs
open Go.Proofs.Ytaeimdcmpjanbaa.ascStr (e0 getD_s)
open Go.Proofs.Ytaeimdcmpjanbaa.prefixes (cpl cpl_le)

def q0 (s : List ByteArray) : List Int := pfx s ++ [0]
def dv (s : List ByteArray) (i : Nat) : Int := min ((s.getD i e0).size : Int) (1 + max ((q0 s).getD i 0) ((q0 s).getD (i + 1) 0))
def dt (s : List ByteArray) : Nat → Int
  | 0 => 0
  | k + 1 => dt s k + dv s k
theorem q0_len (s : List ByteArray) : (q0 s).length = s.length + 1 := by simp [q0, pfx_len]
theorem q0_bd {s : List ByteArray} (h : ∀ x ∈ s, x.size ≤ 30) (i : Nat) : 0 ≤ (q0 s).getD i 0 ∧ (q0 s).getD i 0 ≤ 30 := by
  by_cases hi : i < s.length
  · have e : (q0 s).getD i 0 = pv s i := by
      rw [q0, List.getD_eq_getElem?_getD, List.getElem?_append_left (by rw [pfx_len]; exact hi)]
      simp [pfx, hi]
    rw [e, pv]
    split
    · omega
    · have h1 := (cpl_le (s.getD (i - 1) e0).data.toList (s.getD i e0).data.toList).2
      have h2 := h s[i] (List.getElem_mem hi)
      rw [getD_s s hi] at h1 ⊢
      have h3 : (s[i]).data.toList.length = (s[i]).size := by rw [Array.length_toList]; rfl
      rw [h3] at h1
      omega
  · rw [q0, List.getD_eq_getElem?_getD, List.getElem?_append_right (by rw [pfx_len]; omega)]
    cases hc : ([0] : List Int)[i - (pfx s).length]? with
    | none => simp
    | some y =>
      have := List.mem_of_getElem? hc
      simp at this; subst this; simp
theorem dv_bd {s : List ByteArray} (h : ∀ x ∈ s, x.size ≤ 30) (i : Nat) : 0 ≤ dv s i ∧ dv s i ≤ 31 := by
  have h1 := q0_bd h i
  have h2 := q0_bd h (i + 1)
  unfold dv; omega
theorem dt_bd {s : List ByteArray} (h : ∀ x ∈ s, x.size ≤ 30) : ∀ k, 0 ≤ dt s k ∧ dt s k ≤ 31 * (k : Int)
  | 0 => by simp [dt]
  | k + 1 => by
    have := dt_bd h k
    have := dv_bd h k
    unfold dt; omega
theorem vstr_size {l : List ByteArray} (h : vstr l = true) : l.length ≤ 40 ∧ ∀ s ∈ l, s.size ≤ 30 := by
  simp only [vstr, Bool.and_eq_true, decide_eq_true_eq, List.all_eq_true] at h
  exact ⟨h.1, fun s hs => by simpa [short] using h.2 s hs⟩
def dp (l : List ByteArray) : Int := if vstr l = true then (if l.length < 2 then 0 else dt (ss l) l.length) else 0
theorem dp_no {l : List ByteArray} (h : vstr l = false) : dp l = 0 := by simp [dp, h]
theorem dp_few {l : List ByteArray} (h : l.length < 2) : dp l = 0 := by unfold dp; split <;> simp [h]
theorem dp_yes {l : List ByteArray} (h : vstr l = true) (h2 : ¬ l.length < 2) : dp l = dt (ss l) l.length := by rw [dp, if_pos h, if_neg h2]

set_option maxHeartbeats 400000 in
theorem least_any (a b : Int) (w : World) : Calls Try.prog 60 #[.int .i64 a, .int .i64 b] w fun e w' => e = .returned (.int .i64 (min a b)) ∧ w = w' := by
  by_cases h : a < b
  · have HE := Lib.hid (show min a b = if a < b then min a b else min a b by simp)
    have HM := Lib.hid (show min a b = min a b from rfl)
    go_enter Try.func60, Try.ntmps60
    go_wp2
    all_goals
      go_ret
      exact ⟨ret_int (by omega), rfl⟩
  · go_enter Try.func60, Try.ntmps60
    go_wp2
    all_goals
      go_ret
      exact ⟨ret_int (by omega), rfl⟩
theorem most_any (a b : Int) (w : World) : Calls Try.prog 61 #[.int .i64 a, .int .i64 b] w fun e w' => e = .returned (.int .i64 (max a b)) ∧ w = w' := by
  by_cases h : a < b
  · have HE := Lib.hid (show max a b = if a < b then max a b else max a b by simp)
    have HM := Lib.hid (show max a b = max a b from rfl)
    go_enter Try.func61, Try.ntmps61
    go_wp2
    all_goals
      go_ret
      exact ⟨ret_int (by omega), rfl⟩
  · go_enter Try.func61, Try.ntmps61
    go_wp2
    all_goals
      go_ret
      exact ⟨ret_int (by omega), rfl⟩
set_option maxRecDepth 100000 in
set_option maxHeartbeats 2000000 in
theorem impl_any (A : Option Addr) (c : Nat) (l : List ByteArray) (w : World) (hn : l.length ≤ 1048576) (hs : ∀ s ∈ l, s.size ≤ 1048576) (hr : Rd w 1 A l.length (strs l)) :
    Calls Try.prog 14 #[.slice A l.length c] w fun e w' => e = .returned (.tuple #[.int .i64 (dp l), .bool (vstr l)]) ∧ Below w.heap.size w w' := by
  have HI := Lib.hid (validStr.impl_any A c l w (by unfold maxLen; omega) (fun s h => Nat.le_trans (hs s h) (by decide)) hr)
  clear hs
  cases hv : vstr l with
  | false =>
    have HR := Lib.hid (dp_no hv)
    rw [hv] at HI
    clear hv
    go_enter Try.func14, Try.ntmps14
    go_wp2_with fail
    refine HI.out.mono ?_
    rintro e w1 ⟨rfl, hb⟩
    go_wp2
    go_ret2
    exact ⟨by rw [HR.out]; rfl, hb⟩
  | true =>
    have hvs := vstr_size hv
    by_cases h2 : l.length < 2
    · have HR := Lib.hid (dp_few h2)
      rw [hv] at HI
      clear hv
      go_enter Try.func14, Try.ntmps14
      go_wp2_with fail
      refine HI.out.mono ?_
      rintro e w1 ⟨rfl, hb⟩
      go_wp2
      go_ret2
      exact ⟨by rw [HR.out]; rfl, hb⟩
    · have HR := Lib.hid (dp_yes hv h2)
      rw [hv] at HI
      clear hv
      have hsz : ∀ s ∈ ss l, s.size ≤ 30 := fun s h => hvs.2 s (ss_mem.1 h)
      have HSZ := Lib.hid hsz
      have hl40 := hvs.1
      have HSL := Lib.hid (ss_len l)
      clear hvs hsz
      go_enter Try.func14, Try.ntmps14
      go_wp2_with fail
      refine HI.out.mono ?_
      rintro e w1 ⟨rfl, hb⟩
      go_wp2_with fail
      refine (srtStr.sorted_any A c l w1 hn (hr.below hb)).mono ?_
      rintro e w2 ⟨v, rfl, ho, hb2⟩
      obtain ⟨A1, c1, rfl, hc1, hc2, hr1⟩ := own_form ho
      have hb3 := below_step hb hb2
      obtain ⟨S, hS⟩ : ∃ S, S = ss l := ⟨_, rfl⟩
      rw [← hS] at hr1 HSZ HSL HR
      clear hS ho
      have hSl : l.length ≤ S.length ∧ S.length ≤ l.length := by have := HSL.out; omega
      have hr2 : Rd w2 1 A1 S.length (strs S) := by rw [HSL.out]; exact hr1
      have hP := impl_pfx A1 c1 S w2 (by omega) (fun s h => Nat.le_trans (HSZ.out s h) (by decide)) hr2
      rw [HSL.out] at hP
      have HP := Lib.hid hP
      clear hP hr1
      go_wp2_with fail
      refine HP.out.mono ?_
      rintro e w3 ⟨v3, rfl, ho3, hb4⟩
      have hh : l.length ≤ 1099511627776 := by omega
      have hbs := hb4.size
      go_wp2_with (at_builtin; refine mem.push _ rfl _ _ 38 rfl w2.heap.size 3 _ 1 8 Try.underlying38 mem.info_int rfl Nat.one_pos _ _ _ rfl ho3 [.int .i64 ((0 : Int))] _ rfl (mem.ints_one [(0 : Int)]) rfl hh (by decide) hbs ?_; intro v' w' ho' hg')
      have hb5 := below_push hb4 hbs hg' ho3
      have hr3 := hr2.below hb5
      have hq : w'.ownsRow w2.heap.size 3 1 v' (q0 S).length (ints (q0 S)) := by rw [q0_len, HSL.out, q0, ints_app]; exact ho'
      obtain ⟨A5, c5, hve, _, _, hr5⟩ := own_form hq
      subst hve
      have HQL := Lib.hid (q0_len S)
      have hb6 := below_step hb3 hb5
      have HB6 := Lib.hid hb6
      clear ho' hg' ho3 hq hb4 hb5 hr2 hb6 hb3 hb2
      obtain ⟨wz, hwz⟩ : ∃ x : World, x = w' := ⟨_, rfl⟩
      subst hwz
      go_wp2
      go_loopg [5, 23] (l.length + 1) (fun f t i wr => ∃ k m : Nat, l.length < k + f ∧ k ≤ l.length ∧ i = .int .i64 (k : Int) ∧ t = .int .i64 (dt S k) ∧ wr = wz.drewN m)
      case atStart => exact ⟨0, 0, by omega, by omega, rfl, rfl, rfl⟩
      case round =>
        obtain ⟨k, m, hkf, hk, rfl, rfl, hwr⟩ := hrel
        have hra := hr3.drewN m
        have hrb := hr5.drewN m
        have hbr := below_drewN HB6.out m
        rw [← hwr] at hra hrb hbr
        have HWR := Lib.hid hwr
        clear hwr
        by_cases hlt : k < l.length
        · obtain ⟨b1, off1, rfl, hx⟩ := hra.str (k := k) (by omega)
          obtain ⟨b5, off5, rfl, hy⟩ := hrb.int (k := k) (by have := HQL.out; omega)
          have hy2 := hrb.int_at (k := k + 1) (by have := HQL.out; omega)
          have HD := Lib.hid (show dt S (k + 1) = dt S k + min (((S[k]'(by omega)).size : Nat) : Int) (1 + max ((q0 S)[k]'(by have := HQL.out; omega)) ((q0 S)[k + 1]'(by have := HQL.out; omega))) by
            rw [dt, dv, getD_s S (by omega), List.getD_eq_getElem?_getD, List.getD_eq_getElem?_getD, List.getElem?_eq_getElem (by have := HQL.out; omega), List.getElem?_eq_getElem (by have := HQL.out; omega)]; rfl)
          have g1 := q0_bd HSZ.out k
          have g2 := q0_bd HSZ.out (k + 1)
          rw [List.getD_eq_getElem?_getD, List.getElem?_eq_getElem (by have := HQL.out; omega), Option.getD_some] at g1 g2
          have g3 := HSZ.out _ (List.getElem_mem (show k < S.length by omega))
          have g4 := dt_bd HSZ.out k
          generalize S[k]'(by omega) = x at hx HD g3
          generalize (q0 S)[k]'(by have := HQL.out; omega) = y at hy HD g1
          generalize (q0 S)[k + 1]'(by have := HQL.out; omega) = y2 at hy2 HD g2
          generalize dt S k = t0 at HD g4
          have p1 : (k : Int) < (l.length : Int) := by omega
          have p2 : IntKind.i64.wrap ((k : Int) + 1) = (k : Int) + 1 := IntWalk.i64_in _ (by omega)
          have p3 : (0 : Int) ≤ (k : Int) + 1 := by omega
          have p4 : ((k : Int) + 1).toNat = k + 1 := by omega
          have p5 : (k : Int) + 1 < ((q0 S).length : Int) := by have := HQL.out; omega
          have p6 : (k : Int) < ((q0 S).length : Int) := by have := HQL.out; omega
          have p7 : IntKind.i64.wrap (1 + max y y2) = 1 + max y y2 := IntWalk.i64_in _ (by omega)
          have p8 : IntKind.i64.wrap (t0 + min (x.size : Int) (1 + max y y2)) = t0 + min (x.size : Int) (1 + max y y2) := IntWalk.i64_in _ (by omega)
          go_wp2_with fail
          go_quiet (fail)
          go_wp2
          go_roundg (gk - 1)
          case measure => omega
          case rel => exact ⟨k + 1, m + nq, by omega, by omega, by go_num, by rw [HD.out], by rw [HWR.out, World.drewN_drewN]⟩
        · have HE := Lib.hid (show dt S k = dp l by rw [HR.out, show k = l.length by omega])
          go_wp2
          go_ret2
          exact ⟨by rw [← HE.out]; rfl, hbr⟩
set_option maxRecDepth 100000 in
set_option maxHeartbeats 2000000 in
theorem spec_any (A : Option Addr) (c : Nat) (l : List ByteArray) (w : World) (hn : l.length ≤ 1048576) (hs : ∀ s ∈ l, s.size ≤ 1048576) (hr : Rd w 1 A l.length (strs l)) :
    Calls Try.prog 40 #[.slice A l.length c] w fun e w' => e = .returned (.tuple #[.int .i64 (dp l), .bool (vstr l)]) ∧ Below w.heap.size w w' := by
  have HI := Lib.hid (validStr.list_any A c l w (by unfold maxLen; omega) (fun s h => Nat.le_trans (hs s h) (by decide)) hr)
  clear hs
  cases hv : vstr l with
  | false =>
    have HR := Lib.hid (dp_no hv)
    rw [hv] at HI
    clear hv
    go_enter Try.func40, Try.ntmps40
    go_wp2_with fail
    refine HI.out.mono ?_
    rintro e w1 ⟨rfl, rfl⟩
    go_wp2
    go_ret2
    exact ⟨by rw [HR.out]; rfl, Below.refl _ _⟩
  | true =>
    have hvs := vstr_size hv
    have HDP := Lib.hid (show dp l = if l.length < 2 then 0 else dt (ss l) l.length by rw [dp, if_pos hv])
    rw [hv] at HI
    clear hv
    have hsz : ∀ s ∈ ss l, s.size ≤ 30 := fun s h => hvs.2 s (ss_mem.1 h)
    have HSZ := Lib.hid hsz
    have hl40 := hvs.1
    have HSL := Lib.hid (ss_len l)
    clear hvs hsz
    go_enter Try.func40, Try.ntmps40
    go_wp2_with fail
    refine HI.out.mono ?_
    rintro e w1 ⟨rfl, rfl⟩
    go_wp2_with fail
    refine (srtStr.spec_self A c l w hn hr).mono ?_
    rintro e w2 ⟨v, rfl, ho, hb3⟩
    obtain ⟨A1, c1, rfl, hc1, hc2, hr1⟩ := own_form ho
    obtain ⟨S, hS⟩ : ∃ S, S = ss l := ⟨_, rfl⟩
    rw [← hS] at hr1 HSZ HSL HDP
    clear hS ho
    have hSl : l.length ≤ S.length ∧ S.length ≤ l.length := by have := HSL.out; omega
    have hr2 : Rd w2 1 A1 S.length (strs S) := by rw [HSL.out]; exact hr1
    have hP := spec_pfx A1 c1 S w2 (by omega) (fun s h => Nat.le_trans (HSZ.out s h) (by decide)) hr2
    rw [HSL.out] at hP
    have HP := Lib.hid hP
    clear hP hr1
    go_wp2_with fail
    refine HP.out.mono ?_
    rintro e w3 ⟨v3, rfl, ho3, hb4⟩
    have hh : l.length ≤ 1099511627776 := by omega
    have hbs := hb4.size
    go_wp2_with (at_builtin; refine mem.push _ rfl _ _ 38 rfl w2.heap.size 3 _ 1 8 Try.underlying38 mem.info_int rfl Nat.one_pos _ _ _ rfl ho3 [.int .i64 ((0 : Int))] _ rfl (mem.ints_one [(0 : Int)]) rfl hh (by decide) hbs ?_; intro v' w' ho' hg')
    have hb5 := below_push hb4 hbs hg' ho3
    have hr3 := hr2.below hb5
    have hq : w'.ownsRow w2.heap.size 3 1 v' (q0 S).length (ints (q0 S)) := by rw [q0_len, HSL.out, q0, ints_app]; exact ho'
    obtain ⟨A5, c5, hve, _, _, hr5⟩ := own_form hq
    subst hve
    have HQL := Lib.hid (q0_len S)
    have HB6 := Lib.hid (below_step hb3 hb5)
    clear ho' hg' ho3 hq hb4 hb5 hr2 hb3
    obtain ⟨wz, hwz⟩ : ∃ x : World, x = w' := ⟨_, rfl⟩
    subst hwz
    by_cases h2 : l.length < 2
    · have HE := Lib.hid (show dp l = 0 by rw [HDP.out, if_pos h2])
      have p1 : decide (1 < l.length) = false := decide_eq_false (by omega)
      have p2 : decide ((1 : Int) < (l.length : Int)) = false := decide_eq_false (by omega)
      by_cases h0 : l.length = 0
      · have p3 : decide (0 < l.length) = false := decide_eq_false (by omega)
        clear h0
        go_wp2
        refine wp_loop_rounds 1 ?_
        rw [rounds_succ]
        go_wp2
        go_ret2
        exact ⟨by rw [HE.out]; rfl, HB6.out⟩
      · have p3 : 0 < l.length := by omega
        clear h0
        go_wp2
        refine wp_loop_rounds 1 ?_
        rw [rounds_succ]
        go_wp2
        go_ret2
        exact ⟨by rw [HE.out]; rfl, HB6.out⟩
    have HR := Lib.hid (show dp l = dt S l.length by rw [HDP.out, if_neg h2])
    have p0 : 1 < l.length := by omega
    go_wp2
    go_loopg [6, 7] (l.length + 1) (fun f t i wr => ∃ k m : Nat, l.length < k + f ∧ k ≤ l.length ∧ i = .int .i64 (k : Int) ∧ t = .int .i64 (dt S k) ∧ wr = wz.drewN m)
    case atStart => exact ⟨0, 0, by omega, by omega, rfl, rfl, rfl⟩
    case round =>
      obtain ⟨k, m, hkf, hk, rfl, rfl, hwr⟩ := hrel
      have hra := hr3.drewN m
      have hrb := hr5.drewN m
      have hbr := below_drewN HB6.out m
      rw [← hwr] at hra hrb hbr
      have HWR := Lib.hid hwr
      clear hwr
      by_cases hlt : k < l.length
      · obtain ⟨b1, off1, rfl, hx⟩ := hra.str (k := k) (by omega)
        obtain ⟨b5, off5, rfl, hy⟩ := hrb.int (k := k) (by have := HQL.out; omega)
        have hy2 := hrb.int_at (k := k + 1) (by have := HQL.out; omega)
        have HD := Lib.hid (show dt S (k + 1) = dt S k + min (((S[k]'(by omega)).size : Nat) : Int) (1 + max ((q0 S)[k]'(by have := HQL.out; omega)) ((q0 S)[k + 1]'(by have := HQL.out; omega))) by
          rw [dt, dv, getD_s S (by omega), List.getD_eq_getElem?_getD, List.getD_eq_getElem?_getD, List.getElem?_eq_getElem (by have := HQL.out; omega), List.getElem?_eq_getElem (by have := HQL.out; omega)]; rfl)
        have g1 := q0_bd HSZ.out k
        have g2 := q0_bd HSZ.out (k + 1)
        rw [List.getD_eq_getElem?_getD, List.getElem?_eq_getElem (by have := HQL.out; omega), Option.getD_some] at g1 g2
        have g3 := HSZ.out _ (List.getElem_mem (show k < S.length by omega))
        have g4 := dt_bd HSZ.out k
        generalize S[k]'(by omega) = x at hx HD g3
        generalize (q0 S)[k]'(by have := HQL.out; omega) = y at hy HD g1
        generalize (q0 S)[k + 1]'(by have := HQL.out; omega) = y2 at hy2 HD g2
        generalize dt S k = t0 at HD g4
        have p1 : (k : Int) < (l.length : Int) := by omega
        have p2 : IntKind.i64.wrap ((k : Int) + 1) = (k : Int) + 1 := IntWalk.i64_in _ (by omega)
        have p3 : (0 : Int) ≤ (k : Int) + 1 := by omega
        have p4 : ((k : Int) + 1).toNat = k + 1 := by omega
        have p5 : (k : Int) + 1 < ((q0 S).length : Int) := by have := HQL.out; omega
        have p6 : (k : Int) < ((q0 S).length : Int) := by have := HQL.out; omega
        have p7 : IntKind.i64.wrap (1 + max y y2) = 1 + max y y2 := IntWalk.i64_in _ (by omega)
        have p8 : IntKind.i64.wrap (t0 + min (x.size : Int) (1 + max y y2)) = t0 + min (x.size : Int) (1 + max y y2) := IntWalk.i64_in _ (by omega)
        go_wp2_with fail
        go_quiet ((first | (go_at_call 60; exact quiet_eq (least_any _ _ _)) | (go_at_call 61; exact quiet_eq (most_any _ _ _))))
        go_wp2
        go_roundg (gk - 1)
        case measure => omega
        case rel => exact ⟨k + 1, m + nq, by omega, by omega, by go_num, by rw [HD.out], by rw [HWR.out, World.drewN_drewN]⟩
      · have HE := Lib.hid (show dt S k = dp l by rw [HR.out, show k = l.length by omega])
        have q1 : decide (k < l.length) = false := by simpa using hlt
        go_wp2
        go_ret2
        exact ⟨by rw [← HE.out]; rfl, hbr⟩
end Go.Proofs.Ytaeimdcmpjanbaa.disPre
