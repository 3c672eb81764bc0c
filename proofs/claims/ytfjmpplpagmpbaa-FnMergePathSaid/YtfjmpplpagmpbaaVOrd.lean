/- vOrdered: the laws' own insertion sort; rCount: how often a number stands in a list. Condition: at most 2^20 elements. -/
import Derived.Test.YtfjmpplpagmpbaaStbLaw
import Derived.Test.YtfjmpplpagmpbaaSrtLaw
import Derived.Test.YtfjmpplpagmpbaaCopyInt
import Derived.Test.YtfjmpplpagmpbaaMemAt
import Derived.Deep.LoopGhost
set_option linter.unusedVariables false
set_option linter.unusedSimpArgs false
namespace Go.Proofs.Ytfjmpplpagmpbaa.vord
open Go.RowKit Go.Proofs.Ytfjmpplpagmpbaa.mem Go.Proofs.Ytfjmpplpagmpbaa.stb Go.Proofs.Ytfjmpplpagmpbaa.srt

def ltI (x y : Int) : Bool := decide (x < y)
theorem weakI : Weak ltI := weak_up id
theorem stab_srt (l : List Int) : stab ltI l = srt l :=
  srt_uniq (stab_perm l) ((stab_asc weakI l).imp fun h => by simpa [ltI] using h)
/-- the row while x finds its place: the hole stands at k -/
def hol (S R : List Int) (h : Int) (k : Nat) : List Int := S.take k ++ h :: (S.drop k ++ R)
theorem hol_len (S R : List Int) (h : Int) {k : Nat} (hk : k ≤ S.length) : (hol S R h k).length = S.length + 1 + R.length := by
  simp [hol]; omega
theorem hol_left (S R : List Int) (h : Int) {k : Nat} (hk : k < S.length) : (hol S R h (k + 1)).getD k 0 = S[k] := by
  rw [hol, List.getD_eq_getElem?_getD, List.getElem?_append_left (by rw [List.length_take]; omega), List.getElem?_take, if_pos (by omega), List.getElem?_eq_getElem hk]; rfl
theorem hol_shift (S R : List Int) (h : Int) {k : Nat} (hk : k < S.length) : (hol S R h (k + 1)).set (k + 1) S[k] = hol S R S[k] k := by
  have hl : (S.take (k + 1)).length = k + 1 := by rw [List.length_take]; omega
  have e : S.take (k + 1) = S.take k ++ [S[k]] := List.take_succ_eq_append_getElem hk
  rw [hol, List.set_append_right _ _ (by omega), hl, Nat.sub_self, List.set_cons_zero, e, hol, List.drop_eq_getElem_cons hk, List.append_assoc]
  rfl
theorem hol_put (S R : List Int) (h x : Int) {k : Nat} (hk : k ≤ S.length) : (hol S R h k).set k x = hol S R x k := by
  have hl : (S.take k).length = k := by rw [List.length_take]; omega
  rw [hol, List.set_append_right _ _ (by omega), hl, Nat.sub_self, List.set_cons_zero, hol]
theorem hol_ins (S R : List Int) (x : Int) {k : Nat} (h : pos ltI x S S.length = k) : hol S R x k = insR ltI S x ++ R := by
  subst h; simp [hol, insR]
theorem hol_start (S R : List Int) (x : Int) : S ++ x :: R = hol S R x S.length := by simp [hol]
def st (zs : List Int) (i : Nat) : List Int := stab ltI (zs.take i) ++ zs.drop i
theorem st_len (zs : List Int) (i : Nat) : (st zs i).length = zs.length := by
  rw [st, List.length_append, stab_len, List.length_take, List.length_drop]; omega
theorem st_one (zs : List Int) : st zs 1 = zs := by
  cases zs with
  | nil => rfl
  | cons a l => simp [st, stab_one]
theorem st_at (zs : List Int) {i : Nat} (h : i < zs.length) : st zs i = hol (stab ltI (zs.take i)) (zs.drop (i + 1)) zs[i] i ∧ (stab ltI (zs.take i)).length = i := by
  have hl : (stab ltI (zs.take i)).length = i := by rw [stab_len, List.length_take]; omega
  refine ⟨?_, hl⟩
  have := hol_start (stab ltI (zs.take i)) (zs.drop (i + 1)) zs[i]
  rw [hl] at this
  rw [st, List.drop_eq_getElem_cons h, this]
theorem st_step (zs : List Int) {i : Nat} (h : i < zs.length) : st zs (i + 1) = insR ltI (stab ltI (zs.take i)) zs[i] ++ zs.drop (i + 1) := by
  rw [st, stab_take zs h]
theorem st_end (zs : List Int) {i : Nat} (h : zs.length ≤ i) : st zs i = srt zs := by
  rw [st, List.take_of_length_le h, List.drop_of_length_le h, List.append_nil, stab_srt]
set_option maxRecDepth 100000 in
set_option maxHeartbeats 4000000 in
theorem ord_any (A : Option Addr) (c : Nat) (zs : List Int) (w : World) (hn : zs.length ≤ 1048576) (hr : Rd w 1 A zs.length (ints zs)) :
    Calls Try.prog 44 #[.slice A zs.length c] w fun e w' => ∃ v, e = .returned v ∧ w'.ownsRow w.heap.size 3 1 v zs.length (ints (srt zs)) ∧ Below w.heap.size w w' := by
  have hh : 0 + zs.length ≤ 1099511627776 := by omega
  have h0 := World.ownsRow_made (e := 3) (size := 1) w #[] 0 (Nat.le_refl _) (Nat.zero_le _) (by simp)
  have hb0 : Below w.heap.size w (w.alloc (.cells #[] 3)) := (Below.refl _ _).alloc (Nat.le_refl _) _
  have hs0 := hb0.size
  have hr0 := hr.alloc (.cells #[] 3)
  go_enter Try.func44, Try.ntmps44
  go_wp2_with (at_builtin; refine mem.extend _ rfl _ _ 22 rfl w.heap.size 3 _ 1 8 Try.underlying22 mem.info_int rfl Nat.one_pos _ _ _ rfl h0 _ _ _ _ rfl hr0 (mem.ints_one _) hh (by decide) hs0 ?_; intro v' w' ho' hg')
  have hb := below_push hb0 hs0 hg' h0
  simp only [Nat.zero_add, List.nil_append] at ho'
  clear hg' h0 hb0 hs0 hr0 hh
  obtain ⟨w1, hw1⟩ : ∃ w1 : World, w1 = w' := ⟨_, rfl⟩
  rw [← hw1] at ho' hb
  rw [← hw1]
  clear hw1
  by_cases hz : zs.length = 0
  · have HE := Lib.hid (show srt zs = zs by rw [List.eq_nil_of_length_eq_zero hz, ← stab_srt]; rfl)
    obtain ⟨A1, c1, rfl, _, _, _⟩ := own_form ho'
    have q0 : ¬ (1 : Int) < (zs.length : Int) := by omega
    clear hz
    refine wp_loop_rounds 1 ?_
    rw [rounds_succ]
    go_wp2
    go_ret
    exact ⟨_, rfl, by rw [HE.out]; exact ho', hb⟩
  · rcases ho'.2 with ⟨rfl, h00⟩ | ⟨g, cap, cur, rfl, hbg, hg, _⟩
    · exact absurd h00 hz
    · have HO := Lib.hid ho'
      clear ho' hg
      go_loopg [4] (zs.length + 1) (fun f i wr => ∃ k : Nat, zs.length < k + f ∧ 1 ≤ k ∧ k ≤ zs.length ∧ i = .int .i64 (k : Int) ∧ wr.ownsRow w.heap.size 3 1 (.slice (some ⟨g, 0, none⟩) zs.length cap) zs.length (ints (st zs k)) ∧ Below w.heap.size w wr)
      case atStart => exact ⟨1, by omega, by omega, by omega, rfl, by rw [st_one]; exact HO.out, hb⟩
      case round =>
        obtain ⟨k, hkf, hk1, hk, rfl, ho, hbr⟩ := hrel
        by_cases hlt : k < zs.length
        · obtain ⟨e1, e2⟩ := st_at zs hlt
          have HSS := Lib.hid (st_step zs hlt)
          obtain ⟨S, hS⟩ : ∃ S, S = stab ltI (zs.take k) := ⟨_, rfl⟩
          obtain ⟨R, hR⟩ : ∃ R, R = zs.drop (k + 1) := ⟨_, rfl⟩
          have HRL := Lib.hid (show R.length = zs.length - (k + 1) by rw [hR, List.length_drop])
          rw [← hS, ← hR] at e1 HSS
          rw [← hS] at e2
          rw [e1] at ho
          have HSL := Lib.hid e2
          clear e1 e2 hS hR
          generalize zs[k] = x at ho HSS
          have hlx : (hol S R x k).length = zs.length := by rw [hol_len S R x (by rw [HSL.out]; exact Nat.le_refl _), HSL.out, HRL.out]; omega
          have hcx := own_cell ho (ints_getD (hol S R x k) k (by omega))
          have hxv : (hol S R x k).getD k 0 = x := by
            rw [hol, List.getD_eq_getElem?_getD, List.getElem?_append_right (by rw [List.length_take]; omega), List.length_take, HSL.out, Nat.min_self, Nat.sub_self]; rfl
          rw [hxv] at hcx
          have q1 : (k : Int) < (zs.length : Int) := by omega
          obtain ⟨wo, hwo⟩ : ∃ wo : World, wo = wr := ⟨_, rfl⟩
          rw [← hwo] at ho hbr hcx
          rw [← hwo]
          have HO2 := Lib.hid (And.intro ho hbr)
          clear hwo ho hbr hlx hxv
          go_wp2
          clear hcx
          go_loopg [6] (k + 1) (fun f s wi => ∃ (j : Nat) (hv : Int), j < f ∧ j ≤ k ∧ s = .int .i64 (j : Int) ∧ pos ltI x S S.length = pos ltI x S j ∧ wi.ownsRow w.heap.size 3 1 (.slice (some ⟨g, 0, none⟩) zs.length cap) zs.length (ints (hol S R hv j)) ∧ Below w.heap.size w wi)
          case atStart => exact ⟨k, x, by omega, by omega, rfl, by rw [HSL.out], HO2.out.1, HO2.out.2⟩
          case round =>
            obtain ⟨j, hv, hjf, hj, rfl, hp, ho, hb2⟩ := hrel
            have HP := Lib.hid hp
            have hjS : j ≤ S.length := by rw [HSL.out]; exact hj
            have hlen : (hol S R hv j).length = zs.length := by rw [hol_len S R hv hjS, HSL.out, HRL.out]; omega
            have q2 : (j : Int) < (zs.length : Int) := by omega
            clear hp
            by_cases h0 : j = 0
            · have HE := Lib.hid (show pos ltI x S S.length = j by rw [HP.out, h0]; rfl)
              have q3 : ¬ (0 : Int) < (j : Int) := by omega
              have q3n : ¬ 0 < j := by omega
              have c1 := own_cell ho (ints_getD (hol S R hv j) j (by omega))
              have f1 := own_thaw ho j
              have ho2 := own_put ho (i := j) (by rw [len_ints]; omega) (.int .i64 x)
              rw [ints_set, hol_put S R hv x hjS, hol_ins S R x HE.out, ← HSS.out] at ho2
              have hb3 := hb2.setCell (p := ⟨g, j, none⟩) hbg (.int .i64 x)
              clear ho hb2 h0
              go_wp2
              go_roundg (zs.length - k)
              case measure => omega
              case rel => exact ⟨k + 1, by omega, by omega, by omega, by go_num, ho2, hb3⟩
            · obtain ⟨t, rfl⟩ : ∃ t, j = t + 1 := ⟨j - 1, by omega⟩
              have htS : t < S.length := by omega
              have c0 := own_cell ho (ints_getD (hol S R hv (t + 1)) t (by omega))
              rw [hol_left S R hv htS] at c0
              have HD := Lib.hid (fun (h : ltI x S[t] = true) => pos_down htS h)
              have HSt := Lib.hid (fun (h : ltI x S[t] = false) => pos_stop htS h)
              have HSH := Lib.hid (hol_shift S R hv htS)
              have HLT := Lib.hid (show ltI x S[t] = decide (x < S[t]) from rfl)
              have c1 := own_cell ho (ints_getD (hol S R hv (t + 1)) (t + 1) (by omega))
              have f1 := own_thaw ho (t + 1)
              generalize S[t] = y at c0 HD HSt HSH HLT
              have q3 : (0 : Int) < ((t + 1 : Nat) : Int) := by omega
              have q3n : 0 < t + 1 := by omega
              have q4 : ((t + 1 : Nat) : Int) - 1 = (t : Int) := by omega
              have q5 : IntKind.i64.wrap (((t + 1 : Nat) : Int) - 1) = (t : Int) := by rw [IntWalk.i64_in _ (by omega)]; omega
              have q6 : (t : Int) < (zs.length : Int) := by omega
              by_cases hxy : x < y
              · have HE := Lib.hid (show pos ltI x S S.length = pos ltI x S t by rw [HP.out, HD.out (by rw [HLT.out]; exact decide_eq_true hxy)])
                have ho2 := own_put ho (i := t + 1) (by rw [len_ints]; omega) (.int .i64 y)
                rw [ints_set, HSH.out] at ho2
                have hb3 := hb2.setCell (p := ⟨g, t + 1, none⟩) hbg (.int .i64 y)
                clear ho hb2
                go_wp2
                go_roundg (gk - 1)
                case measure => omega
                case rel => exact ⟨t, y, by omega, by omega, by go_num, HE.out, ho2, hb3⟩
              · have HE := Lib.hid (show pos ltI x S S.length = t + 1 by rw [HP.out, HSt.out (by rw [HLT.out]; exact decide_eq_false hxy)])
                have q7 : decide (x < y) = false := decide_eq_false hxy
                have ho2 := own_put ho (i := t + 1) (by rw [len_ints]; omega) (.int .i64 x)
                rw [ints_set, hol_put S R hv x hjS, hol_ins S R x HE.out, ← HSS.out] at ho2
                have hb3 := hb2.setCell (p := ⟨g, t + 1, none⟩) hbg (.int .i64 x)
                clear ho hb2
                go_wp2
                go_roundg (zs.length - k)
                case measure => omega
                case rel => exact ⟨k + 1, by omega, by omega, by omega, by go_num, ho2, hb3⟩
        · have HE := Lib.hid (st_end zs (show zs.length ≤ k by omega))
          have q1 : ¬ (k : Int) < (zs.length : Int) := by omega
          rw [HE.out] at ho
          go_wp2
          go_ret
          exact ⟨_, rfl, ho, hbr⟩
end Go.Proofs.Ytfjmpplpagmpbaa.vord
