/- The reference's matches: l16Beats. Condition: at most 2^20 leaves. -/
import Derived.Test.YtgffabjajbgbjaaTnI
set_option linter.unusedVariables false
set_option linter.unusedSimpArgs false
namespace Go.Proofs.Ytgffabjajbgbjaa.tn
open Go.RowKit Go.Proofs.Ytgffabjajbgbjaa.mem

set_option maxRecDepth 100000 in
set_option maxHeartbeats 2000000 in
theorem beatsS_any (w : World) (i m k kb ko kc db dd dc : Nat) (ks : List Int) (ds : List Bool) (hk : ks.length = k) (hd : ds.length = k) (hi : i < k) (hm : m < k) (hn : k ≤ 1048576)
    (hrk : Rd w 1 (some ⟨kb, ko, none⟩) k (ints ks)) (hrd : Rd w 1 (some ⟨db, dd, none⟩) k (bools ds)) :
    Calls Try.prog 111 #[.slice (some ⟨kb, ko, none⟩) k kc, .slice (some ⟨db, dd, none⟩) k dc, .int .i64 i, .int .i64 m] w fun e w' => e = .returned (.bool (bt ks ds i m)) ∧ ∃ n, w' = w.drewN n := by
  have hi1 : i < ks.length := by omega
  have hm1 : m < ks.length := by omega
  have hi2 : i < ds.length := by omega
  have hm2 : m < ds.length := by omega
  have HBT := Lib.hid (bt_at hi1 hm1 hi2 hm2)
  have k1 := Rd.int_at (zs := ks) (by rw [hk]; exact hrk) hi1
  have k2 := Rd.int_at (zs := ks) (by rw [hk]; exact hrk) hm1
  have d1 := Rd.bool_at (bs := ds) (by rw [hd]; exact hrd) hi2
  have d2 := Rd.bool_at (bs := ds) (by rw [hd]; exact hrd) hm2
  generalize ds[i] = p at HBT d1
  generalize ds[m] = q at HBT d2
  generalize ks[i] = a at HBT k1
  generalize ks[m] = b at HBT k2
  have q1 : (i : Int) < (k : Int) := by omega
  have q2 : (m : Int) < (k : Int) := by omega
  clear hrk hrd hk hd hi1 hm1 hi2 hm2
  generalize bt ks ds i m = R at HBT
  cases p <;> cases q
  case false.true =>
    go_enter Try.func111, Try.ntmps111
    go_wp2_with fail
    go_quiet (fail)
    go_wp2
    go_ret
    exact ⟨ret_bool (by rw [HBT.out]; rfl), _, rfl⟩
  case true.false =>
    go_enter Try.func111, Try.ntmps111
    go_wp2_with fail
    go_quiet (fail)
    go_wp2
    go_ret
    exact ⟨ret_bool (by rw [HBT.out]; rfl), _, rfl⟩
  all_goals
    by_cases he : a = b
    · subst he
      have s5 : (a == a) = true := by simp
      by_cases him : i < m
      · have s4 : (i : Int) < (m : Int) := by omega
        have HR := Lib.hid (show R = true by rw [HBT.out]; simp [him])
        go_enter Try.func111, Try.ntmps111
        go_wp2_with fail
        go_quiet (fail)
        go_wp2_with fail
        go_quiet (fail)
        go_wp2
        go_ret
        exact ⟨ret_bool (by rw [HR.out]), _, by first | rfl | exact World.drewN_drewN _ _ _ | (rw [World.drewN_drewN, World.drewN_drewN])⟩
      · have s4 : ¬ (i : Int) < (m : Int) := by omega
        have HR := Lib.hid (show R = false by rw [HBT.out]; simp [him])
        go_enter Try.func111, Try.ntmps111
        go_wp2_with fail
        go_quiet (fail)
        go_wp2_with fail
        go_quiet (fail)
        go_wp2
        go_ret
        exact ⟨ret_bool (by rw [HR.out]), _, by first | rfl | exact World.drewN_drewN _ _ _ | (rw [World.drewN_drewN, World.drewN_drewN])⟩
    · have s5 : (a == b) = false := by simpa using he
      have HR := Lib.hid (show R = decide (a < b) by rw [HBT.out]; simp [he])
      go_enter Try.func111, Try.ntmps111
      go_wp2_with fail
      go_quiet (fail)
      go_wp2_with fail
      go_quiet (fail)
      go_wp2_with fail
      go_quiet (fail)
      go_wp2
      go_ret
      exact ⟨ret_bool (by rw [HR.out]), _, by first | rfl | exact World.drewN_drewN _ _ _ | (rw [World.drewN_drewN, World.drewN_drewN])⟩
end Go.Proofs.Ytgffabjajbgbjaa.tn
