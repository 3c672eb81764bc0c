/- The program's tournament tree: beats, play, treeOf, pathLength. Condition: at most 2^20 leaves. -/
import Derived.Test.YtgffabjajbgbjaaTnLaw
import Derived.Test.YtgffabjajbgbjaaBls
import Derived.Test.YtgffabjajbgbjaaCopyInt
import Derived.Test.YtgffabjajbgbjaaCut
import Derived.Deep.QuietTactic
import Derived.Deep.LoopGhost
import Derived.Lib.QuietBelow
set_option linter.unusedVariables false
set_option linter.unusedSimpArgs false
namespace Go.Proofs.Ytgffabjajbgbjaa.tn
open Go.RowKit Go.Proofs.Ytgffabjajbgbjaa.mem

theorem bt_at {ks : List Int} {ds : List Bool} {i m : Nat} (h1 : i < ks.length) (h2 : m < ks.length) (h3 : i < ds.length) (h4 : m < ds.length) :
    bt ks ds i m = if (ds[i] != ds[m]) = true then ds[m] else decide (ks[i] < ks[m]) || (decide (ks[i] = ks[m]) && decide (i < m)) := by
  unfold bt
  simp only [List.getD_eq_getElem?_getD, List.getElem?_eq_getElem h1, List.getElem?_eq_getElem h2, List.getElem?_eq_getElem h3, List.getElem?_eq_getElem h4, Option.getD_some]
set_option maxRecDepth 100000 in
set_option maxHeartbeats 2000000 in
theorem beats_any (w : World) (g i m k kb ko kc db dd dc : Nat) (L Wn : Value) (ks : List Int) (ds : List Bool) (hk : ks.length = k) (hd : ds.length = k) (hi : i < k) (hm : m < k) (hn : k ≤ 1048576)
    (hB : Blk w g 96 #[.slice (some ⟨kb, ko, none⟩) k kc, .slice (some ⟨db, dd, none⟩) k dc, L, Wn]) (hrk : Rd w 1 (some ⟨kb, ko, none⟩) k (ints ks)) (hrd : Rd w 1 (some ⟨db, dd, none⟩) k (bools ds)) :
    Calls Try.prog 115 #[.pointer (some ⟨g, 0, none⟩), .int .i64 i, .int .i64 m] w fun e w' => e = .returned (.bool (bt ks ds i m)) ∧ ∃ n, w' = w.drewN n := by
  have hi1 : i < ks.length := by omega
  have hm1 : m < ks.length := by omega
  have hi2 : i < ds.length := by omega
  have hm2 : m < ds.length := by omega
  have HBT := Lib.hid (bt_at hi1 hm1 hi2 hm2)
  have c0 := hB.cell 0
  have c1 := hB.cell 1
  have k1 := Rd.int_at (zs := ks) (by rw [hk]; exact hrk) hi1
  have k2 := Rd.int_at (zs := ks) (by rw [hk]; exact hrk) hm1
  have d1 := Rd.bool_at (bs := ds) (by rw [hd]; exact hrd) hi2
  have d2 := Rd.bool_at (bs := ds) (by rw [hd]; exact hrd) hm2
  generalize ds[i] = p at HBT d1
  generalize ds[m] = q at HBT d2
  generalize ks[i] = a at HBT k1
  generalize ks[m] = b at HBT k2
  simp only [List.getElem?_toArray, List.getElem?_cons_zero, List.getElem?_cons_succ] at c0 c1
  have q1 : (i : Int) < (k : Int) := by omega
  have q2 : (m : Int) < (k : Int) := by omega
  clear hrk hrd hB hk hd hi1 hm1 hi2 hm2
  generalize bt ks ds i m = R at HBT
  cases p <;> cases q
  case false.true =>
    go_enter Try.func115, Try.ntmps115
    go_wp2_with fail
    go_quiet (fail)
    go_wp2
    go_ret
    exact ⟨ret_bool (by rw [HBT.out]; rfl), _, rfl⟩
  case true.false =>
    go_enter Try.func115, Try.ntmps115
    go_wp2_with fail
    go_quiet (fail)
    go_wp2
    go_ret
    exact ⟨ret_bool (by rw [HBT.out]; rfl), _, rfl⟩
  all_goals
    by_cases hab : a < b
    · have s1 : decide (a < b) = true := by simpa using hab
      have HR := Lib.hid (show R = true by rw [HBT.out]; simp [hab])
      go_enter Try.func115, Try.ntmps115
      go_wp2_with fail
      go_quiet (fail)
      go_wp2_with fail
      go_quiet (fail)
      go_wp2
      go_ret
      exact ⟨ret_bool (by rw [HR.out]), _, by first | rfl | exact World.drewN_drewN _ _ _⟩
    · have s1 : decide (a < b) = false := by simpa using hab
      by_cases he : a = b
      · subst he
        have s2 : decide (a = a) = true := by simp
        by_cases him : i < m
        · have s3 : decide ((i : Int) < (m : Int)) = true := by simp; omega
          have s4 : (i : Int) < (m : Int) := by omega
          have HR := Lib.hid (show R = true by rw [HBT.out]; simp [him])
          go_enter Try.func115, Try.ntmps115
          go_wp2_with fail
          go_quiet (fail)
          go_wp2_with fail
          go_quiet (fail)
          go_wp2
          go_ret
          exact ⟨ret_bool (by rw [HR.out]), _, by first | rfl | exact World.drewN_drewN _ _ _⟩
        · have s3 : decide ((i : Int) < (m : Int)) = false := by simp; omega
          have s4 : ¬ (i : Int) < (m : Int) := by omega
          have HR := Lib.hid (show R = false by rw [HBT.out]; simp [him])
          go_enter Try.func115, Try.ntmps115
          go_wp2_with fail
          go_quiet (fail)
          go_wp2_with fail
          go_quiet (fail)
          go_wp2
          go_ret
          exact ⟨ret_bool (by rw [HR.out]), _, by first | rfl | exact World.drewN_drewN _ _ _⟩
      · have s2 : decide (a = b) = false := by simpa using he
        have s5 : (a == b) = false := by simpa using he
        have HR := Lib.hid (show R = false by rw [HBT.out]; simp [he, hab])
        go_enter Try.func115, Try.ntmps115
        go_wp2_with fail
        go_quiet (fail)
        go_wp2_with fail
        go_quiet (fail)
        go_wp2
        go_ret
        exact ⟨ret_bool (by rw [HR.out]), _, by first | rfl | exact World.drewN_drewN _ _ _⟩
end Go.Proofs.Ytgffabjajbgbjaa.tn
