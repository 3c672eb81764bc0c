/- The splits of a merge into parts, the program's and the reference's. No condition beyond 2^20 elements. -/
import Derived.Test.YtfjmpplpagmpbaaPath
set_option linter.unusedVariables false
set_option linter.unusedSimpArgs false
namespace Go.Proofs.Ytfjmpplpagmpbaa.pathParts
open Go.RowKit Go.Proofs.Ytfjmpplpagmpbaa.mem Go.Proofs.Ytfjmpplpagmpbaa.lists Go.Proofs.Ytfjmpplpagmpbaa.paths
open Go.Proofs.Ytfjmpplpagmpbaa.ins (inB inB_true inB_false inB_iff)

/-- the first k splits of p parts -/
def parts (a b : List Int) (p k : Nat) : List Int := (List.range k).map fun (i : Nat) => ((split a b (i * (a.length + b.length) / p)).1 : Int)
theorem parts_len (a b : List Int) (p k : Nat) : (parts a b p k).length = k := by simp [parts]
theorem parts_step (a b : List Int) (p k : Nat) : parts a b p (k + 1) = parts a b p k ++ [((split a b (k * (a.length + b.length) / p)).1 : Int)] := by
  simp [parts, List.range_succ]
theorem at_cast (k la lb p : Nat) : ((k : Int) * ((la : Int) + (lb : Int))) / (p : Int) = ((k * (la + lb) / p : Nat) : Int) := by
  rw [Int.natCast_ediv, Int.natCast_mul, Int.natCast_add]
theorem at_bd {k la lb p : Nat} (h : la + lb ≤ 64) (hk : k ≤ p) (hp : p ≤ 16) : k * (la + lb) / p ≤ la + lb ∧ 0 ≤ (k : Int) * ((la : Int) + (lb : Int)) ∧ (k : Int) * ((la : Int) + (lb : Int)) ≤ 1024 := by
  have h1 : k * (la + lb) ≤ p * (la + lb) := Nat.mul_le_mul_right _ hk
  have h2 : k * (la + lb) ≤ 16 * 64 := Nat.mul_le_mul (by omega) h
  have h3 : ((k * (la + lb) : Nat) : Int) = (k : Int) * ((la : Int) + (lb : Int)) := by rw [Int.natCast_mul, Int.natCast_add]
  refine ⟨Nat.div_le_of_le_mul h1, by omega, by omega⟩
def ok (a b : List Int) (p : Int) : Bool := pair a b && inB p 1 16
def res (a b : List Int) (p : Int) : List Int := if ok a b p = true then parts a b p.toNat (p.toNat + 1) else []

set_option maxRecDepth 100000 in
set_option maxHeartbeats 1000000 in
theorem spec_parts (A B : Option Addr) (c d : Nat) (a b : List Int) (p : Nat) (w : World) (hn : a.length ≤ 1048576) (hm : b.length ≤ 1048576) (hab : a.length + b.length ≤ 64) (hp1 : 1 ≤ p) (hp2 : p ≤ 16) (hr : Rd w 1 A a.length (ints a)) (hs : Rd w 1 B b.length (ints b)) :
    Calls Try.prog 65 #[.slice A a.length c, .slice B b.length d, .int .i64 (p : Int)] w fun e w' => ∃ v, e = .returned v ∧ w'.ownsRow w.heap.size 3 1 v (p + 1) (ints (parts a b p (p + 1))) ∧ Below w.heap.size w w' := by
  go_enter Try.func65, Try.ntmps65
  go_wp2
  go_loopw [7, 8] (fun v i wr => ∃ k : Nat, k ≤ p + 1 ∧ i = .int .i64 (k : Int) ∧ wr.ownsRow w.heap.size 3 1 v k (ints (parts a b p k)) ∧ Below w.heap.size w wr) (fun _ i _ => p + 1 - (intOf i).toNat)
  case atStart => exact ⟨0, by omega, rfl, World.ownsRow_made w #[] 0 (Nat.le_refl _) (Nat.zero_le _) (by simp), (Below.refl _ _).alloc (Nat.le_refl _) _⟩
  case round =>
    obtain ⟨k, hk, rfl, ho, hb⟩ := hrel
    by_cases hlt : k ≤ p
    · obtain ⟨q0, q1, q2⟩ := at_bd hab hlt hp2
      have HQ := Lib.hid (at_cast k a.length b.length p)
      have HS := Lib.hid (parts_step a b p k)
      go_wp2_with fail
      rw [HQ.out]
      refine (paths.spec_split A B c d a b (k * (a.length + b.length) / p) wr hn hm (by omega) (hr.below hb) (hs.below hb)).mono ?_
      rintro e w2 ⟨rfl, m, rfl⟩
      have ho2 := own_drewN ho m
      have hb2 := below_drewN hb m
      have hkb : k ≤ 1099511627776 := by omega
      have hbw := hb2.size
      generalize (split a b (k * (a.length + b.length) / p)).1 = x at HS
      generalize (split a b (k * (a.length + b.length) / p)).2 = y
      have h1 := Lib.hid (show ints (parts a b p k) ++ [.int .i64 (x : Int)] = ints (parts a b p (k + 1)) by rw [HS.out, ints_app]; rfl)
      go_wp2_with (at_builtin; refine mem.push _ rfl _ _ 22 rfl w.heap.size 3 _ 1 8 Try.underlying22 mem.info_int rfl Nat.one_pos _ _ _ rfl ho2 [.int .i64 ((x : Int))] _ rfl (mem.ints_one [(x : Int)]) rfl hkb (by decide) hbw ?_; intro v' w' ho' hg')
      have hbx := below_push hb2 hbw hg' ho2
      rw [h1.out] at ho'
      go_roundw
      case rel => exact ⟨k + 1, by omega, by go_num, ho', hbx⟩
      case measure => simp [intOf]; omega
    · have e : k = p + 1 := by omega
      subst e
      go_wp2
      go_ret
      exact ⟨_, rfl, ho, hb⟩

set_option maxRecDepth 100000 in
set_option maxHeartbeats 1000000 in
theorem spec_any (A : Option Addr) (c : Nat) (a : List Int) (B : Option Addr) (d : Nat) (b : List Int) (p : Int) (w : World) (hn : a.length ≤ 1048576) (hr : Rd w 1 A a.length (ints a)) (hm : b.length ≤ 1048576) (hs : Rd w 1 B b.length (ints b)) :
    Calls Try.prog 31 #[.slice A a.length c, .slice B b.length d, .int .i64 p] w fun e w' => ∃ v, e = .returned (.tuple #[v, .bool (ok a b p)]) ∧ OwnI w w' v (res a b p) ∧ Below w.heap.size w w' := by
  have HR := Lib.hid (show (ok a b p = true → res a b p = parts a b p.toNat (p.toNat + 1)) ∧ (ok a b p = false → res a b p = []) by
    constructor <;> intro h <;> rw [res, h] <;> rfl)
  have HO := Lib.hid (show ok a b p = (pair a b && inB p 1 16) from rfl)
  go_enter Try.func31, Try.ntmps31
  go_wp2_with fail
  refine (spec_pair A B c d a b w hn hm hr hs).mono ?_
  rintro e w1 ⟨rfl, hb1⟩
  by_cases h1 : pair a b = true
  · have H1 := Lib.hid h1
    rw [h1]
    clear h1
    go_wp2_with fail
    refine (ins.spec_any _ _ _ _).mono ?_
    rintro e w2 ⟨rfl, rfl⟩
    by_cases h2 : inB p 1 16 = true
    · have HOT := Lib.hid (show ok a b p = true by rw [HO.out, H1.out, h2]; rfl)
      have HT := Lib.hid (HR.out.1 HOT.out)
      obtain ⟨g1, g2⟩ := inB_iff.1 h2
      rw [h2]
      clear h2
      obtain ⟨n, rfl⟩ := Int.eq_ofNat_of_zero_le (show 0 ≤ p by omega)
      have hab := (pair_iff.1 H1.out).2.2
      go_wp2_with fail
      refine (spec_parts A B c d a b n w1 hn hm hab (by omega) (by omega) (hr.below hb1) (hs.below hb1)).mono ?_
      rintro e w2 ⟨v, rfl, ho, hb2⟩
      have hb3 := below_step hb1 hb2
      have ho2 := own_base ho hb1.size
      go_wp2
      go_ret2
      refine ⟨_, by rw [HOT.out]; rfl, ⟨?_, ?_⟩, hb3⟩
      · rw [HT.out, parts_len]; exact ho2
      · rw [HT.out, parts_len]; have : ((n : Int)).toNat = n := by omega
        omega
    · have h2' : inB p 1 16 = false := by simpa using h2
      have HOT := Lib.hid (show ok a b p = false by rw [HO.out, H1.out, h2']; rfl)
      have HT := Lib.hid (HR.out.2 HOT.out)
      have hm0 := World.ownsRow_made (e := 3) (size := 1) w1 #[] 0 (Nat.le_refl _) (Nat.zero_le _) (by simp)
      rw [h2']
      clear h2 h2'
      go_wp2
      go_ret2
      exact ⟨_, by rw [HOT.out]; rfl, ⟨by rw [HT.out]; exact own_base hm0 hb1.size, by rw [HT.out]; simp⟩, hb1.alloc hb1.size _⟩
  · have h1' : pair a b = false := by simpa using h1
    have HOT := Lib.hid (show ok a b p = false by rw [HO.out, h1']; rfl)
    have HT := Lib.hid (HR.out.2 HOT.out)
    have hm0 := World.ownsRow_made (e := 3) (size := 1) w1 #[] 0 (Nat.le_refl _) (Nat.zero_le _) (by simp)
    rw [h1']
    clear h1 h1'
    go_wp2
    go_ret2
    exact ⟨_, by rw [HOT.out]; rfl, ⟨by rw [HT.out]; exact own_base hm0 hb1.size, by rw [HT.out]; simp⟩, hb1.alloc hb1.size _⟩

set_option maxRecDepth 100000 in
set_option maxHeartbeats 2000000 in
theorem impl_any (A : Option Addr) (c : Nat) (a : List Int) (B : Option Addr) (d : Nat) (b : List Int) (p : Int) (w : World) (hn : a.length ≤ 1048576) (hr : Rd w 1 A a.length (ints a)) (hm : b.length ≤ 1048576) (hs : Rd w 1 B b.length (ints b)) :
    Calls Try.prog 32 #[.slice A a.length c, .slice B b.length d, .int .i64 p] w fun e w' => ∃ v, e = .returned (.tuple #[v, .bool (ok a b p)]) ∧ OwnI w w' v (res a b p) ∧ Below w.heap.size w w' := by
  have HR := Lib.hid (show (ok a b p = true → res a b p = parts a b p.toNat (p.toNat + 1)) ∧ (ok a b p = false → res a b p = []) by
    constructor <;> intro h <;> rw [res, h] <;> rfl)
  have HO := Lib.hid (show ok a b p = (pair a b && inB p 1 16) from rfl)
  go_enter Try.func32, Try.ntmps32
  go_wp2_with fail
  refine (impl_pair A B c d a b w hn hm hr hs).mono ?_
  rintro e w1 ⟨rfl, hb1⟩
  by_cases h1 : pair a b = true
  · have H1 := Lib.hid h1
    rw [h1]
    clear h1
    by_cases h2 : inB p 1 16 = true
    · have HOT := Lib.hid (show ok a b p = true by rw [HO.out, H1.out, h2]; rfl)
      have HT := Lib.hid (HR.out.1 HOT.out)
      obtain ⟨g1, g2⟩ := inB_iff.1 h2
      obtain ⟨n, rfl⟩ := Int.eq_ofNat_of_zero_le (show 0 ≤ p by omega)
      have H2 := Lib.hid h2
      clear h2
      have hab := (pair_iff.1 H1.out).2.2
      go_wp2_with (first | (go_at_call 57; refine (ins.impl_any _ _ _ _).mono ?_; rintro e w' ⟨rfl, rfl⟩; rw [H2.out]) | go_in)
      go_loopg [8, 9] (n + 2) (fun f v i wr => ∃ k : Nat, n + 1 < k + f ∧ k ≤ n + 1 ∧ i = .int .i64 (k : Int) ∧ wr.ownsRow w1.heap.size 3 1 v k (ints (parts a b n k)) ∧ Below w1.heap.size w1 wr)
      case atStart => exact ⟨0, by omega, by omega, rfl, World.ownsRow_made w1 #[] 0 (Nat.le_refl _) (Nat.zero_le _) (by simp), (Below.refl _ _).alloc (Nat.le_refl _) _⟩
      case round =>
        obtain ⟨k, hkf, hk, rfl, ho, hb⟩ := hrel
        by_cases hlt : k ≤ n
        · obtain ⟨q0, q1, q2⟩ := at_bd hab hlt (show n ≤ 16 by omega)
          have HQ := Lib.hid (at_cast k a.length b.length n)
          have HS := Lib.hid (parts_step a b n k)
          go_wp2_with fail
          rw [HQ.out]
          refine (paths.impl_split A B c d a b (k * (a.length + b.length) / n) wr hn hm (by omega) ((hr.below hb1).below hb) ((hs.below hb1).below hb)).mono ?_
          rintro e w2 ⟨rfl, m, rfl⟩
          have ho2 := own_drewN ho m
          have hb2 := below_drewN hb m
          have hkb : k ≤ 1099511627776 := by omega
          have hbw := hb2.size
          generalize (split a b (k * (a.length + b.length) / n)).1 = x at HS
          generalize (split a b (k * (a.length + b.length) / n)).2 = y
          have h1 := Lib.hid (show ints (parts a b n k) ++ [.int .i64 (x : Int)] = ints (parts a b n (k + 1)) by rw [HS.out, ints_app]; rfl)
          go_wp2_with (at_builtin; refine mem.push _ rfl _ _ 22 rfl w1.heap.size 3 _ 1 8 Try.underlying22 mem.info_int rfl Nat.one_pos _ _ _ rfl ho2 [.int .i64 ((x : Int))] _ rfl (mem.ints_one [(x : Int)]) rfl hkb (by decide) hbw ?_; intro v' w' ho' hg')
          have hbx := below_push hb2 hbw hg' ho2
          rw [h1.out] at ho'
          go_roundg (gk - 1)
          case rel => exact ⟨k + 1, by omega, by omega, by go_num, ho', hbx⟩
          case measure => omega
        · have e : k = n + 1 := by omega
          subst e
          have hb3 := below_step hb1 hb
          have ho2 := own_base ho hb1.size
          go_wp2
          go_ret2
          refine ⟨_, by rw [HOT.out]; rfl, ⟨?_, ?_⟩, hb3⟩
          · rw [HT.out, parts_len]; exact ho2
          · rw [HT.out, parts_len]; have : ((n : Int)).toNat = n := by omega
            omega
    · have h2' : inB p 1 16 = false := by simpa using h2
      have HOT := Lib.hid (show ok a b p = false by rw [HO.out, H1.out, h2']; rfl)
      have HT := Lib.hid (HR.out.2 HOT.out)
      have H2 := Lib.hid h2'
      clear h2 h2'
      go_wp2_with (first | (go_at_call 57; refine (ins.impl_any _ _ _ _).mono ?_; rintro e w' ⟨rfl, rfl⟩; rw [H2.out]) | go_in)
      go_ret2
      exact ⟨_, by rw [HOT.out]; rfl, ⟨by rw [HT.out]; exact World.ownsRow_nil _ _ _ _, by rw [HT.out]; simp⟩, hb1⟩
  · have h1' : pair a b = false := by simpa using h1
    have HOT := Lib.hid (show ok a b p = false by rw [HO.out, h1']; rfl)
    have HT := Lib.hid (HR.out.2 HOT.out)
    rw [h1']
    clear h1 h1'
    go_wp2
    go_ret2
    exact ⟨_, by rw [HOT.out]; rfl, ⟨by rw [HT.out]; exact World.ownsRow_nil _ _ _ _, by rw [HT.out]; simp⟩, hb1⟩
end Go.Proofs.Ytfjmpplpagmpbaa.pathParts
