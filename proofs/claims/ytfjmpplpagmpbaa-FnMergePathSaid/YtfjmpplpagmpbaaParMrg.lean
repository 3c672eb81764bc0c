/- ParallelMerge, the program's and the reference's. Condition: at most 2^20 elements, lengths within the capacities. -/
import Derived.Test.YtfjmpplpagmpbaaSampLaw
import Derived.Test.YtfjmpplpagmpbaaSortI
import Derived.Test.YtfjmpplpagmpbaaPath
import Derived.Test.YtfjmpplpagmpbaaConcat
import Derived.Test.YtfjmpplpagmpbaaCut
import Derived.Deep.RegionLaw
import Derived.Deep.LoopGhost
set_option linter.unusedVariables false
set_option linter.unusedSimpArgs false
namespace Go.Proofs.Ytfjmpplpagmpbaa.parMrg
open Go.RowKit Go.Proofs.Ytfjmpplpagmpbaa.mem Go.Proofs.Ytfjmpplpagmpbaa.srt Go.Proofs.Ytfjmpplpagmpbaa.paths
open Go.Proofs.Ytfjmpplpagmpbaa.samp (cut_le cut_mono mul_bd mul_bd1 cast1 cast2)
open Go.Proofs.Ytfjmpplpagmpbaa.ins (inB inB_true inB_false inB_iff)

def szs (n p k : Nat) : List Int := (List.range k).map fun i => (((i + 1) * n / p : Nat) : Int) - ((i * n / p : Nat) : Int)
theorem szs_len (n p k : Nat) : (szs n p k).length = k := by simp [szs]
theorem szs_step (n p k : Nat) : szs n p (k + 1) = szs n p k ++ [(((k + 1) * n / p : Nat) : Int) - ((k * n / p : Nat) : Int)] := by simp [szs, List.range_succ]
def okP (a b : List Int) (p : Int) : Bool := pair a b && inB p 1 16
def resP (a b : List Int) (p : Int) : List Int := if okP a b p = true then srt (a ++ b) else []
def resQ (a b : List Int) (p : Int) : List Int := if okP a b p = true then szs (a.length + b.length) p.toNat p.toNat else []
theorem parts_of {p : Int} (h : inB p 1 16 = true) : ∃ n : Nat, p = (n : Int) ∧ 1 ≤ n ∧ n ≤ 16 := by
  have := inB_iff.1 h
  exact ⟨p.toNat, by omega, by omega, by omega⟩
set_option maxRecDepth 100000 in
set_option maxHeartbeats 4000000 in
theorem impl_any (A : Option Addr) (c : Nat) (a : List Int) (B : Option Addr) (d : Nat) (b : List Int) (p : Int) (w : World) (hn : a.length ≤ 1048576) (hnc : a.length ≤ c) (hcm : c ≤ maxLen) (hr : Rd w 1 A a.length (ints a)) (hm : b.length ≤ 1048576) (hmc : b.length ≤ d) (hdm : d ≤ maxLen) (hs : Rd w 1 B b.length (ints b)) :
    Calls Try.prog 42 #[.slice A a.length c, .slice B b.length d, .int .i64 p] w fun e w' => ∃ v1 v2, e = .returned (.tuple #[v1, v2, .bool (okP a b p)]) ∧ OwnI w w' v1 (resP a b p) ∧ OwnI w w' v2 (resQ a b p) ∧ (v1.ownBlock = none ∨ v1.ownBlock ≠ v2.ownBlock) ∧ Below w.heap.size w w' := by
  have HV := Lib.hid (impl_pair A B c d a b w hn hm hr hs)
  cases hv : pair a b with
  | false =>
    have HF := Lib.hid (show okP a b p = false ∧ resP a b p = [] ∧ resQ a b p = [] by simp [okP, resP, resQ, hv])
    rw [hv] at HV
    clear hv
    go_enter Try.func42, Try.ntmps42
    go_wp2_with fail
    refine HV.out.mono ?_
    rintro e w1 ⟨rfl, hb1⟩
    go_wp2
    go_ret3
    exact ⟨_, _, (by rw [HF.out.1]; try rfl), ⟨by rw [HF.out.2.1]; exact World.ownsRow_nil _ _ _ _, by rw [HF.out.2.1]; simp⟩, ⟨by rw [HF.out.2.2]; exact World.ownsRow_nil _ _ _ _, by rw [HF.out.2.2]; simp⟩, Or.inl rfl, hb1⟩
  | true =>
    have h64 := (pair_iff.1 hv).2.2
    rw [hv] at HV
    by_cases h2 : inB p 1 16 = true
    · have HF := Lib.hid (show okP a b p = true ∧ resP a b p = srt (a ++ b) ∧ resQ a b p = szs (a.length + b.length) p.toNat p.toNat by simp [okP, resP, resQ, hv, h2])
      obtain ⟨n, rfl, hp1, hp2⟩ := parts_of h2
      have H2 := Lib.hid h2
      clear hv h2
      go_enter Try.func42, Try.ntmps42
      go_wp2_with fail
      refine HV.out.mono ?_
      rintro e w1 ⟨rfl, hb1⟩
      have HM1 := Lib.hid (World.ownsRow_made (e := 3) (size := 1) w1 #[] 0 (Nat.le_refl _) (Nat.zero_le _) (by simp))
      have HB1 := Lib.hid ((Below.refl w1.heap.size w1).alloc (Nat.le_refl _) (.cells #[] 3))
      go_wp2_with (first | (go_at_call 57; refine (ins.impl_any _ _ _ _).mono ?_; rintro e w' ⟨rfl, rfl⟩; rw [H2.out]) | go_in)
      go_loopg [10, 28] (n + 1) (fun f s i wr => ∃ (k : Nat) (v : Value), v = s ∧ i = .int .i64 (k : Int) ∧ k ≤ n ∧ n < k + f ∧ wr.ownsRow w1.heap.size 3 1 v (szs (a.length + b.length) n k).length (ints (szs (a.length + b.length) n k)) ∧ Below w1.heap.size w1 wr)
      case atStart => exact ⟨0, _, rfl, rfl, by omega, by omega, HM1.out, HB1.out⟩
      case round =>
        obtain ⟨k, v, rfl, rfl, hk, hf, ho, hb⟩ := hrel
        by_cases hlt : k < n
        · have e0 : ((a.length + b.length : Nat) : Int) = (a.length : Int) + (b.length : Int) := by omega
          have hlh := cut_mono (n := a.length + b.length) (k := k) (p := n)
          have hhn := cut_le (n := a.length + b.length) (k := k + 1) (p := n) (by omega) (by omega)
          have hm1 := mul_bd (k := k) (n := a.length + b.length) (p := n) (q := 64) hk hp2 h64 (by omega)
          have hm2 := mul_bd1 (k := k) (n := a.length + b.length) (p := n) (q := 64) (by omega) hp2 h64 (by omega)
          have d1 := cast1 k (a.length + b.length) n
          have d2 := cast2 k (a.length + b.length) n
          rw [e0] at hm1 hm2 d1 d2
          have HST := Lib.hid (szs_step (a.length + b.length) n k)
          have hzl := szs_len (a.length + b.length) n k
          generalize k * (a.length + b.length) / n = lo at hlh hhn d1 HST
          generalize (k + 1) * (a.length + b.length) / n = hi at hlh hhn d2 HST
          have t1 : ((k : Int) * ((a.length : Int) + (b.length : Int))).tdiv (n : Int) = (lo : Int) := by rw [Int.tdiv_eq_ediv_of_nonneg hm1.1, d1]
          have t2 : (((k : Int) + 1) * ((a.length : Int) + (b.length : Int))).tdiv (n : Int) = (hi : Int) := by rw [Int.tdiv_eq_ediv_of_nonneg hm2.1, d2]
          have u1 : IntKind.i64.wrap ((k : Int) * ((a.length : Int) + (b.length : Int))) = (k : Int) * ((a.length : Int) + (b.length : Int)) := IntWalk.i64_in _ (by omega)
          have u2 : IntKind.i64.wrap (((k : Int) + 1) * ((a.length : Int) + (b.length : Int))) = ((k : Int) + 1) * ((a.length : Int) + (b.length : Int)) := IntWalk.i64_in _ (by omega)
          have u3 : IntKind.i64.wrap ((k : Int) + 1) = (k : Int) + 1 := IntWalk.i64_in _ (by omega)
          have u4 : IntKind.i64.wrap (lo : Int) = (lo : Int) := IntWalk.i64_in _ (by omega)
          have u5 : IntKind.i64.wrap (hi : Int) = (hi : Int) := IntWalk.i64_in _ (by omega)
          have u6 : IntKind.i64.wrap ((hi : Int) - (lo : Int)) = (hi : Int) - (lo : Int) := IntWalk.i64_in _ (by omega)
          (have qz : ((n : Int) == 0) = false := by simp; omega); (have qz2 : ¬ (n : Int) = 0 := by omega); (have qz3 : ¬ n = 0 := by omega); (have qz4 : (n == 0) = false := by simp; omega); (have qz5 : 0 < n := by omega)
          have hh : (szs (a.length + b.length) n k).length ≤ 1099511627776 := by omega
          have hbs : w1.heap.size ≤ wr.heap.size := hb.size
          have HB := Lib.hid hb
          generalize szs (a.length + b.length) n k = cur at ho hh HST hzl
          have ho3 : wr.drew.ownsRow (w1.heap.size) 3 1 v cur.length (ints cur) := ho
          have HO := Lib.hid ho
          clear d1 d2 e0 hzl hb ho
          go_wp2_with fail
          go_region_law ((refine mem.step_push_at wr.drew rfl (.tmp 31) (.tmp 44) 22 rfl (w1.heap.size) 3 _ 1 8 Try.underlying22 mem.info_int rfl Nat.one_pos v cur.length (ints cur) (by simp [Act.eval, Act.put]) ho3 [.int .i64 ((hi : Int) - (lo : Int))] 1 rfl (mem.ints_one [(hi : Int) - (lo : Int)]) (by simp [Act.eval, Act.put]) hh (by decide) hbs ?_; intro v' w' ho' hg0 hnw'; have hg' := mem.grown_undrew hg0; clear hg0))
          all_goals
            have hb2 := below_push HB.out hbs hg' HO.out
            have HALL := Lib.hid (And.intro ho' hb2)
            clear ho' hg' hnw' hb2
            go_wp2
            go_roundg (gk - 1)
            case rel => exact ⟨k + 1, _, rfl, by go_num, by omega, by omega, by rw [HST.out, List.length_append, ints_app]; exact HALL.out.1, HALL.out.2⟩
            case measure => omega
        · obtain rfl : k = n := by omega
          have hra := (hr.below hb1).below hb
          have hsb := (hs.below hb1).below hb
          have HC := Lib.hid (concat.concat_int (some ⟨wr.heap.size, 0, none⟩) 2 [.slice A a.length c, .slice B b.length d] [a, b] (wr.alloc (.cells #[.slice A a.length c, .slice B b.length d] 22)) (Blk.rd_all (Blk.new wr _ [.slice A a.length c, .slice B b.length d].toArray)) (SLs.cons ⟨A, c, rfl, hnc, hcm, hra.alloc _⟩ (SLs.cons ⟨B, d, rfl, hmc, hdm, hsb.alloc _⟩ SLs.nil)) (by simp) (by simp; omega))
          have hba := (Below.refl wr.heap.size wr).alloc (Nat.le_refl _) (.cells #[.slice A a.length c, .slice B b.length d] 22)
          have HBA := Lib.hid hba
          have HZ := Lib.hid (szs_len (a.length + b.length) k k)
          clear hra hsb hba
          go_wp2_with fail
          refine HC.out.mono ?_
          rintro e w3 ⟨v3, rfl, ho3, hb3⟩
          rw [show [a, b].flatten = a ++ b by simp] at ho3
          obtain ⟨A3, c3, rfl, _, _, hr3⟩ := own_form ho3
          have hS := srt.impl_any A3 c3 (a ++ b) w3 (by rw [List.length_append]; omega) hr3
          rw [List.length_append] at hS
          have HS := Lib.hid hS
          clear hS
          have hq3 := below_step HBA.out hb3
          clear ho3 hr3
          go_wp2_with fail
          refine HS.out.mono ?_
          rintro e w4 ⟨v4, rfl, ho4, hb4⟩
          have hq4 := below_step hq3 hb4
          have hov := own_below ho hq4
          have hap := sep (b := w3.heap.size) (u := w4.heap.size) (b' := w1.heap.size) (u' := wr.heap.size) ho4.lt ho.lt (Or.inr hq3.size)
          have hb5 := below_step (below_step hb1 hb) hq4
          go_wp2
          go_ret3
          refine ⟨_, _, (by rw [HF.out.1]; try rfl), ⟨?_, ?_⟩, ⟨?_, ?_⟩, hap, hb5⟩
          · rw [HF.out.2.1, srt_len, List.length_append]; exact own_base ho4 (below_step (below_step hb1 hb) hq3).size
          · rw [HF.out.2.1, srt_len, List.length_append]; omega
          · rw [HF.out.2.2, Int.toNat_natCast]; exact own_base hov hb1.size
          · rw [HF.out.2.2, Int.toNat_natCast, HZ.out]; omega
    · have h2' : inB p 1 16 = false := by simpa using h2
      have HF := Lib.hid (show okP a b p = false ∧ resP a b p = [] ∧ resQ a b p = [] by simp [okP, resP, resQ, hv, h2'])
      have H2 := Lib.hid h2'
      clear hv h2 h2'
      go_enter Try.func42, Try.ntmps42
      go_wp2_with fail
      refine HV.out.mono ?_
      rintro e w1 ⟨rfl, hb1⟩
      go_wp2_with (first | (go_at_call 57; refine (ins.impl_any _ _ _ _).mono ?_; rintro e w' ⟨rfl, rfl⟩; rw [H2.out]) | go_in)
      go_ret3
      exact ⟨_, _, (by rw [HF.out.1]; try rfl), ⟨by rw [HF.out.2.1]; exact World.ownsRow_nil _ _ _ _, by rw [HF.out.2.1]; simp⟩, ⟨by rw [HF.out.2.2]; exact World.ownsRow_nil _ _ _ _, by rw [HF.out.2.2]; simp⟩, Or.inl rfl, hb1⟩
end Go.Proofs.Ytfjmpplpagmpbaa.parMrg
