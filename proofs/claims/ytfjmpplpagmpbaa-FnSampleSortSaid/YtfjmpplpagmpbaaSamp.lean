/- Splitters by regular samples, the program's and the reference's. Condition: at most 64 elements, 1 to 16 parts. -/
import Derived.Test.YtfjmpplpagmpbaaSampLaw
import Derived.Test.YtfjmpplpagmpbaaSortI
import Derived.Test.YtfjmpplpagmpbaaCut
import Derived.Deep.RegionHeld3
import Derived.Deep.LoopGhost
import Derived.Deep.DeepCutAuto
set_option linter.unusedVariables false
set_option linter.unusedSimpArgs false
namespace Go.Proofs.Ytfjmpplpagmpbaa.samp
open Go.RowKit Go.Proofs.Ytfjmpplpagmpbaa.mem Go.Proofs.Ytfjmpplpagmpbaa.srt

theorem getD_z (l : List Int) {i : Nat} (h : i < l.length) : l.getD i 0 = l[i] := by
  rw [List.getD_eq_getElem?_getD, List.getElem?_eq_getElem h]; rfl
theorem smp_end {zs : List Int} {p k j : Nat} (h : (blk zs p k).length = 0 ∧ j = 0 ∨ (blk zs p k).length ≠ 0 ∧ j = p - 1) : smp zs p k ++ pk (blk zs p k) p j = smp zs p (k + 1) := by
  rw [smp, pks]
  rcases h with ⟨h1, rfl⟩ | ⟨h1, rfl⟩
  · rw [if_pos h1]; simp [pk]
  · rw [if_neg h1]
theorem pks_end {b : List Int} {p j : Nat} (h : b.length = 0 ∧ j = 0 ∨ b.length ≠ 0 ∧ j = p - 1) : pk b p j = pks b p := by
  rw [pks]
  rcases h with ⟨h1, rfl⟩ | ⟨h1, rfl⟩
  · rw [if_pos h1]; simp [pk]
  · rw [if_neg h1]
theorem smp_le {zs : List Int} {p k : Nat} (hp : p ≤ 16) (hk : k ≤ p) : (smp zs p k).length ≤ 256 := by
  have h1 := smp_len zs p k
  have h2 : k * p ≤ 16 * 16 := Nat.mul_le_mul (by omega) hp
  omega
theorem pk_le {b : List Int} {p j : Nat} (hp : p ≤ 16) (hj : j + 1 ≤ p) : (pk b p j).length ≤ 16 := by rw [pk_len]; omega
/-- the row of a block lies apart from the row v -/
def Apt (v : Value) (A : Option Addr) : Prop := ∀ b off, A = some ⟨b, off, none⟩ → v.ownBlock ≠ some b
theorem Apt.next {w : World} {v v' : Value} {A : Option Addr} (h : Apt v A) (hn : NewAt w v v') (hA : ∀ b off, A = some ⟨b, off, none⟩ → b < w.heap.size) : Apt v' A := fun b off e he => by
  rcases hn b he with h1 | h1
  · exact h b off e h1
  · have := hA b off e; omega

set_option maxRecDepth 100000 in
set_option maxHeartbeats 4000000 in
theorem spec_sample (A : Option Addr) (c : Nat) (zs : List Int) (p : Nat) (w : World) (hn : zs.length ≤ 64) (hnc : zs.length ≤ c) (hp1 : 1 ≤ p) (hp2 : p ≤ 16) (hr : Rd w 1 A zs.length (ints zs)) :
    Calls Try.prog 73 #[.slice A zs.length c, .int .i64 (p : Int)] w fun e w' => ∃ v, e = .returned v ∧ w'.ownsRow w.heap.size 3 1 v (sample zs p).length (ints (sample zs p)) ∧ Below w.heap.size w w' := by
  have HM0 := Lib.hid (World.ownsRow_made (e := 3) (size := 1) w #[] 0 (Nat.le_refl _) (Nat.zero_le _) (by simp))
  have HB0 := Lib.hid ((Below.refl w.heap.size w).alloc (Nat.le_refl _) (.cells #[] 3))
  go_enter Try.func73, Try.ntmps73
  go_wp2
  go_loopg [5, 6] (p + 1) (fun f s i wr => ∃ (k : Nat) (v : Value), v = s ∧ i = .int .i64 (k : Int) ∧ k ≤ p ∧ p < k + f ∧ wr.ownsRow w.heap.size 3 1 v (smp zs p k).length (ints (smp zs p k)) ∧ Below w.heap.size w wr)
  case atStart => exact ⟨0, _, rfl, rfl, by omega, by omega, HM0.out, HB0.out⟩
  case round =>
    obtain ⟨k, v, rfl, rfl, hk, hf, ho, hb⟩ := hrel
    by_cases hlt : k < p
    · have hlh := cut_mono (n := zs.length) (k := k) (p := p)
      have hhn := cut_le (n := zs.length) (k := k + 1) (p := p) (by omega) (by omega)
      have hm1 := mul_bd (k := k) (n := zs.length) (p := p) (q := 64) hk hp2 hn (by omega)
      have hm2 := mul_bd1 (k := k) (n := zs.length) (p := p) (q := 64) (by omega) hp2 hn (by omega)
      have d1 := cast1 k zs.length p
      have d2 := cast2 k zs.length p
      have HBK := Lib.hid (show blk zs p k = srt ((zs.drop (k * zs.length / p)).take ((k + 1) * zs.length / p - k * zs.length / p)) from rfl)
      generalize k * zs.length / p = lo at hlh hhn d1 HBK
      generalize (k + 1) * zs.length / p = hi at hlh hhn d2 HBK
      have t1 : ((k : Int) * (zs.length : Int)).tdiv (p : Int) = (lo : Int) := by rw [Int.tdiv_eq_ediv_of_nonneg hm1.1, d1]
      have t2 : (((k : Int) + 1) * (zs.length : Int)).tdiv (p : Int) = (hi : Int) := by rw [Int.tdiv_eq_ediv_of_nonneg hm2.1, d2]
      have u1 : IntKind.i64.wrap ((k : Int) * (zs.length : Int)) = (k : Int) * (zs.length : Int) := IntWalk.i64_in _ (by omega)
      have u2 : IntKind.i64.wrap (((k : Int) + 1) * (zs.length : Int)) = ((k : Int) + 1) * (zs.length : Int) := IntWalk.i64_in _ (by omega)
      have u3 : IntKind.i64.wrap ((k : Int) + 1) = (k : Int) + 1 := IntWalk.i64_in _ (by omega)
      have u4 : IntKind.i64.wrap (lo : Int) = (lo : Int) := IntWalk.i64_in _ (by omega)
      have u5 : IntKind.i64.wrap (hi : Int) = (hi : Int) := IntWalk.i64_in _ (by omega)
      (have qz : ((p : Int) == 0) = false := by simp; omega); (have qz2 : ¬ (p : Int) = 0 := by omega); (have qz3 : ¬ p = 0 := by omega); (have qz4 : (p == 0) = false := by simp; omega); (have qz5 : 0 < p := by omega)
      have hzl : ((zs.drop lo).take (hi - lo)).length = hi - lo := by rw [List.length_take, List.length_drop]; omega
      have hrz : Rd wr 1 (cutA A c lo 1) ((zs.drop lo).take (hi - lo)).length (ints ((zs.drop lo).take (hi - lo))) := by
        have := (hr.below hb).cut_at (k := lo) (m := hi - lo) (cap := c) (by omega) hnc
        rw [hzl]
        simpa [ints, List.map_take, List.map_drop] using this
      have hsl : ∀ W : World, (Instr.slice 22 (.slice A zs.length c) (some (.int .i64 (lo : Int))) (some (.int .i64 (hi : Int))) none).run Try.prog W = .ok (.slice (cutA A c lo 1) ((zs.drop lo).take (hi - lo)).length (c - lo)) W := fun W => by
        rw [hzl]; exact run_cut 22 3 _ 1 8 Try.underlying22 mem.info_int A zs.length c lo hi _ _ rfl rfl hlh (by omega) W
      have HZL := Lib.hid hzl
      generalize (zs.drop lo).take (hi - lo) = zk at hrz hsl HBK HZL
      have HSP := Lib.hid (srt.spec_any (cutA A c lo 1) (c - lo) zk wr.drew (by have := HZL.out; omega) hrz)
      have HDR := Lib.hid (show Below wr.heap.size wr wr.drew from below_drewN (Below.refl _ _) 1)
      clear hzl hrz d1 d2
      go_upto_region 5 with fail
      go_cut [7] (fun s7 wx => ∃ vb : Value, vb = s7 ∧ wx.ownsRow wr.heap.size 3 1 vb zk.length (ints (srt zk)) ∧ Below wr.heap.size wr wx)
      case first =>
        go_region_held3 (fun _ => True) (trivial) ((go_at_call 75; (with_reducible refine HSP.out.mono ?_); rintro e w3 ⟨vb, rfl, hob, hb3⟩))
        all_goals (go_wp2_with fail; go_meet; exact ⟨_, rfl, hob, below_step HDR.out hb3⟩)
      case rest =>
        obtain ⟨vb, rfl, hob, hq⟩ := hcut
        obtain ⟨w3, hw3⟩ : ∃ W : World, W = wc := ⟨_, rfl⟩
        subst hw3
        have hob2 : w3.ownsRow wr.heap.size 3 1 vb (blk zs p k).length (ints (blk zs p k)) := by rw [HBK.out, srt_len]; exact hob
        have hbl64 : (blk zs p k).length ≤ 64 := by rw [HBK.out, srt_len, HZL.out]; omega
        have HEND := Lib.hid (fun j h => smp_end (zs := zs) (p := p) (k := k) (j := j) h)
        have HSM := Lib.hid (smp_le (zs := zs) hp2 hk)
        have hbz := below_step hb hq
        have hap : ∀ b off cb, vb = .slice (some ⟨b, off, none⟩) (blk zs p k).length cb → v.ownBlock ≠ some b ∧ b < w3.heap.size := fun b off cb e => by
          have h1 := hob2.lt b (by rw [e]; rfl)
          exact ⟨fun he => by have h2 := (ho.lt b he).2; omega, h1.2⟩
        have ho3 := own_below ho hq
        obtain ⟨Ab, cb, rfl, hbc1, hbc2, hrb⟩ := own_form hob2
        have hapt : Apt v Ab := fun b off e => by subst e; exact (hap b off cb rfl).1
        have hAb : ∀ b off, Ab = some ⟨b, off, none⟩ → b < w3.heap.size := fun b off e => by subst e; exact (hap b off cb rfl).2
        generalize blk zs p k = bl at hrb hbl64 HEND hbc1 hbc2
        generalize smp zs p k = sm at ho3 HEND HSM
        have HSTT := Lib.hid (And.intro ho3 (And.intro hapt (And.intro hrb (And.intro hAb hbz))))
        clear hsl t1 t2 u1 u2 u3 u4 u5 hob hob2 hq hbz hap ho3 hrb hapt hAb HSP HBK ho hb
        go_wp2
        go_loopw [5, 8] (fun s i wi => ∃ (j : Nat) (v : Value), v = s ∧ i = .int .i64 ((j : Int) + 1) ∧ j + 1 ≤ p ∧ (bl.length = 0 → j = 0) ∧ wi.ownsRow w.heap.size 3 1 v (sm ++ pk bl p j).length (ints (sm ++ pk bl p j)) ∧ Apt v Ab ∧ Rd wi 1 Ab bl.length (ints bl) ∧ (∀ b off, Ab = some ⟨b, off, none⟩ → b < wi.heap.size) ∧ Below w.heap.size w wi) (fun _ i _ => (p + 1 - intOf i).toNat)
        case atStart => exact ⟨0, _, rfl, rfl, by omega, fun _ => rfl, by rw [show pk bl p 0 = [] from rfl, List.append_nil]; exact HSTT.out.1, HSTT.out.2.1, HSTT.out.2.2.1, HSTT.out.2.2.2.1, HSTT.out.2.2.2.2⟩
        case round =>
          obtain ⟨j, v, rfl, rfl, hj, hj0, ho, hapt, hrb, hAb, hb⟩ := hrel
          have HJ0 := Lib.hid hj0
          have HAP := Lib.hid hapt
          have HAB := Lib.hid hAb
          clear hj0 hapt hAb
          by_cases hjp : j + 1 < p
          · by_cases h0 : 0 < bl.length
            · have hix := at_lt (n := bl.length) (j := j + 1) (p := p) hjp h0
              have hm3 := mul_bd1 (k := j) (n := bl.length) (p := p) (q := 64) hj hp2 hbl64 (by omega)
              have d3 := cast2 j bl.length p
              have HPK := Lib.hid (pk_step bl p j)
              have HPL := Lib.hid (pk_le (b := bl) hp2 hj)
              generalize (j + 1) * bl.length / p = ix at hix d3 HPK
              obtain ⟨b, off, rfl, hc⟩ := hrb.int hix
              rw [getD_z bl hix] at HPK
              have HRB := Lib.hid hrb
              generalize bl[ix] = x at hc HPK
              have t3 : (((j : Int) + 1) * (bl.length : Int)).tdiv (p : Int) = (ix : Int) := by rw [Int.tdiv_eq_ediv_of_nonneg hm3.1, d3]
              have hh : (sm ++ pk bl p j).length ≤ 1099511627776 := by rw [List.length_append]; have := HSM.out; have := HPL.out; omega
              have hbs := hb.size
              have q1 : (ix : Int) < (bl.length : Int) := by omega
              have q2 : (j : Int) + 1 < (p : Int) := by omega
              clear hrb
              have HNX := Lib.hid (show sm ++ pk bl p (j + 1) = (sm ++ pk bl p j) ++ [x] by rw [HPK.out, List.append_assoc])
              generalize sm ++ pk bl p j = cur at ho hh HNX
              go_wp2_with (at_builtin; refine mem.push_at _ rfl _ _ 22 rfl w.heap.size 3 _ 1 8 Try.underlying22 mem.info_int rfl Nat.one_pos v _ _ rfl ho (ints [x]) _ rfl (mem.ints_one [x]) rfl hh (by decide) hbs ?_; intro v' w' ho' hg' hnw')
              have hb2 := below_push hb hbs hg' ho
              have hA2 := HAP.out.next hnw' HAB.out
              have hr2 := HRB.out.grown hg' (fun b' o' e => fun e2 => HAP.out b' o' e e2.symm)
              have hAb2 : ∀ b' off', (some ⟨b, off, none⟩ : Option Addr) = some ⟨b', off', none⟩ → b' < w'.heap.size := fun b' o' e => Nat.lt_of_lt_of_le (HAB.out b' o' e) hg'.size
              have HALL := Lib.hid (And.intro ho' (And.intro hA2 (And.intro hr2 (And.intro hAb2 hb2))))
              clear ho' hg' hnw' hb2 hA2 hr2 hAb2 ho hb hc t3 d3
              go_wp2
              go_roundw
              case rel => exact ⟨j + 1, _, rfl, by go_num, by omega, fun h => by omega, by rw [HNX.out, List.length_append, ints_app]; exact HALL.out.1, HALL.out.2.1, HALL.out.2.2.1, HALL.out.2.2.2.1, HALL.out.2.2.2.2⟩
              case measure => simp [intOf]; omega
            · have hz : bl.length = 0 := by omega
              have HE := Lib.hid (HEND.out j (Or.inl ⟨hz, HJ0.out hz⟩))
              have q2 : (j : Int) + 1 < (p : Int) := by omega
              obtain rfl : bl = [] := List.eq_nil_of_length_eq_zero hz
              clear hz h0
              go_wp2
              go_roundg (gk - 1)
              case rel => exact ⟨k + 1, _, rfl, by go_num, by omega, by omega, by rw [← HE.out]; exact ho, hb⟩
              case measure => omega
          · have HE := Lib.hid (HEND.out j (by by_cases hz : bl.length = 0; exact Or.inl ⟨hz, HJ0.out hz⟩; exact Or.inr ⟨hz, by omega⟩))
            have q2 : ¬ (j : Int) + 1 < (p : Int) := by omega
            have q3 : decide ((j : Int) + 1 < (p : Int)) = false := by simpa using q2
            go_wp2
            go_roundg (gk - 1)
            case rel => exact ⟨k + 1, _, rfl, by go_num, by omega, by omega, by rw [← HE.out]; exact ho, hb⟩
            case measure => omega
    · obtain rfl : k = p := by omega
      have hsm := smp_le (zs := zs) (k := k) hp2 (Nat.le_refl _)
      obtain ⟨A5, c5, rfl, _, _, hr5⟩ := own_form ho
      have HSP := Lib.hid (srt.spec_any A5 c5 (smp zs k k) wr (by omega) hr5)
      go_wp2_with fail
      refine HSP.out.mono ?_
      rintro e w2 ⟨v2, rfl, ho2, hb2⟩
      have HSA := Lib.hid (show sample zs k = pks (srt (smp zs k k)) k from rfl)
      have ho3 : w2.ownsRow wr.heap.size 3 1 v2 (srt (smp zs k k)).length (ints (srt (smp zs k k))) := by rw [srt_len]; exact ho2
      have hs256 : (srt (smp zs k k)).length ≤ 256 := by rw [srt_len]; omega
      obtain ⟨A2, c2, rfl, _, _, hrs⟩ := own_form ho3
      have hbz := below_step hb hb2
      generalize srt (smp zs k k) = ss at hrs hs256 HSA
      have HRS := Lib.hid hrs
      have HBZ := Lib.hid hbz
      have HM2 := Lib.hid (World.ownsRow_made (e := 3) (size := 1) w2 #[] 0 (Nat.le_refl _) (Nat.zero_le _) (by simp))
      have HB2 := Lib.hid ((Below.refl w2.heap.size w2).alloc (Nat.le_refl _) (.cells #[] 3))
      have hwl : w.heap.size ≤ w2.heap.size := hbz.size
      clear ho2 ho3 hrs hbz hb hb2 HSP hr5 ho hsm
      go_wp2
      go_loopw [9, 10] (fun s i wi => ∃ (j : Nat) (v : Value), v = s ∧ i = .int .i64 ((j : Int) + 1) ∧ j + 1 ≤ k ∧ (ss.length = 0 → j = 0) ∧ wi.ownsRow w2.heap.size 3 1 v (pk ss k j).length (ints (pk ss k j)) ∧ Below w2.heap.size w2 wi) (fun _ i _ => (k + 1 - intOf i).toNat)
      case atStart => exact ⟨0, _, rfl, rfl, by omega, fun _ => rfl, HM2.out, HB2.out⟩
      case round =>
        obtain ⟨j, v, rfl, rfl, hj, hj0, ho, hb⟩ := hrel
        have HJ0 := Lib.hid hj0
        clear hj0
        by_cases hjp : j + 1 < k
        · by_cases h0 : 0 < ss.length
          · have hix := at_lt (n := ss.length) (j := j + 1) (p := k) hjp h0
            have hm3 := mul_bd1 (k := j) (n := ss.length) (p := k) (q := 256) hj hp2 hs256 (by omega)
            have d3 := cast2 j ss.length k
            have HPK := Lib.hid (pk_step ss k j)
            have hpl := pk_le (b := ss) hp2 hj
            generalize (j + 1) * ss.length / k = ix at hix d3 HPK
            obtain ⟨b, off, rfl, hc⟩ := (HRS.out.below hb).int hix
            rw [getD_z ss hix] at HPK
            generalize ss[ix] = x at hc HPK
            have t3 : (((j : Int) + 1) * (ss.length : Int)).tdiv (k : Int) = (ix : Int) := by rw [Int.tdiv_eq_ediv_of_nonneg hm3.1, d3]
            have qz : ((k : Int) == 0) = false := by simp; omega
            have hh : (pk ss k j).length ≤ 1099511627776 := by omega
            have hbs := hb.size
            have q1 : (ix : Int) < (ss.length : Int) := by omega
            have q2 : (j : Int) + 1 < (k : Int) := by omega
            generalize pk ss k j = cur at ho hh HPK hpl
            go_wp2_with (at_builtin; refine mem.push_at _ rfl _ _ 22 rfl w2.heap.size 3 _ 1 8 Try.underlying22 mem.info_int rfl Nat.one_pos v _ _ rfl ho (ints [x]) _ rfl (mem.ints_one [x]) rfl hh (by decide) hbs ?_; intro v' w' ho' hg' hnw')
            have hb2 := below_push hb hbs hg' ho
            have HALL := Lib.hid (And.intro ho' hb2)
            clear ho' hg' hnw' hb2 ho hb hc t3 d3
            go_wp2
            go_roundw
            case rel => exact ⟨j + 1, _, rfl, by go_num, by omega, fun h => by omega, by rw [HPK.out, List.length_append, ints_app]; exact HALL.out.1, HALL.out.2⟩
            case measure => simp [intOf]; omega
          · have hz : ss.length = 0 := by omega
            have HE := Lib.hid (HSA.out.trans (pks_end (j := j) (Or.inl ⟨hz, HJ0.out hz⟩)).symm)
            have q2 : (j : Int) + 1 < (k : Int) := by omega
            obtain rfl : ss = [] := List.eq_nil_of_length_eq_zero hz
            have ho4 := own_base ho hwl
            have hb4 := below_step HBZ.out hb
            clear hz h0 ho hb
            go_wp2
            go_ret
            exact ⟨_, rfl, by rw [HE.out]; exact ho4, hb4⟩
        · have HE := Lib.hid (HSA.out.trans (pks_end (j := j) (by by_cases hz : ss.length = 0; exact Or.inl ⟨hz, HJ0.out hz⟩; exact Or.inr ⟨hz, by omega⟩)).symm)
          have q2 : ¬ (j : Int) + 1 < (k : Int) := by omega
          have q3 : decide ((j : Int) + 1 < (k : Int)) = false := by simpa using q2
          have ho4 := own_base ho hwl
          have hb4 := below_step HBZ.out hb
          clear ho hb
          go_wp2
          go_ret
          exact ⟨_, rfl, by rw [HE.out]; exact ho4, hb4⟩
end Go.Proofs.Ytfjmpplpagmpbaa.samp
