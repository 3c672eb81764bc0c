/- PolyphasePhases, the program's and the reference's. No condition. -/
import Derived.Test.YtgffabjajbgbjaaPhsLaw
import Derived.Test.YtgffabjajbgbjaaNest
import Derived.Deep.LoopGhost
set_option linter.unusedVariables false
set_option linter.unusedSimpArgs false
namespace Go.Proofs.Ytgffabjajbgbjaa.phs
open Go.RowKit Go.Proofs.Ytgffabjajbgbjaa.mem Go.Proofs.Ytgffabjajbgbjaa.sums Go.Proofs.Ytgffabjajbgbjaa.phases Go.Proofs.Ytgffabjajbgbjaa.perfect Go.Proofs.Ytgffabjajbgbjaa.dists Go.Proofs.Ytgffabjajbgbjaa.nest
open Go.Proofs.Ytgffabjajbgbjaa.ins (inB inB_iff inB_true)

theorem info_row : (Try.prog.info? 22).map (fun i => (i.zero, i.size, i.bytes)) = some (some (.slice none 0 0), 1, 24) := by kernel_rfl
theorem one_row (A : Option Addr) (n c : Nat) : ∀ u ∈ [Value.slice A n c], u.oneCell' = true := by
  intro u hu
  obtain rfl := List.mem_singleton.1 hu
  rfl
theorem nl_one {W : World} {base : Nat} {v : Value} {zs : List Int} (h : W.ownsRow base 3 1 v zs.length (ints zs)) (hb : base ≤ W.heap.size) :
    NL_int (W.alloc (.cells #[v] 22)) base (.slice (some ⟨W.heap.size, 0, none⟩) 1 1) [v] [zs] := by
  refine ⟨?_, ⟨rfl, fun i u ys hu hy => ?_⟩, fun i j x y hij hx hy => ?_, fun u hu => ?_⟩
  · exact (Blk.new W 22 #[v]).own (base := base) (size := 1) (n := 1) (c := 1) hb (Nat.le_refl _) (by unfold maxLen; omega) (by simp)
  · cases i with
    | zero =>
      simp at hu hy
      subst hu; subst hy
      exact own_below h ((Below.refl _ _).alloc (Nat.le_refl _) _)
    | succ i => simp at hu
  · have e1 : i = 0 := by
      cases i with
      | zero => rfl
      | succ i => simp at hx
    have e2 : j = 0 := by
      cases j with
      | zero => rfl
      | succ j => simp at hy
    omega
  · obtain rfl : u = v := by simpa using hu
    right
    intro e
    have := (h.lt W.heap.size (by rw [← e]; rfl)).2
    omega
theorem ret2 {p q : Bool} {v : Value} (h : p = q) : Ending.returned (.tuple #[v, .bool p]) = .returned (.tuple #[v, .bool q]) := by rw [h]
set_option maxRecDepth 100000 in
set_option maxHeartbeats 4000000 in
theorem impl_any (t l : Int) (w : World) :
    Calls Try.prog 26 #[.int .i64 t, .int .i64 l] w fun e w' => ∃ v, e = .returned (.tuple #[v, .bool (okH t l)]) ∧ OwnL_int w w' v (resH t l) ∧ Below w.heap.size w w' := by
  have HM := Lib.hid (nl_made_int (World.ownsRow_made (base := w.heap.size) (e := 22) (size := 1) w #[] 0 (Nat.le_refl _) (Nat.zero_le _) (by simp)))
  have HMB := Lib.hid ((Below.refl w.heap.size w).alloc (Nat.le_refl _) (.cells #[] 22))
  by_cases h : okH t l = true
  · obtain ⟨⟨h1, h2⟩, h3, h4⟩ := polyDist.ok_iff.1 h
    obtain ⟨u, hu, rfl⟩ : ∃ u : Nat, (2 ≤ u ∧ u ≤ 7) ∧ t = (u : Int) + 1 := ⟨(t - 1).toNat, by omega, by omega⟩
    obtain ⟨n, rfl⟩ := Int.eq_ofNat_of_zero_le h3
    have HR := Lib.hid (show okH ((u : Int) + 1) (n : Int) = true ∧ resH ((u : Int) + 1) (n : Int) = sts u n (n + 1) by
      refine ⟨h, ?_⟩
      rw [resH, if_pos h, show ((u : Int) + 1).toNat - 1 = u by omega, show ((n : Int)).toNat = n by omega]; rfl)
    have i1 : inB ((u : Int) + 1) 3 8 = true := inB_true (by omega) (by omega)
    have i2 : inB (n : Int) 0 15 = true := inB_true (by omega) (by omega)
    have hn : n ≤ 15 := by omega
    have hub : u ≤ 1099511627776 := by omega
    have hlen0 := dist_len hu.1 n
    clear h
    go_enter Try.func26, Try.ntmps26
    go_wp2_with (first | (go_at_call 50; refine (ins.spec_any _ _ _ _).mono ?_; rintro e w' ⟨rfl, rfl⟩) | (go_at_call 53; refine (ins.impl_any _ _ _ _).mono ?_; rintro e w' ⟨rfl, rfl⟩) | (go_at_call 54; refine (dists.impl_any u n _ hu.1 hu.2 hn).mono ?_; rintro e w1 ⟨v, rfl, ho, hb⟩; have hs1 := hb.size) | go_in | ((at_builtin; refine mem.push _ rfl _ _ 22 rfl w.heap.size 3 _ 1 8 Try.underlying22 mem.info_int rfl Nat.one_pos _ _ _ rfl ho [.int .i64 ((0 : Int))] _ rfl (mem.ints_one [(0 : Int)]) rfl hub (by decide) hs1 ?_; intro v' w' ho' hg'); obtain ⟨A2, c2, rfl, _, _, hr2⟩ := own_form ho'))
    have hb2 := below_push hb hs1 hg' ho
    have hst : ints (dist u n) ++ [.int .i64 0] = ints (st u n 0) := by rw [st, ints_app]; rfl
    rw [hst] at ho' hr2
    have HO := Lib.hid (show w'.ownsRow w.heap.size 3 1 (.slice A2 (u + 1) c2) (st u n 0).length (ints (st u n 0)) by rw [st_len hu.1 hn (Nat.zero_le _)]; exact ho')
    have HN0 := Lib.hid (nl_one HO.out hb2.size)
    have HR0 := Lib.hid (hr2.alloc (.cells #[.slice A2 (u + 1) c2] 22))
    have HB0 := Lib.hid (hb2.alloc hb2.size (.cells #[.slice A2 (u + 1) c2] 22))
    clear ho' hg' ho hst hr2
    go_loopg [6, 7] (n + 1) (fun f s o wr => ∃ (k : Nat) (A' : Option Addr) (c' : Nat) (vs : List Value), n < k + f ∧ k ≤ n ∧ s = .slice A' (u + 1) c' ∧ Rd wr 1 A' (u + 1) (ints (st u n k)) ∧ NL_int wr w.heap.size o vs (sts u n (k + 1)) ∧ Below w.heap.size w wr)
    case atStart => exact ⟨0, A2, c2, _, by omega, by omega, rfl, HR0.out, by simpa [sts] using HN0.out, HB0.out⟩
    case round =>
      obtain ⟨k, A', c', vs, hkf, hk, rfl, hrk, hnl, hb⟩ := hrel
      have HNL := Lib.hid hnl
      have HTD := Lib.hid (st_tidy (k := k) hu.1 hn hk)
      have HSM := Lib.hid (small_of (st_tidy (k := k) hu.1 hn hk))
      have HMO := Lib.hid (st_more (k := k) hu.1 hn hk)
      have HLEN := Lib.hid (st_len (k := k) hu.1 hn hk)
      have HSTEP := Lib.hid (show st u n (k + 1) = nxt (st u n k) from rfl)
      have HSN := Lib.hid (sts_step u n (k + 1))
      have HSL := Lib.hid (sts_len u n (k + 1))
      have HAB := Lib.hid (fun (h : k < n) => st_able (L := n) hu.1 hn h)
      have HLEN2 := Lib.hid (fun (h : k < n) => st_len (k := k + 1) (L := n) hu.1 hn h)
      obtain ⟨cur2, hcur2⟩ : ∃ c, c = st u n (k + 1) := ⟨_, rfl⟩
      rw [← hcur2] at HSTEP HSN HLEN2
      have HC2 := Lib.hid hcur2
      clear hcur2
      generalize st u n k = cur at hrk HTD HSM HMO HLEN HSTEP HAB
      clear hnl
      have HSUM := Lib.hid (fun (W : World) (h : Rd W 1 A' cur.length (ints cur)) => sums.impl_any A' c' cur W (by have := HLEN.out; omega) HSM.out h)
      have HPH := Lib.hid (fun (W : World) (h : Rd W 1 A' cur.length (ints cur)) => impl_phase A' c' cur W (by have := HLEN.out; omega) HTD.out h)
      have HAF := Lib.hid (fun (W : World) (ha : able cur = true) (h : Rd W 1 A' cur.length (ints cur)) => impl_after A' c' cur W (by have := HLEN.out; omega) HTD.out ha h)
      rw [HLEN.out] at HSUM HPH HAF
      go_wp2_with fail
      refine (HSUM.out _ hrk).mono ?_
      rintro e w2 ⟨rfl, rfl⟩
      by_cases hmo : 1 < cur.sum
      · have hlt : k < n := HMO.out.1 hmo
        have hab := HAB.out hlt
        go_wp2_with fail
        refine (HPH.out _ hrk).mono ?_
        rintro e w2 ⟨x, y, rfl, hxy, rfl⟩
        obtain ⟨rfl, rfl⟩ := hxy hab
        clear hxy
        go_wp2_with fail
        refine (HAF.out _ hab hrk).mono ?_
        rintro e w3 ⟨v, rfl, ho, hb3⟩
        rw [← HSTEP.out] at ho
        have hb4 := below_step hb hb3
        have hapt := nl_apart_int HNL.out (own_ge ho)
        have ho2 := nl_below_int HNL.out hb3
        have hx0 := own_base ho hb.size
        have HX := Lib.hid hx0
        have HXA := Lib.hid hapt
        have HO2 := Lib.hid ho2
        obtain ⟨A3, c3, rfl, _, _, _⟩ := own_form ho
        have hbs := hb4.size
        have hnl : (sts u n (k + 1)).length ≤ 1099511627776 := by have := HSL.out; omega
        have htop := ho2.top
        clear hapt ho2 hx0 ho hab
        go_wp2_with (at_builtin; refine mem.push_at _ rfl _ _ 36 rfl w.heap.size 22 _ 1 24 Try.underlying36 info_row rfl Nat.one_pos _ _ _ rfl htop [.slice A3 cur2.length c3] _ rfl (one_row _ _ _) rfl hnl (by decide) hbs ?_; intro v' w' ho' hg' hnw')
        have HN := Lib.hid (nl_push_int HO2.out HX.out HXA.out.1 HXA.out.2 ho' hg' hnw')
        have HRX := Lib.hid (show Rd w' 1 A3 (u + 1) (ints cur2) by
          have := own_rd (HX.out.kept hg' (HXA.out.1.symm))
          rwa [HLEN2.out hlt] at this)
        have hb5 := below_push hb4 hbs hg' htop
        rw [HLEN2.out hlt]
        rw [HLEN2.out hlt] at HN
        clear ho' hg' hnw' htop
        go_wp2
        go_roundg (n - k)
        case measure => omega
        case rel => exact ⟨k + 1, A3, c3, _, by omega, by omega, rfl, by rw [← HC2.out]; exact HRX.out, by rw [HSN.out]; exact HN.out, hb5⟩
      · have HKN := Lib.hid (show k = n by have := HMO.out; omega)
        have HF := Lib.hid (show OwnL_int w wr u7 (resH ((u : Int) + 1) (n : Int)) by
          have e := HNL.out
          rw [HKN.out] at e
          rw [HR.out.2]
          exact ⟨⟨vs, e⟩, by rw [sts_len]; omega, fun r hr => by
            have := resH_row ((u : Int) + 1) (n : Int) r (by rw [HR.out.2]; exact hr)
            omega⟩)
        go_wp2
        go_ret2
        exact ⟨_, ret2 HR.out.1.symm, HF.out, hb⟩
  · have HR := Lib.hid (show okH t l = false ∧ resH t l = [] by
      have : okH t l = false := by simpa using h
      exact ⟨this, by rw [resH, this]; rfl⟩)
    have HZ := Lib.hid (show OwnL_int w w (.slice none 0 0) (resH t l) by rw [HR.out.2]; exact ⟨⟨[], nl_nil_int _ _⟩, by simp, by simp⟩)
    by_cases h1 : inB t 3 8 = true
    · have h2 : inB l 0 15 = false := by
        simp only [okH, polyDist.ok, h1, Bool.true_and] at h; simpa using h
      clear h
      go_enter Try.func26, Try.ntmps26
      go_wp2_with (first | (go_at_call 50; refine (ins.spec_any _ _ _ _).mono ?_; rintro e w' ⟨rfl, rfl⟩) | (go_at_call 53; refine (ins.impl_any _ _ _ _).mono ?_; rintro e w' ⟨rfl, rfl⟩) | go_in)
      go_ret2
      exact ⟨_, ret2 HR.out.1.symm, HZ.out, Below.refl _ _⟩
    · have h2 : inB t 3 8 = false := by simpa using h1
      clear h h1
      go_enter Try.func26, Try.ntmps26
      go_wp2_with (first | (go_at_call 50; refine (ins.spec_any _ _ _ _).mono ?_; rintro e w' ⟨rfl, rfl⟩) | (go_at_call 53; refine (ins.impl_any _ _ _ _).mono ?_; rintro e w' ⟨rfl, rfl⟩) | go_in)
      go_ret2
      exact ⟨_, ret2 HR.out.1.symm, HZ.out, Below.refl _ _⟩
end Go.Proofs.Ytgffabjajbgbjaa.phs
