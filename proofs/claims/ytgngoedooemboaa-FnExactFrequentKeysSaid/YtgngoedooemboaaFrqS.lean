/- FrequentKeys, the reference's. Condition: at most 2^20 elements. -/
import Derived.Test.YtgngoedooemboaaFrqI
import Derived.Test.YtgngoedooemboaaFrqC
set_option linter.unusedVariables false
set_option linter.unusedSimpArgs false
namespace Go.Proofs.Ytgngoedooemboaa.frq
open Go.RowKit Go.Maps Go.Proofs.Ytgngoedooemboaa.mem Go.Proofs.Ytgngoedooemboaa.lists Go.Proofs.Ytgngoedooemboaa.srt
open Go.Proofs.Ytgngoedooemboaa.ins (inB inB_iff)

theorem two_rd {w : World} {base : Nat} {v u : Value} {L : Ctr} (h : Two w base v u L) : ∃ A1 c1 A2 c2, v = .slice A1 L.length c1 ∧ u = .slice A2 L.length c2 ∧ L.length ≤ c1 ∧ L.length ≤ c2 ∧ Rd w 1 A1 (keys L).length (ints (keys L)) ∧ Rd w 1 A2 (vals L).length (ints (vals L)) := by
  obtain ⟨A1, c1, rfl, h1, _, h2⟩ := own_form h.ks
  obtain ⟨A2, c2, rfl, h3, _, h4⟩ := own_form h.cs
  exact ⟨A1, c1, A2, c2, rfl, rfl, h1, h3, by rw [keys_len]; exact h2, by rw [vals_len]; exact h4⟩
set_option maxRecDepth 100000 in
set_option maxHeartbeats 4000000 in
theorem frq_spec (A : Option Addr) (c : Nat) (zs : List Int) (k : Int) (w : World) (hn : zs.length ≤ 1048576) (hr : Rd w 1 A zs.length (ints zs)) :
    Calls Try.prog 51 #[.slice A zs.length c, .int .i64 k] w fun e w' => ∃ v v2, e = .returned (.tuple #[v, v2, .bool (okF zs k)]) ∧ OwnI w w' v (resK zs k) ∧ OwnI w w' v2 (resV zs k) ∧ (v.ownBlock = none ∨ v.ownBlock ≠ v2.ownBlock) ∧ Below w.heap.size w w' := by
  have HV := Lib.hid (fun W h => lists.spec_any A c zs W hn h)
  have HI := Lib.hid (fun W => ins.spec_any k 1 16 W)
  have HT0 := Lib.hid (show Two ((w.alloc (.cells #[] 3)).alloc (.cells #[] 3)) w.heap.size (.slice (some ⟨w.heap.size, 0, none⟩) 0 0) (.slice (some ⟨w.heap.size + 1, 0, none⟩) 0 0) [] from ⟨(World.ownsRow_made (e := 3) (size := 1) w #[] 0 (Nat.le_refl _) (Nat.zero_le _) (by simp)).alloc (.cells #[] 3), own_made2 w 3 1, Or.inr (by simp [Value.ownBlock])⟩)
  have HBX := Lib.hid ((box2 w 3 3 #[] #[]).2.2)
  have HR0 := Lib.hid (hr.below HBX.out)
  by_cases hok : okF zs k = true
  · have HOK := Lib.hid hok
    rw [okF, Bool.and_eq_true] at hok
    obtain ⟨hv, hi⟩ := hok
    have hk := inB_iff.1 hi
    obtain ⟨q, rfl⟩ : ∃ q : Nat, k = (q : Int) := ⟨k.toNat, by omega⟩
    have hlen := vlist_len hv
    rw [hv] at HV
    rw [hi] at HI
    clear hv hi
    go_enter Try.func51, Try.ntmps51
    go_wp2_with (first
      | (with_reducible refine (HV.out _ HR0.out).mono ?_; rintro e w3 ⟨rfl, rfl⟩)
      | (with_reducible refine (HI.out _).mono ?_; rintro e w4 ⟨rfl, rfl⟩))
    go_loopg [7, 8, 9] (zs.length + 1) (fun f v u i wr => ∃ k : Nat, zs.length < k + f ∧ k ≤ zs.length ∧ i = .int .i64 (k : Int) ∧ Two wr w.heap.size v u (at' q zs k) ∧ Below w.heap.size w wr)
    case atStart => exact ⟨0, by omega, by omega, rfl, HT0.out, HBX.out⟩
    case round =>
      obtain ⟨k, hkf, hk1, rfl, hT, hb⟩ := hrel
      obtain ⟨h1, h2, h3⟩ := at_ok q zs k hk1
      by_cases hlt : k < zs.length
      · obtain ⟨b, off, rfl, hc0⟩ := (hr.below hb).int hlt
        have HST := Lib.hid (at_step q zs hlt)
        generalize zs[k] = x at hc0 HST
        generalize at' q zs k = L at hT HST h1 h2 h3
        have HC := Lib.hid (count_any _ _ L x q wr w.heap.size hb.size (by omega) (by omega) h1 (fun p hp => by have := h3 p hp; omega) hT)
        have HB := Lib.hid hb
        have q1 : (k : Int) < (zs.length : Int) := by omega
        clear hT h1 h2 h3 hb
        go_wp2_with (with_reducible refine HC.out.mono ?_; rintro e w5 ⟨v5, u5, rfl, hT5, hb5⟩)
        go_roundg (gk - 1)
        case measure => omega
        case rel => exact ⟨k + 1, by omega, by omega, by go_num, by rw [HST.out]; exact hT5, HB.out.trans hb5⟩
      · obtain rfl : k = zs.length := by omega
        have q1 : ¬ (zs.length : Int) < (zs.length : Int) := by omega
        have HL := Lib.hid (show at' q zs zs.length = run q zs by rw [at', List.take_length])
        rw [HL.out] at hT h1 h2 h3
        have HRK := Lib.hid (show resK zs (q : Int) = srt (keys (run q zs)) by rw [resK, if_pos HOK.out, Int.toNat_natCast])
        have HRV := Lib.hid (show resV zs (q : Int) = (srt (keys (run q zs))).map (look (run q zs)) by rw [resV, HRK.out, Int.toNat_natCast])
        generalize run q zs = L at hT h1 h2 h3 HRK HRV
        obtain ⟨A1, c1, A2, c2, rfl, rfl, hc1, hc2, hr1, hr2⟩ := two_rd hT
        have HSO := Lib.hid (srt.spec_any A1 c1 (keys L) wr (by rw [keys_len]; omega) hr1)
        rw [keys_len] at HSO
        have HSM := Lib.hid (fun y (h : y ∈ srt (keys L)) => srt_mem.1 h)
        have HSL := Lib.hid (show (srt (keys L)).length = L.length by rw [srt_len, keys_len])
        have HB := Lib.hid hb
        have HO := Lib.hid h1
        clear hr1 hr2 h1 h3 hb
        generalize srt (keys L) = S at HSO HSM HSL HRK HRV
        have hl64 : L.length ≤ 64 := by omega
        go_wp2_with (with_reducible refine HSO.out.mono ?_; rintro e w5 ⟨v5, rfl, hs5, hb5⟩)
        obtain ⟨A5, c5, rfl, hc5, hc5m, hr5⟩ := own_form (show w5.ownsRow wr.heap.size 3 1 v5 L.length (ints S) from hs5)
        have hT5 := hT.below hb5
        have HB5 := Lib.hid (HB.out.trans (hb5.mono HB.out.size))
        have HT5 := Lib.hid hT5
        have HS5 := Lib.hid (own_base hs5 HB.out.size)
        have HA5 := Lib.hid (show ∀ u0 : Value, (∀ k, u0.ownBlock = some k → w5.heap.size ≤ k) → ((Value.slice A5 L.length c5).ownBlock = none ∨ (Value.slice A5 L.length c5).ownBlock ≠ u0.ownBlock) from fun u0 hu => sep_symm (apt_above hu (own_lt hs5)))
        have HM0 := Lib.hid (World.ownsRow_made (e := 3) (size := 1) w5 #[] 0 (Nat.le_refl _) (Nat.zero_le _) (by simp))
        have HMB := Lib.hid ((Below.refl w5.heap.size w5).alloc (Nat.le_refl _) (.cells #[] 3))
        clear hT hT5 hs5 hb5 hr5 HSO
        go_wp2
        go_loopg [11, 12] (L.length + 1) (fun f u i wr => ∃ k : Nat, L.length < k + f ∧ k ≤ L.length ∧ i = .int .i64 (k : Int) ∧ wr.ownsRow w5.heap.size 3 1 u k (ints ((S.take k).map (look L))) ∧ Below w5.heap.size w5 wr)
        case atStart => exact ⟨0, by omega, by omega, rfl, HM0.out, HMB.out⟩
        case round =>
          obtain ⟨i, hif, hi1, rfl, hu, hb⟩ := hrel
          by_cases hlt2 : i < L.length
          · have q2 : (i : Int) < (L.length : Int) := by omega
            have hSi : i < S.length := by rw [HSL.out]; exact hlt2
            obtain ⟨g5, rfl, hg5a, hg5b⟩ := own_addr HS5.out (by omega)
            have HX5 := Lib.hid (fun W (h : Below w5.heap.size w5 W) => own_cell (own_below HS5.out h) (show (ints S)[i]? = some (.int .i64 S[i]) by simp [ints, hSi]))
            have HST := Lib.hid (show (S.take (i + 1)).map (look L) = (S.take i).map (look L) ++ [look L S[i]] by rw [List.take_succ_eq_append_getElem hSi, List.map_append]; rfl)
            have hxm := HSM.out _ (List.getElem_mem hSi)
            generalize S[i] = x at HX5 HST hxm
            have HHA := Lib.hid (hit_all HO.out hxm)
            obtain ⟨gO, hgO⟩ : ∃ gO, gO = gk := ⟨_, rfl⟩
            have HSLi := Lib.hid (show ((S.take i).map (look L)).length = i by rw [List.length_map, List.length_take]; omega)
            generalize (S.take i).map (look L) = P at hu HST HSLi
            have HU := Lib.hid hu
            have HB6 := Lib.hid hb
            clear hxm hu hb
            rw [← hgO] at hif
            have HGO := Lib.hid hgO
            clear hgO
            go_wp2
            obtain ⟨wo, hwo⟩ : ∃ wo : World, wo = wr := ⟨_, rfl⟩
            rw [← hwo] at HU HB6 ⊢
            clear hwo
            go_loopg [11, 13] (L.length + 1) (fun f u j wr => ∃ k : Nat, L.length < k + f ∧ k ≤ L.length ∧ j = .int .i64 (k : Int) ∧ wr.ownsRow w5.heap.size 3 1 u (i + (hit L x k).length) (ints (P ++ hit L x k)) ∧ Below w5.heap.size w5 wr)
            case atStart => exact ⟨0, by omega, by omega, rfl, by simpa [hit_zero] using HU.out, HB6.out⟩
            case round =>
              obtain ⟨j, hjf, hj1, rfl, hu, hb⟩ := hrel
              have hbw := hb.size
              by_cases hlt3 : j < L.length
              · have q3 : (j : Int) < (L.length : Int) := by omega
                obtain ⟨g1, rfl, hg1a, hg1b⟩ := own_addr HT5.out.ks (by omega)
                obtain ⟨g2, rfl, hg2a, hg2b⟩ := own_addr HT5.out.cs (by omega)
                have hx1 := own_cell (own_below HT5.out.ks hb) (keys_i hlt3)
                have hx2 := own_cell (own_below HT5.out.cs hb) (vals_i hlt3)
                have hx5 := HX5.out _ hb
                have HHS := Lib.hid (hit_step L x hlt3)
                have hhl := hit_len L x j
                generalize L[j].1 = y at hx1 HHS
                generalize L[j].2 = c9 at hx2 HHS
                generalize hit L x j = H at hu HHS hhl
                have hh : i + H.length ≤ 1099511627776 := by omega
                by_cases he : y = x
                · have HE := Lib.hid (show hit L x (j + 1) = H ++ [c9] by rw [HHS.out, if_pos he])
                  have q4 : (y == x) = true := by simpa using he
                  clear he
                  obtain ⟨A6, c6, rfl, hc6, hc6m, hr6⟩ := own_form hu
                  clear hr6
                  go_wp2_with (first
                    | (go_quiet (fail); have hu9 := own_drewN hu nq; have hb9 := below_drewN hb nq; have hbw9 := hb9.size)
                    | (at_builtin; refine mem.push_at _ rfl _ _ 29 rfl w5.heap.size 3 _ 1 8 Try.underlying29 mem.info_int rfl Nat.one_pos (.slice A6 (i + H.length) c6) _ _ rfl hu9 (ints [c9]) _ rfl (mem.ints_one [c9]) rfl hh (by decide) hbw9 ?_; intro v' w' ho' hg' hnw'))
                  have hb6 := below_push hb9 hbw9 hg' hu9
                  go_wp2
                  go_roundg (gk - 1)
                  case measure => omega
                  case rel => exact ⟨j + 1, by omega, by omega, by go_num, by rw [HE.out, List.length_append, ← List.append_assoc, ints_app (P ++ H)]; exact ho', hb6⟩
                · have HE := Lib.hid (show hit L x (j + 1) = H by rw [HHS.out, if_neg he])
                  have q4 : (y == x) = false := by simpa using he
                  clear he
                  go_wp2_with (go_quiet (fail); have hu9 := own_drewN hu nq; have hb9 := below_drewN hb nq)
                  go_roundg (gk - 1)
                  case measure => omega
                  case rel => exact ⟨j + 1, by omega, by omega, by go_num, by rw [HE.out]; exact hu9, hb9⟩
              · obtain rfl : j = L.length := by omega
                rw [HHA.out] at hu
                go_wp2
                go_roundg (gO - 1)
                case measure => have := HGO.out; omega
                case rel => exact ⟨i + 1, by omega, by omega, by go_num, by rw [HST.out]; exact hu, hb⟩
          · obtain rfl : i = L.length := by omega
            rw [show S.take L.length = S by rw [← HSL.out, List.take_length]] at hu
            have HSb := Lib.hid (own_below HS5.out hb)
            have HAP := Lib.hid (HA5.out _ (own_ge hu))
            have HUb := Lib.hid (own_base hu HB5.out.size)
            have HBF := Lib.hid (HB5.out.trans (hb.mono HB5.out.size))
            clear hu hb
            go_wp2
            go_ret3
            exact ⟨_, _, by rw [HOK.out]; rfl, ⟨by rw [HRK.out, HSL.out]; exact HSb.out, by rw [HRK.out, HSL.out]; omega⟩, ⟨by rw [HRV.out, List.length_map, HSL.out]; exact HUb.out, by rw [HRV.out, List.length_map, HSL.out]; omega⟩, HAP.out, HBF.out⟩
  · have HR := Lib.hid (show okF zs k = false ∧ resK zs k = [] ∧ resV zs k = [] by
      have h0 : okF zs k = false := by simpa using hok
      exact ⟨h0, by rw [resK, h0]; rfl, by rw [resV, resK, h0]; rfl⟩)
    cases hv : vlist zs with
    | false =>
      rw [hv] at HV
      clear hv hok
      go_enter Try.func51, Try.ntmps51
      go_wp2_with (first
        | (with_reducible refine (HV.out _ HR0.out).mono ?_; rintro e w3 ⟨rfl, rfl⟩)
        | (with_reducible refine (HI.out _).mono ?_; rintro e w4 ⟨rfl, rfl⟩))
      go_ret3
      exact ⟨_, _, by rw [HR.out.1]; rfl, ⟨by rw [HR.out.2.1]; exact HT0.out.ks, by rw [HR.out.2.1]; simp⟩, ⟨by rw [HR.out.2.2]; exact HT0.out.cs, by rw [HR.out.2.2]; simp⟩, HT0.out.ap, HBX.out⟩
    | true =>
      have hi : inB k 1 16 = false := by
        rw [okF, hv, Bool.true_and] at hok
        simpa using hok
      rw [hv] at HV
      rw [hi] at HI
      clear hv hok hi
      go_enter Try.func51, Try.ntmps51
      go_wp2_with (first
        | (with_reducible refine (HV.out _ HR0.out).mono ?_; rintro e w3 ⟨rfl, rfl⟩)
        | (with_reducible refine (HI.out _).mono ?_; rintro e w4 ⟨rfl, rfl⟩))
      go_ret3
      exact ⟨_, _, by rw [HR.out.1]; rfl, ⟨by rw [HR.out.2.1]; exact HT0.out.ks, by rw [HR.out.2.1]; simp⟩, ⟨by rw [HR.out.2.2]; exact HT0.out.cs, by rw [HR.out.2.2]; simp⟩, HT0.out.ap, HBX.out⟩
end Go.Proofs.Ytgngoedooemboaa.frq
