/- GroupRecords, the program's. Condition: at most 2^20 records. -/
import Derived.Test.YtgngoedooemboaaJoin
import Derived.Test.YtgngoedooemboaaVrec
import Derived.Test.YtgngoedooemboaaLawGrp
set_option linter.unusedVariables false
set_option linter.unusedSimpArgs false
namespace Go.Proofs.Ytgngoedooemboaa.gp
open Go.RowKit Go.Proofs.Ytgngoedooemboaa.mem Go.Proofs.Ytgngoedooemboaa.stb Go.Proofs.Ytgngoedooemboaa.gj
open Go.Proofs.Ytgngoedooemboaa.vrecs (vrec vrec_len vrec_mem)

def resG (zs : List Rec) : List Grp := if vrec zs = true then join (stab ltK (zs.map g1)) else []
theorem resG_len (zs : List Rec) : (resG zs).length ≤ zs.length := by
  unfold resG; split
  · have := join_len (stab ltK (zs.map g1)) (stab ltK (zs.map g1)).length
    rw [List.take_length, stab_len, List.length_map] at this
    exact this
  · simp
set_option maxRecDepth 100000 in
set_option maxHeartbeats 4000000 in
theorem gp_impl (A : Option Addr) (c : Nat) (zs : List Rec) (w : World) (hn : zs.length ≤ 1048576) (hr : Rd w 2 A zs.length (recs zs)) :
    Calls Try.prog 42 #[.slice A zs.length c] w fun e w' => ∃ v, e = .returned (.tuple #[v, .bool (vrec zs)]) ∧ OwnGrp w w' v (resG zs) ∧ Below w.heap.size w w' := by
  have HV := Lib.hid ((show Calls Try.prog _ _ w fun e w' => e = .returned (.bool (vrec zs)) ∧ Below w.heap.size w w' from (vrecs.impl_any A c zs w hn hr).mono fun e w' h => ⟨h.1, by first | exact h.2 | (rw [← h.2]; exact Below.refl _ _)⟩))
  have HL := Lib.hid (resG_len zs)
  cases hv : vrec zs with
  | false =>
    have HR := Lib.hid (show resG zs = [] by simp [resG, hv])
    rw [hv] at HV
    clear hv
    go_enter Try.func42, Try.ntmps42
    go_wp2_with fail
    refine HV.out.mono ?_
    rintro e w1 ⟨rfl, hb1⟩
    go_wp2
    go_ret2
    exact ⟨_, rfl, ⟨by rw [HR.out]; exact World.ownsRow_nil _ _ _ _, by rw [HR.out]; simp⟩, hb1⟩
  | true =>
    have HR := Lib.hid (show resG zs = join (stab ltK (zs.map g1)) by rw [resG, if_pos hv])
    have HT := Lib.hid (show Tame 1048576 (zs.map g1) from fun g hg => by
      obtain ⟨z, hz, rfl⟩ := List.mem_map.1 hg
      have := vrec_mem hv z hz
      simp only [g1]; omega)
    have HJ := Lib.hid (fun (A : Option Addr) (c : Nat) (W : World) (h : Rd W 5 A zs.length (grps (zs.map g1))) => show Calls Try.prog 79 #[.slice A zs.length c] W _ from by
      have := joined_any A c (zs.map g1) W (by rw [List.length_map]; exact hn) HT.out (by rw [List.length_map]; exact h)
      rw [List.length_map] at this
      exact this)
    rw [hv] at HV
    clear hv
    go_enter Try.func42, Try.ntmps42
    go_wp2_with fail
    refine HV.out.mono ?_
    rintro e w1 ⟨rfl, hb1⟩
    have HO1 := Lib.hid (World.ownsRow_made (e := 71) (size := 5) w1 #[] 0 (Nat.le_refl _) (Nat.zero_le _) (by simp))
    go_wp2
    go_loopg [4, 13] (zs.length + 1) (fun f v i wr => ∃ k : Nat, zs.length < k + f ∧ k ≤ zs.length ∧ i = .int .i64 (k : Int) ∧ wr.ownsRow w1.heap.size 71 5 v k (grps ((zs.take k).map g1)) ∧ Below w1.heap.size w1 wr)
    case atStart => exact ⟨0, by omega, by omega, rfl, HO1.out, (Below.refl _ _).alloc (Nat.le_refl _) _⟩
    case round =>
      obtain ⟨k, hkf, hk, rfl, hov, hb⟩ := hrel
      by_cases hlt : k < zs.length
      · have HT2 := Lib.hid (show (zs.take (k + 1)).map g1 = (zs.take k).map g1 ++ [⟨(zs[k]).key, 1, (zs[k]).tag, (zs[k]).tag, (zs[k]).tag⟩] by rw [List.take_succ_eq_append_getElem hlt, List.map_append]; rfl)
        obtain ⟨b, off, rfl, x0, x1⟩ := (hr.below (below_step hb1 hb)).rec (k := k) hlt
        generalize zs[k] = x at x0 x1 HT2
        generalize (zs.take k).map g1 = o at hov HT2
        have q1 : (k : Int) < (zs.length : Int) := by omega
        have hh : k ≤ 1099511627776 := by omega
        obtain ⟨wb, hwb⟩ : ∃ W : World, W = wr.alloc (.cells #[.int .i64 x.key, .int .i64 x.tag] 49) := ⟨_, rfl⟩
        have hbb : Below wr.heap.size wr wb := by rw [hwb]; exact (Below.refl _ _).alloc (Nat.le_refl _) _
        have hBk : Blk wb wr.heap.size 49 #[.int .i64 x.key, .int .i64 x.tag] := by rw [hwb]; exact Blk.new _ _ _
        have hovb := own_below hov hbb
        have hbw := hb.size
        have hb5 : Below w1.heap.size w1 wb := hb.trans (hbb.mono hbw)
        have hbw2 : w1.heap.size ≤ wb.heap.size := hb5.size
        have g0 : wb.cell? ⟨wr.heap.size, 0, none⟩ = some (.int .i64 x.key) := hBk.cell 0
        have g1 : wb.cell? ⟨wr.heap.size, 1, none⟩ = some (.int .i64 x.tag) := hBk.cell 1
        have HSZ := Lib.hid (show wb.heap.size = wr.heap.size + 1 by rw [hwb]; simp)
        subst hwb
        clear hbb hBk hov hb hbw
        go_wp2_with (at_builtin; rw [← HSZ.out]; refine mem.push _ rfl _ _ 25 rfl w1.heap.size 71 _ 5 40 Try.underlying25 mem.info_grp rfl (by decide) _ _ _ rfl hovb (grps [⟨x.key, 1, x.tag, x.tag, x.tag⟩]) _ rfl (mem.grps_one [⟨x.key, 1, x.tag, x.tag, x.tag⟩]) rfl hh (by decide) hbw2 ?_; intro v' w' ho' hg')
        have hb6 := below_push hb5 hbw2 hg' hovb
        have HALL := Lib.hid (And.intro ho' hb6)
        clear ho' hb6 hg' hovb hb5 g0 g1 x0 x1
        go_wp2
        go_roundg (gk - 1)
        case measure => omega
        case rel => exact ⟨k + 1, by omega, by omega, by go_num, by rw [HT2.out, grps_app]; exact HALL.out.1, HALL.out.2⟩
      · obtain rfl : k = zs.length := by omega
        rw [List.take_length] at hov
        obtain ⟨A1, c1, rfl, hc1, hc1m, hr1⟩ := own_form hov
        have hsz : w.heap.size ≤ wr.heap.size := Nat.le_trans hb1.size hb.size
        have HB := Lib.hid (below_step hb1 hb)
        have HC := Lib.hid (HJ.out A1 c1 wr hr1)
        clear hov hr1 hb
        go_wp2_with fail
        refine HC.out.mono ?_
        rintro e w3 ⟨v, rfl, ho, hb2⟩
        have hb3 := below_step HB.out hb2
        go_wp2
        go_ret2
        exact ⟨_, rfl, ⟨by rw [HR.out]; exact own_base ho hsz, Nat.le_trans HL.out hn⟩, hb3⟩
end Go.Proofs.Ytgngoedooemboaa.gp
