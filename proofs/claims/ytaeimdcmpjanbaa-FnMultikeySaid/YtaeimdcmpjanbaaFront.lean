/- FrontCode, the program's and the reference's. Condition: at most 2^20 strings of at most 2^20 bytes. -/
import Derived.Test.YtaeimdcmpjanbaaPfxLen
import Derived.Test.YtaeimdcmpjanbaaCod
import Derived.Test.YtaeimdcmpjanbaaMemAt
import Derived.Deep.LoopGhost
import Derived.Deep.RegionLaw
set_option linter.unusedVariables false
set_option linter.unusedSimpArgs false
namespace Go.Proofs.Ytaeimdcmpjanbaa.front
open Go.RowKit Go.Proofs.Ytaeimdcmpjanbaa.mem Go.Proofs.Ytaeimdcmpjanbaa.pfxs
open Go.Proofs.Ytaeimdcmpjanbaa.ascStr (sasc e0 getD_s)
open Go.Proofs.Ytaeimdcmpjanbaa.validStr (vstr)

def cutS (s : ByteArray) (n : Int) : ByteArray := s.extract n.toNat s.size
def fc (ss : List ByteArray) (i : Nat) : Cod := ⟨pv ss i, cutS (ss.getD i e0) (pv ss i)⟩
def fcode (ss : List ByteArray) : List Cod := (List.range ss.length).map (fc ss)
def fpart (ss : List ByteArray) (k : Nat) : List Cod := (List.range k).map (fc ss)
theorem fpart_len (ss : List ByteArray) (k : Nat) : (fpart ss k).length = k := by simp [fpart]
theorem fpart_step (ss : List ByteArray) (k : Nat) : fpart ss (k + 1) = fpart ss k ++ [fc ss k] := by simp [fpart, List.range_succ]
theorem pv_bd (ss : List ByteArray) {i : Nat} (h : i < ss.length) : 0 ≤ pv ss i ∧ pv ss i ≤ (ss[i].size : Int) := by
  unfold pv
  split
  · omega
  · have := (prefixes.cpl_le (ss.getD (i - 1) e0).data.toList (ss.getD i e0).data.toList).2
    rw [getD_s ss h] at this ⊢
    have e : ss[i].data.toList.length = ss[i].size := Array.length_toList
    omega
def okF (ss : List ByteArray) : Bool := vstr ss && sasc ss
def resF (ss : List ByteArray) : List Cod := if okF ss = true then fcode ss else []
theorem resF_len (ss : List ByteArray) : (resF ss).length ≤ ss.length := by
  unfold resF fcode
  split
  · rw [List.length_map, List.length_range]; exact Nat.le_refl _
  · exact Nat.zero_le _
theorem ret2 {p q : Bool} {v : Value} (h : p = q) : Ending.returned (.tuple #[v, .bool p]) = .returned (.tuple #[v, .bool q]) := by rw [h]
set_option maxRecDepth 100000 in
set_option maxHeartbeats 2000000 in
theorem impl_any (A : Option Addr) (c : Nat) (ss : List ByteArray) (w : World) (hn : ss.length ≤ 1048576) (hs : ∀ s ∈ ss, s.size ≤ 1048576) (hr : Rd w 1 A ss.length (strs ss)) :
    Calls Try.prog 17 #[.slice A ss.length c] w fun e w' => ∃ v, e = .returned (.tuple #[v, .bool (okF ss)]) ∧ OwnCod w w' v (resF ss) ∧ Below w.heap.size w w' := by
  have HA := Lib.hid (ascStr.impl_asc A c ss w (by unfold maxLen; omega) (fun s h => by have := hs s h; unfold maxLen; omega) hr)
  have HO := Lib.hid (show okF ss = (vstr ss && sasc ss) from rfl)
  cases hok : (vstr ss && sasc ss) with
  | false =>
    have HR := Lib.hid (show okF ss = false ∧ resF ss = [] by rw [resF, HO.out, hok]; exact ⟨rfl, rfl⟩)
    rw [hok] at HA
    clear hok HO
    go_enter Try.func17, Try.ntmps17
    go_wp2_with fail
    refine HA.out.mono ?_
    rintro e w1 ⟨rfl, hb1⟩
    go_wp2
    go_ret2
    exact ⟨_, ret2 HR.out.1.symm, ⟨by rw [HR.out.2]; exact World.ownsRow_nil _ _ _ _, by rw [HR.out.2]; simp⟩, hb1⟩
  | true =>
    have HR := Lib.hid (show okF ss = true ∧ resF ss = fpart ss ss.length by rw [resF, HO.out, hok]; exact ⟨rfl, rfl⟩)
    rw [hok] at HA
    have HP := Lib.hid (fun (W : World) (h : Rd W 1 A ss.length (strs ss)) => pfxs.impl_pfx A c ss W hn (fun s h => by have := hs s h; unfold maxLen; omega) h)
    have HPB := Lib.hid (fun (i : Nat) (h : i < ss.length) => pv_bd ss h)
    have HSZ := Lib.hid hs
    clear hok HO hs
    go_enter Try.func17, Try.ntmps17
    go_wp2_with fail
    refine HA.out.mono ?_
    rintro e w1 ⟨rfl, hb1⟩
    have HM := Lib.hid (World.ownsRow_made (base := w.heap.size) (e := 57) (size := 2) w1 #[] 0 hb1.size (Nat.zero_le _) (by simp))
    have HB1 := Lib.hid (hb1.alloc hb1.size (.cells #[] 57))
    have hr1 := (hr.below hb1).alloc (.cells #[] 57)
    go_wp2_with fail
    refine (HP.out _ hr1).mono ?_
    rintro e w2 ⟨v, rfl, hov, hb2⟩
    have HOW := Lib.hid (own_below HM.out hb2)
    have HBW := Lib.hid (below_at HB1.out HB1.out.size hb2)
    obtain ⟨AP, cP, rfl, _, _, _⟩ := own_form hov
    have HSEP := Lib.hid (apt_symm (apt_above (own_ge hov) (own_lt HM.out)))
    have HOP := Lib.hid (own_base hov HB1.out.size)
    clear hov hb2 hb1 hr1 HP
    go_wp2
    go_loopg [4, 14] (ss.length + 1) (fun f o i wr => ∃ k : Nat, ss.length < k + f ∧ k ≤ ss.length ∧ i = .int .i64 (k : Int) ∧ wr.ownsRow w.heap.size 57 2 o k (cods (fpart ss k)) ∧ wr.ownsRow w.heap.size 3 1 (.slice AP ss.length cP) ss.length (ints (pfx ss)) ∧ (o.ownBlock = none ∨ o.ownBlock ≠ (Value.slice AP ss.length cP).ownBlock) ∧ Below w.heap.size w wr)
    case atStart => exact ⟨0, by omega, by omega, rfl, HOW.out, HOP.out, HSEP.out, HBW.out⟩
    case round =>
      obtain ⟨k, hkf, hk, rfl, ho, hp, hsep, hb⟩ := hrel
      by_cases hlt : k < ss.length
      · have q1 : (k : Int) < (ss.length : Int) := by omega
        obtain ⟨bP, oP, rfl, hcells⟩ := (own_rd hp).cells (by omega)
        have hcp := hcells k _ (pfx_at ss hlt)
        obtain ⟨b, off, rfl, hcs⟩ := (hr.below hb).str hlt
        have hpb := HPB.out k hlt
        have hsz := HSZ.out _ (List.getElem_mem hlt)
        have HFC := Lib.hid (show fpart ss (k + 1) = fpart ss k ++ [⟨pv ss k, cutS ss[k] (pv ss k)⟩] by rw [fpart_step, fc, getD_s ss hlt])
        clear hcells
        generalize ss[k] = s at hcs hpb hsz HFC
        generalize pv ss k = p at hcp hpb HFC
        have hkb : k ≤ 1099511627776 := by omega
        have hbs := hb.size
        have hp0 := hpb.1
        have hp1 := hpb.2
        have HOPP := Lib.hid hp
        go_wp2_with (at_builtin; refine mem.push_at _ rfl _ _ 34 rfl w.heap.size 57 _ 2 24 Try.underlying34 mem.info_cod rfl (by decide) _ _ _ rfl ho (cods [⟨p, cutS s p⟩]) _ rfl (mem.cods_one [⟨p, cutS s p⟩]) rfl hkb (by decide) hbs ?_; intro v' w' ho' hg' hnw')
        have HN := Lib.hid (And.intro (HOPP.out.kept hg' (apt_symm hsep)) (And.intro (apt_new hsep hnw' (own_lt HOPP.out)) (below_push hb hbs hg' ho)))
        rw [← cods_app, ← HFC.out] at ho'
        clear hg' hnw' hp hcp hcs
        go_wp2
        go_roundg (gk - 1)
        case measure => omega
        case rel => exact ⟨k + 1, by omega, by omega, by go_num, ho', HN.out.1, HN.out.2.1, HN.out.2.2⟩
      · obtain rfl : k = ss.length := by omega
        have q1 : ¬ (ss.length : Int) < (ss.length : Int) := by omega
        have HF := Lib.hid (show OwnCod w wr u4 (resF ss) by
          rw [HR.out.2]
          exact ⟨by rw [fpart_len]; exact ho, by rw [fpart_len]; exact hn⟩)
        clear ho hp
        go_wp2
        go_ret2
        exact ⟨_, ret2 HR.out.1.symm, HF.out, hb⟩
end Go.Proofs.Ytaeimdcmpjanbaa.front
