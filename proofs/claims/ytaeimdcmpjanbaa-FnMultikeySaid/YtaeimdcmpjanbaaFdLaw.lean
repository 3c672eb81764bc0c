/- Decoding undoes front coding: the plain law. No condition. -/
import Derived.Test.YtaeimdcmpjanbaaFrontD
import Derived.Test.YtaeimdcmpjanbaaMkMore
set_option linter.unusedVariables false
set_option linter.unusedSimpArgs false
namespace Go.Proofs.Ytaeimdcmpjanbaa.fdLaw
open Go.Proofs.Ytaeimdcmpjanbaa.mem Go.Proofs.Ytaeimdcmpjanbaa.front Go.Proofs.Ytaeimdcmpjanbaa.frontD Go.Proofs.Ytaeimdcmpjanbaa.ssLaw Go.Proofs.Ytaeimdcmpjanbaa.mkMore
open Go.Proofs.Ytaeimdcmpjanbaa.ascStr (sasc sasc_true dn getD_s)
open Go.Proofs.Ytaeimdcmpjanbaa.validStr (vstr)
open Go.Proofs.Ytaeimdcmpjanbaa.prefixes (cpl cpl_le)
open Go.Proofs.Ytaeimdcmpjanbaa.pfxs (pv pv_succ)
open Go.Proofs.Ytaeimdcmpjanbaa.stb (stab stab_perm stab_asc)
open Go.Proofs.Ytaeimdcmpjanbaa.ins (inB inB_iff)

theorem bs_app (a b : ByteArray) : bs (a ++ b) = bs a ++ bs b := by simp [bs]
theorem bs_ext (s : ByteArray) (i j : Nat) : bs (s.extract i j) = ((bs s).drop i).take (j - i) := by
  simp [bs, ByteArray.data_extract, Array.toList_extract, List.extract_eq_take_drop]
theorem glue (x s : ByteArray) (n : Nat) (h : (bs x).take n = (bs s).take n) : x.extract 0 n ++ s.extract n s.size = s := by
  apply bs_inj
  rw [bs_app, bs_ext, bs_ext]
  simp only [List.drop_zero, Nat.sub_zero]
  rw [h, List.take_of_length_le (l := (bs s).drop n) (by rw [List.length_drop, size_bs]; omega), List.take_append_drop]
theorem fcode_len (ss : List ByteArray) : (fcode ss).length = ss.length := by simp [fcode]
theorem fcode_at (ss : List ByteArray) {k : Nat} (h : k < ss.length) : (fcode ss).getD k c0 = fc ss k := by
  rw [List.getD_eq_getElem?_getD]; simp [fcode, h]
theorem main {ss : List ByteArray} (hv : ∀ s ∈ ss, s.size ≤ 30) : ∀ k, k ≤ ss.length → okU (fcode ss) k = true ∧ (∀ x, 0 < k → ss[k - 1]? = some x → lastv (fcode ss) k = x)
  | 0, _ => ⟨rfl, fun _ h => by omega⟩
  | k + 1, hk => by
    obtain ⟨ih1, ih2⟩ := main hv k (by omega)
    have hkl : k < ss.length := by omega
    have hsz := hv ss[k] (List.getElem_mem hkl)
    have hpv := pv_bd ss hkl
    have hrest : (cutS ss[k] (pv ss k)).size ≤ 30 := by
      rw [cutS, ByteArray.size_extract]; omega
    have key : (0 ≤ pv ss k ∧ pv ss k ≤ ((lastv (fcode ss) k).size : Int)) ∧ (bs (lastv (fcode ss) k)).take (pv ss k).toNat = (bs ss[k]).take (pv ss k).toNat := by
      cases k with
      | zero => simp [pv, lastv]
      | succ t =>
        have hl := ih2 (ss[t]'(by omega)) (by omega) (by rw [Nat.add_sub_cancel]; exact List.getElem?_eq_getElem (by omega))
        rw [hl]
        have e : pv ss (t + 1) = ((cpl (bs (ss[t]'(by omega))) (bs ss[t + 1]) : Nat) : Int) := by
          rw [pv_succ, getD_s ss (by omega), getD_s ss hkl]; rfl
        have hc := cpl_le (bs (ss[t]'(by omega))) (bs ss[t + 1])
        rw [e, size_bs]
        refine ⟨⟨by omega, by omega⟩, ?_⟩
        rw [Int.toNat_natCast]
        exact cpl_take _ _
    have hfc : (fcode ss).getD k c0 = ⟨pv ss k, cutS ss[k] (pv ss k)⟩ := by rw [fcode_at ss hkl, fc, getD_s ss hkl]
    constructor
    · rw [okU, ih1, okc, hfc]
      simp only [Bool.true_and, Bool.and_eq_true, decide_eq_true_eq]
      exact ⟨inB_iff.2 key.1, hrest⟩
    · intro x _ hx
      rw [Nat.add_sub_cancel, List.getElem?_eq_getElem hkl] at hx
      obtain rfl := Option.some.inj hx
      rw [lastv, hfc]
      exact glue _ _ _ key.2
theorem outs_all {ss : List ByteArray} (hv : ∀ s ∈ ss, s.size ≤ 30) : outs (fcode ss) (fcode ss).length = ss := by
  apply List.ext_getElem (by rw [outs_len, fcode_len])
  intro i h1 h2
  have := (main hv (i + 1) (by omega)).2 ss[i] (by omega) (by rw [Nat.add_sub_cancel]; exact List.getElem?_eq_getElem h2)
  simp only [outs, List.getElem_map, List.getElem_range]
  exact this
/-- decoding the code of an ascending list gives the list -/
theorem back {ss : List ByteArray} (hl : ss.length ≤ 40) (hv : ∀ s ∈ ss, s.size ≤ 30) (hok : okF ss = true) : okD (fcode ss) = true ∧ resD (fcode ss) = ss := by
  have h1 := outs_all hv
  have h2 := (main hv (fcode ss).length (by rw [fcode_len]; exact Nat.le_refl _)).1
  have h3 : resF ss = fcode ss := by rw [resF, if_pos hok]
  have h4 : okD (fcode ss) = true := by
    rw [okD, h1, h2, hok, h3, fcode_len]; simp [hl]
  exact ⟨h4, by rw [resD, if_pos h4, h1]⟩
theorem ss_dn (l : List ByteArray) {i : Nat} (h : i + 1 < (ss l).length) : dn (ss l) i = false := by
  have hp := List.pairwise_iff_getElem.1 (stab_asc weak l) i (i + 1) (by simp only [ss] at h; omega) (by simpa [ss] using h) (by omega)
  rw [dn, getD_s _ h, getD_s _ (by omega)]
  exact hp
theorem ss_sasc (l : List ByteArray) : sasc (ss l) = true := sasc_true fun i h => ss_dn l h
end Go.Proofs.Ytaeimdcmpjanbaa.fdLaw
