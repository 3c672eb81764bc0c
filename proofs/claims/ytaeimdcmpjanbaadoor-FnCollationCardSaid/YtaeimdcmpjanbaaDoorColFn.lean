/- The collation sort's answer: in order, a rearrangement, and its own answer. No program. -/
import Derived.Test.YtaeimdcmpjanbaaDoorColSo
import Derived.Test.YtaeimdcmpjanbaaDoorSrtStr
set_option linter.unusedVariables false
set_option linter.unusedSimpArgs false
namespace Go.Proofs.YtaeimdcmpjanbaaDoor.colS
open Go.RowKit Go.Proofs.YtaeimdcmpjanbaaDoor.mem Go.Proofs.YtaeimdcmpjanbaaDoor.stb Go.Proofs.YtaeimdcmpjanbaaDoor.col Go.Proofs.YtaeimdcmpjanbaaDoor.cmap Go.Proofs.YtaeimdcmpjanbaaDoor.validStr Go.Proofs.YtaeimdcmpjanbaaDoor.ssLaw

theorem bs_list {a b : List ByteArray} (h : a.map bs = b.map bs) : a = b := by
  induction a generalizing b with
  | nil => cases b <;> simp at h ⊢
  | cons x a ih =>
    cases b with
    | nil => simp at h
    | cons y b =>
      simp only [List.map_cons, List.cons.injEq] at h
      rw [bs_inj h.1, ih h.2]
theorem ss_perm {a b : List ByteArray} (h : a.Perm b) : ss a = ss b := by
  apply bs_list
  have p : ((ss a).map bs).Perm ((ss b).map bs) := (((stab_perm a).trans h).trans (stab_perm b).symm).map bs
  have s : ∀ l : List ByteArray, ((ss l).map bs).Pairwise (· ≤ ·) := fun l => by
    rw [List.pairwise_map]
    refine (stab_asc weak l).imp fun hab => ?_
    rw [lt_eq] at hab
    simpa using hab
  exact List.Perm.eq_of_pairwise (fun a b _ _ h1 h2 => List.le_antisymm h1 h2) (s a) (s b) p
theorem vstr_perm {a b : List ByteArray} (h : a.Perm b) : vstr a = vstr b := by
  have h1 : a.length = b.length := h.length_eq
  have h2 : a.all short = b.all short := by
    rw [Bool.eq_iff_iff, List.all_eq_true, List.all_eq_true]
    exact ⟨fun hx s hs => hx s (h.mem_iff.2 hs), fun hx s hs => hx s (h.mem_iff.1 hs)⟩
  unfold vstr
  rw [h1, h2]
structure Ans (f n : Bool) (l S : List ByteArray) : Prop where
  ok : okC f n S = true
  same : resC f n S = S
  vs : vstr S = true
  vl : vstr l = true
  srt : srtStr.res S = srtStr.res l
  len : S.length ≤ 40
  sz : ∀ s ∈ S, s.size ≤ 30
  asc : ∀ i (h : i + 1 < S.length), Op.bytesLess (resS f n S[i + 1]).toList (resS f n S[i]).toList = false
  all : ∀ i (h : i < S.length), resB f n S[i] = true
theorem answer {f n : Bool} {l : List ByteArray} (h : okC f n l = true) : Ans f n l (resC f n l) := by
  have hS : resC f n l = stab (klt (resS f n)) l := by rw [resC, if_pos h]
  rw [hS]
  have hp := stab_perm (lt := klt (resS f n)) l
  have hb := h
  unfold okC at hb
  rw [Bool.and_eq_true, List.all_eq_true] at hb
  have hv : vstr (stab (klt (resS f n)) l) = true := by rw [vstr_perm hp]; exact hb.1
  have hall : ∀ s ∈ stab (klt (resS f n)) l, resB f n s = true := fun s hs => hb.2 s (hp.mem_iff.1 hs)
  have hok : okC f n (stab (klt (resS f n)) l) = true := by
    unfold okC
    rw [hv, Bool.true_and, List.all_eq_true]; exact hall
  have hasc := stab_asc (weak_klt (resS f n)) l
  refine ⟨hok, ?_, hv, hb.1, ?_, vstr_len hv, vstr_size hv, fun i hi => ?_, fun i hi => hall _ (List.getElem_mem _)⟩
  · rw [resC, if_pos hok]; exact stab_of_asc _ hasc
  · rw [srtStr.res, srtStr.res, if_pos hv, if_pos hb.1]; exact ss_perm hp
  · exact List.pairwise_iff_getElem.1 hasc i (i + 1) (by omega) hi (by omega)
theorem answer_not {f n : Bool} {l : List ByteArray} (h : okC f n l = false) : resC f n l = [] := by rw [resC, h]; rfl
end Go.Proofs.YtaeimdcmpjanbaaDoor.colS
