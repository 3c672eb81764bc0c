/- MergeGroups, the program's. Condition: at most 2^20 groups each. -/
import Derived.Test.YtgngoedooemboaaJoin
import Derived.Test.YtgngoedooemboaaGroupsS
import Derived.Test.YtgngoedooemboaaConcat
import Derived.Test.YtgngoedooemboaaLawGrp
set_option linter.unusedVariables false
set_option linter.unusedSimpArgs false
namespace Go.Proofs.Ytgngoedooemboaa.gm
open Go.RowKit Go.Proofs.Ytgngoedooemboaa.mem Go.Proofs.Ytgngoedooemboaa.stb Go.Proofs.Ytgngoedooemboaa.gj
open Go.Proofs.Ytgngoedooemboaa.ins (inB inB_iff)
open Go.Proofs.Ytgngoedooemboaa.groups (vgroups gB gB_mono getD_g vg_len okG mul_bd)

def okM (a b : List Grp) : Bool := vgroups a && (vgroups b && vgroups (mg a b))
def resM (a b : List Grp) : List Grp := if okM a b = true then mg a b else []
theorem resM_len (a b : List Grp) : (resM a b).length ≤ 1048576 := by
  unfold resM
  split
  · rename_i h
    simp only [okM, Bool.and_eq_true] at h
    have := vg_len h.2.2
    omega
  · simp
theorem vg_at {l : List Grp} (h : vgroups l = true) {k : Nat} (hk : k < l.length) : okG l[k] = true ∧ (∀ t, k = t + 1 → ∀ (ht : t < l.length), l[t].key < l[k].key) := by
  simp only [vgroups, Bool.and_eq_true] at h
  have := gB_mono l (j := k + 1) (k := l.length) (by omega) h.1
  simp only [gB, Bool.and_eq_true, Bool.or_eq_true, decide_eq_true_eq] at this
  rw [getD_g l hk] at this
  refine ⟨this.2.1, fun t e ht => ?_⟩
  rcases this.2.2 with h2 | h2
  · omega
  · rw [show k - 1 = t by omega, getD_g l ht] at h2; exact h2
theorem vg_lt {l : List Grp} (h : vgroups l = true) : ∀ (j i : Nat) (hj : j < l.length) (hi : i < l.length), i < j → l[i].key < l[j].key
  | 0, i, hj, hi, hij => by omega
  | j + 1, i, hj, hi, hij => by
    have h1 := (vg_at h hj).2 j rfl (by omega)
    by_cases e : i = j
    · subst e; exact h1
    · have := vg_lt h j i (by omega) hi (by omega); omega
theorem vg_asc {l : List Grp} (h : vgroups l = true) : KAsc l := by
  rw [KAsc, List.pairwise_iff_getElem]
  intro i j hi hj hij
  exact vg_lt h j i hj hi hij
theorem okG_tame {g : Grp} (h : okG g = true) : (0 ≤ g.count ∧ g.count ≤ 1048576) ∧ (0 ≤ g.sum ∧ g.sum ≤ 1048576) := by
  simp only [okG, Bool.and_eq_true, inB_iff] at h
  obtain ⟨h0, h1, h2, h3, h4⟩ := h
  refine ⟨by omega, ?_⟩
  split at h4
  · simp only [decide_eq_true_eq] at h4; omega
  · rw [inB_iff] at h4
    have m1 := mul_bd (a := g.count - 2) (b := g.least) (by omega) (by omega) (by omega) (by omega)
    have m2 := mul_bd (a := g.count - 2) (b := g.most) (by omega) (by omega) (by omega) (by omega)
    omega
theorem vg_tame {l : List Grp} (h : vgroups l = true) : Tame 1048576 l := fun g hg => by
  obtain ⟨k, hk, rfl⟩ := List.getElem_of_mem hg
  exact okG_tame (vg_at h hk).1
theorem concat2 {A B : Option Addr} {c d : Nat} {a b : List Grp} {w3 : World} (ha : Rd w3 5 A a.length (grps a)) (hb : Rd w3 5 B b.length (grps b)) (hca : a.length ≤ c) (hca2 : c ≤ maxLen) (hcb : b.length ≤ d) (hcb2 : d ≤ maxLen) (hl : a.length + b.length ≤ 1048576) :
    Calls Try.prog 81 #[.slice (some ⟨w3.heap.size, 0, none⟩) 2 2] (w3.alloc (.cells #[.slice A a.length c, .slice B b.length d] 25)) fun e w' => ∃ v, e = .returned v ∧ w'.ownsRow w3.heap.size 71 5 v (a ++ b).length (grps (a ++ b)) ∧ Below w3.heap.size w3 w' := by
  have hbl : Below w3.heap.size w3 (w3.alloc (.cells #[.slice A a.length c, .slice B b.length d] 25)) := (Below.refl _ _).alloc (Nat.le_refl _) _
  have hl2 : [a, b].flatten = a ++ b := by simp
  have s1 : SL w3 5 (.slice A a.length c) a.length (grps a) := ⟨A, c, rfl, hca, hca2, ha⟩
  have s2 : SL w3 5 (.slice B b.length d) b.length (grps b) := ⟨B, d, rfl, hcb, hcb2, hb⟩
  have h := concat.concat_grp (some ⟨w3.heap.size, 0, none⟩) 2 [.slice A a.length c, .slice B b.length d] [a, b] (w3.alloc (.cells #[.slice A a.length c, .slice B b.length d] 25)) (Blk.rd_all (Blk.new w3 _ [.slice A a.length c, .slice B b.length d].toArray)) (SLs.cons (s1.below hbl) (SLs.cons (s2.below hbl) SLs.nil)) (by simp) (by rw [hl2, List.length_append]; omega)
  rw [hl2] at h
  exact h.mono fun e w' ⟨v, he, ho, hb2⟩ => ⟨v, he, own_base ho hbl.size, below_step hbl hb2⟩
set_option maxRecDepth 100000 in
set_option maxHeartbeats 2000000 in
theorem good_impl (A : Option Addr) (c : Nat) (l : List Grp) (w : World) (hn : l.length ≤ 1048576) (hr : Rd w 5 A l.length (grps l)) :
    Calls Try.prog 17 #[.slice A l.length c] w fun e w' => e = .returned (.bool (vgroups l)) ∧ Below w.heap.size w w' :=
  (groups.impl_any A c l w hn hr).mono fun e w' h => ⟨h.1, by first | exact h.2 | (rw [← h.2]; exact Below.refl _ _)⟩
set_option maxRecDepth 100000 in
set_option maxHeartbeats 2000000 in
theorem mg_impl (A : Option Addr) (c : Nat) (a : List Grp) (B : Option Addr) (d : Nat) (b : List Grp) (w : World) (hn : a.length ≤ 1048576) (hca : a.length ≤ c) (hca2 : c ≤ maxLen) (hr : Rd w 5 A a.length (grps a)) (hm : b.length ≤ 1048576) (hcb : b.length ≤ d) (hcb2 : d ≤ maxLen) (hs : Rd w 5 B b.length (grps b)) :
    Calls Try.prog 44 #[.slice A a.length c, .slice B b.length d] w fun e w' => ∃ v, e = .returned (.tuple #[v, .bool (okM a b)]) ∧ OwnGrp w w' v (resM a b) ∧ Below w.heap.size w w' := by
  have HA := Lib.hid (good_impl A c a w hn hr)
  have HB := Lib.hid (fun w1 h => good_impl B d b w1 hm h)
  have HL := Lib.hid (resM_len a b)
  cases ha : vgroups a with
  | false =>
    have HR := Lib.hid (show okM a b = false ∧ resM a b = [] by simp [okM, resM, ha])
    rw [ha] at HA
    clear ha
    go_enter Try.func44, Try.ntmps44
    go_wp2_with fail
    refine HA.out.mono ?_
    rintro e w1 ⟨rfl, hb1⟩
    go_wp2
    go_ret2
    exact ⟨_, by rw [HR.out.1]; rfl, ⟨by rw [HR.out.2]; exact World.ownsRow_nil _ _ _ _, by rw [HR.out.2]; simp⟩, hb1⟩
  | true =>
    have hla := vg_len ha
    rw [ha] at HA
    cases hb : vgroups b with
    | false =>
      have HR := Lib.hid (show okM a b = false ∧ resM a b = [] by simp [okM, resM, hb])
      rw [hb] at HB
      clear ha hb
      go_enter Try.func44, Try.ntmps44
      go_wp2_with fail
      refine HA.out.mono ?_
      rintro e w1 ⟨rfl, hb1⟩
      go_wp2_with fail
      refine (HB.out _ (hs.below hb1)).mono ?_
      rintro e w2 ⟨rfl, hb2⟩
      have hb3 := below_step hb1 hb2
      go_wp2
      go_ret2
      exact ⟨_, by rw [HR.out.1]; rfl, ⟨by rw [HR.out.2]; exact World.ownsRow_nil _ _ _ _, by rw [HR.out.2]; simp⟩, hb3⟩
    | true =>
      have hlb := vg_len hb
      have HMG := Lib.hid (join_merge (vg_asc ha) (vg_asc hb))
      have hTa := vg_tame ha
      have hTb := vg_tame hb
      have hTT : Tame 1048576 (a ++ b) := fun g hg => by
        rcases List.mem_append.1 hg with h | h
        · exact hTa g h
        · exact hTb g h
      have HT := Lib.hid hTT
      have HOK := Lib.hid (show okM a b = vgroups (mg a b) by rw [okM, ha, hb]; rfl)
      have HML := Lib.hid (mg_len a b)
      rw [hb] at HB
      have HLA := Lib.hid (show (a ++ b).length = a.length + b.length from List.length_append)
      clear ha hb hTa hTb hTT
      go_enter Try.func44, Try.ntmps44
      go_wp2_with fail
      refine HA.out.mono ?_
      rintro e w1 ⟨rfl, hb1⟩
      go_wp2_with fail
      refine (HB.out _ (hs.below hb1)).mono ?_
      rintro e w2 ⟨rfl, hb2⟩
      have hb3 := below_step hb1 hb2
      have HC := Lib.hid (concat2 (hr.below hb3) (hs.below hb3) hca hca2 hcb hcb2 (by omega))
      go_wp2_with fail
      refine HC.out.mono ?_
      intro e w3 h3
      obtain ⟨v3, he3, ho3, hb4⟩ := h3
      subst he3
      obtain ⟨A3, c3, hve, _, _, hr3⟩ := own_form ho3
      have hb5 := below_step hb3 hb4
      have hlen := HLA.out
      have hJ := joined_any A3 c3 (a ++ b) w3 (by omega) HT.out hr3
      rw [HMG.out, hlen] at hJ
      have HJ := Lib.hid hJ
      rw [hlen] at hve
      subst hve
      clear hlen ho3 hr3 hJ
      go_wp2_with fail
      (with_reducible refine HJ.out.mono ?_)
      rintro e w4 ⟨v, rfl, ho, hb6⟩
      have hb7 := below_step hb5 hb6
      have hmn : (mg a b).length ≤ 1048576 := by have := HML.out; omega
      obtain ⟨r, hrr⟩ : ∃ r, r = mg a b := ⟨_, rfl⟩
      have HRE := Lib.hid (show resM a b = if vgroups r = true then r else [] by rw [resM, HOK.out, hrr])
      have HO2 := Lib.hid (HOK.out.trans (by rw [hrr] : vgroups (mg a b) = vgroups r))
      rw [← hrr] at ho hmn
      clear hrr
      obtain ⟨A5, c5, rfl, _, _, hr5⟩ := own_form ho
      have HG := Lib.hid (good_impl A5 c5 r w4 hmn hr5)
      have HOR := Lib.hid (own_base ho hb5.size)
      clear ho hr5
      cases hv : vgroups r with
      | false =>
        rw [hv] at HG HRE HO2
        have HR2 := Lib.hid (show resM a b = [] by rw [HRE.out]; rfl)
        clear hv
        go_wp2_with fail
        (with_reducible refine HG.out.mono ?_)
        rintro e w5 ⟨rfl, hb8⟩
        have hb9 := below_step hb7 hb8
        go_wp2
        go_ret2
        exact ⟨_, by rw [HO2.out]; rfl, ⟨by rw [HR2.out]; exact World.ownsRow_nil _ _ _ _, by rw [HR2.out]; simp⟩, hb9⟩
      | true =>
        rw [hv] at HG HRE HO2
        have HR2 := Lib.hid (show resM a b = r by rw [HRE.out]; rfl)
        clear hv
        go_wp2_with fail
        (with_reducible refine HG.out.mono ?_)
        rintro e w5 ⟨rfl, hb8⟩
        have hb9 := below_step hb7 hb8
        go_wp2
        go_ret2
        exact ⟨_, by rw [HO2.out]; rfl, ⟨by rw [HR2.out]; exact own_below HOR.out hb8, HL.out⟩, hb9⟩
end Go.Proofs.Ytgngoedooemboaa.gm
