/- MergeTops, the program's and the reference's. Condition: at most 2^20 records each. -/
import Derived.Test.YtgngoedooemboaaTopL
set_option linter.unusedVariables false
set_option linter.unusedSimpArgs false
namespace Go.Proofs.Ytgngoedooemboaa.tops
open Go.RowKit Go.Proofs.Ytgngoedooemboaa.mem Go.Proofs.Ytgngoedooemboaa.stb Go.Proofs.Ytgngoedooemboaa.cmpI
open Go.Proofs.Ytgngoedooemboaa.ins (inB inB_iff)
open Go.Proofs.Ytgngoedooemboaa.vrecs (vrec vrec_len)

def okM (a b : List Rec) (k : Int) : Bool := okL a k && okL b k
def resM (a b : List Rec) (k : Int) : List Rec := if okM a b k = true then tp (a ++ b) k.toNat else []
theorem okL_len {l : List Rec} {k : Int} (h : okL l k = true) : (1 ≤ k ∧ k ≤ 16) ∧ (l.length : Int) ≤ k ∧ vrec l = true ∧ fallsB l = true := by
  simp only [okL, Bool.and_eq_true, decide_eq_true_eq] at h
  exact ⟨inB_iff.1 h.1, h.2.1, h.2.2.1, h.2.2.2⟩
theorem resM_len (a b : List Rec) (k : Int) : (resM a b k).length ≤ 1048576 := by
  unfold resM
  split
  · rename_i h
    simp only [okM, Bool.and_eq_true] at h
    have := okL_len h.1
    rw [tp_len]; omega
  · simp
theorem concat2 {A B : Option Addr} {c d : Nat} {a b : List Rec} {w3 : World} (ha : Rd w3 2 A a.length (recs a)) (hb : Rd w3 2 B b.length (recs b)) (hca : a.length ≤ c) (hca2 : c ≤ maxLen) (hcb : b.length ≤ d) (hcb2 : d ≤ maxLen) (hl : a.length + b.length ≤ 1048576) :
    Calls Try.prog 77 #[.slice (some ⟨w3.heap.size, 0, none⟩) 2 2] (w3.alloc (.cells #[.slice A a.length c, .slice B b.length d] 38)) fun e w' => ∃ v, e = .returned v ∧ w'.ownsRow w3.heap.size 49 2 v (a ++ b).length (recs (a ++ b)) ∧ Below w3.heap.size w3 w' := by
  have hbl : Below w3.heap.size w3 (w3.alloc (.cells #[.slice A a.length c, .slice B b.length d] 38)) := (Below.refl _ _).alloc (Nat.le_refl _) _
  have hl2 : [a, b].flatten = a ++ b := by simp
  have s1 : SL w3 2 (.slice A a.length c) a.length (recs a) := ⟨A, c, rfl, hca, hca2, ha⟩
  have s2 : SL w3 2 (.slice B b.length d) b.length (recs b) := ⟨B, d, rfl, hcb, hcb2, hb⟩
  have h := concat.concat_rec (some ⟨w3.heap.size, 0, none⟩) 2 [.slice A a.length c, .slice B b.length d] [a, b] (w3.alloc (.cells #[.slice A a.length c, .slice B b.length d] 38)) (Blk.rd_all (Blk.new w3 _ [.slice A a.length c, .slice B b.length d].toArray)) (SLs.cons (s1.below hbl) (SLs.cons (s2.below hbl) SLs.nil)) (by simp) (by rw [hl2, List.length_append]; omega)
  rw [hl2] at h
  exact h.mono fun e w' ⟨v, he, ho, hb2⟩ => ⟨v, he, own_base ho hbl.size, below_step hbl hb2⟩
set_option maxRecDepth 100000 in
set_option maxHeartbeats 2000000 in
theorem topM_impl (A : Option Addr) (c : Nat) (a : List Rec) (B : Option Addr) (d : Nat) (b : List Rec) (k : Int) (w : World) (hn : a.length ≤ 1048576) (hca : a.length ≤ c) (hca2 : c ≤ maxLen) (hr : Rd w 2 A a.length (recs a)) (hm : b.length ≤ 1048576) (hcb : b.length ≤ d) (hcb2 : d ≤ maxLen) (hs : Rd w 2 B b.length (recs b)) :
    Calls Try.prog 40 #[.slice A a.length c, .slice B b.length d, .int .i64 k] w fun e w' => ∃ v, e = .returned (.tuple #[v, .bool (okM a b k)]) ∧ OwnRec w w' v (resM a b k) ∧ Below w.heap.size w w' := by
  have HA := Lib.hid (list_impl A c a k w hn hr)
  have HB := Lib.hid (fun w1 h => list_impl B d b k w1 hm h)
  have HL := Lib.hid (resM_len a b k)
  cases ha : okL a k with
  | false =>
    have HR := Lib.hid (show okM a b k = false ∧ resM a b k = [] by simp [okM, resM, ha])
    rw [ha] at HA
    clear ha
    go_enter Try.func40, Try.ntmps40
    go_wp2_with fail
    refine HA.out.mono ?_
    rintro e w1 ⟨rfl, hb1⟩
    go_wp2
    go_ret2
    exact ⟨_, by rw [HR.out.1]; rfl, ⟨by rw [HR.out.2]; exact World.ownsRow_nil _ _ _ _, by rw [HR.out.2]; simp⟩, hb1⟩
  | true =>
    have hk := okL_len ha
    rw [ha] at HA
    cases hb : okL b k with
    | false =>
      have HR := Lib.hid (show okM a b k = false ∧ resM a b k = [] by simp [okM, resM, hb])
      rw [hb] at HB
      clear ha hb
      go_enter Try.func40, Try.ntmps40
      go_wp2_with fail
      refine HA.out.mono ?_
      rintro e w1 ⟨rfl, hb1⟩
      go_wp2_with fail
      refine (HB.out _ (hs.below hb1)).mono ?_
      rintro e w2 ⟨rfl, hb2⟩
      have hb3 := below_step hb1 hb2
      go_wp2
      go_ret2
      exact ⟨_, by rw [HR.out.1]; rfl, ⟨by rw [HR.out.2]; exact World.ownsRow_nil _ _ _ _, by rw [HR.out.2]; simp⟩, hb3⟩
    | true =>
      have hkb := okL_len hb
      obtain ⟨q, rfl⟩ : ∃ q : Nat, k = (q : Int) := ⟨k.toNat, by omega⟩
      have HR := Lib.hid (show okM a b (q : Int) = true ∧ resM a b (q : Int) = tp (a ++ b) q by
        have : okM a b (q : Int) = true := by rw [okM, ha, hb]; rfl
        exact ⟨this, by rw [resM, if_pos this, Int.toNat_natCast]⟩)
      rw [hb] at HB
      have hlb : a.length ≤ 16 ∧ b.length ≤ 16 ∧ q ≤ 16 := by omega
      have HLA := Lib.hid (show (a ++ b).length = a.length + b.length from List.length_append)
      clear ha hb hk hkb
      go_enter Try.func40, Try.ntmps40
      go_wp2_with fail
      refine HA.out.mono ?_
      rintro e w1 ⟨rfl, hb1⟩
      go_wp2_with fail
      refine (HB.out _ (hs.below hb1)).mono ?_
      rintro e w2 ⟨rfl, hb2⟩
      have hb3 := below_step hb1 hb2
      have HC := Lib.hid (concat2 (hr.below hb3) (hs.below hb3) hca hca2 hcb hcb2 (by omega))
      go_wp2_with fail
      refine HC.out.mono ?_
      intro e w3 h3
      obtain ⟨v3, he3, ho3, hb4⟩ := h3
      subst he3
      obtain ⟨A3, c3, hve, _, _, hr3⟩ := own_form ho3
      have hb5 := below_step hb3 hb4
      have hlen := HLA.out
      have HT := Lib.hid (impl_top A3 c3 (a ++ b) q w3 (by omega) (by omega) hr3)
      rw [hlen] at hve HT
      subst hve
      clear hlen
      clear ho3 hr3
      go_wp2_with fail
      (with_reducible refine HT.out.mono ?_)
      rintro e w4 ⟨v, rfl, ho, hb6⟩
      have hb7 := below_step hb5 hb6
      go_wp2
      go_ret2
      exact ⟨_, by rw [HR.out.1]; rfl, ⟨by rw [HR.out.2]; exact own_base ho hb5.size, HL.out⟩, hb7⟩
set_option maxRecDepth 100000 in
set_option maxHeartbeats 2000000 in
theorem topM_spec (A : Option Addr) (c : Nat) (a : List Rec) (B : Option Addr) (d : Nat) (b : List Rec) (k : Int) (w : World) (hn : a.length ≤ 1048576) (hca : a.length ≤ c) (hca2 : c ≤ maxLen) (hr : Rd w 2 A a.length (recs a)) (hm : b.length ≤ 1048576) (hcb : b.length ≤ d) (hcb2 : d ≤ maxLen) (hs : Rd w 2 B b.length (recs b)) :
    Calls Try.prog 39 #[.slice A a.length c, .slice B b.length d, .int .i64 k] w fun e w' => ∃ v, e = .returned (.tuple #[v, .bool (okM a b k)]) ∧ OwnRec w w' v (resM a b k) ∧ Below w.heap.size w w' := by
  have HA := Lib.hid (list_spec A c a k w hn hr)
  have HB := Lib.hid (fun w1 h => list_spec B d b k w1 hm h)
  have HL := Lib.hid (resM_len a b k)
  have HM := Lib.hid (fun (w : World) => World.ownsRow_made (e := 49) (size := 2) w #[] 0 (Nat.le_refl _) (Nat.zero_le _) (by simp))
  cases ha : okL a k with
  | false =>
    have HR := Lib.hid (show okM a b k = false ∧ resM a b k = [] by simp [okM, resM, ha])
    rw [ha] at HA
    clear ha
    go_enter Try.func39, Try.ntmps39
    go_wp2_with fail
    refine HA.out.mono ?_
    rintro e w1 ⟨rfl, hb1⟩
    go_wp2
    go_ret2
    exact ⟨_, by rw [HR.out.1]; rfl, ⟨by rw [HR.out.2]; exact own_base (HM.out w1) hb1.size, by rw [HR.out.2]; simp⟩, hb1.alloc hb1.size _⟩
  | true =>
    have hk := okL_len ha
    rw [ha] at HA
    cases hb : okL b k with
    | false =>
      have HR := Lib.hid (show okM a b k = false ∧ resM a b k = [] by simp [okM, resM, hb])
      rw [hb] at HB
      clear ha hb
      go_enter Try.func39, Try.ntmps39
      go_wp2_with fail
      refine HA.out.mono ?_
      rintro e w1 ⟨rfl, hb1⟩
      go_wp2_with fail
      refine (HB.out _ (hs.below hb1)).mono ?_
      rintro e w2 ⟨rfl, hb2⟩
      have hb3 := below_step hb1 hb2
      go_wp2
      go_ret2
      exact ⟨_, by rw [HR.out.1]; rfl, ⟨by rw [HR.out.2]; exact own_base (HM.out w2) hb3.size, by rw [HR.out.2]; simp⟩, hb3.alloc hb3.size _⟩
    | true =>
      have hkb := okL_len hb
      obtain ⟨q, rfl⟩ : ∃ q : Nat, k = (q : Int) := ⟨k.toNat, by omega⟩
      have HR := Lib.hid (show okM a b (q : Int) = true ∧ resM a b (q : Int) = tp (a ++ b) q by
        have : okM a b (q : Int) = true := by rw [okM, ha, hb]; rfl
        exact ⟨this, by rw [resM, if_pos this, Int.toNat_natCast]⟩)
      rw [hb] at HB
      have hlb : a.length ≤ 16 ∧ b.length ≤ 16 ∧ q ≤ 16 := by omega
      have HLA := Lib.hid (show (a ++ b).length = a.length + b.length from List.length_append)
      clear ha hb hk hkb
      go_enter Try.func39, Try.ntmps39
      go_wp2_with fail
      refine HA.out.mono ?_
      rintro e w1 ⟨rfl, hb1⟩
      go_wp2_with fail
      refine (HB.out _ (hs.below hb1)).mono ?_
      rintro e w2 ⟨rfl, hb2⟩
      have hb3 := below_step hb1 hb2
      have h0 := HM.out w2
      have hb0 := hb3.alloc hb3.size (.cells #[] 49)
      have hbe : Below w2.heap.size w2 (w2.alloc (.cells #[] 49)) := (Below.refl _ _).alloc (Nat.le_refl _) _
      have hra := hr.below hb0
      have hs0 := hbe.size
      have hh : 0 + a.length ≤ 1099511627776 := by omega
      have hh2 : a.length + b.length ≤ 1099511627776 := by omega
      go_wp2_with (first | ((at_builtin; refine mem.extend _ rfl _ _ 38 rfl w2.heap.size 49 _ 2 16 Try.underlying38 mem.info_rec rfl (by decide) _ _ _ rfl h0 _ _ _ _ rfl hra (mem.recs_one a) hh (by decide) hs0 ?_; intro v' w' ho' hg'); have hba := below_push hbe hs0 hg' h0; simp only [Nat.zero_add, List.nil_append] at ho'; have hoa := ho'; have hrb := hs.below (below_step hb3 hba); have hs1 := hba.size; clear ho' hg') | (at_builtin; refine mem.extend _ rfl _ _ 38 rfl w2.heap.size 49 _ 2 16 Try.underlying38 mem.info_rec rfl (by decide) _ _ _ rfl hoa _ _ _ _ rfl hrb (mem.recs_one b) hh2 (by decide) hs1 ?_; intro v' w' ho' hg'))
      have hbb := below_push hba hs1 hg' hoa
      have hoc : w'.ownsRow w2.heap.size 49 2 v' (a ++ b).length (recs (a ++ b)) := by rw [HLA.out, recs_app]; exact ho'
      obtain ⟨A3, c3, hve, _, _, hr3⟩ := own_form hoc
      have hb5 := below_step hb3 hbb
      have hlen := HLA.out
      have HT := Lib.hid (spec_top A3 c3 (a ++ b) q w' (by omega) (by omega) hr3)
      rw [hlen] at hve HT
      subst hve
      clear hoc hr3 ho' hg' hoa hra hrb h0 hlen
      go_wp2_with fail
      (with_reducible refine HT.out.mono ?_)
      rintro e w4 ⟨v, rfl, ho, hb6⟩
      have hb7 := below_step hb5 hb6
      go_wp2
      go_ret2
      exact ⟨_, by rw [HR.out.1]; rfl, ⟨by rw [HR.out.2]; exact own_base ho hb5.size, HL.out⟩, hb7⟩
end Go.Proofs.Ytgngoedooemboaa.tops
