/- Groups of records: joined neighbours, merged lists of groups. No condition. -/
import Derived.Test.YtgngoedooemboaaStbLaw
import Derived.Test.YtgngoedooemboaaRec
import Derived.Test.YtgngoedooemboaaGrp
set_option linter.unusedVariables false
set_option linter.unusedSimpArgs false
namespace Go.Proofs.Ytgngoedooemboaa.gj
open Go.RowKit Go.Proofs.Ytgngoedooemboaa.mem Go.Proofs.Ytgngoedooemboaa.stb

def g1 (r : Rec) : Grp := ⟨r.key, 1, r.tag, r.tag, r.tag⟩
def both (x y : Grp) : Grp := ⟨x.key, x.count + y.count, x.sum + y.sum, min x.least y.least, max x.most y.most⟩
def jstep (out : List Grp) (g : Grp) : List Grp :=
  match out[out.length - 1]? with
  | none => out ++ [g]
  | some h => if h.key = g.key then out.set (out.length - 1) (both h g) else out ++ [g]
def join (l : List Grp) : List Grp := l.foldl jstep []
def ltK (x y : Grp) : Bool := decide (x.key < y.key)
def ltR (x y : Rec) : Bool := decide (x.key < y.key)
theorem weakK : Weak ltK := weak_up Grp.key
theorem weakR : Weak ltR := weak_up Rec.key
theorem stab_g1 (l : List Rec) : stab ltK (l.map g1) = (stab ltR l).map g1 := stab_map g1 (fun _ _ => rfl) l
theorem join_take (l : List Grp) {k : Nat} (h : k < l.length) : join (l.take (k + 1)) = jstep (join (l.take k)) l[k] := by
  rw [List.take_succ_eq_append_getElem h, join, List.foldl_append]; rfl
theorem jstep_nil (g : Grp) : jstep [] g = [g] := rfl
theorem jstep_new {out : List Grp} {g h : Grp} (hl : out[out.length - 1]? = some h) (hk : h.key ≠ g.key) : jstep out g = out ++ [g] := by
  unfold jstep; rw [hl]; simp [hk]
theorem jstep_old {out : List Grp} {g h : Grp} (hl : out[out.length - 1]? = some h) (hk : h.key = g.key) : jstep out g = out.set (out.length - 1) (both h g) := by
  unfold jstep; rw [hl]; simp [hk]
theorem jstep_pos (out : List Grp) (g : Grp) : 0 < (jstep out g).length := by
  unfold jstep
  split
  · simp
  · rename_i h hh
    obtain ⟨hlt, _⟩ := List.getElem?_eq_some_iff.1 hh
    split
    · rw [List.length_set]; omega
    · simp
theorem jstep_len (out : List Grp) (g : Grp) : (jstep out g).length ≤ out.length + 1 := by
  unfold jstep
  split
  · simp
  · split
    · rw [List.length_set]; omega
    · simp
/-- the last group bears the key of what came last -/
theorem jstep_key (out : List Grp) (g : Grp) : ∃ h, (jstep out g)[(jstep out g).length - 1]? = some h ∧ h.key = g.key := by
  unfold jstep
  split
  · exact ⟨g, by simp, rfl⟩
  · rename_i h hh
    obtain ⟨hlt, _⟩ := List.getElem?_eq_some_iff.1 hh
    split
    · rename_i hk
      exact ⟨both h g, by rw [List.length_set, List.getElem?_set_self hlt], hk⟩
    · exact ⟨g, by simp, rfl⟩
theorem join_len (l : List Grp) : ∀ k, (join (l.take k)).length ≤ k
  | 0 => by simp [join]
  | k + 1 => by
    by_cases h : k < l.length
    · rw [join_take l h]; have := join_len l k; have := jstep_len (join (l.take k)) l[k]; omega
    · rw [List.take_of_length_le (by omega), ← List.take_of_length_le (l := l) (i := k) (by omega)]; have := join_len l k; omega
theorem join_key (l : List Grp) {k : Nat} (h : k < l.length) : ∃ g, (join (l.take (k + 1)))[(join (l.take (k + 1))).length - 1]? = some g ∧ g.key = (l[k]).key := by
  rw [join_take l h]; exact jstep_key _ _
theorem join_pos (l : List Grp) {k : Nat} (h : k < l.length) : 0 < (join (l.take (k + 1))).length := by
  rw [join_take l h]; exact jstep_pos _ _
/-- from the left -/
def jr1 (g : Grp) : List Grp → List Grp
  | [] => [g]
  | h :: t => if g.key = h.key then jr1 (both g h) t else g :: jr1 h t
def jr : List Grp → List Grp
  | [] => []
  | g :: t => jr1 g t
theorem fold_jr1 : ∀ (t : List Grp) (o : List Grp) (g : Grp), t.foldl jstep (o ++ [g]) = o ++ jr1 g t
  | [], o, g => rfl
  | h :: t, o, g => by
    have hl : (o ++ [g])[(o ++ [g]).length - 1]? = some g := by simp
    rw [List.foldl_cons, jr1]
    by_cases hk : g.key = h.key
    · rw [if_pos hk, jstep_old hl hk, show (o ++ [g]).length - 1 = o.length by simp, List.set_append_right _ _ (Nat.le_refl _), Nat.sub_self, List.set_cons_zero, fold_jr1 t o]
    · rw [if_neg hk, jstep_new hl hk, fold_jr1 t (o ++ [g]) h, List.append_assoc]; rfl
theorem join_jr : ∀ l, join l = jr l
  | [] => rfl
  | g :: t => by
    have := fold_jr1 t [] g
    simpa [join, jr, jstep_nil] using this
theorem jr1_lt {g : Grp} : ∀ {t : List Grp}, (∀ h ∈ t, g.key < h.key) → jr1 g t = g :: jr t
  | [], _ => rfl
  | h :: t, hh => by
    have := hh h (by simp)
    rw [jr1, if_neg (by omega)]; rfl
/-- the merge of two ascending lists of groups -/
def mg : List Grp → List Grp → List Grp
  | [], b => b
  | x :: a, [] => x :: a
  | x :: a, y :: b => if x.key < y.key then x :: mg a (y :: b) else if y.key < x.key then y :: mg (x :: a) b else both x y :: mg a b
termination_by a b => a.length + b.length
def KAsc (l : List Grp) : Prop := l.Pairwise fun x y => x.key < y.key
theorem mg_nil_right (a : List Grp) : mg a [] = a := by cases a <;> rw [mg]
theorem mg_nil_left (b : List Grp) : mg [] b = b := by rw [mg]
theorem jr_asc : ∀ {l : List Grp}, KAsc l → jr l = l
  | [], _ => rfl
  | g :: t, h => by
    have h2 := List.pairwise_cons.1 h
    rw [jr, jr1_lt h2.1, jr_asc h2.2]
theorem KAsc.asc {l : List Grp} (h : KAsc l) : Asc ltK l := h.imp fun hab => by simp [ltK]; omega
theorem jr_mrg : ∀ (a b : List Grp), KAsc a → KAsc b → jr (mrg ltK a b) = mg a b
  | [], b, ha, hb => by rw [mrg_nil_left, mg_nil_left, jr_asc hb]
  | x :: a, [], ha, hb => by rw [mrg_nil_right, mg_nil_right, jr_asc ha]
  | x :: a, y :: b, ha, hb => by
    have ha2 := List.pairwise_cons.1 ha
    have hb2 := List.pairwise_cons.1 hb
    have i1 := jr_mrg a (y :: b) ha2.2 hb
    have i2 := jr_mrg (x :: a) b ha hb2.2
    have i3 := jr_mrg a b ha2.2 hb2.2
    have hm : ∀ {l r : List Grp} {z : Int}, (∀ h ∈ l, z < h.key) → (∀ h ∈ r, z < h.key) → ∀ h ∈ mrg ltK l r, z < h.key := fun hl hr h hh => by
      rcases List.mem_append.1 ((mrg_perm _ _).mem_iff.1 hh) with h1 | h1
      · exact hl h h1
      · exact hr h h1
    rw [mrg_cons, mg]
    by_cases h1 : x.key < y.key
    · rw [if_pos h1, if_neg (by simp [ltK]; omega), jr, jr1_lt (hm ha2.1 fun h hh => ?_), i1]
      rcases List.mem_cons.1 hh with rfl | hh
      · exact h1
      · have := hb2.1 h hh; omega
    · rw [if_neg h1]
      by_cases h2 : y.key < x.key
      · rw [if_pos h2, if_pos (by simpa [ltK] using h2), jr, jr1_lt (hm (fun h hh => ?_) hb2.1), i2]
        rcases List.mem_cons.1 hh with rfl | hh
        · exact h2
        · have := ha2.1 h hh; omega
      · rw [if_neg h2, if_neg (by simpa [ltK] using h2)]
        have e : mrg ltK a (y :: b) = y :: mrg ltK a b := by
          cases a with
          | nil => simp [mrg]
          | cons z a => rw [mrg_cons, if_pos (by have := ha2.1 z (by simp); simp [ltK]; omega)]
        rw [e, jr, jr1, if_pos (by omega), jr1_lt, i3]
        refine hm (fun h hh => ?_) (fun h hh => ?_)
        · exact ha2.1 h hh
        · have := hb2.1 h hh
          show x.key < h.key
          omega
termination_by a b => a.length + b.length
theorem join_merge {a b : List Grp} (ha : KAsc a) (hb : KAsc b) : join (stab ltK (a ++ b)) = mg a b := by
  rw [join_jr, stab_app weakK, stab_of_asc a ha.asc, stab_of_asc b hb.asc, jr_mrg a b ha hb]
theorem mg_len : ∀ (a b : List Grp), (mg a b).length ≤ a.length + b.length
  | [], b => by rw [mg_nil_left]; simp
  | x :: a, [] => by rw [mg_nil_right]; simp
  | x :: a, y :: b => by
    have i1 := mg_len a (y :: b)
    have i2 := mg_len (x :: a) b
    have i3 := mg_len a b
    rw [mg]
    simp only [List.length_cons] at *
    split
    · simp only [List.length_cons]; omega
    · split <;> simp only [List.length_cons] <;> omega
termination_by a b => a.length + b.length
end Go.Proofs.Ytgngoedooemboaa.gj
