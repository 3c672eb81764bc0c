/- Multikey quicksort sorts, and inspects at least the distinguishing prefixes: the plain law. No condition. -/
import Derived.Test.YtaeimdcmpjanbaaMkLaw
import Derived.Test.YtaeimdcmpjanbaaSsLaw
import Derived.Test.YtaeimdcmpjanbaaDisPre
set_option linter.unusedVariables false
set_option linter.unusedSimpArgs false
namespace Go.Proofs.Ytaeimdcmpjanbaa.mkMore
open Go.Proofs.Ytaeimdcmpjanbaa.multi Go.Proofs.Ytaeimdcmpjanbaa.ssLaw Go.Proofs.Ytaeimdcmpjanbaa.stb
open Go.Proofs.Ytaeimdcmpjanbaa.prefixes (cpl cpl_le)
open Go.Proofs.Ytaeimdcmpjanbaa.ascStr (lt e0 getD_s)
open Go.Proofs.Ytaeimdcmpjanbaa.pfxs (pv pfx pfx_len pv_succ)
open Go.Proofs.Ytaeimdcmpjanbaa.disPre (q0 dv dt)

theorem cpl_comm : ∀ a b : List UInt8, cpl a b = cpl b a
  | [], b => by cases b <;> rfl
  | a :: x, [] => rfl
  | a :: x, b :: y => by
    simp only [cpl]
    by_cases h : a = b
    · subst h; simp [cpl_comm x y]
    · have h' : ¬ b = a := fun e => h e.symm
      simp [h, h']
theorem cpl_self : ∀ a : List UInt8, cpl a a = a.length
  | [] => rfl
  | a :: x => by simp [cpl, cpl_self x]
theorem cpl_pre : ∀ (p a b : List UInt8), cpl (p ++ a) (p ++ b) = p.length + cpl a b
  | [], a, b => by simp
  | x :: p, a, b => by simp [cpl, cpl_pre p a b]; omega
theorem cpl_take : ∀ a b : List UInt8, a.take (cpl a b) = b.take (cpl a b)
  | [], b => by cases b <;> simp [cpl]
  | a :: x, [] => by simp [cpl]
  | a :: x, b :: y => by
    simp only [cpl]
    by_cases h : a = b
    · subst h; simp [cpl_take x y]
    · simp [h]
def hd : List UInt8 → Int
  | [] => -1
  | a :: _ => (a.toNat : Int)
theorem size_bs (s : ByteArray) : s.size = (bs s).length := by rw [bs, Array.length_toList]; rfl
theorem chr_hd {s : ByteArray} {p t : List UInt8} (h : bs s = p ++ t) : chr s p.length = hd t := by
  cases t with
  | nil => rw [chr_out (by rw [size_bs, h]; simp)]; rfl
  | cons a r =>
    have hl : p.length < s.size := by rw [size_bs, h]; simp
    rw [chr_in hl]
    have h1 : (bs s)[p.length]? = some a := by rw [h]; simp
    have h2 : (bs s)[p.length]? = some s[p.length] := by
      simp only [bs, Array.getElem?_toList]
      rw [Array.getElem?_eq_getElem (by exact hl)]; rfl
    have h3 : s[p.length] = a := by rw [h1] at h2; exact (Option.some.inj h2).symm
    rw [h3]; rfl
def Sh (pre : List UInt8) (l : List ByteArray) : Prop := ∀ s ∈ l, ∃ t, bs s = pre ++ t
theorem Sh.filter {pre : List UInt8} {l : List ByteArray} (h : Sh pre l) (q : ByteArray → Bool) : Sh pre (l.filter q) := fun s hs => h s (List.mem_filter.1 hs).1
theorem lt_of_hd {a b : List UInt8} (h : hd a < hd b) : a < b := by
  cases b with
  | nil => cases a <;> simp [hd] at h; omega
  | cons y b =>
    cases a with
    | nil => simp
    | cons x a =>
      simp only [hd] at h
      rw [List.cons_lt_cons_iff]
      exact Or.inl (UInt8.lt_iff_toNat_lt.2 (by omega))
theorem lt_pre : ∀ (p : List UInt8) {a b : List UInt8}, a < b → p ++ a < p ++ b
  | [], _, _, h => h
  | x :: p, _, _, h => by
    rw [List.cons_append, List.cons_append, List.cons_lt_cons_iff]
    exact Or.inr ⟨rfl, lt_pre p h⟩
theorem cpl_hd {a b : List UInt8} (h : 0 < cpl a b) : hd a = hd b := by
  cases a with
  | nil => cases b <;> simp [cpl] at h
  | cons x a =>
    cases b with
    | nil => simp [cpl] at h
    | cons y b =>
      simp only [cpl] at h
      by_cases e : x = y
      · subst e; rfl
      · simp [e] at h
theorem parts_perm (l : List ByteArray) (d : Nat) (p : Int) : (lessL l d p ++ (eqL l d p ++ moreL l d p)).Perm l := by
  induction l with
  | nil => exact List.Perm.refl _
  | cons s r ih =>
    simp only [lessL, eqL, moreL, List.filter_cons] at *
    rcases Int.lt_trichotomy (chr s d) p with h | h | h
    · rw [if_pos (by simpa using h), if_neg (by simp; omega), if_neg (by simp; omega)]
      exact ih.cons s
    · rw [if_neg (by simp; omega), if_pos (by simpa using h), if_neg (by simp; omega)]
      exact List.perm_middle.trans (ih.cons s)
    · rw [if_neg (by simp; omega), if_neg (by simp; omega), if_pos (by simpa using h)]
      exact ((List.perm_middle.append_left _).trans List.perm_middle).trans (ih.cons s)
theorem mk_perm : ∀ (f : Nat) (l : List ByteArray) (d : Nat), (mk f l d).1.Perm l
  | 0, l, d => by simp [mk]
  | f + 1, l, d => by
    simp only [mk]
    split
    · exact List.Perm.refl _
    · refine List.Perm.trans ?_ (parts_perm l d (piv l d))
      rw [List.append_assoc]
      refine (mk_perm f _ d).append (List.Perm.append ?_ (mk_perm f _ d))
      split
      · exact mk_perm f _ _
      · exact List.Perm.refl _
theorem M_zero {l : List ByteArray} {d : Nat} (h : M l d ≤ 0) : l = [] := by
  cases l with
  | nil => rfl
  | cons s r => simp [M] at h
theorem mem_less {l : List ByteArray} {d : Nat} {p : Int} {s : ByteArray} : s ∈ lessL l d p ↔ s ∈ l ∧ chr s d < p := by simp [lessL]
theorem mem_more {l : List ByteArray} {d : Nat} {p : Int} {s : ByteArray} : s ∈ moreL l d p ↔ s ∈ l ∧ p < chr s d := by simp [moreL]
theorem mem_eq {l : List ByteArray} {d : Nat} {p : Int} {s : ByteArray} : s ∈ eqL l d p ↔ s ∈ l ∧ chr s d = p := by simp [eqL]
theorem Sh.next {pre : List UInt8} {l : List ByteArray} (h : Sh pre l) {p : Int} (hp : 0 ≤ p) : Sh (pre ++ [UInt8.ofNat p.toNat]) (eqL l pre.length p) := fun s hs => by
  obtain ⟨hs1, hs2⟩ := mem_eq.1 hs
  obtain ⟨t, ht⟩ := h s hs1
  rw [chr_hd ht] at hs2
  cases t with
  | nil => simp [hd] at hs2; omega
  | cons a r =>
    simp only [hd] at hs2
    refine ⟨r, ?_⟩
    rw [ht, ← hs2]; simp
theorem bs_lt {pre : List UInt8} {x y : ByteArray} {a b : List UInt8} (hx : bs x = pre ++ a) (hy : bs y = pre ++ b) (h : chr x pre.length < chr y pre.length) : bs x < bs y := by
  rw [chr_hd hx, chr_hd hy] at h
  rw [hx, hy]
  exact lt_pre pre (lt_of_hd h)
theorem bs_end {pre : List UInt8} {x : ByteArray} {a : List UInt8} (hx : bs x = pre ++ a) (h : chr x pre.length < 0) : bs x = pre := by
  rw [chr_hd hx] at h
  cases a with
  | nil => simpa using hx
  | cons a r => simp only [hd] at h; omega
theorem mk_sorted : ∀ (f : Nat) (l : List ByteArray) (pre : List UInt8), Sh pre l → M l pre.length ≤ f → (mk f l pre.length).1.Pairwise (fun x y => bs x ≤ bs y)
  | 0, l, pre, hs, hf => by rw [M_zero hf]; simp [mk]
  | f + 1, l, pre, hs, hf => by
    by_cases h2 : l.length < 2
    · simp only [mk, if_pos h2]
      cases l with
      | nil => exact List.Pairwise.nil
      | cons x r =>
        cases r with
        | nil => simp
        | cons y r => simp at h2; omega
    · have hm1 := M_less (d := pre.length) (show 2 ≤ l.length by omega)
      have hm2 := M_more (d := pre.length) (show 2 ≤ l.length by omega)
      have s1 := mk_sorted f (lessL l pre.length (piv l pre.length)) pre (hs.filter _) (by omega)
      have s3 := mk_sorted f (moreL l pre.length (piv l pre.length)) pre (hs.filter _) (by omega)
      have p1 := fun x => (mk_perm f (lessL l pre.length (piv l pre.length)) pre.length).mem_iff (a := x)
      have p3 := fun x => (mk_perm f (moreL l pre.length (piv l pre.length)) pre.length).mem_iff (a := x)
      have cross : ∀ x y, x ∈ l → y ∈ l → chr x pre.length < chr y pre.length → bs x ≤ bs y := fun x y hx hy hc => by
        obtain ⟨a, ha⟩ := hs x hx
        obtain ⟨b, hb⟩ := hs y hy
        exact List.le_of_lt (bs_lt ha hb hc)
      simp only [mk, if_neg h2]
      by_cases hp : 0 ≤ piv l pre.length
      · have hm3 := M_eq (d := pre.length) (show 2 ≤ l.length by omega) hp
        have s2 := mk_sorted f (eqL l pre.length (piv l pre.length)) (pre ++ [UInt8.ofNat (piv l pre.length).toNat]) (hs.next hp) (by simp; omega)
        have p2 := fun x => (mk_perm f (eqL l pre.length (piv l pre.length)) (pre.length + 1)).mem_iff (a := x)
        rw [show (pre ++ [UInt8.ofNat (piv l pre.length).toNat]).length = pre.length + 1 by simp] at s2
        rw [if_pos hp, List.append_assoc]
        refine List.pairwise_append.2 ⟨s1, List.pairwise_append.2 ⟨s2, s3, fun x hx y hy => ?_⟩, fun x hx y hy => ?_⟩
        · have a := mem_eq.1 ((p2 x).1 hx)
          have b := mem_more.1 ((p3 y).1 hy)
          exact cross x y a.1 b.1 (by omega)
        · have a := mem_less.1 ((p1 x).1 hx)
          rcases List.mem_append.1 hy with hy | hy
          · have b := mem_eq.1 ((p2 y).1 hy)
            exact cross x y a.1 b.1 (by omega)
          · have b := mem_more.1 ((p3 y).1 hy)
            exact cross x y a.1 b.1 (by omega)
      · rw [if_neg hp, List.append_assoc]
        have s2 : (eqL l pre.length (piv l pre.length)).Pairwise (fun x y => bs x ≤ bs y) := by
          refine List.pairwise_iff_forall_sublist.2 fun {x y} hxy => ?_
          have hx := mem_eq.1 (hxy.subset (show x ∈ [x, y] by simp))
          have hy := mem_eq.1 (hxy.subset (show y ∈ [x, y] by simp))
          obtain ⟨a, ha⟩ := hs x hx.1
          obtain ⟨b, hb⟩ := hs y hy.1
          rw [bs_end ha (by omega), bs_end hb (by omega)]
          exact List.le_refl _
        refine List.pairwise_append.2 ⟨s1, List.pairwise_append.2 ⟨s2, s3, fun x hx y hy => ?_⟩, fun x hx y hy => ?_⟩
        · have a := mem_eq.1 hx
          have b := mem_more.1 ((p3 y).1 hy)
          exact cross x y a.1 b.1 (by omega)
        · have a := mem_less.1 ((p1 x).1 hx)
          rcases List.mem_append.1 hy with hy | hy
          · have b := mem_eq.1 hy
            exact cross x y a.1 b.1 (by omega)
          · have b := mem_more.1 ((p3 y).1 hy)
            exact cross x y a.1 b.1 (by omega)
/-- multikey quicksort sorts -/
theorem mk_ss (l : List ByteArray) : (mk (M l 0) l 0).1 = ss l := by
  have hsh : Sh [] l := fun s _ => ⟨bs s, by simp⟩
  have s1 := mk_sorted (M l 0) l [] hsh (Nat.le_refl _)
  have s2 : ((ss l).map bs).Pairwise (· ≤ ·) := by
    rw [List.pairwise_map]
    refine (stab_asc weak l).imp fun hab => ?_
    rw [lt_eq] at hab
    simpa using hab
  have s3 : ((mk (M l 0) l 0).1.map bs).Pairwise (· ≤ ·) := by rw [List.pairwise_map]; exact s1
  have e : (mk (M l 0) l 0).1.map bs = (ss l).map bs :=
    List.Perm.eq_of_pairwise (fun a b _ _ h1 h2 => List.le_antisymm h1 h2) s3 s2 ((mk_perm _ _ _).trans (stab_perm l).symm |>.map bs)
  have h := congrArg (List.map fun b : List UInt8 => ByteArray.mk b.toArray) e
  simpa [List.map_map, Function.comp_def, bs] using h
/-! ### what is inspected -/
def cc (x y : ByteArray) : Nat := cpl (bs x) (bs y)
def NN (l : List ByteArray) (s : ByteArray) (e : Nat) : Nat := l.countP fun t => decide (e ≤ cc s t)
def nd (l : List ByteArray) (s : ByteArray) (d : Nat) : Nat := (List.range (bs s).length).countP fun e => decide (d ≤ e) && decide (2 ≤ NN l s e)
def need (l : List ByteArray) (d : Nat) : Nat := (l.map fun s => nd l s d).sum
theorem nd_small {l : List ByteArray} (h : l.length < 2) (s : ByteArray) (d : Nat) : nd l s d = 0 := by
  refine List.countP_eq_zero.2 fun e _ => ?_
  have h1 : NN l s e ≤ l.length := List.countP_le_length
  simp; intro _; omega
theorem sum_zero {l : List ByteArray} {f : ByteArray → Nat} (h : ∀ s ∈ l, f s = 0) : (l.map f).sum = 0 := by
  induction l with
  | nil => rfl
  | cons s r ih => simp [h s (by simp), ih (fun x hx => h x (by simp [hx]))]
theorem sum_le {l : List ByteArray} {f g : ByteArray → Nat} (h : ∀ s ∈ l, f s ≤ 1 + g s) : (l.map f).sum ≤ l.length + (l.map g).sum := by
  induction l with
  | nil => simp
  | cons s r ih =>
    have h1 := h s (by simp)
    have h2 := ih (fun x hx => h x (by simp [hx]))
    simp only [List.map_cons, List.sum_cons, List.length_cons]; omega
theorem sum3 (f : ByteArray → Nat) (l : List ByteArray) (d : Nat) (p : Int) : (l.map f).sum = ((lessL l d p).map f).sum + ((eqL l d p).map f).sum + ((moreL l d p).map f).sum := by
  have h := ((parts_perm l d p).symm.map f).sum_nat
  rw [h]; simp; omega
theorem countP_or {α : Type} {p q r : α → Bool} : ∀ {l : List α}, (∀ x ∈ l, p x = true → q x = true ∨ r x = true) → l.countP p ≤ l.countP q + l.countP r
  | [], _ => by simp
  | x :: l, h => by
    have ih := countP_or (l := l) (p := p) (q := q) (r := r) (fun y hy => h y (by simp [hy]))
    have h0 := h x (by simp)
    simp only [List.countP_cons]
    by_cases hp : p x = true
    · rcases h0 hp with h1 | h1
      · simp only [hp, h1, if_true]; omega
      · simp only [hp, h1, if_true]; omega
    · rw [if_neg hp]; omega
theorem count_one (d : Nat) : ∀ n, (List.range n).countP (fun e => decide (e = d)) ≤ if d < n then 1 else 0
  | 0 => by simp
  | n + 1 => by
    have ih := count_one d n
    rw [List.range_succ, List.countP_append]
    by_cases h : n = d
    · subst h
      simp at ih ⊢; omega
    · have : ([n].countP fun e => decide (e = d)) = 0 := by simp [h]
      rw [this]
      split at ih <;> split <;> omega
theorem nd_step {l part : List ByteArray} {s : ByteArray} {d d' : Nat} (hd : d' ≤ d + 1) (hN : ∀ e, d + 1 ≤ e → NN l s e = NN part s e) : nd l s d ≤ 1 + nd part s d' := by
  unfold nd
  have h1 := countP_or (l := List.range (bs s).length) (p := fun e => decide (d ≤ e) && decide (2 ≤ NN l s e)) (q := fun e => decide (e = d)) (r := fun e => decide (d' ≤ e) && decide (2 ≤ NN part s e)) (fun e _ h => by
    simp only [Bool.and_eq_true, decide_eq_true_eq] at h ⊢
    by_cases e1 : e = d
    · exact Or.inl e1
    · right
      rw [← hN e (by omega)]
      exact ⟨by omega, h.2⟩)
  have h2 := count_one d (bs s).length
  split at h2 <;> omega
theorem cc_pre {pre a b : List UInt8} {s t : ByteArray} (hs : bs s = pre ++ a) (ht : bs t = pre ++ b) {e : Nat} (he : pre.length + 1 ≤ e) (h : e ≤ cc s t) : chr s pre.length = chr t pre.length := by
  rw [cc, hs, ht, cpl_pre] at h
  rw [chr_hd hs, chr_hd ht]
  exact cpl_hd (by omega)
theorem N_part {pre : List UInt8} {l : List ByteArray} (hsh : Sh pre l) {s : ByteArray} (hs : s ∈ l) {q : ByteArray → Bool} (hq : ∀ t ∈ l, chr t pre.length = chr s pre.length → q t = true) {e : Nat} (he : pre.length + 1 ≤ e) : NN l s e = NN (l.filter q) s e := by
  unfold NN
  rw [List.countP_filter]
  refine List.countP_congr fun t ht => ?_
  obtain ⟨a, ha⟩ := hsh s hs
  obtain ⟨b, hb⟩ := hsh t ht
  simp only [decide_eq_true_eq, Bool.and_eq_true]
  constructor
  · intro h; exact ⟨h, hq t ht (cc_pre ha hb he h).symm⟩
  · intro h; exact h.1
theorem nd_end {l : List ByteArray} {s : ByteArray} {d : Nat} (h : (bs s).length ≤ d) : nd l s d = 0 := by
  refine List.countP_eq_zero.2 fun e he => ?_
  have := List.mem_range.1 he
  simp; intro _; omega
theorem cost : ∀ (f : Nat) (l : List ByteArray) (pre : List UInt8), Sh pre l → M l pre.length ≤ f → need l pre.length ≤ (mk f l pre.length).2
  | 0, l, pre, hs, hf => by rw [M_zero hf]; simp [need]
  | f + 1, l, pre, hs, hf => by
    by_cases h2 : l.length < 2
    · have : need l pre.length = 0 := sum_zero (fun s _ => nd_small h2 s _)
      omega
    · have hm1 := M_less (d := pre.length) (show 2 ≤ l.length by omega)
      have hm2 := M_more (d := pre.length) (show 2 ≤ l.length by omega)
      have c1 := cost f (lessL l pre.length (piv l pre.length)) pre (hs.filter _) (by omega)
      have c3 := cost f (moreL l pre.length (piv l pre.length)) pre (hs.filter _) (by omega)
      have h3 := len3 l pre.length (piv l pre.length)
      have e1 := sum_le (l := lessL l pre.length (piv l pre.length)) (f := fun s => nd l s pre.length) (g := fun s => nd (lessL l pre.length (piv l pre.length)) s pre.length) (fun s hsl => by
        have a := mem_less.1 hsl
        exact nd_step (by omega) (fun e he => N_part hs a.1 (fun t _ ht => by simp; omega) he))
      have e3 := sum_le (l := moreL l pre.length (piv l pre.length)) (f := fun s => nd l s pre.length) (g := fun s => nd (moreL l pre.length (piv l pre.length)) s pre.length) (fun s hsl => by
        have a := mem_more.1 hsl
        exact nd_step (by omega) (fun e he => N_part hs a.1 (fun t _ ht => by simp; omega) he))
      have hsum := sum3 (fun s => nd l s pre.length) l pre.length (piv l pre.length)
      unfold need at c1 c3 ⊢
      simp only [mk, if_neg h2]
      by_cases hp : 0 ≤ piv l pre.length
      · have hm3 := M_eq (d := pre.length) (show 2 ≤ l.length by omega) hp
        have c2 := cost f (eqL l pre.length (piv l pre.length)) (pre ++ [UInt8.ofNat (piv l pre.length).toNat]) (hs.next hp) (by simp; omega)
        rw [show (pre ++ [UInt8.ofNat (piv l pre.length).toNat]).length = pre.length + 1 by simp] at c2
        have e2 := sum_le (l := eqL l pre.length (piv l pre.length)) (f := fun s => nd l s pre.length) (g := fun s => nd (eqL l pre.length (piv l pre.length)) s (pre.length + 1)) (fun s hsl => by
          have a := mem_eq.1 hsl
          exact nd_step (by omega) (fun e he => N_part hs a.1 (fun t _ ht => by simp; omega) he))
        unfold need at c2
        rw [if_pos hp]
        omega
      · have e2 := sum_zero (l := eqL l pre.length (piv l pre.length)) (f := fun s => nd l s pre.length) (fun s hsl => by
          have a := mem_eq.1 hsl
          obtain ⟨b, hb⟩ := hs s a.1
          exact nd_end (by rw [bs_end hb (by omega)]; exact Nat.le_refl _))
        rw [if_neg hp]
        omega
theorem two_le {p : ByteArray → Bool} : ∀ {l : List ByteArray} {i j : Nat} (hij : i < j) (hj : j < l.length), p (l[i]'(by omega)) = true → p l[j] = true → 2 ≤ l.countP p
  | [], i, j, _, hj, _, _ => by simp at hj
  | x :: l, 0, j, hij, hj, h1, h2 => by
    obtain ⟨j, rfl⟩ : ∃ k, j = k + 1 := ⟨j - 1, by omega⟩
    have hj2 : j < l.length := by simpa using hj
    simp only [List.getElem_cons_zero] at h1
    simp only [List.getElem_cons_succ] at h2
    have := List.countP_pos_iff.2 ⟨l[j], List.getElem_mem hj2, h2⟩
    rw [List.countP_cons_of_pos h1]; omega
  | x :: l, i + 1, j, hij, hj, h1, h2 => by
    obtain ⟨j, rfl⟩ : ∃ k, j = k + 1 := ⟨j - 1, by omega⟩
    have ih := two_le (p := p) (l := l) (i := i) (j := j) (by omega) (by simpa using hj) (by simpa using h1) (by simpa using h2)
    rw [List.countP_cons]; omega
theorem count_ge {p : Nat → Bool} : ∀ n m, m ≤ n → (∀ e, e < m → p e = true) → m ≤ (List.range n).countP p
  | 0, m, h, _ => by omega
  | n + 1, m, h, hp => by
    rw [List.range_succ, List.countP_append]
    by_cases e : m ≤ n
    · have := count_ge n m e hp; omega
    · have h1 := count_ge n n (Nat.le_refl _) (fun x hx => hp x (by omega))
      have h2 : ([n].countP p) = 1 := by simp [hp n (by omega)]
      omega
theorem nd_ge {L : List ByteArray} {i j K : Nat} (hi : i < L.length) (hj : j < L.length) (hne : i ≠ j) (hK : K ≤ cc L[i] L[j]) : min (bs L[i]).length (1 + K) ≤ nd L L[i] 0 := by
  refine count_ge _ _ (Nat.min_le_left _ _) (fun e he => ?_)
  have hself : cc L[i] L[i] = (bs L[i]).length := cpl_self _
  simp only [Nat.zero_le, decide_true, Bool.true_and, decide_eq_true_eq, NN]
  rcases Nat.lt_or_gt_of_ne hne with h | h
  · exact decide_eq_true (two_le (p := fun t => decide (e ≤ cc L[i] t)) h hj (by simp only [decide_eq_true_eq]; omega) (by simp only [decide_eq_true_eq]; omega))
  · exact decide_eq_true (two_le (p := fun t => decide (e ≤ cc L[i] t)) h hi (by simp only [decide_eq_true_eq]; omega) (by simp only [decide_eq_true_eq]; omega))
theorem q0_at (L : List ByteArray) {i : Nat} (h : i < L.length) : (q0 L).getD i 0 = pv L i := by
  rw [q0, List.getD_eq_getElem?_getD, List.getElem?_append_left (by rw [pfx_len]; exact h)]
  simp [pfx, h]
theorem q0_end (L : List ByteArray) : (q0 L).getD L.length 0 = 0 := by
  rw [q0, List.getD_eq_getElem?_getD, List.getElem?_append_right (by rw [pfx_len]; omega), pfx_len]
  simp
theorem pv_cc (L : List ByteArray) {i : Nat} (h : i + 1 < L.length) : pv L (i + 1) = (cc (L[i]'(by omega)) L[i + 1] : Nat) := by
  rw [pv_succ, getD_s L (by omega), getD_s L h]; rfl
theorem cc_comm (x y : ByteArray) : cc x y = cc y x := cpl_comm _ _
theorem dv_nd {L : List ByteArray} (h2 : 2 ≤ L.length) {i : Nat} (hi : i < L.length) : dv L i ≤ (nd L L[i] 0 : Nat) := by
  rw [dv, getD_s L hi, size_bs]
  have key : ∀ (j K : Nat), (hj : j < L.length) → i ≠ j → K ≤ cc L[i] L[j] → max ((q0 L).getD i 0) ((q0 L).getD (i + 1) 0) ≤ (K : Int) → min (((bs L[i]).length : Nat) : Int) (1 + max ((q0 L).getD i 0) ((q0 L).getD (i + 1) 0)) ≤ (nd L L[i] 0 : Nat) := fun j K hj hne hK hm => by
    have := nd_ge hi hj hne hK
    omega
  rw [q0_at L hi] at key ⊢
  by_cases h0 : i = 0
  · subst h0
    have e1 : pv L 0 = 0 := by simp [pv]
    rw [q0_at L (show 0 + 1 < L.length by omega), pv_cc L (show 0 + 1 < L.length by omega), e1] at key ⊢
    exact key (0 + 1) _ (by omega) (by omega) (Nat.le_refl _) (by omega)
  · obtain ⟨k, rfl⟩ : ∃ k, i = k + 1 := ⟨i - 1, by omega⟩
    rw [pv_cc L hi] at key ⊢
    by_cases hl : k + 1 + 1 < L.length
    · rw [q0_at L hl, pv_cc L hl] at key ⊢
      by_cases hc : cc (L[k]'(by omega)) L[k + 1] ≤ cc L[k + 1] L[k + 1 + 1]
      · exact key (k + 1 + 1) _ hl (by omega) (Nat.le_refl _) (by omega)
      · exact key k (cc (L[k]'(by omega)) L[k + 1]) (by omega) (by omega) (by rw [cc_comm]; exact Nat.le_refl _) (by omega)
    · obtain e : k + 1 + 1 = L.length := by omega
      rw [e, q0_end] at key ⊢
      exact key k (cc (L[k]'(by omega)) L[k + 1]) (by omega) (by omega) (by rw [cc_comm]; exact Nat.le_refl _) (by omega)
theorem dt_need {L : List ByteArray} (h2 : 2 ≤ L.length) : ∀ k, k ≤ L.length → dt L k ≤ (((L.take k).map fun s => nd L s 0).sum : Nat)
  | 0, _ => by simp [dt]
  | k + 1, hk => by
    have ih := dt_need h2 k (by omega)
    have h1 := dv_nd h2 (show k < L.length by omega)
    rw [List.take_succ_eq_append_getElem (show k < L.length by omega), List.map_append, List.sum_append, dt]
    simp only [List.map_cons, List.map_nil, List.sum_cons, List.sum_nil]
    omega
theorem need_perm {l L : List ByteArray} (h : L.Perm l) (d : Nat) : need L d = need l d := by
  have e : ∀ s, nd L s d = nd l s d := fun s => by
    unfold nd
    refine List.countP_congr fun e _ => ?_
    unfold NN; rw [h.countP_eq]
  unfold need
  rw [show (fun s => nd L s d) = fun s => nd l s d from funext e]
  exact (h.map _).sum_nat
/-- the inspected characters are at least the distinguishing prefixes -/
theorem inspects (l : List ByteArray) (h2 : 2 ≤ l.length) : dt (ss l) l.length ≤ ((mk (M l 0) l 0).2 : Nat) := by
  have hsh : Sh [] l := fun s _ => ⟨bs s, by simp⟩
  have h1 := cost (M l 0) l [] hsh (Nat.le_refl _)
  have h3 := dt_need (L := ss l) (by rw [ss_len]; exact h2) (ss l).length (Nat.le_refl _)
  rw [List.take_length, ss_len] at h3
  have h4 := need_perm (stab_perm (lt := lt) l) 0
  simp only [List.length_nil] at h1
  unfold need at h4 h1
  unfold ss at h3 ⊢
  omega
end Go.Proofs.Ytaeimdcmpjanbaa.mkMore
