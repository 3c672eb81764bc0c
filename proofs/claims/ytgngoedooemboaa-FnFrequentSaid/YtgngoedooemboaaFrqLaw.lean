/- Counters for frequent elements: a list of (key, count) pairs, its step, and a map that reads as it. No program. -/
import Derived.Test.YtgngoedooemboaaMapLaw
import Derived.Test.YtgngoedooemboaaSrtLaw
set_option linter.unusedVariables false
set_option linter.unusedSimpArgs false
namespace Go.Proofs.Ytgngoedooemboaa.frq
open Go Go.Maps

abbrev Ctr := List (Int × Int)
def keys (L : Ctr) : List Int := L.map (·.1)
def look (L : Ctr) (x : Int) : Int := ((L.find? fun p => p.1 == x).map (·.2)).getD 0
def bump (L : Ctr) (x : Int) : Ctr := L.map fun p => if p.1 = x then (p.1, p.2 + 1) else p
def dec (L : Ctr) : Ctr := (L.filter fun p => decide (1 < p.2)).map fun p => (p.1, p.2 - 1)
def step (most : Nat) (L : Ctr) (x : Int) : Ctr := if x ∈ keys L then bump L x else if L.length < most then L ++ [(x, 1)] else dec L
def run (most : Nat) (zs : List Int) : Ctr := zs.foldl (step most) []
structure Ok (L : Ctr) : Prop where
  nd : (keys L).Nodup
  pos : ∀ p ∈ L, 1 ≤ p.2
theorem keys_app (L M : Ctr) : keys (L ++ M) = keys L ++ keys M := List.map_append
theorem keys_bump (L : Ctr) (x : Int) : keys (bump L x) = keys L := by
  unfold keys bump
  rw [List.map_map]
  refine List.map_congr_left fun p _ => ?_
  simp only [Function.comp]
  split <;> rfl
theorem keys_dec (L : Ctr) : (keys (dec L)).Sublist (keys L) := by
  unfold keys dec
  rw [List.map_map]
  exact (List.filter_sublist).map _
theorem look_cons (p : Int × Int) (L : Ctr) (x : Int) : look (p :: L) x = if p.1 = x then p.2 else look L x := by
  unfold look
  rw [List.find?_cons]
  by_cases h : p.1 = x
  · simp [h]
  · have : (p.1 == x) = false := by simpa using h
    rw [this, if_neg h]
theorem look_none {L : Ctr} {x : Int} (h : x ∉ keys L) : look L x = 0 := by
  induction L with
  | nil => rfl
  | cons p L ih =>
    simp only [keys, List.map_cons, List.mem_cons, not_or] at h
    rw [look_cons, if_neg (fun e => h.1 e.symm)]
    exact ih h.2
theorem look_mem {L : Ctr} (h : (keys L).Nodup) {p : Int × Int} (hp : p ∈ L) : look L p.1 = p.2 := by
  induction L with
  | nil => cases hp
  | cons q L ih =>
    simp only [keys, List.map_cons, List.nodup_cons] at h
    rw [look_cons]
    rcases List.mem_cons.1 hp with rfl | hp
    · rw [if_pos rfl]
    · rw [if_neg (fun e : q.1 = p.1 => h.1 (by rw [e]; exact List.mem_map_of_mem hp))]
      exact ih h.2 hp
theorem look_pos {L : Ctr} (h : Ok L) (x : Int) : 0 < look L x ↔ x ∈ keys L := by
  constructor
  · intro h1
    by_cases h2 : x ∈ keys L
    · exact h2
    · rw [look_none h2] at h1; omega
  · intro h1
    obtain ⟨p, hp, rfl⟩ := List.mem_map.1 h1
    rw [look_mem h.nd hp]
    have := h.pos p hp
    omega
theorem look_bump (L : Ctr) (x y : Int) : look (bump L x) y = if y = x ∧ x ∈ keys L then look L y + 1 else look L y := by
  induction L with
  | nil => simp [bump, look, keys]
  | cons p L ih =>
    have hb : bump (p :: L) x = (if p.1 = x then (p.1, p.2 + 1) else p) :: bump L x := rfl
    have hk : keys (p :: L) = p.1 :: keys L := rfl
    rw [hb, look_cons, look_cons, ih, hk]
    have h1 : (if p.1 = x then (p.1, p.2 + 1) else p).1 = p.1 := by split <;> rfl
    rw [h1]
    by_cases hpy : p.1 = y
    · rw [if_pos hpy, if_pos hpy]
      by_cases hpx : p.1 = x
      · rw [if_pos hpx, if_pos ⟨hpy.symm.trans hpx, by rw [← hpx]; exact List.mem_cons_self⟩]
      · rw [if_neg hpx, if_neg (fun h => hpx (hpy.trans h.1))]
    · rw [if_neg hpy, if_neg hpy]
      by_cases hyx : y = x
      · have : x ∈ p.1 :: keys L ↔ x ∈ keys L := by
          rw [List.mem_cons]
          exact ⟨fun h => h.resolve_left (fun e => hpy (by rw [hyx, e])), Or.inr⟩
        simp only [hyx, this]
      · rw [if_neg (fun h => hyx h.1), if_neg (fun h => hyx h.1)]
theorem look_snoc {L : Ctr} {x : Int} (h : x ∉ keys L) (y : Int) : look (L ++ [(x, 1)]) y = if y = x then 1 else look L y := by
  induction L with
  | nil =>
    rw [List.nil_append, look_cons]
    by_cases e : y = x
    · rw [if_pos e, if_pos e.symm]
    · rw [if_neg e, if_neg (fun e2 => e e2.symm)]
  | cons p L ih =>
    simp only [keys, List.map_cons, List.mem_cons, not_or] at h
    rw [List.cons_append, look_cons, look_cons, ih h.2]
    by_cases hp : p.1 = y
    · rw [if_pos hp, if_pos hp, if_neg (fun e => h.1 (by rw [hp, e]))]
    · rw [if_neg hp, if_neg hp]
/-- one less, or none -/
def dn (c : Int) : Int := if 0 < c then c - 1 else 0
theorem look_dec {L : Ctr} (h : Ok L) (y : Int) : look (dec L) y = dn (look L y) := by
  obtain ⟨hn, hp⟩ := h
  induction L with
  | nil => rfl
  | cons p L ih =>
    have hk : keys (p :: L) = p.1 :: keys L := rfl
    rw [hk, List.nodup_cons] at hn
    have ih := ih hn.2 fun q hq => hp q (List.mem_cons_of_mem _ hq)
    have h1 := hp p List.mem_cons_self
    have hd : dec (p :: L) = if 1 < p.2 then (p.1, p.2 - 1) :: dec L else dec L := by
      unfold dec
      rw [List.filter_cons]
      by_cases h2 : 1 < p.2 <;> simp [h2]
    rw [hd, look_cons]
    by_cases h2 : 1 < p.2
    · rw [if_pos h2, look_cons]
      by_cases h3 : p.1 = y
      · rw [if_pos h3, if_pos h3, dn, if_pos (by omega)]
      · rw [if_neg h3, if_neg h3, ih]
    · rw [if_neg h2, ih]
      by_cases h3 : p.1 = y
      · rw [if_pos h3, ← h3, look_none hn.1, dn, dn, if_neg (by omega), if_pos (by omega)]; omega
      · rw [if_neg h3]
theorem ok_nil : Ok [] := ⟨List.nodup_nil, fun p h => by cases h⟩
theorem step_ok {most : Nat} {L : Ctr} (h : Ok L) (x : Int) : Ok (step most L x) := by
  unfold step
  split
  · refine ⟨by rw [keys_bump]; exact h.nd, fun p hp => ?_⟩
    obtain ⟨q, hq, rfl⟩ := List.mem_map.1 hp
    have := h.pos q hq
    split
    · simp only []; omega
    · exact this
  · rename_i hx
    split
    · refine ⟨?_, fun p hp => ?_⟩
      · rw [keys_app]
        exact List.nodup_append.2 ⟨h.nd, by simp [keys], fun a ha b hb => by
          simp only [keys, List.map_cons, List.map_nil, List.mem_singleton] at hb
          rintro rfl
          exact hx (hb ▸ ha)⟩
      · rcases List.mem_append.1 hp with hp | hp
        · exact h.pos p hp
        · simp only [List.mem_singleton] at hp; subst hp; simp
    · refine ⟨h.nd.sublist (keys_dec L), fun p hp => ?_⟩
      obtain ⟨q, hq, rfl⟩ := List.mem_map.1 hp
      have := (List.mem_filter.1 hq).2
      simp only [decide_eq_true_eq] at this
      simp only []; omega
theorem step_len {most : Nat} {L : Ctr} (h : L.length ≤ most) (x : Int) : (step most L x).length ≤ most := by
  unfold step
  split
  · rw [bump, List.length_map]; exact h
  · split
    · rw [List.length_append, List.length_singleton]; omega
    · rw [dec, List.length_map]; exact Nat.le_trans (List.length_filter_le _ _) h
/-- the counts are at most k -/
def Le (L : Ctr) (k : Int) : Prop := ∀ p ∈ L, p.2 ≤ k
theorem step_le {most : Nat} {L : Ctr} {k : Int} (h : Le L k) (h0 : 0 ≤ k) (x : Int) : Le (step most L x) (k + 1) := by
  unfold step
  split
  · intro p hp
    obtain ⟨q, hq, rfl⟩ := List.mem_map.1 hp
    have := h q hq
    split
    · simp only []; omega
    · omega
  · split
    · intro p hp
      rcases List.mem_append.1 hp with hp | hp
      · have := h p hp; omega
      · simp only [List.mem_singleton] at hp; subst hp; simp only []; omega
    · intro p hp
      obtain ⟨q, hq, rfl⟩ := List.mem_map.1 hp
      have := h q (List.mem_filter.1 hq).1
      simp only []; omega
theorem look_le {L : Ctr} {k : Int} (h : Ok L) (hl : Le L k) (h0 : 0 ≤ k) (x : Int) : 0 ≤ look L x ∧ look L x ≤ k := by
  by_cases hx : x ∈ keys L
  · obtain ⟨p, hp, rfl⟩ := List.mem_map.1 hx
    rw [look_mem h.nd hp]
    have h1 := h.pos p hp
    have h2 := hl p hp
    omega
  · rw [look_none hx]; omega

/-! ### a map that reads as counts -/
section
variable {H : Type}
structure Rep (D : DataW H) (g : Int → Int) : Prop where
  has : ∀ x, Maps.has D (.int .i64 x) = decide (0 < g x)
  at' : ∀ x, 0 < g x → ∀ z, D.atKey (.int .i64 x) z = .lit (.int .i64 (g x))
  int : ∀ kl, Maps.has D kl = true → ∃ x, kl = .int .i64 x
theorem lit_ne {x y : Int} (h : x ≠ y) : (Lit.int .i64 x) ≠ .int .i64 y := fun e => h (by injection e)
theorem Rep.congr {D : DataW H} {g g' : Int → Int} (h : Rep D g) (he : ∀ x, g x = g' x) : Rep D g' := by
  have : g = g' := funext he
  rw [← this]; exact h
theorem rep_empty : Rep (DataW.map [] : DataW H) (look []) := ⟨fun x => rfl, fun x h => absurd h (by simp [look]), fun kl h => by cases h⟩
theorem Rep.put {D : DataW H} {g : Int → Int} (h : Rep D g) (hm : Maps.IsMap D) {x c : Int} (hk : WideAt.IsKeyLit (.int .i64 x)) (hc : 0 < c) : Rep (D.put (.int .i64 x) (.lit (.int .i64 c))) (fun y => if y = x then c else g y) where
  has := fun y => by
    by_cases e : y = x
    · subst e; rw [Maps.has_put_same hm hk, if_pos rfl, decide_eq_true hc]
    · rw [Maps.has_put_other (lit_ne e), if_neg e]; exact h.has y
  at' := fun y hy z => by
    by_cases e : y = x
    · subst e; rw [Maps.atKey_put_same hm hk, if_pos rfl]
    · rw [if_neg e] at hy
      rw [Maps.atKey_put_other (lit_ne e), if_neg e]; exact h.at' y hy z
  int := fun kl hkl => by
    by_cases e : kl = .int .i64 x
    · exact ⟨x, e⟩
    · rw [Maps.has_put_other e] at hkl; exact h.int kl hkl
theorem Rep.del {D : DataW H} {g : Int → Int} (h : Rep D g) (x : Int) : Rep (D.del (.int .i64 x)) (fun y => if y = x then 0 else g y) where
  has := fun y => by
    by_cases e : y = x
    · subst e; rw [Maps.has_del_same, if_pos rfl]; rfl
    · rw [Maps.has_del_other (lit_ne e), if_neg e]; exact h.has y
  at' := fun y hy z => by
    by_cases e : y = x
    · subst e; rw [if_pos rfl] at hy; omega
    · rw [if_neg e] at hy
      rw [Maps.atKey_del_other (lit_ne e), if_neg e]; exact h.at' y hy z
  int := fun kl hkl => by
    by_cases e : kl = .int .i64 x
    · exact ⟨x, e⟩
    · rw [Maps.has_del_other e] at hkl; exact h.int kl hkl
/-- what a look-up gives -/
theorem Rep.get {D : DataW H} {g : Int → Int} (h : Rep D g) {x c : Int} (h0 : 0 ≤ g x) (hc : D.atKey (.int .i64 x) (.lit (.int .i64 0)) = .lit (.int .i64 c)) : c = g x := by
  by_cases hx : 0 < g x
  · rw [h.at' x hx] at hc
    injection hc with hc
    injection hc with _ hc
    exact hc.symm
  · have := h.has x
    rw [decide_eq_false hx] at this
    rw [Maps.atKey_of_not_has this] at hc
    injection hc with hc
    injection hc with _ hc
    omega
theorem Rep.size {D : DataW H} {L : Ctr} (hO : Ok L) (h : Rep D (look L)) (hc : Maps.Canon D) : Maps.size D = L.length := by
  have := maps.size_keys hc ((keys L).map fun x => Lit.int .i64 x) (List.pairwise_map.2 (hO.nd.imp fun {a b} hab e => hab (by injection e))) (fun kl => by
    constructor
    · intro hk
      obtain ⟨x, rfl⟩ := h.int kl hk
      rw [h.has, decide_eq_true_eq, look_pos hO] at hk
      exact List.mem_map_of_mem hk
    · intro hk
      obtain ⟨x, hx, rfl⟩ := List.mem_map.1 hk
      rw [h.has, decide_eq_true_eq, look_pos hO]; exact hx)
  rw [this, List.length_map, keys, List.length_map]
end
end Go.Proofs.Ytgngoedooemboaa.frq
