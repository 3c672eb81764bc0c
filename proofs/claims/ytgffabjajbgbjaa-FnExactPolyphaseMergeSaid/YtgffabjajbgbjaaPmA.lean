/- PolyphaseMerge: the queues, the merge of their heads, a queue loaded. Condition: 1 to 8 runs, at most 64 records. -/
import Derived.Test.YtgffabjajbgbjaaVolLaw
import Derived.Test.YtgffabjajbgbjaaTnSrt
import Derived.Test.YtgffabjajbgbjaaPassLaw
import Derived.Test.YtgffabjajbgbjaaPlyI
import Derived.Test.YtgffabjajbgbjaaTnW
import Derived.Test.YtgffabjajbgbjaaCut
set_option linter.unusedVariables false
set_option linter.unusedSimpArgs false
/-! The queues of PolyphaseMerge: how they begin, what each merge takes, that all stays ascending and few. No program. -/
namespace Go.Proofs.Ytgffabjajbgbjaa.pm
open Go.Proofs.Ytgffabjajbgbjaa.qlaw Go.Proofs.Ytgffabjajbgbjaa.dumLaw Go.Proofs.Ytgffabjajbgbjaa.dummies Go.Proofs.Ytgffabjajbgbjaa.level Go.Proofs.Ytgffabjajbgbjaa.phs Go.Proofs.Ytgffabjajbgbjaa.dists Go.Proofs.Ytgffabjajbgbjaa.mem Go.Proofs.Ytgffabjajbgbjaa.stb
open Go.Proofs.Ytgffabjajbgbjaa.tn (KAsc ltR weakR tot_cons tot_cut mem_tot)
open Go.Proofs.Ytgffabjajbgbjaa.vol (rl dl col q0 lens sum_le2 q0_len q0_cnt)

abbrev LR := List Rec
def mg (hs : List LR) : LR := stab ltR hs.flatten
def wt (hs : List LR) : Int := (hs.flatten.length : Int)
def ln (r : LR) : Int := (r.length : Int)
theorem flat_ln : ∀ hs : List LR, ((hs.flatten.length : Nat) : Int) = (hs.map ln).sum
  | [] => rfl
  | h :: hs => by rw [List.flatten_cons, List.length_append, List.map_cons, List.sum_cons, ← flat_ln hs]; show ((_ + _ : Nat) : Int) = (h.length : Int) + _; omega
theorem mg_ln (hs : List LR) : ln (mg hs) = (hs.map ln).sum := by
  unfold ln mg; rw [stab_len]; exact flat_ln hs
theorem wt_ln (hs : List LR) : wt hs = (hs.map ln).sum := flat_ln hs
theorem tot_ln (hs : List LR) : ((tn.tot hs : Nat) : Int) = (hs.map ln).sum := by rw [← flat_ln, List.length_flatten]; rfl
theorem mg_asc (hs : List LR) : KAsc (mg hs) := (stab_asc weakR hs.flatten).imp fun h => by simpa [ltR] using h
theorem one_proj (te : Nat) (Q : QS LR) : proj ln (one mg te Q) = one List.sum te (proj ln Q) :=
  proj_one ln List.sum te Q (mg (hds te Q Q.length)) (mg_ln _)
theorem msn_proj (te : Nat) (S : QS LR × Int) : ∀ j, (proj ln (msn mg wt te S j).1, (msn mg wt te S j).2) = msn List.sum List.sum te (proj ln S.1, S.2) j
  | 0 => rfl
  | j + 1 => by
    have ih := msn_proj te S j
    show (proj ln (one mg te (msn mg wt te S j).1), (msn mg wt te S j).2 + wt (hds te (msn mg wt te S j).1 (msn mg wt te S j).1.length)) = ms List.sum List.sum te (msn List.sum List.sum te (proj ln S.1, S.2) j)
    rw [← ih]
    show _ = (one List.sum te (proj ln (msn mg wt te S j).1), (msn mg wt te S j).2 + (hds te (proj ln (msn mg wt te S j).1) (proj ln (msn mg wt te S j).1).length).sum)
    rw [one_proj, wt_ln, proj_hds, proj_len]
theorem phn_proj (S : QS LR × Int) : ∀ k, (proj ln (phn mg wt S k).1, (phn mg wt S k).2) = phn List.sum List.sum (proj ln S.1, S.2) k
  | 0 => rfl
  | k + 1 => by
    have ih := phn_proj S k
    show (proj ln (phs mg wt (phn mg wt S k)).1, (phs mg wt (phn mg wt S k)).2) = phs List.sum List.sum (phn List.sum List.sum (proj ln S.1, S.2) k)
    rw [← ih]
    unfold phs
    rw [msn_proj]
    simp only [proj_cnt]
theorem stt_proj (u L : Nat) (S : QS LR × Int) (k j : Nat) : (proj ln (stt mg wt u L S k j).1, (stt mg wt u L S k j).2) = stt List.sum List.sum u L (proj ln S.1, S.2) k j := by
  unfold stt
  rw [msn_proj, phn_proj]
/-! ### all runs stay ascending -/
theorem asc_one {te : Nat} {Q : QS LR} (h : All KAsc Q) : All KAsc (one mg te Q) :=
  (h.tls te _).set te fun x hx => by
    rcases List.mem_append.1 hx with h1 | h1
    · exact h.at te x h1
    · obtain rfl := List.mem_singleton.1 h1
      exact mg_asc _
theorem asc_msn {te : Nat} {S : QS LR × Int} (h : All KAsc S.1) : ∀ j, All KAsc (msn mg wt te S j).1
  | 0 => h
  | j + 1 => asc_one (asc_msn h j)
theorem asc_phn {S : QS LR × Int} (h : All KAsc S.1) : ∀ k, All KAsc (phn mg wt S k).1
  | 0 => h
  | k + 1 => asc_msn (asc_phn h k) _
theorem asc_stt {u L : Nat} {S : QS LR × Int} (h : All KAsc S.1) (k j : Nat) : All KAsc (stt mg wt u L S k j).1 := asc_msn (asc_phn h k) j
theorem hds_pos {β : Type} {tz : Nat} {Q : QS β} : ∀ (n i : Nat), i < n → i ≠ tz → Q.getD i [] ≠ [] → 0 < (hds tz Q n).length
  | 0, i, h, _, _ => absurd h (by omega)
  | n + 1, i, h, hne, hq => by
    show 0 < (hds tz Q n ++ (if n = tz then [] else (Q.getD n []).take 1)).length
    rw [List.length_append]
    by_cases e : i = n
    · subst e
      rw [if_neg hne]
      cases hc : Q.getD i [] with
      | nil => exact absurd hc hq
      | cons x q => simp
    · have := hds_pos n i (by omega) hne hq
      omega
/-- what the merges are given -/
def okm (hs : List LR) : Prop := 0 < hs.length ∧ (∀ r ∈ hs, KAsc r) ∧ tn.tot hs ≤ 64
theorem ok_stt {u L T : Nat} {S : QS LR × Int} (hu : 2 ≤ u) (hL : L ≤ 15) (hT : T ≤ 64) (hA : All KAsc S.1) (hG : vol.Good T (proj ln S.1)) (h0 : cnt S.1 = st u L 0) (hS : S.2 = 0) {k : Nat} (hk : k < L) {j : Nat} (hj : j < manyOf (st u L k)) :
    okm (hds (toOf (st u L k)) (stt mg wt u L S k j).1 (u + 1)) ∧ 0 ≤ (stt mg wt u L S k j).2 ∧ (stt mg wt u L S k j).2 ≤ 524288000 ∧ (∀ i, tn.tot (hds (toOf (st u L k)) (stt mg wt u L S k j).1 i) ≤ 64 ∨ u + 1 < i) := by
  have hp := stt_proj u L S k j
  obtain ⟨g1, g2, g3⟩ := hG.stt (S := (proj ln S.1, S.2)) hu hL (by omega) (by rw [proj_cnt]; exact h0) hk j (Nat.le_of_lt hj)
  rw [← hp] at g1 g2 g3
  have hl : (stt mg wt u L S k j).1.length = u + 1 := by rw [stt_len, len_of hu hL h0]
  simp only [hS] at g1 g2 g3
  have ht : ∀ i, i ≤ u + 1 → tn.tot (hds (toOf (st u L k)) (stt mg wt u L S k j).1 i) ≤ 64 := fun i hi => by
    have h1 := vol.tot_tls (toOf (st u L k)) (proj ln (stt mg wt u L S k j).1) i (by rw [proj_len, hl]; exact hi)
    have h2 := vol.tot_nn (g1.nn.tls (toOf (st u L k)) i)
    have h3 := g1.tt
    rw [proj_hds] at h1
    have h4 := tot_ln (hds (toOf (st u L k)) (stt mg wt u L S k j).1 i)
    omega
  refine ⟨⟨?_, fun r hr => (asc_stt hA k j).hds _ _ r hr, ht _ (Nat.le_refl _)⟩, g2, by omega, fun i => ?_⟩
  · obtain ⟨i, hi, hne⟩ : ∃ i, i < u + 1 ∧ i ≠ toOf (st u L k) := by
      by_cases h : toOf (st u L k) = 0
      · exact ⟨1, by omega, by omega⟩
      · exact ⟨0, by omega, fun e => h e.symm⟩
    exact hds_pos (u + 1) i hi hne (stt_ne hu hL h0 hk hj hi hne)
  · by_cases h : i ≤ u + 1
    · exact Or.inl (ht i h)
    · exact Or.inr (by omega)
/-! ### the queues at the start -/
def off (u n : Nat) : Nat → Nat
  | 0 => 0
  | i + 1 => off u n i + rl u n i
def colR (u : Nat) (rs : List LR) (i : Nat) : List LR := List.replicate (dl u rs.length i) [] ++ (rs.drop (off u rs.length i)).take (rl u rs.length i)
def qm (u : Nat) (rs : List LR) : QS LR := (List.range u).map (colR u rs) ++ [[]]
theorem qm_len (u : Nat) (rs : List LR) : (qm u rs).length = u + 1 := by simp [qm]
theorem off_map (u n : Nat) : ∀ i, off u n i = ((List.range i).map (rl u n)).sum
  | 0 => rfl
  | i + 1 => by rw [off, off_map u n i, List.range_succ, List.map_append, List.sum_append]; simp
theorem off_mono (u n : Nat) {i j : Nat} (h : i ≤ j) : off u n i ≤ off u n j := by
  induction h with
  | refl => exact Nat.le_refl _
  | step _ ih => exact Nat.le_trans ih (Nat.le_add_right _ _)
theorem cast_sum : ∀ l : List Nat, ((l.sum : Nat) : Int) = (l.map fun (x : Nat) => (x : Int)).sum
  | [] => rfl
  | a :: l => by rw [List.sum_cons, List.map_cons, List.sum_cons, ← cast_sum l]; omega
theorem off_all {u n : Nat} (hu : 2 ≤ u) (hu2 : u ≤ 7) (hn : n ≤ 1000) : off u n u = n := by
  obtain ⟨h1, h2⟩ := exists_lev hu hu2 hn
  have hs := (dumLaw.law hu hu2 h1 h2).2.2.2.1
  have hl := (dum_len (r := n) hu).1
  have e : ((List.range u).map (rl u n)).map (fun (x : Nat) => (x : Int)) = (dum u n).1 := by
    refine list_ext (by simp [hl]) fun i hi => ?_
    have hi2 : i < u := by simpa using hi
    rw [List.map_map, List.getD_eq_getElem?_getD, List.getElem?_map, List.getElem?_range hi2]
    exact (lens hu hu2 hn i).2.1
  have h3 := cast_sum ((List.range u).map (rl u n))
  rw [e, hs, ← off_map] at h3
  omega
theorem off_le {u n : Nat} (hu : 2 ≤ u) (hu2 : u ≤ 7) (hn : n ≤ 1000) {i : Nat} (hi : i < u) : off u n i + rl u n i ≤ n := by
  have h1 := off_mono u n (show i + 1 ≤ u by omega)
  rw [off_all hu hu2 hn] at h1
  exact h1
theorem colR_len {u : Nat} {rs : List LR} (hu : 2 ≤ u) (hu2 : u ≤ 7) (hn : rs.length ≤ 1000) {i : Nat} (hi : i < u) : (colR u rs i).length = dl u rs.length i + rl u rs.length i := by
  have := off_le hu hu2 hn hi
  rw [colR, List.length_append, List.length_replicate, List.length_take, List.length_drop]; omega
theorem qm_cnt {u : Nat} {rs : List LR} (hu : 2 ≤ u) (hu2 : u ≤ 7) (hn : rs.length ≤ 1000) : cnt (qm u rs) = st u (lev u rs.length) 0 := by
  rw [← q0_cnt hu hu2 hn]
  refine list_ext (by rw [cnt_len, cnt_len, qm_len, q0_len]) fun i hi => ?_
  rw [cnt_len, qm_len] at hi
  rw [cnt_at, cnt_at]
  congr 1
  by_cases h : i < u
  · rw [List.getD_eq_getElem?_getD, qm, List.getElem?_append_left (by simpa using h), List.getElem?_map, List.getElem?_range h]
    rw [List.getD_eq_getElem?_getD, q0, List.getElem?_append_left (by simpa using h), List.getElem?_map, List.getElem?_range h]
    show (colR u rs i).length = (col u rs.length i).length
    rw [colR_len hu hu2 hn h, col, List.length_append, List.length_replicate, List.length_replicate]
  · obtain rfl : i = u := by omega
    rw [List.getD_eq_getElem?_getD, qm, List.getElem?_append_right (by simp), List.getD_eq_getElem?_getD, q0, List.getElem?_append_right (by simp)]
    simp
theorem colR_mem {u : Nat} {rs : List LR} {i : Nat} {r : LR} (h : r ∈ colR u rs i) : r = [] ∨ r ∈ rs := by
  rcases List.mem_append.1 h with h | h
  · exact Or.inl (List.eq_of_mem_replicate h)
  · exact Or.inr (List.mem_of_mem_drop (List.mem_of_mem_take h))
theorem qm_asc {u : Nat} {rs : List LR} (h : ∀ r ∈ rs, KAsc r) : All KAsc (qm u rs) := by
  intro q hq x hx
  rcases List.mem_append.1 hq with h1 | h1
  · obtain ⟨i, _, rfl⟩ := List.mem_map.1 h1
    rcases colR_mem hx with rfl | h2
    · exact List.Pairwise.nil
    · exact h x h2
  · obtain rfl := List.mem_singleton.1 h1
    cases hx
theorem tot_rep : ∀ n : Nat, tn.tot (List.replicate n ([] : LR)) = 0
  | 0 => rfl
  | n + 1 => by rw [List.replicate_succ, tot_cons, tot_rep n]; rfl
theorem tot_app (a b : List LR) : tn.tot (a ++ b) = tn.tot a + tn.tot b := by
  unfold tn.tot; rw [List.map_append, List.sum_append]
theorem cols_tot (u : Nat) (rs : List LR) : ∀ m, (((List.range m).map (colR u rs)).map fun q => ((tn.tot q : Nat) : Int)).sum = (tn.tot (rs.take (off u rs.length m)) : Nat)
  | 0 => by simp [off, tn.tot]
  | m + 1 => by
    have ih := cols_tot u rs m
    rw [List.range_succ, List.map_append, List.map_append, List.sum_append, ih]
    have e : rs.take (off u rs.length (m + 1)) = rs.take (off u rs.length m) ++ (rs.drop (off u rs.length m)).take (rl u rs.length m) := by
      show rs.take (off u rs.length m + rl u rs.length m) = _
      rw [List.take_add]
    rw [e, tot_app]
    have e2 : tn.tot (colR u rs m) = tn.tot ((rs.drop (off u rs.length m)).take (rl u rs.length m)) := by rw [colR, tot_app, tot_rep, Nat.zero_add]
    simp only [List.map_cons, List.map_nil, List.sum_cons, List.sum_nil, e2]
    omega
theorem qm_good {u : Nat} {rs : List LR} (hu : 2 ≤ u) (hu2 : u ≤ 7) (hn : rs.length ≤ 1000) : vol.Good (tn.tot rs) (proj ln (qm u rs)) := by
  refine ⟨fun q hq x hx => ?_, ?_⟩
  · obtain ⟨q', _, rfl⟩ := List.mem_map.1 hq
    obtain ⟨r, _, rfl⟩ := List.mem_map.1 hx
    exact Int.natCast_nonneg _
  · have h := cols_tot u rs u
    rw [off_all hu hu2 hn, List.take_length] at h
    unfold vol.tot proj qm
    rw [List.map_append, List.map_append, List.sum_append, ← h, List.map_map, List.map_map, List.map_map]
    have e : ((List.range u).map (List.sum ∘ (List.map ln) ∘ colR u rs)) = (List.range u).map ((fun q => ((tn.tot q : Nat) : Int)) ∘ colR u rs) := List.map_congr_left fun i _ => by
      show ((colR u rs i).map ln).sum = _
      exact (tot_ln _).symm
    first
      | (rw [e]; simp)
      | (simp only [Function.comp_def] at e ⊢; rw [e]; simp [Function.comp_def])
end Go.Proofs.Ytgffabjajbgbjaa.pm
/-! The merge of PolyphaseMerge: the heads merged by a tournament, their number added to what is moved. Condition: 1 to 8 runs, at most 64 records. -/
namespace Go.Proofs.Ytgffabjajbgbjaa.pm
open Go.RowKit Go.Proofs.Ytgffabjajbgbjaa.mem Go.Proofs.Ytgffabjajbgbjaa.nest Go.Proofs.Ytgffabjajbgbjaa.tape Go.Proofs.Ytgffabjajbgbjaa.qlaw Go.Proofs.Ytgffabjajbgbjaa.ply Go.Proofs.Ytgffabjajbgbjaa.stb
open Go.Proofs.Ytgffabjajbgbjaa.tn (KAsc ltR km km_stab kway_any)

set_option maxRecDepth 100000 in
set_option maxHeartbeats 2000000 in
theorem clo_any (A : Option Addr) (c : Nat) (vs : List Value) (rs : List LR) (m : Int) (gm : Nat) (W : World) (h0 : 0 < rs.length) (hn : rs.length ≤ 8) (ht : tn.tot rs ≤ 64) (ha : ∀ r ∈ rs, KAsc r) (hm1 : -1099511627776 ≤ m) (hm2 : m ≤ 1099511627776)
    (hr : RdL_rec W A vs rs) (hb : Blk W gm 3 #[.int .i64 m]) :
    Calls Try.prog 83 #[.slice A rs.length c, .pointer (some ⟨gm, 0, none⟩)] W fun e W' => ∃ v w2, e = .returned v ∧ Below W.heap.size W w2 ∧ w2.ownsRow W.heap.size 87 2 v (mg rs).length (recs (mg rs)) ∧ W' = w2.setCell ⟨gm, 0, none⟩ (.int .i64 (m + wt rs)) := by
  have HK := Lib.hid (show Calls Try.prog 84 #[.slice A rs.length c] W fun e w' => ∃ v z, e = .returned (.tuple #[v, .int .i64 z]) ∧ w'.ownsRow W.heap.size 87 2 v (mg rs).length (recs (mg rs)) ∧ Below W.heap.size W w' from by
    refine (kway_any A c vs rs W h0 (by omega) (by omega) hr).mono ?_
    rintro e w' ⟨v, rfl, ⟨ho, _⟩, hb⟩
    rw [km_stab _ rs (Nat.le_refl _) h0 ha] at ho
    exact ⟨v, _, rfl, ho, hb⟩)
  have HWT := Lib.hid (show ((mg rs).length : Int) = wt rs ∧ (mg rs).length ≤ 64 from by
    have h1 : (mg rs).length = rs.flatten.length := stab_len _
    have h2 : rs.flatten.length = tn.tot rs := by rw [List.length_flatten]; rfl
    exact ⟨by unfold wt; rw [h1], by omega⟩)
  have hgl := hb.lt
  have HB := Lib.hid hb
  clear hb
  go_enter Try.func83, Try.ntmps83
  go_wp2_with fail
  (with_reducible refine HK.out.mono ?_)
  rintro e w2 ⟨v, z, rfl, ho, hb⟩
  have HO := Lib.hid ho
  obtain ⟨Av, cv, rfl, _, _, _⟩ := own_form ho
  have hg := HB.out.below hb hgl
  have c0 := hg.cell 0
  have f0 := fun i => hg.thaw i
  simp only [List.getElem?_toArray, List.getElem?_cons_zero] at c0
  have hl := HWT.out.2
  obtain ⟨L, hL⟩ : ∃ L, L = (mg rs).length := ⟨_, rfl⟩
  have HL := Lib.hid HWT.out.1
  rw [← hL] at ho hl HL HO ⊢
  have HLE := Lib.hid hL
  clear hL
  have HB2 := Lib.hid hb
  clear ho hg hb
  go_wp2
  go_ret
  exact ⟨_, w2, rfl, HB2.out, by rw [← HLE.out]; exact HO.out, by rw [← HL.out]⟩
/-- a run as an element of a queue: a slice that reads as its records, outside the queues' own blocks -/
structure DenR (go gm base : Nat) (W : World) (d : Row) (b : LR) : Prop where
  len : d.2.1 = b.length
  cap : b.length ≤ d.2.2
  max : d.2.2 ≤ maxLen
  rd : Rd W 2 d.1 b.length (recs b)
  far : 0 < b.length → ∃ k o, d.1 = some ⟨k, o, none⟩ ∧ k < W.heap.size ∧ k ≠ go ∧ k ≠ gm ∧ (k < base ∨ ∃ cs, W.heap[k]? = some (.cells cs 87 (0, 0)))
theorem DenR.nil (go gm base : Nat) (W : World) : DenR go gm base W (none, 0, 0) [] := ⟨rfl, Nat.le_refl _, Nat.zero_le _, Rd.nil, fun h => absurd h (by simp)⟩
/-- it lasts where its block does -/
theorem DenR.keep {go gm base : Nat} {W W' : World} {d : Row} {b : LR} (h : DenR go gm base W d b) (hs : W.heap.size ≤ W'.heap.size) (hk : ∀ k, k < W.heap.size → k ≠ go → k ≠ gm → (k < base ∨ ∃ cs, W.heap[k]? = some (.cells cs 87 (0, 0))) → W'.heap[k]? = W.heap[k]?) : DenR go gm base W' d b := by
  refine ⟨h.len, h.cap, h.max, ⟨h.rd.1, fun hn => ?_⟩, fun hn => ?_⟩
  · obtain ⟨k, o, e, k1, k2, k3, k4⟩ := h.far hn
    obtain ⟨k', o', e', hc⟩ := h.rd.cells hn
    rw [e] at e'
    injection e' with e'
    injection e' with e1 e2
    subst e1; subst e2
    exact ⟨k, o, e, fun j u hu => (World.cell?_of_block (hk k k1 k2 k3 k4)).trans (hc j u hu)⟩
  · obtain ⟨k, o, e, k1, k2, k3, k4⟩ := h.far hn
    refine ⟨k, o, e, by omega, k2, k3, ?_⟩
    rcases k4 with k4 | ⟨cs, k4⟩
    · exact Or.inl k4
    · exact Or.inr ⟨cs, (hk k k1 k2 k3 (Or.inr ⟨cs, k4⟩)).trans k4⟩
theorem DenR.below {go gm base : Nat} {W W' : World} {d : Row} {b : LR} (h : DenR go gm base W d b) (hb : Below W.heap.size W W') : DenR go gm base W' d b := h.keep hb.size fun k hk _ _ _ => hb.block k hk
/-- a row of records just made -/
theorem DenR.own {go gm base B : Nat} {W : World} {A : Option Addr} {n c : Nat} {b : LR} (hn : n = b.length) (ho : W.ownsRow B 87 2 (.slice A n c) n (recs b)) (h1 : go < B) (h2 : gm < B) : DenR go gm base W (A, n, c) b := by
  subst hn
  obtain ⟨A', c', he, h3, h4, h5⟩ := own_form ho
  injection he with e1 e2 e3
  subst e1; subst e3
  refine ⟨rfl, h3, h4, h5, fun hp => ?_⟩
  rcases ho.2 with ⟨_, h0⟩ | ⟨g, cap, cur, hv, hb, hg, _⟩
  · omega
  · injection hv with e1 e2 e3
    exact ⟨g, 0, e1, (Array.getElem?_eq_some_iff.1 hg).1, by omega, by omega, Or.inr ⟨cur, hg⟩⟩
theorem DenR.calm {go gm base : Nat} {W W' : World} {d : Row} {b : LR} (h : Clm W W' (some go) base 54) (hd : DenR go gm base W d b) : DenR go gm base W' d b :=
  hd.keep h.size fun k hk h1 _ h3 => h.block k hk (fun e => h1 (by injection e)) (by
    rcases h3 with h3 | ⟨cs, h3⟩
    · exact Or.inl h3
    · refine Or.inr fun cur e => ?_
      rw [h3] at e
      injection e with e
      injection e with _ e
      revert e
      decide)
/-- the heads as rows -/
theorem heads_rd {go gm base : Nat} {W : World} {A : Option Addr} (hs : List (Row × LR)) (hd : ∀ p ∈ hs, DenR go gm base W p.1 p.2) (hr : Rd W 1 A hs.length (rws (hs.map Prod.fst))) : RdL_rec W A (rws (hs.map Prod.fst)) (hs.map Prod.snd) := by
  refine ⟨by rw [List.length_map]; exact hr, fun i hi => ?_⟩
  rw [List.length_map] at hi
  have h := hd hs[i] (List.getElem_mem hi)
  have e : (hs.map Prod.snd)[i]'(by rw [List.length_map]; exact hi) = hs[i].2 := by simp
  rw [e]
  refine ⟨hs[i].1.1, hs[i].1.2.2, ?_, h.cap, h.max, h.rd⟩
  simp only [rws, List.map_map, List.getElem?_map, List.getElem?_eq_getElem hi, Option.map_some, Function.comp_apply, Row.val]
  rw [h.len]
set_option maxRecDepth 100000 in
theorem mrg (gm go base : Nat) (hgg : go < gm) : Mrg_row 83 gm go base (DenR go gm base) mg wt okm where
  ent := fun _ _ => rfl
  stab := fun h hd => hd.calm h
  call := fun W A c hs m h8 hd hr hb hgx hok hm1 hm2 => by
    have hl : (hs.map Prod.snd).length = hs.length := List.length_map _
    have h := clo_any A c (rws (hs.map Prod.fst)) (hs.map Prod.snd) m gm W hok.1 (by rw [hl]; exact h8) hok.2.2 hok.2.1 hm1 hm2 (heads_rd hs hd hr) hb
    rw [hl] at h
    refine h.mono ?_
    rintro e W' ⟨v, w2, rfl, hb2, ho, rfl⟩
    obtain ⟨Av, cv, rfl, _, _, _⟩ := own_form ho
    have hgl := hb.lt
    have hge := own_ge ho
    have hne : (Value.slice Av (mg (hs.map Prod.snd)).length cv).ownBlock ≠ some gm := fun e => by have := hge _ e; omega
    have hsz : (w2.setCell ⟨gm, 0, none⟩ (.int .i64 (m + wt (hs.map Prod.snd)))).heap.size = w2.heap.size := World.size_setCell _ _ _
    refine ⟨(Av, (mg (hs.map Prod.snd)).length, cv), rfl, ?_, (hb.below hb2 hgl).put 0 _, ?_, fun d' b' h' => ?_⟩
    · exact DenR.own rfl (own_far ho (p := ⟨gm, 0, none⟩) hne _) (by omega) (by omega)
    · exact ⟨hb2.os, hb2.tape, hb2.output, by rw [hsz]; exact hb2.size, fun k hk hn => (Below.heap_setCell w2 ⟨gm, 0, none⟩ _ k (fun e => hn (by rw [e]))).trans (hb2.block k hk)⟩
    · exact h'.keep (by rw [hsz]; exact hb2.size) fun k hk _ h2 _ => (Below.heap_setCell w2 ⟨gm, 0, none⟩ _ k h2).trans (hb2.block k hk)
end Go.Proofs.Ytgffabjajbgbjaa.pm
/-! The queues of PolyphaseMerge with their slices: the columns that are loaded, the argument's rows, a whole queue put. -/
namespace Go.Proofs.Ytgffabjajbgbjaa.pm
open Go.RowKit Go.Proofs.Ytgffabjajbgbjaa.mem Go.Proofs.Ytgffabjajbgbjaa.nest Go.Proofs.Ytgffabjajbgbjaa.tape Go.Proofs.Ytgffabjajbgbjaa.qlaw Go.Proofs.Ytgffabjajbgbjaa.ply Go.Proofs.Ytgffabjajbgbjaa.stb Go.Proofs.Ytgffabjajbgbjaa.level Go.Proofs.Ytgffabjajbgbjaa.dummies
open Go.Proofs.Ytgffabjajbgbjaa.vol (rl dl sum_le2 lens)

abbrev Pr := Row × LR
def zr : Pr := ((none, 0, 0), [])
def nil1 : Value := .slice none 0 0
def colZ (u : Nat) (Z : List Pr) (k : Nat) : List Pr := List.replicate (dl u Z.length k) zr ++ (Z.drop (off u Z.length k)).take (rl u Z.length k)
theorem colZ_snd (u : Nat) (Z : List Pr) (k : Nat) : (colZ u Z k).map Prod.snd = colR u (Z.map Prod.snd) k := by
  unfold colZ colR
  rw [List.map_append, List.map_replicate, List.map_take, List.map_drop, List.length_map]; rfl
def filZ (u : Nat) (Z : List Pr) (i : Nat) : QS Pr := (List.range (u + 1)).map fun k => if k < i then colZ u Z k else []
theorem filZ_len (u : Nat) (Z : List Pr) (i : Nat) : (filZ u Z i).length = u + 1 := by simp [filZ]
theorem filZ_at (u : Nat) (Z : List Pr) (i : Nat) {k : Nat} (h : k < u + 1) : (filZ u Z i).getD k [] = if k < i then colZ u Z k else [] := by
  rw [filZ, List.getD_eq_getElem?_getD, List.getElem?_map, List.getElem?_range h]; rfl
theorem filZ_all (u : Nat) (Z : List Pr) : proj Prod.snd (filZ u Z u) = qm u (Z.map Prod.snd) := by
  rw [filZ, proj, List.map_map, List.range_succ, List.map_append, qm]
  congr 1
  · refine List.map_congr_left fun k hk => ?_
    show List.map Prod.snd (if k < u then colZ u Z k else []) = _
    rw [if_pos (List.mem_range.1 hk), colZ_snd]
  · simp
theorem filZ_step (u : Nat) (Z : List Pr) {i : Nat} (h : i < u + 1) (q : List Pr) : ((filZ u Z i).set i q).set i (colZ u Z i) = filZ u Z (i + 1) := by
  rw [List.set_set]
  refine List.ext_getElem? fun k => ?_
  rw [List.getElem?_set]
  by_cases e : i = k
  · subst e
    rw [if_pos rfl, if_pos (by rw [filZ_len]; exact h), filZ, List.getElem?_map, List.getElem?_range h]
    simp
  · rw [if_neg e, filZ, filZ, List.getElem?_map, List.getElem?_map]
    by_cases hk : k < u + 1
    · rw [List.getElem?_range hk]
      simp only [Option.map_some]
      by_cases h1 : k < i
      · rw [if_pos h1, if_pos (by omega)]
      · rw [if_neg h1, if_neg (by omega)]
    · rw [List.getElem?_eq_none (by simpa using hk)]; rfl
/-- nothing is loaded yet -/
theorem at_zero (w1 : World) (u : Nat) (Z : List Pr) (hu2 : u ≤ 7) : At_row w1 ((w1.alloc (.cells (rep (u + 1) nil1) 47)).alloc (.cells #[.int .i64 0] 3)) w1.heap.size (w1.heap.size + 2) w1.heap.size (w1.heap.size + 1) (u + 1) u (DenR w1.heap.size (w1.heap.size + 1) (w1.heap.size + 2)) (List.replicate (u + 1) nil1) (filZ u Z 0) 0 := by
  obtain ⟨h1, h2, h3⟩ := box2 w1 47 3 (rep (u + 1) nil1) #[.int .i64 0]
  have hf : ∀ k, k < u + 1 → (filZ u Z 0).getD k [] = [] := fun k hk => by rw [filZ_at u Z 0 hk, if_neg (by omega)]
  refine ⟨⟨?_, by rw [dat_len_row, filZ_len, List.length_replicate], fun i x q hx hq => ?_, fun i j v u2 _ hv _ => ?_, fun u2 hu2 => ?_⟩, ?_, h2, h3, by simp; omega, filZ_len _ _ _⟩
  · rw [List.length_replicate]
    have := Blk.own (base := w1.heap.size) (size := 1) (n := u + 1) (c := u + 1) h1 (Nat.le_refl _) (Nat.le_refl _) (by unfold maxLen; omega) (by simp [rep])
    simpa [rep] using this
  · have hx2 : x = nil1 := List.eq_of_mem_replicate (List.mem_of_getElem? hx)
    have hi : i < u + 1 := by
      have := (List.getElem?_eq_some_iff.1 hx).1
      simpa using this
    have hq2 : q = [] := by
      rw [dat_at_row _ (by rw [filZ_len]; exact hi), hf i hi] at hq
      injection hq with hq
      exact hq.symm
    subst hx2; subst hq2
    exact Tp.nil _ _ _
  · have : v = nil1 := List.eq_of_mem_replicate (List.mem_of_getElem? hv)
    subst this
    exact Or.inl rfl
  · have : u2 = nil1 := List.eq_of_mem_replicate hu2
    subst this
    exact Or.inr (by simp [Value.ownBlock, nil1])
  · intro q hq x hx
    obtain ⟨i, hi, rfl⟩ := List.getElem_of_mem hq
    rw [filZ_len] at hi
    have := hf i hi
    rw [getD_getElem _ (by rw [filZ_len]; exact hi)] at this
    rw [this] at hx
    cases hx
/-- a whole queue put -/
theorem fill {w W W' : World} {b0 base go gm co u : Nat} {vs : List Value} {Q : QS Pr} {m : Int} (h : At_row w W b0 base go gm co u (DenR go gm base) vs Q m) (hne : go ≠ gm) (hgb : gm < base) (hbb : b0 ≤ base) (hb0 : b0 ≤ go) (hw : b0 ≤ W.heap.size) {i : Nat} (hi : i < u + 1) {xv x' : Value} {q : List Pr} (hx : vs[i]? = some xv)
    (ho : Tp W' base 54 x' (rws (q.map Prod.fst))) (hg : W.grownBy W' xv.ownBlock) (hn : NewAt W xv x') (hd : ∀ y ∈ q, DenR go gm base W y.1 y.2) :
    At_row w (W'.setCell ⟨go, i, none⟩ x') b0 base go gm co u (DenR go gm base) (vs.set i x') (Q.set i q) m := by
  have hi3 : i < (dat_row Q).length := by rw [dat_len_row, h.len]; exact hi
  have hcl := Clm.put (x' := x') h.tl hx hi3 hg
  have hlow : ∀ k, xv.ownBlock = some k → base ≤ k := fun k hk => (h.tl.lt.2 xv (List.mem_of_getElem? hx) k hk).1
  refine ⟨?_, All.set (fun r hr y hy => DenR.calm hcl (h.den r hr y hy)) i (fun y hy => DenR.calm hcl (hd y hy)), (h.box.grown hg (fun e => by have := hlow gm e.symm; omega)).far (p := ⟨go, i, none⟩) (fun e => hne e.symm) _, (below_grown h.bel hw hg (fun k hk => Nat.le_trans hbb (hlow k hk))).setCell (p := ⟨go, i, none⟩) hb0 _, Nat.le_trans h.sz (by have := hg.size; simpa [World.setCell] using this), by rw [List.length_set]; exact h.len⟩
  rw [dat_set_row]
  exact h.tl.put hx hi3 ho hg hn
/-- a row of the argument, as a pair -/
def DenA (W : World) (d : Row) (b : LR) : Prop := d.2.1 = b.length ∧ b.length ≤ d.2.2 ∧ d.2.2 ≤ maxLen ∧ Rd W 2 d.1 b.length (recs b)
theorem DenA.below {W W' : World} {d : Row} {b : LR} (h : DenA W d b) (hb : Below W.heap.size W W') : DenA W' d b := ⟨h.1, h.2.1, h.2.2.1, h.2.2.2.below hb⟩
theorem den_arg {w1 W : World} {d : Row} {b : LR} (h : DenA w1 d b) (hb : Below w1.heap.size w1 W) : DenR w1.heap.size (w1.heap.size + 1) (w1.heap.size + 2) W d b := by
  refine ⟨h.1, h.2.1, h.2.2.1, h.2.2.2.below hb, fun hp => ?_⟩
  obtain ⟨k, o, e, hc⟩ := h.2.2.2.cells hp
  have hk : k < w1.heap.size := by
    cases b with
    | nil => simp at hp
    | cons r b =>
      have := hc 0 (.int .i64 r.key) rfl
      exact World.block_lt_of_cell? w1 _ this
  have := hb.size
  exact ⟨k, o, e, by omega, by omega, by omega, Or.inl (by omega)⟩
theorem pairs : ∀ (rs : List LR) (vs : List Value) (W : World), vs.length = rs.length → (∀ i (h : i < rs.length), ∃ B c, vs[i]? = some (.slice B rs[i].length c) ∧ rs[i].length ≤ c ∧ c ≤ maxLen ∧ Rd W 2 B rs[i].length (recs rs[i])) → ∃ Z : List Pr, Z.map Prod.snd = rs ∧ vs = rws (Z.map Prod.fst) ∧ ∀ p ∈ Z, DenA W p.1 p.2
  | [], vs, W, hl, _ => by
    obtain rfl : vs = [] := List.eq_nil_of_length_eq_zero hl
    exact ⟨[], rfl, rfl, fun p hp => by cases hp⟩
  | r :: rs, [], W, hl, _ => by simp at hl
  | r :: rs, v :: vs, W, hl, h => by
    obtain ⟨Z, h1, h2, h3⟩ := pairs rs vs W (by simpa using hl) fun i hi => by
      obtain ⟨B, c, e, r1, r2, r3⟩ := h (i + 1) (by simpa using hi)
      exact ⟨B, c, by simpa using e, r1, r2, r3⟩
    obtain ⟨B, c, e, r1, r2, r3⟩ := h 0 (by simp)
    simp only [List.getElem?_cons_zero, Option.some.injEq, List.getElem_cons_zero] at e r1 r3
    refine ⟨((B, r.length, c), r) :: Z, by rw [List.map_cons, h1], by rw [e, h2]; rfl, fun p hp => ?_⟩
    rcases List.mem_cons.1 hp with rfl | hp
    · exact ⟨rfl, r1, r2, r3⟩
    · exact h3 p hp
theorem get_rows {W : World} {A : Option Addr} {vs : List Value} {rs : List LR} (h : RdL_rec W A vs rs) : ∃ Z : List Pr, Z.map Prod.snd = rs ∧ vs = rws (Z.map Prod.fst) ∧ ∀ p ∈ Z, DenA W p.1 p.2 :=
  pairs rs vs W (by have := h.1.1; rwa [Nat.mul_one] at this) h.2
end Go.Proofs.Ytgffabjajbgbjaa.pm
