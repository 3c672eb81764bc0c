/- The reference's tournament tree: l16Replace. Condition: 1 to 1024 leaves. -/
import Derived.Test.YtgffabjajbgbjaaTnMk
set_option linter.unusedVariables false
set_option linter.unusedSimpArgs false
namespace Go.Proofs.Ytgffabjajbgbjaa.tn
open Go.RowKit Go.Proofs.Ytgffabjajbgbjaa.mem

def kset (ks : List Int) (W : Nat) (key : Int) (dn : Bool) : List Int := ks.set W (if dn = true then 0 else key)
def dset (ds : List Bool) (W : Nat) (dn : Bool) : List Bool := if dn = true then ds.set W true else ds
set_option maxRecDepth 100000 in
set_option maxHeartbeats 4000000 in
theorem replace_true (A B C : Option Addr) (c d n m k W : Nat) (ks : List Int) (ds : List Bool) (key : Int) (w : World) (hk : ks.length = k) (hd : ds.length = k) (hW : W < k) (hn : k ≤ 1024) (hrk : Rd w 1 A k (ints ks)) (hrd : Rd w 1 B k (bools ds)) :
    Calls Try.prog 102 #[.agg #[.slice A k c, .slice B k d, .slice C n m, .int .i64 (W : Int)], .int .i64 key,   .bool true] w fun e w' => ∃ A1 c1 A2 c2 A3 c3, e = .returned (.tuple #[.agg #[.slice A1 k c1, .slice A2 k c2, .slice A3 k c3, .int .i64 (win (kset ks W key true) (dset ds W true) k 1 : Nat)], .int .i64 (up ((k + W) / 2) : Nat)]) ∧ w'.ownsRow w.heap.size 3 1 (.slice A1 k c1) k (ints (kset ks W key true)) ∧ w'.ownsRow w.heap.size 4 1 (.slice A2 k c2) k (bools (dset ds W true)) ∧ Below w.heap.size w w' := by
  have HB0 := Lib.hid (box2 w 96 96 #[.slice A k c, .slice B k d, .slice C n m, .int .i64 (W : Int)] any5.zero4)
  have HKD := Lib.hid (And.intro hk hd)
  have HRK := Lib.hid (fun X (h : Below w.heap.size w X) => hrk.below h)
  have HRD := Lib.hid (fun X (h : Below w.heap.size w X) => hrd.below h)
  have c0 := HB0.out.1.cell 0
  have c1 := HB0.out.1.cell 1
  have c3 := HB0.out.1.cell 3
  unfold any5.zero4 at c0 c1 c3
  simp only [List.getElem?_toArray, List.getElem?_cons_zero, List.getElem?_cons_succ] at c0 c1 c3
  clear hrk hrd hk hd
  go_enter Try.func102, Try.ntmps102
  go_wp2_with fail
  obtain ⟨wz, hwz⟩ : ∃ wz : World, wz = ((w.alloc (.cells #[.slice A k c, .slice B k d, .slice C n m, .int .i64 (W : Int)] 96)).alloc (.cells any5.zero4 96)) := ⟨_, rfl⟩
  have HZ := Lib.hid (show Blk wz w.heap.size 96 #[.slice A k c, .slice B k d, .slice C n m, .int .i64 (W : Int)] ∧ Blk wz (w.heap.size + 1) 96 any5.zero4 ∧ Below w.heap.size w wz from by rw [hwz]; exact HB0.out)
  have hzz : w.heap.size + 1 < wz.heap.size := HZ.out.2.1.lt
  unfold any5.zero4 at hwz
  rw [← hwz]
  clear hwz c0 c1 c3 HB0
  have HOW := Lib.hid (show Calls Try.prog 66 #[.slice A k c] wz fun e w' => ∃ v, e = .returned v ∧ w'.ownsRow wz.heap.size 3 1 v k (ints ks) ∧ Below wz.heap.size wz w' from by
    have h := HKD.out.1
    subst h
    exact copyInt.spec_any A c ks wz (by omega) (HRK.out _ HZ.out.2.2))
  with_reducible refine HOW.out.mono ?_
  rintro e w2 ⟨v1, rfl, ho1, hb2⟩
  have HZ2 := Lib.hid (show Blk w2 w.heap.size 96 #[.slice A k c, .slice B k d, .slice C n m, .int .i64 (W : Int)] ∧ Blk w2 (w.heap.size + 1) 96 any5.zero4 ∧ Below w.heap.size w w2 from ⟨HZ.out.1.below hb2 (by omega), HZ.out.2.1.below hb2 (by omega), below_at HZ.out.2.2 HZ.out.2.2.size hb2⟩)
  obtain ⟨Ag1, c1k, rfl, _, _, _⟩ := own_form ho1
  obtain ⟨g1, rfl, hg1, hg1l⟩ := own_addr ho1 (by omega)
  have hh : 0 + k ≤ 1099511627776 := by omega
  have hba := (Below.refl w2.heap.size w2).alloc (Nat.le_refl _) (.cells #[] 4)
  have h0 := World.ownsRow_made (e := 4) (size := 1) w2 #[] 0 (Nat.le_refl _) (Nat.zero_le _) (by simp)
  have hr0 := (HRD.out _ HZ2.out.2.2).below hba
  have hs0 := hba.size
  have c1' : (w2.alloc (.cells #[] 4)).cell? ⟨w.heap.size, 1, none⟩ = some (.slice B k d) := (HZ2.out.1.below hba HZ2.out.1.lt).cell 1
  have hbs2 := hb2.size
  have qW : (W : Int) < (k : Int) := by omega
  have q1 : IntKind.i64.wrap ((W : Int) + (k : Int)) = (W : Int) + (k : Int) := by rw [IntKind.wrap_i64]; omega
  obtain ⟨p0, hp0⟩ : ∃ p0, p0 = (k + W) / 2 := ⟨_, rfl⟩
  have q2 : ((W : Int) + (k : Int)).tdiv 2 = (p0 : Int) := by rw [Int.tdiv_eq_ediv_of_nonneg (by omega)]; omega
  have q3 : IntKind.i64.wrap (p0 : Int) = (p0 : Int) := by rw [IntKind.wrap_i64]; omega
  have hpb : p0 ≤ 1024 := by omega
  have HP0 := Lib.hid hp0
  clear HOW hp0
  go_wp2_with (at_builtin; refine mem.extend_at (w2.alloc (.cells #[] 4)) rfl (.tmp 15) (.tmp 17) 93 rfl w2.heap.size 4 (.bool false) 1 1 Try.underlying93 info_bool rfl Nat.one_pos (.slice (some ⟨w2.heap.size, 0, none⟩) 0 0) 0 [] (by simp [Act.eval, Act.put]) h0 B k d (bools ds) (by simp [Act.eval, Act.put]) hr0 (bools_one ds) hh (by decide) hs0 ?_; intro v3 w3 ho3 hg3 hn3; simp only [Nat.zero_add, List.nil_append] at ho3; have hb3 := below_push hba hs0 hg3 h0; obtain ⟨Ag2, c2k, rfl, _, _, _⟩ := own_form ho3; obtain ⟨g2, rfl, hg2, hg2l⟩ := own_addr ho3 (by omega); have ho1' := own_below ho1 hb3; have hR3 := HZ2.out.1.below hb3 HZ2.out.1.lt; have hT3 := HZ2.out.2.1.below hb3 HZ2.out.2.1.lt; have e3 := hR3.cell 3; simp only [List.getElem?_toArray, List.getElem?_cons_zero, List.getElem?_cons_succ] at e3; have k3 := own_cell ho1' (i := W) (ints_get ks W (by rw [HKD.out.1]; exact hW)); have d3 := own_cell ho3 (i := W) (show (bools ds)[W]? = some (.bool (ds[W]'(by rw [HKD.out.2]; exact hW))) by simp [bools, show W < ds.length by rw [HKD.out.2]; exact hW]); have f1 := fun i => own_thaw ho1' i; have f2 := fun i => own_thaw ho3 i; have n1 : w.heap.size ≠ g1 := (by omega); have n2 : w.heap.size ≠ g2 := (by omega); have n3 : g1 ≠ g2 := (by omega); have n4 : g2 ≠ g1 := (by omega); have n5 : g1 ≠ w.heap.size := (by omega); have n6 : g2 ≠ w.heap.size := (by omega))
  obtain ⟨W4, hW4⟩ : ∃ X : World, X = (((w3.setCell ⟨g1, W, none⟩ (.int .i64 key)).setCell ⟨g1, W, none⟩ (.int .i64 0)).setCell ⟨g2, W, none⟩ (.bool true)) := ⟨_, rfl⟩
  have a1 := own_put ho1' (i := W) (by rw [len_ints, HKD.out.1]; exact hW) (.int .i64 key)
  rw [ints_set] at a1
  have x12 : (Value.slice (some ⟨g1, 0, none⟩) k c1k).ownBlock ≠ some g2 := fun e => n3 (by simpa [Value.ownBlock] using e)
  have x21 : (Value.slice (some ⟨g2, 0, none⟩) k c2k).ownBlock ≠ some g1 := fun e => n4 (by simpa [Value.ownBlock] using e)
  have b1 := own_far ho3 (p := ⟨g1, W, none⟩) x21 (.int .i64 key)
  have HK4 := Lib.hid (show W4.ownsRow wz.heap.size 3 1 (.slice (some ⟨g1, 0, none⟩) k c1k) k (ints (kset ks W key true)) ∧ W4.ownsRow w2.heap.size 4 1 (.slice (some ⟨g2, 0, none⟩) k c2k) k (bools (dset ds W true)) from by
    rw [hW4]
    first
      | exact ⟨a1, b1⟩
      | (have a2 := own_put a1 (i := W) (by rw [len_ints, List.length_set, HKD.out.1]; exact hW) (.int .i64 0)
         rw [ints_set, List.set_set] at a2
         have a3 := own_far a2 (p := ⟨g2, W, none⟩) x12 (.bool true)
         have b2 := own_far b1 (p := ⟨g1, W, none⟩) x21 (.int .i64 0)
         have b3 := own_put b2 (i := W) (by rw [len_bools, HKD.out.2]; exact hW) (.bool true)
         rw [bools_set] at b3
         exact ⟨a3, b3⟩))
  have HB4 := Lib.hid (show Blk W4 (w.heap.size + 1) 96 any5.zero4 ∧ Below w.heap.size w W4 from by
    rw [hW4]
    have bb := below_at HZ2.out.2.2 HZ2.out.2.2.size hb3
    have l1 : w.heap.size ≤ g1 := by omega
    have l2 : w.heap.size ≤ g2 := by omega
    have m1 : w.heap.size + 1 ≠ g1 := by omega
    have m2 : w.heap.size + 1 ≠ g2 := by omega
    first
      | exact ⟨hT3.far (p := ⟨g1, W, none⟩) m1 _, bb.setCell (p := ⟨g1, W, none⟩) l1 _⟩
      | exact ⟨((hT3.far (p := ⟨g1, W, none⟩) m1 _).far (p := ⟨g1, W, none⟩) m1 _).far (p := ⟨g2, W, none⟩) m2 _, ((bb.setCell (p := ⟨g1, W, none⟩) l1 _).setCell (p := ⟨g1, W, none⟩) l1 _).setCell (p := ⟨g2, W, none⟩) l2 _⟩)
  rw [← hW4]
  have hls : (kset ks W key true).length = k := by unfold kset; rw [List.length_set]; exact HKD.out.1
  have hld : (dset ds W true).length = k := by
    unfold dset
    first
      | exact HKD.out.2
      | (show (ds.set W true).length = k; rw [List.length_set]; exact HKD.out.2)
  have HMK := Lib.hid (make_any (some ⟨g1, 0, none⟩) (some ⟨g2, 0, none⟩) c1k c2k k (kset ks W key true) (dset ds W true) W4 hls hld (by omega) hn (own_rd HK4.out.1) (own_rd HK4.out.2))
  clear hW4 a1 b1 x12 x21 ho1' ho3 hg3 hn3 hb3 hR3 hT3 e3 k3 d3 f1 f2 n1 n2 n3 n4 n5 n6 hls hld q1 q2 q3 qW ho1 hb2 h0 hr0 hba hs0 c1' hh
  go_loopg [10, 11] (p0 + 1) (fun f x y wr => ∃ n p : Nat, p < f ∧ x = .int .i64 (n : Int) ∧ y = .int .i64 (p : Int) ∧ p ≤ 1024 ∧ n + up p = up p0 ∧ wr = W4)
  case atStart => exact ⟨0, p0, by omega, rfl, rfl, hpb, by omega, rfl⟩
  case round =>
    obtain ⟨nn, p, hpf, rfl, rfl, hp, hup, rfl⟩ := hrel
    have hul := up_le p0
    have HUP := Lib.hid hup
    by_cases hlt : 0 < p
    · have hpu := up_pos hlt
      have q4 : (0 : Int) < (p : Int) := by omega
      have q5 : (p : Int).tdiv 2 = ((p / 2 : Nat) : Int) := by rw [Int.tdiv_eq_ediv_of_nonneg (by omega)]; omega
      have q6 : IntKind.i64.wrap ((p / 2 : Nat) : Int) = ((p / 2 : Nat) : Int) := by rw [IntKind.wrap_i64]; omega
      have q7 : IntKind.i64.wrap ((nn : Int) + 1) = (nn : Int) + 1 := by rw [IntKind.wrap_i64]; omega
      have HPU := Lib.hid hpu
      obtain ⟨r, hr⟩ : ∃ r, r = p / 2 := ⟨_, rfl⟩
      rw [← hr] at q5 q6
      have HR := Lib.hid hr
      clear hr hpu hup
      go_wp2
      go_roundg (gk - 1)
      case measure => omega
      case rel => exact ⟨nn + 1, r, by have := HR.out; omega, by go_num, rfl, by have := HR.out; omega, by have h1 := HUP.out; have h2 := HPU.out; rw [← HR.out] at h2; omega, by first | trivial | rfl⟩
    · have q4 : ¬ (0 : Int) < (p : Int) := by omega
      have HE := Lib.hid (show nn = up ((k + W) / 2) by
        have e : p = 0 := by omega
        have h1 := HUP.out
        rw [e, up_zero] at h1
        rw [← HP0.out]; omega)
      clear hup
      go_wp2_with fail
      with_reducible refine HMK.out.mono ?_
      rintro e w6 ⟨A1, c1, A2, c2, A3, c3, rfl, ho6, hd6, hb6⟩
      have hT := HB4.out.1.below hb6 HB4.out.1.lt
      have HTT := Lib.hid hT
      have t0 := hT.cell 0
      have t1 := hT.cell 1
      have t2 := hT.cell 2
      have t3 := hT.cell 3
      have t4 := fun i => hT.thaw i
      simp only [any5.zero4, List.getElem?_toArray, List.getElem?_cons_zero, List.getElem?_cons_succ] at t0 t1 t2 t3
      have hne : ∀ {e : TypeId} {y : Value} {xs : List Value}, w6.ownsRow wr.heap.size e 1 y k xs → y.ownBlock ≠ some (w.heap.size + 1) := fun ho e => by
        have h1 := own_ge ho _ e
        have h2 := HB4.out.1.lt
        omega
      have HO6 := Lib.hid (own_base (own_far (own_far (own_far (own_far ho6 (p := ⟨w.heap.size + 1, 0, none⟩) (hne ho6) (.slice A1 k c1)) (p := ⟨w.heap.size + 1, 1, none⟩) (hne ho6) (.slice A2 k c2)) (p := ⟨w.heap.size + 1, 2, none⟩) (hne ho6) (.slice A3 k c3)) (p := ⟨w.heap.size + 1, 3, none⟩) (hne ho6) (.int .i64 ((win (kset ks W key true) (dset ds W true) k 1 : Nat) : Int))) HB4.out.2.size)
      have HD6 := Lib.hid (own_base (own_far (own_far (own_far (own_far hd6 (p := ⟨w.heap.size + 1, 0, none⟩) (hne hd6) (.slice A1 k c1)) (p := ⟨w.heap.size + 1, 1, none⟩) (hne hd6) (.slice A2 k c2)) (p := ⟨w.heap.size + 1, 2, none⟩) (hne hd6) (.slice A3 k c3)) (p := ⟨w.heap.size + 1, 3, none⟩) (hne hd6) (.int .i64 ((win (kset ks W key true) (dset ds W true) k 1 : Nat) : Int))) HB4.out.2.size)
      have HBB := Lib.hid ((((below_at HB4.out.2 HB4.out.2.size hb6).setCell (p := ⟨w.heap.size + 1, 0, none⟩) (Nat.le_succ _) (.slice A1 k c1)).setCell (p := ⟨w.heap.size + 1, 1, none⟩) (Nat.le_succ _) (.slice A2 k c2)).setCell (p := ⟨w.heap.size + 1, 2, none⟩) (Nat.le_succ _) (.slice A3 k c3) |>.setCell (p := ⟨w.heap.size + 1, 3, none⟩) (Nat.le_succ _) (.int .i64 ((win (kset ks W key true) (dset ds W true) k 1 : Nat) : Int)))
      clear ho6 hd6 hb6 hT
      go_wp2
      refine bodyPost_ret (v := .tuple #[.agg #[.slice A1 k c1, .slice A2 k c2, .slice A3 k c3, .int .i64 ((win (kset ks W key true) (dset ds W true) k 1 : Nat) : Int)], .int .i64 (nn : Int)]) (by simp [results, Try.results102, go_sem, t0, t1, t2, t3]) rfl ?_
      first
        | exact ⟨A1, c1, A2, c2, A3, c3, by rw [HE.out], HO6.out, HD6.out, HBB.out⟩
        | exact ⟨A1, c1, A2, c2, ⟨A3, c3, by rw [HE.out]⟩, HO6.out, HD6.out, HBB.out⟩
set_option maxRecDepth 100000 in
set_option maxHeartbeats 4000000 in
theorem replace_false (A B C : Option Addr) (c d n m k W : Nat) (ks : List Int) (ds : List Bool) (key : Int) (w : World) (hk : ks.length = k) (hd : ds.length = k) (hW : W < k) (hn : k ≤ 1024) (hrk : Rd w 1 A k (ints ks)) (hrd : Rd w 1 B k (bools ds)) :
    Calls Try.prog 102 #[.agg #[.slice A k c, .slice B k d, .slice C n m, .int .i64 (W : Int)], .int .i64 key,   .bool false] w fun e w' => ∃ A1 c1 A2 c2 A3 c3, e = .returned (.tuple #[.agg #[.slice A1 k c1, .slice A2 k c2, .slice A3 k c3, .int .i64 (win (kset ks W key false) (dset ds W false) k 1 : Nat)], .int .i64 (up ((k + W) / 2) : Nat)]) ∧ w'.ownsRow w.heap.size 3 1 (.slice A1 k c1) k (ints (kset ks W key false)) ∧ w'.ownsRow w.heap.size 4 1 (.slice A2 k c2) k (bools (dset ds W false)) ∧ Below w.heap.size w w' := by
  have HB0 := Lib.hid (box2 w 96 96 #[.slice A k c, .slice B k d, .slice C n m, .int .i64 (W : Int)] any5.zero4)
  have HKD := Lib.hid (And.intro hk hd)
  have HRK := Lib.hid (fun X (h : Below w.heap.size w X) => hrk.below h)
  have HRD := Lib.hid (fun X (h : Below w.heap.size w X) => hrd.below h)
  have c0 := HB0.out.1.cell 0
  have c1 := HB0.out.1.cell 1
  have c3 := HB0.out.1.cell 3
  unfold any5.zero4 at c0 c1 c3
  simp only [List.getElem?_toArray, List.getElem?_cons_zero, List.getElem?_cons_succ] at c0 c1 c3
  clear hrk hrd hk hd
  go_enter Try.func102, Try.ntmps102
  go_wp2_with fail
  obtain ⟨wz, hwz⟩ : ∃ wz : World, wz = ((w.alloc (.cells #[.slice A k c, .slice B k d, .slice C n m, .int .i64 (W : Int)] 96)).alloc (.cells any5.zero4 96)) := ⟨_, rfl⟩
  have HZ := Lib.hid (show Blk wz w.heap.size 96 #[.slice A k c, .slice B k d, .slice C n m, .int .i64 (W : Int)] ∧ Blk wz (w.heap.size + 1) 96 any5.zero4 ∧ Below w.heap.size w wz from by rw [hwz]; exact HB0.out)
  have hzz : w.heap.size + 1 < wz.heap.size := HZ.out.2.1.lt
  unfold any5.zero4 at hwz
  rw [← hwz]
  clear hwz c0 c1 c3 HB0
  have HOW := Lib.hid (show Calls Try.prog 66 #[.slice A k c] wz fun e w' => ∃ v, e = .returned v ∧ w'.ownsRow wz.heap.size 3 1 v k (ints ks) ∧ Below wz.heap.size wz w' from by
    have h := HKD.out.1
    subst h
    exact copyInt.spec_any A c ks wz (by omega) (HRK.out _ HZ.out.2.2))
  with_reducible refine HOW.out.mono ?_
  rintro e w2 ⟨v1, rfl, ho1, hb2⟩
  have HZ2 := Lib.hid (show Blk w2 w.heap.size 96 #[.slice A k c, .slice B k d, .slice C n m, .int .i64 (W : Int)] ∧ Blk w2 (w.heap.size + 1) 96 any5.zero4 ∧ Below w.heap.size w w2 from ⟨HZ.out.1.below hb2 (by omega), HZ.out.2.1.below hb2 (by omega), below_at HZ.out.2.2 HZ.out.2.2.size hb2⟩)
  obtain ⟨Ag1, c1k, rfl, _, _, _⟩ := own_form ho1
  obtain ⟨g1, rfl, hg1, hg1l⟩ := own_addr ho1 (by omega)
  have hh : 0 + k ≤ 1099511627776 := by omega
  have hba := (Below.refl w2.heap.size w2).alloc (Nat.le_refl _) (.cells #[] 4)
  have h0 := World.ownsRow_made (e := 4) (size := 1) w2 #[] 0 (Nat.le_refl _) (Nat.zero_le _) (by simp)
  have hr0 := (HRD.out _ HZ2.out.2.2).below hba
  have hs0 := hba.size
  have c1' : (w2.alloc (.cells #[] 4)).cell? ⟨w.heap.size, 1, none⟩ = some (.slice B k d) := (HZ2.out.1.below hba HZ2.out.1.lt).cell 1
  have hbs2 := hb2.size
  have qW : (W : Int) < (k : Int) := by omega
  have q1 : IntKind.i64.wrap ((W : Int) + (k : Int)) = (W : Int) + (k : Int) := by rw [IntKind.wrap_i64]; omega
  obtain ⟨p0, hp0⟩ : ∃ p0, p0 = (k + W) / 2 := ⟨_, rfl⟩
  have q2 : ((W : Int) + (k : Int)).tdiv 2 = (p0 : Int) := by rw [Int.tdiv_eq_ediv_of_nonneg (by omega)]; omega
  have q3 : IntKind.i64.wrap (p0 : Int) = (p0 : Int) := by rw [IntKind.wrap_i64]; omega
  have hpb : p0 ≤ 1024 := by omega
  have HP0 := Lib.hid hp0
  clear HOW hp0
  go_wp2_with (at_builtin; refine mem.extend_at (w2.alloc (.cells #[] 4)) rfl (.tmp 15) (.tmp 17) 93 rfl w2.heap.size 4 (.bool false) 1 1 Try.underlying93 info_bool rfl Nat.one_pos (.slice (some ⟨w2.heap.size, 0, none⟩) 0 0) 0 [] (by simp [Act.eval, Act.put]) h0 B k d (bools ds) (by simp [Act.eval, Act.put]) hr0 (bools_one ds) hh (by decide) hs0 ?_; intro v3 w3 ho3 hg3 hn3; simp only [Nat.zero_add, List.nil_append] at ho3; have hb3 := below_push hba hs0 hg3 h0; obtain ⟨Ag2, c2k, rfl, _, _, _⟩ := own_form ho3; obtain ⟨g2, rfl, hg2, hg2l⟩ := own_addr ho3 (by omega); have ho1' := own_below ho1 hb3; have hR3 := HZ2.out.1.below hb3 HZ2.out.1.lt; have hT3 := HZ2.out.2.1.below hb3 HZ2.out.2.1.lt; have e3 := hR3.cell 3; simp only [List.getElem?_toArray, List.getElem?_cons_zero, List.getElem?_cons_succ] at e3; have k3 := own_cell ho1' (i := W) (ints_get ks W (by rw [HKD.out.1]; exact hW)); have d3 := own_cell ho3 (i := W) (show (bools ds)[W]? = some (.bool (ds[W]'(by rw [HKD.out.2]; exact hW))) by simp [bools, show W < ds.length by rw [HKD.out.2]; exact hW]); have f1 := fun i => own_thaw ho1' i; have f2 := fun i => own_thaw ho3 i; have n1 : w.heap.size ≠ g1 := (by omega); have n2 : w.heap.size ≠ g2 := (by omega); have n3 : g1 ≠ g2 := (by omega); have n4 : g2 ≠ g1 := (by omega); have n5 : g1 ≠ w.heap.size := (by omega); have n6 : g2 ≠ w.heap.size := (by omega))
  obtain ⟨W4, hW4⟩ : ∃ X : World, X = (w3.setCell ⟨g1, W, none⟩ (.int .i64 key)) := ⟨_, rfl⟩
  have a1 := own_put ho1' (i := W) (by rw [len_ints, HKD.out.1]; exact hW) (.int .i64 key)
  rw [ints_set] at a1
  have x12 : (Value.slice (some ⟨g1, 0, none⟩) k c1k).ownBlock ≠ some g2 := fun e => n3 (by simpa [Value.ownBlock] using e)
  have x21 : (Value.slice (some ⟨g2, 0, none⟩) k c2k).ownBlock ≠ some g1 := fun e => n4 (by simpa [Value.ownBlock] using e)
  have b1 := own_far ho3 (p := ⟨g1, W, none⟩) x21 (.int .i64 key)
  have HK4 := Lib.hid (show W4.ownsRow wz.heap.size 3 1 (.slice (some ⟨g1, 0, none⟩) k c1k) k (ints (kset ks W key false)) ∧ W4.ownsRow w2.heap.size 4 1 (.slice (some ⟨g2, 0, none⟩) k c2k) k (bools (dset ds W false)) from by
    rw [hW4]
    first
      | exact ⟨a1, b1⟩
      | (have a2 := own_put a1 (i := W) (by rw [len_ints, List.length_set, HKD.out.1]; exact hW) (.int .i64 0)
         rw [ints_set, List.set_set] at a2
         have a3 := own_far a2 (p := ⟨g2, W, none⟩) x12 (.bool true)
         have b2 := own_far b1 (p := ⟨g1, W, none⟩) x21 (.int .i64 0)
         have b3 := own_put b2 (i := W) (by rw [len_bools, HKD.out.2]; exact hW) (.bool true)
         rw [bools_set] at b3
         exact ⟨a3, b3⟩))
  have HB4 := Lib.hid (show Blk W4 (w.heap.size + 1) 96 any5.zero4 ∧ Below w.heap.size w W4 from by
    rw [hW4]
    have bb := below_at HZ2.out.2.2 HZ2.out.2.2.size hb3
    have l1 : w.heap.size ≤ g1 := by omega
    have l2 : w.heap.size ≤ g2 := by omega
    have m1 : w.heap.size + 1 ≠ g1 := by omega
    have m2 : w.heap.size + 1 ≠ g2 := by omega
    first
      | exact ⟨hT3.far (p := ⟨g1, W, none⟩) m1 _, bb.setCell (p := ⟨g1, W, none⟩) l1 _⟩
      | exact ⟨((hT3.far (p := ⟨g1, W, none⟩) m1 _).far (p := ⟨g1, W, none⟩) m1 _).far (p := ⟨g2, W, none⟩) m2 _, ((bb.setCell (p := ⟨g1, W, none⟩) l1 _).setCell (p := ⟨g1, W, none⟩) l1 _).setCell (p := ⟨g2, W, none⟩) l2 _⟩)
  rw [← hW4]
  have hls : (kset ks W key false).length = k := by unfold kset; rw [List.length_set]; exact HKD.out.1
  have hld : (dset ds W false).length = k := by
    unfold dset
    first
      | exact HKD.out.2
      | (show (ds.set W true).length = k; rw [List.length_set]; exact HKD.out.2)
  have HMK := Lib.hid (make_any (some ⟨g1, 0, none⟩) (some ⟨g2, 0, none⟩) c1k c2k k (kset ks W key false) (dset ds W false) W4 hls hld (by omega) hn (own_rd HK4.out.1) (own_rd HK4.out.2))
  clear hW4 a1 b1 x12 x21 ho1' ho3 hg3 hn3 hb3 hR3 hT3 e3 k3 d3 f1 f2 n1 n2 n3 n4 n5 n6 hls hld q1 q2 q3 qW ho1 hb2 h0 hr0 hba hs0 c1' hh
  go_loopg [10, 11] (p0 + 1) (fun f x y wr => ∃ n p : Nat, p < f ∧ x = .int .i64 (n : Int) ∧ y = .int .i64 (p : Int) ∧ p ≤ 1024 ∧ n + up p = up p0 ∧ wr = W4)
  case atStart => exact ⟨0, p0, by omega, rfl, rfl, hpb, by omega, rfl⟩
  case round =>
    obtain ⟨nn, p, hpf, rfl, rfl, hp, hup, rfl⟩ := hrel
    have hul := up_le p0
    have HUP := Lib.hid hup
    by_cases hlt : 0 < p
    · have hpu := up_pos hlt
      have q4 : (0 : Int) < (p : Int) := by omega
      have q5 : (p : Int).tdiv 2 = ((p / 2 : Nat) : Int) := by rw [Int.tdiv_eq_ediv_of_nonneg (by omega)]; omega
      have q6 : IntKind.i64.wrap ((p / 2 : Nat) : Int) = ((p / 2 : Nat) : Int) := by rw [IntKind.wrap_i64]; omega
      have q7 : IntKind.i64.wrap ((nn : Int) + 1) = (nn : Int) + 1 := by rw [IntKind.wrap_i64]; omega
      have HPU := Lib.hid hpu
      obtain ⟨r, hr⟩ : ∃ r, r = p / 2 := ⟨_, rfl⟩
      rw [← hr] at q5 q6
      have HR := Lib.hid hr
      clear hr hpu hup
      go_wp2
      go_roundg (gk - 1)
      case measure => omega
      case rel => exact ⟨nn + 1, r, by have := HR.out; omega, by go_num, rfl, by have := HR.out; omega, by have h1 := HUP.out; have h2 := HPU.out; rw [← HR.out] at h2; omega, by first | trivial | rfl⟩
    · have q4 : ¬ (0 : Int) < (p : Int) := by omega
      have HE := Lib.hid (show nn = up ((k + W) / 2) by
        have e : p = 0 := by omega
        have h1 := HUP.out
        rw [e, up_zero] at h1
        rw [← HP0.out]; omega)
      clear hup
      go_wp2_with fail
      with_reducible refine HMK.out.mono ?_
      rintro e w6 ⟨A1, c1, A2, c2, A3, c3, rfl, ho6, hd6, hb6⟩
      have hT := HB4.out.1.below hb6 HB4.out.1.lt
      have HTT := Lib.hid hT
      have t0 := hT.cell 0
      have t1 := hT.cell 1
      have t2 := hT.cell 2
      have t3 := hT.cell 3
      have t4 := fun i => hT.thaw i
      simp only [any5.zero4, List.getElem?_toArray, List.getElem?_cons_zero, List.getElem?_cons_succ] at t0 t1 t2 t3
      have hne : ∀ {e : TypeId} {y : Value} {xs : List Value}, w6.ownsRow wr.heap.size e 1 y k xs → y.ownBlock ≠ some (w.heap.size + 1) := fun ho e => by
        have h1 := own_ge ho _ e
        have h2 := HB4.out.1.lt
        omega
      have HO6 := Lib.hid (own_base (own_far (own_far (own_far (own_far ho6 (p := ⟨w.heap.size + 1, 0, none⟩) (hne ho6) (.slice A1 k c1)) (p := ⟨w.heap.size + 1, 1, none⟩) (hne ho6) (.slice A2 k c2)) (p := ⟨w.heap.size + 1, 2, none⟩) (hne ho6) (.slice A3 k c3)) (p := ⟨w.heap.size + 1, 3, none⟩) (hne ho6) (.int .i64 ((win (kset ks W key false) (dset ds W false) k 1 : Nat) : Int))) HB4.out.2.size)
      have HD6 := Lib.hid (own_base (own_far (own_far (own_far (own_far hd6 (p := ⟨w.heap.size + 1, 0, none⟩) (hne hd6) (.slice A1 k c1)) (p := ⟨w.heap.size + 1, 1, none⟩) (hne hd6) (.slice A2 k c2)) (p := ⟨w.heap.size + 1, 2, none⟩) (hne hd6) (.slice A3 k c3)) (p := ⟨w.heap.size + 1, 3, none⟩) (hne hd6) (.int .i64 ((win (kset ks W key false) (dset ds W false) k 1 : Nat) : Int))) HB4.out.2.size)
      have HBB := Lib.hid ((((below_at HB4.out.2 HB4.out.2.size hb6).setCell (p := ⟨w.heap.size + 1, 0, none⟩) (Nat.le_succ _) (.slice A1 k c1)).setCell (p := ⟨w.heap.size + 1, 1, none⟩) (Nat.le_succ _) (.slice A2 k c2)).setCell (p := ⟨w.heap.size + 1, 2, none⟩) (Nat.le_succ _) (.slice A3 k c3) |>.setCell (p := ⟨w.heap.size + 1, 3, none⟩) (Nat.le_succ _) (.int .i64 ((win (kset ks W key false) (dset ds W false) k 1 : Nat) : Int)))
      clear ho6 hd6 hb6 hT
      go_wp2
      refine bodyPost_ret (v := .tuple #[.agg #[.slice A1 k c1, .slice A2 k c2, .slice A3 k c3, .int .i64 ((win (kset ks W key false) (dset ds W false) k 1 : Nat) : Int)], .int .i64 (nn : Int)]) (by simp [results, Try.results102, go_sem, t0, t1, t2, t3]) rfl ?_
      first
        | exact ⟨A1, c1, A2, c2, A3, c3, by rw [HE.out], HO6.out, HD6.out, HBB.out⟩
        | exact ⟨A1, c1, A2, c2, ⟨A3, c3, by rw [HE.out]⟩, HO6.out, HD6.out, HBB.out⟩
theorem replace_any (A B C : Option Addr) (c d n m k W : Nat) (ks : List Int) (ds : List Bool) (key : Int) (dn : Bool) (w : World) (hk : ks.length = k) (hd : ds.length = k) (hW : W < k) (hn : k ≤ 1024) (hrk : Rd w 1 A k (ints ks)) (hrd : Rd w 1 B k (bools ds)) :
    Calls Try.prog 102 #[.agg #[.slice A k c, .slice B k d, .slice C n m, .int .i64 (W : Int)], .int .i64 key, .bool dn] w fun e w' => ∃ A1 c1 A2 c2 A3 c3, e = .returned (.tuple #[.agg #[.slice A1 k c1, .slice A2 k c2, .slice A3 k c3, .int .i64 (win (kset ks W key dn) (dset ds W dn) k 1 : Nat)], .int .i64 (up ((k + W) / 2) : Nat)]) ∧ w'.ownsRow w.heap.size 3 1 (.slice A1 k c1) k (ints (kset ks W key dn)) ∧ w'.ownsRow w.heap.size 4 1 (.slice A2 k c2) k (bools (dset ds W dn)) ∧ Below w.heap.size w w' := by
  cases dn with
  | true => exact replace_true A B C c d n m k W ks ds key w hk hd hW hn hrk hrd
  | false => exact replace_false A B C c d n m k W ks ds key w hk hd hW hn hrk hrd
end Go.Proofs.Ytgffabjajbgbjaa.tn
