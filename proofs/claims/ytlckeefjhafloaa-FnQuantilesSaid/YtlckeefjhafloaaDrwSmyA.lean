/- A drawn summary that may be invalid. Condition: a code of at most 2^20 bytes. -/
import Derived.Test.YtlckeefjhafloaaDrwSmy
import Derived.Deep.CutBlock
set_option linter.unusedVariables false
set_option linter.unusedSimpArgs false
namespace Go.Proofs.Ytlckeefjhafloaa.drw
open Go.RowKit Go.Proofs.Ytlckeefjhafloaa.mem Go.Proofs.Ytlckeefjhafloaa.cur Go.Proofs.Ytlckeefjhafloaa.smy

theorem set_rkv : ∀ (l : List Rkv) (i : Nat) (x : Rkv), ((((rkvs l).set (i * 3) (.int .i64 x.value)).set (i * 3 + 1) (.int .i64 x.least)).set (i * 3 + 2) (.int .i64 x.most)) = rkvs (l.set i x)
  | [], i, x => by simp [rkvs]
  | a :: l, 0, x => by simp [rkvs, Rkv.cells]
  | a :: l, i + 1, x => by
    have ih := set_rkv l i x
    rw [List.set_cons_succ, rkvs_cons, rkvs_cons, ← ih]
    have e1 : (i + 1) * 3 = a.cells.length + i * 3 := by simp [Rkv.cells]; omega
    rw [List.set_append_right _ _ (by omega), List.set_append_right _ _ (by omega), List.set_append_right _ _ (by omega), show (i + 1) * 3 - a.cells.length = i * 3 by omega, show (i + 1) * 3 + 1 - a.cells.length = i * 3 + 1 by omega, show (i + 1) * 3 + 2 - a.cells.length = i * 3 + 2 by omega]
theorem put_rkv {w : World} {base g n c : Nat} {l : List Rkv} (h : w.ownsRow base 51 3 (.slice (some ⟨g, 0, none⟩) n c) n (rkvs l)) {i : Nat} (hi : i < l.length) (x : Rkv) :
    (((w.setCell ⟨g, i * 3, none⟩ (.int .i64 x.value)).setCell ⟨g, i * 3 + 1, none⟩ (.int .i64 x.least)).setCell ⟨g, i * 3 + 2, none⟩ (.int .i64 x.most)).ownsRow base 51 3 (.slice (some ⟨g, 0, none⟩) n c) n (rkvs (l.set i x)) := by
  have hl := len_rkvs l
  have h1 := own_put h (i := i * 3) (by omega) (.int .i64 x.value)
  have h2 := own_put h1 (i := i * 3 + 1) (by simp only [List.length_set]; omega) (.int .i64 x.least)
  have h3 := own_put h2 (i := i * 3 + 2) (by simp only [List.length_set]; omega) (.int .i64 x.most)
  rw [set_rkv] at h3
  exact h3
/-- what is left behind a draw of one summary -/
structure RS (w0 w1 w : World) (g : Nat) (zs : List Int) (a : Nat) (A : Option Addr) (l : List Rkv) : Prop where
  cur : Cur w0 w g zs a
  gr : w1.grownBy w (some g)
  rd : Rd w 3 A l.length (rkvs l)
  ge : ∀ b off, A = some ⟨b, off, none⟩ → w1.heap.size ≤ b
  len : l.length ≤ 1048576
theorem RS.keep {w0 w1 w W : World} {g a k : Nat} {zs : List Int} {A : Option Addr} {l : List Rkv} (h : RS w0 w1 w g zs a A l) (hg : w.grownBy W (some k)) (hk : k < w1.heap.size) : Rd W 3 A l.length (rkvs l) :=
  h.rd.grown hg (fun b off e => by have := h.ge b off e; intro e2; injection e2 with e2; omega)
theorem wide_val {x y z : Nat} {n : Int} : rkvs [⟨(x : Int), 1, 1⟩, ⟨3 + (y : Int), 2 + (z : Int), n - 1⟩, ⟨6, n, n⟩] = [.int .i64 (x : Int), .int .i64 1, .int .i64 1, .int .i64 (3 + (y : Int)), .int .i64 (2 + (z : Int)), .int .i64 (n - 1), .int .i64 6, .int .i64 n, .int .i64 n] := rfl
set_option maxRecDepth 100000 in
set_option maxHeartbeats 4000000 in
theorem wide_any (w0 w : World) (g a : Nat) (zs : List Int) (n : Int) (hn : zs.length ≤ 1048576) (ha : a ≤ 1099511600000) (h : Cur w0 w g zs a) (hn1 : 0 ≤ n) (hn2 : n ≤ 2000) :
    Calls Try.prog 74 #[.pointer (some ⟨g, 0, none⟩), .int .i64 n] w fun e w' => ∃ (A : Option Addr) (l : List Rkv) (c a' : Nat), e = .returned (.agg #[.int .i64 n, .slice A l.length c]) ∧ RS w0 w w' g zs a' A l ∧ a ≤ a' ∧ a' ≤ a + 10 := by
  have hgl := h.lt
  have HA := Lib.hid (h.below ((Below.refl w.heap.size w).alloc (Nat.le_refl _) (.cells #[.int .i64 0, .slice none 0 0] 29)))
  have HRB := Lib.hid (Blk.new w 29 #[.int .i64 0, .slice none 0 0])
  have HG0 := Lib.hid (World.grownBy_alloc w (.cells #[.int .i64 0, .slice none 0 0] 29) (some g))
  clear h
  go_enter Try.func74, Try.ntmps74
  go_wp2_with fail
  refine (pick_any w0 _ g a zs hn (by omega) HA.out 3 (by omega) (by omega)).mono ?_
  rintro e w1 ⟨x, a1, hx, ha1, ha2, rfl, hc1, hg1⟩
  have hx2 : x ≤ 2 := by omega
  go_wp2_with fail
  refine (pick_any w0 _ g a1 zs hn (by omega) hc1 3 (by omega) (by omega)).mono ?_
  rintro e w2 ⟨y, a2, hy, ha3, ha4, rfl, hc2, hg2⟩
  have hy2 : y ≤ 2 := by omega
  have r1 : IntKind.i64.wrap (n - 2) = n - 2 := IntWalk.i64_in _ (by omega)
  have r2 : IntKind.i64.wrap (n - 1) = n - 1 := IntWalk.i64_in _ (by omega)
  have r3 : IntKind.i64.wrap (3 + (y : Int)) = 3 + (y : Int) := IntWalk.i64_in _ (by omega)
  go_wp2_with fail
  refine (pick_any w0 _ g a2 zs hn (by omega) hc2 (n - 2) (by omega) (by omega)).mono ?_
  rintro e w3 ⟨z, a3, hz, ha5, ha6, rfl, hc3, hg3⟩
  have hz2 : z ≤ 2000 := by omega
  have r4 : IntKind.i64.wrap (2 + (z : Int)) = 2 + (z : Int) := IntWalk.i64_in _ (by omega)
  have hg := Cur.then_grown hg1 (Cur.then_grown hg2 hg3)
  have hrb := HRB.out.grown hg (fun e => by injection e with e; omega)
  have e0 := hrb.cell 0
  have e1 := hrb.cell 1
  have e2 := hrb.thaw 0
  have e3 := hrb.thaw 1
  have hlt3 := hrb.lt
  have HE := Lib.hid (show ∀ (x1 x2 : Value), RS w0 w (((w3.setCell ⟨w.heap.size, 0, none⟩ x1).setCell ⟨w.heap.size, 1, none⟩ x2).alloc (.cells #[.int .i64 (x : Int), .int .i64 1, .int .i64 1, .int .i64 (3 + (y : Int)), .int .i64 (2 + (z : Int)), .int .i64 (n - 1), .int .i64 6, .int .i64 n, .int .i64 n] 51)) g zs a3 (some ⟨w3.heap.size, 0, none⟩) [⟨(x : Int), 1, 1⟩, ⟨3 + (y : Int), 2 + (z : Int), n - 1⟩, ⟨6, n, n⟩] from fun x1 x2 => by
    have hp : w3.grownBy ((w3.setCell ⟨w.heap.size, 0, none⟩ x1).setCell ⟨w.heap.size, 1, none⟩ x2) (some w.heap.size) := only_put (only_put (World.grownBy.refl _ _) 0 _) 1 _
    refine ⟨(hc3.grown hp (fun k e => by injection e with e; subst e; exact ⟨by have := hc3.hi; have := HA.out.hi; omega, by omega⟩)).below ((Below.refl _ _).alloc (Nat.le_refl _) _), Cur.then_grown (grown_above (Cur.then_grown HG0.out hg) hp (fun k e => by injection e with e; omega)) (World.grownBy_alloc _ _ (some g)), ?_, fun b off e => by injection e with e; injection e with e1 e2; omega, by simp⟩
    have hb := Blk.new ((w3.setCell ⟨w.heap.size, 0, none⟩ x1).setCell ⟨w.heap.size, 1, none⟩ x2) 51 #[.int .i64 (x : Int), .int .i64 1, .int .i64 1, .int .i64 (3 + (y : Int)), .int .i64 (2 + (z : Int)), .int .i64 (n - 1), .int .i64 6, .int .i64 n, .int .i64 n]
    have hs : ((w3.setCell ⟨w.heap.size, 0, none⟩ x1).setCell ⟨w.heap.size, 1, none⟩ x2).heap.size = w3.heap.size := by simp
    rw [hs] at hb
    exact hb.rd rfl rfl)
  clear hc1 hc2 hc3 hg1 hg2 hg3 hg hx hy hz hrb
  go_wp2
  refine bodyPost_ret (v := .agg #[.int .i64 n, .slice (some ⟨w3.heap.size, 0, none⟩) 3 3]) (by simp [results, Try.results74, go_sem, e0, e1, hlt3]) rfl ?_
  exact ⟨_, _, 3, a3, rfl, HE.out _ _, by omega, by omega⟩
set_option maxRecDepth 100000 in
set_option maxHeartbeats 4000000 in
theorem among2_any (w0 w : World) (g a : Nat) (zs : List Int) (hn : zs.length ≤ 1048576) (ha : a ≤ 1099511600000) (h : Cur w0 w g zs a) :
    Calls Try.prog 77 #[.pointer (some ⟨g, 0, none⟩)] w fun e w' => ∃ v l a', e = .returned v ∧ CI w0 w w' g zs a' v l ∧ l.length ≤ 33 ∧ a ≤ a' ∧ a' ≤ a + 200 := by
  have HC := Lib.hid (ci_made w0 w g a zs h)
  clear h
  go_enter Try.func77, Try.ntmps77
  go_wp2_with fail
  refine (pick_any w0 _ g a zs hn (by omega) HC.out.cur 2 (by omega) (by omega)).mono ?_
  rintro e w1 ⟨x, a1, hx, ha1, ha2, rfl, hc1, hg1⟩
  have HC1 := Lib.hid (HC.out.grown hc1 hg1)
  clear hc1 hg1 HC
  obtain ⟨y, hy⟩ : ∃ y : Nat, y = 32 + x := ⟨_, rfl⟩
  have r1 : IntKind.i64.wrap (32 + (x : Int)) = (y : Int) := by rw [IntWalk.i64_in _ (by omega)]; omega
  have hy33 : y ≤ 33 := by omega
  clear hy
  go_wp2
  go_loopg [3, 4] 40 (fun f v i wr => ∃ (x a3 : Nat) (l : List Int), x < f ∧ x ≤ 33 ∧ l.length + x ≤ 33 ∧ a ≤ a3 ∧ a3 + 3 * x ≤ a + 2 + 99 ∧ i = .int .i64 (x : Int) ∧ CI w0 w wr g zs a3 v l)
  case atStart => exact ⟨y, a1, [], by omega, by omega, by simp; omega, by omega, by omega, rfl, HC1.out⟩
  case round =>
    obtain ⟨x, a3, l, hxf, hx23, hl, ha3, ha3b, rfl, hcr⟩ := hrel
    have HCR := Lib.hid hcr
    clear hcr HC1 r1
    by_cases hpos : 0 < x
    · have q1 : (0 : Int) < (x : Int) := by omega
      go_wp2_with fail
      refine (pick_any w0 _ g a3 zs hn (by omega) HCR.out.cur 40 (by omega) (by omega)).mono ?_
      rintro e w5 ⟨y5, a5, _, ha5, ha5b, rfl, hc5, hg5⟩
      have HC6 := Lib.hid (HCR.out.grown hc5 hg5)
      clear hc5 hg5 HCR
      have ho := HC6.out.own
      have hs := HC6.out.size
      have hb : l.length ≤ 1099511627776 := by omega
      go_wp2_with (at_builtin; refine mem.push _ rfl _ _ 24 rfl w.heap.size 3 _ 1 8 Try.underlying24 mem.info_int rfl Nat.one_pos _ _ _ rfl ho [.int .i64 ((y5 : Int))] _ rfl (mem.ints_one [(y5 : Int)]) rfl hb (by decide) hs ?_; intro v' w' ho' hg')
      have HC7 := Lib.hid (HC6.out.push ho' hg')
      clear ho' hg' ho HC6
      go_wp2
      go_roundg (gk - 1)
      case measure => omega
      case rel => exact ⟨x - 1, a5, l ++ [(y5 : Int)], by omega, by omega, by simp; omega, by omega, by omega, by go_num, HC7.out⟩
    · have q1 : ¬ (0 : Int) < (x : Int) := by omega
      go_wp2
      go_ret
      first | exact ⟨_, rfl, l, a3, HCR.out, by omega, by omega, by omega⟩ | exact ⟨_, l, a3, rfl, HCR.out, by omega, by omega, by omega⟩
/-- with an entry in a block of its own -/
structure XA (w0 w1 w : World) (g : Nat) (zs : List Int) (a sb rb xb : Nat) (cnt : Int) (vs : Value) (ls : List Rkv) (x : Rkv) : Prop where
  ss : SS w0 w1 w g zs a sb rb cnt vs ls (.slice none 0 0) []
  xblk : Blk w xb 51 #[.int .i64 x.value, .int .i64 x.least, .int .i64 x.most]
  hx : xb ≠ sb ∧ xb ≠ rb ∧ w1.heap.size ≤ xb
  fx : vs.ownBlock ≠ some xb
section
variable {w0 w1 w w' : World} {g a a' sb rb xb : Nat} {zs : List Int} {cnt : Int} {vs : Value} {ls : List Rkv} {x : Rkv}
theorem XA.grown (h : XA w0 w1 w g zs a sb rb xb cnt vs ls x) (hc : Cur w0 w' g zs a') (hg : w.grownBy w' (some g)) : XA w0 w1 w' g zs a' sb rb xb cnt vs ls x :=
  ⟨h.ss.grown hc hg, h.xblk.grown hg (fun e => by injection e with e; have := h.hx; have := h.ss.lt; omega), h.hx, h.fx⟩
theorem XA.below (h : XA w0 w1 w g zs a sb rb xb cnt vs ls x) (hb : Below w.heap.size w w') : XA w0 w1 w' g zs a sb rb xb cnt vs ls x :=
  h.grown (h.ss.cur.below hb) (below_gb hb g)
theorem XA.drewN (h : XA w0 w1 w g zs a sb rb xb cnt vs ls x) (n : Nat) : XA w0 w1 (w.drewN n) g zs a sb rb xb cnt vs ls x :=
  h.below (below_drewN (Below.refl _ _) n)
theorem SS.cnt_ (h : SS w0 w1 w g zs a sb rb cnt vs ls (.slice none 0 0) []) (c : Int) : SS w0 w1 (w.setCell ⟨sb, 0, none⟩ (.int .i64 c)) g zs a sb rb c vs ls (.slice none 0 0) [] := by
  have hg : w.grownBy (w.setCell ⟨sb, 0, none⟩ (.int .i64 c)) (some sb) := only_put (World.grownBy.refl w (some sb)) 0 _
  have h2 := h.hs
  have h3 := h.lt
  have h4 := h.cur.hi
  exact ⟨h.cur.grown hg (fun k e => by injection e with e; subst e; exact ⟨by omega, by omega⟩), h.os.kept hg (Or.inr h.fs.1), h.ol.kept hg (Or.inl rfl), h.ap, grown_above h.gr hg (fun x e => by injection e with e; omega), h3, h.sblk.put 0 _, h.rblk.grown hg (fun e => by injection e with e; omega), h2, h.fs, h.fl⟩
theorem XA.cnt_ (h : XA w0 w1 w g zs a sb rb xb cnt vs ls x) (c : Int) : XA w0 w1 (w.setCell ⟨sb, 0, none⟩ (.int .i64 c)) g zs a sb rb xb c vs ls x :=
  ⟨h.ss.cnt_ c, h.xblk.grown (only_put (World.grownBy.refl w (some sb)) 0 _) (fun e => by injection e with e; have := h.hx; omega), h.hx, h.fx⟩
theorem XA.put (h : XA w0 w1 w g zs a sb rb xb cnt vs ls x) (i : Nat) (z : Int) {x' : Rkv} (he : (#[.int .i64 x.value, .int .i64 x.least, .int .i64 x.most] : Array Value).setIfInBounds i (.int .i64 z) = #[.int .i64 x'.value, .int .i64 x'.least, .int .i64 x'.most]) : XA w0 w1 (w.setCell ⟨xb, i, none⟩ (.int .i64 z)) g zs a sb rb xb cnt vs ls x' := by
  have hg : w.grownBy (w.setCell ⟨xb, i, none⟩ (.int .i64 z)) (some xb) := only_put (World.grownBy.refl w (some xb)) i _
  have h2 := h.hx
  have h3 := h.ss.lt
  have h4 := h.ss.cur.hi
  have hp := h.xblk.put i (.int .i64 z)
  rw [he] at hp
  exact ⟨h.ss.step hg h2.1 h2.2.1 h.fx (by intro e; cases e) (h.ss.cur.grown hg (fun k e => by injection e with e; subst e; exact ⟨by omega, by omega⟩)) (grown_above h.ss.gr hg (fun x e => by injection e with e; omega)), hp, h2, h.fx⟩
theorem XA.set {eb c q : Nat} (h : XA w0 w1 w g zs a sb rb xb cnt (.slice (some ⟨eb, 0, none⟩) ls.length c) ls x) (hq : q < ls.length) : SS w0 w1 (((w.setCell ⟨eb, q * 3, none⟩ (.int .i64 x.value)).setCell ⟨eb, q * 3 + 1, none⟩ (.int .i64 x.least)).setCell ⟨eb, q * 3 + 2, none⟩ (.int .i64 x.most)) g zs a sb rb cnt (.slice (some ⟨eb, 0, none⟩) ls.length c) (ls.set q x) (.slice none 0 0) [] := by
  have hg : w.grownBy (((w.setCell ⟨eb, q * 3, none⟩ (.int .i64 x.value)).setCell ⟨eb, q * 3 + 1, none⟩ (.int .i64 x.least)).setCell ⟨eb, q * 3 + 2, none⟩ (.int .i64 x.most)) (some eb) := only_put (only_put (only_put (World.grownBy.refl w (some eb)) _ _) _ _) _ _
  have h2 := h.ss.hs
  have h3 := h.ss.lt
  have h4 := h.ss.cur.hi
  have h5 : w1.heap.size ≤ eb := own_ge h.ss.os eb rfl
  have h6 := h.ss.fs
  have h7 : eb ≠ sb := fun e => h6.1 (by subst e; rfl)
  have h8 : eb ≠ rb := fun e => h6.2 (by subst e; rfl)
  refine ⟨h.ss.cur.grown hg (fun k e => by injection e with e; subst e; exact ⟨by omega, by omega⟩), ?_, h.ss.ol.kept hg (Or.inl rfl), h.ss.ap, grown_above h.ss.gr hg (fun x e => by injection e with e; omega), h3, h.ss.sblk.grown hg (fun e => by injection e with e; omega), h.ss.rblk.grown hg (fun e => by injection e with e; omega), h2, h6, h.ss.fl⟩
  rw [List.length_set]
  exact put_rkv h.ss.os hq x
theorem XA.cutR {eb c m : Nat} (h : XA w0 w1 w g zs a sb rb xb cnt (.slice (some ⟨eb, 0, none⟩) ls.length c) ls x) (hm : m ≤ ls.length) (hl : ls.length ≤ 1048576) (u y z : Value) : RS w0 w1 (((w.setCell ⟨sb, 1, none⟩ u).setCell ⟨rb, 0, none⟩ y).setCell ⟨rb, 1, none⟩ z) g zs a (some ⟨eb, 0, none⟩) (ls.take m) := by
  have hg1 : w.grownBy (w.setCell ⟨sb, 1, none⟩ u) (some sb) := only_put (World.grownBy.refl w (some sb)) 1 _
  have hg2 : (w.setCell ⟨sb, 1, none⟩ u).grownBy (((w.setCell ⟨sb, 1, none⟩ u).setCell ⟨rb, 0, none⟩ y).setCell ⟨rb, 1, none⟩ z) (some rb) := only_put (only_put (World.grownBy.refl _ (some rb)) 0 _) 1 _
  have h2 := h.ss.hs
  have h3 := h.ss.lt
  have h4 := h.ss.cur.hi
  have ho := (h.ss.os.kept hg1 (Or.inr h.ss.fs.1)).kept hg2 (Or.inr h.ss.fs.2)
  refine ⟨(h.ss.cur.grown hg1 (fun k e => by injection e with e; subst e; exact ⟨by omega, by omega⟩)).grown hg2 (fun k e => by injection e with e; subst e; exact ⟨by omega, by omega⟩), grown_above (grown_above h.ss.gr hg1 (fun x e => by injection e with e; omega)) hg2 (fun x e => by injection e with e; omega), ?_, fun b off e => by injection e with e; injection e with e1 e2; subst e1; exact own_ge ho eb rfl, by rw [List.length_take]; omega⟩
  have hr := own_rd ho
  rw [rkvs_take, List.length_take, Nat.min_eq_left hm]
  exact hr.take hm
theorem CS.rs {A : Option Addr} {c n : Nat} {vl : Value} {ll : List Int} (h : CS w0 w1 w g zs a (.slice A n c) ls vl ll) (hn : n = ls.length) (hl : ls.length ≤ 1048576) : RS w0 w1 w g zs a A ls :=
  ⟨h.cur, h.gr, own_rd (hn ▸ h.os : w.ownsRow w1.heap.size 51 3 (.slice A ls.length c) ls.length (rkvs ls)), fun b off e => by subst e; exact own_ge h.os b rfl, hl⟩
end
set_option maxRecDepth 100000 in
set_option maxHeartbeats 8000000 in
theorem anySmy_any (w0 w : World) (g a : Nat) (zs : List Int) (hn : zs.length ≤ 1048576) (ha : a ≤ 1099511500000) (h : Cur w0 w g zs a) :
    Calls Try.prog 78 #[.pointer (some ⟨g, 0, none⟩)] w fun e w' => ∃ (cnt : Int) (A : Option Addr) (l : List Rkv) (c a' : Nat), e = .returned (.agg #[.int .i64 cnt, .slice A l.length c]) ∧ RS w0 w w' g zs a' A l ∧ a ≤ a' ∧ a' ≤ a + 1100 := by
  have hgl := h.lt
  have HA := Lib.hid (h.below ((Below.refl w.heap.size w).alloc (Nat.le_refl _) (.cells #[.int .i64 0, .slice none 0 0] 29)))
  have HRB := Lib.hid (Blk.new w 29 #[.int .i64 0, .slice none 0 0])
  clear h
  go_enter Try.func78, Try.ntmps78
  go_wp2_with fail
  refine (summary_any w0 _ g a zs hn (by omega) HA.out).mono ?_
  rintro e w1 ⟨cnt, vs, ls, vl, ll, a1, rfl, hcs, hok, ha1, ha2⟩
  obtain ⟨As, cs, rfl, hsc, hsm, _⟩ := own_form hcs.os
  obtain ⟨Av, cv, rfl, _, _, _⟩ := own_form hcs.ol
  have HOK := Lib.hid hok
  have hge1 : w.heap.size < w1.heap.size := by have := hcs.gr.size; simp at this; omega
  have HSS := Lib.hid (show SS w0 w (w1.alloc (.cells #[.int .i64 cnt, .slice As ls.length cs] 29)) g zs a1 w1.heap.size w.heap.size cnt (.slice As ls.length cs) ls (.slice none 0 0) [] from by
    have hsz : (w.alloc (.cells #[.int .i64 0, .slice none 0 0] 29)).heap.size = w.heap.size + 1 := by simp
    have o1 := own_ge hcs.os
    have o2 := own_lt hcs.os
    rw [hsz] at o1
    have hba := (Below.refl w1.heap.size w1).alloc (Nat.le_refl _) (.cells #[.int .i64 cnt, .slice As ls.length cs] 29)
    exact ⟨hcs.cur.below hba, own_below (own_base hcs.os (by rw [hsz]; omega)) hba, World.ownsRow_nil _ _ _ _, sep_symm (Or.inl rfl), Cur.then_grown (Cur.then_grown (World.grownBy_alloc w _ (some g)) hcs.gr) (World.grownBy_alloc w1 _ (some g)), hgl, Blk.new _ _ _, (HRB.out.grown hcs.gr (fun e => by injection e with e; omega)).alloc _, ⟨by omega, Nat.le_refl _, by omega⟩, ⟨fun e => by have := o2 _ e; omega, fun e => by have := o1 _ e; omega⟩, ⟨(by intro e; cases e), (by intro e; cases e)⟩⟩)
  have HCB := Lib.hid (vsmy_cnt hok.1)
  have HAT := Lib.hid (fun (k : Nat) (hk : k < ls.length) => vsmy_at hok.1 hk)
  clear hcs hok HRB HA
  obtain ⟨rb, hrb⟩ : ∃ rb, rb = w.heap.size := ⟨_, rfl⟩
  go_upto_region 2 with fail
  obtain ⟨sb, hsb⟩ : ∃ sb, sb = w1.heap.size := ⟨_, rfl⟩
  obtain ⟨w2, hw2⟩ : ∃ W : World, W = w1.alloc (.cells #[.int .i64 cnt, .slice As ls.length cs] 29) := ⟨_, rfl⟩
  rw [← hsb, ← hrb, ← hw2] at HSS
  rw [← hsb, ← hrb, ← hw2]
  clear hsb hrb hw2 hge1
  have s0 := HSS.out.sblk.cell 0
  have s1 := HSS.out.sblk.cell 1
  have hl64 := HCB.out.2.2.1
  by_cases h0 : ls.length = 0
  · have q0 : ((ls.length : Int) == 0) = true := by rw [beq_iff_eq]; omega
    have HLT := Lib.hid (Nat.lt_of_lt_of_le HSS.out.lt HSS.out.size)
    have HPL := Lib.hid (fun (W' : World) (hg : (w2.alloc (.cells (ints [0, 0, 0, 1, -1]).toArray 3)).grownBy W' (some g)) => pool w2 [0, 0, 0, 1, -1] hg HLT.out)
    have HS2 := Lib.hid (HSS.out.below ((Below.refl _ _).alloc (Nat.le_refl _) (.cells (ints [0, 0, 0, 1, -1]).toArray 3)))
    have HH := Lib.hid h0
    clear h0
    go_wp2_with fail
    refine (among_any w0 _ g a1 zs hn (by omega) HS2.out.cur (some ⟨w2.heap.size, 0, none⟩) 5 [0, 0, 0, 1, -1] (by simp) (by simp) HPL.out).mono ?_
    rintro e w3 ⟨y5, a2, _, ha3, ha4, rfl, hc3, hg3⟩
    have HS3 := Lib.hid (HS2.out.grown hc3 hg3)
    have HE := Lib.hid (((HS3.out.cnt_ y5).fin (.int .i64 y5) (.slice As ls.length cs)).rs rfl (by omega))
    clear hc3 hg3 HS2 HPL s0 s1 HSS
    have s0 := HS3.out.sblk.cell 0
    have s1 := HS3.out.sblk.cell 1
    have f0 := HS3.out.sblk.thaw 0
    have r0 := HS3.out.rblk.cell 0
    have r1 := HS3.out.rblk.cell 1
    have g0 := HS3.out.rblk.thaw 0
    have g1 := HS3.out.rblk.thaw 1
    have hne : sb ≠ rb := HS3.out.hs.2.2
    go_wp2
    refine bodyPost_ret (v := .agg #[.int .i64 y5, .slice As ls.length cs]) (by simp [results, Try.results78, go_sem, r0, r1, hne, hne.symm]) rfl ?_
    first | exact ⟨y5, As, ls, cs, rfl, a2, HE.out, by omega, by omega⟩ | exact ⟨y5, As, ls, cs, a2, rfl, HE.out, by omega, by omega⟩
  · have q0 : ((ls.length : Int) == 0) = false := by rw [beq_eq_false_iff_ne]; omega
    have q00 : ¬ (ls.length : Int) = 0 := by omega
    have q000 : (ls.length == 0) = false := by simpa using h0
    obtain ⟨eb, rfl, hge, hlt⟩ := own_addr HSS.out.os (by omega)
    go_wp2_with fail
    refine (pick_any w0 _ g a1 zs hn (by omega) HSS.out.cur (ls.length : Int) (by omega) (by omega)).mono ?_
    rintro e w3 ⟨q, a2, hq, ha3, ha4, rfl, hc3, hg3⟩
    have hql : q < ls.length := by omega
    have hqi : (q : Int) < (ls.length : Int) := by omega
    have HS3 := Lib.hid (HSS.out.grown hc3 hg3)
    clear hc3 hg3 s0 s1 HSS hq
    have s0 := HS3.out.sblk.cell 0
    have s1 := HS3.out.sblk.cell 1
    obtain ⟨c0, c1, c2⟩ := (own_rd HS3.out.os).rkv_at hql
    simp only [Nat.zero_add] at c0 c1 c2
    have hxa := HAT.out q hql
    generalize ls[q] = x at c0 c1 c2 hxa
    obtain ⟨xb, hxb⟩ : ∃ xb, xb = w3.heap.size := ⟨_, rfl⟩
    have HX4 := Lib.hid (show XA w0 w (w3.alloc (.cells #[.int .i64 x.value, .int .i64 x.least, .int .i64 x.most] 51)) g zs a2 sb rb xb cnt (.slice (some ⟨eb, 0, none⟩) ls.length cs) ls x from by
      subst hxb
      exact ⟨HS3.out.below ((Below.refl _ _).alloc (Nat.le_refl _) _), Blk.new _ _ _, ⟨by have := HS3.out.sblk.lt; omega, by have := HS3.out.rblk.lt; omega, HS3.out.size⟩, fun e => by have := own_lt HS3.out.os _ e; omega⟩)
    go_upto_region 7 with fail
    obtain ⟨w4, hw4⟩ : ∃ W : World, W = w3.alloc (.cells #[.int .i64 x.value, .int .i64 x.least, .int .i64 x.most] 51) := ⟨_, rfl⟩
    rw [← hw4] at HX4
    rw [← hxb, ← hw4]
    clear hw4 hxb c0 c1 c2 s0 s1 HS3
    have hcb := HCB.out
    go_wp2_with fail
    refine (pick_any w0 _ g a2 zs hn (by omega) HX4.out.ss.cur 24 (by omega) (by omega)).mono ?_
    rintro e w5 ⟨y, a3, _, ha5, ha6, rfl, hc5, hg5⟩
    have HX5 := Lib.hid (HX4.out.grown hc5 hg5)
    clear hc5 hg5 HX4
    go_upto_block 0 with fail
    go_cut [] (fun wx => ∃ (cnt' : Int) (x' : Rkv) (a' : Nat), a2 ≤ a' ∧ a' ≤ a2 + 10 ∧ XA w0 w wx g zs a' sb rb xb cnt' (.slice (some ⟨eb, 0, none⟩) ls.length cs) ls x')
    case first =>
      have hcase : y = 0 ∨ y = 1 ∨ y = 2 ∨ y = 3 ∨ y = 4 ∨ 5 ≤ y := by omega
      have s0 := HX5.out.ss.sblk.cell 0
      have s1 := HX5.out.ss.sblk.cell 1
      have sf0 := HX5.out.ss.sblk.thaw 0
      have sf1 := HX5.out.ss.sblk.thaw 1
      have x0 := HX5.out.xblk.cell 0
      have x1 := HX5.out.xblk.cell 1
      have x2 := HX5.out.xblk.cell 2
      have xf := fun i => HX5.out.xblk.thaw i
      rcases hcase with rfl | rfl | rfl | rfl | rfl | hy5
      · go_wp2_with fail
        go_region_law (refine step_call rfl 81 _ _ rfl ent_pick (by simp [Act.eval, Act.put]) (pick_any w0 w5.drew g a3 zs hn (by omega) (HX5.out.drewN 1).ss.cur 3 (by omega) (by omega)) ?_; rintro e w8 ⟨z, a4, hz, hz1, hz2, rfl, hc8, hg8⟩; have HX6 := Lib.hid ((HX5.out.drewN 1).grown hc8 hg8); have hz3 : z ≤ 2 := (by omega); clear hc8 hg8; have p0 := HX6.out.ss.sblk.cell 0; have p1 := HX6.out.ss.sblk.thaw 0; have r1 : IntKind.i64.wrap (cnt + (z : Int)) = cnt + (z : Int) := IntWalk.i64_in _ (by omega); have r2 : IntKind.i64.wrap (cnt + (z : Int) - 1) = cnt + (z : Int) - 1 := IntWalk.i64_in _ (by omega); refine ⟨_, rfl, ?_⟩)
        all_goals
          have HF := Lib.hid (HX6.out.cnt_ (cnt + (z : Int) - 1))
          go_wp2_with fail
          go_meet
          exact ⟨_, x, a4, by omega, by omega, HF.out⟩
      · go_wp2_with fail
        go_region_law (refine step_call rfl 81 _ _ rfl ent_pick (by simp [Act.eval, Act.put]) (pick_any w0 w5.drew g a3 zs hn (by omega) (HX5.out.drewN 1).ss.cur 3 (by omega) (by omega)) ?_; rintro e w8 ⟨z, a4, hz, hz1, hz2, rfl, hc8, hg8⟩; have HX6 := Lib.hid ((HX5.out.drewN 1).grown hc8 hg8); have hz3 : z ≤ 2 := (by omega); clear hc8 hg8; have p0 := HX6.out.xblk.cell 1; have p1 := HX6.out.xblk.thaw 1; have r1 : IntKind.i64.wrap (x.least + (z : Int)) = x.least + (z : Int) := IntWalk.i64_in _ (by omega); have r2 : IntKind.i64.wrap (x.least + (z : Int) - 1) = x.least + (z : Int) - 1 := IntWalk.i64_in _ (by omega); refine ⟨_, rfl, ?_⟩)
        all_goals
          have HF := Lib.hid (HX6.out.put 1 (x.least + (z : Int) - 1) (x' := ⟨x.value, x.least + (z : Int) - 1, x.most⟩) rfl)
          go_wp2_with fail
          go_meet
          exact ⟨_, _, a4, by omega, by omega, HF.out⟩
      · go_wp2_with fail
        go_region_law (refine step_call rfl 81 _ _ rfl ent_pick (by simp [Act.eval, Act.put]) (pick_any w0 w5.drew g a3 zs hn (by omega) (HX5.out.drewN 1).ss.cur 3 (by omega) (by omega)) ?_; rintro e w8 ⟨z, a4, hz, hz1, hz2, rfl, hc8, hg8⟩; have HX6 := Lib.hid ((HX5.out.drewN 1).grown hc8 hg8); have hz3 : z ≤ 2 := (by omega); clear hc8 hg8; have p0 := HX6.out.xblk.cell 2; have p1 := HX6.out.xblk.thaw 2; have r1 : IntKind.i64.wrap (x.most + (z : Int)) = x.most + (z : Int) := IntWalk.i64_in _ (by omega); have r2 : IntKind.i64.wrap (x.most + (z : Int) - 1) = x.most + (z : Int) - 1 := IntWalk.i64_in _ (by omega); refine ⟨_, rfl, ?_⟩)
        all_goals
          have HF := Lib.hid (HX6.out.put 2 (x.most + (z : Int) - 1) (x' := ⟨x.value, x.least, x.most + (z : Int) - 1⟩) rfl)
          go_wp2_with fail
          go_meet
          exact ⟨_, _, a4, by omega, by omega, HF.out⟩
      · have r1 : IntKind.i64.wrap (x.value + 1) = x.value + 1 := IntWalk.i64_in _ (by omega)
        have HLT := Lib.hid (Nat.lt_of_lt_of_le HX5.out.ss.lt HX5.out.ss.size)
        have HPL := Lib.hid (fun (W' : World) (hg : (w5.alloc (.cells (ints [100001, -100001, 3, x.value + 1]).toArray 3)).grownBy W' (some g)) => pool w5 [100001, -100001, 3, x.value + 1] hg HLT.out)
        have HX6 := Lib.hid (HX5.out.below ((Below.refl _ _).alloc (Nat.le_refl _) (.cells (ints [100001, -100001, 3, x.value + 1]).toArray 3)))
        go_wp2_with fail
        refine (among_any w0 _ g a3 zs hn (by omega) HX6.out.ss.cur (some ⟨w5.heap.size, 0, none⟩) 4 [100001, -100001, 3, x.value + 1] (by simp) (by simp) HPL.out).mono ?_
        rintro e w8 ⟨z, a4, _, hz1, hz2, rfl, hc8, hg8⟩
        have HX7 := Lib.hid (HX6.out.grown hc8 hg8)
        have p0 := HX7.out.xblk.cell 0
        have p1 := HX7.out.xblk.thaw 0
        have HF := Lib.hid (HX7.out.put 0 z (x' := ⟨z, x.least, x.most⟩) rfl)
        clear hc8 hg8 HPL
        go_wp2_with fail
        go_meet
        exact ⟨_, _, a4, by omega, by omega, HF.out⟩
      · obtain ⟨m, hm⟩ : ∃ m, m = ls.length - 1 := ⟨_, rfl⟩
        have hmc : m ≤ cs := by omega
        have r1 : IntKind.i64.wrap ((ls.length : Int) - 1) = (m : Int) := by rw [IntWalk.i64_in _ (by omega)]; omega
        have hru := fun W => run_upto (P := Try.prog) 27 51 _ 3 24 Try.underlying27 mem.info_rkv (some ⟨eb, 0, none⟩) ls.length cs m (m : Int) rfl hmc W
        rw [cutA_zero] at hru
        have HF := Lib.hid (fun (u y z : Value) => HX5.out.cutR (m := m) (by omega) (by omega) u y z)
        have HTL := Lib.hid (show (ls.take m).length = m by rw [List.length_take]; omega)
        have r0 := HX5.out.ss.rblk.cell 0
        have r2 := HX5.out.ss.rblk.cell 1
        have g0 := HX5.out.ss.rblk.thaw 0
        have g1 := HX5.out.ss.rblk.thaw 1
        have hne : sb ≠ rb := HX5.out.ss.hs.2.2
        clear hm
        go_wp2
        refine bodyPost_ret (v := .agg #[.int .i64 cnt, .slice (some ⟨eb, 0, none⟩) m cs]) (by simp [results, Try.results78, go_sem, r0, r2, s0, s1, hne, hne.symm]) rfl ?_
        first | exact ⟨cnt, _, ls.take m, cs, by rw [HTL.out], a3, HF.out _ _ _, by omega, by omega⟩ | exact ⟨cnt, _, ls.take m, cs, a3, by rw [HTL.out], HF.out _ _ _, by omega, by omega⟩
      · have y0 : ((y : Int) == 0) = false := by simp; omega
        have y1 : ((y : Int) == 1) = false := by simp; omega
        have y2 : ((y : Int) == 2) = false := by simp; omega
        have y3 : ((y : Int) == 3) = false := by simp; omega
        have y4 : ((y : Int) == 4) = false := by simp; omega
        have z0 : ¬ (y : Int) = 0 := by omega
        have z1 : ¬ (y : Int) = 1 := by omega
        have z2 : ¬ (y : Int) = 2 := by omega
        have z3 : ¬ (y : Int) = 3 := by omega
        have z4 : ¬ (y : Int) = 4 := by omega
        have z5 : (y == 0) = false := by simp; omega
        have z6 : (y == 1) = false := by simp; omega
        have z7 : (y == 2) = false := by simp; omega
        have z8 : (y == 3) = false := by simp; omega
        have z9 : (y == 4) = false := by simp; omega
        go_wp2_with fail
        go_meet
        exact ⟨_, _, a3, by omega, by omega, HX5.out⟩
    case rest =>
      obtain ⟨cnt', x', a4, ha7, ha8, hxa4⟩ := hcut
      have HXR := Lib.hid hxa4
      obtain ⟨wf, hwf⟩ : ∃ W : World, W = wc := ⟨_, rfl⟩
      rw [← hwf] at hxa4 HXR ⊢
      clear hwf HX5
      have s0 := hxa4.ss.sblk.cell 0
      have s1 := hxa4.ss.sblk.cell 1
      have x0 := hxa4.xblk.cell 0
      have x1 := hxa4.xblk.cell 1
      have x2 := hxa4.xblk.cell 2
      have r0 := hxa4.ss.rblk.cell 0
      have r2 := hxa4.ss.rblk.cell 1
      have g0 := hxa4.ss.rblk.thaw 0
      have g1 := hxa4.ss.rblk.thaw 1
      obtain ⟨c0, c1, c2⟩ := (own_rd hxa4.ss.os).rkv_at hql
      simp only [Nat.zero_add] at c0 c1 c2
      have hf := fun i => own_thaw hxa4.ss.os i
      have hne : sb ≠ rb := hxa4.ss.hs.2.2
      have hne2 : eb ≠ sb := fun e => hxa4.ss.fs.1 (by subst e; rfl)
      have hne3 : eb ≠ rb := fun e => hxa4.ss.fs.2 (by subst e; rfl)
      have HF := Lib.hid (fun (y z : Value) => ((HXR.out.set hql).fin y z).rs (List.length_set).symm (by rw [List.length_set]; omega))
      have HTL := Lib.hid (show (ls.set q x').length = ls.length from List.length_set)
      clear hxa4
      go_wp2
      refine bodyPost_ret (v := .agg #[.int .i64 cnt', .slice (some ⟨eb, 0, none⟩) ls.length cs]) (by simp [results, Try.results78, go_sem, r0, r2, s0, s1, hne, hne.symm, hne2, hne3, hne2.symm, hne3.symm]) rfl ?_
      first | exact ⟨cnt', _, ls.set q x', cs, by rw [HTL.out], a4, HF.out _ _, by omega, by omega⟩ | exact ⟨cnt', _, ls.set q x', cs, a4, by rw [HTL.out], HF.out _ _, by omega, by omega⟩
end Go.Proofs.Ytlckeefjhafloaa.drw
