/- A drawn summary and a list that it describes. Condition: a code of at most 2^20 bytes. -/
import Derived.Test.YtlckeefjhafloaaDrwIntV
import Derived.Test.YtlckeefjhafloaaFitMore
import Derived.Test.YtlckeefjhafloaaSmyMgU
import Derived.Test.YtlckeefjhafloaaSmyPrS
import Derived.Test.YtlckeefjhafloaaSmyOfS
import Derived.Deep.DeepCutAuto
import Derived.Deep.RegionLaw
import Derived.Deep.LoopGhost
set_option linter.unusedVariables false
set_option linter.unusedSimpArgs false
namespace Go.Proofs.Ytlckeefjhafloaa.drw
open Go.RowKit Go.Proofs.Ytlckeefjhafloaa.mem Go.Proofs.Ytlckeefjhafloaa.cur Go.Proofs.Ytlckeefjhafloaa.smy
open Go.Proofs.Ytlckeefjhafloaa.srt (srt)
open Go.Proofs.Ytlckeefjhafloaa.smyOf (exk)

theorem below_gb {w w' : World} (h : Below w.heap.size w w') (k : Nat) : w.grownBy w' (some k) := ⟨h.os, h.tape, h.output, h.size, fun i hi _ => h.block i hi⟩
/-- a cursor, a summary in a block, its entries and a list of the call's own, and the block of the result, since the world w1 -/
structure SS (w0 w1 w : World) (g : Nat) (zs : List Int) (a sb rb : Nat) (cnt : Int) (vs : Value) (ls : List Rkv) (vl : Value) (ll : List Int) : Prop where
  cur : Cur w0 w g zs a
  os : w.ownsRow w1.heap.size 51 3 vs ls.length (rkvs ls)
  ol : w.ownsRow w1.heap.size 3 1 vl ll.length (ints ll)
  ap : vs.ownBlock = none ∨ vs.ownBlock ≠ vl.ownBlock
  gr : w1.grownBy w (some g)
  lt : g < w1.heap.size
  sblk : Blk w sb 29 #[.int .i64 cnt, vs]
  rblk : Blk w rb 29 #[.int .i64 0, .slice none 0 0]
  hs : w1.heap.size ≤ sb ∧ w1.heap.size ≤ rb ∧ sb ≠ rb
  fs : vs.ownBlock ≠ some sb ∧ vs.ownBlock ≠ some rb
  fl : vl.ownBlock ≠ some sb ∧ vl.ownBlock ≠ some rb
section
variable {w0 w1 w w' : World} {g a a' sb rb k : Nat} {zs ll : List Int} {cnt : Int} {vs vl v' : Value} {ls : List Rkv}
theorem SS.size (h : SS w0 w1 w g zs a sb rb cnt vs ls vl ll) : w1.heap.size ≤ w.heap.size := h.gr.size
theorem SS.step (h : SS w0 w1 w g zs a sb rb cnt vs ls vl ll) (hg : w.grownBy w' (some k)) (h1 : k ≠ sb) (h2 : k ≠ rb) (h3 : vs.ownBlock ≠ some k) (h4 : vl.ownBlock ≠ some k) (hc : Cur w0 w' g zs a') (hr : w1.grownBy w' (some g)) : SS w0 w1 w' g zs a' sb rb cnt vs ls vl ll :=
  ⟨hc, h.os.kept hg (Or.inr h3), h.ol.kept hg (Or.inr h4), h.ap, hr, h.lt, h.sblk.grown hg (fun e => h1 (Option.some.inj e).symm), h.rblk.grown hg (fun e => h2 (Option.some.inj e).symm), h.hs, h.fs, h.fl⟩
theorem SS.ng (h : SS w0 w1 w g zs a sb rb cnt vs ls vl ll) : g ≠ sb ∧ g ≠ rb ∧ vs.ownBlock ≠ some g ∧ vl.ownBlock ≠ some g :=
  ⟨by have := h.hs; have := h.lt; omega, by have := h.hs; have := h.lt; omega, fun e => by have := own_ge h.os _ e; have := h.lt; omega, fun e => by have := own_ge h.ol _ e; have := h.lt; omega⟩
theorem SS.grown (h : SS w0 w1 w g zs a sb rb cnt vs ls vl ll) (hc : Cur w0 w' g zs a') (hg : w.grownBy w' (some g)) : SS w0 w1 w' g zs a' sb rb cnt vs ls vl ll :=
  h.step hg h.ng.1 h.ng.2.1 h.ng.2.2.1 h.ng.2.2.2 hc (Cur.then_grown h.gr hg)
theorem SS.below (h : SS w0 w1 w g zs a sb rb cnt vs ls vl ll) (hb : Below w.heap.size w w') : SS w0 w1 w' g zs a sb rb cnt vs ls vl ll :=
  h.grown (h.cur.below hb) (below_gb hb g)
theorem SS.fresh (h : SS w0 w1 w g zs a sb rb cnt vs ls vl ll) {e : TypeId} {n sz : Nat} {xs : List Value} {W : World} (ho : W.ownsRow w.heap.size e sz v' n xs) : v'.ownBlock ≠ some sb ∧ v'.ownBlock ≠ some rb ∧ (v'.ownBlock = none ∨ v'.ownBlock ≠ vl.ownBlock) ∧ (v'.ownBlock = none ∨ v'.ownBlock ≠ vs.ownBlock) ∧ v'.ownBlock ≠ some g :=
  ⟨fun e => by have := own_ge ho _ e; have := h.sblk.lt; omega, fun e => by have := own_ge ho _ e; have := h.rblk.lt; omega, apt_above (fun k hk => own_ge ho _ hk) (fun k hk => own_lt h.ol _ hk), apt_above (fun k hk => own_ge ho _ hk) (fun k hk => own_lt h.os _ hk), fun e => by have := own_ge ho _ e; have := h.cur.lt; omega⟩
/-- a new summary in its block -/
theorem SS.put (h : SS w0 w1 w g zs a sb rb cnt vs ls vl ll) {cnt' : Int} {ls' : List Rkv} (ho : w.ownsRow w1.heap.size 51 3 v' ls'.length (rkvs ls')) (hf : v'.ownBlock ≠ some sb ∧ v'.ownBlock ≠ some rb ∧ (v'.ownBlock = none ∨ v'.ownBlock ≠ vl.ownBlock)) : SS w0 w1 ((w.setCell ⟨sb, 0, none⟩ (.int .i64 cnt')).setCell ⟨sb, 1, none⟩ v') g zs a sb rb cnt' v' ls' vl ll := by
  have hg : w.grownBy ((w.setCell ⟨sb, 0, none⟩ (.int .i64 cnt')).setCell ⟨sb, 1, none⟩ v') (some sb) := only_put (only_put (World.grownBy.refl w (some sb)) 0 _) 1 _
  exact ⟨h.cur.grown hg (fun k e => by injection e with e; subst e; exact ⟨by have := h.hs; have := h.lt; have := h.cur.hi; omega, fun e => h.ng.1 e.symm⟩), ho.kept hg (Or.inr hf.1), h.ol.kept hg (Or.inr h.fl.1), hf.2.2, grown_above h.gr hg (fun x e => by injection e with e; subst e; exact h.hs.1), h.lt, (h.sblk.put 0 _).put 1 _, h.rblk.grown hg (fun e => h.hs.2.2 (Option.some.inj e).symm), h.hs, ⟨hf.1, hf.2.1⟩, h.fl⟩
/-- a new list -/
theorem SS.list (h : SS w0 w1 w g zs a sb rb cnt vs ls vl ll) {ll' : List Int} (ho : w.ownsRow w1.heap.size 3 1 v' ll'.length (ints ll')) (hf : v'.ownBlock ≠ some sb ∧ v'.ownBlock ≠ some rb ∧ (v'.ownBlock = none ∨ v'.ownBlock ≠ vs.ownBlock)) : SS w0 w1 w g zs a sb rb cnt vs ls v' ll' :=
  ⟨h.cur, h.os, ho, sep_symm hf.2.2, h.gr, h.lt, h.sblk, h.rblk, h.hs, h.fs, ⟨hf.1, hf.2.1⟩⟩
end
/-- a second summary and a second list beside them, since the world wr -/
structure MO (w0 w1 wr w : World) (g : Nat) (zs : List Int) (a sb rb ob : Nat) (cnt : Int) (vs : Value) (ls : List Rkv) (vl : Value) (ll : List Int) (vm : Value) (m : List Int) (vo : Value) (lo : List Rkv) : Prop where
  ss : SS w0 w1 w g zs a sb rb cnt vs ls vl ll
  om : w.ownsRow wr.heap.size 3 1 vm m.length (ints m)
  oo : w.ownsRow wr.heap.size 51 3 vo lo.length (rkvs lo)
  oblk : Blk w ob 29 #[.int .i64 (m.length : Int), vo]
  hob : wr.heap.size ≤ ob
  old : sb < wr.heap.size ∧ rb < wr.heap.size ∧ g < wr.heap.size ∧ w1.heap.size ≤ wr.heap.size ∧ (∀ k, vs.ownBlock = some k → k < wr.heap.size) ∧ (∀ k, vl.ownBlock = some k → k < wr.heap.size)
  fm : vm.ownBlock ≠ some ob
  fo : vo.ownBlock ≠ some ob
section
variable {w0 w1 wr w w' : World} {g a a' sb rb ob : Nat} {zs ll m : List Int} {cnt : Int} {vs vl v' vm vo : Value} {ls lo : List Rkv}
theorem MO.grown (h : MO w0 w1 wr w g zs a sb rb ob cnt vs ls vl ll vm m vo lo) (hc : Cur w0 w' g zs a') (hg : w.grownBy w' (some g)) : MO w0 w1 wr w' g zs a' sb rb ob cnt vs ls vl ll vm m vo lo :=
  ⟨h.ss.grown hc hg, h.om.kept hg (Or.inr (fun e => by have := own_ge h.om _ e; have := h.old; omega)), h.oo.kept hg (Or.inr (fun e => by have := own_ge h.oo _ e; have := h.old; omega)), h.oblk.grown hg (fun e => by injection e with e; have := h.hob; have := h.old; omega), h.hob, h.old, h.fm, h.fo⟩
theorem MO.below (h : MO w0 w1 wr w g zs a sb rb ob cnt vs ls vl ll vm m vo lo) (hb : Below w.heap.size w w') : MO w0 w1 wr w' g zs a sb rb ob cnt vs ls vl ll vm m vo lo :=
  h.grown (h.ss.cur.below hb) (below_gb hb g)
theorem MO.put (h : MO w0 w1 wr w g zs a sb rb ob cnt vs ls vl ll vm m vo lo) {lo' : List Rkv} (ho : w.ownsRow wr.heap.size 51 3 v' lo'.length (rkvs lo')) (hf : v'.ownBlock ≠ some ob) : MO w0 w1 wr ((w.setCell ⟨ob, 0, none⟩ (.int .i64 (m.length : Int))).setCell ⟨ob, 1, none⟩ v') g zs a sb rb ob cnt vs ls vl ll vm m v' lo' := by
  have hg : w.grownBy ((w.setCell ⟨ob, 0, none⟩ (.int .i64 (m.length : Int))).setCell ⟨ob, 1, none⟩ v') (some ob) := only_put (only_put (World.grownBy.refl w (some ob)) 0 _) 1 _
  have h0 := h.old
  have h1 := h.hob
  refine ⟨h.ss.step hg (by omega) (by omega) (fun e => by have := h0.2.2.2.2.1 _ e; omega) (fun e => by have := h0.2.2.2.2.2 _ e; omega) (h.ss.cur.grown hg (fun k e => by injection e with e; subst e; have := h.ss.cur.hi; exact ⟨by omega, by omega⟩)) (grown_above h.ss.gr hg (fun x e => by injection e with e; omega)), h.om.kept hg (Or.inr h.fm), ho.kept hg (Or.inr hf), (h.oblk.put 0 _).put 1 _, h1, h0, h.fm, hf⟩
theorem MO.drewN (h : MO w0 w1 wr w g zs a sb rb ob cnt vs ls vl ll vm m vo lo) (n : Nat) : MO w0 w1 wr (w.drewN n) g zs a sb rb ob cnt vs ls vl ll vm m vo lo :=
  h.below (below_drewN (Below.refl _ _) n)
theorem SS.drewN (h : SS w0 w1 w g zs a sb rb cnt vs ls vl ll) (n : Nat) : SS w0 w1 (w.drewN n) g zs a sb rb cnt vs ls vl ll :=
  h.below (below_drewN (Below.refl _ _) n)
end
/-- what the draw promises of its summary and its list -/
def OkD (cnt : Int) (ls : List Rkv) (ll : List Int) : Prop := vsmy cnt ls = true ∧ cnt = (ll.length : Int) ∧ ll.length ≤ 64 ∧ (∀ z ∈ ll, -100000 ≤ z ∧ z ≤ 100000)
theorem vlist_of {l : List Int} (h : l.length ≤ 64) (hv : ∀ z ∈ l, -100000 ≤ z ∧ z ≤ 100000) : lists.vlist l = true := by
  rw [lists.vlist_short h, List.all_eq_true]
  exact fun z hz => Go.Proofs.Ytlckeefjhafloaa.ins.inB_iff.2 (hv z hz)
theorem len_le {cnt : Int} {l : List Rkv} (h : vsmy cnt l = true) : (l.length : Int) ≤ cnt := by
  have hc := vsmy_cnt h
  by_cases h0 : l.length = 0
  · omega
  · have key : ∀ i (hi : i < l.length), (i : Int) + 1 ≤ l[i].least := by
      intro i
      induction i with
      | zero => intro hi; have := vsmy_at h hi; omega
      | succ i ih => intro hi; have a := ih (by omega); have b := vsmy_next h hi; omega
    have a := key (l.length - 1) (by omega)
    have b := vsmy_at h (show l.length - 1 < l.length by omega)
    omega
theorem okD_exact {l : List Int} (h : l.length ≤ 64) (hv : ∀ z ∈ l, -100000 ≤ z ∧ z ≤ 100000) : OkD (l.length : Int) (exk (srt l) l.length) l :=
  ⟨fitLaw.vsmy_exact (vlist_of h hv), rfl, h, hv⟩
theorem okD_union {ca cb : Int} {a b : List Rkv} {la lb : List Int} (ha : OkD ca a la) (hb : OkD cb b lb) (h : la.length + lb.length ≤ 64) : OkD (ca + cb) (mgLaw.union ca cb a b) (la ++ lb) := by
  have e1 := len_le ha.1
  have e2 := len_le hb.1
  have f1 := ha.2.1
  have f2 := hb.2.1
  refine ⟨fitLaw.vsmy_union ha.1 hb.1 (by omega) (by omega), by rw [List.length_append]; omega, by rw [List.length_append]; exact h, fun z hz => ?_⟩
  rcases List.mem_append.1 hz with h1 | h1
  · exact ha.2.2.2 z h1
  · exact hb.2.2.2 z h1
theorem okD_pick {cnt size : Int} {l : List Rkv} {ll : List Int} (h : OkD cnt l ll) (h0 : ¬ cnt = 0) (h1 : 1 ≤ size) : OkD cnt (prLaw.pick cnt l size (size.toNat + 1) l.length) ll :=
  ⟨(fitLaw.pruned h.1 h0 h1).1, h.2⟩
theorem okD_pos {cnt : Int} {l : List Rkv} {ll : List Int} (h : OkD cnt l ll) (h0 : 2 < cnt) : 0 < l.length := by
  have := (vsmy_cnt h.1).2.2.2
  by_cases e : l.length = 0
  · have := this.1 e; omega
  · omega
/-- what is left behind the draw -/
structure CS (w0 w1 w : World) (g : Nat) (zs : List Int) (a : Nat) (vs : Value) (ls : List Rkv) (vl : Value) (ll : List Int) : Prop where
  cur : Cur w0 w g zs a
  os : w.ownsRow w1.heap.size 51 3 vs ls.length (rkvs ls)
  ol : w.ownsRow w1.heap.size 3 1 vl ll.length (ints ll)
  ap : vs.ownBlock = none ∨ vs.ownBlock ≠ vl.ownBlock
  gr : w1.grownBy w (some g)
  lt : g < w1.heap.size
theorem SS.fin {w0 w1 w : World} {g a sb rb : Nat} {zs ll : List Int} {cnt : Int} {vs vl : Value} {ls : List Rkv} (h : SS w0 w1 w g zs a sb rb cnt vs ls vl ll) (x y : Value) : CS w0 w1 ((w.setCell ⟨rb, 0, none⟩ x).setCell ⟨rb, 1, none⟩ y) g zs a vs ls vl ll := by
  have hg : w.grownBy ((w.setCell ⟨rb, 0, none⟩ x).setCell ⟨rb, 1, none⟩ y) (some rb) := only_put (only_put (World.grownBy.refl w (some rb)) 0 _) 1 _
  exact ⟨h.cur.grown hg (fun k e => by injection e with e; subst e; exact ⟨by have := h.hs; have := h.lt; have := h.cur.hi; omega, fun e => h.ng.2.1 e.symm⟩), h.os.kept hg (Or.inr h.fs.2), h.ol.kept hg (Or.inr h.fl.2), h.ap, grown_above h.gr hg (fun x e => by injection e with e; subst e; exact h.hs.2.1), h.lt⟩
set_option maxRecDepth 100000 in
theorem ent_pick : ∀ (vs : Array Value) (W : World), (callFunc 81 vs).run Try.prog W = .ok (.enter 81 vs) W := fun _ _ => rfl
set_option maxRecDepth 100000 in
theorem ent_pruned : ∀ (vs : Array Value) (W : World), (callFunc 69 vs).run Try.prog W = .ok (.enter 69 vs) W := fun _ _ => rfl
set_option maxRecDepth 100000 in
set_option maxHeartbeats 8000000 in
theorem summary_any (w0 w : World) (g a : Nat) (zs : List Int) (hn : zs.length ≤ 1048576) (ha : a ≤ 1099511600000) (h : Cur w0 w g zs a) :
    Calls Try.prog 80 #[.pointer (some ⟨g, 0, none⟩)] w fun e w' => ∃ (cnt : Int) (vs : Value) (ls : List Rkv) (vl : Value) (ll : List Int) (a' : Nat), e = .returned (.tuple #[.agg #[.int .i64 cnt, vs], vl]) ∧ CS w0 w w' g zs a' vs ls vl ll ∧ OkD cnt ls ll ∧ a ≤ a' ∧ a' ≤ a + 1000 := by
  have hgl := h.lt
  have HA := Lib.hid (h.below ((Below.refl w.heap.size w).alloc (Nat.le_refl _) (.cells #[.int .i64 0, .slice none 0 0] 29)))
  have HRB := Lib.hid (Blk.new w 29 #[.int .i64 0, .slice none 0 0])
  clear h
  go_enter Try.func80, Try.ntmps80
  go_wp2_with fail
  refine (ints_val w0 _ g a zs hn (by omega) HA.out).mono ?_
  rintro e w1 ⟨vl, l, a1, rfl, hci, hl23, ha1, ha2, hval⟩
  obtain ⟨Al, cl, rfl, hlc, hlm, hrl⟩ := own_form hci.own
  have HCI := Lib.hid hci
  have HE := Lib.hid (smyOf.exact_any Al cl l w1 (by omega) hrl)
  have HOK := Lib.hid (okD_exact (l := l) (by omega) hval)
  clear hci hval hrl
  go_wp2_with fail
  with_reducible refine HE.out.mono ?_
  rintro e w2 ⟨v2, rfl, ho2, hb2⟩
  generalize exk (srt l) l.length = x2 at ho2 HOK
  obtain ⟨A2, c2, rfl, _, _, _⟩ := own_form ho2.1
  have hge1 : w.heap.size < w1.heap.size := by have := HCI.out.gr.size; simp at this; omega
  have hge2 := hb2.size
  have HSS := Lib.hid (show SS w0 w (w2.alloc (.cells #[.int .i64 (l.length : Int), .slice A2 x2.length c2] 29)) g zs a1 w2.heap.size w.heap.size (l.length : Int) (.slice A2 x2.length c2) x2 (.slice Al l.length cl) l from by
    have hci := HCI.out
    have hol := hci.own
    have o1 := own_ge ho2.1
    have o2 := own_lt ho2.1
    have p1 := own_ge hol
    have p2 := own_lt hol
    have hba := (Below.refl w2.heap.size w2).alloc (Nat.le_refl _) (.cells #[.int .i64 (l.length : Int), .slice A2 x2.length c2] 29)
    have hsz : (w.alloc (.cells #[.int .i64 0, .slice none 0 0] 29)).heap.size = w.heap.size + 1 := by simp
    rw [hsz] at p1
    exact ⟨(hci.cur.below hb2).below hba, own_below (own_base ho2.1 (by omega)) hba, own_below (own_below (own_base hol (by rw [hsz]; omega)) hb2) hba, apt_above o1 p2, Cur.then_grown (Cur.then_grown (Cur.then_grown (World.grownBy_alloc w _ (some g)) hci.gr) (below_gb hb2 g)) (World.grownBy_alloc w2 _ (some g)), hgl, Blk.new _ _ _, ((HRB.out.grown hci.gr (fun e => by injection e with e; omega)).below hb2 (by omega)).alloc _, ⟨by omega, Nat.le_refl _, by omega⟩, ⟨fun e => by have := o2 _ e; omega, fun e => by have := o1 _ e; omega⟩, ⟨fun e => by have := p2 _ e; omega, fun e => by have := p1 _ e; omega⟩⟩)
  clear HCI HE ho2 hb2 HRB HA
  go_wp2_with fail
  obtain ⟨sb, hsb⟩ : ∃ sb, sb = w2.heap.size := ⟨_, rfl⟩
  obtain ⟨rb, hrb⟩ : ∃ rb, rb = w.heap.size := ⟨_, rfl⟩
  rw [← hsb, ← hrb] at HSS ⊢
  refine (pick_any w0 _ g a1 zs hn (by omega) HSS.out.cur 3 (by omega) (by omega)).mono ?_
  rintro e w3 ⟨x, a2, hx, ha3, ha4, rfl, hc3, hg3⟩
  have HS3 := Lib.hid (HSS.out.grown hc3 hg3)
  have hx2 : x ≤ 2 := by omega
  have hA : a ≤ a2 ∧ a2 ≤ a + 202 := by omega
  have HL := Lib.hid (show l.length ≤ 64 by omega)
  clear hc3 hg3 HSS hx ha1 ha2 ha3 ha4 hsb hrb hge1 hge2 hl23 hlc hlm
  go_wp2
  go_loopg [4, 6] 40 (fun f v i wr => ∃ (x a3 : Nat) (cnt : Int) (vs : Value) (ls : List Rkv) (ll : List Int), x < f ∧ x ≤ 2 ∧ a ≤ a3 ∧ a3 + 210 * x ≤ a + 202 + 420 ∧ i = .int .i64 (x : Int) ∧ SS w0 w wr g zs a3 sb rb cnt vs ls v ll ∧ OkD cnt ls ll)
  case atStart => exact ⟨x, a2, _, _, _, _, by omega, by omega, by omega, by omega, rfl, HS3.out, HOK.out⟩
  case round =>
    obtain ⟨x, a3, cnt, vs, ls, ll, hxf, hx2, ha3, ha3b, rfl, hss, hok⟩ := hrel
    have HS := Lib.hid hss
    have HO := Lib.hid hok
    obtain ⟨Av, cv, rfl, hvc, hvm, _⟩ := own_form hss.ol
    obtain ⟨As, cs, rfl, _, _, _⟩ := own_form hss.os
    clear hss hok HS3 HOK
    by_cases hpos : 0 < x
    · have q1 : (0 : Int) < (x : Int) := by omega
      go_wp2_with fail
      refine (ints_val w0 wr g a3 zs hn (by omega) HS.out.cur).mono ?_
      rintro e w4 ⟨vm, m, a4, rfl, hci, hm23, ha4, ha5, hval⟩
      obtain ⟨Am, cm, rfl, hmc, hmm, hrm⟩ := own_form hci.own
      have HS4 := Lib.hid (HS.out.grown hci.cur hci.gr)
      have hll := HO.out.2.2.1
      have q2 : IntKind.i64.wrap ((ll.length : Int) + (m.length : Int)) = (ll.length : Int) + (m.length : Int) := IntWalk.i64_in _ (by omega)
      by_cases h64 : (64 : Int) < (ll.length : Int) + (m.length : Int)
      · have s0 := HS4.out.sblk.cell 0
        have s1 := HS4.out.sblk.cell 1
        have r0 := HS4.out.rblk.cell 0
        have r1 := HS4.out.rblk.cell 1
        have f0 := HS4.out.rblk.thaw 0
        have f1 := HS4.out.rblk.thaw 1
        have HEND := Lib.hid (HS4.out.fin (.int .i64 cnt) (.slice As ls.length cs))
        clear hci hval hrm
        go_wp2
        (refine bodyPost_ret (v := .tuple #[.agg #[.int .i64 cnt, .slice As ls.length cs], .slice Av ll.length cv]) (by simp [results, Try.results80, go_sem, r0, r1]) rfl ?_; first | exact ⟨cnt, _, ls, _, rfl, ll, _, HEND.out, HO.out, by omega, by omega⟩ | exact ⟨cnt, _, ls, _, ll, _, rfl, HEND.out, HO.out, by omega, by omega⟩)
      · have HE := Lib.hid (smyOf.exact_any Am cm m w4 (by omega) hrm)
        have HOM := Lib.hid (okD_exact (l := m) (by omega) hval)
        have HCI := Lib.hid hci
        have hsw := HCI.out.gr.size
        clear hci hval hrm
        go_wp2_with fail
        with_reducible refine HE.out.mono ?_
        rintro e w5 ⟨vo, rfl, ho5, hb5⟩
        generalize exk (srt m) m.length = lo at ho5 HOM
        obtain ⟨Ao, co, rfl, _, _, _⟩ := own_form ho5.1
        have HMO := Lib.hid (show MO w0 w wr (w5.alloc (.cells #[.int .i64 (m.length : Int), .slice Ao lo.length co] 29)) g zs a4 sb rb w5.heap.size cnt (.slice As ls.length cs) ls (.slice Av ll.length cv) ll (.slice Am m.length cm) m (.slice Ao lo.length co) lo from by
          have hba := (Below.refl w5.heap.size w5).alloc (Nat.le_refl _) (.cells #[.int .i64 (m.length : Int), .slice Ao lo.length co] 29)
          have hs5 := hb5.size
          have hs := HS.out
          exact ⟨(HS4.out.below hb5).below hba, own_below (own_below HCI.out.own hb5) hba, own_below (own_base ho5.1 hsw) hba, Blk.new _ _ _, by omega, ⟨hs.sblk.lt, hs.rblk.lt, hs.cur.lt, hs.size, own_lt hs.os, own_lt hs.ol⟩, fun e => by have := own_lt HCI.out.own _ e; omega, fun e => by have := own_lt ho5.1 _ e; omega⟩)
        clear HS4 HE HCI ho5 hb5 hsw hmc hmm
        go_upto_region 9 with fail
        obtain ⟨ob, hob⟩ : ∃ ob, ob = w5.heap.size := ⟨_, rfl⟩
        rw [← hob] at HMO ⊢
        clear hob
        go_cut [35] (fun s wx => ∃ (t : Bool) (a' : Nat), s = .bool t ∧ (t = true → 2 < m.length) ∧ a4 ≤ a' ∧ a' ≤ a4 + 2 ∧ MO w0 w wr wx g zs a' sb rb ob cnt (.slice As ls.length cs) ls (.slice Av ll.length cv) ll (.slice Am m.length cm) m (.slice Ao lo.length co) lo)
        case first =>
          go_wp2_with fail
          refine (one_any w0 _ g a4 zs hn (by omega) HMO.out.ss.cur 2 (by omega) (by omega)).mono ?_
          rintro e w6 ⟨bb, a5, ha6, ha7, rfl, hc6, hg6⟩
          have HM6 := Lib.hid (HMO.out.grown hc6 hg6)
          clear hc6 hg6 HMO
          cases bb with
          | false =>
            go_wp2_with fail
            go_meet
            exact ⟨false, a5, rfl, (fun h => by cases h), ha6, ha7, HM6.out⟩
          | true =>
            by_cases h2 : 2 < m.length
            · have q3 : (2 : Int) < (m.length : Int) := by omega
              go_wp2_with fail
              go_meet
              exact ⟨true, a5, rfl, fun _ => h2, ha6, ha7, HM6.out⟩
            · have q3 : ¬ (2 : Int) < (m.length : Int) := by omega
              have q3d : decide ((2 : Int) < (m.length : Int)) = false := decide_eq_false q3
              go_wp2_with fail
              go_meet
              exact ⟨false, a5, rfl, (fun h => by cases h), ha6, ha7, HM6.out⟩
        case rest =>
          obtain ⟨t, a5, rfl, ht, ha6, ha7, hmo⟩ := hcut
          obtain ⟨wd, hwd⟩ : ∃ W : World, W = wc := ⟨_, rfl⟩
          rw [← hwd] at hmo ⊢
          clear hwd HMO
          go_upto_if 35 with fail
          go_cut [] (fun wx => ∃ (Ao' : Option Addr) (co' : Nat) (lo' : List Rkv) (a' : Nat), a5 ≤ a' ∧ a' ≤ a5 + 2 ∧ OkD (m.length : Int) lo' m ∧ MO w0 w wr wx g zs a' sb rb ob cnt (.slice As ls.length cs) ls (.slice Av ll.length cv) ll (.slice Am m.length cm) m (.slice Ao' lo'.length co') lo')
          case first =>
            cases t with
            | false =>
              go_wp2_with fail
              go_meet
              exact ⟨Ao, co, lo, a5, by omega, by omega, HOM.out, hmo⟩
            | true =>
              have h2 := ht rfl
              clear ht
              have o0 := hmo.oblk.cell 0
              have o1 := hmo.oblk.cell 1
              have f0 := hmo.oblk.thaw 0
              have f1 := hmo.oblk.thaw 1
              have HM := Lib.hid hmo
              have HLO := Lib.hid (And.intro (okD_pos HOM.out (by omega)) (len_le HOM.out.1))
              go_wp2_with fail
              go_region_law (first
                | (refine step_call rfl 81 _ _ rfl ent_pick (by simp [Act.eval, Act.put]) (pick_any w0 wd.drew g a5 zs hn (by omega) (HM.out.drewN 1).ss.cur 3 (by omega) (by omega)) ?_; rintro e w8 ⟨y, a6, hy, hy1, hy2, rfl, hc8, hg8⟩; have HM8 := Lib.hid ((HM.out.drewN 1).grown hc8 hg8); have p0 := HM8.out.oblk.cell 0; have p1 := HM8.out.oblk.cell 1; have hy3 : y ≤ 2 := (by omega); have r1 : IntKind.i64.wrap (1 + (y : Int)) = 1 + (y : Int) := IntWalk.i64_in _ (by omega); clear hc8 hg8; refine ⟨_, rfl, ?_⟩)
                | (refine step_call rfl 69 _ _ rfl ent_pruned (by simp [Act.eval, Act.put]) (smyPr.pruned_any (cnt := (m.length : Int)) Ao co lo (1 + (y : Int)) w8 (by have := HLO.out; omega) HOM.out.1 HLO.out.1 (by omega) (by omega) (own_rd HM8.out.oo)) ?_; rintro e w9 ⟨vp, rfl, ho9, hb9⟩; have HM9 := Lib.hid (HM8.out.below hb9); have HPK := Lib.hid (okD_pick HOM.out (size := 1 + (y : Int)) (by omega) (by omega)); have hl9 := HM8.out.hob; generalize prLaw.pick (m.length : Int) lo (1 + (y : Int)) ((1 + (y : Int)).toNat + 1) lo.length = lp at ho9 HPK; obtain ⟨Ap, cp, rfl, _, _, _⟩ := own_form ho9.1; have HPT := Lib.hid (HM9.out.put (own_base ho9.1 (by have := HM8.out.oblk.lt; omega)) (fun e => by have := own_ge ho9.1 _ e; have := HM8.out.oblk.lt; omega)); have z0 := HM9.out.oblk.cell 0; have z1 := HM9.out.oblk.cell 1; have z2 := HM9.out.oblk.thaw 0; have z3 := HM9.out.oblk.thaw 1; clear ho9 hb9; refine ⟨_, rfl, ?_⟩))
              all_goals
                go_wp2_with fail
                go_meet
                exact ⟨Ap, cp, lp, a6, by omega, by omega, HPK.out, HPT.out⟩
          case rest =>
            obtain ⟨Ao', co', lo', a6, ha8, ha9, hom, hmo⟩ := hcut
            obtain ⟨we, hwe⟩ : ∃ W : World, W = wc := ⟨_, rfl⟩
            rw [← hwe] at hmo ⊢
            clear hwe
            have HM := Lib.hid hmo
            have HOA := Lib.hid (show ls.length ≤ 64 ∧ lo'.length ≤ 64 ∧ 0 ≤ cnt ∧ cnt ≤ 1000 ∧ cnt = (ll.length : Int) from by
              have e1 := vsmy_cnt HO.out.1
              have e2 := vsmy_cnt hom.1
              exact ⟨e1.2.2.1, e2.2.2.1, e1.1, e1.2.1, HO.out.2.1⟩)
            have HU := Lib.hid (smyMg.union_any (ca := cnt) (cb := (m.length : Int)) As cs ls Ao' co' lo' we HOA.out.1 HOA.out.2.1 (smyQ.bd_of HO.out.1) (smyQ.bd_of hom.1) HOA.out.2.2.1 HOA.out.2.2.2.1 (by omega) (by omega) (own_rd hmo.ss.os) (own_rd hmo.oo))
            have HOU := Lib.hid (okD_union HO.out hom (by omega))
            have s0 := hmo.ss.sblk.cell 0
            have s1 := hmo.ss.sblk.cell 1
            have o0 := hmo.oblk.cell 0
            have o1 := hmo.oblk.cell 1
            clear hmo hom
            generalize mgLaw.union cnt (m.length : Int) ls lo' = lu at HU HOU
            go_wp2_with fail
            with_reducible refine HU.out.mono ?_
            rintro e w10 ⟨vu, rfl, hou, hbu⟩
            obtain ⟨Au, cu, rfl, _, _, _⟩ := own_form hou.1
            have HS10 := Lib.hid (HM.out.ss.below hbu)
            have HP10 := Lib.hid (HS10.out.put (cnt' := cnt + (m.length : Int)) (own_base hou.1 HM.out.ss.size) ⟨(HM.out.ss.fresh hou.1).1, (HM.out.ss.fresh hou.1).2.1, (HM.out.ss.fresh hou.1).2.2.1⟩)
            have HM10 := Lib.hid ((own_below HM.out.om hbu).kept (only_put (only_put (World.grownBy.refl w10 (some sb)) 0 (.int .i64 (cnt + (m.length : Int)))) 1 (.slice Au lu.length cu)) (Or.inr (fun e => by have := own_ge HM.out.om _ e; have := HM.out.old; omega)))
            have f0 := HS10.out.sblk.thaw 0
            have f1 := HS10.out.sblk.thaw 1
            have z0 := HS10.out.sblk.cell 0
            have z1 := HS10.out.sblk.cell 1
            clear s0 s1 o0 o1 hou hbu HU
            go_wp2_with fail
            obtain ⟨w11, hw11⟩ : ∃ W : World, W = ((w10.setCell ⟨sb, 0, none⟩ (.int .i64 (cnt + (m.length : Int)))).setCell ⟨sb, 1, none⟩ (.slice Au lu.length cu)) := ⟨_, rfl⟩
            rw [← hw11] at HP10 HM10 ⊢
            clear hw11 f0 f1 z0 z1 HS10 HM
            have HCP := Lib.hid (copyInt.spec_any Av cv ll w11 (by omega) (own_rd HP10.out.ol))
            with_reducible refine HCP.out.mono ?_
            rintro e w12 ⟨vc, rfl, hoc, hbc⟩
            obtain ⟨Ac, cc, rfl, _, _, _⟩ := own_form hoc
            have rm := (own_rd HM10.out).below hbc
            have hh : ll.length + m.length ≤ 1099511627776 := by omega
            have hs := hbc.size
            go_upto_region 13 with (at_builtin; refine mem.extend _ rfl _ _ 24 rfl w11.heap.size 3 _ 1 8 Try.underlying24 mem.info_int rfl Nat.one_pos _ _ _ rfl hoc _ _ _ _ rfl rm (mem.ints_one m) hh (by decide) hs ?_; intro v' w' ho' hg')
            have hbL := below_push hbc hs hg' hoc
            obtain ⟨w13, hw13⟩ : ∃ W : World, W = w' := ⟨_, rfl⟩
            rw [← hw13] at hbL ho' ⊢
            obtain ⟨Av2, cv2, rfl, _, _, _⟩ := own_form ho'
            have hoL : w13.ownsRow w11.heap.size 3 1 (.slice Av2 (ll.length + m.length) cv2) (ll ++ m).length (ints (ll ++ m)) := by
              rw [List.length_append, ints_app]; exact ho'
            have HS13 := Lib.hid ((HP10.out.below hbL).list (own_base hoL HP10.out.size) ⟨(HP10.out.fresh hoL).1, (HP10.out.fresh hoL).2.1, (HP10.out.fresh hoL).2.2.2.1⟩)
            clear hw13 hg' ho' hoL hbL hoc hbc rm hs hh HM10 HP10 HCP
            obtain ⟨lk, hlk⟩ : ∃ lk, lk = ll ++ m := ⟨_, rfl⟩
            obtain ⟨nk, hnk⟩ : ∃ nk, nk = ll.length + m.length := ⟨_, rfl⟩
            rw [← hlk, ← hnk] at HS13
            rw [← hlk] at HOU
            rw [← hnk]
            have HNK := Lib.hid (show nk = lk.length by rw [hnk, hlk, List.length_append])
            clear hlk hnk
            obtain ⟨cn, hcn⟩ : ∃ cn, cn = cnt + (m.length : Int) := ⟨_, rfl⟩
            rw [← hcn] at HS13 HOU
            clear hcn
            go_cut [54] (fun s wx => ∃ (t : Bool) (a' : Nat), s = .bool t ∧ (t = true → 2 < cn) ∧ a6 ≤ a' ∧ a' ≤ a6 + 2 ∧ SS w0 w wx g zs a' sb rb cn (.slice Au lu.length cu) lu (.slice Av2 nk cv2) lk)
            case first =>
              go_wp2_with fail
              refine (one_any w0 _ g a6 zs hn (by omega) HS13.out.cur 2 (by omega) (by omega)).mono ?_
              rintro e w14 ⟨bb, a7, hb6, hb7, rfl, hc7, hg7⟩
              have HS14 := Lib.hid (HS13.out.grown hc7 hg7)
              clear hc7 hg7 HS13
              cases bb with
              | false =>
                go_wp2_with fail
                go_meet
                exact ⟨false, a7, rfl, (fun h => by cases h), hb6, hb7, HS14.out⟩
              | true =>
                have s0 := HS14.out.sblk.cell 0
                by_cases h2 : 2 < cn
                · go_wp2_with fail
                  go_meet
                  exact ⟨true, a7, rfl, fun _ => h2, hb6, hb7, HS14.out⟩
                · have q3d : decide (2 < cn) = false := decide_eq_false h2
                  go_wp2_with fail
                  go_meet
                  exact ⟨false, a7, rfl, (fun h => by cases h), hb6, hb7, HS14.out⟩
            case rest =>
              obtain ⟨t2, a7, rfl, ht2, hb6, hb7, hss⟩ := hcut
              obtain ⟨wf, hwf⟩ : ∃ W : World, W = wc := ⟨_, rfl⟩
              rw [← hwf] at hss ⊢
              clear hwf HS13
              cases t2 with
              | false =>
                go_wp2
                go_roundg (gk - 1)
                case measure => omega
                case rel => exact ⟨x - 1, a7, cn, _, lu, lk, by omega, by omega, by omega, by omega, by go_num, hss, HOU.out⟩
              | true =>
                have h2 := ht2 rfl
                clear ht2
                have o0 := hss.sblk.cell 0
                have o1 := hss.sblk.cell 1
                have f0 := hss.sblk.thaw 0
                have f1 := hss.sblk.thaw 1
                have HM := Lib.hid hss
                have HLO := Lib.hid (And.intro (okD_pos HOU.out h2) (len_le HOU.out.1))
                have HCB := Lib.hid (vsmy_cnt HOU.out.1)
                go_wp2_with fail
                go_region_law (first
                  | (refine step_call rfl 81 _ _ rfl ent_pick (by simp [Act.eval, Act.put]) (pick_any w0 wf.drew g a7 zs hn (by omega) (HM.out.drewN 1).cur 6 (by omega) (by omega)) ?_; rintro e w8 ⟨y, a8, hy, hy1, hy2, rfl, hc8, hg8⟩; have HM8 := Lib.hid ((HM.out.drewN 1).grown hc8 hg8); have p0 := HM8.out.sblk.cell 0; have p1 := HM8.out.sblk.cell 1; have hy3 : y ≤ 5 := (by omega); have r1 : IntKind.i64.wrap (1 + (y : Int)) = 1 + (y : Int) := IntWalk.i64_in _ (by omega); clear hc8 hg8; refine ⟨_, rfl, ?_⟩)
                  | (refine step_call rfl 69 _ _ rfl ent_pruned (by simp [Act.eval, Act.put]) (smyPr.pruned_any (cnt := cn) Au cu lu (1 + (y : Int)) w8 (by have := HCB.out; omega) HOU.out.1 HLO.out.1 (by omega) (by omega) (own_rd HM8.out.os)) ?_; rintro e w9 ⟨vp, rfl, ho9, hb9⟩; have HM9 := Lib.hid (HM8.out.below hb9); have HPK := Lib.hid (okD_pick HOU.out (size := 1 + (y : Int)) (by omega) (by omega)); generalize prLaw.pick cn lu (1 + (y : Int)) ((1 + (y : Int)).toNat + 1) lu.length = lp at ho9 HPK; obtain ⟨Ap, cp, rfl, _, _, _⟩ := own_form ho9.1; have HPT := Lib.hid (HM9.out.put (cnt' := cn) (own_base ho9.1 HM8.out.size) ⟨(HM8.out.fresh ho9.1).1, (HM8.out.fresh ho9.1).2.1, (HM8.out.fresh ho9.1).2.2.1⟩); have z0 := HM9.out.sblk.cell 0; have z1 := HM9.out.sblk.cell 1; have z2 := HM9.out.sblk.thaw 0; have z3 := HM9.out.sblk.thaw 1; clear ho9 hb9; refine ⟨_, rfl, ?_⟩))
                all_goals
                  go_wp2
                  go_roundg (gk - 1)
                  case measure => omega
                  case rel => exact ⟨x - 1, a8, cn, _, lp, lk, by omega, by omega, by omega, by omega, by go_num, HPT.out, HPK.out⟩
    · have q1 : ¬ (0 : Int) < (x : Int) := by omega
      have s0 := HS.out.sblk.cell 0
      have s1 := HS.out.sblk.cell 1
      have r0 := HS.out.rblk.cell 0
      have r1 := HS.out.rblk.cell 1
      have f0 := HS.out.rblk.thaw 0
      have f1 := HS.out.rblk.thaw 1
      have HEND := Lib.hid (HS.out.fin (.int .i64 cnt) (.slice As ls.length cs))
      go_wp2
      (refine bodyPost_ret (v := .tuple #[.agg #[.int .i64 cnt, .slice As ls.length cs], .slice Av ll.length cv]) (by simp [results, Try.results80, go_sem, r0, r1]) rfl ?_; first | exact ⟨cnt, _, ls, _, rfl, ll, _, HEND.out, HO.out, by omega, by omega⟩ | exact ⟨cnt, _, ls, _, ll, _, rfl, HEND.out, HO.out, by omega, by omega⟩)
end Go.Proofs.Ytlckeefjhafloaa.drw
