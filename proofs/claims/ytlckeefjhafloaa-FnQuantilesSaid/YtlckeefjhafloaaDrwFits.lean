/- DrawFitsSummary: a summary and a list out of a code. Condition: a code of at most 2^20 bytes. -/
import Derived.Test.YtlckeefjhafloaaDrwSmyA
set_option linter.unusedVariables false
set_option linter.unusedSimpArgs false
namespace Go.Proofs.Ytlckeefjhafloaa.drw
open Go.RowKit Go.Proofs.Ytlckeefjhafloaa.mem Go.Proofs.Ytlckeefjhafloaa.cur Go.Proofs.Ytlckeefjhafloaa.smy

/-- a readable summary and a readable list behind the world W -/
def Fits2 (W w : World) (A1 : Option Addr) (l1 : List Rkv) (A2 : Option Addr) (l2 : List Int) : Prop := Rd w 3 A1 l1.length (rkvs l1) ∧ Rd w 1 A2 l2.length (ints l2) ∧ l1.length ≤ 1048576 ∧ l2.length ≤ 70 ∧ Below W.heap.size W w
set_option maxRecDepth 100000 in
theorem ent_anyInts : ∀ (vs : Array Value) (W : World), (callFunc 52 vs).run Try.prog W = .ok (.enter 52 vs) W := fun _ _ => rfl
structure FS (W w : World) (g B : Nat) (zs : List Int) (a sb : Nat) (cnt : Int) (vs : Value) (ls : List Rkv) (vl : Value) (ll : List Int) : Prop where
  cur : Cur W w g zs a
  os : w.ownsRow B 51 3 vs ls.length (rkvs ls)
  ol : w.ownsRow B 3 1 vl ll.length (ints ll)
  ap : vs.ownBlock = none ∨ vs.ownBlock ≠ vl.ownBlock
  sblk : Blk w sb 29 #[.int .i64 cnt, vs]
  rblk : Blk w W.heap.size 29 #[.int .i64 0, .slice none 0 0]
  hb : W.heap.size < g ∧ g < B ∧ B ≤ sb
  fs : vs.ownBlock ≠ some sb
  fl : vl.ownBlock ≠ some sb
section
variable {W w w' : World} {g B a a' sb : Nat} {zs ll : List Int} {cnt : Int} {vs vl : Value} {ls : List Rkv}
theorem FS.grown (h : FS W w g B zs a sb cnt vs ls vl ll) (hc : Cur W w' g zs a') (hg : w.grownBy w' (some g)) : FS W w' g B zs a' sb cnt vs ls vl ll :=
  ⟨hc, h.os.kept hg (Or.inr (fun e => by have := own_ge h.os _ e; have := h.hb; omega)), h.ol.kept hg (Or.inr (fun e => by have := own_ge h.ol _ e; have := h.hb; omega)), h.ap, h.sblk.grown hg (fun e => by injection e with e; have := h.hb; omega), h.rblk.grown hg (fun e => by injection e with e; have := h.hb; omega), h.hb, h.fs, h.fl⟩
theorem FS.below (h : FS W w g B zs a sb cnt vs ls vl ll) (hb : Below w.heap.size w w') : FS W w' g B zs a sb cnt vs ls vl ll :=
  h.grown (h.cur.below hb) (below_gb hb g)
theorem FS.drew (h : FS W w g B zs a sb cnt vs ls vl ll) : FS W w.drew g B zs a sb cnt vs ls vl ll :=
  h.below (below_drewN (Below.refl _ _) 1)
end
/-- the end: the summary is stored -/
theorem fits_end {W w5 : World} {n1 : Int} {A1 A2 : Option Addr} {l1 : List Rkv} {l2 : List Int} {c1 : Nat} (hb : Below W.heap.size W w5) (h1 : Rd w5 3 A1 l1.length (rkvs l1)) (h2 : Rd w5 1 A2 l2.length (ints l2)) (g1 : ∀ b off, A1 = some ⟨b, off, none⟩ → W.heap.size < b) (g2 : ∀ b off, A2 = some ⟨b, off, none⟩ → W.heap.size < b) (e1 : l1.length ≤ 1048576) (e2 : l2.length ≤ 70) :
    Fits2 W ((w5.setCell ⟨W.heap.size, 0, none⟩ (.int .i64 n1)).setCell ⟨W.heap.size, 1, none⟩ (.slice A1 l1.length c1)) A1 l1 A2 l2 := by
  have f1 : ∀ b off, A1 = some ⟨b, off, none⟩ → b ≠ W.heap.size := fun b off e => by have := g1 b off e; omega
  have f2 : ∀ b off, A2 = some ⟨b, off, none⟩ → b ≠ W.heap.size := fun b off e => by have := g2 b off e; omega
  refine ⟨?_, ?_, e1, e2, ?_⟩
  · exact rd_far (rd_far h1 (p := ⟨W.heap.size, 0, none⟩) f1 _) (p := ⟨W.heap.size, 1, none⟩) f1 _
  · exact rd_far (rd_far h2 (p := ⟨W.heap.size, 0, none⟩) f2 _) (p := ⟨W.heap.size, 1, none⟩) f2 _
  · exact (hb.setCell (p := ⟨W.heap.size, 0, none⟩) (by simp only; omega) _).setCell (p := ⟨W.heap.size, 1, none⟩) (by simp only; omega) _
theorem own_gt {w : World} {B k n c sz : Nat} {e : TypeId} {A : Option Addr} {xs : List Value} (h : w.ownsRow B e sz (.slice A n c) n xs) (hk : k < B) : ∀ b off, A = some ⟨b, off, none⟩ → k < b := fun b off e => by
  subst e; have := own_ge h b rfl; omega
set_option maxRecDepth 100000 in
set_option maxHeartbeats 8000000 in
theorem fits_any (A : Option Addr) (c : Nat) (zs : List Int) (W : World) (hn : zs.length ≤ 1048576) (hz : ∀ z ∈ zs, 0 ≤ z ∧ z ≤ 255) (hr : Rd W 1 A zs.length (u8s zs)) :
    Calls Try.prog 48 #[.slice A zs.length c] W fun e w' => ∃ (n1 : Int) (A1 : Option Addr) (l1 : List Rkv) (c1 : Nat) (A2 : Option Addr) (l2 : List Int) (c2 : Nat), e = .returned (.tuple #[.agg #[.int .i64 n1, .slice A1 l1.length c1], .slice A2 l2.length c2]) ∧ Fits2 W w' A1 l1 A2 l2 := by
  have hbx := box2 W 29 73 #[.int .i64 0, .slice none 0 0] #[.slice A zs.length c, .int .i64 0, .int .u64 0]
  have hsz : ((W.alloc (.cells #[.int .i64 0, .slice none 0 0] 29)).alloc (.cells #[.slice A zs.length c, .int .i64 0, .int .u64 0] 73)).heap.size = W.heap.size + 2 := by simp
  go_enter Try.func48, Try.ntmps48
  go_wp2_with fail
  obtain ⟨Wc, hWc⟩ : ∃ Wc : World, Wc = (W.alloc (.cells #[.int .i64 0, .slice none 0 0] 29)).alloc (.cells #[.slice A zs.length c, .int .i64 0, .int .u64 0] 73) := ⟨_, rfl⟩
  rw [← hWc] at hbx hsz ⊢
  have HC := Lib.hid (show Cur W Wc (W.heap.size + 1) zs 0 from ⟨⟨A, c, 0, hbx.2.1, hr⟩, by omega, hbx.2.2, hz⟩)
  have HR0 := Lib.hid hbx.1
  have HSZ := Lib.hid hsz
  clear hWc hbx hz hr hsz
  refine (summary_any W _ (W.heap.size + 1) 0 zs hn (by omega) HC.out).mono ?_
  rintro e w1 ⟨cnt, vs, ls, vl, ll, a1, rfl, hcs, hok, ha1, ha2⟩
  obtain ⟨As, cs, rfl, hsc, hsm, _⟩ := own_form hcs.os
  obtain ⟨Al, cl, rfl, hlc, hlm, _⟩ := own_form hcs.ol
  have hll : ll.length ≤ 64 := hok.2.2.1
  have hls : ls.length ≤ 64 := (vsmy_cnt hok.1).2.2.1
  have HFS := Lib.hid (show FS W (w1.alloc (.cells #[.int .i64 cnt, .slice As ls.length cs] 29)) (W.heap.size + 1) (W.heap.size + 2) zs a1 w1.heap.size cnt (.slice As ls.length cs) ls (.slice Al ll.length cl) ll from by
    have hs := HSZ.out
    have hba := (Below.refl w1.heap.size w1).alloc (Nat.le_refl _) (.cells #[.int .i64 cnt, .slice As ls.length cs] 29)
    have hg := hcs.gr.size
    exact ⟨hcs.cur.below hba, own_below (own_base hcs.os (by omega)) hba, own_below (own_base hcs.ol (by omega)) hba, hcs.ap, Blk.new _ _ _, (HR0.out.grown hcs.gr (fun e => by injection e with e; omega)).alloc _, ⟨by omega, by omega, by omega⟩, fun e => by have := own_lt hcs.os _ e; omega, fun e => by have := own_lt hcs.ol _ e; omega⟩)
  clear hcs hok HR0 HC
  obtain ⟨sb, hsb⟩ : ∃ sb, sb = w1.heap.size := ⟨_, rfl⟩
  go_wp2_with fail
  rw [← hsb] at HFS ⊢
  clear hsb
  refine (pick_any W _ (W.heap.size + 1) a1 zs hn (by omega) HFS.out.cur 6 (by omega) (by omega)).mono ?_
  rintro e w3 ⟨y, a2, _, ha3, ha4, rfl, hc3, hg3⟩
  have HF3 := Lib.hid (HFS.out.grown hc3 hg3)
  clear hc3 hg3 HFS
  have s0 := HF3.out.sblk.cell 0
  have s1 := HF3.out.sblk.cell 1
  have r0 := HF3.out.rblk.cell 0
  have r1 := HF3.out.rblk.cell 1
  have t0 := fun i => HF3.out.rblk.thaw i
  have hcase : y = 0 ∨ y = 1 ∨ y = 2 ∨ 3 ≤ y := by omega
  rcases hcase with rfl | rfl | rfl | hy3
  · go_wp2_with fail
    go_region_law ((refine step_call rfl 52 _ _ rfl ent_anyInts (by simp [Act.eval, Act.put]) (anyInts_any W w3.drew (W.heap.size + 1) a2 zs hn (by omega) HF3.out.drew.cur) ?_; rintro e w8 ⟨vm, m, a4, rfl, hci, hm, hz1, hz2⟩; obtain ⟨Am, cm, rfl, _, _, _⟩ := own_form hci.own; have HF8 := Lib.hid (HF3.out.drew.grown hci.cur hci.gr); have HCI := Lib.hid hci; have p0 := HF8.out.sblk.cell 0; have p1 := HF8.out.sblk.cell 1; have p2 := HF8.out.rblk.cell 0; have p3 := HF8.out.rblk.cell 1; have p4 := fun i => HF8.out.rblk.thaw i; clear hci; refine ⟨_, rfl, ?_⟩))
    all_goals
      have HEND := Lib.hid (fits_end (n1 := cnt) (c1 := cs) HF8.out.cur.bel (own_rd HF8.out.os) (own_rd HCI.out.own) (own_gt HF8.out.os (by omega)) (own_gt HCI.out.own HF3.out.drew.rblk.lt) (by omega) hm)
      go_wp2
      refine bodyPost_ret (v := .tuple #[.agg #[.int .i64 cnt, .slice As ls.length cs], .slice Am m.length cm]) (by simp [results, Try.results48, go_sem, p2, p3]) rfl ?_
      first | exact ⟨cnt, As, ls, cs, Am, m, cm, rfl, HEND.out⟩ | exact ⟨cnt, As, ls, cs, Am, m, rfl, HEND.out⟩
  · go_wp2_with fail
    refine (anySmy_any W _ (W.heap.size + 1) a2 zs hn (by omega) HF3.out.cur).mono ?_
    rintro e w4 ⟨n1, A1, l1, c1, a3, rfl, hrs, ha5, ha6⟩
    have HF4 := Lib.hid (HF3.out.grown hrs.cur hrs.gr)
    have hl1 := hrs.len
    have HEND := Lib.hid (fits_end (n1 := n1) (c1 := c1) hrs.cur.bel hrs.rd (own_rd HF4.out.ol) (fun b off e => by have := hrs.ge b off e; have := HF3.out.rblk.lt; omega) (own_gt HF4.out.ol (by omega)) hl1 (by omega))
    have p2 := HF4.out.rblk.cell 0
    have p3 := HF4.out.rblk.cell 1
    have p4 := fun i => HF4.out.rblk.thaw i
    clear hrs s0 s1 r0 r1 t0
    go_wp2
    refine bodyPost_ret (v := .tuple #[.agg #[.int .i64 n1, .slice A1 l1.length c1], .slice Al ll.length cl]) (by simp [results, Try.results48, go_sem, p2, p3]) rfl ?_
    first | exact ⟨n1, A1, l1, c1, Al, ll, cl, rfl, HEND.out⟩ | exact ⟨n1, A1, l1, c1, Al, ll, rfl, HEND.out⟩
  · by_cases hl0 : ll.length = 0
    · have HEND := Lib.hid (fits_end (n1 := cnt) (c1 := cs) HF3.out.cur.bel (own_rd HF3.out.os) (own_rd HF3.out.ol) (own_gt HF3.out.os (by omega)) (own_gt HF3.out.ol (by omega)) (by omega) (by omega))
      have q1 : ¬ (0 : Int) < (ll.length : Int) := by omega
      have HL := Lib.hid hl0
      clear hl0
      go_wp2
      refine bodyPost_ret (v := .tuple #[.agg #[.int .i64 cnt, .slice As ls.length cs], .slice Al ll.length cl]) (by simp [results, Try.results48, go_sem, r0, r1]) rfl ?_
      first | exact ⟨cnt, As, ls, cs, Al, ll, cl, rfl, HEND.out⟩ | exact ⟨cnt, As, ls, cs, Al, ll, rfl, HEND.out⟩
    · have q1 : (0 : Int) < (ll.length : Int) := by omega
      go_wp2_with fail
      refine (pick_any W _ (W.heap.size + 1) a2 zs hn (by omega) HF3.out.cur (ll.length : Int) (by omega) (by omega)).mono ?_
      rintro e w4 ⟨q, a3, hq, ha5, ha6, rfl, hc4, hg4⟩
      have hql : q < ll.length := by omega
      have q2 : (q : Int) < (ll.length : Int) := by omega
      have HF4 := Lib.hid (HF3.out.grown hc4 hg4)
      clear hc4 hg4 s0 s1 r0 r1 t0 hq
      go_wp2_with fail
      refine (pick_any W _ (W.heap.size + 1) a3 zs hn (by omega) HF4.out.cur 7 (by omega) (by omega)).mono ?_
      rintro e w5 ⟨z, a4, _, ha7, ha8, rfl, hc5, hg5⟩
      have HF5 := Lib.hid (HF4.out.grown hc5 hg5)
      obtain ⟨lb, rfl, hlb, hlb2⟩ := own_addr HF5.out.ol (by omega)
      have hol := HF5.out.ol
      have c0 := (own_rd hol).int_at hql
      rw [Nat.zero_add] at c0
      have c1 := own_thaw hol q
      have HP := Lib.hid (own_put hol (i := q) (by rw [len_ints]; exact hql) (.int .i64 (z : Int)))
      have hne : lb ≠ sb := fun e => HF5.out.fl (by subst e; rfl)
      have hg : w5.grownBy (w5.setCell ⟨lb, q, none⟩ (.int .i64 (z : Int))) (some lb) := only_put (World.grownBy.refl _ _) q _
      have hos := HF5.out.os.kept hg (by
        rcases HF5.out.ap with h | h
        · exact Or.inl h
        · exact Or.inr h)
      have hset : ints (ll.set q (z : Int)) = (ints ll).set q (.int .i64 (z : Int)) := by simp [ints, List.map_set]
      have HOL := Lib.hid (show (w5.setCell ⟨lb, q, none⟩ (.int .i64 (z : Int))).ownsRow (W.heap.size + 2) 3 1 (.slice (some ⟨lb, 0, none⟩) (ll.set q (z : Int)).length cl) (ll.set q (z : Int)).length (ints (ll.set q (z : Int))) by
        rw [List.length_set, hset]; exact HP.out)
      have HEND := Lib.hid (fits_end (n1 := cnt) (c1 := cs) (below_grown HF5.out.cur.bel HF5.out.cur.bel.size hg (fun k e => by injection e with e; omega)) (own_rd hos) (own_rd HOL.out) (own_gt hos (by omega)) (own_gt HOL.out (by omega)) (by omega) (by rw [List.length_set]; omega))
      have HLS := Lib.hid (show (ll.set q (z : Int)).length = ll.length from List.length_set)
      have s0 := HF5.out.sblk.cell 0
      have s1 := HF5.out.sblk.cell 1
      have r0 := HF5.out.rblk.cell 0
      have r1 := HF5.out.rblk.cell 1
      have t0 := fun i => HF5.out.rblk.thaw i
      have hne2 : lb ≠ W.heap.size := by omega
      have hsr : sb ≠ W.heap.size := by have := HF5.out.hb; omega
      clear hc5 hg5 hol hos hg hset HP HF4
      go_wp2
      refine bodyPost_ret (v := .tuple #[.agg #[.int .i64 cnt, .slice As ls.length cs], .slice (some ⟨lb, 0, none⟩) ll.length cl]) (by simp [results, Try.results48, go_sem, r0, r1, hne, hne2, hsr, hne.symm, hne2.symm, hsr.symm]) rfl ?_
      first | exact ⟨cnt, As, ls, cs, (some ⟨lb, 0, none⟩), (ll.set q (z : Int)), cl, by rw [HLS.out], HEND.out⟩ | exact ⟨cnt, As, ls, cs, (some ⟨lb, 0, none⟩), (ll.set q (z : Int)), by rw [HLS.out], HEND.out⟩
  · have y0 : ((y : Int) == 0) = false := by simp; omega
    have y1 : ((y : Int) == 1) = false := by simp; omega
    have y2 : ((y : Int) == 2) = false := by simp; omega
    have z0 : ¬ (y : Int) = 0 := by omega
    have z1 : ¬ (y : Int) = 1 := by omega
    have z2 : ¬ (y : Int) = 2 := by omega
    have z5 : (y == 0) = false := by simp; omega
    have z6 : (y == 1) = false := by simp; omega
    have z7 : (y == 2) = false := by simp; omega
    have HEND := Lib.hid (fits_end (n1 := cnt) (c1 := cs) HF3.out.cur.bel (own_rd HF3.out.os) (own_rd HF3.out.ol) (own_gt HF3.out.os (by omega)) (own_gt HF3.out.ol (by omega)) (by omega) (by omega))
    go_wp2
    refine bodyPost_ret (v := .tuple #[.agg #[.int .i64 cnt, .slice As ls.length cs], .slice Al ll.length cl]) (by simp [results, Try.results48, go_sem, r0, r1]) rfl ?_
    first | exact ⟨cnt, As, ls, cs, Al, ll, cl, rfl, HEND.out⟩ | exact ⟨cnt, As, ls, cs, Al, ll, rfl, HEND.out⟩
end Go.Proofs.Ytlckeefjhafloaa.drw
