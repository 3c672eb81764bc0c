/- DrawMergeSummaries: two summaries out of a code. Condition: a code of at most 2^20 bytes. -/
import Derived.Test.YtlckeefjhafloaaDrwSmyA
set_option linter.unusedVariables false
set_option linter.unusedSimpArgs false
namespace Go.Proofs.Ytlckeefjhafloaa.drw
open Go.RowKit Go.Proofs.Ytlckeefjhafloaa.mem Go.Proofs.Ytlckeefjhafloaa.cur Go.Proofs.Ytlckeefjhafloaa.smy
open Go.Proofs.Ytlckeefjhafloaa.smyOf (exk)
open Go.Proofs.Ytlckeefjhafloaa.srt (srt)

def l32 : List Int := [1, 2, 3, 4, 5, 6, 7, 8, 9, 10, 11, 12, 13, 14, 15, 16, 17, 18, 19, 20, 21, 22, 23, 24, 25, 26, 27, 28, 29, 30, 31, 32]
theorem l32_len : l32.length = 32 := rfl
/-- two readable summaries behind the world W -/
def Two (W w : World) (A1 : Option Addr) (l1 : List Rkv) (A2 : Option Addr) (l2 : List Rkv) : Prop := Rd w 3 A1 l1.length (rkvs l1) ∧ Rd w 3 A2 l2.length (rkvs l2) ∧ l1.length ≤ 1048576 ∧ l2.length ≤ 1048576 ∧ Below W.heap.size W w
theorem rd_farA {w : World} {sz n : Nat} {A : Option Addr} {xs : List Value} (h : Rd w sz A n xs) {B : Nat} (hf : ∀ b off, A = some ⟨b, off, none⟩ → b ≠ B) (u : Value) (i : Nat) : Rd (w.setCell ⟨B, i, none⟩ u) sz A n xs := rd_far h (p := ⟨B, i, none⟩) hf u
set_option maxRecDepth 100000 in
set_option maxHeartbeats 8000000 in
theorem mrg_any (A : Option Addr) (c : Nat) (zs : List Int) (W : World) (hn : zs.length ≤ 1048576) (hz : ∀ z ∈ zs, 0 ≤ z ∧ z ≤ 255) (hr : Rd W 1 A zs.length (u8s zs)) :
    Calls Try.prog 42 #[.slice A zs.length c] W fun e w' => ∃ (n1 : Int) (A1 : Option Addr) (l1 : List Rkv) (c1 : Nat) (n2 : Int) (A2 : Option Addr) (l2 : List Rkv) (c2 : Nat), e = .returned (.tuple #[.agg #[.int .i64 n1, .slice A1 l1.length c1], .agg #[.int .i64 n2, .slice A2 l2.length c2]]) ∧ Two W w' A1 l1 A2 l2 := by
  obtain ⟨W2, hW2⟩ : ∃ W2 : World, W2 = (W.alloc (.cells #[.int .i64 0, .slice none 0 0] 29)).alloc (.cells #[.int .i64 0, .slice none 0 0] 29) := ⟨_, rfl⟩
  obtain ⟨hb1, hb2, hbb⟩ := box2 W 29 29 #[.int .i64 0, .slice none 0 0] #[.int .i64 0, .slice none 0 0]
  rw [← hW2] at hb1 hb2 hbb
  have hsz : W2.heap.size = W.heap.size + 1 + 1 := by rw [hW2]; simp
  have HC := cur_made W2 A c zs hz (hr.below hbb)
  rw [hsz] at HC
  have HC := Lib.hid HC
  have HSZ := Lib.hid hsz
  have HB := Lib.hid (And.intro hb1 (And.intro hb2 hbb))
  clear hz hr hb1 hb2 hbb hsz
  -- the end: both results are stored
  have HEND := Lib.hid (show ∀ (w5 : World) (n1 n2 : Int) (A1 A2 : Option Addr) (l1 l2 : List Rkv) (c1 c2 : Nat), Below W2.heap.size W2 w5 → Rd w5 3 A1 l1.length (rkvs l1) → Rd w5 3 A2 l2.length (rkvs l2) → (∀ b off, A1 = some ⟨b, off, none⟩ → W2.heap.size ≤ b) → (∀ b off, A2 = some ⟨b, off, none⟩ → W2.heap.size ≤ b) → l1.length ≤ 1048576 → l2.length ≤ 1048576 →
      (Blk w5 W.heap.size 29 #[.int .i64 0, .slice none 0 0] ∧ Blk w5 (W.heap.size + 1) 29 #[.int .i64 0, .slice none 0 0]) ∧ Two W ((((w5.setCell ⟨W.heap.size, 0, none⟩ (.int .i64 n1)).setCell ⟨W.heap.size, 1, none⟩ (.slice A1 l1.length c1)).setCell ⟨W.heap.size + 1, 0, none⟩ (.int .i64 n2)).setCell ⟨W.heap.size + 1, 1, none⟩ (.slice A2 l2.length c2)) A1 l1 A2 l2 from fun w5 n1 n2 A1 A2 l1 l2 c1 c2 hb h1 h2 g1 g2 e1 e2 => by
    have hs := HSZ.out
    have f1 : ∀ b off, A1 = some ⟨b, off, none⟩ → b ≠ W.heap.size ∧ b ≠ W.heap.size + 1 := fun b off e => by have := g1 b off e; omega
    have f2 : ∀ b off, A2 = some ⟨b, off, none⟩ → b ≠ W.heap.size ∧ b ≠ W.heap.size + 1 := fun b off e => by have := g2 b off e; omega
    refine ⟨⟨HB.out.1.below hb (by omega), HB.out.2.1.below hb (by omega)⟩, ?_, ?_, e1, e2, ?_⟩
    · exact rd_farA (rd_farA (rd_farA (rd_farA h1 (fun b off e => (f1 b off e).1) _ _) (fun b off e => (f1 b off e).1) _ _) (fun b off e => (f1 b off e).2) _ _) (fun b off e => (f1 b off e).2) _ _
    · exact rd_farA (rd_farA (rd_farA (rd_farA h2 (fun b off e => (f2 b off e).1) _ _) (fun b off e => (f2 b off e).1) _ _) (fun b off e => (f2 b off e).2) _ _) (fun b off e => (f2 b off e).2) _ _
    · have hx := HB.out.2.2.trans (hb.mono (by omega))
      exact (((hx.setCell (p := ⟨W.heap.size, 0, none⟩) (by simp only; omega) _).setCell (p := ⟨W.heap.size, 1, none⟩) (by simp only; omega) _).setCell (p := ⟨W.heap.size + 1, 0, none⟩) (by simp only; omega) _).setCell (p := ⟨W.heap.size + 1, 1, none⟩) (by simp only; omega) _)
  go_enter Try.func42, Try.ntmps42
  go_wp2_with fail
  rw [← hW2]
  have hsz2 := HSZ.out
  refine (one_any W2 _ (W.heap.size + 1 + 1) 0 zs hn (by omega) HC.out 16 (by omega) (by omega)).mono ?_
  rintro e w1 ⟨bb, a1, _, ha1, rfl, hc1, hg1⟩
  have H1 := Lib.hid hc1
  clear hc1 hg1 hsz2
  cases bb with
  | true =>
    have HL1 := Lib.hid H1.out.lt
    have HPL := Lib.hid (fun (W' : World) (hg : (w1.alloc (.cells (ints [500, 600]).toArray 3)).grownBy W' (some (W.heap.size + 1 + 1))) => pool w1 [500, 600] hg HL1.out)
    have HC2 := Lib.hid (H1.out.below ((Below.refl _ _).alloc (Nat.le_refl _) (.cells (ints [500, 600]).toArray 3)))
    go_wp2_with fail
    refine (among_any W2 _ (W.heap.size + 1 + 1) a1 zs hn (by omega) HC2.out (some ⟨w1.heap.size, 0, none⟩) 2 [500, 600] (by simp) (by simp) HPL.out).mono ?_
    rintro e w2 ⟨x, a2, hx, ha2, ha3, rfl, hc2, hg2⟩
    have hx2 : 0 ≤ x ∧ x ≤ 2000 := by simp only [List.mem_cons, List.not_mem_nil, or_false] at hx; omega
    have H2 := Lib.hid hc2
    clear hc2 hg2 HPL hx HC2
    go_wp2_with fail
    refine (wide_any W2 _ (W.heap.size + 1 + 1) a2 zs x hn (by omega) H2.out hx2.1 hx2.2).mono ?_
    rintro e w3 ⟨A1, l1, c1, a3, rfl, hrs, ha4, ha5⟩
    have HR1 := Lib.hid hrs
    have HL2 := Lib.hid H2.out.lt
    have HL3 := Lib.hid hrs.cur.lt
    have HPL := Lib.hid (fun (W' : World) (hg : (w3.alloc (.cells (ints [400, 500]).toArray 3)).grownBy W' (some (W.heap.size + 1 + 1))) => pool w3 [400, 500] hg HL3.out)
    have HC4 := Lib.hid (hrs.cur.below ((Below.refl _ _).alloc (Nat.le_refl _) (.cells (ints [400, 500]).toArray 3)))
    clear hrs
    go_wp2_with fail
    refine (among_any W2 _ (W.heap.size + 1 + 1) a3 zs hn (by omega) HC4.out (some ⟨w3.heap.size, 0, none⟩) 2 [400, 500] (by simp) (by simp) HPL.out).mono ?_
    rintro e w4 ⟨y, a4, hy, ha6, ha7, rfl, hc4, hg4⟩
    have hy2 : 0 ≤ y ∧ y ≤ 2000 := by simp only [List.mem_cons, List.not_mem_nil, or_false] at hy; omega
    have f1 : ∀ b off, A1 = some ⟨b, off, none⟩ → (W.heap.size + 1 + 1) < b := fun b off e => by have := HR1.out.ge b off e; have := HL2.out; omega
    have HRd1 := Lib.hid ((HR1.out.rd.alloc (.cells (ints [400, 500]).toArray 3)).grown hg4 (fun b off e => by have := f1 b off e; intro e2; injection e2 with e2; omega))
    have H4 := Lib.hid hc4
    clear hc4 hg4 HPL hy HC4
    go_wp2_with fail
    refine (wide_any W2 _ (W.heap.size + 1 + 1) a4 zs y hn (by omega) H4.out hy2.1 hy2.2).mono ?_
    rintro e w5 ⟨A2, l2, c2, a5, rfl, hrs2, ha8, ha9⟩
    have f2 : ∀ b off, A2 = some ⟨b, off, none⟩ → (W.heap.size + 1 + 1) < b := fun b off e => by have := hrs2.ge b off e; have := H4.out.lt; omega
    have hrd1 := HRd1.out.grown hrs2.gr (fun b off e => by have := f1 b off e; intro e2; injection e2 with e2; omega)
    have hbel := hrs2.cur.bel
    have hl1 := HR1.out.len
    have hl2 := hrs2.len
    have hrd2 := hrs2.rd
    have hsz2 := HSZ.out
    have g1 : ∀ b off, A1 = some ⟨b, off, none⟩ → W2.heap.size ≤ b := fun b off e => by have := f1 b off e; omega
    have g2 : ∀ b off, A2 = some ⟨b, off, none⟩ → W2.heap.size ≤ b := fun b off e => by have := f2 b off e; omega
    clear hrs2 f1 f2
    obtain ⟨⟨bk1, bk2⟩, htw⟩ := HEND.out w5 x y A1 A2 l1 l2 c1 c2 hbel hrd1 hrd2 g1 g2 hl1 hl2
    have HTW := Lib.hid htw
    clear hbel hrd1 hrd2 g1 g2 hsz2
    have r0 := bk1.cell 0
    have r1 := bk1.cell 1
    have r2 := bk2.cell 0
    have r3 := bk2.cell 1
    have t0 := fun i => bk1.thaw i
    have t1 := fun i => bk2.thaw i
    clear htw bk1 bk2
    go_wp2
    refine bodyPost_ret (v := .tuple #[.agg #[.int .i64 x, .slice A1 l1.length c1], .agg #[.int .i64 y, .slice A2 l2.length c2]]) (by simp [results, Try.results42, go_sem, r0, r1, r2, r3]) rfl ?_
    first | exact ⟨x, A1, l1, c1, y, A2, l2, c2, rfl, HTW.out⟩
  | false =>
    go_wp2_with fail
    refine (one_any W2 _ (W.heap.size + 1 + 1) a1 zs hn (by omega) H1.out 24 (by omega) (by omega)).mono ?_
    rintro e w2 ⟨bb, a2, ha2, ha3, rfl, hc2, hg2⟩
    have H2 := Lib.hid hc2
    clear hc2 hg2
    cases bb with
    | true =>
      have hb0 := (Below.refl w2.heap.size w2).alloc (Nat.le_refl _) (.cells (ints l32).toArray 3)
      have hrl : Rd (w2.alloc (.cells (ints l32).toArray 3)) 1 (some ⟨w2.heap.size, 0, none⟩) l32.length (ints l32) := (Blk.new w2 3 (ints l32).toArray).rd (by rw [len_ints, Nat.mul_one]) (by rw [Nat.mul_one]; exact List.take_of_length_le (by simp [len_ints]))
      have HX := smyOf.exact_any (some ⟨w2.heap.size, 0, none⟩) 32 l32 (w2.alloc (.cells (ints l32).toArray 3)) (by rw [l32_len]; omega) hrl
      rw [l32_len] at HX
      have HX := Lib.hid HX
      have HC3 := Lib.hid (H2.out.below hb0)
      clear hrl hb0
      go_wp2_with fail
      refine HX.out.mono ?_
      rintro e w3 ⟨v1, rfl, ho1, hb1⟩
      generalize exk (srt l32) 32 = l1 at ho1
      obtain ⟨A1, c1, rfl, _, _, rd1⟩ := own_form ho1.1
      have hl1 := ho1.2
      have f1 : ∀ b off, A1 = some ⟨b, off, none⟩ → (W.heap.size + 1 + 1) < b := fun b off e => by
        subst e
        have := own_ge ho1.1 b rfl
        have := HC3.out.lt
        omega
      have H4 := Lib.hid (HC3.out.below hb1)
      clear HX HC3 hb1 ho1
      go_wp2_with fail
      refine (among2_any W2 _ (W.heap.size + 1 + 1) a2 zs hn (by omega) H4.out).mono ?_
      rintro e w4 ⟨vm, m, a3, rfl, hci, hm, ha4, ha5⟩
      obtain ⟨Am, cm, rfl, _, _, rdm⟩ := own_form hci.own
      have HRd1 := Lib.hid (rd1.grown hci.gr (fun b off e => by have := f1 b off e; intro e2; injection e2 with e2; omega))
      have HE := Lib.hid (smyOf.exact_any Am cm m w4 (by omega) rdm)
      have H5 := Lib.hid hci.cur
      clear hci rdm rd1
      go_wp2_with fail
      refine HE.out.mono ?_
      rintro e w5 ⟨v2, rfl, ho2, hb2⟩
      generalize exk (srt m) m.length = l2 at ho2
      obtain ⟨A2, c2, rfl, _, _, rd2⟩ := own_form ho2.1
      have hl2 := ho2.2
      have hrd1 := HRd1.out.below hb2
      have hrd2 := rd2
      have hbel := (H5.out.below hb2).bel
      have hsz2 := HSZ.out
      have g1 : ∀ b off, A1 = some ⟨b, off, none⟩ → W2.heap.size ≤ b := fun b off e => by have := f1 b off e; omega
      have g2 : ∀ b off, A2 = some ⟨b, off, none⟩ → W2.heap.size ≤ b := fun b off e => by
        subst e
        have := own_ge ho2.1 b rfl
        have := H5.out.lt
        omega
      clear ho2 hb2 f1 rd2 HE
      obtain ⟨⟨bk1, bk2⟩, htw⟩ := HEND.out w5 32 (m.length : Int) A1 A2 l1 l2 c1 c2 hbel hrd1 hrd2 g1 g2 hl1 hl2
      have HTW := Lib.hid htw
      clear hbel hrd1 hrd2 g1 g2 hsz2
      have r0 := bk1.cell 0
      have r1 := bk1.cell 1
      have r2 := bk2.cell 0
      have r3 := bk2.cell 1
      have t0 := fun i => bk1.thaw i
      have t1 := fun i => bk2.thaw i
      clear htw bk1 bk2
      go_wp2
      refine bodyPost_ret (v := .tuple #[.agg #[.int .i64 32, .slice A1 l1.length c1], .agg #[.int .i64 (m.length : Int), .slice A2 l2.length c2]]) (by simp [results, Try.results42, go_sem, r0, r1, r2, r3]) rfl ?_
      first | exact ⟨32, A1, l1, c1, (m.length : Int), A2, l2, c2, rfl, HTW.out⟩
    | false =>
      go_wp2_with fail
      refine (anySmy_any W2 _ (W.heap.size + 1 + 1) a2 zs hn (by omega) H2.out).mono ?_
      rintro e w3 ⟨x, A1, l1, c1, a3, rfl, hrs, ha4, ha5⟩
      have HR1 := Lib.hid hrs
      have f1 : ∀ b off, A1 = some ⟨b, off, none⟩ → (W.heap.size + 1 + 1) < b := fun b off e => by have := HR1.out.ge b off e; have := H2.out.lt; omega
      clear hrs
      go_wp2_with fail
      refine (anySmy_any W2 _ (W.heap.size + 1 + 1) a3 zs hn (by omega) HR1.out.cur).mono ?_
      rintro e w5 ⟨y, A2, l2, c2, a5, rfl, hrs2, ha8, ha9⟩
      have f2 : ∀ b off, A2 = some ⟨b, off, none⟩ → (W.heap.size + 1 + 1) < b := fun b off e => by have := hrs2.ge b off e; have := HR1.out.cur.lt; omega
      have hrd1 := HR1.out.rd.grown hrs2.gr (fun b off e => by have := f1 b off e; intro e2; injection e2 with e2; omega)
      have hbel := hrs2.cur.bel
      have hl1 := HR1.out.len
      have hl2 := hrs2.len
      have hrd2 := hrs2.rd
      have hsz2 := HSZ.out
      have g1 : ∀ b off, A1 = some ⟨b, off, none⟩ → W2.heap.size ≤ b := fun b off e => by have := f1 b off e; omega
      have g2 : ∀ b off, A2 = some ⟨b, off, none⟩ → W2.heap.size ≤ b := fun b off e => by have := f2 b off e; omega
      clear hrs2 f1 f2
      obtain ⟨⟨bk1, bk2⟩, htw⟩ := HEND.out w5 x y A1 A2 l1 l2 c1 c2 hbel hrd1 hrd2 g1 g2 hl1 hl2
      have HTW := Lib.hid htw
      clear hbel hrd1 hrd2 g1 g2 hsz2
      have r0 := bk1.cell 0
      have r1 := bk1.cell 1
      have r2 := bk2.cell 0
      have r3 := bk2.cell 1
      have t0 := fun i => bk1.thaw i
      have t1 := fun i => bk2.thaw i
      clear htw bk1 bk2
      go_wp2
      refine bodyPost_ret (v := .tuple #[.agg #[.int .i64 x, .slice A1 l1.length c1], .agg #[.int .i64 y, .slice A2 l2.length c2]]) (by simp [results, Try.results42, go_sem, r0, r1, r2, r3]) rfl ?_
      first | exact ⟨x, A1, l1, c1, y, A2, l2, c2, rfl, HTW.out⟩
end Go.Proofs.Ytlckeefjhafloaa.drw
