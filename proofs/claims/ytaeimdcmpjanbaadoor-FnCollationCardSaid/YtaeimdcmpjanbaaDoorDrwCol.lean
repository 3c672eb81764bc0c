/- The draw of a collation's list and its two switches. Condition: a code of at most 2^20 bytes. -/
import Derived.Test.YtaeimdcmpjanbaaDoorDrwStr
set_option linter.unusedVariables false
set_option linter.unusedSimpArgs false
namespace Go.Proofs.YtaeimdcmpjanbaaDoor.drw
open Go.RowKit Go.Proofs.YtaeimdcmpjanbaaDoor.mem Go.Proofs.YtaeimdcmpjanbaaDoor.cur

def dig10 : ByteArray := ⟨#[49, 50, 51, 52, 53, 54, 55, 56, 57, 48]⟩
set_option maxRecDepth 100000 in
set_option maxHeartbeats 2000000 in
theorem colstrs_any (A : Option Addr) (c : Nat) (zs : List Int) (W : World) (hn : zs.length ≤ 1048576) (hz : ∀ z ∈ zs, 0 ≤ z ∧ z ≤ 255) (hr : Rd W 1 A zs.length (u8s zs)) :
    Calls Tryd.prog 16 #[.slice A zs.length c] W fun e w' => ∃ v l f n, e = .returned (.tuple #[v, .bool f, .bool n]) ∧ w'.ownsRow W.heap.size 9 1 v l.length (strs l) ∧ l.length ≤ 60 ∧ (∀ s ∈ l, s.size ≤ 40) ∧ Below W.heap.size W w' := by
  have HC := Lib.hid (cur_made W A c zs hz hr)
  clear hz hr
  go_enter Tryd.func16, Tryd.ntmps16
  go_wp2_with fail
  refine (words_any W _ W.heap.size 0 zs hn (by omega) HC.out).mono ?_
  rintro e w1 ⟨v, l, a, rfl, hci, hl, hsz, ha, ha2⟩
  have hss : W.heap.size ≤ (W.alloc (.cells #[.slice A zs.length c, .int .i64 0, .int .u64 0] 49)).heap.size := by simp
  have HSZ := Lib.hid hsz
  have HC1 := Lib.hid hci
  clear hci HC hsz
  go_wp2_with fail
  refine (one_any W _ W.heap.size a zs hn (by omega) HC1.out.cur 16 (by omega) (by omega)).mono ?_
  rintro e w2 ⟨b1, a2, ha3, ha4, rfl, hc2, hg2⟩
  have HC2 := Lib.hid (HC1.out.grown hc2 hg2)
  clear hc2 hg2 HC1
  cases b1 with
  | true =>
    have ho := HC2.out.own
    have hs := HC2.out.size
    have hb : l.length ≤ 1099511627776 := by omega
    have HS2 := Lib.hid (sz_app HSZ.out (show dig10.size ≤ 40 by decide))
    go_wp2_with (at_builtin; refine mem.push _ rfl _ _ 25 rfl (W.alloc (.cells #[.slice A zs.length c, .int .i64 0, .int .u64 0] 49)).heap.size 9 _ 1 16 Tryd.underlying25 mem.info_str rfl Nat.one_pos _ _ _ rfl ho (strs [(⟨#[49, 50, 51, 52, 53, 54, 55, 56, 57, 48]⟩ : ByteArray)]) _ rfl (mem.strs_one [(⟨#[49, 50, 51, 52, 53, 54, 55, 56, 57, 48]⟩ : ByteArray)]) rfl hb (by decide) hs ?_; intro v' w' ho' hg')
    have HC3 := Lib.hid (HC2.out.push (x := dig10) ho' hg')
    clear ho' hg' ho HC2
    go_wp2_with fail
    refine (one_any W _ W.heap.size a2 zs hn (by omega) HC3.out.cur 2 (by omega) (by omega)).mono ?_
    rintro e w4 ⟨b2, a4, ha5, ha6, rfl, hc4, hg4⟩
    have HC4 := Lib.hid (HC3.out.grown hc4 hg4)
    clear hc4 hg4 HC3
    go_wp2_with fail
    refine (one_any W _ W.heap.size a4 zs hn (by omega) HC4.out.cur 3 (by omega) (by omega)).mono ?_
    rintro e w5 ⟨b3, a5, ha7, ha8, rfl, hc5, hg5⟩
    have HC5 := Lib.hid (HC4.out.grown hc5 hg5)
    clear hc5 hg5 HC4
    have HO := Lib.hid (own_base HC5.out.own hss)
    have HB := Lib.hid HC5.out.cur.bel
    cases b3
    all_goals
      go_wp2
      go_ret3
      exact ⟨_, l ++ [dig10], _, _, rfl, HO.out, by simp; omega, HS2.out, HB.out⟩
  | false =>
    go_wp2_with fail
    refine (one_any W _ W.heap.size a2 zs hn (by omega) HC2.out.cur 2 (by omega) (by omega)).mono ?_
    rintro e w4 ⟨b2, a4, ha5, ha6, rfl, hc4, hg4⟩
    have HC4 := Lib.hid (HC2.out.grown hc4 hg4)
    clear hc4 hg4 HC2
    go_wp2_with fail
    refine (one_any W _ W.heap.size a4 zs hn (by omega) HC4.out.cur 3 (by omega) (by omega)).mono ?_
    rintro e w5 ⟨b3, a5, ha7, ha8, rfl, hc5, hg5⟩
    have HC5 := Lib.hid (HC4.out.grown hc5 hg5)
    clear hc5 hg5 HC4
    have HO := Lib.hid (own_base HC5.out.own hss)
    have HB := Lib.hid HC5.out.cur.bel
    cases b3
    all_goals
      go_wp2
      go_ret3
      exact ⟨_, l, _, _, rfl, HO.out, by omega, HSZ.out, HB.out⟩
end Go.Proofs.YtaeimdcmpjanbaaDoor.drw
