/- The draws of lists of strings. Condition: a code of at most 2^20 bytes. -/
import Derived.Test.YtaeimdcmpjanbaaDoorDrwInts
import Derived.Test.YtaeimdcmpjanbaaDoorCut
import Derived.Deep.RegionLaw
set_option linter.unusedVariables false
set_option linter.unusedSimpArgs false
namespace Go.Proofs.YtaeimdcmpjanbaaDoor.drw
open Go.RowKit Go.Proofs.YtaeimdcmpjanbaaDoor.mem Go.Proofs.YtaeimdcmpjanbaaDoor.cur

/-- a cursor and a row of strings of the call's own that grows beside it, since the world w1 -/
structure CT (w0 w1 w : World) (g : Nat) (zs : List Int) (a : Nat) (v : Value) (l : List ByteArray) : Prop where
  cur : Cur w0 w g zs a
  own : w.ownsRow w1.heap.size 9 1 v l.length (strs l)
  gr : w1.grownBy w (some g)
  lt : g < w1.heap.size
section
variable {w0 w1 w w' : World} {g a a' : Nat} {zs : List Int} {l : List ByteArray} {v v' : Value}
theorem CT.grown (h : CT w0 w1 w g zs a v l) (hc : Cur w0 w' g zs a') (hg : w.grownBy w' (some g)) : CT w0 w1 w' g zs a' v l := by
  refine ⟨hc, h.own.kept hg ?_, Cur.then_grown h.gr hg, h.lt⟩
  cases hk : v.ownBlock with
  | none => exact Or.inl rfl
  | some k =>
    right; intro e
    injection e with e
    have := (h.own.lt k hk).1
    have := h.lt
    omega
theorem CT.push {x : ByteArray} (h : CT w0 w1 w g zs a v l) (ho : w'.ownsRow w1.heap.size 9 1 v' (l.length + 1) (strs l ++ strs [x])) (hg : w.grownBy w' v.ownBlock) : CT w0 w1 w' g zs a v' (l ++ [x]) :=
  ⟨h.cur.grown hg (fun k hk => by have := (h.own.lt k hk).1; have := h.lt; have := h.cur.hi; omega), by rw [List.length_append, List.length_singleton, strs_app]; exact ho, grown_above h.gr hg (fun k hk => (h.own.lt k hk).1), h.lt⟩
theorem CT.alloc (h : CT w0 w1 w g zs a v l) (o : Obj) : CT w0 w1 (w.alloc o) g zs a v l :=
  ⟨h.cur.below ((Below.refl _ _).alloc (Nat.le_refl _) o), own_below h.own ((Below.refl _ _).alloc (Nat.le_refl _) o), Cur.then_grown h.gr (World.grownBy_alloc w o (some g)), h.lt⟩
theorem CT.size (h : CT w0 w1 w g zs a v l) : w1.heap.size ≤ w.heap.size := h.gr.size
end
theorem ct_made (w0 w1 : World) (g a : Nat) (zs : List Int) (h : Cur w0 w1 g zs a) : CT w0 w1 (w1.alloc (.cells #[] 9)) g zs a (.slice (some ⟨w1.heap.size, 0, none⟩) 0 0) [] :=
  ⟨h.below ((Below.refl _ _).alloc (Nat.le_refl _) _), World.ownsRow_made (base := w1.heap.size) (e := 9) (size := 1) w1 #[] 0 (Nat.le_refl _) (Nat.zero_le _) (by simp), World.grownBy_alloc w1 _ (some g), h.lt⟩
theorem poolS (w : World) (l : List ByteArray) {W' : World} {g : Nat} (hg : (w.alloc (.cells (strs l).toArray 9)).grownBy W' (some g)) (hne : g < w.heap.size) : Rd W' 1 (some ⟨w.heap.size, 0, none⟩) l.length (strs l) := by
  have h1 := (Blk.new w 9 (strs l).toArray).grown hg (fun e => by injection e with e; omega)
  exact h1.rd (by rw [len_strs, Nat.mul_one]) (by rw [Nat.mul_one]; exact List.take_of_length_le (by simp [len_strs]))
set_option maxRecDepth 100000 in
set_option maxHeartbeats 400000 in
theorem of_any (w0 w : World) (g a : Nat) (zs : List Int) (hn : zs.length ≤ 1048576) (ha : a ≤ 1099511627000) (h : Cur w0 w g zs a) (A : Option Addr) (c : Nat) (l : List ByteArray) (hl0 : 0 < l.length) (hl : l.length ≤ 1048576) (hr : ∀ W, w.grownBy W (some g) → Rd W 1 A l.length (strs l)) :
    Calls Tryd.prog 44 #[.pointer (some ⟨g, 0, none⟩), .slice A l.length c] w fun e w' => ∃ (x : ByteArray) (a' : Nat), x ∈ l ∧ a ≤ a' ∧ a' ≤ a + 2 ∧ e = .returned (.string x) ∧ Cur w0 w' g zs a' ∧ w.grownBy w' (some g) := by
  have HR := Lib.hid hr
  clear hr
  go_enter Tryd.func44, Tryd.ntmps44
  go_wp2_with fail
  refine (pick_any w0 w g a zs hn ha h (l.length : Int) (by omega) (by omega)).mono ?_
  rintro e w1 ⟨x, a', hx, h1, h2, rfl, hc, hg⟩
  have hxl : x < l.length := by omega
  have q1 : (x : Int) < (l.length : Int) := by omega
  obtain ⟨b, off, rfl, cx⟩ := (HR.out _ hg).str hxl
  have HM := Lib.hid (List.getElem_mem hxl)
  generalize l[x] = y at cx HM
  go_wp2
  go_ret
  exact ⟨y, a', HM.out, h1, h2, rfl, hc, hg⟩
def wds : List ByteArray := [⟨#[97]⟩, ⟨#[98]⟩, ⟨#[97, 98]⟩, ⟨#[66]⟩, ⟨#[48]⟩, ⟨#[55]⟩, ⟨#[49, 48]⟩, ⟨#[0]⟩, ⟨#[255]⟩, ⟨#[120, 57]⟩]
theorem wds_len : wds.length = 10 := rfl
theorem wds_sz : ∀ s ∈ wds, s.size ≤ 2 := by
  intro s hs
  simp only [wds, List.mem_cons, List.not_mem_nil, or_false] at hs
  rcases hs with rfl | rfl | rfl | rfl | rfl | rfl | rfl | rfl | rfl | rfl <;> decide
set_option maxRecDepth 100000 in
set_option maxHeartbeats 4000000 in
theorem word_any (w0 w : World) (g a : Nat) (zs : List Int) (hn : zs.length ≤ 1048576) (ha : a ≤ 1099511620000) (h : Cur w0 w g zs a) :
    Calls Tryd.prog 43 #[.pointer (some ⟨g, 0, none⟩)] w fun e w' => ∃ (x : ByteArray) (a' : Nat), x.size ≤ 8 ∧ a ≤ a' ∧ a' ≤ a + 20 ∧ e = .returned (.string x) ∧ Cur w0 w' g zs a' ∧ w.grownBy w' (some g) := by
  go_enter Tryd.func43, Tryd.ntmps43
  go_wp2_with fail
  refine (pick_any w0 _ g a zs hn (by omega) h 5 (by omega) (by omega)).mono ?_
  rintro e w1 ⟨x, a1, hx, ha1, ha2, rfl, hc1, hg1⟩
  have HC1 := Lib.hid (And.intro hc1 hg1)
  have hx4 : x ≤ 4 := by omega
  clear hc1 hg1 h hx
  go_wp2
  go_loopg [3, 4] 10 (fun f s i wr => ∃ (x a3 : Nat) (t : ByteArray), x < f ∧ x ≤ 4 ∧ t.size + 2 * x ≤ 8 ∧ a ≤ a3 ∧ a3 + 2 * x ≤ a + 10 ∧ i = .int .i64 (x : Int) ∧ s = .string t ∧ Cur w0 wr g zs a3 ∧ w.grownBy wr (some g))
  case atStart => exact ⟨x, a1, ByteArray.empty, by omega, by omega, by simp; omega, by omega, by omega, rfl, rfl, HC1.out.1, HC1.out.2⟩
  case round =>
    obtain ⟨x, a3, t, hxf, hx4, htl, ha3, ha3b, rfl, rfl, hcr, hgr⟩ := hrel
    have HCR := Lib.hid (And.intro hcr hgr)
    clear hcr hgr HC1
    by_cases hpos : 0 < x
    · have q1 : (0 : Int) < (x : Int) := by omega
      have HC3 := Lib.hid (HCR.out.1.below ((Below.refl _ _).alloc (Nat.le_refl _) (.cells (strs wds).toArray 9)))
      have HLT := Lib.hid HCR.out.1.lt
      have HPL := Lib.hid (fun (W' : World) (hg : (wr.alloc (.cells (strs wds).toArray 9)).grownBy W' (some g)) => poolS wr wds hg HLT.out)
      have HG3 := Lib.hid (Cur.then_grown HCR.out.2 (World.grownBy_alloc wr (.cells (strs wds).toArray 9) (some g)))
      have HOF := of_any w0 _ g a3 zs hn (by omega) HC3.out (some ⟨wr.heap.size, 0, none⟩) 10 wds (by rw [wds_len]; omega) (by rw [wds_len]; omega) HPL.out
      rw [wds_len] at HOF
      have HOFh := Lib.hid HOF
      clear HOF
      go_wp2_with fail
      refine HOFh.out.mono ?_
      rintro e w5 ⟨y5, a5, hy5, ha5, ha5b, rfl, hc5, hg5⟩
      have hsz := wds_sz y5 hy5
      have HC6 := Lib.hid (And.intro hc5 (Cur.then_grown HG3.out hg5))
      clear hc5 hg5 hy5 HPL HOFh HC3 HG3
      go_wp2
      go_roundg (gk - 1)
      case measure => omega
      case rel => exact ⟨x - 1, a5, t ++ y5, by omega, by omega, by simp; omega, by omega, by omega, by go_num, rfl, HC6.out.1, HC6.out.2⟩
    · have q1 : ¬ (0 : Int) < (x : Int) := by omega
      go_wp2
      go_ret
      first | exact ⟨t, a3, by omega, by omega, by omega, rfl, HCR.out.1, HCR.out.2⟩ | exact ⟨t, by omega, a3, by omega, by omega, rfl, HCR.out.1, HCR.out.2⟩
def abs3 : List ByteArray := [⟨#[97]⟩, ⟨#[97, 98]⟩, ⟨#[98]⟩]
def ez2 : List ByteArray := [⟨#[]⟩, ⟨#[122]⟩]
def abc : ByteArray := ⟨#[97, 98, 99, 100, 101, 102, 103, 104, 105, 106, 107, 108, 109, 110, 111, 112, 113, 114, 115, 116, 117, 118, 119, 120, 121, 122, 48, 49, 50, 51]⟩
theorem abc_size : abc.size = 30 := by decide
theorem abs3_sz : ∀ s ∈ abs3, s.size ≤ 2 := by
  intro s hs
  simp only [abs3, List.mem_cons, List.not_mem_nil, or_false] at hs
  rcases hs with rfl | rfl | rfl <;> decide
theorem ez2_sz : ∀ s ∈ ez2, s.size ≤ 2 := by
  intro s hs
  simp only [ez2, List.mem_cons, List.not_mem_nil, or_false] at hs
  rcases hs with rfl | rfl <;> decide
theorem sz_app {l : List ByteArray} {x : ByteArray} (h : ∀ s ∈ l, s.size ≤ 40) (hx : x.size ≤ 40) : ∀ s ∈ l ++ [x], s.size ≤ 40 := fun s hs => by
  rcases List.mem_append.1 hs with h1 | h1
  · exact h s h1
  · obtain rfl := List.mem_singleton.1 h1; exact hx
set_option maxRecDepth 100000 in
theorem ent_pickS : ∀ (vs : Array Value) (W : World), (callFunc 42 vs).run Tryd.prog W = .ok (.enter 42 vs) W := fun _ _ => rfl
set_option maxRecDepth 100000 in
theorem ent_of : ∀ (vs : Array Value) (W : World), (callFunc 44 vs).run Tryd.prog W = .ok (.enter 44 vs) W := fun _ _ => rfl
set_option maxRecDepth 100000 in
set_option maxHeartbeats 8000000 in
theorem words_any (w0 w : World) (g a : Nat) (zs : List Int) (hn : zs.length ≤ 1048576) (ha : a ≤ 1099511600000) (h : Cur w0 w g zs a) :
    Calls Tryd.prog 31 #[.pointer (some ⟨g, 0, none⟩)] w fun e w' => ∃ v l a', e = .returned v ∧ CT w0 w w' g zs a' v l ∧ l.length ≤ 50 ∧ (∀ s ∈ l, s.size ≤ 40) ∧ a ≤ a' ∧ a' ≤ a + 1000 := by
  have HC := Lib.hid (ct_made w0 w g a zs h)
  clear h
  go_enter Tryd.func31, Tryd.ntmps31
  go_wp2_with fail
  refine (pick_any w0 _ g a zs hn (by omega) HC.out.cur 9 (by omega) (by omega)).mono ?_
  rintro e w1 ⟨x, a1, hx, ha1, ha2, rfl, hc1, hg1⟩
  have HC1 := Lib.hid (HC.out.grown hc1 hg1)
  clear hc1 hg1 HC
  have hx8 : x ≤ 8 := by omega
  go_wp2
  go_loopg [3, 4] 20 (fun f v i wr => ∃ (x a3 : Nat) (l : List ByteArray), x < f ∧ x ≤ 8 ∧ l.length + x ≤ 8 ∧ a ≤ a3 ∧ a3 + 30 * x ≤ a + 2 + 240 ∧ i = .int .i64 (x : Int) ∧ CT w0 w wr g zs a3 v l ∧ (∀ s ∈ l, s.size ≤ 40))
  case atStart => exact ⟨x, a1, [], by omega, by omega, by simp; omega, by omega, by omega, rfl, HC1.out, by simp⟩
  case round =>
    obtain ⟨x, a3, l, hxf, hx8, hl, ha3, ha3b, rfl, hcr, hsz⟩ := hrel
    have HCR := Lib.hid hcr
    have HSZ := Lib.hid hsz
    clear hcr HC1 hsz
    by_cases hpos : 0 < x
    · have q1 : (0 : Int) < (x : Int) := by omega
      go_wp2_with fail
      refine (word_any w0 _ g a3 zs hn (by omega) HCR.out.cur).mono ?_
      rintro e w5 ⟨y5, a5, hy5, ha5, ha5b, rfl, hc5, hg5⟩
      have HC6 := Lib.hid (HCR.out.grown hc5 hg5)
      have HS2 := Lib.hid (sz_app HSZ.out (show y5.size ≤ 40 by omega))
      clear hc5 hg5 HCR
      have ho := HC6.out.own
      have hs := HC6.out.size
      have hb : l.length ≤ 1099511627776 := by omega
      go_wp2_with (at_builtin; refine mem.push _ rfl _ _ 25 rfl w.heap.size 9 _ 1 16 Tryd.underlying25 mem.info_str rfl Nat.one_pos _ _ _ rfl ho (strs [y5]) _ rfl (mem.strs_one [y5]) rfl hb (by decide) hs ?_; intro v' w' ho' hg')
      have HC7 := Lib.hid (HC6.out.push ho' hg')
      clear ho' hg' ho HC6
      go_wp2
      go_roundg (gk - 1)
      case measure => omega
      case rel => exact ⟨x - 1, a5, l ++ [y5], by omega, by omega, by simp; omega, by omega, by omega, by go_num, HC7.out, HS2.out⟩
    · have q1 : ¬ (0 : Int) < (x : Int) := by omega
      go_wp2_with fail
      refine (pick_any w0 _ g a3 zs hn (by omega) HCR.out.cur 28 (by omega) (by omega)).mono ?_
      rintro e w2 ⟨y, a4, _, ha4, ha5, rfl, hc2, hg2⟩
      have HC2 := Lib.hid (HCR.out.grown hc2 hg2)
      clear hc2 hg2 HCR
      have hcase : y = 0 ∨ y = 1 ∨ 2 ≤ y := by omega
      obtain ⟨Av, cv, rfl, _, _, _⟩ := own_form HC2.out.own
      rcases hcase with rfl | rfl | hy2
      · have HD := Lib.hid (show CT w0 w w2.drew g zs a4 (.slice Av l.length cv) l from ⟨HC2.out.cur.below (below_drewN (Below.refl _ _) 1), own_drewN HC2.out.own 1, only_drewN HC2.out.gr 1, HC2.out.lt⟩)
        have HLT := Lib.hid (Nat.lt_of_lt_of_le HD.out.lt HD.out.size)
        have hbL : l.length ≤ 1099511627776 := by omega
        go_wp2_with fail
        go_region_law (first
          | (refine step_call rfl 42 _ _ rfl ent_pickS (by simp [Act.eval, Act.put]) (pick_any w0 w2.drew g a4 zs hn (by omega) HD.out.cur 2 (by omega) (by omega)) ?_; rintro e w8 ⟨z, a5, hz, hz1, hz2, rfl, hc8, hg8⟩; have HM8 := Lib.hid (HD.out.grown hc8 hg8); have HG8 := Lib.hid hg8; obtain ⟨m, hm⟩ : ∃ m : Nat, m = 29 + z := ⟨_, rfl⟩; have hm30 : m ≤ 30 := (by omega); have hmi : (m : Int) ≤ 30 := (by omega); have r1 : IntKind.i64.wrap (29 + (z : Int)) = (m : Int) := (by rw [IntWalk.i64_in _ (by omega)]; omega); clear hc8 hg8 hm; refine ⟨_, rfl, ?_⟩)
          | (refine step_call rfl 42 _ _ rfl ent_pickS (by simp [Act.eval, Act.put]) (pick_any w0 (w2.drew.alloc (.cells (strs ez2).toArray 9)) g a4 zs hn (by omega) (HD.out.alloc _).cur 2 (by omega) (by omega)) ?_; rintro e w8 ⟨z, a5, hz, hz1, hz2, rfl, hc8, hg8⟩; have HM8 := Lib.hid ((HD.out.alloc _).grown hc8 hg8); have HG8 := Lib.hid hg8; obtain ⟨m, hm⟩ : ∃ m : Nat, m = 29 + z := ⟨_, rfl⟩; have hm30 : m ≤ 30 := (by omega); have hmi : (m : Int) ≤ 30 := (by omega); have r1 : IntKind.i64.wrap (29 + (z : Int)) = (m : Int) := (by rw [IntWalk.i64_in _ (by omega)]; omega); clear hc8 hg8 hm; refine ⟨_, rfl, ?_⟩)
          | (refine step_call rfl 44 _ _ rfl ent_of (by simp [Act.eval, Act.put, ez2]) (of_any w0 (w8.alloc (.cells (strs ez2).toArray 9)) g a5 zs hn (by omega) (HM8.out.alloc _).cur (some ⟨w8.heap.size, 0, none⟩) 2 ez2 (by decide) (by decide) (fun W' hg => poolS w8 ez2 hg HM8.out.cur.lt)) ?_; rintro e w9 ⟨y9, a6, hy9, hz3, hz4, rfl, hc9, hg9⟩; have HM9 := Lib.hid ((HM8.out.alloc _).grown hc9 hg9); have hy2 := ez2_sz y9 hy9; have hmy : ¬ 9223372036854775807 < m + y9.size := (by omega); have hoX := HM9.out.own; have hsX := HM9.out.size; clear hc9 hg9 hy9; refine ⟨_, rfl, ?_⟩)
          | (refine step_call rfl 44 _ _ rfl ent_of (by simp [Act.eval, Act.put, ez2]) (of_any w0 w8 g a5 zs hn (by omega) HM8.out.cur (some ⟨w2.drew.heap.size, 0, none⟩) 2 ez2 (by decide) (by decide) (fun W' hg => poolS w2.drew ez2 (Cur.then_grown HG8.out hg) HLT.out)) ?_; rintro e w9 ⟨y9, a6, hy9, hz3, hz4, rfl, hc9, hg9⟩; have HM9 := Lib.hid (HM8.out.grown hc9 hg9); have hy2 := ez2_sz y9 hy9; have hmy : ¬ 9223372036854775807 < m + y9.size := (by omega); have hoX := HM9.out.own; have hsX := HM9.out.size; clear hc9 hg9 hy9; refine ⟨_, rfl, ?_⟩)
          | (refine mem.step_push_at w9 rfl (.tmp 21) (.tmp 30) 25 rfl w.heap.size 9 _ 1 16 Tryd.underlying25 mem.info_str rfl Nat.one_pos (.slice Av l.length cv) l.length (strs l) (by simp [Act.eval, Act.put]) hoX (strs [abc.extract 0 m ++ y9]) 1 rfl (mem.strs_one [abc.extract 0 m ++ y9]) (by simp [Act.eval, Act.put]) hbL (by decide) hsX ?_; intro v' w' ho' hg' hnw'; have HP := Lib.hid (HM9.out.push (x := abc.extract 0 m ++ y9) ho' hg'); clear ho' hg' hnw'))
        all_goals
          have HS2 := Lib.hid (sz_app HSZ.out (show (abc.extract 0 m ++ y9).size ≤ 40 by rw [ByteArray.size_append, ByteArray.size_extract, abc_size]; omega))
          go_wp2
          go_ret
          first | exact ⟨_, l ++ [abc.extract 0 m ++ y9], a6, rfl, HP.out, by simp; omega, HS2.out, by omega, by omega⟩ | exact ⟨_, rfl, l ++ [abc.extract 0 m ++ y9], a6, HP.out, by simp; omega, HS2.out, by omega, by omega⟩ | exact ⟨l ++ [abc.extract 0 m ++ y9], a6, HP.out, by simp; omega, HS2.out, by omega, by omega⟩
      · go_wp2
        go_loopg [3] 70 (fun f v wr => ∃ (a3 : Nat) (l : List ByteArray), 42 ≤ l.length + f ∧ l.length ≤ 41 ∧ a ≤ a3 ∧ a3 ≤ a + 250 + 4 * l.length ∧ CT w0 w wr g zs a3 v l ∧ (∀ s ∈ l, s.size ≤ 40))
        case atStart => exact ⟨a4, l, by omega, by omega, by omega, by omega, HC2.out, HSZ.out⟩
        case round =>
          obtain ⟨a5, l5, hf5, hl5, ha6, ha7, hcr5, hsz5⟩ := hrel
          have HC5 := Lib.hid hcr5
          have HZ5 := Lib.hid hsz5
          clear hcr5 hsz5 HC2
          obtain ⟨A5, c5, rfl, _, _, _⟩ := own_form HC5.out.own
          go_wp2_with fail
          refine (pick_any w0 _ g a5 zs hn (by omega) HC5.out.cur 2 (by omega) (by omega)).mono ?_
          rintro e w4 ⟨z, a6, hz2, ha8, ha9, rfl, hc6, hg6⟩
          have HC6 := Lib.hid (HC5.out.grown hc6 hg6)
          clear hc6 hg6 HC5
          have hz1 : z ≤ 1 := by omega
          have r1 : IntKind.i64.wrap (40 + (z : Int)) = 40 + (z : Int) := IntWalk.i64_in _ (by omega)
          by_cases hlt : (l5.length : Int) < 40 + (z : Int)
          · have HC7 := Lib.hid (HC6.out.alloc (.cells (strs abs3).toArray 9))
            have HLT := Lib.hid (Nat.lt_of_lt_of_le HC6.out.lt HC6.out.size)
            have HPL := Lib.hid (fun (W' : World) (hg : (w4.alloc (.cells (strs abs3).toArray 9)).grownBy W' (some g)) => poolS w4 abs3 hg HLT.out)
            have HOF := Lib.hid (show Calls Tryd.prog 44 #[.pointer (some ⟨g, 0, none⟩), .slice (some ⟨w4.heap.size, 0, none⟩) 3 3] (w4.alloc (.cells (strs abs3).toArray 9)) _ from of_any w0 _ g a6 zs hn (by omega) HC7.out.cur (some ⟨w4.heap.size, 0, none⟩) 3 abs3 (by decide) (by decide) HPL.out)
            go_wp2_with fail
            refine HOF.out.mono ?_
            rintro e w5 ⟨y5, a7, hy5, hb6, hb7, rfl, hc8, hg8⟩
            have hsz := abs3_sz y5 hy5
            have HC8 := Lib.hid (HC7.out.grown hc8 hg8)
            have HS8 := Lib.hid (sz_app HZ5.out (show y5.size ≤ 40 by omega))
            clear hc8 hg8 HC7 HC6 HPL HOF hy5
            have ho := HC8.out.own
            have hs := HC8.out.size
            have hb : l5.length ≤ 1099511627776 := by omega
            go_wp2_with (at_builtin; refine mem.push _ rfl _ _ 25 rfl w.heap.size 9 _ 1 16 Tryd.underlying25 mem.info_str rfl Nat.one_pos _ _ _ rfl ho (strs [y5]) _ rfl (mem.strs_one [y5]) rfl hb (by decide) hs ?_; intro v' w' ho' hg')
            have HC9 := Lib.hid (HC8.out.push ho' hg')
            clear ho' hg' ho HC8
            go_wp2
            go_roundg (gk - 1)
            case measure => omega
            case rel => exact ⟨a7, l5 ++ [y5], by simp; omega, by simp; omega, by omega, by simp; omega, HC9.out, HS8.out⟩
          · go_wp2
            go_ret
            first | exact ⟨_, l5, a6, rfl, HC6.out, by omega, HZ5.out, by omega, by omega⟩ | exact ⟨_, rfl, l5, a6, HC6.out, by omega, HZ5.out, by omega, by omega⟩ | exact ⟨l5, a6, HC6.out, by omega, HZ5.out, by omega, by omega⟩
      · have y0 : ((y : Int) == 0) = false := by simp; omega
        have y1 : ((y : Int) == 1) = false := by simp; omega
        have z0 : ¬ (y : Int) = 0 := by omega
        have z1 : ¬ (y : Int) = 1 := by omega
        have z5 : (y == 0) = false := by simp; omega
        have z6 : (y == 1) = false := by simp; omega
        go_wp2
        go_ret
        first | exact ⟨_, l, a4, rfl, HC2.out, by omega, HSZ.out, by omega, by omega⟩ | exact ⟨_, rfl, l, a4, HC2.out, by omega, HSZ.out, by omega, by omega⟩ | exact ⟨l, a4, HC2.out, by omega, HSZ.out, by omega, by omega⟩
end Go.Proofs.YtaeimdcmpjanbaaDoor.drw
