/- The exact summary of a list, the reference's. Condition: at most 2^20 elements. -/
import Derived.Test.YtlckeefjhafloaaSmyOf
set_option linter.unusedVariables false
set_option linter.unusedSimpArgs false
namespace Go.Proofs.Ytlckeefjhafloaa.smyOf
open Go.RowKit Go.Proofs.Ytlckeefjhafloaa.mem Go.Proofs.Ytlckeefjhafloaa.srt
open Go.Proofs.Ytlckeefjhafloaa.lists (vlist)

set_option maxRecDepth 100000 in
set_option maxHeartbeats 4000000 in
theorem exact_any (A : Option Addr) (c : Nat) (zs : List Int) (w : World) (hn : zs.length ≤ 1048576) (hr : Rd w 1 A zs.length (ints zs)) :
    Calls Try.prog 76 #[.slice A zs.length c] w fun e w' => ∃ v, e = .returned (.agg #[.int .i64 (zs.length : Int), v]) ∧ OwnRkv w w' v (exk (srt zs) zs.length) ∧ Below w.heap.size w w' := by
  have HB := Lib.hid (box2 w 29 29 #[.int .i64 0, .slice none 0 0] #[.int .i64 (zs.length : Int), .slice none 0 0])
  have HS := Lib.hid (srt.spec_any A c zs _ hn (hr.below HB.out.2.2))
  go_enter Try.func76, Try.ntmps76
  go_wp2_with fail
  refine HS.out.mono ?_
  rintro e w2 ⟨v, rfl, hos, hb3⟩
  obtain ⟨As, cs, rfl, _, _, hrs⟩ := own_form hos
  have hsz : w.heap.size + 2 ≤ w2.heap.size := by have := hb3.size; simp at this; omega
  have hA : ∀ b off, 0 < zs.length → As = some ⟨b, off, none⟩ → w.heap.size + 2 ≤ b ∧ b < w2.heap.size := fun b off h0 e => by
    obtain ⟨g, e2, h1, h2⟩ := own_addr hos h0
    rw [e2] at e; injection e with e; injection e with e3 e4
    subst e3; simp at h1; omega
  have HA := Lib.hid hA
  have HSL := Lib.hid (srt_len zs)
  generalize hss : srt zs = s at hrs HSL
  have HSS := Lib.hid hss
  have HX := Lib.hid (And.intro (HB.out.1.below hb3 (by simp; omega)) (And.intro (HB.out.2.1.below hb3 (by simp)) (And.intro hrs (below_step HB.out.2.2 hb3))))
  clear hss hrs hos hA hb3 HS
  go_wp2
  go_loopg [5] (zs.length + 1) (fun f i wr => ∃ (k : Nat) (v : Value), i = .int .i64 (k : Int) ∧ k ≤ zs.length ∧ zs.length < k + f ∧ Blk wr w.heap.size 29 #[.int .i64 0, .slice none 0 0] ∧ Blk wr (w.heap.size + 1) 29 #[.int .i64 (zs.length : Int), v] ∧ wr.ownsRow w2.heap.size 51 3 v (exk s k).length (rkvs (exk s k)) ∧ Rd wr 1 As zs.length (ints s) ∧ Below w.heap.size w wr ∧ w2.heap.size ≤ wr.heap.size)
  case atStart => exact ⟨0, _, rfl, by omega, by omega, HX.out.1, HX.out.2.1, by rw [show exk s 0 = [] from rfl]; exact World.ownsRow_nil _ _ _ _, HX.out.2.2.1, HX.out.2.2.2, Nat.le_refl _⟩
  case round =>
    obtain ⟨k, v, rfl, hk, hf, hE, hO, ho, hrs, hb, hw2⟩ := hrel
    obtain ⟨Av, cv, hve, _, _, _⟩ := own_form ho
    subst hve
    have hel := exk_len s k
    by_cases hlt2 : k < zs.length
    · have hks : k < s.length := by rw [HSL.out]; exact hlt2
      have hrs' : Rd wr 1 As s.length (ints s) := by rw [HSL.out]; exact hrs
      obtain ⟨b, off, rfl, hc⟩ := hrs'.int hks
      have hbb := HA.out b off (by omega) rfl
      have HEX := Lib.hid (exk_step s k)
      rw [getD_z s hks] at HEX
      generalize s[k] = x at hc HEX
      have HG := Lib.hid (own_ge ho)
      have HH := Lib.hid (And.intro hE (And.intro hO (And.intro ho (And.intro hrs hb))))
      have hO1 : wr.cell? ⟨w.heap.size + 1, 1, none⟩ = some (.slice Av (exk s k).length cv) := hO.cell 1
      have hO1z := fun (o : Obj) => cells_below (w' := wr.alloc o) ((Below.refl _ _).alloc (Nat.le_refl _) o) hO1
      have hh : (exk s k).length ≤ 1099511627776 := by omega
      have q1 : IntKind.i64.wrap ((k : Int) + 1) = (k : Int) + 1 := IntWalk.i64_in _ (by omega)
      have q2 : (k : Int) < (zs.length : Int) := by omega
      clear hE hO hrs hrs' hb hel
      generalize hek : exk s k = pk at ho hh HEX hO1 hO1z HH HG ⊢
      have HEK := Lib.hid hek
      have ho3 : wr.drew.ownsRow w2.heap.size 51 3 (.slice Av pk.length cv) pk.length (rkvs pk) := ho
      clear hek ho
      go_wp2_with fail
      go_region_law ((refine mem.step_push_atH wr.drew rfl (.tmp 18) (.tmp 28) 27 rfl w2.heap.size 51 _ 3 24 Try.underlying27 mem.info_rkv rfl (by decide) (.slice Av pk.length cv) pk.length (rkvs pk) (by simp [Act.eval, Act.put]) ho3 wr.heap.size rfl (rkvs [(⟨x, (k : Int) + 1, (k : Int) + 1⟩ : Rkv)]) 1 rfl (mem.rkvs_one [_]) (by simp [Act.eval, Act.put]) hh (by decide) hw2 ?_; intro v' w' ho' hg0 hnw'; have hg' := mem.grown_undrew hg0; clear hg0; have hO2 := HH.out.2.1.grown hg' (fun e => by have := HG.out _ e.symm; omega); have hcc : w'.cell? ⟨w.heap.size + 1, 1, none⟩ = some (.slice Av pk.length cv) := hO2.cell 1; have hff := hO2.thaw 1; obtain ⟨A', c', hve, _, _, _⟩ := own_form ho'; subst hve))
      all_goals
        have hO3 := hO2.put 1 (.slice A' (pk.length + 1) c')
        have hoo := own_far ho' (p := ⟨w.heap.size + 1, 1, none⟩) (fun e => by have := (ho'.lt _ e).1; simp only at this; omega) (.slice A' (pk.length + 1) c')
        have hE3 := (HH.out.1.grown hg' (fun e => by have := HG.out _ e.symm; omega)).far (p := ⟨w.heap.size + 1, 1, none⟩) (by simp only; omega) (.slice A' (pk.length + 1) c')
        have hr3 := rd_far (HH.out.2.2.2.1.grown hg' (fun b' o' e e2 => by injection e with e; injection e with e3 e4; subst e3; have := HG.out _ e2.symm; omega)) (p := ⟨w.heap.size + 1, 1, none⟩) (fun b' o' e => by injection e with e; injection e with e3 e4; subst e3; simp only; omega) (.slice A' (pk.length + 1) c')
        have hb3 := (below_grown HH.out.2.2.2.2 HH.out.2.2.2.2.size hg' (fun g h => by have := HG.out _ h; omega)).setCell (p := ⟨w.heap.size + 1, 1, none⟩) (by simp only; omega) (.slice A' (pk.length + 1) c')
        have hsz3 : w2.heap.size ≤ (w'.setCell ⟨w.heap.size + 1, 1, none⟩ (.slice A' (pk.length + 1) c')).heap.size := by have := hg'.size; simp [World.setCell]; omega
        have HALL := Lib.hid (And.intro hE3 (And.intro hO3 (And.intro hoo (And.intro hr3 (And.intro hb3 hsz3)))))
        clear ho' hg' hnw' hO2 hcc hff hO3 hoo hE3 hr3 hb3 hsz3
        go_wp2
        go_roundg (gk - 1)
        case rel => exact ⟨k + 1, _, by go_num, by omega, by omega, HALL.out.1, HALL.out.2.1, by rw [HEX.out, List.length_append, rkvs_app]; exact HALL.out.2.2.1, HALL.out.2.2.2.1, HALL.out.2.2.2.2.1, HALL.out.2.2.2.2.2⟩
        case measure => omega
    · obtain rfl : k = zs.length := by omega
      have e0 : wr.cell? ⟨w.heap.size, 0, none⟩ = some (.int .i64 0) := hE.cell 0
      have e1 : wr.cell? ⟨w.heap.size, 1, none⟩ = some (.slice none 0 0) := hE.cell 1
      have e3 := hE.thaw 0
      have e4 := hE.thaw 1
      have o0 : wr.cell? ⟨w.heap.size + 1, 0, none⟩ = some (.int .i64 (zs.length : Int)) := hO.cell 0
      have o1 : wr.cell? ⟨w.heap.size + 1, 1, none⟩ = some (.slice Av (exk s zs.length).length cv) := hO.cell 1
      have HEL := Lib.hid hel
      have HRR := Lib.hid (show exk (srt zs) zs.length = exk s zs.length by rw [HSS.out])
      generalize exk s zs.length = pk at ho o1 HEL HRR
      have HOF := Lib.hid (fun u1 u2 => own_far (own_far ho (p := ⟨w.heap.size, 0, none⟩) (fun e => by have := (ho.lt _ e).1; simp at this; omega) u1) (p := ⟨w.heap.size, 1, none⟩) (fun e => by have := (ho.lt _ e).1; simp at this; omega) u2)
      have HBF := Lib.hid (fun u1 u2 => (hb.setCell (p := ⟨w.heap.size, 0, none⟩) (by simp) u1).setCell (p := ⟨w.heap.size, 1, none⟩) (by simp) u2)
      clear ho hO hE hb hel hrs
      go_wp2
      refine bodyPost_ret (v := .agg #[.int .i64 (zs.length : Int), .slice Av pk.length cv]) (by simp [results, Try.results76, go_sem, e0, e1]) rfl ⟨_, rfl, ⟨by rw [HRR.out]; exact own_base (HOF.out _ _) (by omega), by rw [HRR.out, HEL.out]; omega⟩, HBF.out _ _⟩
set_option maxRecDepth 100000 in
set_option maxHeartbeats 4000000 in
theorem spec_any (A : Option Addr) (c : Nat) (zs : List Int) (w : World) (hn : zs.length ≤ 1048576) (hr : Rd w 1 A zs.length (ints zs)) :
    Calls Try.prog 43 #[.slice A zs.length c] w fun e w' => ∃ (v : Value) (n : Int), e = .returned (.tuple #[.agg #[.int .i64 n, v], .bool (okS zs)]) ∧ n = resSN zs ∧ OwnRkv w w' v (resS zs) ∧ Below w.heap.size w w' := by
  have HV := Lib.hid (fun o => lists.spec_any A c zs (w.alloc o) hn (hr.alloc o))
  have HBO := Lib.hid ((Below.refl w.heap.size w).alloc (Nat.le_refl _) (.cells #[.int .i64 0, .slice none 0 0] 29))
  have HR0 := Lib.hid (fun (h : okS zs = false) => show resS zs = [] ∧ resSN zs = 0 by simp [resS, resSN, h])
  have HR1 := Lib.hid (fun (h : okS zs = true) => show resS zs = exk (srt zs) zs.length ∧ resSN zs = (zs.length : Int) by simp [resS, resSN, h])
  have HE := Lib.hid (Blk.new w 29 #[.int .i64 0, .slice none 0 0])
  have HX := Lib.hid (exact_any A c zs (w.alloc (.cells #[.int .i64 0, .slice none 0 0] 29)) hn (hr.alloc _))
  cases hv : vlist zs with
  | false =>
    have HF := Lib.hid (show okS zs = false from hv)
    rw [hv] at HV
    clear hv
    go_enter Try.func43, Try.ntmps43
    go_wp2_with fail
    refine (HV.out _).mono ?_
    rintro e w1 ⟨rfl, rfl⟩
    go_wp2
    refine bodyPost_ret (v := .tuple #[.agg #[.int .i64 0, .slice none 0 0], .bool false]) (by simp [results, Try.results43, go_sem]) rfl ⟨.slice none 0 0, 0, by rw [HF.out], (HR0.out HF.out).2.symm, ⟨by rw [(HR0.out HF.out).1]; exact World.ownsRow_nil _ _ _ _, by rw [(HR0.out HF.out).1]; simp⟩, ?_⟩
    first | exact HBO.out | exact (HBO.out.setCell (by simp) _).setCell (by simp) _
  | true =>
    have HF := Lib.hid (show okS zs = true from hv)
    rw [hv] at HV
    clear hv
    go_enter Try.func43, Try.ntmps43
    go_wp2_with fail
    refine (HV.out _).mono ?_
    rintro e w1 ⟨rfl, rfl⟩
    go_wp2_with fail
    refine HX.out.mono ?_
    rintro e w1 ⟨v, rfl, ho, hb1⟩
    obtain ⟨Av, cv, hve, _, _, _⟩ := own_form ho.1
    subst hve
    have hE := HE.out.below hb1 (by simp)
    have hb2 := below_step HBO.out hb1
    have e0 : w1.cell? ⟨w.heap.size, 0, none⟩ = some (.int .i64 0) := hE.cell 0
    have e1 : w1.cell? ⟨w.heap.size, 1, none⟩ = some (.slice none 0 0) := hE.cell 1
    have e3 := hE.thaw 0
    have e4 := hE.thaw 1
    have hlt := hE.lt
    have HEL := Lib.hid (exk_len (srt zs) zs.length)
    have HRR := Lib.hid (HR1.out HF.out)
    generalize exk (srt zs) zs.length = pk at ho HEL HRR
    have HOF := Lib.hid (fun u1 u2 => own_far (own_far ho.1 (p := ⟨w.heap.size, 0, none⟩) (fun e => by have := (ho.1.lt _ e).1; simp at this; omega) u1) (p := ⟨w.heap.size, 1, none⟩) (fun e => by have := (ho.1.lt _ e).1; simp at this; omega) u2)
    have HBF := Lib.hid (fun u1 u2 => (hb2.setCell (p := ⟨w.heap.size, 0, none⟩) (by simp) u1).setCell (p := ⟨w.heap.size, 1, none⟩) (by simp) u2)
    clear ho hE hb1 hb2
    go_wp2
    refine bodyPost_ret (v := .tuple #[.agg #[.int .i64 (zs.length : Int), .slice Av pk.length cv], .bool true]) (by simp [results, Try.results43, go_sem, e0, e1]) rfl ⟨_, _, by rw [HF.out], HRR.out.2.symm, ⟨by rw [HRR.out.1]; exact own_base (HOF.out _ _) (by simp), by rw [HRR.out.1, HEL.out]; omega⟩, HBF.out _ _⟩
end Go.Proofs.Ytlckeefjhafloaa.smyOf
