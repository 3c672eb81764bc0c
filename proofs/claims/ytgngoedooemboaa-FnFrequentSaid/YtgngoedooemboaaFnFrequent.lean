/- FnFrequent: a counter is at most the number of occurrences and at least that number minus n / (counters + 1). No condition. -/
import Derived.Test.YtgngoedooemboaaFrame
import Derived.Test.YtgngoedooemboaaCode
import Derived.Test.YtgngoedooemboaaFrqBnd
import Derived.Test.YtgngoedooemboaaDrwFrq
import Derived.Test.YtgngoedooemboaaDstS
set_option linter.unusedVariables false
set_option linter.unusedSimpArgs false
namespace Go.Proofs.Ytgngoedooemboaa.fnFrequent
open Go.ChangeShapes Go.WideShapes Go.ChangeAt Go.RowKit Go.Proofs.Ytgngoedooemboaa.mem Go.Proofs.Ytgngoedooemboaa.srt Go.Proofs.Ytgngoedooemboaa.frq
open Go.Proofs.Ytgngoedooemboaa.lists (vlist vlist_len vlist_key)
open Go.Proofs.Ytgngoedooemboaa.ins (inB inB_iff)

set_option maxHeartbeats 400000 in
theorem valid_any (A : Option Addr) (c : Nat) (zs : List Int) (w : World) (hn : zs.length ≤ 1048576) (hr : Rd w 1 A zs.length (ints zs)) :
    Calls Try.prog 50 #[.slice A zs.length c] w fun e w' => e = .returned (.bool (vlist zs)) ∧ w = w' := by
  have HV := Lib.hid (lists.spec_any A c zs w hn hr)
  go_enter Try.func50, Try.ntmps50
  go_wp2_with fail
  refine HV.out.mono ?_
  rintro e w1 ⟨rfl, rfl⟩
  go_wp2
  go_ret
  exact ⟨rfl, rfl⟩
set_option maxRecDepth 100000 in
set_option maxHeartbeats 8000000 in
theorem walk (A : Option Addr) (n c : Nat) (zs : List Int) (W : World) (h0 : n = zs.length ∧ n ≤ c ∧ c ≤ maxLen ∧ Rd W 1 A n (u8s zs) ∧ (∀ z ∈ zs, 0 ≤ z ∧ z ≤ 255)) :
    Calls Try.prog 12 #[.slice A n c] W fun e w' => e = .returned (.bool true) ∧ Below W.heap.size W w' := by
  obtain ⟨rfl, hnc, hcm, hr, hz⟩ := h0
  have HZ := Lib.hid hz
  clear hz
  have hn : zs.length ≤ maxLen := Nat.le_trans hnc hcm
  go_enter Try.func12, Try.ntmps12
  go_wp2_with fail
  refine (codes.big_any A _ c W hn).mono ?_
  rintro e w1 ⟨rfl, rfl⟩
  by_cases hbig : 65536 < zs.length
  · go_wp2
    go_ret
    exact ⟨rfl, Below.refl _ _⟩
  have hsm : zs.length ≤ 1048576 := by omega
  have hd : decide (65536 < zs.length) = false := by simpa using hbig
  rw [hd]
  clear hd hbig
  go_wp2_with fail
  refine (drw.frq_any A c zs W hsm HZ.out hr).mono ?_
  rintro e w1 ⟨v, l, p, rfl, hol, hll, hk1, hk2, hb1⟩
  obtain ⟨Al, cl, rfl, hlc, _, hrl⟩ := own_form hol
  clear hol
  have HF := Lib.hid (frq_impl Al cl l p w1 (by omega) hrl)
  go_wp2_with fail
  with_reducible refine HF.out.mono ?_
  rintro e w2 ⟨v1, v2, rfl, ⟨ho1, hs1⟩, ⟨ho2, hs2⟩, _, hb2⟩
  obtain ⟨A1, c1, rfl, _, _, rd1⟩ := own_form ho1
  obtain ⟨A2, c2, rfl, _, _, rd2⟩ := own_form ho2
  have hrl2 := hrl.below hb2
  have hbW := below_step hb1 hb2
  have HVV := Lib.hid (valid_any Al cl l w2 (by omega) hrl2)
  have HLN := Lib.hid (show (resV l p).length = (resK l p).length by rw [resV, List.length_map])
  rw [HLN.out]
  clear hrl hb1 hb2 ho1 ho2 HF
  by_cases hok : okF l p = true
  · have hok' := hok
    rw [okF, Bool.and_eq_true] at hok'
    obtain ⟨hv, hi⟩ := hok'
    have hk := inB_iff.1 hi
    obtain ⟨q, rfl⟩ : ∃ q : Nat, p = (q : Int) := ⟨p.toNat, by omega⟩
    have h64 := vlist_len hv
    rw [hv] at HVV
    have HRK := Lib.hid (show resK l (q : Int) = srt (keys (run q l)) by rw [resK, if_pos hok, Int.toNat_natCast])
    have HRV := Lib.hid (show resV l (q : Int) = (srt (keys (run q l))).map (frq.look (run q l)) by rw [resV, HRK.out, Int.toNat_natCast])
    rw [hok]
    rw [HRV.out, List.length_map] at rd2
    rw [HRK.out] at rd1 ⊢
    have HDI := Lib.hid (fun W hR => distinct.implT_any Al cl l W (by omega) hR)
    have HRA := Lib.hid (show distinct.resA l = distinct.dst l ∧ distinct.resB l = (distinct.dst l).map (fun x => ((l.count x : Nat) : Int)) by
      constructor
      · rw [distinct.resA, if_pos hv]
      · rw [distinct.resB, if_pos hv]; rfl)
    have HOKL := Lib.hid (at_ok q l l.length (Nat.le_refl _))
    have HAT := Lib.hid (show at' q l l.length = run q l by rw [at', List.take_length])
    rw [HAT.out] at HOKL
    have HBD := Lib.hid (bound q l)
    have HSM := Lib.hid (fun y (h : y ∈ keys (run q l)) => srt_mem.2 h)
    have HSL := Lib.hid (show (srt (keys (run q l))).length = (run q l).length by rw [srt_len, keys_len])
    clear hok hv hi
    generalize srt (keys (run q l)) = S at rd1 rd2 HSM HSL HRK HRV ⊢
    generalize run q l = L at rd2 HBD HSM HSL HOKL HRK HRV
    have hSq : S.length ≤ q := by rw [HSL.out]; exact HOKL.out.2.1
    clear HLN HRK HRV hs1 hs2
    have q1 : (1 : Int) ≤ (q : Int) := hk.1
    have q2 : (q : Int) ≤ 16 := hk.2
    go_wp2_with (with_reducible refine HVV.out.mono ?_; rintro e w3 ⟨rfl, rfl⟩)
    with_reducible refine (HDI.out _ hrl2).mono ?_
    rintro e w4 ⟨v3, u3, rfl, ⟨ho3, hs3⟩, ⟨ho4, hs4⟩, _, hb4⟩
    rw [HRA.out.1] at ho3 hs3
    rw [HRA.out.2, List.length_map] at ho4 hs4
    have HDM := Lib.hid (fun y (h : y ∈ distinct.dst l) => (distinct.mem_dst l).1 h)
    generalize distinct.dst l = D at ho3 ho4 hs3 hs4 HDM
    obtain ⟨A3, c3, rfl, _, _, rd3⟩ := own_form ho3
    obtain ⟨A4, c4, rfl, _, _, rd4⟩ := own_form ho4
    have rd1b := rd1.below hb4
    have rd2b := rd2.below hb4
    have HB := Lib.hid (below_step hbW hb4)
    have HWF := Lib.hid (fun (W' : World) (hb : Below w4.heap.size w4 W') => And.intro (rd1b.below hb) (And.intro (rd2b.below hb) (And.intro (rd3.below hb) (rd4.below hb))))
    clear rd1 rd2 rd1b rd2b rd3 rd4 hbW hb4 ho3 ho4 hrl2 HDI HRA HVV HAT hs4 hr
    have HFA := Lib.hid (fun x => fnd_all (L := L) (S := S) HSM.out x)
    have HNN := Lib.hid (fun y => look_nonneg HOKL.out.1 y)
    clear HSM HSL HOKL
    go_wp2
    go_loopg [11] (D.length + 1) (fun f i wr => ∃ k : Nat, D.length < k + f ∧ k ≤ D.length ∧ i = .int .i64 (k : Int) ∧ Below w4.heap.size w4 wr)
    case atStart => exact ⟨0, by omega, by omega, rfl, Below.refl _ _⟩
    case round =>
      obtain ⟨k, hkf, hk, rfl, hb⟩ := hrel
      by_cases hlt : k < D.length
      · have q3 : (k : Int) < (D.length : Int) := by omega
        have HX4 := Lib.hid (fun W h => (HWF.out W h).2.2.2)
        obtain ⟨b3, o3, rfl, _⟩ := (HWF.out _ hb).2.2.1.int hlt
        have HX3 := Lib.hid (fun W h => (HWF.out W h).2.2.1.int_at hlt)
        have hbd := HBD.out D[k]
        have hnn := HNN.out D[k]
        have hcl := List.count_le_length (a := D[k]) (l := l)
        have HF0 := Lib.hid (HFA.out D[k])
        have hx4 : ∃ b4 o4, A4 = some ⟨b4, o4, none⟩ ∧ ∀ W, Below w4.heap.size w4 W → W.cell? ⟨b4, o4 + k, none⟩ = some (.int .i64 ((l.count D[k] : Nat) : Int)) := by
          have h0 := (HWF.out _ (Below.refl _ _)).2.2.2
          rw [show D.length = (D.map fun x => ((l.count x : Nat) : Int)).length by rw [List.length_map]] at h0
          obtain ⟨b4, o4, e4, h4⟩ := h0.int (show k < (D.map fun x => ((l.count x : Nat) : Int)).length by rw [List.length_map]; exact hlt)
          rw [List.getElem_map] at h4
          exact ⟨b4, o4, e4, fun W hW => cells_below hW h4⟩
        obtain ⟨b4, o4, rfl, hx4⟩ := hx4
        have HX5 := Lib.hid hx4
        clear hx4 HX4
        have HB6 := Lib.hid hb
        obtain ⟨gO, hgO⟩ : ∃ gO, gO = gk := ⟨_, rfl⟩
        have HGO := Lib.hid (And.intro hkf hgO)
        generalize D[k] = x at HX3 HX5 hbd hnn hcl HF0
        clear hgO hkf hb
        go_wp2
        go_loopg [12, 13] (S.length + 1) (fun f h j wr => ∃ m : Nat, S.length < m + f ∧ m ≤ S.length ∧ j = .int .i64 (m : Int) ∧ h = .int .i64 (fnd L S x m) ∧ Below w4.heap.size w4 wr)
        case atStart => exact ⟨0, by omega, by omega, rfl, by rw [fnd_zero], HB6.out⟩
        case round =>
          obtain ⟨m, hmf, hm, rfl, rfl, hb⟩ := hrel
          by_cases hlt2 : m < S.length
          · have q4 : (m : Int) < (S.length : Int) := by omega
            have hx3 := HX3.out _ hb
            have HFS := Lib.hid (fnd_step L S x hlt2)
            obtain ⟨b1, o1, rfl, hx1⟩ := (HWF.out _ hb).1.int hlt2
            have hx2 : ∃ b2 o2, A2 = some ⟨b2, o2, none⟩ ∧ wr.cell? ⟨b2, o2 + m, none⟩ = some (.int .i64 (frq.look L S[m])) := by
              have h0 := (HWF.out _ hb).2.1
              rw [show S.length = (S.map (frq.look L)).length by rw [List.length_map]] at h0
              obtain ⟨b2, o2, e2, h2⟩ := h0.int (show m < (S.map (frq.look L)).length by rw [List.length_map]; exact hlt2)
              rw [List.getElem_map] at h2
              exact ⟨b2, o2, e2, h2⟩
            obtain ⟨b2, o2, rfl, hx2⟩ := hx2
            generalize frq.look L S[m] = z at hx2 HFS
            generalize S[m] = y at hx1 HFS
            have HBB := Lib.hid hb
            clear hb
            by_cases he : y = x
            · have HE := Lib.hid (show fnd L S x (m + 1) = z by rw [HFS.out, if_pos he])
              have q5 : (y == x) = true := by simpa using he
              clear he
              go_wp2_with (go_quiet (fail))
              go_roundg (gk - 1)
              case measure => omega
              case rel => exact ⟨m + 1, by omega, by omega, by go_num, by rw [HE.out], below_drewN HBB.out _⟩
            · have HE := Lib.hid (show fnd L S x (m + 1) = fnd L S x m by rw [HFS.out, if_neg he])
              have q5 : (y == x) = false := by simpa using he
              clear he
              go_wp2_with (go_quiet (fail))
              go_roundg (gk - 1)
              case measure => omega
              case rel => exact ⟨m + 1, by omega, by omega, by go_num, by rw [HE.out], below_drewN HBB.out _⟩
          · obtain rfl : m = S.length := by omega
            have q4 : ¬ (S.length : Int) < (S.length : Int) := by omega
            have hx5 := HX5.out _ hb
            rw [HF0.out]
            generalize frq.look L x = h at hbd hnn
            have hcl2 : ((l.count x : Nat) : Int) ≤ 64 := by omega
            clear hcl
            generalize ((l.count x : Nat) : Int) = cn at hx5 hbd hcl2
            have HBB := Lib.hid hb
            clear hb
            have r1 : ¬ cn < h := by omega
            have r1d : decide (cn < h) = false := decide_eq_false r1
            have r2 : ¬ (l.length : Int) < (cn - h) * ((q : Int) + 1) := by omega
            have r3 : IntKind.i64.wrap ((cn - h) * ((q : Int) + 1)) = (cn - h) * ((q : Int) + 1) := IntWalk.i64_in _ (by omega)
            go_wp2
            go_roundg (gO - 1)
            case measure => have := HGO.out; omega
            case rel => exact ⟨k + 1, by have := HGO.out; omega, by omega, by go_num, HBB.out⟩
      · have q3 : ¬ (k : Int) < (D.length : Int) := by omega
        have q6 : (S.length : Int) ≤ (q : Int) := by omega
        go_wp2
        go_ret
        exact ⟨rfl, HB.out.trans (hb.mono HB.out.size)⟩
  · have hk0 : okF l p = false := by simpa using hok
    have HR := Lib.hid (show resK l p = [] by rw [resK, hk0]; rfl)
    have HK0 := Lib.hid hk0
    rw [HR.out, List.length_nil]
    rw [hk0]
    clear hok rd1 rd2 hs1 hs2
    cases hv : vlist l with
    | false =>
      rw [hv] at HVV
      clear hk0 hv
      go_wp2_with (with_reducible refine HVV.out.mono ?_; rintro e w3 ⟨rfl, rfl⟩)
      go_ret
      exact ⟨rfl, hbW⟩
    | true =>
      have hp : ¬ (1 ≤ p ∧ p ≤ 16) := by
        rw [okF, hv, Bool.true_and] at hk0
        intro h
        rw [inB_iff.2 h] at hk0
        cases hk0
      rw [hv] at HVV
      clear hk0 hv
      by_cases h1 : 1 ≤ p
      · have h2 : ¬ p ≤ 16 := fun h => hp ⟨h1, h⟩
        clear hp
        go_wp2_with (with_reducible refine HVV.out.mono ?_; rintro e w3 ⟨rfl, rfl⟩)
        go_ret
        exact ⟨rfl, hbW⟩
      · clear hp
        go_wp2_with (with_reducible refine HVV.out.mono ?_; rintro e w3 ⟨rfl, rfl⟩)
        go_ret
        exact ⟨rfl, hbW⟩

theorem own : ownKnob Try.prog.godebug = none := by kernel_rfl
theorem laidOut : laidOutB Try.prog = true := by kernel_rfl
set_option maxRecDepth 100000 in
theorem lifted (os : Os) (started : os.Started) (H : Type) (enc : TypeId × Value → H) :
    ReturnsInHanded {} Try.checked os 12 .any (Rows.fnFrequentSpec.pre6 enc Try.prog Try.f12 Rows.fnFrequentRow.domain false) (Rows.fnFrequentSpec.post enc Try.prog Try.f12 false true false false) := by
  refine returnsInHanded_of_change (C := Try.checked) own started (by kernel_rfl) Try.func12
    (ChangeSpec.witness6 (enc := enc) (C := Try.checked) false ⟨#[], #[.slice none 0 0], []⟩ 8 (by kernel_rfl) (by kernel_rfl) (by kernel_rfl) (by kernel_rfl)) ?_
  intro W base args ds gs before hval0 hW hcnd _
  have hval : ∀ (j : Nat) t v, Try.f12.params[j]? = some t → args[j]? = some v → Value.okWide Try.prog W .any base t v := hval0
  have hW' := hW
  have hlt : ∀ x ∈ before, x.block < W.heap.size := fun x hx => by simpa using hW.lt x hx
  obtain ⟨p, q, hA0, hV, rfl, hfz, hnd⟩ := hW
  have hA : DataW.TrodAll enc Try.prog W 0 (fun _ => true) true Try.f12.params.toList args.toList ds p := hA0
  rw [Try.params12] at hA hval
  obtain ⟨v0, vs0, d0, ds0, p0, q0, hargs, rfl, rfl, h0, r0⟩ := trodAll_cons hA
  obtain ⟨rfl, rfl, rfl⟩ := trodAll_nil r0
  obtain rfl : args = #[v0] := by cases args; simp_all
  obtain ⟨A0, n0, c0, zs0, rfl, w0⟩ := mem.open_rd_bytes Try.underlying64 Try.underlying5 (by kernel_rfl) (hval 0 64 v0 rfl rfl) h0
  refine (walk A0 n0 c0 zs0 W w0).mono fun e W' ⟨he, hg⟩ => ?_
  subst he
  exact ⟨_, rfl, frame.post_true laidOut hW' rfl (of_decide_eq_true (by kernel_rfl)) (by kernel_rfl) Try.underlying4 rfl rfl rfl hg⟩
theorem over : Rows.fnFrequentRow.holds Try.pinned (OpenSpec.ofChange Rows.fnFrequentSpec) :=
  OpenClaim.holds_of_wide 12 Try.f12 rfl rfl rfl rfl rfl rfl rfl ⟨rfl, rfl, rfl, rfl, rfl⟩ rfl rfl rfl rfl rfl (by kernel_rfl) Try.func12 (by kernel_rfl)
    (of_decide_eq_true (by kernel_rfl)) (by unfold Func.isWrapper; first | (rw [if_pos (by decide +kernel)]; kernel_rfl) | (rw [if_neg (by decide +kernel)]; exact ⟨rfl, rfl⟩))
    (fun os started H enc _ => lifted os started H enc)
/-- The statement. -/
theorem proved : Rows.FnFrequentSaid :=
  over
end Go.Proofs.Ytgngoedooemboaa.fnFrequent
