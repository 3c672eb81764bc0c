/- Decoding a front coding, the program's. Condition: at most 2^20 elements of at most 2^20 bytes. -/
import Derived.Test.YtaeimdcmpjanbaaFront
import Derived.Test.YtaeimdcmpjanbaaLawCod
import Derived.Test.YtaeimdcmpjanbaaMemAt
import Derived.Test.YtaeimdcmpjanbaaIn
import Derived.Deep.QuietTactic
import Derived.Deep.LoopGhost
import Derived.Laws.StructEq
set_option linter.unusedVariables false
set_option linter.unusedSimpArgs false
namespace Go.Proofs.Ytaeimdcmpjanbaa.frontD
open Go.RowKit Go.Proofs.Ytaeimdcmpjanbaa.mem Go.Proofs.Ytaeimdcmpjanbaa.front
open Go.Proofs.Ytaeimdcmpjanbaa.ins (inB inB_true inB_false inB_iff)

def c0 : Cod := ⟨0, ByteArray.empty⟩
/-- the string behind k coded ones -/
def lastv (gs : List Cod) : Nat → ByteArray
  | 0 => ByteArray.empty
  | k + 1 => (lastv gs k).extract 0 (gs.getD k c0).shared.toNat ++ (gs.getD k c0).rest
def okc (gs : List Cod) (k : Nat) : Bool := inB (gs.getD k c0).shared 0 ((lastv gs k).size : Int) && decide ((gs.getD k c0).rest.size ≤ 30)
def okU (gs : List Cod) : Nat → Bool
  | 0 => true
  | k + 1 => okU gs k && okc gs k
def outs (gs : List Cod) (k : Nat) : List ByteArray := (List.range k).map fun i => lastv gs (i + 1)
theorem outs_len (gs : List Cod) (k : Nat) : (outs gs k).length = k := by simp [outs]
theorem outs_step (gs : List Cod) (k : Nat) : outs gs (k + 1) = outs gs k ++ [lastv gs (k + 1)] := by simp [outs, List.range_succ]
theorem getD_c (gs : List Cod) {k : Nat} (h : k < gs.length) : gs.getD k c0 = gs[k] := by
  rw [List.getD_eq_getElem?_getD, List.getElem?_eq_getElem h]; rfl
theorem okU_mono (gs : List Cod) {j : Nat} : ∀ {k : Nat}, j ≤ k → okU gs k = true → okU gs j = true
  | 0, h, hk => by obtain rfl : j = 0 := by omega
                   exact hk
  | k + 1, h, hk => by
    by_cases e : j = k + 1
    · subst e; exact hk
    · simp only [okU, Bool.and_eq_true] at hk
      exact okU_mono gs (k := k) (by omega) hk.1
theorem okU_bad {gs : List Cod} {k n : Nat} (hk : k < n) (h : okc gs k = false) : okU gs n = false := by
  cases h2 : okU gs n with
  | false => rfl
  | true =>
    have := okU_mono gs (j := k + 1) (by omega) h2
    simp [okU, h] at this
theorem last_size (gs : List Cod) : ∀ k, okU gs k = true → (lastv gs k).size ≤ 30 * k
  | 0, _ => by simp [lastv]
  | k + 1, h => by
    simp only [okU, okc, Bool.and_eq_true, decide_eq_true_eq] at h
    have ih := last_size gs k h.1
    have h1 := inB_iff.1 h.2.1
    simp only [lastv, ByteArray.size_append, ByteArray.size_extract]
    omega
theorem outs_size (gs : List Cod) {k : Nat} (h : okU gs k = true) (hk : k ≤ 40) : ∀ s ∈ outs gs k, s.size ≤ 1200 := fun s hs => by
  obtain ⟨i, hi, rfl⟩ := List.mem_map.1 hs
  have := last_size gs (i + 1) (okU_mono gs (by have := List.mem_range.1 hi; omega) h)
  have := List.mem_range.1 hi
  omega
def okD (gs : List Cod) : Bool := decide (gs.length ≤ 40) && (okU gs gs.length && (okF (outs gs gs.length) && decide (resF (outs gs gs.length) = gs)))
def resD (gs : List Cod) : List ByteArray := if okD gs = true then outs gs gs.length else []
theorem resD_len (gs : List Cod) : (resD gs).length ≤ gs.length := by
  unfold resD
  split
  · rw [outs_len]; omega
  · simp
theorem no (gs : List Cod) (h : okD gs = false) : resD gs = [] := by simp [resD, h]

set_option maxRecDepth 100000 in
/-- two coded strings, compared by != -/
theorem run_ne (x y : Cod) (w : World) : (binOp .neq 57 (.agg #[.int .i64 x.shared, .string x.rest]) (.agg #[.int .i64 y.shared, .string y.rest])).run Try.prog w = .ok (.bool (decide (x ≠ y))) w := by
  rw [run_neq_struct, run_equalIn_agg w 9999 57 _ _ (by kernel_rfl) (by kernel_rfl)]
  have h3 : Try.prog.underlying 3 = some (.int .i64) := Try.underlying3
  have h9 : Try.prog.underlying 9 = some .string := Try.underlying9
  simp only [Program.fieldsOf, Try.underlying57]
  by_cases h : x = y
  · subst h
    simp [Op.eqFields, go_sem, h3, h9]
  · by_cases h0 : x.shared = y.shared
    · have h1 : x.rest ≠ y.rest := fun e => h (by cases x; cases y; simp_all)
      have h2 := mem.bytes_ne h1
      have h4 : ¬ x.rest.toList = y.rest.toList := by simpa using h2
      simp [Op.eqFields, go_sem, h3, h9, h0, h4, h]
    · simp [Op.eqFields, go_sem, h3, h9, h0, h]
theorem run_gd (x y : Operand) (xs ys : Array Value) (w : World) : (eqGuard .neq 57 x y (.agg xs) (.agg ys)).run Try.prog w = .ok () w := run_eqGuard_agg w .neq 57 x y xs ys (by kernel_rfl)
def upTo (xs ys : List Cod) (k : Nat) : Prop := xs.take k = ys.take k
theorem upTo_step {xs ys : List Cod} {k : Nat} (h : upTo xs ys k) (h1 : k < xs.length) (h2 : k < ys.length) (e : xs[k] = ys[k]) : upTo xs ys (k + 1) := by
  unfold upTo at *
  rw [List.take_add_one, List.take_add_one, h, List.getElem?_eq_getElem h1, List.getElem?_eq_getElem h2, e]
set_option maxRecDepth 100000 in
set_option maxHeartbeats 1000000 in
theorem equal_any (A B : Option Addr) (c d : Nat) (xs ys : List Cod) (w : World) (hn : xs.length ≤ maxLen) (hm : ys.length ≤ maxLen) (hx : Rd w 2 A xs.length (cods xs)) (hy : Rd w 2 B ys.length (cods ys)) :
    Calls Try.prog 50 #[.slice A xs.length c, .slice B ys.length d] w fun e w' => e = .returned (.bool (decide (xs = ys))) ∧ Below w.heap.size w w' := by
  unfold maxLen at hn hm
  by_cases hlen : xs.length = ys.length
  · have HL := Lib.hid hlen
    have hle : xs.length ≤ ys.length ∧ ys.length ≤ xs.length := by omega
    have hl2 : ((xs.length : Int) != (ys.length : Int)) = false := by rw [hlen]; simp
    clear hlen
    go_enter Try.func50, Try.ntmps50
    go_wp2
    go_loopg [13] (xs.length + 1) (fun f i wr => ∃ k : Nat, xs.length < k + f ∧ k ≤ xs.length ∧ i = .int .i64 k ∧ upTo xs ys k ∧ ∃ n, wr = w.drewN n)
    case atStart => exact ⟨0, by omega, by omega, rfl, rfl, 0, rfl⟩
    case round =>
      obtain ⟨k, hkf, hk, rfl, hu, n, rfl⟩ := hrel
      by_cases hlt : k < xs.length
      · have hlt2 : k < ys.length := by omega
        obtain ⟨b, off, rfl, hc0, hc1⟩ := hx.cod hlt
        obtain ⟨b2, off2, rfl, hd0, hd1⟩ := hy.cod hlt2
        have q1 : (k : Int) < (xs.length : Int) := by omega
        have q2 : (k : Int) < (ys.length : Int) := by omega
        have HU := Lib.hid hu
        clear hu
        by_cases he : xs[k] = ys[k]
        · have HU2 := Lib.hid (upTo_step HU.out hlt hlt2 he)
          have hd : decide (xs[k] ≠ ys[k]) = false := by simp [he]
          have hrn := fun W : World => hd ▸ run_ne xs[k] ys[k] W
          have hgd := run_gd
          clear he hd
          generalize xs[k] = x at hc0 hc1 hrn
          generalize ys[k] = y at hd0 hd1 hrn
          go_wp2_with fail
          go_quiet (fail)
          go_wp2
          go_roundg (gk - 1)
          case measure => omega
          case rel => exact ⟨k + 1, by omega, by omega, by go_num, HU2.out, n + nq, rfl⟩
        · have HE := Lib.hid (show decide (xs = ys) = false by
            rw [decide_eq_false_iff_not]; intro e; subst e; exact he rfl)
          have hd : decide (xs[k] ≠ ys[k]) = true := by simp [he]
          have hrn := fun W : World => hd ▸ run_ne xs[k] ys[k] W
          have hgd := run_gd
          clear he hd
          generalize xs[k] = x at hc0 hc1 hrn
          generalize ys[k] = y at hd0 hd1 hrn
          go_wp2_with fail
          go_quiet (fail)
          go_wp2
          go_ret
          exact ⟨ret_bool (by rw [HE.out]), below_drewN (below_drewN (Below.refl _ _) _) _⟩
      · have HE := Lib.hid (show decide (xs = ys) = true by
          rw [decide_eq_true_iff]
          unfold upTo at hu
          rwa [List.take_of_length_le (by omega), List.take_of_length_le (by omega)] at hu)
        have q1 : ¬ (k : Int) < (xs.length : Int) := by omega
        clear hu
        go_wp2
        go_ret
        exact ⟨ret_bool (by rw [HE.out]), below_drewN (Below.refl _ _) _⟩
  · have HE := Lib.hid (show decide (xs = ys) = false by rw [decide_eq_false_iff_not]; intro e; subst e; exact hlen rfl)
    have hl2 : ((xs.length : Int) != (ys.length : Int)) = true := by rw [bne_iff_ne]; omega
    clear hlen
    go_enter Try.func50, Try.ntmps50
    go_wp2
    go_ret
    exact ⟨ret_bool (by rw [HE.out]), Below.refl _ _⟩
theorem ret2 {p q : Bool} {v : Value} (h : p = q) : Ending.returned (.tuple #[v, .bool p]) = .returned (.tuple #[v, .bool q]) := by rw [h]
set_option maxRecDepth 100000 in
set_option maxHeartbeats 4000000 in
theorem impl_any (A : Option Addr) (c : Nat) (gs : List Cod) (w : World) (hn : gs.length ≤ 1048576) (hs : ∀ g ∈ gs, g.rest.size ≤ 1048576) (hr : Rd w 2 A gs.length (cods gs)) :
    Calls Try.prog 18 #[.slice A gs.length c] w fun e w' => ∃ v, e = .returned (.tuple #[v, .bool (okD gs)]) ∧ (w'.ownsRow w.heap.size 9 1 v (resD gs).length (strs (resD gs)) ∧ (resD gs).length ≤ 1048576) ∧ Below w.heap.size w w' := by
  have HNO := Lib.hid (fun (h : okD gs = false) (W : World) => show okD gs = false ∧ (W.ownsRow w.heap.size 9 1 (.slice none 0 0) (resD gs).length (strs (resD gs)) ∧ (resD gs).length ≤ 1048576) by
    rw [no gs h]; exact ⟨h, World.ownsRow_nil _ _ _ _, by simp⟩)
  have HSZ := Lib.hid hs
  clear hs
  have h0 := World.ownsRow_made (e := 9) (size := 1) w #[] 0 (Nat.le_refl _) (Nat.zero_le _) (by simp)
  have hb0 : Below w.heap.size w (w.alloc (.cells #[] 9)) := (Below.refl _ _).alloc (Nat.le_refl _) _
  have H0 := Lib.hid (And.intro h0 hb0)
  clear h0 hb0
  by_cases h40 : 40 < gs.length
  · have HN := Lib.hid (show okD gs = false by rw [okD, decide_eq_false (by omega)]; rfl)
    have q1 : (40 : Int) < (gs.length : Int) := by omega
    go_enter Try.func18, Try.ntmps18
    go_wp2
    go_ret2
    exact ⟨_, ret2 HN.out.symm, (HNO.out HN.out _).2, H0.out.2⟩
  · have q1 : ¬ (40 : Int) < (gs.length : Int) := by omega
    go_enter Try.func18, Try.ntmps18
    go_wp2
    go_loopg [4, 5, 16] (gs.length + 1) (fun f o s i wr => ∃ k : Nat, gs.length < k + f ∧ k ≤ gs.length ∧ i = .int .i64 (k : Int) ∧ s = .string (lastv gs k) ∧ okU gs k = true ∧ wr.ownsRow w.heap.size 9 1 o (outs gs k).length (strs (outs gs k)) ∧ Below w.heap.size w wr)
    case atStart => exact ⟨0, by omega, by omega, rfl, rfl, rfl, H0.out.1, H0.out.2⟩
    case round =>
      obtain ⟨k, hkf, hk, rfl, rfl, hok, ho, hb⟩ := hrel
      have HO := Lib.hid ho
      have HB := Lib.hid hb
      have HU := Lib.hid hok
      clear ho hb hok
      by_cases hlt : k < gs.length
      · have q2 : (k : Int) < (gs.length : Int) := by omega
        obtain ⟨b, off, rfl, hc0, hc1⟩ := (hr.below HB.out).cod hlt
        have HOC := Lib.hid (show okc gs k = (inB gs[k].shared 0 ((lastv gs k).size : Int) && decide (gs[k].rest.size ≤ 30)) by rw [okc, getD_c gs hlt])
        have HLS := Lib.hid (show lastv gs (k + 1) = (lastv gs k).extract 0 gs[k].shared.toNat ++ gs[k].rest by rw [lastv, getD_c gs hlt])
        have hsz := last_size gs k HU.out
        have hrz := HSZ.out gs[k] (List.getElem_mem hlt)
        have HBAD := Lib.hid (fun h : okc gs k = false => show okD gs = false by rw [okD, okU_bad hlt h]; simp)
        have HGO := Lib.hid (fun h : okc gs k = true => show okU gs (k + 1) = true by rw [okU, HU.out, h]; rfl)
        have HST := Lib.hid (outs_step gs k)
        have HOL := Lib.hid (outs_len gs k)
        generalize gs[k] = g at hc0 hc1 HOC HLS hrz
        generalize lastv gs k = s at HOC HLS hsz
        obtain ⟨sh, rs⟩ := g
        simp only at hc0 hc1 HOC HLS hrz
        have hX := Blk.new wr 57 #[.int .i64 sh, .string rs]
        have x0 : (wr.alloc (.cells #[.int .i64 sh, .string rs] 57)).cell? ⟨wr.heap.size, 0, none⟩ = some (.int .i64 sh) := hX.cell 0
        have x1 : (wr.alloc (.cells #[.int .i64 sh, .string rs] 57)).cell? ⟨wr.heap.size, 1, none⟩ = some (.string rs) := hX.cell 1
        have HBX := Lib.hid (HB.out.alloc HB.out.size (.cells #[.int .i64 sh, .string rs] 57))
        have HIN := Lib.hid (fun W => ins.impl_any sh 0 (s.size : Int) W)
        cases hin : inB sh 0 (s.size : Int) with
        | false =>
          have HN := Lib.hid (HBAD.out (by rw [HOC.out, hin]; rfl))
          rw [hin] at HIN
          clear hin
          go_wp2_with fail
          refine (HIN.out _).mono ?_
          rintro e w1 ⟨rfl, rfl⟩
          go_wp2
          go_ret2
          exact ⟨_, ret2 HN.out.symm, (HNO.out HN.out _).2, HBX.out⟩
        | true =>
          have hb := inB_iff.1 hin
          by_cases hr30 : rs.size ≤ 30
          · have HG := Lib.hid (HGO.out (by rw [HOC.out, hin, decide_eq_true hr30]; rfl))
            have hr30i : ¬ (30 : Int) < (rs.size : Int) := by omega
            rw [hin] at HIN
            clear hin
            go_wp2_with fail
            refine (HIN.out _).mono ?_
            rintro e w1 ⟨rfl, rfl⟩
            obtain ⟨n, rfl⟩ : ∃ n : Nat, sh = (n : Int) := ⟨sh.toNat, by omega⟩
            rw [Int.toNat_natCast] at HLS
            have hn1 : (n : Int) ≤ (s.size : Int) := hb.2
            have hn0 : (0 : Int) ≤ (n : Int) := by omega
            have hnn : n ≤ s.size := by omega
            clear hb
            go_wp2_with fail
            go_quiet (fail)
            have hox := own_drewN (HO.out.alloc (.cells #[.int .i64 (n : Int), .string rs] 57)) nq
            have hbx := below_drewN HBX.out nq
            obtain ⟨wx, hwx⟩ : ∃ W : World, W = (wr.alloc (.cells #[.int .i64 (n : Int), .string rs] 57)).drewN nq := ⟨_, rfl⟩
            rw [← hwx] at hox hbx ⊢
            clear hwx x0 x1 hX
            have hbs := hbx.size
            have hkb : (outs gs k).length ≤ 1099511627776 := by rw [HOL.out]; omega
            go_wp2_with (at_builtin; refine mem.push _ rfl _ _ 24 rfl w.heap.size 9 _ 1 16 Try.underlying24 mem.info_str rfl Nat.one_pos _ _ _ rfl hox (strs [(s.extract 0 n ++ rs)]) _ rfl (mem.strs_one [(s.extract 0 n ++ rs)]) rfl hkb (by decide) hbs ?_; intro v' w' ho' hg')
            have HN := Lib.hid (below_push hbx hbs hg' hox)
            have HOO := Lib.hid (show w'.ownsRow w.heap.size 9 1 v' (outs gs (k + 1)).length (strs (outs gs (k + 1))) by
              rw [HST.out, HLS.out, List.length_append, List.length_singleton, strs_app]; exact ho')
            clear ho' hg' hox hbx
            go_wp2
            go_roundg (gk - 1)
            case measure => omega
            case rel => exact ⟨k + 1, by omega, by omega, by go_num, by rw [HLS.out], HG.out, HOO.out, HN.out⟩
          · have HN := Lib.hid (HBAD.out (by rw [HOC.out, hin, decide_eq_false hr30]; rfl))
            have hr30i : (30 : Int) < (rs.size : Int) := by omega
            rw [hin] at HIN
            clear hin
            go_wp2_with fail
            refine (HIN.out _).mono ?_
            rintro e w1 ⟨rfl, rfl⟩
            go_wp2
            go_ret2
            exact ⟨_, ret2 HN.out.symm, (HNO.out HN.out _).2, HBX.out⟩
      · obtain rfl : k = gs.length := by omega
        have q2 : ¬ (gs.length : Int) < (gs.length : Int) := by omega
        have hz := outs_size gs HU.out (by omega)
        have HOD := Lib.hid (show okD gs = (okF (outs gs gs.length) && decide (resF (outs gs gs.length) = gs)) by
          rw [okD, decide_eq_true (by omega), HU.out]; rfl)
        have HRD := Lib.hid (fun h : okD gs = true => show resD gs = outs gs gs.length by rw [resD, if_pos h])
        have HLN := Lib.hid (outs_len gs gs.length)
        generalize outs gs gs.length = ss at HO HOD HRD HLN hz
        obtain ⟨Ao, co, rfl, _, _, hro⟩ := own_form HO.out
        have HFC := Lib.hid (front.impl_any Ao co ss wr (by rw [HLN.out]; exact hn) (fun s h => by have := hz s h; omega) hro)
        clear hz hro
        go_wp2_with fail
        with_reducible refine HFC.out.mono ?_
        rintro e w1 ⟨v1, rfl, ho1, hb1⟩
        have HB1 := Lib.hid (below_step HB.out hb1)
        have HO1 := Lib.hid (own_below HO.out hb1)
        obtain ⟨A1, c1, rfl, hc1, hc1m, rd1⟩ := own_form ho1.1
        cases hok : okF ss with
        | false =>
          have HN := Lib.hid (show okD gs = false by rw [HOD.out, hok]; rfl)
          clear hok
          go_wp2
          go_ret2
          exact ⟨_, ret2 HN.out.symm, (HNO.out HN.out _).2, HB1.out⟩
        | true =>
          have HEQ := equal_any A1 A c1 c (resF ss) gs w1 (Nat.le_trans hc1 hc1m) (by unfold maxLen; omega) rd1 (hr.below HB1.out)
          have HOD2 := Lib.hid (show okD gs = decide (resF ss = gs) by rw [HOD.out, hok]; rfl)
          clear hok
          cases hd : decide (resF ss = gs) with
          | false =>
            rw [hd] at HEQ
            have HEQh := Lib.hid HEQ
            have HN := Lib.hid (show okD gs = false by rw [HOD2.out, hd])
            clear hd HEQ
            go_wp2_with fail
            with_reducible refine HEQh.out.mono ?_
            rintro e w2 ⟨rfl, hb2⟩
            have HB2 := Lib.hid (below_step HB1.out hb2)
            go_wp2
            go_ret2
            exact ⟨_, ret2 HN.out.symm, (HNO.out HN.out _).2, HB2.out⟩
          | true =>
            rw [hd] at HEQ
            have HEQh := Lib.hid HEQ
            have HY := Lib.hid (show okD gs = true by rw [HOD2.out, hd])
            clear hd HEQ
            go_wp2_with fail
            with_reducible refine HEQh.out.mono ?_
            rintro e w2 ⟨rfl, hb2⟩
            have HB2 := Lib.hid (below_step HB1.out hb2)
            have HO2 := Lib.hid (own_below HO1.out hb2)
            go_wp2
            go_ret2
            exact ⟨_, ret2 HY.out.symm, ⟨by rw [HRD.out HY.out]; exact HO2.out, by rw [HRD.out HY.out, HLN.out]; exact hn⟩, HB2.out⟩
end Go.Proofs.Ytaeimdcmpjanbaa.frontD
