/- RankBounds, the program's and the reference's. Condition: at most 2^20 entries. -/
import Derived.Test.YtlckeefjhafloaaSmyGap
set_option linter.unusedVariables false
set_option linter.unusedSimpArgs false
namespace Go.Proofs.Ytlckeefjhafloaa.smyRank
open Go.RowKit Go.Proofs.Ytlckeefjhafloaa.mem Go.Proofs.Ytlckeefjhafloaa.smy

/-! ### the plain law -/
theorem mono {cnt : Int} {l : List Rkv} (h : vsmy cnt l = true) (i : Nat) : ∀ (d : Nat) (hd : i + d < l.length), (l[i]'(by omega)).value ≤ (l[i + d]'hd).value ∧ (l[i]'(by omega)).least ≤ (l[i + d]'hd).least ∧ (l[i]'(by omega)).most ≤ (l[i + d]'hd).most
  | 0, hd => ⟨Int.le_refl _, Int.le_refl _, Int.le_refl _⟩
  | d + 1, hd => by
    have h1 := mono h i d (by omega)
    have h2 := vsmy_next h (k := i + d) (by omega)
    have e : i + (d + 1) = i + d + 1 := by omega
    simp only [e]
    omega
theorem mono' {cnt : Int} {l : List Rkv} (h : vsmy cnt l = true) {i j : Nat} (hij : i ≤ j) (hj : j < l.length) : (l[i]'(by omega)).value ≤ l[j].value ∧ (l[i]'(by omega)).least ≤ l[j].least ∧ (l[i]'(by omega)).most ≤ l[j].most := by
  have := mono h i (j - i) (by omega)
  have e : i + (j - i) = j := by omega
  simp only [e] at this
  exact this
/-- how many entries have a value of at most v -/
def cut (l : List Rkv) (v : Int) : Nat := l.countP fun e => decide (e.value ≤ v)
theorem cut_is {l : List Rkv} {v : Int} {p : Nat} (hp : p ≤ l.length) (h1 : ∀ j (hj : j < l.length), j < p → l[j].value ≤ v) (h2 : ∀ j (hj : j < l.length), p ≤ j → v < l[j].value) : cut l v = p := by
  rw [cut, ← List.take_append_drop p l, List.countP_append]
  have e1 : (l.take p).countP (fun e => decide (e.value ≤ v)) = (l.take p).length := by
    rw [List.countP_eq_length]
    intro e he
    obtain ⟨j, hj, rfl⟩ := List.getElem_of_mem he
    rw [List.length_take] at hj
    rw [List.getElem_take]
    simpa using h1 j (by omega) (by omega)
  have e2 : (l.drop p).countP (fun e => decide (e.value ≤ v)) = 0 := by
    rw [List.countP_eq_zero]
    intro e he
    obtain ⟨j, hj, rfl⟩ := List.getElem_of_mem he
    rw [List.length_drop] at hj
    rw [List.getElem_drop]
    have := h2 (p + j) (by omega) (by omega)
    simp; omega
  rw [e1, e2, List.length_take]; omega
def low (l : List Rkv) (p : Nat) : Int := if p = 0 then 0 else (l.getD (p - 1) z0).least
def high (cnt : Int) (l : List Rkv) (p : Nat) : Int := if p = l.length then cnt else (l.getD p z0).most - 1
def ok (cnt : Int) (l : List Rkv) : Bool := vsmy cnt l
def resL (cnt : Int) (l : List Rkv) (v : Int) : Int := if vsmy cnt l = true then low l (cut l v) else 0
def resH (cnt : Int) (l : List Rkv) (v : Int) : Int := if vsmy cnt l = true then high cnt l (cut l v) else 0
theorem cut_le (l : List Rkv) (v : Int) : cut l v ≤ l.length := List.countP_le_length
/-- in a valid summary the entries up to a value are the first ones -/
theorem cut_split {cnt : Int} {l : List Rkv} (h : vsmy cnt l = true) (v : Int) : (∀ j (hj : j < l.length), j < cut l v → l[j].value ≤ v) ∧ (∀ j (hj : j < l.length), cut l v ≤ j → v < l[j].value) := by
  -- the first index whose value is greater
  have key : ∀ p, p ≤ l.length → (∀ j (hj : j < l.length), j < p → l[j].value ≤ v) → ∃ q, p ≤ q ∧ q ≤ l.length ∧ (∀ j (hj : j < l.length), j < q → l[j].value ≤ v) ∧ (∀ j (hj : j < l.length), q ≤ j → v < l[j].value) := by
    intro p hp h1
    generalize hd : l.length - p = d
    induction d generalizing p with
    | zero => exact ⟨p, Nat.le_refl _, hp, h1, fun j hj hq => by omega⟩
    | succ d ih =>
      by_cases hv : (l[p]'(by omega)).value ≤ v
      · obtain ⟨q, a, b⟩ := ih (p + 1) (by omega) (fun j hj hq => by
          by_cases e : j = p
          · subst e; exact hv
          · exact h1 j hj (by omega)) (by omega)
        exact ⟨q, by omega, b⟩
      · exact ⟨p, Nat.le_refl _, hp, h1, fun j hj hq => by have := (mono' h hq hj).1; omega⟩
  obtain ⟨q, _, hq, h1, h2⟩ := key 0 (by omega) (fun j hj hq => by omega)
  rw [cut_is hq h1 h2]
  exact ⟨h1, h2⟩
/-- the reference's way: from the end; t: the entries from t on are done -/
def lowT (l : List Rkv) (p t : Nat) : Int := if t < p then (l.getD (p - 1) z0).least else 0
def highT (cnt : Int) (l : List Rkv) (p t : Nat) : Int := if max p t = l.length then cnt else (l.getD (max p t) z0).most - 1
theorem T_start (cnt : Int) (l : List Rkv) (p : Nat) (hp : p ≤ l.length) : lowT l p l.length = 0 ∧ highT cnt l p l.length = cnt := by
  constructor
  · rw [lowT, if_neg (by omega)]
  · rw [highT, if_pos (by omega)]
theorem T_end (cnt : Int) (l : List Rkv) (p : Nat) : lowT l p 0 = low l p ∧ highT cnt l p 0 = high cnt l p := by
  constructor
  · rw [lowT, low]; by_cases h : p = 0
    · simp [h]
    · rw [if_pos (by omega), if_neg h]
  · rw [highT, high, show max p 0 = p by omega]
theorem T_up {cnt : Int} {l : List Rkv} {p t : Nat} (ht : t < l.length) (hp : p ≤ t) : lowT l p t = lowT l p (t + 1) ∧ highT cnt l p t = l[t].most - 1 := by
  constructor
  · rw [lowT, lowT, if_neg (by omega), if_neg (by omega)]
  · rw [highT, show max p t = t by omega, if_neg (by omega), getD_r l ht]
theorem T_down {cnt : Int} {l : List Rkv} {p t : Nat} (h : vsmy cnt l = true) (ht : t < l.length) (hp : t < p) (hpl : p ≤ l.length) : lowT l p t = max (lowT l p (t + 1)) l[t].least ∧ highT cnt l p t = highT cnt l p (t + 1) := by
  constructor
  · rw [lowT, if_pos hp, lowT]
    have h1 := vsmy_at h ht
    by_cases e : t + 1 < p
    · rw [if_pos e, getD_r l (show p - 1 < l.length by omega)]
      have := (mono' h (i := t) (j := p - 1) (by omega) (by omega)).2.1
      omega
    · rw [if_neg e]
      obtain rfl : p = t + 1 := by omega
      rw [Nat.add_sub_cancel, getD_r l ht]; omega
  · rw [highT, highT, show max p t = p by omega, show max p (t + 1) = p by omega]
theorem T_bd {cnt : Int} {l : List Rkv} {p t : Nat} (h : vsmy cnt l = true) (hpl : p ≤ l.length) : 0 ≤ lowT l p t ∧ lowT l p t ≤ 1000 := by
  have hc := vsmy_cnt h
  rw [lowT]
  split
  · rw [getD_r l (show p - 1 < l.length by omega)]
    have := vsmy_at h (show p - 1 < l.length by omega)
    omega
  · omega

set_option maxRecDepth 100000 in
set_option maxHeartbeats 2000000 in
theorem impl_any {cnt : Int} (A : Option Addr) (c : Nat) (l : List Rkv) (v : Int) (w : World) (hn : l.length ≤ 1048576) (hr : Rd w 3 A l.length (rkvs l)) :
    Calls Try.prog 31 #[.agg #[.int .i64 cnt, .slice A l.length c], .int .i64 v] w fun e w' => e = .returned (.tuple #[.int .i64 (resL cnt l v), .int .i64 (resH cnt l v), .bool (ok cnt l)]) ∧ Below w.heap.size w w' := by
  have HBX := Lib.hid (fun (o : Obj) => (Below.refl w.heap.size w).alloc (Nat.le_refl _) o)
  have HV := Lib.hid (fun o => smy.impl_any (cnt := cnt) A c l (w.alloc o) hn (hr.alloc o))
  cases hv : vsmy cnt l with
  | false =>
    have HR := Lib.hid (show resL cnt l v = 0 ∧ resH cnt l v = 0 ∧ ok cnt l = false by simp [resL, resH, ok, hv])
    rw [hv] at HV
    clear hv
    go_enter Try.func31, Try.ntmps31
    go_wp2_with fail
    refine (HV.out _).mono ?_
    rintro e w1 ⟨rfl, hb1⟩
    have hb2 := below_box hb1
    go_wp2
    go_ret3
    exact ⟨(by rw [HR.out.1, HR.out.2.1, HR.out.2.2]; try rfl), hb2⟩
  | true =>
    have HR := Lib.hid (show resL cnt l v = low l (cut l v) ∧ resH cnt l v = high cnt l (cut l v) ∧ ok cnt l = true by simp [resL, resH, ok, hv])
    have HC := Lib.hid (fun p hp h1 h2 => cut_is (l := l) (v := v) (p := p) hp h1 h2)
    have HA := Lib.hid (fun (k : Nat) (hk : k < l.length) => vsmy_at hv hk)
    have HM := Lib.hid (fun (i j : Nat) (hij : i ≤ j) (hj : j < l.length) => (mono' hv hij hj).1)
    have hc := vsmy_cnt hv
    rw [hv] at HV
    clear hv
    go_enter Try.func31, Try.ntmps31
    go_wp2_with fail
    refine (HV.out _).mono ?_
    rintro e w1 ⟨rfl, hb1⟩
    have hb2 := below_box hb1
    have hB := (Blk.new w 29 #[.int .i64 cnt, .slice A l.length c]).below hb1 (by simp)
    have hB0 : w1.cell? ⟨w.heap.size, 0, none⟩ = some (.int .i64 cnt) := hB.cell 0
    have hB1 : w1.cell? ⟨w.heap.size, 1, none⟩ = some (.slice A l.length c) := hB.cell 1
    obtain ⟨hc1, hc2, hc3, _⟩ := hc
    have HB1 := Lib.hid hB
    clear hB hb1
    go_wp2
    go_quiet (fail)
    go_wp2
    have hb3 := below_drewN hb2 nq
    go_loopw [7, 8, 19] (fun x y i wr => ∃ k : Nat, k ≤ l.length ∧ i = .int .i64 (k : Int) ∧ x = .int .i64 (low l k) ∧ y = .int .i64 cnt ∧ (∀ j (hj : j < l.length), j < k → l[j].value ≤ v) ∧ Below w.heap.size w wr) (fun _ _ i _ => l.length - (intOf i).toNat)
    case atStart => exact ⟨0, by omega, rfl, rfl, rfl, fun j hj h => by omega, hb3⟩
    case round =>
      obtain ⟨k, hk, rfl, rfl, rfl, hall, hb⟩ := hrel
      have HALL := Lib.hid hall
      clear hall hB0 hB1 hb2 hb3
      by_cases hlt : k < l.length
      · obtain ⟨b, off, rfl, c0, c1, c2⟩ := (hr.below hb).rkv hlt
        have hx := HA.out k hlt
        have HLow := Lib.hid (show low l (k + 1) = l[k].least by rw [low, if_neg (by omega), Nat.add_sub_cancel, getD_r l hlt])
        have HHigh := Lib.hid (show high cnt l k = l[k].most - 1 by rw [high, if_neg (by omega), getD_r l hlt])
        have HSt := Lib.hid (show l[k].value ≤ v → ∀ j (hj : j < l.length), j < k + 1 → l[j].value ≤ v from fun h j hj hq => by
          by_cases e : j = k
          · subst e; exact h
          · exact HALL.out j hj (by omega))
        have HFin := Lib.hid (show v < l[k].value → cut l v = k from fun h => HC.out k (by omega) HALL.out (fun j hj hq => by have := HM.out k j hq hj; omega))
        have HN := Lib.hid (fun (o : Obj) => hb.alloc hb.size o)
        generalize l[k] = x at c0 c1 c2 hx HLow HHigh HSt HFin
        by_cases hgt : v < x.value
        · have HF := Lib.hid (HFin.out hgt)
          go_wp2
          go_ret3
          exact ⟨(by rw [HR.out.1, HR.out.2.1, HR.out.2.2, HF.out, HHigh.out]; try rfl), HN.out _⟩
        · have HS2 := Lib.hid (HSt.out (by omega))
          go_wp2
          go_roundw
          case rel => exact ⟨k + 1, by omega, by go_num, (by rw [HLow.out]; try rfl), rfl, HS2.out, HN.out _⟩
          case measure => simp [intOf]; omega
      · obtain rfl : k = l.length := by omega
        have HF := Lib.hid (HC.out l.length (by omega) HALL.out (fun j hj hq => by omega))
        have HHigh := Lib.hid (show high cnt l l.length = cnt by rw [high, if_pos rfl])
        go_wp2
        go_ret3
        exact ⟨(by rw [HR.out.1, HR.out.2.1, HR.out.2.2, HF.out, HHigh.out]; try rfl), hb⟩
set_option maxRecDepth 100000 in
set_option maxHeartbeats 2000000 in
theorem spec_any {cnt : Int} (A : Option Addr) (c : Nat) (l : List Rkv) (v : Int) (w : World) (hn : l.length ≤ 1048576) (hr : Rd w 3 A l.length (rkvs l)) :
    Calls Try.prog 30 #[.agg #[.int .i64 cnt, .slice A l.length c], .int .i64 v] w fun e w' => e = .returned (.tuple #[.int .i64 (resL cnt l v), .int .i64 (resH cnt l v), .bool (ok cnt l)]) ∧ Below w.heap.size w w' := by
  have HBX := Lib.hid (fun (o : Obj) => (Below.refl w.heap.size w).alloc (Nat.le_refl _) o)
  have HV := Lib.hid (fun o => smy.good_any (cnt := cnt) A c l (w.alloc o) hn (hr.alloc o))
  cases hv : vsmy cnt l with
  | false =>
    have HR := Lib.hid (show resL cnt l v = 0 ∧ resH cnt l v = 0 ∧ ok cnt l = false by simp [resL, resH, ok, hv])
    rw [hv] at HV
    clear hv
    go_enter Try.func30, Try.ntmps30
    go_wp2_with fail
    refine (HV.out _).mono ?_
    rintro e w1 ⟨rfl, hb1⟩
    have hb2 := below_box hb1
    go_wp2
    go_ret3
    exact ⟨(by rw [HR.out.1, HR.out.2.1, HR.out.2.2]; try rfl), hb2⟩
  | true =>
    obtain ⟨p, hp⟩ : ∃ p, p = cut l v := ⟨_, rfl⟩
    have hpl : p ≤ l.length := by rw [hp]; exact cut_le l v
    have HSP := Lib.hid (cut_split hv v)
    rw [← hp] at HSP
    have HR := Lib.hid (show resL cnt l v = low l p ∧ resH cnt l v = high cnt l p ∧ ok cnt l = true by simp [resL, resH, ok, hv, hp])
    have HTE := Lib.hid (T_end cnt l p)
    have HTS := Lib.hid (T_start cnt l p hpl)
    have HA := Lib.hid (fun (k : Nat) (hk : k < l.length) => vsmy_at hv hk)
    have HTB := Lib.hid (fun t => T_bd (t := t) hv hpl)
    have HTD := Lib.hid (fun t ht hq => T_down (t := t) hv ht hq hpl)
    have hc := vsmy_cnt hv
    rw [hv] at HV
    clear hv hp
    go_enter Try.func30, Try.ntmps30
    go_wp2_with fail
    refine (HV.out _).mono ?_
    rintro e w1 ⟨rfl, hb1⟩
    have hb2 := below_box hb1
    have hB := (Blk.new w 29 #[.int .i64 cnt, .slice A l.length c]).below hb1 (by simp)
    have hB0 : w1.cell? ⟨w.heap.size, 0, none⟩ = some (.int .i64 cnt) := hB.cell 0
    have hB1 : w1.cell? ⟨w.heap.size, 1, none⟩ = some (.slice A l.length c) := hB.cell 1
    obtain ⟨hc1, hc2, hc3, _⟩ := hc
    have HB1 := Lib.hid hB
    clear hB hb1
    go_wp2
    go_quiet (fail)
    go_wp2
    have hb3 := below_drewN hb2 nq
    go_loopg [7, 8, 9] (l.length + 1) (fun f x y i wr => ∃ t : Nat, t < f ∧ t ≤ l.length ∧ i = .int .i64 ((t : Int) - 1) ∧ x = .int .i64 (lowT l p t) ∧ y = .int .i64 (highT cnt l p t) ∧ Blk wr w.heap.size 29 #[.int .i64 cnt, .slice A l.length c] ∧ Below w.heap.size w wr)
    case atStart => exact ⟨l.length, by omega, by omega, by go_num, (by rw [HTS.out.1]; try rfl), (by rw [HTS.out.2]; try rfl), HB1.out.drewN _, hb3⟩
    case round =>
      obtain ⟨t, htf, ht, rfl, rfl, rfl, hB, hb⟩ := hrel
      clear hB0 hB1 hb2 hb3
      have hB1 : wr.cell? ⟨w.heap.size, 1, none⟩ = some (.slice A l.length c) := hB.cell 1
      have HB := Lib.hid hB
      have HBW := Lib.hid (fun (w' : World) (h : Below wr.heap.size wr w') => And.intro (hB.below h hB.lt) (below_step hb h))
      clear hB
      by_cases h0 : t = 0
      · subst h0
        rw [HTE.out.1, HTE.out.2]
        have q1 : decide ((0 : Int) ≤ ((0 : Nat) : Int) - 1) = false := by simp
        go_wp2
        go_ret3
        exact ⟨(by rw [HR.out.1, HR.out.2.1, HR.out.2.2]; try rfl), hb⟩
      · obtain ⟨k, rfl⟩ : ∃ k, t = k + 1 := ⟨t - 1, by omega⟩
        rw [show (((k + 1 : Nat) : Int) - 1) = (k : Int) by omega]
        obtain ⟨b, off, rfl, c0, c1, c2⟩ := (hr.below hb).rkv (k := k) (by omega)
        have hx := HA.out k (by omega)
        have hbd := HTB.out (k + 1)
        have HU := Lib.hid (fun (h : p ≤ k) => T_up (cnt := cnt) (l := l) (show k < l.length by omega) h)
        have HD := Lib.hid (fun (h : k < p) => HTD.out k (by omega) h)
        have HS1 := Lib.hid (fun (h : k < p) => HSP.out.1 k (by omega) h)
        have HS2 := Lib.hid (fun (h : p ≤ k) => HSP.out.2 k (by omega) h)
        generalize l[k]'(by omega) = x at c0 c1 c2 hx HU HD HS1 HS2
        generalize lowT l p (k + 1) = lw at hbd HU HD ⊢
        generalize highT cnt l p (k + 1) = hw at HU HD ⊢
        have q2 : (k : Int) < (l.length : Int) := by omega
        have q3 : (0 : Int) ≤ (k : Int) := by omega
        by_cases hpk : p ≤ k
        · have g1 := HS2.out hpk
          have HU2 := Lib.hid (HU.out hpk)
          go_wp2
          go_roundg (gk - 1)
          case measure => omega
          case rel => exact ⟨k, by omega, by omega, by go_num, (by rw [HU2.out.1]; try rfl), (by rw [HU2.out.2]; try rfl), HB.out, hb⟩
        · have g1 := HS1.out (by omega)
          have HD2 := Lib.hid (HD.out (by omega))
          go_wp2_with fail
          refine (smyGap.most_any _ _ _).mono ?_
          rintro e w2 ⟨rfl, rfl⟩
          go_wp2
          go_roundg (gk - 1)
          case measure => omega
          case rel => exact ⟨k, by omega, by omega, by go_num, (by rw [HD2.out.1]; try rfl), (by rw [HD2.out.2]; try rfl), HB.out, hb⟩
end Go.Proofs.Ytlckeefjhafloaa.smyRank
