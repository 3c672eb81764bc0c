/- The merge of PolyphaseVolume: the sum of the heads, added to what is moved. Condition: at most 8 small numbers. -/
import Derived.Test.YtgffabjajbgbjaaSum
import Derived.Test.YtgffabjajbgbjaaCut
import Derived.Deep.RegionLaw
set_option linter.unusedVariables false
set_option linter.unusedSimpArgs false
namespace Go.Proofs.Ytgffabjajbgbjaa.vol
open Go.RowKit Go.Proofs.Ytgffabjajbgbjaa.mem Go.Proofs.Ytgffabjajbgbjaa.sums

set_option maxRecDepth 100000 in
theorem ent_sum : Enters 61 := fun _ _ => rfl
set_option maxRecDepth 100000 in
set_option maxHeartbeats 2000000 in
theorem clo_any (A : Option Addr) (c : Nat) (zs : List Int) (m : Int) (gm : Nat) (W : World) (hn : zs.length ≤ 8) (hz : Small zs) (hm1 : -1099511627776 ≤ m) (hm2 : m ≤ 1099511627776) (hs : zs.sum ≤ 1048576) (hs0 : 0 ≤ zs.sum)
    (hr : Rd W 1 A zs.length (ints zs)) (hb : Blk W gm 3 #[.int .i64 m]) (hg : ∀ b off, A = some ⟨b, off, none⟩ → b ≠ gm) :
    Calls Try.prog 72 #[.slice A zs.length c, .pointer (some ⟨gm, 0, none⟩)] W fun e W' => e = .returned (.int .i64 zs.sum) ∧ Blk W' gm 3 #[.int .i64 (m + zs.sum)] ∧ W.grownBy W' (some gm) := by
  have HS := Lib.hid (fun W2 h => sums.impl_any A c zs W2 (by omega) hz h)
  have hrd : Rd W.drew 1 A zs.length (ints zs) := hr
  have c0 := hb.drew.cell 0
  have f0 := hb.drew.thaw 0
  have c0' : W.drew.cell? ⟨gm, 0, none⟩ = some (.int .i64 m) := c0
  have HB := Lib.hid (hb.put 0 (.int .i64 (m + zs.sum))).drew
  have HG := Lib.hid (show W.grownBy (W.setCell ⟨gm, 0, none⟩ (.int .i64 (m + zs.sum))).drew (some gm) from only_drewN (only_put (World.grownBy.refl W (some gm)) 0 (.int .i64 (m + zs.sum))) 1)
  have HRF := Lib.hid (show ∀ u, Rd (W.setCell ⟨gm, 0, none⟩ u).drew 1 A zs.length (ints zs) from fun u => (rd_far hr (fun b off e => hg b off e) u).drew)
  clear hb c0
  go_enter Try.func72, Try.ntmps72
  go_wp2_with fail
  go_region_law ((first
    | (refine step_call rfl 61 #[.tmp 5] #[22] rfl ent_sum (vs := #[.slice A zs.length c]) (by simp [Act.eval, Act.put]) (HS.out _ hrd) ?_; rintro e w3 ⟨rfl, rfl⟩; refine ⟨_, rfl, ?_⟩)))
  all_goals
    go_wp2_with fail
    with_reducible refine (HS.out _ (HRF.out _)).mono ?_
    rintro e w4 ⟨rfl, rfl⟩
    go_wp2
    go_ret
    exact ⟨rfl, HB.out, HG.out⟩
end Go.Proofs.Ytgffabjajbgbjaa.vol
