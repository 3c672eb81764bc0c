/- Merging many lists by tournaments: what is taken, and how many comparisons are counted. No program. -/
import Derived.Test.YtgffabjajbgbjaaTnLaw
import Derived.Test.YtgffabjajbgbjaaRec
set_option linter.unusedVariables false
set_option linter.unusedSimpArgs false
namespace Go.Proofs.Ytgffabjajbgbjaa.tn
open Go.RowKit Go.Proofs.Ytgffabjajbgbjaa.mem

/-- the key in front, 0 of an empty list -/
def hd : List Rec → Int
  | [] => 0
  | x :: _ => x.key
def kys (rs : List (List Rec)) : List Int := rs.map hd
def dns (rs : List (List Rec)) : List Bool := rs.map List.isEmpty
def wn (rs : List (List Rec)) : Nat := win (kys rs) (dns rs) rs.length 1
theorem kys_len (rs : List (List Rec)) : (kys rs).length = rs.length := List.length_map _
theorem dns_len (rs : List (List Rec)) : (dns rs).length = rs.length := List.length_map _
theorem wn_lt {rs : List (List Rec)} (h : 0 < rs.length) : wn rs < rs.length := win_lt _ _ h
def tot (rs : List (List Rec)) : Nat := (rs.map List.length).sum
/-- what is taken, and the comparisons behind the first winner -/
def km : Nat → List (List Rec) → List Rec × Nat
  | 0, _ => ([], 0)
  | f + 1, rs =>
    match rs.getD (wn rs) [] with
    | [] => ([], 0)
    | x :: t => (x :: (km f (rs.set (wn rs) t)).1, up ((rs.length + wn rs) / 2) + (km f (rs.set (wn rs) t)).2)
theorem km_done {f : Nat} {rs : List (List Rec)} (h : rs.getD (wn rs) [] = []) : km f rs = ([], 0) := by
  cases f with
  | zero => rfl
  | succ f => rw [km, h]
theorem km_step {f : Nat} {rs : List (List Rec)} {x : Rec} {t : List Rec} (h : rs.getD (wn rs) [] = x :: t) :
    km (f + 1) rs = (x :: (km f (rs.set (wn rs) t)).1, up ((rs.length + wn rs) / 2) + (km f (rs.set (wn rs) t)).2) := by
  rw [km, h]
theorem tot_set : ∀ (rs : List (List Rec)) (i : Nat) (x : Rec) (t : List Rec), rs.getD i [] = x :: t → tot (rs.set i t) + 1 = tot rs
  | [], i, x, t, h => by simp at h
  | r :: rs, 0, x, t, h => by
    simp at h
    subst h
    simp [tot]; omega
  | r :: rs, i + 1, x, t, h => by
    have ih := tot_set rs i x t (by simpa using h)
    simp [tot] at ih ⊢
    omega
end Go.Proofs.Ytgffabjajbgbjaa.tn
