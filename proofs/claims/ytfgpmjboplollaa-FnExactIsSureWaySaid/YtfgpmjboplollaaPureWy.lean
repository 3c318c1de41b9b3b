/- Matrices that are written entry by entry, plainly. No conditions. -/
import Derived.Test.YtfgpmjboplollaaPure
namespace Go.Proofs.Ytfgpmjboplollaa
set_option linter.unusedSimpArgs false
set_option linter.unusedVariables false

abbrev Mx := Nat → Nat → Int
def updM (X : Mx) (i c : Nat) (v : Int) : Mx := fun q r => if q = i ∧ r = c then v else X q r
/-- Row i, entry by entry. -/
def rndC (g : Mx → Nat → Nat → Int) (X : Mx) (i : Nat) : Nat → Mx
  | 0 => X
  | c + 1 => updM (rndC g X i c) i c (g (rndC g X i c) i c)
def foldM (h : Mx → Nat → Mx) (X : Mx) : Nat → Mx
  | 0 => X
  | k + 1 => h (foldM h X k) k
theorem updM_ne {X : Mx} {i c q : Nat} {v : Int} (h : q ≠ i) : updM X i c v q = X q := funext fun r => by unfold updM; rw [if_neg fun e => h e.1]
theorem updM_eq {X : Mx} {i c : Nat} {v : Int} : updM X i c v i = fun r => if r = c then v else X i r := funext fun r => by unfold updM; simp
/-- The reference's round: entry (i, c) meets the way by j. -/
def gWy (m D : Mx) (j : Nat) : Mx → Nat → Nat → Int := fun Y i c => if Y i c < plusI (D i j) (m j c) then Y i c else plusI (D i j) (m j c)
def stJ (m D : Mx) (n i : Nat) (Y : Mx) (j : Nat) : Mx := foldM (fun Y j => rndC (gWy m D j) Y i n) Y j
def stI (m D : Mx) (n : Nat) (X : Mx) (i : Nat) : Mx := foldM (fun Y i => stJ m D n i Y n) X i
/-- One round of the reference's. -/
def stepM (m D : Mx) (n : Nat) : Mx := stI m D n D n
end Go.Proofs.Ytfgpmjboplollaa
