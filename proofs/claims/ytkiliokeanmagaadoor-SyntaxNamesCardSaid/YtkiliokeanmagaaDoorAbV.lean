/- Values as trees. -/
import Derived.WalkKit
namespace Go.Proofs.YtkiliokeanmagaaDoor.Ab
open Go
set_option linter.unusedVariables false
set_option linter.unusedSimpArgs false

/-- What is known of a slice's room: nothing; it is nil; its capacity is its length; it is the latest one of a row that grows. -/
inductive SI where
  | any | nil | full | tok (k : Nat)
  | isn | nz

/-- Values as trees. -/
inductive V where
  | c (x : Value)
  | agg (cs : List V)
  | tup (vs : List V)
  | sl (us : List V) (i : SI)
  | ptr (cs : List V) (o : Nat)
  | ref (id o : Nat)
  | clo (f : Nat) (caps : List V)
  | row (id off n : Nat) (z : Option Nat)
  | buf (id n : Nat)
  | tsl (k n : Nat) (z : Option Nat)
  | tref (k n o : Nat)
  | top
  /-- A map that nobody writes; a map; the loop body that a function is ranged over with. -/
  | fmp (ks : List Value) (vs : List V)
  | mref (id : Nat)
  | yld (k y m : Nat) (caps : List V)
end Go.Proofs.YtkiliokeanmagaaDoor.Ab
