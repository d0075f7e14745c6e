/- Package flow: contracts of Reach, for every list of wires. -/
import Derived.Test.YtongkiccglaniaaDoorWaysU
namespace Go.Proofs.YtongkiccglaniaaDoor
open Go.RowKit
set_option maxRecDepth 100000

noncomputable def reachOf (l : List Wire) (a b : Int) : Bool × Int :=
  if (flowChk l).2 ≠ 0 then (false, (flowChk l).2) else if roomB a = false ∨ roomB b = false then (false, 1) else (reachB l a.toNat b.toNat, 0)
def TellB (w : World) (r : Bool × Int) (e : Ending) (w' : World) : Prop := e = .returned (.tuple #[.bool r.1, errV r.2]) ∧ Below w.heap.size w w'

end Go.Proofs.YtongkiccglaniaaDoor
