/- Package wire, and frame.Room: contracts of wire.Check, New, Send, Peek, Take, Held, for every line. -/
import Derived.Test.YtikadpfchchbpaaDoorBaseU
import Derived.Test.YtikadpfchchbpaaDoorRows
namespace Go.Proofs.YtikadpfchchbpaaDoor
open Go.RowKit
set_option maxRecDepth 100000

/-- An error of package api as a value: 0 is nil. -/
def errV (e : Int) : Value := if e = 0 then .nilIface else .iface 50 (.int .i64 e)
theorem errV_zero : errV 0 = .nilIface := rfl
theorem errV_pos {e : Int} (h : e ≠ 0) : errV e = .iface 50 (.int .i64 e) := by simp [errV, h]

end Go.Proofs.YtikadpfchchbpaaDoor
