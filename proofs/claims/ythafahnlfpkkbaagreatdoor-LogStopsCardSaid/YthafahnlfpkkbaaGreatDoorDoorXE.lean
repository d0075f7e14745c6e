/- What a tied row gives a walk where it lists errors.errorType beside plain data; and a world that meets such a list. Conditions: none. -/
import Derived.Test.YthafahnlfpkkbaaGreatDoorDoorU
import Derived.Test.YthafahnlfpkkbaaGreatDoorFormU
import Derived.Lay
namespace Go.Proofs.YthafahnlfpkkbaaGreatDoor
open Go.ChangeShapes Go.WideShapes Go.RowKit
set_option maxRecDepth 100000
theorem handle_of_met {W : World} (h : handlesMet Tryz.prog theLaid W) : Handle W := by
  refine handle_of_laid ?_
  exact ⟨laidMet_nil _ _, h⟩
/-- The settled world with the handle in its variable's cell. -/
noncomputable def handledW (os : Os) : World := laidWorld os
theorem handledW_os (os : Os) : (handledW os).os = os := rfl
theorem laid_met_over {w0 : World} {l : List (String × DataW Unit)} {args : Array Value} (hf : w0.layFits Tryz.prog l [] = true) (hi : w0.layIfaces Tryz.prog l (w0.layVars Tryz.prog l) = true) :
    laidMet Tryz.prog l ((w0.layVars Tryz.prog l).forCall (fun _ _ => 0) ⟨#[], args, []⟩).memory := by
  have e1 : (l.filter fun x => (l.map (·.1)).contains x.1) = l := List.filter_eq_self.2 fun x hx => List.contains_iff_mem.2 (List.mem_map.2 ⟨x, hx, rfl⟩)
  have e2 : (l.filter fun x => !(l.map (·.1)).contains x.1) = [] := List.filter_eq_nil_iff.2 fun x hx => by rw [List.contains_iff_mem.2 (List.mem_map.2 ⟨x, hx, rfl⟩)]; simp
  have h : laidMet Tryz.prog l (w0.layVars Tryz.prog l) := laidMet_layVars (w0 := w0) (l.map (·.1)) [] (by rw [e1]) (by rw [e1]; exact hf) (by rw [e1]; exact hi) (by rw [e2]; exact LaidIn.none)
  exact h.of_heap (by simp [World.memory, World.forCall, Input.heap])
end Go.Proofs.YthafahnlfpkkbaaGreatDoor
