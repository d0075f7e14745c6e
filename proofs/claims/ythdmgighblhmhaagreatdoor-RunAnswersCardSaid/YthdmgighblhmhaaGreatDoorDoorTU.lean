/- Several parts: each begins with what it says. -/
import Derived.Test.YthdmgighblhmhaaGreatDoorDeskU
import Derived.Stop.LaidErr
import Derived.Shelf.Vars
import Derived.Test.YthdmgighblhmhaaGreatDoorDoorU
import Derived.Lay
/- What a tied row gives a walk where it lists strconv's two errors as sentinels, and of the world's shape: the desk that text is read with. Conditions: none. -/
namespace Go.Proofs.YthdmgighblhmhaaGreatDoor
open Go.ChangeShapes Go.WideShapes Go.RowKit
set_option maxRecDepth 100000

theorem Tryz.gES : Tryz.prog.globalNamed "strconv.ErrSyntax" = some 6 := by kernel_rfl
theorem Tryz.gESt : (Tryz.prog.globals[6]?).map (·.type) = some 40 := by kernel_rfl
theorem Tryz.gER : Tryz.prog.globalNamed "strconv.ErrRange" = some 7 := by kernel_rfl
theorem Tryz.gERt : (Tryz.prog.globals[7]?).map (·.type) = some 40 := by kernel_rfl
theorem star_err : "*" ++ "errors.errorString" = "*errors.errorString" := by decide
theorem Tryz.rowErr (u : TypeId) (h : Tryz.prog.typeName? 3 u = some "*errors.errorString") : u = 228 :=
  typeName_ptr_named (nm := "errors.errorString") (by rw [star_err]; kernel_rfl) (by kernel_rfl) (by decide) u (by rw [star_err]; exact h)
theorem laid_drop {P : Program} {W : World} : ∀ (k : Nat) {l : List (String × DataW Unit)}, laidMet P l W → laidMet P (l.drop k) W
  | 0, _, h => h
  | _ + 1, [], h => h
  | k + 1, _ :: _, h => laid_drop k h.tail
/-- A listed error of the library's. -/
theorem sent_of {W : World} {n : String} {text : List UInt8} {g : Nat} {l : List (String × DataW Unit)} {k : Nat} {r : List (String × DataW Unit)} (h : laidMet Tryz.prog l W) (hk : l.drop k = (n, .iface "*errors.errorString" (.ptr (.agg [.lit (.string text)]))) :: r)
    (hg : Tryz.prog.globalNamed n = some g) (ht : (Tryz.prog.globals[g]?).map (·.type) = some 40) : ∃ ev, W.cell? ⟨g, 0, none⟩ = some ev ∧ (ev = .nilIface ∨ ∃ te pe, ev = .iface te pe) := by
  have h2 := laid_drop k h
  rw [hk] at h2
  obtain ⟨a0, s0, hv0, -, -, -⟩ := laid_sentinel h2 hg ht Tryz.underlying40 Tryz.rowErr Tryz.underlying228 Tryz.underlying230 rfl rfl Tryz.underlying9 (by kernel_rfl) (by kernel_rfl)
  exact ⟨_, by have h0 := World.var?_cell hg hv0 0; simpa using h0, .inr ⟨_, _, rfl⟩⟩
theorem len_of {W : World} (h : W.ShapedOpen Tryz.prog) : ∃ m : Int, W.cell? ⟨2, 0, none⟩ = some (.int .i64 m) :=
  cell_of_shapedOpen_int (t := 3) (zero := #[.int .i64 0]) h (of_decide_eq_true (by kernel_rfl)) (by kernel_rfl) rfl (by kernel_rfl) (by kernel_rfl) Tryz.underlying3
end Go.Proofs.YthdmgighblhmhaaGreatDoor

/- What a tied row gives a walk where it lists errors.errorType beside plain data; and a world that meets such a list. Conditions: none. -/
namespace Go.Proofs.YthdmgighblhmhaaGreatDoor
open Go.ChangeShapes Go.WideShapes Go.RowKit
set_option maxRecDepth 100000
theorem handle_of_met {W : World} (h : handlesMet Tryz.prog theLaid W) : Handle W := by
  refine handle_of_laid ?_
  exact ⟨laidMet_nil _ _, h⟩
/-- The settled world with the handle in its variable's cell. -/
noncomputable def handledW (os : Os) : World := laidWorld os
theorem handledW_os (os : Os) : (handledW os).os = os := rfl
theorem laid_met_over {w0 : World} {l : List (String × DataW Unit)} {args : Array Value} (hf : w0.layFits Tryz.prog l [] = true) (hi : w0.layIfaces Tryz.prog l (w0.layVars Tryz.prog l) = true) :
    laidMet Tryz.prog l ((w0.layVars Tryz.prog l).forCall (fun _ _ => 0) ⟨#[], args, []⟩).memory := by
  have e1 : (l.filter fun x => (l.map (·.1)).contains x.1) = l := List.filter_eq_self.2 fun x hx => List.contains_iff_mem.2 (List.mem_map.2 ⟨x, hx, rfl⟩)
  have e2 : (l.filter fun x => !(l.map (·.1)).contains x.1) = [] := List.filter_eq_nil_iff.2 fun x hx => by rw [List.contains_iff_mem.2 (List.mem_map.2 ⟨x, hx, rfl⟩)]; simp
  have h : laidMet Tryz.prog l (w0.layVars Tryz.prog l) := laidMet_layVars (w0 := w0) (l.map (·.1)) [] (by rw [e1]) (by rw [e1]; exact hf) (by rw [e1]; exact hi) (by rw [e2]; exact LaidIn.none)
  exact h.of_heap (by simp [World.memory, World.forCall, Input.heap])
end Go.Proofs.YthdmgighblhmhaaGreatDoor
