/- Several parts: each begins with what it says. -/
import Derived.Test.YtldllmhgofacbaaDoorDeskU
import Derived.Test.YtldllmhgofacbaaDoorFormU
import Derived.Stop.LaidErr
import Derived.Shelf.Vars
import Derived.Test.YtldllmhgofacbaaDoorDoorU
import Derived.Lay
/- What a tied row gives a walk where it lists strconv's two errors as sentinels, and of the world's shape: the desk that text is read with. Conditions: none. -/
namespace Go.Proofs.YtldllmhgofacbaaDoor
open Go.ChangeShapes Go.WideShapes Go.RowKit
set_option maxRecDepth 100000

theorem Tryd.gES : Tryd.prog.globalNamed "strconv.ErrSyntax" = some 6 := by kernel_rfl
theorem Tryd.gESt : (Tryd.prog.globals[6]?).map (·.type) = some 28 := by kernel_rfl
theorem Tryd.gER : Tryd.prog.globalNamed "strconv.ErrRange" = some 7 := by kernel_rfl
theorem Tryd.gERt : (Tryd.prog.globals[7]?).map (·.type) = some 28 := by kernel_rfl
theorem star_err : "*" ++ "errors.errorString" = "*errors.errorString" := by decide
theorem Tryd.rowErr (u : TypeId) (h : Tryd.prog.typeName? 3 u = some "*errors.errorString") : u = 150 :=
  typeName_ptr_named (nm := "errors.errorString") (by rw [star_err]; kernel_rfl) (by kernel_rfl) (by decide) u (by rw [star_err]; exact h)
theorem laid_drop {P : Program} {W : World} : ∀ (k : Nat) {l : List (String × DataW Unit)}, laidMet P l W → laidMet P (l.drop k) W
  | 0, _, h => h
  | _ + 1, [], h => h
  | k + 1, _ :: _, h => laid_drop k h.tail
/-- A listed error of the library's. -/
theorem sent_of {W : World} {n : String} {text : List UInt8} {g : Nat} {l : List (String × DataW Unit)} {k : Nat} {r : List (String × DataW Unit)} (h : laidMet Tryd.prog l W) (hk : l.drop k = (n, .iface "*errors.errorString" (.ptr (.agg [.lit (.string text)]))) :: r)
    (hg : Tryd.prog.globalNamed n = some g) (ht : (Tryd.prog.globals[g]?).map (·.type) = some 28) : ∃ ev, W.cell? ⟨g, 0, none⟩ = some ev ∧ (ev = .nilIface ∨ ∃ te pe, ev = .iface te pe) := by
  have h2 := laid_drop k h
  rw [hk] at h2
  obtain ⟨a0, s0, hv0, -, -, -⟩ := laid_sentinel h2 hg ht Tryd.underlying28 Tryd.rowErr Tryd.underlying150 Tryd.underlying152 rfl rfl Tryd.underlying9 (by kernel_rfl) (by kernel_rfl)
  exact ⟨_, by have h0 := World.var?_cell hg hv0 0; simpa using h0, .inr ⟨_, _, rfl⟩⟩
theorem len_of {W : World} (h : W.ShapedOpen Tryd.prog) : ∃ m : Int, W.cell? ⟨2, 0, none⟩ = some (.int .i64 m) :=
  cell_of_shapedOpen_int (t := 3) (zero := #[.int .i64 0]) h (of_decide_eq_true (by kernel_rfl)) (by kernel_rfl) rfl (by kernel_rfl) (by kernel_rfl) Tryd.underlying3
end Go.Proofs.YtldllmhgofacbaaDoor

/- What a tied row gives a walk where it lists errors.errorType beside plain data; and a world that meets such a list. Conditions: none. -/
namespace Go.Proofs.YtldllmhgofacbaaDoor
open Go.ChangeShapes Go.WideShapes Go.RowKit
set_option maxRecDepth 100000
theorem laid_met_over {w0 : World} {l : List (String × DataW Unit)} {args : Array Value} (hf : w0.layFits Tryd.prog l [] = true) (hi : w0.layIfaces Tryd.prog l (w0.layVars Tryd.prog l) = true) :
    laidMet Tryd.prog l ((w0.layVars Tryd.prog l).forCall (fun _ _ => 0) ⟨#[], args, []⟩).memory := by
  have e1 : (l.filter fun x => (l.map (·.1)).contains x.1) = l := List.filter_eq_self.2 fun x hx => List.contains_iff_mem.2 (List.mem_map.2 ⟨x, hx, rfl⟩)
  have e2 : (l.filter fun x => !(l.map (·.1)).contains x.1) = [] := List.filter_eq_nil_iff.2 fun x hx => by rw [List.contains_iff_mem.2 (List.mem_map.2 ⟨x, hx, rfl⟩)]; simp
  have h : laidMet Tryd.prog l (w0.layVars Tryd.prog l) := laidMet_layVars (w0 := w0) (l.map (·.1)) [] (by rw [e1]) (by rw [e1]; exact hf) (by rw [e1]; exact hi) (by rw [e2]; exact LaidIn.none)
  exact h.of_heap (by simp [World.memory, World.forCall, Input.heap])
end Go.Proofs.YtldllmhgofacbaaDoor
