/- What a tied row gives a walk where it lists strconv's two errors as sentinels, and of the world's shape: the desk that text is read with. Conditions: none. -/
import Derived.Test.YteneedblgaialaaDoorTextW
import Derived.Test.YteneedblgaialaaDoorDoorX
import Derived.Stop.LaidErr
import Derived.Shelf.Vars
namespace Go.Proofs.YteneedblgaialaaDoor
open Go.ChangeShapes Go.WideShapes Go.RowKit
set_option maxRecDepth 100000

theorem Tryd.gES : Tryd.prog.globalNamed "strconv.ErrSyntax" = some 8 := by kernel_rfl
theorem Tryd.gESt : (Tryd.prog.globals[8]?).map (·.type) = some 25 := by kernel_rfl
theorem Tryd.gER : Tryd.prog.globalNamed "strconv.ErrRange" = some 9 := by kernel_rfl
theorem Tryd.gERt : (Tryd.prog.globals[9]?).map (·.type) = some 25 := by kernel_rfl
theorem star_err : "*" ++ "errors.errorString" = "*errors.errorString" := by decide
theorem Tryd.rowErr (u : TypeId) (h : Tryd.prog.typeName? 3 u = some "*errors.errorString") : u = 157 :=
  typeName_ptr_named (nm := "errors.errorString") (by rw [star_err]; kernel_rfl) (by kernel_rfl) (by decide) u (by rw [star_err]; exact h)
theorem laid_drop {P : Program} {W : World} : ∀ (k : Nat) {l : List (String × DataW Unit)}, laidMet P l W → laidMet P (l.drop k) W
  | 0, _, h => h
  | _ + 1, [], h => h
  | k + 1, _ :: _, h => laid_drop k h.tail
/-- A listed error of the library's. -/
theorem sent_of {W : World} {n : String} {text : List UInt8} {g : Nat} {l : List (String × DataW Unit)} {k : Nat} {r : List (String × DataW Unit)} (h : laidMet Tryd.prog l W) (hk : l.drop k = (n, .iface "*errors.errorString" (.ptr (.agg [.lit (.string text)]))) :: r)
    (hg : Tryd.prog.globalNamed n = some g) (ht : (Tryd.prog.globals[g]?).map (·.type) = some 25) : ∃ ev, W.cell? ⟨g, 0, none⟩ = some ev ∧ (ev = .nilIface ∨ ∃ te pe, ev = .iface te pe) := by
  have h2 := laid_drop k h
  rw [hk] at h2
  obtain ⟨a0, s0, hv0, -, -, -⟩ := laid_sentinel h2 hg ht Tryd.underlying25 Tryd.rowErr Tryd.underlying157 Tryd.underlying159 rfl rfl Tryd.underlying9 (by kernel_rfl) (by kernel_rfl)
  exact ⟨_, by have h0 := World.var?_cell hg hv0 0; simpa using h0, .inr ⟨_, _, rfl⟩⟩
theorem len_of {W : World} (h : W.ShapedOpen Tryd.prog) : ∃ m : Int, W.cell? ⟨3, 0, none⟩ = some (.int .i64 m) :=
  cell_of_shapedOpen_int (t := 3) (zero := #[.int .i64 0]) h (of_decide_eq_true (by kernel_rfl)) (by kernel_rfl) rfl (by kernel_rfl) (by kernel_rfl) Tryd.underlying3
end Go.Proofs.YteneedblgaialaaDoor
