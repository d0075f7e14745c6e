/- Package room: contracts of right, Right, Check, New. -/
import Derived.Test.YthdmgighblhmhaaGreatDoorCodeW
import Derived.Test.YthdmgighblhmhaaGreatDoorLineU
namespace Go.Proofs.YthdmgighblhmhaaGreatDoor
open Go.RowKit
set_option maxRecDepth 100000

theorem cellB_true {n : Int} : cellB n = true ↔ 0 ≤ n ∧ n < 1000 := by simp [cellB]
theorem cellB_false {n : Int} : cellB n = false ↔ n < 0 ∨ 1000 ≤ n := by simp [cellB]; omega
theorem sl_int {w : World} {A : Option Addr} {n : Nat} {l : List Int} (h : Sl w A 1 n (ints l)) {i : Nat} (hi : i < l.length) (hn : i < n) :
    ∃ b off, A = some ⟨b, off, none⟩ ∧ b < w.heap.size ∧ w.cell? ⟨b, off + i, none⟩ = some (.int .i64 l[i]) := by
  obtain ⟨b, off, rfl, hlt, hx⟩ := h.2 (by omega)
  exact ⟨b, off, rfl, hlt, hx i _ (by simp [ints, hi])⟩
def badCell (n : Int) : Bool := !cellB n
def stV (s : St) : Array Value := #[.int .i64 s.pc, .int .i64 s.c0, .int .i64 s.c1, .int .i64 s.c2, .int .i64 s.c3, .int .i64 s.c4, .int .i64 s.c5, .bool s.failed]
theorem any_all (l : List Int) : l.any badCell = !l.all cellB := by
  induction l with
  | nil => rfl
  | cons a r ih => simp only [List.any_cons, List.all_cons, ih, badCell, Bool.not_and]
theorem room_new (w : World) : Calls Tryz.prog 27 #[] w fun e w' => e = .returned (.agg (stV St.zero)) ∧ Below w.heap.size w w' := by
  go_enter Tryz.func27, Tryz.ntmps27
  go_wp2_with fail
  refine bodyPost_ret (v := .agg (stV St.zero)) (by simp [results, Tryz.results27, go_sem, stV, St.zero]) rfl ?_
  exact ⟨rfl, by repeat (first | exact Below.refl _ _ | refine Below.setCell ?_ (by simp) _ | refine Below.alloc ?_ (by simp) _)⟩

end Go.Proofs.YthdmgighblhmhaaGreatDoor
