/- Where a plan lies in memory, and what keeps it. -/
import Derived.Test.YtldllmhgofacbaaGreatDoorOpen2
namespace Go.Proofs.YtldllmhgofacbaaGreatDoor
open Go.RowKit
set_option maxRecDepth 100000

theorem Sl.keep0 {w w' : World} {A : Option Addr} {sz n : Nat} {xs : List Value} (h : Sl w A sz n xs) (hs : w.heap.size ≤ w'.heap.size)
    (hk : ∀ b, 0 < n → InA A b → b < w.heap.size → w'.heap[b]? = w.heap[b]?) : Sl w' A sz n xs := by
  by_cases hn : 0 < n
  · exact h.keep hs fun b hb hl => hk b hn hb hl
  · exact ⟨h.1, fun h0 => absurd h0 hn⟩
theorem Sl.lt {w : World} {A : Option Addr} {sz n : Nat} {xs : List Value} (h : Sl w A sz n xs) (hn : 0 < n) : ∀ j, InA A j → j < w.heap.size := by
  obtain ⟨b, off, rfl, hb, _⟩ := h.2 hn
  intro j hj
  simp [InA] at hj
  omega

/-- Where a plan lies. -/
def planF (P : PM) (j : Nat) : Prop := (0 < P.ros.length ∧ InA P.A j) ∨ (∃ r ∈ P.ros, 0 < r.ops.length ∧ InA r.A j) ∨ (0 < P.spans.length ∧ InA P.sA j) ∨ (0 < P.wires.length ∧ InA P.wA j)
theorem PlanAt.keep {w w' : World} {m : PM} (h : PlanAt w m) (hs : w.heap.size ≤ w'.heap.size) (hk : ∀ j, j < w.heap.size → planF m j → w'.heap[j]? = w.heap[j]?) : PlanAt w' m :=
  ⟨h.rows.keep0 hs fun b h0 hb hl => hk b hl (.inl ⟨h0, hb⟩), h.rowsW, fun r hr => ⟨(h.codes r hr).1.keep0 hs fun b h0 hb hl => hk b hl (.inr (.inl ⟨r, hr, h0, hb⟩)), (h.codes r hr).2⟩, h.fits,
    h.spans.keep0 hs fun b h0 hb hl => hk b hl (.inr (.inr (.inl ⟨h0, hb⟩))), h.spansW, h.spansOk, h.wires.keep0 hs fun b h0 hb hl => hk b hl (.inr (.inr (.inr ⟨h0, hb⟩))), h.wiresW, h.wiresOk⟩
theorem PlanAt.lt {w : World} {m : PM} (h : PlanAt w m) : ∀ j, planF m j → j < w.heap.size := by
  rintro j (⟨h0, hj⟩ | ⟨r, hr, h0, hj⟩ | ⟨h0, hj⟩ | ⟨h0, hj⟩)
  · exact h.rows.lt h0 j hj
  · exact (h.codes r hr).1.lt h0 j hj
  · exact h.spans.lt h0 j hj
  · exact h.wires.lt h0 j hj


theorem Row.slW {w : World} {e sz n cap : Nat} {A : Option Addr} {xs : List Value} (h : Row w e sz A n cap xs) : SlW A cap n := by
  rcases h.2 with ⟨rfl, rfl, rfl⟩ | ⟨b, off, cur, rfl, hh, h1, h2, h3, h4⟩
  · exact ⟨Nat.le_refl _, Nat.zero_le _, fun _ => ⟨rfl, rfl⟩⟩
  · exact ⟨h1, h2, fun h => by cases h⟩
end Go.Proofs.YtldllmhgofacbaaGreatDoor
