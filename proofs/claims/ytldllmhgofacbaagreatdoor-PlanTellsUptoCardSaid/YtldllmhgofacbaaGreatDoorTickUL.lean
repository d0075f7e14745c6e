/- Several parts: each begins with what it says. -/
import Derived.Test.YtldllmhgofacbaaGreatDoorKernDoL
import Derived.Test.YtldllmhgofacbaaGreatDoorFrameU
import Derived.Test.YtldllmhgofacbaaGreatDoorOwnUL
/- Package kernel: the contracts of Turn, TickBy, Tick, for every kernel that is right. -/
namespace Go.Proofs.YtldllmhgofacbaaGreatDoor
open Go.RowKit
set_option maxRecDepth 100000
attribute [local go_sem ↓] Go.wp_at_zero Go.wp_at_succ

section
variable {kb : Nat} {w : World} {M : KM} {k : Kst}
end

def evV (a b c d : Int) : Array Value := #[.int .i64 a, .int .i64 b, .int .i64 c, .int .i64 d]
section
variable {TK TL TP : Nat} {w wx w' : World} {kb b5 : Nat} {M0 M : KM} {k : Kst} {a b c d : Int}
end
theorem below_put4 {B b : Nat} {a w : World} (h : Below B a w) (hb : B ≤ b) (v0 v1 v2 v3 : Value) :
    Below B a ((((w.setCell ⟨b, 0, none⟩ v0).setCell ⟨b, 1, none⟩ v1).setCell ⟨b, 2, none⟩ v2).setCell ⟨b, 3, none⟩ v3) :=
  (((h.setCell hb _).setCell hb _).setCell hb _).setCell hb _
theorem put4_heap {w : World} {b T : Nat} {a0 a1 a2 a3 : Int} (h : w.heap[b]? = some (.cells (evV a0 a1 a2 a3) T (0, 0))) (v0 v1 v2 v3 : Value) : ((((w.setCell ⟨b, 0, none⟩ v0).setCell ⟨b, 1, none⟩ v1).setCell ⟨b, 2, none⟩ v2).setCell ⟨b, 3, none⟩ v3).heap[b]? = some (.cells #[v0, v1, v2, v3] T (0, 0)) := by
  simp [hp_set, h, setObj, evV]
end Go.Proofs.YtldllmhgofacbaaGreatDoor

/- Package kernel: the contracts of TickBy and Tick, for every kernel that is right. -/
namespace Go.Proofs.YtldllmhgofacbaaGreatDoor
open Go.RowKit
set_option maxRecDepth 100000
attribute [local go_sem ↓] Go.wp_at_zero Go.wp_at_succ

theorem kDo_time (n : Int) (r : Nat) (o : Op) (s : St) (k : Kst) : (kDo n r o s k).2.time = k.time := by
  unfold kDo
  repeat' split
  all_goals rfl
theorem spans_in {p : Pl} (hp : PlOk p) : ∀ s ∈ p.spans, 0 ≤ s.room ∧ s.room < p.code.length := fun s hs => by
  refine ⟨?_, hp.spans s hs⟩
  obtain ⟨i, hi⟩ := List.mem_iff_getElem?.1 hs
  exact (spanOk (frOk_of hp.frame i s hi).1).2.2.2.1

end Go.Proofs.YtldllmhgofacbaaGreatDoor
