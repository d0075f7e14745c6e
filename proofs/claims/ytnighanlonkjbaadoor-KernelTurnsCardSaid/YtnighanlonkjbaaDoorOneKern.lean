/- A kernel of a plan of one room that the program lays itself. -/
import Derived.Test.YtnighanlonkjbaaDoorKernRun
import Derived.Test.YtnighanlonkjbaaDoorOnePlan
namespace Go.Proofs.YtnighanlonkjbaaDoor
open Go.RowKit
set_option maxRecDepth 100000

theorem KRun.base {w w0 wr : World} {kb : Nat} {p : Pl} {M : KM} {k : Kst} (h : KRun w wr kb p M k) (hb : Below w0.heap.size w0 w) : KRun w0 wr kb p M k :=
  ⟨h.kat, h.plan, fun j hj => Nat.le_trans hb.size (h.fresh j hj), hb.trans (h.below.mono hb.size)⟩
theorem one_new (ops : List Op) (T : Int) (spans : List Span) {w : World} (hf : Forms w) (hl : ops.length ≤ 20) (hs : spans.length ≤ 12) (hT : -1000 ≤ T ∧ T ≤ 1000) (ho : ∀ o ∈ ops, o.Ok) (hso : ∀ s ∈ spans, s.Ok)
    (he : planChk ⟨[ops], T, spans, []⟩ = 0) (s : Nat) (hz : w.heap.size = s) :
    Calls Tryd.prog 33 #[.agg #[.slice (some ⟨s + 1, 0, none⟩) 1 1, .int .i64 T, .slice (some ⟨s + 1 + 1, 0, none⟩) spans.length spans.length, .slice none 0 0]]
      (((w.alloc (.cells (ops.flatMap Op.cells).toArray 27)).alloc (.cells #[.slice (some ⟨s, 0, none⟩) ops.length ops.length] 22)).alloc (.cells (spans.flatMap Span.cells).toArray 83)) (KNew w ⟨[ops], T, spans, []⟩) := by
  obtain ⟨w3, hw3⟩ : ∃ w3, w3 = (((w.alloc (.cells (ops.flatMap Op.cells).toArray 27)).alloc (.cells #[.slice (some ⟨s, 0, none⟩) ops.length ops.length] 22)).alloc (.cells (spans.flatMap Span.cells).toArray 83)) := ⟨_, rfl⟩
  have hb : Below w.heap.size w w3 := by
    rw [hw3]; exact (((Below.refl _ _).alloc (Nat.le_refl _) _).alloc (by simp) _).alloc (by simp; omega) _
  have h1 : w3.heap[s]? = some (.cells (ops.flatMap Op.cells).toArray 27 (0, 0)) := by
    rw [hw3]; simp only [hp_alloc, sz_alloc, hz]; repeat (first | rw [if_pos True.intro] | rw [if_pos rfl] | rw [if_neg (by omega)])
  have h2 : w3.heap[s + 1]? = some (.cells #[.slice (some ⟨s, 0, none⟩) ops.length ops.length] 22 (0, 0)) := by
    rw [hw3]; simp only [hp_alloc, sz_alloc, hz]; repeat (first | rw [if_pos True.intro] | rw [if_pos rfl] | rw [if_neg (by omega)])
  have h3 : w3.heap[s + 1 + 1]? = some (.cells (spans.flatMap Span.cells).toArray 83 (0, 0)) := by
    rw [hw3]; simp only [hp_alloc, sz_alloc, hz]; repeat (first | rw [if_pos True.intro] | rw [if_pos rfl] | rw [if_neg (by omega)])
  have hp : PlanAt w3 (onePM s (s + 1) (s + 1 + 1) ops T spans) := one_plan h1 h2 h3 hl hs hT ho hso
  rw [← hw3]
  refine (new_run w3 (onePM s (s + 1) (s + 1 + 1) ops T spans) (hf.new hb) hp he).mono ?_
  rintro e w' ⟨kb, M, h4, h5⟩
  exact ⟨kb, M, h4, h5.base hb⟩
end Go.Proofs.YtnighanlonkjbaaDoor
