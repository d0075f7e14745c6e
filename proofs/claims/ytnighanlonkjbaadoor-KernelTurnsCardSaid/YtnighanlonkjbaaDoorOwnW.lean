/- Package plan: the contract of Own. -/
import Derived.Test.YtnighanlonkjbaaDoorClones
import Derived.Test.YtnighanlonkjbaaDoorPlanW2
import Derived.Test.YtnighanlonkjbaaDoorRowPut
import Derived.Test.YtnighanlonkjbaaDoorPlanMem
import Derived.Deep.DrawnRows
namespace Go.Proofs.YtnighanlonkjbaaDoor
open Go.RowKit
set_option maxRecDepth 100000
attribute [local go_sem ↓] Go.wp_at_zero Go.wp_at_succ

theorem one_ops (l : List Op) : ∀ u ∈ l.flatMap Op.cells, u.oneCell' = true := by
  intro u hu
  obtain ⟨x, _, hx⟩ := List.mem_flatMap.1 hu
  simp [Op.cells] at hx
  rcases hx with rfl | rfl | rfl <;> rfl
theorem one_spans (l : List Span) : ∀ u ∈ l.flatMap Span.cells, u.oneCell' = true := by
  intro u hu
  obtain ⟨x, _, hx⟩ := List.mem_flatMap.1 hu
  simp [Span.cells] at hx
  rcases hx with rfl | rfl | rfl <;> rfl
theorem one_wires (l : List Wire) : ∀ u ∈ l.flatMap Wire.cells, u.oneCell' = true := by
  intro u hu
  obtain ⟨x, _, hx⟩ := List.mem_flatMap.1 hu
  simp [Wire.cells] at hx
  rcases hx with rfl | rfl | rfl | rfl <;> rfl
theorem one_ros (l : List Ro) : ∀ u ∈ l.flatMap Ro.cells, u.oneCell' = true := by
  intro u hu
  obtain ⟨x, _, hx⟩ := List.mem_flatMap.1 hu
  simp [Ro.cells] at hx
  rcases hx with rfl; rfl
theorem Sl.none {w : World} {A : Option Addr} {sz n : Nat} {xs : List Value} (h : Sl w A sz n xs) : A = none → n = 0 := by
  rintro rfl
  rcases Nat.eq_zero_or_pos n with h0 | h0
  · exact h0
  · obtain ⟨b, off, hA, _⟩ := h.2 h0; cases hA
/-- Sizes that a plan that is right has. -/
structure PMSmall (m : PM) : Prop where
  ros : m.ros.length ≤ 5
  ops : ∀ r ∈ m.ros, r.ops.length ≤ 20
  spans : m.spans.length ≤ 12
  wires : m.wires.length ≤ 12

/-- A copy of a plan, of new memory; its list of codes may be written. -/
def Owned (w : World) (m : PM) (e : Ending) (w' : World) : Prop :=
  ∃ m' : PM, e = .returned (.agg #[.slice m'.A m'.ros.length m'.c, .int .i64 m'.ticks, .slice m'.sA m'.spans.length m'.sc, .slice m'.wA m'.wires.length m'.wc]) ∧ PlanAt w' m' ∧ m'.pl = m.pl ∧
    Row w' 22 1 m'.A m'.ros.length m'.c (m'.ros.flatMap Ro.cells) ∧ (∀ j, planF m' j → w.heap.size ≤ j) ∧ Below w.heap.size w w'
/-- Midway: k codes are copied. -/
structure OwnMid (w wr : World) (m : PM) (A : Option Addr) (c : Nat) (rs : List Ro) (sA : Option Addr) (sc : Nat) (wA : Option Addr) (wc B k : Nat) : Prop where
  blk : wr.heap[w.heap.size]? = some (.cells #[.slice A m.ros.length c, .int .i64 m.ticks, .slice sA m.spans.length sc, .slice wA m.wires.length wc] 70 (0, 0))
  out : wr.heap[w.heap.size + 1]? = some (.cells #[.slice none 0 0, .int .i64 0, .slice none 0 0, .slice none 0 0] 70 (0, 0))
  row : Row wr 22 1 A m.ros.length c (rs.flatMap Ro.cells)
  same : rs.map Ro.ops = m.ros.map Ro.ops
  rows : ∀ r ∈ rs, r.At wr
  fresh : ∀ (i : Nat) (r : Ro), i < k → rs[i]? = some r → ∀ j, InA r.A j → B ≤ j
  old : ∀ (i : Nat) (r : Ro), k ≤ i → rs[i]? = some r → 0 < r.ops.length → ∀ j, InA r.A j → j < w.heap.size
  spans : Row wr 83 3 sA m.spans.length sc (m.spans.flatMap Span.cells)
  wires : Row wr 44 4 wA m.wires.length wc (m.wires.flatMap Wire.cells)
  nA : ∀ j, InA A j → w.heap.size + 2 ≤ j ∧ j < B
  nS : ∀ j, InA sA j → w.heap.size + 2 ≤ j
  nW : ∀ j, InA wA j → w.heap.size + 2 ≤ j
  size : w.heap.size + 2 ≤ B ∧ B ≤ wr.heap.size
  below : Below w.heap.size w wr

theorem Row.drew {w : World} {e sz n cap : Nat} {A : Option Addr} {xs : List Value} (h : Row w e sz A n cap xs) : Row w.drew e sz A n cap xs := h.keep fun _ _ _ => rfl
/-- What a store elsewhere leaves of a code. -/
theorem Ro.At.far {w w' : World} {r : Ro} (h : r.At w) (hs : w.heap.size ≤ w'.heap.size) (hk : ∀ b, 0 < r.ops.length → InA r.A b → b < w.heap.size → w'.heap[b]? = w.heap[b]?) : r.At w' := ⟨h.1.keep0 hs hk, h.2⟩
/-- One code more is copied. -/
theorem OwnMid.next {w wr w1 : World} {m : PM} {A : Option Addr} {c : Nat} {rs : List Ro} {sA : Option Addr} {sc : Nat} {wA : Option Addr} {wc B k : Nat} (h : OwnMid w wr m A c rs sA sc wA wc B k) {r : Ro} (hr : rs[k]? = some r)
    {A1 : Option Addr} {c1 : Nat} (h1 : Row w1 27 3 A1 r.ops.length c1 (r.ops.flatMap Op.cells)) (hn : ∀ j, InA A1 j → wr.heap.size ≤ j) (hb : Below wr.heap.size wr w1) {b off : Nat} (hA : A = some ⟨b, off, none⟩) :
    OwnMid w (w1.setCell ⟨b, off + k, none⟩ (.slice A1 r.ops.length c1)) m A c (rs.set k ⟨A1, c1, r.ops⟩) sA sc wA wc B (k + 1) := by
  have hlt := h.row.lt
  have h1r := h.row.below hb (fun j hj => hlt j hj)
  obtain ⟨b', off', hA', hc, hf, hbl, hkn, hnc, hcm, hrow⟩ := h1r.put1 Ro.cells Ro.len hr (⟨A1, c1, r.ops⟩ : Ro) (.slice A1 r.ops.length c1) rfl
  rw [hA] at hA'
  cases hA'
  have hb2 := h.nA b (by rw [hA]; rfl)
  have hbw : b < wr.heap.size := hlt b (by rw [hA]; rfl)
  have hsz := h.size
  have hkl : k < rs.length := (List.getElem?_eq_some_iff.1 hr).1
  have hfar : ∀ j, j ≠ b → (w1.setCell ⟨b, off + k, none⟩ (.slice A1 r.ops.length c1)).heap[j]? = w1.heap[j]? := fun j hj => blk_far (p := ⟨b, off + k, none⟩) hj _
  have hop : ∀ {r' : Ro}, r'.At w1 → (0 < r'.ops.length → ¬ InA r'.A b) → r'.At (w1.setCell ⟨b, off + k, none⟩ (.slice A1 r.ops.length c1)) := fun {r'} hr' hap =>
    hr'.far (by rw [sz_set]; exact Nat.le_refl _) fun j h0 hj _ => hfar j (fun e => hap h0 (by subst e; exact hj))
  have hrb : r.At wr := h.rows r (List.mem_of_getElem? hr)
  have hnew : (⟨A1, c1, r.ops⟩ : Ro).At w1 := ⟨h1.sl, h1.slW, hrb.2.2⟩
  refine { blk := ?_, out := ?_, row := hrow, same := ?_, rows := fun r' hr' => ?_, fresh := fun i r' hi hg j hj => ?_, old := fun i r' hi hg h0 j hj => ?_, spans := ?_, wires := ?_, nA := h.nA, nS := h.nS, nW := h.nW, size := ⟨hsz.1, ?_⟩, below := ?_ }
  · rw [hfar _ (by omega), hb.block _ (blk_lt h.blk)]; exact h.blk
  · rw [hfar _ (by omega), hb.block _ (blk_lt h.out)]; exact h.out
  · rw [← h.same]; exact set_map Ro.ops rs k r ⟨A1, c1, r.ops⟩ hr rfl
  · rcases List.mem_or_eq_of_mem_set hr' with hm | rfl
    · refine hop ((h.rows r' hm).new hb) fun h0 hj => ?_
      obtain ⟨i, hi⟩ := List.mem_iff_getElem?.1 hm
      by_cases hik : i < k
      · have := h.fresh i r' hik hi b hj; omega
      · have := h.old i r' (by omega) hi h0 b hj; omega
    · refine hop hnew fun _ hj => ?_
      have := hn b hj; omega
  · rw [List.getElem?_set] at hg
    by_cases e : k = i
    · subst e
      rw [if_pos rfl, if_pos hkl] at hg
      cases hg
      have := hn j hj; omega
    · rw [if_neg e] at hg
      exact h.fresh i r' (by omega) hg j hj
  · rw [List.getElem?_set, if_neg (by omega)] at hg
    exact h.old i r' (by omega) hg h0 j hj
  · exact (h.spans.below hb fun j hj => h.spans.lt j hj).keep fun j hj _ => hfar j (by rintro rfl; exact (h1r.apart2 (h.spans.below hb fun j hj => h.spans.lt j hj) (by decide)) j (by rw [hA]; rfl) hj)
  · exact (h.wires.below hb fun j hj => h.wires.lt j hj).keep fun j hj _ => hfar j (by rintro rfl; exact (h1r.apart2 (h.wires.below hb fun j hj => h.wires.lt j hj) (by decide)) j (by rw [hA]; rfl) hj)
  · rw [sz_set]; have := hb.size; omega
  · exact (h.below.trans (hb.mono h.below.size)).setCell (show w.heap.size ≤ b by omega) _
/-- The copy, when all codes are copied. -/
theorem OwnMid.done {w wr wz : World} {m : PM} {A : Option Addr} {c : Nat} {rs : List Ro} {sA : Option Addr} {sc : Nat} {wA : Option Addr} {wc B : Nat} (h : OwnMid w wr m A c rs sA sc wA wc B m.ros.length) (hm : PlanAt w m)
    (hb : Keep (fun j => j = w.heap.size + 1) wr wz) :
    Owned w m (.returned (.agg #[.slice A m.ros.length c, .int .i64 m.ticks, .slice sA m.spans.length sc, .slice wA m.wires.length wc])) wz := by
  have hn : rs.length = m.ros.length := by have := congrArg List.length h.same; simpa using this
  have hsz := h.size
  have hne : ∀ {A' : Option Addr}, (∀ j, InA A' j → w.heap.size + 2 ≤ j) → ∀ j, InA A' j → ¬ j = w.heap.size + 1 := fun ha j hj => by have := ha j hj; omega
  have hrow : Row wz 22 1 A m.ros.length c (rs.flatMap Ro.cells) := h.row.through hb (hne fun j hj => (h.nA j hj).1)
  have hsp := h.spans.through hb (hne h.nS)
  have hwi := h.wires.through hb (hne h.nW)
  refine ⟨⟨A, c, rs, m.ticks, sA, sc, m.spans, wA, wc, m.wires⟩, ?_, ⟨?_, ?_, fun r hr => ?_, hm.fits, hsp.sl, hsp.slW, hm.spansOk, hwi.sl, hwi.slW, hm.wiresOk⟩, ?_, ?_, ?_, ?_⟩
  · simp only [hn]
  · simp only [hn]; exact hrow.sl
  · simp only [hn]; exact hrow.slW
  · obtain ⟨i, hi⟩ := List.mem_iff_getElem?.1 hr
    have hil : i < rs.length := (List.getElem?_eq_some_iff.1 hi).1
    refine (h.rows r hr).far hb.size fun j h0 hj hl => hb.block j hl ?_
    have := h.fresh i r (by omega) hi j hj
    omega
  · show Pl.mk _ _ _ _ = Pl.mk _ _ _ _
    rw [h.same]
  · simp only [hn]; exact hrow
  · rintro j (⟨_, hj⟩ | ⟨r, hr, _, hj⟩ | ⟨_, hj⟩ | ⟨_, hj⟩)
    · have := h.nA j hj; omega
    · obtain ⟨i, hi⟩ := List.mem_iff_getElem?.1 hr
      have hil : i < rs.length := (List.getElem?_eq_some_iff.1 hi).1
      have := h.fresh i r (by omega) hi j hj
      omega
    · have := h.nS j hj; omega
    · have := h.nW j hj; omega
  · exact ⟨hb.os.trans h.below.os, hb.tape.trans h.below.tape, hb.output.trans h.below.output, Nat.le_trans h.below.size hb.size, fun j hj => (hb.block j (by have := h.below.size; omega) (by omega)).trans (h.below.block j hj)⟩
end Go.Proofs.YtnighanlonkjbaaDoor
