/- Several parts: each begins with what it says. -/
import Derived.Test.YtldllmhgofacbaaDoorLineU
import Derived.Test.YtldllmhgofacbaaDoorOpen2
import Derived.Test.YtldllmhgofacbaaDoorPlanU
import Derived.Test.YtldllmhgofacbaaDoorBaseU
import Derived.Test.YtldllmhgofacbaaDoorPlanMem
import Derived.Deep.DrawnRows
import Derived.Deep.DeepCutAuto
/- slices.Clone at the types of a plan. -/
namespace Go.Proofs.YtldllmhgofacbaaDoor
open Go.RowKit
set_option maxRecDepth 100000

theorem Tryd.infoClOp : (Tryd.prog.info? 47).map (fun i => (i.zero, i.size, i.bytes)) = some (some (.agg #[.int .i64 0, .int .i64 0, .int .i64 0]), 3, 24) := by kernel_rfl
theorem Tryd.infoClSpan : (Tryd.prog.info? 53).map (fun i => (i.zero, i.size, i.bytes)) = some (some (.agg #[.int .i64 0, .int .i64 0, .int .i64 0]), 3, 24) := by kernel_rfl
theorem Tryd.infoClWire : (Tryd.prog.info? 55).map (fun i => (i.zero, i.size, i.bytes)) = some (some (.agg #[.int .i64 0, .int .i64 0, .int .i64 0, .int .i64 0]), 4, 32) := by kernel_rfl
theorem Tryd.infoClOps : (Tryd.prog.info? 50).map (fun i => (i.zero, i.size, i.bytes)) = some (some (.slice none 0 0), 1, 24) := by kernel_rfl
end Go.Proofs.YtldllmhgofacbaaDoor

/- Package plan: the contract of Own. -/
namespace Go.Proofs.YtldllmhgofacbaaDoor
open Go.RowKit
set_option maxRecDepth 100000
attribute [local go_sem ↓] Go.wp_at_zero Go.wp_at_succ

theorem one_ops (l : List Op) : ∀ u ∈ l.flatMap Op.cells, u.oneCell' = true := by
  intro u hu
  obtain ⟨x, _, hx⟩ := List.mem_flatMap.1 hu
  simp [Op.cells] at hx
  rcases hx with rfl | rfl | rfl <;> rfl
theorem one_spans (l : List Span) : ∀ u ∈ l.flatMap Span.cells, u.oneCell' = true := by
  intro u hu
  obtain ⟨x, _, hx⟩ := List.mem_flatMap.1 hu
  simp [Span.cells] at hx
  rcases hx with rfl | rfl | rfl <;> rfl
theorem one_wires (l : List Wire) : ∀ u ∈ l.flatMap Wire.cells, u.oneCell' = true := by
  intro u hu
  obtain ⟨x, _, hx⟩ := List.mem_flatMap.1 hu
  simp [Wire.cells] at hx
  rcases hx with rfl | rfl | rfl | rfl <;> rfl
theorem one_ros (l : List Ro) : ∀ u ∈ l.flatMap Ro.cells, u.oneCell' = true := by
  intro u hu
  obtain ⟨x, _, hx⟩ := List.mem_flatMap.1 hu
  simp [Ro.cells] at hx
  rcases hx with rfl; rfl
theorem Sl.none {w : World} {A : Option Addr} {sz n : Nat} {xs : List Value} (h : Sl w A sz n xs) : A = none → n = 0 := by
  rintro rfl
  rcases Nat.eq_zero_or_pos n with h0 | h0
  · exact h0
  · obtain ⟨b, off, hA, _⟩ := h.2 h0; cases hA
/-- Sizes that a plan that is right has. -/
structure PMSmall (m : PM) : Prop where
  ros : m.ros.length ≤ 5
  ops : ∀ r ∈ m.ros, r.ops.length ≤ 20
  spans : m.spans.length ≤ 12
  wires : m.wires.length ≤ 12

/-- The rows of a copied plan: none shares memory with its list of codes. -/
structure OwnRows (w w' : World) (m' : PM) : Prop where
  row : Row w' 50 1 m'.A m'.ros.length m'.c (m'.ros.flatMap Ro.cells)
  spans : Row w' 53 3 m'.sA m'.spans.length m'.sc (m'.spans.flatMap Span.cells)
  wires : Row w' 55 4 m'.wA m'.wires.length m'.wc (m'.wires.flatMap Wire.cells)
  own : ∀ j, InA m'.A j → w.heap.size ≤ j
  apart : ∀ r ∈ m'.ros, ∀ j, InA r.A j → w.heap.size ≤ j ∧ ¬ InA m'.A j
/-- A copy of a plan, of new memory; its list of codes may be written. -/
def Owned (w : World) (m : PM) (e : Ending) (w' : World) : Prop :=
  ∃ m' : PM, e = .returned (.agg #[.slice m'.A m'.ros.length m'.c, .int .i64 m'.ticks, .slice m'.sA m'.spans.length m'.sc, .slice m'.wA m'.wires.length m'.wc]) ∧ PlanAt w' m' ∧ m'.pl = m.pl ∧
    OwnRows w w' m' ∧ (∀ j, planF m' j → w.heap.size ≤ j) ∧ Below w.heap.size w w'
/-- Midway: k codes are copied. -/
structure OwnMid (w wr : World) (m : PM) (A : Option Addr) (c : Nat) (rs : List Ro) (sA : Option Addr) (sc : Nat) (wA : Option Addr) (wc B k : Nat) : Prop where
  blk : wr.heap[w.heap.size]? = some (.cells #[.slice A m.ros.length c, .int .i64 m.ticks, .slice sA m.spans.length sc, .slice wA m.wires.length wc] 26 (0, 0))
  out : wr.heap[w.heap.size + 1]? = some (.cells #[.slice none 0 0, .int .i64 0, .slice none 0 0, .slice none 0 0] 26 (0, 0))
  row : Row wr 50 1 A m.ros.length c (rs.flatMap Ro.cells)
  same : rs.map Ro.ops = m.ros.map Ro.ops
  rows : ∀ r ∈ rs, r.At wr
  fresh : ∀ (i : Nat) (r : Ro), i < k → rs[i]? = some r → ∀ j, InA r.A j → B ≤ j
  old : ∀ (i : Nat) (r : Ro), k ≤ i → rs[i]? = some r → 0 < r.ops.length → ∀ j, InA r.A j → j < w.heap.size
  spans : Row wr 53 3 sA m.spans.length sc (m.spans.flatMap Span.cells)
  wires : Row wr 55 4 wA m.wires.length wc (m.wires.flatMap Wire.cells)
  nA : ∀ j, InA A j → w.heap.size + 2 ≤ j ∧ j < B
  nS : ∀ j, InA sA j → w.heap.size + 2 ≤ j
  nW : ∀ j, InA wA j → w.heap.size + 2 ≤ j
  size : w.heap.size + 2 ≤ B ∧ B ≤ wr.heap.size
  below : Below w.heap.size w wr

theorem Row.drew {w : World} {e sz n cap : Nat} {A : Option Addr} {xs : List Value} (h : Row w e sz A n cap xs) : Row w.drew e sz A n cap xs := h.keep fun _ _ _ => rfl
/-- What a store elsewhere leaves of a code. -/
theorem Ro.At.far {w w' : World} {r : Ro} (h : r.At w) (hs : w.heap.size ≤ w'.heap.size) (hk : ∀ b, 0 < r.ops.length → InA r.A b → b < w.heap.size → w'.heap[b]? = w.heap[b]?) : r.At w' := ⟨h.1.keep0 hs hk, h.2⟩
/-- One code more is copied. -/
theorem OwnMid.next {w wr w1 : World} {m : PM} {A : Option Addr} {c : Nat} {rs : List Ro} {sA : Option Addr} {sc : Nat} {wA : Option Addr} {wc B k : Nat} (h : OwnMid w wr m A c rs sA sc wA wc B k) {r : Ro} (hr : rs[k]? = some r)
    {A1 : Option Addr} {c1 : Nat} (h1 : Row w1 47 3 A1 r.ops.length c1 (r.ops.flatMap Op.cells)) (hn : ∀ j, InA A1 j → wr.heap.size ≤ j) (hb : Below wr.heap.size wr w1) {b off : Nat} (hA : A = some ⟨b, off, none⟩) :
    OwnMid w (w1.setCell ⟨b, off + k, none⟩ (.slice A1 r.ops.length c1)) m A c (rs.set k ⟨A1, c1, r.ops⟩) sA sc wA wc B (k + 1) := by
  have hlt := h.row.lt
  have h1r := h.row.below hb (fun j hj => hlt j hj)
  obtain ⟨b', off', hA', hc, hf, hbl, hkn, hnc, hcm, hrow⟩ := h1r.put1 Ro.cells Ro.len hr (⟨A1, c1, r.ops⟩ : Ro) (.slice A1 r.ops.length c1) rfl
  rw [hA] at hA'
  cases hA'
  have hb2 := h.nA b (by rw [hA]; rfl)
  have hbw : b < wr.heap.size := hlt b (by rw [hA]; rfl)
  have hsz := h.size
  have hkl : k < rs.length := (List.getElem?_eq_some_iff.1 hr).1
  have hfar : ∀ j, j ≠ b → (w1.setCell ⟨b, off + k, none⟩ (.slice A1 r.ops.length c1)).heap[j]? = w1.heap[j]? := fun j hj => blk_far (p := ⟨b, off + k, none⟩) hj _
  have hop : ∀ {r' : Ro}, r'.At w1 → (0 < r'.ops.length → ¬ InA r'.A b) → r'.At (w1.setCell ⟨b, off + k, none⟩ (.slice A1 r.ops.length c1)) := fun {r'} hr' hap =>
    hr'.far (by rw [sz_set]; exact Nat.le_refl _) fun j h0 hj _ => hfar j (fun e => hap h0 (by subst e; exact hj))
  have hrb : r.At wr := h.rows r (List.mem_of_getElem? hr)
  have hnew : (⟨A1, c1, r.ops⟩ : Ro).At w1 := ⟨h1.sl, h1.slW, hrb.2.2⟩
  refine { blk := ?_, out := ?_, row := hrow, same := ?_, rows := fun r' hr' => ?_, fresh := fun i r' hi hg j hj => ?_, old := fun i r' hi hg h0 j hj => ?_, spans := ?_, wires := ?_, nA := h.nA, nS := h.nS, nW := h.nW, size := ⟨hsz.1, ?_⟩, below := ?_ }
  · rw [hfar _ (by omega), hb.block _ (blk_lt h.blk)]; exact h.blk
  · rw [hfar _ (by omega), hb.block _ (blk_lt h.out)]; exact h.out
  · rw [← h.same]; exact set_map Ro.ops rs k r ⟨A1, c1, r.ops⟩ hr rfl
  · rcases List.mem_or_eq_of_mem_set hr' with hm | rfl
    · refine hop ((h.rows r' hm).new hb) fun h0 hj => ?_
      obtain ⟨i, hi⟩ := List.mem_iff_getElem?.1 hm
      by_cases hik : i < k
      · have := h.fresh i r' hik hi b hj; omega
      · have := h.old i r' (by omega) hi h0 b hj; omega
    · refine hop hnew fun _ hj => ?_
      have := hn b hj; omega
  · rw [List.getElem?_set] at hg
    by_cases e : k = i
    · subst e
      rw [if_pos rfl, if_pos hkl] at hg
      cases hg
      have := hn j hj; omega
    · rw [if_neg e] at hg
      exact h.fresh i r' (by omega) hg j hj
  · rw [List.getElem?_set, if_neg (by omega)] at hg
    exact h.old i r' (by omega) hg h0 j hj
  · exact (h.spans.below hb fun j hj => h.spans.lt j hj).keep fun j hj _ => hfar j (by rintro rfl; exact (h1r.apart2 (h.spans.below hb fun j hj => h.spans.lt j hj) (by decide)) j (by rw [hA]; rfl) hj)
  · exact (h.wires.below hb fun j hj => h.wires.lt j hj).keep fun j hj _ => hfar j (by rintro rfl; exact (h1r.apart2 (h.wires.below hb fun j hj => h.wires.lt j hj) (by decide)) j (by rw [hA]; rfl) hj)
  · rw [sz_set]; have := hb.size; omega
  · exact (h.below.trans (hb.mono h.below.size)).setCell (show w.heap.size ≤ b by omega) _
/-- The copy, when all codes are copied. -/
theorem OwnMid.done {w wr wz : World} {m : PM} {A : Option Addr} {c : Nat} {rs : List Ro} {sA : Option Addr} {sc : Nat} {wA : Option Addr} {wc B : Nat} (h : OwnMid w wr m A c rs sA sc wA wc B m.ros.length) (hm : PlanAt w m)
    (hb : Keep (fun j => j = w.heap.size + 1) wr wz) :
    Owned w m (.returned (.agg #[.slice A m.ros.length c, .int .i64 m.ticks, .slice sA m.spans.length sc, .slice wA m.wires.length wc])) wz := by
  have hn : rs.length = m.ros.length := by have := congrArg List.length h.same; simpa using this
  have hsz := h.size
  have hne : ∀ {A' : Option Addr}, (∀ j, InA A' j → w.heap.size + 2 ≤ j) → ∀ j, InA A' j → ¬ j = w.heap.size + 1 := fun ha j hj => by have := ha j hj; omega
  have hrow : Row wz 50 1 A m.ros.length c (rs.flatMap Ro.cells) := h.row.through hb (hne fun j hj => (h.nA j hj).1)
  have hsp := h.spans.through hb (hne h.nS)
  have hwi := h.wires.through hb (hne h.nW)
  refine ⟨⟨A, c, rs, m.ticks, sA, sc, m.spans, wA, wc, m.wires⟩, ?_, ⟨?_, ?_, fun r hr => ?_, hm.fits, hsp.sl, hsp.slW, hm.spansOk, hwi.sl, hwi.slW, hm.wiresOk⟩, ?_, ?_, ?_, ?_⟩
  · simp only [hn]
  · simp only [hn]; exact hrow.sl
  · simp only [hn]; exact hrow.slW
  · obtain ⟨i, hi⟩ := List.mem_iff_getElem?.1 hr
    have hil : i < rs.length := (List.getElem?_eq_some_iff.1 hi).1
    refine (h.rows r hr).far hb.size fun j h0 hj hl => hb.block j hl ?_
    have := h.fresh i r (by omega) hi j hj
    omega
  · show Pl.mk _ _ _ _ = Pl.mk _ _ _ _
    rw [h.same]
  · refine ⟨by simp only [hn]; exact hrow, hsp, hwi, fun j hj => by have := h.nA j hj; omega, fun r hr j hj => ?_⟩
    obtain ⟨i, hi⟩ := List.mem_iff_getElem?.1 hr
    have hil : i < rs.length := (List.getElem?_eq_some_iff.1 hi).1
    have := h.fresh i r (by omega) hi j hj
    exact ⟨by omega, fun hA => by have := h.nA j hA; omega⟩
  · rintro j (⟨_, hj⟩ | ⟨r, hr, _, hj⟩ | ⟨_, hj⟩ | ⟨_, hj⟩)
    · have := h.nA j hj; omega
    · obtain ⟨i, hi⟩ := List.mem_iff_getElem?.1 hr
      have hil : i < rs.length := (List.getElem?_eq_some_iff.1 hi).1
      have := h.fresh i r (by omega) hi j hj
      omega
    · have := h.nS j hj; omega
    · have := h.nW j hj; omega
  · exact ⟨hb.os.trans h.below.os, hb.tape.trans h.below.tape, hb.output.trans h.below.output, Nat.le_trans h.below.size hb.size, fun j hj => (hb.block j (by have := h.below.size; omega) (by omega)).trans (h.below.block j hj)⟩
end Go.Proofs.YtldllmhgofacbaaDoor

/- Package plan: the contract of Own, for every plan of right sizes. -/
namespace Go.Proofs.YtldllmhgofacbaaDoor
open Go.RowKit
set_option maxRecDepth 100000
attribute [local go_sem ↓] Go.wp_at_zero Go.wp_at_succ

/-- The world in which the three lists are copied. -/
def OwnStart (w : World) (m : PM) (wx : World) : Prop :=
  ∃ A c sA sc wA wc, OwnMid w wx m A c m.ros sA sc wA wc wx.heap.size 0
theorem ownStart {w wa w1 w2 w3 : World} {m : PM} (hm : PlanAt w m) (h0 : Below w.heap.size w wa)
    (hblk : wa.heap[w.heap.size]? = some (.cells #[.slice m.A m.ros.length m.c, .int .i64 m.ticks, .slice m.sA m.spans.length m.sc, .slice m.wA m.wires.length m.wc] 26 (0, 0)))
    (hout : wa.heap[w.heap.size + 1]? = some (.cells #[.slice none 0 0, .int .i64 0, .slice none 0 0, .slice none 0 0] 26 (0, 0)))
    (hsz : wa.heap.size = w.heap.size + 2)
    {A : Option Addr} {c : Nat} (r1 : Row w1 50 1 A m.ros.length c (m.ros.flatMap Ro.cells)) (n1 : ∀ j, InA A j → wa.heap.size ≤ j) (b1 : Below wa.heap.size wa w1)
    {sA : Option Addr} {sc : Nat} (r2 : Row w2 53 3 sA m.spans.length sc (m.spans.flatMap Span.cells)) (n2 : ∀ j, InA sA j → w1.heap.size ≤ j) (b2 : Below w1.heap.size w1 w2)
    {wA : Option Addr} {wc : Nat} (r3 : Row w3 55 4 wA m.wires.length wc (m.wires.flatMap Wire.cells)) (n3 : ∀ j, InA wA j → w2.heap.size ≤ j) (b3 : Below w2.heap.size w2 w3) :
    OwnStart w m (((w3.setCell ⟨w.heap.size, 0, none⟩ (.slice A m.ros.length c)).setCell ⟨w.heap.size, 2, none⟩ (.slice sA m.spans.length sc)).setCell ⟨w.heap.size, 3, none⟩ (.slice wA m.wires.length wc)) := by
  have s1 := b1.size
  have s2 := b2.size
  have s3 := b3.size
  have ball : Below wa.heap.size wa w3 := (b1.trans (b2.mono s1)).trans (b3.mono (by omega))
  have q2 : Below w1.heap.size w1 w3 := b2.trans (b3.mono s2)
  have hall : Below w.heap.size w w3 := h0.trans (ball.mono h0.size)
  have far : ∀ j, j ≠ w.heap.size → (((w3.setCell ⟨w.heap.size, 0, none⟩ (.slice A m.ros.length c)).setCell ⟨w.heap.size, 2, none⟩ (.slice sA m.spans.length sc)).setCell ⟨w.heap.size, 3, none⟩ (.slice wA m.wires.length wc)).heap[j]? = w3.heap[j]? := fun j hj => by
    rw [hp_set, if_neg hj, hp_set, if_neg hj, hp_set, if_neg hj]
  have hz : ∀ (v : World), (((v.setCell ⟨w.heap.size, 0, none⟩ (.slice A m.ros.length c)).setCell ⟨w.heap.size, 2, none⟩ (.slice sA m.spans.length sc)).setCell ⟨w.heap.size, 3, none⟩ (.slice wA m.wires.length wc)).heap.size = v.heap.size := fun v => by
    rw [sz_set, sz_set, sz_set]
  have r1' := r1.below q2 (fun j hj => r1.lt j hj)
  have r2' := r2.below b3 (fun j hj => r2.lt j hj)
  refine ⟨A, c, sA, sc, wA, wc, { blk := ?_, out := ?_, row := ?_, same := rfl, rows := fun r hr => ?_, fresh := fun i r hi => absurd hi (by omega), old := fun i r _ hg h0 j hj => ?_, spans := ?_, wires := ?_, nA := fun j hj => ?_, nS := fun j hj => ?_, nW := fun j hj => ?_, size := ?_, below := ?_ }⟩
  · have : w3.heap[w.heap.size]? = _ := (ball.block _ (by omega)).trans hblk
    rw [hp_set, if_pos rfl, hp_set, if_pos rfl, hp_set, if_pos rfl, this]
    rfl
  · rw [far _ (by omega), ball.block _ (by omega)]; exact hout
  · exact r1'.keep fun j hj _ => far j (by have := n1 j hj; omega)
  · refine ((hm.codes r hr).new hall).far (by rw [hz]; exact Nat.le_refl _) fun j h0 hj hl => far j ?_
    have := (hm.codes r hr).1.lt h0 j hj
    omega
  · exact (hm.codes r (List.mem_of_getElem? hg)).1.lt h0 j hj
  · exact r2'.keep fun j hj _ => far j (by have := n2 j hj; omega)
  · exact r3.keep fun j hj _ => far j (by have := n3 j hj; omega)
  · have h1 := n1 j hj
    have h2 := r1.lt j hj
    rw [hz]; omega
  · have := n2 j hj; omega
  · have := n3 j hj; omega
  · rw [hz]; omega
  · exact ((hall.setCell (Nat.le_refl _) _).setCell (Nat.le_refl _) _).setCell (Nat.le_refl _) _

def put4 (w : World) (b : Nat) (v0 v1 v2 v3 : Value) : World := (((w.setCell ⟨b, 0, none⟩ v0).setCell ⟨b, 1, none⟩ v1).setCell ⟨b, 2, none⟩ v2).setCell ⟨b, 3, none⟩ v3
theorem put4_keep (w : World) (b : Nat) (v0 v1 v2 v3 : Value) : Keep (fun j => j = b) w (put4 w b v0 v1 v2 v3) := by
  unfold put4
  exact ((((Keep.refl (fun j => j = b) w).setCell (.inl rfl) _).setCell (.inl rfl) _).setCell (.inl rfl) _).setCell (.inl rfl) _

end Go.Proofs.YtldllmhgofacbaaDoor
