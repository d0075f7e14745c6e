/- Several parts: each begins with what it says. -/
import Derived.Test.YthdmgighblhmhaaGreatDoorLineU
import Derived.Test.YthdmgighblhmhaaGreatDoorOpen2
import Derived.Test.YthdmgighblhmhaaGreatDoorPlanU
import Derived.Test.YthdmgighblhmhaaGreatDoorBaseU
import Derived.Test.YthdmgighblhmhaaGreatDoorKernU
import Derived.Deep.DrawnRows
import Derived.Deep.DeepCutAuto
/- slices.Clone at the types of a plan. -/
namespace Go.Proofs.YthdmgighblhmhaaGreatDoor
open Go.RowKit
set_option maxRecDepth 100000

theorem Tryz.infoClOp : (Tryz.prog.info? 72).map (fun i => (i.zero, i.size, i.bytes)) = some (some (.agg #[.int .i64 0, .int .i64 0, .int .i64 0]), 3, 24) := by kernel_rfl
theorem clone_Op (w : World) (A : Option Addr) (n c : Nat) (xs : List Value) (hone : ∀ u ∈ xs, u.oneCell' = true) (hn : n < 1000000) (hA : A = none → n = 0) (hs : Sl w A 3 n xs) :
    Calls Tryz.prog 49 #[.slice A n c] w (Cloned w 72 3 n xs) := by
  have hnil := fun (w : World) a n c => Lib.run_eql_slice_nil (P := Tryz.prog) w 70 72 a n c 0 0 Tryz.underlying70
  cases A with
  | none =>
    obtain rfl := hA rfl
    have hl : xs = [] := List.eq_nil_of_length_eq_zero (by simpa using hs.1)
    rw [hl]
    clear hl hs hA
    go_enter Tryz.func49, Tryz.ntmps49
    go_wp2
    go_ret
    exact ⟨none, 0, rfl, Row.nil _ _ _, fun k hk => by simp [InA] at hk, Below.refl _ _⟩
  | some a =>
    clear hA
    have HS := hid hs
    clear hs
    obtain ⟨i0, hi, hz0, hz1, hz2⟩ := info_parts Tryz.infoClOp
    go_enter Tryz.func49, Tryz.ntmps49
    go_wp2_with (at_builtin; refine wpList_append_row _ rfl _ _ 70 rfl 72 i0 (.agg #[.int .i64 0, .int .i64 0, .int .i64 0]) 3 24 Tryz.underlying70 hi hz0 hz1 hz2 rfl (by decide) (some ⟨w.heap.size, 0, none⟩) 0 0 [] rfl ?c0 (some a) n c xs rfl ?c1 ?c2 ?c3 ?c4 ?_)
    case c0 => exact ⟨rfl, .inr ⟨_, 0, _, rfl, heap_alloc_new w _, Nat.le_refl _, by simp, by simp, fun j u hu => by simp at hu⟩⟩
    case c1 => exact HS.out.new ((Below.refl _ _).alloc (Nat.le_refl _) _)
    case c2 => exact hone
    case c3 => unfold maxLen; omega
    case c4 => omega
    intro A' cap' w' hrow' hkeep' hin'
    have HR' := hid hrow'
    have HK' := hid hkeep'
    have HI' := hid hin'
    clear hrow' hkeep' hin'
    go_wp2
    go_ret
    have hrow' := HR'.out
    have hrow' : Row w' 72 3 A' n cap' xs := by simpa using hrow'
    refine ⟨A', cap', rfl, hrow', fun k hk => ?_, ?_⟩
    · rcases HI'.out k hk with h | h
      · simp [InA] at h; omega
      · omega
    · have hk := (((Keep.refl NoF w).alloc _).trans HK'.out)
      exact ⟨hk.os, hk.tape, hk.output, hk.size, fun k hk' => hk.block k hk' (by
        rintro (h | h)
        · exact h
        · simp [InA] at h; omega)⟩

theorem Tryz.infoClSpan : (Tryz.prog.info? 69).map (fun i => (i.zero, i.size, i.bytes)) = some (some (.agg #[.int .i64 0, .int .i64 0, .int .i64 0]), 3, 24) := by kernel_rfl
theorem clone_Span (w : World) (A : Option Addr) (n c : Nat) (xs : List Value) (hone : ∀ u ∈ xs, u.oneCell' = true) (hn : n < 1000000) (hA : A = none → n = 0) (hs : Sl w A 3 n xs) :
    Calls Tryz.prog 47 #[.slice A n c] w (Cloned w 69 3 n xs) := by
  have hnil := fun (w : World) a n c => Lib.run_eql_slice_nil (P := Tryz.prog) w 28 69 a n c 0 0 Tryz.underlying28
  cases A with
  | none =>
    obtain rfl := hA rfl
    have hl : xs = [] := List.eq_nil_of_length_eq_zero (by simpa using hs.1)
    rw [hl]
    clear hl hs hA
    go_enter Tryz.func47, Tryz.ntmps47
    go_wp2
    go_ret
    exact ⟨none, 0, rfl, Row.nil _ _ _, fun k hk => by simp [InA] at hk, Below.refl _ _⟩
  | some a =>
    clear hA
    have HS := hid hs
    clear hs
    obtain ⟨i0, hi, hz0, hz1, hz2⟩ := info_parts Tryz.infoClSpan
    go_enter Tryz.func47, Tryz.ntmps47
    go_wp2_with (at_builtin; refine wpList_append_row _ rfl _ _ 28 rfl 69 i0 (.agg #[.int .i64 0, .int .i64 0, .int .i64 0]) 3 24 Tryz.underlying28 hi hz0 hz1 hz2 rfl (by decide) (some ⟨w.heap.size, 0, none⟩) 0 0 [] rfl ?c0 (some a) n c xs rfl ?c1 ?c2 ?c3 ?c4 ?_)
    case c0 => exact ⟨rfl, .inr ⟨_, 0, _, rfl, heap_alloc_new w _, Nat.le_refl _, by simp, by simp, fun j u hu => by simp at hu⟩⟩
    case c1 => exact HS.out.new ((Below.refl _ _).alloc (Nat.le_refl _) _)
    case c2 => exact hone
    case c3 => unfold maxLen; omega
    case c4 => omega
    intro A' cap' w' hrow' hkeep' hin'
    have HR' := hid hrow'
    have HK' := hid hkeep'
    have HI' := hid hin'
    clear hrow' hkeep' hin'
    go_wp2
    go_ret
    have hrow' := HR'.out
    have hrow' : Row w' 69 3 A' n cap' xs := by simpa using hrow'
    refine ⟨A', cap', rfl, hrow', fun k hk => ?_, ?_⟩
    · rcases HI'.out k hk with h | h
      · simp [InA] at h; omega
      · omega
    · have hk := (((Keep.refl NoF w).alloc _).trans HK'.out)
      exact ⟨hk.os, hk.tape, hk.output, hk.size, fun k hk' => hk.block k hk' (by
        rintro (h | h)
        · exact h
        · simp [InA] at h; omega)⟩

theorem Tryz.infoClWire : (Tryz.prog.info? 62).map (fun i => (i.zero, i.size, i.bytes)) = some (some (.agg #[.int .i64 0, .int .i64 0, .int .i64 0, .int .i64 0]), 4, 32) := by kernel_rfl
theorem clone_Wire (w : World) (A : Option Addr) (n c : Nat) (xs : List Value) (hone : ∀ u ∈ xs, u.oneCell' = true) (hn : n < 1000000) (hA : A = none → n = 0) (hs : Sl w A 4 n xs) :
    Calls Tryz.prog 48 #[.slice A n c] w (Cloned w 62 4 n xs) := by
  have hnil := fun (w : World) a n c => Lib.run_eql_slice_nil (P := Tryz.prog) w 29 62 a n c 0 0 Tryz.underlying29
  cases A with
  | none =>
    obtain rfl := hA rfl
    have hl : xs = [] := List.eq_nil_of_length_eq_zero (by simpa using hs.1)
    rw [hl]
    clear hl hs hA
    go_enter Tryz.func48, Tryz.ntmps48
    go_wp2
    go_ret
    exact ⟨none, 0, rfl, Row.nil _ _ _, fun k hk => by simp [InA] at hk, Below.refl _ _⟩
  | some a =>
    clear hA
    have HS := hid hs
    clear hs
    obtain ⟨i0, hi, hz0, hz1, hz2⟩ := info_parts Tryz.infoClWire
    go_enter Tryz.func48, Tryz.ntmps48
    go_wp2_with (at_builtin; refine wpList_append_row _ rfl _ _ 29 rfl 62 i0 (.agg #[.int .i64 0, .int .i64 0, .int .i64 0, .int .i64 0]) 4 32 Tryz.underlying29 hi hz0 hz1 hz2 rfl (by decide) (some ⟨w.heap.size, 0, none⟩) 0 0 [] rfl ?c0 (some a) n c xs rfl ?c1 ?c2 ?c3 ?c4 ?_)
    case c0 => exact ⟨rfl, .inr ⟨_, 0, _, rfl, heap_alloc_new w _, Nat.le_refl _, by simp, by simp, fun j u hu => by simp at hu⟩⟩
    case c1 => exact HS.out.new ((Below.refl _ _).alloc (Nat.le_refl _) _)
    case c2 => exact hone
    case c3 => unfold maxLen; omega
    case c4 => omega
    intro A' cap' w' hrow' hkeep' hin'
    have HR' := hid hrow'
    have HK' := hid hkeep'
    have HI' := hid hin'
    clear hrow' hkeep' hin'
    go_wp2
    go_ret
    have hrow' := HR'.out
    have hrow' : Row w' 62 4 A' n cap' xs := by simpa using hrow'
    refine ⟨A', cap', rfl, hrow', fun k hk => ?_, ?_⟩
    · rcases HI'.out k hk with h | h
      · simp [InA] at h; omega
      · omega
    · have hk := (((Keep.refl NoF w).alloc _).trans HK'.out)
      exact ⟨hk.os, hk.tape, hk.output, hk.size, fun k hk' => hk.block k hk' (by
        rintro (h | h)
        · exact h
        · simp [InA] at h; omega)⟩

theorem Tryz.infoClOps : (Tryz.prog.info? 70).map (fun i => (i.zero, i.size, i.bytes)) = some (some (.slice none 0 0), 1, 24) := by kernel_rfl
theorem clone_Ops (w : World) (A : Option Addr) (n c : Nat) (xs : List Value) (hone : ∀ u ∈ xs, u.oneCell' = true) (hn : n < 1000000) (hA : A = none → n = 0) (hs : Sl w A 1 n xs) :
    Calls Tryz.prog 46 #[.slice A n c] w (Cloned w 70 1 n xs) := by
  have hnil := fun (w : World) a n c => Lib.run_eql_slice_nil (P := Tryz.prog) w 27 70 a n c 0 0 Tryz.underlying27
  cases A with
  | none =>
    obtain rfl := hA rfl
    have hl : xs = [] := List.eq_nil_of_length_eq_zero (by simpa using hs.1)
    rw [hl]
    clear hl hs hA
    go_enter Tryz.func46, Tryz.ntmps46
    go_wp2
    go_ret
    exact ⟨none, 0, rfl, Row.nil _ _ _, fun k hk => by simp [InA] at hk, Below.refl _ _⟩
  | some a =>
    clear hA
    have HS := hid hs
    clear hs
    obtain ⟨i0, hi, hz0, hz1, hz2⟩ := info_parts Tryz.infoClOps
    go_enter Tryz.func46, Tryz.ntmps46
    go_wp2_with (at_builtin; refine wpList_append_row _ rfl _ _ 27 rfl 70 i0 (.slice none 0 0) 1 24 Tryz.underlying27 hi hz0 hz1 hz2 rfl (by decide) (some ⟨w.heap.size, 0, none⟩) 0 0 [] rfl ?c0 (some a) n c xs rfl ?c1 ?c2 ?c3 ?c4 ?_)
    case c0 => exact ⟨rfl, .inr ⟨_, 0, _, rfl, heap_alloc_new w _, Nat.le_refl _, by simp, by simp, fun j u hu => by simp at hu⟩⟩
    case c1 => exact HS.out.new ((Below.refl _ _).alloc (Nat.le_refl _) _)
    case c2 => exact hone
    case c3 => unfold maxLen; omega
    case c4 => omega
    intro A' cap' w' hrow' hkeep' hin'
    have HR' := hid hrow'
    have HK' := hid hkeep'
    have HI' := hid hin'
    clear hrow' hkeep' hin'
    go_wp2
    go_ret
    have hrow' := HR'.out
    have hrow' : Row w' 70 1 A' n cap' xs := by simpa using hrow'
    refine ⟨A', cap', rfl, hrow', fun k hk => ?_, ?_⟩
    · rcases HI'.out k hk with h | h
      · simp [InA] at h; omega
      · omega
    · have hk := (((Keep.refl NoF w).alloc _).trans HK'.out)
      exact ⟨hk.os, hk.tape, hk.output, hk.size, fun k hk' => hk.block k hk' (by
        rintro (h | h)
        · exact h
        · simp [InA] at h; omega)⟩

end Go.Proofs.YthdmgighblhmhaaGreatDoor

/- Package plan: the contract of Own. -/
namespace Go.Proofs.YthdmgighblhmhaaGreatDoor
open Go.RowKit
set_option maxRecDepth 100000
attribute [local go_sem ↓] Go.wp_at_zero Go.wp_at_succ

theorem one_ops (l : List Op) : ∀ u ∈ l.flatMap Op.cells, u.oneCell' = true := by
  intro u hu
  obtain ⟨x, _, hx⟩ := List.mem_flatMap.1 hu
  simp [Op.cells] at hx
  rcases hx with rfl | rfl | rfl <;> rfl
theorem one_spans (l : List Span) : ∀ u ∈ l.flatMap Span.cells, u.oneCell' = true := by
  intro u hu
  obtain ⟨x, _, hx⟩ := List.mem_flatMap.1 hu
  simp [Span.cells] at hx
  rcases hx with rfl | rfl | rfl <;> rfl
theorem one_wires (l : List Wire) : ∀ u ∈ l.flatMap Wire.cells, u.oneCell' = true := by
  intro u hu
  obtain ⟨x, _, hx⟩ := List.mem_flatMap.1 hu
  simp [Wire.cells] at hx
  rcases hx with rfl | rfl | rfl | rfl <;> rfl
theorem one_ros (l : List Ro) : ∀ u ∈ l.flatMap Ro.cells, u.oneCell' = true := by
  intro u hu
  obtain ⟨x, _, hx⟩ := List.mem_flatMap.1 hu
  simp [Ro.cells] at hx
  rcases hx with rfl; rfl
theorem Sl.none {w : World} {A : Option Addr} {sz n : Nat} {xs : List Value} (h : Sl w A sz n xs) : A = none → n = 0 := by
  rintro rfl
  rcases Nat.eq_zero_or_pos n with h0 | h0
  · exact h0
  · obtain ⟨b, off, hA, _⟩ := h.2 h0; cases hA
/-- Sizes that a plan that is right has. -/
structure PMSmall (m : PM) : Prop where
  ros : m.ros.length ≤ 5
  ops : ∀ r ∈ m.ros, r.ops.length ≤ 20
  spans : m.spans.length ≤ 12
  wires : m.wires.length ≤ 12

/-- The rows of a copied plan: none shares memory with its list of codes. -/
structure OwnRows (w w' : World) (m' : PM) : Prop where
  row : Row w' 70 1 m'.A m'.ros.length m'.c (m'.ros.flatMap Ro.cells)
  spans : Row w' 69 3 m'.sA m'.spans.length m'.sc (m'.spans.flatMap Span.cells)
  wires : Row w' 62 4 m'.wA m'.wires.length m'.wc (m'.wires.flatMap Wire.cells)
  own : ∀ j, InA m'.A j → w.heap.size ≤ j
  apart : ∀ r ∈ m'.ros, ∀ j, InA r.A j → w.heap.size ≤ j ∧ ¬ InA m'.A j
/-- A copy of a plan, of new memory; its list of codes may be written. -/
def Owned (w : World) (m : PM) (e : Ending) (w' : World) : Prop :=
  ∃ m' : PM, e = .returned (.agg #[.slice m'.A m'.ros.length m'.c, .int .i64 m'.ticks, .slice m'.sA m'.spans.length m'.sc, .slice m'.wA m'.wires.length m'.wc]) ∧ PlanAt w' m' ∧ m'.pl = m.pl ∧
    OwnRows w w' m' ∧ (∀ j, planF m' j → w.heap.size ≤ j) ∧ Below w.heap.size w w'
/-- Midway: k codes are copied. -/
structure OwnMid (w wr : World) (m : PM) (A : Option Addr) (c : Nat) (rs : List Ro) (sA : Option Addr) (sc : Nat) (wA : Option Addr) (wc B k : Nat) : Prop where
  blk : wr.heap[w.heap.size]? = some (.cells #[.slice A m.ros.length c, .int .i64 m.ticks, .slice sA m.spans.length sc, .slice wA m.wires.length wc] 31 (0, 0))
  out : wr.heap[w.heap.size + 1]? = some (.cells #[.slice none 0 0, .int .i64 0, .slice none 0 0, .slice none 0 0] 31 (0, 0))
  row : Row wr 70 1 A m.ros.length c (rs.flatMap Ro.cells)
  same : rs.map Ro.ops = m.ros.map Ro.ops
  rows : ∀ r ∈ rs, r.At wr
  fresh : ∀ (i : Nat) (r : Ro), i < k → rs[i]? = some r → ∀ j, InA r.A j → B ≤ j
  old : ∀ (i : Nat) (r : Ro), k ≤ i → rs[i]? = some r → 0 < r.ops.length → ∀ j, InA r.A j → j < w.heap.size
  spans : Row wr 69 3 sA m.spans.length sc (m.spans.flatMap Span.cells)
  wires : Row wr 62 4 wA m.wires.length wc (m.wires.flatMap Wire.cells)
  nA : ∀ j, InA A j → w.heap.size + 2 ≤ j ∧ j < B
  nS : ∀ j, InA sA j → w.heap.size + 2 ≤ j
  nW : ∀ j, InA wA j → w.heap.size + 2 ≤ j
  size : w.heap.size + 2 ≤ B ∧ B ≤ wr.heap.size
  below : Below w.heap.size w wr

theorem Row.drew {w : World} {e sz n cap : Nat} {A : Option Addr} {xs : List Value} (h : Row w e sz A n cap xs) : Row w.drew e sz A n cap xs := h.keep fun _ _ _ => rfl
/-- What a store elsewhere leaves of a code. -/
theorem Ro.At.far {w w' : World} {r : Ro} (h : r.At w) (hs : w.heap.size ≤ w'.heap.size) (hk : ∀ b, 0 < r.ops.length → InA r.A b → b < w.heap.size → w'.heap[b]? = w.heap[b]?) : r.At w' := ⟨h.1.keep0 hs hk, h.2⟩
/-- One code more is copied. -/
theorem OwnMid.next {w wr w1 : World} {m : PM} {A : Option Addr} {c : Nat} {rs : List Ro} {sA : Option Addr} {sc : Nat} {wA : Option Addr} {wc B k : Nat} (h : OwnMid w wr m A c rs sA sc wA wc B k) {r : Ro} (hr : rs[k]? = some r)
    {A1 : Option Addr} {c1 : Nat} (h1 : Row w1 72 3 A1 r.ops.length c1 (r.ops.flatMap Op.cells)) (hn : ∀ j, InA A1 j → wr.heap.size ≤ j) (hb : Below wr.heap.size wr w1) {b off : Nat} (hA : A = some ⟨b, off, none⟩) :
    OwnMid w (w1.setCell ⟨b, off + k, none⟩ (.slice A1 r.ops.length c1)) m A c (rs.set k ⟨A1, c1, r.ops⟩) sA sc wA wc B (k + 1) := by
  have hlt := h.row.lt
  have h1r := h.row.below hb (fun j hj => hlt j hj)
  obtain ⟨b', off', hA', hc, hf, hbl, hkn, hnc, hcm, hrow⟩ := h1r.put1 Ro.cells Ro.len hr (⟨A1, c1, r.ops⟩ : Ro) (.slice A1 r.ops.length c1) rfl
  rw [hA] at hA'
  cases hA'
  have hb2 := h.nA b (by rw [hA]; rfl)
  have hbw : b < wr.heap.size := hlt b (by rw [hA]; rfl)
  have hsz := h.size
  have hkl : k < rs.length := (List.getElem?_eq_some_iff.1 hr).1
  have hfar : ∀ j, j ≠ b → (w1.setCell ⟨b, off + k, none⟩ (.slice A1 r.ops.length c1)).heap[j]? = w1.heap[j]? := fun j hj => blk_far (p := ⟨b, off + k, none⟩) hj _
  have hop : ∀ {r' : Ro}, r'.At w1 → (0 < r'.ops.length → ¬ InA r'.A b) → r'.At (w1.setCell ⟨b, off + k, none⟩ (.slice A1 r.ops.length c1)) := fun {r'} hr' hap =>
    hr'.far (by rw [sz_set]; exact Nat.le_refl _) fun j h0 hj _ => hfar j (fun e => hap h0 (by subst e; exact hj))
  have hrb : r.At wr := h.rows r (List.mem_of_getElem? hr)
  have hnew : (⟨A1, c1, r.ops⟩ : Ro).At w1 := ⟨h1.sl, h1.slW, hrb.2.2⟩
  refine { blk := ?_, out := ?_, row := hrow, same := ?_, rows := fun r' hr' => ?_, fresh := fun i r' hi hg j hj => ?_, old := fun i r' hi hg h0 j hj => ?_, spans := ?_, wires := ?_, nA := h.nA, nS := h.nS, nW := h.nW, size := ⟨hsz.1, ?_⟩, below := ?_ }
  · rw [hfar _ (by omega), hb.block _ (blk_lt h.blk)]; exact h.blk
  · rw [hfar _ (by omega), hb.block _ (blk_lt h.out)]; exact h.out
  · rw [← h.same]; exact set_map Ro.ops rs k r ⟨A1, c1, r.ops⟩ hr rfl
  · rcases List.mem_or_eq_of_mem_set hr' with hm | rfl
    · refine hop ((h.rows r' hm).new hb) fun h0 hj => ?_
      obtain ⟨i, hi⟩ := List.mem_iff_getElem?.1 hm
      by_cases hik : i < k
      · have := h.fresh i r' hik hi b hj; omega
      · have := h.old i r' (by omega) hi h0 b hj; omega
    · refine hop hnew fun _ hj => ?_
      have := hn b hj; omega
  · rw [List.getElem?_set] at hg
    by_cases e : k = i
    · subst e
      rw [if_pos rfl, if_pos hkl] at hg
      cases hg
      have := hn j hj; omega
    · rw [if_neg e] at hg
      exact h.fresh i r' (by omega) hg j hj
  · rw [List.getElem?_set, if_neg (by omega)] at hg
    exact h.old i r' (by omega) hg h0 j hj
  · exact (h.spans.below hb fun j hj => h.spans.lt j hj).keep fun j hj _ => hfar j (by rintro rfl; exact (h1r.apart2 (h.spans.below hb fun j hj => h.spans.lt j hj) (by decide)) j (by rw [hA]; rfl) hj)
  · exact (h.wires.below hb fun j hj => h.wires.lt j hj).keep fun j hj _ => hfar j (by rintro rfl; exact (h1r.apart2 (h.wires.below hb fun j hj => h.wires.lt j hj) (by decide)) j (by rw [hA]; rfl) hj)
  · rw [sz_set]; have := hb.size; omega
  · exact (h.below.trans (hb.mono h.below.size)).setCell (show w.heap.size ≤ b by omega) _
/-- The copy, when all codes are copied. -/
theorem OwnMid.done {w wr wz : World} {m : PM} {A : Option Addr} {c : Nat} {rs : List Ro} {sA : Option Addr} {sc : Nat} {wA : Option Addr} {wc B : Nat} (h : OwnMid w wr m A c rs sA sc wA wc B m.ros.length) (hm : PlanAt w m)
    (hb : Keep (fun j => j = w.heap.size + 1) wr wz) :
    Owned w m (.returned (.agg #[.slice A m.ros.length c, .int .i64 m.ticks, .slice sA m.spans.length sc, .slice wA m.wires.length wc])) wz := by
  have hn : rs.length = m.ros.length := by have := congrArg List.length h.same; simpa using this
  have hsz := h.size
  have hne : ∀ {A' : Option Addr}, (∀ j, InA A' j → w.heap.size + 2 ≤ j) → ∀ j, InA A' j → ¬ j = w.heap.size + 1 := fun ha j hj => by have := ha j hj; omega
  have hrow : Row wz 70 1 A m.ros.length c (rs.flatMap Ro.cells) := h.row.through hb (hne fun j hj => (h.nA j hj).1)
  have hsp := h.spans.through hb (hne h.nS)
  have hwi := h.wires.through hb (hne h.nW)
  refine ⟨⟨A, c, rs, m.ticks, sA, sc, m.spans, wA, wc, m.wires⟩, ?_, ⟨?_, ?_, fun r hr => ?_, hm.fits, hsp.sl, hsp.slW, hm.spansOk, hwi.sl, hwi.slW, hm.wiresOk⟩, ?_, ?_, ?_, ?_⟩
  · simp only [hn]
  · simp only [hn]; exact hrow.sl
  · simp only [hn]; exact hrow.slW
  · obtain ⟨i, hi⟩ := List.mem_iff_getElem?.1 hr
    have hil : i < rs.length := (List.getElem?_eq_some_iff.1 hi).1
    refine (h.rows r hr).far hb.size fun j h0 hj hl => hb.block j hl ?_
    have := h.fresh i r (by omega) hi j hj
    omega
  · show Pl.mk _ _ _ _ = Pl.mk _ _ _ _
    rw [h.same]
  · refine ⟨by simp only [hn]; exact hrow, hsp, hwi, fun j hj => by have := h.nA j hj; omega, fun r hr j hj => ?_⟩
    obtain ⟨i, hi⟩ := List.mem_iff_getElem?.1 hr
    have hil : i < rs.length := (List.getElem?_eq_some_iff.1 hi).1
    have := h.fresh i r (by omega) hi j hj
    exact ⟨by omega, fun hA => by have := h.nA j hA; omega⟩
  · rintro j (⟨_, hj⟩ | ⟨r, hr, _, hj⟩ | ⟨_, hj⟩ | ⟨_, hj⟩)
    · have := h.nA j hj; omega
    · obtain ⟨i, hi⟩ := List.mem_iff_getElem?.1 hr
      have hil : i < rs.length := (List.getElem?_eq_some_iff.1 hi).1
      have := h.fresh i r (by omega) hi j hj
      omega
    · have := h.nS j hj; omega
    · have := h.nW j hj; omega
  · exact ⟨hb.os.trans h.below.os, hb.tape.trans h.below.tape, hb.output.trans h.below.output, Nat.le_trans h.below.size hb.size, fun j hj => (hb.block j (by have := h.below.size; omega) (by omega)).trans (h.below.block j hj)⟩
end Go.Proofs.YthdmgighblhmhaaGreatDoor

/- Package plan: the contract of Own, for every plan of right sizes. -/
namespace Go.Proofs.YthdmgighblhmhaaGreatDoor
open Go.RowKit
set_option maxRecDepth 100000
attribute [local go_sem ↓] Go.wp_at_zero Go.wp_at_succ

/-- The world in which the three lists are copied. -/
def OwnStart (w : World) (m : PM) (wx : World) : Prop :=
  ∃ A c sA sc wA wc, OwnMid w wx m A c m.ros sA sc wA wc wx.heap.size 0
theorem ownStart {w wa w1 w2 w3 : World} {m : PM} (hm : PlanAt w m) (h0 : Below w.heap.size w wa)
    (hblk : wa.heap[w.heap.size]? = some (.cells #[.slice m.A m.ros.length m.c, .int .i64 m.ticks, .slice m.sA m.spans.length m.sc, .slice m.wA m.wires.length m.wc] 31 (0, 0)))
    (hout : wa.heap[w.heap.size + 1]? = some (.cells #[.slice none 0 0, .int .i64 0, .slice none 0 0, .slice none 0 0] 31 (0, 0)))
    (hsz : wa.heap.size = w.heap.size + 2)
    {A : Option Addr} {c : Nat} (r1 : Row w1 70 1 A m.ros.length c (m.ros.flatMap Ro.cells)) (n1 : ∀ j, InA A j → wa.heap.size ≤ j) (b1 : Below wa.heap.size wa w1)
    {sA : Option Addr} {sc : Nat} (r2 : Row w2 69 3 sA m.spans.length sc (m.spans.flatMap Span.cells)) (n2 : ∀ j, InA sA j → w1.heap.size ≤ j) (b2 : Below w1.heap.size w1 w2)
    {wA : Option Addr} {wc : Nat} (r3 : Row w3 62 4 wA m.wires.length wc (m.wires.flatMap Wire.cells)) (n3 : ∀ j, InA wA j → w2.heap.size ≤ j) (b3 : Below w2.heap.size w2 w3) :
    OwnStart w m (((w3.setCell ⟨w.heap.size, 0, none⟩ (.slice A m.ros.length c)).setCell ⟨w.heap.size, 2, none⟩ (.slice sA m.spans.length sc)).setCell ⟨w.heap.size, 3, none⟩ (.slice wA m.wires.length wc)) := by
  have s1 := b1.size
  have s2 := b2.size
  have s3 := b3.size
  have ball : Below wa.heap.size wa w3 := (b1.trans (b2.mono s1)).trans (b3.mono (by omega))
  have q2 : Below w1.heap.size w1 w3 := b2.trans (b3.mono s2)
  have hall : Below w.heap.size w w3 := h0.trans (ball.mono h0.size)
  have far : ∀ j, j ≠ w.heap.size → (((w3.setCell ⟨w.heap.size, 0, none⟩ (.slice A m.ros.length c)).setCell ⟨w.heap.size, 2, none⟩ (.slice sA m.spans.length sc)).setCell ⟨w.heap.size, 3, none⟩ (.slice wA m.wires.length wc)).heap[j]? = w3.heap[j]? := fun j hj => by
    rw [hp_set, if_neg hj, hp_set, if_neg hj, hp_set, if_neg hj]
  have hz : ∀ (v : World), (((v.setCell ⟨w.heap.size, 0, none⟩ (.slice A m.ros.length c)).setCell ⟨w.heap.size, 2, none⟩ (.slice sA m.spans.length sc)).setCell ⟨w.heap.size, 3, none⟩ (.slice wA m.wires.length wc)).heap.size = v.heap.size := fun v => by
    rw [sz_set, sz_set, sz_set]
  have r1' := r1.below q2 (fun j hj => r1.lt j hj)
  have r2' := r2.below b3 (fun j hj => r2.lt j hj)
  refine ⟨A, c, sA, sc, wA, wc, { blk := ?_, out := ?_, row := ?_, same := rfl, rows := fun r hr => ?_, fresh := fun i r hi => absurd hi (by omega), old := fun i r _ hg h0 j hj => ?_, spans := ?_, wires := ?_, nA := fun j hj => ?_, nS := fun j hj => ?_, nW := fun j hj => ?_, size := ?_, below := ?_ }⟩
  · have : w3.heap[w.heap.size]? = _ := (ball.block _ (by omega)).trans hblk
    rw [hp_set, if_pos rfl, hp_set, if_pos rfl, hp_set, if_pos rfl, this]
    rfl
  · rw [far _ (by omega), ball.block _ (by omega)]; exact hout
  · exact r1'.keep fun j hj _ => far j (by have := n1 j hj; omega)
  · refine ((hm.codes r hr).new hall).far (by rw [hz]; exact Nat.le_refl _) fun j h0 hj hl => far j ?_
    have := (hm.codes r hr).1.lt h0 j hj
    omega
  · exact (hm.codes r (List.mem_of_getElem? hg)).1.lt h0 j hj
  · exact r2'.keep fun j hj _ => far j (by have := n2 j hj; omega)
  · exact r3.keep fun j hj _ => far j (by have := n3 j hj; omega)
  · have h1 := n1 j hj
    have h2 := r1.lt j hj
    rw [hz]; omega
  · have := n2 j hj; omega
  · have := n3 j hj; omega
  · rw [hz]; omega
  · exact ((hall.setCell (Nat.le_refl _) _).setCell (Nat.le_refl _) _).setCell (Nat.le_refl _) _

def put4 (w : World) (b : Nat) (v0 v1 v2 v3 : Value) : World := (((w.setCell ⟨b, 0, none⟩ v0).setCell ⟨b, 1, none⟩ v1).setCell ⟨b, 2, none⟩ v2).setCell ⟨b, 3, none⟩ v3
theorem put4_keep (w : World) (b : Nat) (v0 v1 v2 v3 : Value) : Keep (fun j => j = b) w (put4 w b v0 v1 v2 v3) := by
  unfold put4
  exact ((((Keep.refl (fun j => j = b) w).setCell (.inl rfl) _).setCell (.inl rfl) _).setCell (.inl rfl) _).setCell (.inl rfl) _

set_option maxHeartbeats 4000000 in
theorem own_any (w : World) (m : PM) (hm : PlanAt w m) (hs : PMSmall m) :
    Calls Tryz.prog 26 #[.agg #[.slice m.A m.ros.length m.c, .int .i64 m.ticks, .slice m.sA m.spans.length m.sc, .slice m.wA m.wires.length m.wc]] w (Owned w m) := by
  have HM := hid hm
  have HC1 : Hid (∀ w', Below w.heap.size w w' → Calls Tryz.prog 46 #[.slice m.A m.ros.length m.c] w' (Cloned w' 70 1 m.ros.length (m.ros.flatMap Ro.cells))) := fun w' hb => clone_Ops w' m.A _ m.c _ (one_ros _) (by have := hs.ros; omega) hm.rows.none (hm.rows.new hb)
  have HC2 : Hid (∀ w', Below w.heap.size w w' → Calls Tryz.prog 47 #[.slice m.sA m.spans.length m.sc] w' (Cloned w' 69 3 m.spans.length (m.spans.flatMap Span.cells))) := fun w' hb => clone_Span w' m.sA _ m.sc _ (one_spans _) (by have := hs.spans; omega) hm.spans.none (hm.spans.new hb)
  have HC3 : Hid (∀ w', Below w.heap.size w w' → Calls Tryz.prog 48 #[.slice m.wA m.wires.length m.wc] w' (Cloned w' 62 4 m.wires.length (m.wires.flatMap Wire.cells))) := fun w' hb => clone_Wire w' m.wA _ m.wc _ (one_wires _) (by have := hs.wires; omega) hm.wires.none (hm.wires.new hb)
  have HOPS := hid hs.ops
  have hn5 := hs.ros
  obtain ⟨n, hn⟩ : ∃ n, n = m.ros.length := ⟨_, rfl⟩
  obtain ⟨ns, hns⟩ : ∃ ns, ns = m.spans.length := ⟨_, rfl⟩
  obtain ⟨nw, hnw⟩ : ∃ nw, nw = m.wires.length := ⟨_, rfl⟩
  have HDONE : Hid (∀ {wr wz A c rs sA sc wA wc B}, OwnMid w wr m A c rs sA sc wA wc B n → Keep (fun j => j = w.heap.size + 1) wr wz → Owned w m (.returned (.agg #[.slice A n c, .int .i64 m.ticks, .slice sA ns sc, .slice wA nw wc])) wz) := by
    rw [hn, hns, hnw]; exact fun h hb => h.done hm hb
  rw [← hn] at HC1 hn5 ⊢
  rw [← hns] at HC2 ⊢
  rw [← hnw] at HC3 ⊢
  have HN := hid hn
  have HNS := hid hns
  have HNW := hid hnw
  obtain ⟨A0, hA0⟩ : ∃ a, a = m.A := ⟨_, rfl⟩
  obtain ⟨c0, hc0⟩ : ∃ a, a = m.c := ⟨_, rfl⟩
  obtain ⟨tk, htk⟩ : ∃ a, a = m.ticks := ⟨_, rfl⟩
  obtain ⟨sA0, hsA0⟩ : ∃ a, a = m.sA := ⟨_, rfl⟩
  obtain ⟨sc0, hsc0⟩ : ∃ a, a = m.sc := ⟨_, rfl⟩
  obtain ⟨wA0, hwA0⟩ : ∃ a, a = m.wA := ⟨_, rfl⟩
  obtain ⟨wc0, hwc0⟩ : ∃ a, a = m.wc := ⟨_, rfl⟩
  rw [← hA0, ← hc0] at HC1
  rw [← hsA0, ← hsc0] at HC2
  rw [← hwA0, ← hwc0] at HC3
  rw [← htk] at HDONE
  rw [← hA0, ← hc0, ← htk, ← hsA0, ← hsc0, ← hwA0, ← hwc0]
  have HST : Hid (∀ (wa w1 w2 w3 : World) (A : Option Addr) (c : Nat) (sA : Option Addr) (sc : Nat) (wA : Option Addr) (wc : Nat), Below w.heap.size w wa →
      wa.heap[w.heap.size]? = some (.cells #[.slice A0 n c0, .int .i64 tk, .slice sA0 ns sc0, .slice wA0 nw wc0] 31 (0, 0)) →
      wa.heap[w.heap.size + 1]? = some (.cells #[.slice none 0 0, .int .i64 0, .slice none 0 0, .slice none 0 0] 31 (0, 0)) → wa.heap.size = w.heap.size + 2 →
      Row w1 70 1 A n c (m.ros.flatMap Ro.cells) → (∀ j, InA A j → wa.heap.size ≤ j) → Below wa.heap.size wa w1 →
      Row w2 69 3 sA ns sc (m.spans.flatMap Span.cells) → (∀ j, InA sA j → w1.heap.size ≤ j) → Below w1.heap.size w1 w2 →
      Row w3 62 4 wA nw wc (m.wires.flatMap Wire.cells) → (∀ j, InA wA j → w2.heap.size ≤ j) → Below w2.heap.size w2 w3 →
      OwnStart w m (((w3.setCell ⟨w.heap.size, 0, none⟩ (.slice A n c)).setCell ⟨w.heap.size, 2, none⟩ (.slice sA ns sc)).setCell ⟨w.heap.size, 3, none⟩ (.slice wA nw wc))) := by
    subst hn hns hnw hA0 hc0 htk hsA0 hsc0 hwA0 hwc0
    exact fun wa w1 w2 w3 A c sA sc wA wc h1 h2 h3 h4 h5 h6 h7 h8 h9 h10 h11 h12 h13 => ownStart hm h1 h2 h3 h4 h5 h6 h7 h8 h9 h10 h11 h12 h13
  have HEQ : Hid (A0 = m.A ∧ c0 = m.c ∧ tk = m.ticks ∧ sA0 = m.sA ∧ sc0 = m.sc ∧ wA0 = m.wA ∧ wc0 = m.wc) := ⟨hA0, hc0, htk, hsA0, hsc0, hwA0, hwc0⟩
  clear hm hs hn hns hnw hA0 hc0 htk hsA0 hsc0 hwA0 hwc0
  go_enter Tryz.func26, Tryz.ntmps26
  go_upto_region 1 with fail
  obtain ⟨wa, hwa⟩ : ∃ wa, wa = ((w.alloc (.cells #[.slice A0 n c0, .int .i64 tk, .slice sA0 ns sc0, .slice wA0 nw wc0] 31)).alloc (.cells #[.slice none 0 0, .int .i64 0, .slice none 0 0, .slice none 0 0] 31)) := ⟨_, rfl⟩
  have hap : wa.heap[w.heap.size]? = some (.cells #[.slice A0 n c0, .int .i64 tk, .slice sA0 ns sc0, .slice wA0 nw wc0] 31 (0, 0)) := by rw [hwa, hp_alloc, if_neg (by simp), hp_alloc, if_pos rfl]
  have hao : wa.heap[w.heap.size + 1]? = some (.cells #[.slice none 0 0, .int .i64 0, .slice none 0 0, .slice none 0 0] 31 (0, 0)) := by rw [hwa, hp_alloc, if_pos (by simp)]
  have has : wa.heap.size = w.heap.size + 2 := by rw [hwa]; simp
  have hab : Below w.heap.size w wa := by rw [hwa]; exact ((Below.refl _ _).alloc (by simp) _).alloc (by simp) _
  rw [← hwa]
  have HAP := hid hap
  have HAO := hid hao
  have HAS := hid has
  have HAB := hid hab
  have HPC : Hid (∀ w' : World, w'.heap[w.heap.size]? = some (.cells #[.slice A0 n c0, .int .i64 tk, .slice sA0 ns sc0, .slice wA0 nw wc0] 31 (0, 0)) → w'.cell? ⟨w.heap.size, 0, none⟩ = some (.slice A0 n c0) ∧ w'.cell? ⟨w.heap.size, 2, none⟩ = some (.slice sA0 ns sc0) ∧ w'.cell? ⟨w.heap.size, 3, none⟩ = some (.slice wA0 nw wc0) ∧ (w'.frozen? ⟨w.heap.size, 0, none⟩ = false) ∧ (w'.frozen? ⟨w.heap.size, 2, none⟩ = false) ∧ w'.frozen? ⟨w.heap.size, 3, none⟩ = false) :=
    fun w' h => ⟨blk_cell h 0, blk_cell h 2, blk_cell h 3, blk_free h 0, blk_free h 2, blk_free h 3⟩
  obtain ⟨p0, p2, p3, f0, f2, f3⟩ := HPC.out _ hap
  clear hwa hap hao has hab
  go_cut [] (fun wx => OwnStart w m wx)
  case first =>
    go_region_with (first | (go_at_call 46; refine (HC1.out _ HAB.out.drew).mono ?_; rintro e w1 ⟨A1, c1, rfl, r1, n1, b1⟩; have B1 := hid (HAB.out.drew.trans (b1.mono HAB.out.size)); have P1 := hid ((b1.block _ (blk_lt HAP.out)).trans HAP.out); obtain ⟨q0, q2, q3, g0, g2, g3⟩ := HPC.out _ P1.out; have R1 := hid r1; have N1 := hid n1; have BB1 := hid b1; clear r1 n1 b1 p0 p2 p3 f0 f2 f3) | (go_at_call 47; refine (HC2.out _ B1.out).mono ?_; rintro e w2 ⟨A2, c2, rfl, r2, n2, b2⟩; have B2 := hid (B1.out.trans (b2.mono B1.out.size)); have P2 := hid ((b2.block _ (blk_lt P1.out)).trans P1.out); clear q0 q2 q3 g0 g2 g3; obtain ⟨q0, q2, q3, g0, g2, g3⟩ := HPC.out _ P2.out; have R2 := hid r2; have N2 := hid n2; have BB2 := hid b2; clear r2 n2 b2) | (go_at_call 48; refine (HC3.out _ B2.out).mono ?_; rintro e w3 ⟨A3, c3, rfl, r3, n3, b3⟩; have P3 := hid ((b3.block _ (blk_lt P2.out)).trans P2.out); clear q0 q2 q3 g0 g2 g3; obtain ⟨q0, q2, q3, g0, g2, g3⟩ := HPC.out _ P3.out; have R3 := hid r3; have N3 := hid n3; have BB3 := hid b3; clear r3 n3 b3))
    all_goals
      go_wp2_with fail
      go_meet
      exact HST.out wa.drew _ _ _ _ _ _ _ _ _ HAB.out.drew HAP.out HAO.out HAS.out R1.out N1.out BB1.out R2.out N2.out BB2.out R3.out N3.out BB3.out
  case rest =>
    obtain ⟨A, c, sA, sc, wA, wc', hmid⟩ := hcut
    obtain ⟨B, hB⟩ : ∃ B, B = wc.heap.size := ⟨_, rfl⟩
    rw [← hB] at hmid
    have hblk := hmid.blk
    rw [← HN.out, ← HNS.out, ← HNW.out, ← HEQ.out.2.2.1] at hblk
    have HB := hid hblk
    have HMID := hid hmid
    have pa := blk_cell hblk 0
    simp at pa
    clear hB hblk hmid p0 p2 p3 f0 f2 f3
    go_wp2_with fail
    go_loopw [20, 3, 4] (fun v20 v3 v4 wr => ∃ (k : Nat) (rs : List Ro), k ≤ n ∧ v20 = .int .i64 k ∧ OwnMid w wr m A c rs sA sc wA wc' B k) (fun v20 _ _ _ => n - (intOf v20).toNat)
    case atStart => exact ⟨0, m.ros, by omega, rfl, HMID.out⟩
    case round =>
      obtain ⟨k, rs, hk, rfl, hmid⟩ := hrel
      have HMD := hid hmid
      have hblk := hmid.blk
      rw [← HN.out, ← HNS.out, ← HNW.out, ← HEQ.out.2.2.1] at hblk
      have HBK := hid hblk
      clear hmid hblk
      have hrl : rs.length = n := by have := congrArg List.length HMD.out.same; rw [HN.out]; simpa using this
      by_cases hkn : k < n
      · obtain ⟨r, hr⟩ : ∃ r, rs[k]? = some r := ⟨_, List.getElem?_eq_getElem (by omega)⟩
        have hrat := HMD.out.rows r (List.mem_of_getElem? hr)
        have hops20 : r.ops.length ≤ 20 := by
          have hg : (rs.map Ro.ops)[k]? = some r.ops := by rw [List.getElem?_map, hr]; rfl
          rw [HMD.out.same, List.getElem?_map] at hg
          obtain ⟨r', hr', he⟩ := Option.map_eq_some_iff.1 hg
          rw [← he]; exact HOPS.out r' (List.mem_of_getElem? hr')
        obtain ⟨b, off, hAe, hc, _, hbl, hkn', hnc, hcm, _⟩ := HMD.out.row.put1 Ro.cells Ro.len hr r (.slice r.A r.ops.length r.c) rfl
        have hc' : wr.cell? ⟨b, off + k, none⟩ = some (.slice r.A r.ops.length r.c) := hc
        have hb2 := (HMD.out.nA b (by rw [hAe]; rfl)).1
        have HNX : Hid (∀ (w1 : World) (A1 : Option Addr) (c1 : Nat), Row w1 72 3 A1 r.ops.length c1 (r.ops.flatMap Op.cells) → (∀ j, InA A1 j → wr.heap.size ≤ j) → Below wr.heap.size wr w1 →
            OwnMid w (w1.setCell ⟨b, off + k, none⟩ (.slice A1 r.ops.length c1)) m A c (rs.set k ⟨A1, c1, r.ops⟩) sA sc wA wc' B (k + 1)) := fun w1 A1 c1 h1 h2 h3 => HMD.out.next hr h1 h2 h3 hAe
        have HCL : Hid (∀ w', Below wr.heap.size wr w' → Calls Tryz.prog 49 #[.slice r.A r.ops.length r.c] w' (Cloned w' 72 3 r.ops.length (r.ops.flatMap Op.cells))) :=
          fun w' hb => clone_Op w' r.A _ r.c _ (one_ops _) (by omega) hrat.1.none (hrat.1.new hb)
        obtain ⟨RA, rc, ops⟩ := r
        simp only [] at hc' HNX HCL
        generalize ops.length = no at hc' HNX HCL
        subst hAe
        have hp0 := blk_cell HBK.out 0
        simp at hp0
        have hplt := blk_lt HBK.out
        have hfz : wr.frozen? ⟨b, off + k, none⟩ = false := by
          obtain ⟨_, _, e, _, hf, _⟩ := HMD.out.row.put1 Ro.cells Ro.len hr ⟨RA, rc, ops⟩ (.slice RA ops.length rc) rfl
          cases e; exact hf
        have hne : w.heap.size ≠ b := by omega
        unfold maxLen at hcm
        clear hrat hops20 hc hr
        go_wp2_with fail
        go_region_held3 (fun w' => w'.cell? ⟨w.heap.size, 0, none⟩ = some (.slice (some ⟨b, off, none⟩) n c))
          (first | go_keep | exact (cell_far hne).trans ‹_›)
          (first | (go_at_call 49; refine (HCL.out _ ((Below.refl _ _).drew)).mono ?_; rintro e w1 ⟨A1, c1, rfl, r1, n1, b1⟩; have k0 : w1.cell? ⟨w.heap.size, 0, none⟩ = some (.slice (some ⟨b, off, none⟩) n c) := (b1.cell (p := ⟨w.heap.size, 0, none⟩) hplt).trans hp0; have k1 : w1.cell? ⟨b, off + k, none⟩ = some (.slice RA no rc) := (b1.cell (p := ⟨b, off + k, none⟩) hbl).trans hc'; have k2 : w1.frozen? ⟨b, off + k, none⟩ = false := (b1.frozen (p := ⟨b, off + k, none⟩) hbl).trans hfz; have R1 := hid r1; have N1 := hid n1; have BB1 := hid b1; clear r1 n1 b1))
        go_wp2_with fail
        go_roundw
        case rel => exact ⟨k + 1, _, by omega, by go_num, HNX.out _ _ _ R1.out N1.out ⟨BB1.out.os, BB1.out.tape, BB1.out.output, BB1.out.size, BB1.out.block⟩⟩
        case measure => simp [intOf]; omega
      · obtain rfl : k = n := by omega
        have hout := HMD.out.out
        have h0 := blk_cell HBK.out 0
        have h1 := blk_cell HBK.out 1
        have h2 := blk_cell HBK.out 2
        have h3 := blk_cell HBK.out 3
        have e0 := blk_cell hout 0
        have e1 := blk_cell hout 1
        have e2 := blk_cell hout 2
        have e3 := blk_cell hout 3
        have g0 := blk_free hout 0
        have g1 := blk_free hout 1
        have g2 := blk_free hout 2
        have g3 := blk_free hout 3
        simp at h0 h1 h2 h3 e0 e1 e2 e3
        have HD : Hid (Owned w m (.returned (.agg #[.slice A k c, .int .i64 tk, .slice sA ns sc, .slice wA nw wc'])) (put4 wr (w.heap.size + 1) (.slice A k c) (.int .i64 tk) (.slice sA ns sc) (.slice wA nw wc'))) :=
          HDONE.out HMD.out (put4_keep _ _ _ _ _ _)
        have hz : (put4 wr (w.heap.size + 1) (.slice A k c) (.int .i64 tk) (.slice sA ns sc) (.slice wA nw wc')).heap[w.heap.size + 1]? = some (.cells #[.slice A k c, .int .i64 tk, .slice sA ns sc, .slice wA nw wc'] 31 (0, 0)) := by
          unfold put4
          simp [hp_set, hout, setObj]
        clear hout
        go_wp2_with fail
        obtain ⟨wz, hwz⟩ : ∃ wz, wz = put4 wr (w.heap.size + 1) (.slice A k c) (.int .i64 tk) (.slice sA ns sc) (.slice wA nw wc') := ⟨_, rfl⟩
        rw [← hwz] at hz HD
        unfold put4 at hwz
        rw [← hwz]
        have z0 := blk_cell hz 0
        have z1 := blk_cell hz 1
        have z2 := blk_cell hz 2
        have z3 := blk_cell hz 3
        simp at z0 z1 z2 z3
        exact bodyPost_ret (v := .agg #[.slice A k c, .int .i64 tk, .slice sA ns sc, .slice wA nw wc']) (by simp [results, Tryz.results26, go_sem, z0, z1, z2, z3]) rfl HD.out
end Go.Proofs.YthdmgighblhmhaaGreatDoor
