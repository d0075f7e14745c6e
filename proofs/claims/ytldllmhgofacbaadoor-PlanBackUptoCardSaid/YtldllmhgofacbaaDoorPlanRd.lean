/- Package plan: a reader as it lies, and the contract of take, for each part. Conditions: none. -/
import Derived.Test.YtldllmhgofacbaaDoorPlanText
import Derived.Test.YtldllmhgofacbaaDoorRKernU
import Derived.Test.YtldllmhgofacbaaDoorPlanMem
import Derived.Test.YtldllmhgofacbaaDoorRangeU
import Derived.Test.YtldllmhgofacbaaDoorRunU
import Derived.BigRegion
import Derived.Deep.RegionLaw
namespace Go.Proofs.YtldllmhgofacbaaDoor
open Go.RowKit
set_option maxRecDepth 100000

def rdCells (m : PM) (part : Nat) (bg : Bool) : Array Value := #[.slice m.A m.ros.length m.c, .int .i64 m.ticks, .slice m.sA m.spans.length m.sc, .slice m.wA m.wires.length m.wc, .int .i64 part, .bool bg]
/-- A reader that lies: all that it has read lies in memory from base on; it itself lies below. -/
structure RdAt (base : Nat) (w : World) (b : Nat) (m : PM) (part : Nat) (bg : Bool) : Prop where
  blk : w.heap[b]? = some (.cells (rdCells m part bg) 38 (0, 0))
  rows : Row w 50 1 m.A m.ros.length m.c (m.ros.flatMap Ro.cells)
  codes : ∀ r ∈ m.ros, Row w 47 3 r.A r.ops.length r.c (r.ops.flatMap Op.cells)
  apart : ∀ i r last, m.ros[i]? = some r → m.ros[m.ros.length - 1]? = some last → i + 1 < m.ros.length → ∀ j, InA r.A j → ¬ InA last.A j
  spans : Row w 53 3 m.sA m.spans.length m.sc (m.spans.flatMap Span.cells)
  wires : Row w 55 4 m.wA m.wires.length m.wc (m.wires.flatMap Wire.cells)
  fresh : ∀ j, InA m.A j ∨ InA m.sA j ∨ InA m.wA j → base ≤ j
  freshC : ∀ r ∈ m.ros, ∀ j, InA r.A j → base ≤ j
  low : b < base
  big : base ≤ w.heap.size
/-- What a step of the reader may write. -/
def rdF (m : PM) (b j : Nat) : Prop := j = b ∨ InA m.A j ∨ InA m.sA j ∨ InA m.wA j
section
variable {base b part : Nat} {w w' w0 : World} {m : PM} {bg : Bool}
theorem RdAt.keep {G : Nat → Prop} (h : RdAt base w b m part bg) (hk : Keep G w w') (hG : ∀ j, G j → j ≠ b ∧ (j < base ∨ w.heap.size ≤ j)) : RdAt base w' b m part bg := by
  have hs := h.big
  have hl := h.low
  refine ⟨(hk.block b (by omega) fun hb => (hG b hb).1 rfl).trans h.blk, h.rows.through hk fun j hj hg => ?_, fun r hr => (h.codes r hr).through hk fun j hj hg => ?_, h.apart, h.spans.through hk fun j hj hg => ?_, h.wires.through hk fun j hj hg => ?_, h.fresh, h.freshC, hl, Nat.le_trans hs hk.size⟩
  · have := (hG j hg).2; have := h.fresh j (.inl hj); have := h.rows.lt j hj; omega
  · have := (hG j hg).2; have := h.freshC r hr j hj; have := (h.codes r hr).lt j hj; omega
  · have := (hG j hg).2; have := h.fresh j (.inr (.inl hj)); have := h.spans.lt j hj; omega
  · have := (hG j hg).2; have := h.fresh j (.inr (.inr hj)); have := h.wires.lt j hj; omega
theorem RdAt.new (h : RdAt base w b m part bg) (hb : Below w.heap.size w w') : RdAt base w' b m part bg :=
  h.keep (Keep.of_below NoF hb) fun _ hj => hj.elim
end
theorem rd_part {base b part : Nat} {w : World} {m : PM} {bg : Bool} (h : RdAt base w b m part bg) (q : Nat) : RdAt base (w.setCell ⟨b, 4, none⟩ (.int .i64 q)) b m q bg ∧ Keep (rdF m b) w (w.setCell ⟨b, 4, none⟩ (.int .i64 q)) := by
  have hl := h.low
  have far : ∀ j, base ≤ j → (w.setCell ⟨b, 4, none⟩ (.int .i64 q)).heap[j]? = w.heap[j]? := fun j hj => blk_far (p := ⟨b, 4, none⟩) (by simp; omega) _
  refine ⟨⟨blk_set h.blk 4 _, h.rows.keep fun j hj _ => far j (h.fresh j (.inl hj)), fun r hr => (h.codes r hr).keep fun j hj _ => far j (h.freshC r hr j hj), h.apart, h.spans.keep fun j hj _ => far j (h.fresh j (.inr (.inl hj))), h.wires.keep fun j hj _ => far j (h.fresh j (.inr (.inr hj))), h.fresh, h.freshC, hl, by rw [sz_set]; exact h.big⟩, (Keep.refl _ _).setCell (.inl (.inl rfl)) _⟩

/-- A row of numbers that is read. -/
theorem nums_cell {w : World} {A : Option Addr} {n : Nat} {ns : List Nat} (h : Sl w A 1 n (ints (ns.map Int.ofNat))) {j N : Nat} (hj : ns[j]? = some N) (hn : 0 < n) : ∃ b off, A = some ⟨b, off, none⟩ ∧ b < w.heap.size ∧ w.cell? ⟨b, off + j, none⟩ = some (.int .i64 (N : Int)) := by
  obtain ⟨b, off, hA, hb, hx⟩ := h.2 hn
  exact ⟨b, off, hA, hb, hx j _ (by unfold ints; rw [List.getElem?_map, List.getElem?_map, hj]; rfl)⟩
theorem nums_one {w : World} {A : Option Addr} {N0 : Nat} (h : Sl w A 1 1 (ints ([N0].map Int.ofNat))) : ∃ b off, A = some ⟨b, off, none⟩ ∧ b < w.heap.size ∧ w.cell? ⟨b, off, none⟩ = some (.int .i64 N0) := nums_cell h (j := 0) rfl (by decide)
theorem nums_four {w : World} {A : Option Addr} {n : Nat} {ns : List Nat} (h : Sl w A 1 n (ints (ns.map Int.ofNat))) (hn : 0 < n) : ∃ b off, A = some ⟨b, off, none⟩ ∧ b < w.heap.size ∧ ∀ (j N : Nat), ns[j]? = some N → w.cell? ⟨b, off + j, none⟩ = some (.int .i64 (N : Int)) := by
  obtain ⟨b, off, hA, hb, hx⟩ := h.2 hn
  exact ⟨b, off, hA, hb, fun j N hj => hx j _ (by unfold ints; rw [List.getElem?_map, List.getElem?_map, hj]; rfl)⟩
/-- What a step leaves. -/
def RdTook (base b : Nat) (w : World) (m : PM) (part : Nat) (e : Ending) (w' : World) : Prop := ∃ m' : PM, m'.pl = m.pl ∧ e = .returned (.tuple #[]) ∧ RdAt base w' b m' part true ∧ Keep (rdF m b) w w'
section
variable {base b : Nat} {w : World} {m : PM} {bg : Bool}
set_option maxHeartbeats 2000000 in
theorem take_frame (h : RdAt base w b m 0 bg) {A : Option Addr} {c N0 : Nat} (hn : Sl w A 1 1 (ints ([N0].map Int.ofNat))) :
    Calls Tryd.prog 28 #[.pointer (some ⟨b, 0, none⟩), .slice A 1 c] w (RdTook base b w ⟨m.A, m.c, m.ros, N0, m.sA, m.sc, m.spans, m.wA, m.wc, m.wires⟩ 0) := by
  obtain ⟨nb, no, rfl, hnl, g0⟩ := nums_one hn
  have hblk := h.blk
  unfold rdCells at hblk
  have x1 := blk_cell hblk 1
  have x4 := blk_cell hblk 4
  have x5 := blk_cell hblk 5
  have xf := fun o => blk_free hblk o
  have hl := blk_lt hblk
  simp at x1 x4 x5
  have hl2 := h.low
  have far : ∀ j, base ≤ j → ((w.setCell ⟨b, 1, none⟩ (.int .i64 N0)).setCell ⟨b, 5, none⟩ (.bool true)).heap[j]? = w.heap[j]? := fun j hj => (blk_far (p := ⟨b, 5, none⟩) (by simp; omega) _).trans (blk_far (p := ⟨b, 1, none⟩) (by simp; omega) _)
  have FIN : Hid (RdTook base b w ⟨m.A, m.c, m.ros, N0, m.sA, m.sc, m.spans, m.wA, m.wc, m.wires⟩ 0 (.returned (.tuple #[])) ((w.setCell ⟨b, 1, none⟩ (.int .i64 N0)).setCell ⟨b, 5, none⟩ (.bool true))) := hid ⟨_, rfl, rfl,
    ⟨blk_set (blk_set hblk 1 _) 5 _, h.rows.keep fun j hj _ => far j (h.fresh j (.inl hj)), fun r hr => (h.codes r hr).keep fun j hj _ => far j (h.freshC r hr j hj), h.apart, h.spans.keep fun j hj _ => far j (h.fresh j (.inr (.inl hj))), h.wires.keep fun j hj _ => far j (h.fresh j (.inr (.inr hj))), h.fresh, h.freshC, hl2, by rw [sz_set, sz_set]; exact h.big⟩,
    ((Keep.refl _ _).setCell (.inl (.inl rfl)) _).setCell (.inl (.inl rfl)) _⟩
  clear hblk far h hn hl2
  go_enter Tryd.func28, Tryd.ntmps28
  go_wp2_with fail
  go_end0
  exact FIN.out

theorem Tryd.infoRdOps : (Tryd.prog.info? 50).map (fun i => (i.zero, i.size, i.bytes)) = some (some (.slice none 0 0), 1, 24) := by kernel_rfl
set_option maxHeartbeats 4000000 in
theorem take_room (h : RdAt base w b m 3 true) (hfew : m.ros.length ≤ 1073741824) (A : Option Addr) (c : Nat) :
    Calls Tryd.prog 28 #[.pointer (some ⟨b, 0, none⟩), .slice A 0 c] w fun e w' => ∃ m' : PM, m'.pl = (⟨m.pl.code ++ [[]], m.pl.ticks, m.pl.spans, m.pl.wires⟩ : Pl) ∧ e = .returned (.tuple #[]) ∧ RdAt base w' b m' 3 true ∧ Keep (rdF m b) w w' := by
  obtain ⟨i0, hi0, hz0, hz1, hz2⟩ := info_parts Tryd.infoRdOps
  have hblk := h.blk
  unfold rdCells at hblk
  have x0 := blk_cell hblk 0
  have x4 := blk_cell hblk 4
  have xf := fun o => blk_free hblk o
  have hl := blk_lt hblk
  simp at x0 x4
  have hl2 := h.low
  obtain ⟨q, hq⟩ : ∃ q, q = m.ros.length := ⟨_, rfl⟩
  have hrow := h.rows
  rw [← hq] at x0 hrow hfew
  obtain ⟨wd, hwd⟩ : ∃ wd, wd = w.alloc (.cells #[.slice none 0 0] 50) := ⟨_, rfl⟩
  have hrd : Row wd 50 1 m.A q m.c (m.ros.flatMap Ro.cells) := by rw [hwd]; exact hrow.alloc _
  have hsd : Sl wd (some ⟨w.heap.size, 0, none⟩) 1 1 [.slice none 0 0] := by rw [hwd]; exact one_sl w _ _
  have hkd : Keep NoF w wd := by rw [hwd]; exact (Keep.refl _ _).alloc _
  have hfr : ∀ j, InA m.A j → base ≤ j := fun j hj => h.fresh j (.inl hj)
  have H := hid h
  have HRD := hid hrd
  have HSD := hid hsd
  have HBL : Hid (∀ w4, Keep (InA m.A) wd w4 → w4.heap[b]? = w.heap[b]? ∧ b < w4.heap.size) := hid fun w4 hk => by
    have h1 := hkd.size
    exact ⟨(hk.block b (by omega) fun hj => by have := hfr b hj; omega).trans (hkd.block b hl fun hj => hj.elim), by have := hk.size; omega⟩
  have FIN : Hid (∀ A' c' w4, Row w4 50 1 A' (q + 1) c' (m.ros.flatMap Ro.cells ++ [.slice none 0 0]) → Keep (InA m.A) wd w4 → (∀ j, InA A' j → InA m.A j ∨ wd.heap.size ≤ j) →
      ∃ m' : PM, m'.pl = (⟨m.pl.code ++ [[]], m.pl.ticks, m.pl.spans, m.pl.wires⟩ : Pl) ∧ RdAt base (w4.setCell ⟨b, 0, none⟩ (.slice A' (q + 1) c')) b m' 3 true ∧ Keep (rdF m b) w (w4.setCell ⟨b, 0, none⟩ (.slice A' (q + 1) c'))) := hid fun A' c' w4 hr4 hk4 hn4 => by
    have h1 := hkd.size
    have hbig := h.big
    have hkw : Keep (InA m.A) w w4 := (hkd.mono (G := InA m.A) fun j _ hj => hj.elim).then hk4 fun _ _ hj => hj
    have far : ∀ j, j ≠ b → (w4.setCell ⟨b, 0, none⟩ (.slice A' (q + 1) c')).heap[j]? = w4.heap[j]? := fun j hj => blk_far (p := ⟨b, 0, none⟩) (by simp; omega) _
    have hb4 : w4.heap[b]? = _ := (HBL.out w4 hk4).1.trans hblk
    have fresh' : ∀ j, InA A' j → base ≤ j := fun j hj => (hn4 j hj).elim (fun h => hfr j h) fun h => by omega
    refine ⟨⟨A', c', m.ros ++ [⟨none, 0, []⟩], m.ticks, m.sA, m.sc, m.spans, m.wA, m.wc, m.wires⟩, by simp [PM.pl], ⟨?_, ?_, fun r hr => ?_, fun i r last hi hlast hlt j hj => ?_, ?_, ?_, ?_, fun r hr j hj => ?_, hl2, ?_⟩, ?_⟩
    · refine (blk_set hb4 0 _).trans ?_
      unfold rdCells
      simp only [List.length_append, List.length_singleton, ← hq]
      rfl
    · have e : (m.ros ++ [(⟨none, 0, []⟩ : Ro)]).flatMap Ro.cells = m.ros.flatMap Ro.cells ++ [.slice none 0 0] := by rw [List.flatMap_append]; rfl
      simp only [List.length_append, List.length_singleton, ← hq]
      rw [e]
      exact hr4.keep fun j hj _ => far j (by have := fresh' j hj; omega)
    · rcases List.mem_append.1 hr with hr | hr
      · refine ((h.codes r hr).through hkw fun j hj hg => ((h.codes r hr).apart2 h.rows (by decide)) j hj hg).keep fun j hj _ => far j (by have := h.freshC r hr j hj; omega)
      · rw [List.mem_singleton] at hr
        subst hr
        exact Row.nil _ _ _
    · simp only [List.length_append, List.length_singleton, Nat.add_sub_cancel] at hlast
      rw [List.getElem?_append_right (Nat.le_refl _), Nat.sub_self] at hlast
      simp at hlast
      subst hlast
      simp [InA]
    · refine (h.spans.through hkw fun j hj hg => (h.spans.apart2 h.rows (by decide)) j hj hg).keep fun j hj _ => far j (by have := h.fresh j (.inr (.inl hj)); omega)
    · refine (h.wires.through hkw fun j hj hg => (h.wires.apart2 h.rows (by decide)) j hj hg).keep fun j hj _ => far j (by have := h.fresh j (.inr (.inr hj)); omega)
    · rintro j (hj | hj | hj)
      · exact fresh' j hj
      · exact h.fresh j (.inr (.inl hj))
      · exact h.fresh j (.inr (.inr hj))
    · rcases List.mem_append.1 hr with hr | hr
      · exact h.freshC r hr j hj
      · rw [List.mem_singleton] at hr
        subst hr
        simp [InA] at hj
    · rw [sz_set]; have := hkw.size; omega
    · exact (hkw.mono (G := rdF m b) fun j _ hj => .inr (.inl hj)).setCell (.inl (.inl rfl)) _
  clear hblk hrow hrd hsd hkd hfr h hl2 hq
  go_enter Tryd.func28, Tryd.ntmps28
  go_wp2_with (at_builtin; refine wpList_append_row _ rfl _ _ 22 rfl 50 i0 (.slice none 0 0) 1 24 Tryd.underlying22 hi0 hz0 hz1 hz2 rfl (by decide) m.A q m.c (m.ros.flatMap Ro.cells) rfl (by rw [← hwd]; exact HRD.out) (some ⟨w.heap.size, 0, none⟩) 1 1 [.slice none 0 0] rfl (by rw [← hwd]; exact HSD.out) (by intro u hu; simp at hu; subst hu; rfl) (by unfold maxLen; omega) (by omega) ?_)
  intro A' c' w4 hr4 hk4 hn4
  have hsz : wd.heap.size = w.heap.size + 1 := by rw [hwd]; exact sz_alloc _ _
  rw [← hwd] at hk4
  rw [← hsz] at hn4
  clear hsz
  obtain ⟨d0, d1⟩ := HBL.out w4 hk4
  have d2 := d0.trans H.out.blk
  unfold rdCells at d2
  have d3 := blk_cell d2 0
  have d4 := blk_free d2 0
  simp at d3
  have HR4 := hid hr4
  have HK4 := hid hk4
  have HN4 := hid hn4
  clear hr4 hk4 hn4 d0 d2
  go_wp2_with fail
  go_end0
  obtain ⟨m', h1, h2, h3⟩ := FIN.out _ _ _ HR4.out HK4.out HN4.out
  exact ⟨m', h1, rfl, h2, h3⟩
end
end Go.Proofs.YtldllmhgofacbaaDoor
