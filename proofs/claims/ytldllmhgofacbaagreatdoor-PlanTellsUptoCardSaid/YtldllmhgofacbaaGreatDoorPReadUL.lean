/- Several parts: each begins with what it says. -/
import Derived.Test.YtldllmhgofacbaaGreatDoorPTextUL
import Derived.Test.YtldllmhgofacbaaGreatDoorRKernUL
import Derived.Test.YtldllmhgofacbaaGreatDoorPlanMemL
import Derived.Test.YtldllmhgofacbaaGreatDoorRangeUL
import Derived.Test.YtldllmhgofacbaaGreatDoorRunUL
import Derived.BigRegion
import Derived.Deep.RegionLaw
import Derived.Deep.RegionHeld3
import Derived.Test.YtldllmhgofacbaaGreatDoorBaseU
/- Package plan: a reader as it lies, and the contract of take, for each part. Conditions: none. -/
namespace Go.Proofs.YtldllmhgofacbaaGreatDoor
open Go.RowKit
set_option maxRecDepth 100000

def rdCells (m : PM) (part : Nat) (bg : Bool) : Array Value := #[.slice m.A m.ros.length m.c, .int .i64 m.ticks, .slice m.sA m.spans.length m.sc, .slice m.wA m.wires.length m.wc, .int .i64 part, .bool bg]
/-- A reader that lies: all that it has read lies in memory from base on; it itself lies below. -/
structure RdAt (base : Nat) (w : World) (b : Nat) (m : PM) (part : Nat) (bg : Bool) : Prop where
  blk : w.heap[b]? = some (.cells (rdCells m part bg) 136 (0, 0))
  rows : Row w 43 1 m.A m.ros.length m.c (m.ros.flatMap Ro.cells)
  codes : ∀ r ∈ m.ros, Row w 42 3 r.A r.ops.length r.c (r.ops.flatMap Op.cells)
  apart : ∀ i r last, m.ros[i]? = some r → m.ros[m.ros.length - 1]? = some last → i + 1 < m.ros.length → ∀ j, InA r.A j → ¬ InA last.A j
  spans : Row w 115 3 m.sA m.spans.length m.sc (m.spans.flatMap Span.cells)
  wires : Row w 117 4 m.wA m.wires.length m.wc (m.wires.flatMap Wire.cells)
  fresh : ∀ j, InA m.A j ∨ InA m.sA j ∨ InA m.wA j → base ≤ j
  freshC : ∀ r ∈ m.ros, ∀ j, InA r.A j → base ≤ j
  low : b < base
  big : base ≤ w.heap.size
/-- What a step of the reader may write. -/
def rdF (m : PM) (b j : Nat) : Prop := j = b ∨ InA m.A j ∨ InA m.sA j ∨ InA m.wA j
section
variable {base b part : Nat} {w w' w0 : World} {m : PM} {bg : Bool}
theorem RdAt.keep {G : Nat → Prop} (h : RdAt base w b m part bg) (hk : Keep G w w') (hG : ∀ j, G j → j ≠ b ∧ (j < base ∨ w.heap.size ≤ j)) : RdAt base w' b m part bg := by
  have hs := h.big
  have hl := h.low
  refine ⟨(hk.block b (by omega) fun hb => (hG b hb).1 rfl).trans h.blk, h.rows.through hk fun j hj hg => ?_, fun r hr => (h.codes r hr).through hk fun j hj hg => ?_, h.apart, h.spans.through hk fun j hj hg => ?_, h.wires.through hk fun j hj hg => ?_, h.fresh, h.freshC, hl, Nat.le_trans hs hk.size⟩
  · have := (hG j hg).2; have := h.fresh j (.inl hj); have := h.rows.lt j hj; omega
  · have := (hG j hg).2; have := h.freshC r hr j hj; have := (h.codes r hr).lt j hj; omega
  · have := (hG j hg).2; have := h.fresh j (.inr (.inl hj)); have := h.spans.lt j hj; omega
  · have := (hG j hg).2; have := h.fresh j (.inr (.inr hj)); have := h.wires.lt j hj; omega
theorem RdAt.new (h : RdAt base w b m part bg) (hb : Below w.heap.size w w') : RdAt base w' b m part bg :=
  h.keep (Keep.of_below NoF hb) fun _ hj => hj.elim
end
theorem rd_part {base b part : Nat} {w : World} {m : PM} {bg : Bool} (h : RdAt base w b m part bg) (q : Nat) : RdAt base (w.setCell ⟨b, 4, none⟩ (.int .i64 q)) b m q bg ∧ Keep (rdF m b) w (w.setCell ⟨b, 4, none⟩ (.int .i64 q)) := by
  have hl := h.low
  have far : ∀ j, base ≤ j → (w.setCell ⟨b, 4, none⟩ (.int .i64 q)).heap[j]? = w.heap[j]? := fun j hj => blk_far (p := ⟨b, 4, none⟩) (by simp; omega) _
  refine ⟨⟨blk_set h.blk 4 _, h.rows.keep fun j hj _ => far j (h.fresh j (.inl hj)), fun r hr => (h.codes r hr).keep fun j hj _ => far j (h.freshC r hr j hj), h.apart, h.spans.keep fun j hj _ => far j (h.fresh j (.inr (.inl hj))), h.wires.keep fun j hj _ => far j (h.fresh j (.inr (.inr hj))), h.fresh, h.freshC, hl, by rw [sz_set]; exact h.big⟩, (Keep.refl _ _).setCell (.inl (.inl rfl)) _⟩

/-- A row of numbers that is read. -/
theorem nums_cell {w : World} {A : Option Addr} {n : Nat} {ns : List Nat} (h : Sl w A 1 n (ints (ns.map Int.ofNat))) {j N : Nat} (hj : ns[j]? = some N) (hn : 0 < n) : ∃ b off, A = some ⟨b, off, none⟩ ∧ b < w.heap.size ∧ w.cell? ⟨b, off + j, none⟩ = some (.int .i64 (N : Int)) := by
  obtain ⟨b, off, hA, hb, hx⟩ := h.2 hn
  exact ⟨b, off, hA, hb, hx j _ (by unfold ints; rw [List.getElem?_map, List.getElem?_map, hj]; rfl)⟩
theorem nums_one {w : World} {A : Option Addr} {N0 : Nat} (h : Sl w A 1 1 (ints ([N0].map Int.ofNat))) : ∃ b off, A = some ⟨b, off, none⟩ ∧ b < w.heap.size ∧ w.cell? ⟨b, off, none⟩ = some (.int .i64 N0) := nums_cell h (j := 0) rfl (by decide)
theorem nums_four {w : World} {A : Option Addr} {n : Nat} {ns : List Nat} (h : Sl w A 1 n (ints (ns.map Int.ofNat))) (hn : 0 < n) : ∃ b off, A = some ⟨b, off, none⟩ ∧ b < w.heap.size ∧ ∀ (j N : Nat), ns[j]? = some N → w.cell? ⟨b, off + j, none⟩ = some (.int .i64 (N : Int)) := by
  obtain ⟨b, off, hA, hb, hx⟩ := h.2 hn
  exact ⟨b, off, hA, hb, fun j N hj => hx j _ (by unfold ints; rw [List.getElem?_map, List.getElem?_map, hj]; rfl)⟩
/-- What a step leaves. -/
def RdTook (base b : Nat) (w : World) (m : PM) (part : Nat) (e : Ending) (w' : World) : Prop := ∃ m' : PM, m'.pl = m.pl ∧ e = .returned (.tuple #[]) ∧ RdAt base w' b m' part true ∧ Keep (rdF m b) w w'
section
variable {base b : Nat} {w : World} {m : PM} {bg : Bool}
set_option maxHeartbeats 2000000 in
theorem take_frame (h : RdAt base w b m 0 bg) {A : Option Addr} {c N0 : Nat} (hn : Sl w A 1 1 (ints ([N0].map Int.ofNat))) :
    Calls Tryz.prog 125 #[.pointer (some ⟨b, 0, none⟩), .slice A 1 c] w (RdTook base b w ⟨m.A, m.c, m.ros, N0, m.sA, m.sc, m.spans, m.wA, m.wc, m.wires⟩ 0) := by
  obtain ⟨nb, no, rfl, hnl, g0⟩ := nums_one hn
  have hblk := h.blk
  unfold rdCells at hblk
  have x1 := blk_cell hblk 1
  have x4 := blk_cell hblk 4
  have x5 := blk_cell hblk 5
  have xf := fun o => blk_free hblk o
  have hl := blk_lt hblk
  simp at x1 x4 x5
  have hl2 := h.low
  have far : ∀ j, base ≤ j → ((w.setCell ⟨b, 1, none⟩ (.int .i64 N0)).setCell ⟨b, 5, none⟩ (.bool true)).heap[j]? = w.heap[j]? := fun j hj => (blk_far (p := ⟨b, 5, none⟩) (by simp; omega) _).trans (blk_far (p := ⟨b, 1, none⟩) (by simp; omega) _)
  have FIN : Hid (RdTook base b w ⟨m.A, m.c, m.ros, N0, m.sA, m.sc, m.spans, m.wA, m.wc, m.wires⟩ 0 (.returned (.tuple #[])) ((w.setCell ⟨b, 1, none⟩ (.int .i64 N0)).setCell ⟨b, 5, none⟩ (.bool true))) := hid ⟨_, rfl, rfl,
    ⟨blk_set (blk_set hblk 1 _) 5 _, h.rows.keep fun j hj _ => far j (h.fresh j (.inl hj)), fun r hr => (h.codes r hr).keep fun j hj _ => far j (h.freshC r hr j hj), h.apart, h.spans.keep fun j hj _ => far j (h.fresh j (.inr (.inl hj))), h.wires.keep fun j hj _ => far j (h.fresh j (.inr (.inr hj))), h.fresh, h.freshC, hl2, by rw [sz_set, sz_set]; exact h.big⟩,
    ((Keep.refl _ _).setCell (.inl (.inl rfl)) _).setCell (.inl (.inl rfl)) _⟩
  clear hblk far h hn hl2
  go_enter Tryz.func125, Tryz.ntmps125
  go_wp2_with fail
  go_end0
  exact FIN.out

theorem Tryz.infoRdOps : (Tryz.prog.info? 43).map (fun i => (i.zero, i.size, i.bytes)) = some (some (.slice none 0 0), 1, 24) := by kernel_rfl
set_option maxHeartbeats 4000000 in
theorem take_room (h : RdAt base w b m 3 true) (hfew : m.ros.length ≤ 1073741824) (A : Option Addr) (c : Nat) :
    Calls Tryz.prog 125 #[.pointer (some ⟨b, 0, none⟩), .slice A 0 c] w fun e w' => ∃ m' : PM, m'.pl = (⟨m.pl.code ++ [[]], m.pl.ticks, m.pl.spans, m.pl.wires⟩ : Pl) ∧ e = .returned (.tuple #[]) ∧ RdAt base w' b m' 3 true ∧ Keep (rdF m b) w w' := by
  obtain ⟨i0, hi0, hz0, hz1, hz2⟩ := info_parts Tryz.infoRdOps
  have hblk := h.blk
  unfold rdCells at hblk
  have x0 := blk_cell hblk 0
  have x4 := blk_cell hblk 4
  have xf := fun o => blk_free hblk o
  have hl := blk_lt hblk
  simp at x0 x4
  have hl2 := h.low
  obtain ⟨q, hq⟩ : ∃ q, q = m.ros.length := ⟨_, rfl⟩
  have hrow := h.rows
  rw [← hq] at x0 hrow hfew
  obtain ⟨wd, hwd⟩ : ∃ wd, wd = w.alloc (.cells #[.slice none 0 0] 43) := ⟨_, rfl⟩
  have hrd : Row wd 43 1 m.A q m.c (m.ros.flatMap Ro.cells) := by rw [hwd]; exact hrow.alloc _
  have hsd : Sl wd (some ⟨w.heap.size, 0, none⟩) 1 1 [.slice none 0 0] := by rw [hwd]; exact one_sl w _ _
  have hkd : Keep NoF w wd := by rw [hwd]; exact (Keep.refl _ _).alloc _
  have hfr : ∀ j, InA m.A j → base ≤ j := fun j hj => h.fresh j (.inl hj)
  have H := hid h
  have HRD := hid hrd
  have HSD := hid hsd
  have HBL : Hid (∀ w4, Keep (InA m.A) wd w4 → w4.heap[b]? = w.heap[b]? ∧ b < w4.heap.size) := hid fun w4 hk => by
    have h1 := hkd.size
    exact ⟨(hk.block b (by omega) fun hj => by have := hfr b hj; omega).trans (hkd.block b hl fun hj => hj.elim), by have := hk.size; omega⟩
  have FIN : Hid (∀ A' c' w4, Row w4 43 1 A' (q + 1) c' (m.ros.flatMap Ro.cells ++ [.slice none 0 0]) → Keep (InA m.A) wd w4 → (∀ j, InA A' j → InA m.A j ∨ wd.heap.size ≤ j) →
      ∃ m' : PM, m'.pl = (⟨m.pl.code ++ [[]], m.pl.ticks, m.pl.spans, m.pl.wires⟩ : Pl) ∧ RdAt base (w4.setCell ⟨b, 0, none⟩ (.slice A' (q + 1) c')) b m' 3 true ∧ Keep (rdF m b) w (w4.setCell ⟨b, 0, none⟩ (.slice A' (q + 1) c'))) := hid fun A' c' w4 hr4 hk4 hn4 => by
    have h1 := hkd.size
    have hbig := h.big
    have hkw : Keep (InA m.A) w w4 := (hkd.mono (G := InA m.A) fun j _ hj => hj.elim).then hk4 fun _ _ hj => hj
    have far : ∀ j, j ≠ b → (w4.setCell ⟨b, 0, none⟩ (.slice A' (q + 1) c')).heap[j]? = w4.heap[j]? := fun j hj => blk_far (p := ⟨b, 0, none⟩) (by simp; omega) _
    have hb4 : w4.heap[b]? = _ := (HBL.out w4 hk4).1.trans hblk
    have fresh' : ∀ j, InA A' j → base ≤ j := fun j hj => (hn4 j hj).elim (fun h => hfr j h) fun h => by omega
    refine ⟨⟨A', c', m.ros ++ [⟨none, 0, []⟩], m.ticks, m.sA, m.sc, m.spans, m.wA, m.wc, m.wires⟩, by simp [PM.pl], ⟨?_, ?_, fun r hr => ?_, fun i r last hi hlast hlt j hj => ?_, ?_, ?_, ?_, fun r hr j hj => ?_, hl2, ?_⟩, ?_⟩
    · refine (blk_set hb4 0 _).trans ?_
      unfold rdCells
      simp only [List.length_append, List.length_singleton, ← hq]
      rfl
    · have e : (m.ros ++ [(⟨none, 0, []⟩ : Ro)]).flatMap Ro.cells = m.ros.flatMap Ro.cells ++ [.slice none 0 0] := by rw [List.flatMap_append]; rfl
      simp only [List.length_append, List.length_singleton, ← hq]
      rw [e]
      exact hr4.keep fun j hj _ => far j (by have := fresh' j hj; omega)
    · rcases List.mem_append.1 hr with hr | hr
      · refine ((h.codes r hr).through hkw fun j hj hg => ((h.codes r hr).apart2 h.rows (by decide)) j hj hg).keep fun j hj _ => far j (by have := h.freshC r hr j hj; omega)
      · rw [List.mem_singleton] at hr
        subst hr
        exact Row.nil _ _ _
    · simp only [List.length_append, List.length_singleton, Nat.add_sub_cancel] at hlast
      rw [List.getElem?_append_right (Nat.le_refl _), Nat.sub_self] at hlast
      simp at hlast
      subst hlast
      simp [InA]
    · refine (h.spans.through hkw fun j hj hg => (h.spans.apart2 h.rows (by decide)) j hj hg).keep fun j hj _ => far j (by have := h.fresh j (.inr (.inl hj)); omega)
    · refine (h.wires.through hkw fun j hj hg => (h.wires.apart2 h.rows (by decide)) j hj hg).keep fun j hj _ => far j (by have := h.fresh j (.inr (.inr hj)); omega)
    · rintro j (hj | hj | hj)
      · exact fresh' j hj
      · exact h.fresh j (.inr (.inl hj))
      · exact h.fresh j (.inr (.inr hj))
    · rcases List.mem_append.1 hr with hr | hr
      · exact h.freshC r hr j hj
      · rw [List.mem_singleton] at hr
        subst hr
        simp [InA] at hj
    · rw [sz_set]; have := hkw.size; omega
    · exact (hkw.mono (G := rdF m b) fun j _ hj => .inr (.inl hj)).setCell (.inl (.inl rfl)) _
  clear hblk hrow hrd hsd hkd hfr h hl2 hq
  go_enter Tryz.func125, Tryz.ntmps125
  go_wp2_with (at_builtin; refine wpList_append_row _ rfl _ _ 22 rfl 43 i0 (.slice none 0 0) 1 24 Tryz.underlying22 hi0 hz0 hz1 hz2 rfl (by decide) m.A q m.c (m.ros.flatMap Ro.cells) rfl (by rw [← hwd]; exact HRD.out) (some ⟨w.heap.size, 0, none⟩) 1 1 [.slice none 0 0] rfl (by rw [← hwd]; exact HSD.out) (by intro u hu; simp at hu; subst hu; rfl) (by unfold maxLen; omega) (by omega) ?_)
  intro A' c' w4 hr4 hk4 hn4
  have hsz : wd.heap.size = w.heap.size + 1 := by rw [hwd]; exact sz_alloc _ _
  rw [← hwd] at hk4
  rw [← hsz] at hn4
  clear hsz
  obtain ⟨d0, d1⟩ := HBL.out w4 hk4
  have d2 := d0.trans H.out.blk
  unfold rdCells at d2
  have d3 := blk_cell d2 0
  have d4 := blk_free d2 0
  simp at d3
  have HR4 := hid hr4
  have HK4 := hid hk4
  have HN4 := hid hn4
  clear hr4 hk4 hn4 d0 d2
  go_wp2_with fail
  go_end0
  obtain ⟨m', h1, h2, h3⟩ := FIN.out _ _ _ HR4.out HK4.out HN4.out
  exact ⟨m', h1, rfl, h2, h3⟩
end
end Go.Proofs.YtldllmhgofacbaaGreatDoor

/- Package plan: the contract of take, for a span and for a wire. Conditions: none. -/
namespace Go.Proofs.YtldllmhgofacbaaGreatDoor
open Go.RowKit
set_option maxRecDepth 100000

section
variable {base b : Nat} {w : World} {m : PM}
theorem Tryz.infoRdSpan : (Tryz.prog.info? 115).map (fun i => (i.zero, i.size, i.bytes)) = some (some (.agg #[.int .i64 0, .int .i64 0, .int .i64 0]), 3, 24) := by kernel_rfl
set_option maxHeartbeats 4000000 in
theorem take_span (h : RdAt base w b m 1 true) (hfew : m.spans.length ≤ 1073741824) {A : Option Addr} {c N0 N1 N2 : Nat} (hn : Row w 3 1 A 3 c (ints ([N0, N1, N2].map Int.ofNat))) :
    Calls Tryz.prog 125 #[.pointer (some ⟨b, 0, none⟩), .slice A 3 c] w fun e w' => ∃ m' : PM, m'.pl = (⟨m.pl.code, m.pl.ticks, m.pl.spans ++ [⟨(N0 : Nat), (N1 : Nat), (N2 : Nat)⟩], m.pl.wires⟩ : Pl) ∧ e = .returned (.tuple #[]) ∧ RdAt base w' b m' 1 true ∧ Keep (rdF m b) w w' := by
  obtain ⟨nb, no, rfl, hnl, gx⟩ := nums_four hn.sl (by decide)
  have hna : ¬ InA m.sA nb := fun hj => hn.apart2 h.spans (by decide) nb rfl hj
  have hnb : nb ≠ b := fun e => hn.apart h.blk (by decide) (by rw [e]; rfl)
  obtain ⟨i0, hi0, hz0, hz1, hz2⟩ := info_parts Tryz.infoRdSpan
  have g0 := gx 0 N0 rfl
  have g1 := gx 1 N1 rfl
  have g2 := gx 2 N2 rfl
  rw [Nat.add_zero] at g0
  have hblk := h.blk
  unfold rdCells at hblk
  have x2 := blk_cell hblk 2
  have x4 := blk_cell hblk 4
  have xf := fun o => blk_free hblk o
  have hl := blk_lt hblk
  simp at x2 x4
  have hl2 := h.low
  obtain ⟨q, hq⟩ : ∃ q, q = m.spans.length := ⟨_, rfl⟩
  have hrow := h.spans
  rw [← hq] at x2 hrow hfew
  obtain ⟨wd, hwd⟩ : ∃ wd, wd = (w.alloc (.cells #[.int .i64 N0, .int .i64 N1, .int .i64 N2] 115)).drew := ⟨_, rfl⟩
  have hrd : Row wd 115 3 m.sA q m.sc (m.spans.flatMap Span.cells) := by rw [hwd]; exact hrow.alloc _
  have hsd : Sl wd (some ⟨w.heap.size, 0, none⟩) 3 1 [.int .i64 N0, .int .i64 N1, .int .i64 N2] := by rw [hwd]; exact sl_blk (heap_alloc_new w _) 3 1 _ rfl rfl
  have hkd : Keep NoF w wd := by rw [hwd]; exact ((Keep.refl _ _).alloc _).drew
  have hfr : ∀ j, InA m.sA j → base ≤ j := fun j hj => h.fresh j (.inr (.inl hj))
  have H := hid h
  have HQ := hid hq
  have HKD := hid hkd
  have HRD := hid hrd
  have HSD := hid hsd
  have HFR := hid hfr
  have HBL : Hid (∀ w4, Keep (InA m.sA) wd w4 → w4.heap[b]? = w.heap[b]? ∧ b < w4.heap.size) := hid fun w4 hk => by
    have h1 := hkd.size
    exact ⟨(hk.block b (by omega) fun hj => by have := hfr b hj; omega).trans (hkd.block b hl fun hj => hj.elim), by have := hk.size; omega⟩
  have FIN : Hid (∀ A' c' w4, Row w4 115 3 A' (q + 1) c' (m.spans.flatMap Span.cells ++ [.int .i64 N0, .int .i64 N1, .int .i64 N2]) → Keep (InA m.sA) wd w4 → (∀ j, InA A' j → InA m.sA j ∨ wd.heap.size ≤ j) →
      ∃ m' : PM, m'.pl = (⟨m.pl.code, m.pl.ticks, m.pl.spans ++ [⟨(N0 : Nat), (N1 : Nat), (N2 : Nat)⟩], m.pl.wires⟩ : Pl) ∧ RdAt base (w4.setCell ⟨b, 2, none⟩ (.slice A' (q + 1) c')) b m' 1 true ∧ Keep (rdF m b) w (w4.setCell ⟨b, 2, none⟩ (.slice A' (q + 1) c'))) := hid fun A' c' w4 hr4 hk4 hn4 => by
    have h1 := hkd.size
    have hbig := h.big
    have hkw : Keep (InA m.sA) w w4 := (hkd.mono (G := InA m.sA) fun j _ hj => hj.elim).then hk4 fun _ _ hj => hj
    have far : ∀ j, j ≠ b → (w4.setCell ⟨b, 2, none⟩ (.slice A' (q + 1) c')).heap[j]? = w4.heap[j]? := fun j hj => blk_far (p := ⟨b, 2, none⟩) (by simp; omega) _
    have hb4 : w4.heap[b]? = _ := (HBL.out w4 hk4).1.trans hblk
    have fresh' : ∀ j, InA A' j → base ≤ j := fun j hj => (hn4 j hj).elim (fun h => hfr j h) fun h => by omega
    refine ⟨⟨m.A, m.c, m.ros, m.ticks, A', c', m.spans ++ [⟨(N0 : Nat), (N1 : Nat), (N2 : Nat)⟩], m.wA, m.wc, m.wires⟩, rfl, ⟨?_, ?_, fun r hr => ?_, h.apart, ?_, ?_, ?_, h.freshC, hl2, ?_⟩, ?_⟩
    · refine (blk_set hb4 2 _).trans ?_
      unfold rdCells
      simp only [List.length_append, List.length_singleton, ← hq]
      rfl
    · refine ((h.rows.through hkw fun j hj hg => (h.rows.apart2 h.spans (by decide)) j hj hg)).keep fun j hj _ => far j (by have := h.fresh j (.inl hj); omega)
    · refine ((h.codes r hr).through hkw fun j hj hg => ((h.codes r hr).apart2 h.spans (by decide)) j hj hg).keep fun j hj _ => far j (by have := h.freshC r hr j hj; omega)
    · have e : (m.spans ++ [(⟨(N0 : Nat), (N1 : Nat), (N2 : Nat)⟩ : Span)]).flatMap Span.cells = m.spans.flatMap Span.cells ++ [.int .i64 N0, .int .i64 N1, .int .i64 N2] := by rw [List.flatMap_append]; rfl
      simp only [List.length_append, List.length_singleton, ← hq]
      rw [e]
      exact hr4.keep fun j hj _ => far j (by have := fresh' j hj; omega)
    · refine (h.wires.through hkw fun j hj hg => (h.wires.apart2 h.spans (by decide)) j hj hg).keep fun j hj _ => far j (by have := h.fresh j (.inr (.inr hj)); omega)
    · rintro j (hj | hj | hj)
      · exact h.fresh j (.inl hj)
      · exact fresh' j hj
      · exact h.fresh j (.inr (.inr hj))
    · rw [sz_set]; have := hkw.size; omega
    · exact (hkw.mono (G := rdF m b) fun j _ hj => .inr (.inr (.inl hj))).setCell (.inl (.inl rfl)) _
  have HNA := hid hna
  have HS4 : Hid (∀ w4, Keep (InA m.sA) wd w4 → w4.cell? ⟨nb, no, none⟩ = some (.int .i64 N0) ∧ w4.cell? ⟨nb, no + 1, none⟩ = some (.int .i64 N1) ∧ w4.cell? ⟨nb, no + 2, none⟩ = some (.int .i64 N2)) := hid fun w4 hk => by
    have q : ∀ o, w4.cell? ⟨nb, o, none⟩ = w.cell? ⟨nb, o, none⟩ := fun o => (hk.cell (Nat.lt_of_lt_of_le hnl hkd.size) hna).trans (hkd.cell hnl fun hj => hj.elim)
    exact ⟨(q _).trans g0, (q _).trans g1, (q _).trans g2⟩
  have HSA : Hid (wd.cell? ⟨nb, no, none⟩ = some (.int .i64 N0) ∧ wd.cell? ⟨nb, no + 1, none⟩ = some (.int .i64 N1) ∧ wd.cell? ⟨nb, no + 2, none⟩ = some (.int .i64 N2)) := hid (by
    rw [hwd]
    have q : ∀ o, (w.alloc (.cells #[.int .i64 N0, .int .i64 N1, .int .i64 N2] 115)).drew.cell? ⟨nb, o, none⟩ = w.cell? ⟨nb, o, none⟩ := fun o => World.cell?_alloc_lt w _ ⟨nb, o, none⟩ hnl
    exact ⟨(q _).trans g0, (q _).trans g1, (q _).trans g2⟩)
  have HSS : Hid (∀ (w4 : World) (v : Value), w4.cell? ⟨nb, no, none⟩ = some (.int .i64 N0) ∧ w4.cell? ⟨nb, no + 1, none⟩ = some (.int .i64 N1) ∧ w4.cell? ⟨nb, no + 2, none⟩ = some (.int .i64 N2) → (w4.setCell ⟨b, 2, none⟩ v).cell? ⟨nb, no, none⟩ = some (.int .i64 N0) ∧ (w4.setCell ⟨b, 2, none⟩ v).cell? ⟨nb, no + 1, none⟩ = some (.int .i64 N1) ∧ (w4.setCell ⟨b, 2, none⟩ v).cell? ⟨nb, no + 2, none⟩ = some (.int .i64 N2)) := hid fun w4 v h => by
    have q : ∀ o, (w4.setCell ⟨b, 2, none⟩ v).cell? ⟨nb, o, none⟩ = w4.cell? ⟨nb, o, none⟩ := fun o => World.cell?_of_block (blk_far (p := ⟨b, 2, none⟩) (fun e => hnb e) v)
    exact ⟨(q _).trans h.1, (q _).trans h.2.1, (q _).trans h.2.2⟩
  clear hblk hrow hrd hsd hkd hfr h hn gx hl2 hq hna
  go_enter Tryz.func125, Tryz.ntmps125
  go_upto_region 5 with fail
  refine wp_region_held_drew (S := (fun w' => w'.cell? ⟨nb, no, none⟩ = some (.int .i64 N0) ∧ w'.cell? ⟨nb, no + 1, none⟩ = some (.int .i64 N1) ∧ w'.cell? ⟨nb, no + 2, none⟩ = some (.int .i64 N2))) (by kernel_rfl) ?_ (fun hHeld => ?_)
  · exact ⟨g0, g1, g2⟩
  refine wpAnyH_take (i := 0) (v := ?v1) rfl (by kernel_rfl) (by kernel_rfl) (by kernel_rfl) (fun _ _ _ h => h) (Or.inl ⟨by rfl, ?hy1⟩) (by assumption) ?rest1
  case hy1 => (intro w hSw; (try dsimp only at hSw); (try simp only [List.getElem_toArray, List.getElem_cons_zero]); go_simp; (try with_reducible rfl))
  (try simp only [Act.put, List.getElem_toArray, List.getElem_cons_zero, List.setIfInBounds_toArray, List.set_cons_zero, List.set_cons_succ])
  refine wpAnyH_take (i := 1) (v := ?v2) rfl (by kernel_rfl) (by kernel_rfl) (by kernel_rfl) (fun _ _ _ h => h) (Or.inl ⟨by rfl, ?hy2⟩) (by assumption) ?rest2
  case hy2 => (intro w hSw; (try dsimp only at hSw); (try simp only [List.getElem_toArray, List.getElem_cons_zero, List.getElem_cons_succ]); go_simp; (try with_reducible rfl))
  (try simp only [Act.put, List.getElem_toArray, List.getElem_cons_zero, List.getElem_cons_succ, List.setIfInBounds_toArray, List.set_cons_zero, List.set_cons_succ])
  refine wpAnyH_take (i := 2) (v := ?v3) rfl (by kernel_rfl) (by kernel_rfl) (by kernel_rfl) (fun _ _ _ h => h) (Or.inl ⟨by rfl, ?hy3⟩) (by assumption) ?rest3
  case hy3 => (intro w hSw; (try dsimp only at hSw); (try simp only [List.getElem_toArray, List.getElem_cons_zero, List.getElem_cons_succ]); go_simp; (try with_reducible rfl))
  (try simp only [Act.put, List.getElem_toArray, List.getElem_cons_zero, List.getElem_cons_succ, List.setIfInBounds_toArray, List.set_cons_zero, List.set_cons_succ])
  refine wpAnyH_take (i := 3) (v := ?v4) rfl (by kernel_rfl) (by kernel_rfl) (by kernel_rfl) (fun _ _ _ h => h) (Or.inl ⟨by rfl, ?hy4⟩) (by assumption) ?rest4
  case hy4 => (intro w hSw; (try dsimp only at hSw); (try simp only [List.getElem_toArray, List.getElem_cons_zero, List.getElem_cons_succ]); go_simp; (try with_reducible rfl))
  (try simp only [Act.put, List.getElem_toArray, List.getElem_cons_zero, List.getElem_cons_succ, List.setIfInBounds_toArray, List.set_cons_zero, List.set_cons_succ])
  refine wpAnyH_take (i := 4) (v := ?v5) rfl (by kernel_rfl) (by kernel_rfl) (by kernel_rfl) (fun _ _ _ h => h) (Or.inl ⟨by rfl, ?hy5⟩) (by assumption) ?rest5
  case hy5 => (intro w hSw; (try dsimp only at hSw); (try simp only [List.getElem_toArray, List.getElem_cons_zero, List.getElem_cons_succ]); go_simp; (try with_reducible rfl))
  (try simp only [Act.put, List.getElem_toArray, List.getElem_cons_zero, List.getElem_cons_succ, List.setIfInBounds_toArray, List.set_cons_zero, List.set_cons_succ])
  refine wpAnyH_take (i := 6) (v := ?v6) rfl (by kernel_rfl) (by kernel_rfl) (by kernel_rfl) (fun _ _ _ h => h) (Or.inl ⟨by rfl, ?hy6⟩) (by assumption) ?rest6
  case hy6 => (intro w hSw; (try dsimp only at hSw); (try simp only [List.getElem_toArray, List.getElem_cons_zero, List.getElem_cons_succ]); go_simp; (try with_reducible rfl))
  (try simp only [Act.put, List.getElem_toArray, List.getElem_cons_zero, List.getElem_cons_succ, List.setIfInBounds_toArray, List.set_cons_zero, List.set_cons_succ])
  refine wpAnyH_take (i := 7) (v := ?v7) rfl (by kernel_rfl) (by kernel_rfl) (by kernel_rfl) (fun _ _ _ h => h) (Or.inl ⟨by rfl, ?hy7⟩) (by assumption) ?rest7
  case hy7 => (intro w hSw; (try dsimp only at hSw); (try simp only [List.getElem_toArray, List.getElem_cons_zero, List.getElem_cons_succ]); go_simp; (try with_reducible rfl))
  (try simp only [Act.put, List.getElem_toArray, List.getElem_cons_zero, List.getElem_cons_succ, List.setIfInBounds_toArray, List.set_cons_zero, List.set_cons_succ])
  refine wpAnyH_take (i := 8) (v := ?v8) rfl (by kernel_rfl) (by kernel_rfl) (by kernel_rfl) (fun _ _ _ h => h) (Or.inl ⟨by rfl, ?hy8⟩) (by assumption) ?rest8
  case hy8 => (intro w hSw; (try dsimp only at hSw); (try simp only [List.getElem_toArray, List.getElem_cons_zero, List.getElem_cons_succ]); go_simp; (try with_reducible rfl))
  (try simp only [Act.put, List.getElem_toArray, List.getElem_cons_zero, List.getElem_cons_succ, List.setIfInBounds_toArray, List.set_cons_zero, List.set_cons_succ])
  refine wpAnyH_take (i := 9) (v := ?v9) rfl (by kernel_rfl) (by kernel_rfl) (by kernel_rfl) (fun _ _ _ h => h) (Or.inl ⟨by rfl, ?hy9⟩) (by assumption) ?rest9
  case hy9 => (intro w hSw; (try dsimp only at hSw); (try simp only [List.getElem_toArray, List.getElem_cons_zero, List.getElem_cons_succ]); go_simp; (try with_reducible rfl))
  (try simp only [Act.put, List.getElem_toArray, List.getElem_cons_zero, List.getElem_cons_succ, List.setIfInBounds_toArray, List.set_cons_zero, List.set_cons_succ])
  refine wpAnyH_take (i := 10) (v := ?v10) rfl (by kernel_rfl) (by kernel_rfl) (by kernel_rfl) (fun _ _ _ h => h) (Or.inl ⟨by rfl, ?hy10⟩) (by assumption) ?rest10
  case hy10 => (intro w hSw; (try dsimp only at hSw); (try simp only [List.getElem_toArray, List.getElem_cons_zero, List.getElem_cons_succ]); go_simp; (try with_reducible rfl))
  (try simp only [Act.put, List.getElem_toArray, List.getElem_cons_zero, List.getElem_cons_succ, List.setIfInBounds_toArray, List.set_cons_zero, List.set_cons_succ])
  refine wpAnyH_take (i := 11) (v := ?v11) rfl (by kernel_rfl) (by kernel_rfl) (by kernel_rfl) (fun _ _ _ h => h) (Or.inl ⟨by rfl, ?hy11⟩) (by assumption) ?rest11
  case hy11 => (intro w hSw; (try dsimp only at hSw); (try simp only [List.getElem_toArray, List.getElem_cons_zero, List.getElem_cons_succ]); go_simp; (try with_reducible rfl))
  (try simp only [Act.put, List.getElem_toArray, List.getElem_cons_zero, List.getElem_cons_succ, List.setIfInBounds_toArray, List.set_cons_zero, List.set_cons_succ])
  refine wpAnyH_take (i := 12) (v := ?v12) rfl (by kernel_rfl) (by kernel_rfl) (by kernel_rfl) (fun _ _ _ h => h) (Or.inl ⟨by rfl, ?hy12⟩) (by assumption) ?rest12
  case hy12 => (intro w hSw; (try dsimp only at hSw); (try simp only [List.getElem_toArray, List.getElem_cons_zero, List.getElem_cons_succ]); go_simp; (try with_reducible rfl))
  (try simp only [Act.put, List.getElem_toArray, List.getElem_cons_zero, List.getElem_cons_succ, List.setIfInBounds_toArray, List.set_cons_zero, List.set_cons_succ])
  refine wpAnyH_take (i := 13) (v := ?v13) rfl (by kernel_rfl) (by kernel_rfl) (by kernel_rfl) (fun _ _ _ h => h) (Or.inl ⟨by rfl, ?hy13⟩) (by assumption) ?rest13
  case hy13 => (intro w hSw; (try dsimp only at hSw); (try simp only [List.getElem_toArray, List.getElem_cons_zero, List.getElem_cons_succ]); go_simp; (try with_reducible rfl))
  (try simp only [Act.put, List.getElem_toArray, List.getElem_cons_zero, List.getElem_cons_succ, List.setIfInBounds_toArray, List.set_cons_zero, List.set_cons_succ])
  refine wpAnyH_take (i := 14) (v := ?v14) rfl (by kernel_rfl) (by kernel_rfl) (by kernel_rfl) (fun _ _ _ h => h) (Or.inl ⟨by rfl, ?hy14⟩) (by assumption) ?rest14
  case hy14 => (intro w hSw; (try dsimp only at hSw); (try simp only [List.getElem_toArray, List.getElem_cons_zero, List.getElem_cons_succ]); go_simp; (try with_reducible rfl))
  (try simp only [Act.put, List.getElem_toArray, List.getElem_cons_zero, List.getElem_cons_succ, List.setIfInBounds_toArray, List.set_cons_zero, List.set_cons_succ])
  refine wpAnyH_take (i := 15) (v := ?v15) rfl (by kernel_rfl) (by kernel_rfl) (by kernel_rfl) (fun _ _ _ h => h) (Or.inl ⟨by rfl, ?hy15⟩) (by assumption) ?rest15
  case hy15 => (intro w hSw; (try dsimp only at hSw); (try simp only [List.getElem_toArray, List.getElem_cons_zero, List.getElem_cons_succ]); go_simp; (try with_reducible rfl))
  (try simp only [Act.put, List.getElem_toArray, List.getElem_cons_zero, List.getElem_cons_succ, List.setIfInBounds_toArray, List.set_cons_zero, List.set_cons_succ])
  refine wpAnyH_ready (rs := [5, 16]) (by kernel_rfl) (by simp) ?_
  refine AllReadyH.cons rfl (fun K hK => ?_) (AllReadyH.cons rfl (fun K hK => ?_) AllReadyH.nil)
  · go_simp
    refine hK.out _ _ ?_ (fun hHeld => ?_)
    · exact ⟨g0, g1, g2⟩
    clear hK K
    (try simp only [Act.put, List.getElem_toArray, List.getElem_cons_zero, List.getElem_cons_succ, List.setIfInBounds_toArray, List.set_cons_zero, List.set_cons_succ])
    refine wpAnyH_ready (rs := [16]) (by kernel_rfl) (by simp) ?_
    refine AllReadyH.cons rfl (fun K hK => ?_) AllReadyH.nil
    go_simp
    refine hK.out _ _ ?_ (fun hHeld => ?_)
    · exact hwd ▸ HSA.out
    clear hK K
    (try simp only [Act.put, List.getElem_toArray, List.getElem_cons_zero, List.getElem_cons_succ, List.setIfInBounds_toArray, List.set_cons_zero, List.set_cons_succ])
    refine wpAnyH_ready (rs := [17]) (by kernel_rfl) (by simp) ?_
    refine AllReadyH.cons rfl (fun K hK => ?_) AllReadyH.nil
    refine step_append_row _ rfl _ _ 23 rfl 115 i0 _ 3 24 Tryz.underlying23 hi0 hz0 hz1 hz2 rfl (by decide) m.sA q m.sc (m.spans.flatMap Span.cells) rfl (by rw [← hwd]; exact HRD.out) (some ⟨w.heap.size, 0, none⟩) 1 1 [.int .i64 N0, .int .i64 N1, .int .i64 N2] rfl (by rw [← hwd]; exact HSD.out) (by intro u hu; simp at hu; rcases hu with rfl | rfl | rfl <;> rfl) (by unfold maxLen; omega) (by omega) ?_
    intro A' c' w4 hr4 hk4 hn4
    have hk4 := hwd ▸ hk4
    have hn4 := hwd ▸ hn4
    obtain ⟨d0, d1⟩ := HBL.out w4 hk4
    have d2 := d0.trans H.out.blk
    unfold rdCells at d2
    have d3 := blk_cell d2 2
    have d4 := blk_free d2 2
    simp at d3
    have HR4 := hid hr4
    have HK4 := hid hk4
    have HN4 := hid hn4
    clear hr4 hk4 hn4 d0 d2
    refine hK.out _ _ ?_ (fun hHeld => ?_)
    · exact HS4.out w4 HK4.out
    clear hK K
    (try simp only [Act.put, List.getElem_toArray, List.getElem_cons_zero, List.getElem_cons_succ, List.setIfInBounds_toArray, List.set_cons_zero, List.set_cons_succ])
    refine wpAnyH_take (i := 18) (v := ?v16) rfl (by kernel_rfl) (by kernel_rfl) (by kernel_rfl) (fun _ _ _ h => h) (Or.inl ⟨by rfl, ?hy16⟩) (by assumption) ?rest16
    case hy16 => (intro w hSw; (try dsimp only at hSw); (try simp only [List.getElem_toArray, List.getElem_cons_zero, List.getElem_cons_succ]); go_simp; (try with_reducible rfl))
    (try simp only [Act.put, List.getElem_toArray, List.getElem_cons_zero, List.getElem_cons_succ, List.setIfInBounds_toArray, List.set_cons_zero, List.set_cons_succ])
    refine wpAnyH_take (i := 19) (v := ?v17) rfl (by kernel_rfl) (by kernel_rfl) (by kernel_rfl) (fun _ _ _ h => h) (Or.inl ⟨by rfl, ?hy17⟩) (by assumption) ?rest17
    case hy17 => (intro w hSw; (try dsimp only at hSw); (try simp only [List.getElem_toArray, List.getElem_cons_zero, List.getElem_cons_succ]); go_simp; (try with_reducible rfl))
    (try simp only [Act.put, List.getElem_toArray, List.getElem_cons_zero, List.getElem_cons_succ, List.setIfInBounds_toArray, List.set_cons_zero, List.set_cons_succ])
    refine wpAnyH_take (i := 20) (v := ?v18) rfl (by kernel_rfl) (by kernel_rfl) (by kernel_rfl) (fun _ _ _ h => h) (Or.inl ⟨by rfl, ?hy18⟩) (by assumption) ?rest18
    case hy18 => (intro w hSw; (try dsimp only at hSw); (try simp only [List.getElem_toArray, List.getElem_cons_zero, List.getElem_cons_succ]); go_simp; (try with_reducible rfl))
    (try simp only [Act.put, List.getElem_toArray, List.getElem_cons_zero, List.getElem_cons_succ, List.setIfInBounds_toArray, List.set_cons_zero, List.set_cons_succ])
    refine wpAnyH_ready (rs := [21]) (by kernel_rfl) (by simp) ?_
    refine AllReadyH.cons rfl (fun K hK => ?_) AllReadyH.nil
    go_simp
    refine hK.out _ _ ?_ (fun hHeld => ?_)
    · exact HSS.out w4 _ (HS4.out w4 HK4.out)
    clear hK K
    (try simp only [Act.put, List.getElem_toArray, List.getElem_cons_zero, List.getElem_cons_succ, List.setIfInBounds_toArray, List.set_cons_zero, List.set_cons_succ])
    refine wpAnyH_done (by kernel_rfl) ?_ _
    go_wp2_with fail
    go_end0
    obtain ⟨m', h1, h2, h3⟩ := FIN.out _ _ _ HR4.out HK4.out HN4.out
    exact ⟨m', h1, rfl, h2, h3⟩
  · go_simp
    refine hK.out _ _ ?_ (fun hHeld => ?_)
    · exact hwd ▸ HSA.out
    clear hK K
    (try simp only [Act.put, List.getElem_toArray, List.getElem_cons_zero, List.getElem_cons_succ, List.setIfInBounds_toArray, List.set_cons_zero, List.set_cons_succ])
    refine wpAnyH_ready (rs := [5]) (by kernel_rfl) (by simp) ?_
    refine AllReadyH.cons rfl (fun K hK => ?_) AllReadyH.nil
    go_simp
    refine hK.out _ _ ?_ (fun hHeld => ?_)
    · exact hwd ▸ HSA.out
    clear hK K
    (try simp only [Act.put, List.getElem_toArray, List.getElem_cons_zero, List.getElem_cons_succ, List.setIfInBounds_toArray, List.set_cons_zero, List.set_cons_succ])
    refine wpAnyH_ready (rs := [17]) (by kernel_rfl) (by simp) ?_
    refine AllReadyH.cons rfl (fun K hK => ?_) AllReadyH.nil
    refine step_append_row _ rfl _ _ 23 rfl 115 i0 _ 3 24 Tryz.underlying23 hi0 hz0 hz1 hz2 rfl (by decide) m.sA q m.sc (m.spans.flatMap Span.cells) rfl (by rw [← hwd]; exact HRD.out) (some ⟨w.heap.size, 0, none⟩) 1 1 [.int .i64 N0, .int .i64 N1, .int .i64 N2] rfl (by rw [← hwd]; exact HSD.out) (by intro u hu; simp at hu; rcases hu with rfl | rfl | rfl <;> rfl) (by unfold maxLen; omega) (by omega) ?_
    intro A' c' w4 hr4 hk4 hn4
    have hk4 := hwd ▸ hk4
    have hn4 := hwd ▸ hn4
    obtain ⟨d0, d1⟩ := HBL.out w4 hk4
    have d2 := d0.trans H.out.blk
    unfold rdCells at d2
    have d3 := blk_cell d2 2
    have d4 := blk_free d2 2
    simp at d3
    have HR4 := hid hr4
    have HK4 := hid hk4
    have HN4 := hid hn4
    clear hr4 hk4 hn4 d0 d2
    refine hK.out _ _ ?_ (fun hHeld => ?_)
    · exact HS4.out w4 HK4.out
    clear hK K
    (try simp only [Act.put, List.getElem_toArray, List.getElem_cons_zero, List.getElem_cons_succ, List.setIfInBounds_toArray, List.set_cons_zero, List.set_cons_succ])
    refine wpAnyH_take (i := 18) (v := ?v19) rfl (by kernel_rfl) (by kernel_rfl) (by kernel_rfl) (fun _ _ _ h => h) (Or.inl ⟨by rfl, ?hy19⟩) (by assumption) ?rest19
    case hy19 => (intro w hSw; (try dsimp only at hSw); (try simp only [List.getElem_toArray, List.getElem_cons_zero, List.getElem_cons_succ]); go_simp; (try with_reducible rfl))
    (try simp only [Act.put, List.getElem_toArray, List.getElem_cons_zero, List.getElem_cons_succ, List.setIfInBounds_toArray, List.set_cons_zero, List.set_cons_succ])
    refine wpAnyH_take (i := 19) (v := ?v20) rfl (by kernel_rfl) (by kernel_rfl) (by kernel_rfl) (fun _ _ _ h => h) (Or.inl ⟨by rfl, ?hy20⟩) (by assumption) ?rest20
    case hy20 => (intro w hSw; (try dsimp only at hSw); (try simp only [List.getElem_toArray, List.getElem_cons_zero, List.getElem_cons_succ]); go_simp; (try with_reducible rfl))
    (try simp only [Act.put, List.getElem_toArray, List.getElem_cons_zero, List.getElem_cons_succ, List.setIfInBounds_toArray, List.set_cons_zero, List.set_cons_succ])
    refine wpAnyH_take (i := 20) (v := ?v21) rfl (by kernel_rfl) (by kernel_rfl) (by kernel_rfl) (fun _ _ _ h => h) (Or.inl ⟨by rfl, ?hy21⟩) (by assumption) ?rest21
    case hy21 => (intro w hSw; (try dsimp only at hSw); (try simp only [List.getElem_toArray, List.getElem_cons_zero, List.getElem_cons_succ]); go_simp; (try with_reducible rfl))
    (try simp only [Act.put, List.getElem_toArray, List.getElem_cons_zero, List.getElem_cons_succ, List.setIfInBounds_toArray, List.set_cons_zero, List.set_cons_succ])
    refine wpAnyH_ready (rs := [21]) (by kernel_rfl) (by simp) ?_
    refine AllReadyH.cons rfl (fun K hK => ?_) AllReadyH.nil
    go_simp
    refine hK.out _ _ ?_ (fun hHeld => ?_)
    · exact HSS.out w4 _ (HS4.out w4 HK4.out)
    clear hK K
    (try simp only [Act.put, List.getElem_toArray, List.getElem_cons_zero, List.getElem_cons_succ, List.setIfInBounds_toArray, List.set_cons_zero, List.set_cons_succ])
    refine wpAnyH_done (by kernel_rfl) ?_ _
    go_wp2_with fail
    go_end0
    obtain ⟨m', h1, h2, h3⟩ := FIN.out _ _ _ HR4.out HK4.out HN4.out
    exact ⟨m', h1, rfl, h2, h3⟩

theorem Tryz.infoRdWire : (Tryz.prog.info? 117).map (fun i => (i.zero, i.size, i.bytes)) = some (some (.agg #[.int .i64 0, .int .i64 0, .int .i64 0, .int .i64 0]), 4, 32) := by kernel_rfl
set_option maxHeartbeats 4000000 in
theorem take_wire (h : RdAt base w b m 2 true) (hfew : m.wires.length ≤ 1073741824) {A : Option Addr} {c N0 N1 N2 N3 : Nat} (hn : Row w 3 1 A 4 c (ints ([N0, N1, N2, N3].map Int.ofNat))) :
    Calls Tryz.prog 125 #[.pointer (some ⟨b, 0, none⟩), .slice A 4 c] w fun e w' => ∃ m' : PM, m'.pl = (⟨m.pl.code, m.pl.ticks, m.pl.spans, m.pl.wires ++ [⟨(N0 : Nat), (N1 : Nat), (N2 : Nat), (N3 : Nat)⟩]⟩ : Pl) ∧ e = .returned (.tuple #[]) ∧ RdAt base w' b m' 2 true ∧ Keep (rdF m b) w w' := by
  obtain ⟨nb, no, rfl, hnl, gx⟩ := nums_four hn.sl (by decide)
  have hna : ¬ InA m.wA nb := fun hj => hn.apart2 h.wires (by decide) nb rfl hj
  have hnb : nb ≠ b := fun e => hn.apart h.blk (by decide) (by rw [e]; rfl)
  obtain ⟨i0, hi0, hz0, hz1, hz2⟩ := info_parts Tryz.infoRdWire
  have g0 := gx 0 N0 rfl
  have g1 := gx 1 N1 rfl
  have g2 := gx 2 N2 rfl
  have g3 := gx 3 N3 rfl
  rw [Nat.add_zero] at g0
  have hblk := h.blk
  unfold rdCells at hblk
  have x3 := blk_cell hblk 3
  have x4 := blk_cell hblk 4
  have xf := fun o => blk_free hblk o
  have hl := blk_lt hblk
  simp at x3 x4
  have hl2 := h.low
  obtain ⟨q, hq⟩ : ∃ q, q = m.wires.length := ⟨_, rfl⟩
  have hrow := h.wires
  rw [← hq] at x3 hrow hfew
  obtain ⟨wd, hwd⟩ : ∃ wd, wd = (w.alloc (.cells #[.int .i64 N0, .int .i64 N1, .int .i64 N2, .int .i64 N3] 117)).drew := ⟨_, rfl⟩
  have hrd : Row wd 117 4 m.wA q m.wc (m.wires.flatMap Wire.cells) := by rw [hwd]; exact hrow.alloc _
  have hsd : Sl wd (some ⟨w.heap.size, 0, none⟩) 4 1 [.int .i64 N0, .int .i64 N1, .int .i64 N2, .int .i64 N3] := by rw [hwd]; exact sl_blk (heap_alloc_new w _) 4 1 _ rfl rfl
  have hkd : Keep NoF w wd := by rw [hwd]; exact ((Keep.refl _ _).alloc _).drew
  have hfr : ∀ j, InA m.wA j → base ≤ j := fun j hj => h.fresh j (.inr (.inr hj))
  have H := hid h
  have HQ := hid hq
  have HKD := hid hkd
  have HRD := hid hrd
  have HSD := hid hsd
  have HFR := hid hfr
  have HBL : Hid (∀ w4, Keep (InA m.wA) wd w4 → w4.heap[b]? = w.heap[b]? ∧ b < w4.heap.size) := hid fun w4 hk => by
    have h1 := hkd.size
    exact ⟨(hk.block b (by omega) fun hj => by have := hfr b hj; omega).trans (hkd.block b hl fun hj => hj.elim), by have := hk.size; omega⟩
  have FIN : Hid (∀ A' c' w4, Row w4 117 4 A' (q + 1) c' (m.wires.flatMap Wire.cells ++ [.int .i64 N0, .int .i64 N1, .int .i64 N2, .int .i64 N3]) → Keep (InA m.wA) wd w4 → (∀ j, InA A' j → InA m.wA j ∨ wd.heap.size ≤ j) →
      ∃ m' : PM, m'.pl = (⟨m.pl.code, m.pl.ticks, m.pl.spans, m.pl.wires ++ [⟨(N0 : Nat), (N1 : Nat), (N2 : Nat), (N3 : Nat)⟩]⟩ : Pl) ∧ RdAt base (w4.setCell ⟨b, 3, none⟩ (.slice A' (q + 1) c')) b m' 2 true ∧ Keep (rdF m b) w (w4.setCell ⟨b, 3, none⟩ (.slice A' (q + 1) c'))) := hid fun A' c' w4 hr4 hk4 hn4 => by
    have h1 := hkd.size
    have hbig := h.big
    have hkw : Keep (InA m.wA) w w4 := (hkd.mono (G := InA m.wA) fun j _ hj => hj.elim).then hk4 fun _ _ hj => hj
    have far : ∀ j, j ≠ b → (w4.setCell ⟨b, 3, none⟩ (.slice A' (q + 1) c')).heap[j]? = w4.heap[j]? := fun j hj => blk_far (p := ⟨b, 3, none⟩) (by simp; omega) _
    have hb4 : w4.heap[b]? = _ := (HBL.out w4 hk4).1.trans hblk
    have fresh' : ∀ j, InA A' j → base ≤ j := fun j hj => (hn4 j hj).elim (fun h => hfr j h) fun h => by omega
    refine ⟨⟨m.A, m.c, m.ros, m.ticks, m.sA, m.sc, m.spans, A', c', m.wires ++ [⟨(N0 : Nat), (N1 : Nat), (N2 : Nat), (N3 : Nat)⟩]⟩, rfl, ⟨?_, ?_, fun r hr => ?_, h.apart, ?_, ?_, ?_, h.freshC, hl2, ?_⟩, ?_⟩
    · refine (blk_set hb4 3 _).trans ?_
      unfold rdCells
      simp only [List.length_append, List.length_singleton, ← hq]
      rfl
    · refine ((h.rows.through hkw fun j hj hg => (h.rows.apart2 h.wires (by decide)) j hj hg)).keep fun j hj _ => far j (by have := h.fresh j (.inl hj); omega)
    · refine ((h.codes r hr).through hkw fun j hj hg => ((h.codes r hr).apart2 h.wires (by decide)) j hj hg).keep fun j hj _ => far j (by have := h.freshC r hr j hj; omega)
    · refine (h.spans.through hkw fun j hj hg => (h.spans.apart2 h.wires (by decide)) j hj hg).keep fun j hj _ => far j (by have := h.fresh j (.inr (.inl hj)); omega)
    · have e : (m.wires ++ [(⟨(N0 : Nat), (N1 : Nat), (N2 : Nat), (N3 : Nat)⟩ : Wire)]).flatMap Wire.cells = m.wires.flatMap Wire.cells ++ [.int .i64 N0, .int .i64 N1, .int .i64 N2, .int .i64 N3] := by rw [List.flatMap_append]; rfl
      simp only [List.length_append, List.length_singleton, ← hq]
      rw [e]
      exact hr4.keep fun j hj _ => far j (by have := fresh' j hj; omega)
    · rintro j (hj | hj | hj)
      · exact h.fresh j (.inl hj)
      · exact h.fresh j (.inr (.inl hj))
      · exact fresh' j hj
    · rw [sz_set]; have := hkw.size; omega
    · exact (hkw.mono (G := rdF m b) fun j _ hj => .inr (.inr (.inr hj))).setCell (.inl (.inl rfl)) _
  have HNA := hid hna
  have HS4 : Hid (∀ w4, Keep (InA m.wA) wd w4 → w4.cell? ⟨nb, no, none⟩ = some (.int .i64 N0) ∧ w4.cell? ⟨nb, no + 1, none⟩ = some (.int .i64 N1) ∧ w4.cell? ⟨nb, no + 2, none⟩ = some (.int .i64 N2) ∧ w4.cell? ⟨nb, no + 3, none⟩ = some (.int .i64 N3)) := hid fun w4 hk => by
    have q : ∀ o, w4.cell? ⟨nb, o, none⟩ = w.cell? ⟨nb, o, none⟩ := fun o => (hk.cell (Nat.lt_of_lt_of_le hnl hkd.size) hna).trans (hkd.cell hnl fun hj => hj.elim)
    exact ⟨(q _).trans g0, (q _).trans g1, (q _).trans g2, (q _).trans g3⟩
  have HSA : Hid (wd.cell? ⟨nb, no, none⟩ = some (.int .i64 N0) ∧ wd.cell? ⟨nb, no + 1, none⟩ = some (.int .i64 N1) ∧ wd.cell? ⟨nb, no + 2, none⟩ = some (.int .i64 N2) ∧ wd.cell? ⟨nb, no + 3, none⟩ = some (.int .i64 N3)) := hid (by
    rw [hwd]
    have q : ∀ o, (w.alloc (.cells #[.int .i64 N0, .int .i64 N1, .int .i64 N2, .int .i64 N3] 117)).drew.cell? ⟨nb, o, none⟩ = w.cell? ⟨nb, o, none⟩ := fun o => World.cell?_alloc_lt w _ ⟨nb, o, none⟩ hnl
    exact ⟨(q _).trans g0, (q _).trans g1, (q _).trans g2, (q _).trans g3⟩)
  have HSS : Hid (∀ (w4 : World) (v : Value), w4.cell? ⟨nb, no, none⟩ = some (.int .i64 N0) ∧ w4.cell? ⟨nb, no + 1, none⟩ = some (.int .i64 N1) ∧ w4.cell? ⟨nb, no + 2, none⟩ = some (.int .i64 N2) ∧ w4.cell? ⟨nb, no + 3, none⟩ = some (.int .i64 N3) → (w4.setCell ⟨b, 3, none⟩ v).cell? ⟨nb, no, none⟩ = some (.int .i64 N0) ∧ (w4.setCell ⟨b, 3, none⟩ v).cell? ⟨nb, no + 1, none⟩ = some (.int .i64 N1) ∧ (w4.setCell ⟨b, 3, none⟩ v).cell? ⟨nb, no + 2, none⟩ = some (.int .i64 N2) ∧ (w4.setCell ⟨b, 3, none⟩ v).cell? ⟨nb, no + 3, none⟩ = some (.int .i64 N3)) := hid fun w4 v h => by
    have q : ∀ o, (w4.setCell ⟨b, 3, none⟩ v).cell? ⟨nb, o, none⟩ = w4.cell? ⟨nb, o, none⟩ := fun o => World.cell?_of_block (blk_far (p := ⟨b, 3, none⟩) (fun e => hnb e) v)
    exact ⟨(q _).trans h.1, (q _).trans h.2.1, (q _).trans h.2.2.1, (q _).trans h.2.2.2⟩
  clear hblk hrow hrd hsd hkd hfr h hn gx hl2 hq hna
  go_enter Tryz.func125, Tryz.ntmps125
  go_upto_region 7 with fail
  refine wp_region_held_drew (S := (fun w' => w'.cell? ⟨nb, no, none⟩ = some (.int .i64 N0) ∧ w'.cell? ⟨nb, no + 1, none⟩ = some (.int .i64 N1) ∧ w'.cell? ⟨nb, no + 2, none⟩ = some (.int .i64 N2) ∧ w'.cell? ⟨nb, no + 3, none⟩ = some (.int .i64 N3))) (by kernel_rfl) ?_ (fun hHeld => ?_)
  · exact ⟨g0, g1, g2, g3⟩
  refine wpAnyH_take (i := 0) (v := ?v1) rfl (by kernel_rfl) (by kernel_rfl) (by kernel_rfl) (fun _ _ _ h => h) (Or.inl ⟨by rfl, ?hy1⟩) (by assumption) ?rest1
  case hy1 => (intro w hSw; (try dsimp only at hSw); (try simp only [List.getElem_toArray, List.getElem_cons_zero]); go_simp; (try with_reducible rfl))
  (try simp only [Act.put, List.getElem_toArray, List.getElem_cons_zero, List.setIfInBounds_toArray, List.set_cons_zero, List.set_cons_succ])
  refine wpAnyH_take (i := 1) (v := ?v2) rfl (by kernel_rfl) (by kernel_rfl) (by kernel_rfl) (fun _ _ _ h => h) (Or.inl ⟨by rfl, ?hy2⟩) (by assumption) ?rest2
  case hy2 => (intro w hSw; (try dsimp only at hSw); (try simp only [List.getElem_toArray, List.getElem_cons_zero, List.getElem_cons_succ]); go_simp; (try with_reducible rfl))
  (try simp only [Act.put, List.getElem_toArray, List.getElem_cons_zero, List.getElem_cons_succ, List.setIfInBounds_toArray, List.set_cons_zero, List.set_cons_succ])
  refine wpAnyH_take (i := 2) (v := ?v3) rfl (by kernel_rfl) (by kernel_rfl) (by kernel_rfl) (fun _ _ _ h => h) (Or.inl ⟨by rfl, ?hy3⟩) (by assumption) ?rest3
  case hy3 => (intro w hSw; (try dsimp only at hSw); (try simp only [List.getElem_toArray, List.getElem_cons_zero, List.getElem_cons_succ]); go_simp; (try with_reducible rfl))
  (try simp only [Act.put, List.getElem_toArray, List.getElem_cons_zero, List.getElem_cons_succ, List.setIfInBounds_toArray, List.set_cons_zero, List.set_cons_succ])
  refine wpAnyH_take (i := 3) (v := ?v4) rfl (by kernel_rfl) (by kernel_rfl) (by kernel_rfl) (fun _ _ _ h => h) (Or.inl ⟨by rfl, ?hy4⟩) (by assumption) ?rest4
  case hy4 => (intro w hSw; (try dsimp only at hSw); (try simp only [List.getElem_toArray, List.getElem_cons_zero, List.getElem_cons_succ]); go_simp; (try with_reducible rfl))
  (try simp only [Act.put, List.getElem_toArray, List.getElem_cons_zero, List.getElem_cons_succ, List.setIfInBounds_toArray, List.set_cons_zero, List.set_cons_succ])
  refine wpAnyH_take (i := 4) (v := ?v5) rfl (by kernel_rfl) (by kernel_rfl) (by kernel_rfl) (fun _ _ _ h => h) (Or.inl ⟨by rfl, ?hy5⟩) (by assumption) ?rest5
  case hy5 => (intro w hSw; (try dsimp only at hSw); (try simp only [List.getElem_toArray, List.getElem_cons_zero, List.getElem_cons_succ]); go_simp; (try with_reducible rfl))
  (try simp only [Act.put, List.getElem_toArray, List.getElem_cons_zero, List.getElem_cons_succ, List.setIfInBounds_toArray, List.set_cons_zero, List.set_cons_succ])
  refine wpAnyH_take (i := 6) (v := ?v6) rfl (by kernel_rfl) (by kernel_rfl) (by kernel_rfl) (fun _ _ _ h => h) (Or.inl ⟨by rfl, ?hy6⟩) (by assumption) ?rest6
  case hy6 => (intro w hSw; (try dsimp only at hSw); (try simp only [List.getElem_toArray, List.getElem_cons_zero, List.getElem_cons_succ]); go_simp; (try with_reducible rfl))
  (try simp only [Act.put, List.getElem_toArray, List.getElem_cons_zero, List.getElem_cons_succ, List.setIfInBounds_toArray, List.set_cons_zero, List.set_cons_succ])
  refine wpAnyH_take (i := 7) (v := ?v7) rfl (by kernel_rfl) (by kernel_rfl) (by kernel_rfl) (fun _ _ _ h => h) (Or.inl ⟨by rfl, ?hy7⟩) (by assumption) ?rest7
  case hy7 => (intro w hSw; (try dsimp only at hSw); (try simp only [List.getElem_toArray, List.getElem_cons_zero, List.getElem_cons_succ]); go_simp; (try with_reducible rfl))
  (try simp only [Act.put, List.getElem_toArray, List.getElem_cons_zero, List.getElem_cons_succ, List.setIfInBounds_toArray, List.set_cons_zero, List.set_cons_succ])
  refine wpAnyH_take (i := 8) (v := ?v8) rfl (by kernel_rfl) (by kernel_rfl) (by kernel_rfl) (fun _ _ _ h => h) (Or.inl ⟨by rfl, ?hy8⟩) (by assumption) ?rest8
  case hy8 => (intro w hSw; (try dsimp only at hSw); (try simp only [List.getElem_toArray, List.getElem_cons_zero, List.getElem_cons_succ]); go_simp; (try with_reducible rfl))
  (try simp only [Act.put, List.getElem_toArray, List.getElem_cons_zero, List.getElem_cons_succ, List.setIfInBounds_toArray, List.set_cons_zero, List.set_cons_succ])
  refine wpAnyH_take (i := 9) (v := ?v9) rfl (by kernel_rfl) (by kernel_rfl) (by kernel_rfl) (fun _ _ _ h => h) (Or.inl ⟨by rfl, ?hy9⟩) (by assumption) ?rest9
  case hy9 => (intro w hSw; (try dsimp only at hSw); (try simp only [List.getElem_toArray, List.getElem_cons_zero, List.getElem_cons_succ]); go_simp; (try with_reducible rfl))
  (try simp only [Act.put, List.getElem_toArray, List.getElem_cons_zero, List.getElem_cons_succ, List.setIfInBounds_toArray, List.set_cons_zero, List.set_cons_succ])
  refine wpAnyH_take (i := 10) (v := ?v10) rfl (by kernel_rfl) (by kernel_rfl) (by kernel_rfl) (fun _ _ _ h => h) (Or.inl ⟨by rfl, ?hy10⟩) (by assumption) ?rest10
  case hy10 => (intro w hSw; (try dsimp only at hSw); (try simp only [List.getElem_toArray, List.getElem_cons_zero, List.getElem_cons_succ]); go_simp; (try with_reducible rfl))
  (try simp only [Act.put, List.getElem_toArray, List.getElem_cons_zero, List.getElem_cons_succ, List.setIfInBounds_toArray, List.set_cons_zero, List.set_cons_succ])
  refine wpAnyH_take (i := 11) (v := ?v11) rfl (by kernel_rfl) (by kernel_rfl) (by kernel_rfl) (fun _ _ _ h => h) (Or.inl ⟨by rfl, ?hy11⟩) (by assumption) ?rest11
  case hy11 => (intro w hSw; (try dsimp only at hSw); (try simp only [List.getElem_toArray, List.getElem_cons_zero, List.getElem_cons_succ]); go_simp; (try with_reducible rfl))
  (try simp only [Act.put, List.getElem_toArray, List.getElem_cons_zero, List.getElem_cons_succ, List.setIfInBounds_toArray, List.set_cons_zero, List.set_cons_succ])
  refine wpAnyH_take (i := 12) (v := ?v12) rfl (by kernel_rfl) (by kernel_rfl) (by kernel_rfl) (fun _ _ _ h => h) (Or.inl ⟨by rfl, ?hy12⟩) (by assumption) ?rest12
  case hy12 => (intro w hSw; (try dsimp only at hSw); (try simp only [List.getElem_toArray, List.getElem_cons_zero, List.getElem_cons_succ]); go_simp; (try with_reducible rfl))
  (try simp only [Act.put, List.getElem_toArray, List.getElem_cons_zero, List.getElem_cons_succ, List.setIfInBounds_toArray, List.set_cons_zero, List.set_cons_succ])
  refine wpAnyH_take (i := 13) (v := ?v13) rfl (by kernel_rfl) (by kernel_rfl) (by kernel_rfl) (fun _ _ _ h => h) (Or.inl ⟨by rfl, ?hy13⟩) (by assumption) ?rest13
  case hy13 => (intro w hSw; (try dsimp only at hSw); (try simp only [List.getElem_toArray, List.getElem_cons_zero, List.getElem_cons_succ]); go_simp; (try with_reducible rfl))
  (try simp only [Act.put, List.getElem_toArray, List.getElem_cons_zero, List.getElem_cons_succ, List.setIfInBounds_toArray, List.set_cons_zero, List.set_cons_succ])
  refine wpAnyH_take (i := 14) (v := ?v14) rfl (by kernel_rfl) (by kernel_rfl) (by kernel_rfl) (fun _ _ _ h => h) (Or.inl ⟨by rfl, ?hy14⟩) (by assumption) ?rest14
  case hy14 => (intro w hSw; (try dsimp only at hSw); (try simp only [List.getElem_toArray, List.getElem_cons_zero, List.getElem_cons_succ]); go_simp; (try with_reducible rfl))
  (try simp only [Act.put, List.getElem_toArray, List.getElem_cons_zero, List.getElem_cons_succ, List.setIfInBounds_toArray, List.set_cons_zero, List.set_cons_succ])
  refine wpAnyH_take (i := 15) (v := ?v15) rfl (by kernel_rfl) (by kernel_rfl) (by kernel_rfl) (fun _ _ _ h => h) (Or.inl ⟨by rfl, ?hy15⟩) (by assumption) ?rest15
  case hy15 => (intro w hSw; (try dsimp only at hSw); (try simp only [List.getElem_toArray, List.getElem_cons_zero, List.getElem_cons_succ]); go_simp; (try with_reducible rfl))
  (try simp only [Act.put, List.getElem_toArray, List.getElem_cons_zero, List.getElem_cons_succ, List.setIfInBounds_toArray, List.set_cons_zero, List.set_cons_succ])
  refine wpAnyH_take (i := 16) (v := ?v16) rfl (by kernel_rfl) (by kernel_rfl) (by kernel_rfl) (fun _ _ _ h => h) (Or.inl ⟨by rfl, ?hy16⟩) (by assumption) ?rest16
  case hy16 => (intro w hSw; (try dsimp only at hSw); (try simp only [List.getElem_toArray, List.getElem_cons_zero, List.getElem_cons_succ]); go_simp; (try with_reducible rfl))
  (try simp only [Act.put, List.getElem_toArray, List.getElem_cons_zero, List.getElem_cons_succ, List.setIfInBounds_toArray, List.set_cons_zero, List.set_cons_succ])
  refine wpAnyH_take (i := 17) (v := ?v17) rfl (by kernel_rfl) (by kernel_rfl) (by kernel_rfl) (fun _ _ _ h => h) (Or.inl ⟨by rfl, ?hy17⟩) (by assumption) ?rest17
  case hy17 => (intro w hSw; (try dsimp only at hSw); (try simp only [List.getElem_toArray, List.getElem_cons_zero, List.getElem_cons_succ]); go_simp; (try with_reducible rfl))
  (try simp only [Act.put, List.getElem_toArray, List.getElem_cons_zero, List.getElem_cons_succ, List.setIfInBounds_toArray, List.set_cons_zero, List.set_cons_succ])
  refine wpAnyH_take (i := 18) (v := ?v18) rfl (by kernel_rfl) (by kernel_rfl) (by kernel_rfl) (fun _ _ _ h => h) (Or.inl ⟨by rfl, ?hy18⟩) (by assumption) ?rest18
  case hy18 => (intro w hSw; (try dsimp only at hSw); (try simp only [List.getElem_toArray, List.getElem_cons_zero, List.getElem_cons_succ]); go_simp; (try with_reducible rfl))
  (try simp only [Act.put, List.getElem_toArray, List.getElem_cons_zero, List.getElem_cons_succ, List.setIfInBounds_toArray, List.set_cons_zero, List.set_cons_succ])
  refine wpAnyH_ready (rs := [5, 19]) (by kernel_rfl) (by simp) ?_
  refine AllReadyH.cons rfl (fun K hK => ?_) (AllReadyH.cons rfl (fun K hK => ?_) AllReadyH.nil)
  · go_simp
    refine hK.out _ _ ?_ (fun hHeld => ?_)
    · exact ⟨g0, g1, g2, g3⟩
    clear hK K
    (try simp only [Act.put, List.getElem_toArray, List.getElem_cons_zero, List.getElem_cons_succ, List.setIfInBounds_toArray, List.set_cons_zero, List.set_cons_succ])
    refine wpAnyH_ready (rs := [19]) (by kernel_rfl) (by simp) ?_
    refine AllReadyH.cons rfl (fun K hK => ?_) AllReadyH.nil
    go_simp
    refine hK.out _ _ ?_ (fun hHeld => ?_)
    · exact hwd ▸ HSA.out
    clear hK K
    (try simp only [Act.put, List.getElem_toArray, List.getElem_cons_zero, List.getElem_cons_succ, List.setIfInBounds_toArray, List.set_cons_zero, List.set_cons_succ])
    refine wpAnyH_ready (rs := [20]) (by kernel_rfl) (by simp) ?_
    refine AllReadyH.cons rfl (fun K hK => ?_) AllReadyH.nil
    refine step_append_row _ rfl _ _ 24 rfl 117 i0 _ 4 32 Tryz.underlying24 hi0 hz0 hz1 hz2 rfl (by decide) m.wA q m.wc (m.wires.flatMap Wire.cells) rfl (by rw [← hwd]; exact HRD.out) (some ⟨w.heap.size, 0, none⟩) 1 1 [.int .i64 N0, .int .i64 N1, .int .i64 N2, .int .i64 N3] rfl (by rw [← hwd]; exact HSD.out) (by intro u hu; simp at hu; rcases hu with rfl | rfl | rfl | rfl <;> rfl) (by unfold maxLen; omega) (by omega) ?_
    intro A' c' w4 hr4 hk4 hn4
    have hk4 := hwd ▸ hk4
    have hn4 := hwd ▸ hn4
    obtain ⟨d0, d1⟩ := HBL.out w4 hk4
    have d2 := d0.trans H.out.blk
    unfold rdCells at d2
    have d3 := blk_cell d2 3
    have d4 := blk_free d2 3
    simp at d3
    have HR4 := hid hr4
    have HK4 := hid hk4
    have HN4 := hid hn4
    clear hr4 hk4 hn4 d0 d2
    refine hK.out _ _ ?_ (fun hHeld => ?_)
    · exact HS4.out w4 HK4.out
    clear hK K
    (try simp only [Act.put, List.getElem_toArray, List.getElem_cons_zero, List.getElem_cons_succ, List.setIfInBounds_toArray, List.set_cons_zero, List.set_cons_succ])
    refine wpAnyH_take (i := 21) (v := ?v19) rfl (by kernel_rfl) (by kernel_rfl) (by kernel_rfl) (fun _ _ _ h => h) (Or.inl ⟨by rfl, ?hy19⟩) (by assumption) ?rest19
    case hy19 => (intro w hSw; (try dsimp only at hSw); (try simp only [List.getElem_toArray, List.getElem_cons_zero, List.getElem_cons_succ]); go_simp; (try with_reducible rfl))
    (try simp only [Act.put, List.getElem_toArray, List.getElem_cons_zero, List.getElem_cons_succ, List.setIfInBounds_toArray, List.set_cons_zero, List.set_cons_succ])
    refine wpAnyH_take (i := 22) (v := ?v20) rfl (by kernel_rfl) (by kernel_rfl) (by kernel_rfl) (fun _ _ _ h => h) (Or.inl ⟨by rfl, ?hy20⟩) (by assumption) ?rest20
    case hy20 => (intro w hSw; (try dsimp only at hSw); (try simp only [List.getElem_toArray, List.getElem_cons_zero, List.getElem_cons_succ]); go_simp; (try with_reducible rfl))
    (try simp only [Act.put, List.getElem_toArray, List.getElem_cons_zero, List.getElem_cons_succ, List.setIfInBounds_toArray, List.set_cons_zero, List.set_cons_succ])
    refine wpAnyH_take (i := 23) (v := ?v21) rfl (by kernel_rfl) (by kernel_rfl) (by kernel_rfl) (fun _ _ _ h => h) (Or.inl ⟨by rfl, ?hy21⟩) (by assumption) ?rest21
    case hy21 => (intro w hSw; (try dsimp only at hSw); (try simp only [List.getElem_toArray, List.getElem_cons_zero, List.getElem_cons_succ]); go_simp; (try with_reducible rfl))
    (try simp only [Act.put, List.getElem_toArray, List.getElem_cons_zero, List.getElem_cons_succ, List.setIfInBounds_toArray, List.set_cons_zero, List.set_cons_succ])
    refine wpAnyH_ready (rs := [24]) (by kernel_rfl) (by simp) ?_
    refine AllReadyH.cons rfl (fun K hK => ?_) AllReadyH.nil
    go_simp
    refine hK.out _ _ ?_ (fun hHeld => ?_)
    · exact HSS.out w4 _ (HS4.out w4 HK4.out)
    clear hK K
    (try simp only [Act.put, List.getElem_toArray, List.getElem_cons_zero, List.getElem_cons_succ, List.setIfInBounds_toArray, List.set_cons_zero, List.set_cons_succ])
    refine wpAnyH_done (by kernel_rfl) ?_ _
    go_wp2_with fail
    go_end0
    obtain ⟨m', h1, h2, h3⟩ := FIN.out _ _ _ HR4.out HK4.out HN4.out
    exact ⟨m', h1, rfl, h2, h3⟩
  · go_simp
    refine hK.out _ _ ?_ (fun hHeld => ?_)
    · exact hwd ▸ HSA.out
    clear hK K
    (try simp only [Act.put, List.getElem_toArray, List.getElem_cons_zero, List.getElem_cons_succ, List.setIfInBounds_toArray, List.set_cons_zero, List.set_cons_succ])
    refine wpAnyH_ready (rs := [5]) (by kernel_rfl) (by simp) ?_
    refine AllReadyH.cons rfl (fun K hK => ?_) AllReadyH.nil
    go_simp
    refine hK.out _ _ ?_ (fun hHeld => ?_)
    · exact hwd ▸ HSA.out
    clear hK K
    (try simp only [Act.put, List.getElem_toArray, List.getElem_cons_zero, List.getElem_cons_succ, List.setIfInBounds_toArray, List.set_cons_zero, List.set_cons_succ])
    refine wpAnyH_ready (rs := [20]) (by kernel_rfl) (by simp) ?_
    refine AllReadyH.cons rfl (fun K hK => ?_) AllReadyH.nil
    refine step_append_row _ rfl _ _ 24 rfl 117 i0 _ 4 32 Tryz.underlying24 hi0 hz0 hz1 hz2 rfl (by decide) m.wA q m.wc (m.wires.flatMap Wire.cells) rfl (by rw [← hwd]; exact HRD.out) (some ⟨w.heap.size, 0, none⟩) 1 1 [.int .i64 N0, .int .i64 N1, .int .i64 N2, .int .i64 N3] rfl (by rw [← hwd]; exact HSD.out) (by intro u hu; simp at hu; rcases hu with rfl | rfl | rfl | rfl <;> rfl) (by unfold maxLen; omega) (by omega) ?_
    intro A' c' w4 hr4 hk4 hn4
    have hk4 := hwd ▸ hk4
    have hn4 := hwd ▸ hn4
    obtain ⟨d0, d1⟩ := HBL.out w4 hk4
    have d2 := d0.trans H.out.blk
    unfold rdCells at d2
    have d3 := blk_cell d2 3
    have d4 := blk_free d2 3
    simp at d3
    have HR4 := hid hr4
    have HK4 := hid hk4
    have HN4 := hid hn4
    clear hr4 hk4 hn4 d0 d2
    refine hK.out _ _ ?_ (fun hHeld => ?_)
    · exact HS4.out w4 HK4.out
    clear hK K
    (try simp only [Act.put, List.getElem_toArray, List.getElem_cons_zero, List.getElem_cons_succ, List.setIfInBounds_toArray, List.set_cons_zero, List.set_cons_succ])
    refine wpAnyH_take (i := 21) (v := ?v22) rfl (by kernel_rfl) (by kernel_rfl) (by kernel_rfl) (fun _ _ _ h => h) (Or.inl ⟨by rfl, ?hy22⟩) (by assumption) ?rest22
    case hy22 => (intro w hSw; (try dsimp only at hSw); (try simp only [List.getElem_toArray, List.getElem_cons_zero, List.getElem_cons_succ]); go_simp; (try with_reducible rfl))
    (try simp only [Act.put, List.getElem_toArray, List.getElem_cons_zero, List.getElem_cons_succ, List.setIfInBounds_toArray, List.set_cons_zero, List.set_cons_succ])
    refine wpAnyH_take (i := 22) (v := ?v23) rfl (by kernel_rfl) (by kernel_rfl) (by kernel_rfl) (fun _ _ _ h => h) (Or.inl ⟨by rfl, ?hy23⟩) (by assumption) ?rest23
    case hy23 => (intro w hSw; (try dsimp only at hSw); (try simp only [List.getElem_toArray, List.getElem_cons_zero, List.getElem_cons_succ]); go_simp; (try with_reducible rfl))
    (try simp only [Act.put, List.getElem_toArray, List.getElem_cons_zero, List.getElem_cons_succ, List.setIfInBounds_toArray, List.set_cons_zero, List.set_cons_succ])
    refine wpAnyH_take (i := 23) (v := ?v24) rfl (by kernel_rfl) (by kernel_rfl) (by kernel_rfl) (fun _ _ _ h => h) (Or.inl ⟨by rfl, ?hy24⟩) (by assumption) ?rest24
    case hy24 => (intro w hSw; (try dsimp only at hSw); (try simp only [List.getElem_toArray, List.getElem_cons_zero, List.getElem_cons_succ]); go_simp; (try with_reducible rfl))
    (try simp only [Act.put, List.getElem_toArray, List.getElem_cons_zero, List.getElem_cons_succ, List.setIfInBounds_toArray, List.set_cons_zero, List.set_cons_succ])
    refine wpAnyH_ready (rs := [24]) (by kernel_rfl) (by simp) ?_
    refine AllReadyH.cons rfl (fun K hK => ?_) AllReadyH.nil
    go_simp
    refine hK.out _ _ ?_ (fun hHeld => ?_)
    · exact HSS.out w4 _ (HS4.out w4 HK4.out)
    clear hK K
    (try simp only [Act.put, List.getElem_toArray, List.getElem_cons_zero, List.getElem_cons_succ, List.setIfInBounds_toArray, List.set_cons_zero, List.set_cons_succ])
    refine wpAnyH_done (by kernel_rfl) ?_ _
    go_wp2_with fail
    go_end0
    obtain ⟨m', h1, h2, h3⟩ := FIN.out _ _ _ HR4.out HK4.out HN4.out
    exact ⟨m', h1, rfl, h2, h3⟩
end
end Go.Proofs.YtldllmhgofacbaaGreatDoor

/- Package plan: a reader whose last code is given an op more, and what a reader abides. Conditions: none. -/
namespace Go.Proofs.YtldllmhgofacbaaGreatDoor
open Go.RowKit
set_option maxRecDepth 100000

theorem addOp_snoc : ∀ (c : List (List Op)) (d : List Op) (o : Op), addOp (c ++ [d]) o = c ++ [d ++ [o]]
  | [], _, _ => rfl
  | x :: c, d, o => by
    have ih := addOp_snoc c d o
    cases hc : c ++ [d] with
    | nil => simp at hc
    | cons y r =>
      rw [List.cons_append, hc]
      unfold addOp
      rw [← hc, ih]; rfl
theorem ros_set (init : List Ro) (r x : Ro) : (init ++ [r]).set init.length x = init ++ [x] := by simp
/-- Where the last code's header lies, and that it may be written. -/
theorem rd_last {base b part : Nat} {w : World} {m : PM} {bg : Bool} (h : RdAt base w b m part bg) {init : List Ro} {r : Ro} (hm : m.ros = init ++ [r]) :
    ∃ ab off, m.A = some ⟨ab, off, none⟩ ∧ w.cell? ⟨ab, off + init.length, none⟩ = some (.slice r.A r.ops.length r.c) ∧ ab < w.heap.size ∧ base ≤ ab := by
  obtain ⟨ab, off, hA, h1, h2, h3, _⟩ := h.rows.put1 Ro.cells Ro.len (i := init.length) (x := r) (by rw [hm]; simp) r (.slice r.A r.ops.length r.c) rfl
  exact ⟨ab, off, hA, h1, h3, h.fresh ab (.inl (by rw [hA]; simp [InA]))⟩
theorem rd_op {base b part : Nat} {w wd w4 : World} {m : PM} {bg : Bool} (h : RdAt base w b m part bg) (hkd : Keep NoF w wd) {init : List Ro} {r : Ro} {o : Op} (hm : m.ros = init ++ [r]) {A' : Option Addr} {c' n : Nat} (hn : r.ops.length = n)
    (hr4 : Row w4 42 3 A' (n + 1) c' (r.ops.flatMap Op.cells ++ [.int .i64 o.what, .int .i64 o.a, .int .i64 o.b])) (hk4 : Keep (InA r.A) wd w4) (hn4 : ∀ j, InA A' j → InA r.A j ∨ wd.heap.size ≤ j) {ab off : Nat} (hA : m.A = some ⟨ab, off, none⟩) :
    w4.frozen? ⟨ab, off + init.length, none⟩ = false ∧ ab < w4.heap.size ∧ w4.cell? ⟨ab, off + init.length, none⟩ = some (.slice r.A n r.c) ∧
    ∃ m' : PM, m'.pl = (⟨addOp m.pl.code o, m.pl.ticks, m.pl.spans, m.pl.wires⟩ : Pl) ∧ RdAt base (w4.setCell ⟨ab, off + init.length, none⟩ (.slice A' (n + 1) c')) b m' part bg ∧ Keep (fun j => rdF m b j ∨ InA r.A j) w (w4.setCell ⟨ab, off + init.length, none⟩ (.slice A' (n + 1) c')) := by
  subst hn
  have hrm : r ∈ m.ros := by rw [hm]; simp
  have hrr := h.codes r hrm
  have hs := hkd.size
  have hs4 := hk4.size
  have hbig := h.big
  have hl := h.low
  have hab : InA m.A ab := by rw [hA]; simp [InA]
  have habl := h.rows.lt ab hab
  have habb := h.fresh ab (.inl hab)
  have hkw : Keep (InA r.A) w w4 := (hkd.mono (G := InA r.A) fun j _ hj => hj.elim).then hk4 fun _ _ hj => hj
  have rows4 : Row w4 43 1 m.A m.ros.length m.c (m.ros.flatMap Ro.cells) := h.rows.through hkw fun j hj hg => h.rows.apart2 hrr (by decide) j hj hg
  obtain ⟨ab', off', hA', hcl, hfz, hlt, _, _, _, hput⟩ := rows4.put1 Ro.cells Ro.len (i := init.length) (x := r) (by rw [hm]; simp) ⟨A', c', r.ops ++ [o]⟩ (.slice A' (r.ops.length + 1) c') (by unfold Ro.cells; rw [List.length_append]; rfl)
  rw [hA] at hA'
  injection hA' with hA'
  injection hA' with e1 e2
  subst e1 e2
  refine ⟨hfz, hlt, hcl, ?_⟩
  have hset : m.ros.set init.length ⟨A', c', r.ops ++ [o]⟩ = init ++ [⟨A', c', r.ops ++ [o]⟩] := by rw [hm, ros_set]
  rw [hset] at hput
  have hlen : m.ros.length = init.length + 1 := by rw [hm]; simp
  have far : ∀ j, j ≠ ab → (w4.setCell ⟨ab, off + init.length, none⟩ (.slice A' (r.ops.length + 1) c')).heap[j]? = w4.heap[j]? := fun j hj => blk_far (p := ⟨ab, off + init.length, none⟩) (by simp; omega) _
  have hfr : ∀ j, InA A' j → base ≤ j ∧ j ≠ ab := fun j hj => by
    rcases hn4 j hj with hj | hj
    · exact ⟨h.freshC r hrm j hj, fun e => hrr.apart2 h.rows (by decide) j hj (by rw [e]; exact hab)⟩
    · exact ⟨by omega, by omega⟩
  refine ⟨⟨m.A, m.c, init ++ [⟨A', c', r.ops ++ [o]⟩], m.ticks, m.sA, m.sc, m.spans, m.wA, m.wc, m.wires⟩, ?_, ⟨?_, ?_, fun r' hr' => ?_, fun i r' last hi hlast hlt' j hj => ?_, ?_, ?_, h.fresh, fun r' hr' j hj => ?_, hl, ?_⟩, ?_⟩
  · unfold PM.pl
    simp only [List.map_append, List.map_cons, List.map_nil, hm]
    rw [addOp_snoc]
  · refine (far b (by omega)).trans ((hkw.block b (by omega) fun hj => by have := h.freshC r hrm b hj; omega).trans (h.blk.trans ?_))
    unfold rdCells
    rw [hlen]
    simp
  · simp only [List.length_append, List.length_singleton]
    rw [← hlen]; exact hput
  · rcases List.mem_append.1 hr' with hr' | hr'
    · have hr2 : r' ∈ m.ros := by rw [hm]; simp [hr']
      obtain ⟨i, hi⟩ := List.getElem?_of_mem hr'
      have hil := (List.getElem?_eq_some_iff.1 hi).1
      have hap := h.apart i r' r (by rw [hm, List.getElem?_append_left hil]; exact hi) (by rw [hlen, Nat.add_sub_cancel, hm]; simp) (by omega)
      have hc := (h.codes r' hr2).through hkw fun j hj hg => hap j hj hg
      exact hc.keep fun j hj _ => far j fun e => (h.codes r' hr2).apart2 h.rows (by decide) j hj (by rw [e]; exact hab)
    · rw [List.mem_singleton] at hr'
      subst hr'
      have e : (r.ops ++ [o]).flatMap Op.cells = r.ops.flatMap Op.cells ++ [.int .i64 o.what, .int .i64 o.a, .int .i64 o.b] := by rw [List.flatMap_append]; rfl
      simp only [List.length_append, List.length_singleton]
      rw [e]
      exact hr4.keep fun j hj _ => far j (hfr j hj).2
  · simp only [List.length_append, List.length_singleton] at hlt' hlast
    rw [Nat.add_sub_cancel, List.getElem?_append_right (Nat.le_refl _), Nat.sub_self] at hlast
    injection hlast with hlast
    subst hlast
    have hil : i < init.length := by omega
    simp only [] at hi
    rw [List.getElem?_append_left hil] at hi
    have hr2 : r' ∈ m.ros := by rw [hm]; exact List.mem_append_left _ (List.mem_of_getElem? hi)
    intro hj2
    rcases hn4 j hj2 with hj2 | hj2
    · exact h.apart i r' r (by rw [hm, List.getElem?_append_left hil]; exact hi) (by rw [hlen, Nat.add_sub_cancel, hm]; simp) (by omega) j hj hj2
    · have := (h.codes r' hr2).lt j hj; omega
  · refine (h.spans.through hkw fun j hj hg => h.spans.apart2 hrr (by decide) j hj hg).keep fun j hj _ => far j fun e => h.spans.apart2 h.rows (by decide) j hj (by rw [e]; exact hab)
  · refine (h.wires.through hkw fun j hj hg => h.wires.apart2 hrr (by decide) j hj hg).keep fun j hj _ => far j fun e => h.wires.apart2 h.rows (by decide) j hj (by rw [e]; exact hab)
  · rcases List.mem_append.1 hr' with hr' | hr'
    · exact h.freshC r' (by rw [hm]; simp [hr']) j hj
    · rw [List.mem_singleton] at hr'
      subst hr'
      exact (hfr j hj).1
  · rw [sz_set]; omega
  · exact (hkw.mono (G := fun j => rdF m b j ∨ InA r.A j) fun j _ hj => .inr hj).setCell (.inl (.inl (.inr (.inl hab)))) _
end Go.Proofs.YtldllmhgofacbaaGreatDoor

/- The reference's plan while it is read: as it lies, and what each line does to it. Conditions: none. -/
namespace Go.Proofs.YtldllmhgofacbaaGreatDoor
open Go.RowKit
set_option maxRecDepth 100000

def rpCells (m : PM) : Array Value := #[.slice m.A m.ros.length m.c, .int .i64 m.ticks, .slice m.sA m.spans.length m.sc, .slice m.wA m.wires.length m.wc]
/-- A plan that is read: all that has been read lies in memory from base on; it itself lies below. -/
structure RpAt (base : Nat) (w : World) (b : Nat) (m : PM) : Prop where
  blk : w.heap[b]? = some (.cells (rpCells m) 26 (0, 0))
  rows : Row w 43 1 m.A m.ros.length m.c (m.ros.flatMap Ro.cells)
  codes : ∀ r ∈ m.ros, Row w 42 3 r.A r.ops.length r.c (r.ops.flatMap Op.cells)
  apart : ∀ i r last, m.ros[i]? = some r → m.ros[m.ros.length - 1]? = some last → i + 1 < m.ros.length → ∀ j, InA r.A j → ¬ InA last.A j
  spans : Row w 115 3 m.sA m.spans.length m.sc (m.spans.flatMap Span.cells)
  wires : Row w 117 4 m.wA m.wires.length m.wc (m.wires.flatMap Wire.cells)
  fresh : ∀ j, InA m.A j ∨ InA m.sA j ∨ InA m.wA j → base ≤ j
  freshC : ∀ r ∈ m.ros, ∀ j, InA r.A j → base ≤ j
  low : b < base
  big : base ≤ w.heap.size
/-- What a step may write. -/
def rpF (m : PM) (b j : Nat) : Prop := j = b ∨ InA m.A j ∨ (∃ r ∈ m.ros, InA r.A j) ∨ InA m.sA j ∨ InA m.wA j
section
variable {base b : Nat} {w w' w0 wd w4 : World} {m : PM}
theorem RpAt.keep {G : Nat → Prop} (h : RpAt base w b m) (hk : Keep G w w') (hG : ∀ j, G j → j ≠ b ∧ (j < base ∨ w.heap.size ≤ j)) : RpAt base w' b m := by
  have hs := h.big
  have hl := h.low
  refine ⟨(hk.block b (by omega) fun hb => (hG b hb).1 rfl).trans h.blk, h.rows.through hk fun j hj hg => ?_, fun r hr => (h.codes r hr).through hk fun j hj hg => ?_, h.apart, h.spans.through hk fun j hj hg => ?_, h.wires.through hk fun j hj hg => ?_, h.fresh, h.freshC, hl, Nat.le_trans hs hk.size⟩
  · have := (hG j hg).2; have := h.fresh j (.inl hj); have := h.rows.lt j hj; omega
  · have := (hG j hg).2; have := h.freshC r hr j hj; have := (h.codes r hr).lt j hj; omega
  · have := (hG j hg).2; have := h.fresh j (.inr (.inl hj)); have := h.spans.lt j hj; omega
  · have := (hG j hg).2; have := h.fresh j (.inr (.inr hj)); have := h.wires.lt j hj; omega
theorem RpAt.new (h : RpAt base w b m) (hb : Below w.heap.size w w') : RpAt base w' b m :=
  h.keep (Keep.of_below NoF hb) fun _ hj => hj.elim
theorem rpF_low (h : RpAt base w b m) {j : Nat} (hj : rpF m b j) : j = b ∨ base ≤ j := by
  rcases hj with rfl | hj | ⟨r, hr, hj⟩ | hj | hj
  · exact .inl rfl
  · exact .inr (h.fresh j (.inl hj))
  · exact .inr (h.freshC r hr j hj)
  · exact .inr (h.fresh j (.inr (.inl hj)))
  · exact .inr (h.fresh j (.inr (.inr hj)))
theorem RpAt.below (h : RpAt base w b m) (hk : Keep (rpF m b) w w') (hw : Below w0.heap.size w0 w) (h0 : w0.heap.size ≤ b) : Below w0.heap.size w0 w' :=
  hw.trans (hk.below hw.size fun j hj => by have := h.low; rcases rpF_low h hj with rfl | hj <;> omega)
/-- A span more. -/
theorem rp_span (h : RpAt base w b m) (hkd : Keep NoF w wd) {q : Nat} (hq : m.spans.length = q) {x : Span} {A' : Option Addr} {c' : Nat} (hr4 : Row w4 115 3 A' (q + 1) c' (m.spans.flatMap Span.cells ++ x.cells)) (hk4 : Keep (InA m.sA) wd w4) (hn4 : ∀ j, InA A' j → InA m.sA j ∨ wd.heap.size ≤ j) :
    RpAt base (w4.setCell ⟨b, 2, none⟩ (.slice A' (q + 1) c')) b ⟨m.A, m.c, m.ros, m.ticks, A', c', m.spans ++ [x], m.wA, m.wc, m.wires⟩ ∧ Keep (rpF m b) w (w4.setCell ⟨b, 2, none⟩ (.slice A' (q + 1) c')) := by
  have h1 := hkd.size
  have hbig := h.big
  have hl2 := h.low
  have hfr : ∀ j, InA m.sA j → base ≤ j := fun j hj => h.fresh j (.inr (.inl hj))
  have hkw : Keep (InA m.sA) w w4 := (hkd.mono (G := InA m.sA) fun j _ hj => hj.elim).then hk4 fun _ _ hj => hj
  have far : ∀ j, j ≠ b → (w4.setCell ⟨b, 2, none⟩ (.slice A' (q + 1) c')).heap[j]? = w4.heap[j]? := fun j hj => blk_far (p := ⟨b, 2, none⟩) (by simp; omega) _
  have hb4 : w4.heap[b]? = _ := (hkw.block b (by omega) fun hj => by have := hfr b hj; omega).trans h.blk
  have fresh' : ∀ j, InA A' j → base ≤ j := fun j hj => (hn4 j hj).elim (fun h => hfr j h) fun h => by omega
  refine ⟨⟨?_, ?_, fun r hr => ?_, h.apart, ?_, ?_, ?_, h.freshC, hl2, ?_⟩, ?_⟩
  · refine (blk_set hb4 2 _).trans ?_
    unfold rpCells
    simp only [List.length_append, List.length_singleton, ← hq]
    rfl
  · refine ((h.rows.through hkw fun j hj hg => (h.rows.apart2 h.spans (by decide)) j hj hg)).keep fun j hj _ => far j (by have := h.fresh j (.inl hj); omega)
  · refine ((h.codes r hr).through hkw fun j hj hg => ((h.codes r hr).apart2 h.spans (by decide)) j hj hg).keep fun j hj _ => far j (by have := h.freshC r hr j hj; omega)
  · have e : (m.spans ++ [x]).flatMap Span.cells = m.spans.flatMap Span.cells ++ x.cells := by rw [List.flatMap_append]; simp
    simp only [List.length_append, List.length_singleton, hq]
    rw [e]
    exact hr4.keep fun j hj _ => far j (by have := fresh' j hj; omega)
  · refine (h.wires.through hkw fun j hj hg => (h.wires.apart2 h.spans (by decide)) j hj hg).keep fun j hj _ => far j (by have := h.fresh j (.inr (.inr hj)); omega)
  · rintro j (hj | hj | hj)
    · exact h.fresh j (.inl hj)
    · exact fresh' j hj
    · exact h.fresh j (.inr (.inr hj))
  · rw [sz_set]; have := hkw.size; omega
  · exact (hkw.mono (G := rpF m b) fun j _ hj => .inr (.inr (.inr (.inl hj)))).setCell (.inl (.inl rfl)) _
/-- A wire more. -/
theorem rp_wire (h : RpAt base w b m) (hkd : Keep NoF w wd) {q : Nat} (hq : m.wires.length = q) {x : Wire} {A' : Option Addr} {c' : Nat} (hr4 : Row w4 117 4 A' (q + 1) c' (m.wires.flatMap Wire.cells ++ x.cells)) (hk4 : Keep (InA m.wA) wd w4) (hn4 : ∀ j, InA A' j → InA m.wA j ∨ wd.heap.size ≤ j) :
    RpAt base (w4.setCell ⟨b, 3, none⟩ (.slice A' (q + 1) c')) b ⟨m.A, m.c, m.ros, m.ticks, m.sA, m.sc, m.spans, A', c', m.wires ++ [x]⟩ ∧ Keep (rpF m b) w (w4.setCell ⟨b, 3, none⟩ (.slice A' (q + 1) c')) := by
  have h1 := hkd.size
  have hbig := h.big
  have hl2 := h.low
  have hfr : ∀ j, InA m.wA j → base ≤ j := fun j hj => h.fresh j (.inr (.inr hj))
  have hkw : Keep (InA m.wA) w w4 := (hkd.mono (G := InA m.wA) fun j _ hj => hj.elim).then hk4 fun _ _ hj => hj
  have far : ∀ j, j ≠ b → (w4.setCell ⟨b, 3, none⟩ (.slice A' (q + 1) c')).heap[j]? = w4.heap[j]? := fun j hj => blk_far (p := ⟨b, 3, none⟩) (by simp; omega) _
  have hb4 : w4.heap[b]? = _ := (hkw.block b (by omega) fun hj => by have := hfr b hj; omega).trans h.blk
  have fresh' : ∀ j, InA A' j → base ≤ j := fun j hj => (hn4 j hj).elim (fun h => hfr j h) fun h => by omega
  refine ⟨⟨?_, ?_, fun r hr => ?_, h.apart, ?_, ?_, ?_, h.freshC, hl2, ?_⟩, ?_⟩
  · refine (blk_set hb4 3 _).trans ?_
    unfold rpCells
    simp only [List.length_append, List.length_singleton, ← hq]
    rfl
  · refine ((h.rows.through hkw fun j hj hg => (h.rows.apart2 h.wires (by decide)) j hj hg)).keep fun j hj _ => far j (by have := h.fresh j (.inl hj); omega)
  · refine ((h.codes r hr).through hkw fun j hj hg => ((h.codes r hr).apart2 h.wires (by decide)) j hj hg).keep fun j hj _ => far j (by have := h.freshC r hr j hj; omega)
  · refine (h.spans.through hkw fun j hj hg => (h.spans.apart2 h.wires (by decide)) j hj hg).keep fun j hj _ => far j (by have := h.fresh j (.inr (.inl hj)); omega)
  · have e : (m.wires ++ [x]).flatMap Wire.cells = m.wires.flatMap Wire.cells ++ x.cells := by rw [List.flatMap_append]; simp
    simp only [List.length_append, List.length_singleton, hq]
    rw [e]
    exact hr4.keep fun j hj _ => far j (by have := fresh' j hj; omega)
  · rintro j (hj | hj | hj)
    · exact h.fresh j (.inl hj)
    · exact h.fresh j (.inr (.inl hj))
    · exact fresh' j hj
  · rw [sz_set]; have := hkw.size; omega
  · exact (hkw.mono (G := rpF m b) fun j _ hj => .inr (.inr (.inr (.inr hj)))).setCell (.inl (.inl rfl)) _
/-- A room more. -/
theorem rp_room (h : RpAt base w b m) (hkd : Keep NoF w wd) {q : Nat} (hq : m.ros.length = q) {A' : Option Addr} {c' : Nat} (hr4 : Row w4 43 1 A' (q + 1) c' (m.ros.flatMap Ro.cells ++ [.slice none 0 0])) (hk4 : Keep (InA m.A) wd w4) (hn4 : ∀ j, InA A' j → InA m.A j ∨ wd.heap.size ≤ j) :
    RpAt base (w4.setCell ⟨b, 0, none⟩ (.slice A' (q + 1) c')) b ⟨A', c', m.ros ++ [⟨none, 0, []⟩], m.ticks, m.sA, m.sc, m.spans, m.wA, m.wc, m.wires⟩ ∧ Keep (rpF m b) w (w4.setCell ⟨b, 0, none⟩ (.slice A' (q + 1) c')) := by
  have h1 := hkd.size
  have hbig := h.big
  have hl2 := h.low
  have hfr : ∀ j, InA m.A j → base ≤ j := fun j hj => h.fresh j (.inl hj)
  have hkw : Keep (InA m.A) w w4 := (hkd.mono (G := InA m.A) fun j _ hj => hj.elim).then hk4 fun _ _ hj => hj
  have far : ∀ j, j ≠ b → (w4.setCell ⟨b, 0, none⟩ (.slice A' (q + 1) c')).heap[j]? = w4.heap[j]? := fun j hj => blk_far (p := ⟨b, 0, none⟩) (by simp; omega) _
  have hb4 : w4.heap[b]? = _ := (hkw.block b (by omega) fun hj => by have := hfr b hj; omega).trans h.blk
  have fresh' : ∀ j, InA A' j → base ≤ j := fun j hj => (hn4 j hj).elim (fun h => hfr j h) fun h => by omega
  refine ⟨⟨?_, ?_, fun r hr => ?_, fun i r last hi hlast hlt j hj => ?_, ?_, ?_, ?_, fun r hr j hj => ?_, hl2, ?_⟩, ?_⟩
  · refine (blk_set hb4 0 _).trans ?_
    unfold rpCells
    simp only [List.length_append, List.length_singleton, ← hq]
    rfl
  · have e : (m.ros ++ [(⟨none, 0, []⟩ : Ro)]).flatMap Ro.cells = m.ros.flatMap Ro.cells ++ [.slice none 0 0] := by rw [List.flatMap_append]; rfl
    simp only [List.length_append, List.length_singleton, hq]
    rw [e]
    exact hr4.keep fun j hj _ => far j (by have := fresh' j hj; omega)
  · rcases List.mem_append.1 hr with hr | hr
    · refine ((h.codes r hr).through hkw fun j hj hg => ((h.codes r hr).apart2 h.rows (by decide)) j hj hg).keep fun j hj _ => far j (by have := h.freshC r hr j hj; omega)
    · rw [List.mem_singleton] at hr
      subst hr
      exact Row.nil _ _ _
  · simp only [List.length_append, List.length_singleton, Nat.add_sub_cancel] at hlast
    rw [List.getElem?_append_right (Nat.le_refl _), Nat.sub_self] at hlast
    simp at hlast
    subst hlast
    simp [InA]
  · refine (h.spans.through hkw fun j hj hg => (h.spans.apart2 h.rows (by decide)) j hj hg).keep fun j hj _ => far j (by have := h.fresh j (.inr (.inl hj)); omega)
  · refine (h.wires.through hkw fun j hj hg => (h.wires.apart2 h.rows (by decide)) j hj hg).keep fun j hj _ => far j (by have := h.fresh j (.inr (.inr hj)); omega)
  · rintro j (hj | hj | hj)
    · exact fresh' j hj
    · exact h.fresh j (.inr (.inl hj))
    · exact h.fresh j (.inr (.inr hj))
  · rcases List.mem_append.1 hr with hr | hr
    · exact h.freshC r hr j hj
    · rw [List.mem_singleton] at hr
      subst hr
      simp [InA] at hj
  · rw [sz_set]; have := hkw.size; omega
  · exact (hkw.mono (G := rpF m b) fun j _ hj => .inr (.inl hj)).setCell (.inl (.inl rfl)) _
/-- Where the last code's header lies, and that it may be written. -/
theorem rp_last (h : RpAt base w b m) {init : List Ro} {r : Ro} (hm : m.ros = init ++ [r]) :
    ∃ ab off, m.A = some ⟨ab, off, none⟩ ∧ w.cell? ⟨ab, off + init.length, none⟩ = some (.slice r.A r.ops.length r.c) ∧ ab < w.heap.size ∧ base ≤ ab := by
  obtain ⟨ab, off, hA, h1, h2, h3, _⟩ := h.rows.put1 Ro.cells Ro.len (i := init.length) (x := r) (by rw [hm]; simp) r (.slice r.A r.ops.length r.c) rfl
  exact ⟨ab, off, hA, h1, h3, h.fresh ab (.inl (by rw [hA]; simp [InA]))⟩
/-- An op more, of the last code. -/
theorem rp_op (h : RpAt base w b m) (hkd : Keep NoF w wd) {init : List Ro} {r : Ro} {o : Op} (hm : m.ros = init ++ [r]) {A' : Option Addr} {c' n : Nat} (hn : r.ops.length = n)
    (hr4 : Row w4 42 3 A' (n + 1) c' (r.ops.flatMap Op.cells ++ [.int .i64 o.what, .int .i64 o.a, .int .i64 o.b])) (hk4 : Keep (InA r.A) wd w4) (hn4 : ∀ j, InA A' j → InA r.A j ∨ wd.heap.size ≤ j) {ab off : Nat} (hA : m.A = some ⟨ab, off, none⟩) :
    w4.frozen? ⟨ab, off + init.length, none⟩ = false ∧ ab < w4.heap.size ∧ w4.cell? ⟨ab, off + init.length, none⟩ = some (.slice r.A n r.c) ∧
    ∃ m' : PM, m'.pl = (⟨addOp m.pl.code o, m.pl.ticks, m.pl.spans, m.pl.wires⟩ : Pl) ∧ RpAt base (w4.setCell ⟨ab, off + init.length, none⟩ (.slice A' (n + 1) c')) b m' ∧ Keep (rpF m b) w (w4.setCell ⟨ab, off + init.length, none⟩ (.slice A' (n + 1) c')) := by
  subst hn
  have hrm : r ∈ m.ros := by rw [hm]; simp
  have hrr := h.codes r hrm
  have hs := hkd.size
  have hs4 := hk4.size
  have hbig := h.big
  have hl := h.low
  have hab : InA m.A ab := by rw [hA]; simp [InA]
  have habl := h.rows.lt ab hab
  have habb := h.fresh ab (.inl hab)
  have hkw : Keep (InA r.A) w w4 := (hkd.mono (G := InA r.A) fun j _ hj => hj.elim).then hk4 fun _ _ hj => hj
  have rows4 : Row w4 43 1 m.A m.ros.length m.c (m.ros.flatMap Ro.cells) := h.rows.through hkw fun j hj hg => h.rows.apart2 hrr (by decide) j hj hg
  obtain ⟨ab', off', hA', hcl, hfz, hlt, _, _, _, hput⟩ := rows4.put1 Ro.cells Ro.len (i := init.length) (x := r) (by rw [hm]; simp) ⟨A', c', r.ops ++ [o]⟩ (.slice A' (r.ops.length + 1) c') (by unfold Ro.cells; rw [List.length_append]; rfl)
  rw [hA] at hA'
  injection hA' with hA'
  injection hA' with e1 e2
  subst e1 e2
  refine ⟨hfz, hlt, hcl, ?_⟩
  have hset : m.ros.set init.length ⟨A', c', r.ops ++ [o]⟩ = init ++ [⟨A', c', r.ops ++ [o]⟩] := by rw [hm, ros_set]
  rw [hset] at hput
  have hlen : m.ros.length = init.length + 1 := by rw [hm]; simp
  have far : ∀ j, j ≠ ab → (w4.setCell ⟨ab, off + init.length, none⟩ (.slice A' (r.ops.length + 1) c')).heap[j]? = w4.heap[j]? := fun j hj => blk_far (p := ⟨ab, off + init.length, none⟩) (by simp; omega) _
  have hfr : ∀ j, InA A' j → base ≤ j ∧ j ≠ ab := fun j hj => by
    rcases hn4 j hj with hj | hj
    · exact ⟨h.freshC r hrm j hj, fun e => hrr.apart2 h.rows (by decide) j hj (by rw [e]; exact hab)⟩
    · exact ⟨by omega, by omega⟩
  refine ⟨⟨m.A, m.c, init ++ [⟨A', c', r.ops ++ [o]⟩], m.ticks, m.sA, m.sc, m.spans, m.wA, m.wc, m.wires⟩, ?_, ⟨?_, ?_, fun r' hr' => ?_, fun i r' last hi hlast hlt' j hj => ?_, ?_, ?_, h.fresh, fun r' hr' j hj => ?_, hl, ?_⟩, ?_⟩
  · unfold PM.pl
    simp only [List.map_append, List.map_cons, List.map_nil, hm]
    rw [addOp_snoc]
  · refine (far b (by omega)).trans ((hkw.block b (by omega) fun hj => by have := h.freshC r hrm b hj; omega).trans (h.blk.trans ?_))
    unfold rpCells
    rw [hlen]
    simp
  · simp only [List.length_append, List.length_singleton]
    rw [← hlen]; exact hput
  · rcases List.mem_append.1 hr' with hr' | hr'
    · have hr2 : r' ∈ m.ros := by rw [hm]; simp [hr']
      obtain ⟨i, hi⟩ := List.getElem?_of_mem hr'
      have hil := (List.getElem?_eq_some_iff.1 hi).1
      have hap := h.apart i r' r (by rw [hm, List.getElem?_append_left hil]; exact hi) (by rw [hlen, Nat.add_sub_cancel, hm]; simp) (by omega)
      have hc := (h.codes r' hr2).through hkw fun j hj hg => hap j hj hg
      exact hc.keep fun j hj _ => far j fun e => (h.codes r' hr2).apart2 h.rows (by decide) j hj (by rw [e]; exact hab)
    · rw [List.mem_singleton] at hr'
      subst hr'
      have e : (r.ops ++ [o]).flatMap Op.cells = r.ops.flatMap Op.cells ++ [.int .i64 o.what, .int .i64 o.a, .int .i64 o.b] := by rw [List.flatMap_append]; rfl
      simp only [List.length_append, List.length_singleton]
      rw [e]
      exact hr4.keep fun j hj _ => far j (hfr j hj).2
  · simp only [List.length_append, List.length_singleton] at hlt' hlast
    rw [Nat.add_sub_cancel, List.getElem?_append_right (Nat.le_refl _), Nat.sub_self] at hlast
    injection hlast with hlast
    subst hlast
    have hil : i < init.length := by omega
    simp only [] at hi
    rw [List.getElem?_append_left hil] at hi
    have hr2 : r' ∈ m.ros := by rw [hm]; exact List.mem_append_left _ (List.mem_of_getElem? hi)
    intro hj2
    rcases hn4 j hj2 with hj2 | hj2
    · exact h.apart i r' r (by rw [hm, List.getElem?_append_left hil]; exact hi) (by rw [hlen, Nat.add_sub_cancel, hm]; simp) (by omega) j hj hj2
    · have := (h.codes r' hr2).lt j hj; omega
  · refine (h.spans.through hkw fun j hj hg => h.spans.apart2 hrr (by decide) j hj hg).keep fun j hj _ => far j fun e => h.spans.apart2 h.rows (by decide) j hj (by rw [e]; exact hab)
  · refine (h.wires.through hkw fun j hj hg => h.wires.apart2 hrr (by decide) j hj hg).keep fun j hj _ => far j fun e => h.wires.apart2 h.rows (by decide) j hj (by rw [e]; exact hab)
  · rcases List.mem_append.1 hr' with hr' | hr'
    · exact h.freshC r' (by rw [hm]; simp [hr']) j hj
    · rw [List.mem_singleton] at hr'
      subst hr'
      exact (hfr j hj).1
  · rw [sz_set]; omega
  · exact (hkw.mono (G := rpF m b) fun j _ hj => .inr (.inr (.inl ⟨r, hrm, hj⟩))).setCell (.inl (.inr (.inl hab))) _
end
end Go.Proofs.YtldllmhgofacbaaGreatDoor
