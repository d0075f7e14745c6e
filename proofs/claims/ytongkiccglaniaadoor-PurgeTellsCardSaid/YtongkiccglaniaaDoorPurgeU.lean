/- Several parts: each begins with what it says. -/
import Derived.Test.YtongkiccglaniaaDoorOwnU
import Derived.Test.YtongkiccglaniaaDoorWaysU
import Derived.Test.YtongkiccglaniaaDoorKLawU
import Derived.Test.YtongkiccglaniaaDoorKernNew
import Derived.Test.YtongkiccglaniaaDoorTickU
import Derived.Test.YtongkiccglaniaaDoorRunU
import Derived.IntWalk
/- Package purge: the contract of Purge, for every plan and room. -/
namespace Go.Proofs.YtongkiccglaniaaDoor
open Go.RowKit
set_option maxRecDepth 100000
attribute [local go_sem ↓] Go.wp_at_zero Go.wp_at_succ

/-- What is told of a plan and a room that are none. -/
theorem purge_bad (w : World) (m : PM) (room : Int) (hf : Forms w) (hm : PlanAt w m) (he : planChk m.pl ≠ 0) :
    Calls Tryd.prog 42 #[.agg #[.slice m.A m.ros.length m.c, .int .i64 m.ticks, .slice m.sA m.spans.length m.sc, .slice m.wA m.wires.length m.wc], .int .i64 room] w
      fun e w' => e = .returned (.tuple #[.agg #[.slice none 0 0, .int .i64 0, .slice none 0 0, .slice none 0 0], errV (planChk m.pl)]) ∧ Below w.heap.size w w' := by
  have HCK : Hid (∀ w', Below w.heap.size w w' → Calls Tryd.prog 44 #[.agg #[.slice m.A m.ros.length m.c, .int .i64 m.ticks, .slice m.sA m.spans.length m.sc, .slice m.wA m.wires.length m.wc]] w' fun e w'' => e = .returned (errV (planChk m.pl)) ∧ Below w'.heap.size w' w'') :=
    fun w' hb => plan_check m w' (hf.new hb) (hm.new hb)
  generalize planChk m.pl = E at he HCK ⊢
  have hv := errV_pos he
  rw [hv] at HCK ⊢
  generalize m.ros.length = n at HCK ⊢
  generalize m.spans.length = ns at HCK ⊢
  generalize m.wires.length = nw at HCK ⊢
  obtain ⟨A0, c0, _, tk, sA0, sc0, _, wA0, wc0, _⟩ := m
  simp only [] at HCK ⊢
  clear hv hm hf
  go_enter Tryd.func42, Tryd.ntmps42
  go_wp2_with (go_at_call 44; refine (HCK.out _ (((Below.refl _ _).alloc (Nat.le_refl _) _).alloc (by simp) _)).mono ?_; rintro e w1 ⟨rfl, hb1⟩; have hh := (hb1.block (w.heap.size + 1) (by simp)).trans (show _ = some (.cells #[.slice none 0 0, .int .i64 0, .slice none 0 0, .slice none 0 0] 31 (0, 0)) by rw [hp_alloc, if_pos (by simp)]); have z0 := blk_cell hh 0; have z1 := blk_cell hh 1; have z2 := blk_cell hh 2; have z3 := blk_cell hh 3; simp at z0 z1 z2 z3; have zf := fun j => blk_free hh j; have hltz := blk_lt hh; have HH := hid hh; have HB1 := hid hb1; clear hb1 hh)
  obtain ⟨wz, hwz⟩ : ∃ wz, wz = put4 w1 (w.heap.size + 1) (.slice none 0 0) (.int .i64 0) (.slice none 0 0) (.slice none 0 0) := ⟨_, rfl⟩
  have hz : wz.heap[w.heap.size + 1]? = some (.cells #[.slice none 0 0, .int .i64 0, .slice none 0 0, .slice none 0 0] 31 (0, 0)) := by rw [hwz]; unfold put4; simp [hp_set, HH.out, setObj]
  have hbz : Below w.heap.size w wz := by rw [hwz]; exact below_put4 ((((Below.refl _ _).alloc (Nat.le_refl _) _).alloc (by simp) _).trans (HB1.out.mono (by simp; omega))) (by omega) _ _ _ _
  unfold put4 at hwz
  rw [← hwz]
  clear z0 z1 z2 z3 hwz
  have z0 := blk_cell hz 0
  have z1 := blk_cell hz 1
  have z2 := blk_cell hz 2
  have z3 := blk_cell hz 3
  simp at z0 z1 z2 z3
  exact bodyPost_ret (v := .tuple #[.agg #[.slice none 0 0, .int .i64 0, .slice none 0 0, .slice none 0 0], .iface 125 (.int .i64 E)]) (by simp [results, Tryd.results42, go_sem, z0, z1, z2, z3]) rfl ⟨rfl, hbz⟩
theorem purge_range (w : World) (m : PM) (room : Int) (hf : Forms w) (hm : PlanAt w m) (he : planChk m.pl = 0) (hr : room < 0 ∨ m.ros.length ≤ room) :
    Calls Tryd.prog 42 #[.agg #[.slice m.A m.ros.length m.c, .int .i64 m.ticks, .slice m.sA m.spans.length m.sc, .slice m.wA m.wires.length m.wc], .int .i64 room] w
      fun e w' => e = .returned (.tuple #[.agg #[.slice none 0 0, .int .i64 0, .slice none 0 0, .slice none 0 0], errV 1]) ∧ Below w.heap.size w w' := by
  have HCK : Hid (∀ w', Below w.heap.size w w' → Calls Tryd.prog 44 #[.agg #[.slice m.A m.ros.length m.c, .int .i64 m.ticks, .slice m.sA m.spans.length m.sc, .slice m.wA m.wires.length m.wc]] w' fun e w'' => e = .returned .nilIface ∧ Below w'.heap.size w' w'') :=
    fun w' hb => (plan_check m w' (hf.new hb) (hm.new hb)).mono fun e w'' h => by rw [he, errV_zero] at h; exact h
  have hn5 : m.ros.length ≤ 5 := (planSmall he).ros
  rw [errV_pos (by decide)]
  generalize m.ros.length = n at HCK hr hn5 ⊢
  generalize m.spans.length = ns at HCK ⊢
  generalize m.wires.length = nw at HCK ⊢
  obtain ⟨A0, c0, _, tk, sA0, sc0, _, wA0, wc0, _⟩ := m
  simp only [] at HCK ⊢
  clear he hm hf
  rcases hr with hr | hr
  · go_enter Tryd.func42, Tryd.ntmps42
    go_wp2_with (go_at_call 44; refine (HCK.out _ (((Below.refl _ _).alloc (Nat.le_refl _) _).alloc (by simp) _)).mono ?_; rintro e w1 ⟨rfl, hb1⟩; have hh := (hb1.block (w.heap.size + 1) (by simp)).trans (show _ = some (.cells #[.slice none 0 0, .int .i64 0, .slice none 0 0, .slice none 0 0] 31 (0, 0)) by rw [hp_alloc, if_pos (by simp)]); have z0 := blk_cell hh 0; have z1 := blk_cell hh 1; have z2 := blk_cell hh 2; have z3 := blk_cell hh 3; simp at z0 z1 z2 z3; have zf := fun j => blk_free hh j; have hltz := blk_lt hh; have HH := hid hh; have HB1 := hid hb1; clear hb1 hh)
    obtain ⟨wz, hwz⟩ : ∃ wz, wz = put4 w1 (w.heap.size + 1) (.slice none 0 0) (.int .i64 0) (.slice none 0 0) (.slice none 0 0) := ⟨_, rfl⟩
    have hz : wz.heap[w.heap.size + 1]? = some (.cells #[.slice none 0 0, .int .i64 0, .slice none 0 0, .slice none 0 0] 31 (0, 0)) := by rw [hwz]; unfold put4; simp [hp_set, HH.out, setObj]
    have hbz : Below w.heap.size w wz := by rw [hwz]; exact below_put4 ((((Below.refl _ _).alloc (Nat.le_refl _) _).alloc (by simp) _).trans (HB1.out.mono (by simp; omega))) (by omega) _ _ _ _
    unfold put4 at hwz
    rw [← hwz]
    clear z0 z1 z2 z3 hwz
    have z0 := blk_cell hz 0
    have z1 := blk_cell hz 1
    have z2 := blk_cell hz 2
    have z3 := blk_cell hz 3
    simp at z0 z1 z2 z3
    exact bodyPost_ret (v := .tuple #[.agg #[.slice none 0 0, .int .i64 0, .slice none 0 0, .slice none 0 0], .iface 125 (.int .i64 1)]) (by simp [results, Tryd.results42, go_sem, z0, z1, z2, z3]) rfl ⟨rfl, hbz⟩
  · have hr0 : 0 ≤ room := by omega
    go_enter Tryd.func42, Tryd.ntmps42
    go_wp2_with (go_at_call 44; refine (HCK.out _ (((Below.refl _ _).alloc (Nat.le_refl _) _).alloc (by simp) _)).mono ?_; rintro e w1 ⟨rfl, hb1⟩; have hh := (hb1.block (w.heap.size + 1) (by simp)).trans (show _ = some (.cells #[.slice none 0 0, .int .i64 0, .slice none 0 0, .slice none 0 0] 31 (0, 0)) by rw [hp_alloc, if_pos (by simp)]); have z0 := blk_cell hh 0; have z1 := blk_cell hh 1; have z2 := blk_cell hh 2; have z3 := blk_cell hh 3; simp at z0 z1 z2 z3; have zf := fun j => blk_free hh j; have hltz := blk_lt hh; have HH := hid hh; have hb := (hb1.block w.heap.size (by simp; omega)).trans (show _ = some (.cells #[.slice A0 n c0, .int .i64 tk, .slice sA0 ns sc0, .slice wA0 nw wc0] 31 (0, 0)) by rw [blk_alloc (by simp)]; exact heap_alloc_new _ _); have p0 := blk_cell hb 0; simp at p0; have hltp := blk_lt hb; have HB1 := hid hb1; clear hb1 hh hb)
    obtain ⟨wz, hwz⟩ : ∃ wz, wz = put4 w1 (w.heap.size + 1) (.slice none 0 0) (.int .i64 0) (.slice none 0 0) (.slice none 0 0) := ⟨_, rfl⟩
    have hz : wz.heap[w.heap.size + 1]? = some (.cells #[.slice none 0 0, .int .i64 0, .slice none 0 0, .slice none 0 0] 31 (0, 0)) := by rw [hwz]; unfold put4; simp [hp_set, HH.out, setObj]
    have hbz : Below w.heap.size w wz := by rw [hwz]; exact below_put4 ((((Below.refl _ _).alloc (Nat.le_refl _) _).alloc (by simp) _).trans (HB1.out.mono (by simp; omega))) (by omega) _ _ _ _
    unfold put4 at hwz
    rw [← hwz]
    clear z0 z1 z2 z3 hwz
    have z0 := blk_cell hz 0
    have z1 := blk_cell hz 1
    have z2 := blk_cell hz 2
    have z3 := blk_cell hz 3
    simp at z0 z1 z2 z3
    exact bodyPost_ret (v := .tuple #[.agg #[.slice none 0 0, .int .i64 0, .slice none 0 0, .slice none 0 0], .iface 125 (.int .i64 1)]) (by simp [results, Tryd.results42, go_sem, z0, z1, z2, z3]) rfl ⟨rfl, hbz⟩

def Purged (w : World) (m : PM) (room : Nat) (e : Ending) (w' : World) : Prop :=
  ∃ m' : PM, e = .returned (.tuple #[.agg #[.slice m'.A m'.ros.length m'.c, .int .i64 m'.ticks, .slice m'.sA m'.spans.length m'.sc, .slice m'.wA m'.wires.length m'.wc], .nilIface]) ∧ PlanAt w' m' ∧ m'.pl = purgePl m.pl room ∧ (∀ j, planF m' j → w.heap.size ≤ j) ∧ Below w.heap.size w w'
/-- Midway: of k rooms it is decided. -/
structure PgMid (w wr : World) (P : PM) (room : Nat) (rs : List Ro) (wb k : Nat) : Prop where
  box : wr.heap[w.heap.size]? = some (.cells #[.slice P.A P.ros.length P.c, .int .i64 P.ticks, .slice P.sA P.spans.length P.sc, .slice P.wA P.wires.length P.wc] 31 (0, 0))
  out : wr.heap[w.heap.size + 1]? = some (.cells #[.slice none 0 0, .int .i64 0, .slice none 0 0, .slice none 0 0] 31 (0, 0))
  wy : wr.heap[wb]? = some (.cells (waysV P.wires) 161 (0, 0))
  row : Row wr 46 1 P.A P.ros.length P.c (rs.flatMap Ro.cells)
  len : rs.length = P.ros.length
  ops : ∀ (i : Nat) (r : Ro), rs[i]? = some r → ∃ r0, P.ros[i]? = some r0 ∧ r.ops = if i < k then purgeRow P.wires room i r0.ops else r0.ops
  codes : ∀ r ∈ rs, r.At wr
  apart : ∀ r ∈ rs, ∀ j, InA r.A j → w.heap.size + 2 ≤ j ∧ ¬ InA P.A j
  spans : Row wr 68 3 P.sA P.spans.length P.sc (P.spans.flatMap Span.cells)
  wires : Row wr 48 4 P.wA P.wires.length P.wc (P.wires.flatMap Wire.cells)
  nA : ∀ j, InA P.A j → w.heap.size + 2 ≤ j
  nS : ∀ j, 0 < P.spans.length → InA P.sA j → w.heap.size + 2 ≤ j
  nW : ∀ j, 0 < P.wires.length → InA P.wA j → w.heap.size + 2 ≤ j
  nB : w.heap.size + 2 ≤ wb
  below : Below w.heap.size w wr
theorem PgMid.skip {w wr : World} {P : PM} {room : Nat} {rs : List Ro} {wb k : Nat} (h : PgMid w wr P room rs wb k) (hk : reachB P.wires k room = true) : PgMid w wr P room rs wb (k + 1) :=
  have hops : ∀ (i : Nat) (r : Ro), rs[i]? = some r → ∃ r0, P.ros[i]? = some r0 ∧ r.ops = if i < k + 1 then purgeRow P.wires room i r0.ops else r0.ops := by
    intro i r hr
    obtain ⟨r0, h0, h1⟩ := h.ops i r hr
    refine ⟨r0, h0, h1.trans ?_⟩
    by_cases e : i < k
    · rw [if_pos e, if_pos (by omega)]
    · rw [if_neg e]
      by_cases e2 : i < k + 1
      · obtain rfl : i = k := by omega
        rw [if_pos e2, purgeRow, if_pos hk]
      · rw [if_neg e2]
  { h with ops := hops }
theorem PgMid.put {w wr : World} {P : PM} {room : Nat} {rs : List Ro} {wb k b off : Nat} (h : PgMid w wr P room rs wb k) (hk : ¬ reachB P.wires k room = true) (hkn : k < P.ros.length) (hA : P.A = some ⟨b, off, none⟩) :
    PgMid w ((wr.alloc (.cells #[.int .i64 10, .int .i64 0, .int .i64 0] 45)).setCell ⟨b, off + k, none⟩ (.slice (some ⟨wr.heap.size, 0, none⟩) 1 1)) P room (rs.set k ⟨some ⟨wr.heap.size, 0, none⟩, 1, restOps⟩) wb (k + 1) := by
  obtain ⟨w1, hw1⟩ : ∃ w1, w1 = wr.alloc (.cells #[.int .i64 10, .int .i64 0, .int .i64 0] 45) := ⟨_, rfl⟩
  have hb : Below wr.heap.size wr w1 := by rw [hw1]; exact (Below.refl _ _).alloc (Nat.le_refl _) _
  have hnewb : w1.heap[wr.heap.size]? = some (.cells #[.int .i64 10, .int .i64 0, .int .i64 0] 45 (0, 0)) := by rw [hw1]; exact heap_alloc_new _ _
  rw [← hw1]
  have hlt := h.row.lt
  have hbA : InA P.A b := by rw [hA]; rfl
  have hb2 := h.nA b hbA
  have hbl := hlt b hbA
  have hkl : k < rs.length := by rw [h.len]; exact hkn
  have hr := List.getElem?_eq_getElem hkl
  have h1r : Row w1 46 1 P.A P.ros.length P.c (rs.flatMap Ro.cells) := h.row.new hb
  obtain ⟨b', off', hA', hc, hf, hbl', hkn', hnc, hcm, hrow⟩ := h1r.put1 Ro.cells Ro.len hr (⟨some ⟨wr.heap.size, 0, none⟩, 1, restOps⟩ : Ro) (.slice (some ⟨wr.heap.size, 0, none⟩) 1 1) rfl
  rw [hA] at hA'
  cases hA'
  have hfar : ∀ j, j ≠ b → (w1.setCell ⟨b, off + k, none⟩ (.slice (some ⟨wr.heap.size, 0, none⟩) 1 1)).heap[j]? = w1.heap[j]? := fun j hj => blk_far (p := ⟨b, off + k, none⟩) hj _
  have hold : ∀ j, j < wr.heap.size → j ≠ b → (w1.setCell ⟨b, off + k, none⟩ (.slice (some ⟨wr.heap.size, 0, none⟩) 1 1)).heap[j]? = wr.heap[j]? := fun j hl hj => (hfar j hj).trans (hb.block j hl)
  have hwb : wb ≠ b := by
    rintro rfl
    exact h.row.apart h.wy (by decide) hbA
  have hsz : wr.heap.size ≤ (w1.setCell ⟨b, off + k, none⟩ (.slice (some ⟨wr.heap.size, 0, none⟩) 1 1)).heap.size := by rw [sz_set]; exact hb.size
  refine { box := ?_, out := ?_, wy := ?_, row := hrow, len := by rw [List.length_set]; exact h.len, ops := fun i r hg => ?_, codes := fun r hg => ?_, apart := fun r hg j hj => ?_, spans := ?_, wires := ?_, nA := h.nA, nS := h.nS, nW := h.nW, nB := h.nB, below := ?_ }
  · rw [hold _ (blk_lt h.box) (by omega)]; exact h.box
  · rw [hold _ (blk_lt h.out) (by omega)]; exact h.out
  · rw [hold _ (blk_lt h.wy) hwb]; exact h.wy
  · rw [List.getElem?_set] at hg
    by_cases e : k = i
    · subst e
      rw [if_pos rfl, if_pos hkl] at hg
      cases hg
      obtain ⟨r0, h0, _⟩ := h.ops k _ hr
      exact ⟨r0, h0, by rw [if_pos (by omega), purgeRow, if_neg hk]⟩
    · rw [if_neg e] at hg
      obtain ⟨r0, h0, h1⟩ := h.ops i r hg
      refine ⟨r0, h0, h1.trans ?_⟩
      by_cases e2 : i < k
      · rw [if_pos e2, if_pos (by omega)]
      · rw [if_neg e2, if_neg (by omega)]
  · rcases List.mem_or_eq_of_mem_set hg with hm | rfl
    · refine (h.codes r hm).far hsz fun j _ hj hl => hold j hl ?_
      rintro rfl
      exact (h.apart r hm j hj).2 hbA
    · refine ⟨sl_blk (t := 45) (cs := #[.int .i64 10, .int .i64 0, .int .i64 0]) ?_ 3 1 _ rfl rfl, lit_slW _ 1 (by omega), fun o ho => ?_⟩
      · rw [hfar _ (by omega)]; exact hnewb
      · simp [restOps] at ho; subst ho
        exact ⟨fits_lit (by simp), fits_lit (by simp), fits_lit (by simp)⟩
  · rcases List.mem_or_eq_of_mem_set hg with hm | rfl
    · exact h.apart r hm j hj
    · simp [InA] at hj
      subst hj
      exact ⟨by have := h.below.size; omega, fun h2 => by have := hlt _ h2; omega⟩
  · exact h.spans.keep fun j hj hl => hold j hl (by rintro rfl; exact (h.row.apart2 h.spans (by decide)) j hbA hj)
  · exact h.wires.keep fun j hj hl => hold j hl (by rintro rfl; exact (h.row.apart2 h.wires (by decide)) j hbA hj)
  · exact (h.below.trans (hb.mono h.below.size)).setCell (show w.heap.size ≤ b by omega) _
theorem PgMid.done {w wr wz : World} {P m : PM} {room : Nat} {rs : List Ro} {wb : Nat} (h : PgMid w wr P room rs wb P.ros.length) (hp : P.pl = m.pl) (hfit : Fits P.ticks) (hso : ∀ y ∈ P.spans, y.Ok) (hwo : ∀ y ∈ P.wires, y.Ok) (hb : Keep (fun j => j = w.heap.size + 1) wr wz) :
    Purged w m room (.returned (.tuple #[.agg #[.slice P.A P.ros.length P.c, .int .i64 P.ticks, .slice P.sA P.spans.length P.sc, .slice P.wA P.wires.length P.wc], .nilIface])) wz := by
  have hn := h.len
  have far : ∀ (A : Option Addr), (∀ j, InA A j → w.heap.size + 2 ≤ j) → ∀ j, InA A j → ¬ j = w.heap.size + 1 := fun A hA j hj e => by have := hA j hj; omega
  have hrow := h.row.through hb (far _ h.nA)
  refine ⟨⟨P.A, P.c, rs, P.ticks, P.sA, P.sc, P.spans, P.wA, P.wc, P.wires⟩, by simp only [hn], ⟨?_, ?_, fun r hr => ?_, hfit, ?_, h.spans.slW, hso, ?_, h.wires.slW, hwo⟩, ?_, ?_, ?_⟩
  · simp only [hn]; exact hrow.sl
  · simp only [hn]; exact hrow.slW
  · exact (h.codes r hr).far hb.size fun j _ hj hl => hb.block j hl (by have := (h.apart r hr j hj).1; omega)
  · exact h.spans.sl.keep0 hb.size fun j h0 hj hl => hb.block j hl (by have := h.nS j h0 hj; omega)
  · exact h.wires.sl.keep0 hb.size fun j h0 hj hl => hb.block j hl (by have := h.nW j h0 hj; omega)
  · have e1 : P.wires = m.wires := congrArg Pl.wires hp
    have e2 : P.ros.map Ro.ops = m.ros.map Ro.ops := congrArg Pl.code hp
    have e3 : P.ticks = m.ticks := congrArg Pl.ticks hp
    have e4 : P.spans = m.spans := congrArg Pl.spans hp
    have hcode : rs.map Ro.ops = (m.ros.map Ro.ops).mapIdx (purgeRow m.wires room) := by
      rw [← e2, ← e1]
      apply List.ext_getElem?
      intro i
      rw [List.getElem?_mapIdx, List.getElem?_map, List.getElem?_map]
      by_cases hi : i < rs.length
      · have hg := List.getElem?_eq_getElem hi
        obtain ⟨r0, h0, h1⟩ := h.ops i _ hg
        rw [hg, h0, Option.map_some, Option.map_some, Option.map_some, h1, if_pos (by omega)]
      · rw [List.getElem?_eq_none (by omega), List.getElem?_eq_none (by omega)]; rfl
    show Pl.mk _ _ _ _ = Pl.mk _ _ _ _
    simp only [hcode, e3, e4, e1]
    rfl
  · rintro j (⟨_, hj⟩ | ⟨r, hr, _, hj⟩ | ⟨h0, hj⟩ | ⟨h0, hj⟩)
    · have := h.nA j hj; omega
    · have := (h.apart r hr j hj).1; omega
    · have := h.nS j h0 hj; omega
    · have := h.nW j h0 hj; omega
  · exact ⟨hb.os.trans h.below.os, hb.tape.trans h.below.tape, hb.output.trans h.below.output, Nat.le_trans h.below.size hb.size, fun j hj => (hb.block j (by have := h.below.size; omega) (by omega)).trans (h.below.block j hj)⟩
end Go.Proofs.YtongkiccglaniaaDoor

/- Package purge: the contract of Purge, of a plan and a room that are right. -/
namespace Go.Proofs.YtongkiccglaniaaDoor
open Go.RowKit
set_option maxRecDepth 100000
attribute [local go_sem ↓] Go.wp_at_zero Go.wp_at_succ

set_option maxHeartbeats 4000000 in
theorem purge_good (w : World) (m : PM) (room : Nat) (hf : Forms w) (hm : PlanAt w m) (he : planChk m.pl = 0) (hr : room < m.ros.length) :
    Calls Tryd.prog 42 #[.agg #[.slice m.A m.ros.length m.c, .int .i64 m.ticks, .slice m.sA m.spans.length m.sc, .slice m.wA m.wires.length m.wc], .int .i64 room] w (Purged w m room) := by
  have hsm := planSmall he
  have hp := planChk_ok he
  have HCK : Hid (∀ w', Below w.heap.size w w' → Calls Tryd.prog 44 #[.agg #[.slice m.A m.ros.length m.c, .int .i64 m.ticks, .slice m.sA m.spans.length m.sc, .slice m.wA m.wires.length m.wc]] w' fun e w'' => e = .returned .nilIface ∧ Below w'.heap.size w' w'') :=
    fun w' hb => (plan_check m w' (hf.new hb) (hm.new hb)).mono fun e w'' h => by rw [he, errV_zero] at h; exact h
  have HOWN : Hid (∀ w', Below w.heap.size w w' → Calls Tryd.prog 61 #[.agg #[.slice m.A m.ros.length m.c, .int .i64 m.ticks, .slice m.sA m.spans.length m.sc, .slice m.wA m.wires.length m.wc]] w' (Owned w' m)) :=
    fun w' hb => own_any w' m (hm.new hb) hsm
  have hn5 := hsm.ros
  obtain ⟨n, hn⟩ : ∃ n, m.ros.length = n := ⟨_, rfl⟩
  obtain ⟨ns, hns⟩ : ∃ ns, m.spans.length = ns := ⟨_, rfl⟩
  obtain ⟨nw, hnw⟩ : ∃ nw, m.wires.length = nw := ⟨_, rfl⟩
  rw [hn, hns, hnw] at HCK HOWN ⊢
  rw [hn] at hr hn5
  have HN := hid hn
  have HP := hid hp
  have d1 : decide ((room : Int) < 0) = false := decide_eq_false (by omega)
  have d2 : decide (n ≤ room) = false := decide_eq_false (by omega)
  have d3 : decide ((n : Int) ≤ (room : Int)) = false := decide_eq_false (by omega)
  clear hf hm he hsm hn hns hnw hp
  go_enter Tryd.func42, Tryd.ntmps42
  go_wp2_with fail
  refine (HCK.out _ (((Below.refl _ _).alloc (Nat.le_refl _) _).alloc (by simp) _)).mono ?_
  rintro e w1 ⟨rfl, hb1⟩
  have hout := (hb1.block (w.heap.size + 1) (by simp)).trans (show _ = some (.cells #[.slice none 0 0, .int .i64 0, .slice none 0 0, .slice none 0 0] 31 (0, 0)) by rw [hp_alloc, if_pos (by simp)])
  have hbox := (hb1.block w.heap.size (by simp; omega)).trans (show _ = some (.cells #[.slice m.A n m.c, .int .i64 m.ticks, .slice m.sA ns m.sc, .slice m.wA nw m.wc] 31 (0, 0)) by rw [blk_alloc (by simp)]; exact heap_alloc_new _ _)
  have HBW1 : Hid (Below w.heap.size w w1) := (((Below.refl _ _).alloc (Nat.le_refl _) _).alloc (by simp) _).trans (hb1.mono (by simp; omega))
  have HOUT := hid hout
  have HBOX := hid hbox
  have p0 := blk_cell hbox 0
  have p1 := blk_cell hbox 1
  have p2 := blk_cell hbox 2
  have p3 := blk_cell hbox 3
  have hltp := blk_lt hbox
  simp at p0 p1 p2 p3
  clear hb1 hout hbox
  go_wp2_with fail
  refine (HOWN.out _ HBW1.out).mono ?_
  rintro e w2 ⟨P, rfl, hpt, hpl, hrows, hfr, hb2⟩
  have hbox := (hb2.block _ (blk_lt HBOX.out)).trans HBOX.out
  have hout := (hb2.block _ (blk_lt HOUT.out)).trans HOUT.out
  have HPT := hid hpt
  have HPL := hid hpl
  have HROWS := hid hrows
  have HFR := hid hfr
  have HB2 := hid (HBW1.out.trans (hb2.mono HBW1.out.size))
  have pf := fun j => blk_free hbox j
  have hltp2 := blk_lt hbox
  clear p0 p1 p2 p3
  have p0 := blk_cell hbox 0
  have p1 := blk_cell hbox 1
  have p2 := blk_cell hbox 2
  have p3 := blk_cell hbox 3
  simp at p0 p1 p2 p3
  have HBOX2 := hid hbox
  have HOUT2 := hid hout
  have hPn : P.ros.length = n := by have := congrArg (fun q : Pl => q.code.length) hpl; simp only [PM.pl, List.length_map, HN.out] at this; exact this
  clear hpt hrows hfr hb2 hbox hout hltp
  rw [hPn]
  have HPN := hid hPn
  clear hPn
  go_wp2_with fail
  obtain ⟨w3, hw3⟩ : ∃ w3, w3 = put4 w2 w.heap.size (.slice P.A n P.c) (.int .i64 P.ticks) (.slice P.sA P.spans.length P.sc) (.slice P.wA P.wires.length P.wc) := ⟨_, rfl⟩
  have hk3 : Keep (fun j => j = w.heap.size) w2 w3 := by rw [hw3]; exact put4_keep _ _ _ _ _ _
  have hbox3 : w3.heap[w.heap.size]? = some (.cells #[.slice P.A n P.c, .int .i64 P.ticks, .slice P.sA P.spans.length P.sc, .slice P.wA P.wires.length P.wc] 31 (0, 0)) := by
    rw [hw3]; unfold put4; simp [hp_set, HBOX2.out, setObj]
  have hout3 := (hk3.block (w.heap.size + 1) (blk_lt HOUT2.out) (by omega)).trans HOUT2.out
  have hsz3 : w3.heap.size = w2.heap.size := by rw [hw3]; unfold put4; simp only [sz_set]
  have s1 := HBW1.out.size
  have hlt1 : w.heap.size + 2 ≤ w1.heap.size := by have := blk_lt HOUT.out; omega
  have hro3 := HROWS.out.row.through hk3 (fun j hj e => HROWS.out.row.apart HBOX2.out (by decide) (by subst e; exact hj))
  have hsp3 := HROWS.out.spans.through hk3 (fun j hj e => HROWS.out.spans.apart HBOX2.out (by decide) (by subst e; exact hj))
  have hwi3 := HROWS.out.wires.through hk3 (fun j hj e => HROWS.out.wires.apart HBOX2.out (by decide) (by subst e; exact hj))
  have hcd3 : ∀ r ∈ P.ros, r.At w3 := fun r hr => (HPT.out.codes r hr).far hk3.size fun j _ hj hl => hk3.block j hl (by have := (HROWS.out.apart r hr j hj).1; omega)
  have hpw : P.wires = m.pl.wires := congrArg Pl.wires HPL.out
  have hflow := flowChk_ok HP.out.flow
  rw [← hpw] at hflow
  have hways := ways_any P.wA P.wc P.wires w3 hwi3.sl hflow.1 hflow.2.2
  have hb3 : Below w.heap.size w w3 := Keep.below (F := NoF) ((Keep.of_below NoF HB2.out).then hk3 fun j hj e => by omega) (Nat.le_refl _) (fun j h => h.elim)
  have HWAYS := hid hways
  have HB3 := hid hb3
  have HBX3 := hid hbox3
  have HOU3 := hid hout3
  have HRO3 := hid hro3
  have HSP3 := hid hsp3
  have HWI3 := hid hwi3
  have HCD3 := hid hcd3
  have HSZ3 := hid hsz3
  unfold put4 at hw3
  rw [← hw3]
  have hi75 : (Tryd.prog.info? 161).map (·.size) = some (waysV P.wires).size := by rw [waysV, bitsA_size]; kernel_rfl
  have hone : (waysV P.wires).all (·.oneCell') = true := bitsA_one _
  have HONE := hid hone
  have HI75 := hid hi75
  clear hw3 hk3 hbox3 hout3 hro3 hsp3 hwi3 hcd3 hpw hflow hways hb3 hsz3 p0 p1 p2 p3 pf hltp2 hone hi75
  refine (HWAYS.out).mono ?_
  rintro e w4 ⟨rfl, hb4⟩
  have HB4 := hid hb4
  clear hb4
  go_wp2_with (refine wpList_store_rowK rfl 161 _ _ rfl w4.heap.size (waysV P.wires) rfl rfl _ _ (heap_alloc_new w4 _) HI75.out (by rw [waysV, bitsA_size]; rfl) HONE.out ?_
               intro w5 hr5 hk5 hz5
               have HR5 := hid hr5
               have HK5 := hid hk5
               have hb5 : Below w3.heap.size w3 w5 := (HB4.out.alloc HB4.out.size _).trans (hk5.below (by have := HB4.out.size; simp; omega) (fun i h => by have := HB4.out.size; omega))
               have HB5 := hid hb5
               have hbx5 := (hb5.block _ (blk_lt HBX3.out)).trans HBX3.out
               have p0 := blk_cell hbx5 0
               simp at p0
               have hltp := blk_lt hbx5
               have HBX5 := hid hbx5
               clear hr5 hk5 hz5 hb5 hbx5)
  have HM0 : Hid (PgMid w w5 P room P.ros w4.heap.size 0) := by
    have hb5 := HB5.out
    have s3 := HSZ3.out
    have s2 := HB2.out.size
    have s4 := HB4.out.size
    refine ⟨by rw [HPN.out]; exact HBX5.out, (hb5.block _ (blk_lt HOU3.out)).trans HOU3.out, HR5.out, HRO3.out.new hb5, rfl, fun i r hr => ⟨r, hr, by rw [if_neg (by omega)]⟩, fun r hr => (HCD3.out r hr).new hb5, fun r hr j hj => ?_, HSP3.out.new hb5, HWI3.out.new hb5, fun j hj => ?_, fun j h0 hj => ?_, fun j h0 hj => ?_, ?_, HB3.out.trans (hb5.mono HB3.out.size)⟩
    · have := HROWS.out.apart r hr j hj; exact ⟨by omega, this.2⟩
    · have := HROWS.out.own j hj; omega
    · have := HFR.out j (.inr (.inr (.inl ⟨h0, hj⟩))); omega
    · have := HFR.out j (.inr (.inr (.inr ⟨h0, hj⟩))); omega
    · have := blk_lt HOU3.out; omega
  have HDONE : Hid (∀ (rs : List Ro) (wr wz : World), PgMid w wr P room rs w4.heap.size n → Keep (fun j => j = w.heap.size + 1) wr wz → Purged w m room (.returned (.tuple #[.agg #[.slice P.A n P.c, .int .i64 P.ticks, .slice P.sA P.spans.length P.sc, .slice P.wA P.wires.length P.wc], .nilIface])) wz) := fun rs wr wz hmid hk => by
    have h := PgMid.done (m := m) (by rw [HPN.out]; exact hmid) HPL.out HPT.out.fits HPT.out.spansOk HPT.out.wiresOk hk
    rw [HPN.out] at h
    exact h
  generalize w4.heap.size = wb at HM0 HDONE ⊢
  clear HR5 HK5 HBX5 HB5 HWAYS HB3 HBX3 HOU3 HRO3 HSP3 HWI3 HCD3 HSZ3 HI75 HONE HB4 HBOX2 HOUT2 HROWS HFR HPT HB2 HBOX HOUT HBW1 HCK HOWN s1 hlt1
  go_wp2_with fail
  clear p0 hltp
  go_loopw [34, 8] (fun v34 v8 wr => ∃ (k : Nat) (rs : List Ro), k ≤ n ∧ v34 = .int .i64 k ∧ PgMid w wr P room rs wb k) (fun v34 _ _ => n - (intOf v34).toNat)
  case atStart => exact ⟨0, P.ros, by omega, rfl, HM0.out⟩
  case round =>
    obtain ⟨k, rs, hk, rfl, hmid⟩ := hrel
    have HMD := hid hmid
    have hbx := hmid.box
    rw [HPN.out] at hbx
    have HBX := hid hbx
    clear hmid hbx
    by_cases hkn : k < n
    · have hk5 : k < 5 := by omega
      have hr5 : room < 5 := by omega
      have cw := (blk_cell HMD.out.wy (k * 5 + room)).trans (waysV_get P.wires hk5 hr5)
      have hltw := blk_lt HMD.out.wy
      by_cases hre : reachB P.wires k room = true
      · rw [hre] at cw
        have HRE := hid hre
        clear hre
        go_wp2_with fail
        go_roundw
        case rel => exact ⟨k + 1, rs, by omega, by go_num, HMD.out.skip HRE.out⟩
        case measure => simp [intOf]; omega
      · have HRE := hid hre
        have hre' : reachB P.wires k room = false := by simpa using hre
        rw [hre'] at cw
        have hkl : k < rs.length := by rw [HMD.out.len, HPN.out]; exact hkn
        obtain ⟨b, off, cur, hA, hh, _, _, hnc, hcm, hx⟩ := HMD.out.row.elem Ro.cells Ro.len (by decide) (List.getElem?_eq_getElem hkl)
        have hput := HMD.out.put HRE.out (by rw [HPN.out]; exact hkn) hA
        rw [World.setCell_alloc_past _ b (off + k) _ (blk_lt hh)] at hput
        have HPUT := hid hput
        clear hput
        have hcb : wr.cell? ⟨b, off + k, none⟩ = some (.slice rs[k].A rs[k].ops.length rs[k].c) := by
          have := (blk_cell hh _).trans (hx 0 _ rfl)
          simpa using this
        have hfb := blk_free hh (off + k)
        have hlb := blk_lt hh
        have p0 := blk_cell HBX.out 0
        simp at p0
        rw [hA] at p0
        have hltp := blk_lt HBX.out
        rw [HPN.out] at hnc
        unfold maxLen at hcm
        generalize Value.slice rs[k].A rs[k].ops.length rs[k].c = old at hcb
        clear hre hre' hh hx hA
        go_wp2_with fail
        go_roundw
        case rel => exact ⟨k + 1, _, by omega, by go_num, HPUT.out⟩
        case measure => simp [intOf]; omega
    · obtain rfl : n = k := by omega
      have p0 := blk_cell HBX.out 0
      have p1 := blk_cell HBX.out 1
      have p2 := blk_cell HBX.out 2
      have p3 := blk_cell HBX.out 3
      have hltp := blk_lt HBX.out
      have hout := HMD.out.out
      have e0 := blk_cell hout 0
      have e1 := blk_cell hout 1
      have e2 := blk_cell hout 2
      have e3 := blk_cell hout 3
      have ef := fun j => blk_free hout j
      have hlto := blk_lt hout
      simp at p0 p1 p2 p3 e0 e1 e2 e3
      have HD := hid (HDONE.out rs wr _ HMD.out (put4_keep wr (w.heap.size + 1) (.slice P.A n P.c) (.int .i64 P.ticks) (.slice P.sA P.spans.length P.sc) (.slice P.wA P.wires.length P.wc)))
      have hz : (put4 wr (w.heap.size + 1) (.slice P.A n P.c) (.int .i64 P.ticks) (.slice P.sA P.spans.length P.sc) (.slice P.wA P.wires.length P.wc)).heap[w.heap.size + 1]? = some (.cells #[.slice P.A n P.c, .int .i64 P.ticks, .slice P.sA P.spans.length P.sc, .slice P.wA P.wires.length P.wc] 31 (0, 0)) := by
        unfold put4
        simp [hp_set, hout, setObj]
      clear hout
      go_wp2_with fail
      obtain ⟨wz, hwz⟩ : ∃ wz, wz = put4 wr (w.heap.size + 1) (.slice P.A n P.c) (.int .i64 P.ticks) (.slice P.sA P.spans.length P.sc) (.slice P.wA P.wires.length P.wc) := ⟨_, rfl⟩
      rw [← hwz] at hz HD
      unfold put4 at hwz
      rw [← hwz]
      have z0 := blk_cell hz 0
      have z1 := blk_cell hz 1
      have z2 := blk_cell hz 2
      have z3 := blk_cell hz 3
      simp at z0 z1 z2 z3
      exact bodyPost_ret (v := .tuple #[.agg #[.slice P.A n P.c, .int .i64 P.ticks, .slice P.sA P.spans.length P.sc, .slice P.wA P.wires.length P.wc], .nilIface]) (by simp [results, Tryd.results42, go_sem, z0, z1, z2, z3]) rfl HD.out
end Go.Proofs.YtongkiccglaniaaDoor
