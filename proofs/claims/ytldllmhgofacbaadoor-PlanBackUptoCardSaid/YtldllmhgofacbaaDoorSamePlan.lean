/- framesame.Code and Plan: of two that are the same they say so. -/
import Derived.Test.YtldllmhgofacbaaDoorSameU
import Derived.Test.YtldllmhgofacbaaDoorPlanU
import Derived.Deep.DeepCutAuto
namespace Go.Proofs.YtldllmhgofacbaaDoor
open Go.RowKit
set_option maxRecDepth 100000

theorem same_code (A B : Option Addr) (n ca cb : Nat) (l : List Op) (w : World) (hA : Sl w A 3 n (l.flatMap Op.cells)) (hB : Sl w B 3 n (l.flatMap Op.cells)) (hn : n ≤ 140737488355328) (hca : n ≤ ca) (hcb : n ≤ cb) :
    Calls Tryd.prog 22 #[.slice A n ca, .slice B n cb] w (Read w (.bool true)) := by
  have HA := hid hA
  have HB := hid hB
  have hlen : l.length = n := by have := hA.1; rw [flatMap_len Op.cells 3 Op.len] at this; omega
  have HL := hid hlen
  have hgd := op_guard
  clear hA hB hlen
  go_enter Tryd.func22, Tryd.ntmps22
  go_wp2_with fail
  go_loopw [5] (fun v5 wr => ∃ k d : Nat, k ≤ n ∧ v5 = .int .i64 k ∧ wr = w.drewN d) (fun v5 _ => n - (intOf v5).toNat)
  case atStart => exact ⟨0, 0, by omega, rfl, rfl⟩
  case round =>
    obtain ⟨k, d, hk, rfl, rfl⟩ := hrel
    by_cases hkn : k < n
    · have hkl : k < l.length := by rw [HL.out]; exact hkn
      obtain ⟨b, o, rfl, _, c0, c1, c2⟩ := HA.out.op (Below.refl _ _) hkl hkn
      obtain ⟨b2, o2, rfl, _, d0, d1, d2⟩ := HB.out.op (Below.refl _ _) hkl hkn
      have hneq := op_neq l[k]
      generalize l[k] = x at c0 c1 c2 d0 d1 d2 hneq
      obtain ⟨xa, xb, xc⟩ := x
      simp only [] at c0 c1 c2 d0 d1 d2 hneq
      clear hkl
      go_wp2_with fail
      go_quiet (fail)
      go_wp2_with fail
      go_roundw
      case rel => exact ⟨k + 1, _, by omega, by go_num, rfl⟩
      case measure => simp [intOf]; omega
    · obtain rfl : k = n := by omega
      go_wp2_with fail
      go_ret
      exact ⟨rfl, d, rfl⟩
theorem same_code_q (A B : Option Addr) (n ca cb : Nat) (l : List Op) (w : World) (d : Nat) (hA : Sl w A 3 n (l.flatMap Op.cells)) (hB : Sl w B 3 n (l.flatMap Op.cells)) (hn : n ≤ 140737488355328) (hca : n ≤ ca) (hcb : n ≤ cb) :
    Calls Tryd.prog 22 #[.slice A n ca, .slice B n cb] (w.drewN d) fun e w' => e = .returned (.bool true) ∧ ∃ m, w' = w.drewN m := by
  have hb : Below w.heap.size w (w.drewN d) := ⟨rfl, rfl, rfl, Nat.le_refl _, fun _ _ => rfl⟩
  exact Calls.quiet_of ((same_code A B n ca cb l _ (hA.new hb) (hB.new hb) hn hca hcb).mono fun _ _ h => h)

def planV (a : PM) : Value := .agg #[.slice a.A a.ros.length a.c, .int .i64 a.ticks, .slice a.sA a.spans.length a.sc, .slice a.wA a.wires.length a.wc]
set_option maxHeartbeats 4000000 in
theorem same_plan (a b : PM) (w : World) (ha : PlanAt w a) (hb : PlanAt w b) (heq : a.pl = b.pl) (h1 : a.ros.length ≤ 1000) (h2 : a.spans.length ≤ 1000) (h3 : a.wires.length ≤ 1000) (h4 : ∀ r ∈ a.ros, r.ops.length ≤ 1000) :
    Calls Tryd.prog 7 #[.agg #[.slice a.A a.ros.length a.c, .int .i64 a.ticks, .slice a.sA a.spans.length a.sc, .slice a.wA a.wires.length a.wc], .agg #[.slice b.A b.ros.length b.c, .int .i64 b.ticks, .slice b.sA b.spans.length b.sc, .slice b.wA b.wires.length b.wc]] w
      fun e w' => e = .returned (.bool true) ∧ Below w.heap.size w w' := by
  have e1 : b.ros.map Ro.ops = a.ros.map Ro.ops := (congrArg Pl.code heq).symm
  have e2 : b.ticks = a.ticks := (congrArg Pl.ticks heq).symm
  have e3 : b.spans = a.spans := (congrArg Pl.spans heq).symm
  have e4 : b.wires = a.wires := (congrArg Pl.wires heq).symm
  have e5 : b.ros.length = a.ros.length := by have := congrArg List.length e1; simpa using this
  obtain ⟨n, hn⟩ : ∃ n, a.ros.length = n := ⟨_, rfl⟩
  obtain ⟨ns, hns⟩ : ∃ ns, a.spans.length = ns := ⟨_, rfl⟩
  obtain ⟨nw, hnw⟩ : ∃ nw, a.wires.length = nw := ⟨_, rfl⟩
  rw [e2, e3, e4, e5, hn, hns, hnw]
  have HRO : Hid (∀ k, k < n → ∃ (r q : Ro) (ab ao bb bo : Nat), a.A = some ⟨ab, ao, none⟩ ∧ b.A = some ⟨bb, bo, none⟩ ∧ ab < w.heap.size ∧ bb < w.heap.size ∧ w.cell? ⟨ab, ao + k, none⟩ = some (.slice r.A r.ops.length r.c) ∧ w.cell? ⟨bb, bo + k, none⟩ = some (.slice q.A r.ops.length q.c) ∧
      Sl w r.A 3 r.ops.length (r.ops.flatMap Op.cells) ∧ Sl w q.A 3 r.ops.length (r.ops.flatMap Op.cells) ∧ r.ops.length ≤ r.c ∧ r.ops.length ≤ q.c ∧ r.ops.length ≤ 1000) := fun k hk => by
    have hr := List.getElem?_eq_getElem (show k < a.ros.length by omega)
    have hq := List.getElem?_eq_getElem (show k < b.ros.length by omega)
    generalize a.ros[k] = r at hr
    generalize b.ros[k] = q at hq
    obtain ⟨ab, ao, g1, g2, g3⟩ := ha.rows.ro (Below.refl _ _) hr (by omega)
    obtain ⟨bb, bo, k1, k2, k3⟩ := hb.rows.ro (Below.refl _ _) hq (by omega)
    have hops : q.ops = r.ops := by
      have := congrArg (fun l => l[k]?) e1
      simp only [List.getElem?_map, hr, hq, Option.map_some, Option.some.injEq] at this
      exact this
    have ra := ha.codes r (List.mem_of_getElem? hr)
    have qa := hb.codes q (List.mem_of_getElem? hq)
    have q1 := qa.1
    have q2 := qa.2.1.1
    rw [hops] at k3 q1 q2
    exact ⟨r, q, ab, ao, bb, bo, g1, k1, g2, k2, g3, k3, ra.1, q1, ra.2.1.1, q2, h4 r (List.mem_of_getElem? hr)⟩
  have hsp1 := ha.spans
  have hsp2 := hb.spans
  have hwi1 := ha.wires
  have hwi2 := hb.wires
  rw [e3] at hsp2
  rw [e4] at hwi2
  have HS1 := hid hsp1
  have HS2 := hid hsp2
  have HW1 := hid hwi1
  have HW2 := hid hwi2
  have q1 := ha.rowsW.1
  have q2 := hb.rowsW.1
  have q3 := ha.spansW.1
  have q4 := hb.spansW.1
  have q5 := ha.wiresW.1
  have q6 := hb.wiresW.1
  have m1 := ha.rowsW.2.1
  have m2 := hb.rowsW.2.1
  have m3 := ha.spansW.2.1
  have m4 := hb.spansW.2.1
  have m5 := ha.wiresW.2.1
  have m6 := hb.wiresW.2.1
  rw [e5] at q2
  rw [e3] at q4
  rw [e4] at q6
  rw [hn] at q1 q2 h1
  rw [hns] at q3 q4 h2
  rw [hnw] at q5 q6 h3
  unfold maxLen at m1 m2 m3 m4 m5 m6
  have HNS := hid hns
  have HNW := hid hnw
  obtain ⟨A, c, ros, tk, sA, sc, spans, wA, wc, wires⟩ := a
  obtain ⟨A', c', ros', tk', sA', sc', spans', wA', wc', wires'⟩ := b
  simp only [] at HRO HS1 HS2 HW1 HW2 HNS HNW q1 q2 q3 q4 q5 q6 m1 m2 m3 m4 m5 m6 ⊢
  have hg1 := span_guard
  have hg2 := wire_guard
  clear ha hb heq h4 e1 e2 e3 e4 e5 hsp1 hsp2 hwi1 hwi2 hn hns hnw
  obtain ⟨W, hW⟩ : ∃ W, W = (w.alloc (.cells #[.slice A n c, .int .i64 tk, .slice sA ns sc, .slice wA nw wc] 26)).alloc (.cells #[.slice A' n c', .int .i64 tk, .slice sA' ns sc', .slice wA' nw wc'] 26) := ⟨_, rfl⟩
  have hbW : Below w.heap.size w W := by rw [hW]; exact ((Below.refl _ _).alloc (Nat.le_refl _) _).alloc (by simp) _
  have hx : W.heap[w.heap.size]? = some (.cells #[.slice A n c, .int .i64 tk, .slice sA ns sc, .slice wA nw wc] 26 (0, 0)) := by rw [hW, blk_alloc (by simp)]; exact heap_alloc_new _ _
  have hy : W.heap[w.heap.size + 1]? = some (.cells #[.slice A' n c', .int .i64 tk, .slice sA' ns sc', .slice wA' nw wc'] 26 (0, 0)) := by rw [hW, hp_alloc, if_pos (by simp)]
  have x0 := blk_cell hx 0
  have x1 := blk_cell hx 1
  have x2 := blk_cell hx 2
  have x3 := blk_cell hx 3
  have y0 := blk_cell hy 0
  have y1 := blk_cell hy 1
  have y2 := blk_cell hy 2
  have y3 := blk_cell hy 3
  have hxl := blk_lt hx
  have hyl := blk_lt hy
  simp at x0 x1 x2 x3 y0 y1 y2 y3
  have HBW := hid hbW
  have HW := hid hW
  clear hbW hx hy
  go_enter Tryd.func7, Tryd.ntmps7
  go_upto_region 1 with fail
  rw [← hW]
  clear hW HW
  go_wp2_with fail
  go_loopw [5, 6] (fun v5 v6 wr => ∃ k d : Nat, k ≤ n ∧ v5 = .int .i64 k ∧ wr = W.drewN d) (fun v5 _ _ => n - (intOf v5).toNat)
  case atStart => exact ⟨0, 0, by omega, rfl, rfl⟩
  case round =>
    obtain ⟨k, d, hk, rfl, hwr⟩ := hrel
    by_cases hkn : k < n
    · have hbw : Below W.heap.size W wr := by rw [hwr]; exact below_drawn (Below.refl _ _) _
      have HBR := hid (HBW.out.trans (hbw.mono HBW.out.size))
      have HWR := hid hwr
      obtain ⟨r, q, ab, ao, bb, bo, rfl, rfl, la, lb, g1, g2, g3, g4, g5, g6, g7⟩ := HRO.out k hkn
      have z1 := (HBR.out.cell (p := ⟨ab, ao + k, none⟩) la).trans g1
      have z2 := (HBR.out.cell (p := ⟨bb, bo + k, none⟩) lb).trans g2
      replace x0 := (hbw.cell (p := ⟨w.heap.size, 0, none⟩) hxl).trans x0
      replace y0 := (hbw.cell (p := ⟨w.heap.size + 1, 0, none⟩) hyl).trans y0
      replace hxl := Nat.lt_of_lt_of_le hxl hbw.size
      replace hyl := Nat.lt_of_lt_of_le hyl hbw.size
      have G3 := hid (g3.new HBR.out)
      have G4 := hid (g4.new HBR.out)
      obtain ⟨rA, rc, rops⟩ := r
      obtain ⟨qA, qc, qops⟩ := q
      simp only [] at z1 z2 g5 g6 g7
      obtain ⟨no, hno⟩ : ∃ no, no = rops.length := ⟨_, rfl⟩
      have hla := Nat.lt_of_lt_of_le la HBR.out.size
      have hlb := Nat.lt_of_lt_of_le lb HBR.out.size
      rw [← hno] at z1 z2 g5 g6 g7
      have HC : Hid (∀ e, Calls Tryd.prog 22 #[.slice rA no rc, .slice qA no qc] (wr.drewN e) fun ev w' => ev = .returned (.bool true) ∧ ∃ m, w' = wr.drewN m) := fun e => by
        have h3 := G3.out
        have h4 := G4.out
        simp only [← hno] at h3 h4
        exact same_code_q rA qA no rc qc rops wr e h3 h4 (by omega) g5 g6
      clear g1 g2 g3 g4 hno hwr hbw x1 x2 x3 y1 y2 y3
      go_wp2_with fail
      go_quiet ((go_at_call 22; exact HC.out _))
      go_wp2_with fail
      go_roundw
      case rel => exact ⟨k + 1, _, by omega, by go_num, by rw [HWR.out, World.drewN_drewN]⟩
      case measure => simp [intOf]; omega
    · obtain rfl : n = k := by omega
      subst hwr
      go_wp2_with fail
      go_loopw [7] (fun v7 wr => ∃ k d : Nat, k ≤ ns ∧ v7 = .int .i64 k ∧ wr = W.drewN d) (fun v7 _ => ns - (intOf v7).toNat)
      case atStart => exact ⟨0, d, by omega, rfl, rfl⟩
      case round =>
        obtain ⟨k, d, hk, rfl, rfl⟩ := hrel
        by_cases hkn : k < ns
        · have hkl : k < spans.length := by rw [HNS.out]; exact hkn
          obtain ⟨sb, so, rfl, sl, c0, c1, c2⟩ := HS1.out.span HBW.out hkl (by rw [HNS.out]; exact hkn)
          obtain ⟨tb, to', rfl, tl, d0, d1, d2⟩ := HS2.out.span HBW.out hkl (by rw [HNS.out]; exact hkn)
          have hneq := span_neq spans[k]
          generalize spans[k] = x at c0 c1 c2 d0 d1 d2 hneq
          obtain ⟨xa, xb, xc⟩ := x
          simp only [] at c0 c1 c2 d0 d1 d2 hneq
          clear hkl
          go_wp2_with fail
          go_quiet (fail)
          go_wp2_with fail
          go_roundw
          case rel => exact ⟨k + 1, _, by omega, by go_num, rfl⟩
          case measure => simp [intOf]; omega
        · obtain rfl : ns = k := by omega
          go_wp2_with fail
          go_loopw [8] (fun v8 wr => ∃ k d : Nat, k ≤ nw ∧ v8 = .int .i64 k ∧ wr = W.drewN d) (fun v8 _ => nw - (intOf v8).toNat)
          case atStart => exact ⟨0, d, by omega, rfl, rfl⟩
          case round =>
            obtain ⟨k, d, hk, rfl, rfl⟩ := hrel
            by_cases hkn : k < nw
            · have hkl : k < wires.length := by rw [HNW.out]; exact hkn
              obtain ⟨sb, so, rfl, sl, c0, c1, c2, c3⟩ := HW1.out.wire HBW.out hkl (by rw [HNW.out]; exact hkn)
              obtain ⟨tb, to', rfl, tl, d0, d1, d2, d3⟩ := HW2.out.wire HBW.out hkl (by rw [HNW.out]; exact hkn)
              have hneq := wire_neq wires[k]
              generalize wires[k] = x at c0 c1 c2 c3 d0 d1 d2 d3 hneq
              obtain ⟨xa, xb, xc, xd⟩ := x
              simp only [] at c0 c1 c2 c3 d0 d1 d2 d3 hneq
              clear hkl
              go_wp2_with fail
              go_quiet (fail)
              go_wp2_with fail
              go_roundw
              case rel => exact ⟨k + 1, _, by omega, by go_num, rfl⟩
              case measure => simp [intOf]; omega
            · obtain rfl : nw = k := by omega
              go_wp2_with fail
              go_ret
              exact ⟨rfl, below_drawn HBW.out _⟩
end Go.Proofs.YtldllmhgofacbaaDoor
