/- Several parts: each begins with what it says. -/
import Derived.Test.YtldllmhgofacbaaGreatDoorRangeUL
import Derived.Test.YtldllmhgofacbaaGreatDoorRLawU
import Derived.Test.YtldllmhgofacbaaGreatDoorSameUL
import Derived.Test.YtldllmhgofacbaaGreatDoorPlanUL
import Derived.Deep.DeepCutAuto
/- Plain: code that is right is read from its own text; and a right op more at its end. No program is walked. Conditions: none. -/
namespace Go.Proofs.YtldllmhgofacbaaGreatDoor

theorem form_of {k : Nat} : (formA k = false ↔ (k = 0 ∨ k = 7 ∨ k = 10 ∨ k = 11)) ∧ (formB k = false ↔ (k = 0 ∨ k = 10 ∨ k = 11)) := by
  unfold formA formB
  simp only [decide_eq_false_iff_not]
  omega
theorem wf_ok {l : List Op} (h : (codeChk l).2 = 0) : ∀ o ∈ l, WfOp o := by
  obtain ⟨h1, h20, hall⟩ := codeChk_ok h
  intro o ho
  obtain ⟨w1, w2, b0, b1, a0, a1⟩ := opOk_iff.1 (hall o ho)
  have hb : bBound o.what l.length ≤ 1000 := by
    unfold bBound
    split
    · omega
    · split
      · omega
      · split
        · omega
        · split <;> omega
  have ha : aBound o.what ≤ 6 := by unfold aBound; split <;> omega
  refine ⟨⟨w1, w2⟩, ⟨a0, by omega⟩, ⟨b0, by omega⟩, fun hf => ?_, fun hf => ?_⟩
  · have hk := form_of.1.1 hf
    unfold aBound at a1
    rw [if_pos (by omega)] at a1
    omega
  · have hk := form_of.2.1 hf
    unfold bBound at b1
    rw [if_neg (by omega), if_neg (by omega), if_neg (by omega), if_neg (by omega)] at b1
    omega
theorem opOk_mono {o : Op} {a b : Int} (h : opOk o a = true) (hab : a ≤ b) : opOk o b = true := by
  obtain ⟨w1, w2, b0, b1, a0, a1⟩ := opOk_iff.1 h
  refine opOk_iff.2 ⟨w1, w2, b0, ?_, a0, a1⟩
  unfold bBound at b1 ⊢
  split
  · rename_i h1; rw [if_pos h1] at b1; exact b1
  · rename_i h1
    rw [if_neg h1] at b1
    split
    · rename_i h2; rw [if_pos h2] at b1; exact b1
    · rename_i h2
      rw [if_neg h2] at b1
      split
      · rename_i h3; rw [if_pos h3] at b1; omega
      · rename_i h3; rw [if_neg h3] at b1; exact b1
theorem opsChk_all {many : Int} {l : List Op} (h : ∀ o ∈ l, opOk o many = true) : ∀ (f k : Nat), (opsChk many l f k).2 = 0
  | 0, _ => rfl
  | f + 1, k => by
    unfold opsChk
    split
    · rfl
    · rename_i o ho
      rw [if_neg (by rw [h o (List.mem_of_getElem? ho)]; decide)]
      exact opsChk_all h f (k + 1)
theorem chk_more {l : List Op} {o : Op} (h : (codeChk l).2 = 0) (ho : (codeChk [o]).2 = 0) (hl : l.length < 20) : (codeChk (l ++ [o])).2 = 0 := by
  obtain ⟨h1, _, hall⟩ := codeChk_ok h
  obtain ⟨_, _, hone⟩ := codeChk_ok ho
  have hlen : (l ++ [o]).length = l.length + 1 := by simp
  unfold codeChk
  rw [if_neg (by omega), if_neg (by omega)]
  refine opsChk_all (fun x hx => ?_) _ _
  rcases List.mem_append.1 hx with hx | hx
  · exact opOk_mono (hall x hx) (by omega)
  · exact opOk_mono (hone x hx) (by rw [hlen]; simp only [List.length_singleton]; omega)
theorem text_le {l : List Op} (h : ∀ o ∈ l, WfOp o) : (codeText l).length ≤ 15 * l.length := by
  have hname : ∀ k, (nameOf k).length ≤ 4 := by intro k; unfold nameOf; split <;> decide
  have hnums : ∀ L : List Int, (∀ n ∈ L, 0 ≤ n ∧ n < 10 ^ 4) → (L.flatMap numT).length ≤ 5 * L.length := by
    intro L
    induction L with
    | nil => intro _; simp
    | cons n L ih =>
      intro hL
      have h1 := ih fun m hm => hL m (by simp [hm])
      have h2 := itoa_le (k := 3) (hL n (by simp)).1 (hL n (by simp)).2
      have h3 : (numT n).length = (Lib.itoa n).length + 1 := rfl
      rw [List.flatMap_cons, List.length_append, List.length_cons]; omega
  induction l with
  | nil => simp [codeText]
  | cons o l ih =>
    have h1 := ih fun x hx => h x (by simp [hx])
    obtain ⟨_, hl, hn⟩ := op_wf (h o (by simp))
    have h2 := hnums _ hn
    have h3 := hname o.what.toNat
    have h4 : manyOf o.what.toNat ≤ 2 := by unfold manyOf; split <;> split <;> omega
    have h5 : (opText o).length = (nameOf o.what.toNat).length + ((fieldsOf o).flatMap numT).length + 1 := by
      unfold opText opLine
      rw [List.length_append, List.length_append, List.length_singleton]
    unfold codeText at h1 ⊢
    rw [List.flatMap_cons, List.length_append, List.length_cons]; omega
/-- The text that the statement reads first. -/
def factOps : List Op := [⟨1, 1, 5⟩, ⟨8, 1, 0⟩, ⟨7, 0, 0⟩]
theorem itoa_one {i : Nat} (h : i < 10) : Lib.itoa (i : Int) = [UInt8.ofNat (48 + i)] := by rw [itoa_nat]; exact Lib.decDigits_one h
theorem fact_text : codeText factOps = [115, 101, 116, 32, 49, 32, 53, 10, 115, 101, 110, 100, 32, 49, 32, 48, 10, 106, 117, 109, 112, 32, 48, 10] := by
  have h0 : Lib.itoa 0 = [48] := itoa_one (i := 0) (by decide)
  have h1 : Lib.itoa 1 = [49] := itoa_one (i := 1) (by decide)
  have h5 : Lib.itoa 5 = [53] := itoa_one (i := 5) (by decide)
  simp [codeText, factOps, opText, opLine, fieldsOf, nameOf, formA, formB, numT, h0, h1, h5]
theorem fact_ok : (codeChk factOps).2 = 0 := by decide
end Go.Proofs.YtldllmhgofacbaaGreatDoor

/- framesame.Code and Plan: of two that are the same they say so. -/
namespace Go.Proofs.YtldllmhgofacbaaGreatDoor
open Go.RowKit
set_option maxRecDepth 100000

theorem same_code (A B : Option Addr) (n ca cb : Nat) (l : List Op) (w : World) (hA : Sl w A 3 n (l.flatMap Op.cells)) (hB : Sl w B 3 n (l.flatMap Op.cells)) (hn : n ≤ 140737488355328) (hca : n ≤ ca) (hcb : n ≤ cb) :
    Calls Tryz.prog 38 #[.slice A n ca, .slice B n cb] w (Read w (.bool true)) := by
  have HA := hid hA
  have HB := hid hB
  have hlen : l.length = n := by have := hA.1; rw [flatMap_len Op.cells 3 Op.len] at this; omega
  have HL := hid hlen
  have hgd := op_guard
  clear hA hB hlen
  go_enter Tryz.func38, Tryz.ntmps38
  go_wp2_with fail
  go_loopw [5] (fun v5 wr => ∃ k d : Nat, k ≤ n ∧ v5 = .int .i64 k ∧ wr = w.drewN d) (fun v5 _ => n - (intOf v5).toNat)
  case atStart => exact ⟨0, 0, by omega, rfl, rfl⟩
  case round =>
    obtain ⟨k, d, hk, rfl, rfl⟩ := hrel
    by_cases hkn : k < n
    · have hkl : k < l.length := by rw [HL.out]; exact hkn
      obtain ⟨b, o, rfl, _, c0, c1, c2⟩ := HA.out.op (Below.refl _ _) hkl hkn
      obtain ⟨b2, o2, rfl, _, d0, d1, d2⟩ := HB.out.op (Below.refl _ _) hkl hkn
      have hneq := op_neq l[k]
      generalize l[k] = x at c0 c1 c2 d0 d1 d2 hneq
      obtain ⟨xa, xb, xc⟩ := x
      simp only [] at c0 c1 c2 d0 d1 d2 hneq
      clear hkl
      go_wp2_with fail
      go_quiet (fail)
      go_wp2_with fail
      go_roundw
      case rel => exact ⟨k + 1, _, by omega, by go_num, rfl⟩
      case measure => simp [intOf]; omega
    · obtain rfl : k = n := by omega
      go_wp2_with fail
      go_ret
      exact ⟨rfl, d, rfl⟩
theorem same_code_q (A B : Option Addr) (n ca cb : Nat) (l : List Op) (w : World) (d : Nat) (hA : Sl w A 3 n (l.flatMap Op.cells)) (hB : Sl w B 3 n (l.flatMap Op.cells)) (hn : n ≤ 140737488355328) (hca : n ≤ ca) (hcb : n ≤ cb) :
    Calls Tryz.prog 38 #[.slice A n ca, .slice B n cb] (w.drewN d) fun e w' => e = .returned (.bool true) ∧ ∃ m, w' = w.drewN m := by
  have hb : Below w.heap.size w (w.drewN d) := ⟨rfl, rfl, rfl, Nat.le_refl _, fun _ _ => rfl⟩
  exact Calls.quiet_of ((same_code A B n ca cb l _ (hA.new hb) (hB.new hb) hn hca hcb).mono fun _ _ h => h)

def planV (a : PM) : Value := .agg #[.slice a.A a.ros.length a.c, .int .i64 a.ticks, .slice a.sA a.spans.length a.sc, .slice a.wA a.wires.length a.wc]
set_option maxHeartbeats 4000000 in
theorem same_plan (a b : PM) (w : World) (ha : PlanAt w a) (hb : PlanAt w b) (heq : a.pl = b.pl) (h1 : a.ros.length ≤ 1000) (h2 : a.spans.length ≤ 1000) (h3 : a.wires.length ≤ 1000) (h4 : ∀ r ∈ a.ros, r.ops.length ≤ 1000) :
    Calls Tryz.prog 19 #[.agg #[.slice a.A a.ros.length a.c, .int .i64 a.ticks, .slice a.sA a.spans.length a.sc, .slice a.wA a.wires.length a.wc], .agg #[.slice b.A b.ros.length b.c, .int .i64 b.ticks, .slice b.sA b.spans.length b.sc, .slice b.wA b.wires.length b.wc]] w
      fun e w' => e = .returned (.bool true) ∧ Below w.heap.size w w' := by
  have e1 : b.ros.map Ro.ops = a.ros.map Ro.ops := (congrArg Pl.code heq).symm
  have e2 : b.ticks = a.ticks := (congrArg Pl.ticks heq).symm
  have e3 : b.spans = a.spans := (congrArg Pl.spans heq).symm
  have e4 : b.wires = a.wires := (congrArg Pl.wires heq).symm
  have e5 : b.ros.length = a.ros.length := by have := congrArg List.length e1; simpa using this
  obtain ⟨n, hn⟩ : ∃ n, a.ros.length = n := ⟨_, rfl⟩
  obtain ⟨ns, hns⟩ : ∃ ns, a.spans.length = ns := ⟨_, rfl⟩
  obtain ⟨nw, hnw⟩ : ∃ nw, a.wires.length = nw := ⟨_, rfl⟩
  rw [e2, e3, e4, e5, hn, hns, hnw]
  have HRO : Hid (∀ k, k < n → ∃ (r q : Ro) (ab ao bb bo : Nat), a.A = some ⟨ab, ao, none⟩ ∧ b.A = some ⟨bb, bo, none⟩ ∧ ab < w.heap.size ∧ bb < w.heap.size ∧ w.cell? ⟨ab, ao + k, none⟩ = some (.slice r.A r.ops.length r.c) ∧ w.cell? ⟨bb, bo + k, none⟩ = some (.slice q.A r.ops.length q.c) ∧
      Sl w r.A 3 r.ops.length (r.ops.flatMap Op.cells) ∧ Sl w q.A 3 r.ops.length (r.ops.flatMap Op.cells) ∧ r.ops.length ≤ r.c ∧ r.ops.length ≤ q.c ∧ r.ops.length ≤ 1000) := fun k hk => by
    have hr := List.getElem?_eq_getElem (show k < a.ros.length by omega)
    have hq := List.getElem?_eq_getElem (show k < b.ros.length by omega)
    generalize a.ros[k] = r at hr
    generalize b.ros[k] = q at hq
    obtain ⟨ab, ao, g1, g2, g3⟩ := ha.rows.ro (Below.refl _ _) hr (by omega)
    obtain ⟨bb, bo, k1, k2, k3⟩ := hb.rows.ro (Below.refl _ _) hq (by omega)
    have hops : q.ops = r.ops := by
      have := congrArg (fun l => l[k]?) e1
      simp only [List.getElem?_map, hr, hq, Option.map_some, Option.some.injEq] at this
      exact this
    have ra := ha.codes r (List.mem_of_getElem? hr)
    have qa := hb.codes q (List.mem_of_getElem? hq)
    have q1 := qa.1
    have q2 := qa.2.1.1
    rw [hops] at k3 q1 q2
    exact ⟨r, q, ab, ao, bb, bo, g1, k1, g2, k2, g3, k3, ra.1, q1, ra.2.1.1, q2, h4 r (List.mem_of_getElem? hr)⟩
  have hsp1 := ha.spans
  have hsp2 := hb.spans
  have hwi1 := ha.wires
  have hwi2 := hb.wires
  rw [e3] at hsp2
  rw [e4] at hwi2
  have HS1 := hid hsp1
  have HS2 := hid hsp2
  have HW1 := hid hwi1
  have HW2 := hid hwi2
  have q1 := ha.rowsW.1
  have q2 := hb.rowsW.1
  have q3 := ha.spansW.1
  have q4 := hb.spansW.1
  have q5 := ha.wiresW.1
  have q6 := hb.wiresW.1
  have m1 := ha.rowsW.2.1
  have m2 := hb.rowsW.2.1
  have m3 := ha.spansW.2.1
  have m4 := hb.spansW.2.1
  have m5 := ha.wiresW.2.1
  have m6 := hb.wiresW.2.1
  rw [e5] at q2
  rw [e3] at q4
  rw [e4] at q6
  rw [hn] at q1 q2 h1
  rw [hns] at q3 q4 h2
  rw [hnw] at q5 q6 h3
  unfold maxLen at m1 m2 m3 m4 m5 m6
  have HNS := hid hns
  have HNW := hid hnw
  obtain ⟨A, c, ros, tk, sA, sc, spans, wA, wc, wires⟩ := a
  obtain ⟨A', c', ros', tk', sA', sc', spans', wA', wc', wires'⟩ := b
  simp only [] at HRO HS1 HS2 HW1 HW2 HNS HNW q1 q2 q3 q4 q5 q6 m1 m2 m3 m4 m5 m6 ⊢
  have hg1 := span_guard
  have hg2 := wire_guard
  clear ha hb heq h4 e1 e2 e3 e4 e5 hsp1 hsp2 hwi1 hwi2 hn hns hnw
  obtain ⟨W, hW⟩ : ∃ W, W = (w.alloc (.cells #[.slice A n c, .int .i64 tk, .slice sA ns sc, .slice wA nw wc] 26)).alloc (.cells #[.slice A' n c', .int .i64 tk, .slice sA' ns sc', .slice wA' nw wc'] 26) := ⟨_, rfl⟩
  have hbW : Below w.heap.size w W := by rw [hW]; exact ((Below.refl _ _).alloc (Nat.le_refl _) _).alloc (by simp) _
  have hx : W.heap[w.heap.size]? = some (.cells #[.slice A n c, .int .i64 tk, .slice sA ns sc, .slice wA nw wc] 26 (0, 0)) := by rw [hW, blk_alloc (by simp)]; exact heap_alloc_new _ _
  have hy : W.heap[w.heap.size + 1]? = some (.cells #[.slice A' n c', .int .i64 tk, .slice sA' ns sc', .slice wA' nw wc'] 26 (0, 0)) := by rw [hW, hp_alloc, if_pos (by simp)]
  have x0 := blk_cell hx 0
  have x1 := blk_cell hx 1
  have x2 := blk_cell hx 2
  have x3 := blk_cell hx 3
  have y0 := blk_cell hy 0
  have y1 := blk_cell hy 1
  have y2 := blk_cell hy 2
  have y3 := blk_cell hy 3
  have hxl := blk_lt hx
  have hyl := blk_lt hy
  simp at x0 x1 x2 x3 y0 y1 y2 y3
  have HBW := hid hbW
  have HW := hid hW
  clear hbW hx hy
  go_enter Tryz.func19, Tryz.ntmps19
  go_upto_region 1 with fail
  rw [← hW]
  clear hW HW
  go_wp2_with fail
  go_loopw [5, 6] (fun v5 v6 wr => ∃ k d : Nat, k ≤ n ∧ v5 = .int .i64 k ∧ wr = W.drewN d) (fun v5 _ _ => n - (intOf v5).toNat)
  case atStart => exact ⟨0, 0, by omega, rfl, rfl⟩
  case round =>
    obtain ⟨k, d, hk, rfl, hwr⟩ := hrel
    by_cases hkn : k < n
    · have hbw : Below W.heap.size W wr := by rw [hwr]; exact below_drawn (Below.refl _ _) _
      have HBR := hid (HBW.out.trans (hbw.mono HBW.out.size))
      have HWR := hid hwr
      obtain ⟨r, q, ab, ao, bb, bo, rfl, rfl, la, lb, g1, g2, g3, g4, g5, g6, g7⟩ := HRO.out k hkn
      have z1 := (HBR.out.cell (p := ⟨ab, ao + k, none⟩) la).trans g1
      have z2 := (HBR.out.cell (p := ⟨bb, bo + k, none⟩) lb).trans g2
      replace x0 := (hbw.cell (p := ⟨w.heap.size, 0, none⟩) hxl).trans x0
      replace y0 := (hbw.cell (p := ⟨w.heap.size + 1, 0, none⟩) hyl).trans y0
      replace hxl := Nat.lt_of_lt_of_le hxl hbw.size
      replace hyl := Nat.lt_of_lt_of_le hyl hbw.size
      have G3 := hid (g3.new HBR.out)
      have G4 := hid (g4.new HBR.out)
      obtain ⟨rA, rc, rops⟩ := r
      obtain ⟨qA, qc, qops⟩ := q
      simp only [] at z1 z2 g5 g6 g7
      obtain ⟨no, hno⟩ : ∃ no, no = rops.length := ⟨_, rfl⟩
      have hla := Nat.lt_of_lt_of_le la HBR.out.size
      have hlb := Nat.lt_of_lt_of_le lb HBR.out.size
      rw [← hno] at z1 z2 g5 g6 g7
      have HC : Hid (∀ e, Calls Tryz.prog 38 #[.slice rA no rc, .slice qA no qc] (wr.drewN e) fun ev w' => ev = .returned (.bool true) ∧ ∃ m, w' = wr.drewN m) := fun e => by
        have h3 := G3.out
        have h4 := G4.out
        simp only [← hno] at h3 h4
        exact same_code_q rA qA no rc qc rops wr e h3 h4 (by omega) g5 g6
      clear g1 g2 g3 g4 hno hwr hbw x1 x2 x3 y1 y2 y3
      go_wp2_with fail
      go_quiet ((go_at_call 38; exact HC.out _))
      go_wp2_with fail
      go_roundw
      case rel => exact ⟨k + 1, _, by omega, by go_num, by rw [HWR.out, World.drewN_drewN]⟩
      case measure => simp [intOf]; omega
    · obtain rfl : n = k := by omega
      subst hwr
      go_wp2_with fail
      go_loopw [7] (fun v7 wr => ∃ k d : Nat, k ≤ ns ∧ v7 = .int .i64 k ∧ wr = W.drewN d) (fun v7 _ => ns - (intOf v7).toNat)
      case atStart => exact ⟨0, d, by omega, rfl, rfl⟩
      case round =>
        obtain ⟨k, d, hk, rfl, rfl⟩ := hrel
        by_cases hkn : k < ns
        · have hkl : k < spans.length := by rw [HNS.out]; exact hkn
          obtain ⟨sb, so, rfl, sl, c0, c1, c2⟩ := HS1.out.span HBW.out hkl (by rw [HNS.out]; exact hkn)
          obtain ⟨tb, to', rfl, tl, d0, d1, d2⟩ := HS2.out.span HBW.out hkl (by rw [HNS.out]; exact hkn)
          have hneq := span_neq spans[k]
          generalize spans[k] = x at c0 c1 c2 d0 d1 d2 hneq
          obtain ⟨xa, xb, xc⟩ := x
          simp only [] at c0 c1 c2 d0 d1 d2 hneq
          clear hkl
          go_wp2_with fail
          go_quiet (fail)
          go_wp2_with fail
          go_roundw
          case rel => exact ⟨k + 1, _, by omega, by go_num, rfl⟩
          case measure => simp [intOf]; omega
        · obtain rfl : ns = k := by omega
          go_wp2_with fail
          go_loopw [8] (fun v8 wr => ∃ k d : Nat, k ≤ nw ∧ v8 = .int .i64 k ∧ wr = W.drewN d) (fun v8 _ => nw - (intOf v8).toNat)
          case atStart => exact ⟨0, d, by omega, rfl, rfl⟩
          case round =>
            obtain ⟨k, d, hk, rfl, rfl⟩ := hrel
            by_cases hkn : k < nw
            · have hkl : k < wires.length := by rw [HNW.out]; exact hkn
              obtain ⟨sb, so, rfl, sl, c0, c1, c2, c3⟩ := HW1.out.wire HBW.out hkl (by rw [HNW.out]; exact hkn)
              obtain ⟨tb, to', rfl, tl, d0, d1, d2, d3⟩ := HW2.out.wire HBW.out hkl (by rw [HNW.out]; exact hkn)
              have hneq := wire_neq wires[k]
              generalize wires[k] = x at c0 c1 c2 c3 d0 d1 d2 d3 hneq
              obtain ⟨xa, xb, xc, xd⟩ := x
              simp only [] at c0 c1 c2 c3 d0 d1 d2 d3 hneq
              clear hkl
              go_wp2_with fail
              go_quiet (fail)
              go_wp2_with fail
              go_roundw
              case rel => exact ⟨k + 1, _, by omega, by go_num, rfl⟩
              case measure => simp [intOf]; omega
            · obtain rfl : nw = k := by omega
              go_wp2_with fail
              go_ret
              exact ⟨rfl, below_drawn HBW.out _⟩
end Go.Proofs.YtldllmhgofacbaaGreatDoor
