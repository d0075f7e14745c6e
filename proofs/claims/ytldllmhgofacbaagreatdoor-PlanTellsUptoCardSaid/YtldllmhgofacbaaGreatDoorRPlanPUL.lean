/- Several parts: each begins with what it says. -/
import Derived.Test.YtldllmhgofacbaaGreatDoorPTextUL
import Derived.Test.YtldllmhgofacbaaGreatDoorRNumsUL
import Derived.Test.YtldllmhgofacbaaGreatDoorPReadUL
import Derived.Test.YtldllmhgofacbaaGreatDoorRPlanUL
import Derived.Test.YtldllmhgofacbaaGreatDoorPParseUL
import Derived.Deep.RegionHeld3
import Derived.Deep.DeepCutAuto
import Derived.Test.YtldllmhgofacbaaGreatDoorPPrintUL
/- Plain: what a reader of a plan's text that goes part by part finds: lines of a part, and texts that are no plan's. No program is walked. Conditions: none. -/
namespace Go.Proofs.YtldllmhgofacbaaGreatDoor

def PLine.part : PLine → Nat
  | .frame _ => 0
  | .span _ => 1
  | .wire _ => 2
  | .room => 3
  | .op _ => 4
theorem mk_part {i : Nat} (ns : List Nat) (h : i < 4) : (mkLine i ns).part = i := by rcases four h with rfl | rfl | rfl | rfl <;> rfl
theorem part_head {l : PLine} (h : l.part < 4) : l.isHead = true := by
  cases l with
  | op o => exact absurd h (by simp [PLine.part])
  | _ => rfl
/-- Is a line one of a part? -/
def IsPart (i : Nat) (s : List UInt8) : Prop := ∃ l : PLine, l.Wf ∧ l.part = i ∧ l.txt = s
theorem no_part {s v0 : List UInt8} {vs : List (List UInt8)} (hc : cutA 32 [] s = v0 :: vs) {i : Nat} (hi : i < 4) (h : ¬ (v0 = partWord i ∧ ∃ ns, numsOf 4 vs = some ns ∧ ns.length = partMany i)) : ¬ IsPart i s := by
  rintro ⟨l, hl, hp, e⟩
  obtain ⟨j, h1, h2, h3, h4, ms, rfl⟩ := head_of hl (part_head (by omega)) e hc
  rw [mk_part ms h1] at hp
  subst hp
  exact h ⟨h2, _, h3, h4⟩
/-- No plan has this text: its lines so far are read, and the next one is not. -/
theorem rp_no {P : List (List UInt8)} {t s : List UInt8} {i : Nat} {ls : List PLine} {S : PS} (ht : t = P.flatMap fun x => x ++ [10]) (hP : ∀ x ∈ P, (10 : UInt8) ∉ x) (hi : P[i]? = some s) (hls : ls.map PLine.txt = P.take i) (hwf : ∀ l ∈ ls, l.Wf) (hrun : PS.start.run ls = some S)
    (H : ∀ l : PLine, l.Wf → l.txt = s → S.step l = none) (p : Pl) (hp : WfPl p) : planText p ≠ t := by
  have hlin : linesOf t = P.map fun x => x ++ [10] := by rw [ht]; exact lines_join2 P hP
  by_cases hl : ∃ l : PLine, l.Wf ∧ l.txt = s
  · obtain ⟨l, hw, he⟩ := hl
    obtain ⟨h1, h2⟩ := List.getElem?_eq_some_iff.1 hi
    have e : P = P.take i ++ s :: P.drop (i + 1) := by
      rw [← h2, List.getElem_cons_drop, List.take_append_drop]
    refine plan_stuck (ls := ls) (l := l) (rest := (P.drop (i + 1)).map fun x => x ++ [10]) ?_ hrun hwf hw (H l hw he) p hp
    rw [hlin]
    conv => lhs; rw [e]
    rw [List.map_append, List.map_cons, ← hls, List.map_map]
    unfold plineText
    rw [he]; rfl
  · refine plan_not (x := s ++ [10]) ?_ (fun l hw he => hl ⟨l, hw, ?_⟩) p hp
    · rw [hlin]; exact List.mem_map_of_mem (f := fun x : List UInt8 => x ++ [10]) (List.mem_of_getElem? hi)
    · unfold plineText at he; exact List.append_cancel_right he
theorem rp_all {P : List (List UInt8)} {t : List UInt8} {ls : List PLine} {S : PS} (ht : t = P.flatMap fun x => x ++ [10]) (hP : ∀ x ∈ P, (10 : UInt8) ∉ x) (hls : ls.map PLine.txt = P) (hwf : ∀ l ∈ ls, l.Wf) (hrun : PS.start.run ls = some S) (hb : S.begun = true) : planText S.p = t ∧ WfPl S.p := by
  refine ⟨plan_of (ls := ls) ?_ hrun hb, plan_wf hrun hb hwf⟩
  rw [ht, lines_join2 P hP, ← hls, List.map_map]; rfl
/-- A text whose end is no line's is no plan's. -/
theorem plan_no_tail {P : List (List UInt8)} {z t : List UInt8} (ht : t = P.flatMap (fun x => x ++ [10]) ++ z) (hz : z ≠ []) (h10 : (10 : UInt8) ∉ z) (p : Pl) : planText p ≠ t := by
  intro h
  have hlast : t.getLast? = some 10 := by
    rw [← h]
    unfold planText linesP
    rcases List.eq_nil_or_concat (PLine.frame p.ticks :: (p.spans.map PLine.span ++ (p.wires.map PLine.wire ++ codeLines p.code))) with h0 | ⟨a, x, h0⟩
    · simp at h0
    · rw [h0, List.concat_eq_append, List.flatMap_append, List.flatMap_singleton]
      unfold plineText
      rw [← List.append_assoc, List.getLast?_append]; simp
  rw [ht, List.getLast?_append] at hlast
  cases hz2 : z.getLast? with
  | none => rw [List.getLast?_eq_none_iff] at hz2; exact hz hz2
  | some x =>
    rw [hz2] at hlast
    simp at hlast
    subst hlast
    exact h10 (List.mem_of_getLast? hz2)
theorem plan_no_empty (p : Pl) : planText p ≠ [] := by
  unfold planText linesP plineText
  rw [List.flatMap_cons]
  simp
/-- What each line does, and what does nothing. -/
theorem ps_span {p : Pl} {q : Nat} (hq : q ≤ 1) (x : Span) : (PS.mk p q true).step (.span x) = some ⟨⟨p.code, p.ticks, p.spans ++ [x], p.wires⟩, 1, true⟩ := by
  rw [step_span, if_pos ⟨rfl, hq⟩]
theorem ps_wire {p : Pl} {q : Nat} (hq : q ≤ 2) (x : Wire) : (PS.mk p q true).step (.wire x) = some ⟨⟨p.code, p.ticks, p.spans, p.wires ++ [x]⟩, 2, true⟩ := by
  rw [step_wire, if_pos ⟨rfl, hq⟩]
theorem ps_room {p : Pl} {q : Nat} : (PS.mk p q true).step .room = some ⟨⟨p.code ++ [[]], p.ticks, p.spans, p.wires⟩, 3, true⟩ := by
  rw [step_room, if_pos rfl]
theorem ps_op {p : Pl} {q : Nat} (h : p.code ≠ []) (o : Op) : (PS.mk p q true).step (.op o) = some ⟨⟨addOp p.code o, p.ticks, p.spans, p.wires⟩, q, true⟩ := by
  rw [step_op, if_neg h]
/-- The last loop stops: no line that may stand here. -/
theorem rp_stop {p : Pl} {q : Nat} {s : List UInt8} (h1 : q ≤ 1 → ¬ IsPart 1 s) (h2 : q ≤ 2 → ¬ IsPart 2 s) (h3 : s ≠ PLine.room.txt) (h4 : p.code = [] ∨ ∀ o, WfOp o → opLine o ≠ s) (l : PLine) (hl : l.Wf) (he : l.txt = s) : (PS.mk p q true).step l = none := by
  cases l with
  | frame n => rw [step_frame, if_pos rfl]
  | span x =>
    rw [step_span, if_neg]
    rintro ⟨_, hq⟩
    exact h1 hq ⟨_, hl, rfl, he⟩
  | wire x =>
    rw [step_wire, if_neg]
    rintro ⟨_, hq⟩
    exact h2 hq ⟨_, hl, rfl, he⟩
  | room => exact absurd he.symm h3
  | op o =>
    rw [step_op]
    rcases h4 with h4 | h4
    · rw [if_pos h4]
    · exact absurd he (h4 o hl.2)
/-- The first line is no frame. -/
theorem rp_first {s : List UInt8} (h : ¬ IsPart 0 s) (l : PLine) (hl : l.Wf) (he : l.txt = s) : PS.start.step l = none := by
  cases l with
  | frame n => exact absurd ⟨_, hl, rfl, he⟩ h
  | span x => rfl
  | wire x => rfl
  | room => rfl
  | op o => rfl
theorem room_txt : PLine.room.txt = [114, 111, 111, 109] := rfl
end Go.Proofs.YtldllmhgofacbaaGreatDoor

/- The reference (package frameref1): the contract of ReadPlan, for every text. Conditions: no text is longer than 2^30 bytes. -/
namespace Go.Proofs.YtldllmhgofacbaaGreatDoor
open Go.RowKit
set_option maxRecDepth 100000

/-- What ReadPlan hands back. -/
def RReadGot (t : ByteArray) (w : World) (e : Ending) (w' : World) : Prop :=
  Below w.heap.size w w' ∧
  ((∃ m : PM, WfPl m.pl ∧ planText m.pl = t.data.toList ∧ planChk m.pl = 0 ∧ e = .returned (.tuple #[.agg #[.slice m.A m.ros.length m.c, .int .i64 m.ticks, .slice m.sA m.spans.length m.sc, .slice m.wA m.wires.length m.wc], .int .i64 0]) ∧ PlanAt w' m) ∨
   (∃ p : Pl, WfPl p ∧ planText p = t.data.toList ∧ planChk p ≠ 0 ∧ e = .returned (.tuple #[.agg zeroPl, .int .i64 (planChk p)])) ∨
   ((∀ p : Pl, WfPl p → planText p ≠ t.data.toList) ∧ e = .returned (.tuple #[.agg zeroPl, .int .i64 2])))
/-- So many lines are read, of parts up to one. -/
structure RLines (P : List (List UInt8)) (i part : Nat) (p : Pl) : Prop where
  out : ∃ (ls : List PLine) (q : Nat), (∀ l ∈ ls, l.Wf) ∧ ls.map PLine.txt = P.take i ∧ PS.start.run ls = some ⟨p, q, true⟩ ∧ q ≤ part ∧ (2 ≤ part → q ≤ 1 → ∀ s, P[i]? = some s → ¬ IsPart 1 s) ∧ (3 ≤ part → q ≤ 2 → ∀ s, P[i]? = some s → ¬ IsPart 2 s)
section
variable {P : List (List UInt8)} {i part : Nat} {p : Pl} {s : List UInt8}
theorem rl_few (h : RLines P i part p) : p.code.length ≤ i ∧ p.spans.length ≤ i ∧ p.wires.length ≤ i ∧ ∀ c ∈ p.code, c.length ≤ i := by
  obtain ⟨ls, q, _, h2, h3, _⟩ := h.out
  have hl : ls.length ≤ i := by
    have := congrArg List.length h2
    rw [List.length_map, List.length_take] at this
    omega
  obtain ⟨a, b, c, d⟩ := psok_few (psok_run h3)
  simp only [] at a b c d
  exact ⟨by omega, by omega, by omega, fun x hx => by have := d x hx; omega⟩
theorem take_next (hs : P[i]? = some s) : P.take (i + 1) = P.take i ++ [s] := by
  obtain ⟨h1, h2⟩ := List.getElem?_eq_some_iff.1 hs
  rw [List.take_succ_eq_append_getElem h1, h2]
theorem rl_frame {N : Nat} (hs : P[0]? = some s) (hw : (PLine.frame N).Wf) (ht : (PLine.frame N).txt = s) : RLines P 1 1 ⟨[], N, [], []⟩ := by
  refine ⟨[.frame N], 0, fun l hl => ?_, ?_, rfl, by omega, fun h => absurd h (by decide), fun h => absurd h (by decide)⟩
  · rw [List.mem_singleton] at hl; rw [hl]; exact hw
  · rw [show (1 : Nat) = 0 + 1 from rfl, take_next hs, List.map_singleton, ht]; rfl
theorem rl_step {part' : Nat} {p' : Pl} {l : PLine} (h : RLines P i part p) (hs : P[i]? = some s) (hw : l.Wf) (ht : l.txt = s) (hpart : 1 ≤ part') (hl : ∀ q, q ≤ part → (3 ≤ part → p.code ≠ [] → q = 3) → (PS.mk p q true).step l = some ⟨p', part', true⟩) (h3 : 3 ≤ part → part' = 3) (h2 : part = 2 → part' = 2) (h1 : part = 1 → part' = 1) (hp : part = 1 ∨ part = 2 ∨ part = 3) : RLines P (i + 1) part p' := by
  obtain ⟨ls, q, g1, g2, g3, g4, g5, g6⟩ := h.out
  have hq : 3 ≤ part → p.code ≠ [] → q = 3 := fun hp hc => by
    have h0 := psok_run g3
    rcases Nat.lt_or_ge q 3 with hlt | hge
    · exact absurd (h0.p2 (by show q ≤ 2; omega)) hc
    · have := h0.p3
      simp only [] at this; omega
  have hst := hl q g4 hq
  refine ⟨ls ++ [l], part', fun x hx => ?_, ?_, ?_, by rcases hp with rfl | rfl | rfl <;> omega, fun hp2 hle => ?_, fun hp3 hle => ?_⟩
  · rcases List.mem_append.1 hx with hx | hx
    · exact g1 x hx
    · rw [List.mem_singleton] at hx; rw [hx]; exact hw
  · rw [List.map_append, g2, take_next hs, List.map_singleton, ht]
  · rw [run_snoc g3, hst]
  · rcases hp with rfl | rfl | rfl
    · omega
    · have := h2 rfl; omega
    · have := h3 (Nat.le_refl _); omega
  · have := h3 hp3; omega
theorem rl_span (h : RLines P i 1 p) (hs : P[i]? = some s) {x : Span} (hw : (PLine.span x).Wf) (ht : (PLine.span x).txt = s) : RLines P (i + 1) 1 ⟨p.code, p.ticks, p.spans ++ [x], p.wires⟩ :=
  rl_step (part' := 1) h hs hw ht (by omega) (fun q hq _ => ps_span hq x) (fun h => absurd h (by decide)) (fun h => absurd h (by decide)) (fun _ => rfl) (.inl rfl)
theorem rl_wire (h : RLines P i 2 p) (hs : P[i]? = some s) {x : Wire} (hw : (PLine.wire x).Wf) (ht : (PLine.wire x).txt = s) : RLines P (i + 1) 2 ⟨p.code, p.ticks, p.spans, p.wires ++ [x]⟩ :=
  rl_step (part' := 2) h hs hw ht (by omega) (fun q hq _ => ps_wire hq x) (fun h => absurd h (by decide)) (fun _ => rfl) (fun h => absurd h (by decide)) (.inr (.inl rfl))
theorem room_wf : PLine.room.Wf := ⟨fun n hn => by simp [PLine.nums] at hn, trivial⟩
theorem rl_room (h : RLines P i 3 p) (hs : P[i]? = some PLine.room.txt) : RLines P (i + 1) 3 ⟨p.code ++ [[]], p.ticks, p.spans, p.wires⟩ :=
  rl_step (part' := 3) (l := .room) h hs room_wf rfl (by omega) (fun q _ _ => ps_room) (fun _ => rfl) (fun h => absurd h (by decide)) (fun h => absurd h (by decide)) (.inr (.inr rfl))
theorem rl_op (h : RLines P i 3 p) (hs : P[i]? = some s) {o : Op} (ho : WfOp o) (ht : opLine o = s) (hc : p.code ≠ []) : RLines P (i + 1) 3 ⟨addOp p.code o, p.ticks, p.spans, p.wires⟩ :=
  rl_step (part' := 3) (l := .op o) h hs ⟨(op_wf ho).2.2, ho⟩ ht (by omega) (fun q _ hq => by rw [ps_op hc]; rw [hq (Nat.le_refl _) hc]) (fun _ => rfl) (fun h => absurd h (by decide)) (fun h => absurd h (by decide)) (.inr (.inr rfl))
theorem rl_to2 (h : RLines P i 1 p) (hn : ∀ s, P[i]? = some s → ¬ IsPart 1 s) : RLines P i 2 p := by
  obtain ⟨ls, q, g1, g2, g3, g4, _, _⟩ := h.out
  exact ⟨ls, q, g1, g2, g3, by omega, fun _ _ => hn, fun h => absurd h (by decide)⟩
theorem rl_to3 (h : RLines P i 2 p) (hn : ∀ s, P[i]? = some s → ¬ IsPart 2 s) : RLines P i 3 p := by
  obtain ⟨ls, q, g1, g2, g3, g4, g5, _⟩ := h.out
  exact ⟨ls, q, g1, g2, g3, by omega, fun _ => g5 (by decide), fun _ _ => hn⟩
theorem rl_stop {t : List UInt8} (h : RLines P i 3 p) (ht : t = P.flatMap fun x => x ++ [10]) (hP : ∀ x ∈ P, (10 : UInt8) ∉ x) (hs : P[i]? = some s) (h3 : s ≠ PLine.room.txt) (h4 : p.code = [] ∨ ∀ o, WfOp o → opLine o ≠ s) : ∀ p' : Pl, WfPl p' → planText p' ≠ t := by
  obtain ⟨ls, q, g1, g2, g3, g4, g5, g6⟩ := h.out
  exact fun p' hp' => rp_no ht hP hs g2 g1 g3 (rp_stop (fun hq => g5 (by decide) hq s hs) (fun hq => g6 (by decide) hq s hs) h3 h4) p' hp'
theorem rl_done {t : List UInt8} (h : RLines P P.length 3 p) (ht : t = P.flatMap fun x => x ++ [10]) (hP : ∀ x ∈ P, (10 : UInt8) ∉ x) : planText p = t ∧ WfPl p := by
  obtain ⟨ls, q, g1, g2, g3, _⟩ := h.out
  rw [List.take_length] at g2
  have h9 := rp_all (S := ⟨p, q, true⟩) ht hP g2 g1 g3 rfl
  exact h9
end
theorem rp_plan {base b : Nat} {w : World} {m : PM} (h : RpAt base w b m) (hw : WfPl m.pl) : PlanAt w m := by
  have hop : ∀ r ∈ m.ros, ∀ o ∈ r.ops, o.Ok := fun r hr o ho => by
    have hl : PLine.op o ∈ linesP m.pl := by
      unfold linesP codeLines PM.pl
      simp only [List.mem_cons, List.mem_append, List.mem_flatMap, List.mem_map]
      exact .inr (.inr (.inr ⟨r.ops, ⟨r, hr, rfl⟩, .inr ⟨o, ho, rfl⟩⟩))
    exact wfop_fits (hw _ hl).2
  have hfr : PLine.frame m.ticks ∈ linesP m.pl := by unfold linesP PM.pl; simp
  refine ⟨h.rows.sl, h.rows.slW, fun r hr => ⟨(h.codes r hr).sl, (h.codes r hr).slW, hop r hr⟩, fits_small ((hw _ hfr).1 _ (by simp [PLine.nums])), h.spans.sl, h.spans.slW, fun y hy => ?_, h.wires.sl, h.wires.slW, fun y hy => ?_⟩
  · have hl : PLine.span y ∈ linesP m.pl := by unfold linesP PM.pl; simp [hy]
    have hn := (hw _ hl).1
    exact ⟨fits_small (hn _ (by simp [PLine.nums])), fits_small (hn _ (by simp [PLine.nums])), fits_small (hn _ (by simp [PLine.nums]))⟩
  · have hl : PLine.wire y ∈ linesP m.pl := by unfold linesP PM.pl; simp [hy]
    have hn := (hw _ hl).1
    exact ⟨fits_small (hn _ (by simp [PLine.nums])), fits_small (hn _ (by simp [PLine.nums])), fits_small (hn _ (by simp [PLine.nums])), fits_small (hn _ (by simp [PLine.nums]))⟩
/-- A plan's box that is written anew. -/
def rputPl (w : World) (b : Nat) (v0 v1 v2 v3 : Value) : World := (((w.setCell ⟨b, 0, none⟩ v0).setCell ⟨b, 1, none⟩ v1).setCell ⟨b, 2, none⟩ v2).setCell ⟨b, 3, none⟩ v3
theorem rputPl_far {w : World} {b j : Nat} {v0 v1 v2 v3 : Value} (h : j ≠ b) : (rputPl w b v0 v1 v2 v3).heap[j]? = w.heap[j]? :=
  (blk_far (p := ⟨b, 3, none⟩) h _).trans ((blk_far (p := ⟨b, 2, none⟩) h _).trans ((blk_far (p := ⟨b, 1, none⟩) h _).trans (blk_far (p := ⟨b, 0, none⟩) h _)))
theorem rputPl_at {w : World} {b T : Nat} {u0 u1 u2 u3 v0 v1 v2 v3 : Value} (h : w.heap[b]? = some (.cells #[u0, u1, u2, u3] T (0, 0))) : (rputPl w b v0 v1 v2 v3).heap[b]? = some (.cells #[v0, v1, v2, v3] T (0, 0)) :=
  blk_set (blk_set (blk_set (blk_set h 0 v0) 1 v1) 2 v2) 3 v3
theorem rputPl_below {B : Nat} {w0 w : World} {b : Nat} {v0 v1 v2 v3 : Value} (h : Below B w0 w) (hb : B ≤ b) : Below B w0 (rputPl w b v0 v1 v2 v3) :=
  (((h.setCell (p := ⟨b, 0, none⟩) hb _).setCell (p := ⟨b, 1, none⟩) hb _).setCell (p := ⟨b, 2, none⟩) hb _).setCell (p := ⟨b, 3, none⟩) hb _
theorem rplan_ret {w' : World} {a : Act} {b : Nat} {c0 c1 c2 c3 v : Value} {R : Ending → World → Prop} (hx : w'.heap[b]? = some (.cells #[c0, c1, c2, c3] 26 (0, 0))) (h2 : a.tmps[2]? = some (.pointer (some ⟨b, 0, none⟩))) (h3 : a.tmps[3]? = some v) (hd : a.defers = [])
    (h : R (.returned (.tuple #[.agg #[c0, c1, c2, c3], v])) w') : bodyPost Tryz.prog Tryz.f17 R .ret a w' := by
  have x0 := blk_cell hx 0
  have x1 := blk_cell hx 1
  have x2 := blk_cell hx 2
  have x3 := blk_cell hx 3
  simp at x0 x1 x2 x3
  refine bodyPost_ret (v := .tuple #[.agg #[c0, c1, c2, c3], v]) ?_ hd h
  simp [results, Tryz.results17, go_sem, h2, h3, x0, x1, x2, x3]
/-- It is none: the zero plan and a fault are handed back. -/
theorem rplan_none {t : ByteArray} {w wr : World} {a : Act} {v : Value} {c0 c1 c2 c3 : Value} (hx : wr.heap[w.heap.size]? = some (.cells #[c0, c1, c2, c3] 26 (0, 0))) (hb : Below w.heap.size w wr) (h2 : a.tmps[2]? = some (.pointer (some ⟨w.heap.size, 0, none⟩))) (h3 : a.tmps[3]? = some v) (hd : a.defers = [])
    (h : (∃ p : Pl, WfPl p ∧ planText p = t.data.toList ∧ planChk p ≠ 0 ∧ v = .int .i64 (planChk p)) ∨ (v = .int .i64 2 ∧ ∀ p : Pl, WfPl p → planText p ≠ t.data.toList)) :
    bodyPost Tryz.prog Tryz.f17 (RReadGot t w) .ret a ((((wr.setCell ⟨w.heap.size, 0, none⟩ (.slice none 0 0)).setCell ⟨w.heap.size, 1, none⟩ (.int .i64 0)).setCell ⟨w.heap.size, 2, none⟩ (.slice none 0 0)).setCell ⟨w.heap.size, 3, none⟩ (.slice none 0 0)) := by
  show bodyPost Tryz.prog Tryz.f17 (RReadGot t w) .ret a (rputPl wr w.heap.size _ _ _ _)
  refine rplan_ret (rputPl_at hx) h2 h3 hd ⟨rputPl_below hb (Nat.le_refl _), ?_⟩
  rcases h with ⟨p, g1, g2, g3, rfl⟩ | ⟨rfl, g⟩
  · exact .inr (.inl ⟨p, g1, g2, g3, rfl⟩)
  · exact .inr (.inr ⟨g, rfl⟩)
/-- How a line is cut and its numbers read. -/
def RCutRow (v0 : List UInt8) (vs : List (List UInt8)) (n : Nat) (w : World) (e : Ending) (w' : World) : Prop := ∃ A cap, e = .returned (.slice A n cap) ∧ Row w' 9 1 A n cap ((v0 :: vs).map txt) ∧ Below w.heap.size w w'
theorem rhead_cut (S : ByteArray) (hS : S.size ≤ 1073741824) : ∃ (v0 : List UInt8) (vs : List (List UInt8)) (n : Nat), cutA 32 [] S.data.toList = v0 :: vs ∧ 1 ≤ n ∧
    (∀ w, Calls Tryz.prog 40 #[.string S, .int .u8 32] w (RCutRow v0 vs n w)) ∧ (∀ A cap w, Row w 9 1 A n cap ((v0 :: vs).map txt) → Calls Tryz.prog 73 #[.slice A n cap, .int .i64 4] w (RNumsGot 4 vs w)) := by
  obtain ⟨v0, vs, hc⟩ := cutA_cons 32 S.data.toList []
  have hvs : ∀ x ∈ vs, x.length ≤ 1099511627776 := fun x hx => by
    have := cutA_le 32 S.data.toList [] x (by rw [hc]; simp [hx])
    simp only [List.length_nil, Nat.zero_add] at this
    rw [← Lib.size_eq] at this; omega
  have hmany : vs.length + 1 ≤ 1073741825 := by
    have h1 := cutA_len 32 S.data.toList []
    rw [hc] at h1
    have h2 := List.count_le_length (a := (32 : UInt8)) (l := S.data.toList)
    rw [← Lib.size_eq] at h2
    simp only [List.length_cons] at h1
    omega
  refine ⟨v0, vs, vs.length + 1, hc, by omega, fun w => ?_, fun A cap w hr => rnumbers_any v0 vs A _ cap 4 (by decide) rfl hmany hvs w hr⟩
  refine (cut_any S 32 w (by omega)).mono ?_
  rw [hc]
  rintro e w' ⟨A, cap, rfl, hrow, _, hb⟩
  exact ⟨A, cap, rfl, hrow, hb⟩
theorem rp_start {w : World} {N : Int} : RpAt (w.heap.size + 1) (w.alloc (.cells #[.slice none 0 0, .int .i64 N, .slice none 0 0, .slice none 0 0] 26)) w.heap.size ⟨none, 0, [], N, none, 0, [], none, 0, []⟩ :=
  ⟨heap_alloc_new w _, Row.nil _ _ _, (fun r hr => by cases hr), (fun i r last hi => by simp at hi), Row.nil _ _ _, Row.nil _ _ _, (fun j hj => by simp [InA] at hj), (fun r hr => by cases hr), by omega, by simp⟩
theorem three_of {ns : List Nat} (h : ns.length = 3) : ∃ a b c, ns = [a, b, c] := by
  match ns, h with
  | [a, b, c], _ => exact ⟨a, b, c, rfl⟩
theorem four_of {ns : List Nat} (h : ns.length = 4) : ∃ a b c d, ns = [a, b, c, d] := by
  match ns, h with
  | [a, b, c, d], _ => exact ⟨a, b, c, d, rfl⟩
theorem one_of {ns : List Nat} (h : ns.length = 1) : ∃ a, ns = [a] := by
  match ns, h with
  | [a], _ => exact ⟨a, rfl⟩

set_option maxHeartbeats 16000000 in
theorem rreadplan_any (t : ByteArray) (ht : t.size ≤ 1073741824) (w : World) : Calls Tryz.prog 17 #[.string t] w (RReadGot t w) := by
  obtain ⟨w1, hw1⟩ : ∃ w1, w1 = w.alloc (.cells #[.slice none 0 0, .int .i64 0, .slice none 0 0, .slice none 0 0] 26) := ⟨_, rfl⟩
  have hb1 : Below w.heap.size w w1 := by rw [hw1]; exact (Below.refl _ _).alloc (Nat.le_refl _) _
  have hbx : w1.heap[w.heap.size]? = some (.cells #[.slice none 0 0, .int .i64 0, .slice none 0 0, .slice none 0 0] 26 (0, 0)) := by rw [hw1]; exact heap_alloc_new w _
  obtain ⟨P, z, hP, hjoin, hno, hzno⟩ := cut_lines 10 t.data.toList [] (by simp)
  rw [List.nil_append] at hjoin
  have hcut := cut_any t 10 w1 (by omega)
  rw [hP] at hcut
  obtain ⟨n, hn⟩ : ∃ n, n = P.length := ⟨_, rfl⟩
  have hlen : (P ++ [z]).length = n + 1 := by simp [hn]
  rw [hlen] at hcut
  have hPl : ∀ s ∈ P, s.length ≤ t.size := fun s hs => by
    rw [Lib.size_eq]
    have := cutA_le 10 t.data.toList [] s (by rw [hP]; simp [hs])
    simpa using this
  have hmt : n ≤ t.size := by
    have h1 := cutA_len 10 t.data.toList []
    rw [hP, hlen] at h1
    have h2 := List.count_le_length (a := (10 : UInt8)) (l := t.data.toList)
    rw [← Lib.size_eq] at h2
    omega
  have HCUT := hid hcut
  have HJOIN := hid hjoin
  have HNO := hid hno
  have HZN := hid hzno
  have HN := hid hn
  have HPL := hid hPl
  have HB1 := hid hb1
  have HBX := hid hbx
  have hn30 : n ≤ 1073741824 := by omega
  have HT := hid ht
  clear hcut hjoin hno hzno hn hPl hP hlen hb1 hbx hmt ht
  go_enter Tryz.func17, Tryz.ntmps17
  go_upto_region 2 with (go_at_call 40; rw [← hw1]; refine HCUT.out.mono ?_; rintro e w2 ⟨A, cap, rfl, hrow, hfr, hb2⟩; have HROW := hid hrow; have HB2 := hid hb2; clear hw1 hrow hfr hb2 HCUT)
  obtain ⟨b, off, rfl, hbl, _, hcz⟩ := row_word HROW.out (i := n) (s := z) (by rw [HN.out]; simp)
  have hm1 : ((n + 1 : Nat) : Int) - 1 = (n : Int) := by omega
  obtain ⟨Z, hZ⟩ : ∃ Z : ByteArray, Z = ⟨z.toArray⟩ := ⟨_, rfl⟩
  rw [← hZ] at hcz
  have HOLD : Hid (∀ w', Below w2.heap.size w2 w' → w'.heap[w.heap.size]? = some (.cells #[.slice none 0 0, .int .i64 0, .slice none 0 0, .slice none 0 0] 26 (0, 0)) ∧ Below w.heap.size w w') := hid fun w' hb => by
    have h2 : w2.heap[w.heap.size]? = _ := (HB2.out.block _ (blk_lt HBX.out)).trans HBX.out
    exact ⟨(hb.block _ (blk_lt h2)).trans h2, HB1.out.trans ((HB2.out.trans (hb.mono HB2.out.size)).mono HB1.out.size)⟩
  have HLR : Hid (w.heap.size < w2.heap.size) := hid (Nat.lt_of_lt_of_le (blk_lt HBX.out) HB2.out.size)
  have hx2 := (HOLD.out w2 (Below.refl _ _)).1
  by_cases hz : z = []
  rotate_left
  · have hzz : (Z.toList == ([] : List UInt8)) = false := by
      rw [hZ, Lib.toList_data]
      cases z with
      | nil => exact absurd rfl hz
      | cons x z => rfl
    have y0 := blk_cell hx2 0
    have y1 := blk_cell hx2 1
    have y2 := blk_cell hx2 2
    have y3 := blk_cell hx2 3
    have yf := fun o => blk_free hx2 o
    have hly := blk_lt hx2
    simp at y0 y1 y2 y3
    have hnop : ∀ p : Pl, WfPl p → planText p ≠ t.data.toList := fun p _ => plan_no_tail HJOIN.out hz HZN.out p
    have HNOP := hid hnop
    clear hZ hz hx2 hnop
    go_wp2_with fail
    refine rplan_none (HOLD.out w2 (Below.refl _ _)).1 (HOLD.out w2 (Below.refl _ _)).2 ?_ ?_ ?_ (.inr ⟨rfl, HNOP.out⟩) <;> rfl
  have hzz : (Z.toList == ([] : List UInt8)) = true := by rw [hZ, hz, Lib.toList_data]; rfl
  have HJ : Hid (t.data.toList = P.flatMap fun x => x ++ [10]) := by have := HJOIN.out; rw [hz, List.append_nil] at this; exact hid this
  clear hZ hz HJOIN HZN
  by_cases hn0 : n = 0
  · subst hn0
    have hnop : ∀ p : Pl, WfPl p → planText p ≠ t.data.toList := fun p _ => by
      have h0 : P = [] := List.length_eq_zero_iff.1 HN.out.symm
      rw [HJ.out, h0]
      exact plan_no_empty p
    have y0 := blk_cell hx2 0
    have y1 := blk_cell hx2 1
    have y2 := blk_cell hx2 2
    have y3 := blk_cell hx2 3
    have yf := fun o => blk_free hx2 o
    have hly := blk_lt hx2
    simp at y0 y1 y2 y3
    have HNOP := hid hnop
    rw [Nat.add_zero] at hcz
    clear hx2 hnop
    go_wp2_with fail
    refine rplan_none (HOLD.out w2 (Below.refl _ _)).1 (HOLD.out w2 (Below.refl _ _)).2 ?_ ?_ ?_ (.inr ⟨rfl, HNOP.out⟩) <;> rfl
  have hn2 : ¬ ((n + 1 : Nat) : Int) < 2 := by omega
  have HWORD : Hid (∀ i, i < n → ∃ S : ByteArray, P[i]? = some S.data.toList ∧ S.size ≤ 1073741824 ∧ ∀ w', Below w2.heap.size w2 w' → w'.cell? ⟨b, off + i, none⟩ = some (.string S) ∧ b < w'.heap.size) := hid fun i hi => by
    have hiP : i < P.length := by rw [← HN.out]; exact hi
    have hget := List.getElem?_eq_getElem hiP
    have hmem := List.getElem_mem hiP
    generalize P[i] = s at hget hmem
    obtain ⟨bb, oo, hAA, _, _, hks⟩ := row_word HROW.out (i := i) (s := s) (by rw [List.getElem?_append_left hiP]; exact hget)
    obtain ⟨rfl, rfl⟩ : b = bb ∧ off = oo := by injection hAA with h; injection h with h1 h2; exact ⟨h1, h2⟩
    refine ⟨⟨s.toArray⟩, by rw [hget], by rw [Lib.size_eq]; have := HPL.out s hmem; have := HT.out; simp only []; omega, fun w' hb => ?_⟩
    have h2 : w'.cell? ⟨b, off + i, none⟩ = some (.string ⟨s.toArray⟩) := (hb.cell (p := ⟨b, off + i, none⟩) hbl).trans hks
    exact ⟨h2, Nat.lt_of_lt_of_le hbl hb.size⟩
  clear HROW HPL HBX HB1 HB2
  obtain ⟨S0, hS0, hS0z, hS0c⟩ := HWORD.out 0 (by omega)
  obtain ⟨v0, vs, k0, hc0, hk0, hcu0, hnu0⟩ := rhead_cut S0 hS0z
  obtain ⟨hcw, hbw⟩ := hS0c w2 (Below.refl _ _)
  rw [Nat.add_zero] at hcw
  have HCU := hid hcu0
  have HNU := hid hnu0
  have HC0 := hid hc0
  have HS0 := hid hS0
  clear hx2 hS0 hS0c hcu0 hnu0 hc0
  go_upto_region 5 with (go_at_call 40; refine (HCU.out _).mono ?_; rintro e w3 ⟨A3, cap3, rfl, hrow3, hb3⟩; have HR3 := hid hrow3; have HB3 := hid hb3; clear hrow3 hb3 HCU hcw hbw hcz hzz)
  go_wp2_with fail
  refine (HNU.out _ _ _ HR3.out).mono ?_
  rintro e w4 ⟨hb4, hor⟩
  obtain ⟨b3, o3, rfl, hlb3, _, hcv⟩ := row_word HR3.out (i := 0) (s := v0) rfl
  rw [Nat.add_zero] at hcv
  obtain ⟨V, hV⟩ : ∃ V : ByteArray, V = ⟨v0.toArray⟩ := ⟨_, rfl⟩
  rw [← hV] at hcv
  have hcv4 : w4.cell? ⟨b3, o3, none⟩ = some (.string V) := (hb4.cell (p := ⟨b3, o3, none⟩) hlb3).trans hcv
  have hlv4 := cell_lt hcv4
  have HB4 := hid (HB3.out.trans (hb4.mono HB3.out.size))
  have HVT : Hid (V.toList = v0) := hid (by rw [hV, Lib.toList_data])
  have hx4 := (HOLD.out w4 HB4.out).1
  have y0 := blk_cell hx4 0
  have y1 := blk_cell hx4 1
  have y2 := blk_cell hx4 2
  have y3 := blk_cell hx4 3
  have yf := fun o => blk_free hx4 o
  have hly := blk_lt hx4
  simp at y0 y1 y2 y3
  have HSTOP : Hid (¬ IsPart 0 S0.data.toList → ∀ p : Pl, WfPl p → planText p ≠ t.data.toList) := hid fun h p hp => rp_no (i := 0) (ls := []) (S := PS.start) HJ.out HNO.out HS0.out rfl (fun l hl => by cases hl) rfl (rp_first h) p hp
  clear hb4 hlb3 hcv hV hx4 HR3 HNU
  rcases hor with ⟨ns, B4, k4, d4, hns, hk4, rfl, hrb, _⟩ | ⟨hnone, rfl⟩
  rotate_left
  · have hnop := HSTOP.out (no_part HC0.out (by decide) (by rintro ⟨_, ns, h, _⟩; rw [hnone] at h; cases h))
    have HNOP := hid hnop
    clear hnop hnone
    go_wp2_with fail
    refine rplan_none (HOLD.out w4 HB4.out).1 (HOLD.out w4 HB4.out).2 ?_ ?_ ?_ (.inr ⟨rfl, HNOP.out⟩) <;> rfl
  by_cases hv : v0 = partWord 0
  rotate_left
  · have hnop := HSTOP.out (no_part HC0.out (by decide) (fun h => hv h.1))
    have HNOP := hid hnop
    have hvv : (V.toList == ([102, 114, 97, 109, 101] : List UInt8)) = false := by
      rw [HVT.out]
      exact beq_eq_false_iff_ne.2 hv
    clear hnop hv hns hk4 hrb
    go_wp2_with fail
    refine rplan_none (HOLD.out w4 HB4.out).1 (HOLD.out w4 HB4.out).2 ?_ ?_ ?_ (.inr ⟨rfl, HNOP.out⟩) <;> rfl
  have hvv : (V.toList == ([102, 114, 97, 109, 101] : List UInt8)) = true := by
    rw [HVT.out, hv]; decide
  by_cases hk1 : k4 = 1
  rotate_left
  · have hnop := HSTOP.out (no_part HC0.out (by decide) (by
      rintro ⟨_, ns', h, hl⟩
      rw [hns] at h
      injection h with h
      subst h
      exact hk1 (hk4.symm.trans hl)))
    have HNOP := hid hnop
    have hkk : ((k4 : Int) != 1) = true := by simp; omega
    clear hnop hv hns hk4 hrb
    go_wp2_with fail
    refine rplan_none (HOLD.out w4 HB4.out).1 (HOLD.out w4 HB4.out).2 ?_ ?_ ?_ (.inr ⟨rfl, HNOP.out⟩) <;> rfl
  subst hk1
  obtain ⟨N, rfl⟩ := one_of hk4
  have hyes := head_yes (i := 0) (by rw [← hv]; exact HC0.out) (by decide) hns rfl
  have hrl := rl_frame HS0.out hyes.1 hyes.2
  simp only [List.getD_cons_zero] at hrl
  have HRL : Hid (RLines P 1 1 (PM.pl ⟨none, 0, [], N, none, 0, [], none, 0, []⟩)) := hid hrl
  clear hrl
  obtain ⟨nb, no, rfl, hnl, g0⟩ := nums_one hrb.sl
  clear hv hns hrb hyes hk4 y0 y1 y2 y3 yf hly HSTOP
  go_upto_region 9 with fail
  obtain ⟨w5, hw5⟩ : ∃ w5, w5 = w4.alloc (.cells #[.slice none 0 0, .int .i64 N, .slice none 0 0, .slice none 0 0] 26) := ⟨_, rfl⟩
  have hrp : RpAt (w4.heap.size + 1) w5 w4.heap.size ⟨none, 0, [], N, none, 0, [], none, 0, []⟩ := by rw [hw5]; exact rp_start
  have hb5 : Below w2.heap.size w2 w5 := by rw [hw5]; exact HB4.out.alloc HB4.out.size _
  have HPB : Hid (w2.heap.size ≤ w4.heap.size) := hid HB4.out.size
  rw [← hw5]
  obtain ⟨pb, hpb⟩ : ∃ pb, pb = w4.heap.size := ⟨_, rfl⟩
  rw [← hpb] at hrp HPB ⊢
  have HRP := hid hrp
  have HB5 := hid hb5
  clear hw5 hrp hb5 hpb g0 hnl hvv hcv4 hlv4 hm1 hn2
  have hm1 : ((n + 1 : Nat) : Int) - 1 = (n : Int) := by omega
  go_upto_block 0 with fail
  go_cut [9] (fun v9 wx => ∃ (i : Nat) (m : PM), 1 ≤ i ∧ i ≤ n ∧ v9 = .int .i64 i ∧ RLines P i 2 m.pl ∧ RpAt (pb + 1) wx pb m ∧ Below w2.heap.size w2 wx)
  case first =>
    as_aux_lemma =>
    go_wp2_with fail
    go_loopw [9] (fun v9 wr => ∃ (i : Nat) (m : PM), 1 ≤ i ∧ i ≤ n ∧ v9 = .int .i64 i ∧ RLines P i 1 m.pl ∧ RpAt (pb + 1) wr pb m ∧ Below w2.heap.size w2 wr) (fun v9 _ => n - (intOf v9).toNat)
    case atStart => exact ⟨1, _, by omega, by omega, rfl, HRL.out, HRP.out, HB5.out⟩
    case round =>
      obtain ⟨i, m, hi1, hin, rfl, hrl, hrp, hb⟩ := hrel
      replace HRL := hid hrl
      have HRPR := hid hrp
      have HB := hid hb
      clear hrl hrp hb HRP
      by_cases hlt : i < n
      · obtain ⟨S, hS, hSz, hSc⟩ := HWORD.out i hlt
        obtain ⟨v0, vs, k0, hc0, hk0, hcu0, hnu0⟩ := rhead_cut S hSz
        obtain ⟨hcw, hbw⟩ := hSc wr HB.out
        have HCU := hid hcu0
        have HNU := hid hnu0
        replace HC0 := hid hc0
        have HS := hid hS
        clear hS hSc hcu0 hnu0 hc0
        go_upto_region 12 with (go_at_call 40; refine (HCU.out _).mono ?_; rintro e w6 ⟨A6, cap6, rfl, hrow6, hb6⟩; have HR6 := hid hrow6; have HB6 := hid hb6; clear hrow6 hb6 HCU hcw hbw)
        go_wp2_with fail
        refine (HNU.out _ _ _ HR6.out).mono ?_
        rintro e w7 ⟨hb7, hor⟩
        obtain ⟨b6, o6, rfl, hlb6, _, hcv⟩ := row_word HR6.out (i := 0) (s := v0) rfl
        rw [Nat.add_zero] at hcv
        obtain ⟨V, hV⟩ : ∃ V : ByteArray, V = ⟨v0.toArray⟩ := ⟨_, rfl⟩
        rw [← hV] at hcv
        have hcv7 : w7.cell? ⟨b6, o6, none⟩ = some (.string V) := (hb7.cell (p := ⟨b6, o6, none⟩) hlb6).trans hcv
        have hlv7 := cell_lt hcv7
        have hbw7 : Below wr.heap.size wr w7 := HB6.out.trans (hb7.mono HB6.out.size)
        have HB7 := hid (HB.out.trans (hbw7.mono HB.out.size))
        have HRP7 := hid (HRPR.out.new hbw7)
        replace HVT : Hid (V.toList = v0) := hid (by rw [hV, Lib.toList_data])
        have HTO : Hid (¬ IsPart 1 S.data.toList → RLines P i 2 m.pl) := hid fun h => rl_to2 HRL.out fun s hs => by
          rw [HS.out] at hs
          injection hs with hs
          rw [← hs]; exact h
        clear hb7 hlb6 hcv hV HR6 HNU hbw7
        rcases hor with ⟨ns, B7, k7, d7, hns, hk7, rfl, hrb, _⟩ | ⟨hnone, rfl⟩
        rotate_left
        · have hto := HTO.out (no_part HC0.out (by decide) (by rintro ⟨_, ns, h, _⟩; rw [hnone] at h; cases h))
          have HT2 := hid hto
          clear hto hnone
          go_wp2_with fail
          go_meet
          exact ⟨i, m, by omega, by omega, rfl, HT2.out, HRP7.out, HB7.out⟩
        by_cases hv : v0 = partWord 1
        rotate_left
        · have hto := HTO.out (no_part HC0.out (by decide) (fun h => hv h.1))
          have HT2 := hid hto
          have hvv : (V.toList == ([115, 112, 97, 110] : List UInt8)) = false := by
            rw [HVT.out]
            exact beq_eq_false_iff_ne.2 hv
          clear hto hv hns hk7 hrb
          go_wp2_with fail
          go_meet
          exact ⟨i, m, by omega, by omega, rfl, HT2.out, HRP7.out, HB7.out⟩
        have hvv : (V.toList == ([115, 112, 97, 110] : List UInt8)) = true := by
          rw [HVT.out, hv]; decide
        by_cases hk : k7 = 3
        rotate_left
        · have hto := HTO.out (no_part HC0.out (by decide) (by
            rintro ⟨_, ns', h, hl⟩
            rw [hns] at h
            injection h with h
            subst h
            exact hk (hk7.symm.trans hl)))
          have HT2 := hid hto
          have hkk : ((k7 : Int) != 3) = true := by simp; omega
          clear hto hv hns hk7 hrb
          go_wp2_with fail
          go_meet
          exact ⟨i, m, by omega, by omega, rfl, HT2.out, HRP7.out, HB7.out⟩
        subst hk
        obtain ⟨N0, N1, N2, rfl⟩ := three_of hk7
        have hyes := head_yes (i := 1) (by rw [← hv]; exact HC0.out) (by decide) hns rfl
        have hnx := rl_span HRL.out HS.out hyes.1 hyes.2
        simp only [List.getD_cons_zero, List.getD_cons_succ] at hnx
        have HNX := hid hnx
        have hfew := (rl_few HRL.out).2.1
        obtain ⟨nb, no, rfl, hnl, gx⟩ := nums_four hrb.sl (by decide)
        have hrp7 := HRP7.out
        have hna : ¬ InA m.sA nb := fun hj => hrb.apart2 hrp7.spans (by decide) nb rfl hj
        have hnb : nb ≠ pb := fun e => hrb.apart hrp7.blk (by decide) (by rw [e]; rfl)
        have g0 := gx 0 N0 rfl
        have g1 := gx 1 N1 rfl
        have g2 := gx 2 N2 rfl
        rw [Nat.add_zero] at g0
        have hblk := hrp7.blk
        unfold rpCells at hblk
        have x2 := blk_cell hblk 2
        have xf := fun o => blk_free hblk o
        have hl := blk_lt hblk
        simp at x2
        obtain ⟨q, hq⟩ : ∃ q, q = m.spans.length := ⟨_, rfl⟩
        have hfew2 : q ≤ 1073741824 := by rw [hq]; exact Nat.le_trans hfew (by omega)
        have hrow := hrp7.spans
        rw [← hq] at x2 hrow
        obtain ⟨i0, hi0, hz0, hz1, hz2⟩ := info_parts Tryz.infoRdSpan
        obtain ⟨wd, hwd⟩ : ∃ wd, wd = (w7.alloc (.cells #[.int .i64 N0, .int .i64 N1, .int .i64 N2] 115)).drew := ⟨_, rfl⟩
        have hkd : Keep NoF w7 wd := by rw [hwd]; exact ((Keep.refl _ _).alloc _).drew
        have HRD := hid (show Row wd 115 3 m.sA q m.sc (m.spans.flatMap Span.cells) by rw [hwd]; exact hrow.alloc _)
        have HSD := hid (show Sl wd (some ⟨w7.heap.size, 0, none⟩) 3 1 [.int .i64 N0, .int .i64 N1, .int .i64 N2] by rw [hwd]; exact sl_blk (heap_alloc_new w7 _) 3 1 _ rfl rfl)
        have HKD := hid hkd
        have HQ := hid hq
        have HNA := hid hna
        have HBL : Hid (∀ w4, Keep (InA m.sA) wd w4 → w4.heap[pb]? = w7.heap[pb]? ∧ pb < w4.heap.size) := hid fun w4 hk => by
          have h1 := hkd.size
          exact ⟨(hk.block pb (by omega) fun hj => by have := hrp7.fresh pb (.inr (.inl hj)); omega).trans (hkd.block pb hl fun hj => hj.elim), by have := hk.size; omega⟩
        have HS4 : Hid (∀ w4, Keep (InA m.sA) wd w4 → w4.cell? ⟨nb, no, none⟩ = some (.int .i64 N0) ∧ w4.cell? ⟨nb, no + 1, none⟩ = some (.int .i64 N1) ∧ w4.cell? ⟨nb, no + 2, none⟩ = some (.int .i64 N2)) := hid fun w4 hk => by
          have q : ∀ o, w4.cell? ⟨nb, o, none⟩ = w7.cell? ⟨nb, o, none⟩ := fun o => (hk.cell (Nat.lt_of_lt_of_le hnl hkd.size) hna).trans (hkd.cell hnl fun hj => hj.elim)
          exact ⟨(q _).trans g0, (q _).trans g1, (q _).trans g2⟩
        have HSA : Hid (wd.cell? ⟨nb, no, none⟩ = some (.int .i64 N0) ∧ wd.cell? ⟨nb, no + 1, none⟩ = some (.int .i64 N1) ∧ wd.cell? ⟨nb, no + 2, none⟩ = some (.int .i64 N2)) := hid (by
          rw [hwd]
          have q : ∀ o, (w7.alloc (.cells #[.int .i64 N0, .int .i64 N1, .int .i64 N2] 115)).drew.cell? ⟨nb, o, none⟩ = w7.cell? ⟨nb, o, none⟩ := fun o => World.cell?_alloc_lt w7 _ ⟨nb, o, none⟩ hnl
          exact ⟨(q _).trans g0, (q _).trans g1, (q _).trans g2⟩)
        have HSS : Hid (∀ (w4 : World) (v : Value), w4.cell? ⟨nb, no, none⟩ = some (.int .i64 N0) ∧ w4.cell? ⟨nb, no + 1, none⟩ = some (.int .i64 N1) ∧ w4.cell? ⟨nb, no + 2, none⟩ = some (.int .i64 N2) → (w4.setCell ⟨pb, 2, none⟩ v).cell? ⟨nb, no, none⟩ = some (.int .i64 N0) ∧ (w4.setCell ⟨pb, 2, none⟩ v).cell? ⟨nb, no + 1, none⟩ = some (.int .i64 N1) ∧ (w4.setCell ⟨pb, 2, none⟩ v).cell? ⟨nb, no + 2, none⟩ = some (.int .i64 N2)) := hid fun w4 v h => by
          have q : ∀ o, (w4.setCell ⟨pb, 2, none⟩ v).cell? ⟨nb, o, none⟩ = w4.cell? ⟨nb, o, none⟩ := fun o => World.cell?_of_block (blk_far (p := ⟨pb, 2, none⟩) (fun e => hnb e) v)
          exact ⟨(q _).trans h.1, (q _).trans h.2.1, (q _).trans h.2.2⟩
        have FIN : Hid (∀ A' c' w4, Row w4 115 3 A' (q + 1) c' (m.spans.flatMap Span.cells ++ [.int .i64 N0, .int .i64 N1, .int .i64 N2]) → Keep (InA m.sA) wd w4 → (∀ j, InA A' j → InA m.sA j ∨ wd.heap.size ≤ j) → ∃ m' : PM, RLines P (i + 1) 1 m'.pl ∧ RpAt (pb + 1) (w4.setCell ⟨pb, 2, none⟩ (.slice A' (q + 1) c')) pb m' ∧ Below w2.heap.size w2 (w4.setCell ⟨pb, 2, none⟩ (.slice A' (q + 1) c'))) := hid fun A' c' w4 hr4 hk4 hn4 => by
          obtain ⟨r1, r2⟩ := rp_span (x := ⟨(N0 : Nat), (N1 : Nat), (N2 : Nat)⟩) HRP7.out HKD.out HQ.out.symm hr4 hk4 hn4
          exact ⟨_, HNX.out, r1, HRP7.out.below r2 HB7.out HPB.out⟩
        clear hblk hrow hkd hq hna hnx hns hv hyes hk7 hrb hrp7 hfew gx
        go_upto_region 14 with fail
        clear hcv7 hlv7 hvv
        refine wp_region_held_drew (S := (fun w' => w'.cell? ⟨nb, no, none⟩ = some (.int .i64 N0) ∧ w'.cell? ⟨nb, no + 1, none⟩ = some (.int .i64 N1) ∧ w'.cell? ⟨nb, no + 2, none⟩ = some (.int .i64 N2))) (by kernel_rfl) ?_ (fun hHeld => ?_)
        · exact ⟨g0, g1, g2⟩
        refine wpAnyH_take (i := 0) (v := ?v1) rfl (by kernel_rfl) (by kernel_rfl) (by kernel_rfl) (fun _ _ _ h => h) (Or.inl ⟨by rfl, ?hy1⟩) (by assumption) ?rest1
        case hy1 => (intro w hSw; (try dsimp only at hSw); (try simp only [List.getElem_toArray, List.getElem_cons_zero]); go_simp; (try with_reducible rfl))
        (try simp only [Act.put, List.getElem_toArray, List.getElem_cons_zero, List.setIfInBounds_toArray, List.set_cons_zero, List.set_cons_succ])
        refine wpAnyH_take (i := 2) (v := ?v2) rfl (by kernel_rfl) (by kernel_rfl) (by kernel_rfl) (fun _ _ _ h => h) (Or.inl ⟨by rfl, ?hy2⟩) (by assumption) ?rest2
        case hy2 => (intro w hSw; (try dsimp only at hSw); (try simp only [List.getElem_toArray, List.getElem_cons_zero, List.getElem_cons_succ]); go_simp; (try with_reducible rfl))
        (try simp only [Act.put, List.getElem_toArray, List.getElem_cons_zero, List.getElem_cons_succ, List.setIfInBounds_toArray, List.set_cons_zero, List.set_cons_succ])
        refine wpAnyH_take (i := 3) (v := ?v3) rfl (by kernel_rfl) (by kernel_rfl) (by kernel_rfl) (fun _ _ _ h => h) (Or.inl ⟨by rfl, ?hy3⟩) (by assumption) ?rest3
        case hy3 => (intro w hSw; (try dsimp only at hSw); (try simp only [List.getElem_toArray, List.getElem_cons_zero, List.getElem_cons_succ]); go_simp; (try with_reducible rfl))
        (try simp only [Act.put, List.getElem_toArray, List.getElem_cons_zero, List.getElem_cons_succ, List.setIfInBounds_toArray, List.set_cons_zero, List.set_cons_succ])
        refine wpAnyH_take (i := 4) (v := ?v4) rfl (by kernel_rfl) (by kernel_rfl) (by kernel_rfl) (fun _ _ _ h => h) (Or.inl ⟨by rfl, ?hy4⟩) (by assumption) ?rest4
        case hy4 => (intro w hSw; (try dsimp only at hSw); (try simp only [List.getElem_toArray, List.getElem_cons_zero, List.getElem_cons_succ]); go_simp; (try with_reducible rfl))
        (try simp only [Act.put, List.getElem_toArray, List.getElem_cons_zero, List.getElem_cons_succ, List.setIfInBounds_toArray, List.set_cons_zero, List.set_cons_succ])
        refine wpAnyH_take (i := 5) (v := ?v5) rfl (by kernel_rfl) (by kernel_rfl) (by kernel_rfl) (fun _ _ _ h => h) (Or.inl ⟨by rfl, ?hy5⟩) (by assumption) ?rest5
        case hy5 => (intro w hSw; (try dsimp only at hSw); (try simp only [List.getElem_toArray, List.getElem_cons_zero, List.getElem_cons_succ]); go_simp; (try with_reducible rfl))
        (try simp only [Act.put, List.getElem_toArray, List.getElem_cons_zero, List.getElem_cons_succ, List.setIfInBounds_toArray, List.set_cons_zero, List.set_cons_succ])
        refine wpAnyH_take (i := 6) (v := ?v6) rfl (by kernel_rfl) (by kernel_rfl) (by kernel_rfl) (fun _ _ _ h => h) (Or.inl ⟨by rfl, ?hy6⟩) (by assumption) ?rest6
        case hy6 => (intro w hSw; (try dsimp only at hSw); (try simp only [List.getElem_toArray, List.getElem_cons_zero, List.getElem_cons_succ]); go_simp; (try with_reducible rfl))
        (try simp only [Act.put, List.getElem_toArray, List.getElem_cons_zero, List.getElem_cons_succ, List.setIfInBounds_toArray, List.set_cons_zero, List.set_cons_succ])
        refine wpAnyH_take (i := 7) (v := ?v7) rfl (by kernel_rfl) (by kernel_rfl) (by kernel_rfl) (fun _ _ _ h => h) (Or.inl ⟨by rfl, ?hy7⟩) (by assumption) ?rest7
        case hy7 => (intro w hSw; (try dsimp only at hSw); (try simp only [List.getElem_toArray, List.getElem_cons_zero, List.getElem_cons_succ]); go_simp; (try with_reducible rfl))
        (try simp only [Act.put, List.getElem_toArray, List.getElem_cons_zero, List.getElem_cons_succ, List.setIfInBounds_toArray, List.set_cons_zero, List.set_cons_succ])
        refine wpAnyH_take (i := 8) (v := ?v8) rfl (by kernel_rfl) (by kernel_rfl) (by kernel_rfl) (fun _ _ _ h => h) (Or.inl ⟨by rfl, ?hy8⟩) (by assumption) ?rest8
        case hy8 => (intro w hSw; (try dsimp only at hSw); (try simp only [List.getElem_toArray, List.getElem_cons_zero, List.getElem_cons_succ]); go_simp; (try with_reducible rfl))
        (try simp only [Act.put, List.getElem_toArray, List.getElem_cons_zero, List.getElem_cons_succ, List.setIfInBounds_toArray, List.set_cons_zero, List.set_cons_succ])
        refine wpAnyH_take (i := 9) (v := ?v9) rfl (by kernel_rfl) (by kernel_rfl) (by kernel_rfl) (fun _ _ _ h => h) (Or.inl ⟨by rfl, ?hy9⟩) (by assumption) ?rest9
        case hy9 => (intro w hSw; (try dsimp only at hSw); (try simp only [List.getElem_toArray, List.getElem_cons_zero, List.getElem_cons_succ]); go_simp; (try with_reducible rfl))
        (try simp only [Act.put, List.getElem_toArray, List.getElem_cons_zero, List.getElem_cons_succ, List.setIfInBounds_toArray, List.set_cons_zero, List.set_cons_succ])
        refine wpAnyH_take (i := 10) (v := ?v10) rfl (by kernel_rfl) (by kernel_rfl) (by kernel_rfl) (fun _ _ _ h => h) (Or.inl ⟨by rfl, ?hy10⟩) (by assumption) ?rest10
        case hy10 => (intro w hSw; (try dsimp only at hSw); (try simp only [List.getElem_toArray, List.getElem_cons_zero, List.getElem_cons_succ]); go_simp; (try with_reducible rfl))
        (try simp only [Act.put, List.getElem_toArray, List.getElem_cons_zero, List.getElem_cons_succ, List.setIfInBounds_toArray, List.set_cons_zero, List.set_cons_succ])
        refine wpAnyH_take (i := 11) (v := ?v11) rfl (by kernel_rfl) (by kernel_rfl) (by kernel_rfl) (fun _ _ _ h => h) (Or.inl ⟨by rfl, ?hy11⟩) (by assumption) ?rest11
        case hy11 => (intro w hSw; (try dsimp only at hSw); (try simp only [List.getElem_toArray, List.getElem_cons_zero, List.getElem_cons_succ]); go_simp; (try with_reducible rfl))
        (try simp only [Act.put, List.getElem_toArray, List.getElem_cons_zero, List.getElem_cons_succ, List.setIfInBounds_toArray, List.set_cons_zero, List.set_cons_succ])
        refine wpAnyH_ready (rs := [1, 12]) (by kernel_rfl) (by simp) ?_
        refine AllReadyH.cons rfl (fun K hK => ?_) (AllReadyH.cons rfl (fun K hK => ?_) AllReadyH.nil)
        · go_simp
          refine hK.out _ _ ?_ (fun hHeld => ?_)
          · exact ⟨g0, g1, g2⟩
          clear hK K
          (try simp only [Act.put, List.getElem_toArray, List.getElem_cons_zero, List.getElem_cons_succ, List.setIfInBounds_toArray, List.set_cons_zero, List.set_cons_succ])
          refine wpAnyH_ready (rs := [12]) (by kernel_rfl) (by simp) ?_
          refine AllReadyH.cons rfl (fun K hK => ?_) AllReadyH.nil
          go_simp
          refine hK.out _ _ ?_ (fun hHeld => ?_)
          · exact hwd ▸ HSA.out
          clear hK K
          (try simp only [Act.put, List.getElem_toArray, List.getElem_cons_zero, List.getElem_cons_succ, List.setIfInBounds_toArray, List.set_cons_zero, List.set_cons_succ])
          refine wpAnyH_ready (rs := [13]) (by kernel_rfl) (by simp) ?_
          refine AllReadyH.cons rfl (fun K hK => ?_) AllReadyH.nil
          refine step_append_row _ rfl _ _ 23 rfl 115 i0 _ 3 24 Tryz.underlying23 hi0 hz0 hz1 hz2 rfl (by decide) m.sA q m.sc (m.spans.flatMap Span.cells) rfl (by rw [← hwd]; exact HRD.out) (some ⟨w7.heap.size, 0, none⟩) 1 1 [.int .i64 N0, .int .i64 N1, .int .i64 N2] rfl (by rw [← hwd]; exact HSD.out) (by intro u hu; simp at hu; rcases hu with rfl | rfl | rfl <;> rfl) (by unfold maxLen; omega) (by omega) ?_
          intro A' c' w4 hr4 hk4 hn4
          have hk4 := hwd ▸ hk4
          have hn4 := hwd ▸ hn4
          obtain ⟨d0, d1⟩ := HBL.out w4 hk4
          have d2 := d0.trans HRP7.out.blk
          unfold rpCells at d2
          have d3 := blk_cell d2 2
          have d4 := blk_free d2 2
          simp at d3
          rw [← HQ.out] at d3
          have HR4 := hid hr4
          have HK4 := hid hk4
          have HN4 := hid hn4
          clear hr4 hk4 hn4 d0 d2
          refine hK.out _ _ ?_ (fun hHeld => ?_)
          · exact HS4.out w4 HK4.out
          clear hK K
          (try simp only [Act.put, List.getElem_toArray, List.getElem_cons_zero, List.getElem_cons_succ, List.setIfInBounds_toArray, List.set_cons_zero, List.set_cons_succ])
          refine wpAnyH_take (i := 14) (v := ?v12) rfl (by kernel_rfl) (by kernel_rfl) (by kernel_rfl) (fun _ _ _ h => h) (Or.inl ⟨by rfl, ?hy12⟩) (by assumption) ?rest12
          case hy12 => (intro w hSw; (try dsimp only at hSw); (try simp only [List.getElem_toArray, List.getElem_cons_zero, List.getElem_cons_succ]); go_simp; (try with_reducible rfl))
          (try simp only [Act.put, List.getElem_toArray, List.getElem_cons_zero, List.getElem_cons_succ, List.setIfInBounds_toArray, List.set_cons_zero, List.set_cons_succ])
          refine wpAnyH_ready (rs := [15]) (by kernel_rfl) (by simp) ?_
          refine AllReadyH.cons rfl (fun K hK => ?_) AllReadyH.nil
          go_simp
          refine hK.out _ _ ?_ (fun hHeld => ?_)
          · exact HSS.out w4 _ (HS4.out w4 HK4.out)
          clear hK K
          (try simp only [Act.put, List.getElem_toArray, List.getElem_cons_zero, List.getElem_cons_succ, List.setIfInBounds_toArray, List.set_cons_zero, List.set_cons_succ])
          refine wpAnyH_done (by kernel_rfl) ?_ _
          go_wp2_with fail
          go_roundw
          case rel =>
            obtain ⟨m', h1, h2, h3⟩ := FIN.out _ _ _ HR4.out HK4.out HN4.out
            exact ⟨i + 1, m', by omega, by omega, by go_num, h1, h2, h3⟩
          case measure => simp [intOf]; omega
        · go_simp
          refine hK.out _ _ ?_ (fun hHeld => ?_)
          · exact hwd ▸ HSA.out
          clear hK K
          (try simp only [Act.put, List.getElem_toArray, List.getElem_cons_zero, List.getElem_cons_succ, List.setIfInBounds_toArray, List.set_cons_zero, List.set_cons_succ])
          refine wpAnyH_ready (rs := [1]) (by kernel_rfl) (by simp) ?_
          refine AllReadyH.cons rfl (fun K hK => ?_) AllReadyH.nil
          go_simp
          refine hK.out _ _ ?_ (fun hHeld => ?_)
          · exact hwd ▸ HSA.out
          clear hK K
          (try simp only [Act.put, List.getElem_toArray, List.getElem_cons_zero, List.getElem_cons_succ, List.setIfInBounds_toArray, List.set_cons_zero, List.set_cons_succ])
          refine wpAnyH_ready (rs := [13]) (by kernel_rfl) (by simp) ?_
          refine AllReadyH.cons rfl (fun K hK => ?_) AllReadyH.nil
          refine step_append_row _ rfl _ _ 23 rfl 115 i0 _ 3 24 Tryz.underlying23 hi0 hz0 hz1 hz2 rfl (by decide) m.sA q m.sc (m.spans.flatMap Span.cells) rfl (by rw [← hwd]; exact HRD.out) (some ⟨w7.heap.size, 0, none⟩) 1 1 [.int .i64 N0, .int .i64 N1, .int .i64 N2] rfl (by rw [← hwd]; exact HSD.out) (by intro u hu; simp at hu; rcases hu with rfl | rfl | rfl <;> rfl) (by unfold maxLen; omega) (by omega) ?_
          intro A' c' w4 hr4 hk4 hn4
          have hk4 := hwd ▸ hk4
          have hn4 := hwd ▸ hn4
          obtain ⟨d0, d1⟩ := HBL.out w4 hk4
          have d2 := d0.trans HRP7.out.blk
          unfold rpCells at d2
          have d3 := blk_cell d2 2
          have d4 := blk_free d2 2
          simp at d3
          rw [← HQ.out] at d3
          have HR4 := hid hr4
          have HK4 := hid hk4
          have HN4 := hid hn4
          clear hr4 hk4 hn4 d0 d2
          refine hK.out _ _ ?_ (fun hHeld => ?_)
          · exact HS4.out w4 HK4.out
          clear hK K
          (try simp only [Act.put, List.getElem_toArray, List.getElem_cons_zero, List.getElem_cons_succ, List.setIfInBounds_toArray, List.set_cons_zero, List.set_cons_succ])
          refine wpAnyH_take (i := 14) (v := ?v13) rfl (by kernel_rfl) (by kernel_rfl) (by kernel_rfl) (fun _ _ _ h => h) (Or.inl ⟨by rfl, ?hy13⟩) (by assumption) ?rest13
          case hy13 => (intro w hSw; (try dsimp only at hSw); (try simp only [List.getElem_toArray, List.getElem_cons_zero, List.getElem_cons_succ]); go_simp; (try with_reducible rfl))
          (try simp only [Act.put, List.getElem_toArray, List.getElem_cons_zero, List.getElem_cons_succ, List.setIfInBounds_toArray, List.set_cons_zero, List.set_cons_succ])
          refine wpAnyH_ready (rs := [15]) (by kernel_rfl) (by simp) ?_
          refine AllReadyH.cons rfl (fun K hK => ?_) AllReadyH.nil
          go_simp
          refine hK.out _ _ ?_ (fun hHeld => ?_)
          · exact HSS.out w4 _ (HS4.out w4 HK4.out)
          clear hK K
          (try simp only [Act.put, List.getElem_toArray, List.getElem_cons_zero, List.getElem_cons_succ, List.setIfInBounds_toArray, List.set_cons_zero, List.set_cons_succ])
          refine wpAnyH_done (by kernel_rfl) ?_ _
          go_wp2_with fail
          go_roundw
          case rel =>
            obtain ⟨m', h1, h2, h3⟩ := FIN.out _ _ _ HR4.out HK4.out HN4.out
            exact ⟨i + 1, m', by omega, by omega, by go_num, h1, h2, h3⟩
          case measure => simp [intOf]; omega
      · obtain rfl : i = n := by omega
        go_wp2_with fail
        go_meet
        exact ⟨_, m, by omega, by omega, rfl, rl_to2 HRL.out (fun s hs => by rw [List.getElem?_eq_none (by rw [← HN.out]; exact Nat.le_refl _)] at hs; cases hs), HRPR.out, HB.out⟩
  case rest =>
    as_aux_lemma =>
    obtain ⟨ia, ma, hia, hian, rfl, hrl, hrp, hbc⟩ := hcut
    obtain ⟨wa, rfl⟩ : ∃ wa : World, wa = wc := ⟨_, rfl⟩
    replace HRL := hid hrl
    replace HRP := hid hrp
    replace HB5 := hid hbc
    clear hrl hrp hbc
    go_upto_block 2 with fail
    go_cut [9] (fun v9 wx => ∃ (i : Nat) (m : PM), 1 ≤ i ∧ i ≤ n ∧ v9 = .int .i64 i ∧ RLines P i 3 m.pl ∧ RpAt (pb + 1) wx pb m ∧ Below w2.heap.size w2 wx)
    case first =>
      as_aux_lemma =>
      go_wp2_with fail
      go_loopw [9] (fun v9 wr => ∃ (i : Nat) (m : PM), 1 ≤ i ∧ i ≤ n ∧ v9 = .int .i64 i ∧ RLines P i 2 m.pl ∧ RpAt (pb + 1) wr pb m ∧ Below w2.heap.size w2 wr) (fun v9 _ => n - (intOf v9).toNat)
      case atStart => exact ⟨ia, ma, hia, hian, rfl, HRL.out, HRP.out, HB5.out⟩
      case round =>
        obtain ⟨i, m, hi1, hin, rfl, hrl, hrp, hb⟩ := hrel
        replace HRL := hid hrl
        have HRPR := hid hrp
        have HB := hid hb
        clear hrl hrp hb HRP
        by_cases hlt : i < n
        · obtain ⟨S, hS, hSz, hSc⟩ := HWORD.out i hlt
          obtain ⟨v0, vs, k0, hc0, hk0, hcu0, hnu0⟩ := rhead_cut S hSz
          obtain ⟨hcw, hbw⟩ := hSc wr HB.out
          have HCU := hid hcu0
          have HNU := hid hnu0
          replace HC0 := hid hc0
          have HS := hid hS
          clear hS hSc hcu0 hnu0 hc0
          go_upto_region 18 with (go_at_call 40; refine (HCU.out _).mono ?_; rintro e w6 ⟨A6, cap6, rfl, hrow6, hb6⟩; have HR6 := hid hrow6; have HB6 := hid hb6; clear hrow6 hb6 HCU hcw hbw)
          go_wp2_with fail
          refine (HNU.out _ _ _ HR6.out).mono ?_
          rintro e w7 ⟨hb7, hor⟩
          obtain ⟨b6, o6, rfl, hlb6, _, hcv⟩ := row_word HR6.out (i := 0) (s := v0) rfl
          rw [Nat.add_zero] at hcv
          obtain ⟨V, hV⟩ : ∃ V : ByteArray, V = ⟨v0.toArray⟩ := ⟨_, rfl⟩
          rw [← hV] at hcv
          have hcv7 : w7.cell? ⟨b6, o6, none⟩ = some (.string V) := (hb7.cell (p := ⟨b6, o6, none⟩) hlb6).trans hcv
          have hlv7 := cell_lt hcv7
          have hbw7 : Below wr.heap.size wr w7 := HB6.out.trans (hb7.mono HB6.out.size)
          have HB7 := hid (HB.out.trans (hbw7.mono HB.out.size))
          have HRP7 := hid (HRPR.out.new hbw7)
          replace HVT : Hid (V.toList = v0) := hid (by rw [hV, Lib.toList_data])
          have HTO : Hid (¬ IsPart 2 S.data.toList → RLines P i 3 m.pl) := hid fun h => rl_to3 HRL.out fun s hs => by
            rw [HS.out] at hs
            injection hs with hs
            rw [← hs]; exact h
          clear hb7 hlb6 hcv hV HR6 HNU hbw7
          rcases hor with ⟨ns, B7, k7, d7, hns, hk7, rfl, hrb, _⟩ | ⟨hnone, rfl⟩
          rotate_left
          · have hto := HTO.out (no_part HC0.out (by decide) (by rintro ⟨_, ns, h, _⟩; rw [hnone] at h; cases h))
            have HT2 := hid hto
            clear hto hnone
            go_wp2_with fail
            go_meet
            exact ⟨i, m, by omega, by omega, rfl, HT2.out, HRP7.out, HB7.out⟩
          by_cases hv : v0 = partWord 2
          rotate_left
          · have hto := HTO.out (no_part HC0.out (by decide) (fun h => hv h.1))
            have HT2 := hid hto
            have hvv : (V.toList == ([119, 105, 114, 101] : List UInt8)) = false := by
              rw [HVT.out]
              exact beq_eq_false_iff_ne.2 hv
            clear hto hv hns hk7 hrb
            go_wp2_with fail
            go_meet
            exact ⟨i, m, by omega, by omega, rfl, HT2.out, HRP7.out, HB7.out⟩
          have hvv : (V.toList == ([119, 105, 114, 101] : List UInt8)) = true := by
            rw [HVT.out, hv]; decide
          by_cases hk : k7 = 4
          rotate_left
          · have hto := HTO.out (no_part HC0.out (by decide) (by
              rintro ⟨_, ns', h, hl⟩
              rw [hns] at h
              injection h with h
              subst h
              exact hk (hk7.symm.trans hl)))
            have HT2 := hid hto
            have hkk : ((k7 : Int) != 4) = true := by simp; omega
            clear hto hv hns hk7 hrb
            go_wp2_with fail
            go_meet
            exact ⟨i, m, by omega, by omega, rfl, HT2.out, HRP7.out, HB7.out⟩
          subst hk
          obtain ⟨N0, N1, N2, N3, rfl⟩ := four_of hk7
          have hyes := head_yes (i := 2) (by rw [← hv]; exact HC0.out) (by decide) hns rfl
          have hnx := rl_wire HRL.out HS.out hyes.1 hyes.2
          simp only [List.getD_cons_zero, List.getD_cons_succ] at hnx
          have HNX := hid hnx
          have hfew := (rl_few HRL.out).2.2.1
          obtain ⟨nb, no, rfl, hnl, gx⟩ := nums_four hrb.sl (by decide)
          have hrp7 := HRP7.out
          have hna : ¬ InA m.wA nb := fun hj => hrb.apart2 hrp7.wires (by decide) nb rfl hj
          have hnb : nb ≠ pb := fun e => hrb.apart hrp7.blk (by decide) (by rw [e]; rfl)
          have g0 := gx 0 N0 rfl
          have g1 := gx 1 N1 rfl
          have g2 := gx 2 N2 rfl
          have g3 := gx 3 N3 rfl
          rw [Nat.add_zero] at g0
          have hblk := hrp7.blk
          unfold rpCells at hblk
          have x3 := blk_cell hblk 3
          have xf := fun o => blk_free hblk o
          have hl := blk_lt hblk
          simp at x3
          obtain ⟨q, hq⟩ : ∃ q, q = m.wires.length := ⟨_, rfl⟩
          have hfew2 : q ≤ 1073741824 := by rw [hq]; exact Nat.le_trans hfew (by omega)
          have hrow := hrp7.wires
          rw [← hq] at x3 hrow
          obtain ⟨i0, hi0, hz0, hz1, hz2⟩ := info_parts Tryz.infoRdWire
          obtain ⟨wd, hwd⟩ : ∃ wd, wd = (w7.alloc (.cells #[.int .i64 N0, .int .i64 N1, .int .i64 N2, .int .i64 N3] 117)).drew := ⟨_, rfl⟩
          have hkd : Keep NoF w7 wd := by rw [hwd]; exact ((Keep.refl _ _).alloc _).drew
          have HRD := hid (show Row wd 117 4 m.wA q m.wc (m.wires.flatMap Wire.cells) by rw [hwd]; exact hrow.alloc _)
          have HSD := hid (show Sl wd (some ⟨w7.heap.size, 0, none⟩) 4 1 [.int .i64 N0, .int .i64 N1, .int .i64 N2, .int .i64 N3] by rw [hwd]; exact sl_blk (heap_alloc_new w7 _) 4 1 _ rfl rfl)
          have HKD := hid hkd
          have HQ := hid hq
          have HNA := hid hna
          have HBL : Hid (∀ w4, Keep (InA m.wA) wd w4 → w4.heap[pb]? = w7.heap[pb]? ∧ pb < w4.heap.size) := hid fun w4 hk => by
            have h1 := hkd.size
            exact ⟨(hk.block pb (by omega) fun hj => by have := hrp7.fresh pb (.inr (.inr hj)); omega).trans (hkd.block pb hl fun hj => hj.elim), by have := hk.size; omega⟩
          have HS4 : Hid (∀ w4, Keep (InA m.wA) wd w4 → w4.cell? ⟨nb, no, none⟩ = some (.int .i64 N0) ∧ w4.cell? ⟨nb, no + 1, none⟩ = some (.int .i64 N1) ∧ w4.cell? ⟨nb, no + 2, none⟩ = some (.int .i64 N2) ∧ w4.cell? ⟨nb, no + 3, none⟩ = some (.int .i64 N3)) := hid fun w4 hk => by
            have q : ∀ o, w4.cell? ⟨nb, o, none⟩ = w7.cell? ⟨nb, o, none⟩ := fun o => (hk.cell (Nat.lt_of_lt_of_le hnl hkd.size) hna).trans (hkd.cell hnl fun hj => hj.elim)
            exact ⟨(q _).trans g0, (q _).trans g1, (q _).trans g2, (q _).trans g3⟩
          have HSA : Hid (wd.cell? ⟨nb, no, none⟩ = some (.int .i64 N0) ∧ wd.cell? ⟨nb, no + 1, none⟩ = some (.int .i64 N1) ∧ wd.cell? ⟨nb, no + 2, none⟩ = some (.int .i64 N2) ∧ wd.cell? ⟨nb, no + 3, none⟩ = some (.int .i64 N3)) := hid (by
            rw [hwd]
            have q : ∀ o, (w7.alloc (.cells #[.int .i64 N0, .int .i64 N1, .int .i64 N2, .int .i64 N3] 117)).drew.cell? ⟨nb, o, none⟩ = w7.cell? ⟨nb, o, none⟩ := fun o => World.cell?_alloc_lt w7 _ ⟨nb, o, none⟩ hnl
            exact ⟨(q _).trans g0, (q _).trans g1, (q _).trans g2, (q _).trans g3⟩)
          have HSS : Hid (∀ (w4 : World) (v : Value), w4.cell? ⟨nb, no, none⟩ = some (.int .i64 N0) ∧ w4.cell? ⟨nb, no + 1, none⟩ = some (.int .i64 N1) ∧ w4.cell? ⟨nb, no + 2, none⟩ = some (.int .i64 N2) ∧ w4.cell? ⟨nb, no + 3, none⟩ = some (.int .i64 N3) → (w4.setCell ⟨pb, 3, none⟩ v).cell? ⟨nb, no, none⟩ = some (.int .i64 N0) ∧ (w4.setCell ⟨pb, 3, none⟩ v).cell? ⟨nb, no + 1, none⟩ = some (.int .i64 N1) ∧ (w4.setCell ⟨pb, 3, none⟩ v).cell? ⟨nb, no + 2, none⟩ = some (.int .i64 N2) ∧ (w4.setCell ⟨pb, 3, none⟩ v).cell? ⟨nb, no + 3, none⟩ = some (.int .i64 N3)) := hid fun w4 v h => by
            have q : ∀ o, (w4.setCell ⟨pb, 3, none⟩ v).cell? ⟨nb, o, none⟩ = w4.cell? ⟨nb, o, none⟩ := fun o => World.cell?_of_block (blk_far (p := ⟨pb, 3, none⟩) (fun e => hnb e) v)
            exact ⟨(q _).trans h.1, (q _).trans h.2.1, (q _).trans h.2.2.1, (q _).trans h.2.2.2⟩
          have FIN : Hid (∀ A' c' w4, Row w4 117 4 A' (q + 1) c' (m.wires.flatMap Wire.cells ++ [.int .i64 N0, .int .i64 N1, .int .i64 N2, .int .i64 N3]) → Keep (InA m.wA) wd w4 → (∀ j, InA A' j → InA m.wA j ∨ wd.heap.size ≤ j) → ∃ m' : PM, RLines P (i + 1) 2 m'.pl ∧ RpAt (pb + 1) (w4.setCell ⟨pb, 3, none⟩ (.slice A' (q + 1) c')) pb m' ∧ Below w2.heap.size w2 (w4.setCell ⟨pb, 3, none⟩ (.slice A' (q + 1) c'))) := hid fun A' c' w4 hr4 hk4 hn4 => by
            obtain ⟨r1, r2⟩ := rp_wire (x := ⟨(N0 : Nat), (N1 : Nat), (N2 : Nat), (N3 : Nat)⟩) HRP7.out HKD.out HQ.out.symm hr4 hk4 hn4
            exact ⟨_, HNX.out, r1, HRP7.out.below r2 HB7.out HPB.out⟩
          clear hblk hrow hkd hq hna hnx hns hv hyes hk7 hrb hrp7 hfew gx
          go_upto_region 20 with fail
          clear hcv7 hlv7 hvv
          refine wp_region_held_drew (S := (fun w' => w'.cell? ⟨nb, no, none⟩ = some (.int .i64 N0) ∧ w'.cell? ⟨nb, no + 1, none⟩ = some (.int .i64 N1) ∧ w'.cell? ⟨nb, no + 2, none⟩ = some (.int .i64 N2) ∧ w'.cell? ⟨nb, no + 3, none⟩ = some (.int .i64 N3))) (by kernel_rfl) ?_ (fun hHeld => ?_)
          · exact ⟨g0, g1, g2, g3⟩
          refine wpAnyH_take (i := 0) (v := ?v14) rfl (by kernel_rfl) (by kernel_rfl) (by kernel_rfl) (fun _ _ _ h => h) (Or.inl ⟨by rfl, ?hy14⟩) (by assumption) ?rest14
          case hy14 => (intro w hSw; (try dsimp only at hSw); (try simp only [List.getElem_toArray, List.getElem_cons_zero]); go_simp; (try with_reducible rfl))
          (try simp only [Act.put, List.getElem_toArray, List.getElem_cons_zero, List.setIfInBounds_toArray, List.set_cons_zero, List.set_cons_succ])
          refine wpAnyH_take (i := 2) (v := ?v15) rfl (by kernel_rfl) (by kernel_rfl) (by kernel_rfl) (fun _ _ _ h => h) (Or.inl ⟨by rfl, ?hy15⟩) (by assumption) ?rest15
          case hy15 => (intro w hSw; (try dsimp only at hSw); (try simp only [List.getElem_toArray, List.getElem_cons_zero, List.getElem_cons_succ]); go_simp; (try with_reducible rfl))
          (try simp only [Act.put, List.getElem_toArray, List.getElem_cons_zero, List.getElem_cons_succ, List.setIfInBounds_toArray, List.set_cons_zero, List.set_cons_succ])
          refine wpAnyH_take (i := 3) (v := ?v16) rfl (by kernel_rfl) (by kernel_rfl) (by kernel_rfl) (fun _ _ _ h => h) (Or.inl ⟨by rfl, ?hy16⟩) (by assumption) ?rest16
          case hy16 => (intro w hSw; (try dsimp only at hSw); (try simp only [List.getElem_toArray, List.getElem_cons_zero, List.getElem_cons_succ]); go_simp; (try with_reducible rfl))
          (try simp only [Act.put, List.getElem_toArray, List.getElem_cons_zero, List.getElem_cons_succ, List.setIfInBounds_toArray, List.set_cons_zero, List.set_cons_succ])
          refine wpAnyH_take (i := 4) (v := ?v17) rfl (by kernel_rfl) (by kernel_rfl) (by kernel_rfl) (fun _ _ _ h => h) (Or.inl ⟨by rfl, ?hy17⟩) (by assumption) ?rest17
          case hy17 => (intro w hSw; (try dsimp only at hSw); (try simp only [List.getElem_toArray, List.getElem_cons_zero, List.getElem_cons_succ]); go_simp; (try with_reducible rfl))
          (try simp only [Act.put, List.getElem_toArray, List.getElem_cons_zero, List.getElem_cons_succ, List.setIfInBounds_toArray, List.set_cons_zero, List.set_cons_succ])
          refine wpAnyH_take (i := 5) (v := ?v18) rfl (by kernel_rfl) (by kernel_rfl) (by kernel_rfl) (fun _ _ _ h => h) (Or.inl ⟨by rfl, ?hy18⟩) (by assumption) ?rest18
          case hy18 => (intro w hSw; (try dsimp only at hSw); (try simp only [List.getElem_toArray, List.getElem_cons_zero, List.getElem_cons_succ]); go_simp; (try with_reducible rfl))
          (try simp only [Act.put, List.getElem_toArray, List.getElem_cons_zero, List.getElem_cons_succ, List.setIfInBounds_toArray, List.set_cons_zero, List.set_cons_succ])
          refine wpAnyH_take (i := 6) (v := ?v19) rfl (by kernel_rfl) (by kernel_rfl) (by kernel_rfl) (fun _ _ _ h => h) (Or.inl ⟨by rfl, ?hy19⟩) (by assumption) ?rest19
          case hy19 => (intro w hSw; (try dsimp only at hSw); (try simp only [List.getElem_toArray, List.getElem_cons_zero, List.getElem_cons_succ]); go_simp; (try with_reducible rfl))
          (try simp only [Act.put, List.getElem_toArray, List.getElem_cons_zero, List.getElem_cons_succ, List.setIfInBounds_toArray, List.set_cons_zero, List.set_cons_succ])
          refine wpAnyH_take (i := 7) (v := ?v20) rfl (by kernel_rfl) (by kernel_rfl) (by kernel_rfl) (fun _ _ _ h => h) (Or.inl ⟨by rfl, ?hy20⟩) (by assumption) ?rest20
          case hy20 => (intro w hSw; (try dsimp only at hSw); (try simp only [List.getElem_toArray, List.getElem_cons_zero, List.getElem_cons_succ]); go_simp; (try with_reducible rfl))
          (try simp only [Act.put, List.getElem_toArray, List.getElem_cons_zero, List.getElem_cons_succ, List.setIfInBounds_toArray, List.set_cons_zero, List.set_cons_succ])
          refine wpAnyH_take (i := 8) (v := ?v21) rfl (by kernel_rfl) (by kernel_rfl) (by kernel_rfl) (fun _ _ _ h => h) (Or.inl ⟨by rfl, ?hy21⟩) (by assumption) ?rest21
          case hy21 => (intro w hSw; (try dsimp only at hSw); (try simp only [List.getElem_toArray, List.getElem_cons_zero, List.getElem_cons_succ]); go_simp; (try with_reducible rfl))
          (try simp only [Act.put, List.getElem_toArray, List.getElem_cons_zero, List.getElem_cons_succ, List.setIfInBounds_toArray, List.set_cons_zero, List.set_cons_succ])
          refine wpAnyH_take (i := 9) (v := ?v22) rfl (by kernel_rfl) (by kernel_rfl) (by kernel_rfl) (fun _ _ _ h => h) (Or.inl ⟨by rfl, ?hy22⟩) (by assumption) ?rest22
          case hy22 => (intro w hSw; (try dsimp only at hSw); (try simp only [List.getElem_toArray, List.getElem_cons_zero, List.getElem_cons_succ]); go_simp; (try with_reducible rfl))
          (try simp only [Act.put, List.getElem_toArray, List.getElem_cons_zero, List.getElem_cons_succ, List.setIfInBounds_toArray, List.set_cons_zero, List.set_cons_succ])
          refine wpAnyH_take (i := 10) (v := ?v23) rfl (by kernel_rfl) (by kernel_rfl) (by kernel_rfl) (fun _ _ _ h => h) (Or.inl ⟨by rfl, ?hy23⟩) (by assumption) ?rest23
          case hy23 => (intro w hSw; (try dsimp only at hSw); (try simp only [List.getElem_toArray, List.getElem_cons_zero, List.getElem_cons_succ]); go_simp; (try with_reducible rfl))
          (try simp only [Act.put, List.getElem_toArray, List.getElem_cons_zero, List.getElem_cons_succ, List.setIfInBounds_toArray, List.set_cons_zero, List.set_cons_succ])
          refine wpAnyH_take (i := 11) (v := ?v24) rfl (by kernel_rfl) (by kernel_rfl) (by kernel_rfl) (fun _ _ _ h => h) (Or.inl ⟨by rfl, ?hy24⟩) (by assumption) ?rest24
          case hy24 => (intro w hSw; (try dsimp only at hSw); (try simp only [List.getElem_toArray, List.getElem_cons_zero, List.getElem_cons_succ]); go_simp; (try with_reducible rfl))
          (try simp only [Act.put, List.getElem_toArray, List.getElem_cons_zero, List.getElem_cons_succ, List.setIfInBounds_toArray, List.set_cons_zero, List.set_cons_succ])
          refine wpAnyH_take (i := 12) (v := ?v25) rfl (by kernel_rfl) (by kernel_rfl) (by kernel_rfl) (fun _ _ _ h => h) (Or.inl ⟨by rfl, ?hy25⟩) (by assumption) ?rest25
          case hy25 => (intro w hSw; (try dsimp only at hSw); (try simp only [List.getElem_toArray, List.getElem_cons_zero, List.getElem_cons_succ]); go_simp; (try with_reducible rfl))
          (try simp only [Act.put, List.getElem_toArray, List.getElem_cons_zero, List.getElem_cons_succ, List.setIfInBounds_toArray, List.set_cons_zero, List.set_cons_succ])
          refine wpAnyH_take (i := 13) (v := ?v26) rfl (by kernel_rfl) (by kernel_rfl) (by kernel_rfl) (fun _ _ _ h => h) (Or.inl ⟨by rfl, ?hy26⟩) (by assumption) ?rest26
          case hy26 => (intro w hSw; (try dsimp only at hSw); (try simp only [List.getElem_toArray, List.getElem_cons_zero, List.getElem_cons_succ]); go_simp; (try with_reducible rfl))
          (try simp only [Act.put, List.getElem_toArray, List.getElem_cons_zero, List.getElem_cons_succ, List.setIfInBounds_toArray, List.set_cons_zero, List.set_cons_succ])
          refine wpAnyH_take (i := 14) (v := ?v27) rfl (by kernel_rfl) (by kernel_rfl) (by kernel_rfl) (fun _ _ _ h => h) (Or.inl ⟨by rfl, ?hy27⟩) (by assumption) ?rest27
          case hy27 => (intro w hSw; (try dsimp only at hSw); (try simp only [List.getElem_toArray, List.getElem_cons_zero, List.getElem_cons_succ]); go_simp; (try with_reducible rfl))
          (try simp only [Act.put, List.getElem_toArray, List.getElem_cons_zero, List.getElem_cons_succ, List.setIfInBounds_toArray, List.set_cons_zero, List.set_cons_succ])
          refine wpAnyH_ready (rs := [1, 15]) (by kernel_rfl) (by simp) ?_
          refine AllReadyH.cons rfl (fun K hK => ?_) (AllReadyH.cons rfl (fun K hK => ?_) AllReadyH.nil)
          · go_simp
            refine hK.out _ _ ?_ (fun hHeld => ?_)
            · exact ⟨g0, g1, g2, g3⟩
            clear hK K
            (try simp only [Act.put, List.getElem_toArray, List.getElem_cons_zero, List.getElem_cons_succ, List.setIfInBounds_toArray, List.set_cons_zero, List.set_cons_succ])
            refine wpAnyH_ready (rs := [15]) (by kernel_rfl) (by simp) ?_
            refine AllReadyH.cons rfl (fun K hK => ?_) AllReadyH.nil
            go_simp
            refine hK.out _ _ ?_ (fun hHeld => ?_)
            · exact hwd ▸ HSA.out
            clear hK K
            (try simp only [Act.put, List.getElem_toArray, List.getElem_cons_zero, List.getElem_cons_succ, List.setIfInBounds_toArray, List.set_cons_zero, List.set_cons_succ])
            refine wpAnyH_ready (rs := [16]) (by kernel_rfl) (by simp) ?_
            refine AllReadyH.cons rfl (fun K hK => ?_) AllReadyH.nil
            refine step_append_row _ rfl _ _ 24 rfl 117 i0 _ 4 32 Tryz.underlying24 hi0 hz0 hz1 hz2 rfl (by decide) m.wA q m.wc (m.wires.flatMap Wire.cells) rfl (by rw [← hwd]; exact HRD.out) (some ⟨w7.heap.size, 0, none⟩) 1 1 [.int .i64 N0, .int .i64 N1, .int .i64 N2, .int .i64 N3] rfl (by rw [← hwd]; exact HSD.out) (by intro u hu; simp at hu; rcases hu with rfl | rfl | rfl | rfl <;> rfl) (by unfold maxLen; omega) (by omega) ?_
            intro A' c' w4 hr4 hk4 hn4
            have hk4 := hwd ▸ hk4
            have hn4 := hwd ▸ hn4
            obtain ⟨d0, d1⟩ := HBL.out w4 hk4
            have d2 := d0.trans HRP7.out.blk
            unfold rpCells at d2
            have d3 := blk_cell d2 3
            have d4 := blk_free d2 3
            simp at d3
            rw [← HQ.out] at d3
            have HR4 := hid hr4
            have HK4 := hid hk4
            have HN4 := hid hn4
            clear hr4 hk4 hn4 d0 d2
            refine hK.out _ _ ?_ (fun hHeld => ?_)
            · exact HS4.out w4 HK4.out
            clear hK K
            (try simp only [Act.put, List.getElem_toArray, List.getElem_cons_zero, List.getElem_cons_succ, List.setIfInBounds_toArray, List.set_cons_zero, List.set_cons_succ])
            refine wpAnyH_take (i := 17) (v := ?v28) rfl (by kernel_rfl) (by kernel_rfl) (by kernel_rfl) (fun _ _ _ h => h) (Or.inl ⟨by rfl, ?hy28⟩) (by assumption) ?rest28
            case hy28 => (intro w hSw; (try dsimp only at hSw); (try simp only [List.getElem_toArray, List.getElem_cons_zero, List.getElem_cons_succ]); go_simp; (try with_reducible rfl))
            (try simp only [Act.put, List.getElem_toArray, List.getElem_cons_zero, List.getElem_cons_succ, List.setIfInBounds_toArray, List.set_cons_zero, List.set_cons_succ])
            refine wpAnyH_ready (rs := [18]) (by kernel_rfl) (by simp) ?_
            refine AllReadyH.cons rfl (fun K hK => ?_) AllReadyH.nil
            go_simp
            refine hK.out _ _ ?_ (fun hHeld => ?_)
            · exact HSS.out w4 _ (HS4.out w4 HK4.out)
            clear hK K
            (try simp only [Act.put, List.getElem_toArray, List.getElem_cons_zero, List.getElem_cons_succ, List.setIfInBounds_toArray, List.set_cons_zero, List.set_cons_succ])
            refine wpAnyH_done (by kernel_rfl) ?_ _
            go_wp2_with fail
            go_roundw
            case rel =>
              obtain ⟨m', h1, h2, h3⟩ := FIN.out _ _ _ HR4.out HK4.out HN4.out
              exact ⟨i + 1, m', by omega, by omega, by go_num, h1, h2, h3⟩
            case measure => simp [intOf]; omega
          · go_simp
            refine hK.out _ _ ?_ (fun hHeld => ?_)
            · exact hwd ▸ HSA.out
            clear hK K
            (try simp only [Act.put, List.getElem_toArray, List.getElem_cons_zero, List.getElem_cons_succ, List.setIfInBounds_toArray, List.set_cons_zero, List.set_cons_succ])
            refine wpAnyH_ready (rs := [1]) (by kernel_rfl) (by simp) ?_
            refine AllReadyH.cons rfl (fun K hK => ?_) AllReadyH.nil
            go_simp
            refine hK.out _ _ ?_ (fun hHeld => ?_)
            · exact hwd ▸ HSA.out
            clear hK K
            (try simp only [Act.put, List.getElem_toArray, List.getElem_cons_zero, List.getElem_cons_succ, List.setIfInBounds_toArray, List.set_cons_zero, List.set_cons_succ])
            refine wpAnyH_ready (rs := [16]) (by kernel_rfl) (by simp) ?_
            refine AllReadyH.cons rfl (fun K hK => ?_) AllReadyH.nil
            refine step_append_row _ rfl _ _ 24 rfl 117 i0 _ 4 32 Tryz.underlying24 hi0 hz0 hz1 hz2 rfl (by decide) m.wA q m.wc (m.wires.flatMap Wire.cells) rfl (by rw [← hwd]; exact HRD.out) (some ⟨w7.heap.size, 0, none⟩) 1 1 [.int .i64 N0, .int .i64 N1, .int .i64 N2, .int .i64 N3] rfl (by rw [← hwd]; exact HSD.out) (by intro u hu; simp at hu; rcases hu with rfl | rfl | rfl | rfl <;> rfl) (by unfold maxLen; omega) (by omega) ?_
            intro A' c' w4 hr4 hk4 hn4
            have hk4 := hwd ▸ hk4
            have hn4 := hwd ▸ hn4
            obtain ⟨d0, d1⟩ := HBL.out w4 hk4
            have d2 := d0.trans HRP7.out.blk
            unfold rpCells at d2
            have d3 := blk_cell d2 3
            have d4 := blk_free d2 3
            simp at d3
            rw [← HQ.out] at d3
            have HR4 := hid hr4
            have HK4 := hid hk4
            have HN4 := hid hn4
            clear hr4 hk4 hn4 d0 d2
            refine hK.out _ _ ?_ (fun hHeld => ?_)
            · exact HS4.out w4 HK4.out
            clear hK K
            (try simp only [Act.put, List.getElem_toArray, List.getElem_cons_zero, List.getElem_cons_succ, List.setIfInBounds_toArray, List.set_cons_zero, List.set_cons_succ])
            refine wpAnyH_take (i := 17) (v := ?v29) rfl (by kernel_rfl) (by kernel_rfl) (by kernel_rfl) (fun _ _ _ h => h) (Or.inl ⟨by rfl, ?hy29⟩) (by assumption) ?rest29
            case hy29 => (intro w hSw; (try dsimp only at hSw); (try simp only [List.getElem_toArray, List.getElem_cons_zero, List.getElem_cons_succ]); go_simp; (try with_reducible rfl))
            (try simp only [Act.put, List.getElem_toArray, List.getElem_cons_zero, List.getElem_cons_succ, List.setIfInBounds_toArray, List.set_cons_zero, List.set_cons_succ])
            refine wpAnyH_ready (rs := [18]) (by kernel_rfl) (by simp) ?_
            refine AllReadyH.cons rfl (fun K hK => ?_) AllReadyH.nil
            go_simp
            refine hK.out _ _ ?_ (fun hHeld => ?_)
            · exact HSS.out w4 _ (HS4.out w4 HK4.out)
            clear hK K
            (try simp only [Act.put, List.getElem_toArray, List.getElem_cons_zero, List.getElem_cons_succ, List.setIfInBounds_toArray, List.set_cons_zero, List.set_cons_succ])
            refine wpAnyH_done (by kernel_rfl) ?_ _
            go_wp2_with fail
            go_roundw
            case rel =>
              obtain ⟨m', h1, h2, h3⟩ := FIN.out _ _ _ HR4.out HK4.out HN4.out
              exact ⟨i + 1, m', by omega, by omega, by go_num, h1, h2, h3⟩
            case measure => simp [intOf]; omega
        · obtain rfl : i = n := by omega
          go_wp2_with fail
          go_meet
          exact ⟨_, m, by omega, by omega, rfl, rl_to3 HRL.out (fun s hs => by rw [List.getElem?_eq_none (by rw [← HN.out]; exact Nat.le_refl _)] at hs; cases hs), HRPR.out, HB.out⟩
    case rest =>
      as_aux_lemma =>
      obtain ⟨ib, mb, hib, hibn, rfl, hrl, hrp, hbc⟩ := hcut
      obtain ⟨wb, rfl⟩ : ∃ wb : World, wb = wc := ⟨_, rfl⟩
      replace HRL := hid hrl
      replace HRP := hid hrp
      replace HB5 := hid hbc
      clear hrl hrp hbc
      obtain ⟨i1, hi1', hy0, hy1, hy2⟩ := info_parts Tryz.infoRdOps
      obtain ⟨i2, hi2, hw0, hw1, hw2⟩ := info_parts Tryz.infoOpR
      go_wp2_with fail
      go_loopw [9] (fun v9 wr => ∃ (i : Nat) (m : PM), 1 ≤ i ∧ i ≤ n ∧ v9 = .int .i64 i ∧ RLines P i 3 m.pl ∧ RpAt (pb + 1) wr pb m ∧ Below w2.heap.size w2 wr) (fun v9 _ => n - (intOf v9).toNat)
      case atStart => exact ⟨ib, mb, hib, hibn, rfl, HRL.out, HRP.out, HB5.out⟩
      case round =>
        obtain ⟨i, m, hi1, hin, rfl, hrl, hrp, hb⟩ := hrel
        replace HRL := hid hrl
        have HRPR := hid hrp
        have HB := hid hb
        clear hrl hrp hb HRP
        by_cases hlt : i < n
        · obtain ⟨S, hS, hSz, hSc⟩ := HWORD.out i hlt
          obtain ⟨hcw, hbw⟩ := hSc wr HB.out
          have HS := hid hS
          have hblk := HRPR.out.blk
          unfold rpCells at hblk
          have x0 := blk_cell hblk 0
          have xf := fun o => blk_free hblk o
          have hlx := blk_lt hblk
          simp at x0
          have hsl : S.toList = S.data.toList := Lib.toList_data S
          have HSL := hid hsl
          have hfew := (rl_few HRL.out).1
          have hfew2 : m.ros.length ≤ 1073741824 := by
            have : m.pl.code.length = m.ros.length := by unfold PM.pl; simp
            omega
          clear hS hSc hsl hfew
          by_cases hroom : S.data.toList = PLine.room.txt
          · have hss : (S.toList == ([114, 111, 111, 109] : List UInt8)) = true := by rw [HSL.out, hroom]; decide
            have hnx := rl_room HRL.out (by rw [HS.out, hroom])
            have HNX := hid hnx
            obtain ⟨q, hq⟩ : ∃ q, q = m.ros.length := ⟨_, rfl⟩
            rw [← hq] at x0 hfew2
            have hrow := HRPR.out.rows
            rw [← hq] at hrow
            obtain ⟨wd, hwd⟩ : ∃ wd, wd = wr.alloc (.cells #[.slice none 0 0] 43) := ⟨_, rfl⟩
            have HRD := hid (show Row wd 43 1 m.A q m.c (m.ros.flatMap Ro.cells) by rw [hwd]; exact hrow.alloc _)
            have HSD := hid (show Sl wd (some ⟨wr.heap.size, 0, none⟩) 1 1 [.slice none 0 0] by rw [hwd]; exact one_sl wr _ _)
            have hkd : Keep NoF wr wd := by rw [hwd]; exact (Keep.refl _ _).alloc _
            have HKD := hid hkd
            have HQ := hid hq
            have HBL : Hid (∀ w4, Keep (InA m.A) wd w4 → w4.heap[pb]? = wr.heap[pb]? ∧ pb < w4.heap.size) := hid fun w4 hk => by
              have h1 := hkd.size
              exact ⟨(hk.block pb (by omega) fun hj => by have := HRPR.out.fresh pb (.inl hj); omega).trans (hkd.block pb hlx fun hj => hj.elim), by have := hk.size; omega⟩
            clear hnx hq hrow hblk hroom hkd
            go_wp2_with (at_builtin; refine wpList_append_row _ rfl _ _ 22 rfl 43 i1 (.slice none 0 0) 1 24 Tryz.underlying22 hi1' hy0 hy1 hy2 rfl (by decide) m.A q m.c (m.ros.flatMap Ro.cells) rfl (by rw [← hwd]; exact HRD.out) (some ⟨wr.heap.size, 0, none⟩) 1 1 [.slice none 0 0] rfl (by rw [← hwd]; exact HSD.out) (by intro u hu; simp at hu; subst hu; rfl) (by unfold maxLen; omega) (by omega) ?_)
            intro A' c' w4 hr4 hk4 hn4
            have hsz : wd.heap.size = wr.heap.size + 1 := by rw [hwd]; exact sz_alloc _ _
            rw [← hwd] at hk4
            rw [← hsz] at hn4
            obtain ⟨d0, d1⟩ := HBL.out w4 hk4
            have d2 := d0.trans HRPR.out.blk
            unfold rpCells at d2
            have d3 := blk_cell d2 0
            have d4 := blk_free d2 0
            simp at d3
            obtain ⟨r1, r2⟩ := rp_room HRPR.out HKD.out HQ.out.symm hr4 hk4 hn4
            have HR1 := hid r1
            have HB9 := hid (HRPR.out.below r2 HB.out HPB.out)
            have hpl : PM.pl ⟨A', c', m.ros ++ [⟨none, 0, []⟩], m.ticks, m.sA, m.sc, m.spans, m.wA, m.wc, m.wires⟩ = ⟨m.pl.code ++ [[]], m.pl.ticks, m.pl.spans, m.pl.wires⟩ := by simp [PM.pl]
            have HPLE := hid hpl
            clear hr4 hk4 hn4 hsz d0 d2 r1 r2 hwd x0 xf hpl
            go_wp2_with fail
            go_roundw
            case rel => exact ⟨i + 1, _, by omega, by omega, by go_num, by rw [HPLE.out]; exact HNX.out, HR1.out, HB9.out⟩
            case measure => simp [intOf]; omega
          · have hss : (S.toList == ([114, 111, 111, 109] : List UInt8)) = false := by rw [HSL.out]; exact beq_eq_false_iff_ne.2 hroom
            have HRO := hid (rreadop_any S hSz wr)
            have HSTOP : Hid ((m.pl.code = [] ∨ ∀ o, WfOp o → opLine o ≠ S.data.toList) → ∀ p' : Pl, WfPl p' → planText p' ≠ t.data.toList) := hid fun h => rl_stop HRL.out HJ.out HNO.out HS.out hroom h
            clear hblk x0 xf hlx hroom
            go_wp2_with fail
            refine HRO.out.mono ?_
            rintro e w8 ⟨hb8, hor⟩
            have HB8 := hid (HB.out.trans (hb8.mono HB.out.size))
            have HRP8 := hid (HRPR.out.new hb8)
            clear hb8 HRO hcw hbw hss
            obtain ⟨o, fl, he, hoo⟩ : ∃ (o : Op) (fl : Bool), e = .returned (.tuple #[.agg #[.int .i64 o.what, .int .i64 o.a, .int .i64 o.b], .bool fl]) ∧ ((fl = true ∧ WfOp o ∧ opLine o = S.data.toList) ∨ (fl = false ∧ ∀ o, WfOp o → opLine o ≠ S.data.toList)) := by
              rcases hor with ⟨o, ho, hol, rfl⟩ | ⟨hno, rfl⟩
              · exact ⟨o, true, rfl, .inl ⟨rfl, ho, hol⟩⟩
              · exact ⟨⟨0, 0, 0⟩, false, rfl, .inr ⟨rfl, hno⟩⟩
            subst he
            have HOO := hid hoo
            obtain ⟨what, oa, ob⟩ := o
            clear hor hoo
            go_upto_region 27 with fail
            obtain ⟨w9, hw9⟩ : ∃ w9, w9 = w8.alloc (.cells #[.int .i64 what, .int .i64 oa, .int .i64 ob] 42) := ⟨_, rfl⟩
            have hb9 : Below w2.heap.size w2 w9 := by rw [hw9]; exact HB8.out.alloc HB8.out.size _
            have hk9 : Keep NoF w8 w9 := by rw [hw9]; exact (Keep.refl _ _).alloc _
            have hrp9 : RpAt (pb + 1) w9 pb m := HRP8.out.new (by rw [hw9]; exact (Below.refl _ _).alloc (Nat.le_refl _) _)
            have hop9 : w9.heap[w8.heap.size]? = some (.cells #[.int .i64 what, .int .i64 oa, .int .i64 ob] 42 (0, 0)) := by rw [hw9]; exact heap_alloc_new w8 _
            have hz9 : w9.heap.size = w8.heap.size + 1 := by rw [hw9]; exact sz_alloc _ _
            rw [← hw9]
            obtain ⟨bo, hbo⟩ : ∃ bo, bo = w8.heap.size := ⟨_, rfl⟩
            rw [← hbo] at hop9 hz9 ⊢
            have HB9 := hid hb9
            have HRP9 := hid hrp9
            have HOP9 := hid hop9
            have HZ9 := hid hz9
            have HBO := hid hbo
            have hx9 := (HOLD.out w9 hb9).1
            have y0 := blk_cell hx9 0
            have y1 := blk_cell hx9 1
            have y2 := blk_cell hx9 2
            have y3 := blk_cell hx9 3
            have yf := fun o => blk_free hx9 o
            have hly := blk_lt hx9
            simp at y0 y1 y2 y3
            have hblk := hrp9.blk
            unfold rpCells at hblk
            have x0 := blk_cell hblk 0
            have hlx := blk_lt hblk
            simp at x0
            clear hw9 hb9 hk9 hrp9 hop9 hz9 hbo hx9 hblk
            rcases HOO.out with ⟨rfl, ho, hol⟩ | ⟨rfl, hnoo⟩
            rotate_left
            · have HNOP := hid (HSTOP.out (.inr hnoo))
              clear hnoo
              go_wp2_with fail
              refine rplan_none (HOLD.out w9 HB9.out).1 (HOLD.out w9 HB9.out).2 ?_ ?_ ?_ (.inr ⟨rfl, HNOP.out⟩) <;> rfl
            rcases List.eq_nil_or_concat m.ros with hros | ⟨init, r, hros⟩
            · have HNOP := hid (HSTOP.out (.inl (by unfold PM.pl; simp [hros])))
              rw [hros] at x0
              clear hros ho hol
              go_wp2_with fail
              refine rplan_none (HOLD.out w9 HB9.out).1 (HOLD.out w9 HB9.out).2 ?_ ?_ ?_ (.inr ⟨rfl, HNOP.out⟩) <;> rfl
            · rw [List.concat_eq_append] at hros
              obtain ⟨q, hq⟩ : ∃ q, init.length = q := ⟨_, rfl⟩
              have hlen : m.ros.length = q + 1 := by rw [hros, ← hq]; simp
              have hnx := rl_op HRL.out HS.out ho hol (by unfold PM.pl; simp [hros])
              have HNX := hid hnx
              obtain ⟨ab, ao, hA, hcell, habl, habb⟩ := rp_last HRP9.out hros
              rw [hq] at hcell
              have habl8 : ab < bo := by
                have h1 := HRP8.out.rows.lt ab (by rw [hA]; simp [InA])
                rw [HBO.out]; exact h1
              obtain ⟨rn, hrn⟩ : ∃ rn, r.ops.length = rn := ⟨_, rfl⟩
              rw [hrn] at hcell
              have hrm : r ∈ m.ros := by rw [hros]; simp
              have hrowr := HRP9.out.codes r hrm
              have hrow8 := HRP8.out.codes r hrm
              have hrn1 : rn ≤ 1073741824 := by
                have h1 := (rl_few HRL.out).2.2.2 r.ops (by unfold PM.pl; exact List.mem_map_of_mem hrm)
                omega
              rw [hrn] at hrowr
              rw [hlen, hA] at x0
              rw [hlen] at hfew2
              have hk1 : ((q + 1 : Nat) : Int) - 1 = (q : Int) := by omega
              have hfrr : ∀ j, InA r.A j → pb + 1 ≤ j ∧ j < bo := fun j hj => ⟨HRP9.out.freshC r hrm j hj, by rw [HBO.out]; exact hrow8.lt j hj⟩
              obtain ⟨wd, hwd⟩ : ∃ wd, wd = (w9.alloc (.cells #[.int .i64 what, .int .i64 oa, .int .i64 ob] 42)).drew := ⟨_, rfl⟩
              have HRW : Hid (Row wd 42 3 r.A rn r.c (r.ops.flatMap Op.cells)) := hid (by rw [hwd]; exact hrowr.alloc _)
              have HSD : Hid (Sl wd (some ⟨w9.heap.size, 0, none⟩) 3 1 [.int .i64 what, .int .i64 oa, .int .i64 ob]) := hid (by rw [hwd]; exact sl_blk (heap_alloc_new w9 _) 3 1 _ rfl rfl)
              have hkd : Keep NoF w9 wd := by rw [hwd]; exact ((Keep.refl _ _).alloc _).drew
              have hpbb : pb < bo := by have := HRP8.out.low; have := HRP8.out.big; rw [HBO.out]; omega
              have HS0 : Hid (w9.cell? ⟨pb, 0, none⟩ = some (.slice (some ⟨ab, ao, none⟩) (q + 1) m.c) ∧ w9.cell? ⟨bo, 0, none⟩ = some (.int .i64 what) ∧ w9.cell? ⟨bo, 1, none⟩ = some (.int .i64 oa) ∧ w9.cell? ⟨bo, 2, none⟩ = some (.int .i64 ob)) := hid ⟨x0, blk_cell HOP9.out 0, blk_cell HOP9.out 1, blk_cell HOP9.out 2⟩
              have HSK : Hid (∀ w' : World, w'.heap[pb]? = w9.heap[pb]? → w'.heap[bo]? = w9.heap[bo]? → w'.cell? ⟨pb, 0, none⟩ = some (.slice (some ⟨ab, ao, none⟩) (q + 1) m.c) ∧ w'.cell? ⟨bo, 0, none⟩ = some (.int .i64 what) ∧ w'.cell? ⟨bo, 1, none⟩ = some (.int .i64 oa) ∧ w'.cell? ⟨bo, 2, none⟩ = some (.int .i64 ob)) := hid fun w' h1 h2 =>
                ⟨(World.cell?_of_block h1).trans HS0.out.1, (World.cell?_of_block h2).trans HS0.out.2.1, (World.cell?_of_block h2).trans HS0.out.2.2.1, (World.cell?_of_block h2).trans HS0.out.2.2.2⟩
              have HSA := hid (HSK.out wd (hkd.block pb (by have := HZ9.out; omega) fun hj => hj.elim) (hkd.block bo (by have := HZ9.out; omega) fun hj => hj.elim))
              have HSWB : Hid (∀ w4, Keep (InA r.A) wd w4 → w4.heap[pb]? = w9.heap[pb]? ∧ w4.heap[bo]? = w9.heap[bo]?) := hid fun w4 hk4 => by
                have h1 := HZ9.out
                have h2 := hkd.size
                exact ⟨(hk4.block pb (by omega) fun hj => by have := hfrr pb hj; omega).trans (hkd.block pb (by omega) fun hj => hj.elim), (hk4.block bo (by omega) fun hj => by have := hfrr bo hj; omega).trans (hkd.block bo (by omega) fun hj => hj.elim)⟩
              have HSS : Hid (∀ (w4 : World) (v : Value), Keep (InA r.A) wd w4 → (w4.setCell ⟨ab, ao + q, none⟩ v).cell? ⟨pb, 0, none⟩ = some (.slice (some ⟨ab, ao, none⟩) (q + 1) m.c) ∧ (w4.setCell ⟨ab, ao + q, none⟩ v).cell? ⟨bo, 0, none⟩ = some (.int .i64 what) ∧ (w4.setCell ⟨ab, ao + q, none⟩ v).cell? ⟨bo, 1, none⟩ = some (.int .i64 oa) ∧ (w4.setCell ⟨ab, ao + q, none⟩ v).cell? ⟨bo, 2, none⟩ = some (.int .i64 ob)) := hid fun w4 v hk4 => by
                obtain ⟨h1, h2⟩ := HSWB.out w4 hk4
                exact HSK.out _ ((blk_far (p := ⟨ab, ao + q, none⟩) (by simp; omega) v).trans h1) ((blk_far (p := ⟨ab, ao + q, none⟩) (by simp; omega) v).trans h2)
              have HSW : Hid (∀ w4, Keep (InA r.A) wd w4 → w4.cell? ⟨pb, 0, none⟩ = some (.slice (some ⟨ab, ao, none⟩) (q + 1) m.c) ∧ w4.cell? ⟨bo, 0, none⟩ = some (.int .i64 what) ∧ w4.cell? ⟨bo, 1, none⟩ = some (.int .i64 oa) ∧ w4.cell? ⟨bo, 2, none⟩ = some (.int .i64 ob)) := hid fun w4 hk4 => HSK.out w4 (HSWB.out w4 hk4).1 (HSWB.out w4 hk4).2
              have FIN : Hid (∀ A' c' w4, Row w4 42 3 A' (rn + 1) c' (r.ops.flatMap Op.cells ++ [.int .i64 what, .int .i64 oa, .int .i64 ob]) → Keep (InA r.A) wd w4 → (∀ j, InA A' j → InA r.A j ∨ wd.heap.size ≤ j) →
                  w4.frozen? ⟨ab, ao + q, none⟩ = false ∧ ab < w4.heap.size ∧ w4.cell? ⟨ab, ao + q, none⟩ = some (.slice r.A rn r.c) ∧ ∃ m' : PM, RLines P (i + 1) 3 m'.pl ∧ RpAt (pb + 1) (w4.setCell ⟨ab, ao + q, none⟩ (.slice A' (rn + 1) c')) pb m' ∧ Below w2.heap.size w2 (w4.setCell ⟨ab, ao + q, none⟩ (.slice A' (rn + 1) c'))) := hid fun A' c' w4 hr4 hk4 hn4 => by
                obtain ⟨y1, y2, y3, m', y4, y5, y6⟩ := rp_op (o := ⟨what, oa, ob⟩) HRP9.out hkd hros hrn hr4 hk4 hn4 hA
                rw [hq] at y1 y3 y5 y6
                exact ⟨y1, y2, y3, m', by rw [y4]; exact HNX.out, y5, HRP9.out.below y6 HB9.out HPB.out⟩
              have hlbo : bo < w9.heap.size := by have := HZ9.out; omega
              have hqlt : (q : Int) < (q : Int) + 1 := by omega
              clear ho hol hros hq hlen hnx hA habb habl8 hrn hrm hrowr hrow8 hfrr hkd hpbb y0 y1 y2 y3 yf hly
              go_upto_region 30 with fail
              refine wp_region_held_drew (S := (fun w' => w'.cell? ⟨pb, 0, none⟩ = some (.slice (some ⟨ab, ao, none⟩) (q + 1) m.c) ∧ w'.cell? ⟨bo, 0, none⟩ = some (.int .i64 what) ∧ w'.cell? ⟨bo, 1, none⟩ = some (.int .i64 oa) ∧ w'.cell? ⟨bo, 2, none⟩ = some (.int .i64 ob))) (by kernel_rfl) ?_ (fun hHeld => ?_)
              · exact HS0.out
              refine wpAnyH_take (i := 0) (v := ?v30) rfl (by kernel_rfl) (by kernel_rfl) (by kernel_rfl) (fun _ _ _ h => h) (Or.inl ⟨by rfl, ?hy30⟩) (by assumption) ?rest30
              case hy30 => (intro w hSw; (try dsimp only at hSw); (try simp only [List.getElem_toArray, List.getElem_cons_zero]); go_simp; (try with_reducible rfl))
              (try simp only [Act.put, List.getElem_toArray, List.getElem_cons_zero, List.setIfInBounds_toArray, List.set_cons_zero, List.set_cons_succ])
              refine wpAnyH_take (i := 1) (v := ?v31) rfl (by kernel_rfl) (by kernel_rfl) (by kernel_rfl) (fun _ _ _ h => h) (Or.inl ⟨by rfl, ?hy31⟩) (by assumption) ?rest31
              case hy31 => (intro w hSw; (try dsimp only at hSw); (try simp only [List.getElem_toArray, List.getElem_cons_zero, List.getElem_cons_succ]); go_simp; (try with_reducible rfl))
              (try simp only [Act.put, List.getElem_toArray, List.getElem_cons_zero, List.getElem_cons_succ, List.setIfInBounds_toArray, List.set_cons_zero, List.set_cons_succ])
              refine wpAnyH_take (i := 2) (v := ?v32) rfl (by kernel_rfl) (by kernel_rfl) (by kernel_rfl) (fun _ _ _ h => h) (Or.inl ⟨by rfl, ?hy32⟩) (by assumption) ?rest32
              case hy32 => (intro w hSw; (try dsimp only at hSw); (try simp only [List.getElem_toArray, List.getElem_cons_zero, List.getElem_cons_succ]); go_simp; (try with_reducible rfl))
              (try simp only [Act.put, List.getElem_toArray, List.getElem_cons_zero, List.getElem_cons_succ, List.setIfInBounds_toArray, List.set_cons_zero, List.set_cons_succ])
              refine wpAnyH_take (i := 3) (v := ?v33) rfl (by kernel_rfl) (by kernel_rfl) (by kernel_rfl) (fun _ _ _ h => h) (Or.inl ⟨by rfl, ?hy33⟩) (by assumption) ?rest33
              case hy33 => (intro w hSw; (try dsimp only at hSw); (try simp only [List.getElem_toArray, List.getElem_cons_zero, List.getElem_cons_succ]); go_simp; (try with_reducible rfl))
              (try simp only [Act.put, List.getElem_toArray, List.getElem_cons_zero, List.getElem_cons_succ, List.setIfInBounds_toArray, List.set_cons_zero, List.set_cons_succ])
              refine wpAnyH_take (i := 4) (v := ?v34) rfl (by kernel_rfl) (by kernel_rfl) (by kernel_rfl) (fun _ _ _ h => h) (Or.inl ⟨by rfl, ?hy34⟩) (by assumption) ?rest34
              case hy34 => (intro w hSw; (try dsimp only at hSw); (try simp only [List.getElem_toArray, List.getElem_cons_zero, List.getElem_cons_succ]); go_simp; (try with_reducible rfl))
              (try simp only [Act.put, List.getElem_toArray, List.getElem_cons_zero, List.getElem_cons_succ, List.setIfInBounds_toArray, List.set_cons_zero, List.set_cons_succ])
              refine wpAnyH_take (i := 5) (v := ?v35) rfl (by kernel_rfl) (by kernel_rfl) (by kernel_rfl) (fun _ _ _ h => h) (Or.inl ⟨by rfl, ?hy35⟩) (by assumption) ?rest35
              case hy35 => (intro w hSw; (try dsimp only at hSw); (try simp only [List.getElem_toArray, List.getElem_cons_zero, List.getElem_cons_succ]); go_simp; (try with_reducible rfl))
              (try simp only [Act.put, List.getElem_toArray, List.getElem_cons_zero, List.getElem_cons_succ, List.setIfInBounds_toArray, List.set_cons_zero, List.set_cons_succ])
              refine wpAnyH_take (i := 6) (v := ?v36) rfl (by kernel_rfl) (by kernel_rfl) (by kernel_rfl) (fun _ _ _ h => h) (Or.inl ⟨by rfl, ?hy36⟩) (by assumption) ?rest36
              case hy36 => (intro w hSw; (try dsimp only at hSw); (try simp only [List.getElem_toArray, List.getElem_cons_zero, List.getElem_cons_succ]); go_simp; (try with_reducible rfl))
              (try simp only [Act.put, List.getElem_toArray, List.getElem_cons_zero, List.getElem_cons_succ, List.setIfInBounds_toArray, List.set_cons_zero, List.set_cons_succ])
              refine wpAnyH_take (i := 8) (v := ?v37) rfl (by kernel_rfl) (by kernel_rfl) (by kernel_rfl) (fun _ _ _ h => h) (Or.inl ⟨by rfl, ?hy37⟩) (by assumption) ?rest37
              case hy37 => (intro w hSw; (try dsimp only at hSw); (try simp only [List.getElem_toArray, List.getElem_cons_zero, List.getElem_cons_succ]); go_simp; (try with_reducible rfl))
              (try simp only [Act.put, List.getElem_toArray, List.getElem_cons_zero, List.getElem_cons_succ, List.setIfInBounds_toArray, List.set_cons_zero, List.set_cons_succ])
              refine wpAnyH_ready (rs := [7, 9]) (by kernel_rfl) (by simp) ?_
              refine AllReadyH.cons rfl (fun K hK => ?_) (AllReadyH.cons rfl (fun K hK => ?_) AllReadyH.nil)
              · go_simp
                refine hK.out _ _ ?_ (fun hHeld => ?_)
                · exact HS0.out
                clear hK K
                (try simp only [Act.put, List.getElem_toArray, List.getElem_cons_zero, List.getElem_cons_succ, List.setIfInBounds_toArray, List.set_cons_zero, List.set_cons_succ])
                refine wpAnyH_ready (rs := [9]) (by kernel_rfl) (by simp) ?_
                refine AllReadyH.cons rfl (fun K hK => ?_) AllReadyH.nil
                go_simp
                refine hK.out _ _ ?_ (fun hHeld => ?_)
                · exact hwd ▸ HSA.out
                clear hK K
                (try simp only [Act.put, List.getElem_toArray, List.getElem_cons_zero, List.getElem_cons_succ, List.setIfInBounds_toArray, List.set_cons_zero, List.set_cons_succ])
                refine wpAnyH_ready (rs := [10]) (by kernel_rfl) (by simp) ?_
                refine AllReadyH.cons rfl (fun K hK => ?_) AllReadyH.nil
                refine step_append_row _ rfl _ _ 43 rfl 42 i2 _ 3 24 Tryz.underlying43 hi2 hw0 hw1 hw2 rfl (by decide) r.A rn r.c (r.ops.flatMap Op.cells) rfl (by rw [← hwd]; exact HRW.out) (some ⟨w9.heap.size, 0, none⟩) 1 1 [.int .i64 what, .int .i64 oa, .int .i64 ob] rfl (by rw [← hwd]; exact HSD.out) (by intro u hu; simp at hu; rcases hu with rfl | rfl | rfl <;> rfl) (by unfold maxLen; omega) (by omega) ?_
                intro A' c' w4 hr4 hk4 hn4
                have hk4 := hwd ▸ hk4
                have hn4 := hwd ▸ hn4
                obtain ⟨d0, d1, dc, m9, d2, d3, d4⟩ := FIN.out _ _ _ hr4 hk4 hn4
                have HS4 := hid (HSW.out w4 hk4)
                have HSS4 := hid (fun v => HSS.out w4 v hk4)
                have HM9 := hid d2
                have HR9 := hid d3
                have HK9 := hid d4
                clear hr4 hk4 hn4 d2 d3 d4
                refine hK.out _ _ ?_ (fun hHeld => ?_)
                · exact HS4.out
                clear hK K
                (try simp only [Act.put, List.getElem_toArray, List.getElem_cons_zero, List.getElem_cons_succ, List.setIfInBounds_toArray, List.set_cons_zero, List.set_cons_succ])
                refine wpAnyH_take (i := 11) (v := ?v38) rfl (by kernel_rfl) (by kernel_rfl) (by kernel_rfl) (fun _ _ _ h => h) (Or.inl ⟨by rfl, ?hy38⟩) (by assumption) ?rest38
                case hy38 => (intro w hSw; (try dsimp only at hSw); (try simp only [List.getElem_toArray, List.getElem_cons_zero, List.getElem_cons_succ]); go_simp; (try with_reducible rfl))
                (try simp only [Act.put, List.getElem_toArray, List.getElem_cons_zero, List.getElem_cons_succ, List.setIfInBounds_toArray, List.set_cons_zero, List.set_cons_succ])
                refine wpAnyH_ready (rs := [12]) (by kernel_rfl) (by simp) ?_
                refine AllReadyH.cons rfl (fun K hK => ?_) AllReadyH.nil
                go_simp
                refine hK.out _ _ ?_ (fun hHeld => ?_)
                · exact HSS4.out _
                clear hK K
                (try simp only [Act.put, List.getElem_toArray, List.getElem_cons_zero, List.getElem_cons_succ, List.setIfInBounds_toArray, List.set_cons_zero, List.set_cons_succ])
                refine wpAnyH_done (by kernel_rfl) ?_ _
                go_wp2_with fail
                go_roundw
                case rel => exact ⟨i + 1, m9, by omega, by omega, by go_num, HM9.out, HR9.out, HK9.out⟩
                case measure => simp [intOf]; omega
              · go_simp
                refine hK.out _ _ ?_ (fun hHeld => ?_)
                · exact hwd ▸ HSA.out
                clear hK K
                (try simp only [Act.put, List.getElem_toArray, List.getElem_cons_zero, List.getElem_cons_succ, List.setIfInBounds_toArray, List.set_cons_zero, List.set_cons_succ])
                refine wpAnyH_ready (rs := [7]) (by kernel_rfl) (by simp) ?_
                refine AllReadyH.cons rfl (fun K hK => ?_) AllReadyH.nil
                go_simp
                refine hK.out _ _ ?_ (fun hHeld => ?_)
                · exact hwd ▸ HSA.out
                clear hK K
                (try simp only [Act.put, List.getElem_toArray, List.getElem_cons_zero, List.getElem_cons_succ, List.setIfInBounds_toArray, List.set_cons_zero, List.set_cons_succ])
                refine wpAnyH_ready (rs := [10]) (by kernel_rfl) (by simp) ?_
                refine AllReadyH.cons rfl (fun K hK => ?_) AllReadyH.nil
                refine step_append_row _ rfl _ _ 43 rfl 42 i2 _ 3 24 Tryz.underlying43 hi2 hw0 hw1 hw2 rfl (by decide) r.A rn r.c (r.ops.flatMap Op.cells) rfl (by rw [← hwd]; exact HRW.out) (some ⟨w9.heap.size, 0, none⟩) 1 1 [.int .i64 what, .int .i64 oa, .int .i64 ob] rfl (by rw [← hwd]; exact HSD.out) (by intro u hu; simp at hu; rcases hu with rfl | rfl | rfl <;> rfl) (by unfold maxLen; omega) (by omega) ?_
                intro A' c' w4 hr4 hk4 hn4
                have hk4 := hwd ▸ hk4
                have hn4 := hwd ▸ hn4
                obtain ⟨d0, d1, dc, m9, d2, d3, d4⟩ := FIN.out _ _ _ hr4 hk4 hn4
                have HS4 := hid (HSW.out w4 hk4)
                have HSS4 := hid (fun v => HSS.out w4 v hk4)
                have HM9 := hid d2
                have HR9 := hid d3
                have HK9 := hid d4
                clear hr4 hk4 hn4 d2 d3 d4
                refine hK.out _ _ ?_ (fun hHeld => ?_)
                · exact HS4.out
                clear hK K
                (try simp only [Act.put, List.getElem_toArray, List.getElem_cons_zero, List.getElem_cons_succ, List.setIfInBounds_toArray, List.set_cons_zero, List.set_cons_succ])
                refine wpAnyH_take (i := 11) (v := ?v39) rfl (by kernel_rfl) (by kernel_rfl) (by kernel_rfl) (fun _ _ _ h => h) (Or.inl ⟨by rfl, ?hy39⟩) (by assumption) ?rest39
                case hy39 => (intro w hSw; (try dsimp only at hSw); (try simp only [List.getElem_toArray, List.getElem_cons_zero, List.getElem_cons_succ]); go_simp; (try with_reducible rfl))
                (try simp only [Act.put, List.getElem_toArray, List.getElem_cons_zero, List.getElem_cons_succ, List.setIfInBounds_toArray, List.set_cons_zero, List.set_cons_succ])
                refine wpAnyH_ready (rs := [12]) (by kernel_rfl) (by simp) ?_
                refine AllReadyH.cons rfl (fun K hK => ?_) AllReadyH.nil
                go_simp
                refine hK.out _ _ ?_ (fun hHeld => ?_)
                · exact HSS4.out _
                clear hK K
                (try simp only [Act.put, List.getElem_toArray, List.getElem_cons_zero, List.getElem_cons_succ, List.setIfInBounds_toArray, List.set_cons_zero, List.set_cons_succ])
                refine wpAnyH_done (by kernel_rfl) ?_ _
                go_wp2_with fail
                go_roundw
                case rel => exact ⟨i + 1, m9, by omega, by omega, by go_num, HM9.out, HR9.out, HK9.out⟩
                case measure => simp [intOf]; omega
        · obtain rfl : i = n := by omega
          have hdone := rl_done (P := P) (by have h := HRL.out; rw [HN.out] at h; exact h) HJ.out HNO.out
          have HDT := hid hdone.1
          have HDW := hid hdone.2
          have hblk := HRPR.out.blk
          unfold rpCells at hblk
          have x0 := blk_cell hblk 0
          have x1 := blk_cell hblk 1
          have x2 := blk_cell hblk 2
          have x3 := blk_cell hblk 3
          have hlx := blk_lt hblk
          simp at x0 x1 x2 x3
          have hpl := rplan_any wr m (rp_plan HRPR.out hdone.2)
          unfold TellV at hpl
          have HPLN := hid hpl
          obtain ⟨E, hE⟩ : ∃ E, E = planChk m.pl := ⟨_, rfl⟩
          rw [← hE] at HPLN
          have HE := hid hE
          obtain ⟨nr, hnr⟩ : ∃ nr, m.ros.length = nr := ⟨_, rfl⟩
          obtain ⟨ns, hns⟩ : ∃ ns, m.spans.length = ns := ⟨_, rfl⟩
          obtain ⟨nw, hnw⟩ : ∃ nw, m.wires.length = nw := ⟨_, rfl⟩
          rw [hnr] at x0 HPLN
          rw [hns] at x2 HPLN
          rw [hnw] at x3 HPLN
          have HNR := hid hnr
          have HNS := hid hns
          have HNW := hid hnw
          clear hdone hblk hpl hE hnr hns hnw
          go_wp2_with fail
          refine HPLN.out.mono ?_
          rintro e w8 ⟨rfl, hb8⟩
          have HB8 := hid (HB.out.trans (hb8.mono HB.out.size))
          have HRP8 := hid (HRPR.out.new hb8)
          have hblk := HRP8.out.blk
          unfold rpCells at hblk
          have z0 := blk_cell hblk 0
          have z1 := blk_cell hblk 1
          have z2 := blk_cell hblk 2
          have z3 := blk_cell hblk 3
          have hlz := blk_lt hblk
          simp at z0 z1 z2 z3
          rw [HNR.out] at z0
          rw [HNS.out] at z2
          rw [HNW.out] at z3
          have hx8 := (HOLD.out w8 HB8.out).1
          have y0 := blk_cell hx8 0
          have y1 := blk_cell hx8 1
          have y2 := blk_cell hx8 2
          have y3 := blk_cell hx8 3
          have yf := fun o => blk_free hx8 o
          have hly := blk_lt hx8
          simp at y0 y1 y2 y3
          have hne : pb ≠ w.heap.size := by have := HLR.out; have := HPB.out; omega
          clear hb8 hblk hx8 x0 x1 x2 x3 hlx HPLN
          by_cases he : E = 0
          · subst he
            go_wp2_with fail
            refine rplan_ret (v := .int .i64 0) (w' := rputPl w8 w.heap.size (.slice m.A nr m.c) (.int .i64 m.ticks) (.slice m.sA ns m.sc) (.slice m.wA nw m.wc)) (rputPl_at (HOLD.out w8 HB8.out).1) rfl rfl rfl ⟨rputPl_below (HOLD.out w8 HB8.out).2 (Nat.le_refl _), .inl ⟨m, HDW.out, HDT.out, HE.out.symm, by rw [HNR.out, HNS.out, HNW.out], ?_⟩⟩
            refine (rp_plan HRP8.out HDW.out).keep (by unfold rputPl; simp only [sz_set]; exact Nat.le_refl _) fun j _ hj => rputPl_far ?_
            have h1 := HLR.out
            have h2 := HPB.out
            have h3 : pb + 1 ≤ j := by
              rcases hj with ⟨_, hj⟩ | ⟨r, hr, _, hj⟩ | ⟨_, hj⟩ | ⟨_, hj⟩
              · exact HRP8.out.fresh j (.inl hj)
              · exact HRP8.out.freshC r hr j hj
              · exact HRP8.out.fresh j (.inr (.inl hj))
              · exact HRP8.out.fresh j (.inr (.inr hj))
            omega
          · have hne2 : (E != 0) = true := by simpa using he
            go_wp2_with fail
            refine rplan_none (HOLD.out w8 HB8.out).1 (HOLD.out w8 HB8.out).2 ?_ ?_ ?_ (.inl ⟨m.pl, HDW.out, HDT.out, by rw [← HE.out]; exact he, by rw [← HE.out]⟩) <;> rfl
end Go.Proofs.YtldllmhgofacbaaGreatDoor

/- The reference (package frameref1): the contract of PlanText, for every plan that is right. Conditions: none. -/
namespace Go.Proofs.YtldllmhgofacbaaGreatDoor
open Go.RowKit
set_option maxRecDepth 100000

theorem nl_size : (⟨#[10]⟩ : ByteArray).size = 1 := rfl
theorem nl_data : (⟨#[10]⟩ : ByteArray).data.toList = [10] := rfl
theorem txt_le {L : PLine} (h : L.Wf) : L.txt.length ≤ 119 := by
  have := plineText_le h
  unfold plineText at this
  rw [List.length_append] at this
  simp at this
  omega
set_option maxHeartbeats 8000000 in
theorem rplantext_any (m : PM) (w : World) (hm : PlanAt w m) (he : planChk m.pl = 0) :
    Calls Tryz.prog 15 #[.agg #[.slice m.A m.ros.length m.c, .int .i64 m.ticks, .slice m.sA m.spans.length m.sc, .slice m.wA m.wires.length m.wc]] w fun e w' => ∃ T : ByteArray, e = .returned (.string T) ∧ T.data.toList = planText m.pl ∧ Below w.heap.size w w' := by
  obtain ⟨w1, hw1⟩ : ∃ w1, w1 = w.alloc (.cells #[.slice m.A m.ros.length m.c, .int .i64 m.ticks, .slice m.sA m.spans.length m.sc, .slice m.wA m.wires.length m.wc] 26) := ⟨_, rfl⟩
  have hb1 : Below w.heap.size w w1 := by rw [hw1]; exact (Below.refl _ _).alloc (Nat.le_refl _) _
  have hbox : w1.heap[w.heap.size]? = some (.cells #[.slice m.A m.ros.length m.c, .int .i64 m.ticks, .slice m.sA m.spans.length m.sc, .slice m.wA m.wires.length m.wc] 26 (0, 0)) := by rw [hw1]; exact heap_alloc_new w _
  have HROW : Hid (∀ (w' : World) (A : Option Addr) (c n : Nat) (word : ByteArray) (L : PLine), L.Wf → word.data.toList = L.word → L.nums.length = n → Sl w' A 1 n (ints L.nums) → Calls Tryz.prog 71 #[.string word, .slice A n c] w' fun e w'' => ∃ T : ByteArray, e = .returned (.string T) ∧ T.data.toList = L.txt ∧ Below w'.heap.size w' w'') := hid fun w' A c n word L hL hw hln hs => by
    have h10 : (10 : Int) ^ 4 = 10000 := by decide
    subst hln
    have hl4 : L.nums.length ≤ 4 := by
      cases L with
      | op o => have := fields_few o; simp only [PLine.nums]; omega
      | _ => simp [PLine.nums]
    have hw5 : L.word.length ≤ 5 := by
      cases L with
      | op o => have := name_len o.what.toNat; simp only [PLine.word]; omega
      | _ => simp [PLine.word]
    have h := rrow_any word A c L.nums w' hs (fun n hn => by have := hL.1 n hn; omega) (by rw [Lib.size_eq, hw]; omega) (by omega)
    rw [hw] at h
    exact h
  have hok := planChk_ok he
  have HCT0 : Hid (∀ w' r, Below w1.heap.size w1 w' → r ∈ m.ros → Calls Tryz.prog 31 #[.slice r.A r.ops.length r.c] w' fun e w'' => ∃ T : ByteArray, e = .returned (.string T) ∧ T.data.toList = codeText r.ops ∧ Below w'.heap.size w' w'') := hid fun w' r hb hr => by
    have hbw := hb1.trans (hb.mono hb1.size)
    have hra := (hm.new hbw).codes r hr
    have hc : (codeChk r.ops).2 = 0 := hok.codes r.ops (by simp only [PM.pl]; exact List.mem_map_of_mem hr)
    exact rcodetext_any r.A r.c r.ops w' (wf_ok hc) hra.1 (codeChk_ok hc).2.1
  have HSP := hid (fun (w' : World) (hb : Below w1.heap.size w1 w') => (hm.new (hb1.trans (hb.mono hb1.size))).spans)
  have HWI := hid (fun (w' : World) (hb : Below w1.heap.size w1 w') => (hm.new (hb1.trans (hb.mono hb1.size))).wires)
  have HRO := hid (fun (w' : World) (hb : Below w1.heap.size w1 w') => (hm.new (hb1.trans (hb.mono hb1.size))).rows)
  have HB1 := hid hb1
  have HB := hid (Below.refl w1.heap.size w1)
  have HBX : Hid (∀ w', Below w1.heap.size w1 w' → w'.heap[w.heap.size]? = some (.cells #[.slice m.A m.ros.length m.c, .int .i64 m.ticks, .slice m.sA m.spans.length m.sc, .slice m.wA m.wires.length m.wc] 26 (0, 0))) := hid fun w' hb => (hb.block _ (blk_lt hbox)).trans hbox
  have HTXT : Hid (planText m.pl = plineText (.frame m.ticks) ++ (plinesT (m.spans.map PLine.span) ++ (plinesT (m.wires.map PLine.wire) ++ plinesT (codeLines (m.ros.map Ro.ops))))) := hid (by
    show plinesT (linesP m.pl) = _
    unfold linesP
    rw [← List.singleton_append, plinesT_app, plinesT_app, plinesT_app, plinesT_one]; rfl)
  have x1 := blk_cell hbox 1
  have hlx := blk_lt hbox
  simp at x1
  have hsm := planSmall he
  have hwf := wfpl_ok hok
  have HWF0 : Hid ((PLine.frame m.ticks).Wf) := hid (hwf _ (by unfold linesP; simp [PM.pl]))
  have HWFS : Hid (∀ s ∈ m.spans, (PLine.span s).Wf) := hid fun s hs => hwf _ (by unfold linesP; simp only [List.mem_cons, List.mem_append]; exact .inr (.inl (List.mem_map_of_mem hs)))
  have HWFW : Hid (∀ x ∈ m.wires, (PLine.wire x).Wf) := hid fun x hx => hwf _ (by unfold linesP; simp only [List.mem_cons, List.mem_append]; exact .inr (.inr (.inl (List.mem_map_of_mem hx))))
  have HWFC : Hid (∀ r ∈ m.ros, (codeChk r.ops).2 = 0) := hid fun r hr => hok.codes r.ops (by simp only [PM.pl]; exact List.mem_map_of_mem hr)
  have hr5' := hsm.ros
  have hs12' := hsm.spans
  have hw12' := hsm.wires
  obtain ⟨nr, hnr⟩ : ∃ nr, m.ros.length = nr := ⟨_, rfl⟩
  obtain ⟨ns, hns⟩ : ∃ ns, m.spans.length = ns := ⟨_, rfl⟩
  obtain ⟨nw, hnw⟩ : ∃ nw, m.wires.length = nw := ⟨_, rfl⟩
  rw [hnr] at hw1 HBX HRO hr5' ⊢
  rw [hns] at hw1 HBX HSP hs12' ⊢
  rw [hnw] at hw1 HBX HWI hw12' ⊢
  have HNR := hid hnr
  have HNS := hid hns
  have HNW := hid hnw
  have hnl := nl_size
  clear hm hb1 hbox hnr hns hnw he hok hsm hwf
  go_enter Tryz.func15, Tryz.ntmps15
  go_upto_region 1 with fail
  rw [← hw1]
  clear hw1
  go_upto_region 2 with (go_at_call 71; refine (HROW.out _ _ 1 1 _ (.frame m.ticks) HWF0.out rfl rfl (one_sl w1 _ _)).mono ?_; rintro e w3 ⟨T0, rfl, hT0, hb3⟩; replace HB := hid ((HB.out.alloc HB.out.size _).trans (hb3.mono (by simp))); have HT0 := hid hT0; have hT0s : T0.size ≤ 119 := (by rw [Lib.size_eq, hT0]; exact txt_le HWF0.out); clear hb3 hT0 x1 hlx)
  obtain ⟨F0, hF0⟩ : ∃ F0, F0 = plineText (.frame m.ticks) := ⟨_, rfl⟩
  have hTF : (T0 ++ ⟨#[10]⟩).data.toList = F0 := by rw [ByteArray.data_append, Array.toList_append, HT0.out, nl_data, hF0]; rfl
  have HTF := hid hTF
  rw [← hF0] at HTXT
  have hbx := HBX.out w3 HB.out
  have x2 := blk_cell hbx 2
  have hlx := blk_lt hbx
  simp at x2
  clear hbx hF0 hTF HT0
  go_upto_block 0 with fail
  go_cut [3, 4] (fun v3 _ wx => ∃ S : ByteArray, v3 = .string S ∧ S.data.toList = F0 ++ plinesT (m.spans.map PLine.span) ∧ S.size ≤ 120 + 120 * ns ∧ Below w1.heap.size w1 wx)
  case first =>
    as_aux_lemma =>
    go_wp2_with fail
    go_loopw [3, 4] (fun v3 v4 wr => ∃ (i : Nat) (S : ByteArray), i ≤ ns ∧ v3 = .string S ∧ v4 = .int .i64 i ∧ S.data.toList = F0 ++ plinesT ((m.spans.take i).map PLine.span) ∧ S.size ≤ 120 + 120 * i ∧ Below w1.heap.size w1 wr) (fun _ v4 _ => ns - (intOf v4).toNat)
    case atStart => exact ⟨0, _, by omega, rfl, rfl, by rw [HTF.out]; simp [plinesT], by rw [ByteArray.size_append]; omega, HB.out⟩
    case round =>
      obtain ⟨i, S, hi, rfl, rfl, hsd, hsz, hb⟩ := hrel
      have HSD := hid hsd
      have HBR := hid hb
      have hbx := HBX.out wr HBR.out
      have y2 := blk_cell hbx 2
      have hly := blk_lt hbx
      simp at y2
      clear hsd hb x2 hlx hbx
      by_cases hin : i < ns
      · have hil : i < m.spans.length := by rw [HNS.out]; exact hin
        obtain ⟨b, off, hA, hlb, g0, g1, g2⟩ := (HSP.out wr HBR.out).span (Below.refl _ _) hil hin
        have hget := List.getElem?_eq_getElem hil
        have hmem := List.getElem_mem hil
        generalize m.spans[i] = x at g0 g1 g2 hget hmem
        have HNX := hid (spans_next hget)
        have HWX := hid (HWFS.out x hmem)
        have HLE := hid (txt_le HWX.out)
        obtain ⟨z0, z1, z2⟩ := x
        simp only [] at g0 g1 g2
        rw [hA] at y2; clear hA
        clear hget hmem
        go_upto_region 6 with fail
        obtain ⟨wq, hwq⟩ : ∃ wq, wq = wr.alloc (.cells #[.int .i64 z0, .int .i64 z1, .int .i64 z2] 115) := ⟨_, rfl⟩
        have hbq : Below w1.heap.size w1 wq := by rw [hwq]; exact HBR.out.alloc HBR.out.size _
        have hblk : wq.heap[wr.heap.size]? = some (.cells #[.int .i64 z0, .int .i64 z1, .int .i64 z2] 115 (0, 0)) := by rw [hwq]; exact heap_alloc_new wr _
        rw [← hwq]
        have q0 := blk_cell hblk 0
        have q1 := blk_cell hblk 1
        have q2 := blk_cell hblk 2
        have hlq := blk_lt hblk
        simp at q0 q1 q2
        have HBQ := hid hbq
        clear hwq hbq hblk g0 g1 g2 y2 hly
        go_wp2_with (go_at_call 71; refine (HROW.out _ _ 3 3 _ (.span ⟨z0, z1, z2⟩) HWX.out rfl rfl (sl_blk (heap_alloc_new wq _) 1 3 _ rfl rfl)).mono ?_; rintro e w5 ⟨TL, rfl, hTL, hb5⟩; have HB5 := hid ((HBQ.out.alloc HBQ.out.size _).trans (hb5.mono (by have := HBQ.out.size; simp; omega))); have HTL := hid hTL; have hTLs : TL.size ≤ 119 := (by rw [Lib.size_eq, hTL]; exact HLE.out); clear hb5 hTL q0 q1 q2 hlq)
        go_roundw
        case rel =>
          refine ⟨i + 1, _, by omega, rfl, by go_num, ?_, by rw [ByteArray.size_append, ByteArray.size_append]; omega, HB5.out⟩
          rw [ByteArray.data_append, ByteArray.data_append, Array.toList_append, Array.toList_append, HSD.out, HTL.out, HNX.out, nl_data]
          unfold plineText
          simp only [List.append_assoc]
        case measure => simp [intOf]; omega
      · obtain rfl : i = ns := by omega
        go_wp2_with fail
        go_meet
        refine ⟨S, rfl, ?_, hsz, HBR.out⟩
        rw [HSD.out, ← HNS.out, List.take_length]
  case rest =>
    as_aux_lemma =>
    obtain ⟨S1, rfl, hs1, hz1, hbc⟩ := hcut
    obtain ⟨wa, rfl⟩ : ∃ wa : World, wa = wc := ⟨_, rfl⟩
    have HS1 := hid hs1
    replace HB := hid hbc
    have hbx := HBX.out wa HB.out
    have x3 := blk_cell hbx 3
    have hlx3 := blk_lt hbx
    simp at x3
    clear hs1 hbc hbx x2 hlx HTF
    obtain ⟨G, hG⟩ : ∃ G, G = F0 ++ plinesT (m.spans.map PLine.span) := ⟨_, rfl⟩
    rw [← hG] at HS1
    have HG := hid hG
    clear hG
    go_upto_block 2 with fail
    go_cut [3, 6] (fun v3 _ wx => ∃ S : ByteArray, v3 = .string S ∧ S.data.toList = G ++ plinesT (m.wires.map PLine.wire) ∧ S.size ≤ 2000 + 120 * nw ∧ Below w1.heap.size w1 wx)
    case first =>
      as_aux_lemma =>
      go_wp2_with fail
      go_loopw [3, 6] (fun v3 v6 wr => ∃ (i : Nat) (S : ByteArray), i ≤ nw ∧ v3 = .string S ∧ v6 = .int .i64 i ∧ S.data.toList = G ++ plinesT ((m.wires.take i).map PLine.wire) ∧ S.size ≤ 2000 + 120 * i ∧ Below w1.heap.size w1 wr) (fun _ v6 _ => nw - (intOf v6).toNat)
      case atStart => exact ⟨0, S1, by omega, rfl, rfl, by rw [HS1.out]; simp [plinesT], by omega, HB.out⟩
      case round =>
        obtain ⟨i, S, hi, rfl, rfl, hsd, hsz, hb⟩ := hrel
        have HSD := hid hsd
        have HBR := hid hb
        have hbx := HBX.out wr HBR.out
        have y3 := blk_cell hbx 3
        have hly := blk_lt hbx
        simp at y3
        clear hsd hb x3 hlx3 hbx
        by_cases hin : i < nw
        · have hil : i < m.wires.length := by rw [HNW.out]; exact hin
          obtain ⟨b, off, hA, hlb, g0, g1, g2, g3⟩ := (HWI.out wr HBR.out).wire (Below.refl _ _) hil hin
          have hget := List.getElem?_eq_getElem hil
          have hmem := List.getElem_mem hil
          generalize m.wires[i] = x at g0 g1 g2 g3 hget hmem
          have HNX := hid (wires_next hget)
          have HWX := hid (HWFW.out x hmem)
          have HLE := hid (txt_le HWX.out)
          obtain ⟨z0, z1, z2, z3⟩ := x
          simp only [] at g0 g1 g2 g3
          rw [hA] at y3; clear hA
          clear hget hmem
          go_upto_region 11 with fail
          obtain ⟨wq, hwq⟩ : ∃ wq, wq = wr.alloc (.cells #[.int .i64 z0, .int .i64 z1, .int .i64 z2, .int .i64 z3] 117) := ⟨_, rfl⟩
          have hbq : Below w1.heap.size w1 wq := by rw [hwq]; exact HBR.out.alloc HBR.out.size _
          have hblk : wq.heap[wr.heap.size]? = some (.cells #[.int .i64 z0, .int .i64 z1, .int .i64 z2, .int .i64 z3] 117 (0, 0)) := by rw [hwq]; exact heap_alloc_new wr _
          rw [← hwq]
          have q0 := blk_cell hblk 0
          have q1 := blk_cell hblk 1
          have q2 := blk_cell hblk 2
          have q3 := blk_cell hblk 3
          have hlq := blk_lt hblk
          simp at q0 q1 q2 q3
          have HBQ := hid hbq
          clear hwq hbq hblk g0 g1 g2 g3 y3 hly
          go_wp2_with (go_at_call 71; refine (HROW.out _ _ 4 4 _ (.wire ⟨z0, z1, z2, z3⟩) HWX.out rfl rfl (sl_blk (heap_alloc_new wq _) 1 4 _ rfl rfl)).mono ?_; rintro e w5 ⟨TL, rfl, hTL, hb5⟩; have HB5 := hid ((HBQ.out.alloc HBQ.out.size _).trans (hb5.mono (by have := HBQ.out.size; simp; omega))); have HTL := hid hTL; have hTLs : TL.size ≤ 119 := (by rw [Lib.size_eq, hTL]; exact HLE.out); clear hb5 hTL q0 q1 q2 q3 hlq)
          go_roundw
          case rel =>
            refine ⟨i + 1, _, by omega, rfl, by go_num, ?_, by rw [ByteArray.size_append, ByteArray.size_append]; omega, HB5.out⟩
            rw [ByteArray.data_append, ByteArray.data_append, Array.toList_append, Array.toList_append, HSD.out, HTL.out, HNX.out, nl_data]
            unfold plineText
            simp only [List.append_assoc]
          case measure => simp [intOf]; omega
        · obtain rfl : i = nw := by omega
          go_wp2_with fail
          go_meet
          refine ⟨S, rfl, ?_, hsz, HBR.out⟩
          rw [HSD.out, ← HNW.out, List.take_length]
    case rest =>
      as_aux_lemma =>
      obtain ⟨S2, rfl, hs2, hz2, hbc⟩ := hcut
      obtain ⟨wb, rfl⟩ : ∃ wb : World, wb = wc := ⟨_, rfl⟩
      have HS2 := hid hs2
      replace HB := hid hbc
      have hbx := HBX.out wb HB.out
      have x0 := blk_cell hbx 0
      have hlx0 := blk_lt hbx
      simp at x0
      clear hs2 hbc hbx x3 hlx3 HS1
      obtain ⟨H2, hH2⟩ : ∃ H2, H2 = G ++ plinesT (m.wires.map PLine.wire) := ⟨_, rfl⟩
      rw [← hH2] at HS2
      have HH2 := hid hH2
      clear hH2
      go_wp2_with fail
      go_loopw [3, 8] (fun v3 v8 wr => ∃ (i : Nat) (S : ByteArray), i ≤ nr ∧ v3 = .string S ∧ v8 = .int .i64 i ∧ S.data.toList = H2 ++ plinesT (codeLines ((m.ros.map Ro.ops).take i)) ∧ S.size ≤ 4000 + 1200 * i ∧ Below w1.heap.size w1 wr) (fun _ v8 _ => nr - (intOf v8).toNat)
      case atStart => exact ⟨0, S2, by omega, rfl, rfl, by rw [HS2.out]; simp [plinesT, codeLines], by omega, HB.out⟩
      case round =>
        obtain ⟨i, S, hi, rfl, rfl, hsd, hsz, hb⟩ := hrel
        have HSD := hid hsd
        have HBR := hid hb
        have hbx := HBX.out wr HBR.out
        have y0 := blk_cell hbx 0
        have hly := blk_lt hbx
        simp at y0
        clear hsd hb x0 hlx0 hbx
        by_cases hin : i < nr
        · have hil : i < m.ros.length := by rw [HNR.out]; exact hin
          have hget := List.getElem?_eq_getElem hil
          have hmem := List.getElem_mem hil
          generalize m.ros[i] = r at hget hmem
          obtain ⟨b, off, hA, hlb, g0⟩ := (HRO.out wr HBR.out).ro (Below.refl _ _) hget hin
          have hnx := codes_next (l := m.ros.map Ro.ops) (i := i) (c := r.ops) (by rw [List.getElem?_map, hget]; rfl)
          have hck := HWFC.out r hmem
          have hcl : (codeText r.ops).length ≤ 980 := by
            have h1 := codeText_len r.ops r.ops.length (codeChk_ok hck).2.2 (by have := (codeChk_ok hck).2.1; omega)
            have := (codeChk_ok hck).2.1
            omega
          have HNX := hid hnx
          have HCD := hid (fun w' hb => HCT0.out w' r hb hmem)
          have HCL := hid hcl
          obtain ⟨nop, hnop⟩ : ∃ nop, nop = r.ops.length := ⟨_, rfl⟩
          rw [← hnop] at g0 HCD
          rw [hA] at y0; clear hA
          have h5 : (⟨#[114, 111, 111, 109, 10]⟩ : ByteArray).size = 5 := rfl
          clear hget hmem hnx hck hcl hnop
          go_wp2_with (go_at_call 31; refine (HCD.out _ HBR.out).mono ?_; rintro e w4 ⟨CT, rfl, hCT, hb4⟩; have HB4 := hid (HBR.out.trans (hb4.mono HBR.out.size)); have HCT := hid hCT; have hCTs : CT.size ≤ 980 := (by rw [Lib.size_eq, hCT]; exact HCL.out); clear hb4 hCT HCD g0)
          go_roundw
          case rel =>
            refine ⟨i + 1, _, by omega, rfl, by go_num, ?_, by rw [ByteArray.size_append, ByteArray.size_append]; omega, HB4.out⟩
            rw [ByteArray.data_append, ByteArray.data_append, Array.toList_append, Array.toList_append, HSD.out, HCT.out, HNX.out]
            rw [List.append_assoc, List.append_assoc]
            rfl
          case measure => simp [intOf]; omega
        · obtain rfl : i = nr := by omega
          have HFIN : Hid (S.data.toList = planText m.pl) := hid (by
            rw [HSD.out, List.take_of_length_le (by rw [List.length_map, HNR.out]; exact Nat.le_refl _), HTXT.out, HH2.out, HG.out]; simp)
          go_wp2_with fail
          go_ret
          exact ⟨S, rfl, HFIN.out, HB1.out.trans (HBR.out.mono HB1.out.size)⟩
end Go.Proofs.YtldllmhgofacbaaGreatDoor
