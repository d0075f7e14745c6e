/- Package plan: the contract of Parse, for every text. Conditions: 'Desk', the table of forms with its names, the table of parts, which the row lists; no text is longer than 2^30 bytes. -/
import Derived.Test.YtldllmhgofacbaaDoorPlanHead
import Derived.Test.YtldllmhgofacbaaDoorPlanRdOp
import Derived.Test.YtldllmhgofacbaaDoorRoundRegion
import Derived.Test.YtldllmhgofacbaaDoorParseW
import Derived.Test.YtldllmhgofacbaaDoorPlanPrintW
import Derived.IntWalk
namespace Go.Proofs.YtldllmhgofacbaaDoor
open Go.RowKit Go.Shelf
set_option maxRecDepth 100000
attribute [local go_sem] Oper.semAt_some

def zeroPl : Array Value := #[.slice none 0 0, .int .i64 0, .slice none 0 0, .slice none 0 0]
/-- What Parse hands back. -/
def PlanParsed (t : ByteArray) (w : World) (e : Ending) (w' : World) : Prop :=
  Below w.heap.size w w' ∧
  ((∃ m : PM, WfPl m.pl ∧ planText m.pl = t.data.toList ∧ planChk m.pl = 0 ∧ e = .returned (.tuple #[.agg #[.slice m.A m.ros.length m.c, .int .i64 m.ticks, .slice m.sA m.spans.length m.sc, .slice m.wA m.wires.length m.wc], .nilIface]) ∧ PlanAt w' m ∧ ∀ j, planF m j → w.heap.size ≤ j) ∨
   (∃ p : Pl, WfPl p ∧ planText p = t.data.toList ∧ planChk p ≠ 0 ∧ e = .returned (.tuple #[.agg zeroPl, errV (planChk p)])) ∨
   ((∀ p : Pl, WfPl p → planText p ≠ t.data.toList) ∧ e = .returned (.tuple #[.agg zeroPl, errV 2])))

theorem RdAt.turned {base b part : Nat} {w w' : World} {m : PM} {bg : Bool} {row : Option Nat} (h : RdAt base w b m part bg) (hg : w.grownBy w' row) (hr : ∀ r, row = some r → ∃ o : Obj, w.heap[r]? = some o ∧ o.isCells = false) : RdAt base w' b m part bg :=
  ⟨(grownBy_keeps_cells hg hr h.blk rfl).trans h.blk, h.rows.turned hg hr, fun r hr' => (h.codes r hr').turned hg hr, h.apart, h.spans.turned hg hr, h.wires.turned hg hr, h.fresh, h.freshC, h.low, Nat.le_trans h.big hg.size⟩
theorem RdAt.cell {base b part t : Nat} {w : World} {m : PM} {bg : Bool} (h : RdAt base w b m part bg) (h1 : t ≠ b) (h2 : t < base) (u : Value) : RdAt base (w.setCell ⟨t, 0, none⟩ u) b m part bg :=
  h.keep (G := fun j => j = t) ((Keep.refl (fun j => j = t) w).setCell (.inl rfl) _) fun j hj => by subst hj; exact ⟨h1, .inl h2⟩

/-- Midway: so many lines are read. -/
structure PPAt (w : World) (pre : List ByteArray) (W : World) : Prop where
  res : W.heap[w.heap.size]? = some (.cells zeroPl 26 (0, 0))
  err : Boxed W (w.heap.size + 1) 28 .nilIface
  ptr : Boxed W (w.heap.size + 1 + 1 + 1) 36 (.pointer (some ⟨w.heap.size + 1 + 1, 0, none⟩))
  out : ∃ (ls : List PLine) (m : PM) (part : Nat) (bg : Bool), (∀ l ∈ ls, l.Wf) ∧ pre.map (fun s => s.data.toList) = ls.map plineText ∧ PS.start.run ls = some ⟨m.pl, part, bg⟩ ∧ RdAt (w.heap.size + 5) W (w.heap.size + 1 + 1) m part bg
  big : w.heap.size + 5 ≤ W.heap.size
  below : Below w.heap.size w W
theorem PPAt.abide (w : World) : Abide (w.heap.size + 5) (w.heap.size + 1 + 1 + 1 + 1) (PPAt w) := by
  refine ⟨fun s W W' row h hg hr => ?_, fun s W u h => ?_⟩
  · have hr2 : ∀ r, row = some r → ∃ o : Obj, W.heap[r]? = some o ∧ o.isCells = false := fun r e => (hr r e).2
    obtain ⟨ls, m, part, bg, h1, h2, h3, h4⟩ := h.out
    exact ⟨(grownBy_keeps_cells hg hr2 h.res rfl).trans h.res, boxed_turned h.err hg hr2, boxed_turned h.ptr hg hr2, ⟨ls, m, part, bg, h1, h2, h3, h4.turned hg hr2⟩, Nat.le_trans h.big hg.size, h.below.grown hg h.below.size (fun k e => by have := (hr k e).1; omega)⟩
  · obtain ⟨ls, m, part, bg, h1, h2, h3, h4⟩ := h.out
    exact ⟨(blk_far (p := ⟨w.heap.size + 1 + 1 + 1 + 1, 0, none⟩) (by simp; omega) u).trans h.res, h.err.other (by omega) _, h.ptr.other (by omega) _, ⟨ls, m, part, bg, h1, h2, h3, h4.cell (by omega) (by omega) u⟩, by rw [sz_set]; exact h.big, h.below.setCell (p := ⟨w.heap.size + 1 + 1 + 1 + 1, 0, none⟩) (by simp; omega) _⟩
/-- It has stopped: a line is no plan's. -/
structure PPStop (t : ByteArray) (w : World) (c : Code) (W : World) : Prop where
  ret : c = .ret
  no : ∀ p : Pl, WfPl p → planText p ≠ t.data.toList
  res : W.heap[w.heap.size]? = some (.cells zeroPl 26 (0, 0))
  err : Boxed W (w.heap.size + 1) 28 (errV 2)
  below : Below w.heap.size w W
theorem PPStop.abide (t : ByteArray) (w : World) (c : Code) : Abide (w.heap.size + 5) (w.heap.size + 1 + 1 + 1 + 1) (fun (_ : List ByteArray) W => PPStop t w c W) := by
  refine ⟨fun s W W' row h hg hr => ?_, fun s W u h => ?_⟩
  · have hr2 : ∀ r, row = some r → ∃ o : Obj, W.heap[r]? = some o ∧ o.isCells = false := fun r e => (hr r e).2
    exact ⟨h.ret, h.no, (grownBy_keeps_cells hg hr2 h.res rfl).trans h.res, boxed_turned h.err hg hr2, h.below.grown hg h.below.size (fun k e => by have := (hr k e).1; omega)⟩
  · exact ⟨h.ret, h.no, (blk_far (p := ⟨w.heap.size + 1 + 1 + 1 + 1, 0, none⟩) (by simp; omega) u).trans h.res, h.err.other (by omega) _, h.below.setCell (p := ⟨w.heap.size + 1 + 1 + 1 + 1, 0, none⟩) (by simp; omega) _⟩

def pparseW (w : World) (t : ByteArray) : World := ((((w.alloc (.cells zeroPl 26)).alloc (.cells #[.nilIface] 28)).alloc (.cells #[.slice none 0 0, .int .i64 0, .slice none 0 0, .slice none 0 0, .int .i64 0, .bool false] 38)).alloc (.cells #[.pointer (some ⟨w.heap.size + 1 + 1, 0, none⟩)] 36)).alloc (.cells #[.string t] 9)
theorem pparse_start {w : World} {t : ByteArray} : PPAt w [] (pparseW w t) := by
  have b0 := heap_alloc_new w (.cells zeroPl 26)
  have b1 := heap_alloc_new (w.alloc (.cells zeroPl 26)) (.cells #[.nilIface] 28)
  have b2 := heap_alloc_new ((w.alloc (.cells zeroPl 26)).alloc (.cells #[.nilIface] 28)) (.cells #[.slice none 0 0, .int .i64 0, .slice none 0 0, .slice none 0 0, .int .i64 0, .bool false] 38)
  have b3 := heap_alloc_new (((w.alloc (.cells zeroPl 26)).alloc (.cells #[.nilIface] 28)).alloc (.cells #[.slice none 0 0, .int .i64 0, .slice none 0 0, .slice none 0 0, .int .i64 0, .bool false] 38)) (.cells #[.pointer (some ⟨w.heap.size + 1 + 1, 0, none⟩)] 36)
  simp only [sz_alloc] at b1 b2 b3
  have up : ∀ {W : World} {k : Nat} {o : Obj} (o2 : Obj), W.heap[k]? = some o → (W.alloc o2).heap[k]? = some o := fun o2 h => (blk_alloc (blk_lt h) o2).trans h
  have hb : Below w.heap.size w (pparseW w t) := ((((((Below.refl _ w).alloc (Nat.le_refl _) _).alloc (by simp) _).alloc (by simp; omega) _).alloc (by simp; omega) _).alloc (by simp; omega) _)
  refine ⟨up _ (up _ (up _ (up _ b0))), up _ (up _ (up _ b1)), up _ b3, ⟨[], ⟨none, 0, [], 0, none, 0, [], none, 0, []⟩, 0, false, (fun l hl => by cases hl), rfl, rfl, ⟨up _ (up _ b2), Row.nil _ _ _, (fun r hr => by cases hr), (fun i r last hi => by simp at hi), Row.nil _ _ _, Row.nil _ _ _, (fun j hj => by simp [InA] at hj), (fun r hr => by cases hr), by omega, by unfold pparseW; simp⟩⟩, by unfold pparseW; simp, hb⟩

theorem codeLines_few : ∀ (c : List (List Op)), c.length ≤ (codeLines c).length ∧ ∀ l ∈ c, l.length ≤ (codeLines c).length
  | [] => ⟨Nat.le_refl _, fun l hl => by cases hl⟩
  | d :: c => by
    obtain ⟨h1, h2⟩ := codeLines_few c
    have e : codeLines (d :: c) = .room :: (d.map PLine.op ++ codeLines c) := by unfold codeLines; rw [List.flatMap_cons]; rfl
    have hl : (codeLines (d :: c)).length = d.length + (codeLines c).length + 1 := by rw [e]; simp
    refine ⟨by rw [List.length_cons, hl]; omega, fun l hx => ?_⟩
    rw [hl]
    rcases List.mem_cons.1 hx with rfl | hx
    · omega
    · have := h2 l hx; omega
theorem psok_few {s : PS} {ls : List PLine} (h : PSOk s ls) : s.p.code.length ≤ ls.length ∧ s.p.spans.length ≤ ls.length ∧ s.p.wires.length ≤ ls.length ∧ ∀ l ∈ s.p.code, l.length ≤ ls.length := by
  cases hb : s.begun with
  | true =>
    have e := h.lines hb
    obtain ⟨h1, h2⟩ := codeLines_few s.p.code
    have hl : ls.length = s.p.spans.length + (s.p.wires.length + (codeLines s.p.code).length) + 1 := by rw [← e]; unfold linesP; simp
    refine ⟨by omega, by omega, by omega, fun l hx => ?_⟩
    have := h2 l hx; omega
  | false =>
    obtain ⟨rfl, hp, _⟩ := h.nob hb
    rw [hp]
    exact ⟨Nat.zero_le _, Nat.zero_le _, Nat.zero_le _, fun l hl => by cases hl⟩
theorem plineText_10 (l : PLine) : (10 : UInt8) ∈ plineText l := by unfold plineText; simp
theorem keepF_from {B : Nat} {F : Nat → Prop} {W W' : World} (hk : Keep F W W') (hc : ∀ j, F j → j < W.heap.size → ∃ o : Obj, W.heap[j]? = some o ∧ o.isCells = true) : KeepsFrom B W W' := by
  refine ⟨hk.size, fun k o _ ho hn => ?_⟩
  by_cases hA : F k
  · obtain ⟨o', h1, h2⟩ := hc k hA (blk_lt ho)
    rw [ho] at h1
    injection h1 with h1
    rw [h1, h2] at hn; cases hn
  · exact (hk.block k (blk_lt ho) hA).trans ho
theorem rd_cells {base b part : Nat} {w : World} {m : PM} {bg : Bool} (h : RdAt base w b m part bg) {j : Nat} (hj : rdF m b j) : ∃ o : Obj, w.heap[j]? = some o ∧ o.isCells = true := by
  rcases hj with rfl | hj | hj | hj
  · exact ⟨_, h.blk, rfl⟩
  · exact h.rows.cellsAt hj
  · exact h.spans.cellsAt hj
  · exact h.wires.cellsAt hj
theorem rd_far {base b part : Nat} {w : World} {m : PM} {bg : Bool} (h : RdAt base w b m part bg) {j : Nat} (hj : rdF m b j) : j = b ∨ base ≤ j := by
  rcases hj with rfl | hj | hj | hj
  · exact .inl rfl
  · exact .inr (h.fresh j (.inl hj))
  · exact .inr (h.fresh j (.inr (.inl hj)))
  · exact .inr (h.fresh j (.inr (.inr hj)))
/-- No plan has this line here. -/
theorem pp_no {t x : ByteArray} {pre : List ByteArray} {ls : List PLine} {S : PS} (hpre : pre ++ [x] <+: linesB t) (hx : x.data.toList ∈ linesOf t.data.toList) (hmap : pre.map (fun s => s.data.toList) = ls.map plineText) (hwf : ∀ l ∈ ls, l.Wf) (hrun : PS.start.run ls = some S) (H : ∀ l : PLine, l.Wf → plineText l = x.data.toList → S.step l = none) : ∀ p : Pl, WfPl p → planText p ≠ t.data.toList := by
  by_cases hl : ∃ l : PLine, l.Wf ∧ plineText l = x.data.toList
  · obtain ⟨l, hw, he⟩ := hl
    obtain ⟨rest, hr⟩ := hpre
    have hlin : linesOf t.data.toList = ls.map plineText ++ plineText l :: rest.map (fun s => s.data.toList) := by
      have h1 : linesOf t.data.toList = (linesB t).map (fun s => s.data.toList) := by unfold linesB; rw [List.map_map]; exact (List.map_id' _).symm
      rw [h1, ← hr, List.map_append, List.map_append, hmap, he]
      simp
    exact fun p hp => plan_stuck hlin hrun hwf hw (H l hw he) p hp
  · exact fun p hp => plan_not hx (fun l hw he => hl ⟨l, hw, he⟩) p hp
def ppStopW (h : Nat) (W : World) : World := ((((W.setCell ⟨h, 0, none⟩ (.slice none 0 0)).setCell ⟨h, 1, none⟩ (.int .i64 0)).setCell ⟨h, 2, none⟩ (.slice none 0 0)).setCell ⟨h, 3, none⟩ (.slice none 0 0)).setCell ⟨h + 1, 0, none⟩ (.iface 44 (.int .i64 2))
theorem pp_left {B T : Nat} {t x : ByteArray} {w W W' : World} {pre : List ByteArray} (hno : ∀ p : Pl, WfPl p → planText p ≠ t.data.toList) (hk : KeepsFrom B W W') (hres : W'.heap[w.heap.size]? = some (.cells zeroPl 26 (0, 0))) (herr : Boxed W' (w.heap.size + 1) 28 .nilIface) (hb : Below w.heap.size w W') (a : Act) :
    RoundLeft B T (PPAt w) (fun c _ W => PPStop t w c W) (pre ++ [x]) W .ret a (ppStopW w.heap.size W') := by
  unfold ppStopW
  have f4 : ((((W'.setCell ⟨w.heap.size, 0, none⟩ (.slice none 0 0)).setCell ⟨w.heap.size, 1, none⟩ (.int .i64 0)).setCell ⟨w.heap.size, 2, none⟩ (.slice none 0 0)).setCell ⟨w.heap.size, 3, none⟩ (.slice none 0 0)).heap[w.heap.size + 1]? = W'.heap[w.heap.size + 1]? :=
    (blk_far (p := ⟨w.heap.size, 3, none⟩) (by simp) _).trans ((blk_far (p := ⟨w.heap.size, 2, none⟩) (by simp) _).trans ((blk_far (p := ⟨w.heap.size, 1, none⟩) (by simp) _).trans (blk_far (p := ⟨w.heap.size, 0, none⟩) (by simp) _)))
  refine ⟨(((((hk.trans (keeps_set _ _)).trans (keeps_set _ _)).trans (keeps_set _ _)).trans (keeps_set _ _)).trans (keeps_set _ _)), ⟨rfl, hno, ?_, ?_, ?_⟩⟩
  · exact (blk_far (p := ⟨w.heap.size + 1, 0, none⟩) (by simp) _).trans (blk_set (blk_set (blk_set (blk_set hres 0 _) 1 _) 2 _) 3 _)
  · exact Boxed.set _ (show Boxed _ (w.heap.size + 1) 28 .nilIface from f4.trans herr)
  · exact ((((hb.setCell (p := ⟨w.heap.size, 0, none⟩) (Nat.le_refl _) _).setCell (p := ⟨w.heap.size, 1, none⟩) (Nat.le_refl _) _).setCell (p := ⟨w.heap.size, 2, none⟩) (Nat.le_refl _) _).setCell (p := ⟨w.heap.size, 3, none⟩) (Nat.le_refl _) _).setCell (p := ⟨w.heap.size + 1, 0, none⟩) (by simp) _
theorem pp_left_new {B T : Nat} {t x : ByteArray} {w W V : World} {pre : List ByteArray} {a : Act} (h : RoundLeft B T (PPAt w) (fun c _ W => PPStop t w c W) (pre ++ [x]) W .ret a V) (obj : Obj) : RoundLeft B T (PPAt w) (fun c _ W => PPStop t w c W) (pre ++ [x]) W .ret a (V.alloc obj) :=
  ⟨h.1.trans (keeps_below ((Below.refl _ _).alloc (Nat.le_refl _) obj)), ⟨rfl, h.2.no, (blk_alloc (blk_lt h.2.res) obj).trans h.2.res, Boxed.alloc h.2.err obj, h.2.below.alloc h.2.below.size obj⟩⟩
theorem pp_next {B : Nat} {Ix : Code → List ByteArray → World → Prop} {w W W' : World} {pre : List ByteArray} {x : ByteArray} {ls : List PLine} {l : PLine} {m m' : PM} {part : Nat} {bg : Bool} {S' : PS} (hI : PPAt w pre W) (hx : plineText l = x.data.toList) (hl : l.Wf) (hwf : ∀ l ∈ ls, l.Wf)
    (hmap : pre.map (fun s => s.data.toList) = ls.map plineText) (hrun : PS.start.run ls = some ⟨m.pl, part, bg⟩) (hst : (PS.mk m.pl part bg).step l = some S') (hm : m'.pl = S'.p) (hrd' : RdAt (w.heap.size + 5) W' (w.heap.size + 1 + 1) m' S'.part S'.begun)
    {F : Nat → Prop} (hk : Keep F W W') (hF : ∀ j, F j → j = w.heap.size + 1 + 1 ∨ w.heap.size + 5 ≤ j) (hc : ∀ j, F j → j < W.heap.size → ∃ o : Obj, W.heap[j]? = some o ∧ o.isCells = true) (a : Act) :
    RoundLeft B (w.heap.size + 1 + 1 + 1 + 1) (PPAt w) Ix (pre ++ [x]) W .normal a W' := by
  have hbig := hI.big
  have bl : ∀ k, k < w.heap.size + 5 → k ≠ w.heap.size + 1 + 1 → W'.heap[k]? = W.heap[k]? := fun k h1 h2 => hk.block k (by omega) fun hj => by rcases hF k hj with e | e <;> omega
  refine ⟨keepF_from hk hc, bl _ (by omega) (by omega), ⟨(bl _ (by omega) (by omega)).trans hI.res, (bl _ (by omega) (by omega)).trans hI.err, (bl _ (by omega) (by omega)).trans hI.ptr, ⟨ls ++ [l], m', S'.part, S'.begun, fun y hy => ?_, ?_, ?_, hrd'⟩, Nat.le_trans hbig hk.size, hI.below.trans (hk.below (by omega) fun j hj => by rcases hF j hj with e | e <;> omega)⟩⟩
  · rcases List.mem_append.1 hy with hy | hy
    · exact hwf y hy
    · rw [List.mem_singleton] at hy; rw [hy]; exact hl
  · rw [List.map_append, List.map_append, hmap, List.map_cons, List.map_nil, List.map_cons, List.map_nil, hx]
  · rw [run_snoc hrun, hst, hm]
theorem fits_small {n : Int} (h : 0 ≤ n ∧ n < 10 ^ 4) : Fits n := by
  have h1 := h.1
  have h2 : n < 10000 := h.2
  unfold Fits; omega
theorem wfop_fits {o : Op} (h : WfOp o) : o.Ok := ⟨by have := h.what; unfold Fits; omega, fits_small h.a, fits_small h.b⟩
theorem rd_fresh {base b part : Nat} {w : World} {m : PM} {bg : Bool} (h : RdAt base w b m part bg) : ∀ j, planF m j → base ≤ j := by
  rintro j (⟨_, hj⟩ | ⟨r, hr, _, hj⟩ | ⟨_, hj⟩ | ⟨_, hj⟩)
  · exact h.fresh j (.inl hj)
  · exact h.freshC r hr j hj
  · exact h.fresh j (.inr (.inl hj))
  · exact h.fresh j (.inr (.inr hj))
theorem rd_plan {base b part : Nat} {w : World} {m : PM} {bg : Bool} (h : RdAt base w b m part bg) (hw : WfPl m.pl) : PlanAt w m := by
  have hop : ∀ r ∈ m.ros, ∀ o ∈ r.ops, o.Ok := fun r hr o ho => by
    have hl : PLine.op o ∈ linesP m.pl := by
      unfold linesP codeLines PM.pl
      simp only [List.mem_cons, List.mem_append, List.mem_flatMap, List.mem_map]
      exact .inr (.inr (.inr ⟨r.ops, ⟨r, hr, rfl⟩, .inr ⟨o, ho, rfl⟩⟩))
    exact wfop_fits (hw _ hl).2
  have hfr : PLine.frame m.ticks ∈ linesP m.pl := by unfold linesP PM.pl; simp
  refine ⟨h.rows.sl, h.rows.slW, fun r hr => ⟨(h.codes r hr).sl, (h.codes r hr).slW, hop r hr⟩, fits_small ((hw _ hfr).1 _ (by simp [PLine.nums])), h.spans.sl, h.spans.slW, fun y hy => ?_, h.wires.sl, h.wires.slW, fun y hy => ?_⟩
  · have hl : PLine.span y ∈ linesP m.pl := by unfold linesP PM.pl; simp [hy]
    have hn := (hw _ hl).1
    exact ⟨fits_small (hn _ (by simp [PLine.nums])), fits_small (hn _ (by simp [PLine.nums])), fits_small (hn _ (by simp [PLine.nums]))⟩
  · have hl : PLine.wire y ∈ linesP m.pl := by unfold linesP PM.pl; simp [hy]
    have hn := (hw _ hl).1
    exact ⟨fits_small (hn _ (by simp [PLine.nums])), fits_small (hn _ (by simp [PLine.nums])), fits_small (hn _ (by simp [PLine.nums])), fits_small (hn _ (by simp [PLine.nums]))⟩
theorem pparse_ret {W9 : World} {D b0 b1 : Nat} {c0 c1 c2 c3 v1 : Value} {a : Act} {T1 : Nat} {R : Ending → World → Prop} (h0 : W9.heap[b0]? = some (.cells #[c0, c1, c2, c3] 26 (0, 0))) (h1 : Boxed W9 b1 T1 v1) (hD0 : b0 ≠ D) (hD1 : b1 ≠ D) (hK : W9.heap[D]? = some (.deferred (some [])))
    (h2 : a.tmps[2]? = some (.pointer (some ⟨b0, 0, none⟩))) (h3 : a.tmps[3]? = some (.pointer (some ⟨b1, 0, none⟩))) (hd : a.defers = [{ target := .collected D, args := #[] }]) (h : R (.returned (.tuple #[.agg #[c0, c1, c2, c3], v1])) (W9.putObj D (.deferred none))) :
    bodyPostM Fence.wide 3 Tryd.prog Tryd.f4 R .ret a W9 := by
  obtain ⟨tmps, defers⟩ := a
  simp only at h2 h3 hd
  subst hd
  refine ⟨by simp, .inl ⟨_, _, rfl, run_takeDeferred hK, ?_⟩⟩
  have k0 := ((grownBy_putObj' W9 D (.deferred none)).block b0 (blk_lt h0) (by simp; omega)).trans h0
  have e0 := blk_cell k0 0
  have e1 := blk_cell k0 1
  have e2 := blk_cell k0 2
  have e3 := blk_cell k0 3
  simp at e0 e1 e2 e3
  have e4 := (h1.kept (grownBy_putObj' W9 D (.deferred none)) (by simp; omega)).cell
  refine ⟨.tuple #[.agg #[c0, c1, c2, c3], v1], ?_, h⟩
  simp [results, Tryd.f4, go_sem, h2, h3, e0, e1, e2, e3, e4]

set_option maxHeartbeats 8000000 in
theorem pparse_any (t : ByteArray) (ht : t.size ≤ 1073741824) (w : World) (hf : Forms w) (hnm : Names w) (hd : Desk w) (hp : Parts w) : Calls Tryd.prog 4 #[.string t] w (PlanParsed t w) := by
  obtain ⟨i0, hi0, hz0, hz1, hz2⟩ := info_parts Tryd.infoOpR
  have HF : Hid (∀ w', Below w.heap.size w w' → Forms w' ∧ Names w' ∧ Desk w' ∧ Parts w') := hid fun w' hb => ⟨hf.new hb, hnm.new hf hb, hd.new hb, hp.new hb⟩
  clear hf hnm hd hp
  refine (callsIn_wide (n := 3)).1 ?_
  refine callsIn_of_wp_marks Tryd.func4 rfl trivial ?_ rfl
  simp only [Tryd.ntmps4, List.size_toArray, List.length_cons, List.length_nil, Nat.reduceAdd, Nat.reduceSub, Array.replicate_succ, Array.replicate_zero, List.push_toArray, List.append_toArray, List.nil_append, List.cons_append]
  gi_wp2_with (refine ⟨trivial, ?_⟩; gi_at_call 8; refine (callsIn_wide.2 (lines_made _ _)).mono ?_; rintro e w2 ⟨rfl, rfl⟩)
  have HR := hid (pparse_start (w := w) (t := t))
  have hT := heap_alloc_new ((((w.alloc (.cells zeroPl 26)).alloc (.cells #[.nilIface] 28)).alloc (.cells #[.slice none 0 0, .int .i64 0, .slice none 0 0, .slice none 0 0, .int .i64 0, .bool false] 38)).alloc (.cells #[.pointer (some ⟨w.heap.size + 1 + 1, 0, none⟩)] 36)) (.cells #[.string t] 9)
  simp only [sz_alloc] at hT
  have HT := hid hT
  have hsz : (pparseW w t).heap.size = w.heap.size + 5 := by unfold pparseW; simp
  refine Eq.mp (congrArg (fun V => Code.wpIn _ _ _ _ _ _ V) (show pparseW w t = _ from rfl)) ?_
  replace HT : Hid ((pparseW w t).heap[w.heap.size + 1 + 1 + 1 + 1]? = some (.cells #[.string t] 9 (0, 0))) := HT
  obtain ⟨W0, hW0⟩ : ∃ W0, pparseW w t = W0 := ⟨_, rfl⟩
  rw [hW0] at HR HT hsz ⊢
  clear hW0 hT
  refine range_cell (α := ByteArray) (all := linesB t) (t := w.heap.size + 1 + 1 + 1 + 1) rfl (by decide) (gf := 23) (lb := #[.pointer (some ⟨w.heap.size + 1 + 1 + 1 + 1, 0, none⟩)]) rfl trivial (enters_of Tryd.func23 (by kernel_rfl) rfl)
    (encs := fun x => #[.string x]) (by omega) (lines_gives _ _ 9 t (by omega) W0 HT.out) (fun _ => rfl)
    (PPAt w) (fun c _ W => PPStop t w c W)
    (by rw [hsz]; exact PPAt.abide w) (fun c => by rw [hsz]; exact PPStop.abide t w c) HR.out
    (fun x => { tmps := #[.string t, undef, .pointer (some ⟨w.heap.size, 0, none⟩), .pointer (some ⟨w.heap.size + 1, 0, none⟩), .pointer (some ⟨w.heap.size + 1 + 1 + 1, 0, none⟩), .string x, undef, undef, undef, undef, undef, undef, .agg #[.slice none 0 0, .int .i64 0, .slice none 0 0, .slice none 0 0, .int .i64 0, .bool false], .pointer (some ⟨w.heap.size + 1 + 1, 0, none⟩), .string t, .func (.func 23) #[] #[.pointer (some ⟨w.heap.size + 1 + 1 + 1 + 1, 0, none⟩)], .string x, undef, undef, undef, undef, undef, undef, undef, undef, undef, undef, undef, undef, undef, undef, undef, undef, undef, undef, undef, undef, undef, undef, undef, undef, undef, undef, undef, undef, undef, undef, undef, undef, undef, undef, undef, undef, undef, undef, undef, undef, undef, undef, undef, undef, undef, undef, undef, undef, undef, undef, undef, undef, undef, undef, undef, undef, undef, undef, undef, undef, undef, undef, undef, undef, undef, undef, undef, undef, undef, undef], defers := [] }) ?assign ?body ?done ?stop
  case assign =>
    intro l x W K hK
    gi_wp2
    exact hK
  case body =>
    rintro l0 pre x W hI hpre
    obtain ⟨y, b, hy1, hy2, hys, hxs, hxm, hcase⟩ := line_cut (t := t) (x := x) (hpre.subset (by simp))
    have HCS : Hid (∀ w', Calls Tryd.prog 9 #[.string x, .string ⟨#[10]⟩] w' fun e w'' => e = .returned (.tuple #[.string y, .bool b]) ∧ w' = w'') := hid (cutsuf_any hy1 hy2 (by omega))
    have hyl : y.size ≤ 1073741824 := by omega
    obtain ⟨ls, m, part, bg, hwf, hmap, hrun, hrd⟩ := hI.out
    have hok := psok_run hrun
    have hlen : ls.length + 1 ≤ 1073741824 := by
      have h2 : pre.length = ls.length := by
        have := congrArg List.length hmap
        rw [List.length_map, List.length_map] at this; exact this
      have h3 := hpre.length_le
      have h4 : (linesB t).length ≤ t.size := by
        unfold linesB; rw [List.length_map, Lib.size_eq]; exact lines_few _
      rw [List.length_append, List.length_singleton] at h3
      omega
    obtain ⟨hf1, hf2, hf3, hf4⟩ := psok_few hok
    have hf1' : m.ros.length ≤ ls.length := by have : m.pl.code.length = m.ros.length := by unfold PM.pl; rw [List.length_map]
                                               rw [← this]; exact hf1
    have HHD := hid (head_any y hyl (HF.out W hI.below).2.2.1 (HF.out W hI.below).2.2.2 hrd hok.p3 (fun h => (hok.nob h).2.2) (by omega) (Nat.le_trans hf2 (by omega)) (Nat.le_trans hf3 (by omega)))
    have HI := hid hI
    have HXM := hid hxm
    have HBIG := hid hI.big
    have q4 : W.cell? ⟨w.heap.size + 1 + 1 + 1, 0, none⟩ = some (.pointer (some ⟨w.heap.size + 1 + 1, 0, none⟩)) := Boxed.cell hI.ptr
    have r2 : W.heap[w.heap.size]? = _ := hI.res
    unfold zeroPl at r2
    have q20 := blk_cell r2 0
    have q21 := blk_cell r2 1
    have q22 := blk_cell r2 2
    have q23 := blk_cell r2 3
    have f2 := fun o => blk_free r2 o
    have q3 : W.cell? ⟨w.heap.size + 1, 0, none⟩ = some .nilIface := Boxed.cell hI.err
    have f3 := fun o => blk_free (show W.heap[w.heap.size + 1]? = _ from hI.err) o
    have hlt := blk_lt r2
    have hlt3 := blk_lt (show W.heap[w.heap.size + 1]? = _ from hI.err)
    simp at q20 q21 q22 q23
    have hne : w.heap.size + 1 ≠ w.heap.size := by omega
    have HWF := hid hwf
    have HMAP := hid hmap
    have HRUN := hid hrun
    have HRD := hid hrd
    have HOK := hid hok
    have HLEN := hid hlen
    have HF1 := hid hf1'
    have HF4 := hid hf4
    clear hI hy1 hy2 hys hxs hxm hwf hmap hrun hrd hok hlen hf1 hf1' hf2 hf3 hf4 r2
    dsimp only
    rcases hcase with ⟨rfl, hxy⟩ | ⟨rfl, hx10⟩
    rotate_left
    · have hstop := pp_no hpre HXM.out HMAP.out HWF.out HRUN.out fun l _ he => absurd (by rw [← he]; exact plineText_10 l) hx10
      have HST := hid hstop
      clear hstop hx10 hpre
      gi_wp2_with (first
        | (refine ⟨trivial, ?_⟩; gi_at_call 9; refine (CallsIn.inRound l0 (callsIn_wide.2 (HCS.out _))).mono ?_; rintro e w2 ⟨rfl, rfl⟩))
      exact pp_left HST.out (keeps_below (Below.refl _ _)) HI.out.res HI.out.err HI.out.below _
    have HXY := hid hxy
    have HPRE := hid hpre
    clear hxy hpre
    gi_wp2_with (first
      | (refine ⟨trivial, ?_⟩; gi_at_call 9; refine (CallsIn.inRound l0 (callsIn_wide.2 (HCS.out _))).mono ?_; rintro e w2 ⟨rfl, rfl⟩))
    refine ⟨trivial, (CallsIn.inRound l0 (callsIn_wide.2 HHD.out)).mono ?_⟩
    rintro e w2 ⟨hk2, hor⟩
    have HFA1 : Hid (∀ j, rdF m (w.heap.size + 1 + 1) j → j = w.heap.size + 1 + 1 ∨ w.heap.size + 5 ≤ j) := hid fun j hj => rd_far HRD.out hj
    rcases hor with ⟨l, S', m', hlw, hlh, hlt', hst, hmp, rfl, hrd2⟩ | ⟨hno, rfl, hrd2⟩
    · have hfin := fun a => pp_next (B := W0.heap.size) (Ix := fun c _ W => PPStop t w c W) (a := a) HI.out (show plineText l = x.data.toList by rw [HXY.out, ← hlt']; rfl) hlw HWF.out HMAP.out HRUN.out hst hmp hrd2 hk2 HFA1.out (fun j hj _ => rd_cells HRD.out hj)
      have HFIN := hid hfin
      clear hfin hk2 hlw hlh hlt' hst hmp hrd2
      gi_wp2
      exact HFIN.out _
    have hb2 : Below w.heap.size w w2 := HI.out.below.trans (hk2.below (by have := HBIG.out; omega) fun j hj => by have := HFA1.out j hj; omega)
    have HREAD := hid (read_any y hyl w2 (HF.out w2 hb2).1 (HF.out w2 hb2).2.1 (HF.out w2 hb2).2.2.1)
    have HNOH := hid hno
    have HK2 := hid hk2
    have HB2 := hid hb2
    have HRD2 := hid hrd2
    have HN1 : Hid (m.ros.length ≤ 1073741824) := hid (Nat.le_trans HF1.out (Nat.le_of_succ_le HLEN.out))
    clear hno hk2 hb2 hrd2 q4 q20 q21 q22 q23 f2 q3 f3 hlt hlt3
    gi_wp2
    refine ⟨trivial, (CallsIn.inRound l0 (callsIn_wide.2 HREAD.out)).mono ?_⟩
    rintro e w3 ⟨hb3, hor⟩
    have HB3 := hid hb3
    have hkw3 : Keep (rdF m (w.heap.size + 1 + 1)) W w3 := HK2.out.then (Keep.of_below (rdF m (w.heap.size + 1 + 1)) hb3) fun _ _ h => h
    have HKW3 := hid hkw3
    have hrd3 := HRD2.out.new hb3
    have bl3 : ∀ k, k < w.heap.size + 5 → k ≠ w.heap.size + 1 + 1 → w3.heap[k]? = W.heap[k]? := fun k h1 h2 => hkw3.block k (by have := HBIG.out; omega) fun hj => by have := HFA1.out k hj; omega
    have r3 : w3.heap[w.heap.size]? = some (.cells zeroPl 26 (0, 0)) := (bl3 _ (by omega) (by omega)).trans HI.out.res
    have e3 : Boxed w3 (w.heap.size + 1) 28 .nilIface := (bl3 _ (by omega) (by omega)).trans HI.out.err
    have p3 : Boxed w3 (w.heap.size + 1 + 1 + 1) 36 (.pointer (some ⟨w.heap.size + 1 + 1, 0, none⟩)) := (bl3 _ (by omega) (by omega)).trans HI.out.ptr
    have hbw3 : Below w.heap.size w w3 := HB2.out.trans (hb3.mono HB2.out.size)
    have hs3 : w.heap.size + 5 ≤ w3.heap.size := Nat.le_trans HBIG.out hkw3.size
    have hblk := hrd3.blk
    unfold rdCells at hblk
    unfold zeroPl at r3
    have u20 := fun obj => (World.cell?_alloc_lt w3 obj ⟨w.heap.size, 0, none⟩ (blk_lt r3)).trans (blk_cell r3 0)
    have u21 := fun obj => (World.cell?_alloc_lt w3 obj ⟨w.heap.size, 1, none⟩ (blk_lt r3)).trans (blk_cell r3 1)
    have u22 := fun obj => (World.cell?_alloc_lt w3 obj ⟨w.heap.size, 2, none⟩ (blk_lt r3)).trans (blk_cell r3 2)
    have u23 := fun obj => (World.cell?_alloc_lt w3 obj ⟨w.heap.size, 3, none⟩ (blk_lt r3)).trans (blk_cell r3 3)
    have uf2 : ∀ obj o, (w3.alloc obj).frozen? ⟨w.heap.size, o, none⟩ = false := fun obj o => blk_free ((blk_alloc (blk_lt r3) obj).trans r3) o
    have u3 : ∀ obj, (w3.alloc obj).cell? ⟨w.heap.size + 1, 0, none⟩ = some .nilIface := fun obj => (e3.alloc obj).cell
    have uf3 : ∀ obj o, (w3.alloc obj).frozen? ⟨w.heap.size + 1, o, none⟩ = false := fun obj o => blk_free ((e3.alloc obj : Boxed _ _ _ _) : _ = _) o
    have u4 : ∀ obj, (w3.alloc obj).cell? ⟨w.heap.size + 1 + 1 + 1, 0, none⟩ = some (.pointer (some ⟨w.heap.size + 1 + 1, 0, none⟩)) := fun obj => (p3.alloc obj).cell
    have u5 : ∀ obj, (w3.alloc obj).cell? ⟨w.heap.size + 1 + 1, 0, none⟩ = some (.slice m.A m.ros.length m.c) := fun obj => (World.cell?_alloc_lt w3 obj ⟨w.heap.size + 1 + 1, 0, none⟩ (blk_lt hblk)).trans (blk_cell hblk 0)
    have ul0 : w.heap.size < w3.heap.size := by omega
    have ul1 : w.heap.size + 1 < w3.heap.size := by omega
    have ul2 : w.heap.size + 1 + 1 < w3.heap.size := by omega
    have ul3 : w.heap.size + 1 + 1 + 1 < w3.heap.size := by omega
    simp at u20 u21 u22 u23
    have q20 := blk_cell r3 0
    have q21 := blk_cell r3 1
    have q22 := blk_cell r3 2
    have q23 := blk_cell r3 3
    simp at q20 q21 q22 q23
    have q3 := e3.cell
    have ff : ∀ {V : World} {o : Nat} {T : Nat} {cs : Array Value} (obj : Obj) (k : Nat), V.heap[k]? = some (.cells cs T (0, 0)) → (V.alloc obj).frozen? ⟨k, o, none⟩ = false := fun obj k h => blk_free ((blk_alloc (blk_lt h) obj).trans h) _
    have g1 : ∀ v obj, ((w3.setCell ⟨w.heap.size, 0, none⟩ v).alloc obj).frozen? ⟨w.heap.size, 1, none⟩ = false := fun v obj => ff obj _ (blk_set r3 0 v)
    have g2 : ∀ v v' obj, (((w3.setCell ⟨w.heap.size, 0, none⟩ v).setCell ⟨w.heap.size, 1, none⟩ v').alloc obj).frozen? ⟨w.heap.size, 2, none⟩ = false := fun v v' obj => ff obj _ (blk_set (blk_set r3 0 v) 1 v')
    have g3 : ∀ v v' v'' obj, ((((w3.setCell ⟨w.heap.size, 0, none⟩ v).setCell ⟨w.heap.size, 1, none⟩ v').setCell ⟨w.heap.size, 2, none⟩ v'').alloc obj).frozen? ⟨w.heap.size, 3, none⟩ = false := fun v v' v'' obj => ff obj _ (blk_set (blk_set (blk_set r3 0 v) 1 v') 2 v'')
    have g4 : ∀ v v' v'' v3 obj, (((((w3.setCell ⟨w.heap.size, 0, none⟩ v).setCell ⟨w.heap.size, 1, none⟩ v').setCell ⟨w.heap.size, 2, none⟩ v'').setCell ⟨w.heap.size, 3, none⟩ v3).alloc obj).frozen? ⟨w.heap.size + 1, 0, none⟩ = false := fun v v' v'' v3 obj => ff obj _ ((blk_far (p := ⟨w.heap.size, 3, none⟩) (by simp) _).trans ((blk_far (p := ⟨w.heap.size, 2, none⟩) (by simp) _).trans ((blk_far (p := ⟨w.heap.size, 1, none⟩) (by simp) _).trans ((blk_far (p := ⟨w.heap.size, 0, none⟩) (by simp) _).trans e3))))
    clear ff
    have HSTOP : Hid ((∀ p : Pl, WfPl p → planText p ≠ t.data.toList) → ∀ (obj : Obj) (a : Act), RoundLeft W0.heap.size (w.heap.size + 1 + 1 + 1 + 1) (PPAt w) (fun c _ W => PPStop t w c W) (pre ++ [x]) W .ret a ((ppStopW w.heap.size w3).alloc obj)) := hid fun hno obj a =>
      pp_left_new (pp_left hno (keepF_from HKW3.out fun j hj _ => rd_cells HRD.out hj) r3 e3 hbw3 a) obj
    have HTXT : Hid (∀ l : PLine, plineText l = x.data.toList → l.txt = y.data.toList) := hid fun l he => List.append_cancel_right (he.trans HXY.out)
    have HS3 := hid hs3
    have HRD3 := hid hrd3
    have HP3 := hid p3
    clear hb3 hkw3 hrd3 bl3 r3 e3 p3 hbw3 hs3 hblk
    obtain ⟨nr, hnr⟩ : ∃ nr, nr = m.ros.length := ⟨_, rfl⟩
    rw [← hnr] at u5 HN1
    rcases hor with ⟨⟨what, oa, ob⟩, ho, hol, rfl⟩ | ⟨hnoo, rfl⟩
    rotate_left
    · have hst := HSTOP.out (pp_no HPRE.out HXM.out HMAP.out HWF.out HRUN.out fun l hw he => by
        cases hh : l.isHead with
        | true => exact HNOH.out l hw hh (HTXT.out l he)
        | false =>
          cases l with
          | op o => exact absurd (HTXT.out _ he) (hnoo o hw.2)
          | _ => cases hh)
      have HST := hid hst
      clear hst hnoo
      gi_wp2
      exact HST.out _ _
    have HO := hid ho
    have HOL := hid hol
    clear ho hol
    rcases List.eq_nil_or_concat m.ros with hros | ⟨init, r, hros⟩
    · obtain rfl : nr = 0 := by rw [hnr, hros]; rfl
      have hst := HSTOP.out (pp_no HPRE.out HXM.out HMAP.out HWF.out HRUN.out fun l hw he => by
        cases hh : l.isHead with
        | true => exact HNOH.out l hw hh (HTXT.out l he)
        | false =>
          cases l with
          | op o => rw [step_op, if_pos (by show m.ros.map Ro.ops = []; rw [hros]; rfl)]
          | _ => cases hh)
      have HST := hid hst
      clear hst hros hnr
      gi_wp2
      exact HST.out _ _
    · rw [List.concat_eq_append] at hros
      obtain ⟨q, hq⟩ : ∃ q, init.length = q := ⟨_, rfl⟩
      obtain rfl : nr = q + 1 := by rw [hnr, hros, ← hq]; simp
      have HQ := hid hq
      have hn1 := HN1.out
      have HNR := hid hnr
      have HROS := hid hros
      obtain ⟨ab, off, hA, hcell, habl, habb⟩ := rd_last HRD3.out hros
      rw [hq] at hcell
      obtain ⟨rn, hrn⟩ : ∃ rn, r.ops.length = rn := ⟨_, rfl⟩
      rw [hrn] at hcell
      have hrm : r ∈ m.ros := by rw [hros]; simp
      have hrowr := HRD3.out.codes r hrm
      have hrn1 : rn ≤ 1073741824 := by
        rw [← hrn]; exact Nat.le_trans (HF4.out r.ops (List.mem_map.2 ⟨r, hrm, rfl⟩)) (Nat.le_of_succ_le HLEN.out)
      rw [hrn] at hrowr
      obtain ⟨wd, hwd⟩ : ∃ wd, wd = ((w3.alloc (.cells #[.int .i64 what, .int .i64 oa, .int .i64 ob] 47)).alloc (.cells #[.int .i64 what, .int .i64 oa, .int .i64 ob] 47)).drew := ⟨_, rfl⟩
      have HRW : Hid (Row wd 47 3 r.A rn r.c (r.ops.flatMap Op.cells)) := hid (by rw [hwd]; exact (hrowr.alloc _).alloc _)
      have HSD : Hid (Sl wd (some ⟨w3.heap.size + 1, 0, none⟩) 3 1 [.int .i64 what, .int .i64 oa, .int .i64 ob]) := hid (by rw [hwd]; exact one_op3 w3 _)
      have hkd : Keep NoF w3 wd := by rw [hwd]; exact (((Keep.refl _ _).alloc _).alloc _).drew
      have hS3 := HS3.out
      have hfrr : ∀ j, InA r.A j → w.heap.size + 5 ≤ j ∧ j < w3.heap.size := fun j hj => ⟨HRD3.out.freshC r hrm j hj, hrowr.lt j hj⟩
      have hop := heap_alloc_new w3 (.cells #[.int .i64 what, .int .i64 oa, .int .i64 ob] 47)
      have hptr := HP3.out
      have hhd := HRD3.out.blk
      unfold rdCells at hhd
      rw [← HNR.out, hA] at hhd
      have hwsz : wd.heap.size = w3.heap.size + 1 + 1 := by rw [hwd]; exact (sz_alloc _ _).trans (by rw [sz_alloc])
      have HS0 : Hid ((w3.alloc (.cells #[.int .i64 what, .int .i64 oa, .int .i64 ob] 47)).cell? ⟨w.heap.size + 1 + 1 + 1, 0, none⟩ = some (.pointer (some ⟨w.heap.size + 1 + 1, 0, none⟩)) ∧ (w3.alloc (.cells #[.int .i64 what, .int .i64 oa, .int .i64 ob] 47)).cell? ⟨w.heap.size + 1 + 1, 0, none⟩ = some (.slice (some ⟨ab, off, none⟩) (q + 1) m.c) ∧ (w3.alloc (.cells #[.int .i64 what, .int .i64 oa, .int .i64 ob] 47)).cell? ⟨w3.heap.size, 0, none⟩ = some (.int .i64 what) ∧ (w3.alloc (.cells #[.int .i64 what, .int .i64 oa, .int .i64 ob] 47)).cell? ⟨w3.heap.size, 1, none⟩ = some (.int .i64 oa) ∧ (w3.alloc (.cells #[.int .i64 what, .int .i64 oa, .int .i64 ob] 47)).cell? ⟨w3.heap.size, 2, none⟩ = some (.int .i64 ob)) :=
        hid ⟨(hptr.alloc _).cell, (World.cell?_alloc_lt w3 _ ⟨w.heap.size + 1 + 1, 0, none⟩ (blk_lt hhd)).trans (blk_cell hhd 0), blk_cell hop 0, blk_cell hop 1, blk_cell hop 2⟩
      have HSK : Hid (∀ w4 : World, (∀ k, k < w3.heap.size + 1 → k < w.heap.size + 5 ∨ k = w3.heap.size → w4.heap[k]? = (w3.alloc (.cells #[.int .i64 what, .int .i64 oa, .int .i64 ob] 47)).heap[k]?) → w4.cell? ⟨w.heap.size + 1 + 1 + 1, 0, none⟩ = some (.pointer (some ⟨w.heap.size + 1 + 1, 0, none⟩)) ∧ w4.cell? ⟨w.heap.size + 1 + 1, 0, none⟩ = some (.slice (some ⟨ab, off, none⟩) (q + 1) m.c) ∧ w4.cell? ⟨w3.heap.size, 0, none⟩ = some (.int .i64 what) ∧ w4.cell? ⟨w3.heap.size, 1, none⟩ = some (.int .i64 oa) ∧ w4.cell? ⟨w3.heap.size, 2, none⟩ = some (.int .i64 ob)) := hid fun w4 hb =>
        ⟨(World.cell?_of_block (hb (w.heap.size + 1 + 1 + 1) (by omega) (.inl (by omega)))).trans HS0.out.1, (World.cell?_of_block (hb (w.heap.size + 1 + 1) (by omega) (.inl (by omega)))).trans HS0.out.2.1, (World.cell?_of_block (hb w3.heap.size (by omega) (.inr rfl))).trans HS0.out.2.2.1, (World.cell?_of_block (hb w3.heap.size (by omega) (.inr rfl))).trans HS0.out.2.2.2.1, (World.cell?_of_block (hb w3.heap.size (by omega) (.inr rfl))).trans HS0.out.2.2.2.2⟩
      have HSA := hid (HSK.out wd fun k hk _ => by rw [hwd]; exact blk_alloc (by rw [sz_alloc]; exact hk) _)
      have HSW : Hid (∀ w4, Keep (InA r.A) wd w4 → w4.cell? ⟨w.heap.size + 1 + 1 + 1, 0, none⟩ = some (.pointer (some ⟨w.heap.size + 1 + 1, 0, none⟩)) ∧ w4.cell? ⟨w.heap.size + 1 + 1, 0, none⟩ = some (.slice (some ⟨ab, off, none⟩) (q + 1) m.c) ∧ w4.cell? ⟨w3.heap.size, 0, none⟩ = some (.int .i64 what) ∧ w4.cell? ⟨w3.heap.size, 1, none⟩ = some (.int .i64 oa) ∧ w4.cell? ⟨w3.heap.size, 2, none⟩ = some (.int .i64 ob)) := hid fun w4 hk4 =>
        HSK.out w4 fun k hk hor => (hk4.block k (by omega) fun hj => by have := hfrr k hj; omega).trans (by rw [hwd]; exact blk_alloc (by rw [sz_alloc]; exact hk) _)
      have HSS : Hid (∀ (w4 : World) (v : Value), (w4.cell? ⟨w.heap.size + 1 + 1 + 1, 0, none⟩ = some (.pointer (some ⟨w.heap.size + 1 + 1, 0, none⟩)) ∧ w4.cell? ⟨w.heap.size + 1 + 1, 0, none⟩ = some (.slice (some ⟨ab, off, none⟩) (q + 1) m.c) ∧ w4.cell? ⟨w3.heap.size, 0, none⟩ = some (.int .i64 what) ∧ w4.cell? ⟨w3.heap.size, 1, none⟩ = some (.int .i64 oa) ∧ w4.cell? ⟨w3.heap.size, 2, none⟩ = some (.int .i64 ob)) → (w4.setCell ⟨ab, off + q, none⟩ v).cell? ⟨w.heap.size + 1 + 1 + 1, 0, none⟩ = some (.pointer (some ⟨w.heap.size + 1 + 1, 0, none⟩)) ∧ (w4.setCell ⟨ab, off + q, none⟩ v).cell? ⟨w.heap.size + 1 + 1, 0, none⟩ = some (.slice (some ⟨ab, off, none⟩) (q + 1) m.c) ∧ (w4.setCell ⟨ab, off + q, none⟩ v).cell? ⟨w3.heap.size, 0, none⟩ = some (.int .i64 what) ∧ (w4.setCell ⟨ab, off + q, none⟩ v).cell? ⟨w3.heap.size, 1, none⟩ = some (.int .i64 oa) ∧ (w4.setCell ⟨ab, off + q, none⟩ v).cell? ⟨w3.heap.size, 2, none⟩ = some (.int .i64 ob)) := hid fun w4 v h => by
        have z : ∀ k o, k ≠ ab → (w4.setCell ⟨ab, off + q, none⟩ v).cell? ⟨k, o, none⟩ = w4.cell? ⟨k, o, none⟩ := fun k o hk => World.cell?_of_block (blk_far (p := ⟨ab, off + q, none⟩) (fun e => hk (by simpa using e)) v)
        exact ⟨(z _ _ (by omega)).trans h.1, (z _ _ (by omega)).trans h.2.1, (z _ _ (by omega)).trans h.2.2.1, (z _ _ (by omega)).trans h.2.2.2.1, (z _ _ (by omega)).trans h.2.2.2.2⟩
      have FIN : Hid (∀ A' c' w4, Row w4 47 3 A' (rn + 1) c' (r.ops.flatMap Op.cells ++ [.int .i64 what, .int .i64 oa, .int .i64 ob]) → Keep (InA r.A) wd w4 → (∀ j, InA A' j → InA r.A j ∨ wd.heap.size ≤ j) →
          w4.frozen? ⟨ab, off + q, none⟩ = false ∧ ab < w4.heap.size ∧ w4.cell? ⟨ab, off + q, none⟩ = some (.slice r.A rn r.c) ∧ ∃ m' : PM, m'.pl = (⟨addOp m.pl.code ⟨what, oa, ob⟩, m.pl.ticks, m.pl.spans, m.pl.wires⟩ : Pl) ∧ RdAt (w.heap.size + 5) (w4.setCell ⟨ab, off + q, none⟩ (.slice A' (rn + 1) c')) (w.heap.size + 1 + 1) m' part bg ∧ Keep (fun j => rdF m (w.heap.size + 1 + 1) j ∨ InA r.A j) W (w4.setCell ⟨ab, off + q, none⟩ (.slice A' (rn + 1) c'))) := hid fun A' c' w4 hr4 hk4 hn4 => by
        obtain ⟨y1, y2, y3, m', y4, y5, y6⟩ := rd_op (o := ⟨what, oa, ob⟩) HRD3.out hkd hros hrn hr4 hk4 hn4 hA
        rw [hq] at y1 y3 y5 y6
        exact ⟨y1, y2, y3, m', y4, y5, (HKW3.out.mono (G := fun j => rdF m (w.heap.size + 1 + 1) j ∨ InA r.A j) fun j _ hj => .inl hj).then y6 fun _ _ hj => hj⟩
      have HST : Hid ((PS.mk m.pl part bg).step (.op ⟨what, oa, ob⟩) = some ⟨⟨addOp m.pl.code ⟨what, oa, ob⟩, m.pl.ticks, m.pl.spans, m.pl.wires⟩, part, bg⟩) := hid ((step_op _ _).trans (if_neg (show ¬ m.ros.map Ro.ops = [] by rw [hros]; simp)))
      have HPX : Hid (plineText (.op ⟨what, oa, ob⟩) = x.data.toList) := hid (by rw [HXY.out, ← HOL.out]; rfl)
      have HPW : Hid (PLine.Wf (.op ⟨what, oa, ob⟩)) := hid ⟨(op_wf HO.out).2.2, HO.out⟩
      have HFA : Hid (∀ j, (rdF m (w.heap.size + 1 + 1) j ∨ InA r.A j) → j = w.heap.size + 1 + 1 ∨ w.heap.size + 5 ≤ j) := hid fun j hj => hj.elim (HFA1.out j) fun hj => .inr (hfrr j hj).1
      have HCE : Hid (∀ j, (rdF m (w.heap.size + 1 + 1) j ∨ InA r.A j) → j < W.heap.size → ∃ o : Obj, W.heap[j]? = some o ∧ o.isCells = true) := hid fun j hj _ => hj.elim (fun hj => rd_cells HRD.out hj) fun hj => (HRD.out.codes r hrm).cellsAt hj
      have c0 : ∀ o, (w3.alloc o).cell? ⟨ab, off + q, none⟩ = some (.slice r.A rn r.c) := fun o => (World.cell?_alloc_lt w3 o ⟨ab, off + q, none⟩ habl).trans hcell
      have c1 : ∀ o o', ((w3.alloc o).alloc o').cell? ⟨ab, off + q, none⟩ = some (.slice r.A rn r.c) := fun o o' => (World.cell?_alloc_lt (w3.alloc o) o' ⟨ab, off + q, none⟩ (by rw [sz_alloc]; exact Nat.lt_succ_of_lt habl)).trans (c0 o)
      rw [hA] at u5
      try rw [hA]
      have HHW := hid hkd
      have HRN := hid hrn
      clear hkd hrn hA hrm hrowr hS3 hfrr hop hptr hhd hwsz hcell habb hq hnr hros u20 u21 u22 u23 q20 q21 q22 q23 g1 g2 g3 g4 uf2 u3 uf3 q3 hne HSTOP
      have hw64 : wrap64 (q : Int) = (q : Int) := IntWalk.wrap64_in _ ⟨Int.le_trans (by decide) (Int.natCast_nonneg q), Int.le_trans (Int.ofNat_le.2 (Nat.le_of_succ_le hn1)) (by decide)⟩
      have hqq : (q : Int) < (q : Int) + 1 := Int.lt_add_one_iff.2 (Int.le_refl _)
      have hneg : ¬ ((q : Int) < 0) := Int.not_lt.2 (Int.natCast_nonneg q)
      gi_wp2
      refine wpIn_round_held (S := (fun w' => w'.cell? ⟨w.heap.size + 1 + 1 + 1, 0, none⟩ = some (.pointer (some ⟨w.heap.size + 1 + 1, 0, none⟩)) ∧ w'.cell? ⟨w.heap.size + 1 + 1, 0, none⟩ = some (.slice (some ⟨ab, off, none⟩) (q + 1 : Nat) m.c) ∧ w'.cell? ⟨w3.heap.size, 0, none⟩ = some (.int .i64 what) ∧ w'.cell? ⟨w3.heap.size, 1, none⟩ = some (.int .i64 oa) ∧ w'.cell? ⟨w3.heap.size, 2, none⟩ = some (.int .i64 ob))) (by kernel_rfl) (by kernel_rfl) ?_ (fun hHeld => ?_)
      · exact HS0.out
      refine wpAnyH_take (i := 0) (v := ?v1) rfl (by kernel_rfl) (by kernel_rfl) (by kernel_rfl) (fun _ _ _ h => h) (Or.inl ⟨by rfl, ?hy1⟩) (by assumption) ?rest1
      case hy1 => (intro w hSw; (try dsimp only at hSw); (try simp only [List.getElem_toArray, List.getElem_cons_zero]); go_simp; (try with_reducible rfl))
      (try simp only [Act.put, List.getElem_toArray, List.getElem_cons_zero, List.setIfInBounds_toArray, List.set_cons_zero, List.set_cons_succ])
      refine wpAnyH_take (i := 1) (v := ?v2) rfl (by kernel_rfl) (by kernel_rfl) (by kernel_rfl) (fun _ _ _ h => h) (Or.inl ⟨by rfl, ?hy2⟩) (by assumption) ?rest2
      case hy2 => (intro w hSw; (try dsimp only at hSw); (try simp only [List.getElem_toArray, List.getElem_cons_zero, List.getElem_cons_succ]); go_simp; (try with_reducible rfl))
      (try simp only [Act.put, List.getElem_toArray, List.getElem_cons_zero, List.getElem_cons_succ, List.setIfInBounds_toArray, List.set_cons_zero, List.set_cons_succ])
      refine wpAnyH_take (i := 2) (v := ?v3) rfl (by kernel_rfl) (by kernel_rfl) (by kernel_rfl) (fun _ _ _ h => h) (Or.inl ⟨by rfl, ?hy3⟩) (by assumption) ?rest3
      case hy3 => (intro w hSw; (try dsimp only at hSw); (try simp only [List.getElem_toArray, List.getElem_cons_zero, List.getElem_cons_succ]); go_simp; (try with_reducible rfl))
      (try simp only [Act.put, List.getElem_toArray, List.getElem_cons_zero, List.getElem_cons_succ, List.setIfInBounds_toArray, List.set_cons_zero, List.set_cons_succ])
      refine wpAnyH_take (i := 3) (v := ?v4) rfl (by kernel_rfl) (by kernel_rfl) (by kernel_rfl) (fun _ _ _ h => h) (Or.inl ⟨by rfl, ?hy4⟩) (by assumption) ?rest4
      case hy4 => (intro w hSw; (try dsimp only at hSw); (try simp only [List.getElem_toArray, List.getElem_cons_zero, List.getElem_cons_succ]); go_simp; (try with_reducible rfl))
      (try simp only [Act.put, List.getElem_toArray, List.getElem_cons_zero, List.getElem_cons_succ, List.setIfInBounds_toArray, List.set_cons_zero, List.set_cons_succ])
      refine wpAnyH_take (i := 4) (v := ?v5) rfl (by kernel_rfl) (by kernel_rfl) (by kernel_rfl) (fun _ _ _ h => h) (Or.inl ⟨by rfl, ?hy5⟩) (by assumption) ?rest5
      case hy5 => (intro w hSw; (try dsimp only at hSw); (try simp only [List.getElem_toArray, List.getElem_cons_zero, List.getElem_cons_succ]); go_simp; (try with_reducible rfl))
      (try simp only [Act.put, List.getElem_toArray, List.getElem_cons_zero, List.getElem_cons_succ, List.setIfInBounds_toArray, List.set_cons_zero, List.set_cons_succ])
      refine wpAnyH_take (i := 5) (v := ?v6) rfl (by kernel_rfl) (by kernel_rfl) (by kernel_rfl) (fun _ _ _ h => h) (Or.inl ⟨by rfl, ?hy6⟩) (by assumption) ?rest6
      case hy6 => (intro w hSw; (try dsimp only at hSw); (try simp only [List.getElem_toArray, List.getElem_cons_zero, List.getElem_cons_succ]); go_simp; (try with_reducible rfl))
      (try simp only [Act.put, List.getElem_toArray, List.getElem_cons_zero, List.getElem_cons_succ, List.setIfInBounds_toArray, List.set_cons_zero, List.set_cons_succ])
      refine wpAnyH_take (i := 6) (v := ?v7) rfl (by kernel_rfl) (by kernel_rfl) (by kernel_rfl) (fun _ _ _ h => h) (Or.inl ⟨by rfl, ?hy7⟩) (by assumption) ?rest7
      case hy7 => (intro w hSw; (try dsimp only at hSw); (try simp only [List.getElem_toArray, List.getElem_cons_zero, List.getElem_cons_succ]); go_simp; (try with_reducible rfl))
      (try simp only [Act.put, List.getElem_toArray, List.getElem_cons_zero, List.getElem_cons_succ, List.setIfInBounds_toArray, List.set_cons_zero, List.set_cons_succ])
      refine wpAnyH_take (i := 7) (v := ?v8) rfl (by kernel_rfl) (by kernel_rfl) (by kernel_rfl) (fun _ _ _ h => h) (Or.inl ⟨by rfl, ?hy8⟩) (by assumption) ?rest8
      case hy8 => (intro w hSw; (try dsimp only at hSw); (try simp only [List.getElem_toArray, List.getElem_cons_zero, List.getElem_cons_succ]); go_simp; (try with_reducible rfl))
      (try simp only [Act.put, List.getElem_toArray, List.getElem_cons_zero, List.getElem_cons_succ, List.setIfInBounds_toArray, List.set_cons_zero, List.set_cons_succ])
      refine wpAnyH_take (i := 8) (v := ?v9) rfl (by kernel_rfl) (by kernel_rfl) (by kernel_rfl) (fun _ _ _ h => h) (Or.inl ⟨by rfl, ?hy9⟩) (by assumption) ?rest9
      case hy9 => (intro w hSw; (try dsimp only at hSw); (try simp only [List.getElem_toArray, List.getElem_cons_zero, List.getElem_cons_succ]); go_simp; (try with_reducible rfl))
      (try simp only [Act.put, List.getElem_toArray, List.getElem_cons_zero, List.getElem_cons_succ, List.setIfInBounds_toArray, List.set_cons_zero, List.set_cons_succ])
      refine wpAnyH_take (i := 9) (v := ?v10) rfl (by kernel_rfl) (by kernel_rfl) (by kernel_rfl) (fun _ _ _ h => h) (Or.inl ⟨by rfl, ?hy10⟩) (by assumption) ?rest10
      case hy10 => (intro w hSw; (try dsimp only at hSw); (try simp only [List.getElem_toArray, List.getElem_cons_zero, List.getElem_cons_succ]); go_simp; (try with_reducible rfl))
      (try simp only [Act.put, List.getElem_toArray, List.getElem_cons_zero, List.getElem_cons_succ, List.setIfInBounds_toArray, List.set_cons_zero, List.set_cons_succ])
      refine wpAnyH_take (i := 10) (v := ?v11) rfl (by kernel_rfl) (by kernel_rfl) (by kernel_rfl) (fun _ _ _ h => h) (Or.inl ⟨by rfl, ?hy11⟩) (by assumption) ?rest11
      case hy11 => (intro w hSw; (try dsimp only at hSw); (try simp only [List.getElem_toArray, List.getElem_cons_zero, List.getElem_cons_succ]); go_simp; (try with_reducible rfl))
      (try simp only [Act.put, List.getElem_toArray, List.getElem_cons_zero, List.getElem_cons_succ, List.setIfInBounds_toArray, List.set_cons_zero, List.set_cons_succ])
      refine wpAnyH_take (i := 11) (v := ?v12) rfl (by kernel_rfl) (by kernel_rfl) (by kernel_rfl) (fun _ _ _ h => h) (Or.inl ⟨by rfl, ?hy12⟩) (by assumption) ?rest12
      case hy12 => (intro w hSw; (try dsimp only at hSw); (try simp only [List.getElem_toArray, List.getElem_cons_zero, List.getElem_cons_succ]); go_simp; (try with_reducible rfl))
      (try simp only [Act.put, List.getElem_toArray, List.getElem_cons_zero, List.getElem_cons_succ, List.setIfInBounds_toArray, List.set_cons_zero, List.set_cons_succ])
      refine wpAnyH_take (i := 12) (v := ?v13) rfl (by kernel_rfl) (by kernel_rfl) (by kernel_rfl) (fun _ _ _ h => h) (Or.inl ⟨by rfl, ?hy13⟩) (by assumption) ?rest13
      case hy13 => (intro w hSw; (try dsimp only at hSw); (try simp only [List.getElem_toArray, List.getElem_cons_zero, List.getElem_cons_succ]); go_simp; (try with_reducible rfl))
      (try simp only [Act.put, List.getElem_toArray, List.getElem_cons_zero, List.getElem_cons_succ, List.setIfInBounds_toArray, List.set_cons_zero, List.set_cons_succ])
      refine wpAnyH_take (i := 14) (v := ?v14) rfl (by kernel_rfl) (by kernel_rfl) (by kernel_rfl) (fun _ _ _ h => h) (Or.inl ⟨by rfl, ?hy14⟩) (by assumption) ?rest14
      case hy14 => (intro w hSw; (try dsimp only at hSw); (try simp only [List.getElem_toArray, List.getElem_cons_zero, List.getElem_cons_succ]); go_simp; (try with_reducible rfl))
      (try simp only [Act.put, List.getElem_toArray, List.getElem_cons_zero, List.getElem_cons_succ, List.setIfInBounds_toArray, List.set_cons_zero, List.set_cons_succ])
      have HW64 := hid hw64
      clear hw64 hneg
      refine wpAnyH_ready (rs := [13, 15]) (by kernel_rfl) (by simp) ?_
      refine AllReadyH.cons rfl (fun K hK => ?_) (AllReadyH.cons rfl (fun K hK => ?_) AllReadyH.nil)
      · go_simp
        refine hK.out _ _ ?_ (fun hHeld => ?_)
        · exact HS0.out
        clear hK K
        (try simp only [Act.put, List.getElem_toArray, List.getElem_cons_zero, List.getElem_cons_succ, List.setIfInBounds_toArray, List.set_cons_zero, List.set_cons_succ])
        refine wpAnyH_ready (rs := [15]) (by kernel_rfl) (by simp) ?_
        refine AllReadyH.cons rfl (fun K hK => ?_) AllReadyH.nil
        go_simp
        refine hK.out _ _ ?_ (fun hHeld => ?_)
        · exact hwd ▸ HSA.out
        clear hK K
        (try simp only [Act.put, List.getElem_toArray, List.getElem_cons_zero, List.getElem_cons_succ, List.setIfInBounds_toArray, List.set_cons_zero, List.set_cons_succ])
        refine wpAnyH_ready (rs := [16]) (by kernel_rfl) (by simp) ?_
        refine AllReadyH.cons rfl (fun K hK => ?_) AllReadyH.nil
        refine step_append_row _ rfl _ _ 50 rfl 47 i0 _ 3 24 Tryd.underlying50 hi0 hz0 hz1 hz2 rfl (by decide) r.A rn r.c (r.ops.flatMap Op.cells) rfl (by rw [← hwd]; exact HRW.out) (some ⟨w3.heap.size + 1, 0, none⟩) 1 1 [.int .i64 what, .int .i64 oa, .int .i64 ob] rfl (by rw [← hwd]; exact HSD.out) (by intro u hu; simp at hu; rcases hu with rfl | rfl | rfl <;> rfl) (by unfold maxLen; omega) (by omega) ?_
        intro A' c' w4 hr4 hk4 hn4
        have hk4 := hwd ▸ hk4
        have hn4 := hwd ▸ hn4
        obtain ⟨d0, d1, dc, m9, d2, d3, d4⟩ := FIN.out _ _ _ hr4 hk4 hn4
        have HS4 := hid (HSW.out w4 hk4)
        have HM9 := hid d2
        have HR9 := hid d3
        have HK9 := hid d4
        clear hr4 hk4 hn4 d2 d3 d4
        refine hK.out _ _ ?_ (fun hHeld => ?_)
        · exact HS4.out
        clear hK K
        (try simp only [Act.put, List.getElem_toArray, List.getElem_cons_zero, List.getElem_cons_succ, List.setIfInBounds_toArray, List.set_cons_zero, List.set_cons_succ])
        have hw64 := HW64.out
        refine wpAnyH_take (i := 17) (v := ?v15) rfl (by kernel_rfl) (by kernel_rfl) (by kernel_rfl) (fun _ _ _ h => h) (Or.inl ⟨by rfl, ?hy15⟩) (by assumption) ?rest15
        case hy15 => (intro w hSw; (try dsimp only at hSw); (try simp only [List.getElem_toArray, List.getElem_cons_zero, List.getElem_cons_succ]); go_simp; (try with_reducible rfl))
        (try simp only [Act.put, List.getElem_toArray, List.getElem_cons_zero, List.getElem_cons_succ, List.setIfInBounds_toArray, List.set_cons_zero, List.set_cons_succ])
        clear hw64
        refine wpAnyH_ready (rs := [18]) (by kernel_rfl) (by simp) ?_
        refine AllReadyH.cons rfl (fun K hK => ?_) AllReadyH.nil
        go_simp
        refine hK.out _ _ ?_ (fun hHeld => ?_)
        · exact HSS.out w4 _ HS4.out
        clear hK K
        (try simp only [Act.put, List.getElem_toArray, List.getElem_cons_zero, List.getElem_cons_succ, List.setIfInBounds_toArray, List.set_cons_zero, List.set_cons_succ])
        refine wpAnyH_done (by kernel_rfl) ?_ _
        refine strict_normal ?_
        gi_wp2
        exact pp_next HI.out (show plineText (.op ⟨what, oa, ob⟩) = x.data.toList from HPX.out) HPW.out HWF.out HMAP.out HRUN.out HST.out HM9.out HR9.out HK9.out HFA.out HCE.out _
      · go_simp
        refine hK.out _ _ ?_ (fun hHeld => ?_)
        · exact hwd ▸ HSA.out
        clear hK K
        (try simp only [Act.put, List.getElem_toArray, List.getElem_cons_zero, List.getElem_cons_succ, List.setIfInBounds_toArray, List.set_cons_zero, List.set_cons_succ])
        refine wpAnyH_ready (rs := [13]) (by kernel_rfl) (by simp) ?_
        refine AllReadyH.cons rfl (fun K hK => ?_) AllReadyH.nil
        go_simp
        refine hK.out _ _ ?_ (fun hHeld => ?_)
        · exact hwd ▸ HSA.out
        clear hK K
        (try simp only [Act.put, List.getElem_toArray, List.getElem_cons_zero, List.getElem_cons_succ, List.setIfInBounds_toArray, List.set_cons_zero, List.set_cons_succ])
        refine wpAnyH_ready (rs := [16]) (by kernel_rfl) (by simp) ?_
        refine AllReadyH.cons rfl (fun K hK => ?_) AllReadyH.nil
        refine step_append_row _ rfl _ _ 50 rfl 47 i0 _ 3 24 Tryd.underlying50 hi0 hz0 hz1 hz2 rfl (by decide) r.A rn r.c (r.ops.flatMap Op.cells) rfl (by rw [← hwd]; exact HRW.out) (some ⟨w3.heap.size + 1, 0, none⟩) 1 1 [.int .i64 what, .int .i64 oa, .int .i64 ob] rfl (by rw [← hwd]; exact HSD.out) (by intro u hu; simp at hu; rcases hu with rfl | rfl | rfl <;> rfl) (by unfold maxLen; omega) (by omega) ?_
        intro A' c' w4 hr4 hk4 hn4
        have hk4 := hwd ▸ hk4
        have hn4 := hwd ▸ hn4
        obtain ⟨d0, d1, dc, m9, d2, d3, d4⟩ := FIN.out _ _ _ hr4 hk4 hn4
        have HS4 := hid (HSW.out w4 hk4)
        have HM9 := hid d2
        have HR9 := hid d3
        have HK9 := hid d4
        clear hr4 hk4 hn4 d2 d3 d4
        refine hK.out _ _ ?_ (fun hHeld => ?_)
        · exact HS4.out
        clear hK K
        (try simp only [Act.put, List.getElem_toArray, List.getElem_cons_zero, List.getElem_cons_succ, List.setIfInBounds_toArray, List.set_cons_zero, List.set_cons_succ])
        have hw64 := HW64.out
        refine wpAnyH_take (i := 17) (v := ?v16) rfl (by kernel_rfl) (by kernel_rfl) (by kernel_rfl) (fun _ _ _ h => h) (Or.inl ⟨by rfl, ?hy16⟩) (by assumption) ?rest16
        case hy16 => (intro w hSw; (try dsimp only at hSw); (try simp only [List.getElem_toArray, List.getElem_cons_zero, List.getElem_cons_succ]); go_simp; (try with_reducible rfl))
        (try simp only [Act.put, List.getElem_toArray, List.getElem_cons_zero, List.getElem_cons_succ, List.setIfInBounds_toArray, List.set_cons_zero, List.set_cons_succ])
        clear hw64
        refine wpAnyH_ready (rs := [18]) (by kernel_rfl) (by simp) ?_
        refine AllReadyH.cons rfl (fun K hK => ?_) AllReadyH.nil
        go_simp
        refine hK.out _ _ ?_ (fun hHeld => ?_)
        · exact HSS.out w4 _ HS4.out
        clear hK K
        (try simp only [Act.put, List.getElem_toArray, List.getElem_cons_zero, List.getElem_cons_succ, List.setIfInBounds_toArray, List.set_cons_zero, List.set_cons_succ])
        refine wpAnyH_done (by kernel_rfl) ?_ _
        refine strict_normal ?_
        gi_wp2
        exact pp_next HI.out (show plineText (.op ⟨what, oa, ob⟩) = x.data.toList from HPX.out) HPW.out HWF.out HMAP.out HRUN.out HST.out HM9.out HR9.out HK9.out HFA.out HCE.out _
  case done =>
    rintro D W hD hI hK
    obtain ⟨ls, m, part, bg, hwf, hmap, hrun, hrd⟩ := hI.out
    have hlin : linesOf t.data.toList = ls.map plineText := by
      rw [← hmap]; unfold linesB; rw [List.map_map]
      exact (List.map_id' _).symm
    have hb := hI.below
    have hbig := hI.big
    have r2 : W.heap[w.heap.size]? = _ := hI.res
    unfold zeroPl at r2
    have e2 := hI.err
    have p2 := hI.ptr
    have HK := hid hK
    have HLIN := hid hlin
    have HRUN := hid hrun
    have HRD := hid hrd
    have HWF := hid hwf
    have HR2 := hid r2
    have HE2 := hid e2
    have HP2 := hid p2
    have HB := hid hb
    have hblk := hrd.blk
    unfold rdCells at hblk
    have HBLK := hid hblk
    have HFW := hid (HF.out W hb).1
    have q4 := p2.cell
    have x0 := blk_cell hblk 0
    have x1 := blk_cell hblk 1
    have x2 := blk_cell hblk 2
    have x3 := blk_cell hblk 3
    have x5 := blk_cell hblk 5
    simp at x0 x1 x2 x3 x5
    have q20 := blk_cell r2 0
    have q21 := blk_cell r2 1
    have q22 := blk_cell r2 2
    have q23 := blk_cell r2 3
    simp at q20 q21 q22 q23
    have f2 := fun o => blk_free r2 o
    have q3 := e2.cell
    have f3 := fun o => blk_free (show W.heap[w.heap.size + 1]? = _ from e2) o
    have hlt := blk_lt r2
    have hlt3 := blk_lt (show W.heap[w.heap.size + 1]? = _ from e2)
    have hne : w.heap.size + 1 ≠ w.heap.size := by omega
    have hD1 : w.heap.size + 5 ≤ D := by rw [← hsz]; exact hD
    have HD1 := hid hD1
    have HZ : Hid (∀ (V : World) (a : Act), Keep NoF W V → (∀ e, (∃ p : Pl, WfPl p ∧ planText p = t.data.toList ∧ planChk p = e ∧ e ≠ 0) ∨ (e = 2 ∧ ∀ p : Pl, WfPl p → planText p ≠ t.data.toList) → a.tmps[2]? = some (.pointer (some ⟨w.heap.size, 0, none⟩)) → a.tmps[3]? = some (.pointer (some ⟨w.heap.size + 1, 0, none⟩)) → a.defers = [{ target := .collected D, args := #[] }] →
        bodyPostM Fence.wide 3 Tryd.prog Tryd.f4 (PlanParsed t w) .ret a (((((V.setCell ⟨w.heap.size, 0, none⟩ (.slice none 0 0)).setCell ⟨w.heap.size, 1, none⟩ (.int .i64 0)).setCell ⟨w.heap.size, 2, none⟩ (.slice none 0 0)).setCell ⟨w.heap.size, 3, none⟩ (.slice none 0 0)).setCell ⟨w.heap.size + 1, 0, none⟩ (errV e)))) := hid fun V a hkV e he h2 h3 hd => by
      have rV : V.heap[w.heap.size]? = some (.cells #[.slice none 0 0, .int .i64 0, .slice none 0 0, .slice none 0 0] 26 (0, 0)) := (hkV.block _ hlt fun h => h.elim).trans r2
      have eV : V.heap[w.heap.size + 1]? = some (.cells #[.nilIface] 28 (0, 0)) := (hkV.block _ hlt3 fun h => h.elim).trans e2
      have kV : V.heap[D]? = some (.deferred (some [])) := (hkV.block _ (blk_lt hK) fun h => h.elim).trans hK
      have z : ∀ k, k ≠ w.heap.size → k ≠ w.heap.size + 1 → (((((V.setCell ⟨w.heap.size, 0, none⟩ (.slice none 0 0)).setCell ⟨w.heap.size, 1, none⟩ (.int .i64 0)).setCell ⟨w.heap.size, 2, none⟩ (.slice none 0 0)).setCell ⟨w.heap.size, 3, none⟩ (.slice none 0 0)).setCell ⟨w.heap.size + 1, 0, none⟩ (errV e)).heap[k]? = V.heap[k]? := fun k h1 h2 =>
        (blk_far (p := ⟨w.heap.size + 1, 0, none⟩) (by simpa using h2) _).trans ((blk_far (p := ⟨w.heap.size, 3, none⟩) (by simpa using h1) _).trans ((blk_far (p := ⟨w.heap.size, 2, none⟩) (by simpa using h1) _).trans ((blk_far (p := ⟨w.heap.size, 1, none⟩) (by simpa using h1) _).trans (blk_far (p := ⟨w.heap.size, 0, none⟩) (by simpa using h1) _))))
      have k9 := (z D (by omega) (by omega)).trans kV
      have r9 := (blk_far (p := ⟨w.heap.size + 1, 0, none⟩) (b := w.heap.size) (by simp) (errV e)).trans (blk_set (blk_set (blk_set (blk_set rV 0 (.slice none 0 0)) 1 (.int .i64 0)) 2 (.slice none 0 0)) 3 (.slice none 0 0))
      have e9 := blk_set ((blk_far (p := ⟨w.heap.size, 3, none⟩) (b := w.heap.size + 1) (by simp) (.slice none 0 0)).trans ((blk_far (p := ⟨w.heap.size, 2, none⟩) (by simp) (.slice none 0 0)).trans ((blk_far (p := ⟨w.heap.size, 1, none⟩) (by simp) (.int .i64 0)).trans ((blk_far (p := ⟨w.heap.size, 0, none⟩) (by simp) (.slice none 0 0)).trans eV)))) 0 (errV e)
      have hb9 : Below w.heap.size w (((((V.setCell ⟨w.heap.size, 0, none⟩ (.slice none 0 0)).setCell ⟨w.heap.size, 1, none⟩ (.int .i64 0)).setCell ⟨w.heap.size, 2, none⟩ (.slice none 0 0)).setCell ⟨w.heap.size, 3, none⟩ (.slice none 0 0)).setCell ⟨w.heap.size + 1, 0, none⟩ (errV e)) :=
        (((((hb.trans (hkV.below hb.size fun _ h => h.elim)).setCell (p := ⟨w.heap.size, 0, none⟩) (Nat.le_refl _) _).setCell (p := ⟨w.heap.size, 1, none⟩) (Nat.le_refl _) _).setCell (p := ⟨w.heap.size, 2, none⟩) (Nat.le_refl _) _).setCell (p := ⟨w.heap.size, 3, none⟩) (Nat.le_refl _) _).setCell (p := ⟨w.heap.size + 1, 0, none⟩) (by simp) _
      refine pparse_ret (D := D) (c0 := .slice none 0 0) (c1 := .int .i64 0) (c2 := .slice none 0 0) (c3 := .slice none 0 0) r9 (show Boxed _ _ 28 (errV e) from e9) (by omega) (by omega) k9 h2 h3 hd ⟨hb9.trans (belowK_b (w := w) (Nat.le_refl _) _ D _ _ (by omega) k9 rfl rfl), ?_⟩
      rcases he with ⟨p, y1, y2, y3, y4⟩ | ⟨rfl, hno⟩
      · exact .inr (.inl ⟨p, y1, y2, by rw [y3]; exact y4, by rw [y3]; rfl⟩)
      · exact .inr (.inr ⟨hno, rfl⟩)
    have HG : Hid (planChk m.pl = 0 → WfPl m.pl → planText m.pl = t.data.toList → ∀ (V : World) (a : Act), Keep NoF W V → a.tmps[2]? = some (.pointer (some ⟨w.heap.size, 0, none⟩)) → a.tmps[3]? = some (.pointer (some ⟨w.heap.size + 1, 0, none⟩)) → a.defers = [{ target := .collected D, args := #[] }] →
        bodyPostM Fence.wide 3 Tryd.prog Tryd.f4 (PlanParsed t w) .ret a (((((V.setCell ⟨w.heap.size, 0, none⟩ (.slice m.A m.ros.length m.c)).setCell ⟨w.heap.size, 1, none⟩ (.int .i64 m.ticks)).setCell ⟨w.heap.size, 2, none⟩ (.slice m.sA m.spans.length m.sc)).setCell ⟨w.heap.size, 3, none⟩ (.slice m.wA m.wires.length m.wc)).setCell ⟨w.heap.size + 1, 0, none⟩ .nilIface)) := hid fun he hpw hpt V a hkV h2 h3 hd => by
      have rV : V.heap[w.heap.size]? = some (.cells #[.slice none 0 0, .int .i64 0, .slice none 0 0, .slice none 0 0] 26 (0, 0)) := (hkV.block _ hlt fun h => h.elim).trans r2
      have eV : V.heap[w.heap.size + 1]? = some (.cells #[.nilIface] 28 (0, 0)) := (hkV.block _ hlt3 fun h => h.elim).trans e2
      have kV : V.heap[D]? = some (.deferred (some [])) := (hkV.block _ (blk_lt hK) fun h => h.elim).trans hK
      have z : ∀ k, k ≠ w.heap.size → k ≠ w.heap.size + 1 → (((((V.setCell ⟨w.heap.size, 0, none⟩ (.slice m.A m.ros.length m.c)).setCell ⟨w.heap.size, 1, none⟩ (.int .i64 m.ticks)).setCell ⟨w.heap.size, 2, none⟩ (.slice m.sA m.spans.length m.sc)).setCell ⟨w.heap.size, 3, none⟩ (.slice m.wA m.wires.length m.wc)).setCell ⟨w.heap.size + 1, 0, none⟩ .nilIface).heap[k]? = V.heap[k]? := fun k h1 h2 =>
        (blk_far (p := ⟨w.heap.size + 1, 0, none⟩) (by simpa using h2) _).trans ((blk_far (p := ⟨w.heap.size, 3, none⟩) (by simpa using h1) _).trans ((blk_far (p := ⟨w.heap.size, 2, none⟩) (by simpa using h1) _).trans ((blk_far (p := ⟨w.heap.size, 1, none⟩) (by simpa using h1) _).trans (blk_far (p := ⟨w.heap.size, 0, none⟩) (by simpa using h1) _))))
      have k9 := (z D (by omega) (by omega)).trans kV
      have r9 := (blk_far (p := ⟨w.heap.size + 1, 0, none⟩) (b := w.heap.size) (by simp) .nilIface).trans (blk_set (blk_set (blk_set (blk_set rV 0 (.slice m.A m.ros.length m.c)) 1 (.int .i64 m.ticks)) 2 (.slice m.sA m.spans.length m.sc)) 3 (.slice m.wA m.wires.length m.wc))
      have e9 := blk_set ((blk_far (p := ⟨w.heap.size, 3, none⟩) (b := w.heap.size + 1) (by simp) (.slice m.wA m.wires.length m.wc)).trans ((blk_far (p := ⟨w.heap.size, 2, none⟩) (by simp) (.slice m.sA m.spans.length m.sc)).trans ((blk_far (p := ⟨w.heap.size, 1, none⟩) (by simp) (.int .i64 m.ticks)).trans ((blk_far (p := ⟨w.heap.size, 0, none⟩) (by simp) (.slice m.A m.ros.length m.c)).trans eV)))) 0 .nilIface
      have hb9 : Below w.heap.size w (((((V.setCell ⟨w.heap.size, 0, none⟩ (.slice m.A m.ros.length m.c)).setCell ⟨w.heap.size, 1, none⟩ (.int .i64 m.ticks)).setCell ⟨w.heap.size, 2, none⟩ (.slice m.sA m.spans.length m.sc)).setCell ⟨w.heap.size, 3, none⟩ (.slice m.wA m.wires.length m.wc)).setCell ⟨w.heap.size + 1, 0, none⟩ .nilIface) :=
        (((((hb.trans (hkV.below hb.size fun _ h => h.elim)).setCell (p := ⟨w.heap.size, 0, none⟩) (Nat.le_refl _) _).setCell (p := ⟨w.heap.size, 1, none⟩) (Nat.le_refl _) _).setCell (p := ⟨w.heap.size, 2, none⟩) (Nat.le_refl _) _).setCell (p := ⟨w.heap.size, 3, none⟩) (Nat.le_refl _) _).setCell (p := ⟨w.heap.size + 1, 0, none⟩) (by simp) _
      have hk9 : Keep (fun j => j = w.heap.size ∨ j = w.heap.size + 1) W (((((V.setCell ⟨w.heap.size, 0, none⟩ (.slice m.A m.ros.length m.c)).setCell ⟨w.heap.size, 1, none⟩ (.int .i64 m.ticks)).setCell ⟨w.heap.size, 2, none⟩ (.slice m.sA m.spans.length m.sc)).setCell ⟨w.heap.size, 3, none⟩ (.slice m.wA m.wires.length m.wc)).setCell ⟨w.heap.size + 1, 0, none⟩ .nilIface) :=
        (((((hkV.mono (G := fun j => j = w.heap.size ∨ j = w.heap.size + 1) fun j _ hj => hj.elim).setCell (.inl (.inl rfl)) _).setCell (.inl (.inl rfl)) _).setCell (.inl (.inl rfl)) _).setCell (.inl (.inl rfl)) _).setCell (.inl (.inr rfl)) _
      have hrd9 := (HRD.out.keep hk9 fun j hj => ⟨by omega, .inl (by omega)⟩).turned (grownBy_putObj' _ D (.deferred none)) (fun r e => by cases e; exact ⟨_, k9, rfl⟩)
      exact pparse_ret (D := D) r9 (show Boxed _ _ 28 .nilIface from e9) (by omega) (by omega) k9 h2 h3 hd ⟨hb9.trans (belowK_b (w := w) (Nat.le_refl _) _ D _ _ (by omega) k9 rfl rfl), .inl ⟨m, hpw, hpt, he, rfl, rd_plan hrd9 hpw, fun j hj => by have := rd_fresh hrd9 j hj; omega⟩⟩
    have HW3 : Hid (∀ w3, Below W.heap.size W w3 → Keep NoF W w3 ∧ w3.cell? ⟨w.heap.size + 1 + 1 + 1, 0, none⟩ = some (.pointer (some ⟨w.heap.size + 1 + 1, 0, none⟩)) ∧ w3.cell? ⟨w.heap.size + 1 + 1, 0, none⟩ = some (.slice m.A m.ros.length m.c) ∧ w3.cell? ⟨w.heap.size + 1 + 1, 1, none⟩ = some (.int .i64 m.ticks) ∧ w3.cell? ⟨w.heap.size + 1 + 1, 2, none⟩ = some (.slice m.sA m.spans.length m.sc) ∧ w3.cell? ⟨w.heap.size + 1 + 1, 3, none⟩ = some (.slice m.wA m.wires.length m.wc) ∧
        w3.cell? ⟨w.heap.size, 0, none⟩ = some (.slice none 0 0) ∧ w3.cell? ⟨w.heap.size, 1, none⟩ = some (.int .i64 0) ∧ w3.cell? ⟨w.heap.size, 2, none⟩ = some (.slice none 0 0) ∧ w3.cell? ⟨w.heap.size, 3, none⟩ = some (.slice none 0 0) ∧ (∀ o, w3.frozen? ⟨w.heap.size, o, none⟩ = false) ∧ w3.cell? ⟨w.heap.size + 1, 0, none⟩ = some .nilIface ∧ (∀ o, w3.frozen? ⟨w.heap.size + 1, o, none⟩ = false) ∧ w.heap.size < w3.heap.size ∧ w.heap.size + 1 < w3.heap.size) := hid fun w3 h3 => by
      have c : ∀ k o, k < W.heap.size → w3.cell? ⟨k, o, none⟩ = W.cell? ⟨k, o, none⟩ := fun k o hk => h3.cell (p := ⟨k, o, none⟩) hk
      have hs := h3.size
      exact ⟨Keep.of_below _ h3, (c _ _ (by omega)).trans q4, (c _ _ (by omega)).trans x0, (c _ _ (by omega)).trans x1, (c _ _ (by omega)).trans x2, (c _ _ (by omega)).trans x3, (c _ _ hlt).trans q20, (c _ _ hlt).trans q21, (c _ _ hlt).trans q22, (c _ _ hlt).trans q23, fun o => blk_free ((h3.block _ hlt).trans r2) o, (c _ _ hlt3).trans q3, fun o => blk_free ((h3.block _ hlt3).trans e2) o, by omega, by omega⟩
    clear hI hmap hwf hrun hrd hlin hb r2 e2 p2 hblk hK hD1 hbig
    dsimp only
    cases bg with
    | false =>
      gi_wp2
      exact HZ.out W _ (Keep.refl _ _) 2 (.inr ⟨rfl, fun p _ => plan_unbegun HLIN.out HRUN.out rfl p⟩) rfl rfl rfl
    | true =>
      have hpt : planText m.pl = t.data.toList := plan_of HLIN.out HRUN.out rfl
      have hpw : WfPl m.pl := plan_wf HRUN.out rfl HWF.out
      have HPT := hid hpt
      have HPW := hid hpw
      have HCK := hid (plan_check m W HFW.out (rd_plan HRD.out hpw))
      by_cases he : planChk m.pl = 0
      · have hg := HG.out he hpw hpt
        have HGG := hid hg
        rw [he, errV_zero] at HCK
        clear hpt hpw he hg q20 q21 q22 q23 f2 q3 f3 hlt hlt3
        gi_wp2_with (refine ⟨trivial, ?_⟩; gi_at_call 6; refine (callsIn_wide.2 HCK.out).mono ?_; rintro e w3 ⟨rfl, hb3⟩; obtain ⟨hk3, y4, y0, y1, y2, y3, z0, z1, z2, z3, zf, z5, zf5, zl, zl3⟩ := HW3.out w3 hb3; have HK3 := hid hk3; clear hb3 hk3 q4 x0 x1 x2 x3 x5 HCK)
        exact HGG.out _ _ HK3.out rfl rfl rfl
      · have hz := fun V a hk => HZ.out V a hk (planChk m.pl) (.inl ⟨m.pl, hpw, hpt, rfl, he⟩)
        have HTryd := hid hz
        rw [errV_pos he] at HCK HTryd
        clear hpt hpw he hz q20 q21 q22 q23 f2 q3 f3 hlt hlt3
        gi_wp2_with (refine ⟨trivial, ?_⟩; gi_at_call 6; refine (callsIn_wide.2 HCK.out).mono ?_; rintro e w3 ⟨rfl, hb3⟩; obtain ⟨hk3, y4, y0, y1, y2, y3, z0, z1, z2, z3, zf, z5, zf5, zl, zl3⟩ := HW3.out w3 hb3; have HK3 := hid hk3; clear hb3 hk3 q4 x0 x1 x2 x3 x5 HCK)
        exact HTryd.out _ _ HK3.out rfl rfl rfl
  case stop =>
    rintro D c pre W hD hpre hS hK
    obtain ⟨rfl, hno, hres, herr, hb⟩ := hS
    have HRES := hid hres
    have HERR := hid herr
    have HNO := hid hno
    have HB := hid hb
    have HK := hid hK
    clear hno hres herr hb hK
    dsimp only
    gi_wp2
    refine pparse_ret (D := D) HRES.out HERR.out (by omega) (by omega) HK.out rfl rfl rfl ?_
    exact ⟨HB.out.trans (belowK_b (w := w) (Nat.le_refl _) _ D _ _ (by omega) HK.out rfl rfl), .inr (.inr ⟨HNO.out, rfl⟩)⟩

end Go.Proofs.YtldllmhgofacbaaDoor
