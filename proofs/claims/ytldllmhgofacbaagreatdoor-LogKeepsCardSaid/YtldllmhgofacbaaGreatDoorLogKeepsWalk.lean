/- The walk of framelaw3.LogKeeps: it returns true at every input. -/
import Derived.Test.YtldllmhgofacbaaGreatDoorLogKeepsLaw
import Derived.Test.YtldllmhgofacbaaGreatDoorLogAlike
import Derived.Test.YtldllmhgofacbaaGreatDoorLogCU
import Derived.Test.YtldllmhgofacbaaGreatDoorRPlanU
import Derived.Test.YtldllmhgofacbaaGreatDoorRunU
import Derived.Test.YtldllmhgofacbaaGreatDoorDoorU
import Derived.Deep.DeepCutAuto
import Derived.Deep.CutBlock
namespace Go.Proofs.YtldllmhgofacbaaGreatDoor
open Go.RowKit
set_option maxRecDepth 100000

theorem rest_made {w w2 : World} (hf : Forms w) (hb : Below w.heap.size w w2) (s : Nat) (h1 : w2.heap[s]? = some (.cells #[.int .i64 10, .int .i64 0, .int .i64 0] 42 (0, 0))) (h2 : w2.heap[s + 1]? = some (.cells #[.slice (some ⟨s, 0, none⟩) 1 1] 43 (0, 0))) :
    Calls Tryz.prog 44 #[.agg #[.slice (some ⟨s + 1, 0, none⟩) 1 1, .int .i64 1, .slice none 0 0, .slice none 0 0]] w2 fun e w' => ∃ (lb : Nat) (m' : PM), m'.pl = restPl ∧ e = .returned (.tuple #[.pointer (some ⟨lb, 0, none⟩), .nilIface]) ∧ LgAt w w' lb m' Lg.new := by
  have hp : PlanAt w2 (onePM0 s (s + 1) [⟨10, 0, 0⟩] 1) := one_plan0 h1 h2 (by decide) (by decide) (fun o ho => by
    simp at ho; subst ho
    refine ⟨⟨?_, ?_⟩, ⟨?_, ?_⟩, ⟨?_, ?_⟩⟩ <;> decide)
  refine (lgnew_any w2 (onePM0 s (s + 1) [⟨10, 0, 0⟩] 1) (hf.new hb) hp rest_chk).mono ?_
  rintro e w' ⟨lb, m', h3, h4, h5⟩
  exact ⟨lb, m', h3, h4, h5.base hb⟩
theorem keeps_ret {w w' : World} {a : Act} (h : a.tmps[10]? = some (.bool true)) (hd : a.defers = []) (hb : Below w.heap.size w w') : bodyPost Tryz.prog Tryz.f10 (fun e w' => e = .returned (.bool true) ∧ Below w.heap.size w w') .ret a w' :=
  bodyPost_ret (v := .bool true) (by simp [results, Tryz.results10, go_sem, h]) hd ⟨rfl, hb⟩
theorem sl_num {w wr : World} {A : Option Addr} {n : Nat} {l : List Int} (h : Sl w A 1 n (l.flatMap fun a => [.int .i64 a])) (hb : Below w.heap.size w wr) {i : Nat} (hi : i < l.length) (hn : 0 < n) : ∃ b off, A = some ⟨b, off, none⟩ ∧ wr.cell? ⟨b, off + i, none⟩ = some (.int .i64 (l.getD i 0)) := by
  obtain ⟨b, off, rfl, hlt, hx⟩ := h.2 hn
  refine ⟨b, off, rfl, (hb.cell (p := ⟨b, off + i, none⟩) hlt).trans (hx i _ ?_)⟩
  have := flatMap_get (fun a : Int => [Value.int .i64 a]) 1 (fun _ => rfl) l i 0 _ (List.getElem?_eq_getElem hi) (by decide)
  rw [Nat.mul_one, Nat.add_zero] at this
  rw [List.getD_eq_getElem?_getD, List.getElem?_eq_getElem hi]
  exact this.trans rfl
/-- The steps that were taken, and the marks, as they lie beside the log. -/
def keptT (A : Option Addr) (cA : Nat) (D : List Il) (B : Option Addr) (cB : Nat) (K : List Lrec) : List Tg := [rowT 64 1 A D.length cA (D.flatMap Il.cells), rowT 3 1 B (K.length + 1) cB (ints (marksOf K))]
theorem celled_row {e sz n cap : Nat} {A : Option Addr} {xs : List Value} : Celled (rowT e sz A n cap xs) := fun _ h _ hj => h.here.cellsAt hj
theorem kept_celled (A : Option Addr) (cA : Nat) (D : List Il) (B : Option Addr) (cB : Nat) (K : List Lrec) : ∀ t ∈ keptT A cA D B cB K, Celled t := fun t ht => by
  unfold keptT at ht
  simp only [List.mem_cons, List.mem_nil_iff, or_false] at ht
  rcases ht with rfl | rfl
  · exact celled_row
  · exact celled_row
/-- What holds between the steps. -/
structure Keeping (w wl wr : World) (lb : Nat) (p : Pl) (mj : PM) (L : Lg) (A : Option Addr) (cA : Nat) (D : List Il) (B : Option Addr) (cB : Nat) : Prop where
  lies : LgAt wl wr lb mj L (keptT A cA D B cB L.done)
  ok : LgOk p L
  recs : L.done = D.map Il.recd
  steps : ∀ y ∈ D, y.At w ∧ StepOk p.code.length y.l

theorem Keeping.same {w wl wr w3 : World} {lb : Nat} {p : Pl} {mj : PM} {L L' : Lg} {A B : Option Addr} {cA cB : Nat} {D : List Il} (h : Keeping w wl wr lb p mj L A cA D B cB) (h1 : LgAt wl w3 lb mj L' (keptT A cA D B cB L.done)) (hok : LgOk p L') (hd : L'.done = L.done) : Keeping w wl w3 lb p mj L' A cA D B cB :=
  ⟨by rw [hd]; exact h1, hok, by rw [hd]; exact h.recs, h.steps⟩
theorem Keeping.new {w wl wr w3 : World} {lb : Nat} {p : Pl} {mj : PM} {L : Lg} {A B : Option Addr} {cA cB : Nat} {D : List Il} (h : Keeping w wl wr lb p mj L A cA D B cB) (hb : Below wr.heap.size wr w3) : Keeping w wl w3 lb p mj L A cA D B cB :=
  ⟨h.lies.new hb, h.ok, h.recs, h.steps⟩
theorem keeping_start {w wl wa : World} {lb : Nat} {p : Pl} {mj : PM} (h : LgAt wl wa lb mj Lg.new) : Keeping w wl (wa.alloc (.cells #[.int .i64 0] 3)) lb p mj Lg.new none 0 [] (some ⟨wa.heap.size, 0, none⟩) 1 := by
  refine ⟨?_, Lg.new_ok p, rfl, fun y hy => by cases hy⟩
  obtain ⟨kb, M, h⟩ := h
  refine ⟨kb, M, ?_⟩
  have hrow : Row (wa.alloc (.cells #[.int .i64 0] 3)) 3 1 (some ⟨wa.heap.size, 0, none⟩) 1 1 [.int .i64 0] :=
    ⟨rfl, .inr ⟨wa.heap.size, 0, _, rfl, heap_alloc_new wa _, Nat.le_refl _, by unfold maxLen; omega, by simp, fun j u hu => by simpa using hu⟩⟩
  have e : ∀ j, InA (some ⟨wa.heap.size, 0, none⟩) j → wa.heap.size ≤ j := fun j hj => by simp [InA] at hj; omega
  exact (stand_nil h 64 1).add ((Below.refl _ _).alloc (Nat.le_refl _) _) (row_lie hrow) (fun j hj => e j hj) (fun j hj => .inl (e j hj))

theorem Il.At.new {w w' : World} {y : Il} (h : y.At w) (hb : Below w.heap.size w w') : y.At w' := ⟨h.1.new hb, h.2.1, h.2.2⟩
theorem Keeping.steps_new {w wl wr w3 : World} {lb : Nat} {p : Pl} {mj : PM} {L : Lg} {A B : Option Addr} {cA cB : Nat} {D : List Il} (h : Keeping w wl wr lb p mj L A cA D B cB) (hb : Below w.heap.size w w3) : ∀ y ∈ D, y.At w3 ∧ StepOk p.code.length y.l := fun z hz => ⟨(h.steps z hz).1.new hb, (h.steps z hz).2⟩
theorem keeping_alike {wl wk w : World} {lb kb nr : Nat} {m mj : PM} {L : Lg} {N : KM} (hp : PlOk m.pl) (hj : mj.pl = m.pl) (hL : LgOk m.pl L) (hn : m.pl.code.length = nr) (h : LgAt wl w lb mj L) (hr : RRun wk w kb m.pl N (runRecs m.pl L.done)) :
    Calls Tryz.prog 55 #[.pointer (some ⟨lb, 0, none⟩), .pointer (some ⟨kb, 0, none⟩), .int .i64 nr] w fun e w' => e = .returned (.bool true) ∧ Below w.heap.size w w' := by
  rw [← hj] at hp hL hn hr
  exact alike_any hp hL h hr nr hn
section
variable {w0 w w1 w3 : World} {lb : Nat} {m : PM} {L : Lg} {ts us : List Tg} {t t' : Tg}
theorem LgAt.add (h : LgAt w0 w lb m L ts) (hb : Below w.heap.size w w1) (ht : Lie w1 t) (hW : ∀ j, t.W j → w.heap.size ≤ j) (hF : ∀ j, t.F j → w.heap.size ≤ j ∨ j < w0.heap.size) : LgAt w0 w1 lb m L (ts ++ [t]) := by
  obtain ⟨kb, M, h⟩ := h
  exact ⟨kb, M, h.add hb ht hW hF⟩
theorem LgAt.few (h : LgAt w0 w lb m L (ts ++ us)) : LgAt w0 w lb m L ts := by
  obtain ⟨kb, M, h⟩ := h
  exact ⟨kb, M, Stand.few (ts := kTh kb m.pl M (runRecs m.pl L.done) :: lgT lb m kb L :: planT m :: ts) h⟩
theorem LgAt.thing (h : LgAt w0 w lb m L ts) (i : Nat) (hi : ts[i]? = some t) : Lie w t := by
  obtain ⟨kb, M, h⟩ := h
  exact h.get (i := i + 3) hi
theorem LgAt.goes (h : LgAt w0 w lb m L ts) (i : Nat) (hi : ts[i]? = some t) (hg : Went w w3 t t') : LgAt w0 w3 lb m L (ts.set i t') := by
  obtain ⟨kb, M, h⟩ := h
  exact ⟨kb, M, h.go (i + 3) hi hg⟩
end
theorem Keeping.reads {w wl wr : World} {lb : Nat} {p : Pl} {mj : PM} {L : Lg} {A B : Option Addr} {cA cB : Nat} {D : List Il} (h : Keeping w wl wr lb p mj L A cA D B cB) : Sl wr.drew A 1 D.length (D.flatMap Il.cells) := by
  have h1 : Row wr 64 1 A D.length cA (D.flatMap Il.cells) := (h.lies.thing 0 rfl).here
  exact h1.sl
theorem fill_below {wr w6 wx : World} {vb : Nat} (hv : vb = wr.heap.size) (hb : Below wr.heap.size wr w6) (hk : Keep (fun j => j = vb) w6 wx) : Below wr.heap.size wr wx :=
  Keep.below (F := NoF) ((Keep.of_below NoF hb).then hk fun j hj hf => by omega) (Nat.le_refl _) (fun _ h => h.elim)
theorem lg_array {w0 wr w6 wx : World} {lb vb : Nat} {m : PM} {L : Lg} {ts : List Tg} {o : Obj} (h : LgAt w0 wr lb m L ts) (hv : vb = wr.heap.size) (hb : Below wr.heap.size wr w6) (hk : Keep (fun j => j = vb) w6 wx) (ha : wx.heap[vb]? = some o) : LgAt w0 wx lb m L (ts ++ [conT vb o]) :=
  h.add (fill_below hv hb hk) (con_lie ha) (fun _ hj => hj.elim) (fun j hj => .inl (by have : j = vb := hj; omega))
/-- The reference's kernel beside the log. -/
def redoT (kb : Nat) (p : Pl) (M : KM) (k : Kst) : Tg := kT 98 165 163 kb p M k
theorem lg_redone {w0 w w2 : World} {lb kb : Nat} {m m0 : PM} {L : Lg} {ts : List Tg} {p : Pl} {M : KM} {k : Kst} (h : LgAt w0 w lb m L ts) (hr : RRun w w2 kb p M k) (hP : M.P = m0) (hold : ∀ j, planF m0 j → j < w0.heap.size) : LgAt w0 w2 lb m L (ts ++ [redoT kb p M k]) :=
  h.add hr.below (k_lie hr.kat hr.plan) (fun j hj => hr.fresh j (.inl hj)) (fun j hj => by
    rcases hj with hj | hj | hj
    · exact .inl (hr.fresh j (.inl hj))
    · exact .inl (hr.fresh j (.inr hj))
    · rw [hP] at hj; exact .inr (hold j hj))
theorem lg_poked {w0 w w2 : World} {lb kb : Nat} {m : PM} {L : Lg} {t0 t1 t2 : Tg} {p : Pl} {M : KM} {k k' : Kst} (h : LgAt w0 w lb m L [t0, t1, t2, redoT kb p M k]) (h1 : KAt 98 165 163 w2 kb M k') (h2 : Keep (KF kb M) w w2) : LgAt w0 w2 lb m L [t0, t1, t2, redoT kb p M k'] :=
  h.goes 3 rfl (k_went (h.thing 3 rfl) h1 ⟨rfl, rfl⟩ h2 fun _ hj => .inl hj)
theorem keeping_more {w wl w3 : World} {lb : Nat} {p : Pl} {mj : PM} {L : Lg} {q : Int × Lg} {A' B' : Option Addr} {cA' cB' : Nat} {D : List Il} {y : Il} (hD : L.done = D.map Il.recd) (hS : ∀ z ∈ D, z.At w ∧ StepOk p.code.length z.l) (hst : Stepped p L y.l q) (hq : q.1 = 0) (hy : y.At w)
    (h : LgAt wl w3 lb mj q.2 [rowT 64 1 A' (D.length + 1) cA' (D.flatMap Il.cells ++ [.slice y.A y.l.length y.c]), rowT 3 1 B' (L.done.length + 1 + 1) cB' (ints (marksOf L.done) ++ [.int .i64 q.2.text.length])]) :
    Keeping w wl w3 lb p mj q.2 A' cA' (D ++ [y]) B' cB' := by
  obtain ⟨g1, g2, g3, g4⟩ := hst.good hq
  refine ⟨?_, hst.ok, ?_, fun z hz => ?_⟩
  · have e : keptT A' cA' (D ++ [y]) B' cB' q.2.done = [rowT 64 1 A' (D.length + 1) cA' (D.flatMap Il.cells ++ [.slice y.A y.l.length y.c]), rowT 3 1 B' (L.done.length + 1 + 1) cB' (ints (marksOf L.done) ++ [.int .i64 q.2.text.length])] := by
      unfold keptT
      rw [List.length_append, List.length_singleton, List.flatMap_append, g4, g2, marks_snoc, List.length_append, List.length_singleton, ints_append]
      rfl
    rw [e]; exact h
  · rw [g2, hD, List.map_append]; rfl
  · rcases List.mem_append.1 hz with hz | hz
    · exact hS z hz
    · rw [List.mem_singleton] at hz
      rw [hz]; exact ⟨hy, g1⟩
theorem err_nil (e : Int) (w : World) : (binOp .eql 30 (errV e) .nilIface).run Tryz.prog w = .ok (.bool (decide (e = 0))) w := by
  by_cases h : e = 0
  · subst h
    rw [errV_zero]; kernel_rfl
  · rw [errV_pos h, decide_eq_false h]; kernel_rfl
theorem err_nil_guard (e : Int) (w : World) : (eqGuard .eql 30 (.tmp 233) (.const .nilIface) (errV e) .nilIface).run Tryz.prog w = .ok () w := by
  by_cases h : e = 0
  · subst h
    rw [errV_zero]; kernel_rfl
  · rw [errV_pos h]; kernel_rfl
theorem LgAt.bare {w0 w : World} {lb : Nat} {m : PM} {L : Lg} {ts : List Tg} (h : LgAt w0 w lb m L ts) : LgAt w0 w lb m L := LgAt.few (ts := []) h
theorem Tryz.infoIntsK : (Tryz.prog.info? 64).map (fun i => (i.zero, i.size, i.bytes)) = some (some (.slice none 0 0), 1, 24) := by kernel_rfl

theorem flat_cells_take (D : List Il) (W : Nat) : (D.flatMap Il.cells).take W = (D.take W).flatMap Il.cells := by
  have e : ∀ l : List Il, l.flatMap Il.cells = l.map fun y => Value.slice y.A y.l.length y.c := fun l => by
    induction l with
    | nil => rfl
    | cons y l ih => rw [List.flatMap_cons, ih]; rfl
  rw [e, e, List.map_take]
theorem keeping_short {w wl w4 wr : World} {lb : Nat} {p : Pl} {mj : PM} {L : Lg} {A B : Option Addr} {cA cB K W : Nat} {D : List Il} {keep : Int} (h : Keeping w wl wr lb p mj L A cA D B cB) (hD : D.length = K) (hL : L.done.length = K) (h4 : LgAt wl w4 lb mj (L.crash keep) (keptT A cA D B cB L.done)) (hW : W = wholeIn L.done (L.keepN keep)) (hle : W ≤ K) :
    Keeping w wl w4 lb p mj (L.crash keep) A cA (D.take W) B cB := by
  have hdone : (L.crash keep).done = L.done.take W := by rw [hW]; rfl
  have hl1 : (D.take W).length = W := by rw [List.length_take, hD]; omega
  have hl2 : (L.done.take W).length = W := by rw [List.length_take, hL]; omega
  refine ⟨?_, Lg.crash_ok h.ok keep, ?_, fun y hy => h.steps y (List.mem_of_mem_take hy)⟩
  · have r0 : Row w4 64 1 A W cA ((D.take W).flatMap Il.cells) := by
      have := Row.short (h4.thing 0 rfl).here (k := W) (by rw [hD]; exact hle)
      rw [Nat.mul_one, flat_cells_take] at this
      exact this
    have r1 : Row w4 3 1 B (W + 1) cB (ints (marksOf (L.done.take W))) := by
      have := Row.short (h4.thing 1 rfl).here (k := W + 1) (by rw [hL]; omega)
      rw [Nat.mul_one] at this
      rw [marks_take (by rw [hL]; exact hle)]
      unfold ints at this ⊢
      rw [List.map_take]
      exact this
    have e : keptT A cA (D.take W) B cB (L.crash keep).done = (((keptT A cA D B cB L.done).set 0 (rowT 64 1 A W cA ((D.take W).flatMap Il.cells))).set 1 (rowT 3 1 B (W + 1) cB (ints (marksOf (L.done.take W))))) := by
      unfold keptT
      rw [hdone, hl1, hl2]; rfl
    rw [e]
    exact (h4.goes 0 rfl (row_went r0 (Keep.refl _ _) fun _ hj => .inl hj)).goes 1 rfl (row_went r1 (Keep.refl _ _) fun _ hj => .inl hj)
  · rw [hdone, h.recs, List.map_take]
theorem keeping_marks {L : Lg} {keep : Int} {N W : Nat} (hN : N = L.keepN keep) (hW : W = wholeIn L.done N) : marksOf (L.crash keep).done = (marksOf L.done).take (W + 1) := by
  subst hW hN
  exact marks_take (wholeIn_le _ _)

set_option maxHeartbeats 40000000 in
theorem logKeeps_walk {w : World} (hg : Handle w) (hf : Forms w) (_ : Names w) (hd : Desk w) (m : PM) (hm : PlanAt w m) (A1 : Option Addr) (c1 : Nat) (l1 : List Il) (hs1 : Sl w A1 1 l1.length (l1.flatMap Il.cells)) (hv1 : SlW A1 c1 l1.length) (hat1 : ∀ y ∈ l1, y.At w)
    (A2 : Option Addr) (c2 : Nat) (l2 : List Int) (hs2 : Sl w A2 1 l2.length (l2.flatMap fun a => [.int .i64 a])) (hv2 : SlW A2 c2 l2.length)
    (A3 : Option Addr) (c3 : Nat) (l3 : List Int) (hs3 : Sl w A3 1 l3.length (l3.flatMap fun a => [.int .i64 a])) (hv3 : SlW A3 c3 l3.length) (hf3 : ∀ y ∈ l3, Fits y)
    (A4 : Option Addr) (c4 : Nat) (l4 : List Int) (hs4 : Sl w A4 1 l4.length (l4.flatMap fun a => [.int .i64 a])) (hv4 : SlW A4 c4 l4.length) (hf4 : ∀ y ∈ l4, Fits y) :
    Calls Tryz.prog 10 #[.agg #[.slice m.A m.ros.length m.c, .int .i64 m.ticks, .slice m.sA m.spans.length m.sc, .slice m.wA m.wires.length m.wc], .slice A1 l1.length c1, .slice A2 l2.length c2, .slice A3 l3.length c3, .slice A4 l4.length c4] w fun e w' => e = .returned (.bool true) ∧ Below w.heap.size w w' := by
  obtain ⟨w1, hw1⟩ : ∃ w1, w1 = w.alloc (.cells #[.slice m.A m.ros.length m.c, .int .i64 m.ticks, .slice m.sA m.spans.length m.sc, .slice m.wA m.wires.length m.wc] 26) := ⟨_, rfl⟩
  have hb1 : Below w.heap.size w w1 := by rw [hw1]; exact (Below.refl _ _).alloc (Nat.le_refl _) _
  have hbox : w1.heap[w.heap.size]? = some (.cells #[.slice m.A m.ros.length m.c, .int .i64 m.ticks, .slice m.sA m.spans.length m.sc, .slice m.wA m.wires.length m.wc] 26 (0, 0)) := by rw [hw1]; exact heap_alloc_new w _
  have HERR : Hid (∀ (e k : Int) (w' : World), Below w1.heap.size w1 w' → Calls Tryz.prog 13 #[errV e, .int .i64 k] w' fun ev w'' => ev = .returned (.bool (decide (e = k))) ∧ Below w'.heap.size w' w'') := hid fun e k w' hb => error_any e k w' (hg.new (hb1.trans (hb.mono hb1.size)))
  have HD1 : Hid (∀ w', Below w1.heap.size w1 w' → Desk w') := hid fun w' hb => hd.new (hb1.trans (hb.mono hb1.size))
  have HF1 : Hid (∀ w', Below w1.heap.size w1 w' → Forms w') := hid fun w' hb => hf.new (hb1.trans (hb.mono hb1.size))
  have HPL1 : Hid (∀ w', Below w1.heap.size w1 w' → PlanAt w' m) := hid fun w' hb => hm.new (hb1.trans (hb.mono hb1.size))
  have HRP : Hid (∀ w', Below w1.heap.size w1 w' → Calls Tryz.prog 12 #[.agg #[.slice m.A m.ros.length m.c, .int .i64 m.ticks, .slice m.sA m.spans.length m.sc, .slice m.wA m.wires.length m.wc]] w' (TellV w' (planChk m.pl))) := hid fun w' hb => rplan_any w' m (HPL1.out w' hb)
  have HNEW : Hid (∀ w', Below w1.heap.size w1 w' → planChk m.pl = 0 → Calls Tryz.prog 44 #[.agg #[.slice m.A m.ros.length m.c, .int .i64 m.ticks, .slice m.sA m.spans.length m.sc, .slice m.wA m.wires.length m.wc]] w' (LgMade w' m)) := hid fun w' hb he => lgnew_any w' m (HF1.out w' hb) (HPL1.out w' hb) he
  have HBAD : Hid (∀ w', Below w1.heap.size w1 w' → planChk m.pl ≠ 0 → Calls Tryz.prog 44 #[.agg #[.slice m.A m.ros.length m.c, .int .i64 m.ticks, .slice m.sA m.spans.length m.sc, .slice m.wA m.wires.length m.wc]] w' fun e w'' => e = .returned (.tuple #[.pointer none, errV (planChk m.pl)]) ∧ Below w'.heap.size w' w'') := hid fun w' hb he => lgnew_bad w' m (HF1.out w' hb) (HPL1.out w' hb) he
  have HREDO : Hid (planChk m.pl = 0 → ∀ w', Below w1.heap.size w1 w' → ∀ (A : Option Addr) (c : Nat) (D : List Il), Sl w' A 1 D.length (D.flatMap Il.cells) → (∀ y ∈ D, y.At w' ∧ StepOk m.pl.code.length y.l) → D.length ≤ 1000 →
      Calls Tryz.prog 52 #[.agg #[.slice m.A m.ros.length m.c, .int .i64 m.ticks, .slice m.sA m.spans.length m.sc, .slice m.wA m.wires.length m.wc], .slice A D.length c] w' fun e w'' => ∃ kb M, e = .returned (.pointer (some ⟨kb, 0, none⟩)) ∧ RRun w' w'' kb m.pl M (runRecs m.pl (D.map Il.recd)) ∧ M.P = m) := hid fun he w' hb A c D h1 h2 h3 => rredo_any w' m (HPL1.out w' hb) he A c D h1 h2 h3
  unfold TellV at HRP
  unfold LgMade at HNEW
  have HNRL : Hid (m.pl.code.length = m.ros.length) := hid (by simp only [PM.pl, List.length_map])
  obtain ⟨nr, hnr⟩ : ∃ nr, m.ros.length = nr := ⟨_, rfl⟩
  obtain ⟨ns, hns⟩ : ∃ ns, m.spans.length = ns := ⟨_, rfl⟩
  obtain ⟨nw, hnw⟩ : ∃ nw, m.wires.length = nw := ⟨_, rfl⟩
  rw [hnr, hns, hnw] at hw1 hbox HRP HNEW HBAD HREDO ⊢
  rw [hnr] at HNRL
  obtain ⟨n1, hn1⟩ : ∃ n, l1.length = n := ⟨_, rfl⟩
  obtain ⟨n2, hn2⟩ : ∃ n, l2.length = n := ⟨_, rfl⟩
  obtain ⟨n3, hn3⟩ : ∃ n, l3.length = n := ⟨_, rfl⟩
  obtain ⟨n4, hn4⟩ : ∃ n, l4.length = n := ⟨_, rfl⟩
  rw [hn1] at hs1 hv1 ⊢
  rw [hn2] at hs2 hv2 ⊢
  rw [hn3] at hs3 hv3 ⊢
  rw [hn4] at hs4 hv4 ⊢
  have HN1 := hid hn1
  have HN2 := hid hn2
  have HN3 := hid hn3
  have HN4 := hid hn4
  have HS1 := hid hs1
  have HS2 := hid hs2
  have HS3 := hid hs3
  have HS4 := hid hs4
  have HAT1 := hid hat1
  have HF3 := hid hf3
  have HF4 := hid hf4
  have HB1 := hid hb1
  have HBX : Hid (∀ w', Below w1.heap.size w1 w' → w'.cell? ⟨w.heap.size, 0, none⟩ = some (.slice m.A nr m.c) ∧ w'.cell? ⟨w.heap.size, 1, none⟩ = some (.int .i64 m.ticks) ∧ w'.cell? ⟨w.heap.size, 2, none⟩ = some (.slice m.sA ns m.sc) ∧ w'.cell? ⟨w.heap.size, 3, none⟩ = some (.slice m.wA nw m.wc) ∧ w.heap.size < w'.heap.size) := hid fun w' hb => by
    have h := (hb.block _ (blk_lt hbox)).trans hbox
    have x0 := blk_cell h 0
    have x1 := blk_cell h 1
    have x2 := blk_cell h 2
    have x3 := blk_cell h 3
    simp at x0 x1 x2 x3
    exact ⟨x0, x1, x2, x3, blk_lt h⟩
  have HREST : Hid (∀ w2, w2 = ((w1.alloc (.cells #[.int .i64 10, .int .i64 0, .int .i64 0] 42)).alloc (.cells #[.slice (some ⟨w1.heap.size, 0, none⟩) 1 1] 43)).alloc (.cells #[.slice (some ⟨w1.heap.size + 1, 0, none⟩) 1 1, .int .i64 1, .slice none 0 0, .slice none 0 0] 26) →
      Below w1.heap.size w1 w2 ∧ w2.heap[w1.heap.size + 2]? = some (.cells #[.slice (some ⟨w1.heap.size + 1, 0, none⟩) 1 1, .int .i64 1, .slice none 0 0, .slice none 0 0] 26 (0, 0)) ∧ Calls Tryz.prog 44 #[.agg #[.slice (some ⟨w1.heap.size + 1, 0, none⟩) 1 1, .int .i64 1, .slice none 0 0, .slice none 0 0]] w2 fun e w' => ∃ (lb : Nat) (m' : PM), m'.pl = restPl ∧ e = .returned (.tuple #[.pointer (some ⟨lb, 0, none⟩), .nilIface]) ∧ LgAt w1 w' lb m' Lg.new) := hid fun w2 hw2 => by
    have hb : Below w1.heap.size w1 w2 := by rw [hw2]; exact (((Below.refl _ _).alloc (Nat.le_refl _) _).alloc (by simp) _).alloc (by simp; omega) _
    have q1 : w2.heap[w1.heap.size]? = some (.cells #[.int .i64 10, .int .i64 0, .int .i64 0] 42 (0, 0)) := by
      rw [hw2]; simp only [hp_alloc, sz_alloc]; repeat (first | rw [if_pos True.intro] | rw [if_pos rfl] | rw [if_neg (by omega)])
    have q2 : w2.heap[w1.heap.size + 1]? = some (.cells #[.slice (some ⟨w1.heap.size, 0, none⟩) 1 1] 43 (0, 0)) := by
      rw [hw2]; simp only [hp_alloc, sz_alloc]; repeat (first | rw [if_pos True.intro] | rw [if_pos rfl] | rw [if_neg (by omega)])
    have q3 : w2.heap[w1.heap.size + 2]? = some (.cells #[.slice (some ⟨w1.heap.size + 1, 0, none⟩) 1 1, .int .i64 1, .slice none 0 0, .slice none 0 0] 26 (0, 0)) := by
      rw [hw2]; simp only [hp_alloc, sz_alloc]; repeat (first | rw [if_pos True.intro] | rw [if_pos rfl] | rw [if_neg (by omega)])
    exact ⟨hb, q3, rest_made (HF1.out w1 (Below.refl _ _)) hb w1.heap.size q1 q2⟩
  have HD0 := hid hd
  clear hd hf hm hs1 hs2 hs3 hs4 hat1 hf3 hf4 hb1 hbox hn1 hn2 hn3 hn4 hnr hns hnw hg
  go_enter Tryz.func10, Tryz.ntmps10
  go_upto_region 1 with fail
  rw [← hw1]
  clear hw1
  go_upto_region 2 with fail
  obtain ⟨w2, hw2⟩ : ∃ w2, w2 = ((w1.alloc (.cells #[.int .i64 10, .int .i64 0, .int .i64 0] 42)).alloc (.cells #[.slice (some ⟨w1.heap.size, 0, none⟩) 1 1] 43)).alloc (.cells #[.slice (some ⟨w1.heap.size + 1, 0, none⟩) 1 1, .int .i64 1, .slice none 0 0, .slice none 0 0] 26) := ⟨_, rfl⟩
  obtain ⟨hb2, hr2, hnew⟩ := HREST.out w2 hw2
  rw [← hw2]
  have r0 := blk_cell hr2 0
  have r1 := blk_cell hr2 1
  have r2 := blk_cell hr2 2
  have r3 := blk_cell hr2 3
  have hrl := blk_lt hr2
  simp at r0 r1 r2 r3
  have HNEW1 := hid hnew
  clear hnew hr2 hw2 HREST hb2
  go_upto_region 5 with (go_at_call 44; refine HNEW1.out.mono ?_; rintro e w3 ⟨lb, mr, hpl, rfl, hlg⟩; have HL := hid hlg; have HPM := hid hpl; clear hlg hpl HNEW1 r0 r1 r2 r3 hrl)
  have HPW1 := hid (HD1.out w1 (Below.refl _ _)).pows
  have HPWL := hid (pows_lt (HD1.out w1 (Below.refl _ _)).pows)
  have HG5 : Hid (Calls Tryz.prog 45 #[.pointer (some ⟨lb, 0, none⟩), .int .i64 5] w3 fun e w' => e = .returned .nilIface ∧ LgAt w1 w' lb mr (restL [.go 5] 0)) := by
    have h := lggo_any (m := mr) (by rw [HPM.out]; exact planChk_ok rest_chk) (Lg.new_ok _) (by simp [Lg.new]) HPW1.out HPWL.out 5 HL.out
    rw [HPM.out, rest_go5] at h
    simp only [errV_zero] at h
    exact hid h
  have HSY : Hid (∀ w', LgAt w1 w' lb mr (restL [.go 5] 0) → Calls Tryz.prog 46 #[.pointer (some ⟨lb, 0, none⟩)] w' fun e w'' => e = .returned .nilIface ∧ LgAt w1 w'' lb mr (restL [.go 5] 2)) := hid fun w' hl => by
    have h := lgsync_any (m := mr) (by rw [HPM.out]; exact rest_ok5) hl
    rw [rest_sync5] at h
    simp only [errV_zero] at h
    exact h
  have HG7 : Hid (∀ w', LgAt w1 w' lb mr (restL [.go 5] 2) → Calls Tryz.prog 45 #[.pointer (some ⟨lb, 0, none⟩), .int .i64 7] w' fun e w'' => e = .returned .nilIface ∧ LgAt w1 w'' lb mr (restL [.go 5, .go 7] 2)) := hid fun w' hl => by
    have h := lggo_any (m := mr) (by rw [HPM.out]; exact planChk_ok rest_chk) (by rw [HPM.out]; exact rest_okS) (by show 1 ≤ 1000; omega) HPW1.out HPWL.out 7 hl
    rw [HPM.out, rest_go7] at h
    simp only [errV_zero] at h
    exact h
  have HCR : Hid (∀ w', LgAt w1 w' lb mr (restL [.go 5, .go 7] 2) → Calls Tryz.prog 47 #[.pointer (some ⟨lb, 0, none⟩), .int .i64 0] w' fun e w'' => e = .returned (.tuple #[]) ∧ LgAt w1 w'' lb mr (restL [.go 5] 2)) := hid fun w' hl => by
    have h := lgcrash_any (m := mr) (by rw [HPM.out]; exact rest_chk) (by rw [HPM.out]; exact rest_ok7) (by show 2 ≤ 1000; omega) (HF1.out w1 (Below.refl _ _)) (HD1.out w1 (Below.refl _ _)) (fun t ht => by cases ht) 0 hl
    rw [rest_crash] at h
    exact h
  have HTM : Hid (∀ w', LgAt w1 w' lb mr (restL [.go 5] 2) → Calls Tryz.prog 48 #[.pointer (some ⟨lb, 0, none⟩)] w' fun e w'' => e = .returned (.int .i64 5) ∧ w' = w'') := hid fun w' hl => by
    have h := lgtime_any hl
    rw [HPM.out, show (restL [.go 5] 2).done = [.go 5] from rfl, rest_time5] at h
    exact h
  have HBY : Hid (∀ w', LgAt w1 w' lb mr (restL [.go 5] 2) → Calls Tryz.prog 49 #[.pointer (some ⟨lb, 0, none⟩)] w' fun e w'' => e = .returned (.int .i64 2) ∧ w' = w'') := hid fun w' hl => by
    have h := lgbytes_any hl
    rw [show (restL [.go 5] 2).text.length = 2 by show (recsText [.go 5] ++ []).length = 2; rw [List.append_nil, recs5]] at h
    exact h
  have HSF : Hid (∀ w', LgAt w1 w' lb mr (restL [.go 5] 2) → Calls Tryz.prog 50 #[.pointer (some ⟨lb, 0, none⟩)] w' fun e w'' => e = .returned (.int .i64 2) ∧ w' = w'') := hid fun w' hl => lgsafe_any hl
  go_upto_region 6 with (go_at_call 45; refine HG5.out.mono ?_; rintro e w4 ⟨rfl, hl⟩; have HL4 := hid hl; clear hl HG5)
  go_upto_region 7 with (go_at_call 46; refine (HSY.out _ HL4.out).mono ?_; rintro e w5 ⟨rfl, hl⟩; have HL5 := hid hl; clear hl HSY)
  go_upto_region 8 with (go_at_call 45; refine (HG7.out _ HL5.out).mono ?_; rintro e w6 ⟨rfl, hl⟩; have HL6 := hid hl; clear hl HG7)
  go_upto_region 9 with (go_at_call 47; refine (HCR.out _ HL6.out).mono ?_; rintro e w7 ⟨rfl, hl⟩; have HL7 := hid hl; clear hl HCR)
  obtain ⟨x0, x1, x2, x3, hlx⟩ := HBX.out w7 HL7.out.below
  have HB7 := hid HL7.out.below
  go_upto_region 12 with (first
    | (go_at_call 48; refine (HTM.out _ HL7.out).mono ?_; rintro e w8 ⟨rfl, rfl⟩)
    | (go_at_call 49; refine (HBY.out _ HL7.out).mono ?_; rintro e w8 ⟨rfl, rfl⟩)
    | (go_at_call 50; refine (HSF.out _ HL7.out).mono ?_; rintro e w8 ⟨rfl, rfl⟩)
    | (go_at_call 12; refine (HRP.out w7 HB7.out).mono ?_; rintro e w8 ⟨rfl, hb8⟩; have HB8 := hid (HB7.out.trans (hb8.mono HB7.out.size)); clear hb8 x0 x1 x2 x3 hlx HRP))
  clear HL HL4 HL5 HL6 HL7 HTM HBY HSF HPM
  obtain ⟨x0, x1, x2, x3, hlx⟩ := HBX.out w8 HB8.out
  obtain ⟨E, hE⟩ : ∃ E, planChk m.pl = E := ⟨_, rfl⟩
  rw [hE] at HNEW HBAD HREDO ⊢
  have HE := hid hE
  clear hE
  by_cases he : E ≠ 0
  · have hbad := HBAD.out w8 HB8.out he
    rw [errV_pos he] at hbad
    have herr := fun w' hb => HERR.out E E w' hb
    rw [errV_pos he] at herr
    have HBD := hid hbad
    have HER := hid herr
    have hne : (E == 0) = false := by simpa using he
    clear hbad herr he
    go_wp2_with (first
      | (go_at_call 44; refine HBD.out.mono ?_; rintro e w9 ⟨rfl, hb9⟩; have HB9 := hid (HB8.out.trans (hb9.mono HB8.out.size)); clear hb9 x0 x1 x2 x3 hlx)
      | (go_at_call 13; refine (HER.out w9 HB9.out).mono ?_; rintro e wa ⟨rfl, hba⟩; have HBA := hid (HB9.out.trans (hba.mono HB9.out.size)); clear hba))
    exact keeps_ret rfl rfl (HB1.out.trans (HBA.out.mono HB1.out.size))
  obtain rfl : E = 0 := by omega
  have HRD := hid (HREDO.out rfl)
  clear he HREDO
  have HPO := hid (planChk_ok HE.out)
  have HNW := hid (HNEW.out w8 HB8.out rfl)
  have hr0 := HERR.out 0 0
  rw [errV_zero] at hr0
  have HER := hid hr0
  clear HNEW HBAD hr0
  go_upto_region 17 with (first
    | (go_at_call 44; refine HNW.out.mono ?_; rintro e w9 ⟨jb, mj, hpl, rfl, hlg⟩; have HPJ := hid hpl; have HJ := hid hlg; have HB9 := hid (HB8.out.trans (hlg.below.mono HB8.out.size)); clear hpl hlg HNW x0 x1 x2 x3 hlx)
    | (go_at_call 13; refine (HER.out w9 HB9.out).mono ?_; rintro e wa ⟨rfl, hba⟩; have HBA := hid (HB9.out.trans (hba.mono HB9.out.size)); have HJA := hid (HJ.out.new hba); clear hba))
  have hks : Keeping w w8 (wa.alloc (.cells #[.int .i64 0] 3)) jb m.pl mj Lg.new none 0 [] (some ⟨wa.heap.size, 0, none⟩) 1 := keeping_start HJA.out
  go_upto_region 20 with fail
  obtain ⟨wb, hwb⟩ : ∃ wb, wb = wa.alloc (.cells #[.int .i64 0] 3) := ⟨_, rfl⟩
  rw [← hwb] at hks ⊢
  have HKS := hid hks
  clear hks hwb
  obtain ⟨hv1a, hv1b, _⟩ := hv1
  obtain ⟨hv2a, hv2b, _⟩ := hv2
  obtain ⟨hv3a, hv3b, _⟩ := hv3
  obtain ⟨hv4a, hv4b, _⟩ := hv4
  unfold maxLen at hv1b hv2b hv3b hv4b
  clear HJ HJA
  go_loopw [21, 22, 23, 24] (fun v21 v22 v23 v24 wr => ∃ (rd a : Nat) (L : Lg) (D : List Il) (A B : Option Addr) (cA cB K : Nat), rd ≤ 4 ∧ rd ≤ n3 + 1 ∧ v24 = .int .i64 rd ∧ v23 = .int .i64 a ∧ v21 = .slice A K cA ∧ v22 = .slice B (K + 1 : Nat) cB ∧ D.length = K ∧ K ≤ a ∧ a ≤ 8 * rd ∧ a ≤ n1 ∧ Keeping w w8 wr jb m.pl mj L A cA D B cB) (fun _ _ _ v24 _ => 4 - (intOf v24).toNat)
  case atStart => exact ⟨0, 0, Lg.new, [], none, some ⟨wa.heap.size, 0, none⟩, 0, 1, 0, by omega, by omega, rfl, rfl, rfl, rfl, rfl, by omega, by omega, by omega, HKS.out⟩
  case round =>
    obtain ⟨wo, rfl⟩ : ∃ wo : World, wo = wr := ⟨_, rfl⟩
    obtain ⟨rd, a, L, D, A, B, cA, cB, K, hrd, hrn, rfl, rfl, rfl, rfl, hDK, hKa, ha8, han, hks⟩ := hrel
    have HK := hid hks
    have HDK := hid hDK
    clear hks HKS hDK
    as_aux_lemma =>
    by_cases hgo : rd ≤ n3 ∧ rd < 4
    · obtain ⟨hgo1, hgo2⟩ := hgo
      go_upto_if 113 with fail
      go_cut [118] (fun _ wx => ∃ L2 : Lg, L2.done = L.done ∧ Keeping w w8 wx jb m.pl mj L2 A cA D B cB)
      case first =>
        as_aux_lemma =>
        by_cases hr : rd < n3
        · obtain ⟨fb, fo, rfl, g0⟩ := sl_num (i := rd) HS3.out (HB1.out.trans ((HB8.out.trans (HK.out.lies.below.mono HB8.out.size)).mono HB1.out.size)) (by rw [HN3.out]; exact hr) (by omega)
          have hgl := cell_lt g0
          have hfit := HF3.out (l3.getD rd 0) (by rw [List.getD_eq_getElem?_getD, List.getElem?_eq_getElem (by rw [HN3.out]; exact hr)]; exact List.getElem_mem _)
          obtain ⟨x, hx⟩ : ∃ x, x = l3.getD rd 0 := ⟨_, rfl⟩
          rw [← hx] at g0 hfit
          have HFA := hid (lgfail_any x hfit.2 hfit.1 HK.out.lies)
          have HFX := hid hfit
          clear hx hfit
          go_wp2_with (go_at_call 51; refine HFA.out.mono ?_; rintro e wx ⟨rfl, hl⟩; have HLX := hid hl; clear hl HFA g0 hgl)
          go_meet
          exact ⟨L.fail x, rfl, HK.out.same HLX.out (Lg.fail_ok HK.out.ok x (by have := HFX.out.2; omega)) rfl⟩
        · go_wp2_with fail
          go_meet
          exact ⟨L, rfl, HK.out⟩
      obtain ⟨L2, hL2, hks2⟩ := hcut
      obtain ⟨wo, rfl⟩ : ∃ wo : World, wo = wc := ⟨_, rfl⟩
      have HK2 := hid hks2
      have hDK2 : D.length = K := HDK.out
      clear hks2 hL2 HK
      go_upto_block 2 with fail
      go_cut [21, 22, 23, 25] (fun v21 v22 v23 _ wx => ∃ (a' : Nat) (L : Lg) (D : List Il) (A B : Option Addr) (cA cB K : Nat), v23 = .int .i64 a' ∧ v21 = .slice A K cA ∧ v22 = .slice B (K + 1 : Nat) cB ∧ D.length = K ∧ K ≤ a' ∧ a' ≤ 8 * rd + 8 ∧ a' ≤ n1 ∧ Keeping w w8 wx jb m.pl mj L A cA D B cB)
      case first =>
        as_aux_lemma =>
        go_wp2_with fail
        go_loopw [21, 22, 23, 25] (fun v21 v22 v23 v25 wr => ∃ (k a' : Nat) (L : Lg) (D : List Il) (A B : Option Addr) (cA cB K : Nat), k ≤ 8 ∧ v25 = .int .i64 k ∧ v23 = .int .i64 a' ∧ v21 = .slice A K cA ∧ v22 = .slice B (K + 1 : Nat) cB ∧ D.length = K ∧ K ≤ a' ∧ a' ≤ 8 * rd + k ∧ a' ≤ n1 ∧ Keeping w w8 wr jb m.pl mj L A cA D B cB) (fun _ _ _ v25 _ => 8 - (intOf v25).toNat)
        case atStart => exact ⟨0, a, L2, D, A, B, cA, cB, K, by omega, rfl, rfl, rfl, rfl, hDK2, by omega, by omega, by omega, HK2.out⟩
        case round =>
          as_aux_lemma =>
          obtain ⟨wi, rfl⟩ : ∃ wi : World, wi = wr := ⟨_, rfl⟩
          obtain ⟨k, a', Li, Di, Ai, Bi, cAi, cBi, Ki, hk8, rfl, rfl, rfl, rfl, hDi, hKi, hai8, hain, hksi⟩ := hrel
          have HKI := hid hksi
          have HDI := hid hDi
          clear hksi hDi HK2 hDK2
          by_cases hgo3 : k < 8 ∧ a' < n1
          · obtain ⟨hgk, hga⟩ := hgo3
            have HWI := hid (HB1.out.trans ((HB8.out.trans (HKI.out.lies.below.mono HB8.out.size)).mono HB1.out.size))
            go_upto_region 27 with fail
            go_cut [152] (fun v wx => v = .bool false ∧ ∃ L' : Lg, L'.done = Li.done ∧ Keeping w w8 wx jb m.pl mj L' Ai cAi Di Bi cBi)
            case first =>
              as_aux_lemma =>
              by_cases hr : a' < n2
              · obtain ⟨fb, fo, rfl, g0⟩ := sl_num (i := a') HS2.out HWI.out (by rw [HN2.out]; exact hr) (by omega)
                have hgl := cell_lt g0
                obtain ⟨x, hx⟩ : ∃ x, x = l2.getD a' 0 := ⟨_, rfl⟩
                rw [← hx] at g0
                clear hx
                by_cases hx1 : x = 1
                · subst hx1
                  have hsy := lgsync_any (m := mj) (by rw [HPJ.out]; exact HKI.out.ok) HKI.out.lies
                  obtain ⟨hsl1, hsl2, hsl3⟩ := sync_law HKI.out.ok
                  obtain ⟨q, hq⟩ : ∃ q, q = Li.syncE := ⟨_, rfl⟩
                  rw [← hq] at hsy hsl1 hsl2 hsl3
                  obtain ⟨qe, qL⟩ := q
                  simp only [] at hsy hsl1 hsl2 hsl3
                  clear hq
                  have HSL1 := hid hsl1
                  have HSL2 := hid hsl2
                  by_cases hq0 : qe = 0
                  · subst hq0
                    rw [errV_zero] at hsy
                    have hss := hsl3 rfl
                    obtain ⟨T, hT⟩ : ∃ T, T = qL.text.length := ⟨_, rfl⟩
                    have HSAF : Hid (∀ w', LgAt w8 w' jb mj qL (keptT Ai cAi Di Bi cBi Li.done) → Calls Tryz.prog 50 #[.pointer (some ⟨jb, 0, none⟩)] w' fun e w'' => e = .returned (.int .i64 T) ∧ w' = w'') := hid fun w' h => by
                      have h2 := lgsafe_any h
                      rw [hss, ← hT] at h2; exact h2
                    have HBYT : Hid (∀ w', LgAt w8 w' jb mj qL (keptT Ai cAi Di Bi cBi Li.done) → Calls Tryz.prog 49 #[.pointer (some ⟨jb, 0, none⟩)] w' fun e w'' => e = .returned (.int .i64 T) ∧ w' = w'') := hid fun w' h => by
                      have h2 := lgbytes_any h
                      rw [← hT] at h2; exact h2
                    have HSY := hid hsy
                    clear hsy hsl1 hsl2 hsl3 hss hT
                    go_wp2_with (first
                      | (go_at_call 46; refine HSY.out.mono ?_; rintro e wx ⟨rfl, hl⟩; have HLX := hid hl; clear hl HSY g0 hgl)
                      | (go_at_call 50; refine (HSAF.out _ HLX.out).mono ?_; rintro e wy ⟨rfl, rfl⟩)
                      | (go_at_call 49; refine (HBYT.out _ HLX.out).mono ?_; rintro e wy ⟨rfl, rfl⟩))
                    go_meet
                    exact ⟨rfl, qL, HSL2.out, HKI.out.same HLX.out HSL1.out HSL2.out⟩
                  · rw [errV_pos hq0] at hsy
                    have HSY := hid hsy
                    clear hsy hsl1 hsl2 hsl3
                    go_wp2_with (go_at_call 46; refine HSY.out.mono ?_; rintro e wx ⟨rfl, hl⟩; have HLX := hid hl; clear hl HSY g0 hgl)
                    go_meet
                    exact ⟨rfl, qL, HSL2.out, HKI.out.same HLX.out HSL1.out HSL2.out⟩
                · have hx2 : (x == 1) = false := by simpa using hx1
                  go_wp2_with fail
                  go_meet
                  exact ⟨rfl, Li, rfl, HKI.out⟩
              · go_wp2_with fail
                go_meet
                exact ⟨rfl, Li, rfl, HKI.out⟩
            case rest =>
              as_aux_lemma =>
              obtain ⟨rfl, L2i, hL2i, hks2i⟩ := hcut
              obtain ⟨wj, rfl⟩ : ∃ wj : World, wj = wc := ⟨_, rfl⟩
              have HKJ := hid hks2i
              clear hks2i HKI hL2i HWI
              have hal : a' < l1.length := by rw [HN1.out]; exact hga
              have hget := List.getElem?_eq_getElem hal
              have hyat := HAT1.out _ (List.getElem_mem hal)
              obtain ⟨sb, so, rfl, hsb, hsx⟩ := HS1.out.2 (by omega)
              have hcell := flatMap_get Il.cells 1 Il.len l1 a' 0 _ hget (by decide)
              rw [Nat.mul_one, Nat.add_zero] at hcell
              replace hcell := hsx a' _ (hcell.trans rfl)
              generalize l1[a'] = y at hyat hcell hget
              obtain ⟨ny, hny⟩ : ∃ ny, y.l.length = ny := ⟨_, rfl⟩
              have hcw : ∀ w', Below w.heap.size w w' → w'.cell? ⟨sb, so + a', none⟩ = some (.slice y.A y.l.length y.c) := fun w' hb => (hb.cell (p := ⟨sb, so + a', none⟩) hsb).trans hcell
              rw [hny] at hcw
              have HCW := hid hcw
              have HYAT := hid hyat
              have HNY := hid hny
              have HWJ := hid (HB1.out.trans ((HB8.out.trans (HKJ.out.lies.below.mono HB8.out.size)).mono HB1.out.size))
              clear hget hyat hsx hcell hcw hny hal
              go_upto_block 4 with fail
              obtain ⟨w6, hw6⟩ : ∃ w6, w6 = wj.alloc (.cells #[.int .i64 0, .int .i64 0, .int .i64 0] 93) := ⟨_, rfl⟩
              rw [← hw6]
              obtain ⟨vb, hvb⟩ : ∃ vb, vb = wj.heap.size := ⟨_, rfl⟩
              rw [← hvb]
              have hb6 : Below wj.heap.size wj w6 := by rw [hw6]; exact (Below.refl _ _).alloc (Nat.le_refl _) _
              have hv6 : w6.heap[vb]? = some (vObj y.l 0) := by rw [hw6, hvb]; exact heap_alloc_new wj _
              have HV6 := hid hv6
              have HW6 := hid (HWJ.out.trans (hb6.mono HWJ.out.size))
              have hvw : w.heap.size ≤ vb := by rw [hvb]; exact HWJ.out.size
              have HB6 := hid hb6
              have HVB := hid hvb
              clear hw6 hb6 hv6 hvb
              go_cut [27] (fun v27 wx => (∃ j : Nat, v27 = .int .i64 j) ∧ wx.heap[vb]? = some (.cells #[.int .i64 (y.l.getD 0 0), .int .i64 (y.l.getD 1 0), .int .i64 (y.l.getD 2 0)] 93 (0, 0)) ∧ Keep (fun j => j = vb) w6 wx)
              case first =>
                as_aux_lemma =>
                go_wp2_with fail
                go_loopw [27] (fun v27 wr => ∃ j : Nat, j ≤ 3 ∧ j ≤ ny ∧ v27 = .int .i64 j ∧ wr.heap[vb]? = some (vObj y.l j) ∧ Keep (fun j => j = vb) w6 wr) (fun v27 _ => 3 - (intOf v27).toNat)
                case atStart => exact ⟨0, by omega, by omega, rfl, HV6.out, Keep.refl _ _⟩
                case round =>
                  obtain ⟨wt, rfl⟩ : ∃ wt : World, wt = wr := ⟨_, rfl⟩
                  obtain ⟨j, hj3, hjn, rfl, hvt, hkt⟩ := hrel
                  have HVT := hid hvt
                  have HKT := hid hkt
                  have HOLD : Hid (∀ b, b < w.heap.size → wt.heap[b]? = w.heap[b]?) := fun b hb => (hkt.block b (Nat.lt_of_lt_of_le hb HW6.out.size) (by omega)).trans (HW6.out.block b hb)
                  have y0 : wt.cell? ⟨sb, so + a', none⟩ = some (.slice y.A ny y.c) := (World.cell?_of_block (HOLD.out sb hsb)).trans (HCW.out w (Below.refl _ _))
                  have hltb := cell_lt y0
                  clear hvt hkt
                  by_cases hjy : j < ny
                  · by_cases hj : j < 3
                    · obtain ⟨yb, yo, hyA, hyb, hyx⟩ := HYAT.out.1.2 (by rw [HNY.out]; omega)
                      have hjl : j < y.l.length := by rw [HNY.out]; exact hjy
                      have hu : (y.l.flatMap fun a => [Value.int .i64 a])[j]? = some (.int .i64 (y.l.getD j 0)) := by
                        have := flatMap_get (fun a : Int => [Value.int .i64 a]) 1 (fun _ => rfl) y.l j 0 _ (List.getElem?_eq_getElem hjl) (by decide)
                        rw [Nat.mul_one, Nat.add_zero] at this
                        rw [List.getD_eq_getElem?_getD, List.getElem?_eq_getElem hjl]
                        exact this.trans rfl
                      have z0 : wt.cell? ⟨yb, yo + j, none⟩ = some (.int .i64 (y.l.getD j 0)) := (World.cell?_of_block (HOLD.out yb hyb)).trans (hyx j _ hu)
                      rw [hyA] at y0
                      have hltz := cell_lt z0
                      have hyv : yb ≠ vb := by omega
                      have hlv : sb ≠ vb := by omega
                      have hvt := HVT.out
                      unfold vObj at hvt
                      have gf := blk_free hvt j
                      have hltv := blk_lt hvt
                      obtain ⟨wx, hwx⟩ : ∃ wx, wx = wt.setCell ⟨vb, j, none⟩ (.int .i64 (y.l.getD j 0)) := ⟨_, rfl⟩
                      have hkx : Keep (fun j => j = vb) w6 wx := by rw [hwx]; exact HKT.out.setCell (.inl rfl) _
                      have hvx : wx.heap[vb]? = some (vObj y.l (j + 1)) := by rw [hwx]; exact v_next hj HVT.out
                      have HKX := hid hkx
                      have HVX := hid hvx
                      have gj : ∃ g, wt.cell? ⟨vb, j, none⟩ = some g := by
                        rcases (show j = 0 ∨ j = 1 ∨ j = 2 by omega) with rfl | rfl | rfl
                        · exact ⟨_, blk_cell hvt 0⟩
                        · exact ⟨_, blk_cell hvt 1⟩
                        · exact ⟨_, blk_cell hvt 2⟩
                      obtain ⟨g, gj⟩ := gj
                      obtain ⟨u, hu2⟩ : ∃ u, u = y.l.getD j 0 := ⟨_, rfl⟩
                      rw [← hu2] at z0 hwx
                      clear hkx hvx hvt hu hyx hjl hyA hu2
                      go_wp2_with fail
                      rw [← hwx]
                      go_roundw
                      case rel => exact ⟨j + 1, by omega, by omega, by go_num, HVX.out, HKX.out⟩
                      case measure => simp [intOf]; omega
                    · obtain rfl : j = 3 := by omega
                      go_wp2_with fail
                      go_meet
                      exact ⟨⟨3, rfl⟩, HVT.out.trans (by rw [v_end (.inl rfl)]), HKT.out⟩
                  · have hd : decide ((j : Int) < (ny : Int)) = false := decide_eq_false (by omega)
                    go_wp2_with fail
                    go_meet
                    exact ⟨⟨j, rfl⟩, HVT.out.trans (by rw [v_end (.inr ⟨hj3, by rw [HNY.out]; omega⟩)]), HKT.out⟩
              case rest =>
                as_aux_lemma =>
                obtain ⟨⟨j27, rfl⟩, hva, hkv⟩ := hcut
                obtain ⟨wv, rfl⟩ : ∃ wv : World, wv = wc := ⟨_, rfl⟩
                have HLV := hid (lg_array HKJ.out.lies HVB.out HB6.out hkv hva)
                have HWV := hid (HB8.out.trans (HLV.out.below.mono HB8.out.size))
                have HWW := hid (HB1.out.trans (HWV.out.mono HB1.out.size))
                have hK40 : Ki ≤ 40 := by omega
                have hrd := HRD.out wv HWV.out Ai cAi Di (Row.sl (HLV.out.thing 0 rfl).here) (fun z hz => ⟨(HKJ.out.steps z hz).1.new HWW.out, (HKJ.out.steps z hz).2⟩) (by rw [HDI.out]; omega)
                rw [HDI.out, ← HKJ.out.recs] at hrd
                have HRDC := hid hrd
                obtain ⟨a0, ha0⟩ : ∃ a0, y.l.getD 0 0 = a0 := ⟨_, rfl⟩
                obtain ⟨a1, ha1⟩ : ∃ a1, y.l.getD 1 0 = a1 := ⟨_, rfl⟩
                obtain ⟨a2, ha2⟩ : ∃ a2, y.l.getD 2 0 = a2 := ⟨_, rfl⟩
                rw [ha0, ha1, ha2] at HLV
                have HA0 := hid ha0
                have HA1 := hid ha1
                have HA2 := hid ha2
                obtain ⟨TB, hTB⟩ : ∃ TB, TB = L2i.text.length := ⟨_, rfl⟩
                have HBYC : Hid (∀ (w' : World) (ts : List Tg), LgAt w8 w' jb mj L2i ts → Calls Tryz.prog 49 #[.pointer (some ⟨jb, 0, none⟩)] w' fun e w'' => e = .returned (.int .i64 TB) ∧ w' = w'') := hid fun w' ts h => by
                  have h2 := lgbytes_any h
                  rw [← hTB] at h2; exact h2
                have HTB := hid hTB
                have HOLD := hid (HPL1.out w8 HB8.out).lt
                obtain ⟨x0, x1, x2, x3, hlx⟩ := HBX.out wv HWV.out
                clear hrd ha0 ha1 ha2 hva hkv hTB HV6 HW6 HB6 HVB
                go_upto_if 185 with (first
                  | (go_at_call 52; refine HRDC.out.mono ?_; rintro e w4 ⟨kb, M, rfl, hrr, hmp⟩; have HL4 := hid (lg_redone HLV.out hrr hmp HOLD.out); have hy4 := HCW.out w4 (HWW.out.trans (hrr.below.mono HWW.out.size)); have hly4 := cell_lt hy4; clear hrr hmp HRDC x0 x1 x2 x3 hlx)
                  | (go_at_call 49; refine (HBYC.out _ _ HL4.out).mono ?_; rintro e w5 ⟨rfl, rfl⟩))
                clear HLV HWV HWW
                obtain ⟨q, hq⟩ : ∃ q, q = stepE m.pl L2i y.l := ⟨_, rfl⟩
                obtain ⟨R, hR⟩ : ∃ R, R = stepR m.pl L2i y.l := ⟨_, rfl⟩
                have HQ := hid hq
                have HR := hid hR
                clear hq hR
                go_cut [30, 31] (fun v30 v31 wx => v30 = .int .i64 R ∧ v31 = errV q.1 ∧ LgAt w8 wx jb mj q.2 (keptT Ai cAi Di Bi cBi L2i.done))
                case first =>
                  as_aux_lemma =>
                  have hkok := runRecs_ok HPO.out HKJ.out.ok.recs
                  have hrm5 : (runRecs m.pl L2i.done).rooms.length ≤ 5 := by rw [hkok.rooms]; exact HPO.out.most5
                  have hd40 : L2i.done.length ≤ 40 := by rw [HKJ.out.recs, List.length_map, HDI.out]; exact hK40
                  have hfew : L2i.done.length ≤ 1000 := by omega
                  have hpw := (HD1.out w8 HB8.out).pows
                  have hva := (HL4.out.thing 2 rfl).here
                  have hka := (HL4.out.thing 3 rfl).here.1
                  have v0 := blk_cell hva 0
                  have v1 := blk_cell hva 1
                  have v2 := blk_cell hva 2
                  have hvl := blk_lt hva
                  simp at v0 v1 v2
                  obtain ⟨_, _, _, _, _, k6, kf, hkb⟩ := hka.cells
                  by_cases h1 : ny = 1
                  · have hE : L2i.goE m.pl a0 = q := by rw [HQ.out]; unfold stepE; rw [if_pos (by rw [HNY.out]; exact h1), HA0.out]
                    have hR : R = (if a0 < 0 ∨ 100 < a0 then 1 else if 2000 < (runRecs m.pl L2i.done).time + a0 then 4 else 0) := by rw [HR.out]; unfold stepR; rw [if_pos (by rw [HNY.out]; exact h1), HA0.out]
                    have hgo := fun (w' : World) (ts : List Tg) (h : LgAt w8 w' jb mj L2i ts) => lggo_any (m := mj) (by rw [HPJ.out]; exact HPO.out) (by rw [HPJ.out]; exact HKJ.out.ok) hfew hpw (pows_lt hpw) a0 h
                    rw [HPJ.out, hE] at hgo
                    have ht0 := hkok.time0
                    have htB := hkok.timeB
                    obtain ⟨tm, htm⟩ : ∃ tm, tm = (runRecs m.pl L2i.done).time := ⟨_, rfl⟩
                    rw [← htm] at k6 ht0 htB hR
                    have HGO := hid hgo
                    subst h1
                    clear hE hgo hkok hrm5 hfew hpw hva hka htm
                    rcases (show a0 < 0 ∨ (100 < a0 ∧ 0 ≤ a0) ∨ (0 ≤ a0 ∧ a0 ≤ 100 ∧ 2000 < tm + a0) ∨ (0 ≤ a0 ∧ a0 ≤ 100 ∧ tm + a0 ≤ 2000) by omega) with h | ⟨h, h'⟩ | ⟨h, h', h''⟩ | ⟨h, h', h''⟩
                    · rw [if_pos (.inl h)] at hR
                      have HRV := hid hR
                      clear hR
                      go_wp2_with (go_at_call 45; refine (HGO.out _ _ HL4.out).mono ?_; rintro e wx ⟨rfl, hl⟩; have HLX := hid hl; clear hl)
                      go_meet
                      exact ⟨by rw [HRV.out], rfl, (HLX.out.few (us := [_])).few (us := [_])⟩
                    · rw [if_pos (.inr h)] at hR
                      have HRV := hid hR
                      clear hR
                      go_wp2_with (go_at_call 45; refine (HGO.out _ _ HL4.out).mono ?_; rintro e wx ⟨rfl, hl⟩; have HLX := hid hl; clear hl)
                      go_meet
                      exact ⟨by rw [HRV.out], rfl, (HLX.out.few (us := [_])).few (us := [_])⟩
                    all_goals
                      have hwt : IntKind.i64.wrap (tm + a0) = tm + a0 := IntWalk.i64_in _ (by omega)
                      first
                      | rw [if_neg (by omega), if_pos h''] at hR
                      | rw [if_neg (by omega), if_neg (by omega)] at hR
                      have HRV := hid hR
                      clear hR
                      go_upto_region 41 with fail
                      go_quiet (fail)
                      go_wp2_with (go_at_call 45; refine (HGO.out _ _ (HL4.out.new (below_drawn (Below.refl _ _) _))).mono ?_; rintro e wx ⟨rfl, hl⟩; have HLX := hid hl; clear hl)
                      go_meet
                      exact ⟨by rw [HRV.out], rfl, (HLX.out.few (us := [_])).few (us := [_])⟩
                  · have hE : L2i.pokeE m.pl a0 a1 a2 = q := by rw [HQ.out]; unfold stepE; rw [if_neg (by rw [HNY.out]; exact h1), HA0.out, HA1.out, HA2.out]
                    have hR : R = (if pokeOk m.pl.code.length a0 a1 a2 = true then 0 else 1) := by rw [HR.out]; unfold stepR; rw [if_neg (by rw [HNY.out]; exact h1), HA0.out, HA1.out, HA2.out]
                    have hgo := fun (w' : World) (ts : List Tg) (h : LgAt w8 w' jb mj L2i ts) => lgpoke_any (m := mj) (by rw [HPJ.out]; exact HPO.out) (by rw [HPJ.out]; exact HKJ.out.ok) hfew hpw (pows_lt hpw) a0 a1 a2 h
                    rw [HPJ.out, hE] at hgo
                    have HGO := hid hgo
                    have h1b : ((ny : Int) == 1) = false := by rw [beq_eq_false_iff_ne]; omega
                    have h1c : ¬ (ny : Int) = 1 := by omega
                    by_cases hpk : pokeOk m.pl.code.length a0 a1 a2 = true
                    · rw [if_pos hpk] at hR
                      have HRV := hid hR
                      have HRP := hid (rpoke_ok a0 a1 a2 hrm5 hka (by rw [hkok.rooms]; exact hpk))
                      unfold RPoked at HRP
                      clear hE hR hgo hkok hrm5 hfew hpw hva hka hpk k6 kf hkb h1
                      go_wp2_with (first
                        | (go_at_call 53; refine HRP.out.mono ?_; rintro e w7 ⟨rfl, hk7, hkp7, _⟩; have HL7 := hid (lg_poked HL4.out hk7 hkp7); have hva7 := (HL7.out.thing 2 rfl).here; clear v0 v1 v2 hvl hk7 hkp7; have v0 := blk_cell hva7 0; have v1 := blk_cell hva7 1; have v2 := blk_cell hva7 2; have hvl := blk_lt hva7; clear hva7; simp at v0 v1 v2; clear HRP)
                        | (go_at_call 54; refine (HGO.out _ _ HL7.out).mono ?_; rintro e wx ⟨rfl, hl⟩; have HLX := hid hl; clear hl))
                      go_meet
                      exact ⟨by rw [HRV.out], rfl, HLX.out.few (us := [_, _])⟩
                    · rw [if_neg hpk] at hR
                      have HRV := hid hR
                      have HRP := hid (rpoke_bad a0 a1 a2 hrm5 hka (by rw [hkok.rooms]; simpa using hpk))
                      clear hE hR hgo hkok hrm5 hfew hpw hva hka hpk k6 kf hkb h1
                      go_wp2_with (first
                        | (go_at_call 53; refine HRP.out.mono ?_; rintro e w7 ⟨rfl, rfl⟩; clear HRP)
                        | (go_at_call 54; refine (HGO.out _ _ HL4.out).mono ?_; rintro e wx ⟨rfl, hl⟩; have HLX := hid hl; clear hl))
                      go_meet
                      exact ⟨by rw [HRV.out], rfl, (HLX.out.few (us := [_])).few (us := [_])⟩
                case rest =>
                  as_aux_lemma =>
                  obtain ⟨rfl, rfl, hl5⟩ := hcut
                  obtain ⟨wk, rfl⟩ : ∃ wk : World, wk = wc := ⟨_, rfl⟩
                  have hst := stepped HPO.out.most5 HKJ.out.ok y.l
                  have htold := hst.told
                  rw [← HQ.out] at hst htold
                  rw [← HR.out] at htold
                  obtain ⟨B6, hB6⟩ : ∃ B6, B6 = decide (q.1 = 6) := ⟨_, rfl⟩
                  obtain ⟨BR, hBR⟩ : ∃ BR, BR = decide (q.1 = R) := ⟨_, rfl⟩
                  have htb : B6 = true ∨ (B6 = false ∧ BR = true) := by
                    rcases htold with h | h
                    · left; rw [hB6]; exact decide_eq_true h
                    · by_cases h6 : q.1 = 6
                      · left; rw [hB6]; exact decide_eq_true h6
                      · right; exact ⟨by rw [hB6]; exact decide_eq_false h6, by rw [hBR]; exact decide_eq_true h⟩
                  have HE6 : Hid (∀ w', Below w1.heap.size w1 w' → Calls Tryz.prog 13 #[errV q.1, .int .i64 6] w' fun ev w'' => ev = .returned (.bool B6) ∧ Below w'.heap.size w' w'') := hid fun w' hb => by rw [hB6]; exact HERR.out q.1 6 w' hb
                  have HER2 : Hid (∀ w', Below w1.heap.size w1 w' → Calls Tryz.prog 13 #[errV q.1, .int .i64 R] w' fun ev w'' => ev = .returned (.bool BR) ∧ Below w'.heap.size w' w'') := hid fun w' hb => by rw [hBR]; exact HERR.out q.1 R w' hb
                  have HST := hid hst
                  have HL5 := hid hl5
                  have HTB2 := hid htb
                  clear hst hl5 htold hB6 hBR htb HL4 hy4 hly4 HQ HR
                  go_upto_region 47 with (go_at_call 13; refine (HE6.out _ (HB8.out.trans (HL5.out.below.mono HB8.out.size))).mono ?_; rintro e wx ⟨rfl, hbx⟩; replace HL5 := hid (HL5.out.new hbx); clear hbx)
                  go_upto_region 48 with (go_at_call 13; refine (HER2.out _ (HB8.out.trans (HL5.out.below.mono HB8.out.size))).mono ?_; rintro e wx ⟨rfl, hbx⟩; replace HL5 := hid (HL5.out.new hbx); clear hbx)
                  go_cut [232] (fun v wx => v = .bool false ∧ LgAt w8 wx jb mj q.2 (keptT Ai cAi Di Bi cBi L2i.done))
                  case first =>
                    as_aux_lemma =>
                    rcases HTB2.out with rfl | ⟨rfl, rfl⟩
                    · go_wp2_with fail
                      go_meet
                      exact ⟨rfl, HL5.out⟩
                    · go_wp2_with fail
                      go_meet
                      exact ⟨rfl, HL5.out⟩
                  case rest =>
                    as_aux_lemma =>
                    obtain ⟨rfl, hl6⟩ := hcut
                    obtain ⟨wl, rfl⟩ : ∃ wl : World, wl = wc := ⟨_, rfl⟩
                    have HL6 := hid hl6
                    clear hl6 HL5 HTB2 HE6 HER2
                    go_upto_region 50 with fail
                    obtain ⟨Z, hZ⟩ : ∃ Z, Z = decide (q.1 = 0) := ⟨_, rfl⟩
                    have hrun : ∀ w', (binOp .eql 30 (errV q.1) .nilIface).run Tryz.prog w' = .ok (.bool Z) w' := fun w' => by rw [hZ]; exact err_nil q.1 w'
                    have hgrd := fun w' => err_nil_guard q.1 w'
                    have HZ := hid hZ
                    clear hZ
                    go_upto_if 234 with fail
                    clear hrun hgrd
                    go_cut [21, 22] (fun v21 v22 wx => ∃ (L' : Lg) (D' : List Il) (A' B' : Option Addr) (cA' cB' K' : Nat), v21 = .slice A' K' cA' ∧ v22 = .slice B' (K' + 1 : Nat) cB' ∧ D'.length = K' ∧ K' ≤ a' + 1 ∧ Keeping w w8 wx jb m.pl mj L' A' cA' D' B' cB')
                    case first =>
                      as_aux_lemma =>
                      by_cases hq0 : q.1 = 0
                      · have hgood := HST.out.good hq0
                        have hl40 : L2i.done.length = Ki := by rw [HKJ.out.recs, List.length_map, HDI.out]
                        have htl := Lg.text_le HPO.out.most5 HST.out.ok
                        have hdl : q.2.done.length = Ki + 1 := by rw [hgood.2.1, List.length_append, hl40]; rfl
                        have hsnoc := hgood.2.2.1
                        obtain ⟨T2, hT2⟩ : ∃ T2, T2 = q.2.text.length := ⟨_, rfl⟩
                        rw [← hT2] at htl hsnoc
                        rw [← HTB.out] at hsnoc
                        rw [hdl] at htl
                        have HBY2 : Hid (∀ (w' : World) (ts : List Tg), LgAt w8 w' jb mj q.2 ts → Calls Tryz.prog 49 #[.pointer (some ⟨jb, 0, none⟩)] w' fun e w'' => e = .returned (.int .i64 T2) ∧ w' = w'') := hid fun w' ts h => by
                          have h2 := lgbytes_any h
                          rw [← hT2] at h2; exact h2
                        have HT2 := hid hT2
                        have HL40 := hid hl40
                        obtain ⟨i0, hi0, hz0, hz1, hz2⟩ := info_parts Tryz.infoInt
                        obtain ⟨i1, hi1, hy0, hy1, hy2⟩ := info_parts Tryz.infoIntsK
                        have hyl := HCW.out wl (HB1.out.trans ((HB8.out.trans (HL6.out.below.mono HB8.out.size)).mono HB1.out.size))
                        have hyll := cell_lt hyl
                        obtain rfl : Z = true := by rw [HZ.out]; exact decide_eq_true hq0
                        have HQ0 := hid hq0
                        clear hgood hl40 hdl hT2 hq0
                        go_upto_region 53 with (go_at_call 49; refine (HBY2.out _ _ HL6.out).mono ?_; rintro e w9 ⟨rfl, rfl⟩)
                        go_wp2_with (at_builtin; refine wpList_append_row _ rfl _ _ 86 rfl 64 i1 (.slice none 0 0) 1 24 Tryz.underlying86 hi1 hy0 hy1 hy2 rfl (by decide) Ai Ki cAi (Di.flatMap Il.cells) rfl ?c0 (some ⟨wl.heap.size, 0, none⟩) 1 1 [.slice y.A ny y.c] rfl ?c1 ?c2 ?c3 ?c4 ?_)
                        case c0 => rw [← HDI.out]; exact Row.alloc (HL6.out.thing 0 rfl).here _
                        case c1 => exact one_sl wl _ _
                        case c2 => intro u hu; simp at hu; subst hu; rfl
                        case c3 => unfold maxLen; omega
                        case c4 => omega
                        intro A7 c7 w7 hr7 hk7 hi7
                        have hb7 : Below wl.heap.size wl (wl.alloc (.cells #[.slice y.A ny y.c] 64)) := (Below.refl _ _).alloc (Nat.le_refl _) _
                        have HL7 := hid ((HL6.out.new hb7).goes 0 rfl (row_went hr7 hk7 (fun j hj => (hi7 j hj).imp id fun h => by rw [sz_alloc]; exact h)))
                        clear hr7 hk7 hi7 hb7
                        go_upto_region 54 with fail
                        go_wp2_with (first
                          | (go_at_call 49; refine (HBY2.out _ _ HL7.out).mono ?_; rintro e w9 ⟨rfl, rfl⟩)
                          | (at_builtin; refine wpList_append_row _ rfl _ _ 64 rfl 3 i0 (.int .i64 0) 1 8 Tryz.underlying64 hi0 hz0 hz1 hz2 rfl (by decide) Bi (Ki + 1) cBi (ints (marksOf L2i.done)) rfl ?d0 (some ⟨w7.heap.size, 0, none⟩) 1 1 [.int .i64 T2] rfl ?d1 ?d2 ?d3 ?d4 ?_))
                        case d0 => rw [← HL40.out]; exact Row.alloc (HL7.out.thing 1 rfl).here _
                        case d1 => exact one_sl w7 _ _
                        case d2 => intro u hu; simp at hu; subst hu; rfl
                        case d3 => unfold maxLen; omega
                        case d4 => omega
                        intro B8 c8 w8' hr8 hk8' hi8
                        have hb8 : Below w7.heap.size w7 (w7.alloc (.cells #[.int .i64 T2] 3)) := (Below.refl _ _).alloc (Nat.le_refl _) _
                        have HL8 := hid ((HL7.out.new hb8).goes 1 rfl (row_went hr8 hk8' (fun j hj => (hi8 j hj).imp id fun h => by rw [sz_alloc]; exact h)))
                        clear hr8 hk8' hi8 hb8
                        go_wp2_with fail
                        go_meet
                        refine ⟨q.2, Di ++ [y], A7, B8, c7, c8, Ki + 1, rfl, by first | rfl | (congr 1), by rw [List.length_append, HDI.out]; rfl, by omega, ?_⟩
                        refine keeping_more HKJ.out.recs HKJ.out.steps HST.out HQ0.out HYAT.out ?_
                        have h8 := HL8.out
                        rw [HDI.out, HL40.out, HNY.out, ← HT2.out]
                        exact h8
                      · obtain rfl : Z = false := by rw [HZ.out]; exact decide_eq_false hq0
                        go_wp2_with fail
                        go_meet
                        exact ⟨q.2, Di, Ai, Bi, cAi, cBi, Ki, rfl, rfl, HDI.out, by omega, HKJ.out.same HL6.out HST.out.ok (HST.out.bad hq0)⟩
                    case rest =>
                      as_aux_lemma =>
                      obtain ⟨L9, D9, A9, B9, cA9, cB9, K9, rfl, rfl, hD9, hK9, hks9⟩ := hcut
                      obtain ⟨wm, rfl⟩ : ∃ wm : World, wm = wc := ⟨_, rfl⟩
                      have HK9 := hid hks9
                      have HD9 := hid hD9
                      clear hks9 hD9 HKJ HL6 HST HDI HTB HYAT HCW
                      go_upto_region 56 with fail
                      have HWM := hid (HB8.out.trans (HK9.out.lies.below.mono HB8.out.size))
                      have HWD := hid ((HWM.out.trans ((Below.refl _ _).drew.mono HWM.out.size)))
                      have hl9 : D9.length ≤ 1000 := Nat.le_trans (Nat.le_of_eq HD9.out) (Nat.le_trans hK9 (by omega))
                      have hrd := HRD.out wm.drew HWD.out A9 cA9 D9 HK9.out.reads (HK9.out.steps_new (HB1.out.trans (HWD.out.mono HB1.out.size))) hl9
                      rw [HD9.out, ← HK9.out.recs] at hrd
                      have HRDC := hid hrd
                      have HALK : Hid (∀ (w' w'' : World) (kb : Nat) (N : KM), LgAt w8 w'' jb mj L9 → RRun w' w'' kb m.pl N (runRecs m.pl L9.done) → Calls Tryz.prog 55 #[.pointer (some ⟨jb, 0, none⟩), .pointer (some ⟨kb, 0, none⟩), .int .i64 nr] w'' fun e w3 => e = .returned (.bool true) ∧ Below w''.heap.size w'' w3) := hid fun w' w'' kb N h1 h2 => keeping_alike HPO.out HPJ.out HK9.out.ok HNRL.out h1 h2
                      clear hrd
                      go_cut [33] (fun v wx => v = .bool true ∧ Keeping w w8 wx jb m.pl mj L9 A9 cA9 D9 B9 cB9)
                      case first =>
                        as_aux_lemma =>
                        obtain ⟨x0, x1, x2, x3, hlx⟩ := HBX.out wm HWM.out
                        have HC := hid (And.intro x0 (And.intro x1 (And.intro x2 x3)))
                        have HALK2 : Hid (∀ (w'' : World) (kb : Nat) (N : KM), RRun wm.drew w'' kb m.pl N (runRecs m.pl L9.done) → Calls Tryz.prog 55 #[.pointer (some ⟨jb, 0, none⟩), .pointer (some ⟨kb, 0, none⟩), .int .i64 nr] w'' fun e w3 => e = .returned (.bool true) ∧ Below w''.heap.size w'' w3) := hid fun w'' kb N h2 => HALK.out wm.drew w'' kb N (((HK9.out.new (Below.refl _ _).drew).new h2.below).lies.bare) h2
                        have HXB : Hid (∀ w', Below wm.drew.heap.size wm.drew w' → w'.cell? ⟨w.heap.size, 0, none⟩ = some (.slice m.A nr m.c) ∧ w'.cell? ⟨w.heap.size, 1, none⟩ = some (.int .i64 m.ticks) ∧ w'.cell? ⟨w.heap.size, 2, none⟩ = some (.slice m.sA ns m.sc) ∧ w'.cell? ⟨w.heap.size, 3, none⟩ = some (.slice m.wA nw m.wc)) := hid fun w' hb => by
                          obtain ⟨y0, y1, y2, y3, _⟩ := HBX.out w' (HWD.out.trans (hb.mono HWD.out.size))
                          exact ⟨y0, y1, y2, y3⟩
                        go_region_held3 (fun w' => w'.cell? ⟨w.heap.size, 0, none⟩ = some (.slice m.A nr m.c) ∧ w'.cell? ⟨w.heap.size, 1, none⟩ = some (.int .i64 m.ticks) ∧ w'.cell? ⟨w.heap.size, 2, none⟩ = some (.slice m.sA ns m.sc) ∧ w'.cell? ⟨w.heap.size, 3, none⟩ = some (.slice m.wA nw m.wc))
                          (exact HC.out)
                          (first
                            | (go_at_call 52; refine HRDC.out.mono ?_; rintro e w4 ⟨kb, M, rfl, hrr, _⟩; have HRR := hid hrr; replace HC := hid (HXB.out w4 hrr.below); clear hrr)
                            | (go_at_call 55; refine (HALK2.out _ _ _ HRR.out).mono ?_; rintro e w5 ⟨rfl, hb5⟩; have HB5 := hid hb5; replace HC := hid (HXB.out w5 (HRR.out.below.trans (hb5.mono HRR.out.below.size))); clear hb5))
                        all_goals
                          go_wp2_with fail
                          go_meet
                          exact ⟨rfl, ((HK9.out.new ((Below.refl _ _).drew)).new HRR.out.below).new HB5.out⟩
                      case rest =>
                        as_aux_lemma =>
                        obtain ⟨rfl, hksz⟩ := hcut
                        obtain ⟨wz, rfl⟩ : ∃ wz : World, wz = wc := ⟨_, rfl⟩
                        have HKZ := hid hksz
                        clear hksz HK9 HWM HWD HRDC HALK
                        go_wp2_with fail
                        go_roundw
                        case rel => exact ⟨k + 1, a' + 1, L9, D9, A9, B9, cA9, cB9, K9, by omega, by go_num, by go_num, rfl, rfl, HD9.out, hK9, by omega, by omega, HKZ.out⟩
                        case measure => simp [intOf]; omega

          · rcases (show (8 ≤ k ∧ k = 8) ∨ (k < 8 ∧ n1 ≤ a') by omega) with ⟨h, rfl⟩ | ⟨h, h'⟩
            · clear hgo3
              go_wp2_with fail
              go_meet
              exact ⟨a', Li, Di, Ai, Bi, cAi, cBi, Ki, rfl, rfl, rfl, HDI.out, hKi, by omega, hain, HKI.out⟩
            · clear hgo3
              go_wp2_with fail
              go_meet
              exact ⟨a', Li, Di, Ai, Bi, cAi, cBi, Ki, rfl, rfl, rfl, HDI.out, hKi, by omega, hain, HKI.out⟩
      case rest =>
        as_aux_lemma =>
        obtain ⟨a3, L3, D3, P3, Q3, cP, cQ, K3, rfl, rfl, rfl, hD3, hKa3, ha3, han3, hks3⟩ := hcut
        obtain ⟨wo, rfl⟩ : ∃ wo : World, wo = wc := ⟨_, rfl⟩
        have HK3 := hid hks3
        have HD3 := hid hD3
        have HW3 := hid (HB8.out.trans (hks3.lies.below.mono HB8.out.size))
        clear hks3 hD3 HK2 hDK2
        go_upto_if 267 with fail
        go_cut [34] (fun v wx => (∃ keep : Int, v = .int .i64 keep ∧ Fits keep) ∧ wo = wx)
        case first =>
          as_aux_lemma =>
          by_cases hr : rd < n4
          · obtain ⟨fb, fo, rfl, g0⟩ := sl_num (i := rd) HS4.out (HB1.out.trans (HW3.out.mono HB1.out.size)) (by rw [HN4.out]; exact hr) (by omega)
            have hgl := cell_lt g0
            have hfit := HF4.out (l4.getD rd 0) (by rw [List.getD_eq_getElem?_getD, List.getElem?_eq_getElem (by rw [HN4.out]; exact hr)]; exact List.getElem_mem _)
            obtain ⟨x, hx⟩ : ∃ x, x = l4.getD rd 0 := ⟨_, rfl⟩
            rw [← hx] at g0 hfit
            have HFX := hid hfit
            clear hx hfit
            go_wp2_with fail
            go_meet
            exact ⟨⟨x, rfl, HFX.out⟩, rfl⟩
          · go_wp2_with fail
            go_meet
            exact ⟨⟨0, rfl, by unfold Fits; omega⟩, rfl⟩
        obtain ⟨⟨keep, rfl, hkf⟩, rfl⟩ := hcut
        have hlen3 : L3.done.length = K3 := by rw [HK3.out.recs, List.length_map]; exact HD3.out
        have hsafe3 := HK3.out.ok.safe
        have htl3 := Lg.text_le HPO.out.most5 HK3.out.ok
        have hbyt := lgbytes_any HK3.out.lies
        have hsaf := lgsafe_any HK3.out.lies
        obtain ⟨tl, htl⟩ : ∃ tl, tl = L3.text.length := ⟨_, rfl⟩
        obtain ⟨sf, hsf⟩ : ∃ sf, sf = L3.safe := ⟨_, rfl⟩
        obtain ⟨N3, hN3⟩ : ∃ N3, N3 = L3.keepN keep := ⟨_, rfl⟩
        rw [← htl] at hbyt hsafe3 htl3
        rw [← hsf] at hsaf hsafe3
        have hkn : N3 = if keep ≤ 0 then sf else if keep < (tl : Int) - sf then sf + keep.toNat else tl := by rw [hN3, htl, hsf]; rfl
        have HBY := hid hbyt
        have HSF := hid hsaf
        have HKN := hid hkn
        have HN3 := hid hN3
        have HCR := hid (lgcrash_any (m := mj) (by rw [HPJ.out]; exact HE.out) (by rw [HPJ.out]; exact HK3.out.ok) (by omega) (HF1.out w8 HB8.out) (HD1.out w8 HB8.out) (kept_celled P3 cP D3 Q3 cQ L3.done) keep HK3.out.lies)
        rw [hlen3] at htl3
        clear htl hsf hN3 hkn hbyt hsaf
        go_upto_region 66 with (first
          | (go_at_call 49; refine HBY.out.mono ?_; rintro e wx ⟨rfl, rfl⟩)
          | (go_at_call 50; refine HSF.out.mono ?_; rintro e wx ⟨rfl, rfl⟩)
          | (go_at_call 47; refine HCR.out.mono ?_; rintro e w4 ⟨rfl, hl⟩; have HL4 := hid hl; clear hl HCR))
        clear HBY HSF
        obtain ⟨C, hC⟩ : ∃ C : Bool, C = (decide (0 < keep) && decide (keep < (tl : Int) - sf)) := ⟨_, rfl⟩
        have HC := hid hC
        clear hC
        go_cut [288] (fun v wx => v = .bool C ∧ w4 = wx)
        case first =>
          as_aux_lemma =>
          by_cases h : 0 < keep
          · by_cases h' : keep < (tl : Int) - sf
            · go_wp2_with fail
              go_meet
              exact ⟨by rw [HC.out, decide_eq_true h, decide_eq_true h']; rfl, rfl⟩
            · go_wp2_with fail
              go_meet
              exact ⟨by rw [HC.out, decide_eq_false (show ¬ keep < (tl : Int) - sf by omega), Bool.and_false], rfl⟩
          · go_wp2_with fail
            go_meet
            exact ⟨by rw [HC.out, decide_eq_false (show ¬ 0 < keep by omega), Bool.false_and], rfl⟩
        obtain ⟨rfl, rfl⟩ := hcut
        go_upto_if 288 with fail
        go_cut [37] (fun v wx => v = .int .i64 N3 ∧ w4 = wx)
        case first =>
          as_aux_lemma =>
          have e := HKN.out
          rcases (show keep ≤ 0 ∨ (0 < keep ∧ keep < (tl : Int) - sf) ∨ (0 < keep ∧ (tl : Int) - sf ≤ keep) by omega) with h | ⟨h, h'⟩ | ⟨h, h'⟩
          · rw [if_pos h] at e
            obtain rfl : C = false := by rw [HC.out, decide_eq_false (by omega), Bool.false_and]
            have HEQ := hid e
            clear e
            go_wp2_with fail
            go_meet
            exact ⟨by rw [HEQ.out], rfl⟩
          · rw [if_neg (by omega), if_pos h'] at e
            have e2 : (N3 : Int) = (sf : Int) + keep := by omega
            obtain rfl : C = true := by rw [HC.out, decide_eq_true h, decide_eq_true h']; rfl
            have HEQ := hid e2
            clear e e2
            go_wp2_with fail
            go_meet
            exact ⟨by rw [HEQ.out], rfl⟩
          · rw [if_neg (by omega), if_neg (by omega)] at e
            obtain rfl : C = false := by rw [HC.out, decide_eq_false (show ¬ keep < (tl : Int) - sf by omega), Bool.and_false]
            have HEQ := hid e
            clear e
            go_wp2_with fail
            go_meet
            exact ⟨by rw [HEQ.out], rfl⟩
        obtain ⟨rfl, rfl⟩ := hcut
        have hgets := fun i (hi : i ≤ K3) => left_next (l := L3.done) (n := N3) (i := i) (by rw [hlen3]; exact hi)
        have hend := left_end L3.done N3
        have hmg := fun i (hi : i ≤ K3) => marks_get (l := L3.done) (i := i) (by rw [hlen3]; exact hi)
        have hwle := wholeIn_le L3.done N3
        rw [hlen3] at hend hwle
        have HGETS := hid hgets
        have HEND := hid hend
        have HMG := hid hmg
        have HLEN3 := hid hlen3
        have hmrow := (HL4.out.thing 1 rfl).here
        have hdrow := (HL4.out.thing 0 rfl).here
        have hmle := Row.le hmrow
        have hdle := Row.le hdrow
        rw [hlen3] at hmle
        rw [HD3.out] at hdle
        have HMROW := hid hmrow
        have HDROW := hid hdrow
        obtain ⟨hmle1, hmle2⟩ := hmle
        obtain ⟨hdle1, hdle2⟩ := hdle
        unfold maxLen at hmle2 hdle2
        clear hgets hend hmg hlen3 hmrow hdrow HKN hsafe3 htl3
        obtain ⟨W, hW⟩ : ∃ W, W = wholeIn L3.done N3 := ⟨_, rfl⟩
        rw [← hW] at hwle HEND
        go_upto_block 6 with fail
        go_cut [38, 39] (fun v38 _ wx => v38 = .int .i64 W ∧ w4 = wx)
        case first =>
          as_aux_lemma =>
          go_wp2_with fail
          go_loopw [38, 39] (fun v38 v39 wr => ∃ (i g : Nat), i ≤ K3 + 1 ∧ g = lastIn L3.done N3 i ∧ g ≤ K3 ∧ v39 = .int .i64 i ∧ v38 = .int .i64 g ∧ w4 = wr) (fun _ v39 _ => K3 + 1 - (intOf v39).toNat)
          case atStart => exact ⟨0, 0, by omega, rfl, by omega, rfl, rfl, rfl⟩
          case round =>
            obtain ⟨i, g, hi, hg, hgk, rfl, rfl, rfl⟩ := hrel
            have HG := hid hg
            clear hg
            by_cases hik : i ≤ K3
            · have hik1 : (i : Int) < (K3 : Int) + 1 := by omega
              have hik2 : i < K3 + 1 := by omega
              obtain ⟨b, off, hQ, hbl, hx⟩ := HMROW.out.sl.2 (by omega)
              have hc := hx i (.int .i64 (markAt L3.done i)) (by unfold ints; rw [List.getElem?_map, HMG.out i hik]; rfl)
              have hcl := cell_lt hc
              have hnx := HGETS.out i hik
              obtain ⟨mk, hmk⟩ : ∃ mk, mk = markAt L3.done i := ⟨_, rfl⟩
              rw [← hmk] at hc hnx
              subst hQ
              have HNX := hid hnx
              clear hx hmk hnx
              by_cases hle : mk ≤ (N3 : Int)
              · go_wp2_with fail
                go_roundw
                case rel => exact ⟨i + 1, i, by omega, by have := HNX.out; rw [if_pos hle] at this; exact this.symm, hik, by go_num, (by first | trivial | rfl), (by first | rfl | trivial)⟩
                case measure => simp [intOf]; omega
              · go_wp2_with fail
                go_roundw
                case rel => exact ⟨i + 1, g, by omega, by have := HNX.out; rw [if_neg hle] at this; rw [this]; exact HG.out, hgk, by go_num, (by first | trivial | rfl), (by first | rfl | trivial)⟩
                case measure => simp [intOf]; omega
            · obtain rfl : i = K3 + 1 := by omega
              have hgw : g = W := by rw [HG.out]; exact HEND.out
              subst hgw
              go_wp2_with fail
              go_meet
              exact ⟨rfl, rfl⟩
        obtain ⟨rfl, rfl⟩ := hcut
        have hks5 : Keeping w w8 w4 jb m.pl mj (L3.crash keep) P3 cP (D3.take W) Q3 cQ := keeping_short HK3.out HD3.out HLEN3.out HL4.out (by rw [hW, HN3.out]) hwle
        have hcm := crash_mark (L := L3) keep
        rw [← HN3.out, ← hW] at hcm
        obtain ⟨LC, hLC⟩ : ∃ LC, LC = L3.crash keep := ⟨_, rfl⟩
        rw [← hLC] at hks5 hcm
        have HK5 := hid hks5
        have HCM := hid hcm
        have hmkc := HMG.out W hwle
        have HMKC := hid hmkc
        have HLC := hid hLC
        have HWE := hid hW
        clear hW hLC hks5 hcm hmkc HK3 HL4 HEND HGETS HMG
        go_upto_region 78 with fail
        have HWM := hid (HB8.out.trans (HK5.out.lies.below.mono HB8.out.size))
        have HWD := hid ((HWM.out.trans ((Below.refl _ _).drew.mono HWM.out.size)))
        have hl5 : (D3.take W).length = W := by rw [List.length_take, HD3.out]; omega
        have hrd := HRD.out w4.drew HWD.out P3 cP (D3.take W) HK5.out.reads (HK5.out.steps_new (HB1.out.trans (HWD.out.mono HB1.out.size))) (by rw [hl5]; omega)
        rw [hl5, ← HK5.out.recs] at hrd
        have HL5 := hid hl5
        have HRDC := hid hrd
        have HALK : Hid (∀ (w' w'' : World) (kb : Nat) (N : KM), LgAt w8 w'' jb mj LC → RRun w' w'' kb m.pl N (runRecs m.pl LC.done) → Calls Tryz.prog 55 #[.pointer (some ⟨jb, 0, none⟩), .pointer (some ⟨kb, 0, none⟩), .int .i64 nr] w'' fun e w3 => e = .returned (.bool true) ∧ Below w''.heap.size w'' w3) := hid fun w' w'' kb N h1 h2 => keeping_alike HPO.out HPJ.out HK5.out.ok HNRL.out h1 h2
        clear hrd hl5
        go_cut [40] (fun v wx => v = .bool true ∧ Keeping w w8 wx jb m.pl mj LC P3 cP (D3.take W) Q3 cQ ∧ Below w4.heap.size w4 wx)
        case first =>
          as_aux_lemma =>
          obtain ⟨x0, x1, x2, x3, hlx⟩ := HBX.out w4 HWM.out
          have HC := hid (And.intro x0 (And.intro x1 (And.intro x2 x3)))
          have HALK2 : Hid (∀ (w'' : World) (kb : Nat) (N : KM), RRun w4.drew w'' kb m.pl N (runRecs m.pl LC.done) → Calls Tryz.prog 55 #[.pointer (some ⟨jb, 0, none⟩), .pointer (some ⟨kb, 0, none⟩), .int .i64 nr] w'' fun e w3 => e = .returned (.bool true) ∧ Below w''.heap.size w'' w3) := hid fun w'' kb N h2 => HALK.out w4.drew w'' kb N (((HK5.out.new (Below.refl _ _).drew).new h2.below).lies.bare) h2
          have HXB : Hid (∀ w', Below w4.drew.heap.size w4.drew w' → w'.cell? ⟨w.heap.size, 0, none⟩ = some (.slice m.A nr m.c) ∧ w'.cell? ⟨w.heap.size, 1, none⟩ = some (.int .i64 m.ticks) ∧ w'.cell? ⟨w.heap.size, 2, none⟩ = some (.slice m.sA ns m.sc) ∧ w'.cell? ⟨w.heap.size, 3, none⟩ = some (.slice m.wA nw m.wc)) := hid fun w' hb => by
            obtain ⟨y0, y1, y2, y3, _⟩ := HBX.out w' (HWD.out.trans (hb.mono HWD.out.size))
            exact ⟨y0, y1, y2, y3⟩
          go_region_held3 (fun w' => w'.cell? ⟨w.heap.size, 0, none⟩ = some (.slice m.A nr m.c) ∧ w'.cell? ⟨w.heap.size, 1, none⟩ = some (.int .i64 m.ticks) ∧ w'.cell? ⟨w.heap.size, 2, none⟩ = some (.slice m.sA ns m.sc) ∧ w'.cell? ⟨w.heap.size, 3, none⟩ = some (.slice m.wA nw m.wc))
            (exact HC.out)
            (first
              | (go_at_call 52; refine HRDC.out.mono ?_; rintro e wp ⟨kb, M, rfl, hrr, _⟩; have HRR := hid hrr; replace HC := hid (HXB.out wp hrr.below); clear hrr)
              | (go_at_call 55; refine (HALK2.out _ _ _ HRR.out).mono ?_; rintro e wq ⟨rfl, hb5⟩; have HB5 := hid hb5; replace HC := hid (HXB.out wq (HRR.out.below.trans (hb5.mono HRR.out.below.size))); clear hb5))
          all_goals
            go_wp2_with fail
            go_meet
            exact ⟨rfl, ((HK5.out.new ((Below.refl _ _).drew)).new HRR.out.below).new HB5.out, ((Below.refl _ _).drew.trans (HRR.out.below)).trans (HB5.out.mono HRR.out.below.size)⟩
        obtain ⟨rfl, hksz, hbz⟩ := hcut
        obtain ⟨wz, rfl⟩ : ∃ wz : World, wz = wc := ⟨_, rfl⟩
        have HKZ := hid hksz
        obtain ⟨b, off, hQ, hbl, hx⟩ := (HKZ.out.lies.thing 1 rfl).here.sl.2 (by omega)
        have hc := hx W (.int .i64 (markAt L3.done W)) (by rw [HLC.out, keeping_marks HN3.out HWE.out]; unfold ints; rw [List.getElem?_map, List.getElem?_take, if_pos (by omega), HMKC.out]; rfl)
        have hcl := cell_lt hc
        obtain ⟨MK, hMK⟩ : ∃ MK, MK = markAt L3.done W := ⟨_, rfl⟩
        rw [← hMK] at hc HCM
        subst hQ
        have HBY6 : Hid (∀ d, Calls Tryz.prog 49 #[.pointer (some ⟨jb, 0, none⟩)] (wz.drewN d) fun e w'' => e = .returned (.int .i64 MK) ∧ w'' = wz.drewN d) := hid fun d => (lgbytes_any (HKZ.out.lies.new (below_drawn (Below.refl _ _) d))).mono fun _ _ ⟨h1, h2⟩ => ⟨by rw [h1, HCM.out.1], h2.symm⟩
        have HSF6 : Hid (∀ d, Calls Tryz.prog 50 #[.pointer (some ⟨jb, 0, none⟩)] (wz.drewN d) fun e w'' => e = .returned (.int .i64 MK) ∧ w'' = wz.drewN d) := hid fun d => (lgsafe_any (HKZ.out.lies.new (below_drawn (Below.refl _ _) d))).mono fun _ _ ⟨h1, h2⟩ => ⟨by rw [h1, HCM.out.2], h2.symm⟩
        clear hksz hbz hx hMK HRDC HALK HWM HWD HK5 HCM HMKC
        go_upto_region 79 with fail
        go_quiet (first
          | (go_at_call 49; exact Calls.quiet_of_same (HBY6.out _))
          | (go_at_call 50; exact Calls.quiet_of_same (HSF6.out _)))
        go_wp2_with fail
        go_roundw
        case rel => exact ⟨rd + 1, a3, LC, D3.take W, P3, some ⟨b, off, none⟩, cP, cQ, W, by omega, by omega, by go_num, rfl, rfl, rfl, HL5.out, by omega, by omega, han3, HKZ.out.new (below_drawn (Below.refl _ _) _)⟩
        case measure => simp [intOf]; omega
    · have hfin := hid (HB1.out.trans ((HB8.out.trans (HK.out.lies.below.mono HB8.out.size)).mono HB1.out.size))
      rcases (show (n3 < rd ∧ rd ≤ 4) ∨ (rd ≤ n3 ∧ rd = 4) by omega) with ⟨h, h'⟩ | ⟨h, rfl⟩
      · clear hgo
        go_wp2_with fail
        exact keeps_ret rfl rfl hfin.out
      · clear hgo
        go_wp2_with fail
        exact keeps_ret rfl rfl hfin.out
end Go.Proofs.YtldllmhgofacbaaGreatDoor
