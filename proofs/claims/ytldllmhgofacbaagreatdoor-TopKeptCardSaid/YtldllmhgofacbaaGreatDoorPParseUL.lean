/- Several parts: each begins with what it says. -/
import Derived.OrdersIn
import Derived.OrdersHeld
import Derived.Deep.RegionHeld
import Derived.RangeFuncCalls
import Derived.Test.YtldllmhgofacbaaGreatDoorPReadUL
import Derived.Test.YtldllmhgofacbaaGreatDoorPTextUL
import Derived.Test.YtldllmhgofacbaaGreatDoorDeskUL
import Derived.BigQuiet
import Derived.Deep.DeepCutAuto
import Derived.Test.YtldllmhgofacbaaGreatDoorReadUL
import Derived.Test.YtldllmhgofacbaaGreatDoorPPrintUL
import Derived.IntWalk
/- A region that draws its order, in a round of a range over a function: by the unfenced rules. -/
namespace Go.Proofs.YtldllmhgofacbaaGreatDoor

section
variable {P : Program} {ops : Array Oper} {Q : Exit → Act → World → Prop} {S : World → Prop} {l n : Nat}
/-- What must hold behind, and it is not let out. -/
def StrictQ (Q : Exit → Act → World → Prop) : Exit → Act → World → Prop
  | .outgrown, _, _ => False
  | e, a, w => Q e a w
theorem strict_not : ¬ LetsOut (StrictQ Q) := by
  rintro ⟨a, w, h⟩
  exact h
theorem strict_normal {a : Act} {w : World} (h : Q .normal a w) : StrictQ Q .normal a w := h
def noDefers (ops : Array Oper) : Bool := ops.toList.all fun o => match o.op with | .defer _ => false | _ => true
theorem noDefers_spec (h : noDefers ops = true) {i : Nat} {o : Oper} (ho : ops[i]? = some o) (c) : o.op ≠ .defer c := fun e => by
  unfold noDefers at h
  have h1 := List.all_eq_true.1 h o (by
    rw [← Array.getElem?_toList] at ho
    exact List.mem_of_getElem? ho)
  rw [e] at h1
  exact absurd h1 (by simp)
theorem upon_round {o : Oper} {a : Act} {K K' : Act → World → Prop} (hK : ∀ a w, K a w → K' a w) : ∀ {r : Result Next}, o.upon P a K (StrictQ Q) r → o.uponIn (Fence.wide.inRound l) n P a K' Q r
  | .ok (.value v) w', h => hK _ _ h
  | .ok .skip w', h => hK _ _ h
  | .ok (.defer d) w', h => hK _ _ h
  | .ok (.enter f args) w', h => ⟨fun hd => by simp [Fence.wide] at hd, CallsIn.inRound l ((callsIn_wide.2 h).mono fun e w'' he => by
      cases e with
      | returned v => exact hK _ _ he
      | panicked c => exact he
      | outgrown => exact absurd he strict_not)⟩
  | .ok (.row row args) w', h => ⟨fun hd => by simp [Fence.wide] at hd, fun c cs _ => let ⟨v, w'', r, s⟩ := h c cs; ⟨v, w'', hK _ _ r, stepsIn_wide.2 s⟩⟩
  | .ok (.round ..) w', h => h.elim
  | .halt (.panic v) w', h => h
  | .halt (.stuck s) w', h => by simp [Oper.upon] at h
theorem ops_round (hnd : noDefers ops = true) : ∀ (is : List Nat) (a : Act) (w : World), wpOps P ops (StrictQ Q) is a w → wpOpsIn (Fence.wide.inRound l) n P ops Q is a w
  | [], a, w, h => h
  | i :: rest, a, w, h => by
    rw [wpOps_cons] at h
    rw [wpOpsIn_cons]
    unfold wpOp at h
    unfold wpOpIn
    cases ho : ops[i]? with
    | none =>
      simp only [ho] at h ⊢
      exact ops_round hnd rest a w h
    | some o =>
      simp only [ho] at h ⊢
      split
      · rename_i hw
        simp only [hw, if_true] at h
        rcases h with h | ⟨_, h⟩
        · refine ⟨fun _ _ => trivial, ?_⟩
          rw [Oper.semAt_eq _ _ _ (noDefers_spec hnd ho)]
          exact upon_round (fun a w h => ops_round hnd rest a w h) h
        · exact absurd h strict_not
      · rename_i hw
        simp only [hw] at h
        exact ⟨fun _ _ => trivial, ops_round hnd rest _ w h⟩
theorem wpIn_round_held {id : Nat} {a : Act} {w : World} (hm : P.follows .mixedOrders = true) (hnd : noDefers ops = true) (hS : S w.drew)
    (h : S w.drew → wpAnyH P .any ops (StrictQ Q) S ops.size (Array.replicate ops.size false) a w.drew) : (Code.region id ops true).wpIn (Fence.wide.inRound l) n P Q a w :=
  wpIn_region_draw fun t => by
    simp only [Region.schedule, hm, Bool.true_or, if_true]
    exact ops_round hnd _ _ _ (wpAny_sound ops.size t _ a _ (wpAny_of_held _ _ _ _ (h hS)))
end
end Go.Proofs.YtldllmhgofacbaaGreatDoor

/- Package plan: the contract of head, for every line and every reader. Conditions: 'Desk' and the table of parts, which the row lists. -/
namespace Go.Proofs.YtldllmhgofacbaaGreatDoor
open Go.RowKit
set_option maxRecDepth 100000

/-- The table of parts. -/
structure Parts (w : World) : Prop where
  lt : 1 < w.heap.size
  w0 : w.cell? ⟨1, 0, none⟩ = some (.string ⟨#[102, 114, 97, 109, 101]⟩)
  m0 : w.cell? ⟨1, 1, none⟩ = some (.int .i64 1)
  w1 : w.cell? ⟨1, 2, none⟩ = some (.string ⟨#[115, 112, 97, 110]⟩)
  m1 : w.cell? ⟨1, 3, none⟩ = some (.int .i64 3)
  w2 : w.cell? ⟨1, 4, none⟩ = some (.string ⟨#[119, 105, 114, 101]⟩)
  m2 : w.cell? ⟨1, 5, none⟩ = some (.int .i64 4)
  w3 : w.cell? ⟨1, 6, none⟩ = some (.string ⟨#[114, 111, 111, 109]⟩)
  m3 : w.cell? ⟨1, 7, none⟩ = some (.int .i64 0)
theorem Parts.new {w w' : World} (h : Parts w) (hb : Below w.heap.size w w') : Parts w' :=
  have c : ∀ o, w'.cell? ⟨1, o, none⟩ = w.cell? ⟨1, o, none⟩ := fun o => hb.cell (p := ⟨1, o, none⟩) h.lt
  ⟨Nat.lt_of_lt_of_le h.lt hb.size, (c 0).trans h.w0, (c 1).trans h.m0, (c 2).trans h.w1, (c 3).trans h.m1, (c 4).trans h.w2, (c 5).trans h.m2, (c 6).trans h.w3, (c 7).trans h.m3⟩
theorem keep_new {m : PM} {b : Nat} {w w' : World} (hb : Below w.heap.size w w') : Keep (rdF m b) w w' := Keep.of_below _ hb
section
variable {base b part : Nat} {w wq : World} {m : PM} {A : Option Addr} {c : Nat}
end

end Go.Proofs.YtldllmhgofacbaaGreatDoor

/- Package plan: the contract of Parse, for every text. Conditions: 'Desk', the table of forms with its names, the table of parts, which the row lists; no text is longer than 2^30 bytes. -/
namespace Go.Proofs.YtldllmhgofacbaaGreatDoor
open Go.RowKit Go.Shelf
set_option maxRecDepth 100000
attribute [local go_sem] Oper.semAt_some

def zeroPl : Array Value := #[.slice none 0 0, .int .i64 0, .slice none 0 0, .slice none 0 0]
/-- What Parse hands back. -/
def PlanParsed (t : ByteArray) (w : World) (e : Ending) (w' : World) : Prop :=
  Below w.heap.size w w' ∧
  ((∃ m : PM, WfPl m.pl ∧ planText m.pl = t.data.toList ∧ planChk m.pl = 0 ∧ e = .returned (.tuple #[.agg #[.slice m.A m.ros.length m.c, .int .i64 m.ticks, .slice m.sA m.spans.length m.sc, .slice m.wA m.wires.length m.wc], .nilIface]) ∧ PlanAt w' m ∧ ∀ j, planF m j → w.heap.size ≤ j) ∨
   (∃ p : Pl, WfPl p ∧ planText p = t.data.toList ∧ planChk p ≠ 0 ∧ e = .returned (.tuple #[.agg zeroPl, errV (planChk p)])) ∨
   ((∀ p : Pl, WfPl p → planText p ≠ t.data.toList) ∧ e = .returned (.tuple #[.agg zeroPl, errV 2])))

/-- It has stopped: a line is no plan's. -/
structure PPStop (t : ByteArray) (w : World) (c : Code) (W : World) : Prop where
  ret : c = .ret
  no : ∀ p : Pl, WfPl p → planText p ≠ t.data.toList
  res : W.heap[w.heap.size]? = some (.cells zeroPl 26 (0, 0))
  err : Boxed W (w.heap.size + 1) 30 (errV 2)
  below : Below w.heap.size w W
theorem PPStop.abide (t : ByteArray) (w : World) (c : Code) : Abide (w.heap.size + 5) (w.heap.size + 1 + 1 + 1 + 1) (fun (_ : List ByteArray) W => PPStop t w c W) := by
  refine ⟨fun s W W' row h hg hr => ?_, fun s W u h => ?_⟩
  · have hr2 : ∀ r, row = some r → ∃ o : Obj, W.heap[r]? = some o ∧ o.isCells = false := fun r e => (hr r e).2
    exact ⟨h.ret, h.no, (grownBy_keeps_cells hg hr2 h.res rfl).trans h.res, boxed_turned h.err hg hr2, h.below.grown hg h.below.size (fun k e => by have := (hr k e).1; omega)⟩
  · exact ⟨h.ret, h.no, (blk_far (p := ⟨w.heap.size + 1 + 1 + 1 + 1, 0, none⟩) (by simp; omega) u).trans h.res, h.err.other (by omega) _, h.below.setCell (p := ⟨w.heap.size + 1 + 1 + 1 + 1, 0, none⟩) (by simp; omega) _⟩

theorem codeLines_few : ∀ (c : List (List Op)), c.length ≤ (codeLines c).length ∧ ∀ l ∈ c, l.length ≤ (codeLines c).length
  | [] => ⟨Nat.le_refl _, fun l hl => by cases hl⟩
  | d :: c => by
    obtain ⟨h1, h2⟩ := codeLines_few c
    have e : codeLines (d :: c) = .room :: (d.map PLine.op ++ codeLines c) := by unfold codeLines; rw [List.flatMap_cons]; rfl
    have hl : (codeLines (d :: c)).length = d.length + (codeLines c).length + 1 := by rw [e]; simp
    refine ⟨by rw [List.length_cons, hl]; omega, fun l hx => ?_⟩
    rw [hl]
    rcases List.mem_cons.1 hx with rfl | hx
    · omega
    · have := h2 l hx; omega
theorem psok_few {s : PS} {ls : List PLine} (h : PSOk s ls) : s.p.code.length ≤ ls.length ∧ s.p.spans.length ≤ ls.length ∧ s.p.wires.length ≤ ls.length ∧ ∀ l ∈ s.p.code, l.length ≤ ls.length := by
  cases hb : s.begun with
  | true =>
    have e := h.lines hb
    obtain ⟨h1, h2⟩ := codeLines_few s.p.code
    have hl : ls.length = s.p.spans.length + (s.p.wires.length + (codeLines s.p.code).length) + 1 := by rw [← e]; unfold linesP; simp
    refine ⟨by omega, by omega, by omega, fun l hx => ?_⟩
    have := h2 l hx; omega
  | false =>
    obtain ⟨rfl, hp, _⟩ := h.nob hb
    rw [hp]
    exact ⟨Nat.zero_le _, Nat.zero_le _, Nat.zero_le _, fun l hl => by cases hl⟩
theorem plineText_10 (l : PLine) : (10 : UInt8) ∈ plineText l := by unfold plineText; simp
theorem keepF_from {B : Nat} {F : Nat → Prop} {W W' : World} (hk : Keep F W W') (hc : ∀ j, F j → j < W.heap.size → ∃ o : Obj, W.heap[j]? = some o ∧ o.isCells = true) : KeepsFrom B W W' := by
  refine ⟨hk.size, fun k o _ ho hn => ?_⟩
  by_cases hA : F k
  · obtain ⟨o', h1, h2⟩ := hc k hA (blk_lt ho)
    rw [ho] at h1
    injection h1 with h1
    rw [h1, h2] at hn; cases hn
  · exact (hk.block k (blk_lt ho) hA).trans ho
/-- No plan has this line here. -/
theorem pp_no {t x : ByteArray} {pre : List ByteArray} {ls : List PLine} {S : PS} (hpre : pre ++ [x] <+: linesB t) (hx : x.data.toList ∈ linesOf t.data.toList) (hmap : pre.map (fun s => s.data.toList) = ls.map plineText) (hwf : ∀ l ∈ ls, l.Wf) (hrun : PS.start.run ls = some S) (H : ∀ l : PLine, l.Wf → plineText l = x.data.toList → S.step l = none) : ∀ p : Pl, WfPl p → planText p ≠ t.data.toList := by
  by_cases hl : ∃ l : PLine, l.Wf ∧ plineText l = x.data.toList
  · obtain ⟨l, hw, he⟩ := hl
    obtain ⟨rest, hr⟩ := hpre
    have hlin : linesOf t.data.toList = ls.map plineText ++ plineText l :: rest.map (fun s => s.data.toList) := by
      have h1 : linesOf t.data.toList = (linesB t).map (fun s => s.data.toList) := by unfold linesB; rw [List.map_map]; exact (List.map_id' _).symm
      rw [h1, ← hr, List.map_append, List.map_append, hmap, he]
      simp
    exact fun p hp => plan_stuck hlin hrun hwf hw (H l hw he) p hp
  · exact fun p hp => plan_not hx (fun l hw he => hl ⟨l, hw, he⟩) p hp
def ppStopW (h : Nat) (W : World) : World := ((((W.setCell ⟨h, 0, none⟩ (.slice none 0 0)).setCell ⟨h, 1, none⟩ (.int .i64 0)).setCell ⟨h, 2, none⟩ (.slice none 0 0)).setCell ⟨h, 3, none⟩ (.slice none 0 0)).setCell ⟨h + 1, 0, none⟩ (.iface 118 (.int .i64 2))
theorem fits_small {n : Int} (h : 0 ≤ n ∧ n < 10 ^ 4) : Fits n := by
  have h1 := h.1
  have h2 : n < 10000 := h.2
  unfold Fits; omega
theorem wfop_fits {o : Op} (h : WfOp o) : o.Ok := ⟨by have := h.what; unfold Fits; omega, fits_small h.a, fits_small h.b⟩
end Go.Proofs.YtldllmhgofacbaaGreatDoor
