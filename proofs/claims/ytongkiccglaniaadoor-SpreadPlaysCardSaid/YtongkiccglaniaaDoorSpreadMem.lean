/- Package spread: how rooms on machines of their own, with lines between, lie in memory. -/
import Derived.Test.YtongkiccglaniaaDoorSpreadLaw
import Derived.Test.YtongkiccglaniaaDoorKLawU
namespace Go.Proofs.YtongkiccglaniaaDoor
open Go.RowKit
set_option maxRecDepth 100000

/-- A room's machine: where it lies, its code, its number, what it is. -/
structure AR where
  ab : Nat
  A : Option Addr
  c : Nat
  l : List Op
  r : Int
  a : Ast
/-- A line: where it lies, and what it is. -/
structure LR where
  b : Nat
  A : Option Addr
  x : Ln
def AR.tg (x : AR) : Tg := aloneT x.ab x.A x.c x.l x.r x.a
def lnT (b : Nat) (A : Option Addr) (x : Ln) : Tg := ⟨LF b A, LF b A, fun w => LnAt 201 w b A x⟩
def LR.tg (x : LR) : Tg := lnT x.b x.A x.x
def AR.ptr (x : AR) : Value := .pointer (some ⟨x.ab, 0, none⟩)
def LR.ptr (x : LR) : Value := .pointer (some ⟨x.b, 0, none⟩)
theorem ln_lie {w : World} {b : Nat} {A : Option Addr} {x : Ln} (h : LnAt 201 w b A x) : Lie w (lnT b A x) := ⟨h, h.lt, fun _ h => h, fun _ _ hk => h.keep fun j hj hl => hk j hl hj⟩
theorem ln_went {w w' : World} {b : Nat} {A A' : Option Addr} {x y : Ln} (h : LnAt 201 w' b A' y) (hk : Keep (LF b A) w w') (hn : ∀ j, InA A' j → InA A j ∨ w.heap.size ≤ j) : Went w w' (lnT b A x) (lnT b A' y) := by
  have hF : ∀ j, LF b A' j → LF b A j ∨ w.heap.size ≤ j := by
    rintro j (rfl | hj)
    · exact .inl (.inl rfl)
    · exact (hn j hj).imp_left .inr
  exact ⟨ln_lie h, hk, hF, hF⟩
structure SM where
  P : PM
  rA : Option Addr
  rc : Nat
  lA : Option Addr
  lc : Nat
  rs : List AR
  ls : List LR
def spreadObj (S : SM) (time : Int) : Obj :=
  .cells #[.slice S.P.A S.P.ros.length S.P.c, .int .i64 S.P.ticks, .slice S.P.sA S.P.spans.length S.P.sc, .slice S.P.wA S.P.wires.length S.P.wc, .slice S.rA S.rs.length S.rc, .slice S.lA S.ls.length S.lc, .int .i64 time] 144 (0, 0)
def spL (sb : Nat) (S : SM) (time : Int) : List Tg :=
  [blkT sb (spreadObj S time), planT S.P, rowT 22 1 S.rA S.rs.length S.rc (S.rs.map AR.ptr), rowT 145 1 S.lA S.ls.length S.lc (S.ls.map LR.ptr), allT (S.rs.map AR.tg), allT (S.ls.map LR.tg)]
/-- The places behind a step: a machine's, or a line's, are other ones. -/
def SM.setR (S : SM) (i : Nat) (x : AR) : SM := ⟨S.P, S.rA, S.rc, S.lA, S.lc, S.rs.set i x, S.ls⟩
def SM.setL (S : SM) (i : Nat) (x : LR) : SM := ⟨S.P, S.rA, S.rc, S.lA, S.lc, S.rs, S.ls.set i x⟩
/-- What the places say of a plan and of a kernel's state. -/
structure SpFacts (p : Pl) (S : SM) (k : Kst) (tB : Int) : Prop where
  pl : S.P.pl = p
  codes : S.rs.map AR.l = p.code
  rooms : S.rs.map (fun x => x.a.st) = k.rooms
  lines : S.ls.map LR.x = k.lines
  idx : ∀ (i : Nat) (x : AR), S.rs[i]? = some x → x.r = i
  turns : ∀ x ∈ S.rs, 0 ≤ x.a.turns ∧ x.a.turns ≤ tB
def spT (sb : Nat) (S : SM) (time : Int) : Tg := allT (spL sb S time)
structure SpreadAt (w : World) (sb : Nat) (p : Pl) (S : SM) (k : Kst) : Prop where
  all : Beside w (spL sb S k.time)
  facts : SpFacts p S k k.time
def spreadT (sb : Nat) (p : Pl) (S : SM) (k : Kst) : Tg := ⟨(spT sb S k.time).F, (spT sb S k.time).W, fun w => SpreadAt w sb p S k⟩
section
variable {w w' w3 : World} {sb : Nat} {p : Pl} {S : SM} {k : Kst} {time tB : Int}
theorem SpreadAt.lie (h : SpreadAt w sb p S k) : Lie w (spreadT sb p S k) := ⟨h, h.all.lie.lt, h.all.lie.sub, fun w' hs hk => ⟨h.all.lie.keep w' hs hk, h.facts⟩⟩
theorem SpreadAt.new (h : SpreadAt w sb p S k) (hb : Below w.heap.size w w') : SpreadAt w' sb p S k := ⟨h.all.new hb, h.facts⟩
theorem SpFacts.manyR (h : SpFacts p S k tB) : S.rs.length = p.code.length := by rw [← h.codes, List.length_map]
theorem SpFacts.manyR2 (h : SpFacts p S k tB) : S.rs.length = k.rooms.length := by rw [← h.rooms, List.length_map]
theorem SpFacts.manyL (h : SpFacts p S k tB) : S.ls.length = k.lines.length := by rw [← h.lines, List.length_map]
theorem sp_obj (h : Beside w (spL sb S time)) : w.heap[sb]? = some (spreadObj S time) := (h.get (i := 0) rfl).here
theorem sp_plan (h : Beside w (spL sb S time)) : PlanAt w S.P := (h.get (i := 1) rfl).here
theorem sp_rp (h : Beside w (spL sb S time)) : Row w 22 1 S.rA S.rs.length S.rc (S.rs.map AR.ptr) := (h.get (i := 2) rfl).here
theorem sp_lp (h : Beside w (spL sb S time)) : Row w 145 1 S.lA S.ls.length S.lc (S.ls.map LR.ptr) := (h.get (i := 3) rfl).here
theorem sp_als (h : Beside w (spL sb S time)) : Beside w (S.rs.map AR.tg) := (h.get (i := 4) rfl).here
theorem sp_lns (h : Beside w (spL sb S time)) : Beside w (S.ls.map LR.tg) := (h.get (i := 5) rfl).here
theorem sp_aloneL (h : Beside w (spL sb S time)) {i : Nat} {x : AR} (hx : S.rs[i]? = some x) : Lie w x.tg := (sp_als h).get (i := i) (t := x.tg) (by rw [List.getElem?_map, hx]; rfl)
theorem sp_alone (h : Beside w (spL sb S time)) {i : Nat} {x : AR} (hx : S.rs[i]? = some x) : AloneAt w x.ab x.A x.c x.l x.r x.a := (sp_aloneL h hx).here
theorem sp_line (h : Beside w (spL sb S time)) {i : Nat} {x : LR} (hx : S.ls[i]? = some x) : LnAt 201 w x.b x.A x.x := ((sp_lns h).get (i := i) (t := x.tg) (by rw [List.getElem?_map, hx]; rfl)).here
/-- A pointer in the rows. -/
theorem sp_rptr (h : Beside w (spL sb S time)) {i : Nat} {x : AR} (hx : S.rs[i]? = some x) : ∃ b off, S.rA = some ⟨b, off, none⟩ ∧ w.cell? ⟨b, off + i, none⟩ = some x.ptr ∧ b < w.heap.size ∧ i < S.rs.length ∧ S.rs.length ≤ S.rc ∧ S.rc ≤ maxLen := by
  have hi := (List.getElem?_eq_some_iff.1 hx).1
  obtain ⟨b, off, hA, hb, hg⟩ := (sp_rp h).sl.2 (by omega)
  exact ⟨b, off, hA, hg i _ (by rw [List.getElem?_map, hx]; rfl), hb, hi, (sp_rp h).le⟩
theorem sp_lptr (h : Beside w (spL sb S time)) {i : Nat} {x : LR} (hx : S.ls[i]? = some x) : ∃ b off, S.lA = some ⟨b, off, none⟩ ∧ w.cell? ⟨b, off + i, none⟩ = some x.ptr ∧ b < w.heap.size ∧ i < S.ls.length ∧ S.ls.length ≤ S.lc ∧ S.lc ≤ maxLen := by
  have hi := (List.getElem?_eq_some_iff.1 hx).1
  obtain ⟨b, off, hA, hb, hg⟩ := (sp_lp h).sl.2 (by omega)
  exact ⟨b, off, hA, hg i _ (by rw [List.getElem?_map, hx]; rfl), hb, hi, (sp_lp h).le⟩
theorem sp_cells (h : Beside w (spL sb S time)) : w.cell? ⟨sb, 0, none⟩ = some (.slice S.P.A S.P.ros.length S.P.c) ∧ w.cell? ⟨sb, 1, none⟩ = some (.int .i64 S.P.ticks) ∧ w.cell? ⟨sb, 2, none⟩ = some (.slice S.P.sA S.P.spans.length S.P.sc) ∧ w.cell? ⟨sb, 3, none⟩ = some (.slice S.P.wA S.P.wires.length S.P.wc) ∧
    w.cell? ⟨sb, 4, none⟩ = some (.slice S.rA S.rs.length S.rc) ∧ w.cell? ⟨sb, 5, none⟩ = some (.slice S.lA S.ls.length S.lc) ∧ w.cell? ⟨sb, 6, none⟩ = some (.int .i64 time) ∧ (∀ j, w.frozen? ⟨sb, j, none⟩ = false) ∧ sb < w.heap.size :=
  ⟨blk_cell (sp_obj h) 0, blk_cell (sp_obj h) 1, blk_cell (sp_obj h) 2, blk_cell (sp_obj h) 3, blk_cell (sp_obj h) 4, blk_cell (sp_obj h) 5, blk_cell (sp_obj h) 6, fun j => blk_free (sp_obj h) j, blk_lt (sp_obj h)⟩
theorem map_set_same {α β : Type} (f : α → β) {l : List α} {i : Nat} {x y : α} (hx : l[i]? = some x) (h : f y = f x) : (l.set i y).map f = l.map f := by
  apply List.ext_getElem?
  intro j
  rw [List.getElem?_map, List.getElem?_map, List.getElem?_set]
  by_cases e : i = j
  · subst e
    rw [if_pos rfl, if_pos (List.getElem?_eq_some_iff.1 hx).1, hx]; simp [h]
  · rw [if_neg e]
/-- A machine goes on. -/
theorem sp_goR (h : Beside w (spL sb S time)) {i : Nat} {x y : AR} (hx : S.rs[i]? = some x) (hy : y.ab = x.ab) (hg : Went w w3 x.tg y.tg) : Went w w3 (spT sb S time) (spT sb (S.setR i y) time) := by
  have hw := (sp_als h).went (i := i) (t := x.tg) (t' := y.tg) (by rw [List.getElem?_map, hx]; rfl) hg
  have hw2 := h.went (i := 4) rfl hw
  have e1 : (S.rs.map AR.tg).set i y.tg = (S.rs.set i y).map AR.tg := by rw [List.map_set]
  have e2 : spL sb (S.setR i y) time = (spL sb S time).set 4 (allT ((S.rs.set i y).map AR.tg)) := by
    have h1 : (S.rs.set i y).length = S.rs.length := List.length_set
    have h2 : (S.rs.set i y).map AR.ptr = S.rs.map AR.ptr := map_set_same AR.ptr hx (by unfold AR.ptr; rw [hy])
    simp only [spL, SM.setR, spreadObj, h1, h2, List.set_cons_succ, List.set_cons_zero]
  unfold spT
  rw [e2, ← e1]; exact hw2
/-- A line goes on. -/
theorem sp_goL (h : Beside w (spL sb S time)) {i : Nat} {x y : LR} (hx : S.ls[i]? = some x) (hy : y.b = x.b) (hg : Went w w3 x.tg y.tg) : Went w w3 (spT sb S time) (spT sb (S.setL i y) time) := by
  have hw := (sp_lns h).went (i := i) (t := x.tg) (t' := y.tg) (by rw [List.getElem?_map, hx]; rfl) hg
  have hw2 := h.went (i := 5) rfl hw
  have e1 : (S.ls.map LR.tg).set i y.tg = (S.ls.set i y).map LR.tg := by rw [List.map_set]
  have e2 : spL sb (S.setL i y) time = (spL sb S time).set 5 (allT ((S.ls.set i y).map LR.tg)) := by
    have h1 : (S.ls.set i y).length = S.ls.length := List.length_set
    have h2 : (S.ls.set i y).map LR.ptr = S.ls.map LR.ptr := map_set_same LR.ptr hx (by unfold LR.ptr; rw [hy])
    simp only [spL, SM.setL, spreadObj, h1, h2, List.set_cons_succ, List.set_cons_zero]
  unfold spT
  rw [e2, ← e1]; exact hw2
theorem SpFacts.setR (h : SpFacts p S k tB) {i : Nat} {x y : AR} (hx : S.rs[i]? = some x) (hl : y.l = x.l) (hr : y.r = x.r) {tC : Int} (hC : tB ≤ tC) (ht : 0 ≤ y.a.turns ∧ y.a.turns ≤ tC) : SpFacts p (S.setR i y) ⟨k.rooms.set i y.a.st, k.lines, k.time⟩ tC := by
  refine ⟨h.pl, ?_, ?_, h.lines, fun j z hz => ?_, fun z hz => ?_⟩
  · show (S.rs.set i y).map AR.l = _
    rw [map_set_same AR.l hx hl]; exact h.codes
  · show (S.rs.set i y).map (fun x => x.a.st) = _
    rw [List.map_set, h.rooms]
  · have hz' : (S.rs.set i y)[j]? = some z := hz
    rw [List.getElem?_set] at hz'
    by_cases e : i = j
    · subst e
      rw [if_pos rfl, if_pos (List.getElem?_eq_some_iff.1 hx).1] at hz'
      cases hz'
      rw [hr]; exact h.idx i x hx
    · rw [if_neg e] at hz'; exact h.idx j z hz'
  · rcases List.mem_or_eq_of_mem_set hz with hz | rfl
    · have := h.turns z hz; omega
    · exact ht
theorem SpFacts.setL (h : SpFacts p S k tB) {i : Nat} {y : LR} : SpFacts p (S.setL i y) ⟨k.rooms, k.lines.set i y.x, k.time⟩ tB :=
  ⟨h.pl, h.codes, h.rooms, by show (S.ls.set i y).map LR.x = _; rw [List.map_set, h.lines], h.idx, h.turns⟩
end
end Go.Proofs.YtongkiccglaniaaDoor
