/- Package alone: how a room on a machine of its own lies in memory, and what a step of it is. -/
import Derived.Test.YtongkiccglaniaaDoorPart
import Derived.Test.YtongkiccglaniaaDoorWhatU
namespace Go.Proofs.YtongkiccglaniaaDoor
open Go.RowKit
set_option maxRecDepth 100000

/-- A new block that is only read. -/
theorem Stand.lay {w wr : World} {ts : List Tg} (h : Stand w wr ts) (cs : Array Value) (T : Nat) : Stand w (wr.alloc (.cells cs T)) (ts ++ [conT wr.heap.size (.cells cs T)]) :=
  h.add ((Below.refl _ _).alloc (Nat.le_refl _) _) (con_lie (heap_alloc_new wr _)) (fun _ hj => hj.elim) fun j hj => .inl (by have : j = wr.heap.size := hj; omega)
/-- A room on its own: what it is, and how many turns it had. -/
structure Ast where
  st : St
  turns : Int
/-- What is told of a step of op o. -/
def aEv (r : Int) (a : Ast) (o : Op) (is : Bool) : Ev := ⟨a.turns, r, a.st.pc, whatOf o.what a.st.failed (is || (o.what == 8))⟩
/-- The room behind it. -/
def aGo (n : Int) (a : Ast) (o : Op) (got : Int) (is : Bool) : Ast := ⟨(stepDo n o a.st got is).1, a.turns + 1⟩
structure AOk (l : List Op) (a : Ast) (B : Int) : Prop where
  code : (codeChk l).2 = 0
  st : stOk a.st l.length = true
  t0 : 0 ≤ a.turns
  tB : a.turns ≤ B
theorem AOk.op {l : List Op} {a : Ast} {B : Int} (h : AOk l a B) : ∃ o, l[a.st.pc.toNat]? = some o ∧ opOk o l.length = true := by
  have hp := (stOk_iff.1 h.st).1
  have hl : a.st.pc.toNat < l.length := by omega
  exact ⟨_, List.getElem?_eq_getElem hl, (codeChk_ok h.code).2.2 _ (List.getElem_mem hl)⟩
theorem AOk.go {l : List Op} {a : Ast} {B : Int} (h : AOk l a B) {o : Op} (ho : l[a.st.pc.toNat]? = some o) {got : Int} {is : Bool} (hg : is = true → cellB got = true) : AOk l (aGo l.length a o got is) (B + 1) := by
  have hc := codeChk_ok h.code
  have h0 := h.t0
  have hB := h.tB
  refine ⟨h.code, ?_, by simp only [aGo]; omega, by simp only [aGo]; omega⟩
  exact (step_ok (by omega) (hc.2.2 o (List.mem_of_getElem? ho)) h.st fun hi => by have := hg hi; unfold cellB at this; simpa using this).1
theorem aNew_ok {l : List Op} (h : (codeChk l).2 = 0) : AOk l ⟨St.zero, 0⟩ 0 := by
  have := codeChk_ok h
  exact ⟨h, stOk_zero (by omega), Int.le_refl _, Int.le_refl _⟩
theorem roomChk_ok {l : List Op} {a : Ast} {B : Int} (h : AOk l a B) : roomChk l a.st = 0 := by
  unfold roomChk
  rw [if_neg (fun h1 => h1 h.code), h.st]; simp

def aloneObj (A : Option Addr) (c n : Nat) (r : Int) (a : Ast) : Obj :=
  .cells #[.slice A n c, .int .i64 r, .int .i64 a.st.pc, .int .i64 a.st.c0, .int .i64 a.st.c1, .int .i64 a.st.c2, .int .i64 a.st.c3, .int .i64 a.st.c4, .int .i64 a.st.c5, .bool a.st.failed, .int .i64 a.turns] 128 (0, 0)
structure AloneAt (w : World) (ab : Nat) (A : Option Addr) (c : Nat) (l : List Op) (r : Int) (a : Ast) : Prop where
  blk : w.heap[ab]? = some (aloneObj A c l.length r a)
  code : Sl w A 3 l.length (l.flatMap Op.cells)
  cap : SlW A c l.length
  apart : 0 < l.length → ¬ InA A ab
def aloneT (ab : Nat) (A : Option Addr) (c : Nat) (l : List Op) (r : Int) (a : Ast) : Tg := ⟨fun j => j = ab ∨ (0 < l.length ∧ InA A j), fun j => j = ab, fun w => AloneAt w ab A c l r a⟩
section
variable {w w' w3 : World} {ab c : Nat} {A : Option Addr} {l : List Op} {r : Int} {a a' : Ast}
theorem AloneAt.keep (h : AloneAt w ab A c l r a) (hs : w.heap.size ≤ w'.heap.size) (hk : ∀ j, j < w.heap.size → (j = ab ∨ (0 < l.length ∧ InA A j)) → w'.heap[j]? = w.heap[j]?) : AloneAt w' ab A c l r a :=
  ⟨(hk ab (blk_lt h.blk) (.inl rfl)).trans h.blk, h.code.keep0 hs fun b h0 hb hl => hk b hl (.inr ⟨h0, hb⟩), h.cap, h.apart⟩
theorem AloneAt.new (h : AloneAt w ab A c l r a) (hb : Below w.heap.size w w') : AloneAt w' ab A c l r a := h.keep hb.size fun j hj _ => hb.block j hj
theorem AloneAt.lie (h : AloneAt w ab A c l r a) : Lie w (aloneT ab A c l r a) :=
  ⟨h, by
    rintro j (rfl | ⟨h0, hj⟩)
    · exact blk_lt h.blk
    · exact h.code.lt h0 j hj, fun _ h => .inl h, fun _ hs hk => h.keep hs hk⟩
/-- Its own block is written. -/
theorem AloneAt.put (h : AloneAt w ab A c l r a) (hk : Keep (fun j => j = ab) w w') (hbk : w'.heap[ab]? = some (aloneObj A c l.length r a')) : Went w w' (aloneT ab A c l r a) (aloneT ab A c l r a') :=
  ⟨AloneAt.lie ⟨hbk, h.code.keep0 hk.size fun b h0 hb hl => hk.block b hl fun e => by subst e; exact h.apart h0 hb, h.cap, h.apart⟩, hk, fun _ h => .inl h, fun _ h => .inl h⟩
end
end Go.Proofs.YtongkiccglaniaaDoor
