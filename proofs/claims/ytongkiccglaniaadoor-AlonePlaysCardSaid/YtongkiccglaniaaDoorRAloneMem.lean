/- The reference's room on a machine of its own: how it lies in memory. -/
import Derived.Test.YtongkiccglaniaaDoorAloneMem
namespace Go.Proofs.YtongkiccglaniaaDoor
open Go.RowKit
set_option maxRecDepth 100000

def raloneObj (A : Option Addr) (c n : Nat) (r : Int) (a : Ast) : Obj :=
  .cells #[.slice A n c, .int .i64 r, .int .i64 a.st.pc, .int .i64 a.st.c0, .int .i64 a.st.c1, .int .i64 a.st.c2, .int .i64 a.st.c3, .int .i64 a.st.c4, .int .i64 a.st.c5, .bool a.st.failed, .int .i64 a.turns] 55 (0, 0)
structure RAloneAt (w : World) (ab : Nat) (A : Option Addr) (c : Nat) (l : List Op) (r : Int) (a : Ast) : Prop where
  blk : w.heap[ab]? = some (raloneObj A c l.length r a)
  code : Sl w A 3 l.length (l.flatMap Op.cells)
  cap : SlW A c l.length
  apart : 0 < l.length → ¬ InA A ab
def raloneT (ab : Nat) (A : Option Addr) (c : Nat) (l : List Op) (r : Int) (a : Ast) : Tg := ⟨fun j => j = ab ∨ (0 < l.length ∧ InA A j), fun j => j = ab, fun w => RAloneAt w ab A c l r a⟩
section
variable {w w' w3 : World} {ab c : Nat} {A : Option Addr} {l : List Op} {r : Int} {a a' : Ast}
theorem RAloneAt.keep (h : RAloneAt w ab A c l r a) (hs : w.heap.size ≤ w'.heap.size) (hk : ∀ j, j < w.heap.size → (j = ab ∨ (0 < l.length ∧ InA A j)) → w'.heap[j]? = w.heap[j]?) : RAloneAt w' ab A c l r a :=
  ⟨(hk ab (blk_lt h.blk) (.inl rfl)).trans h.blk, h.code.keep0 hs fun b h0 hb hl => hk b hl (.inr ⟨h0, hb⟩), h.cap, h.apart⟩
theorem RAloneAt.new (h : RAloneAt w ab A c l r a) (hb : Below w.heap.size w w') : RAloneAt w' ab A c l r a := h.keep hb.size fun j hj _ => hb.block j hj
theorem RAloneAt.lie (h : RAloneAt w ab A c l r a) : Lie w (raloneT ab A c l r a) :=
  ⟨h, by
    rintro j (rfl | ⟨h0, hj⟩)
    · exact blk_lt h.blk
    · exact h.code.lt h0 j hj, fun _ h => .inl h, fun _ hs hk => h.keep hs hk⟩
/-- Its own block is written. -/
theorem RAloneAt.put (h : RAloneAt w ab A c l r a) (hk : Keep (fun j => j = ab) w w') (hbk : w'.heap[ab]? = some (raloneObj A c l.length r a')) : Went w w' (raloneT ab A c l r a) (raloneT ab A c l r a') :=
  ⟨RAloneAt.lie ⟨hbk, h.code.keep0 hk.size fun b h0 hb hl => hk.block b hl fun e => by subst e; exact h.apart h0 hb, h.cap, h.apart⟩, hk, fun _ h => .inl h, fun _ h => .inl h⟩
end
end Go.Proofs.YtongkiccglaniaaDoor
