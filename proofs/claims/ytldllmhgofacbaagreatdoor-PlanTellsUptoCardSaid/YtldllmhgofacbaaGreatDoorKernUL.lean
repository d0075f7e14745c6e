/- Several parts: each begins with what it says. -/
import Derived.Test.YtldllmhgofacbaaGreatDoorKLawUL
import Derived.Test.YtldllmhgofacbaaGreatDoorOpen2L
import Derived.Test.YtldllmhgofacbaaGreatDoorDoUL
import Derived.Test.YtldllmhgofacbaaGreatDoorBaseU
import Derived.Test.YtldllmhgofacbaaGreatDoorPlanMemL
/- A kernel as it lies in memory, the program's and the reference's alike: its own block, its rooms, its lines, its plan; and how each part is changed. -/
namespace Go.Proofs.YtldllmhgofacbaaGreatDoor
open Go.RowKit
set_option maxRecDepth 100000

/-- A line at its block, of either type. -/
def LnAt (T : Nat) (w : World) (b : Nat) (A : Option Addr) (x : Ln) : Prop :=
  ∃ cap, w.heap[b]? = some (.cells #[.int .i64 x.w.fr, .int .i64 x.w.to, .int .i64 x.w.kind, .int .i64 x.w.deep, .slice A x.items.length cap, .int .i64 x.lost] T (0, 0)) ∧
    Row w 3 1 A x.items.length cap (ints x.items)
theorem LnAt.keep {T : Nat} {w w' : World} {b : Nat} {A : Option Addr} {x : Ln} (h : LnAt T w b A x) (hk : ∀ k, LF b A k → k < w.heap.size → w'.heap[k]? = w.heap[k]?) : LnAt T w' b A x := by
  obtain ⟨cap, h1, h2⟩ := h
  exact ⟨cap, (hk b (.inl rfl) (blk_lt h1)).trans h1, h2.keep fun k hi hl => hk k (.inr hi) hl⟩
theorem LnAt.lt {T : Nat} {w : World} {b : Nat} {A : Option Addr} {x : Ln} (h : LnAt T w b A x) : ∀ k, LF b A k → k < w.heap.size := by
  obtain ⟨cap, h1, h2⟩ := h
  rintro k (rfl | hk)
  · exact blk_lt h1
  · exact h2.lt k hk

/-- A line's places. -/
structure LM where
  b : Nat
  A : Option Addr
/-- A kernel's places. -/
structure KM where
  P : PM
  rA : Option Addr
  rc : Nat
  lA : Option Addr
  lc : Nat
  ls : List LM
def ptrV (a : LM) : Value := .pointer (some ⟨a.b, 0, none⟩)
def KF (kb : Nat) (M : KM) (j : Nat) : Prop := j = kb ∨ InA M.rA j ∨ ∃ a ∈ M.ls, LF a.b a.A j
def TF (kb : Nat) (M : KM) (j : Nat) : Prop := KF kb M j ∨ InA M.lA j ∨ planF M.P j
/-- Whose a block is: no two parts of a kernel share one. -/
def Owns (kb : Nat) (M : KM) (own : Nat → Nat) : Prop := own kb = 0 ∧ (∀ j, InA M.rA j → own j = 1) ∧ (∀ j, InA M.lA j → own j = 2) ∧ (∀ j, planF M.P j → own j = 3) ∧ ∀ i a, M.ls[i]? = some a → ∀ j, LF a.b a.A j → own j = 4 + i
section
variable {TK TL TP kb : Nat} {w w' : World} {M : KM} {k : Kst}
/-- A state stored at an offset, cell by cell. -/
def putAt (w : World) (b o : Nat) (t : St) : World :=
  (((((((w.setCell ⟨b, o, none⟩ (.int .i64 t.pc)).setCell ⟨b, o + 1, none⟩ (.int .i64 t.c0)).setCell ⟨b, o + 2, none⟩ (.int .i64 t.c1)).setCell ⟨b, o + 3, none⟩ (.int .i64 t.c2)).setCell ⟨b, o + 4, none⟩ (.int .i64 t.c3)).setCell ⟨b, o + 5, none⟩ (.int .i64 t.c4)).setCell ⟨b, o + 6, none⟩ (.int .i64 t.c5)).setCell ⟨b, o + 7, none⟩ (.bool t.failed)
theorem putAt_eq (w : World) (b o : Nat) (t : St) : putAt w b o t = w.setCells b o t.cells := rfl
theorem putAt_far (w : World) (b o : Nat) (t : St) (k : Nat) (h : k ≠ b) : (putAt w b o t).heap[k]? = w.heap[k]? := by rw [putAt_eq]; exact setCells_far b _ _ w k h
theorem putAt_keep (w : World) (b o : Nat) (t : St) : Keep (fun k => k = b) w (putAt w b o t) := by
  rw [putAt_eq]
  have := setCells_rest b t.cells o w
  exact ⟨this.1, this.2.1, this.2.2.1, by rw [this.2.2.2]; exact Nat.le_refl _, fun k _ hk => setCells_far b _ _ w k hk⟩
def KM.setLine (M : KM) (i : Nat) (a : LM) : KM := ⟨M.P, M.rA, M.rc, M.lA, M.lc, M.ls.set i a⟩
theorem KF_line {i : Nat} {a : LM} {A' : Option Addr} {S : Nat} (ha : M.ls[i]? = some a) (hn : ∀ j, InA A' j → InA a.A j ∨ S ≤ j) : ∀ j, KF kb (M.setLine i ⟨a.b, A'⟩) j → KF kb M j ∨ S ≤ j := by
  rintro j (hj | hj | ⟨a', ha', hj⟩)
  · exact .inl (.inl hj)
  · exact .inl (.inr (.inl hj))
  · rcases List.mem_or_eq_of_mem_set ha' with h | rfl
    · exact .inl (.inr (.inr ⟨a', h, hj⟩))
    · rcases hj with hj | hj
      · exact .inl (.inr (.inr ⟨a, List.mem_of_getElem? ha, .inl hj⟩))
      · rcases hn j hj with h | h
        · exact .inl (.inr (.inr ⟨a, List.mem_of_getElem? ha, .inr h⟩))
        · exact .inr h
end
end Go.Proofs.YtldllmhgofacbaaGreatDoor

/- A kernel as it is made: rooms at their beginning, then line by line. -/
namespace Go.Proofs.YtldllmhgofacbaaGreatDoor
open Go.RowKit
set_option maxRecDepth 100000

section
variable {TK TL TP kb : Nat} {w w1 w2 : World} {M : KM} {k : Kst}
theorem TF_add {lA : Option Addr} {lc lb S : Nat} (hn : ∀ j, InA lA j → InA M.lA j ∨ S ≤ j) (hlb : S ≤ lb) : ∀ j, TF kb ⟨M.P, M.rA, M.rc, lA, lc, M.ls ++ [⟨lb, none⟩]⟩ j → TF kb M j ∨ S ≤ j := by
  rintro j ((rfl | hj | ⟨a, ha, hj⟩) | hj | hj)
  · exact .inl (.inl (.inl rfl))
  · exact .inl (.inl (.inr (.inl hj)))
  · rcases List.mem_append.1 ha with ha | ha
    · exact .inl (.inl (.inr (.inr ⟨a, ha, hj⟩)))
    · simp at ha
      subst ha
      rcases hj with rfl | hj
      · exact .inr hlb
      · simp [InA] at hj
  · rcases hn j hj with h1 | h1
    · exact .inl (.inr (.inl h1))
    · exact .inr h1
  · exact .inl (.inr (.inr hj))
end
end Go.Proofs.YtldllmhgofacbaaGreatDoor
