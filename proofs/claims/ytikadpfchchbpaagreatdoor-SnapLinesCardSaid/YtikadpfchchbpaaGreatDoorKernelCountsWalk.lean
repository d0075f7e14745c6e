/- The walk of framelaw4.KernelCounts: it returns true at every input. -/
import Derived.Test.YtikadpfchchbpaaGreatDoorTickU
import Derived.Test.YtikadpfchchbpaaGreatDoorKernNew
import Derived.Test.YtikadpfchchbpaaGreatDoorGetU
import Derived.Test.YtikadpfchchbpaaGreatDoorKLawU
import Derived.Test.YtikadpfchchbpaaGreatDoorCounting
import Derived.IntWalk
namespace Go.Proofs.YtikadpfchchbpaaGreatDoor
open Go.RowKit
set_option maxRecDepth 100000

/-- The counting plan as it lies. -/
def countPM (n : Nat) (A1 : Option Addr) (c1 : Nat) (rows : List Ro) (A2 : Option Addr) (c2 : Nat) : PM := ⟨A1, c1, rows, n, A2, c2, countSpans n, none, 0, []⟩
theorem counted_pl {w : World} {B n c1 c2 : Nat} {A1 A2 : Option Addr} {rows : List Ro} (h : Counted w B n A1 c1 rows A2 c2) : (countPM n A1 c1 rows A2 c2).pl = countPl n := by
  show Pl.mk _ _ _ _ = Pl.mk _ _ _ _
  congr 1
  rw [List.eq_replicate_iff]
  refine ⟨by simp [countPM, h.many], fun b hb => ?_⟩
  obtain ⟨r, hr, rfl⟩ := List.mem_map.1 hb
  exact (h.each r hr).1
theorem counted_plan {w : World} {B n c1 c2 : Nat} {A1 A2 : Option Addr} {rows : List Ro} (h : Counted w B n A1 c1 rows A2 c2) (hn : n ≤ 5) : PlanAt w (countPM n A1 c1 rows A2 c2) := by
  have hl : (countSpans n).length = n := by simp [countSpans]
  have hm := h.many
  refine ⟨?_, ?_, fun r hr => ⟨?_, ?_, ?_⟩, ⟨by simp only [countPM]; omega, by simp only [countPM]; omega⟩, ?_, ?_, ?_, Sl.nil _ _ _, ⟨Nat.le_refl _, Nat.zero_le _, fun _ => ⟨rfl, rfl⟩⟩, fun y hy => by simp [countPM] at hy⟩
  · simp only [countPM, hm]; exact h.code.sl
  · simp only [countPM, hm]; exact h.code.slW
  · have := (h.each r hr).2.1.sl
    rw [(h.each r hr).1] at this ⊢
    exact this
  · have := (h.each r hr).2.1.slW
    rw [(h.each r hr).1]
    exact this
  · intro o ho
    rw [(h.each r hr).1] at ho
    simp [countOps] at ho
    rcases ho with rfl | rfl <;> refine ⟨⟨?_, ?_⟩, ⟨?_, ?_⟩, ⟨?_, ?_⟩⟩ <;> decide
  · simp only [countPM, hl]; exact h.spans.sl
  · simp only [countPM, hl]; exact h.spans.slW
  · intro y hy
    simp [countPM, countSpans] at hy
    obtain ⟨i, hi, rfl⟩ := hy
    refine ⟨⟨?_, ?_⟩, ⟨?_, ?_⟩, ⟨?_, ?_⟩⟩ <;> simp only [] <;> omega

theorem count_ok (n : Nat) (h : 1 ≤ n) (h5 : n ≤ 5) : ∀ t : Nat, t ≤ 400 → KOk (countPl n) (countK n t) t
  | 0, _ => by
    have := kNew_ok (planChk_ok (countPl_ok n h h5))
    rw [count_new] at this; exact this
  | t + 1, ht => by
    have h1 := count_ok n h h5 t (by omega)
    have hp := planChk_ok (countPl_ok n h h5)
    have h2 := tick_ok hp h1 (spans_in hp)
    have h3 := count_tick n t h h5 (by omega)
    unfold tick at h3
    rw [h3] at h2
    exact h2
theorem count_state (n m r : Nat) (h : r < n) : stateOf (countK n (2 * n * m)) r = (⟨0, m, if m = 0 then 0 else 1, 0, 0, 0, 0, false⟩, 0) := by
  have hl : (countK n (2 * n * m)).rooms.length = n := by simp [countK]
  have hin : inB r (countK n (2 * n * m)).rooms.length = true := by
    unfold inB; rw [hl]; exact decide_eq_true (by omega)
  have hg : (countK n (2 * n * m)).rooms.getD r St.zero = cst (turnsTo n (2 * n * m) r) := by
    simp [countK, List.getD_eq_getElem?_getD, List.getElem?_map, List.getElem?_range h]
  unfold stateOf
  rw [hin, if_pos rfl, Int.toNat_natCast, hg, turnsTo_end n m r h]
  simp only [cst, Prod.mk.injEq, and_true]
  apply St.ext' <;> simp <;> omega

/-- What the making of a kernel of rooms that count leaves. -/
def KCounts (w : World) (n : Nat) (e : Ending) (w' : World) : Prop :=
  ∃ kb M, e = .returned (.tuple #[.pointer (some ⟨kb, 0, none⟩), .nilIface]) ∧ KAt 77 122 81 w' kb M (countK n 0) ∧ M.P.pl = countPl n ∧ (∀ j, TF kb M j → w.heap.size ≤ j) ∧ Below w.heap.size w w'
theorem new_count {w : World} {B n c1 c2 : Nat} {A1 A2 : Option Addr} {rows : List Ro} (h1 : 1 ≤ n) (h5 : n ≤ 5) (hf : Forms w) (h : Counted w B n A1 c1 rows A2 c2) :
    Calls Tryz.prog 8 #[.agg #[.slice A1 n c1, .int .i64 n, .slice A2 n c2, .slice none 0 0]] w (KCounts w n) := by
  have hm := h.many
  have hl : (countSpans n).length = n := by simp [countSpans]
  have hpl := counted_pl h
  have hk := countPl_ok n h1 h5
  have hnew := kern_new_ok w (countPM n A1 c1 rows A2 c2) hf (counted_plan h h5) (by rw [hpl]; exact hk)
  unfold KMade at hnew
  rw [hpl, count_new] at hnew
  simp only [countPM, hm, hl] at hnew
  exact hnew

end Go.Proofs.YtikadpfchchbpaaGreatDoor
