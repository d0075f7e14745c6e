/- Package wire, and frame.Room: contracts of wire.Check, New, Send, Peek, Take, Held, for every line. -/
import Derived.Test.YthdmgighblhmhaaGreatDoorBaseU
import Derived.Test.YthdmgighblhmhaaGreatDoorRows
namespace Go.Proofs.YthdmgighblhmhaaGreatDoor
open Go.RowKit
set_option maxRecDepth 100000

/-- An error of package api as a value: 0 is nil. -/
def errV (e : Int) : Value := if e = 0 then .nilIface else .iface 98 (.int .i64 e)
theorem errV_zero : errV 0 = .nilIface := rfl
theorem errV_pos {e : Int} (h : e ≠ 0) : errV e = .iface 98 (.int .i64 e) := by simp [errV, h]

theorem room_any (a : Int) (w : World) : Calls Tryz.prog 76 #[.int .i64 a] w fun e w' => e = .returned (.bool (roomB a)) ∧ w = w' := by
  by_cases h : roomB a = true
  · have h' := roomB_true.1 h
    rw [h]; clear h
    obtain ⟨h1, h2⟩ := h'
    go_enter Tryz.func76, Tryz.ntmps76
    go_wp2
    go_ret
    exact ⟨rfl, rfl⟩
  · have h' := roomB_false.1 (by simpa using h)
    rw [show roomB a = false by simpa using h]; clear h
    rcases h' with h1 | h1 <;>
    · go_enter Tryz.func76, Tryz.ntmps76
      go_wp2
      all_goals go_ret
      all_goals (refine ⟨?_, rfl⟩; simp; try omega)

theorem wc_a (a b c d : Int) (ha : roomB a = false) (w : World) : Calls Tryz.prog 50 #[.agg #[.int .i64 a, .int .i64 b, .int .i64 c, .int .i64 d]] w fun e w' => e = .returned (.iface 98 (.int .i64 1)) ∧ Below w.heap.size w w' := by
  go_enter Tryz.func50, Tryz.ntmps50
  go_wp2_with (go_at_call 76; refine (room_any _ _).mono ?_; rintro e w' ⟨rfl, rfl⟩)
  go_ret
  exact ⟨rfl, (Below.refl _ _).alloc (Nat.le_refl _) _⟩
theorem wc_b (a b c d : Int) (ha : roomB a = true) (hb : roomB b = false) (w : World) : Calls Tryz.prog 50 #[.agg #[.int .i64 a, .int .i64 b, .int .i64 c, .int .i64 d]] w fun e w' => e = .returned (.iface 98 (.int .i64 1)) ∧ Below w.heap.size w w' := by
  go_enter Tryz.func50, Tryz.ntmps50
  go_wp2_with (go_at_call 76; refine (room_any _ _).mono ?_; rintro e w' ⟨rfl, rfl⟩)
  go_ret
  exact ⟨rfl, (Below.refl _ _).alloc (Nat.le_refl _) _⟩
theorem wc_c (a b c d : Int) (ha : roomB a = true) (hb : roomB b = true) (h1 : (c != 1) = true) (h2 : (c != 2) = true) (_h3 : (c == 1) = false) (w : World) : Calls Tryz.prog 50 #[.agg #[.int .i64 a, .int .i64 b, .int .i64 c, .int .i64 d]] w fun e w' => e = .returned (.iface 98 (.int .i64 1)) ∧ Below w.heap.size w w' := by
  go_enter Tryz.func50, Tryz.ntmps50
  go_wp2_with (go_at_call 76; refine (room_any _ _).mono ?_; rintro e w' ⟨rfl, rfl⟩)
  go_ret
  exact ⟨rfl, (Below.refl _ _).alloc (Nat.le_refl _) _⟩
theorem wc_d1 (a b d : Int) (ha : roomB a = true) (hb : roomB b = true) (h1 : (d != 1) = true) (h2 : d < 1 ∨ 6 < d ∨ (1 ≤ d ∧ d ≤ 6)) (w : World) : Calls Tryz.prog 50 #[.agg #[.int .i64 a, .int .i64 b, .int .i64 1, .int .i64 d]] w fun e w' => e = .returned (.iface 98 (.int .i64 1)) ∧ Below w.heap.size w w' := by
  rcases h2 with h2 | h2 | ⟨h2, h3⟩ <;>
  · go_enter Tryz.func50, Tryz.ntmps50
    go_wp2_with (go_at_call 76; refine (room_any _ _).mono ?_; rintro e w' ⟨rfl, rfl⟩)
    go_ret
    exact ⟨rfl, (Below.refl _ _).alloc (Nat.le_refl _) _⟩
theorem wc_d2 (a b d : Int) (ha : roomB a = true) (hb : roomB b = true) (h2 : d < 1 ∨ 6 < d) (w : World) : Calls Tryz.prog 50 #[.agg #[.int .i64 a, .int .i64 b, .int .i64 2, .int .i64 d]] w fun e w' => e = .returned (.iface 98 (.int .i64 1)) ∧ Below w.heap.size w w' := by
  rcases h2 with h2 | h2 <;>
  · go_enter Tryz.func50, Tryz.ntmps50
    go_wp2_with (go_at_call 76; refine (room_any _ _).mono ?_; rintro e w' ⟨rfl, rfl⟩)
    go_ret
    exact ⟨rfl, (Below.refl _ _).alloc (Nat.le_refl _) _⟩
theorem wc_self1 (a b : Int) (ha : roomB a = true) (hb : roomB b = true) (h : (a == b) = true) (w : World) : Calls Tryz.prog 50 #[.agg #[.int .i64 a, .int .i64 b, .int .i64 1, .int .i64 1]] w fun e w' => e = .returned (.iface 98 (.int .i64 3)) ∧ Below w.heap.size w w' := by
  go_enter Tryz.func50, Tryz.ntmps50
  go_wp2_with (go_at_call 76; refine (room_any _ _).mono ?_; rintro e w' ⟨rfl, rfl⟩)
  go_ret
  exact ⟨rfl, (Below.refl _ _).alloc (Nat.le_refl _) _⟩
theorem wc_self2 (a b d : Int) (ha : roomB a = true) (hb : roomB b = true) (h : (a == b) = true) (h1 : 1 ≤ d) (h2 : d ≤ 6) (w : World) : Calls Tryz.prog 50 #[.agg #[.int .i64 a, .int .i64 b, .int .i64 2, .int .i64 d]] w fun e w' => e = .returned (.iface 98 (.int .i64 3)) ∧ Below w.heap.size w w' := by
  go_enter Tryz.func50, Tryz.ntmps50
  go_wp2_with (go_at_call 76; refine (room_any _ _).mono ?_; rintro e w' ⟨rfl, rfl⟩)
  go_ret
  exact ⟨rfl, (Below.refl _ _).alloc (Nat.le_refl _) _⟩
theorem wc_ok1 (a b : Int) (ha : roomB a = true) (hb : roomB b = true) (h : (a == b) = false) (w : World) : Calls Tryz.prog 50 #[.agg #[.int .i64 a, .int .i64 b, .int .i64 1, .int .i64 1]] w fun e w' => e = .returned (.nilIface) ∧ Below w.heap.size w w' := by
  go_enter Tryz.func50, Tryz.ntmps50
  go_wp2_with (go_at_call 76; refine (room_any _ _).mono ?_; rintro e w' ⟨rfl, rfl⟩)
  go_ret
  exact ⟨rfl, (Below.refl _ _).alloc (Nat.le_refl _) _⟩
theorem wc_ok2 (a b d : Int) (ha : roomB a = true) (hb : roomB b = true) (h : (a == b) = false) (h1 : 1 ≤ d) (h2 : d ≤ 6) (w : World) : Calls Tryz.prog 50 #[.agg #[.int .i64 a, .int .i64 b, .int .i64 2, .int .i64 d]] w fun e w' => e = .returned (.nilIface) ∧ Below w.heap.size w w' := by
  go_enter Tryz.func50, Tryz.ntmps50
  go_wp2_with (go_at_call 76; refine (room_any _ _).mono ?_; rintro e w' ⟨rfl, rfl⟩)
  go_ret
  exact ⟨rfl, (Below.refl _ _).alloc (Nat.le_refl _) _⟩
theorem wire_check (a b c d : Int) (w : World) : Calls Tryz.prog 50 #[.agg #[.int .i64 a, .int .i64 b, .int .i64 c, .int .i64 d]] w fun e w' => e = .returned (errV (wireChk ⟨a, b, c, d⟩)) ∧ Below w.heap.size w w' := by
  cases ha : roomB a
  · rw [show wireChk ⟨a, b, c, d⟩ = 1 by simp [wireChk, ha]]; exact wc_a a b c d ha w
  cases hb : roomB b
  · rw [show wireChk ⟨a, b, c, d⟩ = 1 by simp [wireChk, hb]]; exact wc_b a b c d ha hb w
  by_cases hc : c ≠ 1 ∧ c ≠ 2
  · rw [show wireChk ⟨a, b, c, d⟩ = 1 by simp [wireChk, hc]]; exact wc_c a b c d ha hb (by simpa using hc.1) (by simpa using hc.2) (by simpa using hc.1) w
  by_cases h1 : c = 1
  · subst h1
    by_cases hd : d = 1
    · subst hd
      by_cases he : a = b
      · rw [show wireChk ⟨a, b, 1, 1⟩ = 3 by simp [wireChk, hb, he]]; exact wc_self1 a b ha hb (by simpa using he) w
      · rw [show wireChk ⟨a, b, 1, 1⟩ = 0 by simp [wireChk, ha, hb, he]]; exact wc_ok1 a b ha hb (by simpa using he) w
    · rw [show wireChk ⟨a, b, 1, d⟩ = 1 by simp [wireChk, hd]]; exact wc_d1 a b d ha hb (by simpa using hd) (by omega) w
  · obtain rfl : c = 2 := by omega
    by_cases hd : d < 1 ∨ 6 < d
    · rw [show wireChk ⟨a, b, 2, d⟩ = 1 by simp [wireChk, hd]]; exact wc_d2 a b d ha hb hd w
    · have hd' : ¬ (d < 1) ∧ ¬ (6 < d) := by omega
      by_cases he : a = b
      · rw [show wireChk ⟨a, b, 2, d⟩ = 3 by simp [wireChk, hb, he, hd'.1, hd'.2]]; exact wc_self2 a b d ha hb (by simpa using he) (by omega) (by omega) w
      · rw [show wireChk ⟨a, b, 2, d⟩ = 0 by simp [wireChk, ha, hb, he, hd'.1, hd'.2]]; exact wc_ok2 a b d ha hb (by simpa using he) (by omega) (by omega) w
end Go.Proofs.YthdmgighblhmhaaGreatDoor
