/- Package room: contracts of right, Right, Check, New. -/
import Derived.Test.YtldllmhgofacbaaGreatDoorCodeW
import Derived.Test.YtldllmhgofacbaaGreatDoorLineU
namespace Go.Proofs.YtldllmhgofacbaaGreatDoor
open Go.RowKit
set_option maxRecDepth 100000

theorem cellB_true {n : Int} : cellB n = true ↔ 0 ≤ n ∧ n < 1000 := by simp [cellB]
theorem cellB_false {n : Int} : cellB n = false ↔ n < 0 ∨ 1000 ≤ n := by simp [cellB]; omega
theorem rright_any (n : Int) (w : World) : Calls Tryz.prog 137 #[.int .i64 n] w fun e w' => e = .returned (.bool (cellB n)) ∧ w' = w := by
  by_cases h : n < 0
  · rw [cellB_false.2 (.inl h)]
    go_enter Tryz.func137, Tryz.ntmps137
    go_wp2
    go_ret
    exact ⟨rfl, rfl⟩
  · by_cases h2 : n < 1000
    · rw [cellB_true.2 ⟨by omega, h2⟩]
      have h0 : 0 ≤ n := by omega
      clear h
      go_enter Tryz.func137, Tryz.ntmps137
      go_wp2
      go_ret
      exact ⟨rfl, rfl⟩
    · rw [cellB_false.2 (.inr (by omega))]
      have h0 : 0 ≤ n := by omega
      clear h
      go_enter Tryz.func137, Tryz.ntmps137
      go_wp2
      go_ret
      exact ⟨rfl, rfl⟩
theorem rright1_any (n : Int) (w : World) : Calls Tryz.prog 136 #[.int .i64 n] w fun e w' => e = .returned (.bool (!cellB n)) ∧ w' = w := by
  go_enter Tryz.func136, Tryz.ntmps136
  go_wp2_with (go_at_call 137; refine (rright_any n _).mono ?_; rintro e w' ⟨rfl, rfl⟩)
  go_ret
  exact ⟨rfl, rfl⟩

theorem sl_int {w : World} {A : Option Addr} {n : Nat} {l : List Int} (h : Sl w A 1 n (ints l)) {i : Nat} (hi : i < l.length) (hn : i < n) :
    ∃ b off, A = some ⟨b, off, none⟩ ∧ b < w.heap.size ∧ w.cell? ⟨b, off + i, none⟩ = some (.int .i64 l[i]) := by
  obtain ⟨b, off, rfl, hlt, hx⟩ := h.2 (by omega)
  exact ⟨b, off, rfl, hlt, hx i _ (by simp [ints, hi])⟩
def badCell (n : Int) : Bool := !cellB n
theorem index_cells (A : Option Addr) (n c : Nat) (l : List Int) (w : World) (hs : Sl w A 1 n (ints l)) (hn : n ≤ 100000) :
    Calls Tryz.prog 169 #[.slice A n c, .func (.func 136) #[] #[]] w fun e w' => ∃ r : Int, e = .returned (.int .i64 r) ∧ decide (0 ≤ r) = l.any badCell ∧ w' = w := by
  have hl : l.length = n := by have := hs.1; rw [ints_len] at this; omega
  have HS := hid hs
  have HL := hid hl
  clear hs hl
  go_enter Tryz.func169, Tryz.ntmps169
  go_wp2_with fail
  go_loop [5, 8] (fun v5 v8 => ∃ k : Nat, k ≤ n ∧ v8 = .int .i64 k ∧ (∀ j x, j < k → l[j]? = some x → badCell x = false)) (fun _ v8 => n - (intOf v8).toNat)
  case atStart => exact ⟨0, by omega, rfl, fun j s hj => absurd hj (by omega)⟩
  case round =>
    obtain ⟨k, hk, rfl, hno⟩ := hrel
    have HNO := hid hno
    clear hno
    by_cases hkl : k < n
    · obtain ⟨b, off, rfl, _, g0⟩ := sl_int HS.out (by rw [HL.out]; exact hkl) hkl
      have hget := List.getElem?_eq_getElem (show k < l.length by rw [HL.out]; exact hkl)
      generalize l[k]'(by rw [HL.out]; exact hkl) = x at g0 hget
      have HG := hid hget
      clear hget
      have HCL := fun w => rright1_any x w
      rw [show (!cellB x) = badCell x from rfl] at HCL
      cases hb : badCell x with
      | true =>
        rw [hb] at HCL
        have HC := hid HCL
        have HBX := hid hb
        clear HCL hb
        go_wp2_with (go_at_call 136; refine (HC.out _).mono ?_; rintro e w1 ⟨rfl, rfl⟩)
        go_ret
        exact ⟨_, rfl, by rw [List.any_eq_true.2 ⟨x, List.mem_of_getElem? HG.out, HBX.out⟩]; simp, rfl⟩
      | false =>
        rw [hb] at HCL
        have HC := hid HCL
        have HBX := hid hb
        clear HCL hb
        go_wp2_with (go_at_call 136; refine (HC.out _).mono ?_; rintro e w1 ⟨rfl, rfl⟩)
        go_round
        case rel =>
          refine ⟨k + 1, by omega, by go_num, fun j y hj hy => ?_⟩
          by_cases e : j = k
          · subst e; rw [HG.out] at hy; cases hy; exact HBX.out
          · exact HNO.out j y (by omega) hy
        case measure => simp [intOf]; omega
    · obtain rfl : k = n := by omega
      go_wp2_with fail
      go_ret
      refine ⟨-1, rfl, ?_, rfl⟩
      rw [show l.any badCell = false from List.any_eq_false.2 (fun x hx => by
        obtain ⟨j, hj⟩ := List.mem_iff_getElem?.1 hx
        rw [HNO.out j x (by have := (List.getElem?_eq_some_iff.1 hj).1; rw [HL.out] at this; exact this) hj]; decide)]
      rfl
theorem contains_cells (A : Option Addr) (n c : Nat) (l : List Int) (w : World) (hs : Sl w A 1 n (ints l)) (hn : n ≤ 100000) :
    Calls Tryz.prog 135 #[.slice A n c, .func (.func 136) #[] #[]] w fun e w' => e = .returned (.bool (l.any badCell)) ∧ w' = w := by
  obtain ⟨q, hq⟩ : ∃ q, q = l.any badCell := ⟨_, rfl⟩
  rw [← hq]
  have HQ := hid hq
  have HS := hid hs
  clear hq hs
  go_enter Tryz.func135, Tryz.ntmps135
  go_wp2_with (go_at_call 169; refine (index_cells A n c l _ HS.out hn).mono ?_; rintro e w1 ⟨r, rfl, hr, rfl⟩; have HR := hid hr; clear hr)
  go_ret
  refine ⟨?_, rfl⟩
  rw [HQ.out, ← HR.out]
  rfl

def stV (s : St) : Array Value := #[.int .i64 s.pc, .int .i64 s.c0, .int .i64 s.c1, .int .i64 s.c2, .int .i64 s.c3, .int .i64 s.c4, .int .i64 s.c5, .bool s.failed]
theorem any_all (l : List Int) : l.any badCell = !l.all cellB := by
  induction l with
  | nil => rfl
  | cons a r ih => simp only [List.any_cons, List.all_cons, ih, badCell, Bool.not_and]
theorem state_right (s : St) (many : Int) (w : World) :
    Calls Tryz.prog 88 #[.agg #[.int .i64 s.pc, .int .i64 s.c0, .int .i64 s.c1, .int .i64 s.c2, .int .i64 s.c3, .int .i64 s.c4, .int .i64 s.c5, .bool s.failed], .int .i64 many] w (TellOk w (stOk s many)) := by
  obtain ⟨q, hq⟩ : ∃ q, q = s.nums.all cellB := ⟨_, rfl⟩
  have HCN : Hid (∀ w', w'.heap[w.heap.size]? = some (.cells (stV s) 106 (0, 0)) → Calls Tryz.prog 135 #[.slice (some ⟨w.heap.size, 1, none⟩) 6 6, .func (.func 136) #[] #[]] w' fun e w'' => e = .returned (.bool (!q)) ∧ w'' = w') := fun w' hh => by
    rw [hq, ← any_all]
    refine contains_cells _ 6 6 s.nums w' ⟨rfl, fun _ => ⟨w.heap.size, 1, rfl, blk_lt hh, fun j u hu => ?_⟩⟩ (by omega)
    rw [blk_cell hh]
    match j, hu with
    | 0, hu => exact hu
    | 1, hu => exact hu
    | 2, hu => exact hu
    | 3, hu => exact hu
    | 4, hu => exact hu
    | 5, hu => exact hu
  obtain ⟨pc, c0, c1, c2, c3, c4, c5, f⟩ := s
  simp only [] at HCN ⊢
  unfold stOk
  rw [← hq]
  have HQ := hid hq
  clear hq
  by_cases h0 : pc < 0
  · rw [show decide (0 ≤ pc ∧ pc < many) = false from decide_eq_false (by omega), Bool.false_and]
    have d1 : decide (0 ≤ pc) = false := decide_eq_false (by omega)
    clear HCN
    go_enter Tryz.func88, Tryz.ntmps88
    go_wp2_with fail
    go_ret
    exact ⟨rfl, (Below.refl _ _).alloc (Nat.le_refl _) _⟩
  by_cases h1 : many ≤ pc
  · rw [show decide (0 ≤ pc ∧ pc < many) = false from decide_eq_false (by omega), Bool.false_and]
    have d1 : decide (0 ≤ pc) = true := decide_eq_true (by omega)
    have d2 : decide (pc < many) = false := decide_eq_false (by omega)
    have h2 : 0 ≤ pc := by omega
    clear HCN h0
    go_enter Tryz.func88, Tryz.ntmps88
    go_wp2_with fail
    go_ret
    exact ⟨rfl, (Below.refl _ _).alloc (Nat.le_refl _) _⟩
  · rw [show decide (0 ≤ pc ∧ pc < many) = true from decide_eq_true (by omega), Bool.true_and]
    have h2 : 0 ≤ pc := by omega
    have h3 : pc < many := by omega
    clear h0 h1
    go_enter Tryz.func88, Tryz.ntmps88
    go_wp2_with (go_at_call 135; refine (HCN.out _ (heap_alloc_new w _)).mono ?_; rintro e w1 ⟨rfl, rfl⟩)
    go_ret
    exact ⟨by simp, (Below.refl _ _).alloc (Nat.le_refl _) _⟩

theorem room_new (w : World) : Calls Tryz.prog 80 #[] w fun e w' => e = .returned (.agg (stV St.zero)) ∧ Below w.heap.size w w' := by
  go_enter Tryz.func80, Tryz.ntmps80
  go_wp2_with fail
  refine bodyPost_ret (v := .agg (stV St.zero)) (by simp [results, Tryz.results80, go_sem, stV, St.zero]) rfl ?_
  exact ⟨rfl, by repeat (first | exact Below.refl _ _ | refine Below.setCell ?_ (by simp) _ | refine Below.alloc ?_ (by simp) _)⟩

end Go.Proofs.YtldllmhgofacbaaGreatDoor
