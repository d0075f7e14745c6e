/- Plain: a kernel of rooms that count. -/
import Derived.Test.YtnighanlonkjbaaDoorKernLaw
namespace Go.Proofs.YtnighanlonkjbaaDoor

theorem count_frame' (n : Nat) (h : 1 ≤ n) (h5 : n ≤ 5) : (frameChk n (countSpans n)).2 = 0 := by
  rcases (show n = 1 ∨ n = 2 ∨ n = 3 ∨ n = 4 ∨ n = 5 by omega) with rfl | rfl | rfl | rfl | rfl <;> decide
theorem count_turn_nat' (n m : Nat) (h : m < n) (h5 : n ≤ 5) : turnAt (countSpans n) m = m := by
  rcases (show n = 1 ∨ n = 2 ∨ n = 3 ∨ n = 4 ∨ n = 5 by omega) with rfl | rfl | rfl | rfl | rfl <;>
    rcases (show m = 0 ∨ m = 1 ∨ m = 2 ∨ m = 3 ∨ m = 4 by omega) with rfl | rfl | rfl | rfl | rfl <;> first | (exfalso; omega) | decide

/-- The plan of n rooms that count, and what they are behind t ticks. -/
def countPl (n : Nat) : Pl := ⟨List.replicate n countOps, n, countSpans n, []⟩
theorem countPl_ok (n : Nat) (h : 1 ≤ n) (h5 : n ≤ 5) : planChk (countPl n) = 0 := by
  rcases (show n = 1 ∨ n = 2 ∨ n = 3 ∨ n = 4 ∨ n = 5 by omega) with rfl | rfl | rfl | rfl | rfl <;> decide
def cst (T : Nat) : St := ⟨(T % 2 : Nat), (T / 2 : Nat), if T = 0 then 0 else 1, 0, 0, 0, 0, false⟩
def turnsTo (n t r : Nat) : Nat := (t + (n - 1 - r)) / n
def countK (n t : Nat) : Kst := ⟨(List.range n).map fun r => cst (turnsTo n t r), [], t⟩
theorem turnsTo_hit (n t : Nat) (h : 1 ≤ n) : turnsTo n (t + 1) (t % n) = turnsTo n t (t % n) + 1 := by
  unfold turnsTo
  have h1 := Nat.mod_lt t h
  have h2 := Nat.div_add_mod t n
  generalize t / n = q at h2
  generalize t % n = r at h1 h2
  rw [show t + 1 + (n - 1 - r) = n * q + n by omega, show t + (n - 1 - r) = n * q + (n - 1) by omega, Nat.mul_add_div h, Nat.mul_add_div h, Nat.div_self h, Nat.div_eq_of_lt (by omega)]
theorem turnsTo_miss (n t r : Nat) (h : r < n) (hr : r ≠ t % n) : turnsTo n (t + 1) r = turnsTo n t r := by
  unfold turnsTo
  have hn : 1 ≤ n := by omega
  have h1 := Nat.mod_lt t hn
  have h2 := Nat.div_add_mod t n
  generalize t / n = q at h2
  generalize t % n = m at h1 h2 hr
  by_cases hlt : r < m
  · rw [show t + 1 + (n - 1 - r) = n * (q + 1) + (m - r) by rw [Nat.mul_add]; omega, show t + (n - 1 - r) = n * (q + 1) + (m - 1 - r) by rw [Nat.mul_add]; omega, Nat.mul_add_div hn, Nat.mul_add_div hn, Nat.div_eq_of_lt (by omega), Nat.div_eq_of_lt (by omega)]
  · rw [show t + 1 + (n - 1 - r) = n * q + (m + n - r) by omega, show t + (n - 1 - r) = n * q + (m + (n - 1 - r)) by omega, Nat.mul_add_div hn, Nat.mul_add_div hn, Nat.div_eq_of_lt (by omega), Nat.div_eq_of_lt (by omega)]
theorem turnsTo_end (n m r : Nat) (h : r < n) : turnsTo n (2 * n * m) r = 2 * m := by
  unfold turnsTo
  rw [show 2 * n * m = n * (2 * m) by rw [Nat.mul_comm 2 n, Nat.mul_assoc], Nat.mul_add_div (by omega), Nat.div_eq_of_lt (by omega), Nat.add_zero]
theorem turnsTo_zero (n r : Nat) (h : r < n) : turnsTo n 0 r = 0 := by
  unfold turnsTo; rw [Nat.zero_add, Nat.div_eq_of_lt (by omega)]
theorem cst_step (T : Nat) (h : T < 1000) : ∃ o, countOps[(cst T).pc.toNat]? = some o ∧ o.what ≠ 8 ∧ o.what ≠ 9 ∧ (stepDo 2 o (cst T) 0 false).1 = cst (T + 1) := by
  rcases Nat.mod_two_eq_zero_or_one T with h2 | h2
  · refine ⟨⟨1, 1, 1⟩, ?_, by decide, by decide, ?_⟩
    · simp [cst, h2, countOps]
    · simp only [stepDo, cst, nextPc, h2]
      apply St.ext' <;> simp [St.put] <;> omega
  · refine ⟨⟨3, 0, 1⟩, ?_, by decide, by decide, ?_⟩
    · simp [cst, h2, countOps]
    · simp only [stepDo, cst, nextPc, h2]
      apply St.ext' <;> simp [St.put, St.get] <;> (try split) <;> omega
theorem count_tick (n t : Nat) (h : 1 ≤ n) (h5 : n ≤ 5) (ht : t ≤ 400) : (tick (countPl n) (countK n t)).2 = countK n (t + 1) := by
  have hr := Nat.mod_lt t h
  have hturn : turnAt (countSpans n) ((countK n t).time % (countPl n).ticks) = ((t % n : Nat) : Int) := by
    show turnAt (countSpans n) ((t : Int) % (n : Int)) = _
    rw [← Int.natCast_emod]; exact count_turn_nat' n _ hr h5
  have hT : turnsTo n t (t % n) < 1000 := by
    unfold turnsTo
    have := Nat.div_le_self (t + (n - 1 - t % n)) n
    omega
  obtain ⟨o, ho, h8, h9, hs⟩ := cst_step _ hT
  have hc : (countPl n).code[t % n]? = some countOps := by
    show (List.replicate n countOps)[t % n]? = _
    rw [List.getElem?_replicate, if_pos hr]
  have hrm : (countK n t).rooms[t % n]? = some (cst (turnsTo n t (t % n))) := by
    simp [countK, List.getElem?_map, List.getElem?_range hr]
  unfold tick
  rw [show (countPl n).spans = countSpans n from rfl, tick_room hturn hc hrm ho]
  have hk : (kDo countOps.length (t % n) o (cst (turnsTo n t (t % n))) (countK n t)).2 = ⟨(countK n t).rooms.set (t % n) (cst (turnsTo n t (t % n) + 1)), [], t⟩ := by
    unfold kDo
    rw [if_neg (by simp [cst]), if_neg h9, if_neg h8]
    rw [show ((countOps.length : Nat) : Int) = 2 from rfl, hs]
    rfl
  rw [hk]
  show Kst.mk _ _ _ = Kst.mk _ _ _
  congr 1
  apply List.ext_getElem?
  intro j
  rw [List.getElem?_set]
  show _ = ((List.range n).map fun r => cst (turnsTo n (t + 1) r))[j]?
  rw [List.getElem?_map]
  by_cases hj : j < n
  · rw [List.getElem?_range hj]
    by_cases e : t % n = j
    · subst e
      rw [if_pos rfl, if_pos (by simp [countK]; exact hr)]
      simp [turnsTo_hit n t h]
    · rw [if_neg e]
      simp only [countK, List.getElem?_map, List.getElem?_range hj, Option.map_some]
      rw [turnsTo_miss n t j hj (fun e' => e e'.symm)]
  · rw [List.getElem?_eq_none (l := List.range n) (by simpa using hj)]
    have : t % n ≠ j := by omega
    rw [if_neg this]
    simp [countK]
    omega
theorem count_new (n : Nat) : kNew (countPl n) = countK n 0 := by
  show Kst.mk _ _ _ = Kst.mk _ _ _
  congr 1
  apply List.ext_getElem?
  intro j
  simp only [countPl, List.getElem?_map, List.getElem?_replicate]
  by_cases hj : j < n
  · rw [if_pos hj, List.getElem?_range hj]
    simp only [Option.map_some]
    rw [turnsTo_zero n j hj]
    rfl
  · rw [if_neg hj, List.getElem?_eq_none (by simpa using hj)]; rfl
end Go.Proofs.YtnighanlonkjbaaDoor
