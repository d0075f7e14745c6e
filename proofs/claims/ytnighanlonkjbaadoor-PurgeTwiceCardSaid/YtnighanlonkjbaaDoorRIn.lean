/- frameref1.In: is a number in a list? -/
import Derived.Test.YtnighanlonkjbaaDoorLineU
namespace Go.Proofs.YtnighanlonkjbaaDoor
open Go.RowKit
set_option maxRecDepth 100000

theorem rin_any (A : Option Addr) (n c : Nat) (xs : List Int) (v : Int) (w : World) (hA : Sl w A 1 n (ints xs)) (hn : n ≤ 140737488355328) (_hc : n ≤ c) :
    Calls Tryd.prog 54 #[.slice A n c, .int .i64 v] w fun e w' => e = .returned (.bool (decide (v ∈ xs))) ∧ w = w' := by
  have HA := hid hA
  have hlen : xs.length = n := by have := hA.1; rw [ints_len] at this; omega
  have HL := hid hlen
  obtain ⟨D, hD⟩ : ∃ D, D = decide (v ∈ xs) := ⟨_, rfl⟩
  rw [← hD]
  have HD := hid hD
  clear hA hlen hD
  go_enter Tryd.func54, Tryd.ntmps54
  go_wp2_with fail
  go_loopw [5] (fun v5 wr => ∃ k : Nat, k ≤ n ∧ v5 = .int .i64 k ∧ wr = w ∧ v ∉ xs.take k) (fun v5 _ => n - (intOf v5).toNat)
  case atStart => exact ⟨0, by omega, rfl, rfl, by simp⟩
  case round =>
    obtain ⟨k, hk, rfl, rfl, hnot⟩ := hrel
    have HN := hid hnot
    clear hnot
    by_cases hkn : k < n
    · obtain ⟨b, o, rfl, _, hx⟩ := HA.out.2 (by omega)
      have hkl : k < xs.length := by rw [HL.out]; exact hkn
      have hu : (ints xs)[k]? = some (.int .i64 xs[k]) := by simp [ints, hkl]
      have c1 := hx k _ hu
      have HT := hid (List.take_succ_eq_append_getElem hkl)
      have HM : Hid (xs[k] ∈ xs) := List.getElem_mem hkl
      generalize xs[k] = x at c1 HT HM
      clear hu hx hkl
      by_cases hxv : x = v
      · subst hxv
        have hd : D = true := by rw [HD.out]; exact decide_eq_true HM.out
        go_wp2_with fail
        go_ret
        exact ⟨by rw [hd]; rfl, rfl⟩
      · have e1 : (x == v) = false := by simpa using hxv
        have HX := hid hxv
        clear hxv
        go_wp2_with fail
        go_roundw
        case rel => exact ⟨k + 1, by omega, by go_num, by first | rfl | trivial, by rw [HT.out]; intro h; rcases List.mem_append.1 h with h | h; exact HN.out h; simp at h; exact HX.out h.symm⟩
        case measure => simp [intOf]; omega
    · obtain rfl : n = k := by omega
      have hd : D = false := by
        rw [HD.out]
        have h := HN.out
        rw [List.take_of_length_le (by rw [HL.out]; exact Nat.le_refl _)] at h
        exact decide_eq_false h
      go_wp2_with fail
      go_ret
      exact ⟨by rw [hd]; rfl, rfl⟩
end Go.Proofs.YtnighanlonkjbaaDoor
