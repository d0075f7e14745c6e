/- framesame.States: of two lists of states that are the same it says so. -/
import Derived.Test.YtnmbomhlonifnaaDoorSameU
import Derived.Test.YtnmbomhlonifnaaDoorWhatU
import Derived.Deep.DeepCutAuto
import Derived.Deep.DrawnRows
import Derived.IntWalk
namespace Go.Proofs.YtnmbomhlonifnaaDoor
open Go.RowKit
set_option maxRecDepth 100000

theorem Sl.state {w : World} {A : Option Addr} {n : Nat} {l : List St} (h : Sl w A 8 n (l.flatMap St.cells)) {i : Nat} (hi : i < l.length) (hn : i < n) :
    ∃ b o, A = some ⟨b, o, none⟩ ∧ b < w.heap.size ∧ StIn w b (o + i * 8) l[i] := by
  obtain ⟨b, o, hA, hb, hx⟩ := h.2 (by omega)
  have hc : ∀ j u, l[i].cells[j]? = some u → w.cell? ⟨b, o + i * 8 + j, none⟩ = some u := fun j u hu => by
    have hj : j < 8 := by have := (List.getElem?_eq_some_iff.1 hu).1; rw [St.len] at this; exact this
    rw [Nat.add_assoc]
    exact hx (i * 8 + j) u ((flatMap_get St.cells 8 St.len l i j _ (List.getElem?_eq_getElem hi) hj).trans hu)
  exact ⟨b, o, hA, hb, ⟨hc 0 _ rfl, hc 1 _ rfl, hc 2 _ rfl, hc 3 _ rfl, hc 4 _ rfl, hc 5 _ rfl, hc 6 _ rfl, hc 7 _ rfl⟩⟩
set_option maxHeartbeats 1000000 in
theorem same_states (A B : Option Addr) (n ca cb : Nat) (l : List St) (w : World) (hA : Sl w A 8 n (l.flatMap St.cells)) (hB : Sl w B 8 n (l.flatMap St.cells)) (hn : n ≤ 100000000) (hca : n ≤ ca) (hcb : n ≤ cb) :
    Calls Tryd.prog 39 #[.slice A n ca, .slice B n cb] w (Read w (.bool true)) := by
  have HA := hid hA
  have HB := hid hB
  have hlen : l.length = n := by have := hA.1; rw [flatMap_len St.cells 8 St.len] at this; omega
  have HL := hid hlen
  have hgd := state_guard
  clear hA hB hlen
  go_enter Tryd.func39, Tryd.ntmps39
  go_wp2_with fail
  go_loopw [5] (fun v5 wr => ∃ k d : Nat, k ≤ n ∧ v5 = .int .i64 k ∧ wr = w.drewN d) (fun v5 _ => n - (intOf v5).toNat)
  case atStart => exact ⟨0, 0, by omega, rfl, rfl⟩
  case round =>
    obtain ⟨k, d, hk, rfl, rfl⟩ := hrel
    by_cases hkn : k < n
    · have hkl : k < l.length := by rw [HL.out]; exact hkn
      obtain ⟨b, o, rfl, _, c0, c1, c2, c3, c4, c5, c6, c7⟩ := HA.out.state hkl hkn
      obtain ⟨b2, o2, rfl, _, d0, d1, d2, d3, d4, d5, d6, d7⟩ := HB.out.state hkl hkn
      have hneq : ∀ w, (binOp .neq 43 (.agg (stV l[k])) (.agg (stV l[k]))).run Tryd.prog w = .ok (.bool false) w := fun w => by
        have := state_neq l[k] l[k] w
        rw [stEq_refl] at this; exact this
      generalize l[k] = x at c0 c1 c2 c3 c4 c5 c6 c7 d0 d1 d2 d3 d4 d5 d6 d7 hneq
      obtain ⟨x0, x1, x2, x3, x4, x5, x6, x7⟩ := x
      simp only [stV] at c0 c1 c2 c3 c4 c5 c6 c7 d0 d1 d2 d3 d4 d5 d6 d7 hneq
      clear hkl
      go_wp2_with fail
      go_quiet (fail)
      go_wp2_with fail
      go_roundw
      case rel => exact ⟨k + 1, _, by omega, by go_num, rfl⟩
      case measure => simp [intOf]; omega
    · obtain rfl : k = n := by omega
      go_wp2_with fail
      go_ret
      exact ⟨rfl, d, rfl⟩
end Go.Proofs.YtnmbomhlonifnaaDoor
