/- framesame.Ints and Lists: of two lists that are the same they say so. -/
import Derived.Test.YtnighanlonkjbaaDoorLine
namespace Go.Proofs.YtnighanlonkjbaaDoor
open Go.RowKit
set_option maxRecDepth 100000

/-- A call that only reads. -/
def Read (w : World) (v : Value) (e : Ending) (w' : World) : Prop := e = .returned v ∧ ∃ m, w' = w.drewN m
theorem Read.below {w w' : World} {v : Value} {e : Ending} (h : Read w v e w') : e = .returned v ∧ Below w.heap.size w w' := by
  obtain ⟨h1, m, rfl⟩ := h; exact ⟨h1, ⟨rfl, rfl, rfl, Nat.le_refl _, fun _ _ => rfl⟩⟩

theorem same_ints (A B : Option Addr) (n ca cb : Nat) (xs : List Int) (w : World) (hA : Sl w A 1 n (ints xs)) (hB : Sl w B 1 n (ints xs)) (hn : n ≤ 140737488355328) (hca : n ≤ ca) (hcb : n ≤ cb) :
    Calls Tryd.prog 62 #[.slice A n ca, .slice B n cb] w (Read w (.bool true)) := by
  have HA := hid hA
  have HB := hid hB
  have hlen : xs.length = n := by have := hA.1; rw [ints_len] at this; omega
  have HL := hid hlen
  clear hA hB hlen
  go_enter Tryd.func62, Tryd.ntmps62
  go_wp2_with fail
  go_loopw [5] (fun v5 wr => ∃ k d : Nat, k ≤ n ∧ v5 = .int .i64 k ∧ wr = w.drewN d) (fun v5 _ => n - (intOf v5).toNat)
  case atStart => exact ⟨0, 0, by omega, rfl, rfl⟩
  case round =>
    obtain ⟨k, d, hk, rfl, rfl⟩ := hrel
    by_cases hkn : k < n
    · obtain ⟨b, o, rfl, _, hx⟩ := HA.out.2 (by omega)
      obtain ⟨b2, o2, rfl, _, hx2⟩ := HB.out.2 (by omega)
      have hu : (ints xs)[k]? = some (.int .i64 (xs[k]'(by rw [HL.out]; exact hkn))) := by simp [ints]
      have c1 := hx k _ hu
      have c2 := hx2 k _ hu
      generalize xs[k]'(by rw [HL.out]; exact hkn) = x at c1 c2
      clear hu hx hx2
      go_wp2_with fail
      go_quiet (fail)
      go_wp2_with fail
      go_roundw
      case rel => exact ⟨k + 1, _, by omega, by go_num, rfl⟩
      case measure => simp [intOf]; omega
    · obtain rfl : k = n := by omega
      go_wp2_with fail
      go_ret
      exact ⟨rfl, d, rfl⟩
theorem same_ints_q (A B : Option Addr) (n ca cb : Nat) (xs : List Int) (w : World) (d : Nat) (hA : Sl w A 1 n (ints xs)) (hB : Sl w B 1 n (ints xs)) (hn : n ≤ 140737488355328) (hca : n ≤ ca) (hcb : n ≤ cb) :
    Calls Tryd.prog 62 #[.slice A n ca, .slice B n cb] (w.drewN d) fun e w' => e = .returned (.bool true) ∧ ∃ m, w' = w.drewN m := by
  have hb : Below w.heap.size w (w.drewN d) := ⟨rfl, rfl, rfl, Nat.le_refl _, fun _ _ => rfl⟩
  exact Calls.quiet_of ((same_ints A B n ca cb xs _ (hA.new hb) (hB.new hb) hn hca hcb).mono fun _ _ h => h)
end Go.Proofs.YtnighanlonkjbaaDoor
