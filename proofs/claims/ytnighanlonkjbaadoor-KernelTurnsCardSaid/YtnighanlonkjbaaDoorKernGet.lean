/- Package kernel: the contracts of State, Wire, Poke, Time, for every kernel that is right. -/
import Derived.Test.YtnighanlonkjbaaDoorKernWhat
import Derived.Test.YtnighanlonkjbaaDoorLine2
import Derived.Deep.DeepCutAuto
import Derived.Deep.DrawnRows
namespace Go.Proofs.YtnighanlonkjbaaDoor
open Go.RowKit
set_option maxRecDepth 100000
attribute [local go_sem ↓] Go.wp_at_zero Go.wp_at_succ

def inB (r : Int) (n : Nat) : Bool := decide (0 ≤ r ∧ r < n)
theorem khas_any (kb : Nat) (rA : Option Addr) (n rc : Nat) (r : Int) (w : World) (h4 : w.cell? ⟨kb, 4, none⟩ = some (.slice rA n rc)) (_hn : n ≤ 100) :
    Calls Tryd.prog 73 #[.pointer (some ⟨kb, 0, none⟩), .int .i64 r] w fun e w' => e = .returned (.bool (inB r n)) ∧ w = w' := by
  unfold inB
  by_cases h0 : 0 ≤ r
  · rw [show decide (0 ≤ r ∧ r < (n : Int)) = decide (r < (n : Int)) by simp [h0]]
    go_enter Tryd.func73, Tryd.ntmps73
    go_wp2_with fail
    go_ret
    exact ⟨rfl, rfl⟩
  · rw [show decide (0 ≤ r ∧ r < (n : Int)) = false by simp [h0]]
    have hl : r < 0 := by omega
    go_enter Tryd.func73, Tryd.ntmps73
    go_wp2_with fail
    go_ret
    exact ⟨rfl, rfl⟩

section
variable {kb : Nat} {w : World} {M : KM} {k : Kst}
theorem ktime_any (hka : KAt 137 125 48 w kb M k) :
    Calls Tryd.prog 37 #[.pointer (some ⟨kb, 0, none⟩)] w fun e w' => e = .returned (.int .i64 k.time) ∧ w = w' := by
  obtain ⟨k0, k1, k2, k4, k5, k6, kf, hkb⟩ := hka.cells
  clear k0 k1 k2 k4 k5 kf hka
  go_enter Tryd.func37, Tryd.ntmps37
  go_wp2_with fail
  go_ret
  exact ⟨rfl, rfl⟩

def stateOf (k : Kst) (r : Int) : St × Int := if inB r k.rooms.length = true then (k.rooms.getD r.toNat St.zero, 0) else (St.zero, 1)
def StateV (w : World) (q : St × Int) (e : Ending) (w' : World) : Prop := e = .returned (.tuple #[.agg (stV q.1), errV q.2]) ∧ Below w.heap.size w w'
set_option maxHeartbeats 1000000 in
theorem kstate_any (r : Int) (hn : k.rooms.length ≤ 5) (hka : KAt 137 125 48 w kb M k) :
    Calls Tryd.prog 36 #[.pointer (some ⟨kb, 0, none⟩), .int .i64 r] w (StateV w (stateOf k r)) := by
  obtain ⟨k0, k1, k2, k4, k5, k6, kf, hkb⟩ := hka.cells
  have HHAS : Hid (∀ w', Below w.heap.size w w' → Calls Tryd.prog 73 #[.pointer (some ⟨kb, 0, none⟩), .int .i64 r] w' fun e w'' => e = .returned (.bool (inB r k.rooms.length)) ∧ w' = w'') := fun w' hb =>
    khas_any kb M.rA k.rooms.length M.rc r w' ((hb.cell (p := ⟨kb, 4, none⟩) hkb).trans k4) (by omega)
  unfold stateOf
  cases hin : inB r k.rooms.length with
  | false =>
    rw [if_neg (by decide)]
    rw [hin] at HHAS
    clear k0 k1 k2 k4 k5 k6 kf hka hin
    go_enter Tryd.func36, Tryd.ntmps36
    go_wp2_with (go_at_call 73; refine (HHAS.out _ ((Below.refl _ _).alloc (Nat.le_refl _) _)).mono ?_; rintro e w1 ⟨rfl, rfl⟩)
    refine bodyPost_ret (v := .tuple #[.agg (stV St.zero), errV 1]) (by simp [results, Tryd.results36, go_sem, stV, St.zero, errV]) rfl ?_
    exact ⟨rfl, by repeat (first | exact Below.refl _ _ | refine Below.setCell ?_ (by simp) _ | refine Below.alloc ?_ (by simp) _)⟩
  | true =>
    rw [if_pos rfl]
    rw [hin] at HHAS
    have hr : 0 ≤ r ∧ r < k.rooms.length := by simpa [inB] using hin
    obtain ⟨r', rfl⟩ : ∃ r' : Nat, r = r' := ⟨r.toNat, by omega⟩
    have hg : k.rooms[r']? = some (k.rooms.getD r' St.zero) := by
      rw [List.getD_eq_getElem?_getD, List.getElem?_eq_getElem (by omega)]; rfl
    rw [Int.toNat_natCast]
    generalize k.rooms.getD r' St.zero = s at hg ⊢
    obtain ⟨rb, roff, hrA, ⟨s0, s1, s2, s3, s4, s5, s6, s7⟩, hrf, hrb, hrkb, hrl, hrc, hrm⟩ := hka.room hg
    rw [hrA] at k4
    generalize k.rooms.length = nr at k4 hrl hrc hr HHAS hn
    unfold maxLen at hrm
    obtain ⟨_, hr1⟩ := hr
    obtain ⟨pc, c0, c1, c2, c3, c4, c5, f⟩ := s
    simp only [] at s0 s1 s2 s3 s4 s5 s6 s7
    clear k0 k1 k2 k5 k6 kf hka hin hg hrA hrf
    go_enter Tryd.func36, Tryd.ntmps36
    go_wp2_with (go_at_call 73; refine (HHAS.out _ ((Below.refl _ _).alloc (Nat.le_refl _) _)).mono ?_; rintro e w1 ⟨rfl, rfl⟩)
    refine bodyPost_ret (v := .tuple #[.agg (stV ⟨pc, c0, c1, c2, c3, c4, c5, f⟩), .nilIface]) (by simp [results, Tryd.results36, go_sem, stV]) rfl ?_
    exact ⟨by rw [errV_zero], by repeat (first | exact Below.refl _ _ | refine Below.setCell ?_ (by simp) _ | refine Below.alloc ?_ (by simp) _)⟩
end
end Go.Proofs.YtnighanlonkjbaaDoor
