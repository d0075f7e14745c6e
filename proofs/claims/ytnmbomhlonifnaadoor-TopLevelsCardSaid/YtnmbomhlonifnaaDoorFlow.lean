/- Package flow: contracts of Reach, for every list of wires. -/
import Derived.Test.YtnmbomhlonifnaaDoorWaysU
namespace Go.Proofs.YtnmbomhlonifnaaDoor
open Go.RowKit
set_option maxRecDepth 100000

noncomputable def reachOf (l : List Wire) (a b : Int) : Bool × Int :=
  if (flowChk l).2 ≠ 0 then (false, (flowChk l).2) else if roomB a = false ∨ roomB b = false then (false, 1) else (reachB l a.toNat b.toNat, 0)
def TellB (w : World) (r : Bool × Int) (e : Ending) (w' : World) : Prop := e = .returned (.tuple #[.bool r.1, errV r.2]) ∧ Below w.heap.size w w'

theorem reach_any (a b : Int) (A : Option Addr) (c : Nat) (l : List Wire) (w : World) (hs : Sl w A 4 l.length (l.flatMap Wire.cells)) (hsw : SlW A c l.length) :
    Calls Tryd.prog 28 #[.slice A l.length c, .int .i64 a, .int .i64 b] w (TellB w (reachOf l a b)) := by
  have HS := hid hs
  have HW := hid hsw
  clear hs hsw
  by_cases he : (flowChk l).2 = 0
  · obtain ⟨h12, hall, hin⟩ := flowChk_ok he
    have HE := hid he
    have HIN := hid hin
    clear hall hin
    cases ha : roomB a with
    | false =>
      rw [show reachOf l a b = (false, 1) by simp [reachOf, he, ha]]
      clear he
      go_enter Tryd.func28, Tryd.ntmps28
      go_wp2_with (first
        | (go_at_call 65; refine (flow_right A c l _ HS.out HW.out).mono ?_; rw [HE.out]; rintro e w1 ⟨rfl, hb1⟩; rw [errV_zero])
        | (go_at_call 66; refine (room_any _ _).mono ?_; rintro e w2 ⟨rfl, rfl⟩))
      go_ret2
      exact ⟨rfl, hb1⟩
    | true =>
      cases hb : roomB b with
      | false =>
        rw [show reachOf l a b = (false, 1) by simp [reachOf, he, hb]]
        clear he
        go_enter Tryd.func28, Tryd.ntmps28
        go_wp2_with (first
          | (go_at_call 65; refine (flow_right A c l _ HS.out HW.out).mono ?_; rw [HE.out]; rintro e w1 ⟨rfl, hb1⟩; rw [errV_zero])
          | (go_at_call 66; refine (room_any _ _).mono ?_; rintro e w2 ⟨rfl, rfl⟩))
        go_ret2
        exact ⟨rfl, hb1⟩
      | true =>
        obtain ⟨a0, a5⟩ := roomB_true.1 ha
        obtain ⟨b0, b5⟩ := roomB_true.1 hb
        obtain ⟨i, rfl⟩ : ∃ n : Nat, a = n := ⟨a.toNat, by omega⟩
        obtain ⟨j, rfl⟩ : ∃ n : Nat, b = n := ⟨b.toNat, by omega⟩
        rw [show reachOf l i j = (reachB l i j, 0) by simp [reachOf, he, ha, hb]]
        have r1 := ways_row l i (by omega)
        have r2 := ways_cell l i j (by omega) (by omega)
        generalize reachB l i j = q at r2 ⊢
        clear he
        go_enter Tryd.func28, Tryd.ntmps28
        go_wp2_with (first
          | (go_at_call 65; refine (flow_right A c l _ HS.out HW.out).mono ?_; rw [HE.out]; rintro e w1 ⟨rfl, hb1⟩; rw [errV_zero]; have HB1 := hid hb1; clear hb1)
          | (go_at_call 66; refine (room_any _ _).mono ?_; rintro e w2 ⟨rfl, rfl⟩)
          | (go_at_call 54; refine (ways_any A c l _ (HS.out.new HB1.out) h12 HIN.out).mono ?_; rintro e w3 ⟨rfl, hb3⟩))
        go_ret2
        exact ⟨rfl, HB1.out.trans (hb3.mono HB1.out.size)⟩
  · rw [show reachOf l a b = (false, (flowChk l).2) by simp [reachOf, he]]
    have hv := errV_pos he
    have HV := hid hv
    clear he hv
    go_enter Tryd.func28, Tryd.ntmps28
    go_wp2_with (go_at_call 65; refine (flow_right A c l _ HS.out HW.out).mono ?_; rw [HV.out]; rintro e w1 ⟨rfl, hb1⟩)
    go_ret2
    exact ⟨by rw [HV.out]; rfl, hb1⟩
end Go.Proofs.YtnmbomhlonifnaaDoor
