/- Plain: a room that fails at each third op, and goes on. No program in sight. -/
import Derived.Test.YtnmbomhlonifnaaDoorCareLaw
namespace Go.Proofs.YtnmbomhlonifnaaDoor

def onOps : List Op := [⟨1, 1, 1⟩, ⟨3, 0, 1⟩, ⟨11, 0, 0⟩]
def onPl : Pl := ⟨[onOps], 1, [⟨0, 1, 0⟩], []⟩
theorem on_chk : planChk onPl = 0 := by decide
/-- The room behind u ticks that did something. -/
def onSt (u : Nat) : St := if u = 0 then St.zero else if (u - 1) % 3 = 0 then ⟨1, ((u - 1) / 3 : Nat), 1, 0, 0, 0, 0, false⟩ else ⟨2, ((u - 1) / 3 + 1 : Nat), 1, 0, 0, 0, 0, decide ((u - 1) % 3 = 2)⟩
def onU (most t : Nat) : Nat := if t ≤ 3 * (most + 1) then t else 3 * (most + 1)
def onC (most t : Nat) : Cst := ⟨⟨[onSt (onU most t)], [], t⟩, [(((onU most t - 1) / 3 : Nat) : Int)]⟩
theorem on_turn (t : Int) : turnAt onPl.spans (t % onPl.ticks) = ((0 : Nat) : Int) := by
  show turnAt [⟨0, 1, 0⟩] (t % 1) = 0
  rw [Int.emod_one]; decide
theorem on_help (most : Nat) (c : Cst) (s : St) (hs : c.k.rooms = [s]) : careC onPl [2] most c = if due [2] c.times most 0 s = true then ⟨⟨[helped 3 2 s], c.k.lines, c.k.time⟩, c.times.set 0 (c.times.getD 0 0 + 1)⟩ else c := by
  unfold careC
  rw [on_turn, if_neg (by omega), Int.toNat_natCast]
  unfold helpC
  rw [hs]
  rfl
theorem on_tick (k : Kst) (s : St) (o : Op) (hs : k.rooms = [s]) (ho : onOps[s.pc.toNat]? = some o) (hf : s.failed = false) (h8 : o.what ≠ 8) (h9 : o.what ≠ 9) : (tick onPl k).2 = ⟨[(stepDo 3 o s 0 false).1], k.lines, k.time + 1⟩ := by
  unfold tick
  rw [tick_room (on_turn k.time) (ops := onOps) (s := s) rfl (by rw [hs]; rfl) ho]
  unfold kDo
  rw [if_neg (by rw [hf]; decide), if_neg h9, if_neg h8, hs]
  rfl
theorem on_stuck (k : Kst) (s : St) (o : Op) (hs : k.rooms = [s]) (ho : onOps[s.pc.toNat]? = some o) (hf : s.failed = true) : (tick onPl k).2 = ⟨k.rooms, k.lines, k.time + 1⟩ := by
  unfold tick
  rw [tick_room (on_turn k.time) (ops := onOps) (s := s) rfl (by rw [hs]; rfl) ho]
  unfold kDo
  rw [if_pos hf]
theorem on_step (most t : Nat) (hm : most ≤ 100) : (careTick onPl [2] most (onC most t)).2 = onC most (t + 1) := by
  unfold careTick
  rw [on_help most (onC most t) _ rfl]
  by_cases hlt : t < 3 * (most + 1)
  · have e0 : onU most t = t := by unfold onU; rw [if_pos (by omega)]
    have e1 : onU most (t + 1) = t + 1 := by unfold onU; rw [if_pos (by omega)]
    by_cases h0 : t = 0
    · subst h0
      rw [if_neg (by unfold due onC onU; simp [onSt, St.zero]), on_tick (onC most 0).k St.zero ⟨1, 1, 1⟩ (by simp [onC, onU, onSt]) rfl rfl (by decide) (by decide)]
      simp only [onC, e1, e0]
      rfl
    · obtain ⟨j, q, hj, hq⟩ : ∃ j q : Nat, t = 3 * j + q + 1 ∧ q < 3 := ⟨(t - 1) / 3, (t - 1) % 3, by omega, by omega⟩
      have hjm : j ≤ most := by omega
      have d0 : (t - 1) / 3 = j := by omega
      have d1 : (t - 1) % 3 = q := by omega
      rcases (show q = 0 ∨ q = 1 ∨ q = 2 by omega) with rfl | rfl | rfl
      · have s0 : onSt t = ⟨1, (j : Nat), 1, 0, 0, 0, 0, false⟩ := by unfold onSt; rw [if_neg h0, d1, d0, if_pos rfl]
        have s1 : onSt (t + 1) = ⟨2, (j + 1 : Nat), 1, 0, 0, 0, 0, false⟩ := by
          unfold onSt
          rw [if_neg (by omega), show (t + 1 - 1) % 3 = 1 by omega, show (t + 1 - 1) / 3 = j by omega, if_neg (by decide)]; rfl
        simp only [onC, e0, e1, s0, s1]
        rw [if_neg (by simp [due]), on_tick _ _ ⟨3, 0, 1⟩ rfl rfl rfl (by decide) (by decide)]
        rw [show (t + 1 - 1) / 3 = (t - 1) / 3 by omega]
        simp only [stepDo, nextPc]
        have hmod : ((j : Int) + 1) % 1000 = (j : Int) + 1 := Int.emod_eq_of_lt (by omega) (by omega)
        simp [St.put, St.get, hmod]
      · have s0 : onSt t = ⟨2, (j + 1 : Nat), 1, 0, 0, 0, 0, false⟩ := by unfold onSt; rw [if_neg h0, d1, d0, if_neg (by decide)]; rfl
        have s1 : onSt (t + 1) = ⟨2, (j + 1 : Nat), 1, 0, 0, 0, 0, true⟩ := by
          unfold onSt
          rw [if_neg (by omega), show (t + 1 - 1) % 3 = 2 by omega, show (t + 1 - 1) / 3 = j by omega, if_neg (by decide)]; rfl
        simp only [onC, e0, e1, s0, s1]
        rw [if_neg (by simp [due]), on_tick _ _ ⟨11, 0, 0⟩ rfl rfl rfl (by decide) (by decide)]
        rw [show (t + 1 - 1) / 3 = (t - 1) / 3 by omega]
        simp [stepDo]
      · have s0 : onSt t = ⟨2, (j + 1 : Nat), 1, 0, 0, 0, 0, true⟩ := by unfold onSt; rw [if_neg h0, d1, d0, if_neg (by decide)]; rfl
        have s1 : onSt (t + 1) = ⟨1, (j + 1 : Nat), 1, 0, 0, 0, 0, false⟩ := by
          unfold onSt
          rw [if_neg (by omega), show (t + 1 - 1) % 3 = 0 by omega, show (t + 1 - 1) / 3 = j + 1 by omega, if_pos rfl]
        simp only [onC, e0, e1, s0, s1, d0]
        rw [if_pos (by simp [due]; omega), on_tick _ (helped 3 2 ⟨2, (j + 1 : Nat), 1, 0, 0, 0, 0, true⟩) ⟨1, 1, 1⟩ rfl rfl rfl (by decide) (by decide)]
        rw [show (t + 1 - 1) / 3 = j + 1 by omega]
        simp [stepDo, nextPc, helped, St.put]
  · have e0 : onU most t = 3 * (most + 1) := by unfold onU; split <;> omega
    have e1 : onU most (t + 1) = 3 * (most + 1) := by unfold onU; rw [if_neg (by omega)]
    have s0 : onSt (3 * (most + 1)) = ⟨2, (most + 1 : Nat), 1, 0, 0, 0, 0, true⟩ := by
      unfold onSt
      rw [if_neg (by omega), show (3 * (most + 1) - 1) % 3 = 2 by omega, show (3 * (most + 1) - 1) / 3 = most by omega, if_neg (by decide)]; rfl
    simp only [onC, e0, e1, s0]
    rw [show (3 * (most + 1) - 1) / 3 = most by omega]
    rw [if_neg (by simp [due]), on_stuck _ _ ⟨11, 0, 0⟩ rfl rfl rfl]
    rfl
theorem on_run (most : Nat) (hm : most ≤ 100) : ∀ t : Nat, runC onPl [2] most t = onC most t
  | 0 => by simp [runC, careNew, kNew, onC, onU, onSt, onPl]
  | t + 1 => by
    show (careTick onPl [2] most (runC onPl [2] most t)).2 = _
    rw [on_run most hm t, on_step most t hm]
/-- What the law asks. -/
theorem on_c0 (most t : Nat) : (onSt (onU most t)).c0 = if (((t : Int) + 1) / 3) > (most : Int) + 1 then (most : Int) + 1 else ((t : Int) + 1) / 3 := by
  unfold onU onSt
  repeat' split
  all_goals first | (show (0 : Int) = _; omega) | (simp only []; omega) | omega
theorem on_times (most t : Nat) : (((onU most t - 1) / 3 : Nat) : Int) = if (if t = 0 then (0 : Int) else ((t : Int) - 1) / 3) > (most : Int) then (most : Int) else if t = 0 then 0 else ((t : Int) - 1) / 3 := by
  unfold onU
  repeat' split
  all_goals omega
end Go.Proofs.YtnmbomhlonifnaaDoor
