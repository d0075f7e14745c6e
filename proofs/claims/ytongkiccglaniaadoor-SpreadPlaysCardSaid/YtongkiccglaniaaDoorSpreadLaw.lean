/- Plain: a step of a room on a machine of its own, with lines between, is the step of the kernel's room. -/
import Derived.Test.YtongkiccglaniaaDoorAloneMem
namespace Go.Proofs.YtongkiccglaniaaDoor

def pTakes (o : Op) (s : St) : Bool := decide (o.what = 9) && !s.failed
def pGot (k : Kst) (o : Op) (s : St) : Int × Bool := if pTakes o s = true then sGot k o else (0, false)
theorem p_do (n : Int) (k : Kst) (o : Op) (s : St) : stepDo n o s (pGot k o s).1 (pGot k o s).2 = sDo n k o s := by
  unfold sDo pGot
  by_cases hf : s.failed = true
  · unfold stepDo; rw [if_pos hf, if_pos hf]
  · by_cases h9 : o.what = 9
    · rw [if_pos (by simp [pTakes, h9, hf])]
    · rw [if_neg (by simp [pTakes, h9])]; unfold sGot; rw [if_neg h9]
theorem p_takes (k : Kst) (o : Op) (s : St) : (pTakes o s && (pGot k o s).2) = sTakes k o s := by
  unfold pGot sTakes pTakes
  by_cases hf : s.failed = true
  · simp [hf]
  · by_cases h9 : o.what = 9
    · simp [h9, hf]
    · simp [h9]
/-- What came of it. -/
def pWhat (n : Int) (k : Kst) (o : Op) (s : St) : Int :=
  if 0 ≤ (sDo n k o s).2 ∧ (sSend n k o s).1 = false then 3 else whatOf o.what s.failed ((pGot k o s).2 || (o.what == 8))
theorem p_what {n : Int} {k : Kst} {o : Op} {s : St} (hg : ∀ a, a < 6 → 0 ≤ s.get a) (ha : o.a.toNat < 6) : pWhat n k o s = whatOf o.what s.failed (sSend n k o s).1 := by
  unfold pWhat
  by_cases h0 : 0 ≤ (sDo n k o s).2
  · obtain ⟨hf, h8⟩ := sDo_sent h0
    rw [hf, h8]
    cases hs : (sSend n k o s).1 with
    | true => rw [if_neg (by simp)]; simp [whatOf]
    | false => rw [if_pos ⟨h0, rfl⟩]; rfl
  · rw [if_neg (fun h => h0 h.1)]
    by_cases hf : s.failed = true
    · unfold whatOf; rw [if_pos hf, if_pos hf]
    · have hn8 : o.what ≠ 8 := fun h8 => h0 (by
        unfold sDo; rw [stepDo_snd, if_pos ⟨by simpa using hf, h8⟩]; exact hg _ ha)
      have hs : (sSend n k o s).1 = (sGot k o).2 := by unfold sSend; rw [if_neg h0]
      have e8 : (o.what == 8) = false := by simpa using hn8
      rw [hs, e8, Bool.or_false]
      unfold pGot pTakes
      by_cases h9 : o.what = 9
      · rw [if_pos (by simp [h9, hf])]
      · rw [if_neg (by simp [h9])]
        unfold sGot
        rw [if_neg h9]
end Go.Proofs.YtongkiccglaniaaDoor
