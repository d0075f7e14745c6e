/- Plain: the plan of two rooms of which one sends on a wire. -/
import Derived.Test.YtnighanlonkjbaaDoorPlanLaw
namespace Go.Proofs.YtnighanlonkjbaaDoor

def portsPl (x : Wire) : Pl := ⟨[[⟨10, 0, 0⟩], [⟨8, 0, 0⟩]], 1, [], [x]⟩
theorem flow_one (x : Wire) : (flowChk [x]).2 = wireChk x := by
  unfold flowChk
  rw [if_neg (by simp)]
  by_cases h : wireChk x = 0
  · rw [wiresChk_next (x := x) rfl h, wiresChk_end (by simp), h]
  · rw [wiresChk_bad (x := x) rfl h]
theorem wire_rooms {x : Wire} (h : wireChk x = 0) : 0 ≤ x.fr ∧ x.fr < 5 ∧ 0 ≤ x.to ∧ x.to < 5 := by
  unfold wireChk at h
  split at h
  · simp at h
  · rename_i h1
    simp only [not_or] at h1
    have h2 := roomB_true.1 (by simpa using h1.1)
    have h3 := roomB_true.1 (by simpa using h1.2.1)
    omega
theorem ports_bad {x : Wire} (h : wireChk x ≠ 0) : planChk (portsPl x) = wireChk x := by
  have h1 : (frameChk 1 []).2 = 0 := by decide
  unfold planChk portsPl
  simp only [flow_one, h1]
  simp [h]
theorem ports_ok {k d : Int} (h : wireChk ⟨0, 1, k, d⟩ = 0) : planChk (portsPl ⟨0, 1, k, d⟩) = 3 ∧ planChk (portsPl ⟨1, 0, k, d⟩) = 0 := by
  have h1 : (frameChk 1 []).2 = 0 := by decide
  have h2 : wireChk ⟨1, 0, k, d⟩ = 0 := by
    unfold wireChk at h ⊢
    simp [roomB] at h ⊢
    exact h
  have hc : codesChk [[(⟨10, 0, 0⟩ : Op)], [⟨8, 0, 0⟩]] = 0 := by decide
  constructor
  · unfold planChk portsPl
    simp only [flow_one, h1, h, hc]
    simp [wireOver, allPorts, portsOk, portOk]
  · unfold planChk portsPl
    simp only [flow_one, h1, h2, hc]
    simp [wireOver, allPorts, portsOk, portOk]
end Go.Proofs.YtnighanlonkjbaaDoor
