/- Several parts: each begins with what it says. -/
import Derived.Test.YtldllmhgofacbaaGreatDoorRangeUL
import Derived.Test.YtldllmhgofacbaaGreatDoorRLawU
import Derived.Test.YtldllmhgofacbaaGreatDoorSameUL
import Derived.Test.YtldllmhgofacbaaGreatDoorPlanU
import Derived.Deep.DeepCutAuto
/- Plain: code that is right is read from its own text; and a right op more at its end. No program is walked. Conditions: none. -/
namespace Go.Proofs.YtldllmhgofacbaaGreatDoor

theorem form_of {k : Nat} : (formA k = false ↔ (k = 0 ∨ k = 7 ∨ k = 10 ∨ k = 11)) ∧ (formB k = false ↔ (k = 0 ∨ k = 10 ∨ k = 11)) := by
  unfold formA formB
  simp only [decide_eq_false_iff_not]
  omega
theorem wf_ok {l : List Op} (h : (codeChk l).2 = 0) : ∀ o ∈ l, WfOp o := by
  obtain ⟨h1, h20, hall⟩ := codeChk_ok h
  intro o ho
  obtain ⟨w1, w2, b0, b1, a0, a1⟩ := opOk_iff.1 (hall o ho)
  have hb : bBound o.what l.length ≤ 1000 := by
    unfold bBound
    split
    · omega
    · split
      · omega
      · split
        · omega
        · split <;> omega
  have ha : aBound o.what ≤ 6 := by unfold aBound; split <;> omega
  refine ⟨⟨w1, w2⟩, ⟨a0, by omega⟩, ⟨b0, by omega⟩, fun hf => ?_, fun hf => ?_⟩
  · have hk := form_of.1.1 hf
    unfold aBound at a1
    rw [if_pos (by omega)] at a1
    omega
  · have hk := form_of.2.1 hf
    unfold bBound at b1
    rw [if_neg (by omega), if_neg (by omega), if_neg (by omega), if_neg (by omega)] at b1
    omega
theorem opOk_mono {o : Op} {a b : Int} (h : opOk o a = true) (hab : a ≤ b) : opOk o b = true := by
  obtain ⟨w1, w2, b0, b1, a0, a1⟩ := opOk_iff.1 h
  refine opOk_iff.2 ⟨w1, w2, b0, ?_, a0, a1⟩
  unfold bBound at b1 ⊢
  split
  · rename_i h1; rw [if_pos h1] at b1; exact b1
  · rename_i h1
    rw [if_neg h1] at b1
    split
    · rename_i h2; rw [if_pos h2] at b1; exact b1
    · rename_i h2
      rw [if_neg h2] at b1
      split
      · rename_i h3; rw [if_pos h3] at b1; omega
      · rename_i h3; rw [if_neg h3] at b1; exact b1
theorem opsChk_all {many : Int} {l : List Op} (h : ∀ o ∈ l, opOk o many = true) : ∀ (f k : Nat), (opsChk many l f k).2 = 0
  | 0, _ => rfl
  | f + 1, k => by
    unfold opsChk
    split
    · rfl
    · rename_i o ho
      rw [if_neg (by rw [h o (List.mem_of_getElem? ho)]; decide)]
      exact opsChk_all h f (k + 1)
theorem chk_more {l : List Op} {o : Op} (h : (codeChk l).2 = 0) (ho : (codeChk [o]).2 = 0) (hl : l.length < 20) : (codeChk (l ++ [o])).2 = 0 := by
  obtain ⟨h1, _, hall⟩ := codeChk_ok h
  obtain ⟨_, _, hone⟩ := codeChk_ok ho
  have hlen : (l ++ [o]).length = l.length + 1 := by simp
  unfold codeChk
  rw [if_neg (by omega), if_neg (by omega)]
  refine opsChk_all (fun x hx => ?_) _ _
  rcases List.mem_append.1 hx with hx | hx
  · exact opOk_mono (hall x hx) (by omega)
  · exact opOk_mono (hone x hx) (by rw [hlen]; simp only [List.length_singleton]; omega)
theorem text_le {l : List Op} (h : ∀ o ∈ l, WfOp o) : (codeText l).length ≤ 15 * l.length := by
  have hname : ∀ k, (nameOf k).length ≤ 4 := by intro k; unfold nameOf; split <;> decide
  have hnums : ∀ L : List Int, (∀ n ∈ L, 0 ≤ n ∧ n < 10 ^ 4) → (L.flatMap numT).length ≤ 5 * L.length := by
    intro L
    induction L with
    | nil => intro _; simp
    | cons n L ih =>
      intro hL
      have h1 := ih fun m hm => hL m (by simp [hm])
      have h2 := itoa_le (k := 3) (hL n (by simp)).1 (hL n (by simp)).2
      have h3 : (numT n).length = (Lib.itoa n).length + 1 := rfl
      rw [List.flatMap_cons, List.length_append, List.length_cons]; omega
  induction l with
  | nil => simp [codeText]
  | cons o l ih =>
    have h1 := ih fun x hx => h x (by simp [hx])
    obtain ⟨_, hl, hn⟩ := op_wf (h o (by simp))
    have h2 := hnums _ hn
    have h3 := hname o.what.toNat
    have h4 : manyOf o.what.toNat ≤ 2 := by unfold manyOf; split <;> split <;> omega
    have h5 : (opText o).length = (nameOf o.what.toNat).length + ((fieldsOf o).flatMap numT).length + 1 := by
      unfold opText opLine
      rw [List.length_append, List.length_append, List.length_singleton]
    unfold codeText at h1 ⊢
    rw [List.flatMap_cons, List.length_append, List.length_cons]; omega
/-- The text that the statement reads first. -/
def factOps : List Op := [⟨1, 1, 5⟩, ⟨8, 1, 0⟩, ⟨7, 0, 0⟩]
theorem itoa_one {i : Nat} (h : i < 10) : Lib.itoa (i : Int) = [UInt8.ofNat (48 + i)] := by rw [itoa_nat]; exact Lib.decDigits_one h
theorem fact_text : codeText factOps = [115, 101, 116, 32, 49, 32, 53, 10, 115, 101, 110, 100, 32, 49, 32, 48, 10, 106, 117, 109, 112, 32, 48, 10] := by
  have h0 : Lib.itoa 0 = [48] := itoa_one (i := 0) (by decide)
  have h1 : Lib.itoa 1 = [49] := itoa_one (i := 1) (by decide)
  have h5 : Lib.itoa 5 = [53] := itoa_one (i := 5) (by decide)
  simp [codeText, factOps, opText, opLine, fieldsOf, nameOf, formA, formB, numT, h0, h1, h5]
theorem fact_ok : (codeChk factOps).2 = 0 := by decide
end Go.Proofs.YtldllmhgofacbaaGreatDoor

/- framesame.Code and Plan: of two that are the same they say so. -/
namespace Go.Proofs.YtldllmhgofacbaaGreatDoor
open Go.RowKit
set_option maxRecDepth 100000

def planV (a : PM) : Value := .agg #[.slice a.A a.ros.length a.c, .int .i64 a.ticks, .slice a.sA a.spans.length a.sc, .slice a.wA a.wires.length a.wc]
end Go.Proofs.YtldllmhgofacbaaGreatDoor
