/- Plain: what is wrong with a plan. -/
import Derived.Test.YtnighanlonkjbaaDoorFrame2
import Derived.Test.YtnighanlonkjbaaDoorWays
import Derived.Test.YtnighanlonkjbaaDoorStepLaw
namespace Go.Proofs.YtnighanlonkjbaaDoor

/-- A plan as plain data. -/
structure Pl where
  code : List (List Op)
  ticks : Int
  spans : List Span
  wires : List Wire
def spanOver (many : Int) (s : Span) : Bool := decide (many ≤ s.room)
def wireOver (many : Int) (x : Wire) : Bool := decide (many ≤ x.fr ∨ many ≤ x.to)
/-- The first fault of codes. -/
def codesChk : List (List Op) → Int
  | [] => 0
  | l :: r => if (codeChk l).2 ≠ 0 then (codeChk l).2 else codesChk r
/-- Is an op's wire its room's own? -/
def portOk (ws : List Wire) (room : Nat) (o : Op) : Bool :=
  if o.what = 8 then (match ws[o.b.toNat]? with | some x => decide (x.fr = room) | none => false)
  else if o.what = 9 then (match ws[o.b.toNat]? with | some x => decide (x.to = room) | none => false) else true
def portsOk (ws : List Wire) (room : Nat) (l : List Op) : Bool := l.all (portOk ws room)
def allPorts (ws : List Wire) : List (List Op) → Nat → Bool
  | [], _ => true
  | l :: r, i => portsOk ws i l && allPorts ws r (i + 1)
def planChk (p : Pl) : Int :=
  if 5 < p.code.length then 4 else if p.code.length = 0 then 5
  else if (frameChk p.ticks p.spans).2 ≠ 0 then (frameChk p.ticks p.spans).2
  else if (flowChk p.wires).2 ≠ 0 then (flowChk p.wires).2
  else if (p.spans.any (spanOver p.code.length) || p.wires.any (wireOver p.code.length)) = true then 1
  else if codesChk p.code ≠ 0 then codesChk p.code
  else if allPorts p.wires p.code 0 = false then 3 else 0

theorem codesChk_ok {l : List (List Op)} (h : codesChk l = 0) : ∀ c ∈ l, (codeChk c).2 = 0 := by
  induction l with
  | nil => intro c hc; simp at hc
  | cons a r ih =>
    unfold codesChk at h
    split at h
    · rename_i h1; exact absurd h h1
    · rename_i h1
      intro c hc
      rcases List.mem_cons.1 hc with rfl | hc
      · simpa using h1
      · exact ih h c hc
theorem allPorts_ok {ws : List Wire} : ∀ {l : List (List Op)} {i : Nat}, allPorts ws l i = true → ∀ k c, l[k]? = some c → portsOk ws (i + k) c = true
  | [], _, _, k, c, h => by simp at h
  | a :: r, i, h, 0, c, hc => by
    simp only [allPorts, Bool.and_eq_true] at h
    simp at hc; subst hc; exact h.1
  | a :: r, i, h, k + 1, c, hc => by
    simp only [allPorts, Bool.and_eq_true] at h
    have := allPorts_ok h.2 k c (by simpa using hc)
    rwa [show i + 1 + k = i + (k + 1) by omega] at this

/-- What is known of a plan that is right. -/
structure PlOk (p : Pl) : Prop where
  some1 : 1 ≤ p.code.length
  most5 : p.code.length ≤ 5
  frame : (frameChk p.ticks p.spans).2 = 0
  flow : (flowChk p.wires).2 = 0
  spans : ∀ s ∈ p.spans, s.room < p.code.length
  wires : ∀ x ∈ p.wires, x.fr < p.code.length ∧ x.to < p.code.length
  codes : ∀ c ∈ p.code, (codeChk c).2 = 0
  ports : ∀ k c, p.code[k]? = some c → portsOk p.wires k c = true
theorem planChk_ok {p : Pl} (h : planChk p = 0) : PlOk p := by
  unfold planChk at h
  by_cases h1 : 5 < p.code.length
  · rw [if_pos h1] at h; simp at h
  rw [if_neg h1] at h
  by_cases h2 : p.code.length = 0
  · rw [if_pos h2] at h; simp at h
  rw [if_neg h2] at h
  by_cases h3 : (frameChk p.ticks p.spans).2 ≠ 0
  · rw [if_pos h3] at h; exact absurd h h3
  rw [if_neg h3] at h
  by_cases h4 : (flowChk p.wires).2 ≠ 0
  · rw [if_pos h4] at h; exact absurd h h4
  rw [if_neg h4] at h
  by_cases h5 : (p.spans.any (spanOver p.code.length) || p.wires.any (wireOver p.code.length)) = true
  · rw [if_pos h5] at h; simp at h
  rw [if_neg h5] at h
  by_cases h6 : codesChk p.code ≠ 0
  · rw [if_pos h6] at h; exact absurd h h6
  rw [if_neg h6] at h
  by_cases h7 : allPorts p.wires p.code 0 = false
  · rw [if_pos h7] at h; simp at h
  simp only [Bool.or_eq_true, not_or, Bool.not_eq_true, List.any_eq_false] at h5
  refine ⟨by omega, by omega, by simpa using h3, by simpa using h4, fun s hs => ?_, fun x hx => ?_, codesChk_ok (by simpa using h6), fun k c hk => ?_⟩
  · have := h5.1 s hs
    simp only [spanOver, decide_eq_false_iff_not] at this; omega
  · have := h5.2 x hx
    simp only [wireOver, decide_eq_false_iff_not] at this; omega
  · have := allPorts_ok (ws := p.wires) (l := p.code) (i := 0) (by simpa using h7) k c hk
    rwa [Nat.zero_add] at this
end Go.Proofs.YtnighanlonkjbaaDoor
