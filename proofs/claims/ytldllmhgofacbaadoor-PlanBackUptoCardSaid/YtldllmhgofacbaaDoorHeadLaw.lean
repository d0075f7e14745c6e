/- Plain: which lines are a plan's heads, and what the reader makes of them. No program is walked. Conditions: none. -/
import Derived.Test.YtldllmhgofacbaaDoorPlanText
namespace Go.Proofs.YtldllmhgofacbaaDoor

def partWord : Nat → List UInt8
  | 0 => [102, 114, 97, 109, 101]
  | 1 => [115, 112, 97, 110]
  | 2 => [119, 105, 114, 101]
  | _ => [114, 111, 111, 109]
def partMany : Nat → Nat
  | 0 => 1
  | 1 => 3
  | 2 => 4
  | _ => 0
def mkLine (i : Nat) (ns : List Nat) : PLine :=
  match i with
  | 0 => .frame (ns.getD 0 0 : Nat)
  | 1 => .span ⟨(ns.getD 0 0 : Nat), (ns.getD 1 0 : Nat), (ns.getD 2 0 : Nat)⟩
  | 2 => .wire ⟨(ns.getD 0 0 : Nat), (ns.getD 1 0 : Nat), (ns.getD 2 0 : Nat), (ns.getD 3 0 : Nat)⟩
  | _ => .room
theorem four {i : Nat} (h : i < 4) : i = 0 ∨ i = 1 ∨ i = 2 ∨ i = 3 := by omega
theorem mk_word {i : Nat} (ns : List Nat) (h : i < 4) : (mkLine i ns).word = partWord i := by rcases four h with rfl | rfl | rfl | rfl <;> rfl
theorem mk_head {i : Nat} (ns : List Nat) (h : i < 4) : (mkLine i ns).isHead = true := by rcases four h with rfl | rfl | rfl | rfl <;> rfl
theorem mk_nums {i : Nat} {ns : List Nat} (h : i < 4) (hl : ns.length = partMany i) : (mkLine i ns).nums = ns.map Int.ofNat := by
  rcases four h with rfl | rfl | rfl | rfl
  · match ns, hl with
    | [a], _ => rfl
  · match ns, hl with
    | [a, b, c], _ => rfl
  · match ns, hl with
    | [a, b, c, d], _ => rfl
  · match ns, hl with
    | [], _ => rfl
theorem nums_text {s v0 : List UInt8} {vs : List (List UInt8)} {ns : List Nat} (hc : cutA 32 [] s = v0 :: vs) (hn : numsOf 4 vs = some ns) : s = v0 ++ (ns.map Int.ofNat).flatMap numT ∧ ∀ n ∈ ns, n < 10 ^ 4 := by
  obtain ⟨h1, h2⟩ := (numsOf_some (by decide)).1 hn
  refine ⟨?_, fun n hm => ?_⟩
  · have h3 := cutA_join 32 s [] v0 vs hc
    rw [List.nil_append] at h3
    rw [h3, h1]
    congr 1
    rw [List.flatMap_map, List.flatMap_map]
    rfl
  · have := h2 (Lib.itoa (n : Int)) (by rw [h1]; exact List.mem_map_of_mem (f := fun n : Nat => Lib.itoa (n : Int)) hm)
    rw [itoa_nat] at this
    exact num_lt (by omega)
theorem head_yes {s : List UInt8} {vs : List (List UInt8)} {ns : List Nat} {i : Nat} (hc : cutA 32 [] s = partWord i :: vs) (hi : i < 4) (hn : numsOf 4 vs = some ns) (hl : ns.length = partMany i) : (mkLine i ns).Wf ∧ (mkLine i ns).txt = s := by
  obtain ⟨h1, h2⟩ := nums_text hc hn
  refine ⟨⟨fun n hm => ?_, ?_⟩, ?_⟩
  · rw [mk_nums hi hl] at hm
    obtain ⟨k, hk, rfl⟩ := List.mem_map.1 hm
    have := h2 k hk
    have h10 : (10 : Int) ^ 4 = 10000 := by decide
    exact ⟨Int.natCast_nonneg k, by rw [h10]; show (k : Int) < 10000; omega⟩
  · rcases four hi with rfl | rfl | rfl | rfl <;> trivial
  · unfold PLine.txt
    rw [mk_nums hi hl, mk_word ns hi]; exact h1.symm
theorem head_of {l : PLine} {s v0 : List UInt8} {vs : List (List UInt8)} (hl : l.Wf) (hh : l.isHead = true) (h : l.txt = s) (hc : cutA 32 [] s = v0 :: vs) : ∃ i, i < 4 ∧ v0 = partWord i ∧ numsOf 4 vs = some (l.nums.map Int.toNat) ∧ (l.nums.map Int.toNat).length = partMany i ∧ ∃ ns, l = mkLine i ns := by
  have h1 := PLine.cut hl
  rw [h, hc] at h1
  injection h1 with hw hv
  have hn := PLine.numsOf hl
  rw [← hv] at hn
  have tn : ∀ n ∈ l.nums, ((n.toNat : Nat) : Int) = n := fun n hm => by have := (hl.1 n hm).1; omega
  cases l with
  | frame n => exact ⟨0, by decide, hw, hn, rfl, [n.toNat], by unfold mkLine; simp only [List.getD_cons_zero]; rw [tn n (by simp [PLine.nums])]⟩
  | span x => exact ⟨1, by decide, hw, hn, rfl, [x.fr.toNat, x.to.toNat, x.room.toNat], by
      obtain ⟨x0, x1, x2⟩ := x
      simp only [PLine.nums] at tn
      unfold mkLine
      simp only [List.getD_cons_zero, List.getD_cons_succ]
      rw [tn x0 (by simp), tn x1 (by simp), tn x2 (by simp)]⟩
  | wire x => exact ⟨2, by decide, hw, hn, rfl, [x.fr.toNat, x.to.toNat, x.kind.toNat, x.deep.toNat], by
      obtain ⟨x0, x1, x2, x3⟩ := x
      simp only [PLine.nums] at tn
      unfold mkLine
      simp only [List.getD_cons_zero, List.getD_cons_succ]
      rw [tn x0 (by simp), tn x1 (by simp), tn x2 (by simp), tn x3 (by simp)]⟩
  | room => exact ⟨3, by decide, hw, hn, rfl, [], rfl⟩
  | op o => cases hh
theorem partWord_inj {i j : Nat} (hi : i < 4) (hj : j < 4) (h : partWord i = partWord j) : i = j := by
  rcases four hi with rfl | rfl | rfl | rfl <;> rcases four hj with rfl | rfl | rfl | rfl <;> first | rfl | (simp [partWord] at h)
/-- May such a head come now? -/
def PS.may (s : PS) (i : Nat) : Prop := s.part ≤ i ∧ (i = 0 ↔ s.begun = false)
theorem step_no {s : PS} {i : Nat} (ns : List Nat) (hi : i < 4) (h0 : s.begun = false → s.part = 0) (hp : s.part ≤ 3) (h : ¬ s.may i) : s.step (mkLine i ns) = none := by
  unfold PS.may at h
  rcases four hi with rfl | rfl | rfl | rfl
  · show s.step (.frame _) = none
    rw [step_frame]
    by_cases hb : s.begun = true
    · rw [if_pos hb]
    · exact absurd ⟨by rw [h0 (by simpa using hb)]; exact Nat.le_refl _, by simpa using hb⟩ h
  · show s.step (.span _) = none
    rw [step_span, if_neg]
    rintro ⟨h1, h2⟩
    exact h ⟨h2, by rw [h1]; simp⟩
  · show s.step (.wire _) = none
    rw [step_wire, if_neg]
    rintro ⟨h1, h2⟩
    exact h ⟨h2, by rw [h1]; simp⟩
  · show s.step .room = none
    rw [step_room, if_neg]
    intro h1
    exact h ⟨hp, by rw [h1]; simp⟩
/-- Another word: no head. -/
theorem head_none {s v0 : List UInt8} {vs : List (List UInt8)} (hc : cutA 32 [] s = v0 :: vs) (h : ∀ i, i < 4 → partWord i ≠ v0) (l : PLine) (hl : l.Wf) (hh : l.isHead = true) : l.txt ≠ s := fun e => by
  obtain ⟨i, h1, h2, _⟩ := head_of hl hh e hc
  exact h i h1 h2.symm
/-- No numbers: no head. -/
theorem head_nonum {s v0 : List UInt8} {vs : List (List UInt8)} (hc : cutA 32 [] s = v0 :: vs) (h : numsOf 4 vs = none) (l : PLine) (hl : l.Wf) (hh : l.isHead = true) : l.txt ≠ s := fun e => by
  obtain ⟨i, _, _, h2, _⟩ := head_of hl hh e hc
  rw [h] at h2; cases h2
/-- The word, but not its numbers, or not now. -/
theorem head_not {s : List UInt8} {vs : List (List UInt8)} {ns : List Nat} {i : Nat} {S : PS} (hc : cutA 32 [] s = partWord i :: vs) (hi : i < 4) (hn : numsOf 4 vs = some ns) (h0 : S.begun = false → S.part = 0) (h3 : S.part ≤ 3) (h : ¬ (ns.length = partMany i ∧ S.may i)) (l : PLine) (hl : l.Wf) (hh : l.isHead = true) (e : l.txt = s) : S.step l = none := by
  obtain ⟨j, h1, h2, h4, h5, ms, rfl⟩ := head_of hl hh e hc
  have hij := partWord_inj hi h1 h2
  subst hij
  rw [hn] at h4
  injection h4 with h4
  rw [← h4] at h5
  exact step_no ms hi h0 h3 fun hm => h ⟨h5, hm⟩
end Go.Proofs.YtldllmhgofacbaaDoor
