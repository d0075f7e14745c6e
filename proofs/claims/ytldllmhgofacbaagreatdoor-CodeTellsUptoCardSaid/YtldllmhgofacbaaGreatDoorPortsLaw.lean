/- Plain: the ports of code, in order and once each: sorted and compacted is what the reference puts one by one. No program is walked. Conditions: none. -/
import Derived.Test.YtldllmhgofacbaaGreatDoorRPlanU
import Derived.Lib.SlicesCompact
namespace Go.Proofs.YtldllmhgofacbaaGreatDoor
open Go.Lib

theorem strict_ext : ∀ (a b : List Int), a.Pairwise (· < ·) → b.Pairwise (· < ·) → (∀ u, u ∈ a ↔ u ∈ b) → a = b
  | [], [], _, _, _ => rfl
  | [], y :: b, _, _, h => absurd ((h y).2 (by simp)) (by simp)
  | x :: a, [], _, _, h => absurd ((h x).1 (by simp)) (by simp)
  | x :: a, y :: b, ha, hb, h => by
    have ha' := List.pairwise_cons.1 ha
    have hb' := List.pairwise_cons.1 hb
    have hxy : x = y := by
      have h1 := (h x).1 (by simp)
      have h2 := (h y).2 (by simp)
      rcases List.mem_cons.1 h1 with e | h1
      · exact e
      · rcases List.mem_cons.1 h2 with e | h2
        · exact e.symm
        · have := ha'.1 y h2
          have := hb'.1 x h1
          omega
    subst hxy
    rw [strict_ext a b ha'.2 hb'.2 fun u => ?_]
    constructor
    · intro hu
      have h1 := ha'.1 u hu
      rcases List.mem_cons.1 ((h u).1 (by simp [hu])) with e | h2
      · omega
      · exact h2
    · intro hu
      have h1 := hb'.1 u hu
      rcases List.mem_cons.1 ((h u).2 (by simp [hu])) with e | h2
      · omega
      · exact h2
theorem putL_strict : ∀ (l : List Int) (v : Int), l.Pairwise (· < ·) → (putL l v).Pairwise (· < ·)
  | [], v, _ => by simp [putL]
  | x :: l, v, h => by
    have h' := List.pairwise_cons.1 h
    unfold putL
    split
    · exact h
    · split
      · refine List.pairwise_cons.2 ⟨fun u hu => ?_, h⟩
        rcases List.mem_cons.1 hu with rfl | hu
        · assumption
        · have := h'.1 u hu; omega
      · refine List.pairwise_cons.2 ⟨fun u hu => ?_, putL_strict l v h'.2⟩
        rcases (putL_mem l v u).1 hu with rfl | hu
        · omega
        · exact h'.1 u hu
theorem portsL_strict (k : Int) : ∀ (l : List Op) (acc : List Int), acc.Pairwise (· < ·) → (portsL l k acc).Pairwise (· < ·)
  | [], _, h => h
  | o :: l, acc, h => by
    unfold portsL
    refine portsL_strict k l _ ?_
    split
    · exact putL_strict _ _ h
    · exact h
theorem compact_mem (zs : List Int) (u : Int) : u ∈ compact zs ↔ u ∈ zs := by
  have H : ∀ j, j < zs.length → ∃ i, i < zs.length ∧ keeps zs.toArray i = true ∧ zs.toArray[i]! = zs.toArray[j]! := by
    intro j
    induction j with
    | zero => intro h; exact ⟨0, h, by unfold keeps; simp, rfl⟩
    | succ j ih =>
      intro h
      by_cases hk : keeps zs.toArray (j + 1) = true
      · exact ⟨j + 1, h, hk, rfl⟩
      · obtain ⟨i, h1, h2, h3⟩ := ih (by omega)
        refine ⟨i, h1, h2, h3.trans ?_⟩
        have hk2 : ¬ (j + 1 = 0 ∨ zs.toArray[j + 1]! ≠ zs.toArray[j + 1 - 1]!) := fun e => hk (decide_eq_true e)
        rw [Nat.add_sub_cancel] at hk2
        exact (Classical.not_not.1 fun e => hk2 (.inr e)).symm
  unfold compact compactUpTo
  simp only [List.mem_map, List.mem_filter, List.mem_range]
  constructor
  · rintro ⟨i, ⟨h1, _⟩, rfl⟩
    rw [getElem!_pos zs.toArray i (by simpa using h1)]
    simp
  · intro h
    obtain ⟨j, hj, rfl⟩ := List.mem_iff_getElem.1 h
    obtain ⟨i, h1, h2, h3⟩ := H j hj
    refine ⟨i, ⟨h1, h2⟩, h3.trans ?_⟩
    rw [getElem!_pos zs.toArray j (by simpa using hj)]
    simp
theorem compact_strict {zs : List Int} (h : zs.Pairwise (· ≤ ·)) : (compact zs).Pairwise (· < ·) := by
  unfold compact compactUpTo
  rw [List.pairwise_map]
  have h1 : ((List.range zs.length).filter (keeps zs.toArray)).Pairwise (· < ·) := List.Pairwise.filter _ List.pairwise_lt_range
  refine h1.imp_of_mem ?_
  intro i j hi hj hij
  simp only [List.mem_filter, List.mem_range] at hi hj
  have hk : j = 0 ∨ zs.toArray[j]! ≠ zs.toArray[j - 1]! := of_decide_eq_true hj.2
  have e : ∀ k (hk : k < zs.length), zs.toArray[k]! = zs[k] := fun k hk => by
    rw [getElem!_pos zs.toArray k (by simpa using hk)]; simp
  have hne : zs.toArray[j]! ≠ zs.toArray[j - 1]! := by
    rcases hk with rfl | hk
    · omega
    · exact hk
  rw [e j hj.1, e (j - 1) (by omega)] at hne
  rw [e i hi.1, e j hj.1]
  have hle := List.pairwise_iff_getElem.1 h
  have a1 : zs[j - 1]'(by omega) ≤ zs[j]'hj.1 := hle (j - 1) j (by omega) hj.1 (by omega)
  have a2 : zs[i]'hi.1 ≤ zs[j - 1]'(by omega) := by
    by_cases e2 : i = j - 1
    · subst e2; exact Int.le_refl _
    · exact hle i (j - 1) hi.1 (by omega) (by omega)
  omega
/-- On which wires ops of a kind are, as they come. -/
def onL (l : List Op) (k : Int) : List Int := (l.filter fun o => decide (o.what = k)).map Op.b
theorem onL_mem (l : List Op) (k u : Int) : u ∈ onL l k ↔ ∃ o ∈ l, o.what = k ∧ o.b = u := by
  unfold onL
  simp only [List.mem_map, List.mem_filter, decide_eq_true_eq]
  constructor
  · rintro ⟨o, ⟨h1, h2⟩, h3⟩; exact ⟨o, h1, h2, h3⟩
  · rintro ⟨o, h1, h2, h3⟩; exact ⟨o, ⟨h1, h2⟩, h3⟩
theorem on_ports (l : List Op) (k : Int) : compact ((onL l k).mergeSort fun x y => decide (x ≤ y)) = portsL l k [] := by
  have hs : ((onL l k).mergeSort fun x y => decide (x ≤ y)).Pairwise (· ≤ ·) := by
    have := List.pairwise_mergeSort (le := fun x y : Int => decide (x ≤ y)) (fun a b c h1 h2 => by simp at *; omega) (fun a b => by simp; omega) (onL l k)
    exact this.imp fun h => by simpa using h
  refine strict_ext _ _ (compact_strict hs) (portsL_strict k l [] List.Pairwise.nil) fun u => ?_
  rw [compact_mem, List.mem_mergeSort, onL_mem, portsL_mem]
  simp
theorem onL_snoc {l : List Op} {k : Int} {j : Nat} {o : Op} (h : l[j]? = some o) : onL (l.take (j + 1)) k = onL (l.take j) k ++ (if o.what = k then [o.b] else []) := by
  obtain ⟨h1, h2⟩ := List.getElem?_eq_some_iff.1 h
  unfold onL
  rw [List.take_succ_eq_append_getElem h1, List.filter_append, List.map_append, h2]
  congr 1
  by_cases e : o.what = k <;> simp [e]
theorem onL_len (l : List Op) (k : Int) : (onL l k).length ≤ l.length := by
  unfold onL; rw [List.length_map]; exact List.length_filter_le _ _
end Go.Proofs.YtldllmhgofacbaaGreatDoor
