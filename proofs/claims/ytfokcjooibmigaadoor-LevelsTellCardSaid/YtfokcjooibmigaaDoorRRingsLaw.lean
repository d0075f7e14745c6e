/- Rings and levels as chapter 13's reference reckons them: plain laws. -/
import Derived.Test.YtfokcjooibmigaaDoorRingsLaw
import Derived.Test.YtfokcjooibmigaaDoorLeastLaw
namespace Go.Proofs.YtfokcjooibmigaaDoor

/-- The first of a ring is its room just where the room was not done ahead. -/
theorem ring_head {l : List Wire} {a : Nat} : ∀ {j : Nat}, a < j → ∃ b : Nat, (ringTo l a j)[0]? = some (b : Int) ∧ b ≤ a ∧ sameB l a b = true ∧ ∀ c, c < b → sameB l a c = false
  | j + 1, h => by
    rw [ringTo]
    by_cases e : a < j
    · obtain ⟨b, h1, h2⟩ := ring_head (l := l) e
      exact ⟨b, by rw [List.getElem?_append_left (List.getElem?_eq_some_iff.1 h1).1]; exact h1, h2⟩
    · obtain rfl : a = j := by omega
      rw [if_pos (sameB_self l a)]
      by_cases hz : ringTo l a a = []
      · refine ⟨a, by rw [hz]; rfl, Nat.le_refl _, sameB_self l a, fun c hc => ?_⟩
        cases hs : sameB l a c with
        | false => rfl
        | true =>
          have : (c : Int) ∈ ringTo l a a := ringTo_mem.2 ⟨c, hc, rfl, hs⟩
          rw [hz] at this; simp at this
      · have hl : 0 < (ringTo l a a).length := List.length_pos_iff.2 hz
        -- the least one below
        have key : ∀ n : Nat, ∀ b : Nat, b < a → sameB l a b = true → b ≤ n → ∃ b : Nat, b < a ∧ sameB l a b = true ∧ ∀ c, c < b → sameB l a c = false := by
          intro n
          induction n with
          | zero => intro b h1 h2 h3; exact ⟨b, h1, h2, fun c hc => absurd hc (by omega)⟩
          | succ n ih =>
            intro b h1 h2 h3
            by_cases hx : ∃ c, c < b ∧ sameB l a c = true
            · obtain ⟨c, hc, hs⟩ := hx
              exact ih c (by omega) hs (by omega)
            · refine ⟨b, h1, h2, fun c hc => ?_⟩
              cases hs : sameB l a c with
              | false => rfl
              | true => exact absurd ⟨c, hc, hs⟩ hx
        obtain ⟨x, _, _⟩ := List.getElem_of_mem (List.getElem_mem hl)
        obtain ⟨b0, hb0, _, hs0⟩ := ringTo_mem.1 (List.getElem_mem hl)
        obtain ⟨b, hb, hs, hno⟩ := key b0 b0 hb0 hs0 (Nat.le_refl _)
        refine ⟨b, ?_, by omega, hs, hno⟩
        rw [List.getElem?_append_left hl]
        exact ring_least (Nat.le_refl _) hb hs hno
where
  ring_least {l : List Wire} {a : Nat} : ∀ {j b : Nat}, j ≤ a → b < j → sameB l a b = true → (∀ c, c < b → sameB l a c = false) → (ringTo l a j)[0]? = some (b : Int)
    | j + 1, b, hj, hb, hs, hno => by
      rw [ringTo]
      by_cases e : b < j
      · have := ring_least (l := l) (a := a) (j := j) (by omega) e hs hno
        rw [List.getElem?_append_left (List.getElem?_eq_some_iff.1 this).1]; exact this
      · obtain rfl : b = j := by omega
        have hz : ringTo l a b = [] := by
          rcases List.eq_nil_or_concat (ringTo l a b) with h | ⟨r, x, h⟩
          · exact h
          · have hx : x ∈ ringTo l a b := by rw [h]; simp
            obtain ⟨c, hc, _, hs2⟩ := ringTo_mem.1 hx
            rw [hno c hc] at hs2; cases hs2
        rw [hz, if_pos hs]; rfl
theorem ring_mine {l : List Wire} {a b : Nat} (h : (ringTo l a 5)[0]? = some (b : Int)) (ha : a < 5) : (b = a) ↔ doneB l a a = false := by
  obtain ⟨c, h1, h2, h3, h4⟩ := ring_head (l := l) ha
  rw [h1] at h
  have hcb : c = b := by injection h with h; omega
  subst hcb
  constructor
  · rintro rfl
    cases hd : doneB l c c with
    | false => rfl
    | true =>
      obtain ⟨x, hx, hs⟩ := doneB_iff.1 hd
      have h5 := sameB_symm hs
      rw [h4 x hx] at h5; cases h5
  · intro hd
    rcases Nat.lt_or_ge c a with hlt | hge
    · have : doneB l a a = true := doneB_iff.2 ⟨c, hlt, sameB_symm h3⟩
      rw [this] at hd; cases hd
    · omega

/-- Does a wire lead up into a room's group? -/
noncomputable def upInto (l : List Wire) (r : Nat) (x : Wire) : Bool := sameB l x.to.toNat r && !reachB l x.to.toNat x.fr.toNat
/-- The best of the first k wires. -/
noncomputable def bestTo (l : List Wire) (r k : Nat) : Nat := ((l.take k).filter (upInto l r)).foldl (fun m x => max m (rnd l 5 x.fr.toNat + 1)) 0
theorem bestTo_succ {l : List Wire} {r k : Nat} {x : Wire} (h : l[k]? = some x) : bestTo l r (k + 1) = if upInto l r x then max (bestTo l r k) (rnd l 5 x.fr.toNat + 1) else bestTo l r k := by
  have hk := (List.getElem?_eq_some_iff.1 h).1
  have hx : l[k] = x := by rw [List.getElem?_eq_getElem hk] at h; exact Option.some.inj h
  unfold bestTo
  rw [List.take_succ_eq_append_getElem hk, List.filter_append, List.foldl_append, hx]
  by_cases hu : upInto l r x <;> simp [hu]
theorem upInto_lt {l : List Wire} (hr : InRooms l) {r : Nat} {x : Wire} (hx : x ∈ l) (hu : upInto l r x = true) : rnd l 5 x.fr.toNat + 1 ≤ rnd l 5 r := by
  have hb := hr x hx
  simp only [upInto, Bool.and_eq_true, Bool.not_eq_true'] at hu
  have hs := sameB_iff.1 hu.1
  have h1 := rnd_up hr (u := x.fr.toNat) (v := x.to.toNat) ⟨x, hx, by omega, by omega⟩ (fun h => by rw [reachB_iff.2 h] at hu; exact absurd hu.2 (by simp))
  have h2 := rnd_same hr hs.1 hs.2
  omega
theorem fold_max_le : ∀ (m : List Wire) (f : Wire → Nat) (s B : Nat), s ≤ B → (∀ x ∈ m, f x ≤ B) → m.foldl (fun m x => max m (f x)) s ≤ B
  | [], _, _, _, h, _ => h
  | y :: m, f, s, B, h, hf => fold_max_le m f _ B (by have := hf y (by simp); show max s (f y) ≤ B; omega) (fun x hx => hf x (by simp [hx]))
theorem fold_max_ge : ∀ (m : List Wire) (f : Wire → Nat) (s : Nat), s ≤ m.foldl (fun m x => max m (f x)) s ∧ ∀ x ∈ m, f x ≤ m.foldl (fun m x => max m (f x)) s
  | [], _, s => ⟨Nat.le_refl _, fun x hx => by simp at hx⟩
  | y :: m, f, s => by
    have ih := fold_max_ge m f (max s (f y))
    refine ⟨Nat.le_trans (by omega) ih.1, fun x hx => ?_⟩
    rcases List.mem_cons.1 hx with rfl | hx
    · exact Nat.le_trans (by omega) ih.1
    · exact ih.2 x hx
theorem bestTo_all {l : List Wire} (hr : InRooms l) {r : Nat} (h5 : r < 5) : bestTo l r l.length = rnd l 5 r := by
  unfold bestTo
  rw [List.take_length]
  apply Nat.le_antisymm
  · refine fold_max_le _ (fun x => rnd l 5 x.fr.toNat + 1) 0 _ (Nat.zero_le _) fun x hx => ?_
    rw [List.mem_filter] at hx
    exact upInto_lt hr hx.1 hx.2
  · by_cases h0 : rnd l 5 r = 0
    · rw [h0]; exact Nat.zero_le _
    · obtain ⟨u, t, ⟨x, hx, h1, h2⟩, h3, h4, h5, h6⟩ := rnd_last hr h5 h0
      have hu : upInto l r x = true := by
        have e1 : x.fr.toNat = u := by omega
        have e2 : x.to.toNat = t := by omega
        unfold upInto
        rw [e1, e2, sameB_iff.2 ⟨h4, h5⟩]
        have : reachB l t u = false := by
          cases hb : reachB l t u with
          | false => rfl
          | true => exact absurd (reachB_iff.1 hb) h3
        rw [this]; rfl
      have := (fold_max_ge (l.filter (upInto l r)) (fun x => rnd l 5 x.fr.toNat + 1) 0).2 x (List.mem_filter.2 ⟨hx, hu⟩)
      have e1 : x.fr.toNat = u := by omega
      simp only [e1] at this
      omega
theorem bestTo_le {l : List Wire} (hr : InRooms l) {r : Nat} (k : Nat) : bestTo l r k ≤ rnd l 5 r := by
  refine fold_max_le _ (fun x => rnd l 5 x.fr.toNat + 1) 0 _ (Nat.zero_le _) fun x hx => ?_
  rw [List.mem_filter] at hx
  exact upInto_lt hr (List.mem_of_mem_take hx.1) hx.2
end Go.Proofs.YtfokcjooibmigaaDoor
