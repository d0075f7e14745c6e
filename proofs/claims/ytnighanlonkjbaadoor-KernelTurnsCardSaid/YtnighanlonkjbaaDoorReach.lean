/- Who reaches whom, by wires: the plain law of a walk from room to room. -/
import Derived.Test.YtnighanlonkjbaaDoorPure
namespace Go.Proofs.YtnighanlonkjbaaDoor

/-- A wire leads from u to v. -/
def Edge (l : List Wire) (u v : Nat) : Prop := ∃ x ∈ l, x.fr = u ∧ x.to = v
inductive Reach (l : List Wire) (a : Nat) : Nat → Prop
  | refl : Reach l a a
  | step {u v : Nat} : Reach l a u → Edge l u v → Reach l a v
theorem Reach.trans {l : List Wire} {a b c : Nat} (h : Reach l a b) (k : Reach l b c) : Reach l a c := by
  induction k with
  | refl => exact h
  | step _ e ih => exact ih.step e
open Classical in
noncomputable def reachB (l : List Wire) (a b : Nat) : Bool := decide (Reach l a b)
theorem reachB_iff {l : List Wire} {a b : Nat} : reachB l a b = true ↔ Reach l a b := by simp [reachB]

/-- Wires between rooms that there are. -/
def InRooms (l : List Wire) : Prop := ∀ x ∈ l, (0 ≤ x.fr ∧ x.fr < 5) ∧ (0 ≤ x.to ∧ x.to < 5)
theorem Edge.lt {l : List Wire} (h : InRooms l) {u v : Nat} (e : Edge l u v) : u < 5 ∧ v < 5 := by
  obtain ⟨x, hx, h1, h2⟩ := e
  have := h x hx
  omega

/-- A matrix of 5 by 5, by its place. -/
def upd (M : Nat → Bool) (i : Nat) : Nat → Bool := fun j => if j = i then true else M j
def cnt (M : Nat → Bool) (a : Nat) : Nat := (M (a * 5)).toNat + (M (a * 5 + 1)).toNat + (M (a * 5 + 2)).toNat + (M (a * 5 + 3)).toNat + (M (a * 5 + 4)).toNat
theorem cnt_le (M : Nat → Bool) (a : Nat) : cnt M a ≤ 5 := by
  have := fun i => Bool.toNat_le (M i)
  have h0 := this (a * 5); have h1 := this (a * 5 + 1); have h2 := this (a * 5 + 2); have h3 := this (a * 5 + 3); have h4 := this (a * 5 + 4)
  unfold cnt; omega
theorem cnt_upd {M : Nat → Bool} {a t : Nat} (ht : t < 5) (h : M (a * 5 + t) = false) : cnt (upd M (a * 5 + t)) a = cnt M a + 1 := by
  rcases (show t = 0 ∨ t = 1 ∨ t = 2 ∨ t = 3 ∨ t = 4 by omega) with rfl | rfl | rfl | rfl | rfl <;> simp_all [cnt, upd] <;> omega

/-- Behind some rounds of the walk from room a: M's rows; the queue. -/
structure Bfs (l : List Wire) (a : Nat) (M : Nat → Bool) (Q : List Nat) : Prop where
  done : ∀ u v, u < a → v < 5 → M (u * 5 + v) = reachB l u v
  fresh : ∀ u v, a < u → u < 5 → v < 5 → M (u * 5 + v) = false
  sound : ∀ v, v < 5 → M (a * 5 + v) = true → Reach l a v
  self : M (a * 5 + a) = true
  queue : ∀ v ∈ Q, v < 5 ∧ M (a * 5 + v) = true
  closed : ∀ v, v < 5 → M (a * 5 + v) = true → v ∉ Q → ∀ t, Edge l v t → M (a * 5 + t) = true

theorem upd_other {M : Nat → Bool} {i j : Nat} (h : j ≠ i) : upd M i j = M j := by simp [upd, h]
theorem upd_same (M : Nat → Bool) (i : Nat) : upd M i i = true := by simp [upd]
theorem upd_true {M : Nat → Bool} {i j : Nat} (h : M j = true) : upd M i j = true := by unfold upd; split <;> simp_all
theorem place {u v u' v' : Nat} (hv : v < 5) (hv' : v' < 5) (h : u * 5 + v = u' * 5 + v') : u = u' ∧ v = v' := by omega

theorem Bfs.start {l : List Wire} {a : Nat} {M : Nat → Bool} (ha : a < 5) (hd : ∀ u v, u < a → v < 5 → M (u * 5 + v) = reachB l u v) (hf : ∀ u v, a ≤ u → u < 5 → v < 5 → M (u * 5 + v) = false) : Bfs l a (upd M (a * 5 + a)) [a] := by
  refine ⟨fun u v hu hv => ?_, fun u v hu h5 hv => ?_, fun v hv h => ?_, upd_same _ _, fun v hv => ?_, fun v hv h hn => ?_⟩
  · rw [upd_other (by omega)]; exact hd u v hu hv
  · rw [upd_other (by omega)]; exact hf u v (by omega) h5 hv
  · by_cases e : v = a
    · subst e; exact .refl
    · rw [upd_other (by omega), hf a v (Nat.le_refl _) ha hv] at h; cases h
  · simp at hv; subst hv; exact ⟨ha, upd_same _ _⟩
  · by_cases e : v = a
    · subst e; simp at hn
    · rw [upd_other (by omega), hf a v (Nat.le_refl _) ha hv] at h; cases h

/-- In the middle of a round at room u, k wires on. -/
structure Mid (l : List Wire) (a : Nat) (M : Nat → Bool) (u : Nat) (Q : List Nat) (k : Nat) : Prop where
  bfs : Bfs l a M (u :: Q)
  here : ∀ j x, j < k → l[j]? = some x → x.fr = u → M (a * 5 + x.to.toNat) = true

theorem Mid.start {l : List Wire} {a u : Nat} {M : Nat → Bool} {Q : List Nat} (h : Bfs l a M (u :: Q)) : Mid l a M u Q 0 := ⟨h, fun j x hj => absurd hj (by omega)⟩
theorem Mid.skip {l : List Wire} {a u k : Nat} {M : Nat → Bool} {Q : List Nat} {x : Wire} (h : Mid l a M u Q k) (hx : l[k]? = some x) (hn : x.fr = u → M (a * 5 + x.to.toNat) = true) : Mid l a M u Q (k + 1) :=
  ⟨h.bfs, fun j y hj hy => by
    by_cases e : j = k
    · subst e; rw [hx] at hy; cases hy; exact hn
    · exact h.here j y (by omega) hy⟩
theorem Mid.hit {l : List Wire} {a u k : Nat} {M : Nat → Bool} {Q : List Nat} {x : Wire} (hr : InRooms l) (_ha : a < 5) (h : Mid l a M u Q k) (hx : l[k]? = some x) (hu : x.fr = u) (hn : M (a * 5 + x.to.toNat) = false) :
    Mid l a (upd M (a * 5 + x.to.toNat)) u (Q ++ [x.to.toNat]) (k + 1) := by
  have hmem := List.mem_of_getElem? hx
  have hb := hr x hmem
  obtain ⟨t, ht⟩ : ∃ t : Nat, x.to = t := ⟨x.to.toNat, by omega⟩
  have ht5 : t < 5 := by omega
  have he : Edge l u t := ⟨x, hmem, hu, ht⟩
  rw [ht, Int.toNat_natCast] at hn ⊢
  have hq := h.bfs.queue u (by simp)
  refine ⟨⟨fun p v hp hv => ?_, fun p v hp h5 hv => ?_, fun v hv hm => ?_, upd_true h.bfs.self, fun v hv => ?_, fun v hv hm hnq s hs => ?_⟩, fun j y hj hy hyu => ?_⟩
  · rw [upd_other (by omega)]; exact h.bfs.done p v hp hv
  · rw [upd_other (by omega)]; exact h.bfs.fresh p v hp h5 hv
  · by_cases e : v = t
    · subst e; exact (h.bfs.sound u hq.1 hq.2).step he
    · rw [upd_other (by omega)] at hm; exact h.bfs.sound v hv hm
  · simp only [List.mem_cons, List.mem_append, List.not_mem_nil, or_false] at hv
    rcases hv with hv | hv | hv
    · subst hv; exact ⟨hq.1, upd_true hq.2⟩
    · have := h.bfs.queue v (by simp [hv]); exact ⟨this.1, upd_true this.2⟩
    · subst hv; exact ⟨ht5, upd_same _ _⟩
  · simp only [List.mem_cons, List.mem_append, List.not_mem_nil, or_false, not_or] at hnq
    rw [upd_other (by have := hnq.2.2; omega)] at hm
    exact upd_true (h.bfs.closed v hv hm (by simp [hnq.1, hnq.2.1]) s hs)
  · by_cases e : j = k
    · subst e; rw [hx] at hy; cases hy; rw [ht, Int.toNat_natCast]; exact upd_same _ _
    · exact upd_true (h.here j y (by omega) hy hyu)
theorem Mid.pop {l : List Wire} {a u : Nat} {M : Nat → Bool} {Q : List Nat} (_hr : InRooms l) (h : Mid l a M u Q l.length) : Bfs l a M Q := by
  refine ⟨h.bfs.done, h.bfs.fresh, h.bfs.sound, h.bfs.self, fun v hv => h.bfs.queue v (by simp [hv]), fun v hv hm hn t ht => ?_⟩
  by_cases e : v = u
  · subst e
    obtain ⟨x, hx, h1, h2⟩ := ht
    obtain ⟨j, hj, rfl⟩ := List.getElem_of_mem hx
    have := h.here j _ hj (List.getElem?_eq_getElem hj) h1
    rw [h2, Int.toNat_natCast] at this
    exact this
  · exact h.bfs.closed v hv hm (by simp [e, hn]) t ht
theorem Bfs.finish {l : List Wire} {a : Nat} {M : Nat → Bool} (hr : InRooms l) (ha : a < 5) (h : Bfs l a M []) : ∀ u v, u < a + 1 → v < 5 → M (u * 5 + v) = reachB l u v := by
  intro u v hu hv
  by_cases e : u = a
  · subst e
    have all : ∀ t, Reach l u t → t < 5 ∧ M (u * 5 + t) = true := by
      intro t hR
      induction hR with
      | refl => exact ⟨ha, h.self⟩
      | step _ e ih => exact ⟨(e.lt hr).2, h.closed _ ih.1 ih.2 (by simp) _ e⟩
    cases hb : M (u * 5 + v) with
    | true => exact (reachB_iff.2 (h.sound v hv hb)).symm
    | false =>
      cases hc : reachB l u v with
      | false => rfl
      | true => rw [(all v (reachB_iff.1 hc)).2] at hb; cases hb
  · exact h.done u v (by omega) hv

/-- The matrix as cells. -/
def bitsA (M : Nat → Bool) : Array Value := ((List.range 25).map fun i => Value.bool (M i)).toArray
theorem bitsA_size (M : Nat → Bool) : (bitsA M).size = 25 := by simp [bitsA]
theorem bitsA_get (M : Nat → Bool) {i : Nat} (h : i < 25) : (bitsA M)[i]? = some (.bool (M i)) := by simp [bitsA, h]
theorem bitsA_set (M : Nat → Bool) {i : Nat} (_h : i < 25) : (bitsA M).setIfInBounds i (.bool true) = bitsA (upd M i) := by
  apply Array.ext
  · simp [bitsA]
  · intro j h1 h2
    simp [bitsA] at h1 h2
    by_cases e : i = j
    · subst e; simp [bitsA, upd]
    · rw [Array.getElem_setIfInBounds_ne _ e]
      · simp [bitsA, upd, Ne.symm e]
      · simp [bitsA, h2]
theorem bitsA_zero : bitsA (fun _ => false) = #[.bool false, .bool false, .bool false, .bool false, .bool false, .bool false, .bool false, .bool false, .bool false, .bool false, .bool false, .bool false, .bool false, .bool false, .bool false, .bool false, .bool false, .bool false, .bool false, .bool false, .bool false, .bool false, .bool false, .bool false, .bool false] := by rfl
theorem bitsA_congr {M N : Nat → Bool} (h : ∀ i, i < 25 → M i = N i) : bitsA M = bitsA N := by
  unfold bitsA
  congr 1
  apply List.map_congr_left
  intro i hi
  rw [h i (by simpa using hi)]
theorem bitsA_one (M : Nat → Bool) : (bitsA M).all (·.oneCell') = true := by simp [bitsA, Value.oneCell']
end Go.Proofs.YtnighanlonkjbaaDoor
