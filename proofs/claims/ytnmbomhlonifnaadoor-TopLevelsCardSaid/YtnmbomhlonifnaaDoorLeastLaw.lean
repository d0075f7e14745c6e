/- The least levels: rounds over the wires, and why five rounds are enough. Plain laws, no program in sight. -/
import Derived.Test.YtnmbomhlonifnaaDoorWaysU
namespace Go.Proofs.YtnmbomhlonifnaaDoor

noncomputable def wt (l : List Wire) (u v : Nat) : Nat := if reachB l v u then 0 else 1
theorem wt_zero {l : List Wire} {u v : Nat} (h : Reach l v u) : wt l u v = 0 := by simp [wt, reachB_iff.2 h]
theorem wt_one {l : List Wire} {u v : Nat} (h : ¬ Reach l v u) : wt l u v = 1 := by
  have : reachB l v u = false := by
    cases hb : reachB l v u with
    | false => rfl
    | true => exact absurd (reachB_iff.1 hb) h
  simp [wt, this]
theorem wt_le (l : List Wire) (u v : Nat) : wt l u v ≤ 1 := by unfold wt; split <;> omega

noncomputable def raise (l : List Wire) (f : Nat → Nat) (x : Wire) : Nat → Nat :=
  fun j => if j = x.to.toNat then max (f j) (f x.fr.toNat + wt l x.fr.toNat x.to.toNat) else f j
noncomputable def rnd (l : List Wire) : Nat → Nat → Nat
  | 0 => fun _ => 0
  | t + 1 => l.foldl (raise l) (rnd l t)
noncomputable def part (l : List Wire) (t k : Nat) : Nat → Nat := (l.take k).foldl (raise l) (rnd l t)
theorem part_zero (l : List Wire) (t : Nat) : part l t 0 = rnd l t := rfl
theorem part_all (l : List Wire) (t : Nat) : part l t l.length = rnd l (t + 1) := by simp [part, rnd]
theorem part_succ {l : List Wire} {t k : Nat} {x : Wire} (h : l[k]? = some x) : part l t (k + 1) = raise l (part l t k) x := by
  have hk := (List.getElem?_eq_some_iff.1 h).1
  unfold part
  rw [List.take_succ_eq_append_getElem hk, List.foldl_append]
  have : l[k] = x := by rw [List.getElem?_eq_getElem hk] at h; exact Option.some.inj h
  rw [this]; rfl

theorem raise_ge (l : List Wire) (f : Nat → Nat) (x : Wire) (j : Nat) : f j ≤ raise l f x j := by
  unfold raise; split <;> omega
theorem raise_to (l : List Wire) (f : Nat → Nat) (x : Wire) : f x.fr.toNat + wt l x.fr.toNat x.to.toNat ≤ raise l f x x.to.toNat := by
  unfold raise; rw [if_pos rfl]; omega
theorem fold_ge (l : List Wire) : ∀ (m : List Wire) (f : Nat → Nat) (j : Nat), f j ≤ m.foldl (raise l) f j
  | [], _, _ => Nat.le_refl _
  | x :: m, f, j => Nat.le_trans (raise_ge l f x j) (fold_ge l m _ j)
theorem fold_to (l : List Wire) : ∀ (m : List Wire) (f : Nat → Nat) (x : Wire), x ∈ m → f x.fr.toNat + wt l x.fr.toNat x.to.toNat ≤ m.foldl (raise l) f x.to.toNat
  | [], _, _, h => by simp at h
  | y :: m, f, x, h => by
    rcases List.mem_cons.1 h with rfl | h
    · exact Nat.le_trans (raise_to l f x) (fold_ge l m _ _)
    · have h1 := fold_to l m (raise l f y) x h
      have h2 := raise_ge l f y x.fr.toNat
      simp only [List.foldl_cons]
      omega
theorem rnd_mono (l : List Wire) (j : Nat) : ∀ {s t : Nat}, s ≤ t → rnd l s j ≤ rnd l t j := by
  intro s t h
  induction h with
  | refl => exact Nat.le_refl _
  | step _ ih => exact Nat.le_trans ih (fold_ge l l _ j)

theorem fold_bound (l : List Wire) : ∀ (m : List Wire) (f : Nat → Nat) (B : Nat), (∀ j, f j ≤ B) → ∀ j, m.foldl (raise l) f j ≤ B + m.length
  | [], _, _, h, j => h j
  | x :: m, f, B, h, j => by
    have := fold_bound l m (raise l f x) (B + 1) (fun i => by
      unfold raise
      have := wt_le l x.fr.toNat x.to.toNat
      have := h i
      have := h x.fr.toNat
      split <;> omega) j
    simp only [List.foldl_cons, List.length_cons]
    omega
theorem rnd_bound (l : List Wire) : ∀ (t j : Nat), rnd l t j ≤ t * l.length
  | 0, j => by simp [rnd]
  | t + 1, j => by
    have := fold_bound l l (rnd l t) (t * l.length) (rnd_bound l t) j
    rw [Nat.succ_mul]; exact this
theorem part_bound (l : List Wire) (t k j : Nat) : part l t k j ≤ t * l.length + l.length := by
  have := fold_bound l (l.take k) (rnd l t) (t * l.length) (rnd_bound l t) j
  have h2 : (l.take k).length ≤ l.length := by rw [List.length_take]; omega
  unfold part; omega

/-- Whatever keeps each step is no lower. -/
theorem fold_least {l : List Wire} {g : Nat → Int} : ∀ (m : List Wire) (f : Nat → Nat), (∀ x ∈ m, g x.fr.toNat + wt l x.fr.toNat x.to.toNat ≤ g x.to.toNat) → (∀ j, j < 5 → (f j : Int) ≤ g j) → InRooms m → ∀ j, j < 5 → ((m.foldl (raise l) f j : Nat) : Int) ≤ g j
  | [], _, _, h, _, j, hj => h j hj
  | x :: m, f, hx, h, hr, j, hj => by
    refine fold_least m (raise l f x) (fun y hy => hx y (by simp [hy])) (fun i hi => ?_) (fun y hy => hr y (by simp [hy])) j hj
    have h1 := hx x (by simp)
    have h2 := hr x (by simp)
    have h3 := h x.fr.toNat (by omega)
    have h4 := h i hi
    unfold raise
    split
    · rename_i e; subst e; omega
    · exact h4
theorem rnd_least {l : List Wire} {g : Nat → Int} (hr : InRooms l) (hx : ∀ x ∈ l, g x.fr.toNat + wt l x.fr.toNat x.to.toNat ≤ g x.to.toNat) (h0 : ∀ j, j < 5 → 0 ≤ g j) : ∀ (t j : Nat), j < 5 → (rnd l t j : Int) ≤ g j
  | 0, j, hj => h0 j hj
  | t + 1, j, hj => fold_least l (rnd l t) hx (rnd_least hr hx h0 t) hr j hj

/-- A walk among some rooms: how many wires, where it ends, how often it goes up. -/
inductive Walk (l : List Wire) (S : List Nat) : Nat → Nat → Nat → Prop
  | nil {r : Nat} : r ∈ S → Walk l S 0 r 0
  | snoc {k u v n : Nat} : Walk l S k u n → Edge l u v → v ∈ S → Walk l S (k + 1) v (n + wt l u v)
theorem Walk.mem {l : List Wire} {S : List Nat} {k r n : Nat} (h : Walk l S k r n) : r ∈ S := by cases h <;> assumption
theorem Walk.le_rnd {l : List Wire} {S : List Nat} {k r n : Nat} (h : Walk l S k r n) : n ≤ rnd l k r := by
  induction h with
  | nil _ => exact Nat.zero_le _
  | @snoc k u v n _ e _ ih =>
    obtain ⟨x, hx, h1, h2⟩ := e
    have := fold_to l l (rnd l k) x hx
    rw [h1, h2, Int.toNat_natCast, Int.toNat_natCast] at this
    show n + wt l u v ≤ l.foldl (raise l) (rnd l k) v
    omega
theorem fold_walk {l : List Wire} {S : List Nat} (hS : ∀ x ∈ l, x.to.toNat ∈ S) (hr : InRooms l) : ∀ (m : List Wire) (f : Nat → Nat), (∀ x ∈ m, x ∈ l) → (∀ j, j ∈ S → ∃ k, Walk l S k j (f j)) → (∀ x ∈ l, x.fr.toNat ∈ S) → ∀ j, j ∈ S → ∃ k, Walk l S k j (m.foldl (raise l) f j)
  | [], _, _, h, _, j, hj => h j hj
  | x :: m, f, hm, h, hF, j, hj => by
    refine fold_walk hS hr m (raise l f x) (fun y hy => hm y (by simp [hy])) (fun i hi => ?_) hF j hj
    unfold raise
    split
    · rename_i e
      have hxl := hm x (by simp)
      by_cases hmax : f x.fr.toNat + wt l x.fr.toNat x.to.toNat ≤ f i
      · rw [Nat.max_eq_left hmax]; exact h i hi
      · rw [Nat.max_eq_right (by omega)]
        obtain ⟨k, hk⟩ := h x.fr.toNat (hF x hxl)
        have hb := hr x hxl
        subst e
        exact ⟨k + 1, hk.snoc ⟨x, hxl, by omega, by omega⟩ (hS x hxl)⟩
    · exact h i hi
theorem rnd_walk {l : List Wire} {S : List Nat} (hr : InRooms l) (hS : ∀ x ∈ l, x.to.toNat ∈ S) (hF : ∀ x ∈ l, x.fr.toNat ∈ S) : ∀ (t j : Nat), j ∈ S → ∃ k, Walk l S k j (rnd l t j)
  | 0, _, hj => ⟨0, .nil hj⟩
  | t + 1, j, hj => fold_walk hS hr l (rnd l t) (fun _ h => h) (fun i hi => rnd_walk hr hS hF t i hi) hF j hj

/-- The first time at a room. -/
def First (l : List Wire) (S : List Nat) (r n : Nat) : Prop := n = 0 ∨ ∃ k u m, Walk l S k u m ∧ Edge l u r ∧ n = m + wt l u r
theorem Walk.part {l : List Wire} {S T : List Nat} {r : Nat} (hT : ∀ v, v ∈ S → v ≠ r → v ∈ T) {k v n : Nat} (h : Walk l S k v n) :
    (Walk l T k v n) ∨ ∃ n0 d, First l T r n0 ∧ n = n0 + d ∧ Reach l r v ∧ (Reach l v r → d = 0) := by
  induction h with
  | @nil v hv =>
    by_cases e : v = r
    · subst e; exact .inr ⟨0, 0, .inl rfl, rfl, .refl, fun _ => rfl⟩
    · exact .inl (.nil (hT v hv e))
  | @snoc k u v n _ e hv ih =>
    rcases ih with ih | ⟨n0, d, h1, h2, h3, h4⟩
    · by_cases er : v = r
      · subst er; exact .inr ⟨n + wt l u v, 0, .inr ⟨k, u, n, ih, e, rfl⟩, rfl, .refl, fun _ => rfl⟩
      · exact .inl (ih.snoc e (hT v hv er))
    · refine .inr ⟨n0, d + wt l u v, h1, by omega, h3.step e, fun hvr => ?_⟩
      have hur : Reach l u r := (Reach.refl.step e).trans hvr
      rw [h4 hur, wt_zero (hvr.trans h3)]
theorem Walk.short {l : List Wire} : ∀ (s : Nat) {S : List Nat} {k r n : Nat}, S.length ≤ s → Walk l S k r n → ∃ k', k' + 1 ≤ s ∧ Walk l S k' r n
  | 0, S, k, r, n, hs, h => by
    have := h.mem
    cases S with
    | nil => simp at this
    | cons _ _ => simp at hs
  | s + 1, S, k, r, n, hs, h => by
    have hmem := h.mem
    have hT : ∀ v, v ∈ S → v ≠ r → v ∈ S.filter (fun x => decide (x ≠ r)) := fun v hv hne => by simp [hv, hne]
    have hlen : (S.filter (fun x => decide (x ≠ r))).length < S.length := by
      rw [List.length_filter_lt_length_iff_exists]
      exact ⟨r, hmem, by simp⟩
    have up : ∀ {k v n}, Walk l (S.filter (fun x => decide (x ≠ r))) k v n → Walk l S k v n := by
      intro k v n hw
      induction hw with
      | nil hv => exact .nil ((List.mem_filter.1 hv).1)
      | snoc _ e hv ih => exact ih.snoc e ((List.mem_filter.1 hv).1)
    rcases h.part hT with hw | ⟨n0, d, h1, h2, h3, h4⟩
    · have := hw.mem; simp at this
    · have hd := h4 .refl
      subst hd
      rcases h1 with h1 | ⟨k1, u, m, g1, g2, g3⟩
      · exact ⟨0, by omega, by rw [h2, h1]; exact .nil hmem⟩
      · obtain ⟨k', hk', hw'⟩ := Walk.short s (by omega) g1
        exact ⟨k' + 1, by omega, by rw [h2, g3]; exact (up hw').snoc g2 hmem⟩

theorem rooms_mem {n : Nat} (h : n < 5) : n ∈ [0, 1, 2, 3, 4] := by
  rcases (show n = 0 ∨ n = 1 ∨ n = 2 ∨ n = 3 ∨ n = 4 by omega) with rfl | rfl | rfl | rfl | rfl <;> simp
/-- Behind five rounds each wire is kept. -/
theorem rnd_fix {l : List Wire} (hr : InRooms l) {u v : Nat} (e : Edge l u v) : rnd l 5 u + wt l u v ≤ rnd l 5 v := by
  have he := e.lt hr
  have hS : ∀ x ∈ l, x.to.toNat ∈ [0, 1, 2, 3, 4] := fun x hx => rooms_mem (by have := hr x hx; omega)
  have hF : ∀ x ∈ l, x.fr.toNat ∈ [0, 1, 2, 3, 4] := fun x hx => rooms_mem (by have := hr x hx; omega)
  obtain ⟨k, hk⟩ := rnd_walk hr hS hF 5 u (rooms_mem he.1)
  obtain ⟨k', hk', hw⟩ := Walk.short 5 (by simp) (hk.snoc e (rooms_mem he.2))
  exact Nat.le_trans hw.le_rnd (rnd_mono l v (by omega))
theorem rnd_reach {l : List Wire} (hr : InRooms l) {a b : Nat} (h : Reach l a b) : rnd l 5 a ≤ rnd l 5 b := by
  induction h with
  | refl => exact Nat.le_refl _
  | step _ e ih => have := rnd_fix hr e; omega
theorem rnd_up {l : List Wire} (hr : InRooms l) {u v : Nat} (e : Edge l u v) (h : ¬ Reach l v u) : rnd l 5 u < rnd l 5 v := by
  have := rnd_fix hr e; rw [wt_one h] at this; omega
theorem rnd_same {l : List Wire} (hr : InRooms l) {u v : Nat} (h : Reach l u v) (k : Reach l v u) : rnd l 5 u = rnd l 5 v := by
  have := rnd_reach hr h; have := rnd_reach hr k; omega
/-- Who is not at the bottom has a room next below its group. -/
theorem walk_last {l : List Wire} {S : List Nat} {k v n : Nat} (h : Walk l S k v n) (hn : n ≠ 0) : ∃ k' u t, Walk l S k' u (n - 1) ∧ Edge l u t ∧ ¬ Reach l t u ∧ Reach l t v ∧ Reach l v t := by
  induction h with
  | nil _ => exact absurd rfl hn
  | @snoc k u v n hw e hv ih =>
    by_cases hvu : Reach l v u
    · have h0 := wt_zero hvu
      rw [h0] at hn ⊢
      obtain ⟨k', u', t, h1, h2, h3, h4, h5⟩ := ih (by omega)
      exact ⟨k', u', t, h1, h2, h3, h4.step e, hvu.trans h5⟩
    · have h1 := wt_one hvu
      exact ⟨k, u, v, by rw [h1]; exact hw, e, hvu, .refl, .refl⟩
theorem rnd_last {l : List Wire} (hr : InRooms l) {v : Nat} (hv : v < 5) (h : rnd l 5 v ≠ 0) : ∃ u t, Edge l u t ∧ ¬ Reach l t u ∧ Reach l t v ∧ Reach l v t ∧ rnd l 5 u + 1 = rnd l 5 v := by
  have hS : ∀ x ∈ l, x.to.toNat ∈ [0, 1, 2, 3, 4] := fun x hx => rooms_mem (by have := hr x hx; omega)
  have hF : ∀ x ∈ l, x.fr.toNat ∈ [0, 1, 2, 3, 4] := fun x hx => rooms_mem (by have := hr x hx; omega)
  obtain ⟨k, hk⟩ := rnd_walk hr hS hF 5 v (rooms_mem hv)
  obtain ⟨k', u, t, h1, h2, h3, h4, h5⟩ := walk_last hk h
  refine ⟨u, t, h2, h3, h4, h5, ?_⟩
  obtain ⟨k2, hk2, hw⟩ := Walk.short 5 (by simp) h1
  have h6 := Nat.le_trans hw.le_rnd (rnd_mono l u (by omega : k2 ≤ 5))
  have h7 := rnd_up hr h2 h3
  have h8 := rnd_same hr h4 h5
  omega
end Go.Proofs.YtnmbomhlonifnaaDoor
