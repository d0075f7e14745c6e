/- Rows of structs: an element read, an element put. Conditions: none; plain lemmas over any program. -/
import Derived.Test.YtnighanlonkjbaaDoorPure
namespace Go.Proofs.YtnighanlonkjbaaDoor
open Go.RowKit
set_option maxRecDepth 100000
theorem set_map {α β : Type} (f : α → β) (l : List α) (i : Nat) (x y : α) (h : l[i]? = some x) (hf : f y = f x) : (l.set i y).map f = l.map f := by
  apply List.ext_getElem?
  intro j
  rw [List.getElem?_map, List.getElem?_map, List.getElem?_set]
  by_cases hj : i = j
  · subst hj
    obtain ⟨hlt, _⟩ := List.getElem?_eq_some_iff.1 h
    rw [if_pos rfl, if_pos hlt, h]; simp [hf]
  · rw [if_neg hj]

section
variable {w w' : World}
theorem setCells_above {e : Nat} (b : Nat) : ∀ (vs : List Value) (o : Nat) (w : World) (cur : Array Value), w.heap[b]? = some (.cells cur e (0, 0)) → ∀ cur', (w.setCells b o vs).heap[b]? = some (.cells cur' e (0, 0)) → ∀ j, o + vs.length ≤ j → cur'[j]? = cur[j]?
  | [], o, w, cur, h, cur', h', j, _ => by
    rw [show w.setCells b o [] = w from rfl, h] at h'
    cases h'; rfl
  | v :: r, o, w, cur, h, cur', h', j, hj => by
    have h1 := blk_set h o v
    rw [List.length_cons] at hj
    rw [setCells_above b r (o + 1) (w.setCell ⟨b, o, none⟩ v) _ h1 cur' h' j (by omega), Array.getElem?_setIfInBounds_ne (by omega)]
/-- An element of a row. -/
theorem Row.elem {α : Type} (f : α → List Value) {sz e n cap : Nat} (hf : ∀ x, (f x).length = sz) {A : Option Addr} {l : List α} (h : Row w e sz A n cap (l.flatMap f)) (hsz : 0 < sz) {i : Nat} {x : α} (hx : l[i]? = some x) :
    ∃ b off cur, A = some ⟨b, off, none⟩ ∧ w.heap[b]? = some (.cells cur e (0, 0)) ∧ off + cap * sz ≤ cur.size ∧ i < n ∧ n ≤ cap ∧ cap ≤ maxLen ∧ ∀ j u, (f x)[j]? = some u → cur[off + (i * sz + j)]? = some u := by
  have hlen := h.1
  rw [flatMap_len f sz hf] at hlen
  have hn : l.length = n := Nat.eq_of_mul_eq_mul_right hsz hlen
  have hil := (List.getElem?_eq_some_iff.1 hx).1
  rcases h.2 with ⟨rfl, rfl, rfl⟩ | ⟨b, off, cur, rfl, hh, h1, h2, h3, h4⟩
  · omega
  · refine ⟨b, off, cur, rfl, hh, h3, by omega, h1, h2, fun j u hu => h4 _ u ?_⟩
    have hj := (List.getElem?_eq_some_iff.1 hu).1
    rw [hf] at hj
    exact (flatMap_get f sz hf l i j x hx hj).trans hu
/-- An element is put. -/
theorem Row.put {α : Type} (f : α → List Value) {sz e n cap : Nat} (hf : ∀ x, (f x).length = sz) {A : Option Addr} {l : List α} (h : Row w e sz A n cap (l.flatMap f)) (hsz : 0 < sz) {i : Nat} {b off : Nat} (hA : A = some ⟨b, off, none⟩) (y : α) (cur cur' : Array Value)
    (hc : w.heap[b]? = some (.cells cur e (0, 0))) (hh : w'.heap[b]? = some (.cells cur' e (0, 0))) (hs : cur'.size = cur.size) (hout : ∀ j, (j < off + i * sz ∨ off + i * sz + sz ≤ j) → cur'[j]? = cur[j]?) (hin : ∀ j u, (f y)[j]? = some u → cur'[off + i * sz + j]? = some u) :
    Row w' e sz A n cap ((l.set i y).flatMap f) := by
  have hlen := h.1
  rw [flatMap_len f sz hf] at hlen
  have hn : l.length = n := Nat.eq_of_mul_eq_mul_right hsz hlen
  refine ⟨by rw [flatMap_len f sz hf, List.length_set, hn], ?_⟩
  subst hA
  rcases h.2 with ⟨h0, _⟩ | ⟨b', off', cur0, hA, hh0, h1, h2, h3, h4⟩
  · cases h0
  · cases hA
    rw [hc] at hh0
    cases hh0
    refine .inr ⟨b, off, cur', rfl, hh, h1, h2, by rw [hs]; exact h3, fun p u hu => ?_⟩
    have hp := (List.getElem?_eq_some_iff.1 hu).1
    rw [flatMap_len f sz hf, List.length_set, hn] at hp
    have hq : p / sz < n := (Nat.div_lt_iff_lt_mul hsz).2 hp
    have hr : p % sz < sz := Nat.mod_lt _ hsz
    have hpe : p / sz * sz + p % sz = p := Nat.div_add_mod' p sz
    by_cases hqi : p / sz = i
    · have hg : (l.set i y)[p / sz]? = some y := by rw [hqi, List.getElem?_set_self (by omega)]
      have := flatMap_get f sz hf _ _ (p % sz) y hg hr
      rw [hpe, hu] at this
      have h5 := hin _ u this.symm
      rw [← hqi] at h5
      rwa [Nat.add_assoc, hpe] at h5
    · have hg : (l.set i y)[p / sz]? = l[p / sz]? := by rw [List.getElem?_set_ne (fun e => hqi e.symm)]
      have hl : l[p / sz]? = some (l[p / sz]'(by omega)) := List.getElem?_eq_getElem (by omega)
      have e1 := flatMap_get f sz hf _ _ (p % sz) _ (hg.trans hl) hr
      have e2 := flatMap_get f sz hf _ _ (p % sz) _ hl hr
      rw [hpe] at e1 e2
      have e3 := h4 p u (e2.trans (e1.symm.trans hu))
      rw [hout]
      · exact e3
      · rcases Nat.lt_or_gt_of_ne hqi with hlt | hgt
        · left
          have : (p / sz + 1) * sz ≤ i * sz := Nat.mul_le_mul_right _ hlt
          rw [Nat.succ_mul] at this
          omega
        · right
          have : (i + 1) * sz ≤ p / sz * sz := Nat.mul_le_mul_right _ hgt
          rw [Nat.succ_mul] at this
          omega


/-- An element of one cell is put. -/
theorem Row.put1 {α : Type} (f : α → List Value) {e n cap : Nat} (hf : ∀ x, (f x).length = 1) {A : Option Addr} {l : List α} (h : Row w e 1 A n cap (l.flatMap f)) {i : Nat} {x : α} (hx : l[i]? = some x) (y : α) (v : Value) (hv : f y = [v]) :
    ∃ b off, A = some ⟨b, off, none⟩ ∧ w.cell? ⟨b, off + i, none⟩ = (f x)[0]? ∧ w.frozen? ⟨b, off + i, none⟩ = false ∧ b < w.heap.size ∧ i < n ∧ n ≤ cap ∧ cap ≤ maxLen ∧ Row (w.setCell ⟨b, off + i, none⟩ v) e 1 A n cap ((l.set i y).flatMap f) := by
  obtain ⟨b, off, cur, rfl, hh, hsz, hi, hnc, hcm, hg⟩ := h.elem f hf (by decide) hx
  have hx0 : ∃ u, (f x)[0]? = some u := ⟨_, List.getElem?_eq_getElem (by rw [hf]; decide)⟩
  obtain ⟨u, hu⟩ := hx0
  refine ⟨b, off, rfl, ?_, blk_free hh _, blk_lt hh, hi, hnc, hcm, ?_⟩
  · rw [blk_cell hh, hu]
    have := hg 0 u hu
    simpa using this
  · refine h.put f hf (by decide) (i := i) rfl y cur (cur.setIfInBounds (off + i) v) hh (blk_set hh _ _) (by simp) (fun j hj => ?_) (fun j u' hu' => ?_)
    · rw [Array.getElem?_setIfInBounds_ne (by omega)]
    · rw [hv] at hu'
      match j, hu' with
      | 0, hu' =>
        simp at hu'
        subst hu'
        simp [Array.getElem?_setIfInBounds]
        omega
end
end Go.Proofs.YtnighanlonkjbaaDoor
