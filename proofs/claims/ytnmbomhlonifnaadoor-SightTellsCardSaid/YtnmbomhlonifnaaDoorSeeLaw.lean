/- Plain: who sees the same does the same. No program in sight. -/
import Derived.Test.YtnmbomhlonifnaaDoorKLawU
namespace Go.Proofs.YtnmbomhlonifnaaDoor

def touches (room : Int) (x : Ln) : Bool := decide (x.w.fr = room ∨ x.w.to = room)
def seen (room : Int) (l : List Ln) : List (List Int × Int) := (l.filter (touches room)).map fun x => (x.items, x.lost)
theorem seen_snoc (room : Int) (l : List Ln) (x : Ln) : seen room (l ++ [x]) = seen room l ++ if touches room x = true then [(x.items, x.lost)] else [] := by
  unfold seen
  rw [List.filter_append, List.map_append]
  congr 1
  cases h : touches room x <;> simp [h]
theorem seen_cons (room : Int) (l : List Ln) (x : Ln) : seen room (x :: l) = (if touches room x = true then [(x.items, x.lost)] else []) ++ seen room l := by
  unfold seen
  cases h : touches room x <;> simp [h]
/-- What is seen alike is alike. -/
theorem seen_same {room : Int} : ∀ {l l' : List Ln}, l.map Ln.w = l'.map Ln.w → seen room l = seen room l' → ∀ (i : Nat) (x y : Ln), l[i]? = some x → l'[i]? = some y → touches room x = true → x = y
  | [], _, _, _, i, x, y, hx, _, _ => by simp at hx
  | a :: l, [], h, _, i, x, y, hx, hy, _ => by simp at hy
  | a :: l, b :: l', h, hs, i, x, y, hx, hy, ht => by
    simp only [List.map_cons, List.cons.injEq] at h
    obtain ⟨h1, h2⟩ := h
    have hta : touches room b = touches room a := by unfold touches; rw [h1]
    rw [seen_cons, seen_cons, hta] at hs
    have hrest : seen room l = seen room l' ∧ (touches room a = true → (a.items, a.lost) = (b.items, b.lost)) := by
      cases hc : touches room a with
      | true =>
        rw [hc, if_pos rfl, if_pos rfl] at hs
        simp only [List.cons_append, List.nil_append, List.cons.injEq] at hs
        exact ⟨hs.2, fun _ => hs.1⟩
      | false =>
        rw [hc, if_neg (by decide), if_neg (by decide)] at hs
        exact ⟨by simpa using hs, fun h => by cases h⟩
    cases i with
    | zero =>
      simp only [List.getElem?_cons_zero, Option.some.injEq] at hx hy
      subst hx hy
      have h3 := hrest.2 ht
      simp only [Prod.mk.injEq] at h3
      cases a; cases b
      simp only [] at h1 h3
      rw [h1, h3.1, h3.2]
    | succ i =>
      simp only [List.getElem?_cons_succ] at hx hy
      exact seen_same h2 hrest.1 i x y hx hy ht
theorem kDo_see {n : Int} {r : Nat} {o : Op} {s : St} {k m : Kst} (hk : k.rooms[r]? = some s) (hm : m.rooms[r]? = some s) (hl : o.what = 8 ∨ o.what = 9 → k.lines[o.b.toNat]? = m.lines[o.b.toNat]?) :
    (kDo n r o s k).1 = (kDo n r o s m).1 ∧ (kDo n r o s k).2.rooms[r]? = (kDo n r o s m).2.rooms[r]? := by
  have h1 := (List.getElem?_eq_some_iff.1 hk).1
  have h2 := (List.getElem?_eq_some_iff.1 hm).1
  have put : ∀ t : St, (k.rooms.set r t)[r]? = (m.rooms.set r t)[r]? := fun t => by rw [List.getElem?_set_self h1, List.getElem?_set_self h2]
  unfold kDo
  by_cases hf : s.failed = true
  · rw [if_pos hf, if_pos hf]; exact ⟨rfl, by simp only []; rw [hk, hm]⟩
  rw [if_neg hf, if_neg hf]
  by_cases h9 : o.what = 9
  · rw [if_pos h9, if_pos h9, hl (.inr h9)]
    cases m.lines[o.b.toNat]? with
    | none => exact ⟨rfl, by simp only []; rw [hk, hm]⟩
    | some x =>
      simp only []
      cases x.items with
      | nil => exact ⟨rfl, by simp only []; rw [hk, hm]⟩
      | cons a rest => exact ⟨rfl, put _⟩
  rw [if_neg h9, if_neg h9]
  by_cases h8 : o.what = 8
  · rw [if_pos h8, if_pos h8, hl (.inl h8)]
    cases m.lines[o.b.toNat]? with
    | none => exact ⟨rfl, by simp only []; rw [hk, hm]⟩
    | some x => exact ⟨rfl, put _⟩
  · rw [if_neg h8, if_neg h8]; exact ⟨rfl, put _⟩
theorem tick_see {p : Pl} {k m : Kst} {B C : Int} {r : Nat} (hp : PlOk p) (hk : KOk p k B) (hm : KOk p m C) (ht : k.time = m.time) (hr : k.rooms[r]? = m.rooms[r]?) (hs : seen r k.lines = seen r m.lines) :
    (tick p k).1.room = (tick p m).1.room ∧ (tick p k).2.time = (tick p m).2.time ∧ ((tick p k).1.room = r → (tick p k).1 = (tick p m).1 ∧ (tick p k).2.rooms[r]? = (tick p m).2.rooms[r]?) := by
  have hsp := spans_ok hp
  have hte : turnAt p.spans (m.time % p.ticks) = turnAt p.spans (k.time % p.ticks) := by rw [← ht]
  unfold tick
  rcases tick_meets hp hk hsp with h0 | ⟨r1, ops, s, o, h0, hco, hs1, ho⟩
  · rw [tick_none h0, tick_none (hte.trans h0), ht]
    exact ⟨rfl, rfl, fun h => by simp only [] at h; omega⟩
  · rcases tick_meets hp hm hsp with h0' | ⟨r2, ops', s', o', h0', hco', hs', ho'⟩
    · rw [hte, h0] at h0'; omega
    · rw [hte, h0] at h0'
      obtain rfl : r1 = r2 := by omega
      rw [tick_room h0 hco hs1 ho, tick_room (hte.trans h0) hco' hs' ho']
      rw [hco] at hco'
      cases hco'
      refine ⟨rfl, by simp only [ht], fun h => ?_⟩
      simp only [] at h
      obtain rfl : r1 = r := by omega
      have e2 := hr
      rw [hs1, hs'] at e2
      cases e2
      rw [ho] at ho'
      cases ho'
      have hl : o.what = 8 ∨ o.what = 9 → k.lines[o.b.toNat]? = m.lines[o.b.toNat]? := fun hw => by
        obtain ⟨x, hx, h8, h9⟩ := op_wire hp hco (List.mem_of_getElem? ho) hw
        obtain ⟨y, hy, hyx⟩ := hk.line hx
        obtain ⟨z, hz, hzx⟩ := hm.line hx
        have hte : touches r1 y = true := by
          unfold touches
          refine decide_eq_true ?_
          rw [hyx]
          rcases hw with hw | hw
          · exact .inl (h8 hw)
          · exact .inr (h9 hw)
        have := seen_same (hk.lines.trans hm.lines.symm) hs _ _ _ hy hz hte
        rw [hy, hz, this]
      obtain ⟨a, b⟩ := kDo_see (n := ops.length) hs1 hs' hl
      exact ⟨by rw [a, ht], b⟩
end Go.Proofs.YtnmbomhlonifnaaDoor
