/- Two kernels beside each other: what one does leaves the other alone; and a kernel that is poked stays right. -/
import Derived.Test.YtldllmhgofacbaaGreatDoorRunUL
namespace Go.Proofs.YtldllmhgofacbaaGreatDoor
open Go.RowKit
set_option maxRecDepth 100000

theorem poke_right {p : Pl} {k : Kst} {B : Int} (h : KOk p k B) {r c v : Int} (ho : pokeOk k.rooms.length r c v = true) : KOk p (pokeK k r c v) B := by
  have hok : 0 ≤ r ∧ r < k.rooms.length ∧ 0 ≤ c ∧ c < 6 ∧ 0 ≤ v ∧ v < 1000 := by simpa [pokeOk] using ho
  refine ⟨by simp only [pokeK, List.length_set]; exact h.rooms, h.lines, h.time0, h.timeB, fun r' ops s hc hs => ?_, h.lns⟩
  simp only [pokeK] at hs
  rw [List.getElem?_set] at hs
  by_cases e : r.toNat = r'
  · subst e
    rw [if_pos rfl, if_pos (by omega)] at hs
    cases hs
    have hg : k.rooms[r.toNat]? = some (k.rooms.getD r.toNat St.zero) := by
      rw [List.getD_eq_getElem?_getD, List.getElem?_eq_getElem (by omega)]; rfl
    exact stOk_put (h.states _ ops _ hc hg) (by omega) ⟨hok.2.2.2.2.1, hok.2.2.2.2.2⟩
  · rw [if_neg e] at hs; exact h.states r' ops s hc hs
theorem poke_far {k : Kst} {r c v : Int} {r' : Nat} (h : r.toNat ≠ r') : (pokeK k r c v).rooms[r']? = k.rooms[r']? := List.getElem?_set_ne h

section
variable {TK TL TP UK UL UP : Nat} {w wr w3 : World} {kb mb : Nat} {p q : Pl} {M M' N : KM} {k k' m : Kst}
end
end Go.Proofs.YtldllmhgofacbaaGreatDoor
