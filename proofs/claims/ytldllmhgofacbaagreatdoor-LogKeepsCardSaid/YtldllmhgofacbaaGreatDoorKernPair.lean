/- Two kernels beside each other: what one does leaves the other alone; and a kernel that is poked stays right. -/
import Derived.Test.YtldllmhgofacbaaGreatDoorRunU
namespace Go.Proofs.YtldllmhgofacbaaGreatDoor
open Go.RowKit
set_option maxRecDepth 100000

theorem poke_right {p : Pl} {k : Kst} {B : Int} (h : KOk p k B) {r c v : Int} (ho : pokeOk k.rooms.length r c v = true) : KOk p (pokeK k r c v) B := by
  have hok : 0 ≤ r ∧ r < k.rooms.length ∧ 0 ≤ c ∧ c < 6 ∧ 0 ≤ v ∧ v < 1000 := by simpa [pokeOk] using ho
  refine ⟨by simp only [pokeK, List.length_set]; exact h.rooms, h.lines, h.time0, h.timeB, fun r' ops s hc hs => ?_, h.lns⟩
  simp only [pokeK] at hs
  rw [List.getElem?_set] at hs
  by_cases e : r.toNat = r'
  · subst e
    rw [if_pos rfl, if_pos (by omega)] at hs
    cases hs
    have hg : k.rooms[r.toNat]? = some (k.rooms.getD r.toNat St.zero) := by
      rw [List.getD_eq_getElem?_getD, List.getElem?_eq_getElem (by omega)]; rfl
    exact stOk_put (h.states _ ops _ hc hg) (by omega) ⟨hok.2.2.2.2.1, hok.2.2.2.2.2⟩
  · rw [if_neg e] at hs; exact h.states r' ops s hc hs
theorem poke_far {k : Kst} {r c v : Int} {r' : Nat} (h : r.toNat ≠ r') : (pokeK k r c v).rooms[r']? = k.rooms[r']? := List.getElem?_set_ne h

/-- A kernel that runs, of any two types. -/
structure KRunG (TK TL TP : Nat) (w wr : World) (kb : Nat) (p : Pl) (M : KM) (k : Kst) : Prop where
  kat : KAt TK TL TP wr kb M k
  plan : M.P.pl = p
  fresh : ∀ j, TF kb M j → w.heap.size ≤ j
  below : Below w.heap.size w wr
theorem KRun.g {w wr : World} {kb : Nat} {p : Pl} {M : KM} {k : Kst} (h : KRun w wr kb p M k) : KRunG 145 215 147 w wr kb p M k := ⟨h.kat, h.plan, h.fresh, h.below⟩
theorem KRunG.run {w wr : World} {kb : Nat} {p : Pl} {M : KM} {k : Kst} (h : KRunG 145 215 147 w wr kb p M k) : KRun w wr kb p M k := ⟨h.kat, h.plan, h.fresh, h.below⟩
section
variable {TK TL TP UK UL UP : Nat} {w wr w3 : World} {kb mb : Nat} {p q : Pl} {M M' N : KM} {k k' m : Kst}
theorem KRunG.new (h : KRunG TK TL TP w wr kb p M k) (hb : Below wr.heap.size wr w3) : KRunG TK TL TP w w3 kb p M k := ⟨h.kat.new hb, h.plan, h.fresh, h.below.trans (hb.mono h.below.size)⟩
theorem KRunG.ticked (h : KRunG TK TL TP w wr kb p M k) (h1 : KAt TK TL TP w3 kb M' k') (h2 : M'.P = M.P ∧ M'.lA = M.lA) (h3 : Keep (KF kb M) wr w3) (h4 : ∀ j, KF kb M' j → KF kb M j ∨ wr.heap.size ≤ j) : KRunG TK TL TP w w3 kb p M' k' := by
  have s1 := h.below.size
  refine ⟨h1, by rw [h2.1]; exact h.plan, fun j hj => ?_, Keep.below (F := NoF) ((Keep.of_below NoF h.below).then h3 fun j hj hk => by have := h.fresh j (.inl hk); omega) (Nat.le_refl _) (fun j h => h.elim)⟩
  rcases hj with hj | hj | hj
  · rcases h4 j hj with h5 | h5
    · exact h.fresh j (.inl h5)
    · omega
  · rw [h2.2] at hj; exact h.fresh j (.inr (.inl hj))
  · rw [h2.1] at hj; exact h.fresh j (.inr (.inr hj))
/-- Two kernels that share no memory. -/
structure KPair (TK TL TP UK UL UP : Nat) (w wr : World) (kb : Nat) (p : Pl) (M : KM) (k : Kst) (mb : Nat) (q : Pl) (N : KM) (m : Kst) : Prop where
  a : KRunG TK TL TP w wr kb p M k
  b : KRunG UK UL UP w wr mb q N m
  apart : ∀ j, TF kb M j → ¬ TF mb N j
theorem KPair.swap (h : KPair TK TL TP UK UL UP w wr kb p M k mb q N m) : KPair UK UL UP TK TL TP w wr mb q N m kb p M k := ⟨h.b, h.a, fun j h1 h2 => h.apart j h2 h1⟩
theorem KPair.new (h : KPair TK TL TP UK UL UP w wr kb p M k mb q N m) (hb : Below wr.heap.size wr w3) : KPair TK TL TP UK UL UP w w3 kb p M k mb q N m := ⟨h.a.new hb, h.b.new hb, h.apart⟩
/-- The first goes on. -/
theorem KPair.goA (h : KPair TK TL TP UK UL UP w wr kb p M k mb q N m) (h1 : KRunG TK TL TP w w3 kb p M' k') (h3 : Keep (KF kb M) wr w3) (h4 : ∀ j, TF kb M' j → TF kb M j ∨ wr.heap.size ≤ j) : KPair TK TL TP UK UL UP w w3 kb p M' k' mb q N m := by
  have hlt := h.b.kat.lt
  refine ⟨h1, ⟨h.b.kat.through h3 fun j hj hf => h.apart j (.inl hf) hj, h.b.plan, h.b.fresh, h1.below⟩, fun j hj hn => ?_⟩
  rcases h4 j hj with h5 | h5
  · exact h.apart j h5 hn
  · have := hlt j hn; omega
theorem KPair.goB {N' : KM} {m' : Kst} (h : KPair TK TL TP UK UL UP w wr kb p M k mb q N m) (h1 : KRunG UK UL UP w w3 mb q N' m') (h3 : Keep (KF mb N) wr w3) (h4 : ∀ j, TF mb N' j → TF mb N j ∨ wr.heap.size ≤ j) : KPair TK TL TP UK UL UP w w3 kb p M k mb q N' m' := (h.swap.goA h1 h3 h4).swap
/-- What is written elsewhere. -/
theorem KPair.far (h : KPair TK TL TP UK UL UP w wr kb p M k mb q N m) {F : Nat → Prop} (hk : Keep F wr w3) (hA : ∀ j, TF kb M j → ¬ F j) (hB : ∀ j, TF mb N j → ¬ F j) (hF : ∀ j, F j → w.heap.size ≤ j) : KPair TK TL TP UK UL UP w w3 kb p M k mb q N m := by
  have hb : Below w.heap.size w w3 := Keep.below (F := NoF) ((Keep.of_below NoF h.a.below).then hk fun j hj hf => by have := hF j hf; omega) (Nat.le_refl _) (fun _ h => h.elim)
  exact ⟨⟨h.a.kat.through hk hA, h.a.plan, h.a.fresh, hb⟩, ⟨h.b.kat.through hk hB, h.b.plan, h.b.fresh, hb⟩, h.apart⟩
/-- One is made beside another one. -/
theorem KPair.mk' (h : KRunG TK TL TP w wr kb p M k) (hb : KRunG UK UL UP wr w3 mb q N m) : KPair TK TL TP UK UL UP w w3 kb p M k mb q N m := by
  have hlt := h.kat.lt
  refine ⟨h.new hb.below, ⟨hb.kat, hb.plan, fun j hj => Nat.le_trans h.below.size (hb.fresh j hj), h.below.trans (hb.below.mono h.below.size)⟩, fun j h1 h2 => ?_⟩
  have := hlt j h1
  have := hb.fresh j h2
  omega
theorem KRunG.poked (h : KRunG TK TL TP w wr kb p M k) (h1 : KAt TK TL TP w3 kb M k') (h3 : Keep (KF kb M) wr w3) : KRunG TK TL TP w w3 kb p M k' :=
  h.ticked h1 ⟨rfl, rfl⟩ h3 fun _ hj => .inl hj
end
end Go.Proofs.YtldllmhgofacbaaGreatDoor
