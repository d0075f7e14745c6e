/- Rows that grow by appending, lists of what is held, and a kernel that runs on: what stays of each. -/
import Derived.Test.YtnighanlonkjbaaDoorKernTick
import Derived.Test.YtnighanlonkjbaaDoorSameAny
namespace Go.Proofs.YtnighanlonkjbaaDoor
open Go.RowKit
set_option maxRecDepth 100000

/-- A row in new memory, and nothing old has changed. -/
structure Grow (w wr : World) (e sz : Nat) (A : Option Addr) (n c : Nat) (xs : List Value) : Prop where
  row : Row wr e sz A n c xs
  fresh : ∀ j, InA A j → w.heap.size ≤ j
  below : Below w.heap.size w wr
section
variable {w wr w3 w4 : World} {e sz n c c' : Nat} {A A' : Option Addr} {xs news : List Value}
theorem Grow.nil (h : Below w.heap.size w wr) : Grow w wr e sz none 0 0 [] := ⟨Row.nil _ _ _, fun j hj => by simp [InA] at hj, h⟩
theorem Grow.more (h : Grow w wr e sz A n c xs) (h3 : Below wr.heap.size wr w3) (hr : Row w4 e sz A' (n + 1) c' (xs ++ news)) (hk : Keep (InA A) w3 w4) (hn : ∀ j, InA A' j → InA A j ∨ w3.heap.size ≤ j) : Grow w w4 e sz A' (n + 1) c' (xs ++ news) := by
  have s1 := h.below.size
  have s3 := h3.size
  refine ⟨hr, fun j hj => ?_, Keep.below (F := NoF) ((Keep.of_below NoF (h.below.trans (h3.mono s1))).then hk fun j hj hA => by have := h.fresh j hA; omega) (Nat.le_refl _) (fun j h => h.elim)⟩
  rcases hn j hj with h5 | h5
  · exact h.fresh j h5
  · omega
theorem Grow.new (h : Grow w wr e sz A n c xs) (hb : Below wr.heap.size wr w3) : Grow w w3 e sz A n c xs := ⟨h.row.new hb, h.fresh, h.below.trans (hb.mono h.below.size)⟩
end

/-- What is held, one behind the other, in new memory. -/
structure Helds (w wr : World) (A : Option Addr) (n c : Nat) (hs : List Hm) : Prop where
  grow : Grow w wr 53 2 A n c (hs.flatMap Hm.cells)
  each : ∀ h ∈ hs, Row wr 3 1 h.A h.items.length h.c (ints h.items) ∧ h.items.length ≤ 6 ∧ ∀ j, InA h.A j → w.heap.size ≤ j
theorem held_one (h : Hm) : ∀ u ∈ h.cells, u.oneCell' = true := by
  intro u hu
  simp [Hm.cells] at hu
  rcases hu with rfl | rfl <;> rfl
section
variable {w wr w2 w3 w4 : World} {n c c' : Nat} {A A' : Option Addr} {hs : List Hm} {h1 : Hm}
theorem Helds.nil (h : Below w.heap.size w wr) : Helds w wr none 0 0 [] := ⟨Grow.nil h, fun h hh => by simp at hh⟩
theorem Helds.more (h : Helds w wr A n c hs) (h2 : Below wr.heap.size wr w2) (hx : Row w2 3 1 h1.A h1.items.length h1.c (ints h1.items)) (h6 : h1.items.length ≤ 6) (hf : ∀ j, InA h1.A j → wr.heap.size ≤ j) (h3 : Below w2.heap.size w2 w3)
    (hr : Row w4 53 2 A' (n + 1) c' (hs.flatMap Hm.cells ++ h1.cells)) (hk : Keep (InA A) w3 w4) (hn : ∀ j, InA A' j → InA A j ∨ w3.heap.size ≤ j) : Helds w w4 A' (n + 1) c' (hs ++ [h1]) := by
  have s1 := h.grow.below.size
  have s2 := h2.size
  have s3 := h3.size
  have h23 : Below wr.heap.size wr w3 := h2.trans (h3.mono s2)
  have hrow3 : Row w3 53 2 A n c (hs.flatMap Hm.cells) := h.grow.row.new h23
  have keep : ∀ g : Hm, Row w3 3 1 g.A g.items.length g.c (ints g.items) → Row w4 3 1 g.A g.items.length g.c (ints g.items) := fun g hg => hg.through hk (hg.apart2 hrow3 (by decide))
  refine ⟨?_, fun g hg => ?_⟩
  · have := h.grow.more h23 hr hk hn
    simpa using this
  · rcases List.mem_append.1 hg with hg | hg
    · obtain ⟨a, b, c⟩ := h.each g hg
      exact ⟨keep g (a.new h23), b, c⟩
    · simp at hg; subst hg
      exact ⟨keep g (hx.new h3), h6, fun j hj => by have := hf j hj; omega⟩
theorem Helds.new (h : Helds w wr A n c hs) (hb : Below wr.heap.size wr w3) : Helds w w3 A n c hs := ⟨h.grow.new hb, fun g hg => ⟨(h.each g hg).1.new hb, (h.each g hg).2⟩⟩
end
/-- What is held, as it is read later. -/
structure HeldsIn (wr : World) (A : Option Addr) (n c : Nat) (hs : List Hm) : Prop where
  row : Row wr 53 2 A n c (hs.flatMap Hm.cells)
  each : ∀ h ∈ hs, Row wr 3 1 h.A h.items.length h.c (ints h.items) ∧ h.items.length ≤ 6
theorem Helds.through {w wr w3 : World} {n c : Nat} {A : Option Addr} {hs : List Hm} (h : Helds w wr A n c hs) {F : Nat → Prop} (hk : Keep F wr w3) (hF : ∀ j, F j → j < w.heap.size) : HeldsIn w3 A n c hs :=
  ⟨h.grow.row.through hk fun j hj hf => by have := h.grow.fresh j hj; have := hF j hf; omega, fun g hg => by
    obtain ⟨a, b, c⟩ := h.each g hg
    exact ⟨a.through hk fun j hj hf => by have := c j hj; have := hF j hf; omega, b⟩⟩
theorem HeldsIn.new {wr w3 : World} {n c : Nat} {A : Option Addr} {hs : List Hm} (h : HeldsIn wr A n c hs) (hb : Below wr.heap.size wr w3) : HeldsIn w3 A n c hs := ⟨h.row.new hb, fun g hg => ⟨(h.each g hg).1.new hb, (h.each g hg).2⟩⟩
/-- One of what is held. -/
theorem HeldsIn.get {wr : World} {n c : Nat} {A : Option Addr} {hs : List Hm} (h : HeldsIn wr A n c hs) {i : Nat} {g : Hm} (hg : hs[i]? = some g) :
    ∃ b off, A = some ⟨b, off, none⟩ ∧ b < wr.heap.size ∧ wr.cell? ⟨b, off + i * 2, none⟩ = some (.slice g.A g.items.length g.c) ∧ wr.cell? ⟨b, off + i * 2 + 1, none⟩ = some (.int .i64 g.lost) ∧ HmAt wr g := by
  obtain ⟨b, off, cur, hA, hh, hsz, hi, hnc, hcm, hx⟩ := h.row.elem Hm.cells Hm.len (by decide) hg
  obtain ⟨a, b6⟩ := h.each g (List.mem_of_getElem? hg)
  exact ⟨b, off, hA, blk_lt hh, (blk_cell hh _).trans (hx 0 _ rfl), (by rw [Nat.add_assoc]; exact (blk_cell hh _).trans (hx 1 _ rfl)), ⟨a.sl, a.le.1, by omega⟩⟩

/-- A kernel that runs, all of it in new memory. -/
structure KRun (w wr : World) (kb : Nat) (p : Pl) (M : KM) (k : Kst) : Prop where
  kat : KAt 137 125 48 wr kb M k
  plan : M.P.pl = p
  fresh : ∀ j, TF kb M j → w.heap.size ≤ j
  below : Below w.heap.size w wr
section
variable {w wr w3 : World} {kb : Nat} {p : Pl} {M M' : KM} {k k' : Kst}
theorem KRun.new (h : KRun w wr kb p M k) (hb : Below wr.heap.size wr w3) : KRun w w3 kb p M k := ⟨h.kat.new hb, h.plan, h.fresh, h.below.trans (hb.mono h.below.size)⟩
theorem KRun.ticked (h : KRun w wr kb p M k) (h1 : KAt 137 125 48 w3 kb M' k') (h2 : M'.P = M.P ∧ M'.lA = M.lA) (h3 : Keep (KF kb M) wr w3) (h4 : ∀ j, KF kb M' j → KF kb M j ∨ wr.heap.size ≤ j) : KRun w w3 kb p M' k' := by
  have s1 := h.below.size
  refine ⟨h1, by rw [h2.1]; exact h.plan, fun j hj => ?_, Keep.below (F := NoF) ((Keep.of_below NoF h.below).then h3 fun j hj hk => by have := h.fresh j (.inl hk); omega) (Nat.le_refl _) (fun j h => h.elim)⟩
  rcases hj with hj | hj | hj
  · rcases h4 j hj with h5 | h5
    · exact h.fresh j (.inl h5)
    · omega
  · rw [h2.2] at hj; exact h.fresh j (.inr (.inl hj))
  · rw [h2.1] at hj; exact h.fresh j (.inr (.inr hj))
/-- What such a tick leaves, for one who does not look into memory. -/
theorem KRun.back (h : KRun w wr kb p M k) {w0 : World} (hb : Below w0.heap.size w0 w) : Below w0.heap.size w0 wr := hb.trans (h.below.mono hb.size)
end
end Go.Proofs.YtnighanlonkjbaaDoor
