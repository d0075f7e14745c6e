/- Several parts: each begins with what it says. -/
import Derived.Test.YthdmgighblhmhaaGreatDoorWire
import Derived.Test.YthdmgighblhmhaaGreatDoorOpen
/- Package frame: contracts of Check, Right, Turn, Who, for every frame. -/
namespace Go.Proofs.YthdmgighblhmhaaGreatDoor
open Go.RowKit
set_option maxRecDepth 100000

def spanBad (ticks : Int) (s : Span) : Bool := decide (s.fr < 0 ∨ s.to ≤ s.fr ∨ ticks < s.to) || !roomB s.room
def spanMeets (s x : Span) : Bool := decide (x.fr < s.to ∧ s.fr < x.to)
/-- Which span is wrong, and how. -/
def spansChk (ticks : Int) (l : List Span) : Nat → Nat → Nat × Int
  | 0, _ => (0, 0)
  | fuel + 1, i => match l[i]? with
    | none => (0, 0)
    | some s => if spanBad ticks s then (i, 1) else if (l.take i).any (spanMeets s) then (i, 7) else spansChk ticks l fuel (i + 1)
def frameChk (ticks : Int) (l : List Span) : Nat × Int :=
  if ticks < 1 ∨ 40 < ticks then (0, 1) else if 12 < l.length then (0, 4) else spansChk ticks l (l.length + 1) 0
/-- Whose a tick within a frame is. -/
def turnAt (l : List Span) (m : Int) : Int := match l.find? (fun s => decide (s.fr ≤ m ∧ m < s.to)) with
  | some s => s.room
  | none => -1

theorem Sl.span {w : World} {A : Option Addr} {n : Nat} {l : List Span} (h : Sl w A 3 n (l.flatMap Span.cells)) {wr : World} (hb : Below w.heap.size w wr) {i : Nat} (hi : i < l.length) (hn : i < n) :
    ∃ b off, A = some ⟨b, off, none⟩ ∧ b < w.heap.size ∧ wr.cell? ⟨b, off + i * 3, none⟩ = some (.int .i64 l[i].fr) ∧ wr.cell? ⟨b, off + i * 3 + 1, none⟩ = some (.int .i64 l[i].to) ∧ wr.cell? ⟨b, off + i * 3 + 2, none⟩ = some (.int .i64 l[i].room) := by
  obtain ⟨b, off, rfl, hlt, hx⟩ := h.2 (by omega)
  have hg := fun j (hj : j < 3) => flatMap_get Span.cells 3 Span.len l i j l[i] (List.getElem?_eq_getElem hi) hj
  have hk := fun o => hb.cell (p := ⟨b, o, none⟩) hlt
  refine ⟨b, off, rfl, hlt, ?_, ?_, ?_⟩
  · rw [hk]; exact hx _ _ ((hg 0 (by omega)).trans rfl)
  · rw [hk, Nat.add_assoc]; exact hx _ _ ((hg 1 (by omega)).trans rfl)
  · rw [hk, Nat.add_assoc]; exact hx _ _ ((hg 2 (by omega)).trans rfl)

theorem turnAt_hit {m : Int} : ∀ {l : List Span} {k : Nat} {s : Span}, (∀ j s, j < k → l[j]? = some s → ¬ (s.fr ≤ m ∧ m < s.to)) → l[k]? = some s → (s.fr ≤ m ∧ m < s.to) → turnAt l m = s.room
  | [], k, s, _, h, _ => by simp at h
  | x :: r, 0, s, _, h, hs => by
    simp at h; subst h
    simp [turnAt, hs.1, hs.2]
  | x :: r, k + 1, s, hn, h, hs => by
    have h0 := hn 0 x (by omega) rfl
    have := turnAt_hit (l := r) (k := k) (fun j s hj hg => hn (j + 1) s (by omega) (by simpa using hg)) (by simpa using h) hs
    rw [← this]
    simp [turnAt, h0]
theorem turnAt_none {m : Int} : ∀ {l : List Span}, (∀ j s, j < l.length → l[j]? = some s → ¬ (s.fr ≤ m ∧ m < s.to)) → turnAt l m = -1
  | [], _ => rfl
  | x :: r, hn => by
    have h0 := hn 0 x (by simp) rfl
    have := turnAt_none (l := r) (m := m) (fun j s hj hg => hn (j + 1) s (by simp; omega) (by simpa using hg))
    rw [← this]
    simp [turnAt, h0]
theorem no_snoc {l : List Span} {k : Nat} {Q : Span → Prop} {s : Span} (h : ∀ j s, j < k → l[j]? = some s → ¬ Q s) (hs : l[k]? = some s) (hq : ¬ Q s) : ∀ j s, j < k + 1 → l[j]? = some s → ¬ Q s := by
  intro j s' hj hg
  by_cases hjk : j = k
  · subst hjk; rw [hs] at hg; cases hg; exact hq
  · exact h j s' (by omega) hg

/-- Turn: whose a tick is. -/
theorem turn_any (ticks t : Int) (A : Option Addr) (c : Nat) (l : List Span) (w : World) (hs : Sl w A 3 l.length (l.flatMap Span.cells)) (hsw : SlW A c l.length) (h1 : 1 ≤ ticks) (h2 : ticks ≤ 40) (h3 : 0 ≤ t) (_h4 : t ≤ 9223372036854775807) :
    Calls Tryz.prog 109 #[.int .i64 ticks, .slice A l.length c, .int .i64 t] w fun e w' => e = .returned (.int .i64 (turnAt l (t % ticks))) ∧ Below w.heap.size w w' := by
  obtain ⟨hs1, hs2, hs3⟩ := hsw
  unfold maxLen at hs2
  have HS := hid hs
  clear hs hs3
  have hm0 := Int.emod_nonneg t (show ticks ≠ 0 by omega)
  have hm1 := Int.emod_lt_of_pos t (show 0 < ticks by omega)
  have hmod : t.tmod ticks = t % ticks := Int.tmod_eq_emod_of_nonneg h3
  obtain ⟨m, hm⟩ : ∃ m, t % ticks = m := ⟨_, rfl⟩
  rw [hm] at hm0 hm1 hmod ⊢
  have ht0 : (ticks == 0) = false := by simp; omega
  go_enter Tryz.func109, Tryz.ntmps109
  go_wp2
  clear hmod hm
  go_loopw [8, 14] (fun v8 v14 wr => ∃ k : Nat, k ≤ l.length ∧ v14 = .int .i64 k ∧ (∀ j s, j < k → l[j]? = some s → ¬ (s.fr ≤ m ∧ m < s.to)) ∧ Below w.heap.size w wr) (fun _ v14 _ => l.length - (intOf v14).toNat)
  case atStart => exact ⟨0, by omega, rfl, fun j s hj => absurd hj (by omega), Below.refl _ _⟩
  case round =>
    obtain ⟨k, hk, rfl, hno, hb⟩ := hrel
    have HNO := hid hno
    have HB := hid hb
    clear hno hb
    by_cases hlt : k < l.length
    · obtain ⟨b, off, rfl, _, g0, g1, g2⟩ := HS.out.span HB.out hlt hlt
      have hget := List.getElem?_eq_getElem hlt
      generalize l[k] = s at g0 g1 g2 hget
      have HG := hid hget
      clear hget
      by_cases hhit : s.fr ≤ m ∧ m < s.to
      · obtain ⟨q1, q2⟩ := hhit
        go_wp2
        go_ret
        refine ⟨ret_i ?_, HB.out.alloc HB.out.size _⟩
        rw [turnAt_hit HNO.out HG.out ⟨q1, q2⟩]
      · by_cases q1 : s.fr ≤ m
        · have q2 : ¬ m < s.to := fun h => hhit ⟨q1, h⟩
          clear hhit
          go_wp2
          go_roundw
          case rel => exact ⟨k + 1, by omega, by go_num, no_snoc HNO.out HG.out (fun h => q2 h.2), HB.out.alloc HB.out.size _⟩
          case measure => simp [intOf]; omega
        · clear hhit
          go_wp2
          go_roundw
          case rel => exact ⟨k + 1, by omega, by go_num, no_snoc HNO.out HG.out (fun h => q1 h.1), HB.out.alloc HB.out.size _⟩
          case measure => simp [intOf]; omega
    · obtain rfl : k = l.length := by omega
      go_wp2
      go_ret
      refine ⟨ret_i ?_, HB.out⟩
      rw [turnAt_none HNO.out]

theorem meets_any (x s : Span) (bs : Nat) (w : World) (h0 : w.cell? ⟨bs, 0, none⟩ = some (.int .i64 s.fr)) (h1 : w.cell? ⟨bs, 1, none⟩ = some (.int .i64 s.to)) :
    Calls Tryz.prog 89 #[.agg #[.int .i64 x.fr, .int .i64 x.to, .int .i64 x.room], .pointer (some ⟨bs, 0, none⟩)] w fun e w' => e = .returned (.bool (spanMeets s x)) ∧ Below w.heap.size w w' := by
  have hlt := cell_lt h0
  by_cases q1 : x.fr < s.to
  · by_cases q2 : s.fr < x.to
    · rw [show spanMeets s x = true by simp [spanMeets, q1, q2]]
      go_enter Tryz.func89, Tryz.ntmps89
      go_wp2
      go_ret
      exact ⟨rfl, (Below.refl _ _).alloc (Nat.le_refl _) _⟩
    · rw [show spanMeets s x = false by simp [spanMeets, q2]]
      go_enter Tryz.func89, Tryz.ntmps89
      go_wp2
      go_ret
      exact ⟨rfl, (Below.refl _ _).alloc (Nat.le_refl _) _⟩
  · rw [show spanMeets s x = false by simp [spanMeets, q1]]
    go_enter Tryz.func89, Tryz.ntmps89
    go_wp2
    go_ret
    exact ⟨rfl, (Below.refl _ _).alloc (Nat.le_refl _) _⟩

/-- Where the first one stands that does. -/
def SpanAt (l : List Span) (Q : Span → Bool) (w : World) (e : Ending) (w' : World) : Prop :=
  ∃ r : Int, e = .returned (.int .i64 r) ∧ (decide (0 ≤ r) = l.any Q) ∧ Below w.heap.size w w'

theorem index_meets (s : Span) (bs : Nat) (A : Option Addr) (c : Nat) (l : List Span) (w : World) (hs : Sl w A 3 l.length (l.flatMap Span.cells)) (hn : l.length ≤ 12) (h0 : w.cell? ⟨bs, 0, none⟩ = some (.int .i64 s.fr)) (h1 : w.cell? ⟨bs, 1, none⟩ = some (.int .i64 s.to)) :
    Calls Tryz.prog 73 #[.slice A l.length c, .func (.func 89) #[] #[.pointer (some ⟨bs, 0, none⟩)]] w (SpanAt l (spanMeets s) w) := by
  have hlt := cell_lt h0
  have HS := hid hs
  have H0 := hid h0
  have H1 := hid h1
  clear hs h0 h1
  go_enter Tryz.func73, Tryz.ntmps73
  go_wp2_with fail
  go_loopw [5, 8] (fun v5 v8 wr => ∃ k : Nat, k ≤ l.length ∧ v8 = .int .i64 k ∧ (∀ j s', j < k → l[j]? = some s' → ¬ spanMeets s s' = true) ∧ Below w.heap.size w wr) (fun _ v8 _ => l.length - (intOf v8).toNat)
  case atStart => exact ⟨0, by omega, rfl, fun j s hj => absurd hj (by omega), Below.refl _ _⟩
  case round =>
    obtain ⟨k, hk, rfl, hno, hb⟩ := hrel
    have HNO := hid hno
    have HB := hid hb
    have k0 := HB.out.cell (p := ⟨bs, 0, none⟩) hlt
    have k1 := HB.out.cell (p := ⟨bs, 1, none⟩) hlt
    rw [H0.out] at k0
    rw [H1.out] at k1
    have K0 := hid k0
    have K1 := hid k1
    clear hno hb k0 k1
    by_cases hkl : k < l.length
    · obtain ⟨b, off, rfl, _, g0, g1, g2⟩ := HS.out.span HB.out hkl hkl
      have hget := List.getElem?_eq_getElem hkl
      generalize l[k] = x at g0 g1 g2 hget
      have HG := hid hget
      clear hget
      cases hm : spanMeets s x with
      | true =>
        have HM := hid hm
        clear hm
        go_wp2_with (go_at_call 89; refine (meets_any x s bs _ K0.out K1.out).mono ?_; rw [HM.out]; rintro e w1 ⟨rfl, hb1⟩)
        go_ret
        refine ⟨_, rfl, ?_, HB.out.trans (hb1.mono HB.out.size)⟩
        have : l.any (spanMeets s) = true := List.any_eq_true.2 ⟨x, List.mem_of_getElem? HG.out, HM.out⟩
        rw [this]; simp
      | false =>
        have HM := hid hm
        clear hm
        go_wp2_with (go_at_call 89; refine (meets_any x s bs _ K0.out K1.out).mono ?_; rw [HM.out]; rintro e w1 ⟨rfl, hb1⟩)
        go_roundw
        case rel => exact ⟨k + 1, by omega, by go_num, no_snoc HNO.out HG.out (by rw [HM.out]; decide), HB.out.trans (hb1.mono HB.out.size)⟩
        case measure => simp [intOf]; omega
    · obtain rfl : k = l.length := by omega
      go_wp2_with fail
      go_ret
      refine ⟨-1, rfl, ?_, HB.out⟩
      have : l.any (spanMeets s) = false := by
        rw [List.any_eq_false]
        intro x hx
        obtain ⟨j, hj, rfl⟩ := List.getElem_of_mem hx
        exact HNO.out j _ hj (List.getElem?_eq_getElem hj)
      rw [this]; rfl

end Go.Proofs.YthdmgighblhmhaaGreatDoor

/- Package frame: contracts of Check, Right, Who, for every frame. -/
namespace Go.Proofs.YthdmgighblhmhaaGreatDoor
open Go.RowKit
set_option maxRecDepth 100000

theorem contains_meets (s : Span) (bs : Nat) (A : Option Addr) (n c : Nat) (l : List Span) (w : World) (hnl : l.length = n) (hs : Sl w A 3 l.length (l.flatMap Span.cells)) (hn : l.length ≤ 12) (h0 : w.cell? ⟨bs, 0, none⟩ = some (.int .i64 s.fr)) (h1 : w.cell? ⟨bs, 1, none⟩ = some (.int .i64 s.to)) :
    Calls Tryz.prog 40 #[.slice A n c, .func (.func 89) #[] #[.pointer (some ⟨bs, 0, none⟩)]] w fun e w' => e = .returned (.bool (l.any (spanMeets s))) ∧ Below w.heap.size w w' := by
  subst hnl
  obtain ⟨q, hq⟩ : ∃ q, q = l.any (spanMeets s) := ⟨_, rfl⟩
  rw [← hq]
  have HQ := hid hq
  have HS := hid hs
  clear hq hs
  go_enter Tryz.func40, Tryz.ntmps40
  go_wp2_with (go_at_call 73; refine (index_meets s bs A c l _ HS.out hn h0 h1).mono ?_; rintro e w1 ⟨r, rfl, hr, hb1⟩; have HR := hid hr; clear hr)
  go_ret
  refine ⟨?_, hb1⟩
  rw [HQ.out, ← HR.out]
  rfl

theorem spansChk_bad {ticks : Int} {l : List Span} {f k : Nat} {s : Span} (hg : l[k]? = some s) (hb : spanBad ticks s = true) : spansChk ticks l (f + 1) k = (k, 1) := by simp [spansChk, hg, hb]
theorem spansChk_meets {ticks : Int} {l : List Span} {f k : Nat} {s : Span} (hg : l[k]? = some s) (hb : spanBad ticks s = false) (hm : (l.take k).any (spanMeets s) = true) : spansChk ticks l (f + 1) k = (k, 7) := by simp only [spansChk, hg, hb, hm]; rfl
theorem spansChk_next {ticks : Int} {l : List Span} {f k : Nat} {s : Span} (hg : l[k]? = some s) (hb : spanBad ticks s = false) (hm : (l.take k).any (spanMeets s) = false) : spansChk ticks l (f + 1) k = spansChk ticks l f (k + 1) := by simp only [spansChk, hg, hb, hm]; rfl
theorem spansChk_end {ticks : Int} {l : List Span} {f k : Nat} (h : l.length ≤ k) : spansChk ticks l f k = (0, 0) := by
  cases f with
  | zero => rfl
  | succ f => simp [spansChk, List.getElem?_eq_none h]

def Found (w : World) (r : Nat × Int) (e : Ending) (w' : World) : Prop := e = .returned (.tuple #[.int .i64 r.1, errV r.2]) ∧ Below w.heap.size w w'

theorem Sl.takeSpan {w : World} {A : Option Addr} {l : List Span} (h : Sl w A 3 l.length (l.flatMap Span.cells)) {k : Nat} (hk : k ≤ l.length) : Sl w A 3 (l.take k).length ((l.take k).flatMap Span.cells) := by
  have h1 := h.take (m := k) hk
  have h2 : (l.take k).length = k := by rw [List.length_take]; omega
  rw [h2]
  have h3 : (l.flatMap Span.cells).take (k * 3) = (l.take k).flatMap Span.cells := by
    have e := flatMap_len Span.cells 3 Span.len (l.take k)
    rw [h2] at e
    conv => lhs; rw [← List.take_append_drop k l, List.flatMap_append]
    rw [← e, List.take_left]
  rw [← h3]; exact h1

set_option maxHeartbeats 4000000 in
theorem frame_check (ticks : Int) (A : Option Addr) (c : Nat) (l : List Span) (w : World) (hs : Sl w A 3 l.length (l.flatMap Span.cells)) (hsw : SlW A c l.length) :
    Calls Tryz.prog 71 #[.int .i64 ticks, .slice A l.length c] w (Found w (frameChk ticks l)) := by
  obtain ⟨hs1, hs2, hs3⟩ := hsw
  unfold maxLen at hs2
  have HS := hid hs
  clear hs hs3
  unfold frameChk
  by_cases ht : ticks < 1 ∨ 40 < ticks
  · rw [if_pos ht]
    rcases ht with ht | ht <;>
    · go_enter Tryz.func71, Tryz.ntmps71
      go_wp2
      go_ret2
      exact ⟨rfl, Below.refl _ _⟩
  · rw [if_neg ht]
    have ht1 : 1 ≤ ticks := by omega
    have ht2 : ticks ≤ 40 := by omega
    clear ht
    by_cases h12 : 12 < l.length
    · rw [if_pos h12]
      go_enter Tryz.func71, Tryz.ntmps71
      go_wp2
      go_ret2
      exact ⟨rfl, Below.refl _ _⟩
    · rw [if_neg h12]
      have h13 : l.length ≤ 12 := by omega
      clear h12
      obtain ⟨q, hq⟩ : ∃ q, q = spansChk ticks l (l.length + 1) 0 := ⟨_, rfl⟩
      rw [← hq]
      have HQ := hid hq
      clear hq
      go_enter Tryz.func71, Tryz.ntmps71
      go_wp2_with fail
      go_loopw [6, 7, 23] (fun v6 v7 v23 wr => ∃ k : Nat, k ≤ l.length ∧ v23 = .int .i64 k ∧ q = spansChk ticks l (l.length + 1 - k) k ∧ Below w.heap.size w wr) (fun _ _ v23 _ => l.length - (intOf v23).toNat)
      case atStart => exact ⟨0, by omega, rfl, HQ.out, Below.refl _ _⟩
      case round =>
        obtain ⟨k, hk, rfl, hr, hb⟩ := hrel
        have HR := hid hr
        have HB := hid hb
        clear hr hb
        by_cases hkl : k < l.length
        · obtain ⟨f, hf⟩ : ∃ f, l.length + 1 - k = f + 1 := ⟨l.length - k, by omega⟩
          have HF := hid hf
          clear hf
          have HT := hid (HS.out.takeSpan hk)
          obtain ⟨b, off, rfl, hlb, g0, g1, g2⟩ := HS.out.span HB.out hkl hkl
          have hget := List.getElem?_eq_getElem hkl
          generalize l[k] = s at g0 g1 g2 hget
          have HG := hid hget
          clear hget
          by_cases b1 : s.fr < 0
          · have hq := HR.out
            rw [HF.out, spansChk_bad HG.out (by simp [spanBad, b1])] at hq
            subst hq
            go_wp2_with fail
            go_ret2
            exact ⟨rfl, HB.out.alloc HB.out.size _⟩
          by_cases b2 : s.to ≤ s.fr
          · have hq := HR.out
            rw [HF.out, spansChk_bad HG.out (by simp [spanBad, b2])] at hq
            subst hq
            go_wp2_with fail
            go_ret2
            exact ⟨rfl, HB.out.alloc HB.out.size _⟩
          by_cases b3 : ticks < s.to
          · have hq := HR.out
            rw [HF.out, spansChk_bad HG.out (by simp [spanBad, b3])] at hq
            subst hq
            go_wp2_with fail
            go_ret2
            exact ⟨rfl, HB.out.alloc HB.out.size _⟩
          cases b4 : roomB s.room with
          | false =>
            have hq := HR.out
            rw [HF.out, spansChk_bad HG.out (by simp [spanBad, b4])] at hq
            subst hq
            go_wp2_with (go_at_call 76; refine (room_any _ _).mono ?_; rw [b4]; rintro e w1 ⟨rfl, rfl⟩)
            go_ret2
            exact ⟨rfl, HB.out.alloc HB.out.size _⟩
          | true =>
            have hgood : spanBad ticks s = false := by simp [spanBad, b1, b2, b3, b4]
            cases hm : (l.take k).any (spanMeets s) with
            | true =>
              have hq := HR.out
              rw [HF.out, spansChk_meets HG.out hgood hm] at hq
              subst hq
              have HM := hid hm
              clear hm hgood
              go_wp2_with (first
                | (go_at_call 76; refine (room_any _ _).mono ?_; rw [b4]; rintro e w1 ⟨rfl, rfl⟩)
                | (go_at_call 40; refine (contains_meets s wr.heap.size _ k c (l.take k) _ (by rw [List.length_take]; omega) (by exact HT.out.new (HB.out.alloc HB.out.size _)) (by rw [List.length_take]; omega) (by exact blk_cell (heap_alloc_new wr _) 0) (by exact blk_cell (heap_alloc_new wr _) 1)).mono ?_; rw [HM.out]; rintro e w1 ⟨rfl, hb1⟩; have HB1 := hid hb1; clear hb1))
              go_ret2
              exact ⟨rfl, (HB.out.alloc HB.out.size _).trans (HB1.out.mono (by have := HB.out.size; simp; omega))⟩
            | false =>
              have hq := HR.out
              rw [HF.out, spansChk_next HG.out hgood hm] at hq
              have HQ2 := hid hq
              have HM := hid hm
              clear hm hgood hq
              go_wp2_with (first
                | (go_at_call 76; refine (room_any _ _).mono ?_; rw [b4]; rintro e w1 ⟨rfl, rfl⟩)
                | (go_at_call 40; refine (contains_meets s wr.heap.size _ k c (l.take k) _ (by rw [List.length_take]; omega) (by exact HT.out.new (HB.out.alloc HB.out.size _)) (by rw [List.length_take]; omega) (by exact blk_cell (heap_alloc_new wr _) 0) (by exact blk_cell (heap_alloc_new wr _) 1)).mono ?_; rw [HM.out]; rintro e w1 ⟨rfl, hb1⟩; have HB1 := hid hb1; clear hb1))
              go_roundw
              case rel => exact ⟨k + 1, by omega, by go_num, by rw [HQ2.out]; congr 1; have := HF.out; omega, (HB.out.alloc HB.out.size _).trans (HB1.out.mono (by have := HB.out.size; simp; omega))⟩
              case measure => simp [intOf]; omega
        · have hq := HR.out
          rw [spansChk_end (by omega)] at hq
          subst hq
          go_wp2_with fail
          go_ret2
          exact ⟨rfl, HB.out⟩

theorem frame_right (ticks : Int) (A : Option Addr) (c : Nat) (l : List Span) (w : World) (hs : Sl w A 3 l.length (l.flatMap Span.cells)) (hsw : SlW A c l.length) :
    Calls Tryz.prog 38 #[.int .i64 ticks, .slice A l.length c] w fun e w' => e = .returned (errV (frameChk ticks l).2) ∧ Below w.heap.size w w' := by
  have HS := hid hs
  have HW := hid hsw
  clear hs hsw
  go_enter Tryz.func38, Tryz.ntmps38
  go_wp2_with (go_at_call 71; refine (frame_check ticks A c l _ HS.out HW.out).mono ?_; rintro e w1 ⟨rfl, hb1⟩)
  go_ret
  exact ⟨rfl, hb1⟩

theorem frameChk_ticks {ticks : Int} {l : List Span} (h : (frameChk ticks l).2 = 0) : 1 ≤ ticks ∧ ticks ≤ 40 ∧ l.length ≤ 12 := by
  unfold frameChk at h
  split at h
  · simp at h
  · split at h
    · simp at h
    · omega

/-- Who: whose a tick is, or the fault. -/
def whoOf (ticks : Int) (l : List Span) (t : Int) : Int × Int :=
  if (frameChk ticks l).2 ≠ 0 then (0, (frameChk ticks l).2) else if t < 0 then (0, 1) else (turnAt l (t % ticks), 0)
def Tell (w : World) (r : Int × Int) (e : Ending) (w' : World) : Prop := e = .returned (.tuple #[.int .i64 r.1, errV r.2]) ∧ Below w.heap.size w w'

end Go.Proofs.YthdmgighblhmhaaGreatDoor

/- Frames that are right: each span is, and none meets one ahead of it. -/
namespace Go.Proofs.YthdmgighblhmhaaGreatDoor

/-- Each span is right, and none meets one ahead of it. -/
def FrOk (T : Int) (l : List Span) : Prop := ∀ k s, l[k]? = some s → spanBad T s = false ∧ (l.take k).any (spanMeets s) = false
theorem spansChk_all {T : Int} {l : List Span} : ∀ {f k : Nat}, l.length < f + k → (spansChk T l f k).2 = 0 → ∀ j s, k ≤ j → l[j]? = some s → spanBad T s = false ∧ (l.take j).any (spanMeets s) = false
  | 0, k, hf, _, j, s, hj, hs => by have := (List.getElem?_eq_some_iff.1 hs).1; omega
  | f + 1, k, hf, h, j, s, hj, hs => by
    have hk : k < l.length := by have := (List.getElem?_eq_some_iff.1 hs).1; omega
    have hg := List.getElem?_eq_getElem hk
    cases hb : spanBad T l[k] with
    | true => rw [spansChk_bad hg hb] at h; exact absurd h (by simp)
    | false =>
      cases hm : (l.take k).any (spanMeets l[k]) with
      | true => rw [spansChk_meets hg hb hm] at h; exact absurd h (by simp)
      | false =>
        rw [spansChk_next hg hb hm] at h
        by_cases e : j = k
        · subst e; rw [hg] at hs; cases hs; exact ⟨hb, hm⟩
        · exact spansChk_all (by omega) h j s (by omega) hs
theorem frOk_of {T : Int} {l : List Span} (h : (frameChk T l).2 = 0) : FrOk T l := by
  unfold frameChk at h
  split at h
  · simp at h
  · split at h
    · simp at h
    · exact fun k s hs => spansChk_all (by omega) h k s (Nat.zero_le _) hs
theorem spanOk {T : Int} {s : Span} (h : spanBad T s = false) : 0 ≤ s.fr ∧ s.fr < s.to ∧ s.to ≤ T ∧ 0 ≤ s.room ∧ s.room < 5 := by
  unfold spanBad at h
  rw [Bool.or_eq_false_iff] at h
  have h1 := of_decide_eq_false h.1
  have h2 : roomB s.room = true := by simpa using h.2
  have := roomB_true.1 h2
  omega

end Go.Proofs.YthdmgighblhmhaaGreatDoor
