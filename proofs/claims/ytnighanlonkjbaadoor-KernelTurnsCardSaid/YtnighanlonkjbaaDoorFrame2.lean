/- Package frame: contracts of Check, Right, Who, for every frame. -/
import Derived.Test.YtnighanlonkjbaaDoorFrame
namespace Go.Proofs.YtnighanlonkjbaaDoor
open Go.RowKit
set_option maxRecDepth 100000

theorem contains_meets (s : Span) (bs : Nat) (A : Option Addr) (n c : Nat) (l : List Span) (w : World) (hnl : l.length = n) (hs : Sl w A 3 l.length (l.flatMap Span.cells)) (hn : l.length ≤ 12) (h0 : w.cell? ⟨bs, 0, none⟩ = some (.int .i64 s.fr)) (h1 : w.cell? ⟨bs, 1, none⟩ = some (.int .i64 s.to)) :
    Calls Tryd.prog 66 #[.slice A n c, .func (.func 102) #[] #[.pointer (some ⟨bs, 0, none⟩)]] w fun e w' => e = .returned (.bool (l.any (spanMeets s))) ∧ Below w.heap.size w w' := by
  subst hnl
  obtain ⟨q, hq⟩ : ∃ q, q = l.any (spanMeets s) := ⟨_, rfl⟩
  rw [← hq]
  have HQ := hid hq
  have HS := hid hs
  clear hq hs
  go_enter Tryd.func66, Tryd.ntmps66
  go_wp2_with (go_at_call 86; refine (index_meets s bs A c l _ HS.out hn h0 h1).mono ?_; rintro e w1 ⟨r, rfl, hr, hb1⟩; have HR := hid hr; clear hr)
  go_ret
  refine ⟨?_, hb1⟩
  rw [HQ.out, ← HR.out]
  rfl

theorem spansChk_bad {ticks : Int} {l : List Span} {f k : Nat} {s : Span} (hg : l[k]? = some s) (hb : spanBad ticks s = true) : spansChk ticks l (f + 1) k = (k, 1) := by simp [spansChk, hg, hb]
theorem spansChk_meets {ticks : Int} {l : List Span} {f k : Nat} {s : Span} (hg : l[k]? = some s) (hb : spanBad ticks s = false) (hm : (l.take k).any (spanMeets s) = true) : spansChk ticks l (f + 1) k = (k, 7) := by simp only [spansChk, hg, hb, hm]; rfl
theorem spansChk_next {ticks : Int} {l : List Span} {f k : Nat} {s : Span} (hg : l[k]? = some s) (hb : spanBad ticks s = false) (hm : (l.take k).any (spanMeets s) = false) : spansChk ticks l (f + 1) k = spansChk ticks l f (k + 1) := by simp only [spansChk, hg, hb, hm]; rfl
theorem spansChk_end {ticks : Int} {l : List Span} {f k : Nat} (h : l.length ≤ k) : spansChk ticks l f k = (0, 0) := by
  cases f with
  | zero => rfl
  | succ f => simp [spansChk, List.getElem?_eq_none h]

def Found (w : World) (r : Nat × Int) (e : Ending) (w' : World) : Prop := e = .returned (.tuple #[.int .i64 r.1, errV r.2]) ∧ Below w.heap.size w w'

theorem Sl.takeSpan {w : World} {A : Option Addr} {l : List Span} (h : Sl w A 3 l.length (l.flatMap Span.cells)) {k : Nat} (hk : k ≤ l.length) : Sl w A 3 (l.take k).length ((l.take k).flatMap Span.cells) := by
  have h1 := h.take (m := k) hk
  have h2 : (l.take k).length = k := by rw [List.length_take]; omega
  rw [h2]
  have h3 : (l.flatMap Span.cells).take (k * 3) = (l.take k).flatMap Span.cells := by
    have e := flatMap_len Span.cells 3 Span.len (l.take k)
    rw [h2] at e
    conv => lhs; rw [← List.take_append_drop k l, List.flatMap_append]
    rw [← e, List.take_left]
  rw [← h3]; exact h1

set_option maxHeartbeats 4000000 in
theorem frame_check (ticks : Int) (A : Option Addr) (c : Nat) (l : List Span) (w : World) (hs : Sl w A 3 l.length (l.flatMap Span.cells)) (hsw : SlW A c l.length) :
    Calls Tryd.prog 84 #[.int .i64 ticks, .slice A l.length c] w (Found w (frameChk ticks l)) := by
  obtain ⟨hs1, hs2, hs3⟩ := hsw
  unfold maxLen at hs2
  have HS := hid hs
  clear hs hs3
  unfold frameChk
  by_cases ht : ticks < 1 ∨ 40 < ticks
  · rw [if_pos ht]
    rcases ht with ht | ht <;>
    · go_enter Tryd.func84, Tryd.ntmps84
      go_wp2
      go_ret2
      exact ⟨rfl, Below.refl _ _⟩
  · rw [if_neg ht]
    have ht1 : 1 ≤ ticks := by omega
    have ht2 : ticks ≤ 40 := by omega
    clear ht
    by_cases h12 : 12 < l.length
    · rw [if_pos h12]
      go_enter Tryd.func84, Tryd.ntmps84
      go_wp2
      go_ret2
      exact ⟨rfl, Below.refl _ _⟩
    · rw [if_neg h12]
      have h13 : l.length ≤ 12 := by omega
      clear h12
      obtain ⟨q, hq⟩ : ∃ q, q = spansChk ticks l (l.length + 1) 0 := ⟨_, rfl⟩
      rw [← hq]
      have HQ := hid hq
      clear hq
      go_enter Tryd.func84, Tryd.ntmps84
      go_wp2_with fail
      go_loopw [6, 7, 23] (fun v6 v7 v23 wr => ∃ k : Nat, k ≤ l.length ∧ v23 = .int .i64 k ∧ q = spansChk ticks l (l.length + 1 - k) k ∧ Below w.heap.size w wr) (fun _ _ v23 _ => l.length - (intOf v23).toNat)
      case atStart => exact ⟨0, by omega, rfl, HQ.out, Below.refl _ _⟩
      case round =>
        obtain ⟨k, hk, rfl, hr, hb⟩ := hrel
        have HR := hid hr
        have HB := hid hb
        clear hr hb
        by_cases hkl : k < l.length
        · obtain ⟨f, hf⟩ : ∃ f, l.length + 1 - k = f + 1 := ⟨l.length - k, by omega⟩
          have HF := hid hf
          clear hf
          have HT := hid (HS.out.takeSpan hk)
          obtain ⟨b, off, rfl, hlb, g0, g1, g2⟩ := HS.out.span HB.out hkl hkl
          have hget := List.getElem?_eq_getElem hkl
          generalize l[k] = s at g0 g1 g2 hget
          have HG := hid hget
          clear hget
          by_cases b1 : s.fr < 0
          · have hq := HR.out
            rw [HF.out, spansChk_bad HG.out (by simp [spanBad, b1])] at hq
            subst hq
            go_wp2_with fail
            go_ret2
            exact ⟨rfl, HB.out.alloc HB.out.size _⟩
          by_cases b2 : s.to ≤ s.fr
          · have hq := HR.out
            rw [HF.out, spansChk_bad HG.out (by simp [spanBad, b2])] at hq
            subst hq
            go_wp2_with fail
            go_ret2
            exact ⟨rfl, HB.out.alloc HB.out.size _⟩
          by_cases b3 : ticks < s.to
          · have hq := HR.out
            rw [HF.out, spansChk_bad HG.out (by simp [spanBad, b3])] at hq
            subst hq
            go_wp2_with fail
            go_ret2
            exact ⟨rfl, HB.out.alloc HB.out.size _⟩
          cases b4 : roomB s.room with
          | false =>
            have hq := HR.out
            rw [HF.out, spansChk_bad HG.out (by simp [spanBad, b4])] at hq
            subst hq
            go_wp2_with (go_at_call 61; refine (room_any _ _).mono ?_; rw [b4]; rintro e w1 ⟨rfl, rfl⟩)
            go_ret2
            exact ⟨rfl, HB.out.alloc HB.out.size _⟩
          | true =>
            have hgood : spanBad ticks s = false := by simp [spanBad, b1, b2, b3, b4]
            cases hm : (l.take k).any (spanMeets s) with
            | true =>
              have hq := HR.out
              rw [HF.out, spansChk_meets HG.out hgood hm] at hq
              subst hq
              have HM := hid hm
              clear hm hgood
              go_wp2_with (first
                | (go_at_call 61; refine (room_any _ _).mono ?_; rw [b4]; rintro e w1 ⟨rfl, rfl⟩)
                | (go_at_call 66; refine (contains_meets s wr.heap.size _ k c (l.take k) _ (by rw [List.length_take]; omega) (by exact HT.out.new (HB.out.alloc HB.out.size _)) (by rw [List.length_take]; omega) (by exact blk_cell (heap_alloc_new wr _) 0) (by exact blk_cell (heap_alloc_new wr _) 1)).mono ?_; rw [HM.out]; rintro e w1 ⟨rfl, hb1⟩; have HB1 := hid hb1; clear hb1))
              go_ret2
              exact ⟨rfl, (HB.out.alloc HB.out.size _).trans (HB1.out.mono (by have := HB.out.size; simp; omega))⟩
            | false =>
              have hq := HR.out
              rw [HF.out, spansChk_next HG.out hgood hm] at hq
              have HQ2 := hid hq
              have HM := hid hm
              clear hm hgood hq
              go_wp2_with (first
                | (go_at_call 61; refine (room_any _ _).mono ?_; rw [b4]; rintro e w1 ⟨rfl, rfl⟩)
                | (go_at_call 66; refine (contains_meets s wr.heap.size _ k c (l.take k) _ (by rw [List.length_take]; omega) (by exact HT.out.new (HB.out.alloc HB.out.size _)) (by rw [List.length_take]; omega) (by exact blk_cell (heap_alloc_new wr _) 0) (by exact blk_cell (heap_alloc_new wr _) 1)).mono ?_; rw [HM.out]; rintro e w1 ⟨rfl, hb1⟩; have HB1 := hid hb1; clear hb1))
              go_roundw
              case rel => exact ⟨k + 1, by omega, by go_num, by rw [HQ2.out]; congr 1; have := HF.out; omega, (HB.out.alloc HB.out.size _).trans (HB1.out.mono (by have := HB.out.size; simp; omega))⟩
              case measure => simp [intOf]; omega
        · have hq := HR.out
          rw [spansChk_end (by omega)] at hq
          subst hq
          go_wp2_with fail
          go_ret2
          exact ⟨rfl, HB.out⟩

theorem frame_right (ticks : Int) (A : Option Addr) (c : Nat) (l : List Span) (w : World) (hs : Sl w A 3 l.length (l.flatMap Span.cells)) (hsw : SlW A c l.length) :
    Calls Tryd.prog 64 #[.int .i64 ticks, .slice A l.length c] w fun e w' => e = .returned (errV (frameChk ticks l).2) ∧ Below w.heap.size w w' := by
  have HS := hid hs
  have HW := hid hsw
  clear hs hsw
  go_enter Tryd.func64, Tryd.ntmps64
  go_wp2_with (go_at_call 84; refine (frame_check ticks A c l _ HS.out HW.out).mono ?_; rintro e w1 ⟨rfl, hb1⟩)
  go_ret
  exact ⟨rfl, hb1⟩

theorem frameChk_ticks {ticks : Int} {l : List Span} (h : (frameChk ticks l).2 = 0) : 1 ≤ ticks ∧ ticks ≤ 40 ∧ l.length ≤ 12 := by
  unfold frameChk at h
  split at h
  · simp at h
  · split at h
    · simp at h
    · omega

/-- Who: whose a tick is, or the fault. -/
def whoOf (ticks : Int) (l : List Span) (t : Int) : Int × Int :=
  if (frameChk ticks l).2 ≠ 0 then (0, (frameChk ticks l).2) else if t < 0 then (0, 1) else (turnAt l (t % ticks), 0)
def Tell (w : World) (r : Int × Int) (e : Ending) (w' : World) : Prop := e = .returned (.tuple #[.int .i64 r.1, errV r.2]) ∧ Below w.heap.size w w'

theorem who_any (ticks t : Int) (A : Option Addr) (c : Nat) (l : List Span) (w : World) (hs : Sl w A 3 l.length (l.flatMap Span.cells)) (hsw : SlW A c l.length) (h4 : t ≤ 9223372036854775807) :
    Calls Tryd.prog 38 #[.int .i64 ticks, .slice A l.length c, .int .i64 t] w (Tell w (whoOf ticks l t)) := by
  have HS := hid hs
  have HW := hid hsw
  clear hs hsw
  by_cases he : (frameChk ticks l).2 = 0
  · obtain ⟨h1, h2, h3⟩ := frameChk_ticks he
    have HE := hid he
    by_cases ht : t < 0
    · have hw : whoOf ticks l t = (0, 1) := by simp [whoOf, he, ht]
      rw [hw]
      clear he hw
      go_enter Tryd.func38, Tryd.ntmps38
      go_wp2_with (go_at_call 64; refine (frame_right ticks A c l _ HS.out HW.out).mono ?_; rw [HE.out]; rintro e w1 ⟨rfl, hb1⟩; rw [errV_zero])
      go_ret2
      exact ⟨rfl, hb1⟩
    · have hw : whoOf ticks l t = (turnAt l (t % ticks), 0) := by simp [whoOf, he, ht]
      rw [hw]
      clear he hw
      have ht : 0 ≤ t := by omega
      go_enter Tryd.func38, Tryd.ntmps38
      go_wp2_with (first
        | (go_at_call 64; refine (frame_right ticks A c l _ HS.out HW.out).mono ?_; rw [HE.out]; rintro e w1 ⟨rfl, hb1⟩; rw [errV_zero]; have HB1 := hid hb1; clear hb1)
        | (go_at_call 74; refine (turn_any ticks t A c l _ (HS.out.new HB1.out) HW.out h1 h2 ht h4).mono ?_; rintro e w2 ⟨rfl, hb2⟩))
      go_ret2
      exact ⟨rfl, HB1.out.trans (hb2.mono HB1.out.size)⟩
  · have hw : whoOf ticks l t = (0, (frameChk ticks l).2) := by simp [whoOf, he]
    rw [hw]
    have hv := errV_pos he
    have HV := hid hv
    clear he hw hv
    go_enter Tryd.func38, Tryd.ntmps38
    go_wp2_with (go_at_call 64; refine (frame_right ticks A c l _ HS.out HW.out).mono ?_; rw [HV.out]; rintro e w1 ⟨rfl, hb1⟩)
    go_ret2
    exact ⟨by rw [HV.out]; rfl, hb1⟩
end Go.Proofs.YtnighanlonkjbaaDoor
