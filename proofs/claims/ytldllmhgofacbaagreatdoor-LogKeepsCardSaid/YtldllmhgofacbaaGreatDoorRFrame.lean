/- The reference of chapter 3: contracts of its Frame and Who. -/
import Derived.Test.YtldllmhgofacbaaGreatDoorFrameU
import Derived.Test.YtldllmhgofacbaaGreatDoorRLineU
namespace Go.Proofs.YtldllmhgofacbaaGreatDoor
open Go.RowKit
set_option maxRecDepth 100000

set_option maxHeartbeats 1000000 in
/-- Who: whose a tick is. -/
theorem rwho_any (ticks t : Int) (A : Option Addr) (n c : Nat) (l : List Span) (w : World) (hn : l.length = n) (hs : Sl w A 3 n (l.flatMap Span.cells)) (hsw : SlW A c n) (h1 : 1 ≤ ticks) (h2 : ticks ≤ 40) (h3 : 0 ≤ t) (_h4 : t ≤ 9223372036854775807) :
    Calls Tryz.prog 141 #[.int .i64 ticks, .slice A n c, .int .i64 t] w (TellV w (turnAt l (t % ticks))) := by
  subst hn
  obtain ⟨hs1, hs2, hs3⟩ := hsw
  unfold maxLen at hs2
  have HS := hid hs
  clear hs hs3
  have hm0 := Int.emod_nonneg t (show ticks ≠ 0 by omega)
  have hm1 := Int.emod_lt_of_pos t (show 0 < ticks by omega)
  have hmod : t.tmod ticks = t % ticks := Int.tmod_eq_emod_of_nonneg h3
  obtain ⟨m, hm⟩ : ∃ m, t % ticks = m := ⟨_, rfl⟩
  rw [hm] at hm0 hm1 hmod ⊢
  have ht0 : ¬ (ticks = 0) := by omega
  clear hm
  go_enter Tryz.func141, Tryz.ntmps141
  go_wp2_with fail
  go_loopw [7] (fun v7 wr => ∃ k : Nat, k ≤ l.length ∧ v7 = .int .i64 k ∧ (∀ j s, j < k → l[j]? = some s → ¬ (s.fr ≤ m ∧ m < s.to)) ∧ Below w.heap.size w wr) (fun v7 _ => l.length - (intOf v7).toNat)
  case atStart => exact ⟨0, by omega, rfl, fun j s hj => absurd hj (by omega), Below.refl _ _⟩
  case round =>
    obtain ⟨k, hk, rfl, hno, hb⟩ := hrel
    have HNO := hid hno
    have HB := hid hb
    clear hno hb
    by_cases hlt : k < l.length
    · obtain ⟨b, off, rfl, _, g0, g1, g2⟩ := HS.out.span HB.out hlt hlt
      have hget := List.getElem?_eq_getElem hlt
      generalize l[k] = s at g0 g1 g2 hget
      have HG := hid hget
      clear hget
      by_cases q1 : s.fr ≤ m
      · by_cases q2 : m < s.to
        · go_wp2_with fail
          go_quiet (fail)
          go_wp2_with fail
          go_ret
          refine ⟨ret_i ?_, ⟨HB.out.os, HB.out.tape, HB.out.output, HB.out.size, HB.out.block⟩⟩
          rw [turnAt_hit HNO.out HG.out ⟨q1, q2⟩]
        · have hd : decide (m < s.to) = false := decide_eq_false q2
          go_wp2_with fail
          go_quiet (fail)
          go_wp2_with fail
          go_roundw
          case rel => exact ⟨k + 1, by omega, by go_num, no_snoc HNO.out HG.out (by omega), ⟨HB.out.os, HB.out.tape, HB.out.output, HB.out.size, HB.out.block⟩⟩
          case measure => simp [intOf]; omega
      · have hd : decide (s.fr ≤ m) = false := decide_eq_false q1
        go_wp2_with fail
        go_quiet (fail)
        go_wp2_with fail
        go_roundw
        case rel => exact ⟨k + 1, by omega, by go_num, no_snoc HNO.out HG.out (by omega), ⟨HB.out.os, HB.out.tape, HB.out.output, HB.out.size, HB.out.block⟩⟩
        case measure => simp [intOf]; omega
    · obtain rfl : k = l.length := by omega
      go_wp2_with fail
      go_ret
      refine ⟨ret_i ?_, HB.out⟩
      rw [turnAt_none HNO.out]

theorem take_any_false {l : List Span} {s : Span} {k : Nat} (h : ∀ j x, j < k → l[j]? = some x → ¬ spanMeets s x = true) : (l.take k).any (spanMeets s) = false := by
  rw [List.any_eq_false]
  intro x hx
  obtain ⟨j, hj, rfl⟩ := List.getElem_of_mem hx
  rw [List.length_take] at hj
  refine h j _ (by omega) ?_
  rw [List.getElem_take]
  exact List.getElem?_eq_getElem (by omega)
theorem take_any_true {l : List Span} {s x : Span} {k j : Nat} (hj : j < k) (hx : l[j]? = some x) (h : spanMeets s x = true) : (l.take k).any (spanMeets s) = true := by
  refine List.any_eq_true.2 ⟨x, ?_, h⟩
  refine List.mem_of_getElem? (i := j) ?_
  rw [List.getElem?_take, if_pos hj]; exact hx

set_option maxHeartbeats 4000000 in
theorem rframe_any (ticks : Int) (A : Option Addr) (c : Nat) (l : List Span) (w : World) (hs : Sl w A 3 l.length (l.flatMap Span.cells)) (hsw : SlW A c l.length) :
    Calls Tryz.prog 60 #[.int .i64 ticks, .slice A l.length c] w (TellII w (frameChk ticks l)) := by
  obtain ⟨hs1, hs2, hs3⟩ := hsw
  unfold maxLen at hs2
  have HS := hid hs
  clear hs hs3
  unfold frameChk
  by_cases ht : ticks < 1 ∨ 40 < ticks
  · rw [if_pos ht]
    rcases ht with ht | ht <;>
    · go_enter Tryz.func60, Tryz.ntmps60
      go_wp2
      go_ret2
      exact ⟨rfl, Below.refl _ _⟩
  · rw [if_neg ht]
    have ht1 : 1 ≤ ticks := by omega
    have ht2 : ticks ≤ 40 := by omega
    clear ht
    by_cases h12 : 12 < l.length
    · rw [if_pos h12]
      go_enter Tryz.func60, Tryz.ntmps60
      go_wp2
      go_ret2
      exact ⟨rfl, Below.refl _ _⟩
    · rw [if_neg h12]
      have h13 : l.length ≤ 12 := by omega
      clear h12
      obtain ⟨q, hq⟩ : ∃ q, q = spansChk ticks l (l.length + 1) 0 := ⟨_, rfl⟩
      rw [← hq]
      have HQ := hid hq
      clear hq
      go_enter Tryz.func60, Tryz.ntmps60
      go_wp2_with fail
      go_loopw [6, 7, 8] (fun v6 v7 v8 wr => ∃ k : Nat, k ≤ l.length ∧ v6 = .int .i64 k ∧ q = spansChk ticks l (l.length + 1 - k) k ∧ Below w.heap.size w wr) (fun v6 _ _ _ => l.length - (intOf v6).toNat)
      case atStart => exact ⟨0, by omega, rfl, HQ.out, Below.refl _ _⟩
      case round =>
        obtain ⟨k, hk, rfl, hr, hb⟩ := hrel
        have HR := hid hr
        have HB := hid hb
        clear hr hb
        by_cases hkl : k < l.length
        · obtain ⟨f, hf⟩ : ∃ f, l.length + 1 - k = f + 1 := ⟨l.length - k, by omega⟩
          have HF := hid hf
          clear hf
          obtain ⟨b, off, hA, hlb, g0, g1, g2⟩ := HS.out.span HB.out hkl hkl
          subst hA
          have hget := List.getElem?_eq_getElem hkl
          generalize l[k] = s at g0 g1 g2 hget
          have HG := hid hget
          clear hget
          by_cases b1 : s.fr < 0
          · have hq := HR.out
            rw [HF.out, spansChk_bad HG.out (by simp [spanBad, b1])] at hq
            subst hq
            go_wp2_with fail
            go_ret2
            exact ⟨rfl, HB.out.alloc HB.out.size _⟩
          by_cases b2 : s.to ≤ s.fr
          · have hq := HR.out
            rw [HF.out, spansChk_bad HG.out (by simp [spanBad, b2])] at hq
            subst hq
            go_wp2_with fail
            go_ret2
            exact ⟨rfl, HB.out.alloc HB.out.size _⟩
          by_cases b3 : ticks < s.to
          · have hq := HR.out
            rw [HF.out, spansChk_bad HG.out (by simp [spanBad, b3])] at hq
            subst hq
            go_wp2_with fail
            go_ret2
            exact ⟨rfl, HB.out.alloc HB.out.size _⟩
          by_cases b4 : s.room < 0
          · have hq := HR.out
            rw [HF.out, spansChk_bad HG.out (by simp [spanBad, roomB_false.2 (.inl b4)])] at hq
            subst hq
            go_wp2_with fail
            go_ret2
            exact ⟨rfl, HB.out.alloc HB.out.size _⟩
          by_cases b5 : 4 < s.room
          · have hq := HR.out
            rw [HF.out, spansChk_bad HG.out (by simp [spanBad, roomB_false.2 (.inr (show 5 ≤ s.room by omega))])] at hq
            subst hq
            go_wp2_with fail
            go_ret2
            exact ⟨by first | rfl | simp, HB.out.alloc HB.out.size _⟩
          · have hgood : spanBad ticks s = false := by simp [spanBad, b1, b2, b3, roomB_true.2 (show 0 ≤ s.room ∧ s.room < 5 by omega)]
            have HGOOD := hid hgood
            obtain ⟨wk, hwk⟩ : ∃ wk, wk = wr := ⟨_, rfl⟩
            subst hwk
            clear hgood
            go_wp2_with fail
            go_loopw [8] (fun v8 wr => ∃ j : Nat, j ≤ k ∧ v8 = .int .i64 j ∧ (∀ i x, i < j → l[i]? = some x → ¬ spanMeets s x = true) ∧ Below (wk.heap.size + 1) (wk.alloc (.cells #[.int .i64 s.fr, .int .i64 s.to, .int .i64 s.room] 115)) wr) (fun v8 _ => k - (intOf v8).toNat)
            case atStart => exact ⟨0, by omega, rfl, fun j s hj => absurd hj (by omega), Below.refl _ _⟩
            case round =>
              obtain ⟨j, hj, rfl, hno, hb2⟩ := hrel
              have HNO := hid hno
              have hb3 : Below w.heap.size w wr := (HB.out.alloc HB.out.size _).trans (hb2.mono (by have := HB.out.size; simp; omega))
              have k0 := (hb2.cell (p := ⟨wk.heap.size, 0, none⟩) (by simp)).trans (blk_cell (heap_alloc_new wk _) 0)
              have k1 := (hb2.cell (p := ⟨wk.heap.size, 1, none⟩) (by simp)).trans (blk_cell (heap_alloc_new wk _) 1)
              simp only [List.getElem?_toArray, List.getElem?_cons_zero, List.getElem?_cons_succ] at k0 k1
              have HB2 := hid hb2
              have HB3 := hid hb3
              clear hno hb2 hb3
              by_cases hjk : j < k
              · have hjl : j < l.length := by omega
                obtain ⟨b', off', hA, _, e0, e1, e2⟩ := HS.out.span HB3.out hjl hjl
                injection hA with hA
                injection hA with hA1 hA2
                subst hA1
                subst hA2
                have hget := List.getElem?_eq_getElem hjl
                generalize l[j] = x at e0 e1 e2 hget
                have HX := hid hget
                clear hget e2
                by_cases q1 : x.fr < s.to
                · by_cases q2 : s.fr < x.to
                  · have hm := take_any_true hjk HX.out (s := s) (by simp [spanMeets, q1, q2])
                    have hq := HR.out
                    rw [HF.out, spansChk_meets HG.out HGOOD.out hm] at hq
                    subst hq
                    clear hm
                    go_wp2_with fail
                    go_quiet (fail)
                    go_wp2_with fail
                    go_ret2
                    exact ⟨rfl, ⟨HB3.out.os, HB3.out.tape, HB3.out.output, HB3.out.size, HB3.out.block⟩⟩
                  · have hd : decide (s.fr < x.to) = false := decide_eq_false q2
                    go_wp2_with fail
                    go_quiet (fail)
                    go_wp2_with fail
                    go_roundw
                    case rel => exact ⟨j + 1, by omega, by go_num, no_snoc HNO.out HX.out (by simp only [spanMeets, decide_eq_true_eq]; omega), ⟨HB2.out.os, HB2.out.tape, HB2.out.output, HB2.out.size, HB2.out.block⟩⟩
                    case measure => simp [intOf]; omega
                · have hd : decide (x.fr < s.to) = false := decide_eq_false q1
                  go_wp2_with fail
                  go_quiet (fail)
                  go_wp2_with fail
                  go_roundw
                  case rel => exact ⟨j + 1, by omega, by go_num, no_snoc HNO.out HX.out (by simp only [spanMeets, decide_eq_true_eq]; omega), ⟨HB2.out.os, HB2.out.tape, HB2.out.output, HB2.out.size, HB2.out.block⟩⟩
                  case measure => simp [intOf]; omega
              · obtain rfl : j = k := by omega
                have hq := HR.out
                rw [HF.out, spansChk_next HG.out HGOOD.out (take_any_false HNO.out)] at hq
                have HQ2 := hid hq
                clear hq
                go_wp2_with fail
                go_roundw
                case rel => exact ⟨j + 1, by omega, by go_num, by rw [HQ2.out]; congr 1; have := HF.out; omega, HB3.out⟩
                case measure => simp [intOf]; omega
        · have hq := HR.out
          rw [spansChk_end (by omega)] at hq
          subst hq
          go_wp2_with fail
          go_ret2
          exact ⟨rfl, HB.out⟩
end Go.Proofs.YtldllmhgofacbaaGreatDoor
