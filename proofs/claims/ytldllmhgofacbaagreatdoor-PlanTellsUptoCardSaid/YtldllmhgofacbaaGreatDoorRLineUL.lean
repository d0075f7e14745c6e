/- The reference of chapter 4: contracts of its Wire and Wires. -/
import Derived.Test.YtldllmhgofacbaaGreatDoorWaysUL
namespace Go.Proofs.YtldllmhgofacbaaGreatDoor
open Go.RowKit
set_option maxRecDepth 100000

def wireBad (a b c d : Int) : Prop := a < 0 ∨ 4 < a ∨ b < 0 ∨ 4 < b ∨ c < 1 ∨ 2 < c ∨ d < 1 ∨ 6 < d ∨ (c = 1 ∧ d ≠ 1)
theorem wireChk_bad {a b c d : Int} (h : wireBad a b c d) : wireChk ⟨a, b, c, d⟩ = 1 := by
  unfold wireChk
  rw [if_pos]
  simp only [roomB_false]
  unfold wireBad at h
  omega
theorem wireChk_else {a b c d : Int} (h : ¬ wireBad a b c d) : wireChk ⟨a, b, c, d⟩ = if a = b then 3 else 0 := by
  unfold wireChk
  rw [if_neg]
  simp only [roomB_false]
  unfold wireBad at h
  omega

def TellV (w : World) (v : Int) (e : Ending) (w' : World) : Prop := e = .returned (.int .i64 v) ∧ Below w.heap.size w w'

set_option maxHeartbeats 1000000 in
theorem rwire_any (a b c d : Int) (w : World) : Calls Tryz.prog 112 #[.agg #[.int .i64 a, .int .i64 b, .int .i64 c, .int .i64 d]] w (TellV w (wireChk ⟨a, b, c, d⟩)) := by
  by_cases hbad : wireBad a b c d
  · rw [wireChk_bad hbad]
    by_cases h1 : a < 0
    · clear hbad
      go_enter Tryz.func112, Tryz.ntmps112
      go_wp2
      go_ret
      exact ⟨rfl, (Below.refl _ _).alloc (Nat.le_refl _) _⟩
    by_cases h2 : 4 < a
    · clear hbad
      go_enter Tryz.func112, Tryz.ntmps112
      go_wp2
      go_ret
      exact ⟨rfl, (Below.refl _ _).alloc (Nat.le_refl _) _⟩
    by_cases h3 : b < 0
    · clear hbad
      go_enter Tryz.func112, Tryz.ntmps112
      go_wp2
      go_ret
      exact ⟨rfl, (Below.refl _ _).alloc (Nat.le_refl _) _⟩
    by_cases h4 : 4 < b
    · clear hbad
      go_enter Tryz.func112, Tryz.ntmps112
      go_wp2
      go_ret
      exact ⟨rfl, (Below.refl _ _).alloc (Nat.le_refl _) _⟩
    by_cases h5 : c < 1
    · clear hbad
      go_enter Tryz.func112, Tryz.ntmps112
      go_wp2
      go_ret
      exact ⟨rfl, (Below.refl _ _).alloc (Nat.le_refl _) _⟩
    by_cases h6 : 2 < c
    · clear hbad
      go_enter Tryz.func112, Tryz.ntmps112
      go_wp2
      go_ret
      exact ⟨rfl, (Below.refl _ _).alloc (Nat.le_refl _) _⟩
    by_cases h7 : d < 1
    · clear hbad
      go_enter Tryz.func112, Tryz.ntmps112
      go_wp2
      go_ret
      exact ⟨rfl, (Below.refl _ _).alloc (Nat.le_refl _) _⟩
    by_cases h8 : 6 < d
    · clear hbad
      go_enter Tryz.func112, Tryz.ntmps112
      go_wp2
      go_ret
      exact ⟨rfl, (Below.refl _ _).alloc (Nat.le_refl _) _⟩
    · have h9 : c = 1 ∧ d ≠ 1 := by unfold wireBad at hbad; omega
      obtain ⟨rfl, h9⟩ := h9
      have h10 : (d == 1) = false := by simpa using h9
      clear hbad
      go_enter Tryz.func112, Tryz.ntmps112
      go_wp2
      go_ret
      exact ⟨rfl, (Below.refl _ _).alloc (Nat.le_refl _) _⟩
  · rw [wireChk_else hbad]
    have hall : ¬ a < 0 ∧ ¬ 4 < a ∧ ¬ b < 0 ∧ ¬ 4 < b ∧ ¬ c < 1 ∧ ¬ 2 < c ∧ ¬ d < 1 ∧ ¬ 6 < d ∧ (c = 1 → d = 1) := by unfold wireBad at hbad; omega
    obtain ⟨h1, h2, h3, h4, h5, h6, h7, h8, h9⟩ := hall
    clear hbad
    by_cases hab : a = b
    · subst hab
      rw [if_pos rfl]
      by_cases hc : c = 1
      · subst hc
        obtain rfl := h9 rfl
        go_enter Tryz.func112, Tryz.ntmps112
        go_wp2
        go_ret
        exact ⟨rfl, (Below.refl _ _).alloc (Nat.le_refl _) _⟩
      · have hc1 : (c == 1) = false := by simpa using hc
        clear h9
        go_enter Tryz.func112, Tryz.ntmps112
        go_wp2
        go_ret
        exact ⟨rfl, (Below.refl _ _).alloc (Nat.le_refl _) _⟩
    · rw [if_neg hab]
      have hab1 : (a == b) = false := by simpa using hab
      by_cases hc : c = 1
      · subst hc
        obtain rfl := h9 rfl
        go_enter Tryz.func112, Tryz.ntmps112
        go_wp2
        go_ret
        exact ⟨rfl, (Below.refl _ _).alloc (Nat.le_refl _) _⟩
      · have hc1 : (c == 1) = false := by simpa using hc
        clear h9
        go_enter Tryz.func112, Tryz.ntmps112
        go_wp2
        go_ret
        exact ⟨rfl, (Below.refl _ _).alloc (Nat.le_refl _) _⟩

def TellII (w : World) (r : Nat × Int) (e : Ending) (w' : World) : Prop := e = .returned (.tuple #[.int .i64 r.1, .int .i64 r.2]) ∧ Below w.heap.size w w'

set_option maxHeartbeats 1000000 in
theorem rwires_any (A : Option Addr) (c : Nat) (l : List Wire) (w : World) (hs : Sl w A 4 l.length (l.flatMap Wire.cells)) (hsw : SlW A c l.length) :
    Calls Tryz.prog 61 #[.slice A l.length c] w (TellII w (flowChk l)) := by
  obtain ⟨hs1, hs2, hs3⟩ := hsw
  unfold maxLen at hs2
  have HS := hid hs
  clear hs hs3
  unfold flowChk
  by_cases h12 : 12 < l.length
  · rw [if_pos h12]
    go_enter Tryz.func61, Tryz.ntmps61
    go_wp2
    go_ret2
    exact ⟨rfl, Below.refl _ _⟩
  · rw [if_neg h12]
    obtain ⟨q, hq⟩ : ∃ q, q = wiresChk l (l.length + 1) 0 := ⟨_, rfl⟩
    rw [← hq]
    have HQ := hid hq
    clear hq
    go_enter Tryz.func61, Tryz.ntmps61
    go_wp2_with fail
    go_loopw [4, 5] (fun v4 v5 wr => ∃ k : Nat, k ≤ l.length ∧ v4 = .int .i64 k ∧ q = wiresChk l (l.length + 1 - k) k ∧ Below w.heap.size w wr) (fun v4 _ _ => l.length - (intOf v4).toNat)
    case atStart => exact ⟨0, by omega, rfl, HQ.out, Below.refl _ _⟩
    case round =>
      obtain ⟨k, hk, rfl, hr, hb⟩ := hrel
      have HR := hid hr
      have HB := hid hb
      clear hr hb
      by_cases hkl : k < l.length
      · obtain ⟨f, hf⟩ : ∃ f, l.length + 1 - k = f + 1 := ⟨l.length - k, by omega⟩
        have HF := hid hf
        clear hf
        obtain ⟨b, off, rfl, hlb, g0, g1, g2, g3⟩ := HS.out.wire HB.out hkl hkl
        have hget := List.getElem?_eq_getElem hkl
        generalize l[k] = x at g0 g1 g2 g3 hget
        have HG := hid hget
        clear hget
        obtain ⟨xa, xb, xc, xd⟩ := x
        simp only [] at g0 g1 g2 g3
        have HC := fun w => rwire_any xa xb xc xd w
        by_cases hc : wireChk ⟨xa, xb, xc, xd⟩ = 0
        · have hq := HR.out
          rw [HF.out, wiresChk_next HG.out hc] at hq
          have HQ2 := hid hq
          rw [hc] at HC
          have HC := hid HC
          clear hc hq
          go_wp2_with (go_at_call 112; refine (HC.out _).mono ?_; rintro e w1 ⟨rfl, hb1⟩; have HB1 := hid hb1; clear hb1)
          go_roundw
          case rel => exact ⟨k + 1, by omega, by go_num, by rw [HQ2.out]; congr 1; have := HF.out; omega, HB.out.trans (HB1.out.mono HB.out.size)⟩
          case measure => simp [intOf]; omega
        · have hq := HR.out
          rw [HF.out, Go.Proofs.YtldllmhgofacbaaGreatDoor.wiresChk_bad HG.out hc] at hq
          subst hq
          have hne : (wireChk ⟨xa, xb, xc, xd⟩ == 0) = false := by simpa using hc
          generalize wireChk ⟨xa, xb, xc, xd⟩ = v at HC hc hne
          have HC := hid HC
          go_wp2_with (go_at_call 112; refine (HC.out _).mono ?_; rintro e w1 ⟨rfl, hb1⟩; have HB1 := hid hb1; clear hb1)
          go_ret2
          exact ⟨rfl, HB.out.trans (HB1.out.mono HB.out.size)⟩
      · obtain rfl : k = l.length := by omega
        have hq := HR.out
        rw [wiresChk_end (Nat.le_refl _)] at hq
        subst hq
        go_wp2_with fail
        go_ret2
        exact ⟨rfl, HB.out⟩
end Go.Proofs.YtldllmhgofacbaaGreatDoor
