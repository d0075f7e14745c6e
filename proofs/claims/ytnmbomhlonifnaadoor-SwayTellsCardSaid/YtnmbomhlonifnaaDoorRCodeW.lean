/- The reference of code and states: contracts of frameref1.Code and State. -/
import Derived.Test.YtnmbomhlonifnaaDoorDoU
import Derived.Deep.DeepCutAuto
import Derived.Deep.CutBlock
namespace Go.Proofs.YtnmbomhlonifnaaDoor
open Go.RowKit
set_option maxRecDepth 100000

def TellNI (w : World) (r : Nat × Int) (e : Ending) (w' : World) : Prop := e = .returned (.tuple #[.int .i64 r.1, .int .i64 r.2]) ∧ Below w.heap.size w w'
theorem opOk_cases {what a b many : Int} : (what < 1 ∨ 11 < what) ∧ opOk ⟨what, a, b⟩ many = false ∨ (1 ≤ what ∧ what ≤ 11) ∧
    (opOk ⟨what, a, b⟩ many = false ∧ (a < 0 ∨ 0 ≤ a ∧ aBound what ≤ a ∨ (0 ≤ a ∧ a < aBound what) ∧ b < 0 ∨ (0 ≤ a ∧ a < aBound what) ∧ 0 ≤ b ∧ bBound what many ≤ b) ∨
     opOk ⟨what, a, b⟩ many = true ∧ 0 ≤ a ∧ a < aBound what ∧ 0 ≤ b ∧ b < bBound what many) := by
  by_cases h : what < 1 ∨ 11 < what
  · left; exact ⟨h, decide_eq_false (by simp only []; omega)⟩
  · right; refine ⟨by omega, ?_⟩
    by_cases h2 : 0 ≤ a ∧ a < aBound what ∧ 0 ≤ b ∧ b < bBound what many
    · right; exact ⟨decide_eq_true (by simp only []; omega), h2⟩
    · left; exact ⟨decide_eq_false (by simp only []; omega), by omega⟩

set_option maxHeartbeats 4000000 in
theorem rcode_any (A : Option Addr) (c : Nat) (l : List Op) (w : World) (hs : Sl w A 3 l.length (l.flatMap Op.cells)) (hsw : SlW A c l.length) :
    Calls Tryd.prog 58 #[.slice A l.length c] w (TellNI w (codeChk l)) := by
  obtain ⟨hs1, hs2, hs3⟩ := hsw
  unfold maxLen at hs2
  have HS := hid hs
  clear hs hs3
  unfold codeChk
  by_cases h0 : l.length = 0
  · rw [if_pos h0]
    rw [h0]
    clear h0 HS hs1
    go_enter Tryd.func58, Tryd.ntmps58
    go_wp2
    go_ret2
    exact ⟨rfl, Below.refl _ _⟩
  rw [if_neg h0]
  have h0' : (((l.length : Nat) : Int) == 0) = false := by simpa using h0
  have h01 : 0 < l.length := by omega
  by_cases h20 : 20 < l.length
  · rw [if_pos h20]
    clear HS hs1 h0
    go_enter Tryd.func58, Tryd.ntmps58
    go_wp2
    go_ret2
    exact ⟨rfl, Below.refl _ _⟩
  · rw [if_neg h20]
    obtain ⟨q, hq⟩ : ∃ q, q = opsChk l.length l (l.length + 1) 0 := ⟨_, rfl⟩
    rw [← hq]
    have HQ := hid hq
    obtain ⟨n, hn⟩ : ∃ n, n = l.length := ⟨_, rfl⟩
    rw [← hn] at h0 h0' h01 h20 hs1 HS HQ ⊢
    have HN := hid hn
    clear hq hn h0
    go_enter Tryd.func58, Tryd.ntmps58
    go_wp2_with fail
    go_loopw [4] (fun v4 wr => ∃ k : Nat, k ≤ n ∧ v4 = .int .i64 k ∧ q = opsChk n l (n + 1 - k) k ∧ Below w.heap.size w wr) (fun v4 _ => n - (intOf v4).toNat)
    case atStart => exact ⟨0, by omega, rfl, HQ.out, Below.refl _ _⟩
    case round =>
      obtain ⟨k, hk, rfl, hr, hb⟩ := hrel
      have HR := hid hr
      have HB := hid hb
      clear hr hb
      by_cases hkl : k < n
      · obtain ⟨f, hf⟩ : ∃ f, n + 1 - k = f + 1 := ⟨n - k, by omega⟩
        have HF := hid hf
        clear hf
        have hkl2 : k < l.length := by rw [← HN.out]; exact hkl
        obtain ⟨b, off, rfl, hlb, g0, g1, g2⟩ := HS.out.op HB.out hkl2 hkl
        have hget := List.getElem?_eq_getElem hkl2
        generalize l[k] = x at g0 g1 g2 hget
        obtain ⟨what, a, bb⟩ := x
        simp only [] at g0 g1 g2
        have HG := hid hget
        clear hget
        rcases opOk_cases (what := what) (a := a) (b := bb) (many := n) with ⟨hw, hok⟩ | ⟨⟨hw1, hw2⟩, hrest⟩
        · have hq := HR.out
          rw [HF.out, opsChk_bad HG.out hok] at hq
          subst hq
          have e1 : (what == 1) = false := by simp; omega
          have e2 : (what == 2) = false := by simp; omega
          have e3 : (what == 3) = false := by simp; omega
          have e4 : (what == 4) = false := by simp; omega
          have e5 : (what == 5) = false := by simp; omega
          have e6 : (what == 6) = false := by simp; omega
          have e7 : (what == 7) = false := by simp; omega
          have e8 : (what == 8) = false := by simp; omega
          have e9 : (what == 9) = false := by simp; omega
          have e10 : (what == 10) = false := by simp; omega
          have e11 : (what == 11) = false := by simp; omega
          clear hw hok
          go_wp2_with fail
          go_ret2
          exact ⟨rfl, HB.out.alloc HB.out.size _⟩
        · go_upto_block 2 with fail
          obtain ⟨AB, hAB⟩ : ∃ AB, aBound what = AB := ⟨_, rfl⟩
          obtain ⟨BB, hBB⟩ : ∃ BB, bBound what n = BB := ⟨_, rfl⟩
          rw [hAB, hBB] at hrest
          have HAB := hid hAB
          have HBB := hid hBB
          have HREST := hid hrest
          obtain ⟨wa, hwa⟩ : ∃ wa, wa = wr.alloc (.cells #[.int .i64 what, .int .i64 a, .int .i64 bb] 23) := ⟨_, rfl⟩
          have haa : wa.heap[wr.heap.size]? = some (.cells #[.int .i64 what, .int .i64 a, .int .i64 bb] 23 (0, 0)) := by rw [hwa]; exact heap_alloc_new wr _
          have hab : Below w.heap.size w wa := by rw [hwa]; exact HB.out.alloc HB.out.size _
          rw [← hwa]
          have k0 : wa.cell? ⟨wr.heap.size, 0, none⟩ = some (.int .i64 what) := blk_cell haa 0
          have k1 : wa.cell? ⟨wr.heap.size, 1, none⟩ = some (.int .i64 a) := blk_cell haa 1
          have k2 : wa.cell? ⟨wr.heap.size, 2, none⟩ = some (.int .i64 bb) := blk_cell haa 2
          have HAAB := hid hab
          clear hwa haa hab g0 g1 g2 hAB hBB hrest
          go_cut [6, 7] from 14 to 68 (fun v6 v7 wx => v6 = .int .i64 AB ∧ v7 = .int .i64 BB ∧ wx = wa)
          case first =>
            as_aux_lemma =>
            rcases (show what = 1 ∨ what = 2 ∨ what = 3 ∨ what = 4 ∨ what = 5 ∨ what = 6 ∨ what = 7 ∨ what = 8 ∨ what = 9 ∨ what = 10 ∨ what = 11 by omega) with rfl | rfl | rfl | rfl | rfl | rfl | rfl | rfl | rfl | rfl | rfl
            all_goals
              have x1 := HAB.out
              have x2 := HBB.out
              simp [aBound] at x1
              simp [bBound] at x2
              subst x1 x2
              go_wp2_with fail
              go_meet
              exact ⟨rfl, rfl, rfl⟩
          case rest =>
            as_aux_lemma =>
            obtain ⟨rfl, rfl, rfl⟩ := hcut
            rcases HREST.out with ⟨hok, hbad⟩ | ⟨hok, h1, h2, h3, h4⟩
            · have hq := HR.out
              rw [HF.out, opsChk_bad HG.out hok] at hq
              subst hq
              clear hok
              rcases hbad with h1 | ⟨h1, h2⟩ | ⟨⟨h1, h2⟩, h3⟩ | ⟨⟨h1, h2⟩, h3, h4⟩
              all_goals
                go_wp2_with fail
                go_ret2
                exact ⟨rfl, HAAB.out⟩
            · have hq := HR.out
              rw [HF.out, opsChk_next HG.out hok] at hq
              have HQ2 := hid hq
              clear hok hq
              go_wp2_with fail
              go_roundw
              case rel => exact ⟨k + 1, by omega, by go_num, by rw [HQ2.out]; congr 1; have := HF.out; omega, HAAB.out⟩
              case measure => simp [intOf]; omega
      · obtain rfl : k = n := by omega
        have hq := HR.out
        rw [opsChk_end (by rw [← HN.out]; exact Nat.le_refl _)] at hq
        subst hq
        go_wp2_with fail
        go_ret2
        exact ⟨rfl, HB.out⟩

end Go.Proofs.YtnmbomhlonifnaaDoor
