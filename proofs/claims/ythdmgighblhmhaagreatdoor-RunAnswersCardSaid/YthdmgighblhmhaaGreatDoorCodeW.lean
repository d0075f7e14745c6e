/- Package code: contracts of below, bound, right, Check, Right, for every code. Conditions: the table code.forms, which the row lists. -/
import Derived.Test.YthdmgighblhmhaaGreatDoorWire
import Derived.Test.YthdmgighblhmhaaGreatDoorOpen
import Derived.Test.YthdmgighblhmhaaGreatDoorRLawU
namespace Go.Proofs.YthdmgighblhmhaaGreatDoor
open Go.RowKit
set_option maxRecDepth 100000

/-- What the table of forms says: is A in the line? is B? -/
def formA (i : Nat) : Bool := decide (i ≠ 0 ∧ i ≠ 7 ∧ i ≠ 10 ∧ i ≠ 11)
def formB (i : Nat) : Bool := decide (i ≠ 0 ∧ i ≠ 10 ∧ i ≠ 11)
structure Forms (w : World) : Prop where
  lt : 3 < w.heap.size
  a : ∀ i, i < 12 → w.cell? ⟨3, i * 3 + 1, none⟩ = some (.bool (formA i))
  b : ∀ i, i < 12 → w.cell? ⟨3, i * 3 + 2, none⟩ = some (.bool (formB i))
theorem Forms.new {w w' : World} (h : Forms w) (hb : Below w.heap.size w w') : Forms w' :=
  ⟨Nat.lt_of_lt_of_le h.lt hb.size, fun i hi => (hb.cell (p := ⟨3, i * 3 + 1, none⟩) h.lt).trans (h.a i hi), fun i hi => (hb.cell (p := ⟨3, i * 3 + 2, none⟩) h.lt).trans (h.b i hi)⟩

def belowB (n b : Int) : Bool := decide (0 ≤ n ∧ n < b)
theorem belowB_true {n b : Int} : belowB n b = true ↔ 0 ≤ n ∧ n < b := by simp [belowB]
theorem belowB_false {n b : Int} : belowB n b = false ↔ n < 0 ∨ b ≤ n := by simp [belowB]; omega

theorem below_any (n b : Int) (w : World) : Calls Tryz.prog 100 #[.int .i64 n, .int .i64 b] w fun e w' => e = .returned (.bool (belowB n b)) ∧ w' = w := by
  by_cases h : n < 0
  · rw [belowB_false.2 (.inl h)]
    go_enter Tryz.func100, Tryz.ntmps100
    go_wp2
    go_ret
    exact ⟨rfl, rfl⟩
  · by_cases h2 : n < b
    · rw [belowB_true.2 ⟨by omega, h2⟩]
      have h0 : 0 ≤ n := by omega
      clear h
      go_enter Tryz.func100, Tryz.ntmps100
      go_wp2
      go_ret
      exact ⟨rfl, rfl⟩
    · rw [belowB_false.2 (.inr (by omega))]
      have h0 : 0 ≤ n := by omega
      clear h
      go_enter Tryz.func100, Tryz.ntmps100
      go_wp2
      go_ret
      exact ⟨rfl, rfl⟩

theorem bound_any (what many : Int) (w : World) : Calls Tryz.prog 101 #[.int .i64 what, .int .i64 many] w fun e w' => e = .returned (.int .i64 (bBound what many)) ∧ w' = w := by
  rcases (show what = 1 ∨ what = 2 ∨ what = 3 ∨ what = 4 ∨ what = 5 ∨ what = 6 ∨ what = 7 ∨ what = 8 ∨ what = 9 ∨ (what ≠ 1 ∧ what ≠ 2 ∧ what ≠ 3 ∧ what ≠ 4 ∧ what ≠ 5 ∧ what ≠ 6 ∧ what ≠ 7 ∧ what ≠ 8 ∧ what ≠ 9) by omega) with rfl | rfl | rfl | rfl | rfl | rfl | rfl | rfl | rfl | ⟨h1, h2, h3, h4, h5, h6, h7, h8, h9⟩
  case inr.inr.inr.inr.inr.inr.inr.inr.inr =>
    have hb : bBound what many = 1 := by unfold bBound; rw [if_neg h1, if_neg (by omega), if_neg (by omega), if_neg (by omega)]
    rw [hb]
    have e1 : (what == 1) = false := by simpa using h1
    have e2 : (what == 2) = false := by simpa using h2
    have e3 : (what == 3) = false := by simpa using h3
    have e4 : (what == 4) = false := by simpa using h4
    have e5 : (what == 5) = false := by simpa using h5
    have e6 : (what == 6) = false := by simpa using h6
    have e7 : (what == 7) = false := by simpa using h7
    have e8 : (what == 8) = false := by simpa using h8
    have e9 : (what == 9) = false := by simpa using h9
    clear hb h1 h2 h3 h4 h5 h6 h7 h8 h9
    go_enter Tryz.func101, Tryz.ntmps101
    go_wp2
    go_ret
    exact ⟨rfl, rfl⟩
  all_goals
    go_enter Tryz.func101, Tryz.ntmps101
    go_wp2
    go_ret
    exact ⟨rfl, rfl⟩

def TellOk (w : World) (v : Bool) (e : Ending) (w' : World) : Prop := e = .returned (.bool v) ∧ Below w.heap.size w w'
theorem below_drewN {B : Nat} {a w : World} (h : Below B a w) (n : Nat) : Below B a (w.drewN n) := ⟨h.os, h.tape, h.output, h.size, h.block⟩

theorem aBound_forms {what : Int} (h1 : ¬ what < 1) (h2 : ¬ 11 < what) : ∃ k : Nat, what = k ∧ k < 12 ∧ aBound what = if formA k = true then 6 else 1 := by
  refine ⟨what.toNat, by omega, by omega, ?_⟩
  unfold aBound formA
  by_cases h : what = 7 ∨ what = 10 ∨ what = 11
  · rw [if_pos h, if_neg]
    simp only [decide_eq_true_eq]; omega
  · rw [if_neg h, if_pos]
    simp only [decide_eq_true_eq]; omega

set_option maxHeartbeats 1000000 in
theorem right_any (o : Op) (many : Int) (w : World) (hf : Forms w) : Calls Tryz.prog 90 #[.agg #[.int .i64 o.what, .int .i64 o.a, .int .i64 o.b], .int .i64 many] w (TellOk w (opOk o many)) := by
  obtain ⟨what, a, b⟩ := o
  simp only []
  obtain ⟨B, hB⟩ : ∃ B, bBound what many = B := ⟨_, rfl⟩
  have HBD : Hid (∀ w, Calls Tryz.prog 101 #[.int .i64 what, .int .i64 many] w fun e w' => e = .returned (.int .i64 B) ∧ w' = w) := fun w => by rw [← hB]; exact bound_any what many w
  by_cases h1 : what < 1
  · rw [show opOk ⟨what, a, b⟩ many = false from decide_eq_false (by simp only []; omega)]
    clear HBD hB hf
    go_enter Tryz.func90, Tryz.ntmps90
    go_wp2_with fail
    go_quiet (fail)
    go_wp2_with fail
    go_ret
    exact ⟨rfl, below_drewN ((Below.refl _ _).alloc (Nat.le_refl _) _) _⟩
  by_cases h2 : 11 < what
  · rw [show opOk ⟨what, a, b⟩ many = false from decide_eq_false (by simp only []; omega)]
    have d1 : decide (what < 1) = false := decide_eq_false h1
    have d2 : decide (11 < what) = true := decide_eq_true h2
    clear HBD hB hf h1
    go_enter Tryz.func90, Tryz.ntmps90
    go_wp2_with fail
    go_quiet (fail)
    go_wp2_with fail
    go_ret
    exact ⟨rfl, below_drewN ((Below.refl _ _).alloc (Nat.le_refl _) _) _⟩
  have d1 : decide (what < 1) = false := decide_eq_false h1
  have d2 : decide (11 < what) = false := decide_eq_false h2
  obtain ⟨k, hwk, hk, hab⟩ := aBound_forms h1 h2
  have HWK := hid hwk
  have hw1 : 1 ≤ what := by omega
  have hw2 : what ≤ 11 := by omega
  clear h1 h2 hwk
  cases hbb : belowB b B with
  | false =>
    rw [show opOk ⟨what, a, b⟩ many = false from decide_eq_false (by have := belowB_false.1 hbb; simp only [hB]; omega)]
    have HBB : Hid (∀ w, Calls Tryz.prog 100 #[.int .i64 b, .int .i64 B] w fun e w' => e = .returned (.bool false) ∧ w' = w) := fun w => by rw [← hbb]; exact below_any b B w
    clear hbb hB hf hab
    go_enter Tryz.func90, Tryz.ntmps90
    go_wp2_with fail
    go_quiet ((first | (go_at_call 101; exact Calls.quiet_of_same (HBD.out _)) | (go_at_call 100; exact Calls.quiet_of_same (HBB.out _))))
    go_wp2_with fail
    go_ret
    exact ⟨rfl, below_drewN ((Below.refl _ _).alloc (Nat.le_refl _) _) _⟩
  | true =>
    have HBB : Hid (∀ w, Calls Tryz.prog 100 #[.int .i64 b, .int .i64 B] w fun e w' => e = .returned (.bool true) ∧ w' = w) := fun w => by rw [← hbb]; exact below_any b B w
    have hbs := belowB_true.1 hbb
    have hcell := hf.a k hk
    have hlt := hf.lt
    have hne : 3 ≠ w.heap.size := by omega
    cases hfa : formA k with
    | true =>
      rw [hfa, if_pos rfl] at hab
      rw [hfa] at hcell
      rw [show opOk ⟨what, a, b⟩ many = belowB a 6 by unfold opOk belowB; simp only [hB, hab]; exact decide_eq_decide.2 (by omega)]
      have hcell2 : (∀ o n, ((w.alloc o).drewN n).cell? ⟨3, k * 3 + 1, none⟩ = some (.bool true)) := fun o n => (World.cell?_alloc_lt w o ⟨3, k * 3 + 1, none⟩ hlt).trans hcell
      have hk1 : (k : Int) < 12 := by omega
      clear hbb hB hf hab hfa hcell hbs
      go_enter Tryz.func90, Tryz.ntmps90
      go_wp2_with fail
      go_quiet ((first | (go_at_call 101; exact Calls.quiet_of_same (HBD.out _)) | (go_at_call 100; exact Calls.quiet_of_same (HBB.out _))))
      obtain rfl := HWK.out
      go_wp2_with (go_at_call 100; refine (below_any a 6 _).mono ?_; rintro e w' ⟨rfl, rfl⟩)
      go_ret
      exact ⟨rfl, below_drewN ((Below.refl _ _).alloc (Nat.le_refl _) _) _⟩
    | false =>
      rw [hfa, if_neg (by decide)] at hab
      rw [hfa] at hcell
      rw [show opOk ⟨what, a, b⟩ many = (a == 0) by unfold opOk; simp only [hB, hab]; rw [Bool.eq_iff_iff]; simp; omega]
      have hcell2 : (∀ o n, ((w.alloc o).drewN n).cell? ⟨3, k * 3 + 1, none⟩ = some (.bool false)) := fun o n => (World.cell?_alloc_lt w o ⟨3, k * 3 + 1, none⟩ hlt).trans hcell
      have hk1 : (k : Int) < 12 := by omega
      clear hbb hB hf hab hfa hcell hbs
      go_enter Tryz.func90, Tryz.ntmps90
      go_wp2_with fail
      go_quiet ((first | (go_at_call 101; exact Calls.quiet_of_same (HBD.out _)) | (go_at_call 100; exact Calls.quiet_of_same (HBB.out _))))
      obtain rfl := HWK.out
      go_wp2_with fail
      go_ret
      exact ⟨rfl, below_drewN ((Below.refl _ _).alloc (Nat.le_refl _) _) _⟩

theorem Sl.op {w : World} {A : Option Addr} {n : Nat} {l : List Op} (h : Sl w A 3 n (l.flatMap Op.cells)) {wr : World} (hb : Below w.heap.size w wr) {i : Nat} (hi : i < l.length) (hn : i < n) :
    ∃ b off, A = some ⟨b, off, none⟩ ∧ b < w.heap.size ∧ wr.cell? ⟨b, off + i * 3, none⟩ = some (.int .i64 l[i].what) ∧ wr.cell? ⟨b, off + i * 3 + 1, none⟩ = some (.int .i64 l[i].a) ∧ wr.cell? ⟨b, off + i * 3 + 2, none⟩ = some (.int .i64 l[i].b) := by
  obtain ⟨b, off, rfl, hlt, hx⟩ := h.2 (by omega)
  have hg := fun j (hj : j < 3) => flatMap_get Op.cells 3 Op.len l i j l[i] (List.getElem?_eq_getElem hi) hj
  have hk := fun o => hb.cell (p := ⟨b, o, none⟩) hlt
  refine ⟨b, off, rfl, hlt, ?_, ?_, ?_⟩
  · rw [hk]; exact hx _ _ ((hg 0 (by omega)).trans rfl)
  · rw [hk, Nat.add_assoc]; exact hx _ _ ((hg 1 (by omega)).trans rfl)
  · rw [hk, Nat.add_assoc]; exact hx _ _ ((hg 2 (by omega)).trans rfl)

def CodeFound (w : World) (r : Nat × Int) (e : Ending) (w' : World) : Prop := e = .returned (.tuple #[.int .i64 r.1, errV r.2]) ∧ Below w.heap.size w w'

set_option maxHeartbeats 1000000 in
theorem code_check (A : Option Addr) (c : Nat) (l : List Op) (w : World) (hf : Forms w) (hs : Sl w A 3 l.length (l.flatMap Op.cells)) (hsw : SlW A c l.length) :
    Calls Tryz.prog 75 #[.slice A l.length c] w (CodeFound w (codeChk l)) := by
  obtain ⟨hs1, hs2, hs3⟩ := hsw
  unfold maxLen at hs2
  have HS := hid hs
  have HF0 := hid hf
  clear hs hs3 hf
  unfold codeChk
  by_cases h0 : l.length = 0
  · rw [if_pos h0]
    rw [h0]
    clear h0 HS HF0 hs1
    go_enter Tryz.func75, Tryz.ntmps75
    go_wp2
    go_ret2
    exact ⟨rfl, Below.refl _ _⟩
  rw [if_neg h0]
  have h0' : (((l.length : Nat) : Int) == 0) = false := by simpa using h0
  have h01 : 0 < l.length := by omega
  by_cases h20 : 20 < l.length
  · rw [if_pos h20]
    clear HS HF0 hs1 h0
    go_enter Tryz.func75, Tryz.ntmps75
    go_wp2
    go_ret2
    exact ⟨rfl, Below.refl _ _⟩
  · rw [if_neg h20]
    obtain ⟨q, hq⟩ : ∃ q, q = opsChk l.length l (l.length + 1) 0 := ⟨_, rfl⟩
    rw [← hq]
    have HQ := hid hq
    obtain ⟨n, hn⟩ : ∃ n, n = l.length := ⟨_, rfl⟩
    rw [← hn] at h0 h0' h01 h20 hs1 HS HQ ⊢
    have HN := hid hn
    clear hq hn h0
    go_enter Tryz.func75, Tryz.ntmps75
    go_wp2_with fail
    go_loopw [4, 5, 18] (fun v4 v5 v18 wr => ∃ k : Nat, k ≤ n ∧ v18 = .int .i64 k ∧ q = opsChk n l (n + 1 - k) k ∧ Below w.heap.size w wr) (fun _ _ v18 _ => n - (intOf v18).toNat)
    case atStart => exact ⟨0, by omega, rfl, HQ.out, Below.refl _ _⟩
    case round =>
      obtain ⟨k, hk, rfl, hr, hb⟩ := hrel
      have HR := hid hr
      have HB := hid hb
      clear hr hb
      by_cases hkl : k < n
      · obtain ⟨f, hf⟩ : ∃ f, n + 1 - k = f + 1 := ⟨n - k, by omega⟩
        have HF := hid hf
        clear hf
        have hkl2 : k < l.length := by rw [← HN.out]; exact hkl
        obtain ⟨b, off, rfl, hlb, g0, g1, g2⟩ := HS.out.op HB.out hkl2 hkl
        have hget := List.getElem?_eq_getElem hkl2
        generalize l[k] = x at g0 g1 g2 hget
        have HG := hid hget
        clear hget
        cases hc : opOk x n with
        | true =>
          have hq := HR.out
          rw [HF.out, opsChk_next HG.out hc] at hq
          have HQ2 := hid hq
          have HC := hid hc
          clear hc hq
          go_wp2_with (go_at_call 90; refine (right_any x n _ (HF0.out.new (HB.out.alloc HB.out.size _))).mono ?_; rw [HC.out]; rintro e w1 ⟨rfl, hb1⟩; have HB1 := hid hb1; clear hb1)
          go_roundw
          case rel => exact ⟨k + 1, by omega, by go_num, by rw [HQ2.out]; congr 1; have := HF.out; omega, (HB.out.alloc HB.out.size _).trans (HB1.out.mono (by have := HB.out.size; simp; omega))⟩
          case measure => simp [intOf]; omega
        | false =>
          have hq := HR.out
          rw [HF.out, opsChk_bad HG.out hc] at hq
          subst hq
          have HC := hid hc
          clear hc
          go_wp2_with (go_at_call 90; refine (right_any x n _ (HF0.out.new (HB.out.alloc HB.out.size _))).mono ?_; rw [HC.out]; rintro e w1 ⟨rfl, hb1⟩; have HB1 := hid hb1; clear hb1)
          go_ret2
          exact ⟨rfl, (HB.out.alloc HB.out.size _).trans (HB1.out.mono (by have := HB.out.size; simp; omega))⟩
      · obtain rfl : k = n := by omega
        have hq := HR.out
        rw [opsChk_end (by rw [← HN.out]; exact Nat.le_refl _)] at hq
        subst hq
        go_wp2_with fail
        go_ret2
        exact ⟨rfl, HB.out⟩
theorem code_right (A : Option Addr) (c : Nat) (l : List Op) (w : World) (hf : Forms w) (hs : Sl w A 3 l.length (l.flatMap Op.cells)) (hsw : SlW A c l.length) :
    Calls Tryz.prog 44 #[.slice A l.length c] w fun e w' => e = .returned (errV (codeChk l).2) ∧ Below w.heap.size w w' := by
  have HS := hid hs
  have HW := hid hsw
  have HF := hid hf
  clear hs hsw hf
  go_enter Tryz.func44, Tryz.ntmps44
  go_wp2_with (go_at_call 75; refine (code_check A c l _ HF.out HS.out HW.out).mono ?_; rintro e w1 ⟨rfl, hb1⟩)
  go_ret
  exact ⟨rfl, hb1⟩
end Go.Proofs.YthdmgighblhmhaaGreatDoor
