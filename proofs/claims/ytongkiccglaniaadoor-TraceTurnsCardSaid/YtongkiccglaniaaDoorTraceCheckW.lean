/- Package trace: the contract of check, for any list of events. -/
import Derived.Test.YtongkiccglaniaaDoorTraceRunW
namespace Go.Proofs.YtongkiccglaniaaDoor
open Go.RowKit
set_option maxRecDepth 100000

def wIn (x lo hi : Int) : Bool := decide (lo ≤ x) && decide (x ≤ hi)
theorem within_any (x lo hi : Int) (w : World) : Calls Tryd.prog 105 #[.int .i64 x, .int .i64 lo, .int .i64 hi] w fun e w' => e = .returned (.bool (wIn x lo hi)) ∧ w' = w := by
  unfold wIn
  by_cases h : lo ≤ x
  · rw [decide_eq_true h, Bool.true_and]
    go_enter Tryd.func105, Tryd.ntmps105
    go_wp2
    go_ret
    exact ⟨rfl, rfl⟩
  · rw [decide_eq_false h, Bool.false_and]
    have d : decide (lo ≤ x) = false := decide_eq_false h
    go_enter Tryd.func105, Tryd.ntmps105
    go_wp2
    go_ret
    exact ⟨rfl, rfl⟩
/-- What is wrong with one event: 0, nothing. -/
def evRight (x : Ev) : Bool := wIn x.tick 0 1000000 && (wIn x.room (-1) 4 && (wIn x.pc 0 19 && wIn x.what 0 5))
def evChk (x : Ev) : Int := if evRight x = false then 1 else if x.room < 0 ∧ (x.pc ≠ 0 ∨ x.what ≠ 0) then 3 else 0
def evsFirst : List Ev → Int
  | [] => 0
  | x :: l => if evChk x ≠ 0 then evChk x else evsFirst l
def evsChk (l : List Ev) : Int := if 2000 < l.length then 4 else evsFirst l
theorem evsFirst_at {l : List Ev} : ∀ {i : Nat} {x : Ev}, (∀ (j : Nat) (y : Ev), j < i → l[j]? = some y → evChk y = 0) → l[i]? = some x → evChk x ≠ 0 → evsFirst l = evChk x := by
  induction l with
  | nil => intro i x _ h; simp at h
  | cons a l ih =>
    intro i x hb hx hn
    cases i with
    | zero => simp at hx; subst hx; unfold evsFirst; rw [if_pos hn]
    | succ i =>
      unfold evsFirst
      rw [if_neg (fun h => h (hb 0 a (by omega) rfl))]
      exact ih (fun j y hj hy => hb (j + 1) y (by omega) hy) hx hn
theorem evsFirst_none {l : List Ev} : (∀ (j : Nat) (y : Ev), l[j]? = some y → evChk y = 0) → evsFirst l = 0 := by
  induction l with
  | nil => intro _; rfl
  | cons a l ih =>
    intro h
    unfold evsFirst
    rw [if_neg (fun e => e (h 0 a rfl))]
    exact ih fun j y hy => h (j + 1) y hy
/-- An event of a list that lies. -/
theorem sl_ev {w : World} {A : Option Addr} {n : Nat} {l : List Ev} (h : Sl w A 4 n (l.flatMap Ev.cells)) {i : Nat} {x : Ev} (hx : l[i]? = some x) (hn : i < n) :
    ∃ b off, A = some ⟨b, off, none⟩ ∧ b < w.heap.size ∧ w.cell? ⟨b, off + i * 4, none⟩ = some (.int .i64 x.tick) ∧ w.cell? ⟨b, off + i * 4 + 1, none⟩ = some (.int .i64 x.room) ∧ w.cell? ⟨b, off + i * 4 + 2, none⟩ = some (.int .i64 x.pc) ∧ w.cell? ⟨b, off + i * 4 + 3, none⟩ = some (.int .i64 x.what) := by
  obtain ⟨b, off, rfl, hlt, hc⟩ := h.2 (by omega)
  have hg := fun j hj => flatMap_get Ev.cells 4 (fun _ => rfl) l i j x hx hj
  refine ⟨b, off, rfl, hlt, ?_, ?_, ?_, ?_⟩
  · have := hc (i * 4 + 0) _ ((hg 0 (by decide)).trans rfl); simpa using this
  · have := hc (i * 4 + 1) _ ((hg 1 (by decide)).trans rfl); rwa [← Nat.add_assoc] at this
  · have := hc (i * 4 + 2) _ ((hg 2 (by decide)).trans rfl); rwa [← Nat.add_assoc] at this
  · have := hc (i * 4 + 3) _ ((hg 3 (by decide)).trans rfl); rwa [← Nat.add_assoc] at this
set_option maxHeartbeats 4000000 in
theorem traceCheck_any (A : Option Addr) (n c : Nat) (l : List Ev) (w : World) (hl : l.length = n) (hs : Sl w A 4 n (l.flatMap Ev.cells)) (hnc : n ≤ c) (_hcm : c ≤ maxLen) :
    Calls Tryd.prog 104 #[.slice A n c] w fun e w' => e = .returned (errV (evsChk l)) ∧ Below w.heap.size w w' := by
  obtain ⟨E, hE⟩ : ∃ E, E = evsChk l := ⟨_, rfl⟩
  rw [← hE]
  have HE := hid hE
  have HS := hid hs
  have HL := hid hl
  clear hE hs hl
  by_cases h2 : 2000 < n
  · have hv : E = 4 := by rw [HE.out]; unfold evsChk; rw [if_pos (by rw [HL.out]; exact h2)]
    rw [hv, errV_pos (by decide)]
    clear hv
    go_enter Tryd.func104, Tryd.ntmps104
    go_wp2_with fail
    go_ret
    exact ⟨rfl, Below.refl _ _⟩
  · have h20 : n ≤ 2000 := by omega
    have HE2 : Hid (E = evsFirst l) := by show _ = _; rw [HE.out]; unfold evsChk; rw [if_neg (by rw [HL.out]; exact h2)]
    clear h2 HE
    go_enter Tryd.func104, Tryd.ntmps104
    go_wp2_with fail
    go_loopw [11] (fun v11 wr => ∃ i : Nat, i ≤ n ∧ v11 = .int .i64 i ∧ Below w.heap.size w wr ∧ ∀ (j : Nat) (y : Ev), j < i → l[j]? = some y → evChk y = 0) (fun v11 _ => n - (intOf v11).toNat)
    case atStart => exact ⟨0, by omega, rfl, Below.refl _ _, fun j y hj => by omega⟩
    case round =>
      obtain ⟨i, hil, rfl, hb, hno⟩ := hrel
      have HB := hid hb
      have HNO := hid hno
      clear hb hno
      by_cases hin : i < n
      · obtain ⟨x, hx⟩ : ∃ x, l[i]? = some x := ⟨_, List.getElem?_eq_getElem (by rw [HL.out]; exact hin)⟩
        obtain ⟨b, off, rfl, hbl, g0, g1, g2, g3⟩ := sl_ev (HS.out.new HB.out) hx hin
        have HX := hid hx
        obtain ⟨xt, xr, xp, xw⟩ := x
        simp only [] at g0 g1 g2 g3
        clear hx
        have hin' : (i : Int) < (n : Int) := by omega
        by_cases hr : evRight ⟨xt, xr, xp, xw⟩ = false
        · have hc : evChk ⟨xt, xr, xp, xw⟩ = 1 := by unfold evChk; rw [if_pos hr]
          have hE1 : E = 1 := by rw [HE2.out, evsFirst_at HNO.out HX.out (by rw [hc]; decide), hc]
          have HE1 := hid hE1
          have hr2 : wIn xt 0 1000000 = false ∨ (wIn xt 0 1000000 = true ∧ wIn xr (-1) 4 = false) ∨ (wIn xt 0 1000000 = true ∧ wIn xr (-1) 4 = true ∧ wIn xp 0 19 = false) ∨ (wIn xt 0 1000000 = true ∧ wIn xr (-1) 4 = true ∧ wIn xp 0 19 = true ∧ wIn xw 0 5 = false) := by
            unfold evRight at hr
            simp only [] at hr
            cases h1 : wIn xt 0 1000000 <;> cases h2 : wIn xr (-1) 4 <;> cases h3 : wIn xp 0 19 <;> cases h4 : wIn xw 0 5 <;> simp_all
          clear hE1 hc hr
          rcases hr2 with q1 | ⟨q1, q2⟩ | ⟨q1, q2, q3⟩ | ⟨q1, q2, q3, q4⟩
          all_goals
            go_wp2_with (go_at_call 105; refine (within_any _ _ _ _).mono ?_; rintro e w9 ⟨rfl, rfl⟩)
            go_ret
            exact ⟨by rw [HE1.out, errV_pos (by decide)]; rfl, HB.out.alloc HB.out.size _⟩
        · have hr2 : wIn xt 0 1000000 = true ∧ wIn xr (-1) 4 = true ∧ wIn xp 0 19 = true ∧ wIn xw 0 5 = true := by
            unfold evRight at hr
            simp only [] at hr
            cases h1 : wIn xt 0 1000000 <;> cases h2 : wIn xr (-1) 4 <;> cases h3 : wIn xp 0 19 <;> cases h4 : wIn xw 0 5 <;> simp_all
          obtain ⟨q1, q2, q3, q4⟩ := hr2
          have hcc : evChk ⟨xt, xr, xp, xw⟩ = if xr < 0 ∧ (xp ≠ 0 ∨ xw ≠ 0) then 3 else 0 := by unfold evChk; rw [if_neg hr]
          clear hr
          by_cases h3 : xr < 0 ∧ (xp ≠ 0 ∨ xw ≠ 0)
          · rw [if_pos h3] at hcc
            have hE1 : E = 3 := by rw [HE2.out, evsFirst_at HNO.out HX.out (by rw [hcc]; decide), hcc]
            have HE1 := hid hE1
            obtain ⟨k1, k2⟩ := h3
            have k3 : ¬ xp = 0 ∨ (xp = 0 ∧ ¬ xw = 0) := by omega
            clear hE1 hcc k2
            rcases k3 with k3 | ⟨k3, k4⟩
            · have b1 : (xp != 0) = true := by simpa using k3
              go_wp2_with (go_at_call 105; refine (within_any _ _ _ _).mono ?_; rintro e w9 ⟨rfl, rfl⟩)
              go_ret
              exact ⟨by rw [HE1.out, errV_pos (by decide)]; rfl, HB.out.alloc HB.out.size _⟩
            · subst k3
              have b1 : (xw != 0) = true := by simpa using k4
              go_wp2_with (go_at_call 105; refine (within_any _ _ _ _).mono ?_; rintro e w9 ⟨rfl, rfl⟩)
              go_ret
              exact ⟨by rw [HE1.out, errV_pos (by decide)]; rfl, HB.out.alloc HB.out.size _⟩
          · rw [if_neg h3] at hcc
            have HCC := hid hcc
            have HN : Hid (∀ (j : Nat) (y : Ev), j < i + 1 → l[j]? = some y → evChk y = 0) := fun j y hj hy => by
              by_cases e : j = i
              · subst e; rw [HX.out] at hy; cases hy; exact HCC.out
              · exact HNO.out j y (by omega) hy
            clear hcc
            have k3 : 0 ≤ xr ∨ (xr < 0 ∧ xp = 0 ∧ xw = 0) := by omega
            clear h3
            rcases k3 with k3 | ⟨k3, k4, k5⟩
            · have b0 : decide (xr < 0) = false := decide_eq_false (by omega)
              go_wp2_with (go_at_call 105; refine (within_any _ _ _ _).mono ?_; rintro e w9 ⟨rfl, rfl⟩)
              go_roundw
              case rel => exact ⟨i + 1, by omega, by go_num, HB.out.alloc HB.out.size _, HN.out⟩
              case measure => simp [intOf]; omega
            · subst k4 k5
              go_wp2_with (go_at_call 105; refine (within_any _ _ _ _).mono ?_; rintro e w9 ⟨rfl, rfl⟩)
              go_roundw
              case rel => exact ⟨i + 1, by omega, by go_num, HB.out.alloc HB.out.size _, HN.out⟩
              case measure => simp [intOf]; omega
      · obtain rfl : i = n := by omega
        have hz : E = 0 := by rw [HE2.out]; exact evsFirst_none fun j y hy => HNO.out j y (by have := (List.getElem?_eq_some_iff.1 hy).1; rw [HL.out] at this; exact this) hy
        have HZ := hid hz
        clear hz
        go_wp2_with fail
        go_ret
        exact ⟨by rw [HZ.out, errV_zero]; rfl, HB.out⟩
end Go.Proofs.YtongkiccglaniaaDoor
