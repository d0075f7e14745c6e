/- Package trace: the closure of Of, and slices.IndexFunc with it. -/
import Derived.Test.YtongkiccglaniaaDoorTraceCheckW
namespace Go.Proofs.YtongkiccglaniaaDoor
open Go.RowKit
set_option maxRecDepth 100000

def otherRoom (R : Int) (x : Ev) : Bool := !decide (x.room = R)
theorem of1_any (x : Ev) (R : Int) (rb : Nat) (w : World) (h : w.cell? ⟨rb, 0, none⟩ = some (.int .i64 R)) :
    Calls Tryd.prog 108 #[.agg #[.int .i64 x.tick, .int .i64 x.room, .int .i64 x.pc, .int .i64 x.what], .pointer (some ⟨rb, 0, none⟩)] w fun e w' => e = .returned (.bool (otherRoom R x)) ∧ Below w.heap.size w w' := by
  obtain ⟨xt, xr, xp, xw⟩ := x
  have hlt := cell_lt h
  unfold otherRoom
  simp only []
  by_cases he : xr = R
  · subst he
    rw [decide_eq_true rfl, Bool.not_true]
    go_enter Tryd.func108, Tryd.ntmps108
    go_wp2_with fail
    go_ret
    exact ⟨by first | rfl | simp, (Below.refl _ _).alloc (Nat.le_refl _) _⟩
  · rw [decide_eq_false he, Bool.not_false]
    have e1 : (xr != R) = true := by simpa using he
    go_enter Tryd.func108, Tryd.ntmps108
    go_wp2_with fail
    go_ret
    exact ⟨rfl, (Below.refl _ _).alloc (Nat.le_refl _) _⟩
/-- The first event of another room: -1, none. -/
def IndexEv (w : World) (l : List Ev) (R : Int) (e : Ending) (w' : World) : Prop :=
  ∃ r : Int, e = .returned (.int .i64 r) ∧ Below w.heap.size w w' ∧ ((r = -1 ∧ ∀ x ∈ l, otherRoom R x = false) ∨ ∃ i : Nat, r = i ∧ i < l.length ∧ (∀ (j : Nat) (x : Ev), j < i → l[j]? = some x → otherRoom R x = false) ∧ ∀ x, l[i]? = some x → otherRoom R x = true)
set_option maxHeartbeats 2000000 in
theorem index_ev (A : Option Addr) (n c : Nat) (l : List Ev) (R : Int) (rb : Nat) (w : World) (hl : l.length = n) (hs : Sl w A 4 n (l.flatMap Ev.cells)) (hnc : n ≤ c) (hn : n ≤ 100000) (h : w.cell? ⟨rb, 0, none⟩ = some (.int .i64 R)) :
    Calls Tryd.prog 133 #[.slice A n c, .func (.func 108) #[] #[.pointer (some ⟨rb, 0, none⟩)]] w (IndexEv w l R) := by
  obtain ⟨Q, hQ⟩ : ∃ Q, Q = IndexEv w l R := ⟨_, rfl⟩
  rw [← hQ]
  have HQ := hid hQ
  have HS := hid hs
  have HL := hid hl
  have HR : Hid (∀ w', Below w.heap.size w w' → w'.cell? ⟨rb, 0, none⟩ = some (.int .i64 R)) := fun w' hb => (hb.cell (p := ⟨rb, 0, none⟩) (cell_lt h)).trans h
  clear hQ hs hl h
  go_enter Tryd.func133, Tryd.ntmps133
  go_wp2_with fail
  go_loopw [8] (fun v8 wr => ∃ k : Nat, k ≤ n ∧ v8 = .int .i64 k ∧ Below w.heap.size w wr ∧ ∀ (j : Nat) (x : Ev), j < k → l[j]? = some x → otherRoom R x = false) (fun v8 _ => n - (intOf v8).toNat)
  case atStart => exact ⟨0, by omega, rfl, Below.refl _ _, fun j s hj => absurd hj (by omega)⟩
  case round =>
    obtain ⟨wo, rfl⟩ : ∃ wo : World, wo = wr := ⟨_, rfl⟩
    obtain ⟨k, hk, rfl, hb, hno⟩ := hrel
    have HNO := hid hno
    have HB := hid hb
    clear hno hb
    by_cases hkl : k < n
    · obtain ⟨x, hx⟩ : ∃ x, l[k]? = some x := ⟨_, List.getElem?_eq_getElem (by rw [HL.out]; exact hkl)⟩
      obtain ⟨b, off, rfl, hbl, g0, g1, g2, g3⟩ := sl_ev (HS.out.new HB.out) hx hkl
      have HX := hid hx
      have hcl : ∀ w', Below wo.heap.size wo w' → Calls Tryd.prog 108 #[.agg #[.int .i64 x.tick, .int .i64 x.room, .int .i64 x.pc, .int .i64 x.what], .pointer (some ⟨rb, 0, none⟩)] w' fun e w'' => e = .returned (.bool (otherRoom R x)) ∧ Below w'.heap.size w' w'' := fun w' hb => of1_any x R rb w' (HR.out w' (HB.out.trans (hb.mono HB.out.size)))
      have hkn : (k : Int) < (n : Int) := by omega
      have HCL := hid hcl
      cases hq : otherRoom R x with
      | true =>
        have HQX := hid hq
        rw [hq] at HCL
        obtain ⟨xt, xr, xp, xw⟩ := x
        simp only [] at g0 g1 g2 g3 HCL
        clear hx hcl hq
        go_wp2_with fail
        refine (HCL.out _ (Below.refl _ _)).mono ?_
        rintro e w1 ⟨rfl, hb1⟩
        have HB1 := hid (HB.out.trans (hb1.mono HB.out.size))
        clear hb1 g0 g1 g2 g3
        go_wp2_with fail
        (first | go_ret | skip)
        rw [HQ.out]
        exact ⟨_, rfl, HB1.out, .inr ⟨k, rfl, by rw [HL.out]; exact hkl, HNO.out, fun y hy => by rw [HX.out] at hy; cases hy; exact HQX.out⟩⟩
      | false =>
        have HQX := hid hq
        rw [hq] at HCL
        obtain ⟨xt, xr, xp, xw⟩ := x
        simp only [] at g0 g1 g2 g3 HCL
        clear hx hcl hq
        go_wp2_with fail
        refine (HCL.out _ (Below.refl _ _)).mono ?_
        rintro e w1 ⟨rfl, hb1⟩
        have HB1 := hid (HB.out.trans (hb1.mono HB.out.size))
        clear hb1 g0 g1 g2 g3
        go_wp2_with fail
        go_roundw
        case rel =>
          refine ⟨k + 1, by omega, by go_num, HB1.out, fun j y hj hy => ?_⟩
          by_cases e : j = k
          · subst e; rw [HX.out] at hy; cases hy; exact HQX.out
          · exact HNO.out j y (by omega) hy
        case measure => simp [intOf]; omega
    · obtain rfl : k = n := by omega
      go_wp2_with fail
      (first | go_ret | skip)
      rw [HQ.out]
      refine ⟨-1, rfl, HB.out, .inl ⟨rfl, fun x hx => ?_⟩⟩
      obtain ⟨j, hj⟩ := List.mem_iff_getElem?.1 hx
      exact HNO.out j x (by have := (List.getElem?_eq_some_iff.1 hj).1; rw [HL.out] at this; exact this) hj
end Go.Proofs.YtongkiccglaniaaDoor
