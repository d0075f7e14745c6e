/- framesame.Ints, Held, Helds, States: of any two lists they say whether they are the same. -/
import Derived.Test.YtnighanlonkjbaaDoorSameInts
import Derived.Test.YtnighanlonkjbaaDoorSameState
namespace Go.Proofs.YtnighanlonkjbaaDoor
open Go.RowKit
set_option maxRecDepth 100000

theorem below_drawn {w a : World} {B : Nat} (h : Below B w a) (n : Nat) : Below B w (a.drewN n) := ⟨h.os, h.tape, h.output, h.size, h.block⟩
def eqB {α : Type} [DecidableEq α] (a b : α) : Bool := decide (a = b)
theorem eqB_true {α : Type} [DecidableEq α] {a b : α} (h : a = b) : eqB a b = true := decide_eq_true h
theorem eqB_false {α : Type} [DecidableEq α] {a b : α} (h : a ≠ b) : eqB a b = false := decide_eq_false h
theorem ints_any (A B : Option Addr) (n m ca cb : Nat) (xs ys : List Int) (w : World) (hA : Sl w A 1 n (ints xs)) (hB : Sl w B 1 m (ints ys)) (hn : n ≤ 140737488355328) (hm : m ≤ 140737488355328) (hca : n ≤ ca) (hcb : m ≤ cb) :
    Calls Tryd.prog 62 #[.slice A n ca, .slice B m cb] w (Read w (.bool (eqB xs ys))) := by
  have hlen : xs.length = n := by have := hA.1; rw [ints_len] at this; omega
  have hlen2 : ys.length = m := by have := hB.1; rw [ints_len] at this; omega
  by_cases hnm : n = m
  · subst hnm
    by_cases hxy : xs = ys
    · subst hxy
      rw [eqB_true rfl]
      exact same_ints A B n ca cb xs w hA hB hn hca hcb
    · rw [eqB_false hxy]
      have HA := hid hA
      have HB := hid hB
      have HL := hid hlen
      have HL2 := hid hlen2
      have HXY := hid hxy
      clear hA hB hlen hlen2 hxy hm
      go_enter Tryd.func62, Tryd.ntmps62
      go_wp2_with fail
      go_loopw [5] (fun v5 wr => ∃ k d : Nat, k ≤ n ∧ v5 = .int .i64 k ∧ wr = w.drewN d ∧ xs.take k = ys.take k) (fun v5 _ => n - (intOf v5).toNat)
      case atStart => exact ⟨0, 0, by omega, rfl, rfl, rfl⟩
      case round =>
        obtain ⟨k, d, hk, rfl, rfl, htk⟩ := hrel
        have HTK := hid htk
        clear htk
        by_cases hkn : k < n
        · obtain ⟨b, o, rfl, _, hx⟩ := HA.out.2 (by omega)
          obtain ⟨b2, o2, rfl, _, hx2⟩ := HB.out.2 (by omega)
          have hu : (ints xs)[k]? = some (.int .i64 (xs[k]'(by rw [HL.out]; exact hkn))) := by simp [ints]
          have hu2 : (ints ys)[k]? = some (.int .i64 (ys[k]'(by rw [HL2.out]; exact hkn))) := by simp [ints]
          have c1 := hx k _ hu
          have c2 := hx2 k _ hu2
          have HT1 := hid (List.take_succ_eq_append_getElem (l := xs) (i := k) (by rw [HL.out]; exact hkn))
          have HT2 := hid (List.take_succ_eq_append_getElem (l := ys) (i := k) (by rw [HL2.out]; exact hkn))
          generalize xs[k]'(by rw [HL.out]; exact hkn) = x at c1 HT1
          generalize ys[k]'(by rw [HL2.out]; exact hkn) = y at c2 HT2
          clear hu hx hx2 hu2
          by_cases hxy : x = y
          · subst hxy
            go_wp2_with fail
            go_quiet (fail)
            go_wp2_with fail
            go_roundw
            case rel => exact ⟨k + 1, _, by omega, by go_num, rfl, by rw [HT1.out, HT2.out, HTK.out]⟩
            case measure => simp [intOf]; omega
          · have e1 : (x == y) = false := by simpa using hxy
            have e2 : (x != y) = true := by simpa using hxy
            clear hxy
            go_wp2_with fail
            go_quiet (fail)
            go_wp2_with fail
            go_ret
            exact ⟨rfl, _, by rw [World.drewN_drewN]⟩
        · obtain rfl : k = n := by omega
          exfalso
          have h := HTK.out
          rw [List.take_of_length_le (by rw [HL.out]; exact Nat.le_refl _), List.take_of_length_le (by rw [HL2.out]; exact Nat.le_refl _)] at h
          exact HXY.out h
  · have hxy : xs ≠ ys := fun e => hnm (by rw [← hlen, ← hlen2, e])
    rw [eqB_false hxy]
    clear hA hB hlen hlen2 hxy
    have e1 : (n == m) = false := by simpa using hnm
    have e2 : (n != m) = true := by simpa using hnm
    go_enter Tryd.func62, Tryd.ntmps62
    go_wp2_with fail
    go_ret
    exact ⟨rfl, 0, rfl⟩

/-- What is held as it lies. -/
structure Hm where
  A : Option Addr
  c : Nat
  items : List Int
  lost : Int
def Hm.cells (h : Hm) : List Value := [.slice h.A h.items.length h.c, .int .i64 h.lost]
theorem Hm.len (h : Hm) : h.cells.length = 2 := rfl
def Hm.val (h : Hm) : List Int × Int := (h.items, h.lost)
structure HmAt (w : World) (h : Hm) : Prop where
  sl : Sl w h.A 1 h.items.length (ints h.items)
  cap : h.items.length ≤ h.c
  few : h.items.length ≤ 1000
theorem HmAt.new {w w' : World} {h : Hm} (H : HmAt w h) (hb : Below w.heap.size w w') : HmAt w' h := ⟨H.sl.new hb, H.cap, H.few⟩
theorem HmAt.drew {w : World} {h : Hm} (H : HmAt w h) (d : Nat) : HmAt (w.drewN d) h := H.new ⟨rfl, rfl, rfl, Nat.le_refl _, fun _ _ => rfl⟩
theorem held_same (a b : Hm) (w : World) (ha : HmAt w a) (hb : HmAt w b) :
    Calls Tryd.prog 30 #[.agg #[.slice a.A a.items.length a.c, .int .i64 a.lost], .agg #[.slice b.A b.items.length b.c, .int .i64 b.lost]] w fun e w' => e = .returned (.bool (eqB a.val b.val)) ∧ Below w.heap.size w w' := by
  have HI : Hid (∀ w', Below w.heap.size w w' → Calls Tryd.prog 62 #[.slice a.A a.items.length a.c, .slice b.A b.items.length b.c] w' (Read w' (.bool (eqB a.items b.items)))) := fun w' h => by
    have h1 := ha.new h
    have h2 := hb.new h
    have h3 := ha.few
    have h4 := hb.few
    exact ints_any _ _ _ _ _ _ _ _ w' h1.sl h2.sl (by omega) (by omega) h1.cap h2.cap
  obtain ⟨A, ca, xs, la⟩ := a
  obtain ⟨B, cb, ys, lb⟩ := b
  simp only [Hm.val] at HI ⊢
  by_cases hl : la = lb
  · subst hl
    have he : eqB (xs, la) (ys, la) = eqB xs ys := by simp [eqB]
    rw [he]
    generalize eqB xs ys = q at HI
    generalize xs.length = n at HI
    generalize ys.length = m at HI
    clear ha hb he
    go_enter Tryd.func30, Tryd.ntmps30
    go_wp2_with (go_at_call 62; refine (HI.out _ (((Below.refl _ _).alloc (Nat.le_refl _) _).alloc (by simp) _)).mono ?_; rintro e w1 ⟨rfl, d, rfl⟩)
    go_ret
    exact ⟨rfl, below_drawn (((Below.refl _ _).alloc (Nat.le_refl _) _).alloc (by simp) _) _⟩
  · rw [eqB_false (by simp [hl])]
    have e1 : (la == lb) = false := by simpa using hl
    generalize xs.length = n at HI
    generalize ys.length = m at HI
    clear ha hb hl
    go_enter Tryd.func30, Tryd.ntmps30
    go_wp2_with fail
    go_ret
    exact ⟨rfl, ((Below.refl _ _).alloc (Nat.le_refl _) _).alloc (by simp) _⟩
end Go.Proofs.YtnighanlonkjbaaDoor
