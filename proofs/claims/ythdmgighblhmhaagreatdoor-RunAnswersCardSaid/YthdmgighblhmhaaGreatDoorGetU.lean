/- Several parts: each begins with what it says. -/
import Derived.Test.YthdmgighblhmhaaGreatDoorWhatU
import Derived.Test.YthdmgighblhmhaaGreatDoorLineU
import Derived.Deep.DeepCutAuto
import Derived.Deep.DrawnRows
/- Package kernel: the contracts of State, Wire, Poke, Time, for every kernel that is right. -/
namespace Go.Proofs.YthdmgighblhmhaaGreatDoor
open Go.RowKit
set_option maxRecDepth 100000
attribute [local go_sem ↓] Go.wp_at_zero Go.wp_at_succ

def inB (r : Int) (n : Nat) : Bool := decide (0 ≤ r ∧ r < n)
theorem khas_any (kb : Nat) (rA : Option Addr) (n rc : Nat) (r : Int) (w : World) (h4 : w.cell? ⟨kb, 4, none⟩ = some (.slice rA n rc)) (_hn : n ≤ 100) :
    Calls Tryz.prog 85 #[.pointer (some ⟨kb, 0, none⟩), .int .i64 r] w fun e w' => e = .returned (.bool (inB r n)) ∧ w = w' := by
  unfold inB
  by_cases h0 : 0 ≤ r
  · rw [show decide (0 ≤ r ∧ r < (n : Int)) = decide (r < (n : Int)) by simp [h0]]
    go_enter Tryz.func85, Tryz.ntmps85
    go_wp2_with fail
    go_ret
    exact ⟨rfl, rfl⟩
  · rw [show decide (0 ≤ r ∧ r < (n : Int)) = false by simp [h0]]
    have hl : r < 0 := by omega
    go_enter Tryz.func85, Tryz.ntmps85
    go_wp2_with fail
    go_ret
    exact ⟨rfl, rfl⟩

section
variable {kb : Nat} {w : World} {M : KM} {k : Kst}
def stateOf (k : Kst) (r : Int) : St × Int := if inB r k.rooms.length = true then (k.rooms.getD r.toNat St.zero, 0) else (St.zero, 1)
def StateV (w : World) (q : St × Int) (e : Ending) (w' : World) : Prop := e = .returned (.tuple #[.agg (stV q.1), errV q.2]) ∧ Below w.heap.size w w'
set_option maxHeartbeats 1000000 in
theorem kstate_any (r : Int) (hn : k.rooms.length ≤ 5) (hka : KAt 88 120 90 w kb M k) :
    Calls Tryz.prog 82 #[.pointer (some ⟨kb, 0, none⟩), .int .i64 r] w (StateV w (stateOf k r)) := by
  obtain ⟨k0, k1, k2, k4, k5, k6, kf, hkb⟩ := hka.cells
  have HHAS : Hid (∀ w', Below w.heap.size w w' → Calls Tryz.prog 85 #[.pointer (some ⟨kb, 0, none⟩), .int .i64 r] w' fun e w'' => e = .returned (.bool (inB r k.rooms.length)) ∧ w' = w'') := fun w' hb =>
    khas_any kb M.rA k.rooms.length M.rc r w' ((hb.cell (p := ⟨kb, 4, none⟩) hkb).trans k4) (by omega)
  unfold stateOf
  cases hin : inB r k.rooms.length with
  | false =>
    rw [if_neg (by decide)]
    rw [hin] at HHAS
    clear k0 k1 k2 k4 k5 k6 kf hka hin
    go_enter Tryz.func82, Tryz.ntmps82
    go_wp2_with (go_at_call 85; refine (HHAS.out _ ((Below.refl _ _).alloc (Nat.le_refl _) _)).mono ?_; rintro e w1 ⟨rfl, rfl⟩)
    refine bodyPost_ret (v := .tuple #[.agg (stV St.zero), errV 1]) (by simp [results, Tryz.results82, go_sem, stV, St.zero, errV]) rfl ?_
    exact ⟨rfl, by repeat (first | exact Below.refl _ _ | refine Below.setCell ?_ (by simp) _ | refine Below.alloc ?_ (by simp) _)⟩
  | true =>
    rw [if_pos rfl]
    rw [hin] at HHAS
    have hr : 0 ≤ r ∧ r < k.rooms.length := by simpa [inB] using hin
    obtain ⟨r', rfl⟩ : ∃ r' : Nat, r = r' := ⟨r.toNat, by omega⟩
    have hg : k.rooms[r']? = some (k.rooms.getD r' St.zero) := by
      rw [List.getD_eq_getElem?_getD, List.getElem?_eq_getElem (by omega)]; rfl
    rw [Int.toNat_natCast]
    generalize k.rooms.getD r' St.zero = s at hg ⊢
    obtain ⟨rb, roff, hrA, ⟨s0, s1, s2, s3, s4, s5, s6, s7⟩, hrf, hrb, hrkb, hrl, hrc, hrm⟩ := hka.room hg
    rw [hrA] at k4
    generalize k.rooms.length = nr at k4 hrl hrc hr HHAS hn
    unfold maxLen at hrm
    obtain ⟨_, hr1⟩ := hr
    obtain ⟨pc, c0, c1, c2, c3, c4, c5, f⟩ := s
    simp only [] at s0 s1 s2 s3 s4 s5 s6 s7
    clear k0 k1 k2 k5 k6 kf hka hin hg hrA hrf
    go_enter Tryz.func82, Tryz.ntmps82
    go_wp2_with (go_at_call 85; refine (HHAS.out _ ((Below.refl _ _).alloc (Nat.le_refl _) _)).mono ?_; rintro e w1 ⟨rfl, rfl⟩)
    refine bodyPost_ret (v := .tuple #[.agg (stV ⟨pc, c0, c1, c2, c3, c4, c5, f⟩), .nilIface]) (by simp [results, Tryz.results82, go_sem, stV]) rfl ?_
    exact ⟨by rw [errV_zero], by repeat (first | exact Below.refl _ _ | refine Below.setCell ?_ (by simp) _ | refine Below.alloc ?_ (by simp) _)⟩
end
end Go.Proofs.YthdmgighblhmhaaGreatDoor

/- Package kernel: the contract of Wire, for every kernel that is right. -/
namespace Go.Proofs.YthdmgighblhmhaaGreatDoor
open Go.RowKit
set_option maxRecDepth 100000
attribute [local go_sem ↓] Go.wp_at_zero Go.wp_at_succ

/-- What is told of a wire, in new memory. -/
def WireV (w : World) (items : List Int) (lost : Int) (err : Int) (e : Ending) (w' : World) : Prop :=
  ∃ A cap, e = .returned (.tuple #[.agg #[.slice A items.length cap, .int .i64 lost], errV err]) ∧ Row w' 3 1 A items.length cap (ints items) ∧ (∀ k, InA A k → w.heap.size ≤ k) ∧ Below w.heap.size w w'
def wireOf (k : Kst) (i : Int) : (List Int × Int) × Int := if inB i k.lines.length = true then (((k.lines.getD i.toNat ⟨⟨0, 0, 0, 0⟩, [], 0⟩).items, (k.lines.getD i.toNat ⟨⟨0, 0, 0, 0⟩, [], 0⟩).lost), 0) else (([], 0), 1)
theorem wire_made {w w2 : World} {items : List Int} {A : Option Addr} {cap : Nat} (hr : Row w2 3 1 A items.length cap (ints items)) (_hn : ∀ k, InA A k → w.heap.size + 1 ≤ k) (hb : Below (w.heap.size + 1) (w.alloc (.cells #[.slice none 0 0, .int .i64 0] 65)) w2) (v0 v1 : Value) :
    Row ((w2.setCell ⟨w.heap.size, 0, none⟩ v0).setCell ⟨w.heap.size, 1, none⟩ v1) 3 1 A items.length cap (ints items) ∧ (∀ k, InA A k → w.heap.size ≤ k) ∧ Below w.heap.size w ((w2.setCell ⟨w.heap.size, 0, none⟩ v0).setCell ⟨w.heap.size, 1, none⟩ v1) := by
  refine ⟨?_, fun k hk => by have := _hn k hk; omega, ?_⟩
  · refine (hr.setCell (p := ⟨w.heap.size, 0, none⟩) ?_ _).setCell (p := ⟨w.heap.size, 1, none⟩) ?_ _ <;>
    · intro h
      have := _hn _ h
      simp at this
      omega
  · exact ((((Below.refl _ _).alloc (Nat.le_refl _) _).trans (hb.mono (by omega))).setCell (Nat.le_refl _) _).setCell (Nat.le_refl _) _
section
variable {kb : Nat} {w : World} {M : KM} {k : Kst}
set_option maxHeartbeats 1000000 in
theorem kwire_any (i : Int) (p : Pl) (B : Int) (hk : KOk p k B) (_hn : k.lines.length ≤ 12) (hka : KAt 88 120 90 w kb M k) :
    Calls Tryz.prog 84 #[.pointer (some ⟨kb, 0, none⟩), .int .i64 i] w (WireV w (wireOf k i).1.1 (wireOf k i).1.2 (wireOf k i).2) := by
  obtain ⟨k0, k1, k2, k4, k5, k6, kf, hkb⟩ := hka.cells
  unfold wireOf
  cases hin : inB i k.lines.length with
  | false =>
    rw [if_neg (by decide)]
    have hin' : ¬ (0 ≤ i ∧ i < k.lines.length) := by simpa [inB] using hin
    have fin : ∀ w2, w2 = w.alloc (.cells #[.slice none 0 0, .int .i64 0] 65) → WireV w [] 0 1 (.returned (.tuple #[.agg #[.slice none 0 0, .int .i64 0], errV 1])) w2 := by
      rintro w2 rfl
      exact ⟨none, 0, rfl, Row.nil _ _ _, fun j hj => by simp [InA] at hj, (Below.refl _ _).alloc (Nat.le_refl _) _⟩
    have FIN := hid fin
    generalize k.lines.length = n at k5 hin' _hn
    clear fin k0 k1 k2 k4 k6 kf hka hin hk
    by_cases h0 : i < 0
    · clear hin'
      go_enter Tryz.func84, Tryz.ntmps84
      go_wp2_with fail
      exact bodyPost_ret (v := .tuple #[.agg #[.slice none 0 0, .int .i64 0], errV 1]) (by simp [results, Tryz.results84, go_sem, errV]) rfl (FIN.out _ rfl)
    · have h1 : (n : Int) ≤ i := by omega
      have h0' : 0 ≤ i := by omega
      clear hin' h0
      go_enter Tryz.func84, Tryz.ntmps84
      go_wp2_with fail
      exact bodyPost_ret (v := .tuple #[.agg #[.slice none 0 0, .int .i64 0], errV 1]) (by simp [results, Tryz.results84, go_sem, errV]) rfl (FIN.out _ rfl)
  | true =>
    rw [if_pos rfl]
    have hr : 0 ≤ i ∧ i < k.lines.length := by simpa [inB] using hin
    obtain ⟨j, rfl⟩ : ∃ j : Nat, i = j := ⟨i.toNat, by omega⟩
    have hg : k.lines[j]? = some (k.lines.getD j ⟨⟨0, 0, 0, 0⟩, [], 0⟩) := by
      rw [List.getD_eq_getElem?_getD, List.getElem?_eq_getElem (by omega)]; rfl
    rw [Int.toNat_natCast]
    generalize k.lines.getD j ⟨⟨0, 0, 0, 0⟩, [], 0⟩ = x at hg ⊢
    have hok := hk.lns x (List.mem_of_getElem? hg)
    obtain ⟨a, b, off, ha, hA, hc, hl, hjl, hbl⟩ := hka.line hg
    rw [hA] at k5
    have HH : Hid (∀ w', Below w.heap.size w w' → Calls Tryz.prog 99 #[.pointer (some ⟨a.b, 0, none⟩)] w' (HeldAs w' x.items x.lost)) := fun w' hb =>
      held_any a.b w' a.A x.w x.items x.lost hok.six (LineAt.new (w := w) hl hb)
    have hcap := hka.ptrs.le
    generalize k.lines.length = n at k5 hr hjl _hn hcap
    obtain ⟨_, hr1⟩ := hr
    obtain ⟨xw, xi, xl⟩ := x
    simp only [] at HH ⊢
    have hmk : ∀ (A : Option Addr) (cap : Nat) (w1 w2 : World), Row w1 3 1 A xi.length cap (ints xi) → (∀ k, InA A k → w.heap.size + 1 ≤ k) → Below (w.heap.size + 1) (w.alloc (.cells #[.slice none 0 0, .int .i64 0] 65)) w1 →
        w2 = (w1.setCell ⟨w.heap.size, 0, none⟩ (.slice A xi.length cap)).setCell ⟨w.heap.size, 1, none⟩ (.int .i64 xl) → WireV w xi xl 0 (.returned (.tuple #[.agg #[.slice A xi.length cap, .int .i64 xl], .nilIface])) w2 := by
      rintro A cap w1 w2 h1 h2 h3 rfl
      obtain ⟨g1, g2, g3⟩ := wire_made h1 h2 h3 (.slice A xi.length cap) (.int .i64 xl)
      exact ⟨A, cap, by rw [errV_zero], g1, g2, g3⟩
    have HMK := hid hmk
    obtain ⟨LA, lb⟩ := a
    unfold maxLen at hcap
    clear hmk k0 k1 k2 k4 k6 kf hka hin hg hok ha hA hl hk
    go_enter Tryz.func84, Tryz.ntmps84
    go_wp2_with (go_at_call 99; refine (HH.out _ ((Below.refl _ _).alloc (Nat.le_refl _) _)).mono ?_; rintro e w2 ⟨A, cap, rfl, hr2, hn2, hb2⟩; have hb3 : Below (w.heap.size + 1) (w.alloc (.cells #[.slice none 0 0, .int .i64 0] 65)) w2 := (by simpa using hb2); have HB := hid hb3; have HR := hid hr2; have HN := hid hn2; have hh := (hb3.block w.heap.size (by omega)).trans (heap_alloc_new w _); have k6 := blk_cell hh 0; have k7 := blk_cell hh 1; have kf := fun j => blk_free hh j; simp at k6 k7; clear hh hb2 hb3 hr2 hn2)
    exact bodyPost_ret (v := .tuple #[.agg #[.slice A xi.length cap, .int .i64 xl], .nilIface]) (by simp [results, Tryz.results84, go_sem, k6, k7]) rfl (HMK.out A cap w2 _ HR.out (fun k hk => by have := HN.out k hk; simpa using this) HB.out rfl)
end
end Go.Proofs.YthdmgighblhmhaaGreatDoor
