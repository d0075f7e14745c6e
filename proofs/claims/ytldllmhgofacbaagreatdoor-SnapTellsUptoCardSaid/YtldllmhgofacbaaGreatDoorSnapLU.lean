/- Several parts: each begins with what it says. -/
import Derived.Test.YtldllmhgofacbaaGreatDoorRunU
import Derived.Test.YtldllmhgofacbaaGreatDoorRoomW
import Derived.Test.YtldllmhgofacbaaGreatDoorSnapSvU
import Derived.BigQuiet
import Derived.Deep.RegionHeld3
import Derived.Laws.IdiomCopy
import Derived.Test.YtldllmhgofacbaaGreatDoorSnapReadR
/- Packages wire and kernel: the contracts of Fill and Set. Conditions: none. -/
namespace Go.Proofs.YtldllmhgofacbaaGreatDoor
open Go.RowKit
set_option maxRecDepth 100000

def farCell (n : Int) : Bool := decide (n < 0 ∨ 1000 ≤ n)
theorem fill1_any (n : Int) (w : World) : Calls Tryz.prog 170 #[.int .i64 n] w fun e w' => e = .returned (.bool (farCell n)) ∧ w' = w := by
  unfold farCell
  by_cases h : n < 0
  · rw [decide_eq_true (Or.inl h)]
    go_enter Tryz.func170, Tryz.ntmps170
    go_wp2
    go_ret
    exact ⟨rfl, rfl⟩
  · by_cases h2 : 1000 ≤ n
    · rw [decide_eq_true (Or.inr h2)]
      go_enter Tryz.func170, Tryz.ntmps170
      go_wp2
      go_ret
      exact ⟨rfl, rfl⟩
    · rw [decide_eq_false (by omega)]
      go_enter Tryz.func170, Tryz.ntmps170
      go_wp2
      go_ret
      exact ⟨rfl, rfl⟩
theorem index_fill (A : Option Addr) (n c : Nat) (l : List Int) (w : World) (hs : Sl w A 1 n (ints l)) (hn : n ≤ 100000) :
    Calls Tryz.prog 169 #[.slice A n c, .func (.func 170) #[] #[]] w fun e w' => ∃ r : Int, e = .returned (.int .i64 r) ∧ decide (0 ≤ r) = l.any farCell ∧ w' = w := by
  have hl : l.length = n := by have := hs.1; rw [ints_len] at this; omega
  have HS := hid hs
  have HL := hid hl
  clear hs hl
  go_enter Tryz.func169, Tryz.ntmps169
  go_wp2_with fail
  go_loop [5, 8] (fun v5 v8 => ∃ k : Nat, k ≤ n ∧ v8 = .int .i64 k ∧ (∀ j x, j < k → l[j]? = some x → farCell x = false)) (fun _ v8 => n - (intOf v8).toNat)
  case atStart => exact ⟨0, by omega, rfl, fun j s hj => absurd hj (by omega)⟩
  case round =>
    obtain ⟨k, hk, rfl, hno⟩ := hrel
    have HNO := hid hno
    clear hno
    by_cases hkl : k < n
    · obtain ⟨b, off, rfl, _, g0⟩ := sl_int HS.out (by rw [HL.out]; exact hkl) hkl
      have hget := List.getElem?_eq_getElem (show k < l.length by rw [HL.out]; exact hkl)
      generalize l[k]'(by rw [HL.out]; exact hkl) = x at g0 hget
      have HG := hid hget
      clear hget
      have HCL := fun w => fill1_any x w
      cases hb : farCell x with
      | true =>
        rw [hb] at HCL
        have HC := hid HCL
        have HBX := hid hb
        clear HCL hb
        go_wp2_with (go_at_call 170; refine (HC.out _).mono ?_; rintro e w1 ⟨rfl, rfl⟩)
        go_ret
        exact ⟨_, rfl, by rw [List.any_eq_true.2 ⟨x, List.mem_of_getElem? HG.out, HBX.out⟩]; simp, rfl⟩
      | false =>
        rw [hb] at HCL
        have HC := hid HCL
        have HBX := hid hb
        clear HCL hb
        go_wp2_with (go_at_call 170; refine (HC.out _).mono ?_; rintro e w1 ⟨rfl, rfl⟩)
        go_round
        case rel =>
          refine ⟨k + 1, by omega, by go_num, fun j y hj hy => ?_⟩
          by_cases e : j = k
          · subst e; rw [HG.out] at hy; cases hy; exact HBX.out
          · exact HNO.out j y (by omega) hy
        case measure => simp [intOf]; omega
    · obtain rfl : k = n := by omega
      go_wp2_with fail
      go_ret
      refine ⟨-1, rfl, ?_, rfl⟩
      rw [show l.any farCell = false from List.any_eq_false.2 (fun x hx => by
        obtain ⟨j, hj⟩ := List.mem_iff_getElem?.1 hx
        rw [HNO.out j x (by have := (List.getElem?_eq_some_iff.1 hj).1; rw [HL.out] at this; exact this) hj]; decide)]
      rfl
theorem contains_fill (A : Option Addr) (n c : Nat) (l : List Int) (w : World) (hs : Sl w A 1 n (ints l)) (hn : n ≤ 100000) :
    Calls Tryz.prog 135 #[.slice A n c, .func (.func 170) #[] #[]] w fun e w' => e = .returned (.bool (l.any farCell)) ∧ w' = w := by
  obtain ⟨q, hq⟩ : ∃ q, q = l.any farCell := ⟨_, rfl⟩
  rw [← hq]
  have HQ := hid hq
  have HS := hid hs
  clear hq hs
  go_enter Tryz.func135, Tryz.ntmps135
  go_wp2_with (go_at_call 169; refine (index_fill A n c l _ HS.out hn).mono ?_; rintro e w1 ⟨r, rfl, hr, rfl⟩; have HR := hid hr; clear hr)
  go_ret
  refine ⟨?_, rfl⟩
  rw [HQ.out, ← HR.out]
  rfl
/-- May a line hold this? -/
def lnFits (x : Wire) (items : List Int) (lost : Int) : Bool := decide ((items.length : Int) ≤ x.deep ∧ (x.kind = 1 → lost = 0)) && !items.any farCell
/-- What Fill leaves. -/
def Filled (w : World) (b : Nat) (A : Option Addr) (x : Ln) (items : List Int) (lost : Int) (e : Ending) (w' : World) : Prop :=
  (lnFits x.w items lost = true ∧ e = .returned (.bool true) ∧ ∃ A', LnAt 215 w' b A' ⟨x.w, items, lost⟩ ∧ Keep (LF b A) w w' ∧ ∀ j, InA A' j → w.heap.size ≤ j) ∨
  (lnFits x.w items lost = false ∧ e = .returned (.bool false) ∧ Below w.heap.size w w')

set_option maxHeartbeats 4000000 in
theorem lfill_any {w : World} {b : Nat} {A : Option Addr} {x : Ln} (hl : LnAt 215 w b A x) (hd : x.w.deep ≤ 6) (HA : Option Addr) (n c : Nat) (items : List Int) (lost : Int) (hn : items.length = n) (hs : Sl w HA 1 n (ints items)) :
    Calls Tryz.prog 138 #[.pointer (some ⟨b, 0, none⟩), .agg #[.slice HA n c, .int .i64 lost]] w (Filled w b A x items lost) := by
  obtain ⟨cap, hblk, hrow⟩ := hl
  obtain ⟨wx, xitems, xlost⟩ := x
  obtain ⟨fr, tw, kind, deep⟩ := wx
  simp only [] at hblk hrow hd
  obtain ⟨w1, hw1⟩ : ∃ w1, w1 = w.alloc (.cells #[.slice HA n c, .int .i64 lost] 152) := ⟨_, rfl⟩
  have hb1 : Below w.heap.size w w1 := by rw [hw1]; exact (Below.refl _ _).alloc (Nat.le_refl _) _
  have hbox : w1.heap[w.heap.size]? = some (.cells #[.slice HA n c, .int .i64 lost] 152 (0, 0)) := by rw [hw1]; exact heap_alloc_new w _
  have hblk1 := (hb1.block _ (blk_lt hblk)).trans hblk
  have x2 := blk_cell hblk1 2
  have x3 := blk_cell hblk1 3
  have x4 := blk_cell hblk1 4
  have x5 := blk_cell hblk1 5
  have xf := fun o => blk_free hblk1 o
  have hlx := blk_lt hblk1
  have y0 := blk_cell hbox 0
  have y1 := blk_cell hbox 1
  have hly := blk_lt hbox
  simp at x2 x3 x4 x5 y0 y1
  have hs1 := hs.new hb1
  have HB1 := hid hb1
  have HBLK := hid hblk
  have HBLK1 := hid hblk1
  have HBOX := hid hbox
  have HROW := hid hrow
  have HS1 := hid hs1
  have HN := hid hn
  have hbne : w.heap.size ≠ b := by have := blk_lt hblk; omega
  clear hblk hblk1 hbox hrow hs hs1 hb1 hn
  have HBAD : Hid (lnFits ⟨fr, tw, kind, deep⟩ items lost = false → ∀ w', (∃ d, w' = w1.drewN d) → Filled w b A ⟨⟨fr, tw, kind, deep⟩, xitems, xlost⟩ items lost (.returned (.bool false)) w') := hid fun h w' ⟨d, hd⟩ => .inr ⟨h, rfl, by rw [hd]; exact ⟨HB1.out.os, HB1.out.tape, HB1.out.output, HB1.out.size, HB1.out.block⟩⟩
  by_cases h1 : deep < (n : Int)
  · have hno : lnFits ⟨fr, tw, kind, deep⟩ items lost = false := by
      unfold lnFits
      rw [decide_eq_false (by rintro ⟨g, _⟩; rw [HN.out] at g; simp only [] at g; omega)]; rfl
    have HNO := hid hno
    clear hno x4 x5
    go_enter Tryz.func138, Tryz.ntmps138
    go_upto_region 1 with fail
    rw [← hw1]
    clear hw1
    go_quiet (fail)
    go_wp2_with fail
    go_ret
    exact HBAD.out HNO.out _ ⟨_, rfl⟩
  by_cases h2 : kind = 1 ∧ lost ≠ 0
  · have hno : lnFits ⟨fr, tw, kind, deep⟩ items lost = false := by
      unfold lnFits
      rw [decide_eq_false (by rintro ⟨_, g⟩; exact h2.2 (g h2.1))]; rfl
    have HNO := hid hno
    obtain ⟨rfl, hlo⟩ := h2
    have hlo2 : (lost != 0) = true := by simpa using hlo
    clear hno x4 x5 hlo
    go_enter Tryz.func138, Tryz.ntmps138
    go_upto_region 1 with fail
    rw [← hw1]
    clear hw1
    go_quiet (fail)
    go_wp2_with fail
    go_ret
    exact HBAD.out HNO.out _ ⟨_, rfl⟩
  have hn6 : n ≤ 6 := by omega
  have HCN : Hid (∀ d, Calls Tryz.prog 135 #[.slice HA n c, .func (.func 170) #[] #[]] (w1.drewN d) fun e w' => e = .returned (.bool (items.any farCell)) ∧ w' = w1.drewN d) := hid fun d => contains_fill HA n c items _ HS1.out (by omega)
  obtain ⟨q, hq⟩ : ∃ q, q = items.any farCell := ⟨_, rfl⟩
  rw [← hq] at HCN
  have hfit : lnFits ⟨fr, tw, kind, deep⟩ items lost = !q := by
    unfold lnFits
    rw [decide_eq_true ⟨by rw [HN.out]; simp only []; omega, fun hk => by
      by_cases g : lost = 0
      · exact g
      · exact absurd ⟨hk, g⟩ h2⟩, ← hq]; rfl
  have HFIT := hid hfit
  clear hfit hq
  have hA : HA = none → n = 0 := Sl.none HS1.out
  have HA0 := hid hA
  have hkind : (kind = 1 ∧ (lost != 0) = false) ∨ (kind == 1) = false := by
    by_cases g : kind = 1
    · left
      refine ⟨g, ?_⟩
      by_cases g2 : lost = 0
      · simpa using g2
      · exact absurd ⟨g, g2⟩ h2
    · right; simpa using g
  clear h2 hA
  cases q with
  | true =>
    rcases hkind with ⟨rfl, hlo⟩ | hk
    all_goals
      go_enter Tryz.func138, Tryz.ntmps138
      go_upto_region 1 with fail
      rw [← hw1]
      clear hw1
      go_quiet (first | (go_at_call 135; exact Calls.quiet_of_same (HCN.out _)))
      go_wp2_with fail
      go_ret
      exact HBAD.out HFIT.out _ ⟨_, rfl⟩
  | false =>
    rcases hkind with ⟨rfl, hlo⟩ | hk
    all_goals
      go_enter Tryz.func138, Tryz.ntmps138
      go_upto_region 1 with fail
      rw [← hw1]
      clear hw1
      go_quiet (first | (go_at_call 135; exact Calls.quiet_of_same (HCN.out _)))
      go_upto_region 3 with fail
      obtain ⟨w2, hw2⟩ : ∃ w2, w2 = w1.drewN nq := ⟨_, rfl⟩
      have hb2 : Below w1.heap.size w1 w2 := by rw [hw2]; exact ⟨rfl, rfl, rfl, Nat.le_refl _, fun _ _ => rfl⟩
      rw [← hw2]
      have hblk2 := (hb2.block _ (blk_lt HBLK1.out)).trans HBLK1.out
      have hbox2 := (hb2.block _ (blk_lt HBOX.out)).trans HBOX.out
      have HSL : Hid (∀ w', Below w2.heap.size w2 w' → Sl w' HA 1 n (ints items)) := hid fun w' hb => HS1.out.new (hb2.trans (hb.mono hb2.size))
      have HBLK2 := hid hblk2
      have HBOX2 := hid hbox2
      have HB2 := hid (HB1.out.trans (hb2.mono HB1.out.size))
      have hz0 := blk_cell hbox2 0
      have hz1 := blk_cell hbox2 1
      have hlz := blk_lt hbox2
      simp at hz0 hz1
      clear hw2 hb2 hblk2 hbox2 x2 x3 x4 x5 xf hlx y0 y1 hly
      go_region_held3 (fun w' => w'.cell? ⟨w.heap.size, 0, none⟩ = some (.slice HA n c) ∧ w'.cell? ⟨w.heap.size, 1, none⟩ = some (.int .i64 lost))
        (first | exact ⟨‹_›, ‹_›⟩ | exact ⟨(cell_far hbne).trans ‹_›, (cell_far hbne).trans ‹_›⟩ | exact ⟨(cell_far hbne).trans ((cell_far hbne).trans ‹_›), (cell_far hbne).trans ((cell_far hbne).trans ‹_›)⟩)
        (first | (go_at_call 168; refine (clone_ints _ HA n c items (by omega) HA0.out (by first | exact HSL.out _ (Below.refl _ _).drew | exact HSL.out _ (Below.refl _ _))).mono ?_; rintro e w5 ⟨A5, cap5, rfl, hr5, hn5, hb5⟩; have z := (hb5.block _ (blk_lt HBOX2.out)).trans HBOX2.out; have zb := (hb5.block _ (blk_lt HBLK2.out)).trans HBLK2.out; have k0 := blk_cell z 0; have k1 := blk_cell z 1; have k4 := blk_cell zb 4; have k5 := blk_cell zb 5; have kf := fun o => blk_free zb o; have kl := blk_lt zb; have kl2 := blk_lt z; simp at k0 k1 k4 k5; have HR5 := hid hr5; have HN5 := hid hn5; have HB5 := hid hb5; have HZB := hid zb; clear hr5 hn5 hb5 z zb hz0 hz1 hlz))
      all_goals
        go_wp2_with fail
        go_ret
        refine .inl ⟨HFIT.out, rfl, A5, ⟨cap5, ?_, ?_⟩, ?_, fun j hj => ?_⟩
        · refine (blk_set (blk_set HZB.out 4 _) 5 _).trans ?_
          simp only [HN.out]
          rfl
        · simp only [HN.out]
          refine Row.setCell (Row.setCell HR5.out (fun hi => ?_) _) (fun hi => ?_) _
          · have h1 : w2.heap.size ≤ b := HN5.out _ hi
            have := blk_lt HBLK2.out; omega
          · have h1 : w2.heap.size ≤ b := HN5.out _ hi
            have := blk_lt HBLK2.out; omega
        · exact (((Keep.of_below (LF b A) HB2.out).then (Keep.of_below (LF b A) (show Below w2.heap.size w2 w5 from (Below.refl _ _).drew.trans HB5.out)) fun _ _ h => h).setCell (.inl (.inl rfl)) _).setCell (.inl (.inl rfl)) _
        · have h1 : w2.heap.size ≤ j := HN5.out j hj
          have := HB2.out.size; omega
/-- The same in one form. -/
def FilledV (w : World) (b : Nat) (A : Option Addr) (x : Ln) (items : List Int) (lost : Int) (q : Bool) (e : Ending) (w' : World) : Prop :=
  e = .returned (.bool q) ∧ (q = true → ∃ A', LnAt 215 w' b A' ⟨x.w, items, lost⟩ ∧ Keep (LF b A) w w' ∧ ∀ j, InA A' j → w.heap.size ≤ j) ∧ (q = false → Below w.heap.size w w')
theorem lfill_v {w : World} {b : Nat} {A : Option Addr} {x : Ln} (hl : LnAt 215 w b A x) (hd : x.w.deep ≤ 6) (HA : Option Addr) (n c : Nat) (items : List Int) (lost : Int) (hn : items.length = n) (hs : Sl w HA 1 n (ints items)) :
    Calls Tryz.prog 138 #[.pointer (some ⟨b, 0, none⟩), .agg #[.slice HA n c, .int .i64 lost]] w (FilledV w b A x items lost (lnFits x.w items lost)) := by
  refine (lfill_any hl hd HA n c items lost hn hs).mono ?_
  rintro e w' (⟨h, rfl, h1⟩ | ⟨h, rfl, h1⟩)
  · rw [h]; exact ⟨rfl, fun _ => h1, (fun h => by cases h)⟩
  · rw [h]; exact ⟨rfl, (fun h => by cases h), fun _ => h1⟩
def KFilled (w : World) (kb : Nat) (M : KM) (k' : Kst) (q : Bool) (e : Ending) (w' : World) : Prop :=
  e = .returned (.bool q) ∧ (q = true → ∃ M' : KM, KAt 145 215 147 w' kb M' k' ∧ (M'.P = M.P ∧ M'.lA = M.lA) ∧ Keep (KF kb M) w w' ∧ ∀ j, KF kb M' j → KF kb M j ∨ w.heap.size ≤ j) ∧ (q = false → Below w.heap.size w w')
section
variable {kb : Nat} {w : World} {M : KM} {k : Kst}
set_option maxHeartbeats 4000000 in
theorem kfill_any (hka : KAt 145 215 147 w kb M k) {i : Nat} {x : Ln} (hx : k.lines[i]? = some x) (hd : x.w.deep ≤ 6) (HA : Option Addr) (n c : Nat) (items : List Int) (lost : Int) (hn : items.length = n) (hs : Sl w HA 1 n (ints items)) :
    Calls Tryz.prog 90 #[.pointer (some ⟨kb, 0, none⟩), .int .i64 i, .agg #[.slice HA n c, .int .i64 lost]] w (KFilled w kb M ⟨k.rooms, k.lines.set i ⟨x.w, items, lost⟩, k.time⟩ (lnFits x.w items lost)) := by
  obtain ⟨w1, hw1⟩ : ∃ w1, w1 = w.alloc (.cells #[.slice HA n c, .int .i64 lost] 152) := ⟨_, rfl⟩
  have hb1 : Below w.heap.size w w1 := by rw [hw1]; exact (Below.refl _ _).alloc (Nat.le_refl _) _
  have hbox : w1.heap[w.heap.size]? = some (.cells #[.slice HA n c, .int .i64 lost] 152 (0, 0)) := by rw [hw1]; exact heap_alloc_new w _
  have hka1 := hka.new hb1
  obtain ⟨a, pb, po, ha, hA, hc, hl, hil, hpb⟩ := hka1.line hx
  obtain ⟨own, o0, o1, o2, o3, o4⟩ := hka1.own
  obtain ⟨_, _, _, _, k5, _, _, hkb⟩ := hka1.cells
  rw [hA] at k5
  have hnkb : ¬ LF a.b a.A kb := fun h => by have := o4 i a ha kb h; omega
  have hnpb : ¬ LF a.b a.A pb := fun h => by have := o4 i a ha pb h; have := o2 pb (by rw [hA]; rfl); omega
  have hnob : ¬ LF a.b a.A w.heap.size := fun h => by
    have h1 := hka.lt w.heap.size (.inl (.inr (.inr ⟨a, List.mem_of_getElem? ha, h⟩)))
    omega
  obtain ⟨q, hq⟩ : ∃ q, q = lnFits x.w items lost := ⟨_, rfl⟩
  rw [← hq]
  have HFILL : Hid (∀ w', Below w1.heap.size w1 w' → Calls Tryz.prog 138 #[.pointer (some ⟨a.b, 0, none⟩), .agg #[.slice HA n c, .int .i64 lost]] w' (FilledV w' a.b a.A x items lost q)) := hid fun w' hb => by
    rw [hq]; exact lfill_v (hl.keep fun j hj hlt => hb.block j hlt) hd HA n c items lost hn (hs.new (hb1.trans (hb.mono hb1.size)))
  have HKEEP : Hid (∀ (w' w'' : World) e, Below w1.heap.size w1 w' → FilledV w' a.b a.A x items lost q e w'' → w''.heap[kb]? = w1.heap[kb]? ∧ w''.heap[pb]? = w1.heap[pb]? ∧ w''.heap[w.heap.size]? = w1.heap[w.heap.size]?) := hid fun w' w'' e hb h => by
    have hlo := blk_lt hbox
    have hs := hb.size
    have st : ∀ j, j < w1.heap.size → ¬ LF a.b a.A j → w''.heap[j]? = w1.heap[j]? := fun j hj hf => by
      obtain ⟨_, h1, h2⟩ := h
      cases q with
      | true =>
        obtain ⟨A', _, hk, _⟩ := h1 rfl
        exact (hk.block j (by omega) hf).trans (hb.block j hj)
      | false => exact ((h2 rfl).block j (by omega)).trans (hb.block j hj)
    exact ⟨st kb hkb hnkb, st pb hpb hnpb, st _ hlo hnob⟩
  have HFIN : Hid (∀ (w' w'' : World) e, Below w1.heap.size w1 w' → FilledV w' a.b a.A x items lost q e w'' → KFilled w kb M ⟨k.rooms, k.lines.set i ⟨x.w, items, lost⟩, k.time⟩ q (.returned (.bool q)) w'') := hid fun w' w'' e hb h => by
    obtain ⟨_, h1, h2⟩ := h
    have hbw := hb1.trans (hb.mono hb1.size)
    refine ⟨rfl, fun ht => ?_, fun hf => hbw.trans ((h2 hf).mono hbw.size)⟩
    obtain ⟨A', g1, g2, g3⟩ := h1 ht
    have hka2 := hka.new hbw
    refine ⟨M.setLine i ⟨a.b, A'⟩, hka2.putLine hx ha g1 g2 (fun j hj => .inr (g3 j hj)), ⟨rfl, rfl⟩, (Keep.of_below (KF kb M) hbw).then g2 fun j _ hj => .inr (.inr ⟨a, List.mem_of_getElem? ha, hj⟩), fun j hj => ?_⟩
    rcases KF_line (kb := kb) ha (S := w.heap.size) (fun j hj => .inr (Nat.le_trans hbw.size (g3 j hj))) j hj with h | h
    · exact .inl h
    · exact .inr h
  have hk5 := k5
  obtain ⟨nl, hnl⟩ : ∃ nl, nl = k.lines.length := ⟨_, rfl⟩
  rw [← hnl] at k5 hil
  have hlc := hka1.ptrs.le
  have y0 := blk_cell hbox 0
  have y1 := blk_cell hbox 1
  simp at y0 y1
  have HS0 := hid (And.intro k5 (And.intro hc (And.intro y0 y1)))
  have HSK : Hid (∀ w' : World, w'.heap[kb]? = w1.heap[kb]? ∧ w'.heap[pb]? = w1.heap[pb]? ∧ w'.heap[w.heap.size]? = w1.heap[w.heap.size]? → w'.cell? ⟨kb, 5, none⟩ = some (.slice (some ⟨pb, po, none⟩) nl M.lc) ∧ w'.cell? ⟨pb, po + i, none⟩ = some (.pointer (some ⟨a.b, 0, none⟩)) ∧ w'.cell? ⟨w.heap.size, 0, none⟩ = some (.slice HA n c) ∧ w'.cell? ⟨w.heap.size, 1, none⟩ = some (.int .i64 lost)) := hid fun w' ⟨h1, h2, h3⟩ =>
    ⟨(World.cell?_of_block h1).trans HS0.out.1, (World.cell?_of_block h2).trans HS0.out.2.1, (World.cell?_of_block h3).trans HS0.out.2.2.1, (World.cell?_of_block h3).trans HS0.out.2.2.2⟩
  have hilz : (i : Int) < (nl : Int) := by omega
  clear hka hka1 ha hA hl o0 o1 o2 o3 o4 hnkb hnpb hnob hq hn hs hb1 hbox hk5 hnl k5 hc y0 y1 hlc hx hd
  go_enter Tryz.func90, Tryz.ntmps90
  go_upto_region 1 with fail
  rw [← hw1]
  clear hw1
  go_region_held3 (fun w' => w'.cell? ⟨kb, 5, none⟩ = some (.slice (some ⟨pb, po, none⟩) nl M.lc) ∧ w'.cell? ⟨pb, po + i, none⟩ = some (.pointer (some ⟨a.b, 0, none⟩)) ∧ w'.cell? ⟨w.heap.size, 0, none⟩ = some (.slice HA n c) ∧ w'.cell? ⟨w.heap.size, 1, none⟩ = some (.int .i64 lost))
    (exact HS0.out)
    (first | (go_at_call 138; refine (HFILL.out _ (Below.refl _ _).drew).mono ?_; rintro e w5 hfv; have he := hfv.1; subst he; replace HS0 := hid (HSK.out w5 (HKEEP.out _ w5 _ (Below.refl _ _).drew hfv)); have HFV := hid (HFIN.out _ w5 _ (Below.refl _ _).drew hfv); clear hfv))
  all_goals
    go_wp2_with fail
    go_ret
    exact HFV.out
end
set_option maxHeartbeats 1000000 in
/-- The time is set. -/
theorem kset_any {kb : Nat} {w : World} {M : KM} {k : Kst} (hka : KAt 145 215 147 w kb M k) (t : Int) :
    Calls Tryz.prog 86 #[.pointer (some ⟨kb, 0, none⟩), .int .i64 t] w fun e w' => e = .returned (.tuple #[]) ∧ KAt 145 215 147 w' kb M ⟨k.rooms, k.lines, t⟩ ∧ Keep (KF kb M) w w' := by
  obtain ⟨_, _, _, _, _, k6, kf, hkb⟩ := hka.cells
  have HKA := hid (hka.atTime t)
  have HKP : Hid (Keep (KF kb M) w (w.setCell ⟨kb, 6, none⟩ (.int .i64 t))) := hid ((Keep.refl _ _).setCell (.inl (.inl rfl)) _)
  clear hka
  go_enter Tryz.func86, Tryz.ntmps86
  go_wp2_with fail
  go_end0
  exact ⟨rfl, HKA.out, HKP.out⟩
end Go.Proofs.YtldllmhgofacbaaGreatDoor

/- Package snap: the contract of state, for every row of numbers. Conditions: none. -/
namespace Go.Proofs.YtldllmhgofacbaaGreatDoor
open Go.RowKit
set_option maxRecDepth 100000

theorem sstate_ret {w' : World} {a : Act} {b : Nat} {s : St} {fl : Bool} {R : Ending → World → Prop} (hx : w'.heap[b]? = some (.cells (stV s) 106 (0, 0))) (h2 : a.tmps[2]? = some (.pointer (some ⟨b, 0, none⟩))) (h3 : a.tmps[3]? = some (.bool fl)) (hd : a.defers = [])
    (h : R (.returned (.tuple #[.agg (stV s), .bool fl])) w') : bodyPost Tryz.prog Tryz.f87 R .ret a w' := by
  unfold stV at hx h
  have c0 := blk_cell hx 0
  have c1 := blk_cell hx 1
  have c2 := blk_cell hx 2
  have c3 := blk_cell hx 3
  have c4 := blk_cell hx 4
  have c5 := blk_cell hx 5
  have c6 := blk_cell hx 6
  have c7 := blk_cell hx 7
  simp at c0 c1 c2 c3 c4 c5 c6 c7
  refine bodyPost_ret ?_ hd h
  simp [results, Tryz.results87, go_sem, h2, h3, c0, c1, c2, c3, c4, c5, c6, c7]
def putSt (w : World) (b : Nat) (s : St) : World := (((((((w.setCell ⟨b, 0, none⟩ (.int .i64 s.pc)).setCell ⟨b, 1, none⟩ (.int .i64 s.c0)).setCell ⟨b, 2, none⟩ (.int .i64 s.c1)).setCell ⟨b, 3, none⟩ (.int .i64 s.c2)).setCell ⟨b, 4, none⟩ (.int .i64 s.c3)).setCell ⟨b, 5, none⟩ (.int .i64 s.c4)).setCell ⟨b, 6, none⟩ (.int .i64 s.c5)).setCell ⟨b, 7, none⟩ (.bool s.failed)
set_option maxHeartbeats 2000000 in
theorem putSt_at {w : World} {b : Nat} {s0 : St} (h : w.heap[b]? = some (.cells (stV s0) 106 (0, 0))) (s : St) : (putSt w b s).heap[b]? = some (.cells (stV s) 106 (0, 0)) := by
  unfold stV at h
  have h0 : (w.setCell ⟨b, 0, none⟩ (.int .i64 s.pc)).heap[b]? = some (.cells #[.int .i64 s.pc, .int .i64 s0.c0, .int .i64 s0.c1, .int .i64 s0.c2, .int .i64 s0.c3, .int .i64 s0.c4, .int .i64 s0.c5, .bool s0.failed] 106 (0, 0)) := blk_set h 0 _
  have h1 : ((w.setCell ⟨b, 0, none⟩ (.int .i64 s.pc)).setCell ⟨b, 1, none⟩ (.int .i64 s.c0)).heap[b]? = some (.cells #[.int .i64 s.pc, .int .i64 s.c0, .int .i64 s0.c1, .int .i64 s0.c2, .int .i64 s0.c3, .int .i64 s0.c4, .int .i64 s0.c5, .bool s0.failed] 106 (0, 0)) := blk_set h0 1 _
  have h2 : (((w.setCell ⟨b, 0, none⟩ (.int .i64 s.pc)).setCell ⟨b, 1, none⟩ (.int .i64 s.c0)).setCell ⟨b, 2, none⟩ (.int .i64 s.c1)).heap[b]? = some (.cells #[.int .i64 s.pc, .int .i64 s.c0, .int .i64 s.c1, .int .i64 s0.c2, .int .i64 s0.c3, .int .i64 s0.c4, .int .i64 s0.c5, .bool s0.failed] 106 (0, 0)) := blk_set h1 2 _
  have h3 : ((((w.setCell ⟨b, 0, none⟩ (.int .i64 s.pc)).setCell ⟨b, 1, none⟩ (.int .i64 s.c0)).setCell ⟨b, 2, none⟩ (.int .i64 s.c1)).setCell ⟨b, 3, none⟩ (.int .i64 s.c2)).heap[b]? = some (.cells #[.int .i64 s.pc, .int .i64 s.c0, .int .i64 s.c1, .int .i64 s.c2, .int .i64 s0.c3, .int .i64 s0.c4, .int .i64 s0.c5, .bool s0.failed] 106 (0, 0)) := blk_set h2 3 _
  have h4 : (((((w.setCell ⟨b, 0, none⟩ (.int .i64 s.pc)).setCell ⟨b, 1, none⟩ (.int .i64 s.c0)).setCell ⟨b, 2, none⟩ (.int .i64 s.c1)).setCell ⟨b, 3, none⟩ (.int .i64 s.c2)).setCell ⟨b, 4, none⟩ (.int .i64 s.c3)).heap[b]? = some (.cells #[.int .i64 s.pc, .int .i64 s.c0, .int .i64 s.c1, .int .i64 s.c2, .int .i64 s.c3, .int .i64 s0.c4, .int .i64 s0.c5, .bool s0.failed] 106 (0, 0)) := blk_set h3 4 _
  have h5 : ((((((w.setCell ⟨b, 0, none⟩ (.int .i64 s.pc)).setCell ⟨b, 1, none⟩ (.int .i64 s.c0)).setCell ⟨b, 2, none⟩ (.int .i64 s.c1)).setCell ⟨b, 3, none⟩ (.int .i64 s.c2)).setCell ⟨b, 4, none⟩ (.int .i64 s.c3)).setCell ⟨b, 5, none⟩ (.int .i64 s.c4)).heap[b]? = some (.cells #[.int .i64 s.pc, .int .i64 s.c0, .int .i64 s.c1, .int .i64 s.c2, .int .i64 s.c3, .int .i64 s.c4, .int .i64 s0.c5, .bool s0.failed] 106 (0, 0)) := blk_set h4 5 _
  have h6 : (((((((w.setCell ⟨b, 0, none⟩ (.int .i64 s.pc)).setCell ⟨b, 1, none⟩ (.int .i64 s.c0)).setCell ⟨b, 2, none⟩ (.int .i64 s.c1)).setCell ⟨b, 3, none⟩ (.int .i64 s.c2)).setCell ⟨b, 4, none⟩ (.int .i64 s.c3)).setCell ⟨b, 5, none⟩ (.int .i64 s.c4)).setCell ⟨b, 6, none⟩ (.int .i64 s.c5)).heap[b]? = some (.cells #[.int .i64 s.pc, .int .i64 s.c0, .int .i64 s.c1, .int .i64 s.c2, .int .i64 s.c3, .int .i64 s.c4, .int .i64 s.c5, .bool s0.failed] 106 (0, 0)) := blk_set h5 6 _
  have h7 : ((((((((w.setCell ⟨b, 0, none⟩ (.int .i64 s.pc)).setCell ⟨b, 1, none⟩ (.int .i64 s.c0)).setCell ⟨b, 2, none⟩ (.int .i64 s.c1)).setCell ⟨b, 3, none⟩ (.int .i64 s.c2)).setCell ⟨b, 4, none⟩ (.int .i64 s.c3)).setCell ⟨b, 5, none⟩ (.int .i64 s.c4)).setCell ⟨b, 6, none⟩ (.int .i64 s.c5)).setCell ⟨b, 7, none⟩ (.bool s.failed)).heap[b]? = some (.cells #[.int .i64 s.pc, .int .i64 s.c0, .int .i64 s.c1, .int .i64 s.c2, .int .i64 s.c3, .int .i64 s.c4, .int .i64 s.c5, .bool s.failed] 106 (0, 0)) := blk_set h6 7 _
  exact h7
set_option maxHeartbeats 2000000 in
theorem putSt_below {B : Nat} {w0 w : World} {b : Nat} (h : Below B w0 w) (hb : B ≤ b) (s : St) : Below B w0 (putSt w b s) := by
  unfold putSt
  exact (((((((h.setCell (p := ⟨b, 0, none⟩) hb _).setCell (p := ⟨b, 1, none⟩) hb _).setCell (p := ⟨b, 2, none⟩) hb _).setCell (p := ⟨b, 3, none⟩) hb _).setCell (p := ⟨b, 4, none⟩) hb _).setCell (p := ⟨b, 5, none⟩) hb _).setCell (p := ⟨b, 6, none⟩) hb _).setCell (p := ⟨b, 7, none⟩) hb _
theorem nums_lie {w : World} {A : Option Addr} {n : Nat} {ns : List Nat} (h : Sl w A 1 n (ints (ns.map Int.ofNat))) (hn : 0 < n) : ∃ b off, A = some ⟨b, off, none⟩ ∧ b < w.heap.size ∧ ∀ (j N : Nat), ns[j]? = some N → w.cell? ⟨b, off + j, none⟩ = some (.int .i64 (N : Int)) := by
  obtain ⟨b, off, hA, hb, hx⟩ := h.2 hn
  exact ⟨b, off, hA, hb, fun j N hj => hx j _ (by unfold ints; rw [List.getElem?_map, List.getElem?_map, hj]; rfl)⟩
def copy6 (w : World) (b : Nat) (a1 a2 a3 a4 a5 a6 : Int) : World := ((((((w.setCell ⟨b, 1, none⟩ (.int .i64 a1)).setCell ⟨b, 2, none⟩ (.int .i64 a2)).setCell ⟨b, 3, none⟩ (.int .i64 a3)).setCell ⟨b, 4, none⟩ (.int .i64 a4)).setCell ⟨b, 5, none⟩ (.int .i64 a5)).setCell ⟨b, 6, none⟩ (.int .i64 a6))
theorem copy6_at {w : World} {b T : Nat} {a1 a2 a3 a4 a5 a6 : Int} {x0 y1 y2 y3 y4 y5 y6 x7 : Value} (h : w.heap[b]? = some (.cells #[x0, y1, y2, y3, y4, y5, y6, x7] T (0, 0))) : (copy6 w b a1 a2 a3 a4 a5 a6).heap[b]? = some (.cells #[x0, .int .i64 a1, .int .i64 a2, .int .i64 a3, .int .i64 a4, .int .i64 a5, .int .i64 a6, x7] T (0, 0)) := by
  have u1 : (w.setCell ⟨b, 1, none⟩ (.int .i64 a1)).heap[b]? = some (.cells #[x0, .int .i64 a1, y2, y3, y4, y5, y6, x7] T (0, 0)) := blk_set h 1 _
  have u2 : ((w.setCell ⟨b, 1, none⟩ (.int .i64 a1)).setCell ⟨b, 2, none⟩ (.int .i64 a2)).heap[b]? = some (.cells #[x0, .int .i64 a1, .int .i64 a2, y3, y4, y5, y6, x7] T (0, 0)) := blk_set u1 2 _
  have u3 : (((w.setCell ⟨b, 1, none⟩ (.int .i64 a1)).setCell ⟨b, 2, none⟩ (.int .i64 a2)).setCell ⟨b, 3, none⟩ (.int .i64 a3)).heap[b]? = some (.cells #[x0, .int .i64 a1, .int .i64 a2, .int .i64 a3, y4, y5, y6, x7] T (0, 0)) := blk_set u2 3 _
  have u4 : ((((w.setCell ⟨b, 1, none⟩ (.int .i64 a1)).setCell ⟨b, 2, none⟩ (.int .i64 a2)).setCell ⟨b, 3, none⟩ (.int .i64 a3)).setCell ⟨b, 4, none⟩ (.int .i64 a4)).heap[b]? = some (.cells #[x0, .int .i64 a1, .int .i64 a2, .int .i64 a3, .int .i64 a4, y5, y6, x7] T (0, 0)) := blk_set u3 4 _
  have u5 : (((((w.setCell ⟨b, 1, none⟩ (.int .i64 a1)).setCell ⟨b, 2, none⟩ (.int .i64 a2)).setCell ⟨b, 3, none⟩ (.int .i64 a3)).setCell ⟨b, 4, none⟩ (.int .i64 a4)).setCell ⟨b, 5, none⟩ (.int .i64 a5)).heap[b]? = some (.cells #[x0, .int .i64 a1, .int .i64 a2, .int .i64 a3, .int .i64 a4, .int .i64 a5, y6, x7] T (0, 0)) := blk_set u4 5 _
  have u6 : ((((((w.setCell ⟨b, 1, none⟩ (.int .i64 a1)).setCell ⟨b, 2, none⟩ (.int .i64 a2)).setCell ⟨b, 3, none⟩ (.int .i64 a3)).setCell ⟨b, 4, none⟩ (.int .i64 a4)).setCell ⟨b, 5, none⟩ (.int .i64 a5)).setCell ⟨b, 6, none⟩ (.int .i64 a6)).heap[b]? = some (.cells #[x0, .int .i64 a1, .int .i64 a2, .int .i64 a3, .int .i64 a4, .int .i64 a5, .int .i64 a6, x7] T (0, 0)) := blk_set u5 6 _
  exact u6
theorem copy6_far {w : World} {b j : Nat} {a1 a2 a3 a4 a5 a6 : Int} (hj : j ≠ b) : (copy6 w b a1 a2 a3 a4 a5 a6).heap[j]? = w.heap[j]? := by
  unfold copy6
  rw [blk_far (by simpa using hj), blk_far (by simpa using hj), blk_far (by simpa using hj), blk_far (by simpa using hj), blk_far (by simpa using hj), blk_far (by simpa using hj)]
theorem copy6_below {B : Nat} {w0 w : World} {b : Nat} {a1 a2 a3 a4 a5 a6 : Int} (h : Below B w0 w) (hb : B ≤ b) : Below B w0 (copy6 w b a1 a2 a3 a4 a5 a6) := by
  unfold copy6
  exact (((((h.setCell (p := ⟨b, 1, none⟩) hb _).setCell (p := ⟨b, 2, none⟩) hb _).setCell (p := ⟨b, 3, none⟩) hb _).setCell (p := ⟨b, 4, none⟩) hb _).setCell (p := ⟨b, 5, none⟩) hb _).setCell (p := ⟨b, 6, none⟩) hb _
theorem drew_heap (w : World) : w.drew.heap = w.heap := rfl
/-- What state hands back. -/
def SStateGot (w : World) (s : St) (q : Bool) (e : Ending) (w' : World) : Prop := e = .returned (.tuple #[.agg (stV s), .bool q]) ∧ Below w.heap.size w w'
theorem sstate_fin {w w5 : World} {a : Act} {s0 : St} {p a1 a2 a3 a4 a5 a6 : Int} {bf : Bool} (h5 : w5.heap[w.heap.size]? = some (.cells (stV s0) 106 (0, 0))) (hb : Below w.heap.size w w5) (h2 : a.tmps[2]? = some (.pointer (some ⟨w.heap.size, 0, none⟩))) (h3 : a.tmps[3]? = some (.bool true)) (hd : a.defers = []) :
    bodyPost Tryz.prog Tryz.f87 (SStateGot w ⟨p, a1, a2, a3, a4, a5, a6, bf⟩ true) .ret a ((((((((w5.setCell ⟨w.heap.size, 0, none⟩ (.int .i64 p)).setCell ⟨w.heap.size, 1, none⟩ (.int .i64 a1)).setCell ⟨w.heap.size, 2, none⟩ (.int .i64 a2)).setCell ⟨w.heap.size, 3, none⟩ (.int .i64 a3)).setCell ⟨w.heap.size, 4, none⟩ (.int .i64 a4)).setCell ⟨w.heap.size, 5, none⟩ (.int .i64 a5)).setCell ⟨w.heap.size, 6, none⟩ (.int .i64 a6)).setCell ⟨w.heap.size, 7, none⟩ (.bool bf)) := by
  have e1 := putSt_at h5 ⟨p, a1, a2, a3, a4, a5, a6, bf⟩
  have e2 := putSt_below hb (Nat.le_refl _) ⟨p, a1, a2, a3, a4, a5, a6, bf⟩
  unfold putSt at e1 e2
  exact sstate_ret e1 h2 h3 hd ⟨rfl, e2⟩
theorem eight_of {ns : List Nat} (h : ns.length = 8) : ∃ a0 a1 a2 a3 a4 a5 a6 a7, ns = [a0, a1, a2, a3, a4, a5, a6, a7] := by
  match ns, h with
  | [a0, a1, a2, a3, a4, a5, a6, a7], _ => exact ⟨a0, a1, a2, a3, a4, a5, a6, a7, rfl⟩

set_option maxHeartbeats 4000000 in
theorem sstate_any (w : World) (A : Option Addr) (n c : Nat) (ns : List Nat) (hn : ns.length = n) (hnc : n ≤ c) (hs : Sl w A 1 n (ints (ns.map Int.ofNat))) :
    Calls Tryz.prog 87 #[.slice A n c] w (SStateGot w (if roomShape ns = true then stOf ns else St.zero) (roomShape ns)) := by
  obtain ⟨w1, hw1⟩ : ∃ w1, w1 = w.alloc (.cells #[.int .i64 0, .int .i64 0, .int .i64 0, .int .i64 0, .int .i64 0, .int .i64 0, .int .i64 0, .bool false] 106) := ⟨_, rfl⟩
  have hb1 : Below w.heap.size w w1 := by rw [hw1]; exact (Below.refl _ _).alloc (Nat.le_refl _) _
  have hbx : w1.heap[w.heap.size]? = some (.cells (stV St.zero) 106 (0, 0)) := by rw [hw1]; exact heap_alloc_new w _
  have HB1 := hid hb1
  have HBX := hid hbx
  by_cases h8 : n = 8
  rotate_left
  · have hsh : roomShape ns = false := by
      unfold roomShape
      exact decide_eq_false fun h => h8 (by rw [← hn]; exact h.1)
    rw [hsh, if_neg (by decide)]
    have hne : ((n : Int) != 8) = true := by simp; omega
    have hx := hbx
    unfold stV at hx
    have y0 := blk_cell hx 0
    have y1 := blk_cell hx 1
    have y2 := blk_cell hx 2
    have y3 := blk_cell hx 3
    have y4 := blk_cell hx 4
    have y5 := blk_cell hx 5
    have y6 := blk_cell hx 6
    have y7 := blk_cell hx 7
    have yf := fun o => blk_free hx o
    have hly := blk_lt hx
    simp [St.zero] at y0 y1 y2 y3 y4 y5 y6 y7
    clear hbx hb1 hx hs hn hsh
    go_enter Tryz.func87, Tryz.ntmps87
    go_upto_region 1 with fail
    rw [← hw1]
    clear hw1
    go_wp2_with fail
    exact sstate_ret (s := St.zero) (putSt_at HBX.out St.zero) rfl rfl rfl ⟨rfl, putSt_below HB1.out (Nat.le_refl _) St.zero⟩
  subst h8
  obtain ⟨a0, a1, a2, a3, a4, a5, a6, a7, rfl⟩ := eight_of hn
  obtain ⟨nb, no, rfl, hnl, gx⟩ := nums_lie hs (by decide)
  have gw : ∀ (w' : World), Below w.heap.size w w' → ∀ (j N : Nat), [a0, a1, a2, a3, a4, a5, a6, a7][j]? = some N → w'.cell? ⟨nb, no + j, none⟩ = some (.int .i64 (N : Int)) := fun w' hb j N hj => (hb.cell (p := ⟨nb, no + j, none⟩) hnl).trans (gx j N hj)
  have HG := hid gw
  have g7 := gw w1 hb1 7 a7 rfl
  have hnl1 := Nat.lt_of_lt_of_le hnl hb1.size
  have HNL := hid hnl
  by_cases h7 : a7 ≤ 1
  rotate_left
  · have hsh : roomShape [a0, a1, a2, a3, a4, a5, a6, a7] = false := by
      unfold roomShape
      exact decide_eq_false fun h => h7 h.2
    rw [hsh, if_neg (by decide)]
    have hgt : (1 : Int) < (a7 : Int) := by omega
    have hx := hbx
    unfold stV at hx
    have y0 := blk_cell hx 0
    have y1 := blk_cell hx 1
    have y2 := blk_cell hx 2
    have y3 := blk_cell hx 3
    have y4 := blk_cell hx 4
    have y5 := blk_cell hx 5
    have y6 := blk_cell hx 6
    have y7 := blk_cell hx 7
    have yf := fun o => blk_free hx o
    have hly := blk_lt hx
    simp [St.zero] at y0 y1 y2 y3 y4 y5 y6 y7
    clear hbx hb1 hx hs hn hsh gx gw
    go_enter Tryz.func87, Tryz.ntmps87
    go_upto_region 1 with fail
    rw [← hw1]
    clear hw1
    go_wp2_with fail
    exact sstate_ret (s := St.zero) (putSt_at HBX.out St.zero) rfl rfl rfl ⟨rfl, putSt_below HB1.out (Nat.le_refl _) St.zero⟩
  have hsh : roomShape [a0, a1, a2, a3, a4, a5, a6, a7] = true := by
    unfold roomShape
    exact decide_eq_true ⟨rfl, h7⟩
  rw [hsh, if_pos rfl]
  have hle : ¬ (1 : Int) < (a7 : Int) := by omega
  have g0 := gw w1 hb1 0 a0 rfl
  rw [Nat.add_zero] at g0
  clear hbx hb1 hs hn hsh gx gw
  go_enter Tryz.func87, Tryz.ntmps87
  go_upto_region 1 with fail
  rw [← hw1]
  clear hw1
  go_upto_region 3 with fail
  go_region
  go_upto_region 4 with fail
  obtain ⟨bf, hbf⟩ : ∃ bf, bf = ((a7 : Int) == 1) := ⟨_, rfl⟩
  rw [← hbf]
  have HBF : Hid (bf = decide (a7 = 1)) := hid (by
    rw [hbf]
    by_cases h : a7 = 1
    · subst h; rfl
    · rw [decide_eq_false h]; exact beq_eq_false_iff_ne.2 (by omega))
  obtain ⟨w4, hw4⟩ : ∃ w4, w4 = (w1.alloc (.cells #[.int .i64 a0, .int .i64 0, .int .i64 0, .int .i64 0, .int .i64 0, .int .i64 0, .int .i64 0, .bool bf] 106)).drew := ⟨_, rfl⟩
  have hb4 : Below w1.heap.size w1 w4 := by rw [hw4]; exact ((Below.refl _ _).alloc (Nat.le_refl _) _).drew
  have hs4 : w4.heap[w1.heap.size]? = some (.cells #[.int .i64 a0, .int .i64 0, .int .i64 0, .int .i64 0, .int .i64 0, .int .i64 0, .int .i64 0, .bool bf] 106 (0, 0)) := by rw [hw4]; exact heap_alloc_new w1 _
  rw [← hw4]
  obtain ⟨sb, hsb⟩ : ∃ sb, sb = w1.heap.size := ⟨_, rfl⟩
  rw [← hsb] at hs4 ⊢
  have HB4 := hid (HB1.out.trans (hb4.mono HB1.out.size))
  have hr4 : w4.heap[w.heap.size]? = some (.cells (stV St.zero) 106 (0, 0)) := (hb4.block _ (blk_lt HBX.out)).trans HBX.out
  have HSB : Hid (w.heap.size < sb) := hid (by rw [hsb]; exact blk_lt HBX.out)
  have hc : ∀ j v, [Value.int .i64 a1, .int .i64 a2, .int .i64 a3, .int .i64 a4, .int .i64 a5, .int .i64 a6][j]? = some v → w4.drew.cell? ((⟨nb, no + 1, none⟩ : Addr).add j) = some v := fun j v hj => by
    have e : (⟨nb, no + 1, none⟩ : Addr).add j = ⟨nb, no + (j + 1), none⟩ := by
      unfold Addr.add
      split
      · rename_i h
        simp_all
      · simp only [Addr.mk.injEq, and_true, true_and]; omega
    rw [e]
    have hg := HG.out w4 HB4.out (j + 1)
    match j, hj with
    | 0, hj => cases hj; exact hg _ rfl
    | 1, hj => cases hj; exact hg _ rfl
    | 2, hj => cases hj; exact hg _ rfl
    | 3, hj => cases hj; exact hg _ rfl
    | 4, hj => cases hj; exact hg _ rfl
    | 5, hj => cases hj; exact hg _ rfl
  have hcopy := run_copy_cells (P := Tryz.prog) w4.drew 64 64 3 3 sb 1 6 6 ⟨nb, no + 1, none⟩ 7 (c - 1) [.int .i64 a1, .int .i64 a2, .int .i64 a3, .int .i64 a4, .int .i64 a5, .int .i64 a6] Tryz.underlying64 (by kernel_rfl) rfl hc
    (fun j hj => by
      have h := blk_cell (show w4.drew.heap[sb]? = _ from hs4) (1 + j)
      rw [h]
      simp at hj ⊢; omega)
    (fun j _ => blk_free (show w4.drew.heap[sb]? = _ from hs4) (1 + j)) (by intro v hv; simp at hv; rcases hv with rfl | rfl | rfl | rfl | rfl | rfl <;> rfl)
  simp only [World.setCells] at hcopy
  have HS4 := hid hs4
  have HR4 := hid hr4
  have hlb := blk_lt hs4
  have hc1 : c ≠ 1 := by omega
  have hc1' : (c = 1) = False := eq_false hc1
  clear hw4 hb4 hs4 hr4 hc hsb hbf g7 hnl1 g0
  go_region
  go_upto_region 5 with fail
  obtain ⟨w5, hw5⟩ : ∃ w5, w5 = (copy6 w4 sb a1 a2 a3 a4 a5 a6).drew := ⟨_, rfl⟩
  have hst : (⟨a0, a1, a2, a3, a4, a5, a6, bf⟩ : St) = stOf [a0, a1, a2, a3, a4, a5, a6, a7] := by rw [HBF.out]; rfl
  have v5 : w5.heap[sb]? = some (.cells #[.int .i64 a0, .int .i64 a1, .int .i64 a2, .int .i64 a3, .int .i64 a4, .int .i64 a5, .int .i64 a6, .bool bf] 106 (0, 0)) := by
    rw [hw5, drew_heap]
    exact copy6_at HS4.out
  have hsbz := HSB.out
  have r5 : w5.heap[w.heap.size]? = some (.cells (stV St.zero) 106 (0, 0)) := by
    have hne5 : w.heap.size ≠ sb := by omega
    rw [hw5, drew_heap, copy6_far hne5]
    exact HR4.out
  have hb5 : Below w.heap.size w w5 := by
    rw [hw5]
    have hle5 : w.heap.size ≤ sb := by omega
    exact (copy6_below HB4.out hle5).drew
  unfold copy6 at hw5
  rw [← hw5]
  have HR5 := hid r5
  have HB5 := hid hb5
  have HST := hid hst
  have s0 := blk_cell v5 0
  have s1 := blk_cell v5 1
  have s2 := blk_cell v5 2
  have s3 := blk_cell v5 3
  have s4 := blk_cell v5 4
  have s5 := blk_cell v5 5
  have s6 := blk_cell v5 6
  have s7 := blk_cell v5 7
  have hls := blk_lt v5
  simp at s0 s1 s2 s3 s4 s5 s6 s7
  have hx := r5
  unfold stV at hx
  have y0 := blk_cell hx 0
  have y1 := blk_cell hx 1
  have y2 := blk_cell hx 2
  have y3 := blk_cell hx 3
  have y4 := blk_cell hx 4
  have y5 := blk_cell hx 5
  have y6 := blk_cell hx 6
  have y7 := blk_cell hx 7
  have yf := fun o => blk_free hx o
  have hly := blk_lt hx
  simp [St.zero] at y0 y1 y2 y3 y4 y5 y6 y7
  clear hw5 v5 r5 hb5 hx hcopy hlb hst hsbz
  go_wp2_with fail
  rw [← HST.out]
  exact sstate_fin HR5.out HB5.out rfl rfl rfl
end Go.Proofs.YtldllmhgofacbaaGreatDoor

/- Package kernel: the contract of Put. -/
namespace Go.Proofs.YtldllmhgofacbaaGreatDoor
open Go.RowKit
set_option maxRecDepth 100000
attribute [local go_sem ↓] Go.wp_at_zero Go.wp_at_succ

def KPut (TK TL TP : Nat) (w : World) (kb : Nat) (M : KM) (k' : Kst) (e : Ending) (w' : World) : Prop := e = .returned (.tuple #[]) ∧ KAt TK TL TP w' kb M k' ∧ Keep (KF kb M) w w'
section
variable {kb : Nat} {w : World} {M : KM} {k : Kst}
theorem kput_any (r : Nat) (s0 t : St) (_hn : k.rooms.length ≤ 5) (hka : KAt 145 215 147 w kb M k) (hg : k.rooms[r]? = some s0) :
    Calls Tryz.prog 89 #[.pointer (some ⟨kb, 0, none⟩), .int .i64 r, .agg #[.int .i64 t.pc, .int .i64 t.c0, .int .i64 t.c1, .int .i64 t.c2, .int .i64 t.c3, .int .i64 t.c4, .int .i64 t.c5, .bool t.failed]] w (KPut 145 215 147 w kb M ⟨k.rooms.set r t, k.lines, k.time⟩) := by
  have HKA := hid hka
  have HG := hid hg
  have hrl0 := (List.getElem?_eq_some_iff.1 hg).1
  clear hka hg
  obtain ⟨wc, hwc⟩ : ∃ wc, wc = w.alloc (.cells #[.int .i64 t.pc, .int .i64 t.c0, .int .i64 t.c1, .int .i64 t.c2, .int .i64 t.c3, .int .i64 t.c4, .int .i64 t.c5, .bool t.failed] 106) := ⟨_, rfl⟩
  have hbc : Below w.heap.size w wc := by rw [hwc]; exact (Below.refl _ _).alloc (Nat.le_refl _) _
  have hbx : wc.heap[w.heap.size]? = some (.cells #[.int .i64 t.pc, .int .i64 t.c0, .int .i64 t.c1, .int .i64 t.c2, .int .i64 t.c3, .int .i64 t.c4, .int .i64 t.c5, .bool t.failed] 106 (0, 0)) := by rw [hwc]; exact heap_alloc_new w _
  have HKC := hid (HKA.out.new hbc)
  obtain ⟨k0, k1, k2, k4, k5, k6, kf, hkb⟩ := HKC.out.cells
  obtain ⟨rb, roff, hrA, ⟨s0, s1, s2, s3, s4, s5, s6, s7⟩, hrf, hrb, hrkb, hrl, hrc, hrm⟩ := HKC.out.room HG.out
  rw [hrA] at k4
  obtain ⟨nr, hnr⟩ : ∃ nr, nr = k.rooms.length := ⟨_, rfl⟩
  rw [← hnr] at k4 hrl hrc hrl0
  unfold maxLen at hrm
  have hrl' : (r : Int) < (nr : Int) := by omega
  have p0 := blk_cell hbx 0
  have p1 := blk_cell hbx 1
  have p2 := blk_cell hbx 2
  have p3 := blk_cell hbx 3
  have p4 := blk_cell hbx 4
  have p5 := blk_cell hbx 5
  have p6 := blk_cell hbx 6
  have p7 := blk_cell hbx 7
  simp at p0 p1 p2 p3 p4 p5 p6 p7
  have HPUT : Hid (KPut 145 215 147 w kb M ⟨k.rooms.set r t, k.lines, k.time⟩ (.returned (.tuple #[])) (putAt wc rb (roff + r * 8) t)) :=
    ⟨rfl, HKC.out.putRoomAt hrA rfl HG.out t, (Keep.of_below _ hbc).then (putAt_keep _ _ _ _) fun j _ e => by subst e; exact .inr (.inl (by rw [hrA]; rfl))⟩
  have f0 := hrf (roff + r * 8)
  have f1 := hrf (roff + r * 8 + 1)
  have f2 := hrf (roff + r * 8 + 2)
  have f3 := hrf (roff + r * 8 + 3)
  have f4 := hrf (roff + r * 8 + 4)
  have f5 := hrf (roff + r * 8 + 5)
  have f6 := hrf (roff + r * 8 + 6)
  have f7 := hrf (roff + r * 8 + 7)
  have hbr : w.heap.size ≠ rb := fun e => by have := HKA.out.lt rb (.inl (.inr (.inl (by rw [hrA]; rfl)))); omega
  have hltx := blk_lt hbx
  clear hbx hrA hrf hnr k0 k1 k2 k5 k6 kf hbc HKC HKA HG
  obtain ⟨pc, c0, c1, c2, c3, c4, c5, f⟩ := t
  simp only [] at hwc p0 p1 p2 p3 p4 p5 p6 p7 ⊢
  go_enter Tryz.func89, Tryz.ntmps89
  go_upto_region 1 with fail
  rw [← hwc]
  clear hwc
  go_region
  all_goals
    go_wp2_with fail
    go_end0
    exact ⟨HPUT.out.1, HPUT.out.2.1.new (Below.refl _ _).drew, HPUT.out.2.2.then (Keep.of_below NoF (Below.refl _ _).drew) (fun _ _ h => h.elim)⟩
end
end Go.Proofs.YtldllmhgofacbaaGreatDoor

/- Package snap: what lies beside a kernel that is being loaded: the table, the row of states. Conditions: none. -/
namespace Go.Proofs.YtldllmhgofacbaaGreatDoor
open Go.RowKit
set_option maxRecDepth 100000

theorem TabAt.through {W W' : World} {L : List (List Nat)} {rs : List Il} {A : Option Addr} {n c : Nat} {F : Nat → Prop} (h : TabAt W L rs A n c) (hk : Keep F W W') (h1 : ∀ j, InA A j → ¬ F j) (h2 : ∀ r ∈ rs, ∀ j, InA r.A j → ¬ F j) : TabAt W' L rs A n c :=
  ⟨h.same, h.len, h.row.through hk h1, fun r hr => (h.rows r hr).through hk (h2 r hr)⟩
/-- A line of the table. -/
theorem TabAt.line {W : World} {L : List (List Nat)} {rs : List Il} {A : Option Addr} {n c i : Nat} {ns : List Nat} (h : TabAt W L rs A n c) (hi : L[i]? = some ns) :
    ∃ (b o : Nat) (B : Option Addr) (d : Nat), A = some ⟨b, o, none⟩ ∧ b < W.heap.size ∧ i < n ∧ n ≤ c ∧ c ≤ maxLen ∧ W.cell? ⟨b, o + i, none⟩ = some (.slice B ns.length d) ∧ Sl W B 1 ns.length (ints (ns.map Int.ofNat)) ∧ ns.length ≤ d ∧ d ≤ maxLen := by
  have hs := congrArg (fun l => l[i]?) h.same
  simp only [List.getElem?_map, hi, Option.map_some] at hs
  obtain ⟨r, hr, hl⟩ := Option.map_eq_some_iff.1 hs
  obtain ⟨b, off, cur, hA, hh, hsz, hin, hnc, hcm, hx⟩ := h.row.elem Il.cells Il.len (by decide) hr
  have hlen : r.l.length = ns.length := by rw [hl, List.length_map]
  have hrow := h.rows r (List.mem_of_getElem? hr)
  have hle := hrow.le
  rw [hlen] at hle
  refine ⟨b, off, r.A, r.c, hA, blk_lt hh, hin, hnc, hcm, ?_, ?_, hle.1, hle.2⟩
  · have h1 := hx 0 (.slice r.A r.l.length r.c) rfl
    rw [Nat.mul_one, Nat.add_zero, hlen] at h1
    exact (blk_cell hh _).trans h1
  · rw [← hlen, ← hl]; exact hrow.sl
theorem TabAt.lineA {W : World} {L : List (List Nat)} {rs : List Il} {b o : Nat} {n c i : Nat} {ns : List Nat} {B : Option Addr} {n' d : Nat} (h : TabAt W L rs (some ⟨b, o, none⟩) n c) (hi : L[i]? = some ns) (hc : W.cell? ⟨b, o + i, none⟩ = some (.slice B n' d)) : ∃ r ∈ rs, r.A = B := by
  have hs := congrArg (fun l => l[i]?) h.same
  simp only [List.getElem?_map, hi, Option.map_some] at hs
  obtain ⟨r, hr, hl⟩ := Option.map_eq_some_iff.1 hs
  obtain ⟨b', off, cur, hA, hh, hsz, hin, hnc, hcm, hx⟩ := h.row.elem Il.cells Il.len (by decide) hr
  cases hA
  have h1 := hx 0 (.slice r.A r.l.length r.c) rfl
  rw [Nat.mul_one, Nat.add_zero] at h1
  have h2 := (blk_cell hh (o + i)).trans h1
  rw [hc] at h2
  cases h2
  exact ⟨r, List.mem_of_getElem? hr, rfl⟩
/-- The first of a line's numbers. -/
theorem sl_first {W : World} {B : Option Addr} {ns : List Nat} (h : Sl W B 1 ns.length (ints (ns.map Int.ofNat))) (hn : ns ≠ []) : ∃ b o, B = some ⟨b, o, none⟩ ∧ b < W.heap.size ∧ W.cell? ⟨b, o, none⟩ = some (.int .i64 (gi ns 0)) := by
  cases ns with
  | nil => exact absurd rfl hn
  | cons a r =>
    obtain ⟨b, off, hA, hb, hx⟩ := nums_lie h (by simp)
    exact ⟨b, off, hA, hb, by have := hx 0 a rfl; rwa [Nat.add_zero] at this⟩
/-- Its rest. -/
theorem sl_rest {W : World} {b o : Nat} {ns : List Nat} (h : Sl W (some ⟨b, o, none⟩) 1 ns.length (ints (ns.map Int.ofNat))) (hn : ns ≠ []) : Sl W (some ⟨b, o + 1, none⟩) 1 ns.tail.length (ints (ns.tail.map Int.ofNat)) := by
  cases ns with
  | nil => exact absurd rfl hn
  | cons a r =>
    obtain ⟨b', off, hA, hb, hx⟩ := nums_lie h (by simp)
    cases hA
    refine ⟨by simp [ints], fun _ => ⟨b, o + 1, rfl, hb, fun j u hu => ?_⟩⟩
    unfold ints at hu
    rw [List.tail_cons, List.getElem?_map, List.getElem?_map] at hu
    obtain ⟨x, hx1, rfl⟩ := Option.map_eq_some_iff.1 hu
    obtain ⟨N, hN, rfl⟩ := Option.map_eq_some_iff.1 hx1
    rw [Nat.add_assoc, Nat.add_comm 1]
    exact hx (j + 1) N hN
/-- A state of a row. -/
theorem row_st {W : World} {A : Option Addr} {n c i : Nat} {l : List St} {s : St} (h : Row W 106 8 A n c (l.flatMap St.cells)) (hs : l[i]? = some s) : ∃ b off, A = some ⟨b, off, none⟩ ∧ StIn W b (off + i * 8) s ∧ b < W.heap.size ∧ i < n ∧ n ≤ c ∧ c ≤ maxLen := by
  obtain ⟨b, off, cur, hA, hh, hsz, hi, hnc, hcm, hx⟩ := h.elem St.cells St.len (by decide) hs
  have hc : ∀ j u, s.cells[j]? = some u → W.cell? ⟨b, off + i * 8 + j, none⟩ = some u := fun j u hu => by
    rw [Nat.add_assoc]; exact (blk_cell hh _).trans (hx j u hu)
  exact ⟨b, off, hA, ⟨hc 0 _ rfl, hc 1 _ rfl, hc 2 _ rfl, hc 3 _ rfl, hc 4 _ rfl, hc 5 _ rfl, hc 6 _ rfl, hc 7 _ rfl⟩, blk_lt hh, hi, hnc, hcm⟩
theorem state_cells1 (s : St) : ∀ u ∈ s.cells, u.oneCell' = true := by
  intro u hu
  simp [St.cells] at hu
  rcases hu with rfl | rfl | rfl | rfl | rfl | rfl | rfl | rfl <;> rfl
/-- Midway: a kernel that is being filled, the table, the row of states; the kernel lies below lo or from hi on. -/
structure LMid (w1 : World) (kb : Nat) (p : Pl) (lo hi : Nat) (L : List (List Nat)) (rs : List Il) (A : Option Addr) (n c : Nat) (sts : List St) (S : Option Addr) (sn sc : Nat) (M : KM) (k : Kst) (W : World) : Prop where
  run : KRun w1 W kb p M k
  tab : TabAt W L rs A n c
  row : Row W 106 8 S sn sc (sts.flatMap St.cells)
  kf : ∀ j, TF kb M j → j < lo ∨ hi ≤ j
  tf : ∀ j, InA A j → lo ≤ j ∧ j < hi
  rf : ∀ r ∈ rs, ∀ j, InA r.A j → lo ≤ j ∧ j < hi
  sf : ∀ j, InA S j → lo ≤ j ∧ j < hi
  big : hi ≤ W.heap.size
section
variable {w1 W W' : World} {kb lo hi n c sn sc : Nat} {p : Pl} {L : List (List Nat)} {rs : List Il} {A S : Option Addr} {sts : List St} {M M' : KM} {k k' : Kst}
theorem LMid.new (h : LMid w1 kb p lo hi L rs A n c sts S sn sc M k W) (hb : Below W.heap.size W W') : LMid w1 kb p lo hi L rs A n c sts S sn sc M k W' :=
  ⟨h.run.new hb, h.tab.new hb, h.row.new hb, h.kf, h.tf, h.rf, h.sf, Nat.le_trans h.big hb.size⟩
theorem TF_of {j : Nat} (h2 : M'.P = M.P ∧ M'.lA = M.lA) (h4 : ∀ j, KF kb M' j → KF kb M j ∨ W.heap.size ≤ j) (h : TF kb M' j) : TF kb M j ∨ W.heap.size ≤ j := by
  rcases h with h | h | h
  · exact (h4 j h).imp_left .inl
  · rw [h2.2] at h; exact .inl (.inr (.inl h))
  · rw [h2.1] at h; exact .inl (.inr (.inr h))
theorem LMid.went (h : LMid w1 kb p lo hi L rs A n c sts S sn sc M k W) (h1 : KAt 145 215 147 W' kb M' k') (h2 : M'.P = M.P ∧ M'.lA = M.lA) (h3 : Keep (KF kb M) W W') (h4 : ∀ j, KF kb M' j → KF kb M j ∨ W.heap.size ≤ j) : LMid w1 kb p lo hi L rs A n c sts S sn sc M' k' W' := by
  have hb := h.big
  have nk : ∀ j, lo ≤ j ∧ j < hi → ¬ KF kb M j := fun j hj hk => by have := h.kf j (.inl hk); omega
  refine ⟨h.run.ticked h1 h2 h3 h4, h.tab.through h3 (fun j hj => nk j (h.tf j hj)) (fun r hr j hj => nk j (h.rf r hr j hj)), h.row.through h3 (fun j hj => nk j (h.sf j hj)), fun j hj => ?_, h.tf, h.rf, h.sf, Nat.le_trans hb h3.size⟩
  rcases TF_of h2 h4 hj with h5 | h5
  · exact h.kf j h5
  · exact .inr (by omega)
theorem LMid.went0 (h : LMid w1 kb p lo hi L rs A n c sts S sn sc M k W) (h1 : KAt 145 215 147 W' kb M k') (h3 : Keep (KF kb M) W W') : LMid w1 kb p lo hi L rs A n c sts S sn sc M k' W' :=
  h.went h1 ⟨rfl, rfl⟩ h3 fun _ hj => .inl hj
end
/-- What Load hands back. -/
def SLoadGot (w : World) (p : Pl) (t : ByteArray) (e : Ending) (w' : World) : Prop :=
  (∃ L, Tab (wordsOf p.code.length p.wires.length) t.data.toList L ∧ ((loadE p L = 0 ∧ ∃ kb M, e = .returned (.tuple #[.pointer (some ⟨kb, 0, none⟩), .nilIface]) ∧ KRun w w' kb p M (loadK p L)) ∨ (loadE p L ≠ 0 ∧ e = .returned (.tuple #[.pointer none, errV (loadE p L)]) ∧ Below w.heap.size w w'))) ∨
  ((∀ L, ¬ Tab (wordsOf p.code.length p.wires.length) t.data.toList L) ∧ e = .returned (.tuple #[.pointer none, errV 2]) ∧ Below w.heap.size w w')
end Go.Proofs.YtldllmhgofacbaaGreatDoor

/- Plain: what a load finds, line by line. No program is walked. Conditions: none. -/
namespace Go.Proofs.YtldllmhgofacbaaGreatDoor

theorem rooms_get {nr i : Nat} {L : List (List Nat)} (hi : i < nr) : (roomsT nr L)[i]? = L[1 + i]? := by
  unfold roomsT
  rw [List.getElem?_take_of_lt hi, List.getElem?_drop]
theorem wires_get {nr i : Nat} {L : List (List Nat)} : (wiresT nr L)[i]? = L[1 + nr + i]? := by
  unfold wiresT
  rw [List.getElem?_drop]
theorem head_get {h0 : List Nat} {L : List (List Nat)} (h : L[0]? = some h0) : headT L = h0 := by
  cases L with
  | nil => cases h
  | cons a r => unfold headT; simpa using h
theorem shape_not {p : Pl} {L : List (List Nat)} (h : shapeOk p L = false) : loadE p L = 2 := by
  unfold loadE; rw [h]; rfl
theorem load_head {p : Pl} {L : List (List Nat)} (h : (headT L).length ≠ 1) : loadE p L = 2 := by
  refine shape_not ?_
  unfold shapeOk
  rw [decide_eq_false h]; rfl
theorem load_room {p : Pl} {L : List (List Nat)} {ns : List Nat} (hm : ns ∈ roomsT p.code.length L) (h : roomShape ns = false) : loadE p L = 2 := by
  refine shape_not ?_
  unfold shapeOk
  rw [show (roomsT p.code.length L).all roomShape = false from List.all_eq_false.2 ⟨ns, hm, by rw [h]; decide⟩, Bool.and_false]; rfl
theorem load_wire {p : Pl} {L : List (List Nat)} {ns : List Nat} (hm : ns ∈ wiresT p.code.length L) (h : wireShape ns = false) : loadE p L = 2 := by
  refine shape_not ?_
  unfold shapeOk
  rw [show (wiresT p.code.length L).all wireShape = false from List.all_eq_false.2 ⟨ns, hm, by rw [h]; decide⟩, Bool.and_false]
theorem shape_yes {p : Pl} {L : List (List Nat)} (h1 : (headT L).length = 1) (h2 : ∀ ns ∈ roomsT p.code.length L, roomShape ns = true) (h3 : ∀ ns ∈ wiresT p.code.length L, wireShape ns = true) : shapeOk p L = true := by
  unfold shapeOk
  rw [decide_eq_true h1, List.all_eq_true.2 h2, List.all_eq_true.2 h3]; rfl
theorem mem_zip {α β : Type} {l : List α} {l' : List β} {i : Nat} {x : α} {y : β} (hx : l[i]? = some x) (hy : l'[i]? = some y) : (x, y) ∈ l.zip l' := by
  refine List.mem_of_getElem? (i := i) ?_
  rw [List.getElem?_zip_eq_some]
  exact ⟨hx, hy⟩
theorem fit_room {p : Pl} {L : List (List Nat)} {i : Nat} {c : List Op} {ns : List Nat} (hs : shapeOk p L = true) (hc : p.code[i]? = some c) (hn : (roomsT p.code.length L)[i]? = some ns) (h : roomFits c ns = false) : loadE p L = 1 := by
  have hf : fitsOk p L = false := by
    unfold fitsOk
    rw [show ((p.code.zip (roomsT p.code.length L)).all fun x => roomFits x.1 x.2) = false from List.all_eq_false.2 ⟨(c, ns), mem_zip hc hn, by rw [h]; decide⟩, Bool.false_and]
  unfold loadE; rw [hs, hf]; rfl
theorem fit_wire {p : Pl} {L : List (List Nat)} {i : Nat} {x : Wire} {ns : List Nat} (hs : shapeOk p L = true) (hc : p.wires[i]? = some x) (hn : (wiresT p.code.length L)[i]? = some ns) (h : wireFits x ns = false) : loadE p L = 1 := by
  have hf : fitsOk p L = false := by
    unfold fitsOk
    rw [show ((p.wires.zip (wiresT p.code.length L)).all fun x => wireFits x.1 x.2) = false from List.all_eq_false.2 ⟨(x, ns), mem_zip hc hn, by rw [h]; decide⟩, Bool.and_false]
  unfold loadE; rw [hs, hf]; rfl
theorem fit_yes {p : Pl} {L : List (List Nat)} (hs : shapeOk p L = true) (h1 : ∀ (i : Nat) c ns, p.code[i]? = some c → (roomsT p.code.length L)[i]? = some ns → roomFits c ns = true) (h2 : ∀ (i : Nat) x ns, p.wires[i]? = some x → (wiresT p.code.length L)[i]? = some ns → wireFits x ns = true) : loadE p L = 0 := by
  refine loadE_ok.2 ⟨hs, ?_⟩
  unfold fitsOk
  rw [List.all_eq_true.2 ?_, List.all_eq_true.2 ?_]; rfl
  · rintro ⟨x, ns⟩ hx
    obtain ⟨i, hi⟩ := List.getElem?_of_mem hx
    obtain ⟨h3, h4⟩ := List.getElem?_zip_eq_some.1 hi
    exact h2 i x ns h3 h4
  · rintro ⟨c, ns⟩ hx
    obtain ⟨i, hi⟩ := List.getElem?_of_mem hx
    obtain ⟨h3, h4⟩ := List.getElem?_zip_eq_some.1 hi
    exact h1 i c ns h3 h4
theorem fits_same (x : Wire) (n : List Nat) : lnFits x (n.tail.map Int.ofNat) (gi n 0) = wireFits x n := by
  unfold lnFits wireFits
  rw [List.length_map]
  congr 1
  induction n.tail with
  | nil => rfl
  | cons a r ih =>
    rw [List.map_cons, List.any_cons, List.all_cons, Bool.not_or, ih]
    congr 1
    unfold farCell
    by_cases h : a < 1000
    · rw [decide_eq_true h, decide_eq_false (by simp only [Int.ofNat_eq_natCast]; omega)]; rfl
    · rw [decide_eq_false h, decide_eq_true (by simp only [Int.ofNat_eq_natCast]; omega)]; rfl
/-- So many are new, the rest is old. -/
def mix {α : Type} (new old : List α) (i : Nat) : List α := new.take i ++ old.drop i
theorem mix_zero {α : Type} (new old : List α) : mix new old 0 = old := by simp [mix]
theorem mix_all {α : Type} {new old : List α} (h : new.length = old.length) : mix new old new.length = new := by
  unfold mix; rw [h, List.drop_length, List.append_nil, ← h, List.take_length]
theorem mix_full {α : Type} {new old : List α} {n : Nat} (h1 : new.length = n) (h2 : old.length = n) : mix new old n = new := by
  subst h1; exact mix_all h2.symm
theorem mix_get {α : Type} {new old : List α} {i : Nat} (h : i ≤ new.length) : (mix new old i)[i]? = old[i]? := by
  unfold mix
  rw [List.getElem?_append_right (by rw [List.length_take]; omega), List.length_take, Nat.min_eq_left h, Nat.sub_self, List.getElem?_drop, Nat.add_zero]
theorem mix_set {α : Type} {new old : List α} {i : Nat} {x : α} (h : new[i]? = some x) (ho : i < old.length) : (mix new old i).set i x = mix new old (i + 1) := by
  obtain ⟨hi, rfl⟩ := List.getElem?_eq_some_iff.1 h
  unfold mix
  have hl : (new.take i).length = i := by rw [List.length_take]; omega
  rw [List.set_append_right _ _ (by omega), hl, Nat.sub_self, List.drop_eq_getElem_cons ho, List.set_cons_zero, List.take_add_one, h, List.append_assoc]
  rfl
theorem mix_len {α : Type} {new old : List α} (h : new.length = old.length) (i : Nat) : (mix new old i).length = old.length := by
  unfold mix; rw [List.length_append, List.length_take, List.length_drop]; omega
/-- The states of the table, the lines. -/
def stsT (p : Pl) (L : List (List Nat)) : List St := (roomsT p.code.length L).map stOf
def lnsT (p : Pl) (L : List (List Nat)) : List Ln := (p.wires.zip (wiresT p.code.length L)).map fun x => lnOf x.1 x.2
theorem stsT_get {p : Pl} {L : List (List Nat)} {i : Nat} {ns : List Nat} (hi : i < p.code.length) (h : L[1 + i]? = some ns) : (stsT p L)[i]? = some (stOf ns) := by
  unfold stsT; rw [List.getElem?_map, rooms_get hi, h]; rfl
theorem lnsT_get {p : Pl} {L : List (List Nat)} {i : Nat} {ns : List Nat} {x : Wire} (hx : p.wires[i]? = some x) (h : L[1 + p.code.length + i]? = some ns) : (lnsT p L)[i]? = some (lnOf x ns) := by
  unfold lnsT
  have hz : (p.wires.zip (wiresT p.code.length L))[i]? = some (x, ns) := List.getElem?_zip_eq_some.2 ⟨hx, wires_get.trans h⟩
  rw [List.getElem?_map, hz]; rfl
theorem stsT_len {p : Pl} {L : List (List Nat)} (hl : L.length = 1 + p.code.length + p.wires.length) : (stsT p L).length = p.code.length := by
  unfold stsT; rw [List.length_map, (tab_parts hl).2.1]
theorem lnsT_len {p : Pl} {L : List (List Nat)} (hl : L.length = 1 + p.code.length + p.wires.length) : (lnsT p L).length = p.wires.length := by
  unfold lnsT; rw [List.length_map, List.length_zip, (tab_parts hl).2.2, Nat.min_self]
theorem loadK_eq (p : Pl) (L : List (List Nat)) : loadK p L = ⟨stsT p L, lnsT p L, gi (headT L) 0⟩ := rfl
theorem take_succ_st {l : List St} {i : Nat} {s : St} (h : l[i]? = some s) : (l.take (i + 1)).flatMap St.cells = (l.take i).flatMap St.cells ++ s.cells := by
  rw [List.take_add_one, h]; simp
theorem take_all_st {l : List St} {n : Nat} (h : l.length = n) : l.take n = l := by rw [← h, List.take_length]
end Go.Proofs.YtldllmhgofacbaaGreatDoor
