/- Several parts: each begins with what it says. -/
import Derived.Test.YthdmgighblhmhaaGreatDoorLineU
import Derived.Test.YthdmgighblhmhaaGreatDoorWaysU
import Derived.Test.YthdmgighblhmhaaGreatDoorFrameU
/- Package frameref1: contracts of the reference's line, Send and Take. -/
namespace Go.Proofs.YthdmgighblhmhaaGreatDoor
open Go.RowKit
set_option maxRecDepth 100000

/-- The reference's line at block b. -/
def RLineAt (w : World) (b : Nat) (A : Option Addr) (x : Wire) (items : List Int) (lost : Int) : Prop :=
  ∃ cap, w.heap[b]? = some (.cells #[.int .i64 x.fr, .int .i64 x.to, .int .i64 x.kind, .int .i64 x.deep, .slice A items.length cap, .int .i64 lost] 67 (0, 0)) ∧
    Row w 3 1 A items.length cap (ints items)
theorem RLineAt.keep {w w' : World} {b : Nat} {A : Option Addr} {x : Wire} {items : List Int} {lost : Int} (h : RLineAt w b A x items lost) (hk : ∀ k, LF b A k → k < w.heap.size → w'.heap[k]? = w.heap[k]?) : RLineAt w' b A x items lost := by
  obtain ⟨cap, h1, h2⟩ := h
  exact ⟨cap, (hk b (.inl rfl) (blk_lt h1)).trans h1, h2.keep fun k hi hl => hk k (.inr hi) hl⟩
theorem RLineAt.lt {w : World} {b : Nat} {A : Option Addr} {x : Wire} {items : List Int} {lost : Int} (h : RLineAt w b A x items lost) : ∀ k, LF b A k → k < w.heap.size := by
  obtain ⟨cap, h1, h2⟩ := h
  rintro k (rfl | hk)
  · exact blk_lt h1
  · exact h2.lt k hk
theorem RLineAt.new {w w' : World} {b : Nat} {A : Option Addr} {x : Wire} {items : List Int} {lost : Int} (h : RLineAt w b A x items lost) (hb : Below w.heap.size w w') : RLineAt w' b A x items lost :=
  h.keep fun k _ hl => hb.block k hl
theorem rlineFacts {w : World} {b : Nat} {A : Option Addr} {x : Wire} {n cap : Nat} {lost : Int}
    (h : w.heap[b]? = some (.cells #[.int .i64 x.fr, .int .i64 x.to, .int .i64 x.kind, .int .i64 x.deep, .slice A n cap, .int .i64 lost] 67 (0, 0))) : LineFacts w b A cap x n lost :=
  ⟨blk_cell h 2, blk_cell h 3, blk_cell h 4, blk_cell h 5, blk_free h 4, blk_free h 5, blk_lt h⟩
def RSent (w : World) (b : Nat) (A : Option Addr) (x : Wire) (r : Bool × List Int × Int) (e : Ending) (w' : World) : Prop :=
  ∃ A', e = .returned (.bool r.1) ∧ RLineAt w' b A' x r.2.1 r.2.2 ∧ Keep (LF b A) w w' ∧ (∀ k, InA A' k → InA A k ∨ w.heap.size ≤ k)

theorem rsend_sample (b : Nat) (n : Int) (w : World) (A : Option Addr) (x : Wire) (items : List Int) (lost : Int) (hk : x.kind = 1) (hl : RLineAt w b A x items lost) :
    Calls Tryz.prog 70 #[.pointer (some ⟨b, 0, none⟩), .int .i64 n] w (RSent w b A x (true, [n], lost)) := by
  obtain ⟨cap, hb, hr⟩ := hl
  obtain ⟨c2, c3, c4, c5, f4, f5, hlt⟩ := rlineFacts hb
  have HB := hid hb
  have HR := hid hr
  clear hb hr
  rw [hk] at c2
  clear hk
  go_enter Tryz.func70, Tryz.ntmps70
  go_wp2
  go_ret
  have hb := HB.out
  have hne : b ≠ w.heap.size := by omega
  refine ⟨some ⟨w.heap.size, 0, none⟩, rfl, ⟨1, ?_, ⟨by simp [ints], .inr ⟨w.heap.size, 0, #[.int .i64 n], rfl, ?_, by simp, by simp [maxLen], by simp, ?_⟩⟩⟩, ?_, ?_⟩
  · simp [hp_set, hp_alloc, hb, hne, setObj]
  · simp only [hp_set, hp_alloc, sz_set]; simp
  · intro j u hu
    simp [ints] at hu ⊢
    match j, hu with
    | 0, hu => simpa using hu
  · repeat (first | exact Keep.refl _ _ | refine Keep.alloc ?_ _ | refine Keep.setCell ?_ (.inl (.inl rfl)) _)
  · intro k hk; simp [InA] at hk; right; omega

theorem rsend_full (b : Nat) (n : Int) (w : World) (A : Option Addr) (x : Wire) (items : List Int) (lost : Int) (hk : x.kind = 2) (hd : (items.length : Int) = x.deep) (_h6 : items.length ≤ 6)
    (l0 : 0 ≤ lost) (l1 : lost < 4611686018427387904) (hl : RLineAt w b A x items lost) :
    Calls Tryz.prog 70 #[.pointer (some ⟨b, 0, none⟩), .int .i64 n] w (RSent w b A x (false, items, lost + 1)) := by
  obtain ⟨cap, hb, hr⟩ := hl
  obtain ⟨c2, c3, c4, c5, f4, f5, hlt⟩ := rlineFacts hb
  have HB := hid hb
  have HR := hid hr
  have HK := hid hk
  have HD := hid hd
  rw [hk] at c2
  rw [← hd] at c3
  clear hb hr hk hd
  obtain ⟨m, hm⟩ : ∃ m, m = items.length := ⟨_, rfl⟩
  rw [← hm] at c3 c4 _h6
  have HM := hid hm
  clear hm
  go_enter Tryz.func70, Tryz.ntmps70
  go_wp2
  go_quiet (fail)
  go_wp2
  go_ret
  have hb := HB.out
  have hr := HR.out
  have hk := HK.out
  have hap := hr.apart hb (by decide)
  refine ⟨A, rfl, ⟨cap, ?_, ?_⟩, ?_, fun k hk => .inl hk⟩
  · simp [hp_set, hb, setObj, hk]
  · exact hr.keep fun k hi hl => by
      have : k ≠ b := fun e => hap (by subst e; exact hi)
      simp [hp_set, this]
  · repeat (first | exact Keep.refl _ _ | refine Keep.drewN ?_ _ | refine Keep.alloc ?_ _ | refine Keep.setCell ?_ (.inl (.inl rfl)) _)

def RTook (w : World) (b : Nat) (A : Option Addr) (x : Wire) (items : List Int) (lost : Int) (e : Ending) (w' : World) : Prop :=
  ∃ A', e = .returned (.tuple #[.int .i64 (items.headD 0), .bool (!items.isEmpty)]) ∧ RLineAt w' b A' x (lineTake x items) lost ∧ Keep (LF b A) w w' ∧ (∀ k, InA A' k → InA A k)

theorem rtake_none (b : Nat) (w : World) (A : Option Addr) (x : Wire) (lost : Int) (hl : RLineAt w b A x [] lost) :
    Calls Tryz.prog 68 #[.pointer (some ⟨b, 0, none⟩)] w (RTook w b A x [] lost) := by
  have HL := hid hl
  obtain ⟨cap, hb, hr⟩ := hl
  obtain ⟨c2, c3, c4, c5, f4, f5, hlt⟩ := rlineFacts hb
  clear hb hr
  simp only [List.length_nil] at c4
  go_enter Tryz.func68, Tryz.ntmps68
  go_wp2
  go_ret2
  exact ⟨A, rfl, by simpa [lineTake] using HL.out, Keep.refl _ _, fun _ h => h⟩

theorem rtake_sample (b : Nat) (w : World) (A : Option Addr) (x : Wire) (i : Int) (r : List Int) (lost : Int) (h6 : (i :: r).length ≤ 6) (hk : x.kind = 1) (hl : RLineAt w b A x (i :: r) lost) :
    Calls Tryz.prog 68 #[.pointer (some ⟨b, 0, none⟩)] w (RTook w b A x (i :: r) lost) := by
  have HL := hid hl
  obtain ⟨cap, hb, hr⟩ := hl
  obtain ⟨c2, c3, c4, c5, f4, f5, hlt⟩ := rlineFacts hb
  have hle := hr.le
  have hs := hr.sl.2
  rw [hk] at c2
  have HK := hid hk
  clear hb hr c3 c5 f4 f5 hk
  obtain ⟨b2, off, rfl, hb2, hx⟩ := hs (by simp)
  have g0 : w.cell? ⟨b2, off, none⟩ = some (.int .i64 i) := hx 0 _ rfl
  clear hx hs
  unfold maxLen at hle
  obtain ⟨m, hm⟩ : ∃ m, m = (i :: r).length := ⟨_, rfl⟩
  rw [← hm] at c4 hle h6
  have h0 : 0 < m := by rw [hm]; simp
  clear hm
  have h7 : ((m : Int) == 0) = false := by simp; omega
  go_enter Tryz.func68, Tryz.ntmps68
  go_wp2
  go_ret2
  exact ⟨_, rfl, by simpa [lineTake, HK.out] using HL.out, Keep.refl _ _, fun _ h => h⟩

theorem rtake_queue (b : Nat) (w : World) (A : Option Addr) (x : Wire) (i : Int) (r : List Int) (lost : Int) (h6 : (i :: r).length ≤ 6) (hk : x.kind = 2) (hl : RLineAt w b A x (i :: r) lost) :
    Calls Tryz.prog 68 #[.pointer (some ⟨b, 0, none⟩)] w (RTook w b A x (i :: r) lost) := by
  obtain ⟨cap, hb, hr⟩ := hl
  obtain ⟨c2, c3, c4, c5, f4, f5, hlt⟩ := rlineFacts hb
  have hap := hr.apart hb (by decide)
  have hle := hr.le
  have ht := hr.tail (k := 1) (by simp)
  have hs := hr.sl.2
  rw [hk] at c2
  obtain ⟨b2, off, rfl, hb2, hx⟩ := hs (by simp)
  have g0 : w.cell? ⟨b2, off, none⟩ = some (.int .i64 i) := hx 0 _ rfl
  obtain ⟨m, hm⟩ : ∃ m, m = (i :: r).length := ⟨_, rfl⟩
  rw [← hm] at c4 hle ht h6
  have hm1 : 0 < m := by rw [hm]; simp
  unfold maxLen at hle
  have HB := hid hb
  have HK := hid hk
  have HM := hid hm
  have HAP := hid hap
  have HT := hid ht
  clear hb hr hk hm hap ht c3 c5 f5 hs hx
  have h7 : ((m : Int) == 0) = false := by simp; omega
  by_cases hc : cap = 1
  · subst hc
    obtain rfl : m = 1 := by omega
    go_enter Tryz.func68, Tryz.ntmps68
    go_wp2
    go_ret2
    have hb := HB.out
    have hk := HK.out
    have hm := HM.out
    have hap := HAP.out
    have ht := HT.out
    have e1 : (lineTake x (i :: r)).length = 0 := (by have h3 : r.length = 0 := by { simpa using hm.symm }; simp [lineTake, hk, h3])
    have e2 : ints (lineTake x (i :: r)) = (ints (i :: r)).drop 1 := by simp [lineTake, hk, ints]
    refine ⟨some ⟨b2, off, none⟩, rfl, ⟨0, ?_, ?_⟩, (Keep.refl _ _).setCell (.inl (.inl rfl)) _, ?_⟩
    · rw [e1]
      simp only [hp_set, hb, if_true, Option.map_some, setObj, hk]
      rfl
    · rw [e1, e2]
      refine Row.setCell (by simpa using ht) ?_ _
      intro h
      exact hap h
    · intro k hk'; exact hk'
  · go_enter Tryz.func68, Tryz.ntmps68
    go_wp2
    go_ret2
    have hb := HB.out
    have hk := HK.out
    have hm := HM.out
    have hap := HAP.out
    have ht := HT.out
    have e1 : (lineTake x (i :: r)).length = m - 1 := by simp [lineTake, hk, hm]
    have e2 : ints (lineTake x (i :: r)) = (ints (i :: r)).drop 1 := by simp [lineTake, hk, ints]
    refine ⟨some ⟨b2, off + 1, none⟩, rfl, ⟨cap - 1, ?_, ?_⟩, (Keep.refl _ _).setCell (.inl (.inl rfl)) _, ?_⟩
    · rw [e1]
      simp only [hp_set, hb, if_true, Option.map_some, setObj, hk]
      rfl
    · rw [e1, e2]
      refine Row.setCell (by rw [if_neg hc] at ht; simpa [Addr.add] using ht) ?_ _
      intro h
      apply hap
      revert h
      simp [InA]
    · intro k
      simp [InA]
theorem rtake_any (b : Nat) (w : World) (A : Option Addr) (x : Wire) (items : List Int) (lost : Int) (h6 : items.length ≤ 6) (hk : x.kind = 1 ∨ x.kind = 2) (hl : RLineAt w b A x items lost) :
    Calls Tryz.prog 68 #[.pointer (some ⟨b, 0, none⟩)] w (RTook w b A x items lost) := by
  cases items with
  | nil => exact rtake_none b w A x lost hl
  | cons i r =>
    rcases hk with hk | hk
    · exact rtake_sample b w A x i r lost h6 hk hl
    · exact rtake_queue b w A x i r lost h6 hk hl

set_option maxHeartbeats 400000 in
theorem rsend_room (b : Nat) (n : Int) (w : World) (A : Option Addr) (x : Wire) (items : List Int) (lost : Int) (hk : x.kind = 2) (hd : (items.length : Int) < x.deep) (h6 : items.length ≤ 6)
    (hl : RLineAt w b A x items lost) :
    Calls Tryz.prog 70 #[.pointer (some ⟨b, 0, none⟩), .int .i64 n] w (RSent w b A x (true, items ++ [n], lost)) := by
  obtain ⟨cap, hb, hr⟩ := hl
  obtain ⟨c2, c3, c4, c5, f4, f5, hlt⟩ := rlineFacts hb
  have hsl := hr.sl
  have HB := hid hb
  have HK := hid hk
  have HSL := hid hsl
  rw [hk] at c2
  have hdd : decide (((items.length : Nat) : Int) < x.deep) = true := decide_eq_true hd
  clear hb hr hk hd hsl
  obtain ⟨m, hm⟩ : ∃ m, m = items.length := ⟨_, rfl⟩
  rw [← hm] at c4 h6 hdd HSL
  have HM := hid hm
  clear hm
  obtain ⟨i0, hi, hz0, hz1, hz2⟩ := info_parts Tryz.infoInt
  go_enter Tryz.func70, Tryz.ntmps70
  go_wp2
  go_quiet (fail)
  go_wp2_with (at_builtin; refine wpList_append_row _ rfl _ _ 63 rfl 3 i0 (.int .i64 0) 1 8 Tryz.underlying63 hi hz0 hz1 hz2 rfl (by decide) none 0 0 [] rfl (Row.nil _ _ _) A m cap (ints items) rfl ?c1 ?c2 ?c3 ?c4 ?_)
  case c1 => exact HSL.out.keep (Nat.le_refl _) fun _ _ _ => rfl
  case c2 => exact ints_one _
  case c3 => unfold maxLen; omega
  case c4 => omega
  intro A1 cap1 w1 hrow1 hkeep1 hin1
  have hrow1' : Row w1 3 1 A1 m cap1 (ints items) := by simpa using hrow1
  have hin1' : ∀ k, InA A1 k → w.heap.size ≤ k := fun k hk => by
    rcases hin1 k hk with h | h
    · simp [InA] at h
    · simpa using h
  have hk1 : Keep NoF w w1 := ((Keep.refl _ _).drewN _).then hkeep1 fun i _ h => by simp [InA] at h
  have hb1 : w1.heap[b]? = w.heap[b]? := hk1.block b hlt (fun h => h)
  have hlt1 : b < w1.heap.size := Nat.lt_of_lt_of_le hlt hk1.size
  have HR1 : Hid (∀ o, Row (w1.alloc o) 3 1 A1 m cap1 (ints items)) := fun o => hrow1'.alloc o
  have HI1 := hid hin1'
  have HK1 := hid hk1
  have HB1 := hid hb1
  clear hrow1 hkeep1 hin1 hrow1' hin1' hk1 hb1
  go_wp2_with (at_builtin; refine wpList_append_row _ rfl _ _ 63 rfl 3 i0 (.int .i64 0) 1 8 Tryz.underlying63 hi hz0 hz1 hz2 rfl (by decide) A1 m cap1 (ints items) rfl (HR1.out _) (some ⟨w1.heap.size, 0, none⟩) 1 1 (ints [n]) rfl ?c1 ?c2 ?c3 ?c4 ?_)
  case c1 => exact ⟨rfl, fun _ => ⟨w1.heap.size, 0, rfl, by simp, fun j u hu => by
      match j, hu with
      | 0, hu => simp [ints] at hu; subst hu; exact blk_cell (heap_alloc_new w1 _) 0⟩⟩
  case c2 => exact ints_one _
  case c3 => unfold maxLen; omega
  case c4 => omega
  intro A' cap' w' hrow' hkeep' hin'
  have hne : ¬ InA A1 b := fun h => by have := HI1.out b h; omega
  have hb' : w'.heap[b]? = w.heap[b]? := ((hkeep'.block b (by simp; omega) hne).trans (blk_alloc hlt1 _)).trans HB1.out
  have hlt' : b < w'.heap.size := by have := hkeep'.size; simp at this; omega
  have cf : w'.frozen? ⟨b, 4, none⟩ = false := (World.frozen?_of_block (w := w) (a := ⟨b, 4, none⟩) hb').trans f4
  have cc : w'.cell? ⟨b, 4, none⟩ = some (.slice A m cap) := (World.cell?_of_block (w := w) (a := ⟨b, 4, none⟩) hb').trans c4
  have HB' := hid hb'
  have HR' := hid hrow'
  have HK' := hid hkeep'
  have HI' := hid hin'
  clear hrow' hkeep' hin' hb'
  go_wp2
  go_ret
  have hb := HB.out
  have hk := HK.out
  have hm := HM.out
  have hrow' := HR'.out
  have hb' := HB'.out
  subst hm
  have hnew : ∀ k, InA A' k → w.heap.size ≤ k := fun k hk => by
    rcases HI'.out k hk with h | h
    · exact HI1.out k h
    · have := HK1.out.size; omega
  have hap' : ¬ InA A' b := fun h => by have := hnew b h; omega
  refine ⟨A', rfl, ⟨cap', ?_, ?_⟩, ?_, fun k hk => .inr (hnew k hk)⟩
  · simp only [hp_set, hb', hb, if_true, Option.map_some, setObj]; simp
  · have hr2 : Row (w'.setCell ⟨b, 4, none⟩ (.slice A' (items.length + 1) cap')) 3 1 A' (items.length + 1) cap' (ints items ++ ints [n]) := hrow'.setCell hap' _
    simpa [ints] using hr2
  · refine Keep.setCell ?_ (.inl (.inl rfl)) _
    exact ((HK1.out.mono (fun _ _ h => h.elim)).alloc _).then HK'.out fun i hi h => absurd hi (by have := HI1.out i h; omega)

theorem rsend_any (b : Nat) (n : Int) (w : World) (A : Option Addr) (x : Wire) (items : List Int) (lost : Int) (hk : x.kind = 1 ∨ x.kind = 2) (h6 : items.length ≤ 6) (hd : (items.length : Int) ≤ x.deep)
    (l0 : 0 ≤ lost) (l1 : lost < 4611686018427387904) (hl : RLineAt w b A x items lost) :
    Calls Tryz.prog 70 #[.pointer (some ⟨b, 0, none⟩), .int .i64 n] w (RSent w b A x (lineSend x items lost n)) := by
  unfold lineSend
  by_cases k1 : x.kind = 1
  · rw [if_pos k1]; exact rsend_sample b n w A x items lost k1 hl
  · rw [if_neg k1]
    have k2 : x.kind = 2 := by omega
    by_cases hd' : (items.length : Int) = x.deep
    · rw [if_pos hd']; exact rsend_full b n w A x items lost k2 hd' h6 l0 l1 hl
    · rw [if_neg hd']; exact rsend_room b n w A x items lost k2 (by omega) h6 hl
end Go.Proofs.YthdmgighblhmhaaGreatDoor

/- The reference of chapter 4: contracts of its Wire and Wires. -/
namespace Go.Proofs.YthdmgighblhmhaaGreatDoor
open Go.RowKit
set_option maxRecDepth 100000

def wireBad (a b c d : Int) : Prop := a < 0 ∨ 4 < a ∨ b < 0 ∨ 4 < b ∨ c < 1 ∨ 2 < c ∨ d < 1 ∨ 6 < d ∨ (c = 1 ∧ d ≠ 1)
theorem wireChk_bad {a b c d : Int} (h : wireBad a b c d) : wireChk ⟨a, b, c, d⟩ = 1 := by
  unfold wireChk
  rw [if_pos]
  simp only [roomB_false]
  unfold wireBad at h
  omega
theorem wireChk_else {a b c d : Int} (h : ¬ wireBad a b c d) : wireChk ⟨a, b, c, d⟩ = if a = b then 3 else 0 := by
  unfold wireChk
  rw [if_neg]
  simp only [roomB_false]
  unfold wireBad at h
  omega

def TellV (w : World) (v : Int) (e : Ending) (w' : World) : Prop := e = .returned (.int .i64 v) ∧ Below w.heap.size w w'

def TellII (w : World) (r : Nat × Int) (e : Ending) (w' : World) : Prop := e = .returned (.tuple #[.int .i64 r.1, .int .i64 r.2]) ∧ Below w.heap.size w w'

end Go.Proofs.YthdmgighblhmhaaGreatDoor

/- The reference of chapter 3: contracts of its Frame and Who. -/
namespace Go.Proofs.YthdmgighblhmhaaGreatDoor
open Go.RowKit
set_option maxRecDepth 100000

set_option maxHeartbeats 1000000 in
/-- Who: whose a tick is. -/
theorem rwho_any (ticks t : Int) (A : Option Addr) (n c : Nat) (l : List Span) (w : World) (hn : l.length = n) (hs : Sl w A 3 n (l.flatMap Span.cells)) (hsw : SlW A c n) (h1 : 1 ≤ ticks) (h2 : ticks ≤ 40) (h3 : 0 ≤ t) (_h4 : t ≤ 9223372036854775807) :
    Calls Tryz.prog 67 #[.int .i64 ticks, .slice A n c, .int .i64 t] w (TellV w (turnAt l (t % ticks))) := by
  subst hn
  obtain ⟨hs1, hs2, hs3⟩ := hsw
  unfold maxLen at hs2
  have HS := hid hs
  clear hs hs3
  have hm0 := Int.emod_nonneg t (show ticks ≠ 0 by omega)
  have hm1 := Int.emod_lt_of_pos t (show 0 < ticks by omega)
  have hmod : t.tmod ticks = t % ticks := Int.tmod_eq_emod_of_nonneg h3
  obtain ⟨m, hm⟩ : ∃ m, t % ticks = m := ⟨_, rfl⟩
  rw [hm] at hm0 hm1 hmod ⊢
  have ht0 : ¬ (ticks = 0) := by omega
  clear hm
  go_enter Tryz.func67, Tryz.ntmps67
  go_wp2_with fail
  go_loopw [7] (fun v7 wr => ∃ k : Nat, k ≤ l.length ∧ v7 = .int .i64 k ∧ (∀ j s, j < k → l[j]? = some s → ¬ (s.fr ≤ m ∧ m < s.to)) ∧ Below w.heap.size w wr) (fun v7 _ => l.length - (intOf v7).toNat)
  case atStart => exact ⟨0, by omega, rfl, fun j s hj => absurd hj (by omega), Below.refl _ _⟩
  case round =>
    obtain ⟨k, hk, rfl, hno, hb⟩ := hrel
    have HNO := hid hno
    have HB := hid hb
    clear hno hb
    by_cases hlt : k < l.length
    · obtain ⟨b, off, rfl, _, g0, g1, g2⟩ := HS.out.span HB.out hlt hlt
      have hget := List.getElem?_eq_getElem hlt
      generalize l[k] = s at g0 g1 g2 hget
      have HG := hid hget
      clear hget
      by_cases q1 : s.fr ≤ m
      · by_cases q2 : m < s.to
        · go_wp2_with fail
          go_quiet (fail)
          go_wp2_with fail
          go_ret
          refine ⟨ret_i ?_, ⟨HB.out.os, HB.out.tape, HB.out.output, HB.out.size, HB.out.block⟩⟩
          rw [turnAt_hit HNO.out HG.out ⟨q1, q2⟩]
        · have hd : decide (m < s.to) = false := decide_eq_false q2
          go_wp2_with fail
          go_quiet (fail)
          go_wp2_with fail
          go_roundw
          case rel => exact ⟨k + 1, by omega, by go_num, no_snoc HNO.out HG.out (by omega), ⟨HB.out.os, HB.out.tape, HB.out.output, HB.out.size, HB.out.block⟩⟩
          case measure => simp [intOf]; omega
      · have hd : decide (s.fr ≤ m) = false := decide_eq_false q1
        go_wp2_with fail
        go_quiet (fail)
        go_wp2_with fail
        go_roundw
        case rel => exact ⟨k + 1, by omega, by go_num, no_snoc HNO.out HG.out (by omega), ⟨HB.out.os, HB.out.tape, HB.out.output, HB.out.size, HB.out.block⟩⟩
        case measure => simp [intOf]; omega
    · obtain rfl : k = l.length := by omega
      go_wp2_with fail
      go_ret
      refine ⟨ret_i ?_, HB.out⟩
      rw [turnAt_none HNO.out]

theorem take_any_false {l : List Span} {s : Span} {k : Nat} (h : ∀ j x, j < k → l[j]? = some x → ¬ spanMeets s x = true) : (l.take k).any (spanMeets s) = false := by
  rw [List.any_eq_false]
  intro x hx
  obtain ⟨j, hj, rfl⟩ := List.getElem_of_mem hx
  rw [List.length_take] at hj
  refine h j _ (by omega) ?_
  rw [List.getElem_take]
  exact List.getElem?_eq_getElem (by omega)
theorem take_any_true {l : List Span} {s x : Span} {k j : Nat} (hj : j < k) (hx : l[j]? = some x) (h : spanMeets s x = true) : (l.take k).any (spanMeets s) = true := by
  refine List.any_eq_true.2 ⟨x, ?_, h⟩
  refine List.mem_of_getElem? (i := j) ?_
  rw [List.getElem?_take, if_pos hj]; exact hx

end Go.Proofs.YthdmgighblhmhaaGreatDoor
