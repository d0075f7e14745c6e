/- Several parts: each begins with what it says. -/
import Derived.Test.YthdmgighblhmhaaGreatDoorWire
/- Package wire: contracts of New, Send, Peek, Take, Held, for every line: what it holds then, and which blocks were written. -/
namespace Go.Proofs.YthdmgighblhmhaaGreatDoor
open Go.RowKit
set_option maxRecDepth 100000

theorem Tryz.infoInt : (Tryz.prog.info? 3).map (fun i => (i.zero, i.size, i.bytes)) = some (some (.int .i64 0), 1, 8) := by kernel_rfl

def ints (l : List Int) : List Value := l.map (.int .i64)
theorem ints_len (l : List Int) : (ints l).length = l.length := by simp [ints]
theorem ints_app (l m : List Int) : ints (l ++ m) = ints l ++ ints m := by simp [ints]
theorem ints_one (l : List Int) : ∀ u ∈ ints l, u.oneCell' = true := by
  intro u hu; simp [ints] at hu; obtain ⟨a, _, rfl⟩ := hu; rfl

/-- A line at block b: its wire, what it holds (in the row at A), how many were lost. -/
def LineAt (w : World) (b : Nat) (A : Option Addr) (x : Wire) (items : List Int) (lost : Int) : Prop :=
  ∃ cap, w.heap[b]? = some (.cells #[.int .i64 x.fr, .int .i64 x.to, .int .i64 x.kind, .int .i64 x.deep, .slice A items.length cap, .int .i64 lost] 120 (0, 0)) ∧
    Row w 3 1 A items.length cap (ints items)
def LF (b : Nat) (A : Option Addr) : Nat → Prop := fun k => k = b ∨ InA A k

theorem LineAt.keep {w w' : World} {b : Nat} {A : Option Addr} {x : Wire} {items : List Int} {lost : Int} (h : LineAt w b A x items lost) (hk : ∀ k, LF b A k → k < w.heap.size → w'.heap[k]? = w.heap[k]?) : LineAt w' b A x items lost := by
  obtain ⟨cap, h1, h2⟩ := h
  exact ⟨cap, (hk b (.inl rfl) (blk_lt h1)).trans h1, h2.keep fun k hi hl => hk k (.inr hi) hl⟩
theorem LineAt.lt {w : World} {b : Nat} {A : Option Addr} {x : Wire} {items : List Int} {lost : Int} (h : LineAt w b A x items lost) : ∀ k, LF b A k → k < w.heap.size := by
  obtain ⟨cap, h1, h2⟩ := h
  rintro k (rfl | hk)
  · exact blk_lt h1
  · exact h2.lt k hk
theorem LineAt.new {w w' : World} {b : Nat} {A : Option Addr} {x : Wire} {items : List Int} {lost : Int} (h : LineAt w b A x items lost) (hb : Below w.heap.size w w') : LineAt w' b A x items lost :=
  h.keep fun k _ hl => hb.block k hl

structure LineFacts (w : World) (b : Nat) (A : Option Addr) (cap : Nat) (x : Wire) (n : Nat) (lost : Int) : Prop where
  c2 : w.cell? ⟨b, 2, none⟩ = some (.int .i64 x.kind)
  c3 : w.cell? ⟨b, 3, none⟩ = some (.int .i64 x.deep)
  c4 : w.cell? ⟨b, 4, none⟩ = some (.slice A n cap)
  c5 : w.cell? ⟨b, 5, none⟩ = some (.int .i64 lost)
  f4 : w.frozen? ⟨b, 4, none⟩ = false
  f5 : w.frozen? ⟨b, 5, none⟩ = false
  lt : b < w.heap.size

theorem lineFacts {w : World} {b : Nat} {A : Option Addr} {x : Wire} {n cap : Nat} {lost : Int}
    (h : w.heap[b]? = some (.cells #[.int .i64 x.fr, .int .i64 x.to, .int .i64 x.kind, .int .i64 x.deep, .slice A n cap, .int .i64 lost] 120 (0, 0))) : LineFacts w b A cap x n lost :=
  ⟨blk_cell h 2, blk_cell h 3, blk_cell h 4, blk_cell h 5, blk_free h 4, blk_free h 5, blk_lt h⟩

def lineSend (x : Wire) (items : List Int) (lost n : Int) : Bool × List Int × Int :=
  if x.kind = 1 then (true, [n], lost) else if (items.length : Int) = x.deep then (false, items, lost + 1) else (true, items ++ [n], lost)
def lineTake (x : Wire) (items : List Int) : List Int := if x.kind = 2 then items.tail else items

def Sent (w : World) (b : Nat) (A : Option Addr) (x : Wire) (r : Bool × List Int × Int) (e : Ending) (w' : World) : Prop :=
  ∃ A', e = .returned (.tuple #[.bool r.1, .nilIface]) ∧ LineAt w' b A' x r.2.1 r.2.2 ∧ Keep (LF b A) w w' ∧ (∀ k, InA A' k → InA A k ∨ w.heap.size ≤ k)

theorem send_bad (b : Nat) (n : Int) (w : World) (h : n < 0 ∨ 1000 ≤ n) :
    Calls Tryz.prog 113 #[.pointer (some ⟨b, 0, none⟩), .int .i64 n] w fun e w' => e = .returned (.tuple #[.bool false, errV 1]) ∧ w = w' := by
  rcases h with h | h <;>
  · go_enter Tryz.func113, Tryz.ntmps113
    go_wp2
    go_ret2
    exact ⟨rfl, rfl⟩

theorem send_sample (b : Nat) (n : Int) (w : World) (A : Option Addr) (x : Wire) (items : List Int) (lost : Int) (h0 : 0 ≤ n) (h1 : n < 1000) (hk : x.kind = 1) (hl : LineAt w b A x items lost) :
    Calls Tryz.prog 113 #[.pointer (some ⟨b, 0, none⟩), .int .i64 n] w (Sent w b A x (true, [n], lost)) := by
  obtain ⟨cap, hb, hr⟩ := hl
  obtain ⟨c2, c3, c4, c5, f4, f5, hlt⟩ := lineFacts hb
  have HB := hid hb
  have HR := hid hr
  clear hb hr
  rw [hk] at c2
  clear hk
  go_enter Tryz.func113, Tryz.ntmps113
  go_wp2
  go_ret2
  have hb := HB.out
  have hne : b ≠ w.heap.size := by omega
  refine ⟨some ⟨w.heap.size, 0, none⟩, rfl, ⟨1, ?_, ⟨by simp [ints], .inr ⟨w.heap.size, 0, #[.int .i64 n], rfl, ?_, by simp, by simp [maxLen], by simp, ?_⟩⟩⟩, ?_, ?_⟩
  · simp [hp_set, hp_alloc, hb, hne, setObj]
  · simp only [hp_set, hp_alloc, sz_set]; simp
  · intro j u hu
    simp [ints] at hu ⊢
    match j, hu with
    | 0, hu => simpa using hu
  · repeat (first | exact Keep.refl _ _ | refine Keep.alloc ?_ _ | refine Keep.setCell ?_ (.inl (.inl rfl)) _)
  · intro k hk; simp [InA] at hk; right; omega

theorem send_full (b : Nat) (n : Int) (w : World) (A : Option Addr) (x : Wire) (items : List Int) (lost : Int) (h0 : 0 ≤ n) (h1 : n < 1000) (hk : x.kind = 2) (hd : (items.length : Int) = x.deep) (_h6 : items.length ≤ 6)
    (l0 : 0 ≤ lost) (l1 : lost < 4611686018427387904) (hl : LineAt w b A x items lost) :
    Calls Tryz.prog 113 #[.pointer (some ⟨b, 0, none⟩), .int .i64 n] w (Sent w b A x (false, items, lost + 1)) := by
  obtain ⟨cap, hb, hr⟩ := hl
  obtain ⟨c2, c3, c4, c5, f4, f5, hlt⟩ := lineFacts hb
  have HB := hid hb
  have HR := hid hr
  have HK := hid hk
  have HD := hid hd
  rw [hk] at c2
  rw [← hd] at c3
  clear hb hr hk hd
  obtain ⟨m, hm⟩ : ∃ m, m = items.length := ⟨_, rfl⟩
  rw [← hm] at c3 c4 _h6
  have HM := hid hm
  clear hm
  go_enter Tryz.func113, Tryz.ntmps113
  go_wp2
  go_quiet (fail)
  go_wp2
  go_ret2
  have hb := HB.out
  have hr := HR.out
  have hk := HK.out
  have hap := hr.apart hb (by decide)
  refine ⟨A, rfl, ⟨cap, ?_, ?_⟩, ?_, fun k hk => .inl hk⟩
  · simp [hp_set, hb, setObj, hk]
  · exact hr.keep fun k hi hl => by
      have : k ≠ b := fun e => hap (by subst e; exact hi)
      simp [hp_set, this]
  · repeat (first | exact Keep.refl _ _ | refine Keep.drewN ?_ _ | refine Keep.alloc ?_ _ | refine Keep.setCell ?_ (.inl (.inl rfl)) _)

set_option maxHeartbeats 400000 in
theorem send_room (b : Nat) (n : Int) (w : World) (A : Option Addr) (x : Wire) (items : List Int) (lost : Int) (h0 : 0 ≤ n) (h1 : n < 1000) (hk : x.kind = 2) (hd : (items.length : Int) ≠ x.deep) (h6 : items.length ≤ 6)
    (hl : LineAt w b A x items lost) :
    Calls Tryz.prog 113 #[.pointer (some ⟨b, 0, none⟩), .int .i64 n] w (Sent w b A x (true, items ++ [n], lost)) := by
  obtain ⟨cap, hb, hr⟩ := hl
  obtain ⟨c2, c3, c4, c5, f4, f5, hlt⟩ := lineFacts hb
  have hap := hr.apart hb (by decide)
  have hrow : ∀ o, Row (w.alloc o) 3 1 A items.length cap (ints items) := fun o => hr.alloc o
  have hrl := hr.lt
  have HB := hid hb
  have HK := hid hk
  have HAP := hid hap
  have HRL := hid hrl
  rw [hk] at c2
  have hdd : (((items.length : Nat) : Int) == x.deep) = false := by simpa using hd
  clear hb hr hk hd hap hrl
  have HW := hid hrow
  clear hrow
  obtain ⟨m, hm⟩ : ∃ m, m = items.length := ⟨_, rfl⟩
  rw [← hm] at c4 h6 hdd HW
  have HM := hid hm
  clear hm
  obtain ⟨i0, hi, hz0, hz1, hz2⟩ := info_parts Tryz.infoInt
  go_enter Tryz.func113, Tryz.ntmps113
  go_wp2
  go_quiet (fail)
  go_wp2_with (at_builtin; refine wpList_append_row _ rfl _ _ 63 rfl 3 i0 (.int .i64 0) 1 8 Tryz.underlying63 hi hz0 hz1 hz2 rfl (by decide) A m cap (ints items) rfl (HW.out _) (some ⟨w.heap.size, 0, none⟩) 1 1 (ints [n]) rfl ?c1 ?c2 ?c3 ?c4 ?_)
  case c1 => exact ⟨rfl, fun _ => ⟨w.heap.size, 0, rfl, by simp, fun j u hu => by
      match j, hu with
      | 0, hu => simp [ints] at hu; subst hu; exact blk_cell (heap_alloc_new (w.drewN _) _) 0⟩⟩
  case c2 => exact ints_one _
  case c3 => unfold maxLen; omega
  case c4 => omega
  intro A' cap' w' hrow' hkeep' hin'
  have hb := HB.out
  have hm := HM.out
  have hap := HAP.out
  have hb' : w'.heap[b]? = w.heap[b]? := (hkeep'.block b (by simp; omega) hap).trans (blk_alloc hlt _)
  have hlt' : b < w'.heap.size := by have := hkeep'.size; simp at this; omega
  have cf : w'.frozen? ⟨b, 4, none⟩ = false := (World.frozen?_of_block (w := w) (a := ⟨b, 4, none⟩) hb').trans f4
  have cc : w'.cell? ⟨b, 4, none⟩ = some (.slice A m cap) := (World.cell?_of_block (w := w) (a := ⟨b, 4, none⟩) hb').trans c4
  have HB' := hid hb'
  have HM' := hid hm
  have HR' := hid hrow'
  have HK' := hid hkeep'
  have HI' := hid hin'
  have HAP := hid hap
  clear hrow' hkeep' hin' hb' hb hm hap
  go_wp2
  go_ret2
  have hb := HB.out
  have hk := HK.out
  have hm := HM.out
  have hrow' := HR'.out
  have hkeep' := HK'.out
  have hin' := HI'.out
  have hb' := HB'.out
  subst hm
  have hap' : ¬ InA A' b := by
    intro h
    rcases hin' b h with h | h
    · exact HAP.out h
    · omega
  refine ⟨A', rfl, ⟨cap', ?_, ?_⟩, ?_, ?_⟩
  · simp only [hp_set, hb', hb, if_true, Option.map_some, setObj]; simp
  · have hr2 : Row (w'.setCell ⟨b, 4, none⟩ (.slice A' (items.length + 1) cap')) 3 1 A' (items.length + 1) cap' (ints items ++ ints [n]) := hrow'.setCell hap' _
    simpa [ints] using hr2
  · refine Keep.setCell ?_ (.inl (.inl rfl)) _
    exact (((Keep.refl _ _).drewN _).alloc _).then hkeep' fun i _ h => .inr h
  · intro k hk
    rcases hin' k hk with h | h
    · exact .inl h
    · right; omega

theorem send_any (b : Nat) (n : Int) (w : World) (A : Option Addr) (x : Wire) (items : List Int) (lost : Int) (h0 : 0 ≤ n) (h1 : n < 1000) (hk : x.kind = 1 ∨ x.kind = 2) (h6 : items.length ≤ 6)
    (l0 : 0 ≤ lost) (l1 : lost < 4611686018427387904) (hl : LineAt w b A x items lost) :
    Calls Tryz.prog 113 #[.pointer (some ⟨b, 0, none⟩), .int .i64 n] w (Sent w b A x (lineSend x items lost n)) := by
  unfold lineSend
  by_cases k1 : x.kind = 1
  · rw [if_pos k1]; exact send_sample b n w A x items lost h0 h1 k1 hl
  · rw [if_neg k1]
    have k2 : x.kind = 2 := by omega
    by_cases hd : (items.length : Int) = x.deep
    · rw [if_pos hd]; exact send_full b n w A x items lost h0 h1 k2 hd h6 l0 l1 hl
    · rw [if_neg hd]; exact send_room b n w A x items lost h0 h1 k2 hd h6 hl

theorem peek_any (b : Nat) (w : World) (A : Option Addr) (x : Wire) (items : List Int) (lost : Int) (h6 : items.length ≤ 6) (hl : LineAt w b A x items lost) :
    Calls Tryz.prog 110 #[.pointer (some ⟨b, 0, none⟩)] w fun e w' => e = .returned (.tuple #[.int .i64 (items.headD 0), .bool (!items.isEmpty)]) ∧ w = w' := by
  obtain ⟨cap, hb, hr⟩ := hl
  obtain ⟨c2, c3, c4, c5, f4, f5, hlt⟩ := lineFacts hb
  have hle := hr.le
  have hs := hr.sl.2
  clear hb hr c2 c3 c5 f4 f5
  cases items with
  | nil =>
    clear hs
    go_enter Tryz.func110, Tryz.ntmps110
    go_wp2
    go_ret2
    exact ⟨rfl, rfl⟩
  | cons i r =>
    obtain ⟨b2, off, rfl, hb2, hx⟩ := hs (by simp)
    have g0 : w.cell? ⟨b2, off, none⟩ = some (.int .i64 i) := hx 0 _ rfl
    clear hx
    unfold maxLen at hle
    simp only [List.length_cons] at c4 hle h6
    have h7 : (((r.length + 1 : Nat) : Int) == 0) = false := by simp; omega
    have h8 : ((r.length : Int) + 1 == 0) = false := by simp; omega
    have h9 : 0 < r.length + 1 := by omega
    go_enter Tryz.func110, Tryz.ntmps110
    go_wp2
    go_ret2
    exact ⟨rfl, rfl⟩

def Took (w : World) (b : Nat) (A : Option Addr) (x : Wire) (items : List Int) (lost : Int) (e : Ending) (w' : World) : Prop :=
  ∃ A', e = .returned (.tuple #[.int .i64 (items.headD 0), errV (if items = [] then 5 else 0)]) ∧ LineAt w' b A' x (lineTake x items) lost ∧ Keep (LF b A) w w' ∧ (∀ k, InA A' k → InA A k)

theorem take_none (b : Nat) (w : World) (A : Option Addr) (x : Wire) (lost : Int) (hl : LineAt w b A x [] lost) :
    Calls Tryz.prog 112 #[.pointer (some ⟨b, 0, none⟩)] w (Took w b A x [] lost) := by
  have HL := hid hl
  clear hl
  go_enter Tryz.func112, Tryz.ntmps112
  go_wp2_with (go_at_call 110; refine (peek_any _ _ A x [] lost (by simp) HL.out).mono ?_; rintro e w' ⟨rfl, rfl⟩)
  go_ret2
  exact ⟨A, rfl, by simpa [lineTake] using HL.out, Keep.refl _ _, fun _ h => h⟩

theorem take_sample (b : Nat) (w : World) (A : Option Addr) (x : Wire) (i : Int) (r : List Int) (lost : Int) (h6 : (i :: r).length ≤ 6) (hk : x.kind = 1) (hl : LineAt w b A x (i :: r) lost) :
    Calls Tryz.prog 112 #[.pointer (some ⟨b, 0, none⟩)] w (Took w b A x (i :: r) lost) := by
  have c2 : w.cell? ⟨b, 2, none⟩ = some (.int .i64 x.kind) := by obtain ⟨cap, hb, hr⟩ := hl; exact (lineFacts hb).c2
  rw [hk] at c2
  have HL := hid hl
  have HK := hid hk
  clear hl hk
  go_enter Tryz.func112, Tryz.ntmps112
  go_wp2_with (go_at_call 110; refine (peek_any _ _ A x (i :: r) lost h6 HL.out).mono ?_; rintro e w' ⟨rfl, rfl⟩)
  go_ret2
  exact ⟨A, rfl, by simpa [lineTake, HK.out] using HL.out, Keep.refl _ _, fun _ h => h⟩

theorem take_queue (b : Nat) (w : World) (A : Option Addr) (x : Wire) (i : Int) (r : List Int) (lost : Int) (h6 : (i :: r).length ≤ 6) (hk : x.kind = 2) (hl : LineAt w b A x (i :: r) lost) :
    Calls Tryz.prog 112 #[.pointer (some ⟨b, 0, none⟩)] w (Took w b A x (i :: r) lost) := by
  have HL := hid hl
  obtain ⟨cap, hb, hr⟩ := hl
  obtain ⟨c2, c3, c4, c5, f4, f5, hlt⟩ := lineFacts hb
  have hap := hr.apart hb (by decide)
  have hle := hr.le
  have ht := hr.tail (k := 1) (by simp)
  rw [hk] at c2
  obtain ⟨m, hm⟩ : ∃ m, m = (i :: r).length := ⟨_, rfl⟩
  rw [← hm] at c4 hle ht
  have hm1 : 1 ≤ m := by rw [hm]; simp
  unfold maxLen at hle
  have HB := hid hb
  have HK := hid hk
  have HM := hid hm
  have HAP := hid hap
  have HT := hid ht
  clear hb hr hk hm hap ht c3 c5 f5
  by_cases hc : cap = 1
  · subst hc
    obtain rfl : m = 1 := by omega
    go_enter Tryz.func112, Tryz.ntmps112
    go_wp2_with (go_at_call 110; refine (peek_any _ _ A x (i :: r) lost h6 HL.out).mono ?_; rintro e w' ⟨rfl, rfl⟩)
    go_ret2
    have hb := HB.out
    have hk := HK.out
    have hm := HM.out
    have hap := HAP.out
    have ht := HT.out
    have e1 : (lineTake x (i :: r)).length = 0 := (by have h3 : r.length = 0 := by { simpa using hm.symm }; simp [lineTake, hk, h3])
    have e2 : ints (lineTake x (i :: r)) = (ints (i :: r)).drop 1 := by simp [lineTake, hk, ints]
    refine ⟨A, rfl, ⟨0, ?_, ?_⟩, (Keep.refl _ _).setCell (.inl (.inl rfl)) _, ?_⟩
    · rw [e1]
      simp only [hp_set, hb, if_true, Option.map_some, setObj, hk]
      rfl
    · rw [e1, e2]
      refine Row.setCell (by simpa using ht) ?_ _
      intro h
      apply hap
      revert h
      cases A <;> simp [InA]
    · intro k
      cases A <;> simp [InA]
  · go_enter Tryz.func112, Tryz.ntmps112
    go_wp2_with (go_at_call 110; refine (peek_any _ _ A x (i :: r) lost h6 HL.out).mono ?_; rintro e w' ⟨rfl, rfl⟩)
    go_ret2
    have hb := HB.out
    have hk := HK.out
    have hm := HM.out
    have hap := HAP.out
    have ht := HT.out
    have e1 : (lineTake x (i :: r)).length = m - 1 := by simp [lineTake, hk, hm]
    have e2 : ints (lineTake x (i :: r)) = (ints (i :: r)).drop 1 := by simp [lineTake, hk, ints]
    refine ⟨A.map (·.add 1), rfl, ⟨cap - 1, ?_, ?_⟩, (Keep.refl _ _).setCell (.inl (.inl rfl)) _, ?_⟩
    · rw [e1]
      simp only [hp_set, hb, if_true, Option.map_some, setObj, hk]
      rfl
    · rw [e1, e2]
      refine Row.setCell (by rw [if_neg hc] at ht; simpa using ht) ?_ _
      intro h
      apply hap
      revert h
      cases A <;> simp [InA, Addr.add]
    · intro k
      cases A <;> simp [InA, Addr.add]

theorem take_any (b : Nat) (w : World) (A : Option Addr) (x : Wire) (items : List Int) (lost : Int) (h6 : items.length ≤ 6) (hk : x.kind = 1 ∨ x.kind = 2) (hl : LineAt w b A x items lost) :
    Calls Tryz.prog 112 #[.pointer (some ⟨b, 0, none⟩)] w (Took w b A x items lost) := by
  cases items with
  | nil => exact take_none b w A x lost hl
  | cons i r =>
    rcases hk with hk | hk
    · exact take_sample b w A x i r lost h6 hk hl
    · exact take_queue b w A x i r lost h6 hk hl

/-- A take, with what it comes to written out. -/
def TookV (w : World) (b : Nat) (A : Option Addr) (x : Wire) (rest : List Int) (lost v : Int) (err : Value) (e : Ending) (w' : World) : Prop :=
  ∃ A', e = .returned (.tuple #[.int .i64 v, err]) ∧ LineAt w' b A' x rest lost ∧ Keep (LF b A) w w' ∧ (∀ k, InA A' k → InA A k)
theorem takeV_none (b : Nat) (w : World) (A : Option Addr) (x : Wire) (lost : Int) (hl : LineAt w b A x [] lost) :
    Calls Tryz.prog 112 #[.pointer (some ⟨b, 0, none⟩)] w (TookV w b A x [] lost 0 (.iface 98 (.int .i64 5))) :=
  (take_none b w A x lost hl).mono fun e w' ⟨A', h1, h2, h3, h4⟩ => ⟨A', h1, by simpa [lineTake] using h2, h3, h4⟩
theorem takeV_sample (b : Nat) (w : World) (A : Option Addr) (x : Wire) (i : Int) (r : List Int) (lost : Int) (h6 : (i :: r).length ≤ 6) (hk : x.kind = 1) (hl : LineAt w b A x (i :: r) lost) :
    Calls Tryz.prog 112 #[.pointer (some ⟨b, 0, none⟩)] w (TookV w b A x (i :: r) lost i .nilIface) :=
  (take_sample b w A x i r lost h6 hk hl).mono fun e w' ⟨A', h1, h2, h3, h4⟩ => ⟨A', h1, by simpa [lineTake, hk] using h2, h3, h4⟩
theorem takeV_queue (b : Nat) (w : World) (A : Option Addr) (x : Wire) (i : Int) (r : List Int) (lost : Int) (h6 : (i :: r).length ≤ 6) (hk : x.kind = 2) (hl : LineAt w b A x (i :: r) lost) :
    Calls Tryz.prog 112 #[.pointer (some ⟨b, 0, none⟩)] w (TookV w b A x r lost i .nilIface) :=
  (take_queue b w A x i r lost h6 hk hl).mono fun e w' ⟨A', h1, h2, h3, h4⟩ => ⟨A', h1, by simpa [lineTake, hk] using h2, h3, h4⟩
end Go.Proofs.YthdmgighblhmhaaGreatDoor

/- Package wire: contracts of New and Held, and of slices.Clone at []int. -/
namespace Go.Proofs.YthdmgighblhmhaaGreatDoor
open Go.RowKit
set_option maxRecDepth 100000

theorem new_bad (x : Wire) (w : World) (h : wireChk x ≠ 0) :
    Calls Tryz.prog 28 #[.agg #[.int .i64 x.fr, .int .i64 x.to, .int .i64 x.kind, .int .i64 x.deep]] w fun e w' => e = .returned (.tuple #[.pointer none, errV (wireChk x)]) ∧ Below w.heap.size w w' := by
  have he := errV_pos h
  go_enter Tryz.func28, Tryz.ntmps28
  go_wp2_with (go_at_call 50; refine (wire_check _ _ _ _ _).mono ?_; rintro e w' ⟨rfl, hb⟩; rw [he]; clear he)
  go_ret2
  have := errV_pos h
  exact ⟨by rw [this]; rfl, ((Below.refl _ _).alloc (Nat.le_refl _) _).trans (hb.mono (by simp))⟩

def Made (w : World) (x : Wire) (e : Ending) (w' : World) : Prop :=
  ∃ b, e = .returned (.tuple #[.pointer (some ⟨b, 0, none⟩), .nilIface]) ∧ w.heap.size ≤ b ∧ LineAt w' b none x [] 0 ∧ Below w.heap.size w w'

theorem new_ok (x : Wire) (w : World) (h : wireChk x = 0) :
    Calls Tryz.prog 28 #[.agg #[.int .i64 x.fr, .int .i64 x.to, .int .i64 x.kind, .int .i64 x.deep]] w (Made w x) := by
  have H := hid h
  clear h
  go_enter Tryz.func28, Tryz.ntmps28
  go_wp2_with fail
  refine (wire_check x.fr x.to x.kind x.deep _).mono ?_
  rintro e w' ⟨rfl, hb⟩
  have h : wireChk ⟨x.fr, x.to, x.kind, x.deep⟩ = 0 := H.out
  rw [h, errV_zero]
  obtain ⟨hc, hf⟩ : (∀ o, w'.cell? ⟨w.heap.size, o, none⟩ = (w.alloc (.cells #[.int .i64 x.fr, .int .i64 x.to, .int .i64 x.kind, .int .i64 x.deep] 62)).cell? ⟨w.heap.size, o, none⟩) ∧ True :=
    ⟨fun o => hb.cell (p := ⟨w.heap.size, o, none⟩) (by simp), trivial⟩
  have hc0 : w'.cell? ⟨w.heap.size, 0, none⟩ = some (.int .i64 x.fr) := (hc 0).trans (blk_cell (heap_alloc_new w _) 0)
  have hc1 : w'.cell? ⟨w.heap.size, 1, none⟩ = some (.int .i64 x.to) := (hc 1).trans (blk_cell (heap_alloc_new w _) 1)
  have hc2 : w'.cell? ⟨w.heap.size, 2, none⟩ = some (.int .i64 x.kind) := (hc 2).trans (blk_cell (heap_alloc_new w _) 2)
  have hc3 : w'.cell? ⟨w.heap.size, 3, none⟩ = some (.int .i64 x.deep) := (hc 3).trans (blk_cell (heap_alloc_new w _) 3)
  have HBB := hid hb
  clear h hb hc hf
  go_wp2
  go_ret2
  have hb := HBB.out
  refine ⟨w'.heap.size, rfl, by have := hb.size; simp at this; omega, ⟨0, heap_alloc_new w' _, Row.nil _ _ _⟩, ?_⟩
  exact (((Below.refl _ _).alloc (Nat.le_refl _) _).trans (hb.mono (by simp))).alloc (by have := hb.size; simp at this; omega) _

/-- A copy of what is read, in new memory. -/
def Cloned (w : World) (T sz : Nat) (n : Nat) (xs : List Value) (e : Ending) (w' : World) : Prop :=
  ∃ A cap, e = .returned (.slice A n cap) ∧ Row w' T sz A n cap xs ∧ (∀ k, InA A k → w.heap.size ≤ k) ∧ Below w.heap.size w w'

theorem clone_ints (w : World) (A : Option Addr) (n c : Nat) (l : List Int) (hn : n < 1000000) (hA : A = none → n = 0) (hs : Sl w A 1 n (ints l)) :
    Calls Tryz.prog 116 #[.slice A n c] w (Cloned w 3 1 n (ints l)) := by
  have hnil := fun (w : World) a n c => Lib.run_eql_slice_nil (P := Tryz.prog) w 63 3 a n c 0 0 Tryz.underlying63
  cases A with
  | none =>
    obtain rfl := hA rfl
    have hl : ints l = [] := List.eq_nil_of_length_eq_zero (by simpa using hs.1)
    rw [hl]
    clear hl hs hA
    go_enter Tryz.func116, Tryz.ntmps116
    go_wp2
    go_ret
    exact ⟨none, 0, rfl, Row.nil _ _ _, fun k hk => by simp [InA] at hk, Below.refl _ _⟩
  | some a =>
    clear hA
    have HS := hid hs
    clear hs
    obtain ⟨i0, hi, hz0, hz1, hz2⟩ := info_parts Tryz.infoInt
    go_enter Tryz.func116, Tryz.ntmps116
    go_wp2_with (at_builtin; refine wpList_append_row _ rfl _ _ 63 rfl 3 i0 (.int .i64 0) 1 8 Tryz.underlying63 hi hz0 hz1 hz2 rfl (by decide) (some ⟨w.heap.size, 0, none⟩) 0 0 [] rfl ?c0 (some a) n c (ints l) rfl ?c1 ?c2 ?c3 ?c4 ?_)
    case c0 => exact ⟨rfl, .inr ⟨_, 0, _, rfl, heap_alloc_new w _, Nat.le_refl _, by simp, by simp, fun j u hu => by simp at hu⟩⟩
    case c1 => exact HS.out.new ((Below.refl _ _).alloc (Nat.le_refl _) _)
    case c2 => exact ints_one _
    case c3 => unfold maxLen; omega
    case c4 => omega
    intro A' cap' w' hrow' hkeep' hin'
    have HR' := hid hrow'
    have HK' := hid hkeep'
    have HI' := hid hin'
    clear hrow' hkeep' hin'
    go_wp2
    go_ret
    have hrow' := HR'.out
    have hrow' : Row w' 3 1 A' n cap' (ints l) := by simpa using hrow'
    refine ⟨A', cap', rfl, hrow', fun k hk => ?_, ?_⟩
    · rcases HI'.out k hk with h | h
      · simp [InA] at h; omega
      · omega
    · have hk := (((Keep.refl NoF w).alloc _).trans HK'.out)
      exact ⟨hk.os, hk.tape, hk.output, hk.size, fun k hk' => hk.block k hk' (by
        rintro (h | h)
        · exact h
        · simp [InA] at h; omega)⟩

/-- What is read of a line. -/
def HeldAs (w : World) (items : List Int) (lost : Int) (e : Ending) (w' : World) : Prop :=
  ∃ A cap, e = .returned (.agg #[.slice A items.length cap, .int .i64 lost]) ∧ Row w' 3 1 A items.length cap (ints items) ∧ (∀ k, InA A k → w.heap.size ≤ k) ∧ Below w.heap.size w w'

theorem held_any (b : Nat) (w : World) (A : Option Addr) (x : Wire) (items : List Int) (lost : Int) (h6 : items.length ≤ 6) (hl : LineAt w b A x items lost) :
    Calls Tryz.prog 99 #[.pointer (some ⟨b, 0, none⟩)] w (HeldAs w items lost) := by
  obtain ⟨cap, hb, hr⟩ := hl
  obtain ⟨c2, c3, c4, c5, f4, f5, hlt⟩ := lineFacts hb
  have hs := hr.sl
  have hA : A = none → items.length = 0 := by
    rintro rfl
    rcases hr.2 with ⟨_, h, _⟩ | ⟨_, _, _, h, _⟩
    · exact h
    · cases h
  clear hr c2 c3 f4 f5
  have HB := hid hb
  have HS := hid hs
  clear hb hs
  obtain ⟨m, hm⟩ : ∃ m, m = items.length := ⟨_, rfl⟩
  rw [← hm] at c4 hA h6
  have HM := hid hm
  clear hm
  go_enter Tryz.func99, Tryz.ntmps99
  go_wp2
  have hb0 : ∀ o, (w.alloc o).cell? ⟨b, 4, none⟩ = some (.slice A m cap) := fun o => (World.cell?_alloc_lt w o ⟨b, 4, none⟩ hlt).trans c4
  have hb1 : ∀ o, (w.alloc o).cell? ⟨b, 5, none⟩ = some (.int .i64 lost) := fun o => (World.cell?_alloc_lt w o ⟨b, 5, none⟩ hlt).trans c5
  have hne : b ≠ w.heap.size := by omega
  go_region_held3 (fun w' => w'.cell? ⟨b, 4, none⟩ = some (.slice A m cap) ∧ w'.cell? ⟨b, 5, none⟩ = some (.int .i64 lost))
    (first | go_keep | exact ⟨‹_›, ‹_›⟩ | exact ⟨(cell_far hne).trans ((cell_far hne).trans ‹_›), (cell_far hne).trans ((cell_far hne).trans ‹_›)⟩)
    (first | (go_at_call 116; refine (clone_ints _ A m cap items (by omega) hA (by have h1 := HS.out; rw [← HM.out] at h1; exact h1.keep (by simp) (fun k _ hl => by simp only [hp_drew]; exact blk_alloc hl _))).mono ?_; rintro e w1 ⟨A1, cap1, rfl, hr1, hn1, hb1⟩; have k4 : w1.cell? ⟨b, 4, none⟩ = some (.slice A m cap) := (hb1.cell (p := ⟨b, 4, none⟩) (by simp; omega)).trans (by first | assumption | simp [*]); have k5 : w1.cell? ⟨b, 5, none⟩ = some (.int .i64 lost) := (hb1.cell (p := ⟨b, 5, none⟩) (by simp; omega)).trans (by first | assumption | simp [*]); have k6 : w1.cell? ⟨w.heap.size, 0, none⟩ = some (.slice none 0 0) := (hb1.cell (p := ⟨w.heap.size, 0, none⟩) (by simp)).trans (blk_cell (heap_alloc_new w _) 0); have k7 : w1.cell? ⟨w.heap.size, 1, none⟩ = some (.int .i64 0) := (hb1.cell (p := ⟨w.heap.size, 1, none⟩) (by simp)).trans (blk_cell (heap_alloc_new w _) 1); have k8 : w1.frozen? ⟨w.heap.size, 0, none⟩ = false := (hb1.frozen (p := ⟨w.heap.size, 0, none⟩) (by simp)).trans (blk_free (heap_alloc_new w _) 0); have k9 : w1.frozen? ⟨w.heap.size, 1, none⟩ = false := (hb1.frozen (p := ⟨w.heap.size, 1, none⟩) (by simp)).trans (blk_free (heap_alloc_new w _) 1)))
  go_wp2
  have hb1 : Below (w.heap.size + 1) (w.alloc (.cells #[.slice none 0 0, .int .i64 0] 65)).drew w1 := by simpa using hb1
  have hm := HM.out
  have hrl := hr1.lt
  refine bodyPost_ret (v := .agg #[.slice A1 m cap1, .int .i64 lost]) (by simp [results, Tryz.results99, go_sem, k6, k7]) rfl ?_
  subst hm
  refine ⟨A1, cap1, rfl, ?_, fun k hk => ?_, ?_⟩
  · refine (hr1.setCell (p := ⟨w.heap.size, 0, none⟩) ?_ _).setCell (p := ⟨w.heap.size, 1, none⟩) ?_ _ <;>
    · intro h
      have := hn1 _ h
      simp at this
      omega
  · have := hn1 k hk
    simp at this
    omega
  · exact (((((Below.refl _ _).alloc (Nat.le_refl _) _).drew).trans (hb1.mono (by omega))).setCell (by simp) _).setCell (by simp) _
end Go.Proofs.YthdmgighblhmhaaGreatDoor
