/- Several parts: each begins with what it says. -/
import Derived.Test.YthafahnlfpkkbaaGreatDoorRangeU
import Derived.Test.YthafahnlfpkkbaaGreatDoorTraceU
import Derived.Test.YthafahnlfpkkbaaGreatDoorDeskU
import Derived.Test.YthafahnlfpkkbaaGreatDoorOpen2
import Derived.BigQuiet
import Derived.Test.YthafahnlfpkkbaaGreatDoorBuildU
import Derived.Deep.DeepCutAuto
import Derived.Deep.RegionHeld3
import Derived.Test.YthafahnlfpkkbaaGreatDoorShelf
import Derived.Test.YthafahnlfpkkbaaGreatDoorSameU
/- Plain: events as text, a line an event: which lines are an event's, which texts are events. No program is walked. Conditions: none. -/
namespace Go.Proofs.YthafahnlfpkkbaaGreatDoor

/-- A room's number as it stands in an event's line. -/
def roomT (x : Ev) : List UInt8 := if 0 ≤ x.room then Lib.itoa x.room else [45]
/-- An event's line without its end. -/
def evLine (x : Ev) : List UInt8 := Lib.itoa x.tick ++ 32 :: (roomT x ++ 32 :: (Lib.itoa x.pc ++ 32 :: Lib.itoa x.what))
def evText (x : Ev) : List UInt8 := evLine x ++ [10]
def evsText (l : List Ev) : List UInt8 := l.flatMap evText
/-- An event such as a line may say it. -/
structure WfEv (x : Ev) : Prop where
  tick : 0 ≤ x.tick ∧ x.tick < 10 ^ 7
  room : -1 ≤ x.room ∧ x.room < 10 ^ 7
  pc : 0 ≤ x.pc ∧ x.pc < 10 ^ 7
  what : 0 ≤ x.what ∧ x.what < 10 ^ 7
theorem roomT_no (x : Ev) {c : UInt8} (hc : c = 32 ∨ c = 10) : c ∉ roomT x := by
  unfold roomT
  split
  · intro h
    have := itoa_mem _ h
    rcases hc with rfl | rfl <;> simp at this
  · rcases hc with rfl | rfl <;> decide
theorem itoa_no (n : Int) {c : UInt8} (hc : c = 32 ∨ c = 10) : c ∉ Lib.itoa n := by
  intro h
  have := itoa_mem _ h
  rcases hc with rfl | rfl <;> simp at this
theorem cut_ev (x : Ev) : cutA 32 [] (evLine x) = [Lib.itoa x.tick, roomT x, Lib.itoa x.pc, Lib.itoa x.what] := by
  unfold evLine
  rw [cutA_pass 32 _ [] _ (itoa_no _ (.inl rfl)), List.nil_append, cutA, if_pos rfl, cutA_pass 32 _ [] _ (roomT_no x (.inl rfl)), List.nil_append, cutA, if_pos rfl, cutA_pass 32 _ [] _ (itoa_no _ (.inl rfl)), List.nil_append, cutA, if_pos rfl]
  have := cutA_pass 32 (Lib.itoa x.what) [] [] (itoa_no _ (.inl rfl))
  rw [List.append_nil, List.nil_append] at this
  rw [this]; rfl
theorem ev_no10 (x : Ev) : (10 : UInt8) ∉ evLine x := by
  unfold evLine
  intro h
  simp only [List.mem_append, List.mem_cons] at h
  rcases h with h | h | h | h | h | h | h
  · exact itoa_no _ (.inr rfl) h
  · exact absurd h (by decide)
  · exact roomT_no x (.inr rfl) h
  · exact absurd h (by decide)
  · exact itoa_no _ (.inr rfl) h
  · exact absurd h (by decide)
  · exact itoa_no _ (.inr rfl) h
/-- The second word as it is read: a bar stands for none. -/
def wordOf (b : List UInt8) : List UInt8 := if b = [45] then [48] else b
theorem itoa_zero : Lib.itoa 0 = [48] := by
  have := itoa_nat 0
  rw [Lib.decDigits_one (by decide)] at this
  exact this
theorem itoa_bar (n : Nat) : Lib.itoa (n : Int) ≠ [45] := by
  intro h
  have h1 := dec_digit n 45
  rw [← itoa_nat, h] at h1
  have := h1 (by simp)
  simp at this
/-- A line is an event's. -/
theorem evread_yes {s a b c d : List UInt8} {n0 n1 n2 n3 : Nat} (hc : cutA 32 [] s = [a, b, c, d]) (hn : numsOf 7 [a, wordOf b, c, d] = some [n0, n1, n2, n3]) :
    WfEv ⟨n0, if b = [45] then -1 else n1, n2, n3⟩ ∧ evLine ⟨n0, if b = [45] then -1 else n1, n2, n3⟩ = s := by
  obtain ⟨h1, h2⟩ := (numsOf_some (by decide)).1 hn
  simp only [List.map_cons, List.map_nil, List.cons.injEq, and_true] at h1
  obtain ⟨e0, e1, e2, e3⟩ := h1
  have lt : ∀ (n : Nat) (t : List UInt8), t ∈ [a, wordOf b, c, d] → t = Lib.itoa (n : Int) → n < 10 ^ 7 := fun n t ht e => by
    have := h2 t ht
    rw [e, itoa_nat] at this
    exact num_lt (by omega)
  have l0 := lt n0 a (by simp) e0
  have l1 := lt n1 (wordOf b) (by simp) e1
  have l2 := lt n2 c (by simp) e2
  have l3 := lt n3 d (by simp) e3
  have hj := cutA_join 32 s [] a [b, c, d] hc
  rw [List.nil_append] at hj
  have hb : roomT ⟨n0, if b = [45] then -1 else n1, n2, n3⟩ = b := by
    unfold roomT
    by_cases hbar : b = [45]
    · simp only [hbar, if_true]
      rw [if_neg (by decide)]
    · simp only [hbar, if_false]
      unfold wordOf at e1
      rw [if_neg hbar] at e1
      rw [if_pos (by omega), e1]
  refine ⟨⟨⟨by simp, by simpa using (by omega : (n0 : Int) < 10 ^ 7)⟩, ?_, ⟨by simp, by simpa using (by omega : (n2 : Int) < 10 ^ 7)⟩, ⟨by simp, by simpa using (by omega : (n3 : Int) < 10 ^ 7)⟩⟩, ?_⟩
  · show -1 ≤ (if b = [45] then -1 else (n1 : Int)) ∧ (if b = [45] then -1 else (n1 : Int)) < 10 ^ 7
    split <;> omega
  · unfold evLine
    rw [hb, hj, e0, e2, e3]
    simp
/-- What an event's line is read as. -/
theorem evread_nums {x : Ev} (h : WfEv x) : numsOf 7 [Lib.itoa x.tick, wordOf (roomT x), Lib.itoa x.pc, Lib.itoa x.what] = some [x.tick.toNat, (if 0 ≤ x.room then x.room.toNat else 0), x.pc.toNat, x.what.toNat] ∧ (roomT x = [45] ↔ x.room < 0) := by
  have hb : (roomT x = [45] ↔ x.room < 0) := by
    unfold roomT
    split
    · rename_i h0
      obtain ⟨u, hu⟩ : ∃ u : Nat, x.room = u := ⟨x.room.toNat, by omega⟩
      rw [hu]
      exact ⟨fun e => absurd e (itoa_bar u), fun e => by omega⟩
    · exact ⟨fun _ => by omega, fun _ => rfl⟩
  refine ⟨?_, hb⟩
  have hw : wordOf (roomT x) = Lib.itoa (if 0 ≤ x.room then x.room else 0) := by
    unfold wordOf
    by_cases h0 : 0 ≤ x.room
    · rw [if_neg (fun e => by have := hb.1 e; omega), if_pos h0]
      unfold roomT; rw [if_pos h0]
    · rw [if_pos (hb.2 (by omega)), if_neg h0, itoa_zero]
  have hm : numsOf ((6 + 1 : Nat) : Int) ([x.tick, (if 0 ≤ x.room then x.room else 0), x.pc, x.what].map Lib.itoa) = some ([x.tick, (if 0 ≤ x.room then x.room else 0), x.pc, x.what].map Int.toNat) := by
    refine numsOf_itoa (k := 6) (by decide) fun n hn => ?_
    have := h.tick; have := h.room; have := h.pc; have := h.what
    simp only [List.mem_cons, List.mem_nil_iff, or_false] at hn
    rcases hn with rfl | rfl | rfl | rfl
    · omega
    · split <;> omega
    · omega
    · omega
  rw [hw]
  refine hm.trans ?_
  simp only [List.map_cons, List.map_nil]
  by_cases h0 : 0 ≤ x.room <;> simp [h0]
theorem ev_inj {x y : Ev} (hx : WfEv x) (hy : WfEv y) (e : evLine x = evLine y) : x = y := by
  have h1 := cut_ev x
  rw [e, cut_ev] at h1
  obtain ⟨a1, a2⟩ := evread_nums hx
  obtain ⟨b1, b2⟩ := evread_nums hy
  simp only [List.cons.injEq, and_true] at h1
  obtain ⟨e0, e1, e2, e3⟩ := h1
  rw [← e0, ← e1, ← e2, ← e3, b1] at a1
  simp only [Option.some.injEq, List.cons.injEq, and_true] at a1
  obtain ⟨c0, c1, c2, c3⟩ := a1
  have hr : (x.room < 0 ↔ y.room < 0) := by rw [← a2, ← b2, e1]
  have := hx.tick; have := hx.room; have := hx.pc; have := hx.what
  have := hy.tick; have := hy.room; have := hy.pc; have := hy.what
  obtain ⟨x0, x1, x2, x3⟩ := x
  obtain ⟨y0, y1, y2, y3⟩ := y
  simp only at *
  have f1 : x1 = y1 := by
    by_cases h0 : 0 ≤ x1
    · rw [if_pos h0, if_pos (by omega)] at c1; omega
    · omega
  rw [f1]
  congr 1 <;> omega
theorem linesG_of {α : Type} (f : α → List UInt8) : ∀ (l : List α), (∀ o ∈ l, (10 : UInt8) ∉ f o) → linesOf (l.flatMap fun o => f o ++ [10]) = l.map fun o => f o ++ [10]
  | [], _ => rfl
  | o :: l, h => by
    rw [List.flatMap_cons, List.append_assoc, List.map_cons]
    show linesOf (f o ++ 10 :: l.flatMap fun o => f o ++ [10]) = _
    rw [linesOf_line _ _ (h o (by simp)), linesG_of f l (fun o ho => h o (by simp [ho]))]
theorem lines_evs (l : List Ev) : linesOf (evsText l) = l.map evText := linesG_of evLine l fun x _ => ev_no10 x
theorem evs_of {t : List UInt8} {l : List Ev} (h : linesOf t = l.map evText) : evsText l = t := by
  rw [← lines_join t, h]
  unfold evsText
  rw [List.flatMap_def]
theorem evs_not {t x : List UInt8} (hx : x ∈ linesOf t) (hno : ∀ o, WfEv o → evText o ≠ x) : ∀ l : List Ev, (∀ o ∈ l, WfEv o) → evsText l ≠ t := by
  rintro l hl rfl
  rw [lines_evs] at hx
  obtain ⟨o, ho, he⟩ := List.mem_map.1 hx
  exact hno o (hl o ho) he
theorem evs_inj {l l' : List Ev} (h : ∀ o ∈ l, WfEv o) (h' : ∀ o ∈ l', WfEv o) (e : evsText l = evsText l') : l = l' := by
  have h1 := lines_evs l
  rw [e, lines_evs] at h1
  have H : ∀ (a b : List Ev), (∀ o ∈ a, WfEv o) → (∀ o ∈ b, WfEv o) → a.map evText = b.map evText → a = b := by
    intro a
    induction a with
    | nil =>
      intro b _ _ hm
      cases b with
      | nil => rfl
      | cons y b => simp at hm
    | cons x a ih =>
      intro b ha hb hm
      cases b with
      | nil => simp at hm
      | cons y b =>
        rw [List.map_cons, List.map_cons] at hm
        injection hm with h2 h3
        rw [ih b (fun o ho => ha o (by simp [ho])) (fun o ho => hb o (by simp [ho])) h3]
        rw [ev_inj (ha x (by simp)) (hb y (by simp)) (List.append_cancel_right h2)]
  exact (H l' l h' h h1).symm
/-- Events that are right may stand in lines. -/
theorem wfev_ok {x : Ev} (h : evChk x = 0) : WfEv x := by
  unfold evChk at h
  split at h
  · cases h
  · rename_i hr
    have hr2 : evRight x = true := by simpa using hr
    unfold evRight wIn at hr2
    simp only [Bool.and_eq_true, decide_eq_true_eq] at hr2
    obtain ⟨⟨t0, t1⟩, ⟨r0, r1⟩, ⟨p0, p1⟩, w0, w1⟩ := hr2
    exact ⟨by omega, by omega, by omega, by omega⟩
theorem evsFirst_all : ∀ {l : List Ev}, evsFirst l = 0 → ∀ x ∈ l, evChk x = 0
  | [], _, x, hx => by cases hx
  | y :: l, h, x, hx => by
    unfold evsFirst at h
    split at h
    · rename_i h1; exact absurd h h1
    · rename_i h1
      rcases List.mem_cons.1 hx with rfl | hx
      · exact Decidable.not_not.1 h1
      · exact evsFirst_all h x hx
theorem wfevs_ok {l : List Ev} (h : evsChk l = 0) : l.length ≤ 2000 ∧ ∀ x ∈ l, WfEv x := by
  unfold evsChk at h
  split at h
  · cases h
  · exact ⟨by omega, fun x hx => wfev_ok (evsFirst_all h x hx)⟩
theorem ev_le {x : Ev} (h : WfEv x) : (evText x).length ≤ 32 := by
  have h0 := itoa_le (k := 6) h.tick.1 h.tick.2
  have h2 := itoa_le (k := 6) h.pc.1 h.pc.2
  have h3 := itoa_le (k := 6) h.what.1 h.what.2
  have h1 : (roomT x).length ≤ 7 := by
    unfold roomT
    split
    · rename_i hr; exact itoa_le (k := 6) hr h.room.2
    · decide
  unfold evText evLine
  simp only [List.length_append, List.length_cons, List.length_nil]; omega
theorem evs_le {l : List Ev} (h : ∀ x ∈ l, WfEv x) : (evsText l).length ≤ 32 * l.length := by
  induction l with
  | nil => simp [evsText]
  | cons x l ih =>
    have h1 := ih fun y hy => h y (by simp [hy])
    have h2 := ev_le (h x (by simp))
    unfold evsText at h1 ⊢
    rw [List.flatMap_cons, List.length_append, List.length_cons]; omega
end Go.Proofs.YthafahnlfpkkbaaGreatDoor

/- Plain: events by room, and by kind, are all of them; the events that the statement reads first. No program is walked. Conditions: none. -/
namespace Go.Proofs.YthafahnlfpkkbaaGreatDoor

/-- So many in all, of the first places. -/
def upSum (f : Nat → Nat) : Nat → Nat
  | 0 => 0
  | k + 1 => upSum f k + f k
theorem upSum_add (f g : Nat → Nat) : ∀ k, upSum (fun i => f i + g i) k = upSum f k + upSum g k
  | 0 => rfl
  | k + 1 => by
    unfold upSum
    rw [upSum_add f g k]; omega
theorem upSum_one (j : Nat) : ∀ k, upSum (fun i => if j = i then 1 else 0) k = if j < k then 1 else 0
  | 0 => rfl
  | k + 1 => by
    unfold upSum
    rw [upSum_one j k]
    by_cases h1 : j < k
    · rw [if_pos h1, if_neg (by omega), if_pos (by omega)]
    · by_cases h2 : j = k
      · rw [if_neg h1, if_pos h2, if_pos (by omega)]
      · rw [if_neg h1, if_neg h2, if_neg (by omega)]
theorem upSum_congr {f g : Nat → Nat} : ∀ {k : Nat}, (∀ i, i < k → f i = g i) → upSum f k = upSum g k
  | 0, _ => rfl
  | k + 1, h => by
    unfold upSum
    rw [upSum_congr fun i hi => h i (by omega), h k (by omega)]
/-- So many events of a kind, or of a room. -/
def cntF (f : Ev → Int) (l : List Ev) (v : Int) : Nat := (l.filter fun x => decide (f x = v)).length
theorem cntF_cons (f : Ev → Int) (x : Ev) (l : List Ev) (v : Int) : cntF f (x :: l) v = (if f x = v then 1 else 0) + cntF f l v := by
  unfold cntF
  rw [List.filter_cons]
  by_cases h : f x = v
  · simp [h]; omega
  · simp [h]
theorem cntF_all (f : Ev → Int) (lo : Int) (N : Nat) : ∀ (l : List Ev), (∀ x ∈ l, lo ≤ f x ∧ f x < lo + N) → upSum (fun i => cntF f l (lo + i)) N = l.length
  | [], _ => by
    have : ∀ k, upSum (fun i => cntF f [] (lo + i)) k = 0 := by
      intro k
      induction k with
      | zero => rfl
      | succ k ih => unfold upSum; rw [ih]; rfl
    exact this N
  | x :: l, h => by
    have h1 := h x (by simp)
    have e : ∀ i, i < N → cntF f (x :: l) (lo + i) = (if (f x - lo).toNat = i then 1 else 0) + cntF f l (lo + i) := fun i _ => by
      rw [cntF_cons]
      congr 1
      by_cases h2 : f x = lo + i
      · rw [if_pos h2, if_pos (by omega)]
      · rw [if_neg h2, if_neg (by omega)]
    rw [upSum_congr e, upSum_add, upSum_one, cntF_all f lo N l fun y hy => h y (by simp [hy]), if_pos (by omega), List.length_cons]; omega
theorem left_cnt (R : Int) (l : List Ev) : left R l = cntF Ev.room l R := by
  unfold left cntF otherRoom
  congr 1
  congr 1
  funext x
  simp
theorem cntF_le (f : Ev → Int) (l : List Ev) (v : Int) : cntF f l v ≤ l.length := List.length_filter_le _ _
theorem upSum_le (f : Nat → Nat) (B : Nat) : ∀ k, (∀ i, i < k → f i ≤ B) → upSum f k ≤ k * B
  | 0, _ => by simp [upSum]
  | k + 1, h => by
    have h1 := upSum_le f B k fun i hi => h i (by omega)
    have h2 := h k (by omega)
    unfold upSum
    rw [Nat.succ_mul]; omega
theorem ev_bounds {x : Ev} (h : evChk x = 0) : (-1 ≤ x.room ∧ x.room < -1 + (6 : Nat)) ∧ (0 ≤ x.what ∧ x.what < 0 + (6 : Nat)) := by
  unfold evChk at h
  split at h
  · cases h
  · rename_i hr
    have hr2 : evRight x = true := by simpa using hr
    unfold evRight wIn at hr2
    simp only [Bool.and_eq_true, decide_eq_true_eq] at hr2
    obtain ⟨_, ⟨r0, r1⟩, _, w0, w1⟩ := hr2
    omega
theorem evs_each {l : List Ev} (h : evsChk l = 0) : l.length ≤ 2000 ∧ ∀ x ∈ l, evChk x = 0 := by
  unfold evsChk at h
  split at h
  · cases h
  · exact ⟨by omega, evsFirst_all h⟩
theorem rooms_all {l : List Ev} (h : evsChk l = 0) : upSum (fun i => left (-1 + (i : Int)) l) 6 = l.length := by
  have := cntF_all Ev.room (-1) 6 l fun x hx => (ev_bounds ((evs_each h).2 x hx)).1
  rw [← this]
  exact upSum_congr fun i _ => left_cnt _ _
theorem kinds_all {l : List Ev} (h : evsChk l = 0) : upSum (fun i => cntF Ev.what l i) 6 = l.length := by
  have := cntF_all Ev.what 0 6 l fun x hx => (ev_bounds ((evs_each h).2 x hx)).2
  rw [← this]
  exact upSum_congr fun i _ => by rw [Int.zero_add]
/-- The text that the statement reads first. -/
def factEvs : List Ev := [⟨0, -1, 0, 0⟩, ⟨1, 2, 3, 1⟩]
theorem itoa_digit {i : Nat} (h : i < 10) : Lib.itoa (i : Int) = [UInt8.ofNat (48 + i)] := by rw [itoa_nat]; exact Lib.decDigits_one h
theorem factE_text : evsText factEvs = [48, 32, 45, 32, 48, 32, 48, 10, 49, 32, 50, 32, 51, 32, 49, 10] := by
  have h0 : Lib.itoa 0 = [48] := itoa_digit (i := 0) (by decide)
  have h1 : Lib.itoa 1 = [49] := itoa_digit (i := 1) (by decide)
  have h2 : Lib.itoa 2 = [50] := itoa_digit (i := 2) (by decide)
  have h3 : Lib.itoa 3 = [51] := itoa_digit (i := 3) (by decide)
  simp [evsText, factEvs, evText, evLine, roomT, h0, h1, h2, h3]
theorem factE_ok : evsChk factEvs = 0 := by decide
end Go.Proofs.YthafahnlfpkkbaaGreatDoor

/- Package trace: the contract of read, for every line. Conditions: 'Desk', which the row lists; no line is longer than 2^30 bytes. -/
namespace Go.Proofs.YthafahnlfpkkbaaGreatDoor
open Go.RowKit
set_option maxRecDepth 100000

/-- What read hands back. -/
def EReadGot (s : ByteArray) (w : World) (e : Ending) (w' : World) : Prop :=
  Below w.heap.size w w' ∧ ((∃ x : Ev, WfEv x ∧ evLine x = s.data.toList ∧ e = .returned (.tuple #[.agg #[.int .i64 x.tick, .int .i64 x.room, .int .i64 x.pc, .int .i64 x.what], .bool true])) ∨
    ((∀ x, WfEv x → evLine x ≠ s.data.toList) ∧ e = .returned (.tuple #[.agg #[.int .i64 0, .int .i64 0, .int .i64 0, .int .i64 0], .bool false])))
/-- The second word as it is put. -/
def wordB (b : ByteArray) : ByteArray := if b = ⟨#[45]⟩ then ⟨#[48]⟩ else b
/-- A row of four words, and the second put anew. -/
theorem four_sl {w : World} {b T : Nat} {x0 x1 x2 x3 : Value} (h : w.heap[b]? = some (.cells #[x0, x1, x2, x3] T (0, 0))) : Sl w (some ⟨b, 0, none⟩) 1 4 [x0, x1, x2, x3] := by
  refine ⟨rfl, fun _ => ⟨b, 0, rfl, blk_lt h, fun j u hu => ?_⟩⟩
  rw [Nat.zero_add, blk_cell h]
  simpa using hu
theorem four_set {w : World} {b off : Nat} {x0 x1 x2 x3 v : Value} (q0 : w.cell? ⟨b, off, none⟩ = some x0) (q1 : w.cell? ⟨b, off + 1, none⟩ = some x1) (q2 : w.cell? ⟨b, off + 2, none⟩ = some x2) (q3 : w.cell? ⟨b, off + 3, none⟩ = some x3) :
    (w.setCell ⟨b, off + 1, none⟩ v).cell? ⟨b, off, none⟩ = some x0 ∧ (w.setCell ⟨b, off + 1, none⟩ v).cell? ⟨b, off + 1, none⟩ = some v ∧ (w.setCell ⟨b, off + 1, none⟩ v).cell? ⟨b, off + 2, none⟩ = some x2 ∧ (w.setCell ⟨b, off + 1, none⟩ v).cell? ⟨b, off + 3, none⟩ = some x3 :=
  ⟨(World.cell?_setCell_other _ _ _ _ (by simp)).trans q0, World.cell?_setCell_same _ _ _ q1, (World.cell?_setCell_other _ _ _ _ (by simp)).trans q2, (World.cell?_setCell_other _ _ _ _ (by simp)).trans q3⟩
theorem bar_iff (b : ByteArray) : b = ⟨#[45]⟩ ↔ b.data.toList = [45] := ⟨fun e => by rw [e], fun h => by
  cases b with
  | mk d => simp only at h; congr 1; exact Array.toList_inj.1 h⟩
theorem wordB_data (b : ByteArray) : (wordB b).data.toList = wordOf b.data.toList := by
  unfold wordB wordOf
  by_cases h : b = ⟨#[45]⟩
  · rw [if_pos h, if_pos ((bar_iff b).1 h)]
  · rw [if_neg h, if_neg (fun e => h ((bar_iff b).2 e))]
theorem tread_ret {w' : World} {a : Act} {b : Nat} {x y z u : Value} {fl : Bool} {R : Ending → World → Prop} (hx : w'.heap[b]? = some (.cells #[x, y, z, u] 32 (0, 0))) (h2 : a.tmps[2]? = some (.pointer (some ⟨b, 0, none⟩))) (h3 : a.tmps[3]? = some (.bool fl)) (hd : a.defers = [])
    (h : R (.returned (.tuple #[.agg #[x, y, z, u], .bool fl])) w') : bodyPost Tryz.prog Tryz.f71 R .ret a w' := by
  have c0 := blk_cell hx 0
  have c1 := blk_cell hx 1
  have c2 := blk_cell hx 2
  have c3 := blk_cell hx 3
  simp at c0 c1 c2 c3
  refine bodyPost_ret (v := .tuple #[.agg #[x, y, z, u], .bool fl]) ?_ hd h
  simp [results, Tryz.results71, go_sem, h2, h3, c0, c1, c2, c3]
/-- The result's four cells are stored. -/
theorem put_four {w6 : World} {b T : Nat} {x0 x1 x2 x3 : Value} (hx : w6.heap[b]? = some (.cells #[x0, x1, x2, x3] T (0, 0))) (y0 y1 y2 y3 : Value) :
    ((((w6.setCell ⟨b, 0, none⟩ y0).setCell ⟨b, 1, none⟩ y1).setCell ⟨b, 2, none⟩ y2).setCell ⟨b, 3, none⟩ y3).heap[b]? = some (.cells #[y0, y1, y2, y3] T (0, 0)) :=
  blk_set (blk_set (blk_set (blk_set hx 0 y0) 1 y1) 2 y2) 3 y3
theorem four_below {w w6 : World} {y0 y1 y2 y3 : Value} (hb : Below w.heap.size w w6) : Below w.heap.size w ((((w6.setCell ⟨w.heap.size, 0, none⟩ y0).setCell ⟨w.heap.size, 1, none⟩ y1).setCell ⟨w.heap.size, 2, none⟩ y2).setCell ⟨w.heap.size, 3, none⟩ y3) :=
  (((hb.setCell (p := ⟨w.heap.size, 0, none⟩) (Nat.le_refl _) _).setCell (p := ⟨w.heap.size, 1, none⟩) (Nat.le_refl _) _).setCell (p := ⟨w.heap.size, 2, none⟩) (Nat.le_refl _) _).setCell (p := ⟨w.heap.size, 3, none⟩) (Nat.le_refl _) _
theorem tread_false {w w6 : World} {a : Act} {s : ByteArray} (hb : Below w.heap.size w w6) (hx : w6.heap[w.heap.size]? = some (.cells #[.int .i64 0, .int .i64 0, .int .i64 0, .int .i64 0] 32 (0, 0))) (hno : ∀ x, WfEv x → evLine x ≠ s.data.toList)
    (h2 : a.tmps[2]? = some (.pointer (some ⟨w.heap.size, 0, none⟩))) (h3 : a.tmps[3]? = some (.bool false)) (hd : a.defers = []) :
    bodyPost Tryz.prog Tryz.f71 (EReadGot s w) .ret a ((((w6.setCell ⟨w.heap.size, 0, none⟩ (.int .i64 0)).setCell ⟨w.heap.size, 1, none⟩ (.int .i64 0)).setCell ⟨w.heap.size, 2, none⟩ (.int .i64 0)).setCell ⟨w.heap.size, 3, none⟩ (.int .i64 0)) :=
  tread_ret (put_four hx _ _ _ _) h2 h3 hd ⟨four_below hb, .inr ⟨hno, rfl⟩⟩
set_option maxHeartbeats 4000000 in
theorem tread_any (s : ByteArray) (hs : s.size ≤ 1073741824) (w : World) (hd : Desk w) : Calls Tryz.prog 71 #[.string s] w (EReadGot s w) := by
  obtain ⟨w1, hw1⟩ : ∃ w1, w1 = w.alloc (.cells #[.int .i64 0, .int .i64 0, .int .i64 0, .int .i64 0] 32) := ⟨_, rfl⟩
  have hb1 : Below w.heap.size w w1 := by rw [hw1]; exact (Below.refl _ _).alloc (Nat.le_refl _) _
  have hbx : w1.heap[w.heap.size]? = some (.cells #[.int .i64 0, .int .i64 0, .int .i64 0, .int .i64 0] 32 (0, 0)) := by rw [hw1]; exact heap_alloc_new w _
  have HSPLIT := hid (split_any s hs w1 (hd.new hb1))
  have HD : Hid (∀ w', Below w.heap.size w w' → Desk w') := hid fun w' hb => hd.new hb
  have HB1 := hid hb1
  have HBX := hid hbx
  clear hd hb1 hbx
  go_enter Tryz.func71, Tryz.ntmps71
  go_wp2_with fail
  rw [← hw1]
  refine HSPLIT.out.mono ?_
  rintro e w2 ⟨ws, n, hn, hws, hle, hns, rfl, rfl⟩
  have HWS := hid hws
  have HN := hid hn
  have HLE := hid hle
  have HLW := hid (show w.heap.size < w1.heap.size from blk_lt HBX.out)
  clear hws hn hle HSPLIT hw1
  by_cases h4 : n = 4
  · subst h4
    obtain ⟨a, b, c, d, hw4⟩ : ∃ a b c d, ws = [a, b, c, d] := by
      have := HN.out
      match ws, this with
      | [a, b, c, d], _ => exact ⟨a, b, c, d, rfl⟩
    subst hw4
    have HCUT : Hid (cutA 32 [] s.data.toList = [a.data.toList, b.data.toList, c.data.toList, d.data.toList]) := hid HWS.out.symm
    have hrow := heap_alloc_new w1 (.cells (#[.string a, .string b, .string c, .string d] : Array Value) 9)
    have hb2 : Below w1.heap.size w1 (w1.alloc (.cells (#[.string a, .string b, .string c, .string d] : Array Value) 9)) := (Below.refl _ _).alloc (Nat.le_refl _) _
    obtain ⟨w3, hw3⟩ : ∃ w3, w1.alloc (.cells ([a, b, c, d].map Value.string).toArray 9) = w3 := ⟨_, rfl⟩
    have hrow3 : w3.heap[w1.heap.size]? = some (.cells #[.string a, .string b, .string c, .string d] 9 (0, 0)) := by rw [← hw3]; exact hrow
    have hb3 : Below w1.heap.size w1 w3 := by rw [← hw3]; exact hb2
    rw [hw3]
    have HROW := hid hrow3
    have HB3 := hid (HB1.out.trans (hb3.mono HB1.out.size))
    have HBX3 := hid ((hb3.block _ (blk_lt HBX.out)).trans HBX.out)
    have x1 := blk_cell hrow3 1
    have f1 := blk_free hrow3 1
    have hl3 := blk_lt hrow3
    simp at x1
    have HSZ : Hid (∀ x ∈ [a, wordB b, c, d], x.size ≤ 1073741824) := hid fun x hx => by
      have hle := HLE.out
      simp only [List.mem_cons, List.mem_nil_iff, or_false] at hx hle
      rcases hx with rfl | rfl | rfl | rfl
      · have := hle _ (.inl rfl); omega
      · unfold wordB
        split
        · decide
        · have := hle b (.inr (.inl rfl)); omega
      · have := hle _ (.inr (.inr (.inl rfl))); omega
      · have := hle _ (.inr (.inr (.inr rfl))); omega
    clear hrow hb2 hw3 hrow3 hb3 HWS HN HLE
    obtain ⟨w4, hb4, hrow4, hbx4, hgo⟩ : ∃ w4, Below w.heap.size w w4 ∧ w4.heap[w1.heap.size]? = some (.cells #[.string a, .string (wordB b), .string c, .string d] 9 (0, 0)) ∧ w4.heap[w.heap.size]? = some (.cells #[.int .i64 0, .int .i64 0, .int .i64 0, .int .i64 0] 32 (0, 0)) ∧
        w4 = (if b = ⟨#[45]⟩ then w3.setCell ⟨w1.heap.size, 1, none⟩ (.string ⟨#[48]⟩) else w3) := by
      refine ⟨_, ?_, ?_, ?_, rfl⟩
      · split
        · exact HB3.out.setCell (p := ⟨w1.heap.size, 1, none⟩) (by have := HLW.out; simp; omega) _
        · exact HB3.out
      · unfold wordB
        split
        · exact blk_set HROW.out 1 _
        · exact HROW.out
      · split
        · rw [blk_far (by have := HLW.out; simp; omega)]; exact HBX3.out
        · exact HBX3.out
    have HB4 := hid hb4
    have HBX4 := hid hbx4
    have HNUM := hid (numbers_any [a, wordB b, c, d] (some ⟨w1.heap.size, 0, none⟩) 4 4 7 rfl (by decide) HSZ.out w4 (HD.out w4 hb4) (four_sl hrow4))
    clear hb4 hbx4 hrow4
    have HMAP : Hid ([a, wordB b, c, d].map (fun s : ByteArray => s.data.toList) = [a.data.toList, wordOf b.data.toList, c.data.toList, d.data.toList]) := by
      show _ = _
      simp only [List.map_cons, List.map_nil, wordB_data]
    have HBARB := hid (bar_iff b)
    rcases hbar : (b.toList == [45]) with _ | _
    case' false =>
      have hnb : ¬ b.data.toList = [45] := by rw [← Lib.toList_data]; exact beq_eq_false_iff_ne.1 hbar
      rw [if_neg (fun e => hnb (HBARB.out.1 e))] at hgo
      have HBC : Hid (∀ x : Int, (if b.data.toList = [45] then -1 else x) = x) := hid fun x => if_neg hnb
      clear hnb HBARB
      subst hgo
      go_wp2_with fail
    case' true =>
      have hyb : b.data.toList = [45] := by rw [← Lib.toList_data]; exact beq_iff_eq.1 hbar
      rw [if_pos (HBARB.out.2 hyb)] at hgo
      have HBC : Hid (∀ x : Int, (if b.data.toList = [45] then -1 else x) = -1) := hid fun x => if_pos hyb
      clear hyb HBARB
      go_wp2_with fail
      rw [← hgo]
      clear hgo
    all_goals
      refine HNUM.out.mono ?_
      rintro e w5 ⟨hb5, hor⟩
      rw [HMAP.out] at hor
      have HB5 := hid (HB4.out.trans (hb5.mono HB4.out.size))
      have hx5 := (hb5.block _ (blk_lt HBX4.out)).trans HBX4.out
      have HX5 := hid hx5
      have HLT5 := hid (Nat.lt_of_lt_of_le (blk_lt HBX4.out) (Nat.le_refl _))
      rcases hor with ⟨ns, A6, m6, c6, hns, hm6, rfl, hrow6, hnew6⟩ | ⟨hbad, rfl⟩
      · obtain ⟨n0, n1, n2, n3, rfl⟩ : ∃ n0 n1 n2 n3, ns = [n0, n1, n2, n3] := by
          have h1 := congrArg List.length ((numsOf_some (by decide)).1 hns).1
          match ns, h1 with
          | [n0, n1, n2, n3], _ => exact ⟨n0, n1, n2, n3, rfl⟩
        obtain rfl : m6 = 4 := hm6.symm
        rcases hrow6.2 with ⟨_, h0, _⟩ | ⟨b6, off6, cur, rfl, hh6, _, _, _, hcur⟩
        · cases h0
        have HYES := hid (evread_yes HCUT.out hns)
        rw [HBC.out] at HYES
        have q0 := (blk_cell hh6 (off6 + 0)).trans (hcur 0 _ rfl)
        have q1 := (blk_cell hh6 (off6 + 1)).trans (hcur 1 _ rfl)
        have q2 := (blk_cell hh6 (off6 + 2)).trans (hcur 2 _ rfl)
        have q3 := (blk_cell hh6 (off6 + 3)).trans (hcur 3 _ rfl)
        have g1 := blk_free hh6 (off6 + 1)
        have hl6 := blk_lt hh6
        have hbn : b6 ≠ w.heap.size := fun e => by have h := hnew6 b6 rfl; have := HLT5.out; omega
        rw [Nat.add_zero] at q0
        have HBN := hid hbn
        have HB6 := hid (show w.heap.size ≤ b6 from Nat.le_trans HB4.out.size (hnew6 b6 rfl))
        clear hns hrow6 hcur hh6 hb5 hx5 hnew6 hm6 x1 f1 hl3
        go_upto_region 12 with fail
        first
          | obtain ⟨w7, hw7⟩ : ∃ w7, w5.setCell ⟨b6, off6 + 1, none⟩ (.int .i64 (-1)) = w7 := ⟨_, rfl⟩
            rw [hw7]
            obtain ⟨p0, p1, p2, p3⟩ := four_set (v := .int .i64 (-1)) q0 q1 q2 q3
            rw [hw7] at p0 p1 p2 p3
            have hx7 : w7.heap[w.heap.size]? = some (.cells #[.int .i64 0, .int .i64 0, .int .i64 0, .int .i64 0] 32 (0, 0)) := by rw [← hw7, blk_far (show w.heap.size ≠ b6 from fun e => HBN.out e.symm)]; exact HX5.out
            have hb7 : Below w.heap.size w w7 := by rw [← hw7]; exact HB5.out.setCell (p := ⟨b6, off6 + 1, none⟩) (by have := HB6.out; simp; omega) _
            clear hw7
            have c0 := blk_cell hx7 0
            have c1 := blk_cell hx7 1
            have c2 := blk_cell hx7 2
            have c3 := blk_cell hx7 3
            have hl := blk_lt hx7
            simp at c0 c1 c2 c3
            have fz : ∀ o, w7.frozen? ⟨w.heap.size, o, none⟩ = false := fun o => blk_free hx7 o
            have HX7 := hid hx7
            have HB7 := hid hb7
            clear q0 q1 q2 q3 g1 hl6 hx7 hb7 hbn
            go_region
            go_wp2_with fail
            exact tread_ret (b := w.heap.size) (put_four HX7.out _ _ _ _) rfl rfl rfl ⟨(four_below HB7.out).drew, .inl ⟨_, HYES.out.1, HYES.out.2, rfl⟩⟩
          | obtain ⟨w7, rfl⟩ : ∃ w7, w7 = w5 := ⟨_, rfl⟩
            have p0 := q0
            have p1 := q1
            have p2 := q2
            have p3 := q3
            have hx7 := HX5.out
            have hb7 := HB5.out
            have c0 := blk_cell hx7 0
            have c1 := blk_cell hx7 1
            have c2 := blk_cell hx7 2
            have c3 := blk_cell hx7 3
            have hl := blk_lt hx7
            simp at c0 c1 c2 c3
            have fz : ∀ o, w7.frozen? ⟨w.heap.size, o, none⟩ = false := fun o => blk_free hx7 o
            have HX7 := hid hx7
            have HB7 := hid hb7
            clear q0 q1 q2 q3 g1 hl6 hx7 hb7 hbn
            go_region
            go_wp2_with fail
            exact tread_ret (b := w.heap.size) (put_four HX7.out _ _ _ _) rfl rfl rfl ⟨(four_below HB7.out).drew, .inl ⟨_, HYES.out.1, HYES.out.2, rfl⟩⟩
      · have HNO : Hid (∀ x, WfEv x → evLine x ≠ s.data.toList) := hid fun x hx e => by
          have h1 := HCUT.out
          rw [← e, cut_ev] at h1
          simp only [List.cons.injEq, and_true] at h1
          obtain ⟨e0, e1, e2, e3⟩ := h1
          have h2 := (evread_nums hx).1
          rw [e0, e1, e2, e3, hbad] at h2
          cases h2
        have c0 := blk_cell hx5 0
        have c1 := blk_cell hx5 1
        have c2 := blk_cell hx5 2
        have c3 := blk_cell hx5 3
        have hl := blk_lt hx5
        simp at c0 c1 c2 c3
        have fz : ∀ o, w5.frozen? ⟨w.heap.size, o, none⟩ = false := fun o => blk_free hx5 o
        clear hbad hb5 hx5 x1 f1 hl3
        go_wp2_with fail
        exact tread_false HB5.out HX5.out HNO.out rfl rfl rfl
  · have hno : ∀ x, WfEv x → evLine x ≠ s.data.toList := fun x _ e => by
      have h1 := HWS.out
      rw [← e, cut_ev] at h1
      have h2 := congrArg List.length h1
      rw [List.length_map, HN.out] at h2
      exact h4 h2
    have HNO := hid hno
    have h4' : ¬ (n : Int) = 4 := by omega
    have hb2 : Below w.heap.size w (w1.alloc (.cells (ws.map Value.string).toArray 9)) := HB1.out.alloc HB1.out.size _
    have hx2 : (w1.alloc (.cells (ws.map Value.string).toArray 9)).heap[w.heap.size]? = some (.cells #[.int .i64 0, .int .i64 0, .int .i64 0, .int .i64 0] 32 (0, 0)) := (blk_alloc (blk_lt HBX.out) _).trans HBX.out
    obtain ⟨w3, hw3⟩ : ∃ w3, w1.alloc (.cells (ws.map Value.string).toArray 9) = w3 := ⟨_, rfl⟩
    rw [hw3] at hb2 hx2 ⊢
    have HB2 := hid hb2
    have HX2 := hid hx2
    have c0 := blk_cell hx2 0
    have c1 := blk_cell hx2 1
    have c2 := blk_cell hx2 2
    have c3 := blk_cell hx2 3
    have hl := blk_lt hx2
    simp at c0 c1 c2 c3
    have fz : ∀ o, w3.frozen? ⟨w.heap.size, o, none⟩ = false := fun o => blk_free hx2 o
    clear hno hw3 hb2 hx2 HN HWS HLE
    go_wp2_with fail
    exact tread_false HB2.out HX2.out HNO.out rfl rfl rfl
end Go.Proofs.YthafahnlfpkkbaaGreatDoor

/- Package trace: the contract of Parse, for every text. Conditions: 'Desk', which the row lists; no text is longer than 2^30 bytes. -/
namespace Go.Proofs.YthafahnlfpkkbaaGreatDoor
open Go.RowKit Go.Shelf
set_option maxRecDepth 100000
attribute [local go_sem] Oper.semAt_some

/-- What Parse hands back. -/
def EParseGot (t : ByteArray) (w : World) (e : Ending) (w' : World) : Prop :=
  Below w.heap.size w w' ∧
  ((∃ (l : List Ev) (A : Option Addr) (n c : Nat), (∀ o ∈ l, WfEv o) ∧ evsText l = t.data.toList ∧ (evsChk l) = 0 ∧ l.length = n ∧ e = .returned (.tuple #[.slice A n c, .nilIface]) ∧ Row w' 32 4 A n c (l.flatMap Ev.cells) ∧ ∀ i, InA A i → w.heap.size ≤ i) ∨
   (∃ l : List Ev, (∀ o ∈ l, WfEv o) ∧ evsText l = t.data.toList ∧ (evsChk l) ≠ 0 ∧ e = .returned (.tuple #[.slice none 0 0, errV (evsChk l)])) ∨
   ((∀ l : List Ev, (∀ o ∈ l, WfEv o) → evsText l ≠ t.data.toList) ∧ e = .returned (.tuple #[.slice none 0 0, errV 2])))

/-- Midway: so many lines are read. -/
structure EParseAt (w : World) (pre : List ByteArray) (W : World) : Prop where
  res : Boxed W w.heap.size 27 (.slice none 0 0)
  err : Boxed W (w.heap.size + 1) 35 .nilIface
  out : ∃ (l : List Ev) (A : Option Addr) (n c : Nat), (∀ o ∈ l, WfEv o) ∧ pre.map (fun s => s.data.toList) = l.map evText ∧ l.length = n ∧ Boxed W (w.heap.size + 1 + 1) 27 (.slice A n c) ∧ Row W 32 4 A n c (l.flatMap Ev.cells) ∧ ∀ i, InA A i → w.heap.size + 4 ≤ i
  big : w.heap.size + 4 ≤ W.heap.size
  below : Below w.heap.size w W
theorem EParseAt.abide (w : World) : Abide (w.heap.size + 4) (w.heap.size + 1 + 1 + 1) (EParseAt w) := by
  refine ⟨fun s W W' row h hg hr => ?_, fun s W u h => ?_⟩
  · have hr2 : ∀ r, row = some r → ∃ o : Obj, W.heap[r]? = some o ∧ o.isCells = false := fun r e => (hr r e).2
    obtain ⟨l, A, n, c, h1, h2, h3, h4, h5, h6⟩ := h.out
    exact ⟨boxed_turned h.res hg hr2, boxed_turned h.err hg hr2, ⟨l, A, n, c, h1, h2, h3, boxed_turned h4 hg hr2, h5.turned hg hr2, h6⟩, Nat.le_trans h.big hg.size, h.below.grown hg h.below.size (fun k e => by have := (hr k e).1; omega)⟩
  · obtain ⟨l, A, n, c, h1, h2, h3, h4, h5, h6⟩ := h.out
    exact ⟨h.res.other (by omega) _, h.err.other (by omega) _, ⟨l, A, n, c, h1, h2, h3, h4.other (by omega) _, h5.setCell (fun hi => by have := h6 _ hi; simp at this; omega) _, h6⟩, by rw [sz_set]; exact h.big, h.below.setCell (p := ⟨w.heap.size + 1 + 1 + 1, 0, none⟩) (by simp; omega) _⟩
/-- It has stopped: a line is no op's. -/
structure EParseStop (t : ByteArray) (w : World) (c : Code) (W : World) : Prop where
  ret : c = .ret
  no : ∀ l : List Ev, (∀ o ∈ l, WfEv o) → evsText l ≠ t.data.toList
  res : Boxed W w.heap.size 27 (.slice none 0 0)
  err : Boxed W (w.heap.size + 1) 35 (errV 2)
  below : Below w.heap.size w W
theorem EParseStop.abide (t : ByteArray) (w : World) (c : Code) : Abide (w.heap.size + 4) (w.heap.size + 1 + 1 + 1) (fun (_ : List ByteArray) W => EParseStop t w c W) := by
  refine ⟨fun s W W' row h hg hr => ?_, fun s W u h => ?_⟩
  · have hr2 : ∀ r, row = some r → ∃ o : Obj, W.heap[r]? = some o ∧ o.isCells = false := fun r e => (hr r e).2
    exact ⟨h.ret, h.no, boxed_turned h.res hg hr2, boxed_turned h.err hg hr2, h.below.grown hg h.below.size (fun k e => by have := (hr k e).1; omega)⟩
  · exact ⟨h.ret, h.no, h.res.other (by omega) _, h.err.other (by omega) _, h.below.setCell (p := ⟨w.heap.size + 1 + 1 + 1, 0, none⟩) (by simp; omega) _⟩

theorem evText_10 (o : Ev) : (10 : UInt8) ∈ evText o := by unfold evText; simp

theorem eparse_start {w : World} {t : ByteArray} : EParseAt w [] ((((w.alloc (.cells #[.slice none 0 0] 27)).alloc (.cells #[.nilIface] 35)).alloc (.cells #[.slice none 0 0] 27)).alloc (.cells #[.string t] 9)) := by
  have b1 := ((Boxed.new w 27 (.slice none 0 0)).alloc (.cells #[.nilIface] 35)).alloc (.cells #[.slice none 0 0] 27) |>.alloc (.cells #[.string t] 9)
  have b2 := (Boxed.new (w.alloc (.cells #[.slice none 0 0] 27)) 35 .nilIface).alloc (.cells #[.slice none 0 0] 27) |>.alloc (.cells #[.string t] 9)
  have b3 := (Boxed.new ((w.alloc (.cells #[.slice none 0 0] 27)).alloc (.cells #[.nilIface] 35)) 27 (.slice none 0 0)).alloc (.cells #[.string t] 9)
  simp only [sz_alloc] at b2 b3
  exact ⟨b1, b2, ⟨[], none, 0, 0, (fun o ho => by cases ho), rfl, rfl, b3, Row.nil _ _ _, (fun i hi => by simp [InA] at hi)⟩, by simp, ((((Below.refl _ w).alloc (Nat.le_refl _) _).alloc (by simp) _).alloc (by simp; omega) _).alloc (by simp; omega) _⟩

/-- The end: the results lie in their cells. -/
theorem eparse_ret {W9 : World} {D b0 b1 : Nat} {v0 v1 : Value} {a : Act} {T0 T1 : Nat} {R : Ending → World → Prop} (h0 : Boxed W9 b0 T0 v0) (h1 : Boxed W9 b1 T1 v1) (hD0 : b0 ≠ D) (hD1 : b1 ≠ D) (hK : W9.heap[D]? = some (.deferred (some [])))
    (h2 : a.tmps[2]? = some (.pointer (some ⟨b0, 0, none⟩))) (h3 : a.tmps[3]? = some (.pointer (some ⟨b1, 0, none⟩))) (hd : a.defers = [{ target := .collected D, args := #[] }]) (h : R (.returned (.tuple #[v0, v1])) (W9.putObj D (.deferred none))) :
    bodyPostM Fence.wide 3 Tryz.prog Tryz.f24 R .ret a W9 := by
  obtain ⟨tmps, defers⟩ := a
  simp only at h2 h3 hd
  subst hd
  refine ⟨by simp, .inl ⟨_, _, rfl, run_takeDeferred hK, ?_⟩⟩
  have e0 := (h0.kept (grownBy_putObj' W9 D (.deferred none)) (by simp; omega)).cell
  have e1 := (h1.kept (grownBy_putObj' W9 D (.deferred none)) (by simp; omega)).cell
  refine ⟨.tuple #[v0, v1], ?_, h⟩
  simp [results, Tryz.f24, go_sem, h2, h3, e0, e1]
theorem one_ev3 (w : World) (o : Obj) {x y z u : Value} {T : Nat} : Sl ((w.alloc o).alloc (.cells #[x, y, z, u] T)) (some ⟨w.heap.size + 1, 0, none⟩) 4 1 [x, y, z, u] := by
  have h := heap_alloc_new (w.alloc o) (.cells #[x, y, z, u] T)
  rw [sz_alloc] at h
  refine ⟨rfl, fun _ => ⟨w.heap.size + 1, 0, rfl, blk_lt h, fun j u hu => ?_⟩⟩
  rw [Nat.zero_add, blk_cell h]
  simpa using hu
set_option maxHeartbeats 8000000 in
theorem tparse_any (t : ByteArray) (ht : t.size ≤ 1073741824) (w : World) (hd : Desk w) : Calls Tryz.prog 24 #[.string t] w (EParseGot t w) := by
  obtain ⟨i0, hi0, hz0, hz1, hz2⟩ := info_parts Tryz.infoEvent
  have HF : Hid (∀ w', Below w.heap.size w w' → Desk w') := hid fun w' hb => hd.new hb
  clear hd
  refine (callsIn_wide (n := 3)).1 ?_
  refine callsIn_of_wp_marks Tryz.func24 rfl trivial ?_ rfl
  simp only [Tryz.ntmps24, List.size_toArray, List.length_cons, List.length_nil, Nat.reduceAdd, Nat.reduceSub, Array.replicate_succ, Array.replicate_zero, List.push_toArray, List.append_toArray, List.nil_append, List.cons_append]
  gi_wp2_with (refine ⟨trivial, ?_⟩; gi_at_call 69; refine (callsIn_wide.2 (lines_made _ _)).mono ?_; rintro e w2 ⟨rfl, rfl⟩)
  have HR := hid (eparse_start (w := w) (t := t))
  have HT := hid (heap_alloc_new (((w.alloc (.cells #[.slice none 0 0] 27)).alloc (.cells #[.nilIface] 35)).alloc (.cells #[.slice none 0 0] 27)) (.cells #[.string t] 9))
  have hsz : ((((w.alloc (.cells #[.slice none 0 0] 27)).alloc (.cells #[.nilIface] 35)).alloc (.cells #[.slice none 0 0] 27)).alloc (.cells #[.string t] 9)).heap.size = w.heap.size + 4 := by simp
  obtain ⟨W0, hW0⟩ : ∃ W0, (((w.alloc (.cells #[.slice none 0 0] 27)).alloc (.cells #[.nilIface] 35)).alloc (.cells #[.slice none 0 0] 27)).alloc (.cells #[.string t] 9) = W0 := ⟨_, rfl⟩
  simp only [sz_alloc] at HT
  rw [hW0] at HR HT hsz ⊢
  clear hW0
  refine range_cell (α := ByteArray) (all := linesB t) (t := w.heap.size + 1 + 1 + 1) rfl (by decide) (gf := 111) (lb := #[.pointer (some ⟨w.heap.size + 1 + 1 + 1, 0, none⟩)]) rfl trivial (enters_of Tryz.func111 (by kernel_rfl) rfl)
    (encs := fun x => #[.string x]) (by omega) (lines_gives _ _ 9 t (by omega) W0 HT.out) (fun _ => rfl)
    (EParseAt w) (fun c _ W => EParseStop t w c W)
    (by rw [hsz]; exact EParseAt.abide w) (fun c => by rw [hsz]; exact EParseStop.abide t w c) HR.out
    (fun x => { tmps := #[.string t, undef, .pointer (some ⟨w.heap.size, 0, none⟩), .pointer (some ⟨w.heap.size + 1, 0, none⟩), .pointer (some ⟨w.heap.size + 1 + 1, 0, none⟩), .string x, undef, undef, undef, undef, undef, .string t, .func (.func 111) #[] #[.pointer (some ⟨w.heap.size + 1 + 1 + 1, 0, none⟩)], .string x, undef, undef, undef, undef, undef, undef, undef, undef, undef, undef, undef, undef, undef, undef, undef, undef, undef, undef, undef, undef, undef, undef, undef, undef, undef, undef, undef], defers := [] }) ?assign ?body ?done ?stop
  case assign =>
    intro l x W K hK
    gi_wp2
    exact hK
  case body =>
    rintro l0 pre x W hI hpre
    obtain ⟨y, b, hy1, hy2, hys, hxs, hxm, hcase⟩ := line_cut (t := t) (x := x) (hpre.subset (by simp))
    have HCS : Hid (∀ w', Calls Tryz.prog 70 #[.string x, .string ⟨#[10]⟩] w' fun e w'' => e = .returned (.tuple #[.string y, .bool b]) ∧ w' = w'') := hid (cutsuf_any hy1 hy2 (by omega))
    have HRD := hid (tread_any y (by omega) W (HF.out W hI.below))
    have HI := hid hI
    have HCASE := hid hcase
    have HXM := hid hxm
    clear hI hy1 hy2 hys hxs hxm hcase
    dsimp only
    gi_wp2_with (refine ⟨trivial, ?_⟩; gi_at_call 70; refine (CallsIn.inRound l0 (callsIn_wide.2 (HCS.out _))).mono ?_; rintro e w2 ⟨rfl, rfl⟩)
    refine ⟨trivial, (CallsIn.inRound l0 (callsIn_wide.2 HRD.out)).mono ?_⟩
    rintro e w2 ⟨hb2, hor⟩
    have HB2 := hid hb2
    have HW2 := hid (HI.out.below.trans (hb2.mono HI.out.below.size))
    have hbig := HI.out.big
    have hs2 := hb2.size
    have res2 : Boxed w2 w.heap.size 27 (.slice none 0 0) := (hb2.block _ (by omega)).trans HI.out.res
    have err2 : Boxed w2 (w.heap.size + 1) 35 .nilIface := (hb2.block _ (by omega)).trans HI.out.err
    obtain ⟨l, A, n, c, hwf, hmap, hn, hout, hrow, hfr⟩ := HI.out.out
    have out2 : Boxed w2 (w.heap.size + 1 + 1) 27 (.slice A n c) := (hb2.block _ (by omega)).trans hout
    have HROW2 := hid (hrow.new hb2)
    have HRES2 := hid res2
    have HERR2 := hid err2
    have HOUT2 := hid out2
    have HT2 := hid (show w2.heap[w.heap.size + 1 + 1 + 1]? = W.heap[w.heap.size + 1 + 1 + 1]? from hb2.block _ (by omega))
    have HWF := hid hwf
    have HMAP := hid hmap
    have HN := hid hn
    have HFR := hid hfr
    clear hb2 hwf hmap hn hout hrow hfr res2 err2 out2
    have HSTOP : (∀ o, WfEv o → evText o ≠ x.data.toList) → ∀ (obj : Obj) (a : Act), RoundLeft W0.heap.size (w.heap.size + 1 + 1 + 1) (EParseAt w) (fun c _ W => EParseStop t w c W) (pre ++ [x]) W .ret a (((w2.setCell ⟨w.heap.size, 0, none⟩ (.slice none 0 0)).setCell ⟨w.heap.size + 1, 0, none⟩ (.iface 116 (.int .i64 2))).alloc obj) := fun hno obj a =>
      ⟨(((keeps_below HB2.out).trans (keeps_set _ _)).trans (keeps_set _ _)).trans (keeps_below ((Below.refl _ _).alloc (Nat.le_refl _) obj)),
        ⟨rfl, evs_not HXM.out hno, Boxed.alloc ((Boxed.set _ HRES2.out).other (by omega) _) obj, Boxed.alloc ((Boxed.other HERR2.out (by omega) _).set _) obj,
          ((HW2.out.setCell (p := ⟨w.heap.size, 0, none⟩) (Nat.le_refl _) _).setCell (p := ⟨w.heap.size + 1, 0, none⟩) (by simp) _).alloc (by rw [sz_set, sz_set]; exact HW2.out.size) obj⟩⟩
    have q2 : w2.cell? ⟨w.heap.size, 0, none⟩ = some (.slice none 0 0) := Boxed.cell HRES2.out
    have q3 : w2.cell? ⟨w.heap.size + 1, 0, none⟩ = some .nilIface := Boxed.cell HERR2.out
    have f2 : w2.frozen? ⟨w.heap.size, 0, none⟩ = false := Boxed.frozen HRES2.out
    have g2 : ∀ obj, (w2.alloc obj).frozen? ⟨w.heap.size, 0, none⟩ = false := fun obj => (Boxed.alloc HRES2.out obj).frozen
    have g3 : ∀ v obj, ((w2.setCell ⟨w.heap.size, 0, none⟩ v).alloc obj).frozen? ⟨w.heap.size + 1, 0, none⟩ = false := fun v obj => (Boxed.alloc (Boxed.other HERR2.out (by omega) v) obj).frozen
    have x2 : ∀ obj, (w2.alloc obj).cell? ⟨w.heap.size, 0, none⟩ = some (.slice none 0 0) := fun obj => (Boxed.alloc HRES2.out obj).cell
    have x3 : ∀ v obj, ((w2.setCell ⟨w.heap.size, 0, none⟩ v).alloc obj).cell? ⟨w.heap.size + 1, 0, none⟩ = some .nilIface := fun v obj => (Boxed.alloc (Boxed.other HERR2.out (by omega) v) obj).cell
    have q4 : ∀ obj, (w2.alloc obj).cell? ⟨w.heap.size + 1 + 1, 0, none⟩ = some (.slice A n c) := fun obj => (Boxed.alloc HOUT2.out obj).cell
    have hne : w.heap.size + 1 ≠ w.heap.size := by omega
    have hlt2 : w.heap.size < w2.heap.size := by omega
    have hlt3 : w.heap.size + 1 < w2.heap.size := by omega
    have hlt4 : w.heap.size + 1 + 1 < w2.heap.size := by omega
    rcases HCASE.out with ⟨rfl, hxy⟩ | ⟨rfl, hx10⟩
    · rcases hor with ⟨⟨e0, e1, e2, e3⟩, ho, hol, rfl⟩ | ⟨hno, rfl⟩
      · have HXY := hid hxy
        have HO := hid ho
        have HOL := hid hol
        have HSTOPX := hid HSTOP
        have hnt : n ≤ 1073741824 := by
          have h1 := HN.out
          have h2 : pre.length = l.length := by
            have := congrArg List.length HMAP.out
            rw [List.length_map, List.length_map] at this; exact this
          have h3 := hpre.length_le
          have h4 : (linesB t).length ≤ t.size := by
            unfold linesB; rw [List.length_map, Lib.size_eq]; exact lines_few _
          rw [List.length_append, List.length_singleton] at h3
          omega
        clear hxy ho hol HSTOP
        gi_wp2_with (gi_at_builtin; refine wpListIn_append_row rfl _ _ 27 rfl 32 i0 (.agg #[.int .i64 0, .int .i64 0, .int .i64 0, .int .i64 0]) 4 32 Tryz.underlying27 hi0 hz0 hz1 hz2 rfl (by decide) A n c (l.flatMap Ev.cells) rfl ?c0 (some ⟨w2.heap.size + 1, 0, none⟩) 1 1 [.int .i64 e0, .int .i64 e1, .int .i64 e2, .int .i64 e3] rfl ?c1 ?c2 ?c3 ?c4 ?_)
        case c0 => exact (Row.alloc HROW2.out _).alloc _
        case c1 => exact one_ev3 w2 _
        case c2 => intro u hu; simp at hu; rcases hu with rfl | rfl | rfl | rfl <;> rfl
        case c3 => unfold maxLen; omega
        case c4 => omega
        intro A5 c5 w5 hr5 hk5 hi5
        have HR5 := hid hr5
        have HK5 := hid hk5
        have HI5 := hid hi5
        have far : ∀ k, k < w.heap.size + 4 → w5.heap[k]? = w2.heap[k]? := fun k hk => by
          rw [hk5.block k (by rw [sz_alloc, sz_alloc]; omega) (fun hi => by have := HFR.out k hi; omega), blk_alloc (by rw [sz_alloc]; omega), blk_alloc (by omega)]
        have HFAR := hid far
        have out5 : Boxed w5 (w.heap.size + 1 + 1) 27 (.slice A n c) := (far _ (by omega)).trans HOUT2.out
        have HOUT5 := hid out5
        have q5 := out5.cell
        have f5 := out5.frozen
        have HS5 := hid hk5.size
        clear hr5 hk5 hi5 far out5 q2 q3 f2 g2 g3 x2 x3 q4
        gi_wp2
        have hwb : Below w.heap.size w ((w2.alloc (.cells #[.int .i64 e0, .int .i64 e1, .int .i64 e2, .int .i64 e3] 32)).alloc (.cells #[.int .i64 e0, .int .i64 e1, .int .i64 e2, .int .i64 e3] 32)) := (HW2.out.alloc HW2.out.size _).alloc (by simp; omega) _
        have hb5 : Below w.heap.size w w5 := hwb.trans (Keep.below HK5.out (by simp; omega) fun i hi => by have := HFR.out i hi; omega)
        refine ⟨((((keeps_below HB2.out).trans (keeps_below (((Below.refl w2.heap.size w2).alloc (Nat.le_refl _) _).alloc (by simp) _))).trans (keeps_row HK5.out fun b hb => ((Row.alloc HROW2.out _).alloc _).cellsAt hb))).trans (keeps_set _ _), ?_, ?_⟩
        · rw [blk_far (show w.heap.size + 1 + 1 + 1 ≠ w.heap.size + 1 + 1 by omega), HFAR.out _ (by omega)]; exact HT2.out
        · refine ⟨Boxed.other ((HFAR.out _ (by omega)).trans HRES2.out) (by omega) _, Boxed.other ((HFAR.out _ (by omega)).trans HERR2.out) (by omega) _, ⟨l ++ [⟨e0, e1, e2, e3⟩], A5, n + 1, c5, ?_, ?_, ?_, HOUT5.out.set _, ?_, ?_⟩, ?_, ?_⟩
          · intro o ho
            rcases List.mem_append.1 ho with h | h
            · exact HWF.out o h
            · rw [List.mem_singleton] at h; rw [h]; exact HO.out
          · rw [List.map_append, List.map_append, HMAP.out]
            congr 1
            simp only [List.map_cons, List.map_nil]
            rw [HXY.out, ← HOL.out]; rfl
          · rw [List.length_append, HN.out]; rfl
          · refine Row.setCell ?_ (fun hi => ?_) _
            · rw [List.flatMap_append]; exact HR5.out
            · rcases HI5.out _ hi with h | h
              · have := HFR.out _ h; simp at this; omega
              · have h' : w2.heap.size + 1 + 1 ≤ w.heap.size + 1 + 1 := h
                omega
          · intro i hi
            rcases HI5.out _ hi with h | h
            · exact HFR.out _ h
            · omega
          · have := HS5.out
            rw [sz_set]; simp at this; omega
          · exact hb5.setCell (p := ⟨w.heap.size + 1 + 1, 0, none⟩) (by simp; omega) _
      · have HST := hid (HSTOP fun o ho e => hno o ho (List.append_cancel_right (show evLine o ++ [10] = y.data.toList ++ [10] from e.trans hxy)))
        clear HSTOP hno hxy
        gi_wp2
        exact HST.out _ _
    · have HST := hid (HSTOP fun o ho e => hx10 (by rw [← e]; exact evText_10 o))
      clear HSTOP hx10
      rcases hor with ⟨⟨e0, e1, e2, e3⟩, ho, hol, rfl⟩ | ⟨hno, rfl⟩
      · clear ho hol
        gi_wp2
        exact HST.out _ _
      · clear hno
        gi_wp2
        exact HST.out _ _
  case done =>
    rintro D W hD hI hK
    have HI := hid hI
    obtain ⟨l, A, n, c, hwf, hmap, hn, hout, hrow, hfr⟩ := hI.out
    have hlin : linesOf t.data.toList = l.map evText := by
      rw [← hmap]; unfold linesB
      rw [List.map_map]
      exact (List.map_id' _).symm
    have HCT := hid (evs_of hlin)
    have HCR : Hid (Calls Tryz.prog 59 #[.slice A n c] W fun e w' => e = .returned (errV (evsChk l)) ∧ Below W.heap.size W w') := by
      exact hid (traceCheck_any A n c l W hn hrow.sl hrow.le.1 hrow.le.2)
    have q4 := hout.cell
    have HOUT := hid hout
    have HROW := hid hrow
    have HFR := hid hfr
    have HWF := hid hwf
    have HN := hid hn
    have HK := hid hK
    have hbig := hI.big
    clear hI hmap hout hrow hfr hwf hn hlin hK
    dsimp only
    have hres := HI.out.res
    have herr := HI.out.err
    have HRES := hid hres
    have HERR := hid herr
    clear hres herr
    by_cases he : (evsChk l) = 0
    · rw [he, errV_zero] at HCR
      gi_wp2_with (refine ⟨trivial, ?_⟩; gi_at_call 59; refine (callsIn_wide.2 HCR.out).mono ?_; rintro e w3 ⟨rfl, hb3⟩; have HB3 := hid hb3; have x4 : w3.cell? ⟨w.heap.size + 1 + 1, 0, none⟩ = some (.slice A n c) := Boxed.cell ((hb3.block _ (by omega)).trans HOUT.out); have x2 : Boxed w3 w.heap.size 27 (.slice none 0 0) := (hb3.block _ (by omega)).trans HRES.out; have x3 : Boxed w3 (w.heap.size + 1) 35 .nilIface := (hb3.block _ (by omega)).trans HERR.out; have y2 := x2.cell; have y3 := x3.cell; have z2 := x2.frozen; have z3 : ∀ v, (w3.setCell ⟨w.heap.size, 0, none⟩ v).frozen? ⟨w.heap.size + 1, 0, none⟩ = false := (fun v => (Boxed.other x3 (by omega) v).frozen); have y3' : ∀ v, (w3.setCell ⟨w.heap.size, 0, none⟩ v).cell? ⟨w.heap.size + 1, 0, none⟩ = some .nilIface := (fun v => (Boxed.other x3 (by omega) v).cell); clear hb3 HCR)
      have hb9 := ((HI.out.below.trans (HB3.out.mono HI.out.below.size)).setCell (p := ⟨w.heap.size, 0, none⟩) (Nat.le_refl _) (.slice A n c)).setCell (p := ⟨w.heap.size + 1, 0, none⟩) (by simp) .nilIface
      have hK9 : ((w3.setCell ⟨w.heap.size, 0, none⟩ (.slice A n c)).setCell ⟨w.heap.size + 1, 0, none⟩ .nilIface).heap[D]? = some (.deferred (some [])) := set_keep (set_keep ((HB3.out.block _ (blk_lt HK.out)).trans HK.out) (by omega)) (by omega)
      have hr9 : Row ((w3.setCell ⟨w.heap.size, 0, none⟩ (.slice A n c)).setCell ⟨w.heap.size + 1, 0, none⟩ .nilIface) 32 4 A n c (l.flatMap Ev.cells) := Row.setCell (Row.setCell (Row.new HROW.out HB3.out) (fun hi => by have h' : w.heap.size + 4 ≤ w.heap.size := HFR.out _ hi; omega) _) (fun hi => by have h' : w.heap.size + 4 ≤ w.heap.size + 1 := HFR.out _ hi; omega) _
      refine eparse_ret (D := D) ((x2.set _).other (by omega) _) ((x3.other (by omega) _).set _) (by omega) (by omega) hK9 rfl rfl rfl ?_
      exact ⟨hb9.trans (belowK_b (w := w) (Nat.le_refl _) _ D _ _ (by omega) hK9 rfl rfl), .inl ⟨l, A, n, c, HWF.out, HCT.out, he, HN.out, rfl, hr9.turned (grownBy_putObj' _ D (.deferred none)) (fun r e => by cases e; exact ⟨_, hK9, rfl⟩), fun i hi => by have := HFR.out i hi; omega⟩⟩
    · rw [errV_pos he] at HCR
      gi_wp2_with (refine ⟨trivial, ?_⟩; gi_at_call 59; refine (callsIn_wide.2 HCR.out).mono ?_; rintro e w3 ⟨rfl, hb3⟩; have HB3 := hid hb3; have x2 : Boxed w3 w.heap.size 27 (.slice none 0 0) := (hb3.block _ (by omega)).trans HRES.out; have x3 : Boxed w3 (w.heap.size + 1) 35 .nilIface := (hb3.block _ (by omega)).trans HERR.out; have y2 := x2.cell; have y3 := x3.cell; have z2 := x2.frozen; have z3 : ∀ v, (w3.setCell ⟨w.heap.size, 0, none⟩ v).frozen? ⟨w.heap.size + 1, 0, none⟩ = false := (fun v => (Boxed.other x3 (by omega) v).frozen); have y3' : ∀ v, (w3.setCell ⟨w.heap.size, 0, none⟩ v).cell? ⟨w.heap.size + 1, 0, none⟩ = some .nilIface := (fun v => (Boxed.other x3 (by omega) v).cell); clear hb3 HCR)
      have hb9 := ((HI.out.below.trans (HB3.out.mono HI.out.below.size)).setCell (p := ⟨w.heap.size, 0, none⟩) (Nat.le_refl _) (.slice none 0 0)).setCell (p := ⟨w.heap.size + 1, 0, none⟩) (by simp) (.iface 116 (.int .i64 (evsChk l)))
      have hK9 : ((w3.setCell ⟨w.heap.size, 0, none⟩ (.slice none 0 0)).setCell ⟨w.heap.size + 1, 0, none⟩ (.iface 116 (.int .i64 (evsChk l)))).heap[D]? = some (.deferred (some [])) := set_keep (set_keep ((HB3.out.block _ (blk_lt HK.out)).trans HK.out) (by omega)) (by omega)
      refine eparse_ret (D := D) ((x2.set _).other (by omega) _) ((x3.other (by omega) _).set _) (by omega) (by omega) hK9 rfl rfl rfl ?_
      exact ⟨hb9.trans (belowK_b (w := w) (Nat.le_refl _) _ D _ _ (by omega) hK9 rfl rfl), .inr (.inl ⟨l, HWF.out, HCT.out, he, by rw [errV_pos he]⟩)⟩
  case stop =>
    rintro D c pre W hD hpre hS hK
    obtain ⟨rfl, hno, hres, herr, hb⟩ := hS
    have HRES := hid hres
    have HERR := hid herr
    have HNO := hid hno
    have HB := hid hb
    clear hno hres herr hb
    dsimp only
    gi_wp2
    refine eparse_ret (D := D) HRES.out HERR.out (by omega) (by omega) hK rfl rfl rfl ?_
    exact ⟨HB.out.trans (belowK_b (w := w) (Nat.le_refl _) _ D _ _ (by omega) hK rfl rfl), .inr (.inr ⟨HNO.out, rfl⟩)⟩
end Go.Proofs.YthafahnlfpkkbaaGreatDoor

/- Package trace: a text of its own is read as the events it was. Conditions: 'Desk'. -/
namespace Go.Proofs.YthafahnlfpkkbaaGreatDoor
open Go.RowKit
set_option maxRecDepth 100000

theorem belowQE {B : Nat} {a w : World} (h : Below B a w) (n : Nat) : Below B a (w.drewN n) := ⟨h.os, h.tape, h.output, h.size, h.block⟩
theorem etxt_of (t : ByteArray) : txt t.data.toList = .string t := rfl
/-- Its own text is read as it was. -/
theorem own_evs {l : List Ev} {n : Nat} (hn : l.length = n) (h : evsChk l = 0) (w : World) (hd : Desk w) : Calls Tryz.prog 24 #[txt (evsText l)] w fun e w' =>
    ∃ A c, e = .returned (.tuple #[.slice A n c, .nilIface]) ∧ Row w' 32 4 A n c (l.flatMap Ev.cells) ∧ Below w.heap.size w w' := by
  obtain ⟨h20, hwf0⟩ := wfevs_ok h
  have hle := evs_le hwf0
  have h0 : (⟨(evsText l).toArray⟩ : ByteArray).data.toList = evsText l := rfl
  refine (tparse_any _ (by rw [Lib.size_eq, h0]; omega) w hd).mono ?_
  rintro e w' ⟨hb, ⟨l', A, m, c, hwf, hct, hchk, hm, rfl, hrow, _⟩ | ⟨l', hwf, hct, hchk, rfl⟩ | ⟨hno, rfl⟩⟩
  · have hl := evs_inj hwf hwf0 hct
    subst hl
    obtain rfl : m = n := hm.symm.trans hn
    exact ⟨A, c, rfl, hrow, hb⟩
  · have hl := evs_inj hwf hwf0 hct
    subst hl
    exact absurd h hchk
  · exact absurd h0.symm (hno l hwf0)
end Go.Proofs.YthafahnlfpkkbaaGreatDoor

/- Package trace: the contracts of Text and Print. Conditions: the library's table of powers, which the row lists. -/
namespace Go.Proofs.YthafahnlfpkkbaaGreatDoor
open Go.RowKit
set_option maxRecDepth 100000

theorem text_ret {w w' : World} {ac : Act} {a r p q : Int} {R : ByteArray} (h : ac.tmps[2]? = some (.string (⟨(Lib.itoa a).toArray⟩ ++ ⟨#[32]⟩ ++ R ++ ⟨#[32]⟩ ++ ⟨(Lib.itoa p).toArray⟩ ++ ⟨#[32]⟩ ++ ⟨(Lib.itoa q).toArray⟩))) (hd : ac.defers = []) (hR : R.data.toList = roomT ⟨a, r, p, q⟩) (hb : Below w.heap.size w w') :
    bodyPost Tryz.prog Tryz.f61 (fun e w' => ∃ T : ByteArray, e = .returned (.string T) ∧ T.data.toList = evLine ⟨a, r, p, q⟩ ∧ Below w.heap.size w w') .ret ac w' := by
  refine bodyPost_ret (by simp [results, Tryz.results61, go_sem, h]; rfl) hd ⟨_, rfl, ?_, hb⟩
  simp only [ByteArray.data_append, Array.toList_append, hR]
  unfold evLine
  simp
set_option maxHeartbeats 4000000 in
theorem ttext_any (x : Ev) (hx : WfEv x) (w : World) (hp : Pows w) : Calls Tryz.prog 61 #[.agg #[.int .i64 x.tick, .int .i64 x.room, .int .i64 x.pc, .int .i64 x.what]] w fun e w' => ∃ T : ByteArray, e = .returned (.string T) ∧ T.data.toList = evLine x ∧ Below w.heap.size w w' := by
  have HPL := hid (pows_lt hp)
  obtain ⟨a, r, p, q⟩ := x
  have h0 := hx.tick
  have h1 := hx.room
  have h2 := hx.pc
  have h3 := hx.what
  simp only at h0 h1 h2 h3 ⊢
  have HIT : Hid (∀ (n : Int) (w' : World), -9223372036854775808 ≤ n → n ≤ 9223372036854775807 → Below w.heap.size w w' → Calls Tryz.prog 109 #[.int .i64 n] w' fun e w'' => e = .returned (.string ⟨(Lib.itoa n).toArray⟩) ∧ Below w'.heap.size w' w'') := hid fun n w' a b hb => itoaS_any n a b w' (hp.new HPL.out hb)
  have la := itoa_le (k := 6) h0.1 h0.2
  have lp := itoa_le (k := 6) h2.1 h2.2
  have lq := itoa_le (k := 6) h3.1 h3.2
  have HLEN : Hid ((Lib.itoa a).length ≤ 7 ∧ (Lib.itoa p).length ≤ 7 ∧ (Lib.itoa q).length ≤ 7) := hid ⟨la, lp, lq⟩
  obtain ⟨w1, hw1⟩ : ∃ w1, w1 = w.alloc (.cells #[.int .i64 a, .int .i64 r, .int .i64 p, .int .i64 q] 32) := ⟨_, rfl⟩
  have hb1 : Below w.heap.size w w1 := by rw [hw1]; exact (Below.refl _ _).alloc (Nat.le_refl _) _
  have hbx : w1.heap[w.heap.size]? = some (.cells #[.int .i64 a, .int .i64 r, .int .i64 p, .int .i64 q] 32 (0, 0)) := by rw [hw1]; exact heap_alloc_new w _
  have HBX : Hid (∀ w', Below w1.heap.size w1 w' → w'.cell? ⟨w.heap.size, 0, none⟩ = some (.int .i64 a) ∧ w'.cell? ⟨w.heap.size, 2, none⟩ = some (.int .i64 p) ∧ w'.cell? ⟨w.heap.size, 3, none⟩ = some (.int .i64 q)) := hid fun w' hb => by
    have h := (hb.block _ (blk_lt hbx)).trans hbx
    have x0 := blk_cell h 0
    have x2 := blk_cell h 2
    have x3 := blk_cell h 3
    simp at x0 x2 x3
    exact ⟨x0, x2, x3⟩
  have HI1 : Hid (∀ (n : Int) (w' : World), -9223372036854775808 ≤ n → n ≤ 9223372036854775807 → Below w1.heap.size w1 w' → Calls Tryz.prog 109 #[.int .i64 n] w' fun e w'' => e = .returned (.string ⟨(Lib.itoa n).toArray⟩) ∧ Below w'.heap.size w' w'') := hid fun n w' x y hb => HIT.out n w' x y (hb1.trans (hb.mono hb1.size))
  have HB1 := hid hb1
  have y1 := blk_cell hbx 1
  have hlx := blk_lt hbx
  simp at y1
  clear hp hx la lp lq hb1 hbx HIT
  go_enter Tryz.func61, Tryz.ntmps61
  by_cases hr : 0 ≤ r
  · go_upto_region 4 with (go_at_call 109; rw [← hw1]; refine (HI1.out r w1 (by omega) (by omega) (Below.refl _ _)).mono ?_; rintro e w2 ⟨rfl, hb2⟩; have HB := hid hb2; clear hb2 hw1 y1 hlx)
    obtain ⟨R, hR⟩ : ∃ R : ByteArray, R = ⟨(Lib.itoa r).toArray⟩ := ⟨_, rfl⟩
    rw [← hR]
    have hRd : R.data.toList = roomT ⟨a, r, p, q⟩ := by unfold roomT; rw [hR, if_pos hr]
    have lR : R.size ≤ 7 := by rw [hR, Lib.size_eq]; exact itoa_le (k := 6) hr h1.2
    obtain ⟨x0, x2, x3⟩ := HBX.out _ HB.out
    have HRD := hid hRd
    obtain ⟨la, lp, lq⟩ := HLEN.out
    have k1 : ¬ 9223372036854775807 < (Lib.itoa a).length + 1 := by omega
    have k2 : ¬ 9223372036854775807 < (Lib.itoa a).length + 1 + R.size := by omega
    have k3 : ¬ 9223372036854775807 < (Lib.itoa a).length + 1 + R.size + 1 := by omega
    have k4 : ¬ 9223372036854775807 < (Lib.itoa a).length + 1 + R.size + 1 + (Lib.itoa p).length := by omega
    have k5 : ¬ 9223372036854775807 < (Lib.itoa a).length + 1 + R.size + 1 + (Lib.itoa p).length + 1 := by omega
    have k6 : ¬ 9223372036854775807 < (Lib.itoa a).length + 1 + R.size + 1 + (Lib.itoa p).length + 1 + (Lib.itoa q).length := by omega
    clear hR hRd
    go_region_held3 (fun w' => w'.cell? ⟨w.heap.size, 0, none⟩ = some (.int .i64 a) ∧ w'.cell? ⟨w.heap.size, 2, none⟩ = some (.int .i64 p) ∧ w'.cell? ⟨w.heap.size, 3, none⟩ = some (.int .i64 q))
      (first | (with_reducible exact HBX.out _ HB.out) | exact ⟨‹_›, ‹_›, ‹_›⟩)
      (first | (go_at_call 109; refine (HI1.out _ _ (by omega) (by omega) (by first | exact HB.out.drew | exact HB.out)).mono ?_; rintro e w3 ⟨rfl, hb3⟩; replace HB := hid (Below.trans (by first | exact HB.out.drew | exact HB.out) (hb3.mono HB.out.size)); clear hb3))
    all_goals
      go_wp2_with fail
      exact text_ret rfl rfl HRD.out (HB1.out.trans (HB.out.mono HB1.out.size))
  · go_upto_region 4 with fail
    rw [← hw1]
    obtain ⟨R, hR⟩ : ∃ R : ByteArray, R = ⟨#[45]⟩ := ⟨_, rfl⟩
    rw [← hR]
    have hRd : R.data.toList = roomT ⟨a, r, p, q⟩ := by unfold roomT; rw [hR, if_neg hr]
    have lR : R.size ≤ 7 := by rw [hR]; decide
    have HB := hid (Below.refl w1.heap.size w1)
    clear hw1 y1 hlx
    obtain ⟨x0, x2, x3⟩ := HBX.out _ HB.out
    have HRD := hid hRd
    obtain ⟨la, lp, lq⟩ := HLEN.out
    have k1 : ¬ 9223372036854775807 < (Lib.itoa a).length + 1 := by omega
    have k2 : ¬ 9223372036854775807 < (Lib.itoa a).length + 1 + R.size := by omega
    have k3 : ¬ 9223372036854775807 < (Lib.itoa a).length + 1 + R.size + 1 := by omega
    have k4 : ¬ 9223372036854775807 < (Lib.itoa a).length + 1 + R.size + 1 + (Lib.itoa p).length := by omega
    have k5 : ¬ 9223372036854775807 < (Lib.itoa a).length + 1 + R.size + 1 + (Lib.itoa p).length + 1 := by omega
    have k6 : ¬ 9223372036854775807 < (Lib.itoa a).length + 1 + R.size + 1 + (Lib.itoa p).length + 1 + (Lib.itoa q).length := by omega
    clear hR hRd
    go_region_held3 (fun w' => w'.cell? ⟨w.heap.size, 0, none⟩ = some (.int .i64 a) ∧ w'.cell? ⟨w.heap.size, 2, none⟩ = some (.int .i64 p) ∧ w'.cell? ⟨w.heap.size, 3, none⟩ = some (.int .i64 q))
      (first | (with_reducible exact HBX.out _ HB.out) | exact ⟨‹_›, ‹_›, ‹_›⟩)
      (first | (go_at_call 109; refine (HI1.out _ _ (by omega) (by omega) (by first | exact HB.out.drew | exact HB.out)).mono ?_; rintro e w3 ⟨rfl, hb3⟩; replace HB := hid (Below.trans (by first | exact HB.out.drew | exact HB.out) (hb3.mono HB.out.size)); clear hb3))
    all_goals
      go_wp2_with fail
      exact text_ret rfl rfl HRD.out (HB1.out.trans (HB.out.mono HB1.out.size))
end Go.Proofs.YthafahnlfpkkbaaGreatDoor

/- Package trace: the contract of Print, for every list of events. Conditions: the library's table of powers, which the row lists. -/
namespace Go.Proofs.YthafahnlfpkkbaaGreatDoor
open Go.RowKit
set_option maxRecDepth 100000

def TPrinted (w : World) (l : List Ev) (e : Ending) (w' : World) : Prop := e = .returned (.tuple #[txt (if evsChk l = 0 then evsText l else []), errV (evsChk l)]) ∧ Below w.heap.size w w'
theorem evs_next {l : List Ev} {k : Nat} {x : Ev} (h : l[k]? = some x) : evsText (l.take (k + 1)) = evsText (l.take k) ++ evText x := by
  obtain ⟨h1, h2⟩ := List.getElem?_eq_some_iff.1 h
  unfold evsText
  rw [List.take_succ_eq_append_getElem h1, List.flatMap_append, h2]; simp

set_option maxHeartbeats 4000000 in
theorem tprint_any (A : Option Addr) (n c : Nat) (l : List Ev) (w : World) (hl : l.length = n) (hp : Pows w) (hs : Sl w A 4 n (l.flatMap Ev.cells)) (hsw : SlW A c n) :
    Calls Tryz.prog 19 #[.slice A n c] w (TPrinted w l) := by
  have HCHK := hid (traceCheck_any A n c l w hl hs hsw.1 hsw.2.1)
  by_cases he : evsChk l = 0
  · obtain ⟨hl20, hgood⟩ := wfevs_ok he
    have hpost : ∀ e w', e = .returned (.tuple #[txt (evsText l), .nilIface]) ∧ Below w.heap.size w w' → TPrinted w l e w' := fun e w' h => by
      unfold TPrinted; rw [if_pos he, he, errV_zero]; exact h
    refine Calls.mono ?_ hpost
    rw [he, errV_zero] at HCHK
    rw [hl] at hl20
    have HS := hid hs
    have HPW := hid hp
    have HPL := hid (pows_lt hp)
    have HLN := hid hl
    have HGOOD := hid hgood
    clear hs hp hsw he hpost hgood hl
    go_enter Tryz.func19, Tryz.ntmps19
    go_wp2_with (go_at_call 59; refine HCHK.out.mono ?_; rintro e w1 ⟨rfl, hb1⟩; have HB1 := hid hb1; clear hb1 HCHK)
    go_loopw [15] (fun v15 wr => ∃ k : Nat, k ≤ n ∧ v15 = .int .i64 k ∧ Bld w1.heap.size w1.heap.size (evsText (l.take k)) wr ∧ Below w1.heap.size w1 wr) (fun v15 _ => n - (intOf v15).toNat)
    case atStart => exact ⟨0, by omega, rfl, by rw [List.take_zero]; exact bld_fresh w1, (Below.refl _ _).alloc (Nat.le_refl _) _⟩
    case round =>
      obtain ⟨k, hk, rfl, hbld, hb⟩ := hrel
      have HBLD := hid hbld
      have HB := hid hb
      have HBW := hid (HB1.out.trans (hb.mono HB1.out.size))
      clear hbld hb
      by_cases hkl : k < n
      · have hkl2 : k < l.length := by rw [HLN.out]; exact hkl
        have hget := List.getElem?_eq_getElem hkl2
        obtain ⟨b, off, rfl, hlb, g0, g1, g2, g3⟩ := sl_ev (HS.out.new HBW.out) hget hkl
        have hwf := HGOOD.out l[k] (List.getElem_mem hkl2)
        generalize l[k] = x at g0 g1 g2 g3 hget hwf
        have HNEXT := hid (evs_next hget)
        have htl : (evsText (l.take k)).length ≤ 32 * k := by
          have h1 := evs_le (l := l.take k) (fun y hy => HGOOD.out y (List.mem_of_mem_take hy))
          rw [List.length_take] at h1
          have h2 := Nat.min_le_left k l.length
          have h3 : 32 * min k l.length ≤ 32 * k := Nat.mul_le_mul_left _ h2
          omega
        obtain ⟨T0, hT0⟩ : ∃ T0, T0 = evsText (l.take k) := ⟨_, rfl⟩
        rw [← hT0] at htl HNEXT HBLD
        have HTX : Hid (∀ w', Below wr.heap.size wr w' → Calls Tryz.prog 61 #[.agg #[.int .i64 x.tick, .int .i64 x.room, .int .i64 x.pc, .int .i64 x.what]] w' fun e w'' => ∃ T : ByteArray, e = .returned (.string T) ∧ T.data.toList = evLine x ∧ Below w'.heap.size w' w'') := hid fun w' hb => ttext_any x hwf w' (HPW.out.new HPL.out (HBW.out.trans (hb.mono HBW.out.size)))
        have HEL := hid (ev_le hwf)
        obtain ⟨xa, xr, xp, xq⟩ := x
        simp only [] at g0 g1 g2 g3 HTX
        have HTL := hid htl
        clear hget hwf htl hT0
        go_wp2_with fail
        refine (HTX.out _ ((Below.refl _ _).alloc (Nat.le_refl _) _)).mono ?_
        rintro e w3 ⟨T, rfl, hT, hb3⟩
        have HT := hid hT
        have hTs : T.size ≤ 32 := by
          have := HEL.out
          rw [Lib.size_eq, hT]
          unfold evText at this
          rw [List.length_append] at this; omega
        have hba : Bld w1.heap.size w1.heap.size T0 (wr.alloc (.cells #[.int .i64 xa, .int .i64 xr, .int .i64 xp, .int .i64 xq] 32)) := HBLD.out.alloc _
        have HBL3 := hid (hba.new hb3)
        have HB3 := hid ((HB.out.alloc HB.out.size _).trans (hb3.mono (Nat.le_trans HB.out.size (by simp))))
        have hcat : ¬ 9223372036854775807 < T.size + 1 := by omega
        clear hT hb3 hba g0 g1 g2 g3
        go_wp2_with fail
        refine (write_any w1.heap.size w1.heap.size T0 _ _ HBL3.out ?len HB3.out.size).mono ?_
        case len =>
          rw [ByteArray.size_append]
          have := HTL.out
          have h0 : (ByteArray.mk #[10]).size = 1 := rfl
          omega
        rintro e w6 ⟨rfl, hw6⟩
        have HW6 := hid hw6
        clear hw6
        go_wp2_with fail
        go_roundw
        case rel =>
          refine ⟨k + 1, by omega, by go_num, ?_, HB3.out.trans HW6.out.below⟩
          have h := HW6.out.bld
          rw [ByteArray.data_append, Array.toList_append, HT.out] at h
          rw [HNEXT.out]
          exact h
        case measure => simp [intOf]; omega
      · obtain rfl : k = n := by omega
        have htk : l.take k = l := by rw [← HLN.out, List.take_length]
        rw [htk] at HBLD
        clear htk
        go_wp2_with fail
        refine (Tryz.Builder_String_any_k w1.heap.size w1.heap.size (evsText l) _ HBLD.out HB.out.size).mono ?_
        rintro e w6 ⟨rfl, _, hb6, _⟩
        have HB6 := hid hb6
        clear hb6
        go_wp2_with fail
        go_ret2
        exact ⟨rfl, HB1.out.trans ((HB.out.trans HB6.out).mono HB1.out.size)⟩
  · have hpost : ∀ e w', e = .returned (.tuple #[txt [], errV (evsChk l)]) ∧ Below w.heap.size w w' → TPrinted w l e w' := fun e w' h => by
      unfold TPrinted; rw [if_neg he]; exact h
    refine Calls.mono ?_ hpost
    rw [errV_pos he] at HCHK ⊢
    clear hs hp hsw hpost hl
    go_enter Tryz.func19, Tryz.ntmps19
    go_wp2_with (go_at_call 59; refine HCHK.out.mono ?_; rintro e w1 ⟨rfl, hb1⟩; have HB1 := hid hb1; clear hb1 HCHK)
    go_ret2
    exact ⟨rfl, HB1.out⟩
end Go.Proofs.YthafahnlfpkkbaaGreatDoor

/- Package trace: the contract of Counts, for every list of events that is right. Conditions: none. -/
namespace Go.Proofs.YthafahnlfpkkbaaGreatDoor
open Go.RowKit
set_option maxRecDepth 100000

theorem made_six : madeCells (Value.int .i64 0).cells (6 * 1) = #[.int .i64 0, .int .i64 0, .int .i64 0, .int .i64 0, .int .i64 0, .int .i64 0] := by kernel_rfl
theorem run_makeSix (w : World) : (Instr.makeSlice 41 (.int .i64 6) (.int .i64 6)).run Tryz.prog w = .ok (.slice (some ⟨w.heap.size, 0, none⟩) 6 6) (w.alloc (.cells #[.int .i64 0, .int .i64 0, .int .i64 0, .int .i64 0, .int .i64 0, .int .i64 0] 3)) := by
  obtain ⟨i0, hi, hz0, hz1, hz2⟩ := info_parts Tryz.infoInt
  have := run_make (P := Tryz.prog) w 41 3 i0 _ Tryz.underlying41 hi hz0 .i64 .i64 6 6 (by omega) (by omega) (by rw [hz2]; omega) (by omega)
  rw [this, hz1, show (6 : Int).toNat = 6 from rfl, made_six]
/-- Six numbers as they lie. -/
def sixC (f : Nat → Nat) : Array Value := #[.int .i64 (f 0), .int .i64 (f 1), .int .i64 (f 2), .int .i64 (f 3), .int .i64 (f 4), .int .i64 (f 5)]
def kindsOf (l : List Ev) (i : Nat) : Nat := cntF Ev.what l i
theorem kinds_snoc (l : List Ev) (x : Ev) (i : Nat) : kindsOf (l ++ [x]) i = kindsOf l i + if x.what = i then 1 else 0 := by
  unfold kindsOf cntF
  rw [List.filter_append, List.length_append]
  by_cases h : x.what = i <;> simp [h]

set_option maxHeartbeats 4000000 in
theorem tcounts_any (A : Option Addr) (n c : Nat) (l : List Ev) (w : World) (hl : l.length = n) (hs : Sl w A 4 n (l.flatMap Ev.cells)) (hsw : SlW A c n) (he : evsChk l = 0) :
    Calls Tryz.prog 20 #[.slice A n c] w fun e w' => ∃ b : Nat, e = .returned (.tuple #[.slice (some ⟨b, 0, none⟩) 6 6, .nilIface]) ∧ w'.heap[b]? = some (.cells (sixC (kindsOf l)) 3 (0, 0)) ∧ Below w.heap.size w w' := by
  have HCHK := hid (traceCheck_any A n c l w hl hs hsw.1 hsw.2.1)
  rw [he, errV_zero] at HCHK
  obtain ⟨hl20, hgood⟩ := evs_each he
  rw [hl] at hl20
  have HS := hid hs
  have HL := hid hl
  have HGOOD := hid hgood
  have hmk := run_makeSix
  clear hs hsw he hgood hl
  go_enter Tryz.func20, Tryz.ntmps20
  go_wp2_with (go_at_call 59; refine HCHK.out.mono ?_; rintro e w1 ⟨rfl, hb1⟩; have HB1 := hid hb1; clear hb1 HCHK)
  go_loopw [16] (fun v16 wr => ∃ k : Nat, k ≤ n ∧ v16 = .int .i64 k ∧ wr.heap[w1.heap.size]? = some (.cells (sixC (kindsOf (l.take k))) 3 (0, 0)) ∧ Below w1.heap.size w1 wr) (fun v16 _ => n - (intOf v16).toNat)
  case atStart => exact ⟨0, by omega, rfl, heap_alloc_new w1 _, (Below.refl _ _).alloc (Nat.le_refl _) _⟩
  case round =>
    obtain ⟨k, hk, rfl, hblk, hb⟩ := hrel
    have HBLK := hid hblk
    have HB := hid hb
    have hlw := blk_lt hblk
    clear hmk
    by_cases hkn : k < n
    · have hkl : k < l.length := by rw [HL.out]; exact hkn
      have hget := List.getElem?_eq_getElem hkl
      have htk : l.take (k + 1) = l.take k ++ [l[k]] := List.take_succ_eq_append_getElem hkl
      have hev := (ev_bounds (HGOOD.out l[k] (List.getElem_mem hkl))).2
      obtain ⟨b, off, rfl, hlb, g0, g1, g2, g3⟩ := sl_ev (HS.out.new (HB1.out.trans (hb.mono HB1.out.size))) hget hkn
      generalize l[k] = x at g0 g1 g2 g3 htk hev
      obtain ⟨xt, xr, xp, xw⟩ := x
      simp only [] at g0 g1 g2 g3 hev
      have hsnoc : ∀ i, kindsOf (l.take (k + 1)) i = kindsOf (l.take k) i + if xw = (i : Int) then 1 else 0 := fun i => by rw [htk]; exact kinds_snoc _ _ i
      have HSN := hid hsnoc
      have hkb : ∀ i, kindsOf (l.take k) i ≤ 2000 := fun i => by
        have h1 := cntF_le Ev.what (l.take k) i
        rw [List.length_take] at h1
        have h2 := Nat.min_le_left k l.length
        unfold kindsOf; omega
      have HKB := hid hkb
      unfold sixC at hblk
      generalize kindsOf (l.take k) = f at hblk HSN HKB HBLK
      obtain ⟨W, rfl⟩ : ∃ W : Nat, xw = W := ⟨xw.toNat, by omega⟩
      have hW : W < 6 := by omega
      have c0 := blk_cell hblk 0
      have c1 := blk_cell hblk 1
      have c2 := blk_cell hblk 2
      have c3 := blk_cell hblk 3
      have c4 := blk_cell hblk 4
      have c5 := blk_cell hblk 5
      simp at c0 c1 c2 c3 c4 c5
      have fz : ∀ o, wr.frozen? ⟨w1.heap.size, o, none⟩ = false := fun o => blk_free hblk o
      have hb0 := HKB.out 0
      have hb1 := HKB.out 1
      have hb2 := HKB.out 2
      have hb3 := HKB.out 3
      have hb4 := HKB.out 4
      have hb5 := HKB.out 5
      clear hget htk hev hsnoc hkb hblk hb hkl
      have hcs : W = 0 ∨ W = 1 ∨ W = 2 ∨ W = 3 ∨ W = 4 ∨ W = 5 := by omega
      rcases hcs with rfl | rfl | rfl | rfl | rfl | rfl
      all_goals
        go_wp2_with fail
        refine ⟨⟨k + 1, by omega, by go_num, ?_, ?_⟩, by simp [intOf]; omega⟩
        · rw [blk_alloc (by rw [sz_set]; exact hlw)]
          refine (blk_set HBLK.out _ _).trans ?_
          unfold sixC
          rw [HSN.out 0, HSN.out 1, HSN.out 2, HSN.out 3, HSN.out 4, HSN.out 5]
          simp
        · exact (HB.out.setCell (Nat.le_refl _) _).alloc (by rw [sz_set]; exact HB.out.size) _
    · obtain rfl : k = n := by omega
      have htk : l.take k = l := by rw [← HL.out, List.take_length]
      rw [htk] at HBLK
      clear htk
      go_wp2_with fail
      go_ret2
      exact ⟨w1.heap.size, rfl, HBLK.out, HB1.out.trans (HB.out.mono HB1.out.size)⟩
end Go.Proofs.YthafahnlfpkkbaaGreatDoor

/- framesame.Events: of two lists that are the same it says so. Conditions: none. -/
namespace Go.Proofs.YthafahnlfpkkbaaGreatDoor
open Go.RowKit
set_option maxRecDepth 100000

theorem same_evs (A B : Option Addr) (n ca cb : Nat) (l : List Ev) (w : World) (hl : l.length = n) (hA : Sl w A 4 n (l.flatMap Ev.cells)) (hB : Sl w B 4 n (l.flatMap Ev.cells)) (hn : n ≤ 140737488355328) (hca : n ≤ ca) (hcb : n ≤ cb) :
    Calls Tryz.prog 16 #[.slice A n ca, .slice B n cb] w (Read w (.bool true)) := by
  have HA := hid hA
  have HB := hid hB
  have HL := hid hl
  have hgd := event_guard
  clear hA hB hl
  go_enter Tryz.func16, Tryz.ntmps16
  go_wp2_with fail
  go_loopw [5] (fun v5 wr => ∃ k d : Nat, k ≤ n ∧ v5 = .int .i64 k ∧ wr = w.drewN d) (fun v5 _ => n - (intOf v5).toNat)
  case atStart => exact ⟨0, 0, by omega, rfl, rfl⟩
  case round =>
    obtain ⟨k, d, hk, rfl, rfl⟩ := hrel
    by_cases hkn : k < n
    · have hkl : k < l.length := by rw [HL.out]; exact hkn
      have hget := List.getElem?_eq_getElem hkl
      obtain ⟨b, o, rfl, _, c0, c1, c2, c3⟩ := sl_ev HA.out hget hkn
      obtain ⟨b2, o2, rfl, _, d0, d1, d2, d3⟩ := sl_ev HB.out hget hkn
      have hneq := event_neq l[k]
      generalize l[k] = x at c0 c1 c2 c3 d0 d1 d2 d3 hneq
      obtain ⟨xa, xb, xc, xd⟩ := x
      simp only [] at c0 c1 c2 c3 d0 d1 d2 d3 hneq
      clear hkl hget
      go_wp2_with fail
      go_quiet (fail)
      go_wp2_with fail
      go_roundw
      case rel => exact ⟨k + 1, _, by omega, by go_num, rfl⟩
      case measure => simp [intOf]; omega
    · obtain rfl : k = n := by omega
      go_wp2_with fail
      go_ret
      exact ⟨rfl, d, rfl⟩
end Go.Proofs.YthafahnlfpkkbaaGreatDoor
