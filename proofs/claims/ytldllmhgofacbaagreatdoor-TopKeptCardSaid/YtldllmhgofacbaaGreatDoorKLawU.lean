/- Several parts: each begins with what it says. -/
import Derived.Test.YtldllmhgofacbaaGreatDoorFrameU
import Derived.Test.YtldllmhgofacbaaGreatDoorWaysU
import Derived.Test.YtldllmhgofacbaaGreatDoorRLawU
import Derived.Test.YtldllmhgofacbaaGreatDoorLineU
import Derived.Test.YtldllmhgofacbaaGreatDoorBaseU
/- Plain: what is wrong with a plan. -/
namespace Go.Proofs.YtldllmhgofacbaaGreatDoor

/-- A plan as plain data. -/
structure Pl where
  code : List (List Op)
  ticks : Int
  spans : List Span
  wires : List Wire
def spanOver (many : Int) (s : Span) : Bool := decide (many ≤ s.room)
def wireOver (many : Int) (x : Wire) : Bool := decide (many ≤ x.fr ∨ many ≤ x.to)
/-- The first fault of codes. -/
def codesChk : List (List Op) → Int
  | [] => 0
  | l :: r => if (codeChk l).2 ≠ 0 then (codeChk l).2 else codesChk r
/-- Is an op's wire its room's own? -/
def portOk (ws : List Wire) (room : Nat) (o : Op) : Bool :=
  if o.what = 8 then (match ws[o.b.toNat]? with | some x => decide (x.fr = room) | none => false)
  else if o.what = 9 then (match ws[o.b.toNat]? with | some x => decide (x.to = room) | none => false) else true
def portsOk (ws : List Wire) (room : Nat) (l : List Op) : Bool := l.all (portOk ws room)
def allPorts (ws : List Wire) : List (List Op) → Nat → Bool
  | [], _ => true
  | l :: r, i => portsOk ws i l && allPorts ws r (i + 1)
def planChk (p : Pl) : Int :=
  if 5 < p.code.length then 4 else if p.code.length = 0 then 5
  else if (frameChk p.ticks p.spans).2 ≠ 0 then (frameChk p.ticks p.spans).2
  else if (flowChk p.wires).2 ≠ 0 then (flowChk p.wires).2
  else if (p.spans.any (spanOver p.code.length) || p.wires.any (wireOver p.code.length)) = true then 1
  else if codesChk p.code ≠ 0 then codesChk p.code
  else if allPorts p.wires p.code 0 = false then 3 else 0

theorem codesChk_ok {l : List (List Op)} (h : codesChk l = 0) : ∀ c ∈ l, (codeChk c).2 = 0 := by
  induction l with
  | nil => intro c hc; simp at hc
  | cons a r ih =>
    unfold codesChk at h
    split at h
    · rename_i h1; exact absurd h h1
    · rename_i h1
      intro c hc
      rcases List.mem_cons.1 hc with rfl | hc
      · simpa using h1
      · exact ih h c hc
theorem allPorts_ok {ws : List Wire} : ∀ {l : List (List Op)} {i : Nat}, allPorts ws l i = true → ∀ k c, l[k]? = some c → portsOk ws (i + k) c = true
  | [], _, _, k, c, h => by simp at h
  | a :: r, i, h, 0, c, hc => by
    simp only [allPorts, Bool.and_eq_true] at h
    simp at hc; subst hc; exact h.1
  | a :: r, i, h, k + 1, c, hc => by
    simp only [allPorts, Bool.and_eq_true] at h
    have := allPorts_ok h.2 k c (by simpa using hc)
    rwa [show i + 1 + k = i + (k + 1) by omega] at this

/-- What is known of a plan that is right. -/
structure PlOk (p : Pl) : Prop where
  some1 : 1 ≤ p.code.length
  most5 : p.code.length ≤ 5
  frame : (frameChk p.ticks p.spans).2 = 0
  flow : (flowChk p.wires).2 = 0
  spans : ∀ s ∈ p.spans, s.room < p.code.length
  wires : ∀ x ∈ p.wires, x.fr < p.code.length ∧ x.to < p.code.length
  codes : ∀ c ∈ p.code, (codeChk c).2 = 0
  ports : ∀ k c, p.code[k]? = some c → portsOk p.wires k c = true
theorem planChk_ok {p : Pl} (h : planChk p = 0) : PlOk p := by
  unfold planChk at h
  by_cases h1 : 5 < p.code.length
  · rw [if_pos h1] at h; simp at h
  rw [if_neg h1] at h
  by_cases h2 : p.code.length = 0
  · rw [if_pos h2] at h; simp at h
  rw [if_neg h2] at h
  by_cases h3 : (frameChk p.ticks p.spans).2 ≠ 0
  · rw [if_pos h3] at h; exact absurd h h3
  rw [if_neg h3] at h
  by_cases h4 : (flowChk p.wires).2 ≠ 0
  · rw [if_pos h4] at h; exact absurd h h4
  rw [if_neg h4] at h
  by_cases h5 : (p.spans.any (spanOver p.code.length) || p.wires.any (wireOver p.code.length)) = true
  · rw [if_pos h5] at h; simp at h
  rw [if_neg h5] at h
  by_cases h6 : codesChk p.code ≠ 0
  · rw [if_pos h6] at h; exact absurd h h6
  rw [if_neg h6] at h
  by_cases h7 : allPorts p.wires p.code 0 = false
  · rw [if_pos h7] at h; simp at h
  simp only [Bool.or_eq_true, not_or, Bool.not_eq_true, List.any_eq_false] at h5
  refine ⟨by omega, by omega, by simpa using h3, by simpa using h4, fun s hs => ?_, fun x hx => ?_, codesChk_ok (by simpa using h6), fun k c hk => ?_⟩
  · have := h5.1 s hs
    simp only [spanOver, decide_eq_false_iff_not] at this; omega
  · have := h5.2 x hx
    simp only [wireOver, decide_eq_false_iff_not] at this; omega
  · have := allPorts_ok (ws := p.wires) (l := p.code) (i := 0) (by simpa using h7) k c hk
    rwa [Nat.zero_add] at this
end Go.Proofs.YtldllmhgofacbaaGreatDoor

/- Plain: a kernel's tick, and that it stays within what is right. -/
namespace Go.Proofs.YtldllmhgofacbaaGreatDoor

/-- A line as plain data. -/
structure Ln where
  w : Wire
  items : List Int
  lost : Int
structure Kst where
  rooms : List St
  lines : List Ln
  time : Int
structure Ev where
  tick : Int
  room : Int
  pc : Int
  what : Int
def Ev.cells (x : Ev) : List Value := [.int .i64 x.tick, .int .i64 x.room, .int .i64 x.pc, .int .i64 x.what]
theorem Ev.len (x : Ev) : x.cells.length = 4 := rfl

/-- A step of room r: what came of it, and the kernel then. -/
def kDo (n : Int) (r : Nat) (o : Op) (s : St) (k : Kst) : Int × Kst :=
  if s.failed = true then (5, k)
  else if o.what = 9 then (match k.lines[o.b.toNat]? with
    | some x => (match x.items with
      | [] => (3, k)
      | i :: _ => (2, ⟨k.rooms.set r (stepDo n o s i true).1, k.lines.set o.b.toNat ⟨x.w, lineTake x.w x.items, x.lost⟩, k.time⟩))
    | none => (0, k))
  else if o.what = 8 then (match k.lines[o.b.toNat]? with
    | some x => (if (lineSend x.w x.items x.lost (s.get o.a.toNat)).1 = true then 1 else 3,
        ⟨k.rooms.set r (stepDo n o s 0 false).1, k.lines.set o.b.toNat ⟨x.w, (lineSend x.w x.items x.lost (s.get o.a.toNat)).2.1, (lineSend x.w x.items x.lost (s.get o.a.toNat)).2.2⟩, k.time⟩)
    | none => (0, k))
  else (if o.what = 11 then 4 else 0, ⟨k.rooms.set r (stepDo n o s 0 false).1, k.lines, k.time⟩)

def tickBy (p : Pl) (spans : List Span) (k : Kst) : Ev × Kst :=
  if turnAt spans (k.time % p.ticks) < 0 then (⟨k.time, turnAt spans (k.time % p.ticks), 0, 0⟩, ⟨k.rooms, k.lines, k.time + 1⟩)
  else match p.code[(turnAt spans (k.time % p.ticks)).toNat]?, k.rooms[(turnAt spans (k.time % p.ticks)).toNat]? with
    | some ops, some s => (match ops[s.pc.toNat]? with
      | some o => (⟨k.time, turnAt spans (k.time % p.ticks), s.pc, (kDo ops.length (turnAt spans (k.time % p.ticks)).toNat o s k).1⟩,
          ⟨(kDo ops.length (turnAt spans (k.time % p.ticks)).toNat o s k).2.rooms, (kDo ops.length (turnAt spans (k.time % p.ticks)).toNat o s k).2.lines, k.time + 1⟩)
      | none => (⟨k.time, -1, 0, 0⟩, k))
    | _, _ => (⟨k.time, -1, 0, 0⟩, k)
def tick (p : Pl) (k : Kst) : Ev × Kst := tickBy p p.spans k
/-- A kernel at its beginning. -/
def kNew (p : Pl) : Kst := ⟨p.code.map fun _ => St.zero, p.wires.map fun x => ⟨x, [], 0⟩, 0⟩

structure LnOk (x : Ln) (B : Int) : Prop where
  wire : wireChk x.w = 0
  most : (x.items.length : Int) ≤ x.w.deep
  nums : ∀ n ∈ x.items, 0 ≤ n ∧ n < 1000
  lost0 : 0 ≤ x.lost
  lostB : x.lost ≤ B
structure KOk (p : Pl) (k : Kst) (B : Int) : Prop where
  rooms : k.rooms.length = p.code.length
  lines : k.lines.map Ln.w = p.wires
  time0 : 0 ≤ k.time
  timeB : k.time ≤ B
  states : ∀ (r : Nat) (ops : List Op) (s : St), p.code[r]? = some ops → k.rooms[r]? = some s → stOk s ops.length = true
  lns : ∀ x ∈ k.lines, LnOk x B

theorem wire_kind {x : Wire} (h : wireChk x = 0) : (x.kind = 1 ∧ x.deep = 1 ∨ x.kind = 2) ∧ 1 ≤ x.deep ∧ x.deep ≤ 6 := by
  unfold wireChk at h
  split at h
  · simp at h
  · rename_i h1
    simp only [not_or, not_and, Decidable.not_not] at h1
    omega
theorem LnOk.six {x : Ln} {B : Int} (h : LnOk x B) : x.items.length ≤ 6 := by have := h.most; have := wire_kind h.wire; omega
theorem LnOk.mono {x : Ln} {B C : Int} (h : LnOk x B) (hc : B ≤ C) : LnOk x C := ⟨h.wire, h.most, h.nums, h.lost0, by have := h.lostB; omega⟩
theorem LnOk.take {x : Ln} {B : Int} (h : LnOk x B) : LnOk ⟨x.w, lineTake x.w x.items, x.lost⟩ B := by
  refine ⟨h.wire, ?_, fun n hn => ?_, h.lost0, h.lostB⟩
  · have := h.most
    simp only [lineTake]
    split
    · rw [List.length_tail]; omega
    · exact this
  · simp only [lineTake] at hn
    split at hn
    · exact h.nums n (List.mem_of_mem_tail hn)
    · exact h.nums n hn
theorem LnOk.send {x : Ln} {B n : Int} (h : LnOk x B) (hn : 0 ≤ n ∧ n < 1000) : LnOk ⟨x.w, (lineSend x.w x.items x.lost n).2.1, (lineSend x.w x.items x.lost n).2.2⟩ (B + 1) := by
  have hk := wire_kind h.wire
  have hm := h.most
  have h0 := h.lost0
  have hB := h.lostB
  unfold lineSend
  by_cases h1 : x.w.kind = 1
  · rw [if_pos h1]
    exact ⟨h.wire, by simp only [List.length_cons, List.length_nil]; omega, fun m hm => by simp at hm; subst hm; exact hn, h0, by simp only []; omega⟩
  rw [if_neg h1]
  by_cases h2 : (x.items.length : Int) = x.w.deep
  · rw [if_pos h2]
    exact ⟨h.wire, hm, h.nums, by simp only []; omega, by simp only []; omega⟩
  · rw [if_neg h2]
    refine ⟨h.wire, by simp only [List.length_append, List.length_cons, List.length_nil]; omega, fun m hm => ?_, h0, by simp only []; omega⟩
    rcases List.mem_append.1 hm with hm | hm
    · exact h.nums m hm
    · simp at hm; subst hm; exact hn

/-- What a step of a room that is right needs and keeps. -/
theorem kDo_ok {p : Pl} {k : Kst} {B : Int} {r : Nat} {ops : List Op} {s : St} {o : Op} (hp : PlOk p) (h : KOk p k B) (hc : p.code[r]? = some ops) (hs : k.rooms[r]? = some s) (ho : ops[s.pc.toNat]? = some o) :
    (kDo ops.length r o s k).2.rooms.length = p.code.length ∧ (kDo ops.length r o s k).2.lines.map Ln.w = p.wires ∧
    (∀ (r' : Nat) (ops' : List Op) (s' : St), p.code[r']? = some ops' → (kDo ops.length r o s k).2.rooms[r']? = some s' → stOk s' ops'.length = true) ∧ ∀ x ∈ (kDo ops.length r o s k).2.lines, LnOk x (B + 1) := by
  have hcode := codeChk_ok (hp.codes ops (List.mem_of_getElem? hc))
  have hst := h.states r ops s hc hs
  have hop := hcode.2.2 o (List.mem_of_getElem? ho)
  have hn : (0 : Int) < ops.length := by omega
  have same : ∀ x ∈ k.lines, LnOk x (B + 1) := fun x hx => (h.lns x hx).mono (by omega)
  have stay : k.rooms.length = p.code.length ∧ k.lines.map Ln.w = p.wires ∧ (∀ (r' : Nat) (ops' : List Op) (s' : St), p.code[r']? = some ops' → k.rooms[r']? = some s' → stOk s' ops'.length = true) ∧ ∀ x ∈ k.lines, LnOk x (B + 1) :=
    ⟨h.rooms, h.lines, h.states, same⟩
  have put : ∀ t, stOk t ops.length = true → ∀ (r' : Nat) (ops' : List Op) (s' : St), p.code[r']? = some ops' → (k.rooms.set r t)[r']? = some s' → stOk s' ops'.length = true := by
    intro t ht r' ops' s' h1 h2
    rw [List.getElem?_set] at h2
    by_cases e : r = r'
    · subst e
      rw [hc] at h1; cases h1
      rw [if_pos rfl] at h2
      split at h2
      · cases h2; exact ht
      · cases h2
    · rw [if_neg e] at h2; exact h.states r' ops' s' h1 h2
  have lput : ∀ (i : Nat) (x y : Ln), k.lines[i]? = some x → y.w = x.w → LnOk y (B + 1) → (k.lines.set i y).map Ln.w = p.wires ∧ ∀ z ∈ k.lines.set i y, LnOk z (B + 1) := by
    intro i x y hx hy hok
    refine ⟨(set_map Ln.w _ _ _ _ hx hy).trans h.lines, fun z hz => ?_⟩
    rcases List.mem_or_eq_of_mem_set hz with hz | rfl
    · exact same z hz
    · exact hok
  unfold kDo
  by_cases hf : s.failed = true
  · rw [if_pos hf]; exact stay
  rw [if_neg hf]
  by_cases h9 : o.what = 9
  · rw [if_pos h9]
    cases hx : k.lines[o.b.toNat]? with
    | none => exact stay
    | some x =>
      have hxo := h.lns x (List.mem_of_getElem? hx)
      simp only []
      cases hi : x.items with
      | nil => exact stay
      | cons i rest =>
        have hstep := step_ok (got := i) (is := true) hn hop hst (fun _ => hxo.nums i (by rw [hi]; simp))
        have hl := lput _ x ⟨x.w, lineTake x.w (i :: rest), x.lost⟩ hx rfl (by have := hxo.take.mono (show B ≤ B + 1 by omega); rwa [hi] at this)
        exact ⟨by simp only [List.length_set]; exact h.rooms, hl.1, put _ hstep.1, hl.2⟩
  rw [if_neg h9]
  have hstep := step_ok (got := 0) (is := false) hn hop hst (fun h => by cases h)
  by_cases h8 : o.what = 8
  · rw [if_pos h8]
    cases hx : k.lines[o.b.toNat]? with
    | none => exact stay
    | some x =>
      have hxo := h.lns x (List.mem_of_getElem? hx)
      have hl := lput _ x ⟨x.w, (lineSend x.w x.items x.lost (s.get o.a.toNat)).2.1, (lineSend x.w x.items x.lost (s.get o.a.toNat)).2.2⟩ hx rfl (hxo.send ((stOk_iff.1 hst).2 _ (opOk_a hop).2))
      exact ⟨by simp only [List.length_set]; exact h.rooms, hl.1, put _ hstep.1, hl.2⟩
  · rw [if_neg h8]
    exact ⟨by simp only [List.length_set]; exact h.rooms, h.lines, put _ hstep.1, same⟩
/-- Frames' rooms are rooms of the plan. -/
theorem turnAt_room {l : List Span} {m : Int} : turnAt l m = -1 ∨ ∃ s ∈ l, turnAt l m = s.room := by
  unfold turnAt
  cases hf : l.find? (fun s => decide (s.fr ≤ m ∧ m < s.to)) with
  | none => exact .inl rfl
  | some s => exact .inr ⟨s, List.mem_of_find?_eq_some hf, rfl⟩
/-- What a tick meets: nobody, or a room with its code, state and op. -/
theorem tick_meets {p : Pl} {k : Kst} {B : Int} {spans : List Span} (_hp : PlOk p) (h : KOk p k B) (hsp : ∀ s ∈ spans, 0 ≤ s.room ∧ s.room < p.code.length) :
    turnAt spans (k.time % p.ticks) = -1 ∨ ∃ (r : Nat) (ops : List Op) (s : St) (o : Op), turnAt spans (k.time % p.ticks) = r ∧ p.code[r]? = some ops ∧ k.rooms[r]? = some s ∧ ops[s.pc.toNat]? = some o := by
  rcases turnAt_room (l := spans) (m := k.time % p.ticks) with h0 | ⟨sp, hm, h0⟩
  · exact .inl h0
  · right
    have hr := hsp sp hm
    have h1 : sp.room.toNat < p.code.length := by omega
    have h2 : sp.room.toNat < k.rooms.length := by rw [h.rooms]; exact h1
    have hst := stOk_iff.1 (h.states _ _ _ (List.getElem?_eq_getElem h1) (List.getElem?_eq_getElem h2))
    have h3 : k.rooms[sp.room.toNat].pc.toNat < p.code[sp.room.toNat].length := by omega
    exact ⟨sp.room.toNat, _, _, _, by rw [h0]; omega, List.getElem?_eq_getElem h1, List.getElem?_eq_getElem h2, List.getElem?_eq_getElem h3⟩
theorem tick_room {p : Pl} {k : Kst} {spans : List Span} {r : Nat} {ops : List Op} {s : St} {o : Op} (ht : turnAt spans (k.time % p.ticks) = r) (hc : p.code[r]? = some ops) (hs : k.rooms[r]? = some s) (ho : ops[s.pc.toNat]? = some o) :
    tickBy p spans k = (⟨k.time, r, s.pc, (kDo ops.length r o s k).1⟩, ⟨(kDo ops.length r o s k).2.rooms, (kDo ops.length r o s k).2.lines, k.time + 1⟩) := by
  unfold tickBy
  rw [ht, if_neg (by omega)]
  simp only [Int.toNat_natCast, hc, hs, ho]
theorem tick_none {p : Pl} {k : Kst} {spans : List Span} (ht : turnAt spans (k.time % p.ticks) = -1) : tickBy p spans k = (⟨k.time, -1, 0, 0⟩, ⟨k.rooms, k.lines, k.time + 1⟩) := by
  unfold tickBy; rw [ht, if_pos (by omega)]
theorem tick_ok {p : Pl} {k : Kst} {B : Int} {spans : List Span} (hp : PlOk p) (h : KOk p k B) (hsp : ∀ s ∈ spans, 0 ≤ s.room ∧ s.room < p.code.length) : KOk p (tickBy p spans k).2 (B + 1) := by
  have h0 := h.time0
  have hB := h.timeB
  rcases tick_meets hp h hsp with ht | ⟨r, ops, s, o, ht, hc, hs, ho⟩
  · rw [tick_none ht]
    exact ⟨h.rooms, h.lines, by simp only []; omega, by simp only []; omega, h.states, fun x hx => (h.lns x hx).mono (by omega)⟩
  · rw [tick_room ht hc hs ho]
    obtain ⟨a, b, c, d⟩ := kDo_ok hp h hc hs ho
    exact ⟨a, b, by simp only []; omega, by simp only []; omega, c, d⟩
theorem kNew_ok {p : Pl} (hp : PlOk p) : KOk p (kNew p) 0 := by
  refine ⟨by simp [kNew], by simp only [kNew, List.map_map]; exact (List.map_congr_left (fun _ _ => rfl)).trans (List.map_id _), Int.le_refl _, Int.le_refl _, fun r ops s hc hs => ?_, fun x hx => ?_⟩
  · simp only [kNew, List.getElem?_map, Option.map_eq_some_iff] at hs
    obtain ⟨_, _, rfl⟩ := hs
    have := codeChk_ok (hp.codes ops (List.mem_of_getElem? hc))
    exact stOk_zero (by omega)
  · simp only [kNew, List.mem_map] at hx
    obtain ⟨y, hy, rfl⟩ := hx
    have hw := (flowChk_ok hp.flow).2.1 y hy
    have := wire_kind hw
    exact ⟨hw, by simp only [List.length_nil]; omega, fun n hn => by simp at hn, Int.le_refl _, Int.le_refl _⟩
end Go.Proofs.YtldllmhgofacbaaGreatDoor

/- Plain: a room's states, tick by tick. -/
namespace Go.Proofs.YtldllmhgofacbaaGreatDoor

theorem spans_ok {p : Pl} (hp : PlOk p) : ∀ s ∈ p.spans, 0 ≤ s.room ∧ s.room < p.code.length := fun s hs => by
  refine ⟨?_, hp.spans s hs⟩
  obtain ⟨i, hi⟩ := List.mem_iff_getElem?.1 hs
  exact (spanOk (frOk_of hp.frame i s hi).1).2.2.2.1
/-- The kernel behind so many ticks. -/
def runK (p : Pl) : Nat → Kst
  | 0 => kNew p
  | t + 1 => (tick p (runK p t)).2
theorem runK_ok {p : Pl} (hp : PlOk p) : ∀ t : Nat, KOk p (runK p t) t
  | 0 => kNew_ok hp
  | t + 1 => by
    have h := tick_ok hp (runK_ok hp t) (spans_ok hp)
    exact h
def stAtT (p : Pl) (r t : Nat) : St := (runK p t).rooms.getD r St.zero
def statesTo (p : Pl) (r : Nat) : Nat → List St
  | 0 => []
  | t + 1 => statesTo p r t ++ [stAtT p r t]
theorem statesTo_len (p : Pl) (r : Nat) : ∀ t, (statesTo p r t).length = t
  | 0 => rfl
  | t + 1 => by simp [statesTo, statesTo_len p r t]
theorem statesTo_get (p : Pl) (r : Nat) : ∀ t j, j < t → (statesTo p r t)[j]? = some (stAtT p r j)
  | 0, j, h => by omega
  | t + 1, j, h => by
    have hl := statesTo_len p r t
    by_cases e : j = t
    · subst e
      simp only [statesTo]
      rw [List.getElem?_append_right (by omega), hl, Nat.sub_self]; rfl
    · simp only [statesTo]
      rw [List.getElem?_append_left (by omega)]
      exact statesTo_get p r t j (by omega)
theorem stAtT_zero {p : Pl} {r : Nat} (h : r < p.code.length) : stAtT p r 0 = St.zero := by
  simp [stAtT, runK, kNew, List.getD_eq_getElem?_getD, List.getElem?_map, List.getElem?_eq_getElem h]
end Go.Proofs.YtldllmhgofacbaaGreatDoor

/- Plain: a tick changes no room but the one whose turn it is, and no wire but those of it. No program in sight. -/
namespace Go.Proofs.YtldllmhgofacbaaGreatDoor

theorem kDo_rooms (n : Int) (r : Nat) (o : Op) (s : St) (k : Kst) (r' : Nat) (h : r' ≠ r) : (kDo n r o s k).2.rooms[r']? = k.rooms[r']? := by
  unfold kDo
  have hs : ∀ t : St, (k.rooms.set r t)[r']? = k.rooms[r']? := fun t => List.getElem?_set_ne (fun e => h e.symm)
  split
  · rfl
  split
  · split
    · split
      · rfl
      · exact hs _
    · rfl
  split
  · split
    · exact hs _
    · rfl
  · exact hs _
theorem kDo_lines (n : Int) (r : Nat) (o : Op) (s : St) (k : Kst) (i : Nat) (h : o.what = 8 ∨ o.what = 9 → i ≠ o.b.toNat) : (kDo n r o s k).2.lines[i]? = k.lines[i]? := by
  unfold kDo
  split
  · rfl
  split
  · rename_i h9
    have hs : ∀ t : Ln, (k.lines.set o.b.toNat t)[i]? = k.lines[i]? := fun t => List.getElem?_set_ne (fun e => h (.inr h9) e.symm)
    split
    · split
      · rfl
      · exact hs _
    · rfl
  split
  · rename_i h8
    have hs : ∀ t : Ln, (k.lines.set o.b.toNat t)[i]? = k.lines[i]? := fun t => List.getElem?_set_ne (fun e => h (.inl h8) e.symm)
    split
    · exact hs _
    · rfl
  · rfl
/-- Whose wire an op is on. -/
theorem op_wire {p : Pl} (hp : PlOk p) {r : Nat} {ops : List Op} {o : Op} (hc : p.code[r]? = some ops) (ho : o ∈ ops) (hw : o.what = 8 ∨ o.what = 9) :
    ∃ x, p.wires[o.b.toNat]? = some x ∧ (o.what = 8 → x.fr = r) ∧ (o.what = 9 → x.to = r) := by
  have h := hp.ports r ops hc
  unfold portsOk at h
  have h1 := List.all_eq_true.1 h o ho
  unfold portOk at h1
  rcases hw with hw | hw
  · rw [if_pos hw] at h1
    cases hx : p.wires[o.b.toNat]? with
    | none => rw [hx] at h1; cases h1
    | some x => rw [hx] at h1; exact ⟨x, rfl, fun _ => of_decide_eq_true h1, fun h9 => by omega⟩
  · rw [if_neg (by omega), if_pos hw] at h1
    cases hx : p.wires[o.b.toNat]? with
    | none => rw [hx] at h1; cases h1
    | some x => rw [hx] at h1; exact ⟨x, rfl, fun h8 => by omega, fun _ => of_decide_eq_true h1⟩
/-- What a tick leaves alone. -/
theorem tick_others {p : Pl} {k : Kst} {B : Int} {spans : List Span} (hp : PlOk p) (h : KOk p k B) (hsp : ∀ s ∈ spans, 0 ≤ s.room ∧ s.room < p.code.length) :
    (tickBy p spans k).1.room = turnAt spans (k.time % p.ticks) ∧ (tickBy p spans k).1.tick = k.time ∧ (tickBy p spans k).2.time = k.time + 1 ∧
    (∀ r : Nat, (r : Int) ≠ turnAt spans (k.time % p.ticks) → (tickBy p spans k).2.rooms[r]? = k.rooms[r]?) ∧
    (∀ (i : Nat) (x : Wire), p.wires[i]? = some x → x.fr ≠ turnAt spans (k.time % p.ticks) → x.to ≠ turnAt spans (k.time % p.ticks) → (tickBy p spans k).2.lines[i]? = k.lines[i]?) := by
  rcases tick_meets hp h hsp with ht | ⟨r, ops, s, o, ht, hc, hs, ho⟩
  · rw [tick_none ht, ht]
    exact ⟨rfl, rfl, rfl, fun _ _ => rfl, fun _ _ _ _ _ => rfl⟩
  · rw [tick_room ht hc hs ho, ht]
    refine ⟨rfl, rfl, rfl, fun r' hr => kDo_rooms _ _ _ _ _ _ (by omega), fun i x hx h1 h2 => kDo_lines _ _ _ _ _ _ fun hw e => ?_⟩
    obtain ⟨y, hy, h8, h9⟩ := op_wire hp hc (List.mem_of_getElem? ho) hw
    rw [← e, hx] at hy
    cases hy
    rcases hw with hw | hw
    · exact h1 (h8 hw)
    · exact h2 (h9 hw)
end Go.Proofs.YtldllmhgofacbaaGreatDoor

/- Plain: what a tick of a kernel of a plan that is right leaves alone, room by room and wire by wire. -/
namespace Go.Proofs.YtldllmhgofacbaaGreatDoor

theorem tick_time {p : Pl} (hp : PlOk p) {k : Kst} {B : Int} (hk : KOk p k B) : (tick p k).2.time = k.time + 1 := (tick_others hp hk (spans_ok hp)).2.2.1
theorem runK_at {p : Pl} (hp : PlOk p) : ∀ t : Nat, (runK p t).time = t
  | 0 => rfl
  | t + 1 => by
    show (tick p (runK p t)).2.time = _
    rw [tick_time hp (runK_ok hp t), runK_at hp t]; rfl
def whoAt (p : Pl) (i : Nat) : Int := turnAt p.spans ((i : Int) % p.ticks)
theorem turns_tick {p : Pl} (hp : PlOk p) (i : Nat) : ∃ pc what : Int, tick p (runK p i) = (⟨i, whoAt p i, pc, what⟩, runK p (i + 1)) := by
  have h := tick_others hp (runK_ok hp i) (spans_ok hp)
  rw [runK_at hp i] at h
  refine ⟨(tick p (runK p i)).1.pc, (tick p (runK p i)).1.what, ?_⟩
  have h1 : (tick p (runK p i)).1.room = whoAt p i := h.1
  have h2 : (tick p (runK p i)).1.tick = i := h.2.1
  show _ = (_, (tick p (runK p i)).2)
  rw [← h1, ← h2]
theorem turns_room {p : Pl} (hp : PlOk p) (i r : Nat) (hr : r < p.code.length) : ∃ s t, (runK p i).rooms[r]? = some s ∧ (runK p (i + 1)).rooms[r]? = some t ∧ ((r : Int) ≠ whoAt p i → t = s) := by
  have h := tick_others hp (runK_ok hp i) (spans_ok hp)
  rw [runK_at hp i] at h
  have l1 := (runK_ok hp i).rooms
  have l2 := (runK_ok hp (i + 1)).rooms
  refine ⟨_, _, List.getElem?_eq_getElem (by omega), List.getElem?_eq_getElem (by omega), fun hne => ?_⟩
  have h3 := h.2.2.2.1 r hne
  have h4 : (runK p (i + 1)).rooms[r]? = (runK p i).rooms[r]? := h3
  rw [List.getElem?_eq_getElem (by omega), List.getElem?_eq_getElem (by omega)] at h4
  exact Option.some.inj h4
theorem turns_wire {p : Pl} (hp : PlOk p) (i j : Nat) {x : Wire} (hx : p.wires[j]? = some x) : ∃ y z, (runK p i).lines[j]? = some y ∧ (runK p (i + 1)).lines[j]? = some z ∧ z.items.length ≤ 6 ∧ (x.fr ≠ whoAt p i → x.to ≠ whoAt p i → z = y) := by
  have h := tick_others hp (runK_ok hp i) (spans_ok hp)
  rw [runK_at hp i] at h
  have g : ∀ t, ∃ y, (runK p t).lines[j]? = some y := fun t => by
    have h1 := (runK_ok hp t).lines
    rw [← h1, List.getElem?_map, Option.map_eq_some_iff] at hx
    obtain ⟨y, hy, _⟩ := hx
    exact ⟨y, hy⟩
  obtain ⟨y, hy⟩ := g i
  obtain ⟨z, hz⟩ := g (i + 1)
  refine ⟨y, z, hy, hz, ((runK_ok hp (i + 1)).lns z (List.mem_of_getElem? hz)).six, fun h1 h2 => ?_⟩
  have h3 : (runK p (i + 1)).lines[j]? = (runK p i).lines[j]? := h.2.2.2.2 j x hx h1 h2
  rw [hy, hz] at h3
  exact Option.some.inj h3
end Go.Proofs.YtldllmhgofacbaaGreatDoor

/- Plain: two kernels alike on rooms to which no wire leads from outside go on alike there (Goguen, Meseguer). No program in sight. -/
namespace Go.Proofs.YtldllmhgofacbaaGreatDoor

structure AlikeOn (S : Int → Prop) (p : Pl) (k m : Kst) : Prop where
  time : k.time = m.time
  rooms : ∀ r : Nat, S r → k.rooms[r]? = m.rooms[r]?
  lines : ∀ (i : Nat) (x : Wire), p.wires[i]? = some x → S x.to → k.lines[i]? = m.lines[i]?
theorem set_alike {α : Type} {l l' : List α} {r r' : Nat} {t : α} (hl : r < l.length) (hl' : r < l'.length) (h : l[r']? = l'[r']?) : (l.set r t)[r']? = (l'.set r t)[r']? := by
  by_cases e : r = r'
  · subst e; rw [List.getElem?_set_self hl, List.getElem?_set_self hl']
  · rw [List.getElem?_set_ne e, List.getElem?_set_ne e]; exact h
theorem KOk.line {p : Pl} {k : Kst} {B : Int} (h : KOk p k B) {i : Nat} {x : Wire} (hx : p.wires[i]? = some x) : ∃ y, k.lines[i]? = some y ∧ y.w = x := by
  have h1 := h.lines
  rw [← h1, List.getElem?_map, Option.map_eq_some_iff] at hx
  exact hx
theorem kDo_alike {S : Int → Prop} {p q : Pl} {k m : Kst} {B C : Int} (hp : PlOk p) (hk : KOk p k B) (hm : KOk q m C) (hw : p.wires = q.wires) {r : Nat} {ops : List Op} {s : St} {o : Op} (hc : p.code[r]? = some ops) (hs : k.rooms[r]? = some s) (hs' : m.rooms[r]? = some s) (ho : o ∈ ops)
    (hS : S r) (h : AlikeOn S p k m) (n : Int) :
    (∀ r' : Nat, S r' → (kDo n r o s k).2.rooms[r']? = (kDo n r o s m).2.rooms[r']?) ∧ (∀ (i : Nat) (x : Wire), p.wires[i]? = some x → S x.to → (kDo n r o s k).2.lines[i]? = (kDo n r o s m).2.lines[i]?) ∧
    (∀ x, (o.what = 8 → p.wires[o.b.toNat]? = some x → S x.to) → (o.what = 8 → p.wires[o.b.toNat]? = some x) → (kDo n r o s k).1 = (kDo n r o s m).1) := by
  have hl1 := (List.getElem?_eq_some_iff.1 hs).1
  have hl2 := (List.getElem?_eq_some_iff.1 hs').1
  have put : ∀ t : St, ∀ r' : Nat, S r' → (k.rooms.set r t)[r']? = (m.rooms.set r t)[r']? := fun t r' hr' => set_alike hl1 hl2 (h.rooms r' hr')
  unfold kDo
  by_cases hf : s.failed = true
  · rw [if_pos hf, if_pos hf]; exact ⟨h.rooms, h.lines, fun _ _ _ => rfl⟩
  rw [if_neg hf, if_neg hf]
  by_cases h9 : o.what = 9
  · obtain ⟨x, hx, _, h9t⟩ := op_wire hp hc ho (.inr h9)
    have hto : S x.to := by rw [h9t h9]; exact hS
    obtain ⟨y, hy, rfl⟩ := hk.line hx
    have hy' := h.lines _ _ hx hto
    rw [hy] at hy'
    rw [if_pos h9, if_pos h9, hy, ← hy']
    simp only []
    have hi1 := (List.getElem?_eq_some_iff.1 hy).1
    have hi2 := (List.getElem?_eq_some_iff.1 hy'.symm).1
    cases y.items with
    | nil => exact ⟨h.rooms, h.lines, fun _ _ _ => rfl⟩
    | cons a rest => exact ⟨put _, fun i x hx hx' => set_alike hi1 hi2 (h.lines i x hx hx'), fun _ _ _ => rfl⟩
  rw [if_neg h9, if_neg h9]
  by_cases h8 : o.what = 8
  · obtain ⟨x, hx, h8f, _⟩ := op_wire hp hc ho (.inl h8)
    obtain ⟨y, hy, hyx⟩ := hk.line hx
    obtain ⟨z, hz, hzx⟩ := hm.line (hw ▸ hx)
    rw [if_pos h8, if_pos h8, hy, hz]
    simp only []
    have hi1 := (List.getElem?_eq_some_iff.1 hy).1
    have hi2 := (List.getElem?_eq_some_iff.1 hz).1
    refine ⟨put _, fun i x' hx' hxs => ?_, fun x' hx' hxe => ?_⟩
    · by_cases e : i = o.b.toNat
      · subst e
        rw [hx] at hx'; cases hx'
        have := h.lines _ _ hx hxs
        rw [hy, hz] at this
        cases this
        exact set_alike hi1 hi2 (by rw [hy, hz])
      · rw [List.getElem?_set_ne (fun e' => e e'.symm), List.getElem?_set_ne (fun e' => e e'.symm)]
        exact h.lines i x' hx' hxs
    · have h1 := hxe h8
      have h2 := hx' h8 h1
      have := h.lines _ _ h1 h2
      rw [hy, hz] at this
      cases this; rfl
  · rw [if_neg h8, if_neg h8]
    exact ⟨put _, h.lines, fun _ _ _ => rfl⟩
theorem tick_alike {S : Int → Prop} {p q : Pl} {k m : Kst} {B C : Int} {spans : List Span} (hp : PlOk p) (hq : PlOk q) (hk : KOk p k B) (hm : KOk q m C) (ht : p.ticks = q.ticks) (hw : p.wires = q.wires) (hn : p.code.length = q.code.length)
    (hsp : ∀ s ∈ spans, 0 ≤ s.room ∧ s.room < p.code.length) (hc : ∀ r : Nat, S r → p.code[r]? = q.code[r]?) (hS : ∀ x ∈ p.wires, S x.to → S x.fr) (h : AlikeOn S p k m) :
    AlikeOn S p (tickBy p spans k).2 (tickBy q spans m).2 ∧ (tickBy p spans k).1.room = (tickBy q spans m).1.room := by
  have hte : turnAt spans (m.time % q.ticks) = turnAt spans (k.time % p.ticks) := by rw [← h.time, ht]
  rcases tick_meets hp hk hsp with h0 | ⟨r, ops, s, o, h0, hco, hs, ho⟩
  · rw [tick_none h0, tick_none (hte.trans h0)]
    exact ⟨⟨by simp only [h.time], h.rooms, h.lines⟩, rfl⟩
  · rcases tick_meets hq hm (hn ▸ hsp) with h0' | ⟨r', ops', s', o', h0', hco', hs', ho'⟩
    · rw [hte, h0] at h0'; omega
    · rw [hte, h0] at h0'
      obtain rfl : r = r' := by omega
      rw [tick_room h0 hco hs ho, tick_room (hte.trans h0) hco' hs' ho']
      refine ⟨?_, rfl⟩
      by_cases hSr : S r
      · have e1 := hc r hSr
        rw [hco, hco'] at e1
        cases e1
        have e2 := h.rooms r hSr
        rw [hs, hs'] at e2
        cases e2
        rw [ho] at ho'
        cases ho'
        obtain ⟨a, b, _⟩ := kDo_alike hp hk hm hw hco hs hs' (List.mem_of_getElem? ho) hSr h ops.length
        exact ⟨by simp only [h.time], a, b⟩
      · refine ⟨by simp only [h.time], fun r1 h1 => ?_, fun i x hx h1 => ?_⟩
        · have hne : r1 ≠ r := by rintro rfl; exact hSr h1
          simp only []
          rw [kDo_rooms _ _ _ _ _ _ hne, kDo_rooms _ _ _ _ _ _ hne]
          exact h.rooms r1 h1
        · simp only []
          have far : ∀ (p' : Pl) (_ : PlOk p') (_ : p'.wires = p.wires) (ops1 : List Op) (o1 : Op), p'.code[r]? = some ops1 → o1 ∈ ops1 → o1.what = 8 ∨ o1.what = 9 → i ≠ o1.b.toNat := by
            intro p' hp' hwe ops1 o1 hc1 ho1 hw1 e
            obtain ⟨y, hy, g8, g9⟩ := op_wire hp' hc1 ho1 hw1
            rw [← e, hwe, hx] at hy
            cases hy
            rcases hw1 with g | g
            · exact hSr (by rw [← g8 g]; exact hS x (List.mem_of_getElem? hx) h1)
            · exact hSr (by rw [← g9 g]; exact h1)
          rw [kDo_lines _ _ _ _ _ _ (far p hp rfl ops o hco (List.mem_of_getElem? ho)), kDo_lines _ _ _ _ _ _ (far q hq hw.symm ops' o' hco' (List.mem_of_getElem? ho'))]
          exact h.lines i x hx h1
end Go.Proofs.YtldllmhgofacbaaGreatDoor

/- Plain: a plan without those that cannot tell a room. No program in sight. -/
namespace Go.Proofs.YtldllmhgofacbaaGreatDoor

def restOps : List Op := [⟨10, 0, 0⟩]
noncomputable def purgeRow (ws : List Wire) (room i : Nat) (c : List Op) : List Op := if reachB ws i room = true then c else restOps
noncomputable def purgePl (p : Pl) (room : Nat) : Pl := ⟨p.code.mapIdx (purgeRow p.wires room), p.ticks, p.spans, p.wires⟩
theorem purge_len (p : Pl) (room : Nat) : (purgePl p room).code.length = p.code.length := by simp [purgePl]
theorem purge_get (p : Pl) (room i : Nat) : (purgePl p room).code[i]? = p.code[i]?.map (purgeRow p.wires room i) := by simp [purgePl]
theorem purge_twice (p : Pl) (room : Nat) : purgePl (purgePl p room) room = purgePl p room := by
  show Pl.mk _ _ _ _ = Pl.mk _ _ _ _
  congr 1
  apply List.ext_getElem?
  intro i
  simp only [purgePl, List.getElem?_mapIdx, Option.map_map]
  congr 1
  funext c
  simp only [Function.comp, purgeRow]
  split <;> rfl
theorem codes_all {l : List (List Op)} (h : ∀ c ∈ l, (codeChk c).2 = 0) : codesChk l = 0 := by
  induction l with
  | nil => rfl
  | cons a r ih =>
    unfold codesChk
    rw [if_neg (show ¬ (codeChk a).2 ≠ 0 from fun h1 => h1 (h a (by simp)))]
    exact ih fun c hc => h c (by simp [hc])
theorem ports_all {ws : List Wire} : ∀ {l : List (List Op)} {i : Nat}, (∀ k c, l[k]? = some c → portsOk ws (i + k) c = true) → allPorts ws l i = true
  | [], _, _ => rfl
  | a :: r, i, h => by
    unfold allPorts
    rw [Bool.and_eq_true]
    refine ⟨h 0 a rfl, ports_all fun k c hk => ?_⟩
    have := h (k + 1) c (by simpa using hk)
    rwa [show i + 1 + k = i + (k + 1) by omega]
/-- A plan is right, if all of it is. -/
theorem planChk_of {p : Pl} (h : PlOk p) : planChk p = 0 := by
  unfold planChk
  have h1 := h.some1
  have h2 := h.most5
  rw [if_neg (by omega), if_neg (by omega), if_neg (fun h3 => h3 h.frame), if_neg (fun h3 => h3 h.flow), if_neg, if_neg (fun h3 => h3 (codes_all h.codes)), if_neg]
  · rw [ports_all (fun k c hk => by rw [Nat.zero_add]; exact h.ports k c hk)]; simp
  · simp only [Bool.or_eq_true, not_or, Bool.not_eq_true, List.any_eq_false]
    refine ⟨fun s hs => ?_, fun x hx => ?_⟩
    · have := h.spans s hs
      simp only [spanOver, decide_eq_false_iff_not]; omega
    · have := h.wires x hx
      simp only [wireOver, decide_eq_false_iff_not]; omega
theorem rest_ok : (codeChk restOps).2 = 0 := by decide
theorem purge_ok {p : Pl} (h : PlOk p) (room : Nat) : PlOk (purgePl p room) := by
  have hl := purge_len p room
  refine ⟨by rw [hl]; exact h.some1, by rw [hl]; exact h.most5, h.frame, h.flow, fun s hs => by rw [hl]; exact h.spans s hs, fun x hx => by rw [hl]; exact h.wires x hx, fun c hc => ?_, fun k c hk => ?_⟩
  · obtain ⟨i, hi⟩ := List.mem_iff_getElem?.1 hc
    rw [purge_get, Option.map_eq_some_iff] at hi
    obtain ⟨d, hd, rfl⟩ := hi
    unfold purgeRow
    split
    · exact h.codes d (List.mem_of_getElem? hd)
    · exact rest_ok
  · rw [purge_get, Option.map_eq_some_iff] at hk
    obtain ⟨d, hd, rfl⟩ := hk
    unfold purgeRow
    split
    · exact h.ports k d hd
    · rfl
theorem purge_chk {p : Pl} (h : planChk p = 0) (room : Nat) : planChk (purgePl p room) = 0 := planChk_of (purge_ok (planChk_ok h) room)
end Go.Proofs.YtldllmhgofacbaaGreatDoor

/- Plain: a kernel of rooms that count. -/
namespace Go.Proofs.YtldllmhgofacbaaGreatDoor

theorem count_frame' (n : Nat) (h : 1 ≤ n) (h5 : n ≤ 5) : (frameChk n (countSpans n)).2 = 0 := by
  rcases (show n = 1 ∨ n = 2 ∨ n = 3 ∨ n = 4 ∨ n = 5 by omega) with rfl | rfl | rfl | rfl | rfl <;> decide
theorem count_turn_nat' (n m : Nat) (h : m < n) (h5 : n ≤ 5) : turnAt (countSpans n) m = m := by
  rcases (show n = 1 ∨ n = 2 ∨ n = 3 ∨ n = 4 ∨ n = 5 by omega) with rfl | rfl | rfl | rfl | rfl <;>
    rcases (show m = 0 ∨ m = 1 ∨ m = 2 ∨ m = 3 ∨ m = 4 by omega) with rfl | rfl | rfl | rfl | rfl <;> first | (exfalso; omega) | decide

/-- The plan of n rooms that count, and what they are behind t ticks. -/
def countPl (n : Nat) : Pl := ⟨List.replicate n countOps, n, countSpans n, []⟩
theorem countPl_ok (n : Nat) (h : 1 ≤ n) (h5 : n ≤ 5) : planChk (countPl n) = 0 := by
  rcases (show n = 1 ∨ n = 2 ∨ n = 3 ∨ n = 4 ∨ n = 5 by omega) with rfl | rfl | rfl | rfl | rfl <;> decide
def cst (T : Nat) : St := ⟨(T % 2 : Nat), (T / 2 : Nat), if T = 0 then 0 else 1, 0, 0, 0, 0, false⟩
def turnsTo (n t r : Nat) : Nat := (t + (n - 1 - r)) / n
def countK (n t : Nat) : Kst := ⟨(List.range n).map fun r => cst (turnsTo n t r), [], t⟩
theorem turnsTo_hit (n t : Nat) (h : 1 ≤ n) : turnsTo n (t + 1) (t % n) = turnsTo n t (t % n) + 1 := by
  unfold turnsTo
  have h1 := Nat.mod_lt t h
  have h2 := Nat.div_add_mod t n
  generalize t / n = q at h2
  generalize t % n = r at h1 h2
  rw [show t + 1 + (n - 1 - r) = n * q + n by omega, show t + (n - 1 - r) = n * q + (n - 1) by omega, Nat.mul_add_div h, Nat.mul_add_div h, Nat.div_self h, Nat.div_eq_of_lt (by omega)]
theorem turnsTo_miss (n t r : Nat) (h : r < n) (hr : r ≠ t % n) : turnsTo n (t + 1) r = turnsTo n t r := by
  unfold turnsTo
  have hn : 1 ≤ n := by omega
  have h1 := Nat.mod_lt t hn
  have h2 := Nat.div_add_mod t n
  generalize t / n = q at h2
  generalize t % n = m at h1 h2 hr
  by_cases hlt : r < m
  · rw [show t + 1 + (n - 1 - r) = n * (q + 1) + (m - r) by rw [Nat.mul_add]; omega, show t + (n - 1 - r) = n * (q + 1) + (m - 1 - r) by rw [Nat.mul_add]; omega, Nat.mul_add_div hn, Nat.mul_add_div hn, Nat.div_eq_of_lt (by omega), Nat.div_eq_of_lt (by omega)]
  · rw [show t + 1 + (n - 1 - r) = n * q + (m + n - r) by omega, show t + (n - 1 - r) = n * q + (m + (n - 1 - r)) by omega, Nat.mul_add_div hn, Nat.mul_add_div hn, Nat.div_eq_of_lt (by omega), Nat.div_eq_of_lt (by omega)]
theorem turnsTo_end (n m r : Nat) (h : r < n) : turnsTo n (2 * n * m) r = 2 * m := by
  unfold turnsTo
  rw [show 2 * n * m = n * (2 * m) by rw [Nat.mul_comm 2 n, Nat.mul_assoc], Nat.mul_add_div (by omega), Nat.div_eq_of_lt (by omega), Nat.add_zero]
theorem turnsTo_zero (n r : Nat) (h : r < n) : turnsTo n 0 r = 0 := by
  unfold turnsTo; rw [Nat.zero_add, Nat.div_eq_of_lt (by omega)]
theorem cst_step (T : Nat) (h : T < 1000) : ∃ o, countOps[(cst T).pc.toNat]? = some o ∧ o.what ≠ 8 ∧ o.what ≠ 9 ∧ (stepDo 2 o (cst T) 0 false).1 = cst (T + 1) := by
  rcases Nat.mod_two_eq_zero_or_one T with h2 | h2
  · refine ⟨⟨1, 1, 1⟩, ?_, by decide, by decide, ?_⟩
    · simp [cst, h2, countOps]
    · simp only [stepDo, cst, nextPc, h2]
      apply St.ext' <;> simp [St.put] <;> omega
  · refine ⟨⟨3, 0, 1⟩, ?_, by decide, by decide, ?_⟩
    · simp [cst, h2, countOps]
    · simp only [stepDo, cst, nextPc, h2]
      apply St.ext' <;> simp [St.put, St.get] <;> (try split) <;> omega
theorem count_tick (n t : Nat) (h : 1 ≤ n) (h5 : n ≤ 5) (ht : t ≤ 400) : (tick (countPl n) (countK n t)).2 = countK n (t + 1) := by
  have hr := Nat.mod_lt t h
  have hturn : turnAt (countSpans n) ((countK n t).time % (countPl n).ticks) = ((t % n : Nat) : Int) := by
    show turnAt (countSpans n) ((t : Int) % (n : Int)) = _
    rw [← Int.natCast_emod]; exact count_turn_nat' n _ hr h5
  have hT : turnsTo n t (t % n) < 1000 := by
    unfold turnsTo
    have := Nat.div_le_self (t + (n - 1 - t % n)) n
    omega
  obtain ⟨o, ho, h8, h9, hs⟩ := cst_step _ hT
  have hc : (countPl n).code[t % n]? = some countOps := by
    show (List.replicate n countOps)[t % n]? = _
    rw [List.getElem?_replicate, if_pos hr]
  have hrm : (countK n t).rooms[t % n]? = some (cst (turnsTo n t (t % n))) := by
    simp [countK, List.getElem?_map, List.getElem?_range hr]
  unfold tick
  rw [show (countPl n).spans = countSpans n from rfl, tick_room hturn hc hrm ho]
  have hk : (kDo countOps.length (t % n) o (cst (turnsTo n t (t % n))) (countK n t)).2 = ⟨(countK n t).rooms.set (t % n) (cst (turnsTo n t (t % n) + 1)), [], t⟩ := by
    unfold kDo
    rw [if_neg (by simp [cst]), if_neg h9, if_neg h8]
    rw [show ((countOps.length : Nat) : Int) = 2 from rfl, hs]
    rfl
  rw [hk]
  show Kst.mk _ _ _ = Kst.mk _ _ _
  congr 1
  apply List.ext_getElem?
  intro j
  rw [List.getElem?_set]
  show _ = ((List.range n).map fun r => cst (turnsTo n (t + 1) r))[j]?
  rw [List.getElem?_map]
  by_cases hj : j < n
  · rw [List.getElem?_range hj]
    by_cases e : t % n = j
    · subst e
      rw [if_pos rfl, if_pos (by simp [countK]; exact hr)]
      simp [turnsTo_hit n t h]
    · rw [if_neg e]
      simp only [countK, List.getElem?_map, List.getElem?_range hj, Option.map_some]
      rw [turnsTo_miss n t j hj (fun e' => e e'.symm)]
  · rw [List.getElem?_eq_none (l := List.range n) (by simpa using hj)]
    have : t % n ≠ j := by omega
    rw [if_neg this]
    simp [countK]
    omega
theorem count_new (n : Nat) : kNew (countPl n) = countK n 0 := by
  show Kst.mk _ _ _ = Kst.mk _ _ _
  congr 1
  apply List.ext_getElem?
  intro j
  simp only [countPl, List.getElem?_map, List.getElem?_replicate]
  by_cases hj : j < n
  · rw [if_pos hj, List.getElem?_range hj]
    simp only [Option.map_some]
    rw [turnsTo_zero n j hj]
    rfl
  · rw [if_neg hj, List.getElem?_eq_none (by simpa using hj)]; rfl
end Go.Proofs.YtldllmhgofacbaaGreatDoor
