/- Several parts: each begins with what it says. -/
import Derived.Test.YthdmgighblhmhaaGreatDoorFrameU
import Derived.Test.YthdmgighblhmhaaGreatDoorWaysU
import Derived.Test.YthdmgighblhmhaaGreatDoorRLawU
import Derived.Test.YthdmgighblhmhaaGreatDoorLineU
import Derived.Test.YthdmgighblhmhaaGreatDoorBaseU
/- Plain: what is wrong with a plan. -/
namespace Go.Proofs.YthdmgighblhmhaaGreatDoor

/-- A plan as plain data. -/
structure Pl where
  code : List (List Op)
  ticks : Int
  spans : List Span
  wires : List Wire
def spanOver (many : Int) (s : Span) : Bool := decide (many ≤ s.room)
def wireOver (many : Int) (x : Wire) : Bool := decide (many ≤ x.fr ∨ many ≤ x.to)
/-- The first fault of codes. -/
def codesChk : List (List Op) → Int
  | [] => 0
  | l :: r => if (codeChk l).2 ≠ 0 then (codeChk l).2 else codesChk r
/-- Is an op's wire its room's own? -/
def portOk (ws : List Wire) (room : Nat) (o : Op) : Bool :=
  if o.what = 8 then (match ws[o.b.toNat]? with | some x => decide (x.fr = room) | none => false)
  else if o.what = 9 then (match ws[o.b.toNat]? with | some x => decide (x.to = room) | none => false) else true
def portsOk (ws : List Wire) (room : Nat) (l : List Op) : Bool := l.all (portOk ws room)
def allPorts (ws : List Wire) : List (List Op) → Nat → Bool
  | [], _ => true
  | l :: r, i => portsOk ws i l && allPorts ws r (i + 1)
def planChk (p : Pl) : Int :=
  if 5 < p.code.length then 4 else if p.code.length = 0 then 5
  else if (frameChk p.ticks p.spans).2 ≠ 0 then (frameChk p.ticks p.spans).2
  else if (flowChk p.wires).2 ≠ 0 then (flowChk p.wires).2
  else if (p.spans.any (spanOver p.code.length) || p.wires.any (wireOver p.code.length)) = true then 1
  else if codesChk p.code ≠ 0 then codesChk p.code
  else if allPorts p.wires p.code 0 = false then 3 else 0

theorem codesChk_ok {l : List (List Op)} (h : codesChk l = 0) : ∀ c ∈ l, (codeChk c).2 = 0 := by
  induction l with
  | nil => intro c hc; simp at hc
  | cons a r ih =>
    unfold codesChk at h
    split at h
    · rename_i h1; exact absurd h h1
    · rename_i h1
      intro c hc
      rcases List.mem_cons.1 hc with rfl | hc
      · simpa using h1
      · exact ih h c hc
theorem allPorts_ok {ws : List Wire} : ∀ {l : List (List Op)} {i : Nat}, allPorts ws l i = true → ∀ k c, l[k]? = some c → portsOk ws (i + k) c = true
  | [], _, _, k, c, h => by simp at h
  | a :: r, i, h, 0, c, hc => by
    simp only [allPorts, Bool.and_eq_true] at h
    simp at hc; subst hc; exact h.1
  | a :: r, i, h, k + 1, c, hc => by
    simp only [allPorts, Bool.and_eq_true] at h
    have := allPorts_ok h.2 k c (by simpa using hc)
    rwa [show i + 1 + k = i + (k + 1) by omega] at this

/-- What is known of a plan that is right. -/
structure PlOk (p : Pl) : Prop where
  some1 : 1 ≤ p.code.length
  most5 : p.code.length ≤ 5
  frame : (frameChk p.ticks p.spans).2 = 0
  flow : (flowChk p.wires).2 = 0
  spans : ∀ s ∈ p.spans, s.room < p.code.length
  wires : ∀ x ∈ p.wires, x.fr < p.code.length ∧ x.to < p.code.length
  codes : ∀ c ∈ p.code, (codeChk c).2 = 0
  ports : ∀ k c, p.code[k]? = some c → portsOk p.wires k c = true
theorem planChk_ok {p : Pl} (h : planChk p = 0) : PlOk p := by
  unfold planChk at h
  by_cases h1 : 5 < p.code.length
  · rw [if_pos h1] at h; simp at h
  rw [if_neg h1] at h
  by_cases h2 : p.code.length = 0
  · rw [if_pos h2] at h; simp at h
  rw [if_neg h2] at h
  by_cases h3 : (frameChk p.ticks p.spans).2 ≠ 0
  · rw [if_pos h3] at h; exact absurd h h3
  rw [if_neg h3] at h
  by_cases h4 : (flowChk p.wires).2 ≠ 0
  · rw [if_pos h4] at h; exact absurd h h4
  rw [if_neg h4] at h
  by_cases h5 : (p.spans.any (spanOver p.code.length) || p.wires.any (wireOver p.code.length)) = true
  · rw [if_pos h5] at h; simp at h
  rw [if_neg h5] at h
  by_cases h6 : codesChk p.code ≠ 0
  · rw [if_pos h6] at h; exact absurd h h6
  rw [if_neg h6] at h
  by_cases h7 : allPorts p.wires p.code 0 = false
  · rw [if_pos h7] at h; simp at h
  simp only [Bool.or_eq_true, not_or, Bool.not_eq_true, List.any_eq_false] at h5
  refine ⟨by omega, by omega, by simpa using h3, by simpa using h4, fun s hs => ?_, fun x hx => ?_, codesChk_ok (by simpa using h6), fun k c hk => ?_⟩
  · have := h5.1 s hs
    simp only [spanOver, decide_eq_false_iff_not] at this; omega
  · have := h5.2 x hx
    simp only [wireOver, decide_eq_false_iff_not] at this; omega
  · have := allPorts_ok (ws := p.wires) (l := p.code) (i := 0) (by simpa using h7) k c hk
    rwa [Nat.zero_add] at this
end Go.Proofs.YthdmgighblhmhaaGreatDoor

/- Plain: a kernel's tick, and that it stays within what is right. -/
namespace Go.Proofs.YthdmgighblhmhaaGreatDoor

/-- A line as plain data. -/
structure Ln where
  w : Wire
  items : List Int
  lost : Int
structure Kst where
  rooms : List St
  lines : List Ln
  time : Int
structure Ev where
  tick : Int
  room : Int
  pc : Int
  what : Int
def Ev.cells (x : Ev) : List Value := [.int .i64 x.tick, .int .i64 x.room, .int .i64 x.pc, .int .i64 x.what]
theorem Ev.len (x : Ev) : x.cells.length = 4 := rfl

/-- A step of room r: what came of it, and the kernel then. -/
def kDo (n : Int) (r : Nat) (o : Op) (s : St) (k : Kst) : Int × Kst :=
  if s.failed = true then (5, k)
  else if o.what = 9 then (match k.lines[o.b.toNat]? with
    | some x => (match x.items with
      | [] => (3, k)
      | i :: _ => (2, ⟨k.rooms.set r (stepDo n o s i true).1, k.lines.set o.b.toNat ⟨x.w, lineTake x.w x.items, x.lost⟩, k.time⟩))
    | none => (0, k))
  else if o.what = 8 then (match k.lines[o.b.toNat]? with
    | some x => (if (lineSend x.w x.items x.lost (s.get o.a.toNat)).1 = true then 1 else 3,
        ⟨k.rooms.set r (stepDo n o s 0 false).1, k.lines.set o.b.toNat ⟨x.w, (lineSend x.w x.items x.lost (s.get o.a.toNat)).2.1, (lineSend x.w x.items x.lost (s.get o.a.toNat)).2.2⟩, k.time⟩)
    | none => (0, k))
  else (if o.what = 11 then 4 else 0, ⟨k.rooms.set r (stepDo n o s 0 false).1, k.lines, k.time⟩)

def tickBy (p : Pl) (spans : List Span) (k : Kst) : Ev × Kst :=
  if turnAt spans (k.time % p.ticks) < 0 then (⟨k.time, turnAt spans (k.time % p.ticks), 0, 0⟩, ⟨k.rooms, k.lines, k.time + 1⟩)
  else match p.code[(turnAt spans (k.time % p.ticks)).toNat]?, k.rooms[(turnAt spans (k.time % p.ticks)).toNat]? with
    | some ops, some s => (match ops[s.pc.toNat]? with
      | some o => (⟨k.time, turnAt spans (k.time % p.ticks), s.pc, (kDo ops.length (turnAt spans (k.time % p.ticks)).toNat o s k).1⟩,
          ⟨(kDo ops.length (turnAt spans (k.time % p.ticks)).toNat o s k).2.rooms, (kDo ops.length (turnAt spans (k.time % p.ticks)).toNat o s k).2.lines, k.time + 1⟩)
      | none => (⟨k.time, -1, 0, 0⟩, k))
    | _, _ => (⟨k.time, -1, 0, 0⟩, k)
def tick (p : Pl) (k : Kst) : Ev × Kst := tickBy p p.spans k
/-- A kernel at its beginning. -/
def kNew (p : Pl) : Kst := ⟨p.code.map fun _ => St.zero, p.wires.map fun x => ⟨x, [], 0⟩, 0⟩

structure LnOk (x : Ln) (B : Int) : Prop where
  wire : wireChk x.w = 0
  most : (x.items.length : Int) ≤ x.w.deep
  nums : ∀ n ∈ x.items, 0 ≤ n ∧ n < 1000
  lost0 : 0 ≤ x.lost
  lostB : x.lost ≤ B
structure KOk (p : Pl) (k : Kst) (B : Int) : Prop where
  rooms : k.rooms.length = p.code.length
  lines : k.lines.map Ln.w = p.wires
  time0 : 0 ≤ k.time
  timeB : k.time ≤ B
  states : ∀ (r : Nat) (ops : List Op) (s : St), p.code[r]? = some ops → k.rooms[r]? = some s → stOk s ops.length = true
  lns : ∀ x ∈ k.lines, LnOk x B

theorem wire_kind {x : Wire} (h : wireChk x = 0) : (x.kind = 1 ∧ x.deep = 1 ∨ x.kind = 2) ∧ 1 ≤ x.deep ∧ x.deep ≤ 6 := by
  unfold wireChk at h
  split at h
  · simp at h
  · rename_i h1
    simp only [not_or, not_and, Decidable.not_not] at h1
    omega
theorem LnOk.six {x : Ln} {B : Int} (h : LnOk x B) : x.items.length ≤ 6 := by have := h.most; have := wire_kind h.wire; omega
theorem LnOk.mono {x : Ln} {B C : Int} (h : LnOk x B) (hc : B ≤ C) : LnOk x C := ⟨h.wire, h.most, h.nums, h.lost0, by have := h.lostB; omega⟩
theorem LnOk.take {x : Ln} {B : Int} (h : LnOk x B) : LnOk ⟨x.w, lineTake x.w x.items, x.lost⟩ B := by
  refine ⟨h.wire, ?_, fun n hn => ?_, h.lost0, h.lostB⟩
  · have := h.most
    simp only [lineTake]
    split
    · rw [List.length_tail]; omega
    · exact this
  · simp only [lineTake] at hn
    split at hn
    · exact h.nums n (List.mem_of_mem_tail hn)
    · exact h.nums n hn
theorem LnOk.send {x : Ln} {B n : Int} (h : LnOk x B) (hn : 0 ≤ n ∧ n < 1000) : LnOk ⟨x.w, (lineSend x.w x.items x.lost n).2.1, (lineSend x.w x.items x.lost n).2.2⟩ (B + 1) := by
  have hk := wire_kind h.wire
  have hm := h.most
  have h0 := h.lost0
  have hB := h.lostB
  unfold lineSend
  by_cases h1 : x.w.kind = 1
  · rw [if_pos h1]
    exact ⟨h.wire, by simp only [List.length_cons, List.length_nil]; omega, fun m hm => by simp at hm; subst hm; exact hn, h0, by simp only []; omega⟩
  rw [if_neg h1]
  by_cases h2 : (x.items.length : Int) = x.w.deep
  · rw [if_pos h2]
    exact ⟨h.wire, hm, h.nums, by simp only []; omega, by simp only []; omega⟩
  · rw [if_neg h2]
    refine ⟨h.wire, by simp only [List.length_append, List.length_cons, List.length_nil]; omega, fun m hm => ?_, h0, by simp only []; omega⟩
    rcases List.mem_append.1 hm with hm | hm
    · exact h.nums m hm
    · simp at hm; subst hm; exact hn

/-- What a step of a room that is right needs and keeps. -/
theorem kDo_ok {p : Pl} {k : Kst} {B : Int} {r : Nat} {ops : List Op} {s : St} {o : Op} (hp : PlOk p) (h : KOk p k B) (hc : p.code[r]? = some ops) (hs : k.rooms[r]? = some s) (ho : ops[s.pc.toNat]? = some o) :
    (kDo ops.length r o s k).2.rooms.length = p.code.length ∧ (kDo ops.length r o s k).2.lines.map Ln.w = p.wires ∧
    (∀ (r' : Nat) (ops' : List Op) (s' : St), p.code[r']? = some ops' → (kDo ops.length r o s k).2.rooms[r']? = some s' → stOk s' ops'.length = true) ∧ ∀ x ∈ (kDo ops.length r o s k).2.lines, LnOk x (B + 1) := by
  have hcode := codeChk_ok (hp.codes ops (List.mem_of_getElem? hc))
  have hst := h.states r ops s hc hs
  have hop := hcode.2.2 o (List.mem_of_getElem? ho)
  have hn : (0 : Int) < ops.length := by omega
  have same : ∀ x ∈ k.lines, LnOk x (B + 1) := fun x hx => (h.lns x hx).mono (by omega)
  have stay : k.rooms.length = p.code.length ∧ k.lines.map Ln.w = p.wires ∧ (∀ (r' : Nat) (ops' : List Op) (s' : St), p.code[r']? = some ops' → k.rooms[r']? = some s' → stOk s' ops'.length = true) ∧ ∀ x ∈ k.lines, LnOk x (B + 1) :=
    ⟨h.rooms, h.lines, h.states, same⟩
  have put : ∀ t, stOk t ops.length = true → ∀ (r' : Nat) (ops' : List Op) (s' : St), p.code[r']? = some ops' → (k.rooms.set r t)[r']? = some s' → stOk s' ops'.length = true := by
    intro t ht r' ops' s' h1 h2
    rw [List.getElem?_set] at h2
    by_cases e : r = r'
    · subst e
      rw [hc] at h1; cases h1
      rw [if_pos rfl] at h2
      split at h2
      · cases h2; exact ht
      · cases h2
    · rw [if_neg e] at h2; exact h.states r' ops' s' h1 h2
  have lput : ∀ (i : Nat) (x y : Ln), k.lines[i]? = some x → y.w = x.w → LnOk y (B + 1) → (k.lines.set i y).map Ln.w = p.wires ∧ ∀ z ∈ k.lines.set i y, LnOk z (B + 1) := by
    intro i x y hx hy hok
    refine ⟨(set_map Ln.w _ _ _ _ hx hy).trans h.lines, fun z hz => ?_⟩
    rcases List.mem_or_eq_of_mem_set hz with hz | rfl
    · exact same z hz
    · exact hok
  unfold kDo
  by_cases hf : s.failed = true
  · rw [if_pos hf]; exact stay
  rw [if_neg hf]
  by_cases h9 : o.what = 9
  · rw [if_pos h9]
    cases hx : k.lines[o.b.toNat]? with
    | none => exact stay
    | some x =>
      have hxo := h.lns x (List.mem_of_getElem? hx)
      simp only []
      cases hi : x.items with
      | nil => exact stay
      | cons i rest =>
        have hstep := step_ok (got := i) (is := true) hn hop hst (fun _ => hxo.nums i (by rw [hi]; simp))
        have hl := lput _ x ⟨x.w, lineTake x.w (i :: rest), x.lost⟩ hx rfl (by have := hxo.take.mono (show B ≤ B + 1 by omega); rwa [hi] at this)
        exact ⟨by simp only [List.length_set]; exact h.rooms, hl.1, put _ hstep.1, hl.2⟩
  rw [if_neg h9]
  have hstep := step_ok (got := 0) (is := false) hn hop hst (fun h => by cases h)
  by_cases h8 : o.what = 8
  · rw [if_pos h8]
    cases hx : k.lines[o.b.toNat]? with
    | none => exact stay
    | some x =>
      have hxo := h.lns x (List.mem_of_getElem? hx)
      have hl := lput _ x ⟨x.w, (lineSend x.w x.items x.lost (s.get o.a.toNat)).2.1, (lineSend x.w x.items x.lost (s.get o.a.toNat)).2.2⟩ hx rfl (hxo.send ((stOk_iff.1 hst).2 _ (opOk_a hop).2))
      exact ⟨by simp only [List.length_set]; exact h.rooms, hl.1, put _ hstep.1, hl.2⟩
  · rw [if_neg h8]
    exact ⟨by simp only [List.length_set]; exact h.rooms, h.lines, put _ hstep.1, same⟩
/-- Frames' rooms are rooms of the plan. -/
theorem turnAt_room {l : List Span} {m : Int} : turnAt l m = -1 ∨ ∃ s ∈ l, turnAt l m = s.room := by
  unfold turnAt
  cases hf : l.find? (fun s => decide (s.fr ≤ m ∧ m < s.to)) with
  | none => exact .inl rfl
  | some s => exact .inr ⟨s, List.mem_of_find?_eq_some hf, rfl⟩
/-- What a tick meets: nobody, or a room with its code, state and op. -/
theorem tick_meets {p : Pl} {k : Kst} {B : Int} {spans : List Span} (_hp : PlOk p) (h : KOk p k B) (hsp : ∀ s ∈ spans, 0 ≤ s.room ∧ s.room < p.code.length) :
    turnAt spans (k.time % p.ticks) = -1 ∨ ∃ (r : Nat) (ops : List Op) (s : St) (o : Op), turnAt spans (k.time % p.ticks) = r ∧ p.code[r]? = some ops ∧ k.rooms[r]? = some s ∧ ops[s.pc.toNat]? = some o := by
  rcases turnAt_room (l := spans) (m := k.time % p.ticks) with h0 | ⟨sp, hm, h0⟩
  · exact .inl h0
  · right
    have hr := hsp sp hm
    have h1 : sp.room.toNat < p.code.length := by omega
    have h2 : sp.room.toNat < k.rooms.length := by rw [h.rooms]; exact h1
    have hst := stOk_iff.1 (h.states _ _ _ (List.getElem?_eq_getElem h1) (List.getElem?_eq_getElem h2))
    have h3 : k.rooms[sp.room.toNat].pc.toNat < p.code[sp.room.toNat].length := by omega
    exact ⟨sp.room.toNat, _, _, _, by rw [h0]; omega, List.getElem?_eq_getElem h1, List.getElem?_eq_getElem h2, List.getElem?_eq_getElem h3⟩
theorem tick_room {p : Pl} {k : Kst} {spans : List Span} {r : Nat} {ops : List Op} {s : St} {o : Op} (ht : turnAt spans (k.time % p.ticks) = r) (hc : p.code[r]? = some ops) (hs : k.rooms[r]? = some s) (ho : ops[s.pc.toNat]? = some o) :
    tickBy p spans k = (⟨k.time, r, s.pc, (kDo ops.length r o s k).1⟩, ⟨(kDo ops.length r o s k).2.rooms, (kDo ops.length r o s k).2.lines, k.time + 1⟩) := by
  unfold tickBy
  rw [ht, if_neg (by omega)]
  simp only [Int.toNat_natCast, hc, hs, ho]
theorem tick_none {p : Pl} {k : Kst} {spans : List Span} (ht : turnAt spans (k.time % p.ticks) = -1) : tickBy p spans k = (⟨k.time, -1, 0, 0⟩, ⟨k.rooms, k.lines, k.time + 1⟩) := by
  unfold tickBy; rw [ht, if_pos (by omega)]
theorem tick_ok {p : Pl} {k : Kst} {B : Int} {spans : List Span} (hp : PlOk p) (h : KOk p k B) (hsp : ∀ s ∈ spans, 0 ≤ s.room ∧ s.room < p.code.length) : KOk p (tickBy p spans k).2 (B + 1) := by
  have h0 := h.time0
  have hB := h.timeB
  rcases tick_meets hp h hsp with ht | ⟨r, ops, s, o, ht, hc, hs, ho⟩
  · rw [tick_none ht]
    exact ⟨h.rooms, h.lines, by simp only []; omega, by simp only []; omega, h.states, fun x hx => (h.lns x hx).mono (by omega)⟩
  · rw [tick_room ht hc hs ho]
    obtain ⟨a, b, c, d⟩ := kDo_ok hp h hc hs ho
    exact ⟨a, b, by simp only []; omega, by simp only []; omega, c, d⟩
theorem kNew_ok {p : Pl} (hp : PlOk p) : KOk p (kNew p) 0 := by
  refine ⟨by simp [kNew], by simp only [kNew, List.map_map]; exact (List.map_congr_left (fun _ _ => rfl)).trans (List.map_id _), Int.le_refl _, Int.le_refl _, fun r ops s hc hs => ?_, fun x hx => ?_⟩
  · simp only [kNew, List.getElem?_map, Option.map_eq_some_iff] at hs
    obtain ⟨_, _, rfl⟩ := hs
    have := codeChk_ok (hp.codes ops (List.mem_of_getElem? hc))
    exact stOk_zero (by omega)
  · simp only [kNew, List.mem_map] at hx
    obtain ⟨y, hy, rfl⟩ := hx
    have hw := (flowChk_ok hp.flow).2.1 y hy
    have := wire_kind hw
    exact ⟨hw, by simp only [List.length_nil]; omega, fun n hn => by simp at hn, Int.le_refl _, Int.le_refl _⟩
end Go.Proofs.YthdmgighblhmhaaGreatDoor

/- Plain: a room's states, tick by tick. -/
namespace Go.Proofs.YthdmgighblhmhaaGreatDoor

theorem spans_ok {p : Pl} (hp : PlOk p) : ∀ s ∈ p.spans, 0 ≤ s.room ∧ s.room < p.code.length := fun s hs => by
  refine ⟨?_, hp.spans s hs⟩
  obtain ⟨i, hi⟩ := List.mem_iff_getElem?.1 hs
  exact (spanOk (frOk_of hp.frame i s hi).1).2.2.2.1
/-- The kernel behind so many ticks. -/
def runK (p : Pl) : Nat → Kst
  | 0 => kNew p
  | t + 1 => (tick p (runK p t)).2
theorem runK_ok {p : Pl} (hp : PlOk p) : ∀ t : Nat, KOk p (runK p t) t
  | 0 => kNew_ok hp
  | t + 1 => by
    have h := tick_ok hp (runK_ok hp t) (spans_ok hp)
    exact h
def stAtT (p : Pl) (r t : Nat) : St := (runK p t).rooms.getD r St.zero
def statesTo (p : Pl) (r : Nat) : Nat → List St
  | 0 => []
  | t + 1 => statesTo p r t ++ [stAtT p r t]
theorem statesTo_len (p : Pl) (r : Nat) : ∀ t, (statesTo p r t).length = t
  | 0 => rfl
  | t + 1 => by simp [statesTo, statesTo_len p r t]
theorem statesTo_get (p : Pl) (r : Nat) : ∀ t j, j < t → (statesTo p r t)[j]? = some (stAtT p r j)
  | 0, j, h => by omega
  | t + 1, j, h => by
    have hl := statesTo_len p r t
    by_cases e : j = t
    · subst e
      simp only [statesTo]
      rw [List.getElem?_append_right (by omega), hl, Nat.sub_self]; rfl
    · simp only [statesTo]
      rw [List.getElem?_append_left (by omega)]
      exact statesTo_get p r t j (by omega)
theorem stAtT_zero {p : Pl} {r : Nat} (h : r < p.code.length) : stAtT p r 0 = St.zero := by
  simp [stAtT, runK, kNew, List.getD_eq_getElem?_getD, List.getElem?_map, List.getElem?_eq_getElem h]
end Go.Proofs.YthdmgighblhmhaaGreatDoor
