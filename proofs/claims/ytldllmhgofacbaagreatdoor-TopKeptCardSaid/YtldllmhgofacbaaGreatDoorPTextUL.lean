/- Several parts: each begins with what it says. -/
import Derived.Test.YtldllmhgofacbaaGreatDoorRangeUL
import Derived.Test.YtldllmhgofacbaaGreatDoorKLawU
/- Plain: a plan as text: its lines, what reads them one by one, and which texts are plans, and of which. No program is walked. Conditions: none. -/
namespace Go.Proofs.YtldllmhgofacbaaGreatDoor

/-- A line of a plan. -/
inductive PLine where
  | frame (n : Int)
  | span (s : Span)
  | wire (x : Wire)
  | room
  | op (o : Op)
def PLine.word : PLine → List UInt8
  | .frame _ => [102, 114, 97, 109, 101]
  | .span _ => [115, 112, 97, 110]
  | .wire _ => [119, 105, 114, 101]
  | .room => [114, 111, 111, 109]
  | .op o => nameOf o.what.toNat
def PLine.nums : PLine → List Int
  | .frame n => [n]
  | .span s => [s.fr, s.to, s.room]
  | .wire x => [x.fr, x.to, x.kind, x.deep]
  | .room => []
  | .op o => fieldsOf o
def PLine.txt (l : PLine) : List UInt8 := l.word ++ l.nums.flatMap numT
def PLine.Wf (l : PLine) : Prop := (∀ n ∈ l.nums, 0 ≤ n ∧ n < 10 ^ 4) ∧ (match l with | .op o => WfOp o | _ => True)
def PLine.isHead : PLine → Bool
  | .op _ => false
  | _ => true
theorem PLine.cut {l : PLine} (h : l.Wf) : cutA 32 [] l.txt = l.word :: l.nums.map Lib.itoa := by
  refine cutA_words ?_ _
  cases l with
  | op o => exact name_no32 _
  | _ => simp [PLine.word]
theorem PLine.no10 {l : PLine} : (10 : UInt8) ∉ l.txt := by
  have hn : (10 : UInt8) ∉ l.nums.flatMap numT := nums_no10 _
  have hw : (10 : UInt8) ∉ l.word := by
    cases l with
    | op o => exact fun h => by have := name_mem _ _ h; simp at this
    | _ => simp [PLine.word]
  unfold PLine.txt
  rw [List.mem_append]
  rintro (h | h)
  · exact hw h
  · exact hn h
theorem PLine.numsOf {l : PLine} (h : l.Wf) : numsOf 4 (l.nums.map Lib.itoa) = some (l.nums.map Int.toNat) := numsOf_itoa (k := 3) (by decide) h.1
theorem toNats_inj : ∀ {a b : List Int}, (∀ n ∈ a, 0 ≤ n ∧ n < 10 ^ 4) → (∀ n ∈ b, 0 ≤ n ∧ n < 10 ^ 4) → a.map Int.toNat = b.map Int.toNat → a = b
  | [], [], _, _, _ => rfl
  | [], _ :: _, _, _, h => by simp at h
  | _ :: _, [], _, _, h => by simp at h
  | x :: a, y :: b, ha, hb, h => by
    rw [List.map_cons, List.map_cons] at h
    injection h with h1 h2
    have hx := ha x (by simp)
    have hy := hb y (by simp)
    rw [toNats_inj (fun n hn => ha n (by simp [hn])) (fun n hn => hb n (by simp [hn])) h2, show x = y by omega]
/-- Words of the heads are no ops' names. -/
theorem head_word {l : PLine} (h : l.isHead = true) (k : Nat) : l.word ≠ nameOf k := by
  have H : ∀ w ∈ [[102, 114, 97, 109, 101], [115, 112, 97, 110], [119, 105, 114, 101], [114, 111, 111, 109]], ∀ k : Nat, (w : List UInt8) ≠ nameOf k := by
    intro w hw k
    have hk : ∀ i ∈ List.range 12, nameOf i ∉ ([[102, 114, 97, 109, 101], [115, 112, 97, 110], [119, 105, 114, 101], [114, 111, 111, 109]] : List (List UInt8)) := by decide
    rintro rfl
    by_cases h12 : k < 12
    · exact hk k (List.mem_range.2 h12) hw
    · have : nameOf k = [] := by
        unfold nameOf
        split <;> first | omega | rfl
      rw [this] at hw
      revert hw; decide
  cases l with
  | op o => cases h
  | _ => exact H _ (by simp [PLine.word]) k
theorem pline_inj {a b : PLine} (ha : a.Wf) (hb : b.Wf) (h : a.txt = b.txt) : a = b := by
  have h1 := PLine.cut ha
  rw [h, PLine.cut hb] at h1
  injection h1 with hw hn
  have hnn : a.nums = b.nums := by
    have g1 := PLine.numsOf ha
    have g2 := PLine.numsOf hb
    rw [hn, g1] at g2
    injection g2 with g2
    exact toNats_inj ha.1 hb.1 g2
  by_cases h1 : a.isHead = true
  · by_cases h2 : b.isHead = true
    · cases a <;> cases b <;> first | (simp [PLine.isHead] at h1; done) | (simp [PLine.isHead] at h2; done) | (simp [PLine.word] at hw; done) | skip
      · simp only [PLine.nums, List.cons.injEq, and_true] at hnn; rw [hnn]
      · rename_i x y
        obtain ⟨x0, x1, x2⟩ := x
        obtain ⟨y0, y1, y2⟩ := y
        simp only [PLine.nums, List.cons.injEq, and_true] at hnn
        obtain ⟨rfl, rfl, rfl⟩ := hnn; rfl
      · rename_i x y
        obtain ⟨x0, x1, x2, x3⟩ := x
        obtain ⟨y0, y1, y2, y3⟩ := y
        simp only [PLine.nums, List.cons.injEq, and_true] at hnn
        obtain ⟨rfl, rfl, rfl, rfl⟩ := hnn; rfl
      · rfl
    · cases b with
      | op o => exact absurd hw.symm (head_word h1 _)
      | _ => exact absurd rfl h2
  · cases a with
    | op o =>
      cases b with
      | op o' => rw [op_inj ha.2 hb.2 h]
      | _ => exact absurd hw (head_word rfl _)
    | _ => exact absurd rfl h1

/-! Reading line by line -/
structure PS where
  p : Pl
  part : Nat
  begun : Bool
def PS.start : PS := ⟨⟨[], 0, [], []⟩, 0, false⟩
/-- The last of the codes with an op more. -/
def addOp : List (List Op) → Op → List (List Op)
  | [], _ => []
  | [c], o => [c ++ [o]]
  | c :: d :: l, o => c :: addOp (d :: l) o
def PS.step (s : PS) : PLine → Option PS
  | .frame n => if s.begun = true then none else some ⟨⟨s.p.code, n, s.p.spans, s.p.wires⟩, 0, true⟩
  | .span x => if s.begun = true ∧ s.part ≤ 1 then some ⟨⟨s.p.code, s.p.ticks, s.p.spans ++ [x], s.p.wires⟩, 1, true⟩ else none
  | .wire x => if s.begun = true ∧ s.part ≤ 2 then some ⟨⟨s.p.code, s.p.ticks, s.p.spans, s.p.wires ++ [x]⟩, 2, true⟩ else none
  | .room => if s.begun = true then some ⟨⟨s.p.code ++ [[]], s.p.ticks, s.p.spans, s.p.wires⟩, 3, true⟩ else none
  | .op o => if s.p.code = [] then none else some ⟨⟨addOp s.p.code o, s.p.ticks, s.p.spans, s.p.wires⟩, s.part, s.begun⟩
def PS.run : PS → List PLine → Option PS
  | s, [] => some s
  | s, l :: r => match s.step l with | none => none | some s' => s'.run r
theorem run_nil (s : PS) : s.run [] = some s := rfl
theorem run_cons (s : PS) (l : PLine) (r : List PLine) : s.run (l :: r) = match s.step l with | none => none | some s' => s'.run r := rfl
theorem step_frame (s : PS) (n : Int) : s.step (.frame n) = if s.begun = true then none else some ⟨⟨s.p.code, n, s.p.spans, s.p.wires⟩, 0, true⟩ := rfl
theorem step_span (s : PS) (x : Span) : s.step (.span x) = if s.begun = true ∧ s.part ≤ 1 then some ⟨⟨s.p.code, s.p.ticks, s.p.spans ++ [x], s.p.wires⟩, 1, true⟩ else none := rfl
theorem step_wire (s : PS) (x : Wire) : s.step (.wire x) = if s.begun = true ∧ s.part ≤ 2 then some ⟨⟨s.p.code, s.p.ticks, s.p.spans, s.p.wires ++ [x]⟩, 2, true⟩ else none := rfl
theorem step_room (s : PS) : s.step .room = if s.begun = true then some ⟨⟨s.p.code ++ [[]], s.p.ticks, s.p.spans, s.p.wires⟩, 3, true⟩ else none := rfl
theorem step_op (s : PS) (o : Op) : s.step (.op o) = if s.p.code = [] then none else some ⟨⟨addOp s.p.code o, s.p.ticks, s.p.spans, s.p.wires⟩, s.part, s.begun⟩ := rfl
theorem run_app (s : PS) : ∀ (a b : List PLine), s.run (a ++ b) = match s.run a with | none => none | some s' => s'.run b := by
  intro a
  induction a generalizing s with
  | nil => intro b; rfl
  | cons x a ih =>
    intro b
    rw [List.cons_append, run_cons, run_cons]
    cases s.step x with
    | none => rfl
    | some s' => exact ih s' b
theorem run_snoc {s s' : PS} {a : List PLine} (h : s.run a = some s') (l : PLine) : s.run (a ++ [l]) = s'.step l := by
  rw [run_app, h]
  show s'.run [l] = _
  rw [run_cons]
  cases s'.step l <;> rfl
/-- What lines a plan has. -/
def codeLines (c : List (List Op)) : List PLine := c.flatMap fun l => PLine.room :: l.map PLine.op
def linesP (p : Pl) : List PLine := PLine.frame p.ticks :: (p.spans.map PLine.span ++ (p.wires.map PLine.wire ++ codeLines p.code))
theorem addOp_lines : ∀ (c : List (List Op)) (o : Op), c ≠ [] → codeLines (addOp c o) = codeLines c ++ [.op o]
  | [], _, h => absurd rfl h
  | [c], o, _ => by unfold addOp codeLines; simp
  | c :: d :: l, o, _ => by
    unfold addOp
    have := addOp_lines (d :: l) o (by simp)
    unfold codeLines at this ⊢
    rw [List.flatMap_cons, this, List.flatMap_cons (xs := d :: l)]
    simp
theorem addOp_ne : ∀ (c : List (List Op)) (o : Op), c ≠ [] → addOp c o ≠ []
  | [], _, h => absurd rfl h
  | [c], o, _ => by simp [addOp]
  | c :: d :: l, o, _ => by simp [addOp]
theorem codeLines_snoc (c : List (List Op)) (l : List Op) : codeLines (c ++ [l]) = codeLines c ++ (PLine.room :: l.map PLine.op) := by
  unfold codeLines; rw [List.flatMap_append]; simp
/-- What holds as lines are read. -/
structure PSOk (s : PS) (ls : List PLine) : Prop where
  lines : s.begun = true → linesP s.p = ls
  nob : s.begun = false → ls = [] ∧ s.p = ⟨[], 0, [], []⟩ ∧ s.part = 0
  p0 : s.part = 0 → s.p.spans = []
  p1 : s.part ≤ 1 → s.p.wires = []
  p2 : s.part ≤ 2 → s.p.code = []
  p3 : s.part ≤ 3
theorem psok_start : PSOk PS.start [] := ⟨(fun h => by cases h), fun _ => ⟨rfl, rfl, rfl⟩, fun _ => rfl, fun _ => rfl, fun _ => rfl, by decide⟩
theorem psok_step {s s' : PS} {ls : List PLine} {l : PLine} (h : PSOk s ls) (hs : s.step l = some s') : PSOk s' (ls ++ [l]) := by
  obtain ⟨⟨code, ticks, spans, wires⟩, part, begun⟩ := s
  obtain ⟨h1, h2, h3, h4, h5, h6⟩ := h
  simp only [] at h1 h2 h3 h4 h5 h6
  cases l with
  | frame n =>
    rw [step_frame] at hs
    split at hs
    · cases hs
    · rename_i hb
      cases hs
      obtain ⟨g1, g2, g3⟩ := h2 (by simpa using hb)
      simp only [Pl.mk.injEq] at g2
      obtain ⟨rfl, rfl, rfl, rfl⟩ := g2
      subst g1
      exact ⟨fun _ => rfl, (fun h => by cases h), fun _ => rfl, fun _ => rfl, fun _ => rfl, (by show 0 ≤ 3; omega)⟩
  | span x =>
    rw [step_span] at hs
    split at hs
    · rename_i hb
      cases hs
      have e := h1 hb.1
      have hw := h4 hb.2
      have hb2 : part ≤ 1 := hb.2
      have hc := h5 (by omega)
      subst hw hc
      refine ⟨fun _ => ?_, (fun h => by cases h), (fun h => by cases h), fun _ => rfl, fun _ => rfl, (by show 1 ≤ 3; omega)⟩
      rw [← e]; unfold linesP codeLines; simp
    · cases hs
  | wire x =>
    rw [step_wire] at hs
    split at hs
    · rename_i hb
      cases hs
      have e := h1 hb.1
      have hc := h5 hb.2
      subst hc
      refine ⟨fun _ => ?_, (fun h => by cases h), (fun h => by cases h), (fun h => by simp at h), fun _ => rfl, (by show 2 ≤ 3; omega)⟩
      rw [← e]; unfold linesP codeLines; simp
    · cases hs
  | room =>
    rw [step_room] at hs
    split at hs
    · rename_i hb
      cases hs
      have e := h1 hb
      refine ⟨fun _ => ?_, (fun h => by cases h), (fun h => by cases h), (fun h => by simp at h), (fun h => by simp at h), (by show 3 ≤ 3; omega)⟩
      rw [← e]
      unfold linesP
      simp only []
      rw [codeLines_snoc]; simp
    · cases hs
  | op o =>
    rw [step_op] at hs
    simp only [] at hs
    split at hs
    · cases hs
    · rename_i hc
      cases hs
      have hp3 : ¬ part ≤ 2 := fun hp => hc (h5 hp)
      refine ⟨fun hb => ?_, fun hb => ?_, fun hp => absurd hp (by simp only []; omega), fun hp => absurd hp (by simp only []; omega), fun hp => absurd hp (by simp only []; omega), h6⟩
      · have e := h1 hb
        rw [← e]
        unfold linesP
        simp only []
        rw [addOp_lines code o hc]; simp
      · have := (h2 hb).2.2; omega
theorem psok_run : ∀ {ls : List PLine} {s : PS}, PS.start.run ls = some s → PSOk s ls := by
  intro ls
  induction h : ls.length generalizing ls with
  | zero =>
    intro s hs
    have := List.eq_nil_of_length_eq_zero h
    subst this
    cases hs; exact psok_start
  | succ n ih =>
    intro s hs
    rcases List.eq_nil_or_concat ls with rfl | ⟨t, l, rfl⟩
    · simp at h
    · rw [List.concat_eq_append] at hs h ⊢
      rw [run_app] at hs
      cases ht : PS.start.run t with
      | none => rw [ht] at hs; cases hs
      | some s1 =>
        rw [ht] at hs
        have hs2 : s1.run [l] = some s := hs
        rw [run_cons] at hs2
        cases h3 : s1.step l with
        | none => rw [h3] at hs2; cases hs2
        | some s2 =>
          rw [h3] at hs2
          cases hs2
          exact psok_step (ih (by simp at h; omega) ht) h3
/-- A plan's own lines are read. -/
theorem run_ops : ∀ (l : List Op) (c : List (List Op)) (d : List Op) (t : Int) (sp : List Span) (wi : List Wire) (b : Bool), (PS.mk ⟨c ++ [d], t, sp, wi⟩ 3 b).run (l.map PLine.op) = some ⟨⟨c ++ [d ++ l], t, sp, wi⟩, 3, b⟩
  | [], c, d, t, sp, wi, b => by simp [PS.run]
  | o :: l, c, d, t, sp, wi, b => by
    rw [List.map_cons]
    have ha : ∀ c : List (List Op), addOp (c ++ [d]) o = c ++ [d ++ [o]] := by
      intro c
      induction c with
      | nil => rfl
      | cons x c ih =>
        cases hc : c ++ [d] with
        | nil => simp at hc
        | cons y r => rw [List.cons_append, hc]; unfold addOp; rw [← hc, ih]; rfl
    have hs : (PS.mk ⟨c ++ [d], t, sp, wi⟩ 3 b).step (.op o) = some ⟨⟨c ++ [d ++ [o]], t, sp, wi⟩, 3, b⟩ := by
      rw [step_op, if_neg (by simp), ha]
    rw [run_cons, hs]
    simp only []
    rw [run_ops l c (d ++ [o]) t sp wi b, List.append_assoc]; rfl
theorem run_codes : ∀ (l c : List (List Op)) (t : Int) (sp : List Span) (wi : List Wire) (q : Nat), q ≤ 3 → ∃ q', (PS.mk ⟨c, t, sp, wi⟩ q true).run (codeLines l) = some ⟨⟨c ++ l, t, sp, wi⟩, q', true⟩
  | [], c, t, sp, wi, q, _ => ⟨q, by simp [codeLines, PS.run]⟩
  | d :: l, c, t, sp, wi, q, _ => by
    have e : codeLines (d :: l) = .room :: (d.map PLine.op ++ codeLines l) := by unfold codeLines; rw [List.flatMap_cons]; rfl
    rw [e]
    have hs : (PS.mk ⟨c, t, sp, wi⟩ q true).step .room = some ⟨⟨c ++ [[]], t, sp, wi⟩, 3, true⟩ := by
      rw [step_room, if_pos rfl]
    rw [run_cons, hs]
    simp only []
    rw [run_app, run_ops d c [] t sp wi true]
    simp only [List.nil_append]
    obtain ⟨q', h⟩ := run_codes l (c ++ [d]) t sp wi 3 (by omega)
    exact ⟨q', by rw [h]; simp⟩
theorem run_wires : ∀ (l sl : List Wire) (t : Int) (sp : List Span) (q : Nat), q ≤ 2 → ∃ q', q' ≤ 2 ∧ (PS.mk ⟨[], t, sp, sl⟩ q true).run (l.map PLine.wire) = some ⟨⟨[], t, sp, sl ++ l⟩, q', true⟩
  | [], sl, t, sp, q, hq => ⟨q, hq, by simp [PS.run]⟩
  | x :: l, sl, t, sp, q, hq => by
    have hs : (PS.mk ⟨[], t, sp, sl⟩ q true).step (.wire x) = some ⟨⟨[], t, sp, sl ++ [x]⟩, 2, true⟩ := by
      first | rw [step_wire, if_pos ⟨rfl, hq⟩] | rw [step_span, if_pos ⟨rfl, hq⟩]
    rw [List.map_cons]
    rw [run_cons, hs]
    simp only []
    obtain ⟨q', h1, h2⟩ := run_wires l (sl ++ [x]) t sp 2 (by omega)
    exact ⟨q', h1, by rw [h2]; simp⟩
theorem run_spans : ∀ (l sl : List Span) (t : Int) (q : Nat), q ≤ 1 → ∃ q', q' ≤ 1 ∧ (PS.mk ⟨[], t, sl, []⟩ q true).run (l.map PLine.span) = some ⟨⟨[], t, sl ++ l, []⟩, q', true⟩
  | [], sl, t, q, hq => ⟨q, hq, by simp [PS.run]⟩
  | x :: l, sl, t, q, hq => by
    have hs : (PS.mk ⟨[], t, sl, []⟩ q true).step (.span x) = some ⟨⟨[], t, sl ++ [x], []⟩, 1, true⟩ := by
      first | rw [step_wire, if_pos ⟨rfl, hq⟩] | rw [step_span, if_pos ⟨rfl, hq⟩]
    rw [List.map_cons]
    rw [run_cons, hs]
    simp only []
    obtain ⟨q', h1, h2⟩ := run_spans l (sl ++ [x]) t 1 (by omega)
    exact ⟨q', h1, by rw [h2]; simp⟩
theorem run_own (p : Pl) : ∃ q, PS.start.run (linesP p) = some ⟨p, q, true⟩ := by
  have hs : PS.start.step (.frame p.ticks) = some ⟨⟨[], p.ticks, [], []⟩, 0, true⟩ := rfl
  unfold linesP
  rw [run_cons, hs]
  simp only []
  obtain ⟨q1, h1, g1⟩ := run_spans p.spans [] p.ticks 0 (by omega)
  rw [run_app, g1]
  simp only [List.nil_append]
  obtain ⟨q2, h2, g2⟩ := run_wires p.wires [] p.ticks p.spans q1 (by omega)
  rw [run_app, g2]
  simp only [List.nil_append]
  obtain ⟨q3, g3⟩ := run_codes p.code [] p.ticks p.spans p.wires q2 (by omega)
  rw [List.nil_append] at g3
  exact ⟨q3, g3⟩

/-! Texts -/
def plineText (l : PLine) : List UInt8 := l.txt ++ [10]
def planText (p : Pl) : List UInt8 := (linesP p).flatMap plineText
def WfPl (p : Pl) : Prop := ∀ l ∈ linesP p, l.Wf
theorem lines_plan (p : Pl) : linesOf (planText p) = (linesP p).map plineText := by
  have H : ∀ l : List PLine, linesOf (l.flatMap plineText) = l.map plineText := by
    intro l
    induction l with
    | nil => rfl
    | cons x l ih =>
      rw [List.flatMap_cons, List.map_cons]
      have e : plineText x ++ l.flatMap plineText = x.txt ++ 10 :: l.flatMap plineText := by unfold plineText; simp
      rw [e, linesOf_line _ _ PLine.no10, ih]; rfl
  exact H _
/-- A text whose lines are read to a plan is that plan's. -/
theorem plan_of {t : List UInt8} {ls : List PLine} {s : PS} (h : linesOf t = ls.map plineText) (hs : PS.start.run ls = some s) (hb : s.begun = true) : planText s.p = t := by
  have h1 := (psok_run hs).lines hb
  rw [← lines_join t, h, ← h1]
  unfold planText
  rw [List.flatMap_def]
theorem plan_wf {ls : List PLine} {s : PS} (hs : PS.start.run ls = some s) (hb : s.begun = true) (hw : ∀ l ∈ ls, l.Wf) : WfPl s.p := by
  unfold WfPl
  rw [(psok_run hs).lines hb]; exact hw
/-- A line that is none of a plan's: the text is no plan. -/
theorem plan_not {t x : List UInt8} (hx : x ∈ linesOf t) (hno : ∀ l : PLine, l.Wf → plineText l ≠ x) (p : Pl) (hp : WfPl p) : planText p ≠ t := by
  rintro rfl
  rw [lines_plan] at hx
  obtain ⟨l, hl, he⟩ := List.mem_map.1 hx
  exact hno l (hp l hl) he
theorem plines_inj : ∀ (a b : List PLine), (∀ l ∈ a, l.Wf) → (∀ l ∈ b, l.Wf) → a.map plineText = b.map plineText → a = b
  | [], [], _, _, _ => rfl
  | [], _ :: _, _, _, h => by simp at h
  | _ :: _, [], _, _, h => by simp at h
  | x :: a, y :: b, ha, hb, h => by
    rw [List.map_cons, List.map_cons] at h
    injection h with h1 h2
    rw [plines_inj a b (fun l hl => ha l (by simp [hl])) (fun l hl => hb l (by simp [hl])) h2, pline_inj (ha x (by simp)) (hb y (by simp)) (List.append_cancel_right h1)]
/-- Lines that are not read on: the text is no plan. -/
theorem plan_stuck {t : List UInt8} {ls : List PLine} {s : PS} {l : PLine} {rest : List (List UInt8)} (h : linesOf t = ls.map plineText ++ plineText l :: rest) (hs : PS.start.run ls = some s) (hw : ∀ x ∈ ls, x.Wf) (hl : l.Wf) (hst : s.step l = none) (p : Pl) (hp : WfPl p) : planText p ≠ t := by
  rintro rfl
  rw [lines_plan] at h
  have h1 : (linesP p).take (ls.length + 1) = ls ++ [l] := by
    refine plines_inj _ _ (fun x hx => hp x (List.mem_of_mem_take hx)) (fun x hx => ?_) ?_
    · rcases List.mem_append.1 hx with hx | hx
      · exact hw x hx
      · rw [List.mem_singleton] at hx; rw [hx]; exact hl
    · rw [List.map_take, h, List.map_append, List.take_append, List.length_map, Nat.add_sub_cancel_left, List.take_of_length_le (by simp)]
      simp
  obtain ⟨q, hq⟩ := run_own p
  rw [← List.take_append_drop (ls.length + 1) (linesP p), h1, run_app, run_snoc hs, hst] at hq
  cases hq
/-- No frame at all: the text is no plan. -/
theorem plan_unbegun {t : List UInt8} {ls : List PLine} {s : PS} (h : linesOf t = ls.map plineText) (hs : PS.start.run ls = some s) (hb : s.begun = false) (p : Pl) : planText p ≠ t := by
  rintro rfl
  obtain ⟨rfl, _, _⟩ := (psok_run hs).nob hb
  rw [lines_plan] at h
  simp [linesP] at h
theorem plan_inj {p q : Pl} (hp : WfPl p) (hq : WfPl q) (h : planText p = planText q) : p = q := by
  have h1 := lines_plan p
  rw [h, lines_plan] at h1
  have h2 := plines_inj _ _ hq hp h1
  obtain ⟨a, ha⟩ := run_own p
  obtain ⟨b, hb⟩ := run_own q
  rw [h2, ha] at hb
  injection hb with hb
  injection hb
end Go.Proofs.YtldllmhgofacbaaGreatDoor

/- Plain: which lines are a plan's heads, and what the reader makes of them. No program is walked. Conditions: none. -/
namespace Go.Proofs.YtldllmhgofacbaaGreatDoor

def partWord : Nat → List UInt8
  | 0 => [102, 114, 97, 109, 101]
  | 1 => [115, 112, 97, 110]
  | 2 => [119, 105, 114, 101]
  | _ => [114, 111, 111, 109]
def partMany : Nat → Nat
  | 0 => 1
  | 1 => 3
  | 2 => 4
  | _ => 0
def mkLine (i : Nat) (ns : List Nat) : PLine :=
  match i with
  | 0 => .frame (ns.getD 0 0 : Nat)
  | 1 => .span ⟨(ns.getD 0 0 : Nat), (ns.getD 1 0 : Nat), (ns.getD 2 0 : Nat)⟩
  | 2 => .wire ⟨(ns.getD 0 0 : Nat), (ns.getD 1 0 : Nat), (ns.getD 2 0 : Nat), (ns.getD 3 0 : Nat)⟩
  | _ => .room
theorem four {i : Nat} (h : i < 4) : i = 0 ∨ i = 1 ∨ i = 2 ∨ i = 3 := by omega
theorem mk_word {i : Nat} (ns : List Nat) (h : i < 4) : (mkLine i ns).word = partWord i := by rcases four h with rfl | rfl | rfl | rfl <;> rfl
theorem mk_head {i : Nat} (ns : List Nat) (h : i < 4) : (mkLine i ns).isHead = true := by rcases four h with rfl | rfl | rfl | rfl <;> rfl
theorem mk_nums {i : Nat} {ns : List Nat} (h : i < 4) (hl : ns.length = partMany i) : (mkLine i ns).nums = ns.map Int.ofNat := by
  rcases four h with rfl | rfl | rfl | rfl
  · match ns, hl with
    | [a], _ => rfl
  · match ns, hl with
    | [a, b, c], _ => rfl
  · match ns, hl with
    | [a, b, c, d], _ => rfl
  · match ns, hl with
    | [], _ => rfl
theorem nums_text {s v0 : List UInt8} {vs : List (List UInt8)} {ns : List Nat} (hc : cutA 32 [] s = v0 :: vs) (hn : numsOf 4 vs = some ns) : s = v0 ++ (ns.map Int.ofNat).flatMap numT ∧ ∀ n ∈ ns, n < 10 ^ 4 := by
  obtain ⟨h1, h2⟩ := (numsOf_some (by decide)).1 hn
  refine ⟨?_, fun n hm => ?_⟩
  · have h3 := cutA_join 32 s [] v0 vs hc
    rw [List.nil_append] at h3
    rw [h3, h1]
    congr 1
    rw [List.flatMap_map, List.flatMap_map]
    rfl
  · have := h2 (Lib.itoa (n : Int)) (by rw [h1]; exact List.mem_map_of_mem (f := fun n : Nat => Lib.itoa (n : Int)) hm)
    rw [itoa_nat] at this
    exact num_lt (by omega)
theorem head_yes {s : List UInt8} {vs : List (List UInt8)} {ns : List Nat} {i : Nat} (hc : cutA 32 [] s = partWord i :: vs) (hi : i < 4) (hn : numsOf 4 vs = some ns) (hl : ns.length = partMany i) : (mkLine i ns).Wf ∧ (mkLine i ns).txt = s := by
  obtain ⟨h1, h2⟩ := nums_text hc hn
  refine ⟨⟨fun n hm => ?_, ?_⟩, ?_⟩
  · rw [mk_nums hi hl] at hm
    obtain ⟨k, hk, rfl⟩ := List.mem_map.1 hm
    have := h2 k hk
    have h10 : (10 : Int) ^ 4 = 10000 := by decide
    exact ⟨Int.natCast_nonneg k, by rw [h10]; show (k : Int) < 10000; omega⟩
  · rcases four hi with rfl | rfl | rfl | rfl <;> trivial
  · unfold PLine.txt
    rw [mk_nums hi hl, mk_word ns hi]; exact h1.symm
theorem head_of {l : PLine} {s v0 : List UInt8} {vs : List (List UInt8)} (hl : l.Wf) (hh : l.isHead = true) (h : l.txt = s) (hc : cutA 32 [] s = v0 :: vs) : ∃ i, i < 4 ∧ v0 = partWord i ∧ numsOf 4 vs = some (l.nums.map Int.toNat) ∧ (l.nums.map Int.toNat).length = partMany i ∧ ∃ ns, l = mkLine i ns := by
  have h1 := PLine.cut hl
  rw [h, hc] at h1
  injection h1 with hw hv
  have hn := PLine.numsOf hl
  rw [← hv] at hn
  have tn : ∀ n ∈ l.nums, ((n.toNat : Nat) : Int) = n := fun n hm => by have := (hl.1 n hm).1; omega
  cases l with
  | frame n => exact ⟨0, by decide, hw, hn, rfl, [n.toNat], by unfold mkLine; simp only [List.getD_cons_zero]; rw [tn n (by simp [PLine.nums])]⟩
  | span x => exact ⟨1, by decide, hw, hn, rfl, [x.fr.toNat, x.to.toNat, x.room.toNat], by
      obtain ⟨x0, x1, x2⟩ := x
      simp only [PLine.nums] at tn
      unfold mkLine
      simp only [List.getD_cons_zero, List.getD_cons_succ]
      rw [tn x0 (by simp), tn x1 (by simp), tn x2 (by simp)]⟩
  | wire x => exact ⟨2, by decide, hw, hn, rfl, [x.fr.toNat, x.to.toNat, x.kind.toNat, x.deep.toNat], by
      obtain ⟨x0, x1, x2, x3⟩ := x
      simp only [PLine.nums] at tn
      unfold mkLine
      simp only [List.getD_cons_zero, List.getD_cons_succ]
      rw [tn x0 (by simp), tn x1 (by simp), tn x2 (by simp), tn x3 (by simp)]⟩
  | room => exact ⟨3, by decide, hw, hn, rfl, [], rfl⟩
  | op o => cases hh
theorem partWord_inj {i j : Nat} (hi : i < 4) (hj : j < 4) (h : partWord i = partWord j) : i = j := by
  rcases four hi with rfl | rfl | rfl | rfl <;> rcases four hj with rfl | rfl | rfl | rfl <;> first | rfl | (simp [partWord] at h)
/-- May such a head come now? -/
def PS.may (s : PS) (i : Nat) : Prop := s.part ≤ i ∧ (i = 0 ↔ s.begun = false)
theorem step_no {s : PS} {i : Nat} (ns : List Nat) (hi : i < 4) (h0 : s.begun = false → s.part = 0) (hp : s.part ≤ 3) (h : ¬ s.may i) : s.step (mkLine i ns) = none := by
  unfold PS.may at h
  rcases four hi with rfl | rfl | rfl | rfl
  · show s.step (.frame _) = none
    rw [step_frame]
    by_cases hb : s.begun = true
    · rw [if_pos hb]
    · exact absurd ⟨by rw [h0 (by simpa using hb)]; exact Nat.le_refl _, by simpa using hb⟩ h
  · show s.step (.span _) = none
    rw [step_span, if_neg]
    rintro ⟨h1, h2⟩
    exact h ⟨h2, by rw [h1]; simp⟩
  · show s.step (.wire _) = none
    rw [step_wire, if_neg]
    rintro ⟨h1, h2⟩
    exact h ⟨h2, by rw [h1]; simp⟩
  · show s.step .room = none
    rw [step_room, if_neg]
    intro h1
    exact h ⟨hp, by rw [h1]; simp⟩
/-- Another word: no head. -/
theorem head_none {s v0 : List UInt8} {vs : List (List UInt8)} (hc : cutA 32 [] s = v0 :: vs) (h : ∀ i, i < 4 → partWord i ≠ v0) (l : PLine) (hl : l.Wf) (hh : l.isHead = true) : l.txt ≠ s := fun e => by
  obtain ⟨i, h1, h2, _⟩ := head_of hl hh e hc
  exact h i h1 h2.symm
/-- No numbers: no head. -/
theorem head_nonum {s v0 : List UInt8} {vs : List (List UInt8)} (hc : cutA 32 [] s = v0 :: vs) (h : numsOf 4 vs = none) (l : PLine) (hl : l.Wf) (hh : l.isHead = true) : l.txt ≠ s := fun e => by
  obtain ⟨i, _, _, h2, _⟩ := head_of hl hh e hc
  rw [h] at h2; cases h2
/-- The word, but not its numbers, or not now. -/
theorem head_not {s : List UInt8} {vs : List (List UInt8)} {ns : List Nat} {i : Nat} {S : PS} (hc : cutA 32 [] s = partWord i :: vs) (hi : i < 4) (hn : numsOf 4 vs = some ns) (h0 : S.begun = false → S.part = 0) (h3 : S.part ≤ 3) (h : ¬ (ns.length = partMany i ∧ S.may i)) (l : PLine) (hl : l.Wf) (hh : l.isHead = true) (e : l.txt = s) : S.step l = none := by
  obtain ⟨j, h1, h2, h4, h5, ms, rfl⟩ := head_of hl hh e hc
  have hij := partWord_inj hi h1 h2
  subst hij
  rw [hn] at h4
  injection h4 with h4
  rw [← h4] at h5
  exact step_no ms hi h0 h3 fun hm => h ⟨h5, hm⟩
end Go.Proofs.YtldllmhgofacbaaGreatDoor
