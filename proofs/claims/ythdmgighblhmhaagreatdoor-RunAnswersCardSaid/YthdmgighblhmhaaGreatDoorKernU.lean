/- Several parts: each begins with what it says. -/
import Derived.Test.YthdmgighblhmhaaGreatDoorOpen2
import Derived.Test.YthdmgighblhmhaaGreatDoorKLawU
import Derived.Test.YthdmgighblhmhaaGreatDoorDoU
import Derived.Test.YthdmgighblhmhaaGreatDoorBaseU
/- Where a plan lies in memory, and what keeps it. -/
namespace Go.Proofs.YthdmgighblhmhaaGreatDoor
open Go.RowKit
set_option maxRecDepth 100000

theorem Sl.keep0 {w w' : World} {A : Option Addr} {sz n : Nat} {xs : List Value} (h : Sl w A sz n xs) (hs : w.heap.size ≤ w'.heap.size)
    (hk : ∀ b, 0 < n → InA A b → b < w.heap.size → w'.heap[b]? = w.heap[b]?) : Sl w' A sz n xs := by
  by_cases hn : 0 < n
  · exact h.keep hs fun b hb hl => hk b hn hb hl
  · exact ⟨h.1, fun h0 => absurd h0 hn⟩
theorem Sl.lt {w : World} {A : Option Addr} {sz n : Nat} {xs : List Value} (h : Sl w A sz n xs) (hn : 0 < n) : ∀ j, InA A j → j < w.heap.size := by
  obtain ⟨b, off, rfl, hb, _⟩ := h.2 hn
  intro j hj
  simp [InA] at hj
  omega

/-- Where a plan lies. -/
def planF (P : PM) (j : Nat) : Prop := (0 < P.ros.length ∧ InA P.A j) ∨ (∃ r ∈ P.ros, 0 < r.ops.length ∧ InA r.A j) ∨ (0 < P.spans.length ∧ InA P.sA j) ∨ (0 < P.wires.length ∧ InA P.wA j)
theorem PlanAt.keep {w w' : World} {m : PM} (h : PlanAt w m) (hs : w.heap.size ≤ w'.heap.size) (hk : ∀ j, j < w.heap.size → planF m j → w'.heap[j]? = w.heap[j]?) : PlanAt w' m :=
  ⟨h.rows.keep0 hs fun b h0 hb hl => hk b hl (.inl ⟨h0, hb⟩), h.rowsW, fun r hr => ⟨(h.codes r hr).1.keep0 hs fun b h0 hb hl => hk b hl (.inr (.inl ⟨r, hr, h0, hb⟩)), (h.codes r hr).2⟩, h.fits,
    h.spans.keep0 hs fun b h0 hb hl => hk b hl (.inr (.inr (.inl ⟨h0, hb⟩))), h.spansW, h.spansOk, h.wires.keep0 hs fun b h0 hb hl => hk b hl (.inr (.inr (.inr ⟨h0, hb⟩))), h.wiresW, h.wiresOk⟩
theorem PlanAt.lt {w : World} {m : PM} (h : PlanAt w m) : ∀ j, planF m j → j < w.heap.size := by
  rintro j (⟨h0, hj⟩ | ⟨r, hr, h0, hj⟩ | ⟨h0, hj⟩ | ⟨h0, hj⟩)
  · exact h.rows.lt h0 j hj
  · exact (h.codes r hr).1.lt h0 j hj
  · exact h.spans.lt h0 j hj
  · exact h.wires.lt h0 j hj


theorem Row.slW {w : World} {e sz n cap : Nat} {A : Option Addr} {xs : List Value} (h : Row w e sz A n cap xs) : SlW A cap n := by
  rcases h.2 with ⟨rfl, rfl, rfl⟩ | ⟨b, off, cur, rfl, hh, h1, h2, h3, h4⟩
  · exact ⟨Nat.le_refl _, Nat.zero_le _, fun _ => ⟨rfl, rfl⟩⟩
  · exact ⟨h1, h2, fun h => by cases h⟩
end Go.Proofs.YthdmgighblhmhaaGreatDoor

/- A kernel as it lies in memory, the program's and the reference's alike: its own block, its rooms, its lines, its plan; and how each part is changed. -/
namespace Go.Proofs.YthdmgighblhmhaaGreatDoor
open Go.RowKit
set_option maxRecDepth 100000

/-- A line at its block, of either type. -/
def LnAt (T : Nat) (w : World) (b : Nat) (A : Option Addr) (x : Ln) : Prop :=
  ∃ cap, w.heap[b]? = some (.cells #[.int .i64 x.w.fr, .int .i64 x.w.to, .int .i64 x.w.kind, .int .i64 x.w.deep, .slice A x.items.length cap, .int .i64 x.lost] T (0, 0)) ∧
    Row w 3 1 A x.items.length cap (ints x.items)
theorem LnAt.keep {T : Nat} {w w' : World} {b : Nat} {A : Option Addr} {x : Ln} (h : LnAt T w b A x) (hk : ∀ k, LF b A k → k < w.heap.size → w'.heap[k]? = w.heap[k]?) : LnAt T w' b A x := by
  obtain ⟨cap, h1, h2⟩ := h
  exact ⟨cap, (hk b (.inl rfl) (blk_lt h1)).trans h1, h2.keep fun k hi hl => hk k (.inr hi) hl⟩
theorem LnAt.lt {T : Nat} {w : World} {b : Nat} {A : Option Addr} {x : Ln} (h : LnAt T w b A x) : ∀ k, LF b A k → k < w.heap.size := by
  obtain ⟨cap, h1, h2⟩ := h
  rintro k (rfl | hk)
  · exact blk_lt h1
  · exact h2.lt k hk

/-- A line's places. -/
structure LM where
  b : Nat
  A : Option Addr
/-- A kernel's places. -/
structure KM where
  P : PM
  rA : Option Addr
  rc : Nat
  lA : Option Addr
  lc : Nat
  ls : List LM
def ptrV (a : LM) : Value := .pointer (some ⟨a.b, 0, none⟩)
def KF (kb : Nat) (M : KM) (j : Nat) : Prop := j = kb ∨ InA M.rA j ∨ ∃ a ∈ M.ls, LF a.b a.A j
def TF (kb : Nat) (M : KM) (j : Nat) : Prop := KF kb M j ∨ InA M.lA j ∨ planF M.P j
/-- Whose a block is: no two parts of a kernel share one. -/
def Owns (kb : Nat) (M : KM) (own : Nat → Nat) : Prop := own kb = 0 ∧ (∀ j, InA M.rA j → own j = 1) ∧ (∀ j, InA M.lA j → own j = 2) ∧ (∀ j, planF M.P j → own j = 3) ∧ ∀ i a, M.ls[i]? = some a → ∀ j, LF a.b a.A j → own j = 4 + i
structure KAt (TK TL TP : Nat) (w : World) (kb : Nat) (M : KM) (k : Kst) : Prop where
  blk : w.heap[kb]? = some (.cells #[.slice M.P.A M.P.ros.length M.P.c, .int .i64 M.P.ticks, .slice M.P.sA M.P.spans.length M.P.sc, .slice M.P.wA M.P.wires.length M.P.wc, .slice M.rA k.rooms.length M.rc, .slice M.lA k.lines.length M.lc, .int .i64 k.time] TK (0, 0))
  plan : PlanAt w M.P
  rooms : Row w 81 8 M.rA k.rooms.length M.rc (k.rooms.flatMap St.cells)
  ptrs : Row w TP 1 M.lA k.lines.length M.lc (M.ls.map ptrV)
  many : M.ls.length = k.lines.length
  lines : ∀ (i : Nat) (x : Ln) (a : LM), k.lines[i]? = some x → M.ls[i]? = some a → LnAt TL w a.b a.A x
  own : ∃ own, Owns kb M own

section
variable {TK TL TP kb : Nat} {w w' : World} {M : KM} {k : Kst}
theorem KAt.lt (h : KAt TK TL TP w kb M k) : ∀ j, TF kb M j → j < w.heap.size := by
  rintro j ((rfl | hj | ⟨a, ha, hj⟩) | hj | hj)
  · exact blk_lt h.blk
  · exact h.rooms.lt j hj
  · obtain ⟨i, hi⟩ := List.mem_iff_getElem?.1 ha
    have hil := (List.getElem?_eq_some_iff.1 hi).1
    exact (h.lines i _ a (List.getElem?_eq_getElem (by rw [← h.many]; exact hil)) hi).lt j hj
  · exact h.ptrs.lt j hj
  · exact h.plan.lt j hj
theorem KAt.keep (h : KAt TK TL TP w kb M k) (hs : w.heap.size ≤ w'.heap.size) (hk : ∀ j, j < w.heap.size → TF kb M j → w'.heap[j]? = w.heap[j]?) : KAt TK TL TP w' kb M k :=
  { blk := (hk kb (blk_lt h.blk) (.inl (.inl rfl))).trans h.blk
    plan := h.plan.keep hs fun j hl hj => hk j hl (.inr (.inr hj))
    rooms := h.rooms.keep fun j hj hl => hk j hl (.inl (.inr (.inl hj)))
    ptrs := h.ptrs.keep fun j hj hl => hk j hl (.inr (.inl hj))
    many := h.many
    lines := fun i x a hx ha => (h.lines i x a hx ha).keep fun j hj hl => hk j hl (.inl (.inr (.inr ⟨a, List.mem_of_getElem? ha, hj⟩)))
    own := h.own }
theorem KAt.new (h : KAt TK TL TP w kb M k) (hb : Below w.heap.size w w') : KAt TK TL TP w' kb M k := h.keep hb.size fun j hl _ => hb.block j hl
theorem KAt.through {F : Nat → Prop} (h : KAt TK TL TP w kb M k) (hk : Keep F w w') (hF : ∀ j, TF kb M j → ¬ F j) : KAt TK TL TP w' kb M k := h.keep hk.size fun j hl hj => hk.block j hl (hF j hj)

/-- The time is set. -/
theorem KAt.atTime (h : KAt TK TL TP w kb M k) (t : Int) : KAt TK TL TP (w.setCell ⟨kb, 6, none⟩ (.int .i64 t)) kb M ⟨k.rooms, k.lines, t⟩ := by
  obtain ⟨own, o0, o1, o2, o3, o4⟩ := h.own
  have far : ∀ j, own j ≠ 0 → (w.setCell ⟨kb, 6, none⟩ (.int .i64 t)).heap[j]? = w.heap[j]? := fun j hj => by
    rw [hp_set, if_neg (by rintro rfl; exact hj o0)]
  exact { blk := by rw [hp_set, if_pos rfl, h.blk]; rfl
          plan := h.plan.keep (by rw [sz_set]; exact Nat.le_refl _) fun j _ hj => far j (by rw [o3 j hj]; decide)
          rooms := h.rooms.keep fun j hj _ => far j (by rw [o1 j hj]; decide)
          ptrs := h.ptrs.keep fun j hj _ => far j (by rw [o2 j hj]; decide)
          many := h.many
          lines := fun i x a hx ha => (h.lines i x a hx ha).keep fun j hj _ => far j (by rw [o4 i a ha j hj]; omega)
          own := h.own }

/-- A room is put. -/
theorem KAt.putRoom (h : KAt TK TL TP w kb M k) {r rb roff : Nat} (hA : M.rA = some ⟨rb, roff, none⟩) {s : St} (hr : k.rooms[r]? = some s) (t : St) :
    KAt TK TL TP (w.setCells rb (roff + r * 8) t.cells) kb M ⟨k.rooms.set r t, k.lines, k.time⟩ := by
  obtain ⟨own, o0, o1, o2, o3, o4⟩ := h.own
  have orb : own rb = 1 := o1 rb (by rw [hA]; rfl)
  have far : ∀ j, own j ≠ 1 → (w.setCells rb (roff + r * 8) t.cells).heap[j]? = w.heap[j]? := fun j hj => setCells_far rb _ _ w j (by rintro rfl; exact hj orb)
  obtain ⟨b, off, cur, hA2, hh, hsz, hi, hnc, hcm, hx⟩ := h.rooms.elem St.cells St.len (by decide) hr
  rw [hA] at hA2
  cases hA2
  have h8 : (r + 1) * 8 ≤ M.rc * 8 := Nat.mul_le_mul_right _ (by omega)
  obtain ⟨cur', s1, s2, s3, s4⟩ := setCells_heap (e := 81) rb t.cells (roff + r * 8) w cur hh (by rw [St.len]; omega)
  have hrow : Row (w.setCells rb (roff + r * 8) t.cells) 81 8 M.rA k.rooms.length M.rc ((k.rooms.set r t).flatMap St.cells) := by
    refine h.rooms.put St.cells St.len (by decide) (i := r) hA t cur cur' hh s1 s2 (fun j hj => ?_) (fun j u hu => s4 j u hu)
    rcases hj with hj | hj
    · exact s3 j hj
    · exact setCells_above (e := 81) rb t.cells (roff + r * 8) w cur hh cur' s1 j (by rw [St.len]; exact hj)
  exact { blk := by rw [far kb (by rw [o0]; decide), h.blk, List.length_set]
          plan := h.plan.keep (by rw [(setCells_rest rb _ _ w).2.2.2]; exact Nat.le_refl _) fun j _ hj => far j (by rw [o3 j hj]; decide)
          rooms := by rw [List.length_set]; exact hrow
          ptrs := h.ptrs.keep fun j hj _ => far j (by rw [o2 j hj]; decide)
          many := h.many
          lines := fun i x a hx ha => (h.lines i x a hx ha).keep fun j hj _ => far j (by rw [o4 i a ha j hj]; omega)
          own := h.own }

/-- A state stored at an offset, cell by cell. -/
def putAt (w : World) (b o : Nat) (t : St) : World :=
  (((((((w.setCell ⟨b, o, none⟩ (.int .i64 t.pc)).setCell ⟨b, o + 1, none⟩ (.int .i64 t.c0)).setCell ⟨b, o + 2, none⟩ (.int .i64 t.c1)).setCell ⟨b, o + 3, none⟩ (.int .i64 t.c2)).setCell ⟨b, o + 4, none⟩ (.int .i64 t.c3)).setCell ⟨b, o + 5, none⟩ (.int .i64 t.c4)).setCell ⟨b, o + 6, none⟩ (.int .i64 t.c5)).setCell ⟨b, o + 7, none⟩ (.bool t.failed)
theorem putAt_eq (w : World) (b o : Nat) (t : St) : putAt w b o t = w.setCells b o t.cells := rfl
theorem putAt_far (w : World) (b o : Nat) (t : St) (k : Nat) (h : k ≠ b) : (putAt w b o t).heap[k]? = w.heap[k]? := by rw [putAt_eq]; exact setCells_far b _ _ w k h
theorem putAt_keep (w : World) (b o : Nat) (t : St) : Keep (fun k => k = b) w (putAt w b o t) := by
  rw [putAt_eq]
  have := setCells_rest b t.cells o w
  exact ⟨this.1, this.2.1, this.2.2.1, by rw [this.2.2.2]; exact Nat.le_refl _, fun k _ hk => setCells_far b _ _ w k hk⟩
theorem KAt.putRoomAt (h : KAt TK TL TP w kb M k) {r rb roff o : Nat} (hA : M.rA = some ⟨rb, roff, none⟩) (ho : o = roff + r * 8) {s : St} (hr : k.rooms[r]? = some s) (t : St) : KAt TK TL TP (putAt w rb o t) kb M ⟨k.rooms.set r t, k.lines, k.time⟩ := by
  subst ho; rw [putAt_eq]; exact h.putRoom hA hr t
def KM.setLine (M : KM) (i : Nat) (a : LM) : KM := ⟨M.P, M.rA, M.rc, M.lA, M.lc, M.ls.set i a⟩
/-- A line is put. -/
theorem KAt.putLine (h : KAt TK TL TP w kb M k) {i : Nat} {x y : Ln} {a : LM} {A' : Option Addr} (hx : k.lines[i]? = some x) (ha : M.ls[i]? = some a) (hl : LnAt TL w' a.b A' y) (hk : Keep (LF a.b a.A) w w') (hn : ∀ j, InA A' j → InA a.A j ∨ w.heap.size ≤ j) :
    KAt TK TL TP w' kb (M.setLine i ⟨a.b, A'⟩) ⟨k.rooms, k.lines.set i y, k.time⟩ := by
  obtain ⟨own, o0, o1, o2, o3, o4⟩ := h.own
  have hlt := h.lt
  have far : ∀ j, j < w.heap.size → own j ≠ 4 + i → w'.heap[j]? = w.heap[j]? := fun j hj ho => hk.block j hj fun hf => ho (o4 i a ha j hf)
  have hil := (List.getElem?_eq_some_iff.1 ha).1
  have hik := (List.getElem?_eq_some_iff.1 hx).1
  have hsame : (M.ls.set i ⟨a.b, A'⟩).map ptrV = M.ls.map ptrV := set_map ptrV M.ls i a ⟨a.b, A'⟩ ha rfl
  exact { blk := by rw [far kb (blk_lt h.blk) (by rw [o0]; omega), h.blk, List.length_set]; rfl
          plan := h.plan.keep hk.size fun j hj hp => far j hj (by rw [o3 j hp]; omega)
          rooms := h.rooms.keep fun j hj hl => far j hl (by rw [o1 j hj]; omega)
          ptrs := by
            rw [List.length_set]
            show Row w' TP 1 M.lA k.lines.length M.lc ((M.ls.set i ⟨a.b, A'⟩).map ptrV)
            rw [hsame]
            exact h.ptrs.keep fun j hj hl => far j hl (by rw [o2 j hj]; omega)
          many := by show (M.ls.set i _).length = _; rw [List.length_set, List.length_set]; exact h.many
          lines := fun i' x' a' hx' ha' => by
            have ha'' : (M.ls.set i ⟨a.b, A'⟩)[i']? = some a' := ha'
            by_cases e : i = i'
            · subst e
              rw [List.getElem?_set_self hik] at hx'
              rw [List.getElem?_set_self hil] at ha''
              cases hx'; cases ha''; exact hl
            · rw [List.getElem?_set_ne e] at hx' ha''
              exact (h.lines i' x' a' hx' ha'').keep fun j hj hl => far j hl (by rw [o4 i' a' ha'' j hj]; omega)
          own := by
            refine ⟨fun j => if w.heap.size ≤ j then 4 + i else own j, ?_, fun j hj => ?_, fun j hj => ?_, fun j hj => ?_, fun i' a' ha' j hj => ?_⟩
            · dsimp only; rw [if_neg (by have := blk_lt h.blk; omega)]; exact o0
            · dsimp only; rw [if_neg (by have := hlt j (.inl (.inr (.inl hj))); omega)]; exact o1 j hj
            · dsimp only; rw [if_neg (by have := hlt j (.inr (.inl hj)); omega)]; exact o2 j hj
            · dsimp only; rw [if_neg (by have := hlt j (.inr (.inr hj)); omega)]; exact o3 j hj
            · have ha'' : (M.ls.set i ⟨a.b, A'⟩)[i']? = some a' := ha'
              by_cases e : i = i'
              · subst e
                rw [List.getElem?_set_self hil] at ha''
                cases ha''
                dsimp only
                split
                · rfl
                · rename_i hlt'
                  refine o4 i a ha j ?_
                  rcases hj with hj | hj
                  · exact .inl hj
                  · rcases hn j hj with h1 | h1
                    · exact .inr h1
                    · exact absurd h1 hlt'
              · rw [List.getElem?_set_ne e] at ha''
                dsimp only
                have hm : TF kb M j := .inl (.inr (.inr ⟨a', List.mem_of_getElem? ha'', hj⟩))
                rw [if_neg (by have := hlt j hm; omega)]
                exact o4 i' a' ha'' j hj }
theorem KF_line {i : Nat} {a : LM} {A' : Option Addr} {S : Nat} (ha : M.ls[i]? = some a) (hn : ∀ j, InA A' j → InA a.A j ∨ S ≤ j) : ∀ j, KF kb (M.setLine i ⟨a.b, A'⟩) j → KF kb M j ∨ S ≤ j := by
  rintro j (hj | hj | ⟨a', ha', hj⟩)
  · exact .inl (.inl hj)
  · exact .inl (.inr (.inl hj))
  · rcases List.mem_or_eq_of_mem_set ha' with h | rfl
    · exact .inl (.inr (.inr ⟨a', h, hj⟩))
    · rcases hj with hj | hj
      · exact .inl (.inr (.inr ⟨a, List.mem_of_getElem? ha, .inl hj⟩))
      · rcases hn j hj with h | h
        · exact .inl (.inr (.inr ⟨a, List.mem_of_getElem? ha, .inr h⟩))
        · exact .inr h
end
end Go.Proofs.YthdmgighblhmhaaGreatDoor

/- A kernel as it is made: rooms at their beginning, then line by line. -/
namespace Go.Proofs.YthdmgighblhmhaaGreatDoor
open Go.RowKit
set_option maxRecDepth 100000

theorem kAt_start {TK TL TP : Nat} {w : World} {kb rb n : Nat} {P : PM}
    (hblk : w.heap[kb]? = some (.cells #[.slice P.A P.ros.length P.c, .int .i64 P.ticks, .slice P.sA P.spans.length P.sc, .slice P.wA P.wires.length P.wc, .slice (some ⟨rb, 0, none⟩) n n, .slice none 0 0, .int .i64 0] TK (0, 0)))
    (hp : PlanAt w P) (hr : Row w 81 8 (some ⟨rb, 0, none⟩) n n ((List.replicate n St.zero).flatMap St.cells)) (h1 : rb ≠ kb) (h2 : ∀ j, planF P j → j ≠ kb ∧ j ≠ rb) :
    KAt TK TL TP w kb ⟨P, some ⟨rb, 0, none⟩, n, none, 0, []⟩ ⟨List.replicate n St.zero, [], 0⟩ :=
  { blk := by simpa using hblk
    plan := hp
    rooms := by simpa using hr
    ptrs := Row.nil _ _ _
    many := rfl
    lines := fun i x a hx _ => by simp at hx
    own := by
      refine ⟨fun j => if j = kb then 0 else if j = rb then 1 else 3, by simp, fun j hj => ?_, fun j hj => by simp [InA] at hj, fun j hj => ?_, fun i a ha => by simp at ha⟩
      · simp [InA] at hj
        subst hj
        dsimp only
        rw [if_neg h1, if_pos rfl]
      · have := h2 j hj
        dsimp only
        rw [if_neg this.1, if_neg this.2] }

section
variable {TK TL TP kb : Nat} {w w1 w2 : World} {M : KM} {k : Kst}
/-- One line more. -/
theorem KAt.addLine (h : KAt TK TL TP w kb M k) (_hne : TL ≠ TP) {lb : Nat} {x : Wire} (hl : LnAt TL w1 lb none ⟨x, [], 0⟩) (hlb : w.heap.size ≤ lb) (hb : Below w.heap.size w w1)
    {o : Obj} {lA : Option Addr} {lc : Nat} (hrow : Row w2 TP 1 lA (k.lines.length + 1) lc (M.ls.map ptrV ++ [.pointer (some ⟨lb, 0, none⟩)])) (hk : Keep (InA M.lA) (w1.alloc o) w2) (hn : ∀ j, InA lA j → InA M.lA j ∨ (w1.alloc o).heap.size ≤ j) :
    KAt TK TL TP (w2.setCell ⟨kb, 5, none⟩ (.slice lA (k.lines.length + 1) lc)) kb ⟨M.P, M.rA, M.rc, lA, lc, M.ls ++ [⟨lb, none⟩]⟩ ⟨k.rooms, k.lines ++ [⟨x, [], 0⟩], k.time⟩ := by
  obtain ⟨own, o0, o1, o2, o3, o4⟩ := h.own
  have hlt := h.lt
  have hs1 := hb.size
  have hlbl : lb < w1.heap.size := hl.lt lb (.inl rfl)
  have hsa : (w1.alloc o).heap.size = w1.heap.size + 1 := sz_alloc _ _
  have hs2 := hk.size
  have old : ∀ j, j < w.heap.size → own j ≠ 2 → w2.heap[j]? = w.heap[j]? := fun j hj ho => by
    rw [hk.block j (by omega) (fun hj' => ho (o2 j hj')), blk_alloc (by omega), hb.block j hj]
  have far : ∀ j, j ≠ kb → (w2.setCell ⟨kb, 5, none⟩ (.slice lA (k.lines.length + 1) lc)).heap[j]? = w2.heap[j]? := fun j hj => blk_far (p := ⟨kb, 5, none⟩) hj _
  have hkb := blk_lt h.blk
  have both : ∀ j, j < w.heap.size → own j ≠ 2 → own j ≠ 0 → (w2.setCell ⟨kb, 5, none⟩ (.slice lA (k.lines.length + 1) lc)).heap[j]? = w.heap[j]? := fun j hj ho h0 =>
    (far j (by rintro rfl; exact h0 o0)).trans (old j hj ho)
  have hnotA : ¬ InA lA kb := fun hj => by
    rcases hn kb hj with h1 | h1
    · have := o2 kb h1; rw [o0] at this; cases this
    · omega
  have hnl : ¬ InA M.lA lb := fun hj => by have := hlt lb (.inr (.inl hj)); omega
  exact { blk := by
            rw [hp_set, if_pos rfl, old kb hkb (by rw [o0]; decide), h.blk]
            simp [setObj]
          plan := h.plan.keep (by rw [sz_set]; omega) fun j hj hp => both j hj (by rw [o3 j hp]; decide) (by rw [o3 j hp]; decide)
          rooms := h.rooms.keep fun j hj hl => both j hl (by rw [o1 j hj]; decide) (by rw [o1 j hj]; decide)
          ptrs := by
            have : Row w2 TP 1 lA (k.lines ++ [(⟨x, [], 0⟩ : Ln)]).length lc ((M.ls ++ [(⟨lb, none⟩ : LM)]).map ptrV) := by
              rw [List.length_append, List.map_append]; exact hrow
            exact this.setCell (p := ⟨kb, 5, none⟩) hnotA _
          many := by simp [h.many]
          lines := fun i y a hy ha => by
            by_cases hi : i < k.lines.length
            · rw [List.getElem?_append_left hi] at hy
              rw [List.getElem?_append_left (by rw [h.many]; exact hi)] at ha
              refine (h.lines i y a hy ha).keep fun j hj hl => both j hl ?_ ?_ <;> rw [o4 i a ha j hj] <;> omega
            · rw [List.getElem?_append_right (by omega)] at hy
              rw [List.getElem?_append_right (by rw [h.many]; omega), h.many] at ha
              have hz : i - k.lines.length = 0 := by
                have := (List.getElem?_eq_some_iff.1 hy).1
                simp at this; omega
              rw [hz] at hy ha
              simp at hy ha
              subst hy ha
              refine (hl.keep (w' := w2) fun j hj hl' => ?_).keep fun j hj _ => far j ?_
              · rcases hj with rfl | hj
                · rw [hk.block j (by omega) hnl, blk_alloc hl']
                · simp [InA] at hj
              · rcases hj with rfl | hj
                · omega
                · simp [InA] at hj
          own := by
            refine ⟨fun j => if j < w.heap.size then own j else if j = lb then 4 + M.ls.length else 2, ?_, fun j hj => ?_, fun j hj => ?_, fun j hj => ?_, fun i a ha j hj => ?_⟩
            · dsimp only; rw [if_pos hkb]; exact o0
            · dsimp only; rw [if_pos (hlt j (.inl (.inr (.inl hj))))]; exact o1 j hj
            · rcases hn j hj with h1 | h1
              · dsimp only; rw [if_pos (hlt j (.inr (.inl h1)))]; exact o2 j h1
              · dsimp only; rw [if_neg (by omega), if_neg (by omega)]
            · dsimp only; rw [if_pos (hlt j (.inr (.inr hj)))]; exact o3 j hj
            · by_cases hi : i < M.ls.length
              · rw [List.getElem?_append_left hi] at ha
                dsimp only
                rw [if_pos (hlt j (.inl (.inr (.inr ⟨a, List.mem_of_getElem? ha, hj⟩))))]
                exact o4 i a ha j hj
              · rw [List.getElem?_append_right (by omega)] at ha
                have hz : i - M.ls.length = 0 := by
                  have := (List.getElem?_eq_some_iff.1 ha).1
                  simp at this; omega
                rw [hz] at ha
                simp at ha
                subst ha
                rcases hj with rfl | hj
                · dsimp only; rw [if_neg (by omega), if_pos rfl]; omega
                · simp [InA] at hj }
theorem TF_add {lA : Option Addr} {lc lb S : Nat} (hn : ∀ j, InA lA j → InA M.lA j ∨ S ≤ j) (hlb : S ≤ lb) : ∀ j, TF kb ⟨M.P, M.rA, M.rc, lA, lc, M.ls ++ [⟨lb, none⟩]⟩ j → TF kb M j ∨ S ≤ j := by
  rintro j ((rfl | hj | ⟨a, ha, hj⟩) | hj | hj)
  · exact .inl (.inl (.inl rfl))
  · exact .inl (.inl (.inr (.inl hj)))
  · rcases List.mem_append.1 ha with ha | ha
    · exact .inl (.inl (.inr (.inr ⟨a, ha, hj⟩)))
    · simp at ha
      subst ha
      rcases hj with rfl | hj
      · exact .inr hlb
      · simp [InA] at hj
  · rcases hn j hj with h1 | h1
    · exact .inl (.inr (.inl h1))
    · exact .inr h1
  · exact .inl (.inr (.inr hj))
end
end Go.Proofs.YthdmgighblhmhaaGreatDoor
