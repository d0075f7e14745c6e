/- Package tables: what they do, plainly, and how they lie in memory. -/
import Derived.Test.YtongkiccglaniaaDoorPart
import Derived.Test.YtongkiccglaniaaDoorKLawU
import Derived.Test.YtongkiccglaniaaDoorGetU
import Derived.Test.YtongkiccglaniaaDoorOpen2
import Derived.IntWalk
namespace Go.Proofs.YtongkiccglaniaaDoor
open Go.RowKit
set_option maxRecDepth 100000

/-- A plan with other spans. -/
def Pl.by (p : Pl) (s : List Span) : Pl := ⟨p.code, p.ticks, s, p.wires⟩
/-- The first that is wrong. -/
def tabFirst (p : Pl) : List (List Span) → Int
  | [] => 0
  | s :: l => if planChk (p.by s) ≠ 0 then planChk (p.by s) else tabFirst p l
def tabChk (p : Pl) (ll : List (List Span)) : Int := if 4 < ll.length then 4 else if ll.length = 0 then 5 else tabFirst p ll
structure Tst where
  k : Kst
  now : Nat
  next : Nat
def tNow (p : Pl) (t : Tst) : Nat := if t.k.time % p.ticks = 0 then t.next else t.now
def tTick (p : Pl) (ll : List (List Span)) (t : Tst) : Ev × Tst := ((tickBy p (ll.getD (tNow p t) []) t.k).1, ⟨(tickBy p (ll.getD (tNow p t) []) t.k).2, tNow p t, t.next⟩)
def tNew (p : Pl) : Tst := ⟨kNew p, 0, 0⟩
/-- Tables that are right, for a plan that is. -/
structure TRight (p : Pl) (ll : List (List Span)) : Prop where
  plan : PlOk p
  some : 0 < ll.length
  most : ll.length ≤ 4
  each : ∀ s ∈ ll, PlOk (p.by s)
structure TOk (p : Pl) (ll : List (List Span)) (t : Tst) (B : Int) : Prop where
  k : KOk p t.k B
  now : t.now < ll.length
  next : t.next < ll.length
section
variable {p : Pl} {ll : List (List Span)} {t : Tst} {B : Int}
theorem tab_first : ∀ (ll : List (List Span)), tabFirst p ll = 0 → ∀ s ∈ ll, planChk (p.by s) = 0
  | [], _, s, hs => by simp at hs
  | x :: l, h, s, hs => by
    unfold tabFirst at h
    by_cases hx : planChk (p.by x) ≠ 0
    · rw [if_pos hx] at h; exact absurd h hx
    · rw [if_neg hx] at h
      rcases List.mem_cons.1 hs with rfl | hs
      · exact Decidable.not_not.1 hx
      · exact tab_first l h s hs
theorem tab_first_at : ∀ (ll : List (List Span)) (i : Nat) (s : List Span), ll[i]? = some s → (∀ j x, j < i → ll[j]? = some x → planChk (p.by x) = 0) → planChk (p.by s) ≠ 0 → tabFirst p ll = planChk (p.by s)
  | [], i, s, hi, _, _ => by simp at hi
  | x :: l, 0, s, hi, _, hs => by
    simp at hi; subst hi
    unfold tabFirst
    rw [if_pos hs]
  | x :: l, i + 1, s, hi, hj, hs => by
    unfold tabFirst
    have h0 : planChk (p.by x) = 0 := hj 0 x (by omega) rfl
    rw [if_neg (by simpa using h0)]
    exact tab_first_at l i s (by simpa using hi) (fun j y h1 h2 => hj (j + 1) y (by omega) (by simpa using h2)) hs
theorem tab_first_none : ∀ (ll : List (List Span)), (∀ s ∈ ll, planChk (p.by s) = 0) → tabFirst p ll = 0
  | [], _ => rfl
  | x :: l, h => by
    unfold tabFirst
    rw [if_neg (by simpa using h x (List.mem_cons_self ..))]
    exact tab_first_none l fun s hs => h s (List.mem_cons_of_mem _ hs)
theorem tab_right {s0 : List Span} (h : tabChk p ll = 0) (h0 : ll[0]? = some s0) : TRight (p.by s0) ll := by
  unfold tabChk at h
  by_cases h4 : 4 < ll.length
  · rw [if_pos h4] at h; simp at h
  · rw [if_neg h4] at h
    by_cases h5 : ll.length = 0
    · rw [if_pos h5] at h; simp at h
    · rw [if_neg h5] at h
      have h6 := tab_first ll h
      exact ⟨planChk_ok (h6 s0 (List.mem_of_getElem? h0)), by omega, by omega, fun s hs => planChk_ok (h6 s hs)⟩
theorem tNow_lt (h : TOk p ll t B) : tNow p t < ll.length := by
  unfold tNow
  split
  · exact h.next
  · exact h.now
theorem tab_spans (hr : TRight p ll) {s : List Span} (hs : s ∈ ll) : ∀ y ∈ s, 0 ≤ y.room ∧ y.room < p.code.length := spans_in (hr.each s hs)
theorem tTick_ok (hr : TRight p ll) (h : TOk p ll t B) : TOk p ll (tTick p ll t).2 (B + 1) := by
  have hn := tNow_lt h
  refine ⟨tick_ok hr.plan h.k (tab_spans hr ?_), hn, h.next⟩
  rw [List.getD_eq_getElem?_getD, List.getElem?_eq_getElem hn]
  exact List.getElem_mem hn
theorem tNew_ok (hr : TRight p ll) : TOk p ll (tNew p) 0 := ⟨kNew_ok hr.plan, hr.some, hr.some⟩
end

/-- Spans that lie. -/
structure Tl where
  A : Option Addr
  c : Nat
  l : List Span
def Tl.cells (y : Tl) : List Value := [.slice y.A y.l.length y.c]
theorem Tl.len (y : Tl) : y.cells.length = 1 := rfl
def Tl.At (w : World) (y : Tl) : Prop := Sl w y.A 3 y.l.length (y.l.flatMap Span.cells) ∧ SlW y.A y.c y.l.length ∧ ∀ s ∈ y.l, s.Ok
theorem Tl.At.new {w w' : World} {y : Tl} (h : y.At w) (hb : Below w.heap.size w w') : y.At w' := ⟨h.1.new hb, h.2⟩
section
open Go.ChangeShapes Go.WideShapes Go.ChangeAt
variable {H : Type} {enc : TypeId × Value → H} {w : World} {base : Nat} {spare : Nat → Bool} {held : Bool}
theorem elem_tl (n : Nat) (cs : List Value) (x : DataW H × List MemPlace) (h : DataW.trod enc Tryd.prog w base spare held n 28 cs = some x) : ∃ a : Tl, cs = a.cells ∧ a.At w := by
  obtain ⟨A, c, l, hcs, h1, h2, h3⟩ := open_sl (sz := 3) Span.cells Span.Ok Span.len Tryd.underlying28 (by kernel_rfl) (by decide) elem_span h
  exact ⟨⟨A, c, l⟩, hcs, h1, h2, h3⟩
theorem open_spanss {b0 : Nat} {r : Go.Reach} {v : Value} {d : DataW H} {p : List MemPlace} (hv : Value.okWide Tryd.prog w r b0 91 v) (h : DataW.Trod enc Tryd.prog w base spare held 91 v d p) :
    ∃ (A : Option Addr) (c : Nat) (l : List Tl), v = .slice A l.length c ∧ Sl w A 1 l.length (l.flatMap Tl.cells) ∧ SlW A c l.length ∧ (∀ y ∈ l, y.At w) :=
  open_sl_arg (sz := 1) _ (Tl.At w) (fun _ => rfl) Tryd.underlying91 (by kernel_rfl) (by decide) elem_tl hv h
end

/-- Lists of spans that are only read. -/
def tlsT (ts : List Tl) : Tg := ⟨fun j => ∃ y ∈ ts, 0 < y.l.length ∧ InA y.A j, fun _ => False, fun w => ∀ y ∈ ts, y.At w⟩
theorem tls_lie {w : World} {ts : List Tl} (h : ∀ y ∈ ts, y.At w) : Lie w (tlsT ts) :=
  ⟨h, fun j ⟨y, hy, h0, hj⟩ => (h y hy).1.lt h0 j hj, fun _ h => h.elim, fun _ hs hk y hy => ⟨(h y hy).1.keep0 hs fun b h0 hb hl => hk b hl ⟨y, hy, h0, hb⟩, (h y hy).2⟩⟩
/-- Where tables lie: the kernel's, the list's and the lists'. -/
structure TM where
  K : KM
  A : Option Addr
  c : Nat
  ts : List Tl
def tabObj (kb : Nat) (ticks : Int) (A : Option Addr) (n c now next : Nat) : Obj :=
  .cells #[.pointer (some ⟨kb, 0, none⟩), .int .i64 ticks, .slice A n c, .int .i64 now, .int .i64 next] 156 (0, 0)
def tabL (tb kb : Nat) (p : Pl) (T : TM) (t : Tst) : List Tg :=
  [blkT tb (tabObj kb p.ticks T.A T.ts.length T.c t.now t.next), rowT 28 1 T.A T.ts.length T.c (T.ts.flatMap Tl.cells), tlsT T.ts, kT 152 201 145 kb p T.K t.k]
structure TabAt (w : World) (tb kb : Nat) (p : Pl) (ll : List (List Span)) (T : TM) (t : Tst) : Prop where
  all : Beside w (tabL tb kb p T t)
  lists : T.ts.map Tl.l = ll
def tabT (tb kb : Nat) (p : Pl) (ll : List (List Span)) (T : TM) (t : Tst) : Tg := ⟨(allT (tabL tb kb p T t)).F, (allT (tabL tb kb p T t)).W, fun w => TabAt w tb kb p ll T t⟩
section
variable {w w' : World} {tb kb : Nat} {p : Pl} {ll : List (List Span)} {T : TM} {t : Tst} {B : Int}
theorem TabAt.lie (h : TabAt w tb kb p ll T t) : Lie w (tabT tb kb p ll T t) := ⟨h, h.all.lie.lt, h.all.lie.sub, fun w' hs hk => ⟨h.all.lie.keep w' hs hk, h.lists⟩⟩
theorem TabAt.new (h : TabAt w tb kb p ll T t) (hb : Below w.heap.size w w') : TabAt w' tb kb p ll T t := ⟨h.all.new hb, h.lists⟩
theorem TabAt.obj (h : TabAt w tb kb p ll T t) : w.heap[tb]? = some (tabObj kb p.ticks T.A T.ts.length T.c t.now t.next) := (h.all.get (i := 0) rfl).here
theorem TabAt.kat (h : TabAt w tb kb p ll T t) : KAt 152 201 145 w kb T.K t.k ∧ T.K.P.pl = p := (h.all.get (i := 3) rfl).here
theorem TabAt.many (h : TabAt w tb kb p ll T t) : T.ts.length = ll.length := by rw [← h.lists, List.length_map]
/-- One of the lists. -/
theorem TabAt.item (h : TabAt w tb kb p ll T t) {i : Nat} {s : List Span} (hs : ll[i]? = some s) :
    ∃ (y : Tl) (b off : Nat), y.l = s ∧ T.A = some ⟨b, off, none⟩ ∧ w.cell? ⟨b, off + i, none⟩ = some (.slice y.A y.l.length y.c) ∧ b < w.heap.size ∧ i < T.ts.length ∧ T.ts.length ≤ T.c ∧ T.c ≤ maxLen ∧ y.At w := by
  have h1 := h.lists
  rw [← h1, List.getElem?_map] at hs
  cases hy : T.ts[i]? with
  | none => rw [hy] at hs; simp at hs
  | some y =>
    rw [hy] at hs
    simp at hs
    have hi := (List.getElem?_eq_some_iff.1 hy).1
    have hrow : Row w 28 1 T.A T.ts.length T.c (T.ts.flatMap Tl.cells) := (h.all.get (i := 1) rfl).here
    have hts : ∀ y ∈ T.ts, y.At w := (h.all.get (i := 2) rfl).here
    obtain ⟨b, off, hA, hb, hg⟩ := hrow.sl.2 (by omega)
    have hc := flatMap_get Tl.cells 1 Tl.len T.ts i 0 y hy (by decide)
    rw [Nat.mul_one, Nat.add_zero] at hc
    exact ⟨y, b, off, hs, hA, hg i _ (hc.trans rfl), hb, hi, hrow.le.1, hrow.le.2, hts y (List.mem_of_getElem? hy)⟩

theorem tnow_any (h : TabAt w tb kb p ll T t) (hr : TRight p ll) (hk : TOk p ll t B) (_hB : B < 4611686018427387904) :
    Calls Tryd.prog 39 #[.pointer (some ⟨tb, 0, none⟩)] w fun e w' => e = .returned (.int .i64 (tNow p t)) ∧ Below w.heap.size w w' := by
  have ht := frameChk_ticks hr.plan.frame
  have ht0 := hk.k.time0
  have htB := hk.k.timeB
  have hq : Int.tmod t.k.time p.ticks = t.k.time % p.ticks := Int.tmod_eq_emod_of_nonneg ht0
  have hq0 : 0 ≤ t.k.time % p.ticks := Int.emod_nonneg _ (by omega)
  have hq1 : t.k.time % p.ticks < p.ticks := Int.emod_lt_of_pos _ (by omega)
  have HTIM : Hid (∀ e, Calls Tryd.prog 80 #[.pointer (some ⟨kb, 0, none⟩)] (w.drewN e) fun ev w' => ev = .returned (.int .i64 t.k.time) ∧ ∃ m, w' = w.drewN m) := fun e =>
    (ktime_any ((h.new (show Below w.heap.size w (w.drewN e) from ⟨rfl, rfl, rfl, Nat.le_refl _, fun _ _ => rfl⟩)).kat.1)).mono fun ev w' h => ⟨h.1, e, h.2.symm⟩
  have hobj := h.obj
  unfold tabObj at hobj
  obtain ⟨R, hR⟩ : ∃ R : Nat, tNow p t = R := ⟨_, rfl⟩
  have hR' := hR
  unfold tNow at hR'
  rw [hR]
  have x0 := blk_cell hobj 0
  have x1 := blk_cell hobj 1
  have x3 := blk_cell hobj 3
  have x4 := blk_cell hobj 4
  have hlt := blk_lt hobj
  simp at x0 x1 x3 x4
  generalize t.k.time % p.ticks = M at hq hq0 hq1 hR'
  generalize t.k.time = tm at HTIM hq
  generalize p.ticks = tk at x1 ht hq hq1
  have htk0 : ¬ tk = 0 := by omega
  have hwr : IntKind.i64.wrap M = M := IntWalk.i64_in _ (by omega)
  clear hobj h hr hk ht0 htB hR
  go_enter Tryd.func39, Tryd.ntmps39
  go_wp2_with fail
  by_cases hM : M = 0
  · rw [if_pos hM] at hR'
    subst hR'
    have hd : (M == 0) = true := by simpa using hM
    go_quiet ((go_at_call 80; exact HTIM.out _))
    go_wp2_with fail
    go_ret
    exact ⟨rfl, ⟨rfl, rfl, rfl, Nat.le_refl _, fun _ _ => rfl⟩⟩
  · rw [if_neg hM] at hR'
    subst hR'
    have hd : (M == 0) = false := by simpa using hM
    go_quiet ((go_at_call 80; exact HTIM.out _))
    go_wp2_with fail
    go_ret
    exact ⟨rfl, ⟨rfl, rfl, rfl, Nat.le_refl _, fun _ _ => rfl⟩⟩
end
end Go.Proofs.YtongkiccglaniaaDoor
