/- Package tables: the contract of New, for any plan and any lists of spans that a machine holds. -/
import Derived.Test.YtongkiccglaniaaDoorTabTick
import Derived.Test.YtongkiccglaniaaDoorOwnU
import Derived.Test.YtongkiccglaniaaDoorRunU
import Derived.Test.YtongkiccglaniaaDoorRNew
import Derived.IntWalk
namespace Go.Proofs.YtongkiccglaniaaDoor
open Go.RowKit
set_option maxRecDepth 100000

theorem clone_SpanW (w : World) (A : Option Addr) (n c : Nat) (xs : List Value) (hone : ∀ u ∈ xs, u.oneCell' = true) (hn : n ≤ 5864062014634) (hA : A = none → n = 0) (hs : Sl w A 3 n xs) :
    Calls Tryd.prog 79 #[.slice A n c] w (Cloned w 68 3 n xs) := by
  have hnil := fun (w : World) a n c => Lib.run_eql_slice_nil (P := Tryd.prog) w 28 68 a n c 0 0 Tryd.underlying28
  cases A with
  | none =>
    obtain rfl := hA rfl
    have hl : xs = [] := List.eq_nil_of_length_eq_zero (by simpa using hs.1)
    rw [hl]
    clear hl hs hA
    go_enter Tryd.func79, Tryd.ntmps79
    go_wp2
    go_ret
    exact ⟨none, 0, rfl, Row.nil _ _ _, fun k hk => by simp [InA] at hk, Below.refl _ _⟩
  | some a =>
    clear hA
    have HS := hid hs
    clear hs
    obtain ⟨i0, hi, hz0, hz1, hz2⟩ := info_parts Tryd.infoClSpan
    go_enter Tryd.func79, Tryd.ntmps79
    go_wp2_with (at_builtin; refine wpList_append_row _ rfl _ _ 28 rfl 68 i0 (.agg #[.int .i64 0, .int .i64 0, .int .i64 0]) 3 24 Tryd.underlying28 hi hz0 hz1 hz2 rfl (by decide) (some ⟨w.heap.size, 0, none⟩) 0 0 [] rfl ?c0 (some a) n c xs rfl ?c1 ?c2 ?c3 ?c4 ?_)
    case c0 => exact ⟨rfl, .inr ⟨_, 0, _, rfl, heap_alloc_new w _, Nat.le_refl _, by simp, by simp, fun j u hu => by simp at hu⟩⟩
    case c1 => exact HS.out.new ((Below.refl _ _).alloc (Nat.le_refl _) _)
    case c2 => exact hone
    case c3 => unfold maxLen; omega
    case c4 => omega
    intro A' cap' w' hrow' hkeep' hin'
    have HR' := hid hrow'
    have HK' := hid hkeep'
    have HI' := hid hin'
    clear hrow' hkeep' hin'
    go_wp2
    go_ret
    have hrow' := HR'.out
    have hrow' : Row w' 68 3 A' n cap' xs := by simpa using hrow'
    refine ⟨A', cap', rfl, hrow', fun k hk => ?_, ?_⟩
    · rcases HI'.out k hk with h | h
      · simp [InA] at h; omega
      · omega
    · have hk := (((Keep.refl NoF w).alloc _).trans HK'.out)
      exact ⟨hk.os, hk.tape, hk.output, hk.size, fun k hk' => hk.block k hk' (by
        rintro (h | h)
        · exact h
        · simp [InA] at h; omega)⟩
theorem Tryd.infoTab : (Tryd.prog.info? 28).map (fun i => (i.zero, i.size, i.bytes)) = some (some (.slice none 0 0), 1, 24) := by kernel_rfl

/-- The plan with other spans, as it lies. -/
def PM.by (m : PM) (A : Option Addr) (c : Nat) (s : List Span) : PM := ⟨m.A, m.c, m.ros, m.ticks, A, c, s, m.wA, m.wc, m.wires⟩
theorem PM.by_pl (m : PM) (A : Option Addr) (c : Nat) (s : List Span) : (m.by A c s).pl = m.pl.by s := rfl
theorem PlanAt.by {w : World} {m : PM} (h : PlanAt w m) {A : Option Addr} {c : Nat} {s : List Span} (hs : Sl w A 3 s.length (s.flatMap Span.cells)) (hw : SlW A c s.length) (ho : ∀ y ∈ s, y.Ok) : PlanAt w (m.by A c s) :=
  ⟨h.rows, h.rowsW, h.codes, h.fits, hs, hw, ho, h.wires, h.wiresW, h.wiresOk⟩
theorem span_ones (s : List Span) : ∀ u ∈ s.flatMap Span.cells, u.oneCell' = true := fun u hu => by
  obtain ⟨y, _, hy⟩ := List.mem_flatMap.1 hu
  simp [Span.cells] at hy
  rcases hy with rfl | rfl | rfl <;> rfl
/-- A block of the call's own, that may be written. -/
theorem Stand.lab2 {w wr : World} {ts : List Tg} (h : Stand w wr ts) (cs : Array Value) (T : Nat) : Stand w (wr.alloc (.cells cs T)) (ts ++ [blkT wr.heap.size (.cells cs T (0, 0))]) :=
  h.add ((Below.refl _ _).alloc (Nat.le_refl _) _) (blk_lie (heap_alloc_new wr _)) (fun j hj => by have : j = wr.heap.size := hj; omega) fun j hj => .inl (by have : j = wr.heap.size := hj; omega)
/-- While tables are made. -/
def tab0 (ticks : Int) (A : Option Addr) (n c : Nat) : Obj := .cells #[.pointer none, .int .i64 ticks, .slice A n c, .int .i64 0, .int .i64 0] 156 (0, 0)
def tabML (pb tb : Nat) (po : Obj) (ticks : Int) (A : Option Addr) (c : Nat) (ts : List Tl) : List Tg :=
  [blkT pb po, blkT tb (tab0 ticks A ts.length c), rowT 28 1 A ts.length c (ts.flatMap Tl.cells), tlsT ts]
/-- The first of several is let go. -/
theorem Stand.tail {w0 w : World} {t : Tg} {ts : List Tg} (h : Stand w0 w (t :: ts)) : Stand w0 w ts :=
  ⟨⟨fun u hu => h.all.lies u (List.mem_cons_of_mem _ hu), fun i j s u hs hu hne => h.all.apart (i + 1) (j + 1) s u (by simpa using hs) (by simpa using hu) (by omega)⟩, fun u hu => h.fresh u (List.mem_cons_of_mem _ hu), h.below⟩
/-- All its parts together. -/
theorem tab_stand {w0 w : World} {tb kb : Nat} {p : Pl} {ll : List (List Span)} {T : TM} {t : Tst} (h : Stand w0 w (tabL tb kb p T t)) (hl : T.ts.map Tl.l = ll) : Stand w0 w [tabT tb kb p ll T t] := by
  refine ⟨⟨fun u hu => ?_, fun i j s u hs hu hne => ?_⟩, fun u hu j hj => ?_, h.below⟩
  · simp at hu; subst hu; exact TabAt.lie ⟨h.all, hl⟩
  · have h1 := (List.getElem?_eq_some_iff.1 hs).1
    have h2 := (List.getElem?_eq_some_iff.1 hu).1
    simp at h1 h2
    omega
  · simp at hu; subst hu
    obtain ⟨v, hv, hj⟩ := hj
    exact h.fresh v hv j hj
/-- What New leaves. -/
def TNewd (w : World) (p : Pl) (ll : List (List Span)) (e : Ending) (w' : World) : Prop :=
  ∃ tb kb T s0, ll[0]? = some s0 ∧ e = .returned (.tuple #[.pointer (some ⟨tb, 0, none⟩), .nilIface]) ∧ Stand w w' [tabT tb kb (p.by s0) ll T (tNew (p.by s0))]
/-- One more list. -/
theorem tabML_add {w wr w1 w2 : World} {pb tb : Nat} {po : Obj} {ticks : Int} {A A' : Option Addr} {c c' : Nat} {ts : List Tl} {y : Tl}
    (h : Stand w wr (tabML pb tb po ticks A c ts)) (hb : Below wr.heap.size wr w1) (hy : y.At w1) (hyn : ∀ j, InA y.A j → wr.heap.size ≤ j)
    (hr : Row w2 28 1 A' (ts ++ [y]).length c' ((ts ++ [y]).flatMap Tl.cells)) (hk : Keep (InA A) w1 w2) (hn : ∀ j, InA A' j → InA A j ∨ w1.heap.size ≤ j) :
    Stand w (w2.setCell ⟨tb, 2, none⟩ (.slice A' (ts ++ [y]).length c')) (tabML pb tb po ticks A' c' (ts ++ [y])) := by
  have hT : Went wr w1 (tlsT ts) (tlsT (ts ++ [y])) := ⟨tls_lie fun z hz => by
      rcases List.mem_append.1 hz with hz | hz
      · exact ((h.new hb).get (i := 3) rfl).here z hz
      · simp at hz; subst hz; exact hy, Keep.of_below _ hb, by
    rintro j ⟨z, hz, h0, hj⟩
    rcases List.mem_append.1 hz with hz | hz
    · exact .inl ⟨z, hz, h0, hj⟩
    · simp at hz; subst hz
      exact .inr (hyn j hj), fun _ h => h.elim⟩
  have h1 : Stand w w1 [blkT pb po, blkT tb (tab0 ticks A ts.length c), rowT 28 1 A ts.length c (ts.flatMap Tl.cells), tlsT (ts ++ [y])] := h.go 3 rfl hT
  have hA : Went w1 w2 (rowT 28 1 A ts.length c (ts.flatMap Tl.cells)) (rowT 28 1 A' (ts ++ [y]).length c' ((ts ++ [y]).flatMap Tl.cells)) := ⟨row_lie hr, hk, hn, hn⟩
  have h2 : Stand w w2 [blkT pb po, blkT tb (tab0 ticks A ts.length c), rowT 28 1 A' (ts ++ [y]).length c' ((ts ++ [y]).flatMap Tl.cells), tlsT (ts ++ [y])] := h1.go 2 rfl hA
  exact h2.go 1 rfl (blk_went (h2.get (i := 1) rfl) (o' := tab0 ticks A' (ts ++ [y]).length c') (Keep.setCell (F := fun j => j = tb) (Keep.refl _ _) (.inl rfl) _) (by
    have := (h2.get (i := 1) rfl).here
    simp only [blkT, tab0] at this ⊢
    rw [blk_set this]; rfl))

set_option maxHeartbeats 8000000 in
theorem tab_new {w : World} {m : PM} {A : Option Addr} {c : Nat} {ls : List Tl} (hf : Forms w) (hm : PlanAt w m) (hs : Sl w A 1 ls.length (ls.flatMap Tl.cells)) (hsw : SlW A c ls.length) (hat : ∀ y ∈ ls, y.At w) (hz : ∀ y ∈ ls, y.l.length ≤ 5864062014634) :
    Calls Tryd.prog 36 #[.agg #[.slice m.A m.ros.length m.c, .int .i64 m.ticks, .slice m.sA m.spans.length m.sc, .slice m.wA m.wires.length m.wc], .slice A ls.length c] w
      fun e w' => (tabChk m.pl (ls.map Tl.l) ≠ 0 → e = .returned (.tuple #[.pointer none, errV (tabChk m.pl (ls.map Tl.l))]) ∧ Below w.heap.size w w') ∧ (tabChk m.pl (ls.map Tl.l) = 0 → TNewd w m.pl (ls.map Tl.l) e w') := by
  have HF := hid hf
  have HM := hid hm
  have HS := hid hs
  have HAT := hid hat
  have HZ := hid hz
  have hsw1 := hsw.1
  have hsw2 := hsw.2.1
  unfold maxLen at hsw2
  obtain ⟨E, hE⟩ : ∃ E, tabChk m.pl (ls.map Tl.l) = E := ⟨_, rfl⟩
  have hE' := hE
  unfold tabChk at hE'
  rw [List.length_map] at hE'
  rw [hE]
  have HE := hid hE
  obtain ⟨nl, hnl⟩ : ∃ nl, ls.length = nl := ⟨_, rfl⟩
  rw [hnl] at hE' hsw1 HS ⊢
  have HNL := hid hnl
  obtain ⟨w1, hw1⟩ : ∃ w1, w1 = w.alloc (.cells #[.slice m.A m.ros.length m.c, .int .i64 m.ticks, .slice m.sA m.spans.length m.sc, .slice m.wA m.wires.length m.wc] 31) := ⟨_, rfl⟩
  have hb1 : Below w.heap.size w w1 := by rw [hw1]; exact (Below.refl _ _).alloc (Nat.le_refl _) _
  have hst1 := (Stand.nil w).lab2 #[.slice m.A m.ros.length m.c, .int .i64 m.ticks, .slice m.sA m.spans.length m.sc, .slice m.wA m.wires.length m.wc] 31
  rw [← hw1] at hst1
  have HCK : Hid (∀ (w' : World) (B : Option Addr) (d : Nat) (s : List Span), Below w.heap.size w w' → Sl w' B 3 s.length (s.flatMap Span.cells) → SlW B d s.length → (∀ y ∈ s, y.Ok) → Calls Tryd.prog 44 #[.agg #[.slice m.A m.ros.length m.c, .int .i64 m.ticks, .slice B s.length d, .slice m.wA m.wires.length m.wc]] w' fun e w'' => e = .returned (errV (planChk (m.pl.by s))) ∧ Below w'.heap.size w' w'') :=
    fun w' B d s hb h1 h2 h3 => plan_check (m.by B d s) w' (hf.new hb) ((hm.new hb).by h1 h2 h3)
  have HKN : Hid (∀ (w' : World) (B : Option Addr) (d : Nat) (s : List Span), Below w.heap.size w w' → Sl w' B 3 s.length (s.flatMap Span.cells) → SlW B d s.length → (∀ y ∈ s, y.Ok) → planChk (m.pl.by s) = 0 → Calls Tryd.prog 28 #[.agg #[.slice m.A m.ros.length m.c, .int .i64 m.ticks, .slice B s.length d, .slice m.wA m.wires.length m.wc]] w' (KNew w' (m.pl.by s))) :=
    fun w' B d s hb h1 h2 h3 h4 => new_run w' (m.by B d s) (hf.new hb) ((hm.new hb).by h1 h2 h3) h4
  obtain ⟨nn, hnn⟩ : ∃ nn, m.ros.length = nn := ⟨_, rfl⟩
  obtain ⟨ns, hns⟩ : ∃ ns, m.spans.length = ns := ⟨_, rfl⟩
  obtain ⟨nw, hnw⟩ : ∃ nw, m.wires.length = nw := ⟨_, rfl⟩
  rw [hnn, hns, hnw] at hw1 hst1 ⊢
  rw [hnn, hnw] at HCK HKN
  have HST1 : Hid (Stand w w1 [blkT w.heap.size (.cells #[.slice m.A nn m.c, .int .i64 m.ticks, .slice m.sA ns m.sc, .slice m.wA nw m.wc] 31 (0, 0))]) := hst1
  have hbx : w1.heap[w.heap.size]? = some (.cells #[.slice m.A nn m.c, .int .i64 m.ticks, .slice m.sA ns m.sc, .slice m.wA nw m.wc] 31 (0, 0)) := (hst1.get (i := 0) rfl).here
  clear hb1 hst1 hf hm hs hsw hat hz hE hnl hnn hns hnw
  have x1 := blk_cell hbx 1
  have hlx := blk_lt hbx
  simp at x1
  clear hbx
  go_enter Tryd.func36, Tryd.ntmps36
  go_upto_region 1 with fail
  rw [← hw1]
  clear hw1
  by_cases h4 : 4 < nl
  · rw [if_pos h4] at hE'
    subst hE'
    have hd4 : decide (4 < (nl : Int)) = true := decide_eq_true (by omega)
    go_wp2_with fail
    refine bodyPost_ret (v := .tuple #[.pointer none, errV 4]) (by simp [results, Tryd.results36, go_sem, errV]) rfl ⟨fun _ => ⟨rfl, HST1.out.below⟩, fun h => by simp at h⟩
  · rw [if_neg h4] at hE'
    have hd4 : decide (4 < (nl : Int)) = false := decide_eq_false (by omega)
    by_cases h5 : nl = 0
    · rw [if_pos h5] at hE'
      subst hE'
      subst h5
      go_wp2_with fail
      refine bodyPost_ret (v := .tuple #[.pointer none, errV 5]) (by simp [results, Tryd.results36, go_sem, errV]) rfl ⟨fun _ => ⟨rfl, HST1.out.below⟩, fun h => by simp at h⟩
    · rw [if_neg h5] at hE'
      have HFE := hid hE'
      clear hE'
      have hd5 : ((nl : Int) == 0) = false := beq_false_of_ne (by omega)
      obtain ⟨pb, hpb⟩ : ∃ pb, pb = w.heap.size := ⟨_, rfl⟩
      obtain ⟨w2, hw2⟩ : ∃ w2, w2 = w1.alloc (.cells #[.pointer none, .int .i64 m.ticks, .slice none 0 0, .int .i64 0, .int .i64 0] 156) := ⟨_, rfl⟩
      obtain ⟨tb, htb⟩ : ∃ tb, tb = w1.heap.size := ⟨_, rfl⟩
      have hst2 := HST1.out.lab2 #[.pointer none, .int .i64 m.ticks, .slice none 0 0, .int .i64 0, .int .i64 0] 156
      rw [← hw2, ← htb, ← hpb] at hst2
      have hst3 := hst2.add (Below.refl _ _) (row_lie (Row.nil w2 28 1)) (fun j hj => by simp [rowT, InA] at hj) (fun j hj => by simp [rowT, InA] at hj)
      have hst4 := hst3.add (Below.refl _ _) (tls_lie (ts := []) (fun y hy => by simp at hy)) (fun j hj => hj.elim) (fun j hj => by obtain ⟨y, hy, _⟩ := hj; simp at hy)
      have HST2 : Hid (Stand w w2 (tabML pb tb (.cells #[.slice m.A nn m.c, .int .i64 m.ticks, .slice m.sA ns m.sc, .slice m.wA nw m.wc] 31 (0, 0)) m.ticks none 0 [])) := hst4
      go_upto_region 6 with fail
      rw [← hw2, ← htb, ← hpb]
      clear hst2 hst3 hst4 hw2 htb hpb HST1 x1 hlx
      go_wp2_with fail
      obtain ⟨it, hit, hz0, hz1, hz2⟩ := info_parts Tryd.infoTab
      go_loopw [29] (fun v29 wr => ∃ (i : Nat) (A' : Option Addr) (c' : Nat) (ts : List Tl), i ≤ nl ∧ v29 = .int .i64 i ∧ ts.length = i ∧ Stand w wr (tabML pb tb (.cells #[.slice m.A nn m.c, .int .i64 m.ticks, .slice m.sA ns m.sc, .slice m.wA nw m.wc] 31 (0, 0)) m.ticks A' c' ts) ∧ ts.map Tl.l = (ls.map Tl.l).take i ∧ ∀ y ∈ ts, planChk (m.pl.by y.l) = 0) (fun v29 _ => nl - (intOf v29).toNat)
      case atStart => exact ⟨0, none, 0, [], by omega, rfl, rfl, HST2.out, rfl, fun y hy => by simp at hy⟩
      case round =>
        obtain ⟨wo, rfl⟩ : ∃ wo : World, wo = wr := ⟨_, rfl⟩
        obtain ⟨i, A', c', ts, hil, rfl, htl, hst, hmap, hall⟩ := hrel
        have HSR := hid hst
        have HTL := hid htl
        have HMP := hid hmap
        have HAL := hid hall
        clear hst htl hmap hall HST2
        by_cases hin : i < nl
        · have hi2 : i < ls.length := by rw [HNL.out]; exact hin
          have hget := List.getElem?_eq_getElem hi2
          have hym := List.getElem_mem hi2
          obtain ⟨lb, lo, rfl, hlb, hlx⟩ := HS.out.2 (by omega)
          have hcell := flatMap_get Tl.cells 1 Tl.len ls i 0 _ hget (by decide)
          rw [Nat.mul_one, Nat.add_zero] at hcell
          replace hcell := hlx i _ (hcell.trans rfl)
          generalize ls[i] = y at hget hym hcell
          have hyat := HAT.out y hym
          have hyz := HZ.out y hym
          have y0 : wo.cell? ⟨lb, lo + i, none⟩ = some (.slice y.A y.l.length y.c) := (HSR.out.below.cell (p := ⟨lb, lo + i, none⟩) hlb).trans hcell
          have hlbl : lb < wo.heap.size := by have := HSR.out.below.size; omega
          have HGET := hid hget
          have HYAT := hid hyat
          have hpx : wo.heap[pb]? = some (.cells #[.slice m.A nn m.c, .int .i64 m.ticks, .slice m.sA ns m.sc, .slice m.wA nw m.wc] 31 (0, 0)) := (HSR.out.get (i := 0) rfl).here
          have x0 := blk_cell hpx 0
          have x1 := blk_cell hpx 1
          have x2 := blk_cell hpx 2
          have x3 := blk_cell hpx 3
          have hlpx := blk_lt hpx
          simp at x0 x1 x2 x3
          clear hget hym hcell hlx hyat hpx hi2
          obtain ⟨wq, hwq⟩ : ∃ wq, wq = wo.alloc (.cells #[.slice m.A nn m.c, .int .i64 m.ticks, .slice m.sA ns m.sc, .slice m.wA nw m.wc] 31) := ⟨_, rfl⟩
          obtain ⟨qb, hqb⟩ : ∃ qb, qb = wo.heap.size := ⟨_, rfl⟩
          have hsq := HSR.out.lab2 #[.slice m.A nn m.c, .int .i64 m.ticks, .slice m.sA ns m.sc, .slice m.wA nw m.wc] 31
          rw [← hwq, ← hqb] at hsq
          have hqs : qb < wq.heap.size := by rw [hwq, hqb]; simp
          have hbq : Below wo.heap.size wo wq := by rw [hwq]; exact (Below.refl _ _).alloc (Nat.le_refl _) _
          have HSQ : Hid (Stand w wq [blkT pb (.cells #[.slice m.A nn m.c, .int .i64 m.ticks, .slice m.sA ns m.sc, .slice m.wA nw m.wc] 31 (0, 0)), blkT tb (tab0 m.ticks A' ts.length c'), rowT 28 1 A' ts.length c' (ts.flatMap Tl.cells), tlsT ts, blkT qb (.cells #[.slice m.A nn m.c, .int .i64 m.ticks, .slice m.sA ns m.sc, .slice m.wA nw m.wc] 31 (0, 0))]) := hsq
          have HBQ := hid hbq
          have HQB := hid hqb
          go_upto_region 10 with fail
          rw [← hwq, ← hqb]
          clear hwq hqb hsq hbq x0 x1 x2 x3 hlpx y0 hlbl
          go_wp2_with fail
          refine (clone_SpanW wq y.A y.l.length y.c (y.l.flatMap Span.cells) (span_ones _) hyz (fun h => (HYAT.out.2.1.2.2 h).1) (HYAT.out.new (HSQ.out.below)).1).mono ?_
          rintro e w4 ⟨B, d, rfl, hrow, hfr, hb4⟩
          have hs4 := HSQ.out.new hb4
          have hq4 : w4.heap[qb]? = some (.cells #[.slice m.A nn m.c, .int .i64 m.ticks, .slice m.sA ns m.sc, .slice m.wA nw m.wc] 31 (0, 0)) := (hs4.get (i := 4) rfl).here
          have hnB : ¬ InA B qb := fun hj => by have := hfr qb hj; omega
          obtain ⟨w5, hw5⟩ : ∃ w5, w5 = w4.setCell ⟨qb, 2, none⟩ (.slice B y.l.length d) := ⟨_, rfl⟩
          have hq5 : w5.heap[qb]? = some (.cells #[.slice m.A nn m.c, .int .i64 m.ticks, .slice B y.l.length d, .slice m.wA nw m.wc] 31 (0, 0)) := by rw [hw5]; exact (blk_set hq4 2 _).trans rfl
          have hk5 : Keep (fun j => j = qb) w4 w5 := by rw [hw5]; exact Keep.setCell (F := fun j => j = qb) (Keep.refl _ _) (.inl rfl) _
          have hr5 : Row w5 68 3 B y.l.length d (y.l.flatMap Span.cells) := by rw [hw5]; exact hrow.setCell (p := ⟨qb, 2, none⟩) hnB _
          have hs5 := hs4.go 4 rfl (blk_went (hs4.get (i := 4) rfl) hk5 hq5)
          have HS5 : Hid (Stand w w5 [blkT pb (.cells #[.slice m.A nn m.c, .int .i64 m.ticks, .slice m.sA ns m.sc, .slice m.wA nw m.wc] 31 (0, 0)), blkT tb (tab0 m.ticks A' ts.length c'), rowT 28 1 A' ts.length c' (ts.flatMap Tl.cells), tlsT ts, blkT qb (.cells #[.slice m.A nn m.c, .int .i64 m.ticks, .slice B y.l.length d, .slice m.wA nw m.wc] 31 (0, 0))]) := hs5
          have HR5 := hid hr5
          have HFB : Hid (∀ j, InA B j → wo.heap.size ≤ j) := fun j hj => by have := hfr j hj; have := HBQ.out.size; omega
          have HB5 : Hid (Below wo.heap.size wo w5) := Keep.below (F := NoF) (((Keep.of_below NoF HBQ.out).then (Keep.of_below NoF hb4) fun _ _ h => h).then hk5 fun j hj hf => by have := HQB.out; omega) (Nat.le_refl _) (fun _ h => h.elim)
          have z2 := blk_cell hq4 2
          have zf := blk_free hq4 2
          have hlz := blk_lt hq4
          simp at z2
          go_upto_region 11 with fail
          rw [← hw5]
          clear hw5 hs4 hq4 hq5 hk5 hr5 hs5 z2 zf hlz hfr hrow hb4 hnB hqs
          have hq5 : w5.heap[qb]? = some (.cells #[.slice m.A nn m.c, .int .i64 m.ticks, .slice B y.l.length d, .slice m.wA nw m.wc] 31 (0, 0)) := (HS5.out.get (i := 4) rfl).here
          have z0 := blk_cell hq5 0
          have z1 := blk_cell hq5 1
          have z2 := blk_cell hq5 2
          have z3 := blk_cell hq5 3
          have hlz := blk_lt hq5
          simp at z0 z1 z2 z3
          clear hq5
          have hck := HCK.out w5 B d y.l HS5.out.below HR5.out.sl HR5.out.slW HYAT.out.2.2
          go_wp2_with fail
          refine hck.mono ?_
          clear hck z0 z1 z2 z3 hlz
          rintro e w6 ⟨rfl, hb6⟩
          have HS6 := hid (HS5.out.new hb6)
          have HR6 := hid (HR5.out.new hb6)
          have HB6 := hid (HB5.out.trans (hb6.mono HB5.out.size))
          clear hb6 HS5 HR5 HB5 HSQ HBQ
          by_cases hc : planChk (m.pl.by y.l) = 0
          · rw [hc, errV_zero]
            have HC := hid hc
            clear hc
            have hts : Stand w w6 (tabML pb tb (.cells #[.slice m.A nn m.c, .int .i64 m.ticks, .slice m.sA ns m.sc, .slice m.wA nw m.wc] 31 (0, 0)) m.ticks A' c' ts) := HS6.out.few (us := [blkT qb _])
            have hb7 : Below w6.heap.size w6 (w6.alloc (.cells #[.slice B y.l.length d] 28)).drew := ((Below.refl _ _).alloc (Nat.le_refl _) _).drew
            have HB7 := hid hb7
            have htl := HTL.out
            have HC0 : Hid (Row (w6.alloc (.cells #[.slice B y.l.length d] 28)).drew 28 1 A' i c' (ts.flatMap Tl.cells)) := by
              have := ((hts.new hb7).get (i := 2) rfl).here
              simp only [rowT, htl] at this
              exact this
            have HC1 : Hid (Sl (w6.alloc (.cells #[.slice B y.l.length d] 28)).drew (some ⟨w6.heap.size, 0, none⟩) 1 1 [.slice B y.l.length d]) :=
              ⟨rfl, fun _ => ⟨w6.heap.size, 0, rfl, by simp, fun j u hu => by
                match j, hu with
                | 0, hu =>
                  simp at hu; subst hu
                  exact blk_cell (heap_alloc_new w6 (.cells #[.slice B y.l.length d] 28)) 0⟩⟩
            have hto : w6.heap[tb]? = some (tab0 m.ticks A' i c') := by
              have := (hts.get (i := 1) rfl).here
              simp only [blkT, htl] at this
              exact this
            have hnt : ¬ InA A' tb := fun hj => hts.all.apart 1 2 _ _ rfl rfl (by omega) tb rfl hj
            have HC2 : Hid (∀ w7 : World, Keep (InA A') (w6.alloc (.cells #[.slice B y.l.length d] 28)).drew w7 → w7.heap[tb]? = w6.heap[tb]?) := fun w7 h => (h.block tb (by have := blk_lt hto; have := hb7.size; omega) hnt).trans (hb7.block _ (blk_lt hto))
            have hqo : w6.heap[qb]? = some (.cells #[.slice m.A nn m.c, .int .i64 m.ticks, .slice B y.l.length d, .slice m.wA nw m.wc] 31 (0, 0)) := (HS6.out.get (i := 4) rfl).here
            unfold tab0 at hto
            have HTO := hid hto
            have t2 := blk_cell hto 2
            have tf := blk_free hto 2
            have hlt := blk_lt hto
            have q2 := blk_cell hqo 2
            have hlq := blk_lt hqo
            simp at t2 q2
            have hi4 : i < 4 := by omega
            have HHB : Hid (Below wo.heap.size wo (w6.alloc (.cells #[.slice B y.l.length d] 28)).drew) := HB6.out.trans (hb7.mono HB6.out.size)
            have HYB : Hid (Tl.At (w6.alloc (.cells #[.slice B y.l.length d] 28)).drew ⟨B, d, y.l⟩) := ⟨(HR6.out.new hb7).sl, HR6.out.slW, HYAT.out.2.2⟩
            clear hts hb7 htl hto hnt hqo
            go_wp2_with fail
            go_region_law (refine step_append_row _ rfl _ _ 91 rfl 28 it (.slice none 0 0) 1 24 Tryd.underlying91 hit hz0 hz1 hz2 rfl (by decide) A' i c' (ts.flatMap Tl.cells) rfl HC0.out (some ⟨w6.heap.size, 0, none⟩) 1 1 [.slice B y.l.length d] rfl HC1.out (by intro u hu; simp at hu; subst hu; rfl) (by unfold maxLen; omega) (by omega) ?_; intro lA lc w7 hrow7 hkeep7 hin7; have hb8 := (HC2.out w7 hkeep7).trans HTO.out; have d2 := blk_cell hb8 2; have d2f := blk_free hb8 2; have d2l := blk_lt hb8; simp at d2; have HR7 := hid hrow7; have HK7 := hid hkeep7; have HI7 := hid hin7; clear hrow7 hkeep7 hin7 hb8)
            all_goals
              go_wp2_with fail
              go_roundw
              case rel =>
                have e1 : (ts ++ [(⟨B, d, y.l⟩ : Tl)]).length = i + 1 := by simp [HTL.out]
                have e2 : (ts ++ [(⟨B, d, y.l⟩ : Tl)]).flatMap Tl.cells = ts.flatMap Tl.cells ++ [.slice B y.l.length d] := by rw [List.flatMap_append]; rfl
                have h := tabML_add HSR.out HHB.out HYB.out HFB.out (by rw [e1, e2]; exact HR7.out) HK7.out HI7.out
                rw [e1] at h
                refine ⟨i + 1, lA, lc, ts ++ [⟨B, d, y.l⟩], by omega, by go_num, e1, h, ?_, fun z hz => ?_⟩
                · rw [List.map_append, HMP.out, List.take_add_one, List.getElem?_map, HGET.out]; rfl
                · rcases List.mem_append.1 hz with hz | hz
                  · exact HAL.out z hz
                  · simp at hz; subst hz; exact HC.out
              case measure => simp [intOf]; omega
          · have hfe : planChk (m.pl.by y.l) = E := by
              rw [← HFE.out]
              refine (tab_first_at (p := m.pl) (ls.map Tl.l) i y.l (by rw [List.getElem?_map, HGET.out]; rfl) (fun j x hj hx => ?_) hc).symm
              have h1 : (ts.map Tl.l)[j]? = some x := by rw [HMP.out, List.getElem?_take, if_pos hj, hx]
              rw [List.getElem?_map] at h1
              cases hy : ts[j]? with
              | none => rw [hy] at h1; simp at h1
              | some z =>
                rw [hy] at h1; simp at h1
                rw [← h1]
                exact HAL.out z (List.mem_of_getElem? hy)
            have hE0 : E ≠ 0 := by rw [← hfe]; exact hc
            rw [hfe]
            have hv := errV_pos hE0
            have HV := hid hv
            rw [hv]
            clear hv hfe hc
            go_wp2_with fail
            refine bodyPost_ret (v := .tuple #[.pointer none, .iface 125 (.int .i64 E)]) (by simp [results, Tryd.results36, go_sem]) rfl ⟨fun _ => ⟨by rw [HV.out], HS6.out.below⟩, fun h => absurd h hE0⟩
        · obtain rfl : nl = i := by omega
          have hi2 : 0 < ls.length := by rw [HNL.out]; omega
          have hget := List.getElem?_eq_getElem hi2
          have hym := List.getElem_mem hi2
          obtain ⟨lb, lo, rfl, hlb, hlx⟩ := HS.out.2 (by omega)
          have hcell := flatMap_get Tl.cells 1 Tl.len ls 0 0 _ hget (by decide)
          replace hcell := hlx 0 _ (hcell.trans rfl)
          generalize ls[0] = y at hget hym hcell
          have hyat := HAT.out y hym
          have y0 : wo.cell? ⟨lb, lo, none⟩ = some (.slice y.A y.l.length y.c) := (HSR.out.below.cell (p := ⟨lb, lo, none⟩) hlb).trans hcell
          have hlbl : lb < wo.heap.size := by have := HSR.out.below.size; omega
          have HLL : Hid (ts.map Tl.l = ls.map Tl.l) := by
            have h := HMP.out
            rw [List.take_of_length_le (by rw [List.length_map, HNL.out]; exact Nat.le_refl _)] at h
            exact h
          have HG0 : Hid ((ls.map Tl.l)[0]? = some y.l) := by show (ls.map Tl.l)[0]? = some y.l; rw [List.getElem?_map, hget]; rfl
          have HC0 : Hid (planChk (m.pl.by y.l) = 0) := by
            have h1 := HG0.out
            rw [← HLL.out, List.getElem?_map] at h1
            cases hz : ts[0]? with
            | none => rw [hz] at h1; simp at h1
            | some z =>
              rw [hz] at h1; simp at h1
              have := HAL.out z (List.mem_of_getElem? hz)
              rw [h1] at this
              exact this
          have HE0 : Hid (E = 0) := by
            show E = 0
            rw [← HFE.out, ← HLL.out]
            refine tab_first_none _ fun s hs => ?_
            obtain ⟨z, hz, rfl⟩ := List.mem_map.1 hs
            exact HAL.out z hz
          have HYAT := hid hyat
          have hpx : wo.heap[pb]? = some (.cells #[.slice m.A nn m.c, .int .i64 m.ticks, .slice m.sA ns m.sc, .slice m.wA nw m.wc] 31 (0, 0)) := (HSR.out.get (i := 0) rfl).here
          obtain ⟨w5, hw5⟩ : ∃ w5, w5 = wo.setCell ⟨pb, 2, none⟩ (.slice y.A y.l.length y.c) := ⟨_, rfl⟩
          have hq5 : w5.heap[pb]? = some (.cells #[.slice m.A nn m.c, .int .i64 m.ticks, .slice y.A y.l.length y.c, .slice m.wA nw m.wc] 31 (0, 0)) := by rw [hw5]; exact (blk_set hpx 2 _).trans rfl
          have hk5 : Keep (fun j => j = pb) wo w5 := by rw [hw5]; exact Keep.setCell (F := fun j => j = pb) (Keep.refl _ _) (.inl rfl) _
          have HS5 := hid (HSR.out.go 0 rfl (blk_went (HSR.out.get (i := 0) rfl) hk5 hq5))
          have x2 := blk_cell hpx 2
          have xf := blk_free hpx 2
          have hlpx := blk_lt hpx
          simp at x2
          clear hget hym hcell hlx hyat hq5 hk5 hpx hi2
          go_upto_region 17 with fail
          rw [← hw5]
          clear hw5 x2 xf hlpx y0 hlbl
          have hq5 : w5.heap[pb]? = some (.cells #[.slice m.A nn m.c, .int .i64 m.ticks, .slice y.A y.l.length y.c, .slice m.wA nw m.wc] 31 (0, 0)) := (HS5.out.get (i := 0) rfl).here
          have z0 := blk_cell hq5 0
          have z1 := blk_cell hq5 1
          have z2 := blk_cell hq5 2
          have z3 := blk_cell hq5 3
          have hlz := blk_lt hq5
          simp at z0 z1 z2 z3
          clear hq5
          have hkn := HKN.out w5 y.A y.c y.l HS5.out.below (HYAT.out.new HS5.out.below).1 HYAT.out.2.1 HYAT.out.2.2 HC0.out
          unfold KNew at hkn
          go_wp2_with fail
          refine hkn.mono ?_
          clear hkn z0 z1 z2 z3 hlz
          rintro e w6 ⟨kb, M, rfl, hr6⟩
          have hs6 : Stand w w6 [blkT tb (tab0 m.ticks A' ts.length c'), rowT 28 1 A' ts.length c' (ts.flatMap Tl.cells), tlsT ts, kT 152 201 145 kb (m.pl.by y.l) M (kNew (m.pl.by y.l))] :=
            Stand.tail (HS5.out.add hr6.below (k_lie hr6.kat hr6.plan) (fun j hj => hr6.fresh j (.inl hj)) fun j hj => .inl (hr6.fresh j hj))
          have hto : w6.heap[tb]? = some (tab0 m.ticks A' ts.length c') := (hs6.get (i := 0) rfl).here
          obtain ⟨w7, hw7⟩ : ∃ w7, w7 = w6.setCell ⟨tb, 0, none⟩ (.pointer (some ⟨kb, 0, none⟩)) := ⟨_, rfl⟩
          have hq7 : w7.heap[tb]? = some (tabObj kb m.ticks A' ts.length c' 0 0) := by rw [hw7]; exact (blk_set hto 0 _).trans rfl
          have hk7 : Keep (fun j => j = tb) w6 w7 := by rw [hw7]; exact Keep.setCell (F := fun j => j = tb) (Keep.refl _ _) (.inl rfl) _
          have HS7 := hid (tab_stand (p := m.pl.by y.l) (T := ⟨M, A', c', ts⟩) (t := tNew (m.pl.by y.l)) (hs6.go 0 rfl (blk_went (hs6.get (i := 0) rfl) hk7 hq7)) HLL.out)
          unfold tab0 at hto
          have t0 := blk_cell hto 0
          have tf := blk_free hto 0
          have hlt := blk_lt hto
          simp at t0
          clear hs6 hto hq7 hk7 hr6
          go_wp2_with fail
          rw [← hw7]
          refine bodyPost_ret (v := .tuple #[.pointer (some ⟨tb, 0, none⟩), .nilIface]) (by simp [results, Tryd.results36, go_sem]) rfl ⟨fun h => absurd HE0.out h, fun _ => ⟨tb, kb, _, y.l, HG0.out, rfl, HS7.out⟩⟩
end Go.Proofs.YtongkiccglaniaaDoor
