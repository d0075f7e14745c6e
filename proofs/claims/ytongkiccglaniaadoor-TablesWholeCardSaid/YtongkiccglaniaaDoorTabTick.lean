/- Package tables: the contracts of Ask, Tick and State. -/
import Derived.Test.YtongkiccglaniaaDoorTab
import Derived.Test.YtongkiccglaniaaDoorAmid
import Derived.StillTailTactics
namespace Go.Proofs.YtongkiccglaniaaDoor
open Go.RowKit
set_option maxRecDepth 100000

def tAsk (ll : List (List Span)) (t : Tst) (i : Int) : Tst := if inB i ll.length = true then ⟨t.k, t.now, i.toNat⟩ else t
def askErr (ll : List (List Span)) (i : Int) : Int := if inB i ll.length = true then 0 else 1
section
variable {w w3 : World} {tb kb : Nat} {p : Pl} {ll : List (List Span)} {T T' : TM} {t t' : Tst} {B : Int}
theorem tAsk_ok (h : TOk p ll t B) (i : Int) : TOk p ll (tAsk ll t i) B := by
  unfold tAsk
  by_cases hi : inB i ll.length = true
  · rw [if_pos hi]
    have : 0 ≤ i ∧ i < ll.length := by simpa [inB] using hi
    exact ⟨h.k, h.now, by show i.toNat < _; omega⟩
  · rw [if_neg hi]; exact h
theorem TabAt.goes {i : Nat} {u u' : Tg} (h : TabAt w tb kb p ll T t) (hi : (tabL tb kb p T t)[i]? = some u) (hg : Went w w3 u u') (hset : (tabL tb kb p T t).set i u' = tabL tb kb p T' t') (hl : T'.ts = T.ts) : Went w w3 (tabT tb kb p ll T t) (tabT tb kb p ll T' t') := by
  have h1 := h.all.went hi hg
  rw [hset] at h1
  exact ⟨TabAt.lie ⟨h1.lie.here, by rw [hl]; exact h.lists⟩, h1.keep, h1.inF, h1.inW⟩
/-- Which counts, and which is asked for, is written. -/
theorem TabAt.setNow (h : TabAt w tb kb p ll T t) (n : Nat) : Went w (w.setCell ⟨tb, 3, none⟩ (.int .i64 n)) (tabT tb kb p ll T t) (tabT tb kb p ll T ⟨t.k, n, t.next⟩) :=
  h.goes (i := 0) rfl (blk_went (h.all.get (i := 0) rfl) (o' := tabObj kb p.ticks T.A T.ts.length T.c n t.next) (Keep.setCell (F := fun j => j = tb) (Keep.refl _ _) (.inl rfl) _) (by
    have := h.obj
    unfold tabObj at this ⊢
    rw [blk_set this]; rfl)) rfl rfl
theorem TabAt.setNext (h : TabAt w tb kb p ll T t) (n : Nat) : Went w (w.setCell ⟨tb, 4, none⟩ (.int .i64 n)) (tabT tb kb p ll T t) (tabT tb kb p ll T ⟨t.k, t.now, n⟩) :=
  h.goes (i := 0) rfl (blk_went (h.all.get (i := 0) rfl) (o' := tabObj kb p.ticks T.A T.ts.length T.c t.now n) (Keep.setCell (F := fun j => j = tb) (Keep.refl _ _) (.inl rfl) _) (by
    have := h.obj
    unfold tabObj at this ⊢
    rw [blk_set this]; rfl)) rfl rfl
theorem TabAt.ticked (h : TabAt w tb kb p ll T t) {K' : KM} {k' : Kst} (h1 : KAt 152 201 145 w3 kb K' k') (h2 : K'.P = T.K.P ∧ K'.lA = T.K.lA) (h3 : Keep (KF kb T.K) w w3) (h4 : ∀ j, KF kb K' j → KF kb T.K j ∨ w.heap.size ≤ j) :
    Went w w3 (tabT tb kb p ll T t) (tabT tb kb p ll ⟨K', T.A, T.c, T.ts⟩ ⟨k', t.now, t.next⟩) :=
  h.goes (i := 3) rfl (k_went (h.all.get (i := 3) rfl) h1 h2 h3 h4) rfl rfl

theorem task_any (h : TabAt w tb kb p ll T t) (_hn : ll.length ≤ 4) (i : Int) :
    Calls Tryd.prog 37 #[.pointer (some ⟨tb, 0, none⟩), .int .i64 i] w fun e w' => e = .returned (errV (askErr ll i)) ∧ Went w w' (tabT tb kb p ll T t) (tabT tb kb p ll T (tAsk ll t i)) := by
  have hobj := h.obj
  have HW := hid (Went.refl h.lie)
  have HSET : Hid (∀ n : Nat, Went w (w.setCell ⟨tb, 4, none⟩ (.int .i64 n)) (tabT tb kb p ll T t) (tabT tb kb p ll T ⟨t.k, t.now, n⟩)) := fun n => h.setNext n
  unfold tabObj at hobj
  rw [h.many] at hobj
  unfold askErr tAsk
  generalize ll.length = n at hobj ⊢
  have x2 := blk_cell hobj 2
  have x4 := blk_cell hobj 4
  have xf := blk_free hobj 4
  have hlt := blk_lt hobj
  simp at x2 x4
  clear hobj h
  cases hi : inB i n with
  | true =>
    rw [if_pos rfl, if_pos rfl, errV_zero]
    have hi2 : 0 ≤ i ∧ i < n := by simpa [inB] using hi
    obtain ⟨I, rfl⟩ : ∃ I : Nat, i = I := ⟨i.toNat, by omega⟩
    have hS := HSET.out I
    rw [Int.toNat_natCast]
    obtain ⟨wx, hwx⟩ : ∃ wx, wx = w.setCell ⟨tb, 4, none⟩ (.int .i64 I) := ⟨_, rfl⟩
    rw [← hwx] at hS
    have HS := hid hS
    have hd1 : decide ((I : Int) < 0) = false := decide_eq_false (by omega)
    have hd2 : decide (n ≤ I) = false := decide_eq_false (by omega)
    clear hS hi hi2
    go_enter Tryd.func37, Tryd.ntmps37
    go_wp2_with fail
    rw [← hwx]
    clear hwx
    go_wp2_with fail
    go_ret
    exact ⟨rfl, HS.out⟩
  | false =>
    rw [if_neg (by decide), if_neg (by decide), errV_pos (by decide)]
    clear x4 xf
    by_cases h1 : i < 0
    · have hd1 : decide (i < 0) = true := decide_eq_true h1
      clear hi
      go_enter Tryd.func37, Tryd.ntmps37
      go_wp2_with fail
      go_ret
      exact ⟨rfl, HW.out⟩
    · have h2 : (n : Int) ≤ i := by
        have : ¬ (0 ≤ i ∧ i < n) := by simpa [inB] using hi
        omega
      have hd1 : decide (i < 0) = false := decide_eq_false h1
      have hd2 : decide ((n : Int) ≤ i) = true := decide_eq_true h2
      clear hi
      go_enter Tryd.func37, Tryd.ntmps37
      go_wp2_with fail
      go_ret
      exact ⟨rfl, HW.out⟩

theorem tstate_any (hr : TRight p ll) (hk : TOk p ll t B) (h : TabAt w tb kb p ll T t) (r : Int) :
    Calls Tryd.prog 41 #[.pointer (some ⟨tb, 0, none⟩), .int .i64 r] w (StateV w (stateOf t.k r)) := by
  have hobj := h.obj
  unfold tabObj at hobj
  have x0 := blk_cell hobj 0
  have hlt := blk_lt hobj
  simp at x0
  have HKS : Hid (∀ w', Below w.heap.size w w' → Calls Tryd.prog 30 #[.pointer (some ⟨kb, 0, none⟩), .int .i64 r] w' (StateV w' (stateOf t.k r))) := fun w' hb => kstate_any r (by rw [hk.k.rooms]; exact hr.plan.most5) (h.new hb).kat.1
  unfold StateV at HKS ⊢
  generalize stateOf t.k r = q at HKS ⊢
  obtain ⟨s, e⟩ := q
  obtain ⟨pc, c0, c1, c2, c3, c4, c5, f⟩ := s
  unfold stV at HKS ⊢
  simp only [] at HKS ⊢
  obtain ⟨wa, hwa⟩ : ∃ wa, wa = w.alloc (.cells #[.int .i64 0, .int .i64 0, .int .i64 0, .int .i64 0, .int .i64 0, .int .i64 0, .int .i64 0, .bool false] 40) := ⟨_, rfl⟩
  have hba : Below w.heap.size w wa := by rw [hwa]; exact (Below.refl _ _).alloc (Nat.le_refl _) _
  have hblk : wa.heap[w.heap.size]? = some (.cells #[.int .i64 0, .int .i64 0, .int .i64 0, .int .i64 0, .int .i64 0, .int .i64 0, .int .i64 0, .bool false] 40 (0, 0)) := by rw [hwa]; exact heap_alloc_new _ _
  have HBA := hid hba
  have HBLK := hid hblk
  clear hba hblk h hr hk hobj
  go_enter Tryd.func41, Tryd.ntmps41
  go_wp2_with fail
  rw [← hwa]
  refine (HKS.out _ HBA.out).mono ?_
  rintro e1 w2 ⟨rfl, hb2⟩
  have hx2 := (hb2.block _ (blk_lt HBLK.out)).trans HBLK.out
  have HB2 := hid (HBA.out.trans (hb2.mono HBA.out.size))
  have r0 := blk_cell hx2 0
  have r1 := blk_cell hx2 1
  have r2 := blk_cell hx2 2
  have r3 := blk_cell hx2 3
  have r4 := blk_cell hx2 4
  have r5 := blk_cell hx2 5
  have r6 := blk_cell hx2 6
  have r7 := blk_cell hx2 7
  have rf := fun j => blk_free hx2 j
  have hlr := blk_lt hx2
  simp at r0 r1 r2 r3 r4 r5 r6 r7
  clear hx2 hb2 x0 hlt hwa
  go_wp2_with fail
  refine bodyPost_ret (v := .tuple #[.agg #[.int .i64 pc, .int .i64 c0, .int .i64 c1, .int .i64 c2, .int .i64 c3, .int .i64 c4, .int .i64 c5, .bool f], errV e]) (by simp [results, Tryd.results41, go_sem, r0, r1, r2, r3, r4, r5, r6, r7]) rfl ?_
  exact ⟨rfl, ((((((((HB2.out.setCell (Nat.le_refl _) _).setCell (Nat.le_refl _) _).setCell (Nat.le_refl _) _).setCell (Nat.le_refl _) _).setCell (Nat.le_refl _) _).setCell (Nat.le_refl _) _).setCell (Nat.le_refl _) _).setCell (Nat.le_refl _) _)⟩

/-- What a tick of tables leaves. -/
def TabGo (w : World) (tb kb : Nat) (p : Pl) (ll : List (List Span)) (T : TM) (t : Tst) (q : Ev × Tst) (e : Ending) (w' : World) : Prop :=
  ∃ T', e = .returned (.agg #[.int .i64 q.1.tick, .int .i64 q.1.room, .int .i64 q.1.pc, .int .i64 q.1.what]) ∧ Went w w' (tabT tb kb p ll T t) (tabT tb kb p ll T' q.2)
theorem ttick_any (h : TabAt w tb kb p ll T t) (hr : TRight p ll) (hk : TOk p ll t B) (hB : B < 4611686018427387904) :
    Calls Tryd.prog 38 #[.pointer (some ⟨tb, 0, none⟩)] w (TabGo w tb kb p ll T t (tTick p ll t)) := by
  have HN : Hid (∀ w', Below w.heap.size w w' → Calls Tryd.prog 39 #[.pointer (some ⟨tb, 0, none⟩)] w' fun e w'' => e = .returned (.int .i64 (tNow p t)) ∧ Below w'.heap.size w' w'') := fun w' hb => tnow_any (h.new hb) hr hk hB
  have hnl := tNow_lt hk
  unfold tTick
  obtain ⟨n, hn⟩ : ∃ n, tNow p t = n := ⟨_, rfl⟩
  rw [hn] at HN hnl ⊢
  have hsn := List.getElem?_eq_getElem hnl
  have hmem := List.getElem_mem hnl
  rw [List.getD_eq_getElem?_getD, hsn, Option.getD_some]
  generalize ll[n] = s at hsn hmem ⊢
  have HTB : Hid (∀ (y : Tl) (w' : World), y.l = s → y.At w' → TabAt w' tb kb p ll T ⟨t.k, n, t.next⟩ → Calls Tryd.prog 75 #[.pointer (some ⟨kb, 0, none⟩), .slice y.A y.l.length y.c] w' (KTicked 152 201 145 w' kb T.K (tickBy p s t.k))) := fun y w' h1 h2 h3 => by
    subst h1
    exact ktickBy_any w' kb T.K t.k p B y.A y.c y.l hr.plan h3.kat.2 hk.k hB h3.kat.1 h2.1 h2.2.1 (tab_spans hr hmem)
  have HSN := hid hsn
  have HA := hid ((Amid.start h.lie).box (evV 0 0 0 0) 34)
  have HT0 := hid h
  obtain ⟨⟨ev, k'⟩, hq⟩ : ∃ q, q = tickBy p s t.k := ⟨_, rfl⟩
  rw [← hq] at HTB ⊢
  obtain ⟨a, b, c, d⟩ := ev
  clear hq hr hk hB hnl hmem hsn hn h
  go_enter Tryd.func38, Tryd.ntmps38
  go_wp2_with fail
  refine (HN.out _ ((Below.refl _ _).alloc (Nat.le_refl _) _)).mono ?_
  rintro e w1 ⟨rfl, hb1⟩
  have ha1 := HA.out.new hb1
  have ha2 := ha1.go (ha1.here.setNow n)
  have hobj := ha1.here.obj
  unfold tabObj at hobj
  have x3 := blk_cell hobj 3
  have xf := blk_free hobj 3
  have hlt := blk_lt hobj
  simp at x3
  obtain ⟨w2, hw2⟩ : ∃ w2, w2 = w1.setCell ⟨tb, 3, none⟩ (.int .i64 n) := ⟨_, rfl⟩
  rw [← hw2] at ha2
  have HA2 := hid ha2
  clear ha1 ha2 hobj hb1
  go_upto_region 2 with fail
  rw [← hw2]
  clear hw2 x3 xf hlt
  have hobj := HA2.out.here.obj
  unfold tabObj at hobj
  have x0 := blk_cell hobj 0
  have x2 := blk_cell hobj 2
  have x3 := blk_cell hobj 3
  have hlt := blk_lt hobj
  simp at x0 x2 x3
  obtain ⟨y, ob, off, hyl, hyA, hyc, hyb, hyi, hyn, hym, hyat⟩ := HA2.out.here.item HSN.out
  have HYL := hid hyl
  have HYA := hid hyat
  rw [hyA] at x2
  generalize T.ts.length = m at x2 hyi hyn
  generalize T.c = mc at x2 hyn hym
  unfold maxLen at hym
  have hni : (n : Int) < (m : Int) := by omega
  clear hobj hyl hyat hyA
  go_still_tail 14, (by kernel_rfl)
  go_wp2_with fail
  refine (HTB.out y w2.drew HYL.out (HYA.out.new (Below.refl _ _).drew) HA2.out.drew.here).mono ?_
  rintro e w3 ⟨K', rfl, h1, h2, h3, h4⟩
  have ha3 := HA2.out.drew.go (HA2.out.drew.here.ticked h1 h2 h3 h4)
  have hres : w3.heap[w.heap.size]? = some (.cells (evV 0 0 0 0) 34 (0, 0)) := ha3.get 0 rfl
  have hblk := put4_heap hres (.int .i64 a) (.int .i64 b) (.int .i64 c) (.int .i64 d)
  have ha4 := (ha3.write 0 rfl (put4_keep _ _ _ _ _ _) hblk).went
  have HRT := hid ha4
  have HBK := hid hblk
  have y0 := blk_cell hres 0
  have y1 := blk_cell hres 1
  have y2 := blk_cell hres 2
  have y3 := blk_cell hres 3
  have yf := fun j => blk_free hres j
  simp [evV] at y0 y1 y2 y3
  clear hres hblk h1 h2 h3 h4 ha3 ha4 x0 x2 x3 hlt hyc hyb hyi hyn hym hni
  go_wp2_with fail
  obtain ⟨wz, hwz⟩ : ∃ wz, wz = put4 w3 w.heap.size (.int .i64 a) (.int .i64 b) (.int .i64 c) (.int .i64 d) := ⟨_, rfl⟩
  have hret := HRT.out
  have hblk := HBK.out
  rw [← hwz] at hret
  unfold put4 at hwz
  rw [← hwz] at hblk ⊢
  have z0 := blk_cell hblk 0
  have z1 := blk_cell hblk 1
  have z2 := blk_cell hblk 2
  have z3 := blk_cell hblk 3
  simp at z0 z1 z2 z3
  exact bodyPost_ret (v := .agg #[.int .i64 a, .int .i64 b, .int .i64 c, .int .i64 d]) (by simp [results, Tryd.results38, go_sem, z0, z1, z2, z3]) rfl ⟨_, rfl, hret⟩
/-- .. of tables that stand. -/
theorem ttick_stand {w0 wr : World} {ts : List Tg} {i : Nat} (h : Stand w0 wr ts) (hi : ts[i]? = some (tabT tb kb p ll T t)) (hr : TRight p ll) (hk : TOk p ll t B) (hB : B < 4611686018427387904) :
    Calls Tryd.prog 38 #[.pointer (some ⟨tb, 0, none⟩)] wr fun e w' => ∃ T', e = .returned (.agg #[.int .i64 (tTick p ll t).1.tick, .int .i64 (tTick p ll t).1.room, .int .i64 (tTick p ll t).1.pc, .int .i64 (tTick p ll t).1.what]) ∧ Stand w0 w' (ts.set i (tabT tb kb p ll T' (tTick p ll t).2)) := by
  refine (ttick_any (h.get hi).here hr hk hB).mono ?_
  rintro e w' ⟨T', rfl, hw⟩
  exact ⟨T', rfl, h.go i hi hw⟩
theorem task_stand {w0 wr : World} {ts : List Tg} {i : Nat} (h : Stand w0 wr ts) (hi : ts[i]? = some (tabT tb kb p ll T t)) (hn : ll.length ≤ 4) (a : Int) :
    Calls Tryd.prog 37 #[.pointer (some ⟨tb, 0, none⟩), .int .i64 a] wr fun e w' => e = .returned (errV (askErr ll a)) ∧ Stand w0 w' (ts.set i (tabT tb kb p ll T (tAsk ll t a))) := by
  refine (task_any (h.get hi).here hn a).mono ?_
  rintro e w' ⟨rfl, hw⟩
  exact ⟨rfl, h.go i hi hw⟩
end
end Go.Proofs.YtongkiccglaniaaDoor
