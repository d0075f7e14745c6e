/- Package log: the contract of redo at a text of whole records. Conditions: 'Desk' and the table of forms, which the row lists; no text is longer than 2^30 bytes. -/
import Derived.Test.YthafahnlfpkkbaaGreatDoorLogGAct
import Derived.Test.YthafahnlfpkkbaaGreatDoorCelled
import Derived.Test.YthafahnlfpkkbaaGreatDoorRangeU
import Derived.Test.YthafahnlfpkkbaaGreatDoorDeskU
import Derived.Test.YthafahnlfpkkbaaGreatDoorRunU
import Derived.RangeFuncBox
namespace Go.Proofs.YthafahnlfpkkbaaGreatDoor
open Go.RowKit Go.Shelf
set_option maxRecDepth 100000
attribute [local go_sem] Oper.semAt_some

/-- Midway: so many records are done again. -/
def RedoAt (w0 : World) (ts : List Tg) (b0 b1 b2 t kb : Nat) (p : Pl) (l : List Lrec) (pre : List ByteArray) (W : World) : Prop :=
  ∃ (M : KM) (v : Value), Stand w0 W (kTh kb p M (runRecs p (l.take pre.length)) :: bxT b0 54 (.pointer none) :: bxT b1 35 .nilIface :: bxT b2 54 (.pointer (some ⟨kb, 0, none⟩)) :: bxT t 9 v :: ts)
theorem redo_celled {ts : List Tg} (hC : ∀ t ∈ ts, Celled t) {b0 b1 b2 t kb T0 T1 T2 T3 : Nat} {p : Pl} {M : KM} {k : Kst} {v0 v1 v2 v3 : Value} :
    ∀ u ∈ (kTh kb p M k :: bxT b0 T0 v0 :: bxT b1 T1 v1 :: bxT b2 T2 v2 :: bxT t T3 v3 :: ts), Celled u := by
  intro u hu
  simp only [List.mem_cons] at hu
  rcases hu with rfl | rfl | rfl | rfl | rfl | hu
  · exact celled_k _ _ _ _ _ _ _
  · exact celled_blk _ rfl
  · exact celled_blk _ rfl
  · exact celled_blk _ rfl
  · exact celled_blk _ rfl
  · exact hC u hu
theorem RedoAt.abide {w0 : World} {ts : List Tg} (hC : ∀ t ∈ ts, Celled t) (b0 b1 b2 t kb B : Nat) (hB : w0.heap.size ≤ B) (p : Pl) (l : List Lrec) : Abide B t (RedoAt w0 ts b0 b1 b2 t kb p l) := by
  refine ⟨fun s W W' row ⟨M, v, h⟩ hg hr => ⟨M, v, h.turned (redo_celled hC) hg fun r e => ⟨by have := (hr r e).1; omega, (hr r e).2⟩⟩, fun s W u ⟨M, v, h⟩ => ⟨M, u, ?_⟩⟩
  exact h.go 4 rfl (bx_set (h.get (i := 4) rfl) u)
theorem redo_line {l : List Lrec} {t x : ByteArray} (ht : t.data.toList = recsText l) {pre : List ByteArray} (h : pre ++ [x] <+: linesB t) : ∃ r, l[pre.length]? = some r ∧ x = ⟨(recText r).toArray⟩ := by
  obtain ⟨q, hq⟩ := h
  have h1 : (linesB t)[pre.length]? = some x := by rw [← hq]; simp
  unfold linesB at h1
  rw [ht, lines_recs, List.map_map, List.getElem?_map] at h1
  cases hl : l[pre.length]? with
  | none => rw [hl] at h1; simp at h1
  | some r => rw [hl] at h1; simp at h1; exact ⟨r, rfl, h1.symm⟩
theorem redo_len {l : List Lrec} {t : ByteArray} (ht : t.data.toList = recsText l) : (linesB t).length = l.length := by
  unfold linesB; rw [ht, lines_recs, List.length_map, List.length_map]
/-- The end: the results lie in their cells. -/
theorem redo_ret {W9 : World} {D b0 b1 : Nat} {v0 v1 : Value} {a : Act} {T0 T1 : Nat} {R : Ending → World → Prop} (h0 : Boxed W9 b0 T0 v0) (h1 : Boxed W9 b1 T1 v1) (hD0 : b0 ≠ D) (hD1 : b1 ≠ D) (hK : W9.heap[D]? = some (.deferred (some [])))
    (h2 : a.tmps[4]? = some (.pointer (some ⟨b0, 0, none⟩))) (h3 : a.tmps[5]? = some (.pointer (some ⟨b1, 0, none⟩))) (hd : a.defers = [{ target := .collected D, args := #[] }]) (h : R (.returned (.tuple #[v0, v1])) (W9.putObj D (.deferred none))) :
    bodyPostM Fence.wide 3 Tryz.prog Tryz.f99 R .ret a W9 := by
  obtain ⟨tmps, defers⟩ := a
  simp only at h2 h3 hd
  subst hd
  refine ⟨by simp, .inl ⟨_, _, rfl, run_takeDeferred hK, ?_⟩⟩
  have e0 := (h0.kept (grownBy_putObj' W9 D (.deferred none)) (by simp; omega)).cell
  have e1 := (h1.kept (grownBy_putObj' W9 D (.deferred none)) (by simp; omega)).cell
  refine ⟨.tuple #[v0, v1], ?_, h⟩
  simp [results, Tryz.f99, go_sem, h2, h3, e0, e1]

set_option maxHeartbeats 8000000 in
theorem redo_any {w0 w : World} {ts : List Tg} (hC : ∀ t ∈ ts, Celled t) (hst : Stand w0 w ts) {lb : Nat} {m : PM} {v4 v5 v6 v7 v8 : Value}
    (hlog : w.heap[lb]? = some (.cells #[.slice m.A m.ros.length m.c, .int .i64 m.ticks, .slice m.sA m.spans.length m.sc, .slice m.wA m.wires.length m.wc, v4, v5, v6, v7, v8] 174 (0, 0))) (hm : PlanAt w m) (he : planChk m.pl = 0) (hf : Forms w0) (hd : Desk w0)
    (l : List Lrec) (hl : ∀ x ∈ l, x.ok m.pl.code.length) (hfew : l.length ≤ 1000) (t : ByteArray) (ht : t.data.toList = recsText l) (hts : t.size ≤ 1073741824) :
    Calls Tryz.prog 99 #[.pointer (some ⟨lb, 0, none⟩), .string t] w fun e w' => ∃ kb M, e = .returned (.tuple #[.pointer (some ⟨kb, 0, none⟩), .nilIface]) ∧ Stand w0 w' (kTh kb m.pl M (runRecs m.pl l) :: ts) := by
  have hp := planChk_ok he
  obtain ⟨w1, hw1⟩ : ∃ w1, w1 = (w.alloc (.cells #[.pointer none] 54)).alloc (.cells #[.nilIface] 35) := ⟨_, rfl⟩
  have hb1 : Below w.heap.size w w1 := by rw [hw1]; exact ((Below.refl _ _).alloc (Nat.le_refl _) _).alloc (by simp) _
  have hst1 : Stand w0 w1 (bxT (w.heap.size + 1) 35 .nilIface :: bxT w.heap.size 54 (.pointer none) :: ts) := by
    have h := (hst.push 54 (.pointer none)).push 35 .nilIface
    rw [sz_alloc] at h
    rw [hw1]; exact h
  have HST1 := hid hst1
  have HNEW := hid (new_run w1 m (hf.new hst1.below) (hm.new hb1) he)
  unfold KNew at HNEW
  have HD1 : Hid (∀ w', Below w0.heap.size w0 w' → Desk w') := hid fun w' hb => hd.new hb
  obtain ⟨p, hpp⟩ : ∃ p, p = m.pl := ⟨_, rfl⟩
  rw [← hpp] at HNEW hl hp ⊢
  obtain ⟨nn, hnn⟩ : ∃ nn, m.ros.length = nn := ⟨_, rfl⟩
  obtain ⟨ns, hns⟩ : ∃ ns, m.spans.length = ns := ⟨_, rfl⟩
  obtain ⟨nw, hnw⟩ : ∃ nw, m.wires.length = nw := ⟨_, rfl⟩
  rw [hnn, hns, hnw] at hlog HNEW
  have x0 := blk_cell hlog 0
  have x1 := blk_cell hlog 1
  have x2 := blk_cell hlog 2
  have x3 := blk_cell hlog 3
  have hlx := blk_lt hlog
  simp at x0 x1 x2 x3
  have HP := hid hp
  have HL := hid hl
  have HT := hid ht
  have HC := hid hC
  have hsz1 : w1.heap.size = w.heap.size + 1 + 1 := by rw [hw1]; simp
  have hw0 : w0.heap.size ≤ w.heap.size := hst.below.size
  clear hst hst1 hlog hm he hf hd hl ht hp hpp hnn hns hnw hb1 hC
  refine (callsIn_wide (n := 3)).1 ?_
  refine callsIn_of_wp_marks Tryz.func99 rfl trivial ?_ rfl
  simp only [Tryz.ntmps99, List.size_toArray, List.length_cons, List.length_nil, Nat.reduceAdd, Nat.reduceSub, Array.replicate_succ, Array.replicate_zero, List.push_toArray, List.append_toArray, List.nil_append, List.cons_append]
  gi_wp2_with (refine ⟨trivial, ?_⟩; gi_at_call 25; rw [← hw1]; refine (callsIn_wide.2 HNEW.out).mono ?_; rintro e w2 ⟨kb, M, rfl, hk⟩; have HK := hid hk; clear hk; clear hw1)
  refine ⟨trivial, ?_⟩
  gi_at_call 69
  refine (callsIn_wide.2 (lines_made _ _)).mono ?_
  rintro e w3 ⟨rfl, rfl⟩
  gi_wp2
  obtain ⟨W0, hW0⟩ : ∃ W0, (w2.alloc (.cells #[.pointer (some ⟨kb, 0, none⟩)] 54)).alloc (.cells #[.string t] 9) = W0 := ⟨_, rfl⟩
  have hS0 : Stand w0 W0 (kTh kb p M (runRecs p []) :: bxT w.heap.size 54 (.pointer none) :: bxT (w.heap.size + 1) 35 .nilIface :: bxT w2.heap.size 54 (.pointer (some ⟨kb, 0, none⟩)) :: bxT (w2.heap.size + 1) 9 (.string t) :: ts) := by
    have h3 : Stand w0 w2 (kTh kb p M (kNew p) :: bxT (w.heap.size + 1) 35 .nilIface :: bxT w.heap.size 54 (.pointer none) :: ts) := (HST1.out.add HK.out.below (k_lie HK.out.kat HK.out.plan) (fun j hj => HK.out.fresh j (.inl hj)) (fun j hj => .inl (HK.out.fresh j hj))).head
    have h5 := (h3.push 54 (.pointer (some ⟨kb, 0, none⟩))).push 9 (.string t)
    rw [sz_alloc] at h5
    rw [← hW0]
    exact h5.sort5
  have hb2 := HK.out.below
  have hs2 := hb2.size
  have hsz : W0.heap.size = w2.heap.size + 2 := by rw [← hW0]; simp
  have htb : Boxed W0 (w2.heap.size + 1) 9 (.string t) := (hS0.get (i := 4) rfl).here
  have HS0 := hid hS0
  have HTB := hid htb
  rw [hW0]
  clear hW0 hS0 hb2 htb HST1 HNEW x0 x1 x2 x3 HK
  refine range_cell (α := ByteArray) (all := linesB t) (t := w2.heap.size + 1) rfl (by decide) (gf := 111) (lb := #[.pointer (some ⟨w2.heap.size + 1, 0, none⟩)]) rfl trivial (enters_of Tryz.func111 (by kernel_rfl) rfl)
    (encs := fun x => #[.string x]) (by omega) (lines_gives _ _ 9 t (by omega) W0 HTB.out) (fun _ => rfl)
    (fun pre W => RedoAt w0 ts w.heap.size (w.heap.size + 1) w2.heap.size (w2.heap.size + 1) kb p l pre W) (fun _ _ _ => False)
    (RedoAt.abide HC.out _ _ _ _ _ _ (by omega) p l)
    (fun _ => ⟨fun _ _ _ _ hs _ _ => hs, fun _ _ _ hs => hs⟩) ⟨M, _, HS0.out⟩
    (fun x => { tmps := #[.pointer (some ⟨lb, 0, none⟩), .string t, undef, undef, .pointer (some ⟨w.heap.size, 0, none⟩), .pointer (some ⟨w.heap.size + 1, 0, none⟩), .pointer (some ⟨w2.heap.size, 0, none⟩), .nilIface, .string x, undef, undef, undef, .tuple #[.pointer (some ⟨kb, 0, none⟩), .nilIface], .pointer (some ⟨lb, 0, none⟩), .pointer (some ⟨lb, 0, none⟩), .pointer (some ⟨lb, 0, none⟩), .agg #[.slice m.A nn m.c, .int .i64 m.ticks, .slice m.sA ns m.sc, .slice m.wA nw m.wc], .tuple #[.pointer (some ⟨kb, 0, none⟩), .nilIface], .pointer (some ⟨kb, 0, none⟩), .nilIface, .nilIface, .bool false, undef, .string t, .func (.func 111) #[] #[.pointer (some ⟨w2.heap.size + 1, 0, none⟩)], .string x, undef, undef, undef, undef, undef, undef, undef, undef, undef, undef, undef, undef, undef, undef, undef, undef, undef], defers := [] }) ?assign ?body ?done ?stop
  case assign =>
    intro l x W K hK
    gi_wp2
    exact hK
  case stop => rintro D c pre W _ _ h _; exact h.elim
  case body =>
    rintro l0 pre x W ⟨M1, v, hS⟩ hpre
    obtain ⟨r, hr, hxr⟩ := redo_line HT.out hpre
    have hrl := (List.getElem?_eq_some_iff.1 hr).1
    have hmem := List.mem_of_getElem? hr
    have hrok := HL.out r hmem
    have hxs : x.size ≤ 12 := by rw [hxr, Lib.size_eq]; exact rec_le HP.out.most5 hrok
    obtain ⟨y, hy⟩ : ∃ y : ByteArray, y = ⟨(recLine r).toArray⟩ := ⟨_, rfl⟩
    have hyl : y.data.toList = recLine r := by rw [hy]
    have hys : y.size ≤ 12 := by
      rw [Lib.size_eq, hyl]
      have h1 : (recText r).length = (recLine r).length + 1 := by unfold recText; simp
      have h2 := rec_le HP.out.most5 hrok
      omega
    have HTRIM : Hid (∀ w', Calls Tryz.prog 143 #[.string x, .string ⟨#[10]⟩] w' fun e w'' => e = .returned (.string y) ∧ w' = w'') := hid fun w' => by
      refine (Tryz.strings_TrimSuffix x ⟨#[10]⟩ w' (by omega)).mono ?_
      rintro e w'' ⟨rfl, rfl⟩
      refine ⟨?_, rfl⟩
      have e1 : Lib.trimSuffix x.data.toList (⟨#[10]⟩ : ByteArray).data.toList = recLine r := by
        rw [hxr]
        exact (cut_line (recLine r)).1
      rw [e1, hy]
    have hdW := HD1.out W hS.below
    have HSPLIT := hid (split_any y (by omega) W hdW)
    unfold SplitGot at HSPLIT
    have HR := hid hr
    have HROK := hid hrok
    have HYL := hid hyl
    have HS := hid hS
    have HB2 := hid hS.below
    clear hS hr hxr hmem hrok hy hyl hdW
    dsimp only
    gi_wp2_with (first
      | (refine ⟨trivial, ?_⟩; gi_at_call 143; refine (CallsIn.inRound l0 (callsIn_wide.2 (HTRIM.out _))).mono ?_; rintro e w4 ⟨rfl, rfl⟩)
      | (refine ⟨trivial, ?_⟩; gi_at_call 114; refine (CallsIn.inRound l0 (callsIn_wide.2 HSPLIT.out)).mono ?_; rintro e w5 ⟨ws, nws, hwl, hwm, hws, hwn, rfl, rfl⟩))
    refine ⟨trivial, ?_⟩
    gi_at_call 115
    have hno : numsOf 4 (ws.map fun s => s.data.toList) = some r.nums := by rw [hwm, HYL.out]; exact rec_nums HP.out.most5 HROK.out
    have hnum := numbers_any ws (some ⟨W.heap.size, 0, none⟩) nws nws 4 hwl (by omega) (fun s hs => by have := hws s hs; omega) (W.alloc (.cells (ws.map Value.string).toArray 9)) (HD1.out _ (HB2.out.alloc HB2.out.size _)) (split_sl hwl)
    refine (CallsIn.inRound l0 (callsIn_wide.2 hnum)).mono ?_
    rintro e w6 ⟨hb6, ⟨nums, A, n6, c6, hn1, hn2, rfl, hrow, hfr⟩ | ⟨hn1, _⟩⟩
    · rw [hno] at hn1
      obtain rfl : r.nums = nums := Option.some.inj hn1
      subst hn2
      have hn0 : 0 < r.nums.length := by cases r <;> simp [Lrec.nums]
      obtain ⟨nb, off, rfl, _, hxs6⟩ := hrow.sl.2 hn0
      have hb06 : Below W.heap.size W w6 := ((Below.refl _ W).alloc (Nat.le_refl _) _).trans (hb6.mono (by simp))
      have hS6 := (HS.out.new hb06).still (redo_celled HC.out)
      have q6 : w6.cell? ⟨w2.heap.size, 0, none⟩ = some (.pointer (some ⟨kb, 0, none⟩)) := (blk_cell (show w6.heap[w2.heap.size]? = some (.cells #[.pointer (some ⟨kb, 0, none⟩)] 54 (0, 0)) from (hS6.get (i := 3) rfl).here) 0).trans rfl
      have hkok := runRecs_ok HP.out (l := l.take pre.length) fun y hy => HL.out y (List.mem_of_mem_take hy)
      have hlen : (l.take pre.length).length ≤ 1000 := Nat.le_trans (List.length_take_le' _ _) hfew
      have HACT := hid (lact_rec HP.out hkok (by omega) HROK.out nb off c6 hxs6 hS6)
      have HB06 := hid hb06
      clear hno hnum hn1 hrow hfr hxs6 hb6 hb06 hS6 hkok hwm hws hwl
      gi_wp2_with (refine ⟨trivial, ?_⟩; gi_at_call 140; refine (CallsIn.inRound l0 (callsIn_wide.2 HACT.out)).mono ?_; rintro e w7 ⟨rfl, M7, hS7⟩; have HS7 := hid hS7; clear hS7 HACT)
      have hk7 : doRec p (runRecs p (l.take pre.length)) r = runRecs p (l.take (pre ++ [x]).length) := by
        rw [← runRecs_snoc, List.length_append, List.length_singleton, List.take_add_one, HR.out]; rfl
      rw [hk7] at HS7
      have h7 : Stand w0 w7 ((kTh kb p M7 (runRecs p (l.take (pre ++ [x]).length)) :: bxT w.heap.size 54 (.pointer none) :: bxT (w.heap.size + 1) 35 .nilIface :: bxT w2.heap.size 54 (.pointer (some ⟨kb, 0, none⟩)) :: bxT (w2.heap.size + 1) 9 v :: ts) ++ [stillT w6]) := HS7.out
      refine ⟨(keeps_below HB06.out).trans (still_keeps h7.mem_last.here), ?_, M7, v, h7.few⟩
      exact (show w7.heap[w2.heap.size + 1]? = some (.cells #[v] 9 (0, 0)) from (h7.few.get (i := 4) rfl).here).trans (show W.heap[w2.heap.size + 1]? = some (.cells #[v] 9 (0, 0)) from (HS.out.get (i := 4) rfl).here).symm
    · rw [hno] at hn1; cases hn1
  case done =>
    rintro D W hD ⟨M1, v, hS⟩ hK
    rw [redo_len HT.out, List.take_length] at hS
    have b0 : Boxed W w.heap.size 54 (.pointer none) := (hS.get (i := 1) rfl).here
    have b1 : Boxed W (w.heap.size + 1) 35 .nilIface := (hS.get (i := 2) rfl).here
    have b2 : Boxed W w2.heap.size 54 (.pointer (some ⟨kb, 0, none⟩)) := (hS.get (i := 3) rfl).here
    have x0 := b0.cell
    have x1 := b1.cell
    have x2 := b2.cell
    have f0 := b0.frozen
    have f1 := b1.frozen
    have f1' : ∀ u, (W.setCell ⟨w.heap.size, 0, none⟩ u).frozen? ⟨w.heap.size + 1, 0, none⟩ = false := fun u => (b1.other (by omega) u).frozen
    have x1' : ∀ u, (W.setCell ⟨w.heap.size, 0, none⟩ u).cell? ⟨w.heap.size + 1, 0, none⟩ = some .nilIface := fun u => (b1.other (by omega) u).cell
    have HS := hid hS
    have HK := hid hK
    have HB0 := hid b0
    have HB1 := hid b1
    clear hS hK b0 b1 b2
    dsimp only
    gi_wp2
    have hS1 := HS.out.go 1 rfl (bx_set (HS.out.get (i := 1) rfl) (.pointer (some ⟨kb, 0, none⟩)))
    have hS9 := hS1.go 2 rfl (bx_set (hS1.get (i := 2) rfl) .nilIface)
    have hK9 : ((W.setCell ⟨w.heap.size, 0, none⟩ (.pointer (some ⟨kb, 0, none⟩))).setCell ⟨w.heap.size + 1, 0, none⟩ .nilIface).heap[D]? = some (.deferred (some [])) := set_keep (set_keep HK.out (by omega)) (by omega)
    refine redo_ret (D := D) ((HB0.out.set _).other (by omega) _) ((HB1.out.other (by omega) _).set _) (by omega) (by omega) hK9 rfl rfl rfl ?_
    exact ⟨kb, M1, rfl, Stand.drop4 (hS9.turned (redo_celled HC.out) (grownBy_putObj' _ D (.deferred none)) (fun r e => by cases e; exact ⟨by omega, _, hK9, rfl⟩))⟩
end Go.Proofs.YthafahnlfpkkbaaGreatDoor
