/- Several parts: each begins with what it says. -/
import Derived.Test.YtldllmhgofacbaaGreatDoorLogGUL
import Derived.Test.YtldllmhgofacbaaGreatDoorStandUL
import Derived.Test.YtldllmhgofacbaaGreatDoorRangeUL
import Derived.Test.YtldllmhgofacbaaGreatDoorDeskUL
import Derived.Test.YtldllmhgofacbaaGreatDoorRunUL
import Derived.RangeFuncBox
import Derived.BigRegion
import Derived.Test.YtldllmhgofacbaaGreatDoorKernNew
import Derived.Test.YtldllmhgofacbaaGreatDoorOwnU
/- Package log: the contract of redo at a text of whole records. Conditions: 'Desk' and the table of forms, which the row lists; no text is longer than 2^30 bytes. -/
namespace Go.Proofs.YtldllmhgofacbaaGreatDoor
open Go.RowKit Go.Shelf
set_option maxRecDepth 100000
attribute [local go_sem] Oper.semAt_some

/-- Midway: so many records are done again. -/
def RedoAt (w0 : World) (ts : List Tg) (b0 b1 b2 t kb : Nat) (p : Pl) (l : List Lrec) (pre : List ByteArray) (W : World) : Prop :=
  ∃ (M : KM) (v : Value), Stand w0 W (kTh kb p M (runRecs p (l.take pre.length)) :: bxT b0 44 (.pointer none) :: bxT b1 30 .nilIface :: bxT b2 44 (.pointer (some ⟨kb, 0, none⟩)) :: bxT t 9 v :: ts)
theorem redo_celled {ts : List Tg} (hC : ∀ t ∈ ts, Celled t) {b0 b1 b2 t kb T0 T1 T2 T3 : Nat} {p : Pl} {M : KM} {k : Kst} {v0 v1 v2 v3 : Value} :
    ∀ u ∈ (kTh kb p M k :: bxT b0 T0 v0 :: bxT b1 T1 v1 :: bxT b2 T2 v2 :: bxT t T3 v3 :: ts), Celled u := by
  intro u hu
  simp only [List.mem_cons] at hu
  rcases hu with rfl | rfl | rfl | rfl | rfl | hu
  · exact celled_k _ _ _ _ _ _ _
  · exact celled_blk _ rfl
  · exact celled_blk _ rfl
  · exact celled_blk _ rfl
  · exact celled_blk _ rfl
  · exact hC u hu
theorem RedoAt.abide {w0 : World} {ts : List Tg} (hC : ∀ t ∈ ts, Celled t) (b0 b1 b2 t kb B : Nat) (hB : w0.heap.size ≤ B) (p : Pl) (l : List Lrec) : Abide B t (RedoAt w0 ts b0 b1 b2 t kb p l) := by
  refine ⟨fun s W W' row ⟨M, v, h⟩ hg hr => ⟨M, v, h.turned (redo_celled hC) hg fun r e => ⟨by have := (hr r e).1; omega, (hr r e).2⟩⟩, fun s W u ⟨M, v, h⟩ => ⟨M, u, ?_⟩⟩
  exact h.go 4 rfl (bx_set (h.get (i := 4) rfl) u)
theorem redo_line {l : List Lrec} {t x : ByteArray} (ht : t.data.toList = recsText l) {pre : List ByteArray} (h : pre ++ [x] <+: linesB t) : ∃ r, l[pre.length]? = some r ∧ x = ⟨(recText r).toArray⟩ := by
  obtain ⟨q, hq⟩ := h
  have h1 : (linesB t)[pre.length]? = some x := by rw [← hq]; simp
  unfold linesB at h1
  rw [ht, lines_recs, List.map_map, List.getElem?_map] at h1
  cases hl : l[pre.length]? with
  | none => rw [hl] at h1; simp at h1
  | some r => rw [hl] at h1; simp at h1; exact ⟨r, rfl, h1.symm⟩
theorem redo_len {l : List Lrec} {t : ByteArray} (ht : t.data.toList = recsText l) : (linesB t).length = l.length := by
  unfold linesB; rw [ht, lines_recs, List.length_map, List.length_map]
/-- The end: the results lie in their cells. -/
theorem redo_ret {W9 : World} {D b0 b1 : Nat} {v0 v1 : Value} {a : Act} {T0 T1 : Nat} {R : Ending → World → Prop} (h0 : Boxed W9 b0 T0 v0) (h1 : Boxed W9 b1 T1 v1) (hD0 : b0 ≠ D) (hD1 : b1 ≠ D) (hK : W9.heap[D]? = some (.deferred (some [])))
    (h2 : a.tmps[4]? = some (.pointer (some ⟨b0, 0, none⟩))) (h3 : a.tmps[5]? = some (.pointer (some ⟨b1, 0, none⟩))) (hd : a.defers = [{ target := .collected D, args := #[] }]) (h : R (.returned (.tuple #[v0, v1])) (W9.putObj D (.deferred none))) :
    bodyPostM Fence.wide 3 Tryz.prog Tryz.f110 R .ret a W9 := by
  obtain ⟨tmps, defers⟩ := a
  simp only at h2 h3 hd
  subst hd
  refine ⟨by simp, .inl ⟨_, _, rfl, run_takeDeferred hK, ?_⟩⟩
  have e0 := (h0.kept (grownBy_putObj' W9 D (.deferred none)) (by simp; omega)).cell
  have e1 := (h1.kept (grownBy_putObj' W9 D (.deferred none)) (by simp; omega)).cell
  refine ⟨.tuple #[v0, v1], ?_, h⟩
  simp [results, Tryz.f110, go_sem, h2, h3, e0, e1]

set_option maxHeartbeats 8000000 in
theorem redo_any {w0 w : World} {ts : List Tg} (hC : ∀ t ∈ ts, Celled t) (hst : Stand w0 w ts) {lb : Nat} {m : PM} {v4 v5 v6 v7 v8 : Value}
    (hlog : w.heap[lb]? = some (.cells #[.slice m.A m.ros.length m.c, .int .i64 m.ticks, .slice m.sA m.spans.length m.sc, .slice m.wA m.wires.length m.wc, v4, v5, v6, v7, v8] 187 (0, 0))) (hm : PlanAt w m) (he : planChk m.pl = 0) (hf : Forms w0) (hd : Desk w0)
    (l : List Lrec) (hl : ∀ x ∈ l, x.ok m.pl.code.length) (hfew : l.length ≤ 1000) (t : ByteArray) (ht : t.data.toList = recsText l) (hts : t.size ≤ 1073741824) :
    Calls Tryz.prog 110 #[.pointer (some ⟨lb, 0, none⟩), .string t] w fun e w' => ∃ kb M, e = .returned (.tuple #[.pointer (some ⟨kb, 0, none⟩), .nilIface]) ∧ Stand w0 w' (kTh kb m.pl M (runRecs m.pl l) :: ts) := by
  have hp := planChk_ok he
  obtain ⟨w1, hw1⟩ : ∃ w1, w1 = (w.alloc (.cells #[.pointer none] 44)).alloc (.cells #[.nilIface] 30) := ⟨_, rfl⟩
  have hb1 : Below w.heap.size w w1 := by rw [hw1]; exact ((Below.refl _ _).alloc (Nat.le_refl _) _).alloc (by simp) _
  have hst1 : Stand w0 w1 (bxT (w.heap.size + 1) 30 .nilIface :: bxT w.heap.size 44 (.pointer none) :: ts) := by
    have h := (hst.push 44 (.pointer none)).push 30 .nilIface
    rw [sz_alloc] at h
    rw [hw1]; exact h
  have HST1 := hid hst1
  have HNEW := hid (new_run w1 m (hf.new hst1.below) (hm.new hb1) he)
  unfold KNew at HNEW
  have HD1 : Hid (∀ w', Below w0.heap.size w0 w' → Desk w') := hid fun w' hb => hd.new hb
  obtain ⟨p, hpp⟩ : ∃ p, p = m.pl := ⟨_, rfl⟩
  rw [← hpp] at HNEW hl hp ⊢
  obtain ⟨nn, hnn⟩ : ∃ nn, m.ros.length = nn := ⟨_, rfl⟩
  obtain ⟨ns, hns⟩ : ∃ ns, m.spans.length = ns := ⟨_, rfl⟩
  obtain ⟨nw, hnw⟩ : ∃ nw, m.wires.length = nw := ⟨_, rfl⟩
  rw [hnn, hns, hnw] at hlog HNEW
  have x0 := blk_cell hlog 0
  have x1 := blk_cell hlog 1
  have x2 := blk_cell hlog 2
  have x3 := blk_cell hlog 3
  have hlx := blk_lt hlog
  simp at x0 x1 x2 x3
  have HP := hid hp
  have HL := hid hl
  have HT := hid ht
  have HC := hid hC
  have hsz1 : w1.heap.size = w.heap.size + 1 + 1 := by rw [hw1]; simp
  have hw0 : w0.heap.size ≤ w.heap.size := hst.below.size
  clear hst hst1 hlog hm he hf hd hl ht hp hpp hnn hns hnw hb1 hC
  refine (callsIn_wide (n := 3)).1 ?_
  refine callsIn_of_wp_marks Tryz.func110 rfl trivial ?_ rfl
  simp only [Tryz.ntmps110, List.size_toArray, List.length_cons, List.length_nil, Nat.reduceAdd, Nat.reduceSub, Array.replicate_succ, Array.replicate_zero, List.push_toArray, List.append_toArray, List.nil_append, List.cons_append]
  gi_wp2_with (refine ⟨trivial, ?_⟩; gi_at_call 20; rw [← hw1]; refine (callsIn_wide.2 HNEW.out).mono ?_; rintro e w2 ⟨kb, M, rfl, hk⟩; have HK := hid hk; clear hk; clear hw1)
  refine ⟨trivial, ?_⟩
  gi_at_call 75
  refine (callsIn_wide.2 (lines_made _ _)).mono ?_
  rintro e w3 ⟨rfl, rfl⟩
  gi_wp2
  obtain ⟨W0, hW0⟩ : ∃ W0, (w2.alloc (.cells #[.pointer (some ⟨kb, 0, none⟩)] 44)).alloc (.cells #[.string t] 9) = W0 := ⟨_, rfl⟩
  have hS0 : Stand w0 W0 (kTh kb p M (runRecs p []) :: bxT w.heap.size 44 (.pointer none) :: bxT (w.heap.size + 1) 30 .nilIface :: bxT w2.heap.size 44 (.pointer (some ⟨kb, 0, none⟩)) :: bxT (w2.heap.size + 1) 9 (.string t) :: ts) := by
    have h3 : Stand w0 w2 (kTh kb p M (kNew p) :: bxT (w.heap.size + 1) 30 .nilIface :: bxT w.heap.size 44 (.pointer none) :: ts) := (HST1.out.add HK.out.below (k_lie HK.out.kat HK.out.plan) (fun j hj => HK.out.fresh j (.inl hj)) (fun j hj => .inl (HK.out.fresh j hj))).head
    have h5 := (h3.push 44 (.pointer (some ⟨kb, 0, none⟩))).push 9 (.string t)
    rw [sz_alloc] at h5
    rw [← hW0]
    exact h5.sort5
  have hb2 := HK.out.below
  have hs2 := hb2.size
  have hsz : W0.heap.size = w2.heap.size + 2 := by rw [← hW0]; simp
  have htb : Boxed W0 (w2.heap.size + 1) 9 (.string t) := (hS0.get (i := 4) rfl).here
  have HS0 := hid hS0
  have HTB := hid htb
  rw [hW0]
  clear hW0 hS0 hb2 htb HST1 HNEW x0 x1 x2 x3 HK
  refine range_cell (α := ByteArray) (all := linesB t) (t := w2.heap.size + 1) rfl (by decide) (gf := 120) (lb := #[.pointer (some ⟨w2.heap.size + 1, 0, none⟩)]) rfl trivial (enters_of Tryz.func120 (by kernel_rfl) rfl)
    (encs := fun x => #[.string x]) (by omega) (lines_gives _ _ 9 t (by omega) W0 HTB.out) (fun _ => rfl)
    (fun pre W => RedoAt w0 ts w.heap.size (w.heap.size + 1) w2.heap.size (w2.heap.size + 1) kb p l pre W) (fun _ _ _ => False)
    (RedoAt.abide HC.out _ _ _ _ _ _ (by omega) p l)
    (fun _ => ⟨fun _ _ _ _ hs _ _ => hs, fun _ _ _ hs => hs⟩) ⟨M, _, HS0.out⟩
    (fun x => { tmps := #[.pointer (some ⟨lb, 0, none⟩), .string t, undef, undef, .pointer (some ⟨w.heap.size, 0, none⟩), .pointer (some ⟨w.heap.size + 1, 0, none⟩), .pointer (some ⟨w2.heap.size, 0, none⟩), .nilIface, .string x, undef, undef, undef, .tuple #[.pointer (some ⟨kb, 0, none⟩), .nilIface], .pointer (some ⟨lb, 0, none⟩), .pointer (some ⟨lb, 0, none⟩), .pointer (some ⟨lb, 0, none⟩), .agg #[.slice m.A nn m.c, .int .i64 m.ticks, .slice m.sA ns m.sc, .slice m.wA nw m.wc], .tuple #[.pointer (some ⟨kb, 0, none⟩), .nilIface], .pointer (some ⟨kb, 0, none⟩), .nilIface, .nilIface, .bool false, undef, .string t, .func (.func 120) #[] #[.pointer (some ⟨w2.heap.size + 1, 0, none⟩)], .string x, undef, undef, undef, undef, undef, undef, undef, undef, undef, undef, undef, undef, undef, undef, undef, undef, undef], defers := [] }) ?assign ?body ?done ?stop
  case assign =>
    intro l x W K hK
    gi_wp2
    exact hK
  case stop => rintro D c pre W _ _ h _; exact h.elim
  case body =>
    rintro l0 pre x W ⟨M1, v, hS⟩ hpre
    obtain ⟨r, hr, hxr⟩ := redo_line HT.out hpre
    have hrl := (List.getElem?_eq_some_iff.1 hr).1
    have hmem := List.mem_of_getElem? hr
    have hrok := HL.out r hmem
    have hxs : x.size ≤ 12 := by rw [hxr, Lib.size_eq]; exact rec_le HP.out.most5 hrok
    obtain ⟨y, hy⟩ : ∃ y : ByteArray, y = ⟨(recLine r).toArray⟩ := ⟨_, rfl⟩
    have hyl : y.data.toList = recLine r := by rw [hy]
    have hys : y.size ≤ 12 := by
      rw [Lib.size_eq, hyl]
      have h1 : (recText r).length = (recLine r).length + 1 := by unfold recText; simp
      have h2 := rec_le HP.out.most5 hrok
      omega
    have HTRIM : Hid (∀ w', Calls Tryz.prog 104 #[.string x, .string ⟨#[10]⟩] w' fun e w'' => e = .returned (.string y) ∧ w' = w'') := hid fun w' => by
      refine (Tryz.strings_TrimSuffix x ⟨#[10]⟩ w' (by omega)).mono ?_
      rintro e w'' ⟨rfl, rfl⟩
      refine ⟨?_, rfl⟩
      have e1 : Lib.trimSuffix x.data.toList (⟨#[10]⟩ : ByteArray).data.toList = recLine r := by
        rw [hxr]
        exact (cut_line (recLine r)).1
      rw [e1, hy]
    have hdW := HD1.out W hS.below
    have HSPLIT := hid (split_any y (by omega) W hdW)
    unfold SplitGot at HSPLIT
    have HR := hid hr
    have HROK := hid hrok
    have HYL := hid hyl
    have HS := hid hS
    have HB2 := hid hS.below
    clear hS hr hxr hmem hrok hy hyl hdW
    dsimp only
    gi_wp2_with (first
      | (refine ⟨trivial, ?_⟩; gi_at_call 104; refine (CallsIn.inRound l0 (callsIn_wide.2 (HTRIM.out _))).mono ?_; rintro e w4 ⟨rfl, rfl⟩)
      | (refine ⟨trivial, ?_⟩; gi_at_call 123; refine (CallsIn.inRound l0 (callsIn_wide.2 HSPLIT.out)).mono ?_; rintro e w5 ⟨ws, nws, hwl, hwm, hws, hwn, rfl, rfl⟩))
    refine ⟨trivial, ?_⟩
    gi_at_call 124
    have hno : numsOf 4 (ws.map fun s => s.data.toList) = some r.nums := by rw [hwm, HYL.out]; exact rec_nums HP.out.most5 HROK.out
    have hnum := numbers_any ws (some ⟨W.heap.size, 0, none⟩) nws nws 4 hwl (by omega) (fun s hs => by have := hws s hs; omega) (W.alloc (.cells (ws.map Value.string).toArray 9)) (HD1.out _ (HB2.out.alloc HB2.out.size _)) (split_sl hwl)
    refine (CallsIn.inRound l0 (callsIn_wide.2 hnum)).mono ?_
    rintro e w6 ⟨hb6, ⟨nums, A, n6, c6, hn1, hn2, rfl, hrow, hfr⟩ | ⟨hn1, _⟩⟩
    · rw [hno] at hn1
      obtain rfl : r.nums = nums := Option.some.inj hn1
      subst hn2
      have hn0 : 0 < r.nums.length := by cases r <;> simp [Lrec.nums]
      obtain ⟨nb, off, rfl, _, hxs6⟩ := hrow.sl.2 hn0
      have hb06 : Below W.heap.size W w6 := ((Below.refl _ W).alloc (Nat.le_refl _) _).trans (hb6.mono (by simp))
      have hS6 := (HS.out.new hb06).still (redo_celled HC.out)
      have q6 : w6.cell? ⟨w2.heap.size, 0, none⟩ = some (.pointer (some ⟨kb, 0, none⟩)) := (blk_cell (show w6.heap[w2.heap.size]? = some (.cells #[.pointer (some ⟨kb, 0, none⟩)] 44 (0, 0)) from (hS6.get (i := 3) rfl).here) 0).trans rfl
      have hkok := runRecs_ok HP.out (l := l.take pre.length) fun y hy => HL.out y (List.mem_of_mem_take hy)
      have hlen : (l.take pre.length).length ≤ 1000 := Nat.le_trans (List.length_take_le' _ _) hfew
      have HACT := hid (lact_rec HP.out hkok (by omega) HROK.out nb off c6 hxs6 hS6)
      have HB06 := hid hb06
      clear hno hnum hn1 hrow hfr hxs6 hb6 hb06 hS6 hkok hwm hws hwl
      gi_wp2_with (refine ⟨trivial, ?_⟩; gi_at_call 155; refine (CallsIn.inRound l0 (callsIn_wide.2 HACT.out)).mono ?_; rintro e w7 ⟨rfl, M7, hS7⟩; have HS7 := hid hS7; clear hS7 HACT)
      have hk7 : doRec p (runRecs p (l.take pre.length)) r = runRecs p (l.take (pre ++ [x]).length) := by
        rw [← runRecs_snoc, List.length_append, List.length_singleton, List.take_add_one, HR.out]; rfl
      rw [hk7] at HS7
      have h7 : Stand w0 w7 ((kTh kb p M7 (runRecs p (l.take (pre ++ [x]).length)) :: bxT w.heap.size 44 (.pointer none) :: bxT (w.heap.size + 1) 30 .nilIface :: bxT w2.heap.size 44 (.pointer (some ⟨kb, 0, none⟩)) :: bxT (w2.heap.size + 1) 9 v :: ts) ++ [stillT w6]) := HS7.out
      refine ⟨(keeps_below HB06.out).trans (still_keeps h7.mem_last.here), ?_, M7, v, h7.few⟩
      exact (show w7.heap[w2.heap.size + 1]? = some (.cells #[v] 9 (0, 0)) from (h7.few.get (i := 4) rfl).here).trans (show W.heap[w2.heap.size + 1]? = some (.cells #[v] 9 (0, 0)) from (HS.out.get (i := 4) rfl).here).symm
    · rw [hno] at hn1; cases hn1
  case done =>
    rintro D W hD ⟨M1, v, hS⟩ hK
    rw [redo_len HT.out, List.take_length] at hS
    have b0 : Boxed W w.heap.size 44 (.pointer none) := (hS.get (i := 1) rfl).here
    have b1 : Boxed W (w.heap.size + 1) 30 .nilIface := (hS.get (i := 2) rfl).here
    have b2 : Boxed W w2.heap.size 44 (.pointer (some ⟨kb, 0, none⟩)) := (hS.get (i := 3) rfl).here
    have x0 := b0.cell
    have x1 := b1.cell
    have x2 := b2.cell
    have f0 := b0.frozen
    have f1 := b1.frozen
    have f1' : ∀ u, (W.setCell ⟨w.heap.size, 0, none⟩ u).frozen? ⟨w.heap.size + 1, 0, none⟩ = false := fun u => (b1.other (by omega) u).frozen
    have x1' : ∀ u, (W.setCell ⟨w.heap.size, 0, none⟩ u).cell? ⟨w.heap.size + 1, 0, none⟩ = some .nilIface := fun u => (b1.other (by omega) u).cell
    have HS := hid hS
    have HK := hid hK
    have HB0 := hid b0
    have HB1 := hid b1
    clear hS hK b0 b1 b2
    dsimp only
    gi_wp2
    have hS1 := HS.out.go 1 rfl (bx_set (HS.out.get (i := 1) rfl) (.pointer (some ⟨kb, 0, none⟩)))
    have hS9 := hS1.go 2 rfl (bx_set (hS1.get (i := 2) rfl) .nilIface)
    have hK9 : ((W.setCell ⟨w.heap.size, 0, none⟩ (.pointer (some ⟨kb, 0, none⟩))).setCell ⟨w.heap.size + 1, 0, none⟩ .nilIface).heap[D]? = some (.deferred (some [])) := set_keep (set_keep HK.out (by omega)) (by omega)
    refine redo_ret (D := D) ((HB0.out.set _).other (by omega) _) ((HB1.out.other (by omega) _).set _) (by omega) (by omega) hK9 rfl rfl rfl ?_
    exact ⟨kb, M1, rfl, Stand.drop4 (hS9.turned (redo_celled HC.out) (grownBy_putObj' _ D (.deferred none)) (fun r e => by cases e; exact ⟨by omega, _, hK9, rfl⟩))⟩
end Go.Proofs.YtldllmhgofacbaaGreatDoor

/- Package log: the contract of Crash, for every log. Conditions: 'Desk' and the table of forms, which the row lists. -/
namespace Go.Proofs.YtldllmhgofacbaaGreatDoor
open Go.RowKit
set_option maxRecDepth 100000

theorem keepN_eq {L : Lg} {p : Pl} (hL : LgOk p L) (keep : Int) : (L.safe : Int) + max 0 (min keep ((L.text.length : Int) - L.safe)) = L.keepN keep ∧ L.keepN keep ≤ L.text.length ∧ L.safe ≤ L.keepN keep := by
  have hs := hL.safe
  unfold Lg.keepN
  split
  · omega
  · split
    · omega
    · omega
/-- The bytes that are left, and those of them that are whole records. -/
theorem crash_cut {L : Lg} {p : Pl} (hL : LgOk p L) (keep : Int) :
    Lib.lastIndexByte ⟨(L.text.take (L.keepN keep)).toArray⟩ 10 + 1 = ((recsText (L.crash keep).done).length : Int) ∧ (L.text.take (L.keepN keep)).take (recsText (L.crash keep).done).length = recsText (L.crash keep).done ∧ (recsText (L.crash keep).done).length ≤ (L.text.take (L.keepN keep)).length := by
  obtain ⟨R, hR, hno⟩ := whole_split L.done L.part (L.keepN keep) hL.part
  have hR' : L.text.take (L.keepN keep) = recsText (L.crash keep).done ++ R := hR
  rw [hR']
  refine ⟨?_, ?_, ?_⟩
  · rw [last_nl (recs_end _) hno]; omega
  · simp
  · simp
section
variable {w0 w : World} {lb : Nat} {m : PM} {L : Lg} {ts : List Tg}
set_option maxHeartbeats 4000000 in
theorem lgcrash_any (he : planChk m.pl = 0) (hL : LgOk m.pl L) (hfew : L.done.length ≤ 1000) (hf : Forms w0) (hd : Desk w0) (hts : ∀ t ∈ ts, Celled t) (keep : Int) (h : LgAt w0 w lb m L ts) :
    Calls Tryz.prog 47 #[.pointer (some ⟨lb, 0, none⟩), .int .i64 keep] w fun e w' => e = .returned (.tuple #[]) ∧ LgAt w0 w' lb m (L.crash keep) ts := by
  have hp := planChk_ok he
  obtain ⟨kb, M, hst⟩ := h
  obtain ⟨_, c5, c6, _, _, hl, _⟩ := lg_cells hst
  obtain ⟨e1, e2, e3⟩ := keepN_eq hL keep
  obtain ⟨g1, g2, g3⟩ := crash_cut hL keep
  have htl := Lg.text_le hp.most5 hL
  obtain ⟨TX, hTX⟩ : ∃ TX : ByteArray, TX = ⟨L.text.toArray⟩ := ⟨_, rfl⟩
  have hTXs : TX.size = L.text.length := by rw [hTX, Lib.size_eq]
  have hc := Lg.crash_ok hL keep
  obtain ⟨L2, hL2⟩ : ∃ L2, L2 = L.crash keep := ⟨_, rfl⟩
  rw [← hL2] at g1 g2 g3 hc ⊢
  obtain ⟨K, hK⟩ : ∃ K, K = L.keepN keep := ⟨_, rfl⟩
  rw [← hK] at e1 e2 e3 g1 g2 g3
  obtain ⟨sf, hsf⟩ : ∃ sf, sf = L.safe := ⟨_, rfl⟩
  rw [← hsf] at c6 e1 e3
  unfold txt at c5
  rw [← hTX] at c5
  rw [← hTXs] at e1 e2 htl
  obtain ⟨C, hC⟩ : ∃ C, C = (recsText L2.done).length := ⟨_, rfl⟩
  rw [← hC] at g1 g2 g3
  obtain ⟨B1, hB1⟩ : ∃ B1 : ByteArray, B1 = TX.extract 0 K := ⟨_, rfl⟩
  have hB1l : B1 = ⟨(L.text.take K).toArray⟩ := by rw [hB1, Lib.extract_eq, hTX]; simp
  have hB1s : B1.size = (L.text.take K).length := by rw [hB1l, Lib.size_eq]
  rw [← hB1l] at g1
  rw [← hB1s] at g3
  obtain ⟨B2, hB2⟩ : ∃ B2 : ByteArray, B2 = B1.extract 0 C := ⟨_, rfl⟩
  have hB2l : B2.data.toList = recsText L2.done := by
    rw [hB2, Lib.extract_eq, hB1l]
    simp only [List.drop_zero, Nat.sub_zero]
    exact g2
  have hB2s : B2.size = C := by rw [Lib.size_eq, hB2l, hC]
  have HLI : Hid (∀ w', Calls Tryz.prog 109 #[.string B1, .string ⟨#[10]⟩] w' fun e w'' => e = .returned (.int .i64 ((C : Int) - 1)) ∧ w' = w'') := hid fun w' => by
    have hs1 : (⟨#[10]⟩ : ByteArray).size = 1 := rfl
    refine (Tryz.strings_LastIndex_one B1 ⟨#[10]⟩ hs1 (by rw [hB1s, List.length_take]; omega) w').mono ?_
    rintro e w'' ⟨rfl, rfl⟩
    refine ⟨?_, rfl⟩
    have e4 : (((⟨#[10]⟩ : ByteArray)[0]'(by omega)).toNat : Int) = 10 := rfl
    rw [e4, show Lib.lastIndexByte B1 10 = (C : Int) - 1 by omega]
  have HREDO : Hid (∀ w', Stand w0 w' (kTh kb m.pl M (runRecs m.pl L.done) :: lgT lb m kb L :: planT m :: ts) → Calls Tryz.prog 110 #[.pointer (some ⟨lb, 0, none⟩), .string B2] w' fun e w'' => ∃ kb2 M2, e = .returned (.tuple #[.pointer (some ⟨kb2, 0, none⟩), .nilIface]) ∧ Stand w0 w'' (kTh kb2 m.pl M2 (runRecs m.pl L2.done) :: kTh kb m.pl M (runRecs m.pl L.done) :: lgT lb m kb L :: planT m :: ts)) := hid fun w' hs => by
    refine redo_any (fun t ht => ?_) hs (show w'.heap[lb]? = some (.cells (lgCells m kb L) 187 (0, 0)) from (hs.get (i := 1) rfl).here) (hs.get (i := 2) rfl).here he hf hd L2.done hc.recs ?_ B2 hB2l ?_
    · simp only [List.mem_cons] at ht
      rcases ht with rfl | rfl | rfl | ht
      · exact celled_k _ _ _ _ _ _ _
      · exact celled_blk _ rfl
      · exact celled_plan _
      · exact hts t ht
    · rw [hL2]
      unfold Lg.crash
      exact Nat.le_trans (List.length_take_le' _ _) hfew
    · rw [hB2s]; rw [hB1s, List.length_take] at g3; omega
  have q1 : (C : Int) ≤ B1.size := by omega
  have q2 : IntKind.i64.wrap ((TX.size : Int) - sf) = (TX.size : Int) - sf := IntWalk.i64_in _ (by omega)
  have q3 : IntKind.i64.wrap ((sf : Int) + max 0 (min keep ((TX.size : Int) - sf))) = (K : Int) := by rw [e1]; exact IntWalk.i64_in _ (by omega)
  have HST := hid hst
  have HL2 := hid hL2
  have HB1 := hid hB1
  have HB2E := hid hB2
  have HB2 := hid hB2l
  have HB2S := hid hB2s
  have HCE := hid hC
  have q4 : TX.size ≤ 20000 := by omega
  have q5 : C ≤ 20000 := by rw [hB1s, List.length_take] at g3; omega
  clear hst hL hfew hf hd hp he hc g1 g2 htl hTX hTXs hL2 hK hsf hC hB1 hB1l hB1s hB2l hB2s hB2
  go_enter Tryz.func47, Tryz.ntmps47
  go_wp2_with fail
  go_region
  rw [← HB1.out]
  have q6 : IntKind.i64.wrap ((C : Int) - 1 + 1) = (C : Int) := by rw [IntWalk.i64_in _ (by omega)]; omega
  have q7 : (C : Int) - 1 + 1 = (C : Int) := by omega
  obtain ⟨wd, hwd⟩ : ∃ wd, wd = w.drew := ⟨_, rfl⟩
  have HSD : Hid (Stand w0 wd (kTh kb m.pl M (runRecs m.pl L.done) :: lgT lb m kb L :: planT m :: ts)) := by rw [hwd]; exact HST.out.new (Below.refl _ _).drew
  rw [← hwd]
  clear hwd c5 c6
  go_wp2_with (first
    | (go_at_call 109; refine (HLI.out _).mono ?_; rintro e w1 ⟨rfl, rfl⟩)
    | (go_at_call 110; rw [← HB2E.out]; refine (HREDO.out _ HSD.out).mono ?_; rintro e w2 ⟨kb2, M2, rfl, hs2⟩; have HS2 := hid hs2; have hc := lg_cells (hs2.del (us := [])); obtain ⟨c4, c5, c6, c7, c8, hl2, fz⟩ := hc; have f4 := fz 4; have f5 := fz 5; have f6 := fz 6; have f7 := fz 7; have f8 := fz 8; clear fz hs2 HREDO))
  have hx : w2.heap[lb]? = some (.cells (lgCells m kb L) 187 (0, 0)) := (HS2.out.get (i := 2) rfl).here
  have htx : txt L2.text = .string B2 := by
    have e5 : L2.text = recsText L2.done := by
      rw [HL2.out]
      show recsText (L.crash keep).done ++ [] = _
      rw [List.append_nil]
    rw [e5]
    unfold txt
    rw [← bytes_of HB2.out]
  have hsf : L2.safe = B2.size := by rw [HB2S.out, HCE.out, HL2.out]; rfl
  have hlf : L2.left = -1 := by rw [HL2.out]; rfl
  have hsp : L2.stopped = false := by rw [HL2.out]; rfl
  obtain ⟨w9, hw9⟩ : ∃ w9, w9 = ((((w2.setCell ⟨lb, 4, none⟩ (.pointer (some ⟨kb2, 0, none⟩))).setCell ⟨lb, 5, none⟩ (.string B2)).setCell ⟨lb, 6, none⟩ (.int .i64 B2.size)).setCell ⟨lb, 7, none⟩ (.int .i64 (-1))).setCell ⟨lb, 8, none⟩ (.bool false) := ⟨_, rfl⟩
  have hx9 : w9.heap[lb]? = some (.cells (lgCells m kb2 L2) 187 (0, 0)) := by
    rw [hw9]
    refine (blk_set (blk_set (blk_set (blk_set (blk_set hx 4 (.pointer (some ⟨kb2, 0, none⟩))) 5 (.string B2)) 6 (.int .i64 B2.size)) 7 (.int .i64 (-1))) 8 (.bool false)).trans ?_
    unfold lgCells
    rw [htx, hsf, hlf, hsp]
    rfl
  have hk9 : Keep (fun j => j = lb) w2 w9 := by
    rw [hw9]
    exact (((((Keep.refl (fun j => j = lb) w2).setCell (.inl rfl) _).setCell (.inl rfl) _).setCell (.inl rfl) _).setCell (.inl rfl) _).setCell (.inl rfl) _
  rw [← hw9]
  clear hw9
  go_end0
  exact ⟨rfl, kb2, M2, (HS2.out.go 2 rfl (lg_went hk9 hx9)).del (us := [_])⟩
end
end Go.Proofs.YtldllmhgofacbaaGreatDoor

/- Package log: the contract of New, for every plan. Conditions: the table of forms, which the row lists. -/
namespace Go.Proofs.YtldllmhgofacbaaGreatDoor
open Go.RowKit
set_option maxRecDepth 100000

def LgMade (w : World) (m : PM) (e : Ending) (w' : World) : Prop :=
  ∃ (lb : Nat) (m' : PM), m'.pl = m.pl ∧ e = .returned (.tuple #[.pointer (some ⟨lb, 0, none⟩), .nilIface]) ∧ LgAt w w' lb m' Lg.new
set_option maxHeartbeats 2000000 in
theorem lgnew_any (w : World) (m : PM) (hf : Forms w) (hm : PlanAt w m) (he : planChk m.pl = 0) :
    Calls Tryz.prog 44 #[.agg #[.slice m.A m.ros.length m.c, .int .i64 m.ticks, .slice m.sA m.spans.length m.sc, .slice m.wA m.wires.length m.wc]] w (LgMade w m) := by
  obtain ⟨w1, hw1⟩ : ∃ w1, w1 = w.alloc (.cells #[.slice m.A m.ros.length m.c, .int .i64 m.ticks, .slice m.sA m.spans.length m.sc, .slice m.wA m.wires.length m.wc] 26) := ⟨_, rfl⟩
  have hb1 : Below w.heap.size w w1 := by rw [hw1]; exact (Below.refl _ _).alloc (Nat.le_refl _) _
  have hbox : w1.heap[w.heap.size]? = some (.cells #[.slice m.A m.ros.length m.c, .int .i64 m.ticks, .slice m.sA m.spans.length m.sc, .slice m.wA m.wires.length m.wc] 26 (0, 0)) := by rw [hw1]; exact heap_alloc_new w _
  have HNEW := hid (new_run w1 m (hf.new hb1) (hm.new hb1) he)
  have HOWN : Hid (∀ w', Below w1.heap.size w1 w' → Calls Tryz.prog 79 #[.agg #[.slice m.A m.ros.length m.c, .int .i64 m.ticks, .slice m.sA m.spans.length m.sc, .slice m.wA m.wires.length m.wc]] w' (Owned w' m)) := fun w' hb => own_any w' m ((hm.new hb1).new hb) (planSmall he)
  obtain ⟨nn, hnn⟩ : ∃ nn, m.ros.length = nn := ⟨_, rfl⟩
  obtain ⟨ns, hns⟩ : ∃ ns, m.spans.length = ns := ⟨_, rfl⟩
  obtain ⟨nw, hnw⟩ : ∃ nw, m.wires.length = nw := ⟨_, rfl⟩
  rw [hnn, hns, hnw] at hw1 hbox HNEW HOWN ⊢
  have HB1 := hid hb1
  have x0 := blk_cell hbox 0
  have x1 := blk_cell hbox 1
  have x2 := blk_cell hbox 2
  have x3 := blk_cell hbox 3
  have hlx := blk_lt hbox
  simp at x0 x1 x2 x3
  have HBOX := hid hbox
  clear hf hm he hb1 hbox hnn hns hnw
  go_enter Tryz.func44, Tryz.ntmps44
  go_wp2_with fail
  rw [← hw1]
  clear hw1
  refine HNEW.out.mono ?_
  rintro e w2 ⟨kb, M, rfl, hk⟩
  have hst : Stand w w2 [kTh kb m.pl M (kNew m.pl)] := (Stand.start HB1.out).add hk.below (k_lie hk.kat hk.plan) (fun j hj => hk.fresh j (.inl hj)) (fun j hj => .inl (hk.fresh j hj))
  have hx2 := (hk.below.block _ (blk_lt HBOX.out)).trans HBOX.out
  have HB2 := hid hk.below
  have HST := hid hst
  have x0 := blk_cell hx2 0
  have x1 := blk_cell hx2 1
  have x2 := blk_cell hx2 2
  have x3 := blk_cell hx2 3
  have hlx := blk_lt hx2
  simp at x0 x1 x2 x3
  clear hk hst hx2 HNEW HBOX
  go_wp2_with fail
  refine (HOWN.out _ HB2.out).mono ?_
  rintro e w3 ⟨m', rfl, hpa, hpl, _, hfr, hb3⟩
  have HPL := hid hpl
  have HST3 := hid (HST.out.add hb3 (plan_lie hpa) (fun _ hj => hj.elim) (fun j hj => .inl (hfr j hj)))
  clear hb3 hpa hpl hfr HST HOWN x0 x1 x2 x3 hlx
  have HFIN : Hid (∀ w4, w4 = w3.alloc (.cells (lgCells m' kb Lg.new) 187 (0, 0)) → LgAt w w4 w3.heap.size m' Lg.new) := hid fun w4 hw => by
    subst hw
    refine ⟨kb, M, ?_⟩
    have h4 := HST3.out.add ((Below.refl _ _).alloc (Nat.le_refl _) (.cells (lgCells m' kb Lg.new) 187 (0, 0))) (blk_lie (heap_alloc_new w3 _)) (fun j hj => by have : j = w3.heap.size := hj; omega) (fun j hj => .inl (by have : j = w3.heap.size := hj; omega))
    have h5 : Stand w (w3.alloc (.cells (lgCells m' kb Lg.new) 187 (0, 0))) [kTh kb m.pl M (kNew m.pl), lgT w3.heap.size m' kb Lg.new, planT m'] := h4.pick3 0 2 1 rfl rfl rfl (by decide) (by decide) (by decide)
    rw [← HPL.out] at h5
    exact h5
  unfold lgCells at HFIN
  obtain ⟨n1, hn1⟩ : ∃ n1, m'.ros.length = n1 := ⟨_, rfl⟩
  obtain ⟨n2, hn2⟩ : ∃ n2, m'.spans.length = n2 := ⟨_, rfl⟩
  obtain ⟨n3, hn3⟩ : ∃ n3, m'.wires.length = n3 := ⟨_, rfl⟩
  rw [hn1, hn2, hn3] at HFIN ⊢
  clear hn1 hn2 hn3
  go_wp2_with fail
  go_ret2
  exact ⟨w3.heap.size, m', HPL.out, rfl, HFIN.out _ rfl⟩
theorem lgnew_bad (w : World) (m : PM) (hf : Forms w) (hm : PlanAt w m) (he : planChk m.pl ≠ 0) :
    Calls Tryz.prog 44 #[.agg #[.slice m.A m.ros.length m.c, .int .i64 m.ticks, .slice m.sA m.spans.length m.sc, .slice m.wA m.wires.length m.wc]] w fun e w' => e = .returned (.tuple #[.pointer none, errV (planChk m.pl)]) ∧ Below w.heap.size w w' := by
  obtain ⟨w1, hw1⟩ : ∃ w1, w1 = w.alloc (.cells #[.slice m.A m.ros.length m.c, .int .i64 m.ticks, .slice m.sA m.spans.length m.sc, .slice m.wA m.wires.length m.wc] 26) := ⟨_, rfl⟩
  have hb1 : Below w.heap.size w w1 := by rw [hw1]; exact (Below.refl _ _).alloc (Nat.le_refl _) _
  have HBAD := hid (kern_new_bad w1 m (hf.new hb1) (hm.new hb1) he)
  rw [errV_pos he] at HBAD ⊢
  obtain ⟨nn, hnn⟩ : ∃ nn, m.ros.length = nn := ⟨_, rfl⟩
  obtain ⟨ns, hns⟩ : ∃ ns, m.spans.length = ns := ⟨_, rfl⟩
  obtain ⟨nw, hnw⟩ : ∃ nw, m.wires.length = nw := ⟨_, rfl⟩
  rw [hnn, hns, hnw] at hw1 HBAD ⊢
  have HB1 := hid hb1
  generalize planChk m.pl = q at HBAD ⊢
  clear hf hm he hb1 hnn hns hnw
  go_enter Tryz.func44, Tryz.ntmps44
  go_wp2_with fail
  rw [← hw1]
  clear hw1
  refine HBAD.out.mono ?_
  rintro e w2 ⟨rfl, hb2⟩
  have HB2 := hid (HB1.out.trans (hb2.mono HB1.out.size))
  clear hb2
  go_wp2_with fail
  go_ret2
  exact ⟨rfl, HB2.out⟩
end Go.Proofs.YtldllmhgofacbaaGreatDoor
