/- Package run: the contract of Run, for every session that is not too long. Conditions: the tables and variables that the row lists. -/
import Derived.Test.YthdmgighblhmhaaGreatDoorRunEU
import Derived.Test.YthdmgighblhmhaaGreatDoorRunPBU
import Derived.Test.YthdmgighblhmhaaGreatDoorStandU
import Derived.Test.YthdmgighblhmhaaGreatDoorRangeU
import Derived.Test.YthdmgighblhmhaaGreatDoorRunU
import Derived.RangeFuncBox
namespace Go.Proofs.YthdmgighblhmhaaGreatDoor
open Go.RowKit Go.Shelf
set_option maxRecDepth 100000
attribute [local go_sem] Oper.semAt_some

set_option maxHeartbeats 1000000 in
theorem run_long (t : ByteArray) (ht : 3000 < t.size) (w : World) : Calls Tryz.prog 6 #[.string t] w fun e w' => e = .returned (.string ⟨#[116, 111, 111, 32, 108, 111, 110, 103, 10]⟩) ∧ w = w' := by
  go_enter Tryz.func6, Tryz.ntmps6
  go_wp2_with fail
  go_ret
  exact ⟨rfl, rfl⟩
theorem Stand.sortR {w0 w : World} {ts : List Tg} {a b c d : Tg} (h : Stand w0 w (d :: c :: a :: b :: ts)) : Stand w0 w (a :: b :: c :: d :: ts) := by
  refine h.sub (fun i => if i = 0 then 2 else if i = 1 then 3 else if i = 2 then 1 else if i = 3 then 0 else i) (fun i u hi => ?_) (fun i j h1 h2 hne => ?_)
  · match i, hi with
    | 0, hi => exact hi
    | 1, hi => exact hi
    | 2, hi => exact hi
    | 3, hi => exact hi
    | i + 4, hi => exact hi
  · repeat' split
    all_goals omega
/-- A line of a text without its end, as it is cut. -/
theorem bare_trim {t x : ByteArray} (hx : x ∈ linesB t) : Lib.trimSuffix x.data.toList [10] = bare x.data.toList ∧ x.size ≤ t.size := by
  obtain ⟨y, b, h1, h2, h3, h4, h5, h6⟩ := line_cut hx
  refine ⟨?_, h4⟩
  rcases h6 with ⟨_, h6⟩ | ⟨_, h6⟩
  · rw [h6, (cut_line y.data.toList).1]
    unfold bare
    rw [if_pos (by simp), List.dropLast_concat]
  · rw [(cut_last _ h6).1]
    unfold bare
    rw [if_neg (fun e => h6 (List.mem_of_getLast? e))]
/-- Midway: so many lines are answered. -/
def RunAt (w0 : World) (kb d bb tb : Nat) (ls : List (List UInt8)) (pre : List ByteArray) (W : World) : Prop :=
  ∃ (M : KM) (g : Option Nat) (v : Value), Stand w0 W [rnT kb runPl M (sessK (kNew runPl) (ls.take pre.length)), bldT bb g (sessA (kNew runPl) (ls.take pre.length)), bxT d 44 (.pointer (some ⟨kb, 0, none⟩)), bxT tb 9 v]
theorem run_celled {kb d bb tb : Nat} {p : Pl} {M : KM} {k : Kst} {g : Option Nat} {l : List UInt8} {v0 v1 : Value} : ∀ u ∈ [rnT kb p M k, bldT bb g l, bxT d 44 v0, bxT tb 9 v1], Celled u := by
  intro u hu
  simp only [List.mem_cons, List.mem_nil_iff, or_false] at hu
  rcases hu with rfl | rfl | rfl | rfl
  · exact celled_k _ _ _ _ _ _ _
  · exact bld_celled _ _ _
  · exact celled_blk _ rfl
  · exact celled_blk _ rfl
theorem RunAt.abide {w0 : World} (kb d bb tb B : Nat) (hB : w0.heap.size ≤ B) (ls : List (List UInt8)) : Abide B tb (RunAt w0 kb d bb tb ls) := by
  refine ⟨fun s W W' row ⟨M, g, v, h⟩ hg hr => ⟨M, g, v, h.turned run_celled hg fun r e => ⟨by have := (hr r e).1; omega, (hr r e).2⟩⟩, fun s W u ⟨M, g, v, h⟩ => ⟨M, g, u, ?_⟩⟩
  exact h.go 3 rfl (bx_set (h.get (i := 3) rfl) u)
theorem run_next {t x : ByteArray} {pre : List ByteArray} (h : pre ++ [x] <+: linesB t) : ((linesOf t.data.toList).map bare).take (pre ++ [x]).length = ((linesOf t.data.toList).map bare).take pre.length ++ [bare x.data.toList] ∧ pre.length < (linesOf t.data.toList).length := by
  obtain ⟨q, hq⟩ := h
  have h1 : (linesB t)[pre.length]? = some x := by rw [← hq]; simp
  unfold linesB at h1
  rw [List.getElem?_map] at h1
  cases hl : (linesOf t.data.toList)[pre.length]? with
  | none => rw [hl] at h1; simp at h1
  | some l =>
    rw [hl] at h1
    simp at h1
    refine ⟨?_, (List.getElem?_eq_some_iff.1 hl).1⟩
    rw [List.length_append, List.length_singleton, List.take_add_one, List.getElem?_map, hl, ← h1]
    rfl
/-- The end: the result lies in its slot. -/
theorem run_ret {W9 : World} {D : Nat} {v : Value} {a : Act} {R : Ending → World → Prop} (hK : W9.heap[D]? = some (.deferred (some [])))
    (h2 : a.tmps[2]? = some v) (hd : a.defers = [{ target := .collected D, args := #[] }]) (h : R (.returned v) (W9.putObj D (.deferred none))) :
    bodyPostM Fence.wide 3 Tryz.prog Tryz.f6 R .ret a W9 := by
  obtain ⟨tmps, defers⟩ := a
  simp only at h2 hd
  subst hd
  refine ⟨by simp, .inl ⟨_, _, rfl, run_takeDeferred hK, ?_⟩⟩
  refine ⟨v, ?_, h⟩
  simp [results, Tryz.f6, go_sem, h2]
theorem bld_own {w0 w : World} {ts : List Tg} {b : Nat} {g : Option Nat} {l : List UInt8} (h : Stand w0 w ts) {i : Nat} (hi : ts[i]? = some (bldT b g l)) : Lib.IsBuilderF 48 5 w0.heap.size b (Lib.byteCells l) w := by
  have hf := h.fresh _ (List.mem_of_getElem? hi)
  obtain ⟨p, v, hp, hb, hown, hg, hne⟩ := (show BldG b g l w from (h.get hi).here)
  have hB : w0.heap.size ≤ b := hf b (.inl rfl)
  have hown2 : w.ownsRowF w0.heap.size 5 1 v (Lib.byteCells l).length (Lib.byteCells l) := by
    rw [Lib.byteCells_length]
    refine ⟨hown.1, hown.2.imp_right fun ⟨g', cap, cur, fz, e1, _, c⟩ => ⟨g', cap, cur, fz, e1, ?_, c⟩⟩
    refine hf g' (.inr ?_)
    rw [← hg, e1]; rfl
  rcases hp with rfl | rfl
  · exact .inl ⟨hB, v, hb, hown2, by rw [hg]; exact hne⟩
  · exact .inr ⟨hB, v, hb, hown2, by rw [hg]; exact hne⟩
set_option maxHeartbeats 8000000 in
theorem run_any {w : World} (hg : Handle w) (hf : Forms w) (hd : Desk w) (hu : Unread w) (t : ByteArray) (ht : t.size ≤ 3000) :
    Calls Tryz.prog 6 #[.string t] w fun e w' => e = .returned (.string ⟨(runA t.data.toList).toArray⟩) ∧ Below w.heap.size w w' := by
  have HG := hid hg
  have HF := hid hf
  have HD := hid hd
  have HU := hid hu
  have HPLAN := hid (runplan_any w)
  clear hg hf hd hu
  refine (callsIn_wide (n := 3)).1 ?_
  refine callsIn_of_wp_marks Tryz.func6 rfl trivial ?_ rfl
  simp only [Tryz.ntmps6, List.size_toArray, List.length_cons, List.length_nil, Nat.reduceAdd, Nat.reduceSub, Array.replicate_succ, Array.replicate_zero, List.push_toArray, List.append_toArray, List.nil_append, List.cons_append]
  gi_wp2_with (refine ⟨trivial, ?_⟩; gi_at_call 13; refine (callsIn_wide.2 HPLAN.out).mono ?_; rintro e w1 ⟨m, hpl, rfl, hm, hb1⟩)
  have he : planChk m.pl = 0 := by rw [hpl]; exact runPl_chk
  have hnew := new_run w1 m (HF.out.new hb1) hm he
  unfold KNew at hnew
  rw [hpl] at hnew
  have HNEW := hid hnew
  have HB1 := hid hb1
  clear hnew he hm hpl hb1
  gi_wp2_with (refine ⟨trivial, ?_⟩; gi_at_call 12; refine (callsIn_wide.2 HNEW.out).mono ?_; rintro e w2 ⟨kb, M, rfl, hk⟩; have HK := hid hk; clear hk)
  refine ⟨trivial, ?_⟩
  gi_at_call 14
  refine (callsIn_wide.2 (lines_made _ _)).mono ?_
  rintro e w3 ⟨rfl, rfl⟩
  gi_wp2
  obtain ⟨W0, hW0⟩ : ∃ W0, ((w2.alloc (.cells #[.pointer (some ⟨kb, 0, none⟩)] 44)).alloc (.cells #[.pointer none, .slice none 0 0] 48)).alloc (.cells #[.string t] 9) = W0 := ⟨_, rfl⟩
  have hS0 : Stand w W0 [rnT kb runPl M (kNew runPl), bldT (w2.heap.size + 1) none [], bxT w2.heap.size 44 (.pointer (some ⟨kb, 0, none⟩)), bxT (w2.heap.size + 1 + 1) 9 (.string t)] := by
    have h2 : Stand w w2 [rnT kb runPl M (kNew runPl)] := (Stand.start HB1.out).add HK.out.below (k_lie HK.out.kat HK.out.plan) (fun j hj => HK.out.fresh j (.inl hj)) (fun j hj => .inl (HK.out.fresh j hj))
    have h5 := (((h2.push 44 (.pointer (some ⟨kb, 0, none⟩))).addB).push 9 (.string t))
    simp only [sz_alloc] at h5
    rw [← hW0]
    exact Stand.sortR h5
  have hs2 : w.heap.size ≤ w2.heap.size := Nat.le_trans HB1.out.size HK.out.below.size
  have hsz : W0.heap.size = w2.heap.size + 3 := by rw [← hW0]; simp
  have htb : Boxed W0 (w2.heap.size + 1 + 1) 9 (.string t) := (hS0.get (i := 3) rfl).here
  have HS0 := hid hS0
  have HTB := hid htb
  obtain ⟨ls, hls⟩ : ∃ ls, ls = (linesOf t.data.toList).map bare := ⟨_, rfl⟩
  have HLS := hid hls
  have HLL : Hid ((linesOf t.data.toList).length ≤ 3000) := hid (by have := linesOf_few t.data.toList; rw [← Lib.size_eq] at this; omega)
  rw [hW0]
  clear hW0 hS0 htb HNEW HK hls
  refine range_cell (α := ByteArray) (all := linesB t) (t := w2.heap.size + 1 + 1) rfl (by decide) (gf := 29) (lb := #[.pointer (some ⟨w2.heap.size + 1 + 1, 0, none⟩)]) rfl trivial (enters_of Tryz.func29 (by kernel_rfl) rfl)
    (encs := fun x => #[.string x]) (by omega) (lines_gives _ _ 9 t (by omega) W0 HTB.out) (fun _ => rfl)
    (fun pre W => RunAt w kb w2.heap.size (w2.heap.size + 1) (w2.heap.size + 1 + 1) ls pre W) (fun _ _ _ => False)
    (RunAt.abide _ _ _ _ _ (by omega) ls)
    (fun _ => ⟨fun _ _ _ _ hs _ _ => hs, fun _ _ _ hs => hs⟩) ⟨M, none, _, HS0.out⟩
    (fun x => { tmps := #[.string t, undef, .string ⟨#[]⟩, .pointer (some ⟨kb, 0, none⟩), .nilIface, .pointer (some ⟨w2.heap.size, 0, none⟩), .pointer (some ⟨w2.heap.size + 1, 0, none⟩), .string x, .string t, .int .i64 t.size, .bool (decide (3000 < (t.size : Int))), .tuple #[.pointer (some ⟨kb, 0, none⟩), .nilIface], .agg #[.slice m.A m.ros.length m.c, .int .i64 m.ticks, .slice m.sA m.spans.length m.sc, .slice m.wA m.wires.length m.wc], .tuple #[.pointer (some ⟨kb, 0, none⟩), .nilIface], .pointer (some ⟨kb, 0, none⟩), .nilIface, .nilIface, .bool false, .pointer (some ⟨kb, 0, none⟩), .agg #[.pointer (some ⟨kb, 0, none⟩)], .string t, .func (.func 29) #[] #[.pointer (some ⟨w2.heap.size + 1 + 1, 0, none⟩)], .string x, undef, undef, undef, undef, undef, undef, undef], defers := [] }) ?assign ?body ?done ?stop
  case assign =>
    intro l x W K hK
    gi_wp2
    exact hK
  case stop => rintro D c pre W _ _ h _; exact h.elim
  case body =>
    rintro l0 pre x W ⟨M1, g, v, hS⟩ hpre
    have hx : x ∈ linesB t := hpre.subset (by simp)
    obtain ⟨hbt, hxs⟩ := bare_trim hx
    obtain ⟨hnx, hpl⟩ := run_next hpre
    rw [← HLS.out] at hnx
    obtain ⟨y, hy⟩ : ∃ y : ByteArray, y = ⟨(bare x.data.toList).toArray⟩ := ⟨_, rfl⟩
    have hyd : y.data.toList = bare x.data.toList := by rw [hy]
    have hys : y.size ≤ 100000 := by
      rw [Lib.size_eq, hyd]
      have h1 : (bare x.data.toList).length ≤ x.data.toList.length := by
        unfold bare
        split
        · rw [List.length_dropLast]; omega
        · exact Nat.le_refl _
      rw [← Lib.size_eq] at h1
      omega
    have HTRIM : Hid (∀ w', Calls Tryz.prog 17 #[.string x, .string ⟨#[10]⟩] w' fun e w'' => e = .returned (.string y) ∧ w' = w'') := hid fun w' => by
      refine (Tryz.strings_TrimSuffix x ⟨#[10]⟩ w' (by omega)).mono ?_
      rintro e w'' ⟨rfl, rfl⟩
      refine ⟨?_, rfl⟩
      have e1 : Lib.trimSuffix x.data.toList (⟨#[10]⟩ : ByteArray).data.toList = bare x.data.toList := hbt
      rw [e1, hy]
    have hlen : (ls.take pre.length).length ≤ 3000 := by
      have := HLL.out
      rw [List.length_take, HLS.out, List.length_map]; omega
    have hkok := sessK_ok (ls.take pre.length) (kNew_ok runPl_ok)
    have hal : (sessA (kNew runPl) (ls.take pre.length)).length ≤ 2703000 := by have := sessA_len (ls.take pre.length) (kNew_ok runPl_ok) (by omega); omega
    have hqn : sessK (kNew runPl) (ls.take (pre ++ [x]).length) = (lineA (sessK (kNew runPl) (ls.take pre.length)) y.data.toList).2 := by rw [hnx, sessK_snoc, hyd]
    have hqa : sessA (kNew runPl) (ls.take (pre ++ [x]).length) = sessA (kNew runPl) (ls.take pre.length) ++ ((lineA (sessK (kNew runPl) (ls.take pre.length)) y.data.toList).1 ++ [10]) := by rw [hnx, sessA_snoc, hyd]
    have hqi : ∀ (M : KM) (g : Option Nat) (v : Value) (W' : World), Stand w W' [rnT kb runPl M (lineA (sessK (kNew runPl) (ls.take pre.length)) y.data.toList).2, bldT (w2.heap.size + 1) g (sessA (kNew runPl) (ls.take pre.length) ++ ((lineA (sessK (kNew runPl) (ls.take pre.length)) y.data.toList).1 ++ [10])), bxT w2.heap.size 44 (.pointer (some ⟨kb, 0, none⟩)), bxT (w2.heap.size + 1 + 1) 9 v] → RunAt w kb w2.heap.size (w2.heap.size + 1) (w2.heap.size + 1 + 1) ls (pre ++ [x]) W' := fun M g v W' h => ⟨M, g, v, by rw [hqn, hqa]; exact h⟩
    have HNEXT := hid hqi
    have hll := lineA_len hkok (by omega) y.data.toList
    have hans := answer_any hkok (by omega) HG.out HD.out HU.out y hys ((hS.still run_celled).new (Below.refl _ _).drew)
    generalize lineA (sessK (kNew runPl) (ls.take pre.length)) y.data.toList = q at hans hll HNEXT
    generalize sessA (kNew runPl) (ls.take pre.length) = A at hS hans hal HNEXT
    generalize sessK (kNew runPl) (ls.take pre.length) = k at hS hans
    have hcell : W.cell? ⟨w2.heap.size, 0, none⟩ = some (.pointer (some ⟨kb, 0, none⟩)) := (show Boxed W w2.heap.size 44 (.pointer (some ⟨kb, 0, none⟩)) from (hS.get (i := 2) rfl).here).cell
    have HS := hid hS
    unfold AnswerGot at hans
    have HANS := hid hans
    have HLN := hid hll
    have HAL := hid hal
    clear hS hans hll hal hnx hpl hqi hqn hqa hkok hlen hy hyd hys hbt hxs hx HTB HS0
    gi_wp2
    refine wpIn_round_held (S := (fun w' => w'.cell? ⟨w2.heap.size, 0, none⟩ = some (.pointer (some ⟨kb, 0, none⟩)))) (by kernel_rfl) (by kernel_rfl) ?_ (fun hHeld => ?_)
    · exact hcell
    refine wpAnyH_take (i := 0) (v := ?v1) rfl (by kernel_rfl) (by kernel_rfl) (by kernel_rfl) (fun _ _ _ h => h) (Or.inl ⟨by rfl, ?hy1⟩) (by assumption) ?rest1
    case hy1 => (intro w hSw; (try dsimp only at hSw); (try simp only [List.getElem_toArray, List.getElem_cons_zero]); go_simp; (try with_reducible rfl))
    (try simp only [Act.put, List.getElem_toArray, List.getElem_cons_zero, List.setIfInBounds_toArray, List.set_cons_zero, List.set_cons_succ])
    refine wpAnyH_take (i := 1) (v := ?v2) rfl (by kernel_rfl) (by kernel_rfl) (by kernel_rfl) (fun _ _ _ h => h) (Or.inl ⟨by rfl, ?hy2⟩) (by assumption) ?rest2
    case hy2 => (intro w hSw; (try dsimp only at hSw); (try simp only [List.getElem_toArray, List.getElem_cons_zero, List.getElem_cons_succ]); go_simp; (try with_reducible rfl))
    (try simp only [Act.put, List.getElem_toArray, List.getElem_cons_zero, List.getElem_cons_succ, List.setIfInBounds_toArray, List.set_cons_zero, List.set_cons_succ])
    refine wpAnyH_ready (rs := [2]) (by kernel_rfl) (by simp) ?_
    refine AllReadyH.cons rfl (fun K hK => ?_) AllReadyH.nil
    go_simp
    go_at_call 17; refine (HTRIM.out _).mono ?_; rintro e w4 ⟨rfl, rfl⟩
    refine hK.out _ _ ?_ (fun hHeld => ?_)
    · exact hcell
    clear hK K
    (try simp only [Act.put, List.getElem_toArray, List.getElem_cons_zero, List.getElem_cons_succ, List.setIfInBounds_toArray, List.set_cons_zero, List.set_cons_succ])
    refine wpAnyH_ready (rs := [3]) (by kernel_rfl) (by simp) ?_
    refine AllReadyH.cons rfl (fun K hK => ?_) AllReadyH.nil
    go_simp
    go_at_call 16
    refine HANS.out.mono ?_
    rintro e w5 ⟨T, M5, rfl, hT, hst5⟩
    have hcell5 : w5.cell? ⟨w2.heap.size, 0, none⟩ = some (.pointer (some ⟨kb, 0, none⟩)) := (show Boxed w5 w2.heap.size 44 (.pointer (some ⟨kb, 0, none⟩)) from (hst5.get (i := 2) rfl).here).cell
    have HST5 : Hid (Stand w w5 (rnT kb runPl M5 q.2 :: bldT (w2.heap.size + 1) g A :: bxT w2.heap.size 44 (.pointer (some ⟨kb, 0, none⟩)) :: bxT (w2.heap.size + 1 + 1) 9 v :: [stillT W])) := hid hst5
    have hTs : T.size ≤ 900 := by rw [Lib.size_eq, hT]; exact HLN.out
    have hcat : ¬ 9223372036854775807 < T.size + 1 := by omega
    have HT := hid hT
    clear hst5 hT HANS
    refine hK.out _ _ ?_ (fun hHeld => ?_)
    · exact hcell5
    clear hK K
    (try simp only [Act.put, List.getElem_toArray, List.getElem_cons_zero, List.getElem_cons_succ, List.setIfInBounds_toArray, List.set_cons_zero, List.set_cons_succ])
    refine wpAnyH_ready (rs := [4]) (by kernel_rfl) (by simp) ?_
    refine AllReadyH.cons rfl (fun K hK => ?_) AllReadyH.nil
    go_simp
    skip
    refine hK.out _ _ ?_ (fun hHeld => ?_)
    · exact hcell5
    clear hK K
    (try simp only [Act.put, List.getElem_toArray, List.getElem_cons_zero, List.getElem_cons_succ, List.setIfInBounds_toArray, List.set_cons_zero, List.set_cons_succ])
    refine wpAnyH_ready (rs := [5]) (by kernel_rfl) (by simp) ?_
    refine AllReadyH.cons rfl (fun K hK => ?_) AllReadyH.nil
    go_simp
    go_at_call 15
    refine (writeG_any (w2.heap.size + 1) g A _ w5 (HST5.out.get (i := 1) rfl).here (by rw [ByteArray.size_append]; have := HAL.out; have e1 : (⟨#[10]⟩ : ByteArray).size = 1 := rfl; omega)).mono ?_
    rintro e w6 ⟨g', rfl, hw6⟩
    have hst6 := HST5.out.go 1 rfl hw6
    have hcell6 : w6.cell? ⟨w2.heap.size, 0, none⟩ = some (.pointer (some ⟨kb, 0, none⟩)) := (show Boxed w6 w2.heap.size 44 (.pointer (some ⟨kb, 0, none⟩)) from (hst6.get (i := 2) rfl).here).cell
    have HST6 : Hid (Stand w w6 (rnT kb runPl M5 q.2 :: bldT (w2.heap.size + 1) g' (A ++ (q.1 ++ [10])) :: bxT w2.heap.size 44 (.pointer (some ⟨kb, 0, none⟩)) :: bxT (w2.heap.size + 1 + 1) 9 v :: [stillT W])) := hid (by
      have e2 : (T ++ (⟨#[10]⟩ : ByteArray)).data.toList = q.1 ++ [10] := by rw [ByteArray.data_append, Array.toList_append, HT.out]
      rw [e2] at hst6
      exact hst6)
    clear hw6 hst6
    refine hK.out _ _ ?_ (fun hHeld => ?_)
    · exact hcell6
    clear hK K
    (try simp only [Act.put, List.getElem_toArray, List.getElem_cons_zero, List.getElem_cons_succ, List.setIfInBounds_toArray, List.set_cons_zero, List.set_cons_succ])
    refine wpAnyH_done (by kernel_rfl) ?_ _
    refine strict_normal ?_
    gi_wp2
    have h6 : Stand w w6 ([rnT kb runPl M5 q.2, bldT (w2.heap.size + 1) g' (A ++ (q.1 ++ [10])), bxT w2.heap.size 44 (.pointer (some ⟨kb, 0, none⟩)), bxT (w2.heap.size + 1 + 1) 9 v] ++ [stillT W]) := HST6.out
    refine ⟨still_keeps h6.mem_last.here, ?_, HNEXT.out M5 g' v w6 h6.few⟩
    exact (show w6.heap[w2.heap.size + 1 + 1]? = some (.cells #[v] 9 (0, 0)) from (h6.few.get (i := 3) rfl).here).trans (show W.heap[w2.heap.size + 1 + 1]? = some (.cells #[v] 9 (0, 0)) from (HS.out.get (i := 3) rfl).here).symm
  case done =>
    rintro D W hD ⟨M1, g, v, hS⟩ hK
    have hA : sessA (kNew runPl) (ls.take (linesB t).length) = runA t.data.toList := by
      have e1 : (linesB t).length = ls.length := by unfold linesB; rw [HLS.out, List.length_map, List.length_map]
      rw [e1, List.take_length, HLS.out]; rfl
    rw [hA] at hS
    have hbw := hS.below
    obtain ⟨A, hA2⟩ : ∃ A, A = runA t.data.toList := ⟨_, rfl⟩
    rw [← hA2] at hS
    have hstr := Tryz.Builder_String_any_k w.heap.size (w2.heap.size + 1) A W (bld_own hS (i := 1) rfl) hbw.size
    have HSTR := hid hstr
    have HK := hid hK
    have HBW := hid hbw
    have HA2 := hid hA2
    clear hA hA2 hS hstr hK hbw HTB HS0 HLS HLL
    dsimp only
    gi_wp2_with (refine ⟨trivial, ?_⟩; gi_at_call 18; refine (callsIn_wide.2 HSTR.out).mono ?_; rintro e w9 ⟨rfl, _, hb9, hk9⟩)
    have hK9 : w9.heap[D]? = some (.deferred (some [])) := hk9 D _ HK.out (fun e => by injection e with e; omega) (fun c fz e => by cases e)
    refine run_ret (v := .string ⟨A.toArray⟩) hK9 rfl rfl ⟨by rw [HA2.out], ?_⟩
    have hb := HBW.out.trans hb9
    exact hb.grown (grownBy_putObj' w9 D (.deferred none)) hb.size (fun k e => by cases e; omega)
end Go.Proofs.YthdmgighblhmhaaGreatDoor
