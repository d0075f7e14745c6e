/- Package code: the contract of Parse, for every text. Conditions: 'Desk', the table of forms with its names, which the row lists; no text is longer than 2^30 bytes. -/
import Derived.Test.YtldllmhgofacbaaGreatDoorRangeU
import Derived.Test.YtldllmhgofacbaaGreatDoorReadW
namespace Go.Proofs.YtldllmhgofacbaaGreatDoor
open Go.RowKit Go.Shelf
set_option maxRecDepth 100000
attribute [local go_sem] Oper.semAt_some

/-- What Parse hands back. -/
def ParseGot (t : ByteArray) (w : World) (e : Ending) (w' : World) : Prop :=
  Below w.heap.size w w' ∧
  ((∃ (l : List Op) (A : Option Addr) (n c : Nat), (∀ o ∈ l, WfOp o) ∧ codeText l = t.data.toList ∧ (codeChk l).2 = 0 ∧ l.length = n ∧ e = .returned (.tuple #[.slice A n c, .nilIface]) ∧ Row w' 42 3 A n c (l.flatMap Op.cells) ∧ ∀ i, InA A i → w.heap.size ≤ i) ∨
   (∃ l : List Op, (∀ o ∈ l, WfOp o) ∧ codeText l = t.data.toList ∧ (codeChk l).2 ≠ 0 ∧ e = .returned (.tuple #[.slice none 0 0, errV (codeChk l).2])) ∨
   ((∀ l : List Op, (∀ o ∈ l, WfOp o) → codeText l ≠ t.data.toList) ∧ e = .returned (.tuple #[.slice none 0 0, errV 2])))

/-- Midway: so many lines are read. -/
structure ParseAt (w : World) (pre : List ByteArray) (W : World) : Prop where
  res : Boxed W w.heap.size 43 (.slice none 0 0)
  err : Boxed W (w.heap.size + 1) 30 .nilIface
  out : ∃ (l : List Op) (A : Option Addr) (n c : Nat), (∀ o ∈ l, WfOp o) ∧ pre.map (fun s => s.data.toList) = l.map opText ∧ l.length = n ∧ Boxed W (w.heap.size + 1 + 1) 43 (.slice A n c) ∧ Row W 42 3 A n c (l.flatMap Op.cells) ∧ ∀ i, InA A i → w.heap.size + 4 ≤ i
  big : w.heap.size + 4 ≤ W.heap.size
  below : Below w.heap.size w W
theorem ParseAt.abide (w : World) : Abide (w.heap.size + 4) (w.heap.size + 1 + 1 + 1) (ParseAt w) := by
  refine ⟨fun s W W' row h hg hr => ?_, fun s W u h => ?_⟩
  · have hr2 : ∀ r, row = some r → ∃ o : Obj, W.heap[r]? = some o ∧ o.isCells = false := fun r e => (hr r e).2
    obtain ⟨l, A, n, c, h1, h2, h3, h4, h5, h6⟩ := h.out
    exact ⟨boxed_turned h.res hg hr2, boxed_turned h.err hg hr2, ⟨l, A, n, c, h1, h2, h3, boxed_turned h4 hg hr2, h5.turned hg hr2, h6⟩, Nat.le_trans h.big hg.size, h.below.grown hg h.below.size (fun k e => by have := (hr k e).1; omega)⟩
  · obtain ⟨l, A, n, c, h1, h2, h3, h4, h5, h6⟩ := h.out
    exact ⟨h.res.other (by omega) _, h.err.other (by omega) _, ⟨l, A, n, c, h1, h2, h3, h4.other (by omega) _, h5.setCell (fun hi => by have := h6 _ hi; simp at this; omega) _, h6⟩, by rw [sz_set]; exact h.big, h.below.setCell (p := ⟨w.heap.size + 1 + 1 + 1, 0, none⟩) (by simp; omega) _⟩
/-- It has stopped: a line is no op's. -/
structure ParseStop (t : ByteArray) (w : World) (c : Code) (W : World) : Prop where
  ret : c = .ret
  no : ∀ l : List Op, (∀ o ∈ l, WfOp o) → codeText l ≠ t.data.toList
  res : Boxed W w.heap.size 43 (.slice none 0 0)
  err : Boxed W (w.heap.size + 1) 30 (errV 2)
  below : Below w.heap.size w W
theorem ParseStop.abide (t : ByteArray) (w : World) (c : Code) : Abide (w.heap.size + 4) (w.heap.size + 1 + 1 + 1) (fun (_ : List ByteArray) W => ParseStop t w c W) := by
  refine ⟨fun s W W' row h hg hr => ?_, fun s W u h => ?_⟩
  · have hr2 : ∀ r, row = some r → ∃ o : Obj, W.heap[r]? = some o ∧ o.isCells = false := fun r e => (hr r e).2
    exact ⟨h.ret, h.no, boxed_turned h.res hg hr2, boxed_turned h.err hg hr2, h.below.grown hg h.below.size (fun k e => by have := (hr k e).1; omega)⟩
  · exact ⟨h.ret, h.no, h.res.other (by omega) _, h.err.other (by omega) _, h.below.setCell (p := ⟨w.heap.size + 1 + 1 + 1, 0, none⟩) (by simp; omega) _⟩

theorem Tryz.infoOpR : (Tryz.prog.info? 42).map (fun i => (i.zero, i.size, i.bytes)) = some (some (.agg #[.int .i64 0, .int .i64 0, .int .i64 0]), 3, 24) := by kernel_rfl
theorem opText_10 (o : Op) : (10 : UInt8) ∈ opText o := by unfold opText; simp

theorem parse_start {w : World} {t : ByteArray} : ParseAt w [] ((((w.alloc (.cells #[.slice none 0 0] 43)).alloc (.cells #[.nilIface] 30)).alloc (.cells #[.slice none 0 0] 43)).alloc (.cells #[.string t] 9)) := by
  have b1 := ((Boxed.new w 43 (.slice none 0 0)).alloc (.cells #[.nilIface] 30)).alloc (.cells #[.slice none 0 0] 43) |>.alloc (.cells #[.string t] 9)
  have b2 := (Boxed.new (w.alloc (.cells #[.slice none 0 0] 43)) 30 .nilIface).alloc (.cells #[.slice none 0 0] 43) |>.alloc (.cells #[.string t] 9)
  have b3 := (Boxed.new ((w.alloc (.cells #[.slice none 0 0] 43)).alloc (.cells #[.nilIface] 30)) 43 (.slice none 0 0)).alloc (.cells #[.string t] 9)
  simp only [sz_alloc] at b2 b3
  exact ⟨b1, b2, ⟨[], none, 0, 0, (fun o ho => by cases ho), rfl, rfl, b3, Row.nil _ _ _, (fun i hi => by simp [InA] at hi)⟩, by simp, ((((Below.refl _ w).alloc (Nat.le_refl _) _).alloc (by simp) _).alloc (by simp; omega) _).alloc (by simp; omega) _⟩

/-- The end: the results lie in their cells. -/
theorem parse_ret {W9 : World} {D b0 b1 : Nat} {v0 v1 : Value} {a : Act} {T0 T1 : Nat} {R : Ending → World → Prop} (h0 : Boxed W9 b0 T0 v0) (h1 : Boxed W9 b1 T1 v1) (hD0 : b0 ≠ D) (hD1 : b1 ≠ D) (hK : W9.heap[D]? = some (.deferred (some [])))
    (h2 : a.tmps[2]? = some (.pointer (some ⟨b0, 0, none⟩))) (h3 : a.tmps[3]? = some (.pointer (some ⟨b1, 0, none⟩))) (hd : a.defers = [{ target := .collected D, args := #[] }]) (h : R (.returned (.tuple #[v0, v1])) (W9.putObj D (.deferred none))) :
    bodyPostM Fence.wide 3 Tryz.prog Tryz.f37 R .ret a W9 := by
  obtain ⟨tmps, defers⟩ := a
  simp only at h2 h3 hd
  subst hd
  refine ⟨by simp, .inl ⟨_, _, rfl, run_takeDeferred hK, ?_⟩⟩
  have e0 := (h0.kept (grownBy_putObj' W9 D (.deferred none)) (by simp; omega)).cell
  have e1 := (h1.kept (grownBy_putObj' W9 D (.deferred none)) (by simp; omega)).cell
  refine ⟨.tuple #[v0, v1], ?_, h⟩
  simp [results, Tryz.f37, go_sem, h2, h3, e0, e1]
theorem one_op3 (w : World) (o : Obj) {x y z : Value} {T : Nat} : Sl ((w.alloc o).alloc (.cells #[x, y, z] T)) (some ⟨w.heap.size + 1, 0, none⟩) 3 1 [x, y, z] := by
  have h := heap_alloc_new (w.alloc o) (.cells #[x, y, z] T)
  rw [sz_alloc] at h
  refine ⟨rfl, fun _ => ⟨w.heap.size + 1, 0, rfl, blk_lt h, fun j u hu => ?_⟩⟩
  rw [Nat.zero_add, blk_cell h]
  simpa using hu
set_option maxHeartbeats 8000000 in
theorem parse_any (t : ByteArray) (ht : t.size ≤ 1073741824) (w : World) (hf : Forms w) (hnm : Names w) (hd : Desk w) : Calls Tryz.prog 37 #[.string t] w (ParseGot t w) := by
  obtain ⟨i0, hi0, hz0, hz1, hz2⟩ := info_parts Tryz.infoOpR
  have HF : Hid (∀ w', Below w.heap.size w w' → Forms w' ∧ Names w' ∧ Desk w') := hid fun w' hb => ⟨hf.new hb, hnm.new hf hb, hd.new hb⟩
  clear hf hnm hd
  refine (callsIn_wide (n := 3)).1 ?_
  refine callsIn_of_wp_marks Tryz.func37 rfl trivial ?_ rfl
  simp only [Tryz.ntmps37, List.size_toArray, List.length_cons, List.length_nil, Nat.reduceAdd, Nat.reduceSub, Array.replicate_succ, Array.replicate_zero, List.push_toArray, List.append_toArray, List.nil_append, List.cons_append]
  gi_wp2_with (refine ⟨trivial, ?_⟩; gi_at_call 75; refine (callsIn_wide.2 (lines_made _ _)).mono ?_; rintro e w2 ⟨rfl, rfl⟩)
  have HR := hid (parse_start (w := w) (t := t))
  have HT := hid (heap_alloc_new (((w.alloc (.cells #[.slice none 0 0] 43)).alloc (.cells #[.nilIface] 30)).alloc (.cells #[.slice none 0 0] 43)) (.cells #[.string t] 9))
  have hsz : ((((w.alloc (.cells #[.slice none 0 0] 43)).alloc (.cells #[.nilIface] 30)).alloc (.cells #[.slice none 0 0] 43)).alloc (.cells #[.string t] 9)).heap.size = w.heap.size + 4 := by simp
  obtain ⟨W0, hW0⟩ : ∃ W0, (((w.alloc (.cells #[.slice none 0 0] 43)).alloc (.cells #[.nilIface] 30)).alloc (.cells #[.slice none 0 0] 43)).alloc (.cells #[.string t] 9) = W0 := ⟨_, rfl⟩
  simp only [sz_alloc] at HT
  rw [hW0] at HR HT hsz ⊢
  clear hW0
  refine range_cell (α := ByteArray) (all := linesB t) (t := w.heap.size + 1 + 1 + 1) rfl (by decide) (gf := 120) (lb := #[.pointer (some ⟨w.heap.size + 1 + 1 + 1, 0, none⟩)]) rfl trivial (enters_of Tryz.func120 (by kernel_rfl) rfl)
    (encs := fun x => #[.string x]) (by omega) (lines_gives _ _ 9 t (by omega) W0 HT.out) (fun _ => rfl)
    (ParseAt w) (fun c _ W => ParseStop t w c W)
    (by rw [hsz]; exact ParseAt.abide w) (fun c => by rw [hsz]; exact ParseStop.abide t w c) HR.out
    (fun x => { tmps := #[.string t, undef, .pointer (some ⟨w.heap.size, 0, none⟩), .pointer (some ⟨w.heap.size + 1, 0, none⟩), .pointer (some ⟨w.heap.size + 1 + 1, 0, none⟩), .string x, undef, undef, undef, undef, undef, .string t, .func (.func 120) #[] #[.pointer (some ⟨w.heap.size + 1 + 1 + 1, 0, none⟩)], .string x, undef, undef, undef, undef, undef, undef, undef, undef, undef, undef, undef, undef, undef, undef, undef, undef, undef, undef, undef, undef, undef, undef, undef, undef, undef, undef, undef], defers := [] }) ?assign ?body ?done ?stop
  case assign =>
    intro l x W K hK
    gi_wp2
    exact hK
  case body =>
    rintro l0 pre x W hI hpre
    obtain ⟨y, b, hy1, hy2, hys, hxs, hxm, hcase⟩ := line_cut (t := t) (x := x) (hpre.subset (by simp))
    have HCS : Hid (∀ w', Calls Tryz.prog 76 #[.string x, .string ⟨#[10]⟩] w' fun e w'' => e = .returned (.tuple #[.string y, .bool b]) ∧ w' = w'') := hid (cutsuf_any hy1 hy2 (by omega))
    have HRD := hid (read_any y (by omega) W (HF.out W hI.below).1 (HF.out W hI.below).2.1 (HF.out W hI.below).2.2)
    have HI := hid hI
    have HCASE := hid hcase
    have HXM := hid hxm
    clear hI hy1 hy2 hys hxs hxm hcase
    dsimp only
    gi_wp2_with (refine ⟨trivial, ?_⟩; gi_at_call 76; refine (CallsIn.inRound l0 (callsIn_wide.2 (HCS.out _))).mono ?_; rintro e w2 ⟨rfl, rfl⟩)
    refine ⟨trivial, (CallsIn.inRound l0 (callsIn_wide.2 HRD.out)).mono ?_⟩
    rintro e w2 ⟨hb2, hor⟩
    have HB2 := hid hb2
    have HW2 := hid (HI.out.below.trans (hb2.mono HI.out.below.size))
    have hbig := HI.out.big
    have hs2 := hb2.size
    have res2 : Boxed w2 w.heap.size 43 (.slice none 0 0) := (hb2.block _ (by omega)).trans HI.out.res
    have err2 : Boxed w2 (w.heap.size + 1) 30 .nilIface := (hb2.block _ (by omega)).trans HI.out.err
    obtain ⟨l, A, n, c, hwf, hmap, hn, hout, hrow, hfr⟩ := HI.out.out
    have out2 : Boxed w2 (w.heap.size + 1 + 1) 43 (.slice A n c) := (hb2.block _ (by omega)).trans hout
    have HROW2 := hid (hrow.new hb2)
    have HRES2 := hid res2
    have HERR2 := hid err2
    have HOUT2 := hid out2
    have HT2 := hid (show w2.heap[w.heap.size + 1 + 1 + 1]? = W.heap[w.heap.size + 1 + 1 + 1]? from hb2.block _ (by omega))
    have HWF := hid hwf
    have HMAP := hid hmap
    have HN := hid hn
    have HFR := hid hfr
    clear hb2 hwf hmap hn hout hrow hfr res2 err2 out2
    have HSTOP : (∀ o, WfOp o → opText o ≠ x.data.toList) → ∀ (obj : Obj) (a : Act), RoundLeft W0.heap.size (w.heap.size + 1 + 1 + 1) (ParseAt w) (fun c _ W => ParseStop t w c W) (pre ++ [x]) W .ret a (((w2.setCell ⟨w.heap.size, 0, none⟩ (.slice none 0 0)).setCell ⟨w.heap.size + 1, 0, none⟩ (.iface 118 (.int .i64 2))).alloc obj) := fun hno obj a =>
      ⟨(((keeps_below HB2.out).trans (keeps_set _ _)).trans (keeps_set _ _)).trans (keeps_below ((Below.refl _ _).alloc (Nat.le_refl _) obj)),
        ⟨rfl, code_not HXM.out hno, Boxed.alloc ((Boxed.set _ HRES2.out).other (by omega) _) obj, Boxed.alloc ((Boxed.other HERR2.out (by omega) _).set _) obj,
          ((HW2.out.setCell (p := ⟨w.heap.size, 0, none⟩) (Nat.le_refl _) _).setCell (p := ⟨w.heap.size + 1, 0, none⟩) (by simp) _).alloc (by rw [sz_set, sz_set]; exact HW2.out.size) obj⟩⟩
    have q2 : w2.cell? ⟨w.heap.size, 0, none⟩ = some (.slice none 0 0) := Boxed.cell HRES2.out
    have q3 : w2.cell? ⟨w.heap.size + 1, 0, none⟩ = some .nilIface := Boxed.cell HERR2.out
    have f2 : w2.frozen? ⟨w.heap.size, 0, none⟩ = false := Boxed.frozen HRES2.out
    have g2 : ∀ obj, (w2.alloc obj).frozen? ⟨w.heap.size, 0, none⟩ = false := fun obj => (Boxed.alloc HRES2.out obj).frozen
    have g3 : ∀ v obj, ((w2.setCell ⟨w.heap.size, 0, none⟩ v).alloc obj).frozen? ⟨w.heap.size + 1, 0, none⟩ = false := fun v obj => (Boxed.alloc (Boxed.other HERR2.out (by omega) v) obj).frozen
    have x2 : ∀ obj, (w2.alloc obj).cell? ⟨w.heap.size, 0, none⟩ = some (.slice none 0 0) := fun obj => (Boxed.alloc HRES2.out obj).cell
    have x3 : ∀ v obj, ((w2.setCell ⟨w.heap.size, 0, none⟩ v).alloc obj).cell? ⟨w.heap.size + 1, 0, none⟩ = some .nilIface := fun v obj => (Boxed.alloc (Boxed.other HERR2.out (by omega) v) obj).cell
    have q4 : ∀ obj, (w2.alloc obj).cell? ⟨w.heap.size + 1 + 1, 0, none⟩ = some (.slice A n c) := fun obj => (Boxed.alloc HOUT2.out obj).cell
    have hne : w.heap.size + 1 ≠ w.heap.size := by omega
    have hlt2 : w.heap.size < w2.heap.size := by omega
    have hlt3 : w.heap.size + 1 < w2.heap.size := by omega
    have hlt4 : w.heap.size + 1 + 1 < w2.heap.size := by omega
    rcases HCASE.out with ⟨rfl, hxy⟩ | ⟨rfl, hx10⟩
    · rcases hor with ⟨⟨what, oa, ob⟩, ho, hol, rfl⟩ | ⟨hno, rfl⟩
      · have HXY := hid hxy
        have HO := hid ho
        have HOL := hid hol
        have HSTOPX := hid HSTOP
        have hnt : n ≤ 1073741824 := by
          have h1 := HN.out
          have h2 : pre.length = l.length := by
            have := congrArg List.length HMAP.out
            rw [List.length_map, List.length_map] at this; exact this
          have h3 := hpre.length_le
          have h4 : (linesB t).length ≤ t.size := by
            unfold linesB; rw [List.length_map, Lib.size_eq]; exact lines_few _
          rw [List.length_append, List.length_singleton] at h3
          omega
        clear hxy ho hol HSTOP
        gi_wp2_with (gi_at_builtin; refine wpListIn_append_row rfl _ _ 43 rfl 42 i0 (.agg #[.int .i64 0, .int .i64 0, .int .i64 0]) 3 24 Tryz.underlying43 hi0 hz0 hz1 hz2 rfl (by decide) A n c (l.flatMap Op.cells) rfl ?c0 (some ⟨w2.heap.size + 1, 0, none⟩) 1 1 [.int .i64 what, .int .i64 oa, .int .i64 ob] rfl ?c1 ?c2 ?c3 ?c4 ?_)
        case c0 => exact (Row.alloc HROW2.out _).alloc _
        case c1 => exact one_op3 w2 _
        case c2 => intro u hu; simp at hu; rcases hu with rfl | rfl | rfl <;> rfl
        case c3 => unfold maxLen; omega
        case c4 => omega
        intro A5 c5 w5 hr5 hk5 hi5
        have HR5 := hid hr5
        have HK5 := hid hk5
        have HI5 := hid hi5
        have far : ∀ k, k < w.heap.size + 4 → w5.heap[k]? = w2.heap[k]? := fun k hk => by
          rw [hk5.block k (by rw [sz_alloc, sz_alloc]; omega) (fun hi => by have := HFR.out k hi; omega), blk_alloc (by rw [sz_alloc]; omega), blk_alloc (by omega)]
        have HFAR := hid far
        have out5 : Boxed w5 (w.heap.size + 1 + 1) 43 (.slice A n c) := (far _ (by omega)).trans HOUT2.out
        have HOUT5 := hid out5
        have q5 := out5.cell
        have f5 := out5.frozen
        have HS5 := hid hk5.size
        clear hr5 hk5 hi5 far out5 q2 q3 f2 g2 g3 x2 x3 q4
        gi_wp2
        have hwb : Below w.heap.size w ((w2.alloc (.cells #[.int .i64 what, .int .i64 oa, .int .i64 ob] 42)).alloc (.cells #[.int .i64 what, .int .i64 oa, .int .i64 ob] 42)) := (HW2.out.alloc HW2.out.size _).alloc (by simp; omega) _
        have hb5 : Below w.heap.size w w5 := hwb.trans (Keep.below HK5.out (by simp; omega) fun i hi => by have := HFR.out i hi; omega)
        refine ⟨((((keeps_below HB2.out).trans (keeps_below (((Below.refl w2.heap.size w2).alloc (Nat.le_refl _) _).alloc (by simp) _))).trans (keeps_row HK5.out fun b hb => ((Row.alloc HROW2.out _).alloc _).cellsAt hb))).trans (keeps_set _ _), ?_, ?_⟩
        · rw [blk_far (show w.heap.size + 1 + 1 + 1 ≠ w.heap.size + 1 + 1 by omega), HFAR.out _ (by omega)]; exact HT2.out
        · refine ⟨Boxed.other ((HFAR.out _ (by omega)).trans HRES2.out) (by omega) _, Boxed.other ((HFAR.out _ (by omega)).trans HERR2.out) (by omega) _, ⟨l ++ [⟨what, oa, ob⟩], A5, n + 1, c5, ?_, ?_, ?_, HOUT5.out.set _, ?_, ?_⟩, ?_, ?_⟩
          · intro o ho
            rcases List.mem_append.1 ho with h | h
            · exact HWF.out o h
            · rw [List.mem_singleton] at h; rw [h]; exact HO.out
          · rw [List.map_append, List.map_append, HMAP.out]
            congr 1
            simp only [List.map_cons, List.map_nil]
            rw [HXY.out, ← HOL.out]; rfl
          · rw [List.length_append, HN.out]; rfl
          · refine Row.setCell ?_ (fun hi => ?_) _
            · rw [List.flatMap_append]; exact HR5.out
            · rcases HI5.out _ hi with h | h
              · have := HFR.out _ h; simp at this; omega
              · have h' : w2.heap.size + 1 + 1 ≤ w.heap.size + 1 + 1 := h
                omega
          · intro i hi
            rcases HI5.out _ hi with h | h
            · exact HFR.out _ h
            · omega
          · have := HS5.out
            rw [sz_set]; simp at this; omega
          · exact hb5.setCell (p := ⟨w.heap.size + 1 + 1, 0, none⟩) (by simp; omega) _
      · have HST := hid (HSTOP fun o ho e => hno o ho (List.append_cancel_right (show opLine o ++ [10] = y.data.toList ++ [10] from e.trans hxy)))
        clear HSTOP hno hxy
        gi_wp2
        exact HST.out _ _
    · have HST := hid (HSTOP fun o ho e => hx10 (by rw [← e]; exact opText_10 o))
      clear HSTOP hx10
      rcases hor with ⟨⟨what, oa, ob⟩, ho, hol, rfl⟩ | ⟨hno, rfl⟩
      · clear ho hol
        gi_wp2
        exact HST.out _ _
      · clear hno
        gi_wp2
        exact HST.out _ _
  case done =>
    rintro D W hD hI hK
    have HI := hid hI
    obtain ⟨l, A, n, c, hwf, hmap, hn, hout, hrow, hfr⟩ := hI.out
    have hlin : linesOf t.data.toList = l.map opText := by
      rw [← hmap]; unfold linesB
      rw [List.map_map]
      exact (List.map_id' _).symm
    have HCT := hid (code_of hlin)
    have HCR : Hid (Calls Tryz.prog 69 #[.slice A n c] W fun e w' => e = .returned (errV (codeChk l).2) ∧ Below W.heap.size W w') := by
      have h := code_right A c l W (HF.out W hI.below).1 (by rw [hn]; exact hrow.sl) (by rw [hn]; exact row_slW hrow)
      rw [hn] at h; exact hid h
    have q4 := hout.cell
    have HOUT := hid hout
    have HROW := hid hrow
    have HFR := hid hfr
    have HWF := hid hwf
    have HN := hid hn
    have HK := hid hK
    have hbig := hI.big
    clear hI hmap hout hrow hfr hwf hn hlin hK
    dsimp only
    have hres := HI.out.res
    have herr := HI.out.err
    have HRES := hid hres
    have HERR := hid herr
    clear hres herr
    by_cases he : (codeChk l).2 = 0
    · rw [he, errV_zero] at HCR
      gi_wp2_with (refine ⟨trivial, ?_⟩; gi_at_call 69; refine (callsIn_wide.2 HCR.out).mono ?_; rintro e w3 ⟨rfl, hb3⟩; have HB3 := hid hb3; have x4 : w3.cell? ⟨w.heap.size + 1 + 1, 0, none⟩ = some (.slice A n c) := Boxed.cell ((hb3.block _ (by omega)).trans HOUT.out); have x2 : Boxed w3 w.heap.size 43 (.slice none 0 0) := (hb3.block _ (by omega)).trans HRES.out; have x3 : Boxed w3 (w.heap.size + 1) 30 .nilIface := (hb3.block _ (by omega)).trans HERR.out; have y2 := x2.cell; have y3 := x3.cell; have z2 := x2.frozen; have z3 : ∀ v, (w3.setCell ⟨w.heap.size, 0, none⟩ v).frozen? ⟨w.heap.size + 1, 0, none⟩ = false := (fun v => (Boxed.other x3 (by omega) v).frozen); have y3' : ∀ v, (w3.setCell ⟨w.heap.size, 0, none⟩ v).cell? ⟨w.heap.size + 1, 0, none⟩ = some .nilIface := (fun v => (Boxed.other x3 (by omega) v).cell); clear hb3 HCR)
      have hb9 := ((HI.out.below.trans (HB3.out.mono HI.out.below.size)).setCell (p := ⟨w.heap.size, 0, none⟩) (Nat.le_refl _) (.slice A n c)).setCell (p := ⟨w.heap.size + 1, 0, none⟩) (by simp) .nilIface
      have hK9 : ((w3.setCell ⟨w.heap.size, 0, none⟩ (.slice A n c)).setCell ⟨w.heap.size + 1, 0, none⟩ .nilIface).heap[D]? = some (.deferred (some [])) := set_keep (set_keep ((HB3.out.block _ (blk_lt HK.out)).trans HK.out) (by omega)) (by omega)
      have hr9 : Row ((w3.setCell ⟨w.heap.size, 0, none⟩ (.slice A n c)).setCell ⟨w.heap.size + 1, 0, none⟩ .nilIface) 42 3 A n c (l.flatMap Op.cells) := Row.setCell (Row.setCell (Row.new HROW.out HB3.out) (fun hi => by have h' : w.heap.size + 4 ≤ w.heap.size := HFR.out _ hi; omega) _) (fun hi => by have h' : w.heap.size + 4 ≤ w.heap.size + 1 := HFR.out _ hi; omega) _
      refine parse_ret (D := D) ((x2.set _).other (by omega) _) ((x3.other (by omega) _).set _) (by omega) (by omega) hK9 rfl rfl rfl ?_
      exact ⟨hb9.trans (belowK_b (w := w) (Nat.le_refl _) _ D _ _ (by omega) hK9 rfl rfl), .inl ⟨l, A, n, c, HWF.out, HCT.out, he, HN.out, rfl, hr9.turned (grownBy_putObj' _ D (.deferred none)) (fun r e => by cases e; exact ⟨_, hK9, rfl⟩), fun i hi => by have := HFR.out i hi; omega⟩⟩
    · rw [errV_pos he] at HCR
      gi_wp2_with (refine ⟨trivial, ?_⟩; gi_at_call 69; refine (callsIn_wide.2 HCR.out).mono ?_; rintro e w3 ⟨rfl, hb3⟩; have HB3 := hid hb3; have x2 : Boxed w3 w.heap.size 43 (.slice none 0 0) := (hb3.block _ (by omega)).trans HRES.out; have x3 : Boxed w3 (w.heap.size + 1) 30 .nilIface := (hb3.block _ (by omega)).trans HERR.out; have y2 := x2.cell; have y3 := x3.cell; have z2 := x2.frozen; have z3 : ∀ v, (w3.setCell ⟨w.heap.size, 0, none⟩ v).frozen? ⟨w.heap.size + 1, 0, none⟩ = false := (fun v => (Boxed.other x3 (by omega) v).frozen); have y3' : ∀ v, (w3.setCell ⟨w.heap.size, 0, none⟩ v).cell? ⟨w.heap.size + 1, 0, none⟩ = some .nilIface := (fun v => (Boxed.other x3 (by omega) v).cell); clear hb3 HCR)
      have hb9 := ((HI.out.below.trans (HB3.out.mono HI.out.below.size)).setCell (p := ⟨w.heap.size, 0, none⟩) (Nat.le_refl _) (.slice none 0 0)).setCell (p := ⟨w.heap.size + 1, 0, none⟩) (by simp) (.iface 118 (.int .i64 (codeChk l).2))
      have hK9 : ((w3.setCell ⟨w.heap.size, 0, none⟩ (.slice none 0 0)).setCell ⟨w.heap.size + 1, 0, none⟩ (.iface 118 (.int .i64 (codeChk l).2))).heap[D]? = some (.deferred (some [])) := set_keep (set_keep ((HB3.out.block _ (blk_lt HK.out)).trans HK.out) (by omega)) (by omega)
      refine parse_ret (D := D) ((x2.set _).other (by omega) _) ((x3.other (by omega) _).set _) (by omega) (by omega) hK9 rfl rfl rfl ?_
      exact ⟨hb9.trans (belowK_b (w := w) (Nat.le_refl _) _ D _ _ (by omega) hK9 rfl rfl), .inr (.inl ⟨l, HWF.out, HCT.out, he, by rw [errV_pos he]⟩)⟩
  case stop =>
    rintro D c pre W hD hpre hS hK
    obtain ⟨rfl, hno, hres, herr, hb⟩ := hS
    have HRES := hid hres
    have HERR := hid herr
    have HNO := hid hno
    have HB := hid hb
    clear hno hres herr hb
    dsimp only
    gi_wp2
    refine parse_ret (D := D) HRES.out HERR.out (by omega) (by omega) hK rfl rfl rfl ?_
    exact ⟨HB.out.trans (belowK_b (w := w) (Nat.le_refl _) _ D _ _ (by omega) hK rfl rfl), .inr (.inr ⟨HNO.out, rfl⟩)⟩
end Go.Proofs.YtldllmhgofacbaaGreatDoor
