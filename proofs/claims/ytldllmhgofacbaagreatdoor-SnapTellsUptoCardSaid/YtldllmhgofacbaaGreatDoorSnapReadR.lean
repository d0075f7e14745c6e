/- Package snap: the contract of read, for every text and every plan of few rooms and wires: the table of numbers whose text it is, or none. Conditions: 'Desk'; no text is longer than 2^30 bytes. -/
import Derived.Test.YtldllmhgofacbaaGreatDoorSnapSvU
import Derived.Test.YtldllmhgofacbaaGreatDoorSnapRdU
import Derived.Test.YtldllmhgofacbaaGreatDoorRoundRegion
import Derived.Test.YtldllmhgofacbaaGreatDoorRangeU
import Derived.Test.YtldllmhgofacbaaGreatDoorDeskU
namespace Go.Proofs.YtldllmhgofacbaaGreatDoor
open Go.RowKit Go.Shelf
set_option maxRecDepth 100000
attribute [local go_sem] Oper.semAt_some

/-- A table that lies: a row of rows of numbers. -/
structure TabAt (W : World) (L : List (List Nat)) (rs : List Il) (A : Option Addr) (n c : Nat) : Prop where
  same : rs.map Il.l = L.map fun ns => ns.map Int.ofNat
  len : L.length = n
  row : Row W 64 1 A n c (rs.flatMap Il.cells)
  rows : ∀ r ∈ rs, Row W 3 1 r.A r.l.length r.c (ints r.l)
/-- What read hands back. -/
def SReadGot (ws : List (List UInt8)) (t : ByteArray) (w : World) (e : Ending) (w' : World) : Prop :=
  Below w.heap.size w w' ∧ ((∃ (L : List (List Nat)) (rs : List Il) (A : Option Addr) (n c : Nat), Tab ws t.data.toList L ∧ e = .returned (.tuple #[.slice A n c, .bool true]) ∧ TabAt w' L rs A n c ∧ (∀ i, InA A i → w.heap.size ≤ i) ∧ ∀ r ∈ rs, ∀ i, InA r.A i → w.heap.size ≤ i) ∨
    ((∀ L, ¬ Tab ws t.data.toList L) ∧ ∃ (A : Option Addr) (n c : Nat), e = .returned (.tuple #[.slice A n c, .bool false])))
/-- Midway: so many lines are read. -/
structure SRAt (w : World) (wb : Nat) (ws : List (List UInt8)) (WA : Option Addr) (wc : Nat) (pre : List ByteArray) (W : World) : Prop where
  out : Boxed W (w.heap.size + 1) 86 (.slice none 0 0)
  is : Boxed W (w.heap.size + 1 + 1) 4 (.bool false)
  want : Boxed W wb 78 (.slice WA ws.length wc)
  wrow : Row W 9 1 WA ws.length wc (ws.map txt)
  wlow : ∀ i, InA WA i → i < wb
  got : ∃ (L : List (List Nat)) (rs : List Il) (A : Option Addr) (n c : Nat), (∀ ns ∈ L, ∀ k ∈ ns, k < 10 ^ 7) ∧ L.length ≤ ws.length ∧ pre.map (fun s => s.data.toList) = ((ws.zip L).map fun x => tabLine x ++ [10]) ∧ TabAt W L rs A n c ∧ Boxed W (wb + 1) 86 (.slice A n c) ∧ (∀ i, InA A i → wb + 3 ≤ i) ∧ ∀ r ∈ rs, ∀ i, InA r.A i → wb + 3 ≤ i
  far : w.heap.size + 1 + 1 < wb
  big : wb + 3 ≤ W.heap.size
  below : Below w.heap.size w W
theorem TabAt.turned {W W' : World} {L : List (List Nat)} {rs : List Il} {A : Option Addr} {n c : Nat} {row : Option Nat} (h : TabAt W L rs A n c) (hg : W.grownBy W' row) (hr : ∀ r, row = some r → ∃ o : Obj, W.heap[r]? = some o ∧ o.isCells = false) : TabAt W' L rs A n c :=
  ⟨h.same, h.len, h.row.turned hg hr, fun r hm => (h.rows r hm).turned hg hr⟩
theorem TabAt.new {W W' : World} {L : List (List Nat)} {rs : List Il} {A : Option Addr} {n c : Nat} (h : TabAt W L rs A n c) (hb : Below W.heap.size W W') : TabAt W' L rs A n c :=
  ⟨h.same, h.len, h.row.new hb, fun r hm => (h.rows r hm).new hb⟩
theorem SRAt.abide (w : World) (wb : Nat) (ws : List (List UInt8)) (WA : Option Addr) (wc : Nat) : Abide (wb + 3) (wb + 1 + 1) (SRAt w wb ws WA wc) := by
  refine ⟨fun s W W' row h hg hr => ?_, fun s W u h => ?_⟩
  · have hr2 : ∀ r, row = some r → ∃ o : Obj, W.heap[r]? = some o ∧ o.isCells = false := fun r e => (hr r e).2
    have hf := h.far
    obtain ⟨L, rs, A, n, c, h1, h2, h3, h4, h5, h6⟩ := h.got
    exact ⟨boxed_turned h.out hg hr2, boxed_turned h.is hg hr2, boxed_turned h.want hg hr2, h.wrow.turned hg hr2, h.wlow, ⟨L, rs, A, n, c, h1, h2, h3, h4.turned hg hr2, boxed_turned h5 hg hr2, h6⟩, hf, Nat.le_trans h.big hg.size, h.below.grown hg h.below.size (fun k e => by have := (hr k e).1; omega)⟩
  · have hf := h.far
    obtain ⟨L, rs, A, n, c, h1, h2, h3, h4, h5, h6, h7⟩ := h.got
    refine ⟨h.out.other (by omega) _, h.is.other (by omega) _, h.want.other (by omega) _, h.wrow.setCell (fun hi => by have := h.wlow _ hi; simp at this; omega) _, h.wlow, ⟨L, rs, A, n, c, h1, h2, h3, ⟨h4.same, h4.len, h4.row.setCell (fun hi => ?_) _, fun r hr => (h4.rows r hr).setCell (fun hi => ?_) _⟩, h5.other (by omega) _, h6, h7⟩, hf, by rw [sz_set]; exact h.big, h.below.setCell (p := ⟨wb + 1 + 1, 0, none⟩) (by simp; omega) _⟩
    · have h' : wb + 3 ≤ wb + 1 + 1 := h6 _ hi
      omega
    · have h' : wb + 3 ≤ wb + 1 + 1 := h7 r hr _ hi
      omega
theorem TabAt.set {W : World} {L : List (List Nat)} {rs : List Il} {A : Option Addr} {n c b o : Nat} (h : TabAt W L rs A n c) (h1 : ¬ InA A b) (h2 : ∀ r ∈ rs, ¬ InA r.A b) (v : Value) : TabAt (W.setCell ⟨b, o, none⟩ v) L rs A n c :=
  ⟨h.same, h.len, h.row.setCell h1 v, fun r hm => (h.rows r hm).setCell (h2 r hm) v⟩
theorem TabAt.drew {W : World} {L : List (List Nat)} {rs : List Il} {A : Option Addr} {n c : Nat} (h : TabAt W L rs A n c) : TabAt W.drew L rs A n c := ⟨h.same, h.len, h.row, h.rows⟩
/-- It has stopped: a line is none of the table's. -/
structure SRStop (ws : List (List UInt8)) (t : ByteArray) (w : World) (wb : Nat) (c : Code) (W : World) : Prop where
  ret : c = .ret
  no : ∀ L, ¬ Tab ws t.data.toList L
  out : Boxed W (w.heap.size + 1) 86 (.slice none 0 0)
  is : Boxed W (w.heap.size + 1 + 1) 4 (.bool false)
  far : w.heap.size + 1 + 1 < wb
  below : Below w.heap.size w W
theorem SRStop.abide (ws : List (List UInt8)) (t : ByteArray) (w : World) (wb : Nat) (c : Code) : Abide (wb + 3) (wb + 1 + 1) (fun (_ : List ByteArray) W => SRStop ws t w wb c W) := by
  refine ⟨fun s W W' row h hg hr => ?_, fun s W u h => ?_⟩
  · have hr2 : ∀ r, row = some r → ∃ o : Obj, W.heap[r]? = some o ∧ o.isCells = false := fun r e => (hr r e).2
    have hf := h.far
    exact ⟨h.ret, h.no, boxed_turned h.out hg hr2, boxed_turned h.is hg hr2, hf, h.below.grown hg h.below.size (fun k e => by have := (hr k e).1; omega)⟩
  · have hf := h.far
    exact ⟨h.ret, h.no, h.out.other (by omega) _, h.is.other (by omega) _, hf, h.below.setCell (p := ⟨wb + 1 + 1, 0, none⟩) (by simp; omega) _⟩
theorem sr_start {w w1 : World} {o : Obj} {A : Option Addr} {c : Nat} {s : ByteArray} {ws : List (List UInt8)}
    (h : Below (((w.alloc o).alloc (.cells #[.slice none 0 0] 86)).alloc (.cells #[.bool false] 4)).heap.size (((w.alloc o).alloc (.cells #[.slice none 0 0] 86)).alloc (.cells #[.bool false] 4)) w1) (hrow : Row w1 9 1 A ws.length c (ws.map txt)) :
    SRAt w w1.heap.size ws A c [] (((w1.alloc (.cells #[.slice A ws.length c] 78)).alloc (.cells #[.slice none 0 0] 86)).alloc (.cells #[.string s] 9)) := by
  have r := read_at (s := s) (A := A) (n := ws.length) (c := c) h
  exact ⟨r.out, r.is, r.want, ((hrow.alloc _).alloc _).alloc _, fun i hi => hrow.lt i hi, ⟨[], [], none, 0, 0, (fun ns hns => by cases hns), by simp, by simp, ⟨rfl, rfl, Row.nil _ _ _, fun r hr => by cases hr⟩, r.got, (fun i hi => by simp [InA] at hi), fun r hr => by cases hr⟩, r.far, by simp, r.below⟩
/-- The end: the results lie in their cells. -/
theorem sr_ret {W9 : World} {D b0 b1 : Nat} {v0 v1 : Value} {a : Act} {T0 T1 : Nat} {R : Ending → World → Prop} (h0 : Boxed W9 b0 T0 v0) (h1 : Boxed W9 b1 T1 v1) (hD0 : b0 ≠ D) (hD1 : b1 ≠ D) (hK : W9.heap[D]? = some (.deferred (some [])))
    (h2 : a.tmps[4]? = some (.pointer (some ⟨b0, 0, none⟩))) (h3 : a.tmps[5]? = some (.pointer (some ⟨b1, 0, none⟩))) (hd : a.defers = [{ target := .collected D, args := #[] }]) (h : R (.returned (.tuple #[v0, v1])) (W9.putObj D (.deferred none))) :
    bodyPostM Fence.wide 3 Tryz.prog Tryz.f85 R .ret a W9 := by
  obtain ⟨tmps, defers⟩ := a
  simp only at h2 h3 hd
  subst hd
  refine ⟨by simp, .inl ⟨_, _, rfl, run_takeDeferred hK, ?_⟩⟩
  have e0 := (h0.kept (grownBy_putObj' W9 D (.deferred none)) (by simp; omega)).cell
  have e1 := (h1.kept (grownBy_putObj' W9 D (.deferred none)) (by simp; omega)).cell
  refine ⟨.tuple #[v0, v1], ?_, h⟩
  simp [results, Tryz.f85, go_sem, h2, h3, e0, e1]
theorem at_pre {t x : ByteArray} {pre : List ByteArray} (h : pre ++ [x] <+: linesB t) : (linesOf t.data.toList)[pre.length]? = some x.data.toList := by
  obtain ⟨r, hr⟩ := h
  have h1 : linesOf t.data.toList = (linesB t).map fun s => s.data.toList := by unfold linesB; rw [List.map_map]; exact (List.map_id' _).symm
  rw [h1, ← hr, List.map_append, List.map_append, List.append_assoc, List.getElem?_append_right (by simp)]
  simp
theorem row_word' {w : World} {A : Option Addr} {n c : Nat} {P : List (List UInt8)} (h : Row w 9 1 A n c (P.map txt)) {i : Nat} {s : List UInt8} (hs : P[i]? = some s) : ∃ b off, A = some ⟨b, off, none⟩ ∧ b < w.heap.size ∧ i < n ∧ w.cell? ⟨b, off + i, none⟩ = some (.string ⟨s.toArray⟩) := by
  have hl := (List.getElem?_eq_some_iff.1 hs).1
  have hn : P.length = n := by have := h.sl.1; rw [List.length_map] at this; omega
  obtain ⟨b, off, rfl, hb, hx⟩ := h.sl.2 (by omega)
  exact ⟨b, off, rfl, hb, by omega, hx i _ (by rw [List.getElem?_map, hs]; rfl)⟩
theorem Tryz.infoInts : (Tryz.prog.info? 64).map (fun i => (i.zero, i.size, i.bytes)) = some (some (.slice none 0 0), 1, 24) := by kernel_rfl

set_option maxHeartbeats 8000000 in
theorem sread_any (t : ByteArray) (ht : t.size ≤ 1073741824) (w : World) (hd : Desk w) (A0 A2 A3 : Option Addr) (n0 c0 n2 c2 n3 c3 : Nat) (v1 : Int) (h0 : n0 ≤ 1000) (h3 : n3 ≤ 1000) :
    Calls Tryz.prog 85 #[.agg #[.slice A0 n0 c0, .int .i64 v1, .slice A2 n2 c2, .slice A3 n3 c3], .string t] w (SReadGot (wordsOf n0 n3) t w) := by
  obtain ⟨i0, hi0, hz0, hz1, hz2⟩ := info_parts Tryz.infoInts
  have HD : Hid (∀ w', Below w.heap.size w w' → Desk w') := hid fun w' hb => hd.new hb
  clear hd
  obtain ⟨ws, hws⟩ : ∃ ws, ws = wordsOf n0 n3 := ⟨_, rfl⟩
  have HWL : Hid (1 + n0 + n3 = ws.length) := hid (by rw [hws, wordsOf_len])
  have HPW : Hid (PlainW ws) := hid (by rw [hws]; exact wordsOf_plain _ _)
  have hwn : ws.length ≤ 2001 := by have := HWL.out; omega
  have HWSE := hid hws
  rw [← hws]
  clear hws
  refine (callsIn_wide (n := 3)).1 ?_
  refine callsIn_of_wp_marks Tryz.func85 rfl trivial ?_ rfl
  simp only [Tryz.ntmps85, List.size_toArray, List.length_cons, List.length_nil, Nat.reduceAdd, Nat.reduceSub, Array.replicate_succ, Array.replicate_zero, List.push_toArray, List.append_toArray, List.nil_append, List.cons_append]
  gi_wp2_with (first
    | (refine ⟨trivial, ?_⟩; gi_at_call 134; refine (callsIn_wide.2 (swords_row _ A0 A2 A3 n0 c0 n2 c2 n3 c3 v1 h0 h3)).mono ?_; rintro e w1 ⟨A, c, rfl, hrow1, hb1⟩; have HB1 := hid hb1; have HROW1 := hid hrow1; clear hb1 hrow1)
    | (refine ⟨trivial, ?_⟩; gi_at_call 75; refine (callsIn_wide.2 (lines_made _ _)).mono ?_; rintro e w2 ⟨rfl, rfl⟩))
  rw [← HWSE.out] at HROW1
  have hwl := HWL.out
  rw [hwl] at HROW1 ⊢
  have HR := hid (sr_start (s := t) (c := c) HB1.out HROW1.out)
  have HT := hid (heap_alloc_new ((w1.alloc (.cells #[.slice A ws.length c] 78)).alloc (.cells #[.slice none 0 0] 86)) (.cells #[.string t] 9))
  have hsz : (((w1.alloc (.cells #[.slice A ws.length c] 78)).alloc (.cells #[.slice none 0 0] 86)).alloc (.cells #[.string t] 9)).heap.size = w1.heap.size + 3 := by simp
  obtain ⟨W0, hW0⟩ : ∃ W0, ((w1.alloc (.cells #[.slice A ws.length c] 78)).alloc (.cells #[.slice none 0 0] 86)).alloc (.cells #[.string t] 9) = W0 := ⟨_, rfl⟩
  simp only [sz_alloc] at HT
  rw [hW0] at HR HT hsz ⊢
  obtain ⟨wb, hwb⟩ : ∃ wb, wb = w1.heap.size := ⟨_, rfl⟩
  rw [← hwb] at HR HT hsz ⊢
  clear hW0 HB1 HROW1 hwb hwl
  refine range_cell (α := ByteArray) (all := linesB t) (t := wb + 1 + 1) rfl (by decide) (gf := 120) (lb := #[.pointer (some ⟨wb + 1 + 1, 0, none⟩)]) rfl trivial (enters_of Tryz.func120 (by kernel_rfl) rfl)
    (encs := fun x => #[.string x]) (by omega) (lines_gives _ _ 9 t (by omega) W0 HT.out) (fun _ => rfl)
    (SRAt w wb ws A c) (fun c _ W => SRStop ws t w wb c W)
    (by rw [hsz]; exact SRAt.abide w wb ws A c) (fun c => by rw [hsz]; exact SRStop.abide ws t w wb c) HR.out
    (fun x => { tmps := #[.agg #[.slice A0 n0 c0, .int .i64 v1, .slice A2 n2 c2, .slice A3 n3 c3], .string t, .pointer (some ⟨w.heap.size, 0, none⟩), undef, .pointer (some ⟨w.heap.size + 1, 0, none⟩), .pointer (some ⟨w.heap.size + 1 + 1, 0, none⟩), .pointer (some ⟨wb, 0, none⟩), .pointer (some ⟨wb + 1, 0, none⟩), .string x, undef, undef, undef, undef, undef, undef, .agg #[.slice A0 n0 c0, .int .i64 v1, .slice A2 n2 c2, .slice A3 n3 c3], .slice A ws.length c, .string t, .func (.func 120) #[] #[.pointer (some ⟨wb + 1 + 1, 0, none⟩)], .string x, undef, undef, undef, undef, undef, undef, undef, undef, undef, undef, undef, undef, undef, undef, undef, undef, undef, undef, undef, undef, undef, undef, undef, undef, undef, undef, undef, undef, undef, undef, undef, undef, undef, undef, undef, undef, undef, undef, undef, undef, undef, undef, undef, undef, undef, undef, undef], defers := [] }) ?assign ?body ?done ?stop
  case assign =>
    intro l x W K hK
    gi_wp2
    exact hK
  case body =>
    rintro l0 pre x W hI hpre
    obtain ⟨y, b, hy1, hy2, hys, hxs, hxm, hcase⟩ := line_cut (t := t) (x := x) (hpre.subset (by simp))
    have HCS : Hid (∀ w', Calls Tryz.prog 76 #[.string x, .string ⟨#[10]⟩] w' fun e w'' => e = .returned (.tuple #[.string y, .bool b]) ∧ w' = w'') := hid (cutsuf_any hy1 hy2 (by omega))
    have HSPLIT := hid (split_any y (by omega) W (HD.out W hI.below))
    have HI := hid hI
    have HCASE := hid hcase
    have HXA := hid (at_pre hpre)
    have hyt : y.size ≤ 1073741824 := by omega
    clear hI hy1 hy2 hys hxs hxm hcase
    dsimp only
    gi_wp2_with (refine ⟨trivial, ?_⟩; gi_at_call 76; refine (CallsIn.inRound l0 (callsIn_wide.2 (HCS.out _))).mono ?_; rintro e w2 ⟨rfl, rfl⟩)
    refine ⟨trivial, (CallsIn.inRound l0 (callsIn_wide.2 HSPLIT.out)).mono ?_⟩
    rintro e w2 ⟨wds, nn, hn, hwds, hle, hns, rfl, rfl⟩
    obtain ⟨v0, vs, hcut⟩ := cutA_cons 32 y.data.toList []
    have HCUT := hid hcut
    have hws0 := hwds
    rw [hcut] at hws0
    obtain ⟨w0, rest, hwr, hw0, hrest⟩ : ∃ w0 rest, wds = w0 :: rest ∧ w0.data.toList = v0 ∧ rest.map (fun s : ByteArray => s.data.toList) = vs := by
      cases wds with
      | nil => simp at hws0
      | cons w0 rest =>
        rw [List.map_cons] at hws0
        injection hws0 with h1 h2
        exact ⟨w0, rest, rfl, h1, h2⟩
    have hn' := hn
    rw [hwr, List.length_cons] at hn'
    have hsl := split_sl (w := W) hn
    have hrl : ∀ x ∈ rest, x.size ≤ 1073741824 := fun x hx => Nat.le_trans (hle x (by rw [hwr]; simp [hx])) hyt
    obtain ⟨W2, hW2⟩ : ∃ W2, W.alloc (.cells (wds.map Value.string).toArray 9) = W2 := ⟨_, rfl⟩
    have hb2 : Below W.heap.size W W2 := by rw [← hW2]; exact (Below.refl _ _).alloc (Nat.le_refl _) _
    have hsz2 : W2.heap.size = W.heap.size + 1 := by rw [← hW2]; exact sz_alloc _ _
    rw [hW2] at hsl ⊢
    have hw0c : W2.cell? ⟨W.heap.size, 0, none⟩ = some (.string w0) := by
      obtain ⟨bb, off, e, _, hx⟩ := hsl.2 (by omega)
      injection e with e
      injection e with e1 e2
      subst e1 e2
      exact hx 0 _ (by rw [hwr]; rfl)
    have hsl1 : Sl W2 (some ⟨W.heap.size, 1, none⟩) 1 (nn - 1) (rest.map Value.string) := by
      refine ⟨by rw [List.length_map]; omega, fun _ => ⟨W.heap.size, 1, rfl, by omega, fun j u hu => ?_⟩⟩
      obtain ⟨bb, off, e, _, hx⟩ := hsl.2 (by omega)
      injection e with e
      injection e with e1 e2
      subst e1 e2
      have := hx (j + 1) u (by rw [hwr, List.map_cons]; exact hu)
      rw [show 1 + j = 0 + (j + 1) by omega]; exact this
    have hdw : Desk W2 := HD.out W2 (HI.out.below.trans (hb2.mono HI.out.below.size))
    have HNUM : Hid (if nn = 1 then Calls Tryz.prog 124 #[.slice (some ⟨W.heap.size, 0, none⟩) 0 0, .int .i64 7] W2 (NumsGot 7 rest W2) else Calls Tryz.prog 124 #[.slice (some ⟨W.heap.size, 1, none⟩) (nn - 1) (nn - 1), .int .i64 7] W2 (NumsGot 7 rest W2)) := hid (by
      split
      · rename_i h1
        refine numbers_any rest _ 0 0 7 (by omega) (by omega) hrl W2 hdw ?_
        have : rest = [] := List.eq_nil_of_length_eq_zero (by omega)
        rw [this]; exact Sl.nil _ _ _
      · exact numbers_any rest _ (nn - 1) (nn - 1) 7 (by omega) (by omega) hrl W2 hdw hsl1)
    have HREST := hid hrest
    have HW0 := hid hw0
    have HW0C := hid hw0c
    have HB2 := hid hb2
    have hn1 : 1 ≤ nn := by omega
    have hn30 : nn ≤ 1073741825 := by omega
    have HSZ2 := hid hsz2
    clear hW2 hws0 hsl hsl1 hw0c hb2 hwr hrl hrest hcut hn hwds hle hns hw0 hn' hdw hsz2
    have HN3 : Hid (∀ (w3 : World), Below W2.heap.size W2 w3 → Below W.heap.size W w3 ∧ w3.cell? ⟨W.heap.size, 0, none⟩ = some (.string w0)) := hid fun w3 hb => ⟨HB2.out.trans (hb.mono HB2.out.size), (hb.cell (p := ⟨W.heap.size, 0, none⟩) (by rw [HSZ2.out]; exact Nat.lt_succ_self _)).trans HW0C.out⟩
    by_cases hn2 : nn = 1
    · rw [if_pos hn2] at HNUM
      gi_wp2
      refine ⟨trivial, (CallsIn.inRound l0 (callsIn_wide.2 HNUM.out)).mono ?_⟩
      rintro e w3 ⟨hb3, hor⟩
      rw [HREST.out] at hor
      obtain ⟨hbw3, hc3⟩ := HN3.out w3 hb3
      have HB3 := hid hbw3
      have HBW3 := hid (HI.out.below.trans (hbw3.mono HI.out.below.size))
      have hfar := HI.out.far
      have hbig := HI.out.big
      have hs3 := hbw3.size
      have bl3 : ∀ k, k < wb + 3 → w3.heap[k]? = W.heap[k]? := fun k hk => hbw3.block k (by omega)
      have out3 : Boxed w3 (w.heap.size + 1) 86 (.slice none 0 0) := (bl3 _ (by omega)).trans HI.out.out
      have is3 : Boxed w3 (w.heap.size + 1 + 1) 4 (.bool false) := (bl3 _ (by omega)).trans HI.out.is
      have want3 : Boxed w3 wb 78 (.slice A ws.length c) := (bl3 _ (by omega)).trans HI.out.want
      obtain ⟨L, rs, B, n, d, hsm, hll, hmap, htab, hgot, hfr, hfrs⟩ := HI.out.got
      have got3 : Boxed w3 (wb + 1) 86 (.slice B n d) := (bl3 _ (by omega)).trans hgot
      have q4 := got3.cell
      have HOUT3 := hid out3
      have HIS3 := hid is3
      have HWANT3 := hid want3
      have HGOT3 := hid got3
      have HTAB3 := hid (htab.new hbw3)
      have HSM := hid hsm
      have HMAP := hid hmap
      have HFR := hid hfr
      have HFRS := hid hfrs
      have HT3 := hid (show w3.heap[wb + 1 + 1]? = W.heap[wb + 1 + 1]? from bl3 _ (by omega))
      have hnl : n = L.length := htab.len.symm
      have hnp : pre.length = n := by
        have := congrArg List.length hmap
        rw [List.length_map, List.length_map, List.length_zip] at this
        omega
      have HNP := hid hnp
      have HNL := hid hnl
      clear hb3 hbw3 bl3 out3 is3 want3 got3 hsm hmap htab hgot hfr hfrs hnp
      have hn2001 : n ≤ 2001 := by omega
      have hnn : 0 < nn := by omega
      clear hnl hll
      have HSTOP : Hid ((∀ L', ¬ Tab ws t.data.toList L') → ∀ a : Act, RoundLeft W0.heap.size (wb + 1 + 1) (SRAt w wb ws A c) (fun c _ W => SRStop ws t w wb c W) (pre ++ [x]) W .ret a ((w3.drew.setCell ⟨w.heap.size + 1, 0, none⟩ (.slice none 0 0)).setCell ⟨w.heap.size + 1 + 1, 0, none⟩ (.bool false))) := hid fun hno a =>
        ⟨(((keeps_below HB3.out).trans (keeps_below (Below.refl _ _).drew)).trans (keeps_set _ _)).trans (keeps_set _ _),
          ⟨rfl, hno, (Boxed.set (W := w3.drew) _ HOUT3.out).other (by omega) _, (Boxed.other (W := w3.drew) HIS3.out (by omega) _).set _, hfar,
            ((HBW3.out.drew).setCell (p := ⟨w.heap.size + 1, 0, none⟩) (by simp) _).setCell (p := ⟨w.heap.size + 1 + 1, 0, none⟩) (by simp; omega) _⟩⟩
      have HXB : Hid ((linesOf t.data.toList)[n]? = some x.data.toList) := hid (by rw [← HNP.out]; exact HXA.out)
      obtain ⟨fl, nv, he, hnums⟩ : ∃ (fl : Bool) (nv : Value), e = .returned (.tuple #[nv, .bool fl]) ∧ ((fl = true ∧ ∃ (ns : List Nat) (B7 : Option Addr) (k7 d7 : Nat), numsOf 7 vs = some ns ∧ ns.length = k7 ∧ nv = .slice B7 k7 d7 ∧ Row w3 3 1 B7 k7 d7 (ints (ns.map Int.ofNat)) ∧ ∀ i, InA B7 i → W2.heap.size ≤ i) ∨ (fl = false ∧ numsOf 7 vs = none)) := by
        rcases hor with ⟨ns, B7, k7, d7, h1, h2, rfl, h3, h4⟩ | ⟨h1, rfl⟩
        · exact ⟨true, _, rfl, .inl ⟨rfl, ns, B7, k7, d7, h1, h2, rfl, h3, h4⟩⟩
        · exact ⟨false, _, rfl, .inr ⟨rfl, h1⟩⟩
      subst he
      have HNUMS := hid hnums
      clear hor hnums
      rcases HCASE.out with ⟨rfl, hxy⟩ | ⟨rfl, hx10⟩
      rotate_left
      · have hst := HSTOP.out (fun L' => tab_not_end HPW.out HXB.out hx10)
        have HST := hid hst
        have HSR : Hid True := hid trivial
        clear hst hx10
        gi_wp2
        refine wpIn_round_held (S := (fun w' => True)) (by kernel_rfl) (by kernel_rfl) ?_ (fun hHeld => ?_)
        · exact HSR.out
        refine wpAnyH_take (i := 0) (v := ?v1) rfl (by kernel_rfl) (by kernel_rfl) (by kernel_rfl) (fun _ _ _ h => h) (Or.inl ⟨by rfl, ?hy1⟩) (by assumption) ?rest1
        case hy1 => (intro w hSw; (try dsimp only at hSw); (try simp only [List.getElem_toArray, List.getElem_cons_zero]); go_simp; (try with_reducible rfl))
        (try simp only [Act.put, List.getElem_toArray, List.getElem_cons_zero, List.setIfInBounds_toArray, List.set_cons_zero, List.set_cons_succ])
        refine wpAnyH_take (i := 1) (v := ?v2) rfl (by kernel_rfl) (by kernel_rfl) (by kernel_rfl) (fun _ _ _ h => h) (Or.inl ⟨by rfl, ?hy2⟩) (by assumption) ?rest2
        case hy2 => (intro w hSw; (try dsimp only at hSw); (try simp only [List.getElem_toArray, List.getElem_cons_zero, List.getElem_cons_succ]); go_simp; (try with_reducible rfl))
        (try simp only [Act.put, List.getElem_toArray, List.getElem_cons_zero, List.getElem_cons_succ, List.setIfInBounds_toArray, List.set_cons_zero, List.set_cons_succ])
        refine wpAnyH_take (i := 2) (v := ?v3) rfl (by kernel_rfl) (by kernel_rfl) (by kernel_rfl) (fun _ _ _ h => h) (Or.inl ⟨by rfl, ?hy3⟩) (by assumption) ?rest3
        case hy3 => (intro w hSw; (try dsimp only at hSw); (try simp only [List.getElem_toArray, List.getElem_cons_zero, List.getElem_cons_succ]); go_simp; (try with_reducible rfl))
        (try simp only [Act.put, List.getElem_toArray, List.getElem_cons_zero, List.getElem_cons_succ, List.setIfInBounds_toArray, List.set_cons_zero, List.set_cons_succ])
        refine wpAnyH_take (i := 3) (v := undef) rfl (by kernel_rfl) (by kernel_rfl) (by kernel_rfl) (fun _ _ _ h => h) (Or.inr ⟨by rfl, rfl⟩) (by assumption) ?_
        (try simp only [Act.put, List.getElem_toArray, List.getElem_cons_zero, List.getElem_cons_succ, List.setIfInBounds_toArray, List.set_cons_zero, List.set_cons_succ])
        refine wpAnyH_take (i := 4) (v := undef) rfl (by kernel_rfl) (by kernel_rfl) (by kernel_rfl) (fun _ _ _ h => h) (Or.inr ⟨by rfl, rfl⟩) (by assumption) ?_
        (try simp only [Act.put, List.getElem_toArray, List.getElem_cons_zero, List.getElem_cons_succ, List.setIfInBounds_toArray, List.set_cons_zero, List.set_cons_succ])
        refine wpAnyH_take (i := 5) (v := ?v4) rfl (by kernel_rfl) (by kernel_rfl) (by kernel_rfl) (fun _ _ _ h => h) (Or.inl ⟨by rfl, ?hy4⟩) (by assumption) ?rest4
        case hy4 => (intro w hSw; (try dsimp only at hSw); (try simp only [List.getElem_toArray, List.getElem_cons_zero, List.getElem_cons_succ]); go_simp; (try with_reducible rfl))
        (try simp only [Act.put, List.getElem_toArray, List.getElem_cons_zero, List.getElem_cons_succ, List.setIfInBounds_toArray, List.set_cons_zero, List.set_cons_succ])
        refine wpAnyH_take (i := 6) (v := ?v5) rfl (by kernel_rfl) (by kernel_rfl) (by kernel_rfl) (fun _ _ _ h => h) (Or.inl ⟨by rfl, ?hy5⟩) (by assumption) ?rest5
        case hy5 => (intro w hSw; (try dsimp only at hSw); (try simp only [List.getElem_toArray, List.getElem_cons_zero, List.getElem_cons_succ]); go_simp; (try with_reducible rfl))
        (try simp only [Act.put, List.getElem_toArray, List.getElem_cons_zero, List.getElem_cons_succ, List.setIfInBounds_toArray, List.set_cons_zero, List.set_cons_succ])
        refine wpAnyH_take (i := 7) (v := undef) rfl (by kernel_rfl) (by kernel_rfl) (by kernel_rfl) (fun _ _ _ h => h) (Or.inr ⟨by rfl, rfl⟩) (by assumption) ?_
        (try simp only [Act.put, List.getElem_toArray, List.getElem_cons_zero, List.getElem_cons_succ, List.setIfInBounds_toArray, List.set_cons_zero, List.set_cons_succ])
        refine wpAnyH_take (i := 8) (v := undef) rfl (by kernel_rfl) (by kernel_rfl) (by kernel_rfl) (fun _ _ _ h => h) (Or.inr ⟨by rfl, rfl⟩) (by assumption) ?_
        (try simp only [Act.put, List.getElem_toArray, List.getElem_cons_zero, List.getElem_cons_succ, List.setIfInBounds_toArray, List.set_cons_zero, List.set_cons_succ])
        refine wpAnyH_take (i := 9) (v := undef) rfl (by kernel_rfl) (by kernel_rfl) (by kernel_rfl) (fun _ _ _ h => h) (Or.inr ⟨by rfl, rfl⟩) (by assumption) ?_
        (try simp only [Act.put, List.getElem_toArray, List.getElem_cons_zero, List.getElem_cons_succ, List.setIfInBounds_toArray, List.set_cons_zero, List.set_cons_succ])
        refine wpAnyH_take (i := 10) (v := undef) rfl (by kernel_rfl) (by kernel_rfl) (by kernel_rfl) (fun _ _ _ h => h) (Or.inr ⟨by rfl, rfl⟩) (by assumption) ?_
        (try simp only [Act.put, List.getElem_toArray, List.getElem_cons_zero, List.getElem_cons_succ, List.setIfInBounds_toArray, List.set_cons_zero, List.set_cons_succ])
        refine wpAnyH_take (i := 11) (v := ?v6) rfl (by kernel_rfl) (by kernel_rfl) (by kernel_rfl) (fun _ _ _ h => h) (Or.inl ⟨by rfl, ?hy6⟩) (by assumption) ?rest6
        case hy6 => (intro w hSw; (try dsimp only at hSw); (try simp only [List.getElem_toArray, List.getElem_cons_zero, List.getElem_cons_succ]); go_simp; (try with_reducible rfl))
        (try simp only [Act.put, List.getElem_toArray, List.getElem_cons_zero, List.getElem_cons_succ, List.setIfInBounds_toArray, List.set_cons_zero, List.set_cons_succ])
        refine wpAnyH_take (i := 12) (v := ?v7) rfl (by kernel_rfl) (by kernel_rfl) (by kernel_rfl) (fun _ _ _ h => h) (Or.inl ⟨by rfl, ?hy7⟩) (by assumption) ?rest7
        case hy7 => (intro w hSw; (try dsimp only at hSw); (try simp only [List.getElem_toArray, List.getElem_cons_zero, List.getElem_cons_succ]); go_simp; (try with_reducible rfl))
        (try simp only [Act.put, List.getElem_toArray, List.getElem_cons_zero, List.getElem_cons_succ, List.setIfInBounds_toArray, List.set_cons_zero, List.set_cons_succ])
        refine wpAnyH_take (i := 13) (v := undef) rfl (by kernel_rfl) (by kernel_rfl) (by kernel_rfl) (fun _ _ _ h => h) (Or.inr ⟨by rfl, rfl⟩) (by assumption) ?_
        (try simp only [Act.put, List.getElem_toArray, List.getElem_cons_zero, List.getElem_cons_succ, List.setIfInBounds_toArray, List.set_cons_zero, List.set_cons_succ])
        refine wpAnyH_take (i := 14) (v := undef) rfl (by kernel_rfl) (by kernel_rfl) (by kernel_rfl) (fun _ _ _ h => h) (Or.inr ⟨by rfl, rfl⟩) (by assumption) ?_
        (try simp only [Act.put, List.getElem_toArray, List.getElem_cons_zero, List.getElem_cons_succ, List.setIfInBounds_toArray, List.set_cons_zero, List.set_cons_succ])
        refine wpAnyH_take (i := 15) (v := undef) rfl (by kernel_rfl) (by kernel_rfl) (by kernel_rfl) (fun _ _ _ h => h) (Or.inr ⟨by rfl, rfl⟩) (by assumption) ?_
        (try simp only [Act.put, List.getElem_toArray, List.getElem_cons_zero, List.getElem_cons_succ, List.setIfInBounds_toArray, List.set_cons_zero, List.set_cons_succ])
        refine wpAnyH_take (i := 16) (v := undef) rfl (by kernel_rfl) (by kernel_rfl) (by kernel_rfl) (fun _ _ _ h => h) (Or.inr ⟨by rfl, rfl⟩) (by assumption) ?_
        (try simp only [Act.put, List.getElem_toArray, List.getElem_cons_zero, List.getElem_cons_succ, List.setIfInBounds_toArray, List.set_cons_zero, List.set_cons_succ])
        refine wpAnyH_take (i := 17) (v := undef) rfl (by kernel_rfl) (by kernel_rfl) (by kernel_rfl) (fun _ _ _ h => h) (Or.inr ⟨by rfl, rfl⟩) (by assumption) ?_
        (try simp only [Act.put, List.getElem_toArray, List.getElem_cons_zero, List.getElem_cons_succ, List.setIfInBounds_toArray, List.set_cons_zero, List.set_cons_succ])
        refine wpAnyH_take (i := 18) (v := undef) rfl (by kernel_rfl) (by kernel_rfl) (by kernel_rfl) (fun _ _ _ h => h) (Or.inr ⟨by rfl, rfl⟩) (by assumption) ?_
        (try simp only [Act.put, List.getElem_toArray, List.getElem_cons_zero, List.getElem_cons_succ, List.setIfInBounds_toArray, List.set_cons_zero, List.set_cons_succ])
        refine wpAnyH_take (i := 19) (v := undef) rfl (by kernel_rfl) (by kernel_rfl) (by kernel_rfl) (fun _ _ _ h => h) (Or.inr ⟨by rfl, rfl⟩) (by assumption) ?_
        (try simp only [Act.put, List.getElem_toArray, List.getElem_cons_zero, List.getElem_cons_succ, List.setIfInBounds_toArray, List.set_cons_zero, List.set_cons_succ])
        refine wpAnyH_take (i := 20) (v := undef) rfl (by kernel_rfl) (by kernel_rfl) (by kernel_rfl) (fun _ _ _ h => h) (Or.inr ⟨by rfl, rfl⟩) (by assumption) ?_
        (try simp only [Act.put, List.getElem_toArray, List.getElem_cons_zero, List.getElem_cons_succ, List.setIfInBounds_toArray, List.set_cons_zero, List.set_cons_succ])
        refine wpAnyH_take (i := 21) (v := ?v8) rfl (by kernel_rfl) (by kernel_rfl) (by kernel_rfl) (fun _ _ _ h => h) (Or.inl ⟨by rfl, ?hy8⟩) (by assumption) ?rest8
        case hy8 => (intro w hSw; (try dsimp only at hSw); (try simp only [List.getElem_toArray, List.getElem_cons_zero, List.getElem_cons_succ]); go_simp; (try with_reducible rfl))
        (try simp only [Act.put, List.getElem_toArray, List.getElem_cons_zero, List.getElem_cons_succ, List.setIfInBounds_toArray, List.set_cons_zero, List.set_cons_succ])
        refine wpAnyH_done (by kernel_rfl) ?_ _
        refine strict_normal ?_
        have z4 := (HOUT3.out : Boxed _ _ _ _).cell
        have z5 := (HIS3.out : Boxed _ _ _ _).cell
        have f4 := (HOUT3.out : Boxed _ _ _ _).frozen
        have f5 := ((HIS3.out : Boxed _ _ _ _).other (B' := w.heap.size + 1) (by omega) (.slice none 0 0)).frozen
        have o5 := ((HIS3.out : Boxed _ _ _ _).other (B' := w.heap.size + 1) (by omega) (.slice none 0 0)).cell
        have hl4 := cell_lt z4
        have hl5 := cell_lt z5
        have hne := (show w.heap.size + 1 + 1 ≠ w.heap.size + 1 by omega)
        gi_wp2
        exact HST.out _
      have HXY := hid hxy
      clear hxy
      rcases HNUMS.out with ⟨rfl, ns, B7, k7, d7, hns, hk7, rfl, hrow7, hfr7⟩ | ⟨rfl, hnone⟩
      rotate_left
      · have hst := HSTOP.out (fun L' => tab_not_nums HPW.out HXB.out HXY.out HCUT.out hnone)
        have HST := hid hst
        have HSR : Hid True := hid trivial
        clear hst hnone
        gi_wp2
        refine wpIn_round_held (S := (fun w' => True)) (by kernel_rfl) (by kernel_rfl) ?_ (fun hHeld => ?_)
        · exact HSR.out
        refine wpAnyH_take (i := 0) (v := ?v9) rfl (by kernel_rfl) (by kernel_rfl) (by kernel_rfl) (fun _ _ _ h => h) (Or.inl ⟨by rfl, ?hy9⟩) (by assumption) ?rest9
        case hy9 => (intro w hSw; (try dsimp only at hSw); (try simp only [List.getElem_toArray, List.getElem_cons_zero]); go_simp; (try with_reducible rfl))
        (try simp only [Act.put, List.getElem_toArray, List.getElem_cons_zero, List.setIfInBounds_toArray, List.set_cons_zero, List.set_cons_succ])
        refine wpAnyH_take (i := 1) (v := ?v10) rfl (by kernel_rfl) (by kernel_rfl) (by kernel_rfl) (fun _ _ _ h => h) (Or.inl ⟨by rfl, ?hy10⟩) (by assumption) ?rest10
        case hy10 => (intro w hSw; (try dsimp only at hSw); (try simp only [List.getElem_toArray, List.getElem_cons_zero, List.getElem_cons_succ]); go_simp; (try with_reducible rfl))
        (try simp only [Act.put, List.getElem_toArray, List.getElem_cons_zero, List.getElem_cons_succ, List.setIfInBounds_toArray, List.set_cons_zero, List.set_cons_succ])
        refine wpAnyH_take (i := 2) (v := ?v11) rfl (by kernel_rfl) (by kernel_rfl) (by kernel_rfl) (fun _ _ _ h => h) (Or.inl ⟨by rfl, ?hy11⟩) (by assumption) ?rest11
        case hy11 => (intro w hSw; (try dsimp only at hSw); (try simp only [List.getElem_toArray, List.getElem_cons_zero, List.getElem_cons_succ]); go_simp; (try with_reducible rfl))
        (try simp only [Act.put, List.getElem_toArray, List.getElem_cons_zero, List.getElem_cons_succ, List.setIfInBounds_toArray, List.set_cons_zero, List.set_cons_succ])
        refine wpAnyH_take (i := 3) (v := ?v12) rfl (by kernel_rfl) (by kernel_rfl) (by kernel_rfl) (fun _ _ _ h => h) (Or.inl ⟨by rfl, ?hy12⟩) (by assumption) ?rest12
        case hy12 => (intro w hSw; (try dsimp only at hSw); (try simp only [List.getElem_toArray, List.getElem_cons_zero, List.getElem_cons_succ]); go_simp; (try with_reducible rfl))
        (try simp only [Act.put, List.getElem_toArray, List.getElem_cons_zero, List.getElem_cons_succ, List.setIfInBounds_toArray, List.set_cons_zero, List.set_cons_succ])
        refine wpAnyH_take (i := 4) (v := ?v13) rfl (by kernel_rfl) (by kernel_rfl) (by kernel_rfl) (fun _ _ _ h => h) (Or.inl ⟨by rfl, ?hy13⟩) (by assumption) ?rest13
        case hy13 => (intro w hSw; (try dsimp only at hSw); (try simp only [List.getElem_toArray, List.getElem_cons_zero, List.getElem_cons_succ]); go_simp; (try with_reducible rfl))
        (try simp only [Act.put, List.getElem_toArray, List.getElem_cons_zero, List.getElem_cons_succ, List.setIfInBounds_toArray, List.set_cons_zero, List.set_cons_succ])
        refine wpAnyH_take (i := 5) (v := ?v14) rfl (by kernel_rfl) (by kernel_rfl) (by kernel_rfl) (fun _ _ _ h => h) (Or.inl ⟨by rfl, ?hy14⟩) (by assumption) ?rest14
        case hy14 => (intro w hSw; (try dsimp only at hSw); (try simp only [List.getElem_toArray, List.getElem_cons_zero, List.getElem_cons_succ]); go_simp; (try with_reducible rfl))
        (try simp only [Act.put, List.getElem_toArray, List.getElem_cons_zero, List.getElem_cons_succ, List.setIfInBounds_toArray, List.set_cons_zero, List.set_cons_succ])
        refine wpAnyH_take (i := 6) (v := ?v15) rfl (by kernel_rfl) (by kernel_rfl) (by kernel_rfl) (fun _ _ _ h => h) (Or.inl ⟨by rfl, ?hy15⟩) (by assumption) ?rest15
        case hy15 => (intro w hSw; (try dsimp only at hSw); (try simp only [List.getElem_toArray, List.getElem_cons_zero, List.getElem_cons_succ]); go_simp; (try with_reducible rfl))
        (try simp only [Act.put, List.getElem_toArray, List.getElem_cons_zero, List.getElem_cons_succ, List.setIfInBounds_toArray, List.set_cons_zero, List.set_cons_succ])
        refine wpAnyH_take (i := 7) (v := undef) rfl (by kernel_rfl) (by kernel_rfl) (by kernel_rfl) (fun _ _ _ h => h) (Or.inr ⟨by rfl, rfl⟩) (by assumption) ?_
        (try simp only [Act.put, List.getElem_toArray, List.getElem_cons_zero, List.getElem_cons_succ, List.setIfInBounds_toArray, List.set_cons_zero, List.set_cons_succ])
        refine wpAnyH_take (i := 8) (v := undef) rfl (by kernel_rfl) (by kernel_rfl) (by kernel_rfl) (fun _ _ _ h => h) (Or.inr ⟨by rfl, rfl⟩) (by assumption) ?_
        (try simp only [Act.put, List.getElem_toArray, List.getElem_cons_zero, List.getElem_cons_succ, List.setIfInBounds_toArray, List.set_cons_zero, List.set_cons_succ])
        refine wpAnyH_take (i := 9) (v := undef) rfl (by kernel_rfl) (by kernel_rfl) (by kernel_rfl) (fun _ _ _ h => h) (Or.inr ⟨by rfl, rfl⟩) (by assumption) ?_
        (try simp only [Act.put, List.getElem_toArray, List.getElem_cons_zero, List.getElem_cons_succ, List.setIfInBounds_toArray, List.set_cons_zero, List.set_cons_succ])
        refine wpAnyH_take (i := 10) (v := undef) rfl (by kernel_rfl) (by kernel_rfl) (by kernel_rfl) (fun _ _ _ h => h) (Or.inr ⟨by rfl, rfl⟩) (by assumption) ?_
        (try simp only [Act.put, List.getElem_toArray, List.getElem_cons_zero, List.getElem_cons_succ, List.setIfInBounds_toArray, List.set_cons_zero, List.set_cons_succ])
        refine wpAnyH_take (i := 11) (v := ?v16) rfl (by kernel_rfl) (by kernel_rfl) (by kernel_rfl) (fun _ _ _ h => h) (Or.inl ⟨by rfl, ?hy16⟩) (by assumption) ?rest16
        case hy16 => (intro w hSw; (try dsimp only at hSw); (try simp only [List.getElem_toArray, List.getElem_cons_zero, List.getElem_cons_succ]); go_simp; (try with_reducible rfl))
        (try simp only [Act.put, List.getElem_toArray, List.getElem_cons_zero, List.getElem_cons_succ, List.setIfInBounds_toArray, List.set_cons_zero, List.set_cons_succ])
        refine wpAnyH_take (i := 12) (v := ?v17) rfl (by kernel_rfl) (by kernel_rfl) (by kernel_rfl) (fun _ _ _ h => h) (Or.inl ⟨by rfl, ?hy17⟩) (by assumption) ?rest17
        case hy17 => (intro w hSw; (try dsimp only at hSw); (try simp only [List.getElem_toArray, List.getElem_cons_zero, List.getElem_cons_succ]); go_simp; (try with_reducible rfl))
        (try simp only [Act.put, List.getElem_toArray, List.getElem_cons_zero, List.getElem_cons_succ, List.setIfInBounds_toArray, List.set_cons_zero, List.set_cons_succ])
        refine wpAnyH_take (i := 13) (v := undef) rfl (by kernel_rfl) (by kernel_rfl) (by kernel_rfl) (fun _ _ _ h => h) (Or.inr ⟨by rfl, rfl⟩) (by assumption) ?_
        (try simp only [Act.put, List.getElem_toArray, List.getElem_cons_zero, List.getElem_cons_succ, List.setIfInBounds_toArray, List.set_cons_zero, List.set_cons_succ])
        refine wpAnyH_take (i := 14) (v := undef) rfl (by kernel_rfl) (by kernel_rfl) (by kernel_rfl) (fun _ _ _ h => h) (Or.inr ⟨by rfl, rfl⟩) (by assumption) ?_
        (try simp only [Act.put, List.getElem_toArray, List.getElem_cons_zero, List.getElem_cons_succ, List.setIfInBounds_toArray, List.set_cons_zero, List.set_cons_succ])
        refine wpAnyH_take (i := 15) (v := undef) rfl (by kernel_rfl) (by kernel_rfl) (by kernel_rfl) (fun _ _ _ h => h) (Or.inr ⟨by rfl, rfl⟩) (by assumption) ?_
        (try simp only [Act.put, List.getElem_toArray, List.getElem_cons_zero, List.getElem_cons_succ, List.setIfInBounds_toArray, List.set_cons_zero, List.set_cons_succ])
        refine wpAnyH_take (i := 16) (v := undef) rfl (by kernel_rfl) (by kernel_rfl) (by kernel_rfl) (fun _ _ _ h => h) (Or.inr ⟨by rfl, rfl⟩) (by assumption) ?_
        (try simp only [Act.put, List.getElem_toArray, List.getElem_cons_zero, List.getElem_cons_succ, List.setIfInBounds_toArray, List.set_cons_zero, List.set_cons_succ])
        refine wpAnyH_take (i := 17) (v := undef) rfl (by kernel_rfl) (by kernel_rfl) (by kernel_rfl) (fun _ _ _ h => h) (Or.inr ⟨by rfl, rfl⟩) (by assumption) ?_
        (try simp only [Act.put, List.getElem_toArray, List.getElem_cons_zero, List.getElem_cons_succ, List.setIfInBounds_toArray, List.set_cons_zero, List.set_cons_succ])
        refine wpAnyH_take (i := 18) (v := undef) rfl (by kernel_rfl) (by kernel_rfl) (by kernel_rfl) (fun _ _ _ h => h) (Or.inr ⟨by rfl, rfl⟩) (by assumption) ?_
        (try simp only [Act.put, List.getElem_toArray, List.getElem_cons_zero, List.getElem_cons_succ, List.setIfInBounds_toArray, List.set_cons_zero, List.set_cons_succ])
        refine wpAnyH_take (i := 19) (v := undef) rfl (by kernel_rfl) (by kernel_rfl) (by kernel_rfl) (fun _ _ _ h => h) (Or.inr ⟨by rfl, rfl⟩) (by assumption) ?_
        (try simp only [Act.put, List.getElem_toArray, List.getElem_cons_zero, List.getElem_cons_succ, List.setIfInBounds_toArray, List.set_cons_zero, List.set_cons_succ])
        refine wpAnyH_take (i := 20) (v := undef) rfl (by kernel_rfl) (by kernel_rfl) (by kernel_rfl) (fun _ _ _ h => h) (Or.inr ⟨by rfl, rfl⟩) (by assumption) ?_
        (try simp only [Act.put, List.getElem_toArray, List.getElem_cons_zero, List.getElem_cons_succ, List.setIfInBounds_toArray, List.set_cons_zero, List.set_cons_succ])
        refine wpAnyH_take (i := 21) (v := ?v18) rfl (by kernel_rfl) (by kernel_rfl) (by kernel_rfl) (fun _ _ _ h => h) (Or.inl ⟨by rfl, ?hy18⟩) (by assumption) ?rest18
        case hy18 => (intro w hSw; (try dsimp only at hSw); (try simp only [List.getElem_toArray, List.getElem_cons_zero, List.getElem_cons_succ]); go_simp; (try with_reducible rfl))
        (try simp only [Act.put, List.getElem_toArray, List.getElem_cons_zero, List.getElem_cons_succ, List.setIfInBounds_toArray, List.set_cons_zero, List.set_cons_succ])
        refine wpAnyH_done (by kernel_rfl) ?_ _
        refine strict_normal ?_
        have z4 := (HOUT3.out : Boxed _ _ _ _).cell
        have z5 := (HIS3.out : Boxed _ _ _ _).cell
        have f4 := (HOUT3.out : Boxed _ _ _ _).frozen
        have f5 := ((HIS3.out : Boxed _ _ _ _).other (B' := w.heap.size + 1) (by omega) (.slice none 0 0)).frozen
        have o5 := ((HIS3.out : Boxed _ _ _ _).other (B' := w.heap.size + 1) (by omega) (.slice none 0 0)).cell
        have hl4 := cell_lt z4
        have hl5 := cell_lt z5
        have hne := (show w.heap.size + 1 + 1 ≠ w.heap.size + 1 by omega)
        gi_wp2
        exact HST.out _
      have HNS := hid hns
      have HK7 := hid hk7
      have HROW7 := hid hrow7
      have HFR7 := hid hfr7
      clear hns hk7 hrow7 hfr7
      by_cases hmore : ws.length ≤ n
      · have hst := HSTOP.out (fun L' => tab_not_more HPW.out HXB.out hmore)
        have HST := hid hst
        have HSR : Hid (w3.drew.cell? ⟨wb, 0, none⟩ = some (.slice A ws.length c)) := hid (HWANT3.out : Boxed _ _ _ _).cell
        have hge : (ws.length : Int) ≤ (n : Int) := by omega
        clear hst
        gi_wp2
        refine wpIn_round_held (S := (fun w' => w'.cell? ⟨wb, 0, none⟩ = some (.slice A ws.length c))) (by kernel_rfl) (by kernel_rfl) ?_ (fun hHeld => ?_)
        · exact HSR.out
        refine wpAnyH_take (i := 0) (v := ?v19) rfl (by kernel_rfl) (by kernel_rfl) (by kernel_rfl) (fun _ _ _ h => h) (Or.inl ⟨by rfl, ?hy19⟩) (by assumption) ?rest19
        case hy19 => (intro w hSw; (try dsimp only at hSw); (try simp only [List.getElem_toArray, List.getElem_cons_zero]); go_simp; (try with_reducible rfl))
        (try simp only [Act.put, List.getElem_toArray, List.getElem_cons_zero, List.setIfInBounds_toArray, List.set_cons_zero, List.set_cons_succ])
        refine wpAnyH_take (i := 1) (v := ?v20) rfl (by kernel_rfl) (by kernel_rfl) (by kernel_rfl) (fun _ _ _ h => h) (Or.inl ⟨by rfl, ?hy20⟩) (by assumption) ?rest20
        case hy20 => (intro w hSw; (try dsimp only at hSw); (try simp only [List.getElem_toArray, List.getElem_cons_zero, List.getElem_cons_succ]); go_simp; (try with_reducible rfl))
        (try simp only [Act.put, List.getElem_toArray, List.getElem_cons_zero, List.getElem_cons_succ, List.setIfInBounds_toArray, List.set_cons_zero, List.set_cons_succ])
        refine wpAnyH_take (i := 2) (v := ?v21) rfl (by kernel_rfl) (by kernel_rfl) (by kernel_rfl) (fun _ _ _ h => h) (Or.inl ⟨by rfl, ?hy21⟩) (by assumption) ?rest21
        case hy21 => (intro w hSw; (try dsimp only at hSw); (try simp only [List.getElem_toArray, List.getElem_cons_zero, List.getElem_cons_succ]); go_simp; (try with_reducible rfl))
        (try simp only [Act.put, List.getElem_toArray, List.getElem_cons_zero, List.getElem_cons_succ, List.setIfInBounds_toArray, List.set_cons_zero, List.set_cons_succ])
        refine wpAnyH_take (i := 3) (v := ?v22) rfl (by kernel_rfl) (by kernel_rfl) (by kernel_rfl) (fun _ _ _ h => h) (Or.inl ⟨by rfl, ?hy22⟩) (by assumption) ?rest22
        case hy22 => (intro w hSw; (try dsimp only at hSw); (try simp only [List.getElem_toArray, List.getElem_cons_zero, List.getElem_cons_succ]); go_simp; (try with_reducible rfl))
        (try simp only [Act.put, List.getElem_toArray, List.getElem_cons_zero, List.getElem_cons_succ, List.setIfInBounds_toArray, List.set_cons_zero, List.set_cons_succ])
        refine wpAnyH_take (i := 4) (v := ?v23) rfl (by kernel_rfl) (by kernel_rfl) (by kernel_rfl) (fun _ _ _ h => h) (Or.inl ⟨by rfl, ?hy23⟩) (by assumption) ?rest23
        case hy23 => (intro w hSw; (try dsimp only at hSw); (try simp only [List.getElem_toArray, List.getElem_cons_zero, List.getElem_cons_succ]); go_simp; (try with_reducible rfl))
        (try simp only [Act.put, List.getElem_toArray, List.getElem_cons_zero, List.getElem_cons_succ, List.setIfInBounds_toArray, List.set_cons_zero, List.set_cons_succ])
        refine wpAnyH_take (i := 5) (v := ?v24) rfl (by kernel_rfl) (by kernel_rfl) (by kernel_rfl) (fun _ _ _ h => h) (Or.inl ⟨by rfl, ?hy24⟩) (by assumption) ?rest24
        case hy24 => (intro w hSw; (try dsimp only at hSw); (try simp only [List.getElem_toArray, List.getElem_cons_zero, List.getElem_cons_succ]); go_simp; (try with_reducible rfl))
        (try simp only [Act.put, List.getElem_toArray, List.getElem_cons_zero, List.getElem_cons_succ, List.setIfInBounds_toArray, List.set_cons_zero, List.set_cons_succ])
        refine wpAnyH_take (i := 6) (v := ?v25) rfl (by kernel_rfl) (by kernel_rfl) (by kernel_rfl) (fun _ _ _ h => h) (Or.inl ⟨by rfl, ?hy25⟩) (by assumption) ?rest25
        case hy25 => (intro w hSw; (try dsimp only at hSw); (try simp only [List.getElem_toArray, List.getElem_cons_zero, List.getElem_cons_succ]); go_simp; (try with_reducible rfl))
        (try simp only [Act.put, List.getElem_toArray, List.getElem_cons_zero, List.getElem_cons_succ, List.setIfInBounds_toArray, List.set_cons_zero, List.set_cons_succ])
        refine wpAnyH_take (i := 7) (v := ?v26) rfl (by kernel_rfl) (by kernel_rfl) (by kernel_rfl) (fun _ _ _ h => h) (Or.inl ⟨by rfl, ?hy26⟩) (by assumption) ?rest26
        case hy26 => (intro w hSw; (try dsimp only at hSw); (try simp only [List.getElem_toArray, List.getElem_cons_zero, List.getElem_cons_succ]); go_simp; (try with_reducible rfl))
        (try simp only [Act.put, List.getElem_toArray, List.getElem_cons_zero, List.getElem_cons_succ, List.setIfInBounds_toArray, List.set_cons_zero, List.set_cons_succ])
        refine wpAnyH_take (i := 8) (v := ?v27) rfl (by kernel_rfl) (by kernel_rfl) (by kernel_rfl) (fun _ _ _ h => h) (Or.inl ⟨by rfl, ?hy27⟩) (by assumption) ?rest27
        case hy27 => (intro w hSw; (try dsimp only at hSw); (try simp only [List.getElem_toArray, List.getElem_cons_zero, List.getElem_cons_succ]); go_simp; (try with_reducible rfl))
        (try simp only [Act.put, List.getElem_toArray, List.getElem_cons_zero, List.getElem_cons_succ, List.setIfInBounds_toArray, List.set_cons_zero, List.set_cons_succ])
        refine wpAnyH_take (i := 9) (v := ?v28) rfl (by kernel_rfl) (by kernel_rfl) (by kernel_rfl) (fun _ _ _ h => h) (Or.inl ⟨by rfl, ?hy28⟩) (by assumption) ?rest28
        case hy28 => (intro w hSw; (try dsimp only at hSw); (try simp only [List.getElem_toArray, List.getElem_cons_zero, List.getElem_cons_succ]); go_simp; (try with_reducible rfl))
        (try simp only [Act.put, List.getElem_toArray, List.getElem_cons_zero, List.getElem_cons_succ, List.setIfInBounds_toArray, List.set_cons_zero, List.set_cons_succ])
        refine wpAnyH_take (i := 10) (v := ?v29) rfl (by kernel_rfl) (by kernel_rfl) (by kernel_rfl) (fun _ _ _ h => h) (Or.inl ⟨by rfl, ?hy29⟩) (by assumption) ?rest29
        case hy29 => (intro w hSw; (try dsimp only at hSw); (try simp only [List.getElem_toArray, List.getElem_cons_zero, List.getElem_cons_succ]); go_simp; (try with_reducible rfl))
        (try simp only [Act.put, List.getElem_toArray, List.getElem_cons_zero, List.getElem_cons_succ, List.setIfInBounds_toArray, List.set_cons_zero, List.set_cons_succ])
        refine wpAnyH_take (i := 11) (v := ?v30) rfl (by kernel_rfl) (by kernel_rfl) (by kernel_rfl) (fun _ _ _ h => h) (Or.inl ⟨by rfl, ?hy30⟩) (by assumption) ?rest30
        case hy30 => (intro w hSw; (try dsimp only at hSw); (try simp only [List.getElem_toArray, List.getElem_cons_zero, List.getElem_cons_succ]); go_simp; (try with_reducible rfl))
        (try simp only [Act.put, List.getElem_toArray, List.getElem_cons_zero, List.getElem_cons_succ, List.setIfInBounds_toArray, List.set_cons_zero, List.set_cons_succ])
        refine wpAnyH_take (i := 12) (v := ?v31) rfl (by kernel_rfl) (by kernel_rfl) (by kernel_rfl) (fun _ _ _ h => h) (Or.inl ⟨by rfl, ?hy31⟩) (by assumption) ?rest31
        case hy31 => (intro w hSw; (try dsimp only at hSw); (try simp only [List.getElem_toArray, List.getElem_cons_zero, List.getElem_cons_succ]); go_simp; (try with_reducible rfl))
        (try simp only [Act.put, List.getElem_toArray, List.getElem_cons_zero, List.getElem_cons_succ, List.setIfInBounds_toArray, List.set_cons_zero, List.set_cons_succ])
        refine wpAnyH_take (i := 13) (v := undef) rfl (by kernel_rfl) (by kernel_rfl) (by kernel_rfl) (fun _ _ _ h => h) (Or.inr ⟨by rfl, rfl⟩) (by assumption) ?_
        (try simp only [Act.put, List.getElem_toArray, List.getElem_cons_zero, List.getElem_cons_succ, List.setIfInBounds_toArray, List.set_cons_zero, List.set_cons_succ])
        refine wpAnyH_take (i := 14) (v := undef) rfl (by kernel_rfl) (by kernel_rfl) (by kernel_rfl) (fun _ _ _ h => h) (Or.inr ⟨by rfl, rfl⟩) (by assumption) ?_
        (try simp only [Act.put, List.getElem_toArray, List.getElem_cons_zero, List.getElem_cons_succ, List.setIfInBounds_toArray, List.set_cons_zero, List.set_cons_succ])
        refine wpAnyH_take (i := 15) (v := undef) rfl (by kernel_rfl) (by kernel_rfl) (by kernel_rfl) (fun _ _ _ h => h) (Or.inr ⟨by rfl, rfl⟩) (by assumption) ?_
        (try simp only [Act.put, List.getElem_toArray, List.getElem_cons_zero, List.getElem_cons_succ, List.setIfInBounds_toArray, List.set_cons_zero, List.set_cons_succ])
        refine wpAnyH_take (i := 16) (v := undef) rfl (by kernel_rfl) (by kernel_rfl) (by kernel_rfl) (fun _ _ _ h => h) (Or.inr ⟨by rfl, rfl⟩) (by assumption) ?_
        (try simp only [Act.put, List.getElem_toArray, List.getElem_cons_zero, List.getElem_cons_succ, List.setIfInBounds_toArray, List.set_cons_zero, List.set_cons_succ])
        refine wpAnyH_take (i := 17) (v := undef) rfl (by kernel_rfl) (by kernel_rfl) (by kernel_rfl) (fun _ _ _ h => h) (Or.inr ⟨by rfl, rfl⟩) (by assumption) ?_
        (try simp only [Act.put, List.getElem_toArray, List.getElem_cons_zero, List.getElem_cons_succ, List.setIfInBounds_toArray, List.set_cons_zero, List.set_cons_succ])
        refine wpAnyH_take (i := 18) (v := undef) rfl (by kernel_rfl) (by kernel_rfl) (by kernel_rfl) (fun _ _ _ h => h) (Or.inr ⟨by rfl, rfl⟩) (by assumption) ?_
        (try simp only [Act.put, List.getElem_toArray, List.getElem_cons_zero, List.getElem_cons_succ, List.setIfInBounds_toArray, List.set_cons_zero, List.set_cons_succ])
        refine wpAnyH_take (i := 19) (v := undef) rfl (by kernel_rfl) (by kernel_rfl) (by kernel_rfl) (fun _ _ _ h => h) (Or.inr ⟨by rfl, rfl⟩) (by assumption) ?_
        (try simp only [Act.put, List.getElem_toArray, List.getElem_cons_zero, List.getElem_cons_succ, List.setIfInBounds_toArray, List.set_cons_zero, List.set_cons_succ])
        refine wpAnyH_take (i := 20) (v := undef) rfl (by kernel_rfl) (by kernel_rfl) (by kernel_rfl) (fun _ _ _ h => h) (Or.inr ⟨by rfl, rfl⟩) (by assumption) ?_
        (try simp only [Act.put, List.getElem_toArray, List.getElem_cons_zero, List.getElem_cons_succ, List.setIfInBounds_toArray, List.set_cons_zero, List.set_cons_succ])
        refine wpAnyH_take (i := 21) (v := ?v32) rfl (by kernel_rfl) (by kernel_rfl) (by kernel_rfl) (fun _ _ _ h => h) (Or.inl ⟨by rfl, ?hy32⟩) (by assumption) ?rest32
        case hy32 => (intro w hSw; (try dsimp only at hSw); (try simp only [List.getElem_toArray, List.getElem_cons_zero, List.getElem_cons_succ]); go_simp; (try with_reducible rfl))
        (try simp only [Act.put, List.getElem_toArray, List.getElem_cons_zero, List.getElem_cons_succ, List.setIfInBounds_toArray, List.set_cons_zero, List.set_cons_succ])
        refine wpAnyH_done (by kernel_rfl) ?_ _
        refine strict_normal ?_
        have z4 := (HOUT3.out : Boxed _ _ _ _).cell
        have z5 := (HIS3.out : Boxed _ _ _ _).cell
        have f4 := (HOUT3.out : Boxed _ _ _ _).frozen
        have f5 := ((HIS3.out : Boxed _ _ _ _).other (B' := w.heap.size + 1) (by omega) (.slice none 0 0)).frozen
        have o5 := ((HIS3.out : Boxed _ _ _ _).other (B' := w.heap.size + 1) (by omega) (.slice none 0 0)).cell
        have hl4 := cell_lt z4
        have hl5 := cell_lt z5
        have hne := (show w.heap.size + 1 + 1 ≠ w.heap.size + 1 by omega)
        gi_wp2
        exact HST.out _
      have hge : ¬ (ws.length : Int) ≤ (n : Int) := by omega
      have hlt : n < ws.length := by omega
      obtain ⟨wd, hwd⟩ : ∃ wd, ws[n]? = some wd := ⟨_, List.getElem?_eq_getElem hlt⟩
      obtain ⟨wab, wao, rfl, hwl, _, hwc⟩ := row_word' HI.out.wrow hwd
      obtain ⟨word, hword⟩ : ∃ word : ByteArray, word = ⟨wd.toArray⟩ := ⟨_, rfl⟩
      rw [← hword] at hwc
      have hwdd : word.data.toList = wd := by rw [hword]
      have hwc3 : w3.cell? ⟨wab, wao + n, none⟩ = some (.string word) := (HB3.out.cell (p := ⟨wab, wao + n, none⟩) hwl).trans hwc
      have hwl3 := cell_lt hwc3
      have hwcl3 := cell_lt hc3
      have HSR : Hid (w3.drew.cell? ⟨wb, 0, none⟩ = some (.slice (some ⟨wab, wao, none⟩) ws.length c) ∧ w3.drew.cell? ⟨W.heap.size, 0, none⟩ = some (.string w0) ∧ w3.drew.cell? ⟨wab, wao + n, none⟩ = some (.string word)) := hid ⟨(HWANT3.out : Boxed _ _ _ _).cell, hc3, hwc3⟩
      have hlw : (n : Int) < (ws.length : Int) := by omega
      by_cases hv : v0 = wd
      rotate_left
      · have hst := HSTOP.out (fun L' => tab_not_word HPW.out HXB.out HXY.out HCUT.out hwd hv)
        have HST := hid hst
        have hww : (w0.toList == word.toList) = false := by
          rw [Lib.toList_data, Lib.toList_data, HW0.out, hwdd]
          exact beq_eq_false_iff_ne.2 hv
        clear hst hwd hword hwc hwdd hwc3 hc3
        gi_wp2
        refine wpIn_round_held (S := (fun w' => w'.cell? ⟨wb, 0, none⟩ = some (.slice (some ⟨wab, wao, none⟩) ws.length c) ∧ w'.cell? ⟨W.heap.size, 0, none⟩ = some (.string w0) ∧ w'.cell? ⟨wab, wao + n, none⟩ = some (.string word))) (by kernel_rfl) (by kernel_rfl) ?_ (fun hHeld => ?_)
        · exact HSR.out
        refine wpAnyH_take (i := 0) (v := ?v33) rfl (by kernel_rfl) (by kernel_rfl) (by kernel_rfl) (fun _ _ _ h => h) (Or.inl ⟨by rfl, ?hy33⟩) (by assumption) ?rest33
        case hy33 => (intro w hSw; (try dsimp only at hSw); (try simp only [List.getElem_toArray, List.getElem_cons_zero]); go_simp; (try with_reducible rfl))
        (try simp only [Act.put, List.getElem_toArray, List.getElem_cons_zero, List.setIfInBounds_toArray, List.set_cons_zero, List.set_cons_succ])
        refine wpAnyH_take (i := 1) (v := ?v34) rfl (by kernel_rfl) (by kernel_rfl) (by kernel_rfl) (fun _ _ _ h => h) (Or.inl ⟨by rfl, ?hy34⟩) (by assumption) ?rest34
        case hy34 => (intro w hSw; (try dsimp only at hSw); (try simp only [List.getElem_toArray, List.getElem_cons_zero, List.getElem_cons_succ]); go_simp; (try with_reducible rfl))
        (try simp only [Act.put, List.getElem_toArray, List.getElem_cons_zero, List.getElem_cons_succ, List.setIfInBounds_toArray, List.set_cons_zero, List.set_cons_succ])
        refine wpAnyH_take (i := 2) (v := ?v35) rfl (by kernel_rfl) (by kernel_rfl) (by kernel_rfl) (fun _ _ _ h => h) (Or.inl ⟨by rfl, ?hy35⟩) (by assumption) ?rest35
        case hy35 => (intro w hSw; (try dsimp only at hSw); (try simp only [List.getElem_toArray, List.getElem_cons_zero, List.getElem_cons_succ]); go_simp; (try with_reducible rfl))
        (try simp only [Act.put, List.getElem_toArray, List.getElem_cons_zero, List.getElem_cons_succ, List.setIfInBounds_toArray, List.set_cons_zero, List.set_cons_succ])
        refine wpAnyH_take (i := 3) (v := ?v36) rfl (by kernel_rfl) (by kernel_rfl) (by kernel_rfl) (fun _ _ _ h => h) (Or.inl ⟨by rfl, ?hy36⟩) (by assumption) ?rest36
        case hy36 => (intro w hSw; (try dsimp only at hSw); (try simp only [List.getElem_toArray, List.getElem_cons_zero, List.getElem_cons_succ]); go_simp; (try with_reducible rfl))
        (try simp only [Act.put, List.getElem_toArray, List.getElem_cons_zero, List.getElem_cons_succ, List.setIfInBounds_toArray, List.set_cons_zero, List.set_cons_succ])
        refine wpAnyH_take (i := 4) (v := ?v37) rfl (by kernel_rfl) (by kernel_rfl) (by kernel_rfl) (fun _ _ _ h => h) (Or.inl ⟨by rfl, ?hy37⟩) (by assumption) ?rest37
        case hy37 => (intro w hSw; (try dsimp only at hSw); (try simp only [List.getElem_toArray, List.getElem_cons_zero, List.getElem_cons_succ]); go_simp; (try with_reducible rfl))
        (try simp only [Act.put, List.getElem_toArray, List.getElem_cons_zero, List.getElem_cons_succ, List.setIfInBounds_toArray, List.set_cons_zero, List.set_cons_succ])
        refine wpAnyH_take (i := 5) (v := ?v38) rfl (by kernel_rfl) (by kernel_rfl) (by kernel_rfl) (fun _ _ _ h => h) (Or.inl ⟨by rfl, ?hy38⟩) (by assumption) ?rest38
        case hy38 => (intro w hSw; (try dsimp only at hSw); (try simp only [List.getElem_toArray, List.getElem_cons_zero, List.getElem_cons_succ]); go_simp; (try with_reducible rfl))
        (try simp only [Act.put, List.getElem_toArray, List.getElem_cons_zero, List.getElem_cons_succ, List.setIfInBounds_toArray, List.set_cons_zero, List.set_cons_succ])
        refine wpAnyH_take (i := 6) (v := ?v39) rfl (by kernel_rfl) (by kernel_rfl) (by kernel_rfl) (fun _ _ _ h => h) (Or.inl ⟨by rfl, ?hy39⟩) (by assumption) ?rest39
        case hy39 => (intro w hSw; (try dsimp only at hSw); (try simp only [List.getElem_toArray, List.getElem_cons_zero, List.getElem_cons_succ]); go_simp; (try with_reducible rfl))
        (try simp only [Act.put, List.getElem_toArray, List.getElem_cons_zero, List.getElem_cons_succ, List.setIfInBounds_toArray, List.set_cons_zero, List.set_cons_succ])
        refine wpAnyH_take (i := 7) (v := ?v40) rfl (by kernel_rfl) (by kernel_rfl) (by kernel_rfl) (fun _ _ _ h => h) (Or.inl ⟨by rfl, ?hy40⟩) (by assumption) ?rest40
        case hy40 => (intro w hSw; (try dsimp only at hSw); (try simp only [List.getElem_toArray, List.getElem_cons_zero, List.getElem_cons_succ]); go_simp; (try with_reducible rfl))
        (try simp only [Act.put, List.getElem_toArray, List.getElem_cons_zero, List.getElem_cons_succ, List.setIfInBounds_toArray, List.set_cons_zero, List.set_cons_succ])
        refine wpAnyH_take (i := 8) (v := ?v41) rfl (by kernel_rfl) (by kernel_rfl) (by kernel_rfl) (fun _ _ _ h => h) (Or.inl ⟨by rfl, ?hy41⟩) (by assumption) ?rest41
        case hy41 => (intro w hSw; (try dsimp only at hSw); (try simp only [List.getElem_toArray, List.getElem_cons_zero, List.getElem_cons_succ]); go_simp; (try with_reducible rfl))
        (try simp only [Act.put, List.getElem_toArray, List.getElem_cons_zero, List.getElem_cons_succ, List.setIfInBounds_toArray, List.set_cons_zero, List.set_cons_succ])
        refine wpAnyH_take (i := 9) (v := ?v42) rfl (by kernel_rfl) (by kernel_rfl) (by kernel_rfl) (fun _ _ _ h => h) (Or.inl ⟨by rfl, ?hy42⟩) (by assumption) ?rest42
        case hy42 => (intro w hSw; (try dsimp only at hSw); (try simp only [List.getElem_toArray, List.getElem_cons_zero, List.getElem_cons_succ]); go_simp; (try with_reducible rfl))
        (try simp only [Act.put, List.getElem_toArray, List.getElem_cons_zero, List.getElem_cons_succ, List.setIfInBounds_toArray, List.set_cons_zero, List.set_cons_succ])
        refine wpAnyH_take (i := 10) (v := ?v43) rfl (by kernel_rfl) (by kernel_rfl) (by kernel_rfl) (fun _ _ _ h => h) (Or.inl ⟨by rfl, ?hy43⟩) (by assumption) ?rest43
        case hy43 => (intro w hSw; (try dsimp only at hSw); (try simp only [List.getElem_toArray, List.getElem_cons_zero, List.getElem_cons_succ]); go_simp; (try with_reducible rfl))
        (try simp only [Act.put, List.getElem_toArray, List.getElem_cons_zero, List.getElem_cons_succ, List.setIfInBounds_toArray, List.set_cons_zero, List.set_cons_succ])
        refine wpAnyH_take (i := 11) (v := ?v44) rfl (by kernel_rfl) (by kernel_rfl) (by kernel_rfl) (fun _ _ _ h => h) (Or.inl ⟨by rfl, ?hy44⟩) (by assumption) ?rest44
        case hy44 => (intro w hSw; (try dsimp only at hSw); (try simp only [List.getElem_toArray, List.getElem_cons_zero, List.getElem_cons_succ]); go_simp; (try with_reducible rfl))
        (try simp only [Act.put, List.getElem_toArray, List.getElem_cons_zero, List.getElem_cons_succ, List.setIfInBounds_toArray, List.set_cons_zero, List.set_cons_succ])
        refine wpAnyH_take (i := 12) (v := ?v45) rfl (by kernel_rfl) (by kernel_rfl) (by kernel_rfl) (fun _ _ _ h => h) (Or.inl ⟨by rfl, ?hy45⟩) (by assumption) ?rest45
        case hy45 => (intro w hSw; (try dsimp only at hSw); (try simp only [List.getElem_toArray, List.getElem_cons_zero, List.getElem_cons_succ]); go_simp; (try with_reducible rfl))
        (try simp only [Act.put, List.getElem_toArray, List.getElem_cons_zero, List.getElem_cons_succ, List.setIfInBounds_toArray, List.set_cons_zero, List.set_cons_succ])
        refine wpAnyH_take (i := 13) (v := ?v46) rfl (by kernel_rfl) (by kernel_rfl) (by kernel_rfl) (fun _ _ _ h => h) (Or.inl ⟨by rfl, ?hy46⟩) (by assumption) ?rest46
        case hy46 => (intro w hSw; (try dsimp only at hSw); (try simp only [List.getElem_toArray, List.getElem_cons_zero, List.getElem_cons_succ]); go_simp; (try with_reducible rfl))
        (try simp only [Act.put, List.getElem_toArray, List.getElem_cons_zero, List.getElem_cons_succ, List.setIfInBounds_toArray, List.set_cons_zero, List.set_cons_succ])
        refine wpAnyH_take (i := 14) (v := ?v47) rfl (by kernel_rfl) (by kernel_rfl) (by kernel_rfl) (fun _ _ _ h => h) (Or.inl ⟨by rfl, ?hy47⟩) (by assumption) ?rest47
        case hy47 => (intro w hSw; (try dsimp only at hSw); (try simp only [List.getElem_toArray, List.getElem_cons_zero, List.getElem_cons_succ]); go_simp; (try with_reducible rfl))
        (try simp only [Act.put, List.getElem_toArray, List.getElem_cons_zero, List.getElem_cons_succ, List.setIfInBounds_toArray, List.set_cons_zero, List.set_cons_succ])
        refine wpAnyH_take (i := 15) (v := ?v48) rfl (by kernel_rfl) (by kernel_rfl) (by kernel_rfl) (fun _ _ _ h => h) (Or.inl ⟨by rfl, ?hy48⟩) (by assumption) ?rest48
        case hy48 => (intro w hSw; (try dsimp only at hSw); (try simp only [List.getElem_toArray, List.getElem_cons_zero, List.getElem_cons_succ]); go_simp; (try with_reducible rfl))
        (try simp only [Act.put, List.getElem_toArray, List.getElem_cons_zero, List.getElem_cons_succ, List.setIfInBounds_toArray, List.set_cons_zero, List.set_cons_succ])
        refine wpAnyH_take (i := 16) (v := ?v49) rfl (by kernel_rfl) (by kernel_rfl) (by kernel_rfl) (fun _ _ _ h => h) (Or.inl ⟨by rfl, ?hy49⟩) (by assumption) ?rest49
        case hy49 => (intro w hSw; (try dsimp only at hSw); (try simp only [List.getElem_toArray, List.getElem_cons_zero, List.getElem_cons_succ]); go_simp; (try with_reducible rfl))
        (try simp only [Act.put, List.getElem_toArray, List.getElem_cons_zero, List.getElem_cons_succ, List.setIfInBounds_toArray, List.set_cons_zero, List.set_cons_succ])
        refine wpAnyH_take (i := 17) (v := ?v50) rfl (by kernel_rfl) (by kernel_rfl) (by kernel_rfl) (fun _ _ _ h => h) (Or.inl ⟨by rfl, ?hy50⟩) (by assumption) ?rest50
        case hy50 => (intro w hSw; (try dsimp only at hSw); (try simp only [List.getElem_toArray, List.getElem_cons_zero, List.getElem_cons_succ]); go_simp; (try with_reducible rfl))
        (try simp only [Act.put, List.getElem_toArray, List.getElem_cons_zero, List.getElem_cons_succ, List.setIfInBounds_toArray, List.set_cons_zero, List.set_cons_succ])
        refine wpAnyH_take (i := 18) (v := ?v51) rfl (by kernel_rfl) (by kernel_rfl) (by kernel_rfl) (fun _ _ _ h => h) (Or.inl ⟨by rfl, ?hy51⟩) (by assumption) ?rest51
        case hy51 => (intro w hSw; (try dsimp only at hSw); (try simp only [List.getElem_toArray, List.getElem_cons_zero, List.getElem_cons_succ]); go_simp; (try with_reducible rfl))
        (try simp only [Act.put, List.getElem_toArray, List.getElem_cons_zero, List.getElem_cons_succ, List.setIfInBounds_toArray, List.set_cons_zero, List.set_cons_succ])
        refine wpAnyH_take (i := 19) (v := ?v52) rfl (by kernel_rfl) (by kernel_rfl) (by kernel_rfl) (fun _ _ _ h => h) (Or.inl ⟨by rfl, ?hy52⟩) (by assumption) ?rest52
        case hy52 => (intro w hSw; (try dsimp only at hSw); (try simp only [List.getElem_toArray, List.getElem_cons_zero, List.getElem_cons_succ]); go_simp; (try with_reducible rfl))
        (try simp only [Act.put, List.getElem_toArray, List.getElem_cons_zero, List.getElem_cons_succ, List.setIfInBounds_toArray, List.set_cons_zero, List.set_cons_succ])
        refine wpAnyH_take (i := 20) (v := ?v53) rfl (by kernel_rfl) (by kernel_rfl) (by kernel_rfl) (fun _ _ _ h => h) (Or.inl ⟨by rfl, ?hy53⟩) (by assumption) ?rest53
        case hy53 => (intro w hSw; (try dsimp only at hSw); (try simp only [List.getElem_toArray, List.getElem_cons_zero, List.getElem_cons_succ]); go_simp; (try with_reducible rfl))
        (try simp only [Act.put, List.getElem_toArray, List.getElem_cons_zero, List.getElem_cons_succ, List.setIfInBounds_toArray, List.set_cons_zero, List.set_cons_succ])
        refine wpAnyH_take (i := 21) (v := ?v54) rfl (by kernel_rfl) (by kernel_rfl) (by kernel_rfl) (fun _ _ _ h => h) (Or.inl ⟨by rfl, ?hy54⟩) (by assumption) ?rest54
        case hy54 => (intro w hSw; (try dsimp only at hSw); (try simp only [List.getElem_toArray, List.getElem_cons_zero, List.getElem_cons_succ]); go_simp; (try with_reducible rfl))
        (try simp only [Act.put, List.getElem_toArray, List.getElem_cons_zero, List.getElem_cons_succ, List.setIfInBounds_toArray, List.set_cons_zero, List.set_cons_succ])
        refine wpAnyH_done (by kernel_rfl) ?_ _
        refine strict_normal ?_
        have z4 := (HOUT3.out : Boxed _ _ _ _).cell
        have z5 := (HIS3.out : Boxed _ _ _ _).cell
        have f4 := (HOUT3.out : Boxed _ _ _ _).frozen
        have f5 := ((HIS3.out : Boxed _ _ _ _).other (B' := w.heap.size + 1) (by omega) (.slice none 0 0)).frozen
        have o5 := ((HIS3.out : Boxed _ _ _ _).other (B' := w.heap.size + 1) (by omega) (.slice none 0 0)).cell
        have hl4 := cell_lt z4
        have hl5 := cell_lt z5
        have hne := (show w.heap.size + 1 + 1 ≠ w.heap.size + 1 by omega)
        gi_wp2
        exact HST.out _
      obtain ⟨hl1, hl2⟩ := line_nums HCUT.out HNS.out
      have hnext := tab_next HMAP.out (by have := HNL.out; omega) (by rw [← HNL.out]; exact hwd) HXY.out (by rw [← hv]; exact hl1)
      have HNEXT := hid hnext
      have HSMALL := hid hl2
      have hww : (w0.toList == word.toList) = true := by
        rw [Lib.toList_data, Lib.toList_data, HW0.out, hwdd, hv]
        exact beq_self_eq_true _
      clear hnext hl1 hl2 hwd hword hwc hwdd hwc3 hc3 hv
      gi_wp2
      refine wpIn_round_held (S := (fun w' => w'.cell? ⟨wb, 0, none⟩ = some (.slice (some ⟨wab, wao, none⟩) ws.length c) ∧ w'.cell? ⟨W.heap.size, 0, none⟩ = some (.string w0) ∧ w'.cell? ⟨wab, wao + n, none⟩ = some (.string word))) (by kernel_rfl) (by kernel_rfl) ?_ (fun hHeld => ?_)
      · exact HSR.out
      refine wpAnyH_take (i := 0) (v := ?v55) rfl (by kernel_rfl) (by kernel_rfl) (by kernel_rfl) (fun _ _ _ h => h) (Or.inl ⟨by rfl, ?hy55⟩) (by assumption) ?rest55
      case hy55 => (intro w hSw; (try dsimp only at hSw); (try simp only [List.getElem_toArray, List.getElem_cons_zero]); go_simp; (try with_reducible rfl))
      (try simp only [Act.put, List.getElem_toArray, List.getElem_cons_zero, List.setIfInBounds_toArray, List.set_cons_zero, List.set_cons_succ])
      refine wpAnyH_take (i := 1) (v := ?v56) rfl (by kernel_rfl) (by kernel_rfl) (by kernel_rfl) (fun _ _ _ h => h) (Or.inl ⟨by rfl, ?hy56⟩) (by assumption) ?rest56
      case hy56 => (intro w hSw; (try dsimp only at hSw); (try simp only [List.getElem_toArray, List.getElem_cons_zero, List.getElem_cons_succ]); go_simp; (try with_reducible rfl))
      (try simp only [Act.put, List.getElem_toArray, List.getElem_cons_zero, List.getElem_cons_succ, List.setIfInBounds_toArray, List.set_cons_zero, List.set_cons_succ])
      refine wpAnyH_take (i := 2) (v := ?v57) rfl (by kernel_rfl) (by kernel_rfl) (by kernel_rfl) (fun _ _ _ h => h) (Or.inl ⟨by rfl, ?hy57⟩) (by assumption) ?rest57
      case hy57 => (intro w hSw; (try dsimp only at hSw); (try simp only [List.getElem_toArray, List.getElem_cons_zero, List.getElem_cons_succ]); go_simp; (try with_reducible rfl))
      (try simp only [Act.put, List.getElem_toArray, List.getElem_cons_zero, List.getElem_cons_succ, List.setIfInBounds_toArray, List.set_cons_zero, List.set_cons_succ])
      refine wpAnyH_take (i := 3) (v := ?v58) rfl (by kernel_rfl) (by kernel_rfl) (by kernel_rfl) (fun _ _ _ h => h) (Or.inl ⟨by rfl, ?hy58⟩) (by assumption) ?rest58
      case hy58 => (intro w hSw; (try dsimp only at hSw); (try simp only [List.getElem_toArray, List.getElem_cons_zero, List.getElem_cons_succ]); go_simp; (try with_reducible rfl))
      (try simp only [Act.put, List.getElem_toArray, List.getElem_cons_zero, List.getElem_cons_succ, List.setIfInBounds_toArray, List.set_cons_zero, List.set_cons_succ])
      refine wpAnyH_take (i := 4) (v := ?v59) rfl (by kernel_rfl) (by kernel_rfl) (by kernel_rfl) (fun _ _ _ h => h) (Or.inl ⟨by rfl, ?hy59⟩) (by assumption) ?rest59
      case hy59 => (intro w hSw; (try dsimp only at hSw); (try simp only [List.getElem_toArray, List.getElem_cons_zero, List.getElem_cons_succ]); go_simp; (try with_reducible rfl))
      (try simp only [Act.put, List.getElem_toArray, List.getElem_cons_zero, List.getElem_cons_succ, List.setIfInBounds_toArray, List.set_cons_zero, List.set_cons_succ])
      refine wpAnyH_take (i := 5) (v := ?v60) rfl (by kernel_rfl) (by kernel_rfl) (by kernel_rfl) (fun _ _ _ h => h) (Or.inl ⟨by rfl, ?hy60⟩) (by assumption) ?rest60
      case hy60 => (intro w hSw; (try dsimp only at hSw); (try simp only [List.getElem_toArray, List.getElem_cons_zero, List.getElem_cons_succ]); go_simp; (try with_reducible rfl))
      (try simp only [Act.put, List.getElem_toArray, List.getElem_cons_zero, List.getElem_cons_succ, List.setIfInBounds_toArray, List.set_cons_zero, List.set_cons_succ])
      refine wpAnyH_take (i := 6) (v := ?v61) rfl (by kernel_rfl) (by kernel_rfl) (by kernel_rfl) (fun _ _ _ h => h) (Or.inl ⟨by rfl, ?hy61⟩) (by assumption) ?rest61
      case hy61 => (intro w hSw; (try dsimp only at hSw); (try simp only [List.getElem_toArray, List.getElem_cons_zero, List.getElem_cons_succ]); go_simp; (try with_reducible rfl))
      (try simp only [Act.put, List.getElem_toArray, List.getElem_cons_zero, List.getElem_cons_succ, List.setIfInBounds_toArray, List.set_cons_zero, List.set_cons_succ])
      refine wpAnyH_take (i := 7) (v := ?v62) rfl (by kernel_rfl) (by kernel_rfl) (by kernel_rfl) (fun _ _ _ h => h) (Or.inl ⟨by rfl, ?hy62⟩) (by assumption) ?rest62
      case hy62 => (intro w hSw; (try dsimp only at hSw); (try simp only [List.getElem_toArray, List.getElem_cons_zero, List.getElem_cons_succ]); go_simp; (try with_reducible rfl))
      (try simp only [Act.put, List.getElem_toArray, List.getElem_cons_zero, List.getElem_cons_succ, List.setIfInBounds_toArray, List.set_cons_zero, List.set_cons_succ])
      refine wpAnyH_take (i := 8) (v := ?v63) rfl (by kernel_rfl) (by kernel_rfl) (by kernel_rfl) (fun _ _ _ h => h) (Or.inl ⟨by rfl, ?hy63⟩) (by assumption) ?rest63
      case hy63 => (intro w hSw; (try dsimp only at hSw); (try simp only [List.getElem_toArray, List.getElem_cons_zero, List.getElem_cons_succ]); go_simp; (try with_reducible rfl))
      (try simp only [Act.put, List.getElem_toArray, List.getElem_cons_zero, List.getElem_cons_succ, List.setIfInBounds_toArray, List.set_cons_zero, List.set_cons_succ])
      refine wpAnyH_take (i := 9) (v := ?v64) rfl (by kernel_rfl) (by kernel_rfl) (by kernel_rfl) (fun _ _ _ h => h) (Or.inl ⟨by rfl, ?hy64⟩) (by assumption) ?rest64
      case hy64 => (intro w hSw; (try dsimp only at hSw); (try simp only [List.getElem_toArray, List.getElem_cons_zero, List.getElem_cons_succ]); go_simp; (try with_reducible rfl))
      (try simp only [Act.put, List.getElem_toArray, List.getElem_cons_zero, List.getElem_cons_succ, List.setIfInBounds_toArray, List.set_cons_zero, List.set_cons_succ])
      refine wpAnyH_take (i := 10) (v := ?v65) rfl (by kernel_rfl) (by kernel_rfl) (by kernel_rfl) (fun _ _ _ h => h) (Or.inl ⟨by rfl, ?hy65⟩) (by assumption) ?rest65
      case hy65 => (intro w hSw; (try dsimp only at hSw); (try simp only [List.getElem_toArray, List.getElem_cons_zero, List.getElem_cons_succ]); go_simp; (try with_reducible rfl))
      (try simp only [Act.put, List.getElem_toArray, List.getElem_cons_zero, List.getElem_cons_succ, List.setIfInBounds_toArray, List.set_cons_zero, List.set_cons_succ])
      refine wpAnyH_take (i := 11) (v := ?v66) rfl (by kernel_rfl) (by kernel_rfl) (by kernel_rfl) (fun _ _ _ h => h) (Or.inl ⟨by rfl, ?hy66⟩) (by assumption) ?rest66
      case hy66 => (intro w hSw; (try dsimp only at hSw); (try simp only [List.getElem_toArray, List.getElem_cons_zero, List.getElem_cons_succ]); go_simp; (try with_reducible rfl))
      (try simp only [Act.put, List.getElem_toArray, List.getElem_cons_zero, List.getElem_cons_succ, List.setIfInBounds_toArray, List.set_cons_zero, List.set_cons_succ])
      refine wpAnyH_take (i := 12) (v := ?v67) rfl (by kernel_rfl) (by kernel_rfl) (by kernel_rfl) (fun _ _ _ h => h) (Or.inl ⟨by rfl, ?hy67⟩) (by assumption) ?rest67
      case hy67 => (intro w hSw; (try dsimp only at hSw); (try simp only [List.getElem_toArray, List.getElem_cons_zero, List.getElem_cons_succ]); go_simp; (try with_reducible rfl))
      (try simp only [Act.put, List.getElem_toArray, List.getElem_cons_zero, List.getElem_cons_succ, List.setIfInBounds_toArray, List.set_cons_zero, List.set_cons_succ])
      refine wpAnyH_take (i := 13) (v := ?v68) rfl (by kernel_rfl) (by kernel_rfl) (by kernel_rfl) (fun _ _ _ h => h) (Or.inl ⟨by rfl, ?hy68⟩) (by assumption) ?rest68
      case hy68 => (intro w hSw; (try dsimp only at hSw); (try simp only [List.getElem_toArray, List.getElem_cons_zero, List.getElem_cons_succ]); go_simp; (try with_reducible rfl))
      (try simp only [Act.put, List.getElem_toArray, List.getElem_cons_zero, List.getElem_cons_succ, List.setIfInBounds_toArray, List.set_cons_zero, List.set_cons_succ])
      refine wpAnyH_take (i := 14) (v := ?v69) rfl (by kernel_rfl) (by kernel_rfl) (by kernel_rfl) (fun _ _ _ h => h) (Or.inl ⟨by rfl, ?hy69⟩) (by assumption) ?rest69
      case hy69 => (intro w hSw; (try dsimp only at hSw); (try simp only [List.getElem_toArray, List.getElem_cons_zero, List.getElem_cons_succ]); go_simp; (try with_reducible rfl))
      (try simp only [Act.put, List.getElem_toArray, List.getElem_cons_zero, List.getElem_cons_succ, List.setIfInBounds_toArray, List.set_cons_zero, List.set_cons_succ])
      refine wpAnyH_take (i := 15) (v := ?v70) rfl (by kernel_rfl) (by kernel_rfl) (by kernel_rfl) (fun _ _ _ h => h) (Or.inl ⟨by rfl, ?hy70⟩) (by assumption) ?rest70
      case hy70 => (intro w hSw; (try dsimp only at hSw); (try simp only [List.getElem_toArray, List.getElem_cons_zero, List.getElem_cons_succ]); go_simp; (try with_reducible rfl))
      (try simp only [Act.put, List.getElem_toArray, List.getElem_cons_zero, List.getElem_cons_succ, List.setIfInBounds_toArray, List.set_cons_zero, List.set_cons_succ])
      refine wpAnyH_take (i := 16) (v := ?v71) rfl (by kernel_rfl) (by kernel_rfl) (by kernel_rfl) (fun _ _ _ h => h) (Or.inl ⟨by rfl, ?hy71⟩) (by assumption) ?rest71
      case hy71 => (intro w hSw; (try dsimp only at hSw); (try simp only [List.getElem_toArray, List.getElem_cons_zero, List.getElem_cons_succ]); go_simp; (try with_reducible rfl))
      (try simp only [Act.put, List.getElem_toArray, List.getElem_cons_zero, List.getElem_cons_succ, List.setIfInBounds_toArray, List.set_cons_zero, List.set_cons_succ])
      refine wpAnyH_take (i := 17) (v := ?v72) rfl (by kernel_rfl) (by kernel_rfl) (by kernel_rfl) (fun _ _ _ h => h) (Or.inl ⟨by rfl, ?hy72⟩) (by assumption) ?rest72
      case hy72 => (intro w hSw; (try dsimp only at hSw); (try simp only [List.getElem_toArray, List.getElem_cons_zero, List.getElem_cons_succ]); go_simp; (try with_reducible rfl))
      (try simp only [Act.put, List.getElem_toArray, List.getElem_cons_zero, List.getElem_cons_succ, List.setIfInBounds_toArray, List.set_cons_zero, List.set_cons_succ])
      refine wpAnyH_take (i := 18) (v := ?v73) rfl (by kernel_rfl) (by kernel_rfl) (by kernel_rfl) (fun _ _ _ h => h) (Or.inl ⟨by rfl, ?hy73⟩) (by assumption) ?rest73
      case hy73 => (intro w hSw; (try dsimp only at hSw); (try simp only [List.getElem_toArray, List.getElem_cons_zero, List.getElem_cons_succ]); go_simp; (try with_reducible rfl))
      (try simp only [Act.put, List.getElem_toArray, List.getElem_cons_zero, List.getElem_cons_succ, List.setIfInBounds_toArray, List.set_cons_zero, List.set_cons_succ])
      refine wpAnyH_take (i := 19) (v := ?v74) rfl (by kernel_rfl) (by kernel_rfl) (by kernel_rfl) (fun _ _ _ h => h) (Or.inl ⟨by rfl, ?hy74⟩) (by assumption) ?rest74
      case hy74 => (intro w hSw; (try dsimp only at hSw); (try simp only [List.getElem_toArray, List.getElem_cons_zero, List.getElem_cons_succ]); go_simp; (try with_reducible rfl))
      (try simp only [Act.put, List.getElem_toArray, List.getElem_cons_zero, List.getElem_cons_succ, List.setIfInBounds_toArray, List.set_cons_zero, List.set_cons_succ])
      refine wpAnyH_take (i := 20) (v := ?v75) rfl (by kernel_rfl) (by kernel_rfl) (by kernel_rfl) (fun _ _ _ h => h) (Or.inl ⟨by rfl, ?hy75⟩) (by assumption) ?rest75
      case hy75 => (intro w hSw; (try dsimp only at hSw); (try simp only [List.getElem_toArray, List.getElem_cons_zero, List.getElem_cons_succ]); go_simp; (try with_reducible rfl))
      (try simp only [Act.put, List.getElem_toArray, List.getElem_cons_zero, List.getElem_cons_succ, List.setIfInBounds_toArray, List.set_cons_zero, List.set_cons_succ])
      refine wpAnyH_take (i := 21) (v := ?v76) rfl (by kernel_rfl) (by kernel_rfl) (by kernel_rfl) (fun _ _ _ h => h) (Or.inl ⟨by rfl, ?hy76⟩) (by assumption) ?rest76
      case hy76 => (intro w hSw; (try dsimp only at hSw); (try simp only [List.getElem_toArray, List.getElem_cons_zero, List.getElem_cons_succ]); go_simp; (try with_reducible rfl))
      (try simp only [Act.put, List.getElem_toArray, List.getElem_cons_zero, List.getElem_cons_succ, List.setIfInBounds_toArray, List.set_cons_zero, List.set_cons_succ])
      refine wpAnyH_done (by kernel_rfl) ?_ _
      refine strict_normal ?_
      have hk3 : Keep NoF w3 w3.drew := (Keep.refl _ _).drew
      have q5 : ∀ obj, (w3.drew.alloc obj).cell? ⟨wb + 1, 0, none⟩ = some (.slice B n d) := fun obj => (Boxed.alloc (W := w3.drew) HGOT3.out obj).cell
      have hlb1 : wb + 1 < w3.heap.size := by omega
      gi_wp2_with (gi_at_builtin; refine wpListIn_append_row rfl _ _ 86 rfl 64 i0 (.slice none 0 0) 1 24 Tryz.underlying86 hi0 hz0 hz1 hz2 rfl (by decide) B n d (rs.flatMap Il.cells) rfl ?c0_1 (some ⟨w3.heap.size, 0, none⟩) 1 1 [.slice B7 k7 d7] rfl ?c1_1 ?c2_1 ?c3_1 ?c4_1 ?_)
      case c0_1 => exact Row.alloc (w := w3.drew) HTAB3.out.row _
      case c1_1 => exact one_sl w3.drew _ _
      case c2_1 => intro u hu; simp at hu; subst hu; rfl
      case c3_1 => unfold maxLen; omega
      case c4_1 => omega
      intro A5 c5 w5 hr5 hk5 hi5
      have HR5 := hid hr5
      have HK5 := hid hk5
      have HI5 := hid hi5
      have hsza := sz_alloc w3 (.cells #[.slice B7 k7 d7] 64)
      have far : ∀ k, k < wb + 3 → w5.heap[k]? = w3.heap[k]? := fun k hk =>
        (hk5.block k (show k < (w3.alloc (.cells #[.slice B7 k7 d7] 64)).heap.size by omega) (fun hi => by have := HFR.out k hi; omega)).trans (blk_alloc (show k < w3.heap.size by omega) _)
      have HFAR := hid far
      have got5 : Boxed w5 (wb + 1) 86 (.slice B n d) := (far _ (by omega)).trans HGOT3.out
      have HGOT5 := hid got5
      have q6 := got5.cell
      have f6 := got5.frozen
      have hl6 := cell_lt q6
      have HS5 := hid hk5.size
      clear hr5 hk5 hi5 far got5 q5
      gi_wp2
      have hwb3 : Below w.heap.size w (w3.alloc (.cells #[.slice B7 k7 d7] 64)).drew := (HBW3.out.alloc HBW3.out.size _).drew
      have hb5 : Below w.heap.size w w5 := hwb3.trans (Keep.below HK5.out (by have := hwb3.size; exact this) fun i hi => by have := HFR.out i hi; omega)
      have hsz5 : w3.heap.size + 1 ≤ w5.heap.size := by
        have h : (w3.alloc (.cells #[.slice B7 k7 d7] 64)).heap.size ≤ w5.heap.size := HS5.out
        omega
      have hW2 := HSZ2.out
      have hA5 : ∀ i, InA A5 i → wb + 3 ≤ i := fun i hi => by
        rcases HI5.out i hi with h | h
        · exact HFR.out i h
        · omega
      have hB7 : ∀ i, InA B7 i → wb + 3 ≤ i := fun i hi => by have := HFR7.out i hi; omega
      have hrow' : ∀ {A' : Option Addr} {n' c' : Nat} {xs : List Value}, Row w3 3 1 A' n' c' xs → (∀ i, InA A' i → wb + 3 ≤ i) → Row (w5.setCell ⟨wb + 1, 0, none⟩ (.slice A5 (n + 1) c5)) 3 1 A' n' c' xs := fun h1 h2 =>
        Row.setCell ((row_drew (Row.alloc (w := w3) h1 _)).through HK5.out fun j hj hg => h1.apart2 HTAB3.out.row (by decide) j hj hg) (fun hi => by have h' : wb + 3 ≤ wb + 1 := h2 _ hi; omega) _
      refine ⟨((((keeps_below HB3.out).trans (keeps_below (W := w3) ((Below.refl w3.heap.size w3).alloc (Nat.le_refl _) _).drew)).trans (keeps_row HK5.out fun b hb => (Row.alloc (w := w3) HTAB3.out.row _).cellsAt hb))).trans (keeps_set _ _), ?_, ?_⟩
      · rw [blk_far (show wb + 1 + 1 ≠ wb + 1 by omega), HFAR.out _ (by omega)]; exact HT3.out
      · refine ⟨Boxed.other ((HFAR.out _ (by omega)).trans HOUT3.out) (by omega) _, Boxed.other ((HFAR.out _ (by omega)).trans HIS3.out) (by omega) _, Boxed.other ((HFAR.out _ (by omega)).trans HWANT3.out) (by omega) _, ?_, HI.out.wlow, ⟨L ++ [ns], rs ++ [⟨B7, d7, ns.map Int.ofNat⟩], A5, n + 1, c5, ?_, ?_, ?_, ⟨?_, ?_, ?_, ?_⟩, HGOT5.out.set _, hA5, ?_⟩, hfar, by rw [sz_set]; omega, hb5.setCell (p := ⟨wb + 1, 0, none⟩) (by simp; omega) _⟩
        · have hwr := HI.out.wrow.new HB3.out
          refine Row.setCell ((row_drew (Row.alloc (w := w3) hwr _)).through HK5.out fun j hj hg => hwr.apart2 HTAB3.out.row (by decide) j hj hg) (fun hi => by have h' : wb + 1 < wb := HI.out.wlow _ hi; omega) _
        · intro z hz
          rcases List.mem_append.1 hz with h | h
          · exact HSM.out z h
          · rw [List.mem_singleton] at h; rw [h]; exact HSMALL.out
        · have := HNL.out; rw [List.length_append, List.length_singleton]; omega
        · rw [List.map_append, List.map_cons, List.map_nil]; exact HNEXT.out
        · rw [List.map_append, List.map_append, HTAB3.out.same]; rfl
        · rw [List.length_append, HTAB3.out.len]; rfl
        · refine Row.setCell ?_ (fun hi => by have h' : wb + 3 ≤ wb + 1 := hA5 _ hi; omega) _
          have e : (rs ++ [(⟨B7, d7, ns.map Int.ofNat⟩ : Il)]).flatMap Il.cells = rs.flatMap Il.cells ++ [.slice B7 k7 d7] := by
            rw [List.flatMap_append]
            simp [Il.cells, HK7.out]
          rw [e]; exact HR5.out
        · intro r hr
          rcases List.mem_append.1 hr with h | h
          · exact hrow' (HTAB3.out.rows r h) (HFRS.out r h)
          · rw [List.mem_singleton] at h
            subst h
            have h7 := HROW7.out
            rw [← HK7.out] at h7
            have e : (ns.map Int.ofNat).length = ns.length := List.length_map _
            simp only [e]
            exact hrow' h7 hB7
        · intro r hr i hi
          rcases List.mem_append.1 hr with h | h
          · exact HFRS.out r h i hi
          · rw [List.mem_singleton] at h
            subst h
            exact hB7 i hi
    · rw [if_neg hn2] at HNUM
      gi_wp2
      refine ⟨trivial, (CallsIn.inRound l0 (callsIn_wide.2 HNUM.out)).mono ?_⟩
      rintro e w3 ⟨hb3, hor⟩
      rw [HREST.out] at hor
      obtain ⟨hbw3, hc3⟩ := HN3.out w3 hb3
      have HB3 := hid hbw3
      have HBW3 := hid (HI.out.below.trans (hbw3.mono HI.out.below.size))
      have hfar := HI.out.far
      have hbig := HI.out.big
      have hs3 := hbw3.size
      have bl3 : ∀ k, k < wb + 3 → w3.heap[k]? = W.heap[k]? := fun k hk => hbw3.block k (by omega)
      have out3 : Boxed w3 (w.heap.size + 1) 86 (.slice none 0 0) := (bl3 _ (by omega)).trans HI.out.out
      have is3 : Boxed w3 (w.heap.size + 1 + 1) 4 (.bool false) := (bl3 _ (by omega)).trans HI.out.is
      have want3 : Boxed w3 wb 78 (.slice A ws.length c) := (bl3 _ (by omega)).trans HI.out.want
      obtain ⟨L, rs, B, n, d, hsm, hll, hmap, htab, hgot, hfr, hfrs⟩ := HI.out.got
      have got3 : Boxed w3 (wb + 1) 86 (.slice B n d) := (bl3 _ (by omega)).trans hgot
      have q4 := got3.cell
      have HOUT3 := hid out3
      have HIS3 := hid is3
      have HWANT3 := hid want3
      have HGOT3 := hid got3
      have HTAB3 := hid (htab.new hbw3)
      have HSM := hid hsm
      have HMAP := hid hmap
      have HFR := hid hfr
      have HFRS := hid hfrs
      have HT3 := hid (show w3.heap[wb + 1 + 1]? = W.heap[wb + 1 + 1]? from bl3 _ (by omega))
      have hnl : n = L.length := htab.len.symm
      have hnp : pre.length = n := by
        have := congrArg List.length hmap
        rw [List.length_map, List.length_map, List.length_zip] at this
        omega
      have HNP := hid hnp
      have HNL := hid hnl
      clear hb3 hbw3 bl3 out3 is3 want3 got3 hsm hmap htab hgot hfr hfrs hnp
      have hn2001 : n ≤ 2001 := by omega
      have hnn : 0 < nn := by omega
      clear hnl hll
      have HSTOP : Hid ((∀ L', ¬ Tab ws t.data.toList L') → ∀ a : Act, RoundLeft W0.heap.size (wb + 1 + 1) (SRAt w wb ws A c) (fun c _ W => SRStop ws t w wb c W) (pre ++ [x]) W .ret a ((w3.drew.setCell ⟨w.heap.size + 1, 0, none⟩ (.slice none 0 0)).setCell ⟨w.heap.size + 1 + 1, 0, none⟩ (.bool false))) := hid fun hno a =>
        ⟨(((keeps_below HB3.out).trans (keeps_below (Below.refl _ _).drew)).trans (keeps_set _ _)).trans (keeps_set _ _),
          ⟨rfl, hno, (Boxed.set (W := w3.drew) _ HOUT3.out).other (by omega) _, (Boxed.other (W := w3.drew) HIS3.out (by omega) _).set _, hfar,
            ((HBW3.out.drew).setCell (p := ⟨w.heap.size + 1, 0, none⟩) (by simp) _).setCell (p := ⟨w.heap.size + 1 + 1, 0, none⟩) (by simp; omega) _⟩⟩
      have HXB : Hid ((linesOf t.data.toList)[n]? = some x.data.toList) := hid (by rw [← HNP.out]; exact HXA.out)
      obtain ⟨fl, nv, he, hnums⟩ : ∃ (fl : Bool) (nv : Value), e = .returned (.tuple #[nv, .bool fl]) ∧ ((fl = true ∧ ∃ (ns : List Nat) (B7 : Option Addr) (k7 d7 : Nat), numsOf 7 vs = some ns ∧ ns.length = k7 ∧ nv = .slice B7 k7 d7 ∧ Row w3 3 1 B7 k7 d7 (ints (ns.map Int.ofNat)) ∧ ∀ i, InA B7 i → W2.heap.size ≤ i) ∨ (fl = false ∧ numsOf 7 vs = none)) := by
        rcases hor with ⟨ns, B7, k7, d7, h1, h2, rfl, h3, h4⟩ | ⟨h1, rfl⟩
        · exact ⟨true, _, rfl, .inl ⟨rfl, ns, B7, k7, d7, h1, h2, rfl, h3, h4⟩⟩
        · exact ⟨false, _, rfl, .inr ⟨rfl, h1⟩⟩
      subst he
      have HNUMS := hid hnums
      clear hor hnums
      rcases HCASE.out with ⟨rfl, hxy⟩ | ⟨rfl, hx10⟩
      rotate_left
      · have hst := HSTOP.out (fun L' => tab_not_end HPW.out HXB.out hx10)
        have HST := hid hst
        have HSR : Hid True := hid trivial
        clear hst hx10
        gi_wp2
        refine wpIn_round_held (S := (fun w' => True)) (by kernel_rfl) (by kernel_rfl) ?_ (fun hHeld => ?_)
        · exact HSR.out
        refine wpAnyH_take (i := 0) (v := ?v77) rfl (by kernel_rfl) (by kernel_rfl) (by kernel_rfl) (fun _ _ _ h => h) (Or.inl ⟨by rfl, ?hy77⟩) (by assumption) ?rest77
        case hy77 => (intro w hSw; (try dsimp only at hSw); (try simp only [List.getElem_toArray, List.getElem_cons_zero]); go_simp; (try with_reducible rfl))
        (try simp only [Act.put, List.getElem_toArray, List.getElem_cons_zero, List.setIfInBounds_toArray, List.set_cons_zero, List.set_cons_succ])
        refine wpAnyH_take (i := 1) (v := ?v78) rfl (by kernel_rfl) (by kernel_rfl) (by kernel_rfl) (fun _ _ _ h => h) (Or.inl ⟨by rfl, ?hy78⟩) (by assumption) ?rest78
        case hy78 => (intro w hSw; (try dsimp only at hSw); (try simp only [List.getElem_toArray, List.getElem_cons_zero, List.getElem_cons_succ]); go_simp; (try with_reducible rfl))
        (try simp only [Act.put, List.getElem_toArray, List.getElem_cons_zero, List.getElem_cons_succ, List.setIfInBounds_toArray, List.set_cons_zero, List.set_cons_succ])
        refine wpAnyH_take (i := 2) (v := ?v79) rfl (by kernel_rfl) (by kernel_rfl) (by kernel_rfl) (fun _ _ _ h => h) (Or.inl ⟨by rfl, ?hy79⟩) (by assumption) ?rest79
        case hy79 => (intro w hSw; (try dsimp only at hSw); (try simp only [List.getElem_toArray, List.getElem_cons_zero, List.getElem_cons_succ]); go_simp; (try with_reducible rfl))
        (try simp only [Act.put, List.getElem_toArray, List.getElem_cons_zero, List.getElem_cons_succ, List.setIfInBounds_toArray, List.set_cons_zero, List.set_cons_succ])
        refine wpAnyH_take (i := 3) (v := undef) rfl (by kernel_rfl) (by kernel_rfl) (by kernel_rfl) (fun _ _ _ h => h) (Or.inr ⟨by rfl, rfl⟩) (by assumption) ?_
        (try simp only [Act.put, List.getElem_toArray, List.getElem_cons_zero, List.getElem_cons_succ, List.setIfInBounds_toArray, List.set_cons_zero, List.set_cons_succ])
        refine wpAnyH_take (i := 4) (v := undef) rfl (by kernel_rfl) (by kernel_rfl) (by kernel_rfl) (fun _ _ _ h => h) (Or.inr ⟨by rfl, rfl⟩) (by assumption) ?_
        (try simp only [Act.put, List.getElem_toArray, List.getElem_cons_zero, List.getElem_cons_succ, List.setIfInBounds_toArray, List.set_cons_zero, List.set_cons_succ])
        refine wpAnyH_take (i := 5) (v := ?v80) rfl (by kernel_rfl) (by kernel_rfl) (by kernel_rfl) (fun _ _ _ h => h) (Or.inl ⟨by rfl, ?hy80⟩) (by assumption) ?rest80
        case hy80 => (intro w hSw; (try dsimp only at hSw); (try simp only [List.getElem_toArray, List.getElem_cons_zero, List.getElem_cons_succ]); go_simp; (try with_reducible rfl))
        (try simp only [Act.put, List.getElem_toArray, List.getElem_cons_zero, List.getElem_cons_succ, List.setIfInBounds_toArray, List.set_cons_zero, List.set_cons_succ])
        refine wpAnyH_take (i := 6) (v := ?v81) rfl (by kernel_rfl) (by kernel_rfl) (by kernel_rfl) (fun _ _ _ h => h) (Or.inl ⟨by rfl, ?hy81⟩) (by assumption) ?rest81
        case hy81 => (intro w hSw; (try dsimp only at hSw); (try simp only [List.getElem_toArray, List.getElem_cons_zero, List.getElem_cons_succ]); go_simp; (try with_reducible rfl))
        (try simp only [Act.put, List.getElem_toArray, List.getElem_cons_zero, List.getElem_cons_succ, List.setIfInBounds_toArray, List.set_cons_zero, List.set_cons_succ])
        refine wpAnyH_take (i := 7) (v := undef) rfl (by kernel_rfl) (by kernel_rfl) (by kernel_rfl) (fun _ _ _ h => h) (Or.inr ⟨by rfl, rfl⟩) (by assumption) ?_
        (try simp only [Act.put, List.getElem_toArray, List.getElem_cons_zero, List.getElem_cons_succ, List.setIfInBounds_toArray, List.set_cons_zero, List.set_cons_succ])
        refine wpAnyH_take (i := 8) (v := undef) rfl (by kernel_rfl) (by kernel_rfl) (by kernel_rfl) (fun _ _ _ h => h) (Or.inr ⟨by rfl, rfl⟩) (by assumption) ?_
        (try simp only [Act.put, List.getElem_toArray, List.getElem_cons_zero, List.getElem_cons_succ, List.setIfInBounds_toArray, List.set_cons_zero, List.set_cons_succ])
        refine wpAnyH_take (i := 9) (v := undef) rfl (by kernel_rfl) (by kernel_rfl) (by kernel_rfl) (fun _ _ _ h => h) (Or.inr ⟨by rfl, rfl⟩) (by assumption) ?_
        (try simp only [Act.put, List.getElem_toArray, List.getElem_cons_zero, List.getElem_cons_succ, List.setIfInBounds_toArray, List.set_cons_zero, List.set_cons_succ])
        refine wpAnyH_take (i := 10) (v := undef) rfl (by kernel_rfl) (by kernel_rfl) (by kernel_rfl) (fun _ _ _ h => h) (Or.inr ⟨by rfl, rfl⟩) (by assumption) ?_
        (try simp only [Act.put, List.getElem_toArray, List.getElem_cons_zero, List.getElem_cons_succ, List.setIfInBounds_toArray, List.set_cons_zero, List.set_cons_succ])
        refine wpAnyH_take (i := 11) (v := ?v82) rfl (by kernel_rfl) (by kernel_rfl) (by kernel_rfl) (fun _ _ _ h => h) (Or.inl ⟨by rfl, ?hy82⟩) (by assumption) ?rest82
        case hy82 => (intro w hSw; (try dsimp only at hSw); (try simp only [List.getElem_toArray, List.getElem_cons_zero, List.getElem_cons_succ]); go_simp; (try with_reducible rfl))
        (try simp only [Act.put, List.getElem_toArray, List.getElem_cons_zero, List.getElem_cons_succ, List.setIfInBounds_toArray, List.set_cons_zero, List.set_cons_succ])
        refine wpAnyH_take (i := 12) (v := ?v83) rfl (by kernel_rfl) (by kernel_rfl) (by kernel_rfl) (fun _ _ _ h => h) (Or.inl ⟨by rfl, ?hy83⟩) (by assumption) ?rest83
        case hy83 => (intro w hSw; (try dsimp only at hSw); (try simp only [List.getElem_toArray, List.getElem_cons_zero, List.getElem_cons_succ]); go_simp; (try with_reducible rfl))
        (try simp only [Act.put, List.getElem_toArray, List.getElem_cons_zero, List.getElem_cons_succ, List.setIfInBounds_toArray, List.set_cons_zero, List.set_cons_succ])
        refine wpAnyH_take (i := 13) (v := undef) rfl (by kernel_rfl) (by kernel_rfl) (by kernel_rfl) (fun _ _ _ h => h) (Or.inr ⟨by rfl, rfl⟩) (by assumption) ?_
        (try simp only [Act.put, List.getElem_toArray, List.getElem_cons_zero, List.getElem_cons_succ, List.setIfInBounds_toArray, List.set_cons_zero, List.set_cons_succ])
        refine wpAnyH_take (i := 14) (v := undef) rfl (by kernel_rfl) (by kernel_rfl) (by kernel_rfl) (fun _ _ _ h => h) (Or.inr ⟨by rfl, rfl⟩) (by assumption) ?_
        (try simp only [Act.put, List.getElem_toArray, List.getElem_cons_zero, List.getElem_cons_succ, List.setIfInBounds_toArray, List.set_cons_zero, List.set_cons_succ])
        refine wpAnyH_take (i := 15) (v := undef) rfl (by kernel_rfl) (by kernel_rfl) (by kernel_rfl) (fun _ _ _ h => h) (Or.inr ⟨by rfl, rfl⟩) (by assumption) ?_
        (try simp only [Act.put, List.getElem_toArray, List.getElem_cons_zero, List.getElem_cons_succ, List.setIfInBounds_toArray, List.set_cons_zero, List.set_cons_succ])
        refine wpAnyH_take (i := 16) (v := undef) rfl (by kernel_rfl) (by kernel_rfl) (by kernel_rfl) (fun _ _ _ h => h) (Or.inr ⟨by rfl, rfl⟩) (by assumption) ?_
        (try simp only [Act.put, List.getElem_toArray, List.getElem_cons_zero, List.getElem_cons_succ, List.setIfInBounds_toArray, List.set_cons_zero, List.set_cons_succ])
        refine wpAnyH_take (i := 17) (v := undef) rfl (by kernel_rfl) (by kernel_rfl) (by kernel_rfl) (fun _ _ _ h => h) (Or.inr ⟨by rfl, rfl⟩) (by assumption) ?_
        (try simp only [Act.put, List.getElem_toArray, List.getElem_cons_zero, List.getElem_cons_succ, List.setIfInBounds_toArray, List.set_cons_zero, List.set_cons_succ])
        refine wpAnyH_take (i := 18) (v := undef) rfl (by kernel_rfl) (by kernel_rfl) (by kernel_rfl) (fun _ _ _ h => h) (Or.inr ⟨by rfl, rfl⟩) (by assumption) ?_
        (try simp only [Act.put, List.getElem_toArray, List.getElem_cons_zero, List.getElem_cons_succ, List.setIfInBounds_toArray, List.set_cons_zero, List.set_cons_succ])
        refine wpAnyH_take (i := 19) (v := undef) rfl (by kernel_rfl) (by kernel_rfl) (by kernel_rfl) (fun _ _ _ h => h) (Or.inr ⟨by rfl, rfl⟩) (by assumption) ?_
        (try simp only [Act.put, List.getElem_toArray, List.getElem_cons_zero, List.getElem_cons_succ, List.setIfInBounds_toArray, List.set_cons_zero, List.set_cons_succ])
        refine wpAnyH_take (i := 20) (v := undef) rfl (by kernel_rfl) (by kernel_rfl) (by kernel_rfl) (fun _ _ _ h => h) (Or.inr ⟨by rfl, rfl⟩) (by assumption) ?_
        (try simp only [Act.put, List.getElem_toArray, List.getElem_cons_zero, List.getElem_cons_succ, List.setIfInBounds_toArray, List.set_cons_zero, List.set_cons_succ])
        refine wpAnyH_take (i := 21) (v := ?v84) rfl (by kernel_rfl) (by kernel_rfl) (by kernel_rfl) (fun _ _ _ h => h) (Or.inl ⟨by rfl, ?hy84⟩) (by assumption) ?rest84
        case hy84 => (intro w hSw; (try dsimp only at hSw); (try simp only [List.getElem_toArray, List.getElem_cons_zero, List.getElem_cons_succ]); go_simp; (try with_reducible rfl))
        (try simp only [Act.put, List.getElem_toArray, List.getElem_cons_zero, List.getElem_cons_succ, List.setIfInBounds_toArray, List.set_cons_zero, List.set_cons_succ])
        refine wpAnyH_done (by kernel_rfl) ?_ _
        refine strict_normal ?_
        have z4 := (HOUT3.out : Boxed _ _ _ _).cell
        have z5 := (HIS3.out : Boxed _ _ _ _).cell
        have f4 := (HOUT3.out : Boxed _ _ _ _).frozen
        have f5 := ((HIS3.out : Boxed _ _ _ _).other (B' := w.heap.size + 1) (by omega) (.slice none 0 0)).frozen
        have o5 := ((HIS3.out : Boxed _ _ _ _).other (B' := w.heap.size + 1) (by omega) (.slice none 0 0)).cell
        have hl4 := cell_lt z4
        have hl5 := cell_lt z5
        have hne := (show w.heap.size + 1 + 1 ≠ w.heap.size + 1 by omega)
        gi_wp2
        exact HST.out _
      have HXY := hid hxy
      clear hxy
      rcases HNUMS.out with ⟨rfl, ns, B7, k7, d7, hns, hk7, rfl, hrow7, hfr7⟩ | ⟨rfl, hnone⟩
      rotate_left
      · have hst := HSTOP.out (fun L' => tab_not_nums HPW.out HXB.out HXY.out HCUT.out hnone)
        have HST := hid hst
        have HSR : Hid True := hid trivial
        clear hst hnone
        gi_wp2
        refine wpIn_round_held (S := (fun w' => True)) (by kernel_rfl) (by kernel_rfl) ?_ (fun hHeld => ?_)
        · exact HSR.out
        refine wpAnyH_take (i := 0) (v := ?v85) rfl (by kernel_rfl) (by kernel_rfl) (by kernel_rfl) (fun _ _ _ h => h) (Or.inl ⟨by rfl, ?hy85⟩) (by assumption) ?rest85
        case hy85 => (intro w hSw; (try dsimp only at hSw); (try simp only [List.getElem_toArray, List.getElem_cons_zero]); go_simp; (try with_reducible rfl))
        (try simp only [Act.put, List.getElem_toArray, List.getElem_cons_zero, List.setIfInBounds_toArray, List.set_cons_zero, List.set_cons_succ])
        refine wpAnyH_take (i := 1) (v := ?v86) rfl (by kernel_rfl) (by kernel_rfl) (by kernel_rfl) (fun _ _ _ h => h) (Or.inl ⟨by rfl, ?hy86⟩) (by assumption) ?rest86
        case hy86 => (intro w hSw; (try dsimp only at hSw); (try simp only [List.getElem_toArray, List.getElem_cons_zero, List.getElem_cons_succ]); go_simp; (try with_reducible rfl))
        (try simp only [Act.put, List.getElem_toArray, List.getElem_cons_zero, List.getElem_cons_succ, List.setIfInBounds_toArray, List.set_cons_zero, List.set_cons_succ])
        refine wpAnyH_take (i := 2) (v := ?v87) rfl (by kernel_rfl) (by kernel_rfl) (by kernel_rfl) (fun _ _ _ h => h) (Or.inl ⟨by rfl, ?hy87⟩) (by assumption) ?rest87
        case hy87 => (intro w hSw; (try dsimp only at hSw); (try simp only [List.getElem_toArray, List.getElem_cons_zero, List.getElem_cons_succ]); go_simp; (try with_reducible rfl))
        (try simp only [Act.put, List.getElem_toArray, List.getElem_cons_zero, List.getElem_cons_succ, List.setIfInBounds_toArray, List.set_cons_zero, List.set_cons_succ])
        refine wpAnyH_take (i := 3) (v := ?v88) rfl (by kernel_rfl) (by kernel_rfl) (by kernel_rfl) (fun _ _ _ h => h) (Or.inl ⟨by rfl, ?hy88⟩) (by assumption) ?rest88
        case hy88 => (intro w hSw; (try dsimp only at hSw); (try simp only [List.getElem_toArray, List.getElem_cons_zero, List.getElem_cons_succ]); go_simp; (try with_reducible rfl))
        (try simp only [Act.put, List.getElem_toArray, List.getElem_cons_zero, List.getElem_cons_succ, List.setIfInBounds_toArray, List.set_cons_zero, List.set_cons_succ])
        refine wpAnyH_take (i := 4) (v := ?v89) rfl (by kernel_rfl) (by kernel_rfl) (by kernel_rfl) (fun _ _ _ h => h) (Or.inl ⟨by rfl, ?hy89⟩) (by assumption) ?rest89
        case hy89 => (intro w hSw; (try dsimp only at hSw); (try simp only [List.getElem_toArray, List.getElem_cons_zero, List.getElem_cons_succ]); go_simp; (try with_reducible rfl))
        (try simp only [Act.put, List.getElem_toArray, List.getElem_cons_zero, List.getElem_cons_succ, List.setIfInBounds_toArray, List.set_cons_zero, List.set_cons_succ])
        refine wpAnyH_take (i := 5) (v := ?v90) rfl (by kernel_rfl) (by kernel_rfl) (by kernel_rfl) (fun _ _ _ h => h) (Or.inl ⟨by rfl, ?hy90⟩) (by assumption) ?rest90
        case hy90 => (intro w hSw; (try dsimp only at hSw); (try simp only [List.getElem_toArray, List.getElem_cons_zero, List.getElem_cons_succ]); go_simp; (try with_reducible rfl))
        (try simp only [Act.put, List.getElem_toArray, List.getElem_cons_zero, List.getElem_cons_succ, List.setIfInBounds_toArray, List.set_cons_zero, List.set_cons_succ])
        refine wpAnyH_take (i := 6) (v := ?v91) rfl (by kernel_rfl) (by kernel_rfl) (by kernel_rfl) (fun _ _ _ h => h) (Or.inl ⟨by rfl, ?hy91⟩) (by assumption) ?rest91
        case hy91 => (intro w hSw; (try dsimp only at hSw); (try simp only [List.getElem_toArray, List.getElem_cons_zero, List.getElem_cons_succ]); go_simp; (try with_reducible rfl))
        (try simp only [Act.put, List.getElem_toArray, List.getElem_cons_zero, List.getElem_cons_succ, List.setIfInBounds_toArray, List.set_cons_zero, List.set_cons_succ])
        refine wpAnyH_take (i := 7) (v := undef) rfl (by kernel_rfl) (by kernel_rfl) (by kernel_rfl) (fun _ _ _ h => h) (Or.inr ⟨by rfl, rfl⟩) (by assumption) ?_
        (try simp only [Act.put, List.getElem_toArray, List.getElem_cons_zero, List.getElem_cons_succ, List.setIfInBounds_toArray, List.set_cons_zero, List.set_cons_succ])
        refine wpAnyH_take (i := 8) (v := undef) rfl (by kernel_rfl) (by kernel_rfl) (by kernel_rfl) (fun _ _ _ h => h) (Or.inr ⟨by rfl, rfl⟩) (by assumption) ?_
        (try simp only [Act.put, List.getElem_toArray, List.getElem_cons_zero, List.getElem_cons_succ, List.setIfInBounds_toArray, List.set_cons_zero, List.set_cons_succ])
        refine wpAnyH_take (i := 9) (v := undef) rfl (by kernel_rfl) (by kernel_rfl) (by kernel_rfl) (fun _ _ _ h => h) (Or.inr ⟨by rfl, rfl⟩) (by assumption) ?_
        (try simp only [Act.put, List.getElem_toArray, List.getElem_cons_zero, List.getElem_cons_succ, List.setIfInBounds_toArray, List.set_cons_zero, List.set_cons_succ])
        refine wpAnyH_take (i := 10) (v := undef) rfl (by kernel_rfl) (by kernel_rfl) (by kernel_rfl) (fun _ _ _ h => h) (Or.inr ⟨by rfl, rfl⟩) (by assumption) ?_
        (try simp only [Act.put, List.getElem_toArray, List.getElem_cons_zero, List.getElem_cons_succ, List.setIfInBounds_toArray, List.set_cons_zero, List.set_cons_succ])
        refine wpAnyH_take (i := 11) (v := ?v92) rfl (by kernel_rfl) (by kernel_rfl) (by kernel_rfl) (fun _ _ _ h => h) (Or.inl ⟨by rfl, ?hy92⟩) (by assumption) ?rest92
        case hy92 => (intro w hSw; (try dsimp only at hSw); (try simp only [List.getElem_toArray, List.getElem_cons_zero, List.getElem_cons_succ]); go_simp; (try with_reducible rfl))
        (try simp only [Act.put, List.getElem_toArray, List.getElem_cons_zero, List.getElem_cons_succ, List.setIfInBounds_toArray, List.set_cons_zero, List.set_cons_succ])
        refine wpAnyH_take (i := 12) (v := ?v93) rfl (by kernel_rfl) (by kernel_rfl) (by kernel_rfl) (fun _ _ _ h => h) (Or.inl ⟨by rfl, ?hy93⟩) (by assumption) ?rest93
        case hy93 => (intro w hSw; (try dsimp only at hSw); (try simp only [List.getElem_toArray, List.getElem_cons_zero, List.getElem_cons_succ]); go_simp; (try with_reducible rfl))
        (try simp only [Act.put, List.getElem_toArray, List.getElem_cons_zero, List.getElem_cons_succ, List.setIfInBounds_toArray, List.set_cons_zero, List.set_cons_succ])
        refine wpAnyH_take (i := 13) (v := undef) rfl (by kernel_rfl) (by kernel_rfl) (by kernel_rfl) (fun _ _ _ h => h) (Or.inr ⟨by rfl, rfl⟩) (by assumption) ?_
        (try simp only [Act.put, List.getElem_toArray, List.getElem_cons_zero, List.getElem_cons_succ, List.setIfInBounds_toArray, List.set_cons_zero, List.set_cons_succ])
        refine wpAnyH_take (i := 14) (v := undef) rfl (by kernel_rfl) (by kernel_rfl) (by kernel_rfl) (fun _ _ _ h => h) (Or.inr ⟨by rfl, rfl⟩) (by assumption) ?_
        (try simp only [Act.put, List.getElem_toArray, List.getElem_cons_zero, List.getElem_cons_succ, List.setIfInBounds_toArray, List.set_cons_zero, List.set_cons_succ])
        refine wpAnyH_take (i := 15) (v := undef) rfl (by kernel_rfl) (by kernel_rfl) (by kernel_rfl) (fun _ _ _ h => h) (Or.inr ⟨by rfl, rfl⟩) (by assumption) ?_
        (try simp only [Act.put, List.getElem_toArray, List.getElem_cons_zero, List.getElem_cons_succ, List.setIfInBounds_toArray, List.set_cons_zero, List.set_cons_succ])
        refine wpAnyH_take (i := 16) (v := undef) rfl (by kernel_rfl) (by kernel_rfl) (by kernel_rfl) (fun _ _ _ h => h) (Or.inr ⟨by rfl, rfl⟩) (by assumption) ?_
        (try simp only [Act.put, List.getElem_toArray, List.getElem_cons_zero, List.getElem_cons_succ, List.setIfInBounds_toArray, List.set_cons_zero, List.set_cons_succ])
        refine wpAnyH_take (i := 17) (v := undef) rfl (by kernel_rfl) (by kernel_rfl) (by kernel_rfl) (fun _ _ _ h => h) (Or.inr ⟨by rfl, rfl⟩) (by assumption) ?_
        (try simp only [Act.put, List.getElem_toArray, List.getElem_cons_zero, List.getElem_cons_succ, List.setIfInBounds_toArray, List.set_cons_zero, List.set_cons_succ])
        refine wpAnyH_take (i := 18) (v := undef) rfl (by kernel_rfl) (by kernel_rfl) (by kernel_rfl) (fun _ _ _ h => h) (Or.inr ⟨by rfl, rfl⟩) (by assumption) ?_
        (try simp only [Act.put, List.getElem_toArray, List.getElem_cons_zero, List.getElem_cons_succ, List.setIfInBounds_toArray, List.set_cons_zero, List.set_cons_succ])
        refine wpAnyH_take (i := 19) (v := undef) rfl (by kernel_rfl) (by kernel_rfl) (by kernel_rfl) (fun _ _ _ h => h) (Or.inr ⟨by rfl, rfl⟩) (by assumption) ?_
        (try simp only [Act.put, List.getElem_toArray, List.getElem_cons_zero, List.getElem_cons_succ, List.setIfInBounds_toArray, List.set_cons_zero, List.set_cons_succ])
        refine wpAnyH_take (i := 20) (v := undef) rfl (by kernel_rfl) (by kernel_rfl) (by kernel_rfl) (fun _ _ _ h => h) (Or.inr ⟨by rfl, rfl⟩) (by assumption) ?_
        (try simp only [Act.put, List.getElem_toArray, List.getElem_cons_zero, List.getElem_cons_succ, List.setIfInBounds_toArray, List.set_cons_zero, List.set_cons_succ])
        refine wpAnyH_take (i := 21) (v := ?v94) rfl (by kernel_rfl) (by kernel_rfl) (by kernel_rfl) (fun _ _ _ h => h) (Or.inl ⟨by rfl, ?hy94⟩) (by assumption) ?rest94
        case hy94 => (intro w hSw; (try dsimp only at hSw); (try simp only [List.getElem_toArray, List.getElem_cons_zero, List.getElem_cons_succ]); go_simp; (try with_reducible rfl))
        (try simp only [Act.put, List.getElem_toArray, List.getElem_cons_zero, List.getElem_cons_succ, List.setIfInBounds_toArray, List.set_cons_zero, List.set_cons_succ])
        refine wpAnyH_done (by kernel_rfl) ?_ _
        refine strict_normal ?_
        have z4 := (HOUT3.out : Boxed _ _ _ _).cell
        have z5 := (HIS3.out : Boxed _ _ _ _).cell
        have f4 := (HOUT3.out : Boxed _ _ _ _).frozen
        have f5 := ((HIS3.out : Boxed _ _ _ _).other (B' := w.heap.size + 1) (by omega) (.slice none 0 0)).frozen
        have o5 := ((HIS3.out : Boxed _ _ _ _).other (B' := w.heap.size + 1) (by omega) (.slice none 0 0)).cell
        have hl4 := cell_lt z4
        have hl5 := cell_lt z5
        have hne := (show w.heap.size + 1 + 1 ≠ w.heap.size + 1 by omega)
        gi_wp2
        exact HST.out _
      have HNS := hid hns
      have HK7 := hid hk7
      have HROW7 := hid hrow7
      have HFR7 := hid hfr7
      clear hns hk7 hrow7 hfr7
      by_cases hmore : ws.length ≤ n
      · have hst := HSTOP.out (fun L' => tab_not_more HPW.out HXB.out hmore)
        have HST := hid hst
        have HSR : Hid (w3.drew.cell? ⟨wb, 0, none⟩ = some (.slice A ws.length c)) := hid (HWANT3.out : Boxed _ _ _ _).cell
        have hge : (ws.length : Int) ≤ (n : Int) := by omega
        clear hst
        gi_wp2
        refine wpIn_round_held (S := (fun w' => w'.cell? ⟨wb, 0, none⟩ = some (.slice A ws.length c))) (by kernel_rfl) (by kernel_rfl) ?_ (fun hHeld => ?_)
        · exact HSR.out
        refine wpAnyH_take (i := 0) (v := ?v95) rfl (by kernel_rfl) (by kernel_rfl) (by kernel_rfl) (fun _ _ _ h => h) (Or.inl ⟨by rfl, ?hy95⟩) (by assumption) ?rest95
        case hy95 => (intro w hSw; (try dsimp only at hSw); (try simp only [List.getElem_toArray, List.getElem_cons_zero]); go_simp; (try with_reducible rfl))
        (try simp only [Act.put, List.getElem_toArray, List.getElem_cons_zero, List.setIfInBounds_toArray, List.set_cons_zero, List.set_cons_succ])
        refine wpAnyH_take (i := 1) (v := ?v96) rfl (by kernel_rfl) (by kernel_rfl) (by kernel_rfl) (fun _ _ _ h => h) (Or.inl ⟨by rfl, ?hy96⟩) (by assumption) ?rest96
        case hy96 => (intro w hSw; (try dsimp only at hSw); (try simp only [List.getElem_toArray, List.getElem_cons_zero, List.getElem_cons_succ]); go_simp; (try with_reducible rfl))
        (try simp only [Act.put, List.getElem_toArray, List.getElem_cons_zero, List.getElem_cons_succ, List.setIfInBounds_toArray, List.set_cons_zero, List.set_cons_succ])
        refine wpAnyH_take (i := 2) (v := ?v97) rfl (by kernel_rfl) (by kernel_rfl) (by kernel_rfl) (fun _ _ _ h => h) (Or.inl ⟨by rfl, ?hy97⟩) (by assumption) ?rest97
        case hy97 => (intro w hSw; (try dsimp only at hSw); (try simp only [List.getElem_toArray, List.getElem_cons_zero, List.getElem_cons_succ]); go_simp; (try with_reducible rfl))
        (try simp only [Act.put, List.getElem_toArray, List.getElem_cons_zero, List.getElem_cons_succ, List.setIfInBounds_toArray, List.set_cons_zero, List.set_cons_succ])
        refine wpAnyH_take (i := 3) (v := ?v98) rfl (by kernel_rfl) (by kernel_rfl) (by kernel_rfl) (fun _ _ _ h => h) (Or.inl ⟨by rfl, ?hy98⟩) (by assumption) ?rest98
        case hy98 => (intro w hSw; (try dsimp only at hSw); (try simp only [List.getElem_toArray, List.getElem_cons_zero, List.getElem_cons_succ]); go_simp; (try with_reducible rfl))
        (try simp only [Act.put, List.getElem_toArray, List.getElem_cons_zero, List.getElem_cons_succ, List.setIfInBounds_toArray, List.set_cons_zero, List.set_cons_succ])
        refine wpAnyH_take (i := 4) (v := ?v99) rfl (by kernel_rfl) (by kernel_rfl) (by kernel_rfl) (fun _ _ _ h => h) (Or.inl ⟨by rfl, ?hy99⟩) (by assumption) ?rest99
        case hy99 => (intro w hSw; (try dsimp only at hSw); (try simp only [List.getElem_toArray, List.getElem_cons_zero, List.getElem_cons_succ]); go_simp; (try with_reducible rfl))
        (try simp only [Act.put, List.getElem_toArray, List.getElem_cons_zero, List.getElem_cons_succ, List.setIfInBounds_toArray, List.set_cons_zero, List.set_cons_succ])
        refine wpAnyH_take (i := 5) (v := ?v100) rfl (by kernel_rfl) (by kernel_rfl) (by kernel_rfl) (fun _ _ _ h => h) (Or.inl ⟨by rfl, ?hy100⟩) (by assumption) ?rest100
        case hy100 => (intro w hSw; (try dsimp only at hSw); (try simp only [List.getElem_toArray, List.getElem_cons_zero, List.getElem_cons_succ]); go_simp; (try with_reducible rfl))
        (try simp only [Act.put, List.getElem_toArray, List.getElem_cons_zero, List.getElem_cons_succ, List.setIfInBounds_toArray, List.set_cons_zero, List.set_cons_succ])
        refine wpAnyH_take (i := 6) (v := ?v101) rfl (by kernel_rfl) (by kernel_rfl) (by kernel_rfl) (fun _ _ _ h => h) (Or.inl ⟨by rfl, ?hy101⟩) (by assumption) ?rest101
        case hy101 => (intro w hSw; (try dsimp only at hSw); (try simp only [List.getElem_toArray, List.getElem_cons_zero, List.getElem_cons_succ]); go_simp; (try with_reducible rfl))
        (try simp only [Act.put, List.getElem_toArray, List.getElem_cons_zero, List.getElem_cons_succ, List.setIfInBounds_toArray, List.set_cons_zero, List.set_cons_succ])
        refine wpAnyH_take (i := 7) (v := ?v102) rfl (by kernel_rfl) (by kernel_rfl) (by kernel_rfl) (fun _ _ _ h => h) (Or.inl ⟨by rfl, ?hy102⟩) (by assumption) ?rest102
        case hy102 => (intro w hSw; (try dsimp only at hSw); (try simp only [List.getElem_toArray, List.getElem_cons_zero, List.getElem_cons_succ]); go_simp; (try with_reducible rfl))
        (try simp only [Act.put, List.getElem_toArray, List.getElem_cons_zero, List.getElem_cons_succ, List.setIfInBounds_toArray, List.set_cons_zero, List.set_cons_succ])
        refine wpAnyH_take (i := 8) (v := ?v103) rfl (by kernel_rfl) (by kernel_rfl) (by kernel_rfl) (fun _ _ _ h => h) (Or.inl ⟨by rfl, ?hy103⟩) (by assumption) ?rest103
        case hy103 => (intro w hSw; (try dsimp only at hSw); (try simp only [List.getElem_toArray, List.getElem_cons_zero, List.getElem_cons_succ]); go_simp; (try with_reducible rfl))
        (try simp only [Act.put, List.getElem_toArray, List.getElem_cons_zero, List.getElem_cons_succ, List.setIfInBounds_toArray, List.set_cons_zero, List.set_cons_succ])
        refine wpAnyH_take (i := 9) (v := ?v104) rfl (by kernel_rfl) (by kernel_rfl) (by kernel_rfl) (fun _ _ _ h => h) (Or.inl ⟨by rfl, ?hy104⟩) (by assumption) ?rest104
        case hy104 => (intro w hSw; (try dsimp only at hSw); (try simp only [List.getElem_toArray, List.getElem_cons_zero, List.getElem_cons_succ]); go_simp; (try with_reducible rfl))
        (try simp only [Act.put, List.getElem_toArray, List.getElem_cons_zero, List.getElem_cons_succ, List.setIfInBounds_toArray, List.set_cons_zero, List.set_cons_succ])
        refine wpAnyH_take (i := 10) (v := ?v105) rfl (by kernel_rfl) (by kernel_rfl) (by kernel_rfl) (fun _ _ _ h => h) (Or.inl ⟨by rfl, ?hy105⟩) (by assumption) ?rest105
        case hy105 => (intro w hSw; (try dsimp only at hSw); (try simp only [List.getElem_toArray, List.getElem_cons_zero, List.getElem_cons_succ]); go_simp; (try with_reducible rfl))
        (try simp only [Act.put, List.getElem_toArray, List.getElem_cons_zero, List.getElem_cons_succ, List.setIfInBounds_toArray, List.set_cons_zero, List.set_cons_succ])
        refine wpAnyH_take (i := 11) (v := ?v106) rfl (by kernel_rfl) (by kernel_rfl) (by kernel_rfl) (fun _ _ _ h => h) (Or.inl ⟨by rfl, ?hy106⟩) (by assumption) ?rest106
        case hy106 => (intro w hSw; (try dsimp only at hSw); (try simp only [List.getElem_toArray, List.getElem_cons_zero, List.getElem_cons_succ]); go_simp; (try with_reducible rfl))
        (try simp only [Act.put, List.getElem_toArray, List.getElem_cons_zero, List.getElem_cons_succ, List.setIfInBounds_toArray, List.set_cons_zero, List.set_cons_succ])
        refine wpAnyH_take (i := 12) (v := ?v107) rfl (by kernel_rfl) (by kernel_rfl) (by kernel_rfl) (fun _ _ _ h => h) (Or.inl ⟨by rfl, ?hy107⟩) (by assumption) ?rest107
        case hy107 => (intro w hSw; (try dsimp only at hSw); (try simp only [List.getElem_toArray, List.getElem_cons_zero, List.getElem_cons_succ]); go_simp; (try with_reducible rfl))
        (try simp only [Act.put, List.getElem_toArray, List.getElem_cons_zero, List.getElem_cons_succ, List.setIfInBounds_toArray, List.set_cons_zero, List.set_cons_succ])
        refine wpAnyH_take (i := 13) (v := undef) rfl (by kernel_rfl) (by kernel_rfl) (by kernel_rfl) (fun _ _ _ h => h) (Or.inr ⟨by rfl, rfl⟩) (by assumption) ?_
        (try simp only [Act.put, List.getElem_toArray, List.getElem_cons_zero, List.getElem_cons_succ, List.setIfInBounds_toArray, List.set_cons_zero, List.set_cons_succ])
        refine wpAnyH_take (i := 14) (v := undef) rfl (by kernel_rfl) (by kernel_rfl) (by kernel_rfl) (fun _ _ _ h => h) (Or.inr ⟨by rfl, rfl⟩) (by assumption) ?_
        (try simp only [Act.put, List.getElem_toArray, List.getElem_cons_zero, List.getElem_cons_succ, List.setIfInBounds_toArray, List.set_cons_zero, List.set_cons_succ])
        refine wpAnyH_take (i := 15) (v := undef) rfl (by kernel_rfl) (by kernel_rfl) (by kernel_rfl) (fun _ _ _ h => h) (Or.inr ⟨by rfl, rfl⟩) (by assumption) ?_
        (try simp only [Act.put, List.getElem_toArray, List.getElem_cons_zero, List.getElem_cons_succ, List.setIfInBounds_toArray, List.set_cons_zero, List.set_cons_succ])
        refine wpAnyH_take (i := 16) (v := undef) rfl (by kernel_rfl) (by kernel_rfl) (by kernel_rfl) (fun _ _ _ h => h) (Or.inr ⟨by rfl, rfl⟩) (by assumption) ?_
        (try simp only [Act.put, List.getElem_toArray, List.getElem_cons_zero, List.getElem_cons_succ, List.setIfInBounds_toArray, List.set_cons_zero, List.set_cons_succ])
        refine wpAnyH_take (i := 17) (v := undef) rfl (by kernel_rfl) (by kernel_rfl) (by kernel_rfl) (fun _ _ _ h => h) (Or.inr ⟨by rfl, rfl⟩) (by assumption) ?_
        (try simp only [Act.put, List.getElem_toArray, List.getElem_cons_zero, List.getElem_cons_succ, List.setIfInBounds_toArray, List.set_cons_zero, List.set_cons_succ])
        refine wpAnyH_take (i := 18) (v := undef) rfl (by kernel_rfl) (by kernel_rfl) (by kernel_rfl) (fun _ _ _ h => h) (Or.inr ⟨by rfl, rfl⟩) (by assumption) ?_
        (try simp only [Act.put, List.getElem_toArray, List.getElem_cons_zero, List.getElem_cons_succ, List.setIfInBounds_toArray, List.set_cons_zero, List.set_cons_succ])
        refine wpAnyH_take (i := 19) (v := undef) rfl (by kernel_rfl) (by kernel_rfl) (by kernel_rfl) (fun _ _ _ h => h) (Or.inr ⟨by rfl, rfl⟩) (by assumption) ?_
        (try simp only [Act.put, List.getElem_toArray, List.getElem_cons_zero, List.getElem_cons_succ, List.setIfInBounds_toArray, List.set_cons_zero, List.set_cons_succ])
        refine wpAnyH_take (i := 20) (v := undef) rfl (by kernel_rfl) (by kernel_rfl) (by kernel_rfl) (fun _ _ _ h => h) (Or.inr ⟨by rfl, rfl⟩) (by assumption) ?_
        (try simp only [Act.put, List.getElem_toArray, List.getElem_cons_zero, List.getElem_cons_succ, List.setIfInBounds_toArray, List.set_cons_zero, List.set_cons_succ])
        refine wpAnyH_take (i := 21) (v := ?v108) rfl (by kernel_rfl) (by kernel_rfl) (by kernel_rfl) (fun _ _ _ h => h) (Or.inl ⟨by rfl, ?hy108⟩) (by assumption) ?rest108
        case hy108 => (intro w hSw; (try dsimp only at hSw); (try simp only [List.getElem_toArray, List.getElem_cons_zero, List.getElem_cons_succ]); go_simp; (try with_reducible rfl))
        (try simp only [Act.put, List.getElem_toArray, List.getElem_cons_zero, List.getElem_cons_succ, List.setIfInBounds_toArray, List.set_cons_zero, List.set_cons_succ])
        refine wpAnyH_done (by kernel_rfl) ?_ _
        refine strict_normal ?_
        have z4 := (HOUT3.out : Boxed _ _ _ _).cell
        have z5 := (HIS3.out : Boxed _ _ _ _).cell
        have f4 := (HOUT3.out : Boxed _ _ _ _).frozen
        have f5 := ((HIS3.out : Boxed _ _ _ _).other (B' := w.heap.size + 1) (by omega) (.slice none 0 0)).frozen
        have o5 := ((HIS3.out : Boxed _ _ _ _).other (B' := w.heap.size + 1) (by omega) (.slice none 0 0)).cell
        have hl4 := cell_lt z4
        have hl5 := cell_lt z5
        have hne := (show w.heap.size + 1 + 1 ≠ w.heap.size + 1 by omega)
        gi_wp2
        exact HST.out _
      have hge : ¬ (ws.length : Int) ≤ (n : Int) := by omega
      have hlt : n < ws.length := by omega
      obtain ⟨wd, hwd⟩ : ∃ wd, ws[n]? = some wd := ⟨_, List.getElem?_eq_getElem hlt⟩
      obtain ⟨wab, wao, rfl, hwl, _, hwc⟩ := row_word' HI.out.wrow hwd
      obtain ⟨word, hword⟩ : ∃ word : ByteArray, word = ⟨wd.toArray⟩ := ⟨_, rfl⟩
      rw [← hword] at hwc
      have hwdd : word.data.toList = wd := by rw [hword]
      have hwc3 : w3.cell? ⟨wab, wao + n, none⟩ = some (.string word) := (HB3.out.cell (p := ⟨wab, wao + n, none⟩) hwl).trans hwc
      have hwl3 := cell_lt hwc3
      have hwcl3 := cell_lt hc3
      have HSR : Hid (w3.drew.cell? ⟨wb, 0, none⟩ = some (.slice (some ⟨wab, wao, none⟩) ws.length c) ∧ w3.drew.cell? ⟨W.heap.size, 0, none⟩ = some (.string w0) ∧ w3.drew.cell? ⟨wab, wao + n, none⟩ = some (.string word)) := hid ⟨(HWANT3.out : Boxed _ _ _ _).cell, hc3, hwc3⟩
      have hlw : (n : Int) < (ws.length : Int) := by omega
      by_cases hv : v0 = wd
      rotate_left
      · have hst := HSTOP.out (fun L' => tab_not_word HPW.out HXB.out HXY.out HCUT.out hwd hv)
        have HST := hid hst
        have hww : (w0.toList == word.toList) = false := by
          rw [Lib.toList_data, Lib.toList_data, HW0.out, hwdd]
          exact beq_eq_false_iff_ne.2 hv
        clear hst hwd hword hwc hwdd hwc3 hc3
        gi_wp2
        refine wpIn_round_held (S := (fun w' => w'.cell? ⟨wb, 0, none⟩ = some (.slice (some ⟨wab, wao, none⟩) ws.length c) ∧ w'.cell? ⟨W.heap.size, 0, none⟩ = some (.string w0) ∧ w'.cell? ⟨wab, wao + n, none⟩ = some (.string word))) (by kernel_rfl) (by kernel_rfl) ?_ (fun hHeld => ?_)
        · exact HSR.out
        refine wpAnyH_take (i := 0) (v := ?v109) rfl (by kernel_rfl) (by kernel_rfl) (by kernel_rfl) (fun _ _ _ h => h) (Or.inl ⟨by rfl, ?hy109⟩) (by assumption) ?rest109
        case hy109 => (intro w hSw; (try dsimp only at hSw); (try simp only [List.getElem_toArray, List.getElem_cons_zero]); go_simp; (try with_reducible rfl))
        (try simp only [Act.put, List.getElem_toArray, List.getElem_cons_zero, List.setIfInBounds_toArray, List.set_cons_zero, List.set_cons_succ])
        refine wpAnyH_take (i := 1) (v := ?v110) rfl (by kernel_rfl) (by kernel_rfl) (by kernel_rfl) (fun _ _ _ h => h) (Or.inl ⟨by rfl, ?hy110⟩) (by assumption) ?rest110
        case hy110 => (intro w hSw; (try dsimp only at hSw); (try simp only [List.getElem_toArray, List.getElem_cons_zero, List.getElem_cons_succ]); go_simp; (try with_reducible rfl))
        (try simp only [Act.put, List.getElem_toArray, List.getElem_cons_zero, List.getElem_cons_succ, List.setIfInBounds_toArray, List.set_cons_zero, List.set_cons_succ])
        refine wpAnyH_take (i := 2) (v := ?v111) rfl (by kernel_rfl) (by kernel_rfl) (by kernel_rfl) (fun _ _ _ h => h) (Or.inl ⟨by rfl, ?hy111⟩) (by assumption) ?rest111
        case hy111 => (intro w hSw; (try dsimp only at hSw); (try simp only [List.getElem_toArray, List.getElem_cons_zero, List.getElem_cons_succ]); go_simp; (try with_reducible rfl))
        (try simp only [Act.put, List.getElem_toArray, List.getElem_cons_zero, List.getElem_cons_succ, List.setIfInBounds_toArray, List.set_cons_zero, List.set_cons_succ])
        refine wpAnyH_take (i := 3) (v := ?v112) rfl (by kernel_rfl) (by kernel_rfl) (by kernel_rfl) (fun _ _ _ h => h) (Or.inl ⟨by rfl, ?hy112⟩) (by assumption) ?rest112
        case hy112 => (intro w hSw; (try dsimp only at hSw); (try simp only [List.getElem_toArray, List.getElem_cons_zero, List.getElem_cons_succ]); go_simp; (try with_reducible rfl))
        (try simp only [Act.put, List.getElem_toArray, List.getElem_cons_zero, List.getElem_cons_succ, List.setIfInBounds_toArray, List.set_cons_zero, List.set_cons_succ])
        refine wpAnyH_take (i := 4) (v := ?v113) rfl (by kernel_rfl) (by kernel_rfl) (by kernel_rfl) (fun _ _ _ h => h) (Or.inl ⟨by rfl, ?hy113⟩) (by assumption) ?rest113
        case hy113 => (intro w hSw; (try dsimp only at hSw); (try simp only [List.getElem_toArray, List.getElem_cons_zero, List.getElem_cons_succ]); go_simp; (try with_reducible rfl))
        (try simp only [Act.put, List.getElem_toArray, List.getElem_cons_zero, List.getElem_cons_succ, List.setIfInBounds_toArray, List.set_cons_zero, List.set_cons_succ])
        refine wpAnyH_take (i := 5) (v := ?v114) rfl (by kernel_rfl) (by kernel_rfl) (by kernel_rfl) (fun _ _ _ h => h) (Or.inl ⟨by rfl, ?hy114⟩) (by assumption) ?rest114
        case hy114 => (intro w hSw; (try dsimp only at hSw); (try simp only [List.getElem_toArray, List.getElem_cons_zero, List.getElem_cons_succ]); go_simp; (try with_reducible rfl))
        (try simp only [Act.put, List.getElem_toArray, List.getElem_cons_zero, List.getElem_cons_succ, List.setIfInBounds_toArray, List.set_cons_zero, List.set_cons_succ])
        refine wpAnyH_take (i := 6) (v := ?v115) rfl (by kernel_rfl) (by kernel_rfl) (by kernel_rfl) (fun _ _ _ h => h) (Or.inl ⟨by rfl, ?hy115⟩) (by assumption) ?rest115
        case hy115 => (intro w hSw; (try dsimp only at hSw); (try simp only [List.getElem_toArray, List.getElem_cons_zero, List.getElem_cons_succ]); go_simp; (try with_reducible rfl))
        (try simp only [Act.put, List.getElem_toArray, List.getElem_cons_zero, List.getElem_cons_succ, List.setIfInBounds_toArray, List.set_cons_zero, List.set_cons_succ])
        refine wpAnyH_take (i := 7) (v := ?v116) rfl (by kernel_rfl) (by kernel_rfl) (by kernel_rfl) (fun _ _ _ h => h) (Or.inl ⟨by rfl, ?hy116⟩) (by assumption) ?rest116
        case hy116 => (intro w hSw; (try dsimp only at hSw); (try simp only [List.getElem_toArray, List.getElem_cons_zero, List.getElem_cons_succ]); go_simp; (try with_reducible rfl))
        (try simp only [Act.put, List.getElem_toArray, List.getElem_cons_zero, List.getElem_cons_succ, List.setIfInBounds_toArray, List.set_cons_zero, List.set_cons_succ])
        refine wpAnyH_take (i := 8) (v := ?v117) rfl (by kernel_rfl) (by kernel_rfl) (by kernel_rfl) (fun _ _ _ h => h) (Or.inl ⟨by rfl, ?hy117⟩) (by assumption) ?rest117
        case hy117 => (intro w hSw; (try dsimp only at hSw); (try simp only [List.getElem_toArray, List.getElem_cons_zero, List.getElem_cons_succ]); go_simp; (try with_reducible rfl))
        (try simp only [Act.put, List.getElem_toArray, List.getElem_cons_zero, List.getElem_cons_succ, List.setIfInBounds_toArray, List.set_cons_zero, List.set_cons_succ])
        refine wpAnyH_take (i := 9) (v := ?v118) rfl (by kernel_rfl) (by kernel_rfl) (by kernel_rfl) (fun _ _ _ h => h) (Or.inl ⟨by rfl, ?hy118⟩) (by assumption) ?rest118
        case hy118 => (intro w hSw; (try dsimp only at hSw); (try simp only [List.getElem_toArray, List.getElem_cons_zero, List.getElem_cons_succ]); go_simp; (try with_reducible rfl))
        (try simp only [Act.put, List.getElem_toArray, List.getElem_cons_zero, List.getElem_cons_succ, List.setIfInBounds_toArray, List.set_cons_zero, List.set_cons_succ])
        refine wpAnyH_take (i := 10) (v := ?v119) rfl (by kernel_rfl) (by kernel_rfl) (by kernel_rfl) (fun _ _ _ h => h) (Or.inl ⟨by rfl, ?hy119⟩) (by assumption) ?rest119
        case hy119 => (intro w hSw; (try dsimp only at hSw); (try simp only [List.getElem_toArray, List.getElem_cons_zero, List.getElem_cons_succ]); go_simp; (try with_reducible rfl))
        (try simp only [Act.put, List.getElem_toArray, List.getElem_cons_zero, List.getElem_cons_succ, List.setIfInBounds_toArray, List.set_cons_zero, List.set_cons_succ])
        refine wpAnyH_take (i := 11) (v := ?v120) rfl (by kernel_rfl) (by kernel_rfl) (by kernel_rfl) (fun _ _ _ h => h) (Or.inl ⟨by rfl, ?hy120⟩) (by assumption) ?rest120
        case hy120 => (intro w hSw; (try dsimp only at hSw); (try simp only [List.getElem_toArray, List.getElem_cons_zero, List.getElem_cons_succ]); go_simp; (try with_reducible rfl))
        (try simp only [Act.put, List.getElem_toArray, List.getElem_cons_zero, List.getElem_cons_succ, List.setIfInBounds_toArray, List.set_cons_zero, List.set_cons_succ])
        refine wpAnyH_take (i := 12) (v := ?v121) rfl (by kernel_rfl) (by kernel_rfl) (by kernel_rfl) (fun _ _ _ h => h) (Or.inl ⟨by rfl, ?hy121⟩) (by assumption) ?rest121
        case hy121 => (intro w hSw; (try dsimp only at hSw); (try simp only [List.getElem_toArray, List.getElem_cons_zero, List.getElem_cons_succ]); go_simp; (try with_reducible rfl))
        (try simp only [Act.put, List.getElem_toArray, List.getElem_cons_zero, List.getElem_cons_succ, List.setIfInBounds_toArray, List.set_cons_zero, List.set_cons_succ])
        refine wpAnyH_take (i := 13) (v := ?v122) rfl (by kernel_rfl) (by kernel_rfl) (by kernel_rfl) (fun _ _ _ h => h) (Or.inl ⟨by rfl, ?hy122⟩) (by assumption) ?rest122
        case hy122 => (intro w hSw; (try dsimp only at hSw); (try simp only [List.getElem_toArray, List.getElem_cons_zero, List.getElem_cons_succ]); go_simp; (try with_reducible rfl))
        (try simp only [Act.put, List.getElem_toArray, List.getElem_cons_zero, List.getElem_cons_succ, List.setIfInBounds_toArray, List.set_cons_zero, List.set_cons_succ])
        refine wpAnyH_take (i := 14) (v := ?v123) rfl (by kernel_rfl) (by kernel_rfl) (by kernel_rfl) (fun _ _ _ h => h) (Or.inl ⟨by rfl, ?hy123⟩) (by assumption) ?rest123
        case hy123 => (intro w hSw; (try dsimp only at hSw); (try simp only [List.getElem_toArray, List.getElem_cons_zero, List.getElem_cons_succ]); go_simp; (try with_reducible rfl))
        (try simp only [Act.put, List.getElem_toArray, List.getElem_cons_zero, List.getElem_cons_succ, List.setIfInBounds_toArray, List.set_cons_zero, List.set_cons_succ])
        refine wpAnyH_take (i := 15) (v := ?v124) rfl (by kernel_rfl) (by kernel_rfl) (by kernel_rfl) (fun _ _ _ h => h) (Or.inl ⟨by rfl, ?hy124⟩) (by assumption) ?rest124
        case hy124 => (intro w hSw; (try dsimp only at hSw); (try simp only [List.getElem_toArray, List.getElem_cons_zero, List.getElem_cons_succ]); go_simp; (try with_reducible rfl))
        (try simp only [Act.put, List.getElem_toArray, List.getElem_cons_zero, List.getElem_cons_succ, List.setIfInBounds_toArray, List.set_cons_zero, List.set_cons_succ])
        refine wpAnyH_take (i := 16) (v := ?v125) rfl (by kernel_rfl) (by kernel_rfl) (by kernel_rfl) (fun _ _ _ h => h) (Or.inl ⟨by rfl, ?hy125⟩) (by assumption) ?rest125
        case hy125 => (intro w hSw; (try dsimp only at hSw); (try simp only [List.getElem_toArray, List.getElem_cons_zero, List.getElem_cons_succ]); go_simp; (try with_reducible rfl))
        (try simp only [Act.put, List.getElem_toArray, List.getElem_cons_zero, List.getElem_cons_succ, List.setIfInBounds_toArray, List.set_cons_zero, List.set_cons_succ])
        refine wpAnyH_take (i := 17) (v := ?v126) rfl (by kernel_rfl) (by kernel_rfl) (by kernel_rfl) (fun _ _ _ h => h) (Or.inl ⟨by rfl, ?hy126⟩) (by assumption) ?rest126
        case hy126 => (intro w hSw; (try dsimp only at hSw); (try simp only [List.getElem_toArray, List.getElem_cons_zero, List.getElem_cons_succ]); go_simp; (try with_reducible rfl))
        (try simp only [Act.put, List.getElem_toArray, List.getElem_cons_zero, List.getElem_cons_succ, List.setIfInBounds_toArray, List.set_cons_zero, List.set_cons_succ])
        refine wpAnyH_take (i := 18) (v := ?v127) rfl (by kernel_rfl) (by kernel_rfl) (by kernel_rfl) (fun _ _ _ h => h) (Or.inl ⟨by rfl, ?hy127⟩) (by assumption) ?rest127
        case hy127 => (intro w hSw; (try dsimp only at hSw); (try simp only [List.getElem_toArray, List.getElem_cons_zero, List.getElem_cons_succ]); go_simp; (try with_reducible rfl))
        (try simp only [Act.put, List.getElem_toArray, List.getElem_cons_zero, List.getElem_cons_succ, List.setIfInBounds_toArray, List.set_cons_zero, List.set_cons_succ])
        refine wpAnyH_take (i := 19) (v := ?v128) rfl (by kernel_rfl) (by kernel_rfl) (by kernel_rfl) (fun _ _ _ h => h) (Or.inl ⟨by rfl, ?hy128⟩) (by assumption) ?rest128
        case hy128 => (intro w hSw; (try dsimp only at hSw); (try simp only [List.getElem_toArray, List.getElem_cons_zero, List.getElem_cons_succ]); go_simp; (try with_reducible rfl))
        (try simp only [Act.put, List.getElem_toArray, List.getElem_cons_zero, List.getElem_cons_succ, List.setIfInBounds_toArray, List.set_cons_zero, List.set_cons_succ])
        refine wpAnyH_take (i := 20) (v := ?v129) rfl (by kernel_rfl) (by kernel_rfl) (by kernel_rfl) (fun _ _ _ h => h) (Or.inl ⟨by rfl, ?hy129⟩) (by assumption) ?rest129
        case hy129 => (intro w hSw; (try dsimp only at hSw); (try simp only [List.getElem_toArray, List.getElem_cons_zero, List.getElem_cons_succ]); go_simp; (try with_reducible rfl))
        (try simp only [Act.put, List.getElem_toArray, List.getElem_cons_zero, List.getElem_cons_succ, List.setIfInBounds_toArray, List.set_cons_zero, List.set_cons_succ])
        refine wpAnyH_take (i := 21) (v := ?v130) rfl (by kernel_rfl) (by kernel_rfl) (by kernel_rfl) (fun _ _ _ h => h) (Or.inl ⟨by rfl, ?hy130⟩) (by assumption) ?rest130
        case hy130 => (intro w hSw; (try dsimp only at hSw); (try simp only [List.getElem_toArray, List.getElem_cons_zero, List.getElem_cons_succ]); go_simp; (try with_reducible rfl))
        (try simp only [Act.put, List.getElem_toArray, List.getElem_cons_zero, List.getElem_cons_succ, List.setIfInBounds_toArray, List.set_cons_zero, List.set_cons_succ])
        refine wpAnyH_done (by kernel_rfl) ?_ _
        refine strict_normal ?_
        have z4 := (HOUT3.out : Boxed _ _ _ _).cell
        have z5 := (HIS3.out : Boxed _ _ _ _).cell
        have f4 := (HOUT3.out : Boxed _ _ _ _).frozen
        have f5 := ((HIS3.out : Boxed _ _ _ _).other (B' := w.heap.size + 1) (by omega) (.slice none 0 0)).frozen
        have o5 := ((HIS3.out : Boxed _ _ _ _).other (B' := w.heap.size + 1) (by omega) (.slice none 0 0)).cell
        have hl4 := cell_lt z4
        have hl5 := cell_lt z5
        have hne := (show w.heap.size + 1 + 1 ≠ w.heap.size + 1 by omega)
        gi_wp2
        exact HST.out _
      obtain ⟨hl1, hl2⟩ := line_nums HCUT.out HNS.out
      have hnext := tab_next HMAP.out (by have := HNL.out; omega) (by rw [← HNL.out]; exact hwd) HXY.out (by rw [← hv]; exact hl1)
      have HNEXT := hid hnext
      have HSMALL := hid hl2
      have hww : (w0.toList == word.toList) = true := by
        rw [Lib.toList_data, Lib.toList_data, HW0.out, hwdd, hv]
        exact beq_self_eq_true _
      clear hnext hl1 hl2 hwd hword hwc hwdd hwc3 hc3 hv
      gi_wp2
      refine wpIn_round_held (S := (fun w' => w'.cell? ⟨wb, 0, none⟩ = some (.slice (some ⟨wab, wao, none⟩) ws.length c) ∧ w'.cell? ⟨W.heap.size, 0, none⟩ = some (.string w0) ∧ w'.cell? ⟨wab, wao + n, none⟩ = some (.string word))) (by kernel_rfl) (by kernel_rfl) ?_ (fun hHeld => ?_)
      · exact HSR.out
      refine wpAnyH_take (i := 0) (v := ?v131) rfl (by kernel_rfl) (by kernel_rfl) (by kernel_rfl) (fun _ _ _ h => h) (Or.inl ⟨by rfl, ?hy131⟩) (by assumption) ?rest131
      case hy131 => (intro w hSw; (try dsimp only at hSw); (try simp only [List.getElem_toArray, List.getElem_cons_zero]); go_simp; (try with_reducible rfl))
      (try simp only [Act.put, List.getElem_toArray, List.getElem_cons_zero, List.setIfInBounds_toArray, List.set_cons_zero, List.set_cons_succ])
      refine wpAnyH_take (i := 1) (v := ?v132) rfl (by kernel_rfl) (by kernel_rfl) (by kernel_rfl) (fun _ _ _ h => h) (Or.inl ⟨by rfl, ?hy132⟩) (by assumption) ?rest132
      case hy132 => (intro w hSw; (try dsimp only at hSw); (try simp only [List.getElem_toArray, List.getElem_cons_zero, List.getElem_cons_succ]); go_simp; (try with_reducible rfl))
      (try simp only [Act.put, List.getElem_toArray, List.getElem_cons_zero, List.getElem_cons_succ, List.setIfInBounds_toArray, List.set_cons_zero, List.set_cons_succ])
      refine wpAnyH_take (i := 2) (v := ?v133) rfl (by kernel_rfl) (by kernel_rfl) (by kernel_rfl) (fun _ _ _ h => h) (Or.inl ⟨by rfl, ?hy133⟩) (by assumption) ?rest133
      case hy133 => (intro w hSw; (try dsimp only at hSw); (try simp only [List.getElem_toArray, List.getElem_cons_zero, List.getElem_cons_succ]); go_simp; (try with_reducible rfl))
      (try simp only [Act.put, List.getElem_toArray, List.getElem_cons_zero, List.getElem_cons_succ, List.setIfInBounds_toArray, List.set_cons_zero, List.set_cons_succ])
      refine wpAnyH_take (i := 3) (v := ?v134) rfl (by kernel_rfl) (by kernel_rfl) (by kernel_rfl) (fun _ _ _ h => h) (Or.inl ⟨by rfl, ?hy134⟩) (by assumption) ?rest134
      case hy134 => (intro w hSw; (try dsimp only at hSw); (try simp only [List.getElem_toArray, List.getElem_cons_zero, List.getElem_cons_succ]); go_simp; (try with_reducible rfl))
      (try simp only [Act.put, List.getElem_toArray, List.getElem_cons_zero, List.getElem_cons_succ, List.setIfInBounds_toArray, List.set_cons_zero, List.set_cons_succ])
      refine wpAnyH_take (i := 4) (v := ?v135) rfl (by kernel_rfl) (by kernel_rfl) (by kernel_rfl) (fun _ _ _ h => h) (Or.inl ⟨by rfl, ?hy135⟩) (by assumption) ?rest135
      case hy135 => (intro w hSw; (try dsimp only at hSw); (try simp only [List.getElem_toArray, List.getElem_cons_zero, List.getElem_cons_succ]); go_simp; (try with_reducible rfl))
      (try simp only [Act.put, List.getElem_toArray, List.getElem_cons_zero, List.getElem_cons_succ, List.setIfInBounds_toArray, List.set_cons_zero, List.set_cons_succ])
      refine wpAnyH_take (i := 5) (v := ?v136) rfl (by kernel_rfl) (by kernel_rfl) (by kernel_rfl) (fun _ _ _ h => h) (Or.inl ⟨by rfl, ?hy136⟩) (by assumption) ?rest136
      case hy136 => (intro w hSw; (try dsimp only at hSw); (try simp only [List.getElem_toArray, List.getElem_cons_zero, List.getElem_cons_succ]); go_simp; (try with_reducible rfl))
      (try simp only [Act.put, List.getElem_toArray, List.getElem_cons_zero, List.getElem_cons_succ, List.setIfInBounds_toArray, List.set_cons_zero, List.set_cons_succ])
      refine wpAnyH_take (i := 6) (v := ?v137) rfl (by kernel_rfl) (by kernel_rfl) (by kernel_rfl) (fun _ _ _ h => h) (Or.inl ⟨by rfl, ?hy137⟩) (by assumption) ?rest137
      case hy137 => (intro w hSw; (try dsimp only at hSw); (try simp only [List.getElem_toArray, List.getElem_cons_zero, List.getElem_cons_succ]); go_simp; (try with_reducible rfl))
      (try simp only [Act.put, List.getElem_toArray, List.getElem_cons_zero, List.getElem_cons_succ, List.setIfInBounds_toArray, List.set_cons_zero, List.set_cons_succ])
      refine wpAnyH_take (i := 7) (v := ?v138) rfl (by kernel_rfl) (by kernel_rfl) (by kernel_rfl) (fun _ _ _ h => h) (Or.inl ⟨by rfl, ?hy138⟩) (by assumption) ?rest138
      case hy138 => (intro w hSw; (try dsimp only at hSw); (try simp only [List.getElem_toArray, List.getElem_cons_zero, List.getElem_cons_succ]); go_simp; (try with_reducible rfl))
      (try simp only [Act.put, List.getElem_toArray, List.getElem_cons_zero, List.getElem_cons_succ, List.setIfInBounds_toArray, List.set_cons_zero, List.set_cons_succ])
      refine wpAnyH_take (i := 8) (v := ?v139) rfl (by kernel_rfl) (by kernel_rfl) (by kernel_rfl) (fun _ _ _ h => h) (Or.inl ⟨by rfl, ?hy139⟩) (by assumption) ?rest139
      case hy139 => (intro w hSw; (try dsimp only at hSw); (try simp only [List.getElem_toArray, List.getElem_cons_zero, List.getElem_cons_succ]); go_simp; (try with_reducible rfl))
      (try simp only [Act.put, List.getElem_toArray, List.getElem_cons_zero, List.getElem_cons_succ, List.setIfInBounds_toArray, List.set_cons_zero, List.set_cons_succ])
      refine wpAnyH_take (i := 9) (v := ?v140) rfl (by kernel_rfl) (by kernel_rfl) (by kernel_rfl) (fun _ _ _ h => h) (Or.inl ⟨by rfl, ?hy140⟩) (by assumption) ?rest140
      case hy140 => (intro w hSw; (try dsimp only at hSw); (try simp only [List.getElem_toArray, List.getElem_cons_zero, List.getElem_cons_succ]); go_simp; (try with_reducible rfl))
      (try simp only [Act.put, List.getElem_toArray, List.getElem_cons_zero, List.getElem_cons_succ, List.setIfInBounds_toArray, List.set_cons_zero, List.set_cons_succ])
      refine wpAnyH_take (i := 10) (v := ?v141) rfl (by kernel_rfl) (by kernel_rfl) (by kernel_rfl) (fun _ _ _ h => h) (Or.inl ⟨by rfl, ?hy141⟩) (by assumption) ?rest141
      case hy141 => (intro w hSw; (try dsimp only at hSw); (try simp only [List.getElem_toArray, List.getElem_cons_zero, List.getElem_cons_succ]); go_simp; (try with_reducible rfl))
      (try simp only [Act.put, List.getElem_toArray, List.getElem_cons_zero, List.getElem_cons_succ, List.setIfInBounds_toArray, List.set_cons_zero, List.set_cons_succ])
      refine wpAnyH_take (i := 11) (v := ?v142) rfl (by kernel_rfl) (by kernel_rfl) (by kernel_rfl) (fun _ _ _ h => h) (Or.inl ⟨by rfl, ?hy142⟩) (by assumption) ?rest142
      case hy142 => (intro w hSw; (try dsimp only at hSw); (try simp only [List.getElem_toArray, List.getElem_cons_zero, List.getElem_cons_succ]); go_simp; (try with_reducible rfl))
      (try simp only [Act.put, List.getElem_toArray, List.getElem_cons_zero, List.getElem_cons_succ, List.setIfInBounds_toArray, List.set_cons_zero, List.set_cons_succ])
      refine wpAnyH_take (i := 12) (v := ?v143) rfl (by kernel_rfl) (by kernel_rfl) (by kernel_rfl) (fun _ _ _ h => h) (Or.inl ⟨by rfl, ?hy143⟩) (by assumption) ?rest143
      case hy143 => (intro w hSw; (try dsimp only at hSw); (try simp only [List.getElem_toArray, List.getElem_cons_zero, List.getElem_cons_succ]); go_simp; (try with_reducible rfl))
      (try simp only [Act.put, List.getElem_toArray, List.getElem_cons_zero, List.getElem_cons_succ, List.setIfInBounds_toArray, List.set_cons_zero, List.set_cons_succ])
      refine wpAnyH_take (i := 13) (v := ?v144) rfl (by kernel_rfl) (by kernel_rfl) (by kernel_rfl) (fun _ _ _ h => h) (Or.inl ⟨by rfl, ?hy144⟩) (by assumption) ?rest144
      case hy144 => (intro w hSw; (try dsimp only at hSw); (try simp only [List.getElem_toArray, List.getElem_cons_zero, List.getElem_cons_succ]); go_simp; (try with_reducible rfl))
      (try simp only [Act.put, List.getElem_toArray, List.getElem_cons_zero, List.getElem_cons_succ, List.setIfInBounds_toArray, List.set_cons_zero, List.set_cons_succ])
      refine wpAnyH_take (i := 14) (v := ?v145) rfl (by kernel_rfl) (by kernel_rfl) (by kernel_rfl) (fun _ _ _ h => h) (Or.inl ⟨by rfl, ?hy145⟩) (by assumption) ?rest145
      case hy145 => (intro w hSw; (try dsimp only at hSw); (try simp only [List.getElem_toArray, List.getElem_cons_zero, List.getElem_cons_succ]); go_simp; (try with_reducible rfl))
      (try simp only [Act.put, List.getElem_toArray, List.getElem_cons_zero, List.getElem_cons_succ, List.setIfInBounds_toArray, List.set_cons_zero, List.set_cons_succ])
      refine wpAnyH_take (i := 15) (v := ?v146) rfl (by kernel_rfl) (by kernel_rfl) (by kernel_rfl) (fun _ _ _ h => h) (Or.inl ⟨by rfl, ?hy146⟩) (by assumption) ?rest146
      case hy146 => (intro w hSw; (try dsimp only at hSw); (try simp only [List.getElem_toArray, List.getElem_cons_zero, List.getElem_cons_succ]); go_simp; (try with_reducible rfl))
      (try simp only [Act.put, List.getElem_toArray, List.getElem_cons_zero, List.getElem_cons_succ, List.setIfInBounds_toArray, List.set_cons_zero, List.set_cons_succ])
      refine wpAnyH_take (i := 16) (v := ?v147) rfl (by kernel_rfl) (by kernel_rfl) (by kernel_rfl) (fun _ _ _ h => h) (Or.inl ⟨by rfl, ?hy147⟩) (by assumption) ?rest147
      case hy147 => (intro w hSw; (try dsimp only at hSw); (try simp only [List.getElem_toArray, List.getElem_cons_zero, List.getElem_cons_succ]); go_simp; (try with_reducible rfl))
      (try simp only [Act.put, List.getElem_toArray, List.getElem_cons_zero, List.getElem_cons_succ, List.setIfInBounds_toArray, List.set_cons_zero, List.set_cons_succ])
      refine wpAnyH_take (i := 17) (v := ?v148) rfl (by kernel_rfl) (by kernel_rfl) (by kernel_rfl) (fun _ _ _ h => h) (Or.inl ⟨by rfl, ?hy148⟩) (by assumption) ?rest148
      case hy148 => (intro w hSw; (try dsimp only at hSw); (try simp only [List.getElem_toArray, List.getElem_cons_zero, List.getElem_cons_succ]); go_simp; (try with_reducible rfl))
      (try simp only [Act.put, List.getElem_toArray, List.getElem_cons_zero, List.getElem_cons_succ, List.setIfInBounds_toArray, List.set_cons_zero, List.set_cons_succ])
      refine wpAnyH_take (i := 18) (v := ?v149) rfl (by kernel_rfl) (by kernel_rfl) (by kernel_rfl) (fun _ _ _ h => h) (Or.inl ⟨by rfl, ?hy149⟩) (by assumption) ?rest149
      case hy149 => (intro w hSw; (try dsimp only at hSw); (try simp only [List.getElem_toArray, List.getElem_cons_zero, List.getElem_cons_succ]); go_simp; (try with_reducible rfl))
      (try simp only [Act.put, List.getElem_toArray, List.getElem_cons_zero, List.getElem_cons_succ, List.setIfInBounds_toArray, List.set_cons_zero, List.set_cons_succ])
      refine wpAnyH_take (i := 19) (v := ?v150) rfl (by kernel_rfl) (by kernel_rfl) (by kernel_rfl) (fun _ _ _ h => h) (Or.inl ⟨by rfl, ?hy150⟩) (by assumption) ?rest150
      case hy150 => (intro w hSw; (try dsimp only at hSw); (try simp only [List.getElem_toArray, List.getElem_cons_zero, List.getElem_cons_succ]); go_simp; (try with_reducible rfl))
      (try simp only [Act.put, List.getElem_toArray, List.getElem_cons_zero, List.getElem_cons_succ, List.setIfInBounds_toArray, List.set_cons_zero, List.set_cons_succ])
      refine wpAnyH_take (i := 20) (v := ?v151) rfl (by kernel_rfl) (by kernel_rfl) (by kernel_rfl) (fun _ _ _ h => h) (Or.inl ⟨by rfl, ?hy151⟩) (by assumption) ?rest151
      case hy151 => (intro w hSw; (try dsimp only at hSw); (try simp only [List.getElem_toArray, List.getElem_cons_zero, List.getElem_cons_succ]); go_simp; (try with_reducible rfl))
      (try simp only [Act.put, List.getElem_toArray, List.getElem_cons_zero, List.getElem_cons_succ, List.setIfInBounds_toArray, List.set_cons_zero, List.set_cons_succ])
      refine wpAnyH_take (i := 21) (v := ?v152) rfl (by kernel_rfl) (by kernel_rfl) (by kernel_rfl) (fun _ _ _ h => h) (Or.inl ⟨by rfl, ?hy152⟩) (by assumption) ?rest152
      case hy152 => (intro w hSw; (try dsimp only at hSw); (try simp only [List.getElem_toArray, List.getElem_cons_zero, List.getElem_cons_succ]); go_simp; (try with_reducible rfl))
      (try simp only [Act.put, List.getElem_toArray, List.getElem_cons_zero, List.getElem_cons_succ, List.setIfInBounds_toArray, List.set_cons_zero, List.set_cons_succ])
      refine wpAnyH_done (by kernel_rfl) ?_ _
      refine strict_normal ?_
      have hk3 : Keep NoF w3 w3.drew := (Keep.refl _ _).drew
      have q5 : ∀ obj, (w3.drew.alloc obj).cell? ⟨wb + 1, 0, none⟩ = some (.slice B n d) := fun obj => (Boxed.alloc (W := w3.drew) HGOT3.out obj).cell
      have hlb1 : wb + 1 < w3.heap.size := by omega
      gi_wp2_with (gi_at_builtin; refine wpListIn_append_row rfl _ _ 86 rfl 64 i0 (.slice none 0 0) 1 24 Tryz.underlying86 hi0 hz0 hz1 hz2 rfl (by decide) B n d (rs.flatMap Il.cells) rfl ?c0_2 (some ⟨w3.heap.size, 0, none⟩) 1 1 [.slice B7 k7 d7] rfl ?c1_2 ?c2_2 ?c3_2 ?c4_2 ?_)
      case c0_2 => exact Row.alloc (w := w3.drew) HTAB3.out.row _
      case c1_2 => exact one_sl w3.drew _ _
      case c2_2 => intro u hu; simp at hu; subst hu; rfl
      case c3_2 => unfold maxLen; omega
      case c4_2 => omega
      intro A5 c5 w5 hr5 hk5 hi5
      have HR5 := hid hr5
      have HK5 := hid hk5
      have HI5 := hid hi5
      have hsza := sz_alloc w3 (.cells #[.slice B7 k7 d7] 64)
      have far : ∀ k, k < wb + 3 → w5.heap[k]? = w3.heap[k]? := fun k hk =>
        (hk5.block k (show k < (w3.alloc (.cells #[.slice B7 k7 d7] 64)).heap.size by omega) (fun hi => by have := HFR.out k hi; omega)).trans (blk_alloc (show k < w3.heap.size by omega) _)
      have HFAR := hid far
      have got5 : Boxed w5 (wb + 1) 86 (.slice B n d) := (far _ (by omega)).trans HGOT3.out
      have HGOT5 := hid got5
      have q6 := got5.cell
      have f6 := got5.frozen
      have hl6 := cell_lt q6
      have HS5 := hid hk5.size
      clear hr5 hk5 hi5 far got5 q5
      gi_wp2
      have hwb3 : Below w.heap.size w (w3.alloc (.cells #[.slice B7 k7 d7] 64)).drew := (HBW3.out.alloc HBW3.out.size _).drew
      have hb5 : Below w.heap.size w w5 := hwb3.trans (Keep.below HK5.out (by have := hwb3.size; exact this) fun i hi => by have := HFR.out i hi; omega)
      have hsz5 : w3.heap.size + 1 ≤ w5.heap.size := by
        have h : (w3.alloc (.cells #[.slice B7 k7 d7] 64)).heap.size ≤ w5.heap.size := HS5.out
        omega
      have hW2 := HSZ2.out
      have hA5 : ∀ i, InA A5 i → wb + 3 ≤ i := fun i hi => by
        rcases HI5.out i hi with h | h
        · exact HFR.out i h
        · omega
      have hB7 : ∀ i, InA B7 i → wb + 3 ≤ i := fun i hi => by have := HFR7.out i hi; omega
      have hrow' : ∀ {A' : Option Addr} {n' c' : Nat} {xs : List Value}, Row w3 3 1 A' n' c' xs → (∀ i, InA A' i → wb + 3 ≤ i) → Row (w5.setCell ⟨wb + 1, 0, none⟩ (.slice A5 (n + 1) c5)) 3 1 A' n' c' xs := fun h1 h2 =>
        Row.setCell ((row_drew (Row.alloc (w := w3) h1 _)).through HK5.out fun j hj hg => h1.apart2 HTAB3.out.row (by decide) j hj hg) (fun hi => by have h' : wb + 3 ≤ wb + 1 := h2 _ hi; omega) _
      refine ⟨((((keeps_below HB3.out).trans (keeps_below (W := w3) ((Below.refl w3.heap.size w3).alloc (Nat.le_refl _) _).drew)).trans (keeps_row HK5.out fun b hb => (Row.alloc (w := w3) HTAB3.out.row _).cellsAt hb))).trans (keeps_set _ _), ?_, ?_⟩
      · rw [blk_far (show wb + 1 + 1 ≠ wb + 1 by omega), HFAR.out _ (by omega)]; exact HT3.out
      · refine ⟨Boxed.other ((HFAR.out _ (by omega)).trans HOUT3.out) (by omega) _, Boxed.other ((HFAR.out _ (by omega)).trans HIS3.out) (by omega) _, Boxed.other ((HFAR.out _ (by omega)).trans HWANT3.out) (by omega) _, ?_, HI.out.wlow, ⟨L ++ [ns], rs ++ [⟨B7, d7, ns.map Int.ofNat⟩], A5, n + 1, c5, ?_, ?_, ?_, ⟨?_, ?_, ?_, ?_⟩, HGOT5.out.set _, hA5, ?_⟩, hfar, by rw [sz_set]; omega, hb5.setCell (p := ⟨wb + 1, 0, none⟩) (by simp; omega) _⟩
        · have hwr := HI.out.wrow.new HB3.out
          refine Row.setCell ((row_drew (Row.alloc (w := w3) hwr _)).through HK5.out fun j hj hg => hwr.apart2 HTAB3.out.row (by decide) j hj hg) (fun hi => by have h' : wb + 1 < wb := HI.out.wlow _ hi; omega) _
        · intro z hz
          rcases List.mem_append.1 hz with h | h
          · exact HSM.out z h
          · rw [List.mem_singleton] at h; rw [h]; exact HSMALL.out
        · have := HNL.out; rw [List.length_append, List.length_singleton]; omega
        · rw [List.map_append, List.map_cons, List.map_nil]; exact HNEXT.out
        · rw [List.map_append, List.map_append, HTAB3.out.same]; rfl
        · rw [List.length_append, HTAB3.out.len]; rfl
        · refine Row.setCell ?_ (fun hi => by have h' : wb + 3 ≤ wb + 1 := hA5 _ hi; omega) _
          have e : (rs ++ [(⟨B7, d7, ns.map Int.ofNat⟩ : Il)]).flatMap Il.cells = rs.flatMap Il.cells ++ [.slice B7 k7 d7] := by
            rw [List.flatMap_append]
            simp [Il.cells, HK7.out]
          rw [e]; exact HR5.out
        · intro r hr
          rcases List.mem_append.1 hr with h | h
          · exact hrow' (HTAB3.out.rows r h) (HFRS.out r h)
          · rw [List.mem_singleton] at h
            subst h
            have h7 := HROW7.out
            rw [← HK7.out] at h7
            have e : (ns.map Int.ofNat).length = ns.length := List.length_map _
            simp only [e]
            exact hrow' h7 hB7
        · intro r hr i hi
          rcases List.mem_append.1 hr with h | h
          · exact HFRS.out r h i hi
          · rw [List.mem_singleton] at h
            subst h
            exact hB7 i hi
  case done =>
    rintro D W hD hr hK
    have HR2 := hid hr
    obtain ⟨L, rs, B, n, d, hsm, hll, hmap, htab, hgot, hfr, hfrs⟩ := hr.got
    have HSM := hid hsm
    have HMAP := hid hmap
    have HTAB := hid htab
    have HGOT := hid hgot
    have HFR := hid hfr
    have HFRS := hid hfrs
    have q4 := hr.out.cell
    have q5 := hr.is.cell
    have q6 := hr.want.cell
    have q7 := hgot.cell
    have f4 := hr.out.frozen
    have f5 := hr.is.frozen
    have hfar := hr.far
    have hbig := hr.big
    have o5 := (hr.is.other (B' := w.heap.size + 1) (by omega) (.slice B n d)).cell
    have o6 := (hr.want.other (B' := w.heap.size + 1) (by omega) (.slice B n d)).cell
    have o7 := (hgot.other (B' := w.heap.size + 1) (by omega) (.slice B n d)).cell
    have of5 := (hr.is.other (B' := w.heap.size + 1) (by omega) (.slice B n d)).frozen
    have hln : (linesOf t.data.toList).length = n := by
      have h1 : linesOf t.data.toList = (linesB t).map fun s => s.data.toList := by unfold linesB; rw [List.map_map]; exact (List.map_id' _).symm
      rw [h1, hmap, List.length_map, List.length_zip, ← htab.len]; omega
    have HLN := hid hln
    have HK := hid hK
    have hD1 : wb + 3 ≤ D := by rw [← hsz]; exact hD
    clear hr hsm hmap htab hgot hfr hfrs hll hK hln
    gi_wp2
    gi_region
    obtain ⟨bb, hbb⟩ : ∃ bb, bb = ((n : Int) == (ws.length : Int)) := ⟨_, rfl⟩
    rw [← hbb]
    have HBB := hid hbb
    obtain ⟨W9, hW9⟩ : ∃ W9, ((W.setCell ⟨w.heap.size + 1, 0, none⟩ (.slice B n d)).setCell ⟨w.heap.size + 1 + 1, 0, none⟩ (.bool bb)).drew = W9 := ⟨_, rfl⟩
    have h9 : Boxed W9 (w.heap.size + 1) 86 (.slice B n d) := by rw [← hW9]; exact (HR2.out.out.set _).other (by omega) _
    have h9b : Boxed W9 (w.heap.size + 1 + 1) 4 (.bool bb) := by rw [← hW9]; exact (HR2.out.is.other (by omega) _).set _
    have hK9 : W9.heap[D]? = some (.deferred (some [])) := by rw [← hW9]; exact set_keep (set_keep HK.out (by omega)) (by omega)
    have hb9 : Below w.heap.size w W9 := by rw [← hW9]; exact ((HR2.out.below.setCell (p := ⟨w.heap.size + 1, 0, none⟩) (by simp) _).setCell (p := ⟨w.heap.size + 1 + 1, 0, none⟩) (by simp; omega) _).drew
    have ht9 : TabAt W9 L rs B n d := by
      rw [← hW9]
      exact ((HTAB.out.set (b := w.heap.size + 1) (fun hi => by have := HFR.out _ hi; omega) (fun r hr hi => by have := HFRS.out r hr _ hi; omega) _).set (b := w.heap.size + 1 + 1) (fun hi => by have := HFR.out _ hi; omega) (fun r hr hi => by have := HFRS.out r hr _ hi; omega) _).drew
    rw [hW9]
    clear hW9 hbb
    gi_wp2
    refine sr_ret (D := D) h9 h9b (by omega) (by omega) hK9 rfl rfl rfl ?_
    have hbelow : Below w.heap.size w (W9.putObj D (.deferred none)) := hb9.trans (belowK_b (w := w) (Nat.le_refl _) W9 D _ _ (by omega) hK9 rfl rfl)
    by_cases hnw : n = ws.length
    · have hbt : bb = true := by rw [HBB.out, hnw]; simp
      subst hbt
      refine ⟨hbelow, .inl ⟨L, rs, B, n, d, tab_of (by rw [HTAB.out.len, hnw]) HSM.out ?_, rfl, ht9.turned (grownBy_putObj' _ D (.deferred none)) (fun r e => by cases e; exact ⟨_, hK9, rfl⟩), (fun i hi => by have := HFR.out i hi; omega), (fun r hr i hi => by have := HFRS.out r hr i hi; omega)⟩⟩
      rw [← HMAP.out]; unfold linesB; rw [List.map_map]; exact (List.map_id' _).symm
    · have hbf : bb = false := by rw [HBB.out]; exact beq_eq_false_iff_ne.2 (by omega)
      subst hbf
      exact ⟨hbelow, .inr ⟨fun L' h => hnw (by rw [← HLN.out]; exact h.count HPW.out), B, n, d, rfl⟩⟩
  case stop =>
    rintro D c pre W hD hpre hS hK
    obtain ⟨rfl, hno, hres, herr, hfar, hb⟩ := hS
    have HRES := hid hres
    have HERR := hid herr
    have HNO := hid hno
    have HB := hid hb
    clear hno hres herr hb
    dsimp only
    gi_wp2
    refine sr_ret (D := D) HRES.out HERR.out (by omega) (by omega) hK rfl rfl rfl ?_
    exact ⟨HB.out.trans (belowK_b (w := w) (Nat.le_refl _) _ D _ _ (by omega) hK rfl rfl), .inr ⟨HNO.out, _, _, _, rfl⟩⟩
end Go.Proofs.YtldllmhgofacbaaGreatDoor
