/- Several parts: each begins with what it says. -/
import Derived.Test.YtldllmhgofacbaaGreatDoorDeskUL
import Derived.Test.YtldllmhgofacbaaGreatDoorBuildUL
import Derived.BigQuiet
import Derived.Test.YtldllmhgofacbaaGreatDoorRangeUL
/- Package code: the contract of Read, for every text. Conditions: 'Desk', the table of forms with its names, which the row lists. -/
namespace Go.Proofs.YtldllmhgofacbaaGreatDoor
open Go.RowKit
set_option maxRecDepth 100000

set_option maxHeartbeats 1000000 in
theorem isForm_any (nm w0 : ByteArray) (fa fb : Bool) (tb b off n c : Nat) (hn : 1 ≤ n) (w : World) (ht : w.cell? ⟨tb, 0, none⟩ = some (.slice (some ⟨b, off, none⟩) n c)) (hw : w.cell? ⟨b, off, none⟩ = some (.string w0)) :
    Calls Tryz.prog 127 #[.agg #[.string nm, .bool fa, .bool fb], .pointer (some ⟨tb, 0, none⟩)] w fun e w' => e = .returned (.bool (nm.data.toList == w0.data.toList)) ∧ Below w.heap.size w w' := by
  have h1 := cell_lt ht
  have h2 := cell_lt hw
  have x1 : ∀ o, (w.alloc o).cell? ⟨tb, 0, none⟩ = some (.slice (some ⟨b, off, none⟩) n c) := fun o => (World.cell?_alloc_lt w o ⟨tb, 0, none⟩ h1).trans ht
  have x2 : ∀ o, (w.alloc o).cell? ⟨b, off, none⟩ = some (.string w0) := fun o => (World.cell?_alloc_lt w o ⟨b, off, none⟩ h2).trans hw
  clear ht hw
  go_enter Tryz.func127, Tryz.ntmps127
  go_wp2_with fail
  go_quiet (fail)
  go_wp2_with fail
  go_ret
  have hb0 : Below w.heap.size w (w.alloc (.cells #[.string nm, .bool fa, .bool fb] 175)) := (Below.refl _ _).alloc (Nat.le_refl _) _
  refine ⟨?_, ⟨hb0.os, hb0.tape, hb0.output, hb0.size, hb0.block⟩⟩
  rw [← Lib.toList_data, ← Lib.toList_data]; rfl

/-- Which form's name a word is. -/
def FormGot (w0 : List UInt8) (w : World) (e : Ending) (w' : World) : Prop :=
  ∃ r : Int, e = .returned (.int .i64 r) ∧ Below w.heap.size w w' ∧ ((∃ K : Nat, 1 ≤ K ∧ K ≤ 11 ∧ nameOf K = w0 ∧ r = K - 1) ∨ (r = -1 ∧ ∀ K : Nat, 1 ≤ K → K ≤ 11 → nameOf K ≠ w0))
set_option maxHeartbeats 2000000 in
theorem index_form (w0 : ByteArray) (tb b off n c : Nat) (hn : 1 ≤ n) (w : World) (hf : Forms w) (hnm : Names w) (ht : w.cell? ⟨tb, 0, none⟩ = some (.slice (some ⟨b, off, none⟩) n c)) (hw : w.cell? ⟨b, off, none⟩ = some (.string w0)) :
    Calls Tryz.prog 126 #[.slice (some ⟨0, 3, none⟩) 11 11, .func (.func 127) #[] #[.pointer (some ⟨tb, 0, none⟩)]] w (FormGot w0.data.toList w) := by
  have h1 := cell_lt ht
  have h2 := cell_lt hw
  have HF := hid hf
  have HNM := hid hnm
  have HT := hid ht
  have HW := hid hw
  clear hf hnm ht hw
  go_enter Tryz.func126, Tryz.ntmps126
  go_wp2_with fail
  go_loopw [5, 8] (fun v5 v8 wr => ∃ k : Nat, k ≤ 11 ∧ v8 = .int .i64 k ∧ (∀ j : Nat, 1 ≤ j → j ≤ k → nameOf j ≠ w0.data.toList) ∧ Below w.heap.size w wr) (fun _ v8 _ => 11 - (intOf v8).toNat)
  case atStart => exact ⟨0, by omega, rfl, fun j hj hk => absurd hj (by omega), Below.refl _ _⟩
  case round =>
    obtain ⟨k, hk, rfl, hno, hb⟩ := hrel
    have HNO := hid hno
    have HB := hid hb
    clear hno hb
    by_cases hkl : k < 11
    · obtain ⟨nm, hnm⟩ : ∃ nm : ByteArray, nm = ⟨(nameOf (k + 1)).toArray⟩ := ⟨_, rfl⟩
      have hfl := HF.out.lt
      have g0 : wr.cell? ⟨0, 3 + k * 3, none⟩ = some (.string nm) := by
        rw [hnm, show 3 + k * 3 = (k + 1) * 3 by omega]
        exact (HB.out.cell (p := ⟨0, (k + 1) * 3, none⟩) hfl).trans (HNM.out (k + 1) (by omega))
      have g1 : wr.cell? ⟨0, 3 + k * 3 + 1, none⟩ = some (.bool (formA (k + 1))) := by
        rw [show 3 + k * 3 + 1 = (k + 1) * 3 + 1 by omega]
        exact (HB.out.cell (p := ⟨0, (k + 1) * 3 + 1, none⟩) hfl).trans (HF.out.a (k + 1) (by omega))
      have g2 : wr.cell? ⟨0, 3 + k * 3 + 2, none⟩ = some (.bool (formB (k + 1))) := by
        rw [show 3 + k * 3 + 2 = (k + 1) * 3 + 2 by omega]
        exact (HB.out.cell (p := ⟨0, (k + 1) * 3 + 2, none⟩) hfl).trans (HF.out.b (k + 1) (by omega))
      have HIS := hid (isForm_any nm w0 (formA (k + 1)) (formB (k + 1)) tb b off n c hn wr ((HB.out.cell (p := ⟨tb, 0, none⟩) h1).trans HT.out) ((HB.out.cell (p := ⟨b, off, none⟩) h2).trans HW.out))
      have hnd : nm.data.toList = nameOf (k + 1) := by rw [hnm]
      rw [hnd] at HIS
      generalize formA (k + 1) = fa at g1 HIS
      generalize formB (k + 1) = fb at g2 HIS
      clear hnm hnd
      cases hm : (nameOf (k + 1) == w0.data.toList) with
      | true =>
        rw [hm] at HIS
        have HM := hid (beq_iff_eq.1 hm)
        clear hm
        go_wp2_with (go_at_call 127; refine HIS.out.mono ?_; rintro e w1 ⟨rfl, hb1⟩; have HB1 := hid hb1; clear hb1)
        go_ret
        exact ⟨k, rfl, HB.out.trans (HB1.out.mono HB.out.size), .inl ⟨k + 1, by omega, by omega, HM.out, by omega⟩⟩
      | false =>
        rw [hm] at HIS
        have HM := hid (beq_eq_false_iff_ne.1 hm)
        clear hm
        go_wp2_with (go_at_call 127; refine HIS.out.mono ?_; rintro e w1 ⟨rfl, hb1⟩; have HB1 := hid hb1; clear hb1)
        go_roundw
        case rel =>
          refine ⟨k + 1, by omega, by go_num, fun j hj1 hj2 => ?_, HB.out.trans (HB1.out.mono HB.out.size)⟩
          by_cases hjk : j = k + 1
          · rw [hjk]; exact HM.out
          · exact HNO.out j hj1 (by omega)
        case measure => simp [intOf]; omega
    · obtain rfl : k = 11 := by omega
      go_wp2_with fail
      go_ret
      exact ⟨-1, rfl, HB.out, .inr ⟨rfl, fun K h1 h2 => HNO.out K h1 h2⟩⟩
theorem read_ret {w' : World} {a : Act} {b : Nat} {x y z : Value} {fl : Bool} {R : Ending → World → Prop} (hx : w'.heap[b]? = some (.cells #[x, y, z] 42 (0, 0))) (h2 : a.tmps[2]? = some (.pointer (some ⟨b, 0, none⟩))) (h3 : a.tmps[3]? = some (.bool fl)) (hd : a.defers = [])
    (h : R (.returned (.tuple #[.agg #[x, y, z], .bool fl])) w') : bodyPost Tryz.prog Tryz.f78 R .ret a w' := by
  have c0 := blk_cell hx 0
  have c1 := blk_cell hx 1
  have c2 := blk_cell hx 2
  simp at c0 c1 c2
  refine bodyPost_ret (v := .tuple #[.agg #[x, y, z], .bool fl]) ?_ hd h
  simp [results, Tryz.results78, go_sem, h2, h3, c0, c1, c2]
/-- What Read hands back. -/
def ReadGot (s : ByteArray) (w : World) (e : Ending) (w' : World) : Prop :=
  Below w.heap.size w w' ∧ ((∃ o : Op, WfOp o ∧ opLine o = s.data.toList ∧ e = .returned (.tuple #[.agg #[.int .i64 o.what, .int .i64 o.a, .int .i64 o.b], .bool true])) ∨
    ((∀ o, WfOp o → opLine o ≠ s.data.toList) ∧ e = .returned (.tuple #[.agg #[.int .i64 0, .int .i64 0, .int .i64 0], .bool false])))
theorem read_false {w w6 : World} {a : Act} {s : ByteArray} (hb : Below w.heap.size w w6) (hx : w6.heap[w.heap.size]? = some (.cells #[.int .i64 0, .int .i64 0, .int .i64 0] 42 (0, 0))) (hno : ∀ o, WfOp o → opLine o ≠ s.data.toList)
    (h2 : a.tmps[2]? = some (.pointer (some ⟨w.heap.size, 0, none⟩))) (h3 : a.tmps[3]? = some (.bool false)) (hd : a.defers = []) :
    bodyPost Tryz.prog Tryz.f78 (ReadGot s w) .ret a (((w6.setCell ⟨w.heap.size, 0, none⟩ (.int .i64 0)).setCell ⟨w.heap.size, 1, none⟩ (.int .i64 0)).setCell ⟨w.heap.size, 2, none⟩ (.int .i64 0)) := by
  have hx1 := blk_set hx 0 (.int .i64 0)
  have hx2 := blk_set hx1 1 (.int .i64 0)
  have hx3 := blk_set hx2 2 (.int .i64 0)
  exact read_ret hx3 h2 h3 hd ⟨((hb.setCell (p := ⟨w.heap.size, 0, none⟩) (Nat.le_refl _) _).setCell (p := ⟨w.heap.size, 1, none⟩) (Nat.le_refl _) _).setCell (p := ⟨w.heap.size, 2, none⟩) (Nat.le_refl _) _, .inr ⟨hno, rfl⟩⟩
/-- An op whose first j numbers are filled in. -/
def fillXY (K : Nat) (ns : List Nat) (j : Nat) : Nat × Nat :=
  if formA K then (if 0 < j then ns.getD 0 0 else 0, if 1 < j then ns.getD 1 0 else 0) else if formB K then (0, if 0 < j then ns.getD 0 0 else 0) else (0, 0)
theorem fill_end {K : Nat} {ns : List Nat} : opOf K ns = ⟨K, ((fillXY K ns (manyOf K)).1 : Nat), ((fillXY K ns (manyOf K)).2 : Nat)⟩ := by
  unfold opOf fillXY manyOf
  cases ha : formA K with
  | true => simp [formB_of ha]
  | false => cases hb : formB K <;> simp
theorem ptrs_many (K k : Nat) : (ptrsOf K k).length = manyOf K := by
  unfold ptrsOf manyOf
  cases formA K <;> cases formB K <;> rfl
/-- The j-th number goes where the j-th pointer leads. -/
theorem fill_step {K k j : Nat} {ns : List Nat} (hj : j < manyOf K) : (∃ v, (ptrsOf K k)[j]? = some v ∧ v = .pointer (some ⟨k, 1, none⟩) ∧ fillXY K ns (j + 1) = (ns.getD j 0, (fillXY K ns j).2)) ∨ (∃ v, (ptrsOf K k)[j]? = some v ∧ v = .pointer (some ⟨k, 2, none⟩) ∧ fillXY K ns (j + 1) = ((fillXY K ns j).1, ns.getD j 0)) := by
  unfold manyOf at hj
  unfold ptrsOf fillXY
  cases ha : formA K with
  | true =>
    have hb := formB_of ha
    rw [ha, hb] at hj
    have : j = 0 ∨ j = 1 := by simp at hj; omega
    rcases this with rfl | rfl
    · exact .inl ⟨_, by simp [hb], rfl, by simp⟩
    · exact .inr ⟨_, by simp [hb], rfl, by simp⟩
  | false =>
    cases hb : formB K with
    | true =>
      rw [ha, hb] at hj
      have : j = 0 := by simp at hj; omega
      subst this
      exact .inr ⟨_, by simp, rfl, by simp⟩
    | false => rw [ha, hb] at hj; simp at hj
set_option maxHeartbeats 4000000 in
theorem read_any (s : ByteArray) (hs : s.size ≤ 1073741824) (w : World) (hf : Forms w) (hnm : Names w) (hd : Desk w) : Calls Tryz.prog 78 #[.string s] w (ReadGot s w) := by
  obtain ⟨w1, hw1⟩ : ∃ w1, w1 = w.alloc (.cells #[.int .i64 0, .int .i64 0, .int .i64 0] 42) := ⟨_, rfl⟩
  have hb1 : Below w.heap.size w w1 := by rw [hw1]; exact (Below.refl _ _).alloc (Nat.le_refl _) _
  have hbx : w1.heap[w.heap.size]? = some (.cells #[.int .i64 0, .int .i64 0, .int .i64 0] 42 (0, 0)) := by rw [hw1]; exact heap_alloc_new w _
  have HSPLIT := hid (split_any s hs w1 (hd.new hb1))
  have HF : Hid (∀ w', Below w.heap.size w w' → Forms w' ∧ Names w' ∧ Desk w') := fun w' hb => ⟨hf.new hb, hnm.new hf hb, hd.new hb⟩
  have HB1 := hid hb1
  have HBX := hid hbx
  clear hf hnm hd hb1 hbx
  go_enter Tryz.func78, Tryz.ntmps78
  go_wp2_with (go_at_call 123; rw [← hw1]; refine HSPLIT.out.mono ?_; rintro e w2 ⟨ws, n, hn, hws, hle, hns, rfl, rfl⟩; have HN := hid hn; have HWS := hid hws; have HLE := hid hle; clear hw1 hn hws hle HSPLIT)
  obtain ⟨v0, vs, hcut⟩ := cutA_cons 32 s.data.toList []
  have HCUT := hid hcut
  have hws0 := HWS.out
  rw [hcut] at hws0
  obtain ⟨w0, rest, hwr, h0, hrest⟩ : ∃ w0 rest, ws = w0 :: rest ∧ w0.data.toList = v0 ∧ rest.map (fun s : ByteArray => s.data.toList) = vs := by
    cases ws with
    | nil => simp at hws0
    | cons w0 rest =>
      rw [List.map_cons] at hws0
      injection hws0 with h1 h2
      exact ⟨w0, rest, rfl, h1, h2⟩
  have hn := HN.out
  rw [hwr, List.length_cons] at hn
  have hsl := Sl.new (split_sl (w := w1) HN.out) ((Below.refl _ _).alloc (Nat.le_refl _) (.cells #[.slice (some ⟨w1.heap.size, 0, none⟩) n n] 78))
  have hrl : ∀ x ∈ rest, x.size ≤ 1073741824 := fun x hx => Nat.le_trans (HLE.out x (by rw [hwr]; simp [hx])) hs
  obtain ⟨W2, hW2⟩ : ∃ W2, (w1.alloc (.cells (ws.map Value.string).toArray 9)).alloc (.cells #[.slice (some ⟨w1.heap.size, 0, none⟩) n n] 78) = W2 := ⟨_, rfl⟩
  have hb2 : Below w1.heap.size w1 W2 := by rw [← hW2]; exact ((Below.refl _ _).alloc (Nat.le_refl _) _).alloc (by simp) _
  have hbox : W2.heap[w1.heap.size + 1]? = some (.cells #[.slice (some ⟨w1.heap.size, 0, none⟩) n n] 78 (0, 0)) := by
    have h := heap_alloc_new (w1.alloc (.cells (ws.map Value.string).toArray 9)) (.cells #[.slice (some ⟨w1.heap.size, 0, none⟩) n n] 78)
    rw [sz_alloc, hW2] at h; exact h
  rw [hW2] at hsl ⊢
  have hsl1 : Sl W2 (some ⟨w1.heap.size, 1, none⟩) 1 (n - 1) (rest.map Value.string) := by
    refine ⟨by rw [List.length_map]; omega, fun _ => ⟨w1.heap.size, 1, rfl, by have := blk_lt hbox; omega, fun j u hu => ?_⟩⟩
    obtain ⟨b, off, e, _, hx⟩ := hsl.2 (by omega)
    injection e with e
    injection e with e1 e2
    subst e1 e2
    have := hx (j + 1) u (by rw [hwr, List.map_cons]; exact hu)
    rw [show 1 + j = 0 + (j + 1) by omega]; exact this
  have hw0 : W2.cell? ⟨w1.heap.size, 0, none⟩ = some (.string w0) := by
    obtain ⟨b, off, e, _, hx⟩ := hsl.2 (by omega)
    injection e with e
    injection e with e1 e2
    subst e1 e2
    exact hx 0 _ (by rw [hwr]; rfl)
  have HB2 := hid (HB1.out.trans (hb2.mono HB1.out.size))
  have HIX := hid (index_form w0 (w1.heap.size + 1) w1.heap.size 0 n n (by omega) W2 (HF.out W2 HB2.out).1 (HF.out W2 HB2.out).2.1 (by have := blk_cell hbox 0; simpa using this) hw0)
  have HNUMS1 : Hid (n = 1 → ∀ w', Below W2.heap.size W2 w' → Calls Tryz.prog 124 #[.slice (some ⟨w1.heap.size, 0, none⟩) 0 0, .int .i64 4] w' (NumsGot 4 rest w')) := fun h1 w' hb => numbers_any rest _ 0 0 4 (by omega) (by omega) hrl w' (HF.out w' (HB2.out.trans (hb.mono HB2.out.size))).2.2 (by
    have : rest = [] := List.eq_nil_of_length_eq_zero (by omega)
    rw [this]; exact Sl.nil _ _ _)
  have HNUMS : Hid (∀ w', Below W2.heap.size W2 w' → Calls Tryz.prog 124 #[.slice (some ⟨w1.heap.size, 1, none⟩) (n - 1) (n - 1), .int .i64 4] w' (NumsGot 4 rest w')) := fun w' hb => numbers_any rest _ (n - 1) (n - 1) 4 (by omega) (by omega) hrl w' (HF.out w' (HB2.out.trans (hb.mono HB2.out.size))).2.2 (hsl1.new hb)
  have HBX2 := hid ((hb2.block _ (blk_lt HBX.out)).trans HBX.out)
  have HBOX := hid hbox
  have HREST := hid hrest
  have HLW := hid (show w.heap.size < w1.heap.size from blk_lt HBX.out)
  clear hW2 hws0 hsl hsl1 hw0 hb2 hbox hwr hrl hrest hcut HN HWS HLE HBX HB1
  refine HIX.out.mono ?_
  rintro e w3 ⟨r, rfl, hb3, hor⟩
  rw [h0] at hor
  have HB3 := hid hb3
  have HBX3 := hid ((hb3.block _ (blk_lt HBX2.out)).trans HBX2.out)
  clear hb3 HIX h0
  rcases hor with ⟨K, hK1, hK2, hK3, rfl⟩ | ⟨rfl, hno⟩
  · have HK3 := hid hK3
    clear hK3
    have hk0 : ¬ ((K : Int) = 0) := by omega
    have hkb : (K : Int) ≤ 11 := by omega
    go_wp2_with fail
    obtain ⟨w4, hw4⟩ : ∃ w4, w4 = w3.alloc (.cells #[.int .i64 K, .int .i64 0, .int .i64 0] 42) := ⟨_, rfl⟩
    have hb4 : Below w3.heap.size w3 w4 := by rw [hw4]; exact (Below.refl _ _).alloc (Nat.le_refl _) _
    have hob : w4.heap[w3.heap.size]? = some (.cells #[.int .i64 K, .int .i64 0, .int .i64 0] 42 (0, 0)) := by rw [hw4]; exact heap_alloc_new w3 _
    have HB4 := hid (HB3.out.trans (hb4.mono HB3.out.size))
    have HB4X := hid hb4
    have hfd := fields_any K 0 0 w3.heap.size w4 (HF.out w4 (HB2.out.trans (HB4.out.mono HB2.out.size))).1 (by omega) hkb hob
    rw [Int.toNat_natCast] at hfd
    have HFD := hid hfd
    have HOB := hid hob
    have HL3 := hid (show W2.heap.size ≤ w3.heap.size from HB3.out.size)
    rw [← hw4]
    clear hw4 hb4 hfd hob
    refine HFD.out.mono ?_
    rintro e w5 ⟨A5, c5, rfl, hrow5, hnew5, hb5⟩
    have HB5 := hid (HB4.out.trans (hb5.mono HB4.out.size))
    have HB45 := hid (HB4X.out.trans (hb5.mono HB4X.out.size))
    have HOB5 := hid ((hb5.block _ (blk_lt HOB.out)).trans HOB.out)
    have HR5 := hid hrow5
    have HN5 := hid hnew5
    have xb := blk_cell ((HB5.out.block _ (blk_lt HBOX.out)).trans HBOX.out) 0
    have hxl := cell_lt xb
    simp at xb
    obtain ⟨m, hm⟩ : ∃ m, (ptrsOf K w3.heap.size).length = m := ⟨_, rfl⟩
    rw [hm]
    rw [hm] at HR5
    have HM := hid hm
    have HW5 := hid (HB2.out.trans (HB3.out.mono HB2.out.size))
    have hzb : w5.heap[w.heap.size]? = some (.cells #[.int .i64 0, .int .i64 0, .int .i64 0] 42 (0, 0)) := (HB45.out.block _ (blk_lt HBX3.out)).trans HBX3.out
    have HZ5 := hid hzb
    have HWW5 : Hid (Below w.heap.size w w5) := hid (HB2.out.trans (HB5.out.mono HB2.out.size))
    have HLO := hid (show w.heap.size < w3.heap.size from blk_lt HBX3.out)
    have HLO5 := hid (show w3.heap.size < w4.heap.size from blk_lt HOB.out)
    have HLO6 := hid (show w3.heap.size < w5.heap.size from Nat.lt_of_lt_of_le (blk_lt HOB.out) hb5.size)
    have hn1 : 1 ≤ n := by omega
    clear hrow5 hnew5 hb5 hm HFD HB4 HOB hzb
    have HN6 : Hid (if n = 1 then Calls Tryz.prog 124 #[.slice (some ⟨w1.heap.size, 0, none⟩) 0 0, .int .i64 4] w5 (NumsGot 4 rest w5) else Calls Tryz.prog 124 #[.slice (some ⟨w1.heap.size, 1, none⟩) (n - 1) (n - 1), .int .i64 4] w5 (NumsGot 4 rest w5)) := by
      split
      · rename_i h; exact HNUMS1.out h w5 HB5.out
      · exact HNUMS.out w5 HB5.out
    by_cases hn2 : n = 1
    all_goals
      first | rw [if_pos hn2] at HN6 | rw [if_neg hn2] at HN6
      go_wp2_with fail
      refine HN6.out.mono ?_
      rintro e w6 ⟨hb6, hor⟩
      rw [HREST.out] at hor
      have HB6 := hid hb6
      have HW6 := hid (HWW5.out.trans (hb6.mono HWW5.out.size))
      have HZ6 := hid ((hb6.block _ (blk_lt HZ5.out)).trans HZ5.out)
      have HOB6 := hid ((hb6.block _ (blk_lt HOB5.out)).trans HOB5.out)
      have HR6 := hid (HR5.out.new hb6)
      have hz6 := HZ6.out
      have c0 := blk_cell hz6 0
      have c1 := blk_cell hz6 1
      have c2 := blk_cell hz6 2
      have hl := blk_lt hz6
      simp at c0 c1 c2
      have fz : ∀ o, w6.frozen? ⟨w.heap.size, o, none⟩ = false := fun o => blk_free hz6 o
      clear hb6 xb hxl HN6 hz6
      have HWHO : Hid (∀ o, WfOp o → opLine o = s.data.toList → o.what.toNat = K ∧ numsOf 4 vs = some ((fieldsOf o).map Int.toNat)) := fun o ho e => by
        have h1 := HCUT.out
        rw [← e, read_cut] at h1
        injection h1 with h1 h2
        have hk := name_inj (i := o.what.toNat) (j := K) (by have := ho.what; omega) ⟨hK1, hK2⟩ (h1.trans HK3.out.symm)
        exact ⟨hk, by rw [← h2]; exact read_nums ho⟩
      rcases hor with ⟨ns, A6, m6, c6, hns6, hm6, rfl, hrow6, hnew6⟩ | ⟨hbad, rfl⟩
      · have HNS6 := hid hns6
        have HM6 := hid hm6
        have HA6 := hid hrow6
        have HN6 := hid hnew6
        clear hns6 hm6 hrow6 hnew6
        by_cases hmm : m6 = m
        · subst hmm
          have HMK := hid (show m6 = manyOf K by rw [← HM.out, ptrs_many])
          have hm2 : m6 ≤ 2 := by
            rw [HMK.out]; unfold manyOf
            cases formA K <;> cases formB K <;> decide
          go_wp2_with fail
          go_loopw [42] (fun v42 wr => ∃ j : Nat, j ≤ m6 ∧ v42 = .int .i64 j ∧ wr.heap[w3.heap.size]? = some (.cells #[.int .i64 K, .int .i64 ((fillXY K ns j).1 : Nat), .int .i64 ((fillXY K ns j).2 : Nat)] 42 (0, 0)) ∧ Row wr 180 1 A5 m6 c5 (ptrsOf K w3.heap.size) ∧ Row wr 3 1 A6 m6 c6 (ints (ns.map Int.ofNat)) ∧
            wr.heap[w.heap.size]? = some (.cells #[.int .i64 0, .int .i64 0, .int .i64 0] 42 (0, 0)) ∧ Below w.heap.size w wr) (fun v42 _ => m6 - (intOf v42).toNat)
          case atStart =>
            refine ⟨0, by omega, rfl, ?_, HR6.out, HA6.out, HZ6.out, HW6.out⟩
            have h0 : fillXY K ns 0 = (0, 0) := by unfold fillXY; split <;> simp
            rw [h0]; exact HOB6.out
          case round =>
            obtain ⟨j, hj, rfl, hob, hr5, hr6, hz, hb⟩ := hrel
            have HOBJ := hid hob
            have HRJ5 := hid hr5
            have HRJ6 := hid hr6
            have HZJ := hid hz
            have HBJ := hid hb
            clear hob hr5 hr6 hz hb c0 c1 c2 hl fz
            by_cases hjm : j < m6
            · have HST := hid (fill_step (k := w3.heap.size) (ns := ns) (show j < manyOf K by rw [← HMK.out]; exact hjm))
              obtain ⟨b6, off6, rfl, _, hx6⟩ := HRJ6.out.sl.2 (by omega)
              have q6 := hx6 j (.int .i64 ((ns.getD j 0 : Nat) : Int)) (by
                have hjl : j < ns.length := by rw [HM6.out]; exact hjm
                unfold ints
                rw [List.getElem?_map, List.getElem?_map, List.getElem?_eq_getElem hjl, List.getD_eq_getElem?_getD, List.getElem?_eq_getElem hjl]; rfl)
              clear hx6
              obtain ⟨b5, off5, rfl, _, hx5⟩ := HRJ5.out.sl.2 (by omega)
              have hobj := HOBJ.out
              have d0 := blk_cell hobj 0
              have d1 := blk_cell hobj 1
              have d2 := blk_cell hobj 2
              simp at d0 d1 d2
              have dz : ∀ o, wr.frozen? ⟨w3.heap.size, o, none⟩ = false := fun o => blk_free hobj o
              rcases HST.out with ⟨v, hv, rfl, hfl⟩ | ⟨v, hv, rfl, hfl⟩
              all_goals
                have q5 := hx5 j _ hv
                have HFL := hid hfl
                clear hv hfl hx5 hobj
                generalize ns.getD j 0 = N at q6 HFL
                go_wp2_with fail
                go_roundw
                case rel =>
                  refine ⟨j + 1, by omega, by go_num, ?_, HRJ5.out.setCell (fun hi => ?_) _, HRJ6.out.setCell (fun hi => ?_) _, ?_, ?_⟩
                  · rw [HFL.out]
                    first | exact blk_set HOBJ.out 1 _ | exact blk_set HOBJ.out 2 _
                  · have := HN5.out _ hi; have := HLO5.out; simp at *; omega
                  · have := HN6.out _ hi; have := HLO6.out; simp at *; omega
                  · rw [blk_far (by have := HLO.out; simp; omega)]; exact HZJ.out
                  · exact HBJ.out.setCell (by have := HLO.out; simp; omega) _
                case measure => simp [intOf]; omega
            · obtain rfl : j = m6 := by omega
              have hobj := HOBJ.out
              have d0 := blk_cell hobj 0
              have d1 := blk_cell hobj 1
              have d2 := blk_cell hobj 2
              have dl := blk_lt hobj
              simp at d0 d1 d2
              have hzj := HZJ.out
              have c0 := blk_cell hzj 0
              have c1 := blk_cell hzj 1
              have c2 := blk_cell hzj 2
              have hl := blk_lt hzj
              simp at c0 c1 c2
              have fz : ∀ o, wr.frozen? ⟨w.heap.size, o, none⟩ = false := fun o => blk_free hzj o
              clear hobj hzj
              go_wp2_with fail
              have hx1 := blk_set HZJ.out 0 (.int .i64 K)
              have hx2 := blk_set hx1 1 (.int .i64 ((fillXY K ns j).1 : Nat))
              have hx3 := blk_set hx2 2 (.int .i64 ((fillXY K ns j).2 : Nat))
              have HBF := ((HBJ.out.setCell (p := ⟨w.heap.size, 0, none⟩) (Nat.le_refl _) (.int .i64 K)).setCell (p := ⟨w.heap.size, 1, none⟩) (Nat.le_refl _) (.int .i64 ((fillXY K ns j).1 : Nat))).setCell (p := ⟨w.heap.size, 2, none⟩) (Nat.le_refl _) (.int .i64 ((fillXY K ns j).2 : Nat))
              obtain ⟨h1, h2⟩ := read_yes HCUT.out ⟨hK1, hK2⟩ HK3.out HNS6.out (HM6.out.trans HMK.out)
              rw [fill_end, ← HMK.out] at h1 h2
              exact read_ret hx3 rfl rfl rfl ⟨HBF, .inl ⟨_, h1, h2, rfl⟩⟩
        · have hmm' : ¬ (m6 : Int) = (m : Int) := by omega
          go_wp2_with fail
          refine read_false HW6.out HZ6.out (fun o ho e => ?_) rfl rfl rfl
          obtain ⟨h1, h2⟩ := HWHO.out o ho e
          rw [HNS6.out] at h2
          injection h2 with h2
          have h3 := (op_wf ho).2.1
          have h4 := HM.out
          have h5 := HM6.out
          rw [ptrs_many] at h4
          rw [h2, List.length_map, h3, h1] at h5
          omega
      · have HBAD := hid hbad
        clear hbad
        go_wp2_with fail
        refine read_false HW6.out HZ6.out (fun o ho e => ?_) rfl rfl rfl
        have h1 := (HWHO.out o ho e).2
        rw [HBAD.out] at h1
        cases h1
  · have HNO := hid hno
    have hx := HBX3.out
    have c0 := blk_cell hx 0
    have c1 := blk_cell hx 1
    have c2 := blk_cell hx 2
    have hl := blk_lt hx
    simp at c0 c1 c2
    have fz : ∀ o, w3.frozen? ⟨w.heap.size, o, none⟩ = false := fun o => blk_free hx o
    clear hno hx
    go_wp2_with fail
    refine read_false (HB2.out.trans (HB3.out.mono HB2.out.size)) HBX3.out (fun o ho e => ?_) rfl rfl rfl
    have h1 := HCUT.out
    rw [← e, read_cut] at h1
    injection h1 with h1 _
    exact HNO.out o.what.toNat (by have := ho.what; omega) (by have := ho.what; omega) h1
end Go.Proofs.YtldllmhgofacbaaGreatDoor

/- Package code: the contract of Parse, for every text. Conditions: 'Desk', the table of forms with its names, which the row lists; no text is longer than 2^30 bytes. -/
namespace Go.Proofs.YtldllmhgofacbaaGreatDoor
open Go.RowKit Go.Shelf
set_option maxRecDepth 100000
attribute [local go_sem] Oper.semAt_some

/-- What Parse hands back. -/
def ParseGot (t : ByteArray) (w : World) (e : Ending) (w' : World) : Prop :=
  Below w.heap.size w w' ∧
  ((∃ (l : List Op) (A : Option Addr) (n c : Nat), (∀ o ∈ l, WfOp o) ∧ codeText l = t.data.toList ∧ (codeChk l).2 = 0 ∧ l.length = n ∧ e = .returned (.tuple #[.slice A n c, .nilIface]) ∧ Row w' 42 3 A n c (l.flatMap Op.cells) ∧ ∀ i, InA A i → w.heap.size ≤ i) ∨
   (∃ l : List Op, (∀ o ∈ l, WfOp o) ∧ codeText l = t.data.toList ∧ (codeChk l).2 ≠ 0 ∧ e = .returned (.tuple #[.slice none 0 0, errV (codeChk l).2])) ∨
   ((∀ l : List Op, (∀ o ∈ l, WfOp o) → codeText l ≠ t.data.toList) ∧ e = .returned (.tuple #[.slice none 0 0, errV 2])))

/-- Midway: so many lines are read. -/
structure ParseAt (w : World) (pre : List ByteArray) (W : World) : Prop where
  res : Boxed W w.heap.size 43 (.slice none 0 0)
  err : Boxed W (w.heap.size + 1) 30 .nilIface
  out : ∃ (l : List Op) (A : Option Addr) (n c : Nat), (∀ o ∈ l, WfOp o) ∧ pre.map (fun s => s.data.toList) = l.map opText ∧ l.length = n ∧ Boxed W (w.heap.size + 1 + 1) 43 (.slice A n c) ∧ Row W 42 3 A n c (l.flatMap Op.cells) ∧ ∀ i, InA A i → w.heap.size + 4 ≤ i
  big : w.heap.size + 4 ≤ W.heap.size
  below : Below w.heap.size w W
theorem ParseAt.abide (w : World) : Abide (w.heap.size + 4) (w.heap.size + 1 + 1 + 1) (ParseAt w) := by
  refine ⟨fun s W W' row h hg hr => ?_, fun s W u h => ?_⟩
  · have hr2 : ∀ r, row = some r → ∃ o : Obj, W.heap[r]? = some o ∧ o.isCells = false := fun r e => (hr r e).2
    obtain ⟨l, A, n, c, h1, h2, h3, h4, h5, h6⟩ := h.out
    exact ⟨boxed_turned h.res hg hr2, boxed_turned h.err hg hr2, ⟨l, A, n, c, h1, h2, h3, boxed_turned h4 hg hr2, h5.turned hg hr2, h6⟩, Nat.le_trans h.big hg.size, h.below.grown hg h.below.size (fun k e => by have := (hr k e).1; omega)⟩
  · obtain ⟨l, A, n, c, h1, h2, h3, h4, h5, h6⟩ := h.out
    exact ⟨h.res.other (by omega) _, h.err.other (by omega) _, ⟨l, A, n, c, h1, h2, h3, h4.other (by omega) _, h5.setCell (fun hi => by have := h6 _ hi; simp at this; omega) _, h6⟩, by rw [sz_set]; exact h.big, h.below.setCell (p := ⟨w.heap.size + 1 + 1 + 1, 0, none⟩) (by simp; omega) _⟩
/-- It has stopped: a line is no op's. -/
structure ParseStop (t : ByteArray) (w : World) (c : Code) (W : World) : Prop where
  ret : c = .ret
  no : ∀ l : List Op, (∀ o ∈ l, WfOp o) → codeText l ≠ t.data.toList
  res : Boxed W w.heap.size 43 (.slice none 0 0)
  err : Boxed W (w.heap.size + 1) 30 (errV 2)
  below : Below w.heap.size w W
theorem ParseStop.abide (t : ByteArray) (w : World) (c : Code) : Abide (w.heap.size + 4) (w.heap.size + 1 + 1 + 1) (fun (_ : List ByteArray) W => ParseStop t w c W) := by
  refine ⟨fun s W W' row h hg hr => ?_, fun s W u h => ?_⟩
  · have hr2 : ∀ r, row = some r → ∃ o : Obj, W.heap[r]? = some o ∧ o.isCells = false := fun r e => (hr r e).2
    exact ⟨h.ret, h.no, boxed_turned h.res hg hr2, boxed_turned h.err hg hr2, h.below.grown hg h.below.size (fun k e => by have := (hr k e).1; omega)⟩
  · exact ⟨h.ret, h.no, h.res.other (by omega) _, h.err.other (by omega) _, h.below.setCell (p := ⟨w.heap.size + 1 + 1 + 1, 0, none⟩) (by simp; omega) _⟩

theorem Tryz.infoOpR : (Tryz.prog.info? 42).map (fun i => (i.zero, i.size, i.bytes)) = some (some (.agg #[.int .i64 0, .int .i64 0, .int .i64 0]), 3, 24) := by kernel_rfl
theorem opText_10 (o : Op) : (10 : UInt8) ∈ opText o := by unfold opText; simp

theorem parse_start {w : World} {t : ByteArray} : ParseAt w [] ((((w.alloc (.cells #[.slice none 0 0] 43)).alloc (.cells #[.nilIface] 30)).alloc (.cells #[.slice none 0 0] 43)).alloc (.cells #[.string t] 9)) := by
  have b1 := ((Boxed.new w 43 (.slice none 0 0)).alloc (.cells #[.nilIface] 30)).alloc (.cells #[.slice none 0 0] 43) |>.alloc (.cells #[.string t] 9)
  have b2 := (Boxed.new (w.alloc (.cells #[.slice none 0 0] 43)) 30 .nilIface).alloc (.cells #[.slice none 0 0] 43) |>.alloc (.cells #[.string t] 9)
  have b3 := (Boxed.new ((w.alloc (.cells #[.slice none 0 0] 43)).alloc (.cells #[.nilIface] 30)) 43 (.slice none 0 0)).alloc (.cells #[.string t] 9)
  simp only [sz_alloc] at b2 b3
  exact ⟨b1, b2, ⟨[], none, 0, 0, (fun o ho => by cases ho), rfl, rfl, b3, Row.nil _ _ _, (fun i hi => by simp [InA] at hi)⟩, by simp, ((((Below.refl _ w).alloc (Nat.le_refl _) _).alloc (by simp) _).alloc (by simp; omega) _).alloc (by simp; omega) _⟩

/-- The end: the results lie in their cells. -/
theorem parse_ret {W9 : World} {D b0 b1 : Nat} {v0 v1 : Value} {a : Act} {T0 T1 : Nat} {R : Ending → World → Prop} (h0 : Boxed W9 b0 T0 v0) (h1 : Boxed W9 b1 T1 v1) (hD0 : b0 ≠ D) (hD1 : b1 ≠ D) (hK : W9.heap[D]? = some (.deferred (some [])))
    (h2 : a.tmps[2]? = some (.pointer (some ⟨b0, 0, none⟩))) (h3 : a.tmps[3]? = some (.pointer (some ⟨b1, 0, none⟩))) (hd : a.defers = [{ target := .collected D, args := #[] }]) (h : R (.returned (.tuple #[v0, v1])) (W9.putObj D (.deferred none))) :
    bodyPostM Fence.wide 3 Tryz.prog Tryz.f37 R .ret a W9 := by
  obtain ⟨tmps, defers⟩ := a
  simp only at h2 h3 hd
  subst hd
  refine ⟨by simp, .inl ⟨_, _, rfl, run_takeDeferred hK, ?_⟩⟩
  have e0 := (h0.kept (grownBy_putObj' W9 D (.deferred none)) (by simp; omega)).cell
  have e1 := (h1.kept (grownBy_putObj' W9 D (.deferred none)) (by simp; omega)).cell
  refine ⟨.tuple #[v0, v1], ?_, h⟩
  simp [results, Tryz.f37, go_sem, h2, h3, e0, e1]
theorem one_op3 (w : World) (o : Obj) {x y z : Value} {T : Nat} : Sl ((w.alloc o).alloc (.cells #[x, y, z] T)) (some ⟨w.heap.size + 1, 0, none⟩) 3 1 [x, y, z] := by
  have h := heap_alloc_new (w.alloc o) (.cells #[x, y, z] T)
  rw [sz_alloc] at h
  refine ⟨rfl, fun _ => ⟨w.heap.size + 1, 0, rfl, blk_lt h, fun j u hu => ?_⟩⟩
  rw [Nat.zero_add, blk_cell h]
  simpa using hu
set_option maxHeartbeats 8000000 in
theorem parse_any (t : ByteArray) (ht : t.size ≤ 1073741824) (w : World) (hf : Forms w) (hnm : Names w) (hd : Desk w) : Calls Tryz.prog 37 #[.string t] w (ParseGot t w) := by
  obtain ⟨i0, hi0, hz0, hz1, hz2⟩ := info_parts Tryz.infoOpR
  have HF : Hid (∀ w', Below w.heap.size w w' → Forms w' ∧ Names w' ∧ Desk w') := hid fun w' hb => ⟨hf.new hb, hnm.new hf hb, hd.new hb⟩
  clear hf hnm hd
  refine (callsIn_wide (n := 3)).1 ?_
  refine callsIn_of_wp_marks Tryz.func37 rfl trivial ?_ rfl
  simp only [Tryz.ntmps37, List.size_toArray, List.length_cons, List.length_nil, Nat.reduceAdd, Nat.reduceSub, Array.replicate_succ, Array.replicate_zero, List.push_toArray, List.append_toArray, List.nil_append, List.cons_append]
  gi_wp2_with (refine ⟨trivial, ?_⟩; gi_at_call 75; refine (callsIn_wide.2 (lines_made _ _)).mono ?_; rintro e w2 ⟨rfl, rfl⟩)
  have HR := hid (parse_start (w := w) (t := t))
  have HT := hid (heap_alloc_new (((w.alloc (.cells #[.slice none 0 0] 43)).alloc (.cells #[.nilIface] 30)).alloc (.cells #[.slice none 0 0] 43)) (.cells #[.string t] 9))
  have hsz : ((((w.alloc (.cells #[.slice none 0 0] 43)).alloc (.cells #[.nilIface] 30)).alloc (.cells #[.slice none 0 0] 43)).alloc (.cells #[.string t] 9)).heap.size = w.heap.size + 4 := by simp
  obtain ⟨W0, hW0⟩ : ∃ W0, (((w.alloc (.cells #[.slice none 0 0] 43)).alloc (.cells #[.nilIface] 30)).alloc (.cells #[.slice none 0 0] 43)).alloc (.cells #[.string t] 9) = W0 := ⟨_, rfl⟩
  simp only [sz_alloc] at HT
  rw [hW0] at HR HT hsz ⊢
  clear hW0
  refine range_cell (α := ByteArray) (all := linesB t) (t := w.heap.size + 1 + 1 + 1) rfl (by decide) (gf := 120) (lb := #[.pointer (some ⟨w.heap.size + 1 + 1 + 1, 0, none⟩)]) rfl trivial (enters_of Tryz.func120 (by kernel_rfl) rfl)
    (encs := fun x => #[.string x]) (by omega) (lines_gives _ _ 9 t (by omega) W0 HT.out) (fun _ => rfl)
    (ParseAt w) (fun c _ W => ParseStop t w c W)
    (by rw [hsz]; exact ParseAt.abide w) (fun c => by rw [hsz]; exact ParseStop.abide t w c) HR.out
    (fun x => { tmps := #[.string t, undef, .pointer (some ⟨w.heap.size, 0, none⟩), .pointer (some ⟨w.heap.size + 1, 0, none⟩), .pointer (some ⟨w.heap.size + 1 + 1, 0, none⟩), .string x, undef, undef, undef, undef, undef, .string t, .func (.func 120) #[] #[.pointer (some ⟨w.heap.size + 1 + 1 + 1, 0, none⟩)], .string x, undef, undef, undef, undef, undef, undef, undef, undef, undef, undef, undef, undef, undef, undef, undef, undef, undef, undef, undef, undef, undef, undef, undef, undef, undef, undef, undef], defers := [] }) ?assign ?body ?done ?stop
  case assign =>
    intro l x W K hK
    gi_wp2
    exact hK
  case body =>
    rintro l0 pre x W hI hpre
    obtain ⟨y, b, hy1, hy2, hys, hxs, hxm, hcase⟩ := line_cut (t := t) (x := x) (hpre.subset (by simp))
    have HCS : Hid (∀ w', Calls Tryz.prog 76 #[.string x, .string ⟨#[10]⟩] w' fun e w'' => e = .returned (.tuple #[.string y, .bool b]) ∧ w' = w'') := hid (cutsuf_any hy1 hy2 (by omega))
    have HRD := hid (read_any y (by omega) W (HF.out W hI.below).1 (HF.out W hI.below).2.1 (HF.out W hI.below).2.2)
    have HI := hid hI
    have HCASE := hid hcase
    have HXM := hid hxm
    clear hI hy1 hy2 hys hxs hxm hcase
    dsimp only
    gi_wp2_with (refine ⟨trivial, ?_⟩; gi_at_call 76; refine (CallsIn.inRound l0 (callsIn_wide.2 (HCS.out _))).mono ?_; rintro e w2 ⟨rfl, rfl⟩)
    refine ⟨trivial, (CallsIn.inRound l0 (callsIn_wide.2 HRD.out)).mono ?_⟩
    rintro e w2 ⟨hb2, hor⟩
    have HB2 := hid hb2
    have HW2 := hid (HI.out.below.trans (hb2.mono HI.out.below.size))
    have hbig := HI.out.big
    have hs2 := hb2.size
    have res2 : Boxed w2 w.heap.size 43 (.slice none 0 0) := (hb2.block _ (by omega)).trans HI.out.res
    have err2 : Boxed w2 (w.heap.size + 1) 30 .nilIface := (hb2.block _ (by omega)).trans HI.out.err
    obtain ⟨l, A, n, c, hwf, hmap, hn, hout, hrow, hfr⟩ := HI.out.out
    have out2 : Boxed w2 (w.heap.size + 1 + 1) 43 (.slice A n c) := (hb2.block _ (by omega)).trans hout
    have HROW2 := hid (hrow.new hb2)
    have HRES2 := hid res2
    have HERR2 := hid err2
    have HOUT2 := hid out2
    have HT2 := hid (show w2.heap[w.heap.size + 1 + 1 + 1]? = W.heap[w.heap.size + 1 + 1 + 1]? from hb2.block _ (by omega))
    have HWF := hid hwf
    have HMAP := hid hmap
    have HN := hid hn
    have HFR := hid hfr
    clear hb2 hwf hmap hn hout hrow hfr res2 err2 out2
    have HSTOP : (∀ o, WfOp o → opText o ≠ x.data.toList) → ∀ (obj : Obj) (a : Act), RoundLeft W0.heap.size (w.heap.size + 1 + 1 + 1) (ParseAt w) (fun c _ W => ParseStop t w c W) (pre ++ [x]) W .ret a (((w2.setCell ⟨w.heap.size, 0, none⟩ (.slice none 0 0)).setCell ⟨w.heap.size + 1, 0, none⟩ (.iface 118 (.int .i64 2))).alloc obj) := fun hno obj a =>
      ⟨(((keeps_below HB2.out).trans (keeps_set _ _)).trans (keeps_set _ _)).trans (keeps_below ((Below.refl _ _).alloc (Nat.le_refl _) obj)),
        ⟨rfl, code_not HXM.out hno, Boxed.alloc ((Boxed.set _ HRES2.out).other (by omega) _) obj, Boxed.alloc ((Boxed.other HERR2.out (by omega) _).set _) obj,
          ((HW2.out.setCell (p := ⟨w.heap.size, 0, none⟩) (Nat.le_refl _) _).setCell (p := ⟨w.heap.size + 1, 0, none⟩) (by simp) _).alloc (by rw [sz_set, sz_set]; exact HW2.out.size) obj⟩⟩
    have q2 : w2.cell? ⟨w.heap.size, 0, none⟩ = some (.slice none 0 0) := Boxed.cell HRES2.out
    have q3 : w2.cell? ⟨w.heap.size + 1, 0, none⟩ = some .nilIface := Boxed.cell HERR2.out
    have f2 : w2.frozen? ⟨w.heap.size, 0, none⟩ = false := Boxed.frozen HRES2.out
    have g2 : ∀ obj, (w2.alloc obj).frozen? ⟨w.heap.size, 0, none⟩ = false := fun obj => (Boxed.alloc HRES2.out obj).frozen
    have g3 : ∀ v obj, ((w2.setCell ⟨w.heap.size, 0, none⟩ v).alloc obj).frozen? ⟨w.heap.size + 1, 0, none⟩ = false := fun v obj => (Boxed.alloc (Boxed.other HERR2.out (by omega) v) obj).frozen
    have x2 : ∀ obj, (w2.alloc obj).cell? ⟨w.heap.size, 0, none⟩ = some (.slice none 0 0) := fun obj => (Boxed.alloc HRES2.out obj).cell
    have x3 : ∀ v obj, ((w2.setCell ⟨w.heap.size, 0, none⟩ v).alloc obj).cell? ⟨w.heap.size + 1, 0, none⟩ = some .nilIface := fun v obj => (Boxed.alloc (Boxed.other HERR2.out (by omega) v) obj).cell
    have q4 : ∀ obj, (w2.alloc obj).cell? ⟨w.heap.size + 1 + 1, 0, none⟩ = some (.slice A n c) := fun obj => (Boxed.alloc HOUT2.out obj).cell
    have hne : w.heap.size + 1 ≠ w.heap.size := by omega
    have hlt2 : w.heap.size < w2.heap.size := by omega
    have hlt3 : w.heap.size + 1 < w2.heap.size := by omega
    have hlt4 : w.heap.size + 1 + 1 < w2.heap.size := by omega
    rcases HCASE.out with ⟨rfl, hxy⟩ | ⟨rfl, hx10⟩
    · rcases hor with ⟨⟨what, oa, ob⟩, ho, hol, rfl⟩ | ⟨hno, rfl⟩
      · have HXY := hid hxy
        have HO := hid ho
        have HOL := hid hol
        have HSTOPX := hid HSTOP
        have hnt : n ≤ 1073741824 := by
          have h1 := HN.out
          have h2 : pre.length = l.length := by
            have := congrArg List.length HMAP.out
            rw [List.length_map, List.length_map] at this; exact this
          have h3 := hpre.length_le
          have h4 : (linesB t).length ≤ t.size := by
            unfold linesB; rw [List.length_map, Lib.size_eq]; exact lines_few _
          rw [List.length_append, List.length_singleton] at h3
          omega
        clear hxy ho hol HSTOP
        gi_wp2_with (gi_at_builtin; refine wpListIn_append_row rfl _ _ 43 rfl 42 i0 (.agg #[.int .i64 0, .int .i64 0, .int .i64 0]) 3 24 Tryz.underlying43 hi0 hz0 hz1 hz2 rfl (by decide) A n c (l.flatMap Op.cells) rfl ?c0 (some ⟨w2.heap.size + 1, 0, none⟩) 1 1 [.int .i64 what, .int .i64 oa, .int .i64 ob] rfl ?c1 ?c2 ?c3 ?c4 ?_)
        case c0 => exact (Row.alloc HROW2.out _).alloc _
        case c1 => exact one_op3 w2 _
        case c2 => intro u hu; simp at hu; rcases hu with rfl | rfl | rfl <;> rfl
        case c3 => unfold maxLen; omega
        case c4 => omega
        intro A5 c5 w5 hr5 hk5 hi5
        have HR5 := hid hr5
        have HK5 := hid hk5
        have HI5 := hid hi5
        have far : ∀ k, k < w.heap.size + 4 → w5.heap[k]? = w2.heap[k]? := fun k hk => by
          rw [hk5.block k (by rw [sz_alloc, sz_alloc]; omega) (fun hi => by have := HFR.out k hi; omega), blk_alloc (by rw [sz_alloc]; omega), blk_alloc (by omega)]
        have HFAR := hid far
        have out5 : Boxed w5 (w.heap.size + 1 + 1) 43 (.slice A n c) := (far _ (by omega)).trans HOUT2.out
        have HOUT5 := hid out5
        have q5 := out5.cell
        have f5 := out5.frozen
        have HS5 := hid hk5.size
        clear hr5 hk5 hi5 far out5 q2 q3 f2 g2 g3 x2 x3 q4
        gi_wp2
        have hwb : Below w.heap.size w ((w2.alloc (.cells #[.int .i64 what, .int .i64 oa, .int .i64 ob] 42)).alloc (.cells #[.int .i64 what, .int .i64 oa, .int .i64 ob] 42)) := (HW2.out.alloc HW2.out.size _).alloc (by simp; omega) _
        have hb5 : Below w.heap.size w w5 := hwb.trans (Keep.below HK5.out (by simp; omega) fun i hi => by have := HFR.out i hi; omega)
        refine ⟨((((keeps_below HB2.out).trans (keeps_below (((Below.refl w2.heap.size w2).alloc (Nat.le_refl _) _).alloc (by simp) _))).trans (keeps_row HK5.out fun b hb => ((Row.alloc HROW2.out _).alloc _).cellsAt hb))).trans (keeps_set _ _), ?_, ?_⟩
        · rw [blk_far (show w.heap.size + 1 + 1 + 1 ≠ w.heap.size + 1 + 1 by omega), HFAR.out _ (by omega)]; exact HT2.out
        · refine ⟨Boxed.other ((HFAR.out _ (by omega)).trans HRES2.out) (by omega) _, Boxed.other ((HFAR.out _ (by omega)).trans HERR2.out) (by omega) _, ⟨l ++ [⟨what, oa, ob⟩], A5, n + 1, c5, ?_, ?_, ?_, HOUT5.out.set _, ?_, ?_⟩, ?_, ?_⟩
          · intro o ho
            rcases List.mem_append.1 ho with h | h
            · exact HWF.out o h
            · rw [List.mem_singleton] at h; rw [h]; exact HO.out
          · rw [List.map_append, List.map_append, HMAP.out]
            congr 1
            simp only [List.map_cons, List.map_nil]
            rw [HXY.out, ← HOL.out]; rfl
          · rw [List.length_append, HN.out]; rfl
          · refine Row.setCell ?_ (fun hi => ?_) _
            · rw [List.flatMap_append]; exact HR5.out
            · rcases HI5.out _ hi with h | h
              · have := HFR.out _ h; simp at this; omega
              · have h' : w2.heap.size + 1 + 1 ≤ w.heap.size + 1 + 1 := h
                omega
          · intro i hi
            rcases HI5.out _ hi with h | h
            · exact HFR.out _ h
            · omega
          · have := HS5.out
            rw [sz_set]; simp at this; omega
          · exact hb5.setCell (p := ⟨w.heap.size + 1 + 1, 0, none⟩) (by simp; omega) _
      · have HST := hid (HSTOP fun o ho e => hno o ho (List.append_cancel_right (show opLine o ++ [10] = y.data.toList ++ [10] from e.trans hxy)))
        clear HSTOP hno hxy
        gi_wp2
        exact HST.out _ _
    · have HST := hid (HSTOP fun o ho e => hx10 (by rw [← e]; exact opText_10 o))
      clear HSTOP hx10
      rcases hor with ⟨⟨what, oa, ob⟩, ho, hol, rfl⟩ | ⟨hno, rfl⟩
      · clear ho hol
        gi_wp2
        exact HST.out _ _
      · clear hno
        gi_wp2
        exact HST.out _ _
  case done =>
    rintro D W hD hI hK
    have HI := hid hI
    obtain ⟨l, A, n, c, hwf, hmap, hn, hout, hrow, hfr⟩ := hI.out
    have hlin : linesOf t.data.toList = l.map opText := by
      rw [← hmap]; unfold linesB
      rw [List.map_map]
      exact (List.map_id' _).symm
    have HCT := hid (code_of hlin)
    have HCR : Hid (Calls Tryz.prog 69 #[.slice A n c] W fun e w' => e = .returned (errV (codeChk l).2) ∧ Below W.heap.size W w') := by
      have h := code_right A c l W (HF.out W hI.below).1 (by rw [hn]; exact hrow.sl) (by rw [hn]; exact row_slW hrow)
      rw [hn] at h; exact hid h
    have q4 := hout.cell
    have HOUT := hid hout
    have HROW := hid hrow
    have HFR := hid hfr
    have HWF := hid hwf
    have HN := hid hn
    have HK := hid hK
    have hbig := hI.big
    clear hI hmap hout hrow hfr hwf hn hlin hK
    dsimp only
    have hres := HI.out.res
    have herr := HI.out.err
    have HRES := hid hres
    have HERR := hid herr
    clear hres herr
    by_cases he : (codeChk l).2 = 0
    · rw [he, errV_zero] at HCR
      gi_wp2_with (refine ⟨trivial, ?_⟩; gi_at_call 69; refine (callsIn_wide.2 HCR.out).mono ?_; rintro e w3 ⟨rfl, hb3⟩; have HB3 := hid hb3; have x4 : w3.cell? ⟨w.heap.size + 1 + 1, 0, none⟩ = some (.slice A n c) := Boxed.cell ((hb3.block _ (by omega)).trans HOUT.out); have x2 : Boxed w3 w.heap.size 43 (.slice none 0 0) := (hb3.block _ (by omega)).trans HRES.out; have x3 : Boxed w3 (w.heap.size + 1) 30 .nilIface := (hb3.block _ (by omega)).trans HERR.out; have y2 := x2.cell; have y3 := x3.cell; have z2 := x2.frozen; have z3 : ∀ v, (w3.setCell ⟨w.heap.size, 0, none⟩ v).frozen? ⟨w.heap.size + 1, 0, none⟩ = false := (fun v => (Boxed.other x3 (by omega) v).frozen); have y3' : ∀ v, (w3.setCell ⟨w.heap.size, 0, none⟩ v).cell? ⟨w.heap.size + 1, 0, none⟩ = some .nilIface := (fun v => (Boxed.other x3 (by omega) v).cell); clear hb3 HCR)
      have hb9 := ((HI.out.below.trans (HB3.out.mono HI.out.below.size)).setCell (p := ⟨w.heap.size, 0, none⟩) (Nat.le_refl _) (.slice A n c)).setCell (p := ⟨w.heap.size + 1, 0, none⟩) (by simp) .nilIface
      have hK9 : ((w3.setCell ⟨w.heap.size, 0, none⟩ (.slice A n c)).setCell ⟨w.heap.size + 1, 0, none⟩ .nilIface).heap[D]? = some (.deferred (some [])) := set_keep (set_keep ((HB3.out.block _ (blk_lt HK.out)).trans HK.out) (by omega)) (by omega)
      have hr9 : Row ((w3.setCell ⟨w.heap.size, 0, none⟩ (.slice A n c)).setCell ⟨w.heap.size + 1, 0, none⟩ .nilIface) 42 3 A n c (l.flatMap Op.cells) := Row.setCell (Row.setCell (Row.new HROW.out HB3.out) (fun hi => by have h' : w.heap.size + 4 ≤ w.heap.size := HFR.out _ hi; omega) _) (fun hi => by have h' : w.heap.size + 4 ≤ w.heap.size + 1 := HFR.out _ hi; omega) _
      refine parse_ret (D := D) ((x2.set _).other (by omega) _) ((x3.other (by omega) _).set _) (by omega) (by omega) hK9 rfl rfl rfl ?_
      exact ⟨hb9.trans (belowK_b (w := w) (Nat.le_refl _) _ D _ _ (by omega) hK9 rfl rfl), .inl ⟨l, A, n, c, HWF.out, HCT.out, he, HN.out, rfl, hr9.turned (grownBy_putObj' _ D (.deferred none)) (fun r e => by cases e; exact ⟨_, hK9, rfl⟩), fun i hi => by have := HFR.out i hi; omega⟩⟩
    · rw [errV_pos he] at HCR
      gi_wp2_with (refine ⟨trivial, ?_⟩; gi_at_call 69; refine (callsIn_wide.2 HCR.out).mono ?_; rintro e w3 ⟨rfl, hb3⟩; have HB3 := hid hb3; have x2 : Boxed w3 w.heap.size 43 (.slice none 0 0) := (hb3.block _ (by omega)).trans HRES.out; have x3 : Boxed w3 (w.heap.size + 1) 30 .nilIface := (hb3.block _ (by omega)).trans HERR.out; have y2 := x2.cell; have y3 := x3.cell; have z2 := x2.frozen; have z3 : ∀ v, (w3.setCell ⟨w.heap.size, 0, none⟩ v).frozen? ⟨w.heap.size + 1, 0, none⟩ = false := (fun v => (Boxed.other x3 (by omega) v).frozen); have y3' : ∀ v, (w3.setCell ⟨w.heap.size, 0, none⟩ v).cell? ⟨w.heap.size + 1, 0, none⟩ = some .nilIface := (fun v => (Boxed.other x3 (by omega) v).cell); clear hb3 HCR)
      have hb9 := ((HI.out.below.trans (HB3.out.mono HI.out.below.size)).setCell (p := ⟨w.heap.size, 0, none⟩) (Nat.le_refl _) (.slice none 0 0)).setCell (p := ⟨w.heap.size + 1, 0, none⟩) (by simp) (.iface 118 (.int .i64 (codeChk l).2))
      have hK9 : ((w3.setCell ⟨w.heap.size, 0, none⟩ (.slice none 0 0)).setCell ⟨w.heap.size + 1, 0, none⟩ (.iface 118 (.int .i64 (codeChk l).2))).heap[D]? = some (.deferred (some [])) := set_keep (set_keep ((HB3.out.block _ (blk_lt HK.out)).trans HK.out) (by omega)) (by omega)
      refine parse_ret (D := D) ((x2.set _).other (by omega) _) ((x3.other (by omega) _).set _) (by omega) (by omega) hK9 rfl rfl rfl ?_
      exact ⟨hb9.trans (belowK_b (w := w) (Nat.le_refl _) _ D _ _ (by omega) hK9 rfl rfl), .inr (.inl ⟨l, HWF.out, HCT.out, he, by rw [errV_pos he]⟩)⟩
  case stop =>
    rintro D c pre W hD hpre hS hK
    obtain ⟨rfl, hno, hres, herr, hb⟩ := hS
    have HRES := hid hres
    have HERR := hid herr
    have HNO := hid hno
    have HB := hid hb
    clear hno hres herr hb
    dsimp only
    gi_wp2
    refine parse_ret (D := D) HRES.out HERR.out (by omega) (by omega) hK rfl rfl rfl ?_
    exact ⟨HB.out.trans (belowK_b (w := w) (Nat.le_refl _) _ D _ _ (by omega) hK rfl rfl), .inr (.inr ⟨HNO.out, rfl⟩)⟩
end Go.Proofs.YtldllmhgofacbaaGreatDoor
