/- Package code: the contract of Read, for every text. Conditions: 'Desk', the table of forms with its names, which the row lists. -/
import Derived.Test.YtldllmhgofacbaaDoorDeskU
import Derived.Test.YtldllmhgofacbaaDoorBuildU
import Derived.BigQuiet
namespace Go.Proofs.YtldllmhgofacbaaDoor
open Go.RowKit
set_option maxRecDepth 100000

set_option maxHeartbeats 1000000 in
theorem isForm_any (nm w0 : ByteArray) (fa fb : Bool) (tb b off n c : Nat) (hn : 1 ≤ n) (w : World) (ht : w.cell? ⟨tb, 0, none⟩ = some (.slice (some ⟨b, off, none⟩) n c)) (hw : w.cell? ⟨b, off, none⟩ = some (.string w0)) :
    Calls Tryd.prog 30 #[.agg #[.string nm, .bool fa, .bool fb], .pointer (some ⟨tb, 0, none⟩)] w fun e w' => e = .returned (.bool (nm.data.toList == w0.data.toList)) ∧ Below w.heap.size w w' := by
  have h1 := cell_lt ht
  have h2 := cell_lt hw
  have x1 : ∀ o, (w.alloc o).cell? ⟨tb, 0, none⟩ = some (.slice (some ⟨b, off, none⟩) n c) := fun o => (World.cell?_alloc_lt w o ⟨tb, 0, none⟩ h1).trans ht
  have x2 : ∀ o, (w.alloc o).cell? ⟨b, off, none⟩ = some (.string w0) := fun o => (World.cell?_alloc_lt w o ⟨b, off, none⟩ h2).trans hw
  clear ht hw
  go_enter Tryd.func30, Tryd.ntmps30
  go_wp2_with fail
  go_quiet (fail)
  go_wp2_with fail
  go_ret
  have hb0 : Below w.heap.size w (w.alloc (.cells #[.string nm, .bool fa, .bool fb] 78)) := (Below.refl _ _).alloc (Nat.le_refl _) _
  refine ⟨?_, ⟨hb0.os, hb0.tape, hb0.output, hb0.size, hb0.block⟩⟩
  rw [← Lib.toList_data, ← Lib.toList_data]; rfl

/-- Which form's name a word is. -/
def FormGot (w0 : List UInt8) (w : World) (e : Ending) (w' : World) : Prop :=
  ∃ r : Int, e = .returned (.int .i64 r) ∧ Below w.heap.size w w' ∧ ((∃ K : Nat, 1 ≤ K ∧ K ≤ 11 ∧ nameOf K = w0 ∧ r = K - 1) ∨ (r = -1 ∧ ∀ K : Nat, 1 ≤ K → K ≤ 11 → nameOf K ≠ w0))
set_option maxHeartbeats 2000000 in
theorem index_form (w0 : ByteArray) (tb b off n c : Nat) (hn : 1 ≤ n) (w : World) (hf : Forms w) (hnm : Names w) (ht : w.cell? ⟨tb, 0, none⟩ = some (.slice (some ⟨b, off, none⟩) n c)) (hw : w.cell? ⟨b, off, none⟩ = some (.string w0)) :
    Calls Tryd.prog 29 #[.slice (some ⟨1, 3, none⟩) 11 11, .func (.func 30) #[] #[.pointer (some ⟨tb, 0, none⟩)]] w (FormGot w0.data.toList w) := by
  have h1 := cell_lt ht
  have h2 := cell_lt hw
  have HF := hid hf
  have HNM := hid hnm
  have HT := hid ht
  have HW := hid hw
  clear hf hnm ht hw
  go_enter Tryd.func29, Tryd.ntmps29
  go_wp2_with fail
  go_loopw [5, 8] (fun v5 v8 wr => ∃ k : Nat, k ≤ 11 ∧ v8 = .int .i64 k ∧ (∀ j : Nat, 1 ≤ j → j ≤ k → nameOf j ≠ w0.data.toList) ∧ Below w.heap.size w wr) (fun _ v8 _ => 11 - (intOf v8).toNat)
  case atStart => exact ⟨0, by omega, rfl, fun j hj hk => absurd hj (by omega), Below.refl _ _⟩
  case round =>
    obtain ⟨k, hk, rfl, hno, hb⟩ := hrel
    have HNO := hid hno
    have HB := hid hb
    clear hno hb
    by_cases hkl : k < 11
    · obtain ⟨nm, hnm⟩ : ∃ nm : ByteArray, nm = ⟨(nameOf (k + 1)).toArray⟩ := ⟨_, rfl⟩
      have hfl := HF.out.lt
      have g0 : wr.cell? ⟨1, 3 + k * 3, none⟩ = some (.string nm) := by
        rw [hnm, show 3 + k * 3 = (k + 1) * 3 by omega]
        exact (HB.out.cell (p := ⟨1, (k + 1) * 3, none⟩) hfl).trans (HNM.out (k + 1) (by omega))
      have g1 : wr.cell? ⟨1, 3 + k * 3 + 1, none⟩ = some (.bool (formA (k + 1))) := by
        rw [show 3 + k * 3 + 1 = (k + 1) * 3 + 1 by omega]
        exact (HB.out.cell (p := ⟨1, (k + 1) * 3 + 1, none⟩) hfl).trans (HF.out.a (k + 1) (by omega))
      have g2 : wr.cell? ⟨1, 3 + k * 3 + 2, none⟩ = some (.bool (formB (k + 1))) := by
        rw [show 3 + k * 3 + 2 = (k + 1) * 3 + 2 by omega]
        exact (HB.out.cell (p := ⟨1, (k + 1) * 3 + 2, none⟩) hfl).trans (HF.out.b (k + 1) (by omega))
      have HIS := hid (isForm_any nm w0 (formA (k + 1)) (formB (k + 1)) tb b off n c hn wr ((HB.out.cell (p := ⟨tb, 0, none⟩) h1).trans HT.out) ((HB.out.cell (p := ⟨b, off, none⟩) h2).trans HW.out))
      have hnd : nm.data.toList = nameOf (k + 1) := by rw [hnm]
      rw [hnd] at HIS
      generalize formA (k + 1) = fa at g1 HIS
      generalize formB (k + 1) = fb at g2 HIS
      clear hnm hnd
      cases hm : (nameOf (k + 1) == w0.data.toList) with
      | true =>
        rw [hm] at HIS
        have HM := hid (beq_iff_eq.1 hm)
        clear hm
        go_wp2_with (go_at_call 30; refine HIS.out.mono ?_; rintro e w1 ⟨rfl, hb1⟩; have HB1 := hid hb1; clear hb1)
        go_ret
        exact ⟨k, rfl, HB.out.trans (HB1.out.mono HB.out.size), .inl ⟨k + 1, by omega, by omega, HM.out, by omega⟩⟩
      | false =>
        rw [hm] at HIS
        have HM := hid (beq_eq_false_iff_ne.1 hm)
        clear hm
        go_wp2_with (go_at_call 30; refine HIS.out.mono ?_; rintro e w1 ⟨rfl, hb1⟩; have HB1 := hid hb1; clear hb1)
        go_roundw
        case rel =>
          refine ⟨k + 1, by omega, by go_num, fun j hj1 hj2 => ?_, HB.out.trans (HB1.out.mono HB.out.size)⟩
          by_cases hjk : j = k + 1
          · rw [hjk]; exact HM.out
          · exact HNO.out j hj1 (by omega)
        case measure => simp [intOf]; omega
    · obtain rfl : k = 11 := by omega
      go_wp2_with fail
      go_ret
      exact ⟨-1, rfl, HB.out, .inr ⟨rfl, fun K h1 h2 => HNO.out K h1 h2⟩⟩
theorem read_ret {w' : World} {a : Act} {b : Nat} {x y z : Value} {fl : Bool} {R : Ending → World → Prop} (hx : w'.heap[b]? = some (.cells #[x, y, z] 47 (0, 0))) (h2 : a.tmps[2]? = some (.pointer (some ⟨b, 0, none⟩))) (h3 : a.tmps[3]? = some (.bool fl)) (hd : a.defers = [])
    (h : R (.returned (.tuple #[.agg #[x, y, z], .bool fl])) w') : bodyPost Tryd.prog Tryd.f11 R .ret a w' := by
  have c0 := blk_cell hx 0
  have c1 := blk_cell hx 1
  have c2 := blk_cell hx 2
  simp at c0 c1 c2
  refine bodyPost_ret (v := .tuple #[.agg #[x, y, z], .bool fl]) ?_ hd h
  simp [results, Tryd.results11, go_sem, h2, h3, c0, c1, c2]
/-- What Read hands back. -/
def ReadGot (s : ByteArray) (w : World) (e : Ending) (w' : World) : Prop :=
  Below w.heap.size w w' ∧ ((∃ o : Op, WfOp o ∧ opLine o = s.data.toList ∧ e = .returned (.tuple #[.agg #[.int .i64 o.what, .int .i64 o.a, .int .i64 o.b], .bool true])) ∨
    ((∀ o, WfOp o → opLine o ≠ s.data.toList) ∧ e = .returned (.tuple #[.agg #[.int .i64 0, .int .i64 0, .int .i64 0], .bool false])))
theorem read_false {w w6 : World} {a : Act} {s : ByteArray} (hb : Below w.heap.size w w6) (hx : w6.heap[w.heap.size]? = some (.cells #[.int .i64 0, .int .i64 0, .int .i64 0] 47 (0, 0))) (hno : ∀ o, WfOp o → opLine o ≠ s.data.toList)
    (h2 : a.tmps[2]? = some (.pointer (some ⟨w.heap.size, 0, none⟩))) (h3 : a.tmps[3]? = some (.bool false)) (hd : a.defers = []) :
    bodyPost Tryd.prog Tryd.f11 (ReadGot s w) .ret a (((w6.setCell ⟨w.heap.size, 0, none⟩ (.int .i64 0)).setCell ⟨w.heap.size, 1, none⟩ (.int .i64 0)).setCell ⟨w.heap.size, 2, none⟩ (.int .i64 0)) := by
  have hx1 := blk_set hx 0 (.int .i64 0)
  have hx2 := blk_set hx1 1 (.int .i64 0)
  have hx3 := blk_set hx2 2 (.int .i64 0)
  exact read_ret hx3 h2 h3 hd ⟨((hb.setCell (p := ⟨w.heap.size, 0, none⟩) (Nat.le_refl _) _).setCell (p := ⟨w.heap.size, 1, none⟩) (Nat.le_refl _) _).setCell (p := ⟨w.heap.size, 2, none⟩) (Nat.le_refl _) _, .inr ⟨hno, rfl⟩⟩
/-- An op whose first j numbers are filled in. -/
def fillXY (K : Nat) (ns : List Nat) (j : Nat) : Nat × Nat :=
  if formA K then (if 0 < j then ns.getD 0 0 else 0, if 1 < j then ns.getD 1 0 else 0) else if formB K then (0, if 0 < j then ns.getD 0 0 else 0) else (0, 0)
theorem fill_end {K : Nat} {ns : List Nat} : opOf K ns = ⟨K, ((fillXY K ns (manyOf K)).1 : Nat), ((fillXY K ns (manyOf K)).2 : Nat)⟩ := by
  unfold opOf fillXY manyOf
  cases ha : formA K with
  | true => simp [formB_of ha]
  | false => cases hb : formB K <;> simp
theorem ptrs_many (K k : Nat) : (ptrsOf K k).length = manyOf K := by
  unfold ptrsOf manyOf
  cases formA K <;> cases formB K <;> rfl
/-- The j-th number goes where the j-th pointer leads. -/
theorem fill_step {K k j : Nat} {ns : List Nat} (hj : j < manyOf K) : (∃ v, (ptrsOf K k)[j]? = some v ∧ v = .pointer (some ⟨k, 1, none⟩) ∧ fillXY K ns (j + 1) = (ns.getD j 0, (fillXY K ns j).2)) ∨ (∃ v, (ptrsOf K k)[j]? = some v ∧ v = .pointer (some ⟨k, 2, none⟩) ∧ fillXY K ns (j + 1) = ((fillXY K ns j).1, ns.getD j 0)) := by
  unfold manyOf at hj
  unfold ptrsOf fillXY
  cases ha : formA K with
  | true =>
    have hb := formB_of ha
    rw [ha, hb] at hj
    have : j = 0 ∨ j = 1 := by simp at hj; omega
    rcases this with rfl | rfl
    · exact .inl ⟨_, by simp [hb], rfl, by simp⟩
    · exact .inr ⟨_, by simp [hb], rfl, by simp⟩
  | false =>
    cases hb : formB K with
    | true =>
      rw [ha, hb] at hj
      have : j = 0 := by simp at hj; omega
      subst this
      exact .inr ⟨_, by simp, rfl, by simp⟩
    | false => rw [ha, hb] at hj; simp at hj
set_option maxHeartbeats 4000000 in
theorem read_any (s : ByteArray) (hs : s.size ≤ 1073741824) (w : World) (hf : Forms w) (hnm : Names w) (hd : Desk w) : Calls Tryd.prog 11 #[.string s] w (ReadGot s w) := by
  obtain ⟨w1, hw1⟩ : ∃ w1, w1 = w.alloc (.cells #[.int .i64 0, .int .i64 0, .int .i64 0] 47) := ⟨_, rfl⟩
  have hb1 : Below w.heap.size w w1 := by rw [hw1]; exact (Below.refl _ _).alloc (Nat.le_refl _) _
  have hbx : w1.heap[w.heap.size]? = some (.cells #[.int .i64 0, .int .i64 0, .int .i64 0] 47 (0, 0)) := by rw [hw1]; exact heap_alloc_new w _
  have HSPLIT := hid (split_any s hs w1 (hd.new hb1))
  have HF : Hid (∀ w', Below w.heap.size w w' → Forms w' ∧ Names w' ∧ Desk w') := fun w' hb => ⟨hf.new hb, hnm.new hf hb, hd.new hb⟩
  have HB1 := hid hb1
  have HBX := hid hbx
  clear hf hnm hd hb1 hbx
  go_enter Tryd.func11, Tryd.ntmps11
  go_wp2_with (go_at_call 26; rw [← hw1]; refine HSPLIT.out.mono ?_; rintro e w2 ⟨ws, n, hn, hws, hle, hns, rfl, rfl⟩; have HN := hid hn; have HWS := hid hws; have HLE := hid hle; clear hw1 hn hws hle HSPLIT)
  obtain ⟨v0, vs, hcut⟩ := cutA_cons 32 s.data.toList []
  have HCUT := hid hcut
  have hws0 := HWS.out
  rw [hcut] at hws0
  obtain ⟨w0, rest, hwr, h0, hrest⟩ : ∃ w0 rest, ws = w0 :: rest ∧ w0.data.toList = v0 ∧ rest.map (fun s : ByteArray => s.data.toList) = vs := by
    cases ws with
    | nil => simp at hws0
    | cons w0 rest =>
      rw [List.map_cons] at hws0
      injection hws0 with h1 h2
      exact ⟨w0, rest, rfl, h1, h2⟩
  have hn := HN.out
  rw [hwr, List.length_cons] at hn
  have hsl := Sl.new (split_sl (w := w1) HN.out) ((Below.refl _ _).alloc (Nat.le_refl _) (.cells #[.slice (some ⟨w1.heap.size, 0, none⟩) n n] 67))
  have hrl : ∀ x ∈ rest, x.size ≤ 1073741824 := fun x hx => Nat.le_trans (HLE.out x (by rw [hwr]; simp [hx])) hs
  obtain ⟨W2, hW2⟩ : ∃ W2, (w1.alloc (.cells (ws.map Value.string).toArray 9)).alloc (.cells #[.slice (some ⟨w1.heap.size, 0, none⟩) n n] 67) = W2 := ⟨_, rfl⟩
  have hb2 : Below w1.heap.size w1 W2 := by rw [← hW2]; exact ((Below.refl _ _).alloc (Nat.le_refl _) _).alloc (by simp) _
  have hbox : W2.heap[w1.heap.size + 1]? = some (.cells #[.slice (some ⟨w1.heap.size, 0, none⟩) n n] 67 (0, 0)) := by
    have h := heap_alloc_new (w1.alloc (.cells (ws.map Value.string).toArray 9)) (.cells #[.slice (some ⟨w1.heap.size, 0, none⟩) n n] 67)
    rw [sz_alloc, hW2] at h; exact h
  rw [hW2] at hsl ⊢
  have hsl1 : Sl W2 (some ⟨w1.heap.size, 1, none⟩) 1 (n - 1) (rest.map Value.string) := by
    refine ⟨by rw [List.length_map]; omega, fun _ => ⟨w1.heap.size, 1, rfl, by have := blk_lt hbox; omega, fun j u hu => ?_⟩⟩
    obtain ⟨b, off, e, _, hx⟩ := hsl.2 (by omega)
    injection e with e
    injection e with e1 e2
    subst e1 e2
    have := hx (j + 1) u (by rw [hwr, List.map_cons]; exact hu)
    rw [show 1 + j = 0 + (j + 1) by omega]; exact this
  have hw0 : W2.cell? ⟨w1.heap.size, 0, none⟩ = some (.string w0) := by
    obtain ⟨b, off, e, _, hx⟩ := hsl.2 (by omega)
    injection e with e
    injection e with e1 e2
    subst e1 e2
    exact hx 0 _ (by rw [hwr]; rfl)
  have HB2 := hid (HB1.out.trans (hb2.mono HB1.out.size))
  have HIX := hid (index_form w0 (w1.heap.size + 1) w1.heap.size 0 n n (by omega) W2 (HF.out W2 HB2.out).1 (HF.out W2 HB2.out).2.1 (by have := blk_cell hbox 0; simpa using this) hw0)
  have HNUMS1 : Hid (n = 1 → ∀ w', Below W2.heap.size W2 w' → Calls Tryd.prog 27 #[.slice (some ⟨w1.heap.size, 0, none⟩) 0 0, .int .i64 4] w' (NumsGot 4 rest w')) := fun h1 w' hb => numbers_any rest _ 0 0 4 (by omega) (by omega) hrl w' (HF.out w' (HB2.out.trans (hb.mono HB2.out.size))).2.2 (by
    have : rest = [] := List.eq_nil_of_length_eq_zero (by omega)
    rw [this]; exact Sl.nil _ _ _)
  have HNUMS : Hid (∀ w', Below W2.heap.size W2 w' → Calls Tryd.prog 27 #[.slice (some ⟨w1.heap.size, 1, none⟩) (n - 1) (n - 1), .int .i64 4] w' (NumsGot 4 rest w')) := fun w' hb => numbers_any rest _ (n - 1) (n - 1) 4 (by omega) (by omega) hrl w' (HF.out w' (HB2.out.trans (hb.mono HB2.out.size))).2.2 (hsl1.new hb)
  have HBX2 := hid ((hb2.block _ (blk_lt HBX.out)).trans HBX.out)
  have HBOX := hid hbox
  have HREST := hid hrest
  have HLW := hid (show w.heap.size < w1.heap.size from blk_lt HBX.out)
  clear hW2 hws0 hsl hsl1 hw0 hb2 hbox hwr hrl hrest hcut HN HWS HLE HBX HB1
  refine HIX.out.mono ?_
  rintro e w3 ⟨r, rfl, hb3, hor⟩
  rw [h0] at hor
  have HB3 := hid hb3
  have HBX3 := hid ((hb3.block _ (blk_lt HBX2.out)).trans HBX2.out)
  clear hb3 HIX h0
  rcases hor with ⟨K, hK1, hK2, hK3, rfl⟩ | ⟨rfl, hno⟩
  · have HK3 := hid hK3
    clear hK3
    have hk0 : ¬ ((K : Int) = 0) := by omega
    have hkb : (K : Int) ≤ 11 := by omega
    go_wp2_with fail
    obtain ⟨w4, hw4⟩ : ∃ w4, w4 = w3.alloc (.cells #[.int .i64 K, .int .i64 0, .int .i64 0] 47) := ⟨_, rfl⟩
    have hb4 : Below w3.heap.size w3 w4 := by rw [hw4]; exact (Below.refl _ _).alloc (Nat.le_refl _) _
    have hob : w4.heap[w3.heap.size]? = some (.cells #[.int .i64 K, .int .i64 0, .int .i64 0] 47 (0, 0)) := by rw [hw4]; exact heap_alloc_new w3 _
    have HB4 := hid (HB3.out.trans (hb4.mono HB3.out.size))
    have HB4X := hid hb4
    have hfd := fields_any K 0 0 w3.heap.size w4 (HF.out w4 (HB2.out.trans (HB4.out.mono HB2.out.size))).1 (by omega) hkb hob
    rw [Int.toNat_natCast] at hfd
    have HFD := hid hfd
    have HOB := hid hob
    have HL3 := hid (show W2.heap.size ≤ w3.heap.size from HB3.out.size)
    rw [← hw4]
    clear hw4 hb4 hfd hob
    refine HFD.out.mono ?_
    rintro e w5 ⟨A5, c5, rfl, hrow5, hnew5, hb5⟩
    have HB5 := hid (HB4.out.trans (hb5.mono HB4.out.size))
    have HB45 := hid (HB4X.out.trans (hb5.mono HB4X.out.size))
    have HOB5 := hid ((hb5.block _ (blk_lt HOB.out)).trans HOB.out)
    have HR5 := hid hrow5
    have HN5 := hid hnew5
    have xb := blk_cell ((HB5.out.block _ (blk_lt HBOX.out)).trans HBOX.out) 0
    have hxl := cell_lt xb
    simp at xb
    obtain ⟨m, hm⟩ : ∃ m, (ptrsOf K w3.heap.size).length = m := ⟨_, rfl⟩
    rw [hm]
    rw [hm] at HR5
    have HM := hid hm
    have HW5 := hid (HB2.out.trans (HB3.out.mono HB2.out.size))
    have hzb : w5.heap[w.heap.size]? = some (.cells #[.int .i64 0, .int .i64 0, .int .i64 0] 47 (0, 0)) := (HB45.out.block _ (blk_lt HBX3.out)).trans HBX3.out
    have HZ5 := hid hzb
    have HWW5 : Hid (Below w.heap.size w w5) := hid (HB2.out.trans (HB5.out.mono HB2.out.size))
    have HLO := hid (show w.heap.size < w3.heap.size from blk_lt HBX3.out)
    have HLO5 := hid (show w3.heap.size < w4.heap.size from blk_lt HOB.out)
    have HLO6 := hid (show w3.heap.size < w5.heap.size from Nat.lt_of_lt_of_le (blk_lt HOB.out) hb5.size)
    have hn1 : 1 ≤ n := by omega
    clear hrow5 hnew5 hb5 hm HFD HB4 HOB hzb
    have HN6 : Hid (if n = 1 then Calls Tryd.prog 27 #[.slice (some ⟨w1.heap.size, 0, none⟩) 0 0, .int .i64 4] w5 (NumsGot 4 rest w5) else Calls Tryd.prog 27 #[.slice (some ⟨w1.heap.size, 1, none⟩) (n - 1) (n - 1), .int .i64 4] w5 (NumsGot 4 rest w5)) := by
      split
      · rename_i h; exact HNUMS1.out h w5 HB5.out
      · exact HNUMS.out w5 HB5.out
    by_cases hn2 : n = 1
    all_goals
      first | rw [if_pos hn2] at HN6 | rw [if_neg hn2] at HN6
      go_wp2_with fail
      refine HN6.out.mono ?_
      rintro e w6 ⟨hb6, hor⟩
      rw [HREST.out] at hor
      have HB6 := hid hb6
      have HW6 := hid (HWW5.out.trans (hb6.mono HWW5.out.size))
      have HZ6 := hid ((hb6.block _ (blk_lt HZ5.out)).trans HZ5.out)
      have HOB6 := hid ((hb6.block _ (blk_lt HOB5.out)).trans HOB5.out)
      have HR6 := hid (HR5.out.new hb6)
      have hz6 := HZ6.out
      have c0 := blk_cell hz6 0
      have c1 := blk_cell hz6 1
      have c2 := blk_cell hz6 2
      have hl := blk_lt hz6
      simp at c0 c1 c2
      have fz : ∀ o, w6.frozen? ⟨w.heap.size, o, none⟩ = false := fun o => blk_free hz6 o
      clear hb6 xb hxl HN6 hz6
      have HWHO : Hid (∀ o, WfOp o → opLine o = s.data.toList → o.what.toNat = K ∧ numsOf 4 vs = some ((fieldsOf o).map Int.toNat)) := fun o ho e => by
        have h1 := HCUT.out
        rw [← e, read_cut] at h1
        injection h1 with h1 h2
        have hk := name_inj (i := o.what.toNat) (j := K) (by have := ho.what; omega) ⟨hK1, hK2⟩ (h1.trans HK3.out.symm)
        exact ⟨hk, by rw [← h2]; exact read_nums ho⟩
      rcases hor with ⟨ns, A6, m6, c6, hns6, hm6, rfl, hrow6, hnew6⟩ | ⟨hbad, rfl⟩
      · have HNS6 := hid hns6
        have HM6 := hid hm6
        have HA6 := hid hrow6
        have HN6 := hid hnew6
        clear hns6 hm6 hrow6 hnew6
        by_cases hmm : m6 = m
        · subst hmm
          have HMK := hid (show m6 = manyOf K by rw [← HM.out, ptrs_many])
          have hm2 : m6 ≤ 2 := by
            rw [HMK.out]; unfold manyOf
            cases formA K <;> cases formB K <;> decide
          go_wp2_with fail
          go_loopw [42] (fun v42 wr => ∃ j : Nat, j ≤ m6 ∧ v42 = .int .i64 j ∧ wr.heap[w3.heap.size]? = some (.cells #[.int .i64 K, .int .i64 ((fillXY K ns j).1 : Nat), .int .i64 ((fillXY K ns j).2 : Nat)] 47 (0, 0)) ∧ Row wr 84 1 A5 m6 c5 (ptrsOf K w3.heap.size) ∧ Row wr 3 1 A6 m6 c6 (ints (ns.map Int.ofNat)) ∧
            wr.heap[w.heap.size]? = some (.cells #[.int .i64 0, .int .i64 0, .int .i64 0] 47 (0, 0)) ∧ Below w.heap.size w wr) (fun v42 _ => m6 - (intOf v42).toNat)
          case atStart =>
            refine ⟨0, by omega, rfl, ?_, HR6.out, HA6.out, HZ6.out, HW6.out⟩
            have h0 : fillXY K ns 0 = (0, 0) := by unfold fillXY; split <;> simp
            rw [h0]; exact HOB6.out
          case round =>
            obtain ⟨j, hj, rfl, hob, hr5, hr6, hz, hb⟩ := hrel
            have HOBJ := hid hob
            have HRJ5 := hid hr5
            have HRJ6 := hid hr6
            have HZJ := hid hz
            have HBJ := hid hb
            clear hob hr5 hr6 hz hb c0 c1 c2 hl fz
            by_cases hjm : j < m6
            · have HST := hid (fill_step (k := w3.heap.size) (ns := ns) (show j < manyOf K by rw [← HMK.out]; exact hjm))
              obtain ⟨b6, off6, rfl, _, hx6⟩ := HRJ6.out.sl.2 (by omega)
              have q6 := hx6 j (.int .i64 ((ns.getD j 0 : Nat) : Int)) (by
                have hjl : j < ns.length := by rw [HM6.out]; exact hjm
                unfold ints
                rw [List.getElem?_map, List.getElem?_map, List.getElem?_eq_getElem hjl, List.getD_eq_getElem?_getD, List.getElem?_eq_getElem hjl]; rfl)
              clear hx6
              obtain ⟨b5, off5, rfl, _, hx5⟩ := HRJ5.out.sl.2 (by omega)
              have hobj := HOBJ.out
              have d0 := blk_cell hobj 0
              have d1 := blk_cell hobj 1
              have d2 := blk_cell hobj 2
              simp at d0 d1 d2
              have dz : ∀ o, wr.frozen? ⟨w3.heap.size, o, none⟩ = false := fun o => blk_free hobj o
              rcases HST.out with ⟨v, hv, rfl, hfl⟩ | ⟨v, hv, rfl, hfl⟩
              all_goals
                have q5 := hx5 j _ hv
                have HFL := hid hfl
                clear hv hfl hx5 hobj
                generalize ns.getD j 0 = N at q6 HFL
                go_wp2_with fail
                go_roundw
                case rel =>
                  refine ⟨j + 1, by omega, by go_num, ?_, HRJ5.out.setCell (fun hi => ?_) _, HRJ6.out.setCell (fun hi => ?_) _, ?_, ?_⟩
                  · rw [HFL.out]
                    first | exact blk_set HOBJ.out 1 _ | exact blk_set HOBJ.out 2 _
                  · have := HN5.out _ hi; have := HLO5.out; simp at *; omega
                  · have := HN6.out _ hi; have := HLO6.out; simp at *; omega
                  · rw [blk_far (by have := HLO.out; simp; omega)]; exact HZJ.out
                  · exact HBJ.out.setCell (by have := HLO.out; simp; omega) _
                case measure => simp [intOf]; omega
            · obtain rfl : j = m6 := by omega
              have hobj := HOBJ.out
              have d0 := blk_cell hobj 0
              have d1 := blk_cell hobj 1
              have d2 := blk_cell hobj 2
              have dl := blk_lt hobj
              simp at d0 d1 d2
              have hzj := HZJ.out
              have c0 := blk_cell hzj 0
              have c1 := blk_cell hzj 1
              have c2 := blk_cell hzj 2
              have hl := blk_lt hzj
              simp at c0 c1 c2
              have fz : ∀ o, wr.frozen? ⟨w.heap.size, o, none⟩ = false := fun o => blk_free hzj o
              clear hobj hzj
              go_wp2_with fail
              have hx1 := blk_set HZJ.out 0 (.int .i64 K)
              have hx2 := blk_set hx1 1 (.int .i64 ((fillXY K ns j).1 : Nat))
              have hx3 := blk_set hx2 2 (.int .i64 ((fillXY K ns j).2 : Nat))
              have HBF := ((HBJ.out.setCell (p := ⟨w.heap.size, 0, none⟩) (Nat.le_refl _) (.int .i64 K)).setCell (p := ⟨w.heap.size, 1, none⟩) (Nat.le_refl _) (.int .i64 ((fillXY K ns j).1 : Nat))).setCell (p := ⟨w.heap.size, 2, none⟩) (Nat.le_refl _) (.int .i64 ((fillXY K ns j).2 : Nat))
              obtain ⟨h1, h2⟩ := read_yes HCUT.out ⟨hK1, hK2⟩ HK3.out HNS6.out (HM6.out.trans HMK.out)
              rw [fill_end, ← HMK.out] at h1 h2
              exact read_ret hx3 rfl rfl rfl ⟨HBF, .inl ⟨_, h1, h2, rfl⟩⟩
        · have hmm' : ¬ (m6 : Int) = (m : Int) := by omega
          go_wp2_with fail
          refine read_false HW6.out HZ6.out (fun o ho e => ?_) rfl rfl rfl
          obtain ⟨h1, h2⟩ := HWHO.out o ho e
          rw [HNS6.out] at h2
          injection h2 with h2
          have h3 := (op_wf ho).2.1
          have h4 := HM.out
          have h5 := HM6.out
          rw [ptrs_many] at h4
          rw [h2, List.length_map, h3, h1] at h5
          omega
      · have HBAD := hid hbad
        clear hbad
        go_wp2_with fail
        refine read_false HW6.out HZ6.out (fun o ho e => ?_) rfl rfl rfl
        have h1 := (HWHO.out o ho e).2
        rw [HBAD.out] at h1
        cases h1
  · have HNO := hid hno
    have hx := HBX3.out
    have c0 := blk_cell hx 0
    have c1 := blk_cell hx 1
    have c2 := blk_cell hx 2
    have hl := blk_lt hx
    simp at c0 c1 c2
    have fz : ∀ o, w3.frozen? ⟨w.heap.size, o, none⟩ = false := fun o => blk_free hx o
    clear hno hx
    go_wp2_with fail
    refine read_false (HB2.out.trans (HB3.out.mono HB2.out.size)) HBX3.out (fun o ho e => ?_) rfl rfl rfl
    have h1 := HCUT.out
    rw [← e, read_cut] at h1
    injection h1 with h1 _
    exact HNO.out o.what.toNat (by have := ho.what; omega) (by have := ho.what; omega) h1
end Go.Proofs.YtldllmhgofacbaaDoor
