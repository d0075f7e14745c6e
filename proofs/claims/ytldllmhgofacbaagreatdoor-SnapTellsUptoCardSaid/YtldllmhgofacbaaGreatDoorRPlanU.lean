/- Several parts: each begins with what it says. -/
import Derived.Test.YtldllmhgofacbaaGreatDoorLineU
import Derived.Deep.Cut
import Derived.Test.YtldllmhgofacbaaGreatDoorPlanU
import Derived.Test.YtldllmhgofacbaaGreatDoorDoU
import Derived.Deep.DeepCutAuto
import Derived.Deep.CutBlock
import Derived.Test.YtldllmhgofacbaaGreatDoorRLineU
/- frameref1.Put, Ports: a list that rises; on which wires does code do such? -/
namespace Go.Proofs.YtldllmhgofacbaaGreatDoor
open Go.RowKit
set_option maxRecDepth 100000

/-- Put a number into a list, once. -/
def putL : List Int → Int → List Int
  | [], v => [v]
  | x :: l, v => if x = v then x :: l else if v < x then v :: x :: l else x :: putL l v
theorem putL_len : ∀ (l : List Int) (v : Int), (putL l v).length ≤ l.length + 1
  | [], v => by simp [putL]
  | x :: l, v => by
    have := putL_len l v
    unfold putL
    split
    · simp
    · split <;> simp; omega
theorem putL_mem : ∀ (l : List Int) (v u : Int), u ∈ putL l v ↔ u = v ∨ u ∈ l
  | [], v, u => by simp [putL]
  | x :: l, v, u => by
    have := putL_mem l v u
    unfold putL
    split
    · rename_i h; subst h; simp
    · split
      · simp
      · simp only [List.mem_cons, this]
        constructor
        · rintro (h | h | h) <;> simp [h]
        · rintro (h | h | h) <;> simp [h]
def PutIs (d : Bool) (ys rest : List Int) (v : Int) (tgt : List Int) : Prop := if d = true then ys ++ rest = tgt else ys ++ putL rest v = tgt
theorem PutIs.eq {d : Bool} {ys rest : List Int} {v : Int} {tgt : List Int} (h : PutIs d ys (v :: rest) v tgt) : PutIs true (ys ++ [v]) rest v tgt := by
  unfold PutIs at h ⊢
  cases d <;> simp [putL] at h ⊢ <;> exact h
theorem PutIs.past {x : Int} {ys rest : List Int} {v : Int} {tgt : List Int} (h : PutIs true ys (x :: rest) v tgt) : PutIs true (ys ++ [x]) rest v tgt := by
  unfold PutIs at h ⊢
  simp at h ⊢; exact h
theorem PutIs.ins {x : Int} {ys rest : List Int} {v : Int} {tgt : List Int} (h : PutIs false ys (x :: rest) v tgt) (h1 : x ≠ v) (h2 : v < x) : PutIs true (ys ++ [v] ++ [x]) rest v tgt := by
  unfold PutIs at h ⊢
  simp [putL, h1, h2] at h ⊢; exact h
theorem PutIs.skip {x : Int} {ys rest : List Int} {v : Int} {tgt : List Int} (h : PutIs false ys (x :: rest) v tgt) (h1 : x ≠ v) (h2 : ¬ v < x) : PutIs false (ys ++ [x]) rest v tgt := by
  unfold PutIs at h ⊢
  simp [putL, h1, h2] at h ⊢; exact h

theorem one_sl (w : World) (v : Value) (T : Nat) : Sl (w.alloc (.cells #[v] T)) (some ⟨w.heap.size, 0, none⟩) 1 1 [v] :=
  ⟨rfl, fun _ => ⟨w.heap.size, 0, rfl, by simp, fun j u hu => by
    match j, hu with
    | 0, hu => simp at hu; subst hu; exact blk_cell (heap_alloc_new w _) 0⟩⟩
theorem put_app {w wr w2 : World} {A A' : Option Addr} {q c' : Nat} {ys : List Int} {x : Int} {o : Obj} (hfr : ∀ j, InA A j → w.heap.size ≤ j) (hb : Below w.heap.size w wr)
    (hr : Row w2 3 1 A' (q + 1) c' (ints ys ++ [.int .i64 x])) (hk : Keep (InA A) (wr.alloc o) w2) (hn : ∀ j, InA A' j → InA A j ∨ (wr.alloc o).heap.size ≤ j) :
    Row w2 3 1 A' (q + 1) c' (ints (ys ++ [x])) ∧ (∀ j, InA A' j → w.heap.size ≤ j) ∧ Below w.heap.size w w2 := by
  have hs := hb.size
  refine ⟨by unfold ints at hr ⊢; rw [List.map_append]; exact hr, fun j hj => ?_, ?_⟩
  · rcases hn j hj with h | h
    · exact hfr j h
    · rw [sz_alloc] at h; omega
  · exact Keep.below (F := NoF) ((Keep.of_below NoF (hb.alloc hs o)).then hk fun j hj h => by have := hfr j h; omega) (Nat.le_refl _) (fun j h => h.elim)

/-- A list of numbers in new memory. -/
def Drawn (w : World) (ys : List Int) (e : Ending) (w' : World) : Prop :=
  ∃ A n c, e = .returned (.slice A n c) ∧ n = ys.length ∧ Row w' 3 1 A n c (ints ys) ∧ (∀ j, InA A j → w.heap.size ≤ j) ∧ Below w.heap.size w w'

/-- What holds as the list is walked. -/
structure PutMid (w : World) (n : Nat) (l : List Int) (v : Int) (v5 v6 v7 : Value) (wr : World) (i : Nat) (d : Bool) (A : Option Addr) (q c : Nat) (ys : List Int) : Prop where
  ile : i ≤ n
  e5 : v5 = .slice A q c
  e6 : v6 = .bool d
  e7 : v7 = .int .i64 i
  len : q = ys.length
  most : q ≤ i + d.toNat
  row : Row wr 3 1 A q c (ints ys)
  fresh : ∀ j, InA A j → w.heap.size ≤ j
  below : Below w.heap.size w wr
  is : PutIs d ys (l.drop i) v (putL l v)

set_option maxHeartbeats 4000000 in
theorem rput_any (A0 : Option Addr) (n c0 : Nat) (l : List Int) (v : Int) (w : World) (hA : Sl w A0 1 n (ints l)) (hn : n ≤ 1000) (_hc : n ≤ c0) :
    Calls Tryz.prog 96 #[.slice A0 n c0, .int .i64 v] w (Drawn w (putL l v)) := by
  have HA := hid hA
  have hlen : l.length = n := by have := hA.1; rw [ints_len] at this; omega
  have HL := hid hlen
  obtain ⟨i0, hi, hz0, hz1, hz2⟩ := info_parts Tryz.infoInt
  clear hA hlen
  go_enter Tryz.func96, Tryz.ntmps96
  go_wp2_with fail
  go_loopw [5, 6, 7] (fun v5 v6 v7 wr => ∃ i d A q c ys, PutMid w n l v v5 v6 v7 wr i d A q c ys) (fun _ _ v7 _ => n - (intOf v7).toNat)
  case atStart => exact ⟨0, false, none, 0, 0, [], by omega, rfl, rfl, rfl, rfl, by simp, Row.nil _ _ _, fun j hj => by simp [InA] at hj, Below.refl _ _, by simp [PutIs]⟩
  case round =>
    obtain ⟨i, d, A, q, c, ys, hile, rfl, rfl, rfl, hlen, hmost, hrow, hfresh, hbelow, his⟩ := hrel
    have HLEN := hid hlen
    have hm1 : q ≤ i + 1 := by have := Bool.toNat_le d; omega
    have HROW := hid hrow
    have HFR := hid hfresh
    have HB := hid hbelow
    have HIS := hid his
    clear hlen hrow hfresh hbelow his
    by_cases hin : i < n
    · obtain ⟨b, o, rfl, hlb, hx⟩ := HA.out.2 (by omega)
      have hil : i < l.length := by rw [HL.out]; exact hin
      have hu : (ints l)[i]? = some (.int .i64 l[i]) := by simp [ints, hil]
      have c1 := (HB.out.cell (p := ⟨b, o + i, none⟩) hlb).trans (hx i _ hu)
      have hdrop : l.drop i = l[i] :: l.drop (i + 1) := List.drop_eq_getElem_cons hil
      have his := HIS.out
      rw [hdrop] at his
      generalize l[i] = x at c1 his
      have HI2 := hid his
      have c2 : ∀ o', (wr.alloc o').cell? ⟨b, o + i, none⟩ = some (.int .i64 x) := fun o' => (World.cell?_alloc_lt wr o' ⟨b, o + i, none⟩ (cell_lt c1)).trans c1
      have HRA : Hid (∀ o', Row (wr.alloc o') 3 1 A q c (ints ys)) := fun o' => HROW.out.alloc o'
      clear hu hx hil hdrop his HIS
      by_cases hxv : x = v
      · subst hxv
        have hmost := hm1
        go_wp2_with (at_builtin; refine wpList_append_row _ rfl _ _ 64 rfl 3 i0 (.int .i64 0) 1 8 Tryz.underlying64 hi hz0 hz1 hz2 rfl (by decide) A q c (ints ys) rfl (HRA.out _) (some ⟨wr.heap.size, 0, none⟩) 1 1 [.int .i64 x] rfl (one_sl _ _ _) (by intro u hu; simp at hu; subst hu; rfl) (by unfold maxLen; omega) (by omega) ?_; intro A' c' w2 hr2 hk2 hn2; have HP := hid (put_app HFR.out HB.out hr2 hk2 hn2); clear hr2 hk2 hn2)
        go_roundw
        case rel => exact ⟨i + 1, true, A', q + 1, c', ys ++ [x], by omega, rfl, rfl, by go_num, by simp [HLEN.out], by simp at hmost ⊢; omega, HP.out.1, HP.out.2.1, HP.out.2.2, HI2.out.eq⟩
        case measure => simp [intOf]; omega
      · have e1 : (x == v) = false := by simpa using hxv
        cases d with
        | true =>
          clear hxv
          go_wp2_with (at_builtin; refine wpList_append_row _ rfl _ _ 64 rfl 3 i0 (.int .i64 0) 1 8 Tryz.underlying64 hi hz0 hz1 hz2 rfl (by decide) A q c (ints ys) rfl (HRA.out _) (some ⟨wr.heap.size, 0, none⟩) 1 1 [.int .i64 x] rfl (one_sl _ _ _) (by intro u hu; simp at hu; subst hu; rfl) (by unfold maxLen; omega) (by omega) ?_; intro A' c' w2 hr2 hk2 hn2; have HP := hid (put_app HFR.out HB.out hr2 hk2 hn2); clear hr2 hk2 hn2)
          go_roundw
          case rel => exact ⟨i + 1, true, A', q + 1, c', ys ++ [x], by omega, rfl, rfl, by go_num, by simp [HLEN.out], by simp at hmost ⊢; omega, HP.out.1, HP.out.2.1, HP.out.2.2, HI2.out.past⟩
          case measure => simp [intOf]; omega
        | false =>
          have HXV := hid hxv
          have hmost : q ≤ i := by simpa using hmost
          clear hxv
          by_cases hvx : v < x
          · go_upto_region 10 with (at_builtin; refine wpList_append_row _ rfl _ _ 64 rfl 3 i0 (.int .i64 0) 1 8 Tryz.underlying64 hi hz0 hz1 hz2 rfl (by decide) A q c (ints ys) rfl (HRA.out _) (some ⟨wr.heap.size, 0, none⟩) 1 1 [.int .i64 v] rfl (one_sl _ _ _) (by intro u hu; simp at hu; subst hu; rfl) (by unfold maxLen; omega) (by omega) ?_; intro A' c' w2 hr2 hk2 hn2; have HP := hid (put_app HFR.out HB.out hr2 hk2 hn2); clear hr2 hk2 hn2)
            have c3 : ∀ o', (w2.alloc o').cell? ⟨b, o + i, none⟩ = some (.int .i64 x) := fun o' => by
              have hk : w2.cell? ⟨b, o + i, none⟩ = some (.int .i64 x) := (HP.out.2.2.cell (p := ⟨b, o + i, none⟩) hlb).trans ((HB.out.cell (p := ⟨b, o + i, none⟩) hlb).symm.trans c1)
              exact (World.cell?_alloc_lt w2 o' ⟨b, o + i, none⟩ (cell_lt hk)).trans hk
            have c4 : w2.cell? ⟨b, o + i, none⟩ = some (.int .i64 x) := (HP.out.2.2.cell (p := ⟨b, o + i, none⟩) hlb).trans ((HB.out.cell (p := ⟨b, o + i, none⟩) hlb).symm.trans c1)
            go_wp2_with (at_builtin; refine wpList_append_row _ rfl _ _ 64 rfl 3 i0 (.int .i64 0) 1 8 Tryz.underlying64 hi hz0 hz1 hz2 rfl (by decide) A' (q + 1) c' (ints (ys ++ [v])) rfl (HP.out.1.alloc _) (some ⟨w2.heap.size, 0, none⟩) 1 1 [.int .i64 x] rfl (one_sl _ _ _) (by intro u hu; simp at hu; subst hu; rfl) (by unfold maxLen; omega) (by omega) ?_; intro A'' c'' w3 hr2 hk2 hn2; have HP3 := hid (put_app HP.out.2.1 HP.out.2.2 hr2 hk2 hn2); clear hr2 hk2 hn2)
            go_roundw
            case rel => exact ⟨i + 1, true, A'', q + 1 + 1, c'', ys ++ [v] ++ [x], by omega, rfl, rfl, by go_num, by simp [HLEN.out], by simp at hmost ⊢; omega, HP3.out.1, HP3.out.2.1, HP3.out.2.2, HI2.out.ins HXV.out hvx⟩
            case measure => simp [intOf]; omega
          · go_wp2_with (at_builtin; refine wpList_append_row _ rfl _ _ 64 rfl 3 i0 (.int .i64 0) 1 8 Tryz.underlying64 hi hz0 hz1 hz2 rfl (by decide) A q c (ints ys) rfl (HRA.out _) (some ⟨wr.heap.size, 0, none⟩) 1 1 [.int .i64 x] rfl (one_sl _ _ _) (by intro u hu; simp at hu; subst hu; rfl) (by unfold maxLen; omega) (by omega) ?_; intro A' c' w2 hr2 hk2 hn2; have HP := hid (put_app HFR.out HB.out hr2 hk2 hn2); clear hr2 hk2 hn2)
            go_roundw
            case rel => exact ⟨i + 1, false, A', q + 1, c', ys ++ [x], by omega, rfl, rfl, by go_num, by simp [HLEN.out], by simp at hmost ⊢; omega, HP.out.1, HP.out.2.1, HP.out.2.2, HI2.out.skip HXV.out hvx⟩
            case measure => simp [intOf]; omega
    · obtain rfl : n = i := by omega
      have hd0 : l.drop n = [] := List.drop_eq_nil_of_le (by rw [HL.out]; exact Nat.le_refl _)
      have his := HIS.out
      rw [hd0] at his
      have HI2 := hid his
      have HRA : Hid (∀ o', Row (wr.alloc o') 3 1 A q c (ints ys)) := fun o' => HROW.out.alloc o'
      clear hd0 his HIS
      cases d with
      | true =>
        go_wp2_with fail
        go_ret
        have h := HI2.out
        simp [PutIs] at h
        exact ⟨A, q, c, rfl, by rw [← h]; exact HLEN.out, by rw [← h]; exact HROW.out, HFR.out, HB.out⟩
      | false =>
        go_wp2_with (at_builtin; refine wpList_append_row _ rfl _ _ 64 rfl 3 i0 (.int .i64 0) 1 8 Tryz.underlying64 hi hz0 hz1 hz2 rfl (by decide) A q c (ints ys) rfl (HRA.out _) (some ⟨wr.heap.size, 0, none⟩) 1 1 [.int .i64 v] rfl (one_sl _ _ _) (by intro u hu; simp at hu; subst hu; rfl) (by unfold maxLen; omega) (by omega) ?_; intro A' c' w2 hr2 hk2 hn2; have HP := hid (put_app HFR.out HB.out hr2 hk2 hn2); clear hr2 hk2 hn2)
        go_ret
        have h := HI2.out
        simp [PutIs, putL] at h
        exact ⟨A', q + 1, c', rfl, by rw [← h]; simp [HLEN.out], by rw [← h]; exact HP.out.1, HP.out.2.1, HP.out.2.2⟩
end Go.Proofs.YtldllmhgofacbaaGreatDoor

/- frameref1.Ports: on which wires does code do such? -/
namespace Go.Proofs.YtldllmhgofacbaaGreatDoor
open Go.RowKit
set_option maxRecDepth 100000

def portsL : List Op → Int → List Int → List Int
  | [], _, acc => acc
  | o :: l, k, acc => portsL l k (if o.what = k then putL acc o.b else acc)
theorem portsL_app (k : Int) : ∀ (l r : List Op) (acc : List Int), portsL (l ++ r) k acc = portsL r k (portsL l k acc)
  | [], _, _ => rfl
  | _ :: l, r, _ => portsL_app k l r _
theorem portsL_mem (k : Int) (u : Int) : ∀ (l : List Op) (acc : List Int), u ∈ portsL l k acc ↔ u ∈ acc ∨ ∃ o ∈ l, o.what = k ∧ o.b = u
  | [], acc => by simp [portsL]
  | o :: l, acc => by
    have h := portsL_mem k u l (if o.what = k then putL acc o.b else acc)
    unfold portsL
    rw [h]
    by_cases e : o.what = k
    · rw [if_pos e, putL_mem]
      constructor
      · rintro ((h | h) | ⟨x, hx, h⟩)
        · exact .inr ⟨o, by simp, e, h.symm⟩
        · exact .inl h
        · exact .inr ⟨x, by simp [hx], h⟩
      · rintro (h | ⟨x, hx, h1, h2⟩)
        · exact .inl (.inr h)
        · rcases List.mem_cons.1 hx with rfl | hx
          · exact .inl (.inl h2.symm)
          · exact .inr ⟨x, hx, h1, h2⟩
    · rw [if_neg e]
      constructor
      · rintro (h | ⟨x, hx, h⟩)
        · exact .inl h
        · exact .inr ⟨x, by simp [hx], h⟩
      · rintro (h | ⟨x, hx, h1, h2⟩)
        · exact .inl h
        · rcases List.mem_cons.1 hx with rfl | hx
          · exact absurd h1 e
          · exact .inr ⟨x, hx, h1, h2⟩
theorem portsL_len (k : Int) : ∀ (l : List Op) (acc : List Int), (portsL l k acc).length ≤ acc.length + l.length
  | [], acc => by simp [portsL]
  | o :: l, acc => by
    have h := portsL_len k l (if o.what = k then putL acc o.b else acc)
    have h2 := putL_len acc o.b
    unfold portsL
    simp only [List.length_cons]
    split at h <;> split <;> first | omega | (rename_i a b; exact absurd a b) | (rename_i a b; exact absurd b a)

/-- What holds as the ops are walked. -/
structure PortsMid (w : World) (n : Nat) (l : List Op) (k : Int) (v5 v6 : Value) (wr : World) (i : Nat) (A : Option Addr) (q c : Nat) (ys : List Int) : Prop where
  ile : i ≤ n
  e5 : v5 = .slice A q c
  e6 : v6 = .int .i64 i
  len : q = ys.length
  most : q ≤ i
  row : Row wr 3 1 A q c (ints ys)
  fresh : ∀ j, InA A j → w.heap.size ≤ j
  below : Below w.heap.size w wr
  is : ys = portsL (l.take i) k []

set_option maxHeartbeats 4000000 in
theorem rports_any (A0 : Option Addr) (n c0 : Nat) (l : List Op) (v : Int) (w : World) (hA : Sl w A0 3 n (l.flatMap Op.cells)) (hn : n ≤ 900) (_hc : n ≤ c0) :
    Calls Tryz.prog 32 #[.slice A0 n c0, .int .i64 v] w (Drawn w (portsL l v [])) := by
  have HA := hid hA
  have hlen : l.length = n := by have := hA.1; rw [flatMap_len Op.cells 3 Op.len] at this; omega
  have HL := hid hlen
  clear hA hlen
  go_enter Tryz.func32, Tryz.ntmps32
  go_wp2_with fail
  go_loopw [5, 6] (fun v5 v6 wr => ∃ i A q c ys, PortsMid w n l v v5 v6 wr i A q c ys) (fun _ v6 _ => n - (intOf v6).toNat)
  case atStart => exact ⟨0, none, 0, 0, [], by omega, rfl, rfl, rfl, by omega, Row.nil _ _ _, fun j hj => by simp [InA] at hj, Below.refl _ _, rfl⟩
  case round =>
    obtain ⟨i, A, q, c, ys, hile, rfl, rfl, hlen, hmost, hrow, hfresh, hbelow, his⟩ := hrel
    have HLEN := hid hlen
    have HROW := hid hrow
    have HFR := hid hfresh
    have HB := hid hbelow
    have HIS := hid his
    have hqc := hrow.le.1
    clear hlen hrow hfresh hbelow his
    by_cases hin : i < n
    · have hil : i < l.length := by rw [HL.out]; exact hin
      obtain ⟨b, off, rfl, hlb, g0, g1, g2⟩ := HA.out.op HB.out hil hin
      have htake : l.take (i + 1) = l.take i ++ [l[i]] := List.take_succ_eq_append_getElem hil
      generalize l[i] = x at g0 g1 g2 htake
      have HT := hid htake
      clear htake hil
      by_cases hxv : x.what = v
      · have hnx : portsL (l.take (i + 1)) v [] = putL ys x.b := by
          rw [HT.out, portsL_app, ← HIS.out]; show portsL [] v (if x.what = v then _ else _) = _; rw [if_pos hxv]; rfl
        have HNX := hid hnx
        have HPUT : Hid (Calls Tryz.prog 96 #[.slice A q c, .int .i64 x.b] wr (Drawn wr (putL ys x.b))) := rput_any A q c ys x.b wr HROW.out.sl (by omega) hqc
        rw [hxv] at g0
        clear hnx hxv
        go_wp2_with (go_at_call 96; refine HPUT.out.mono ?_; rintro e w2 ⟨A2, n2, c2, rfl, hn2, hr2, hf2, hb2⟩; have HN2 := hid hn2; have HR2 := hid hr2; have HF2 := hid hf2; have HB2 := hid hb2; clear hn2 hr2 hf2 hb2)
        go_roundw
        case rel =>
          have h1 := putL_len ys x.b
          have h2 := HLEN.out
          have h3 := HN2.out
          exact ⟨i + 1, A2, n2, c2, putL ys x.b, by omega, rfl, by go_num, h3, by omega, HR2.out, fun j hj => Nat.le_trans HB.out.size (HF2.out j hj), HB.out.trans (HB2.out.mono HB.out.size), HNX.out.symm⟩
        case measure => simp [intOf]; omega
      · have hnx : portsL (l.take (i + 1)) v [] = ys := by
          rw [HT.out, portsL_app, ← HIS.out]; show portsL [] v (if x.what = v then _ else _) = _; rw [if_neg hxv]; rfl
        have HNX := hid hnx
        have e1 : (x.what == v) = false := by simpa using hxv
        clear hnx hxv
        go_wp2_with fail
        go_roundw
        case rel => exact ⟨i + 1, A, q, c, ys, by omega, rfl, by go_num, HLEN.out, by omega, HROW.out, HFR.out, HB.out, HNX.out.symm⟩
        case measure => simp [intOf]; omega
    · obtain rfl : n = i := by omega
      go_wp2_with fail
      go_ret
      have h := HIS.out
      rw [List.take_of_length_le (by rw [HL.out]; exact Nat.le_refl _)] at h
      exact ⟨A, q, c, rfl, by rw [← h]; exact HLEN.out, by rw [← h]; exact HROW.out, HFR.out, HB.out⟩
end Go.Proofs.YtldllmhgofacbaaGreatDoor

/- The reference of code and states: contracts of frameref1.Code and State. -/
namespace Go.Proofs.YtldllmhgofacbaaGreatDoor
open Go.RowKit
set_option maxRecDepth 100000

def TellNI (w : World) (r : Nat × Int) (e : Ending) (w' : World) : Prop := e = .returned (.tuple #[.int .i64 r.1, .int .i64 r.2]) ∧ Below w.heap.size w w'
theorem opOk_cases {what a b many : Int} : (what < 1 ∨ 11 < what) ∧ opOk ⟨what, a, b⟩ many = false ∨ (1 ≤ what ∧ what ≤ 11) ∧
    (opOk ⟨what, a, b⟩ many = false ∧ (a < 0 ∨ 0 ≤ a ∧ aBound what ≤ a ∨ (0 ≤ a ∧ a < aBound what) ∧ b < 0 ∨ (0 ≤ a ∧ a < aBound what) ∧ 0 ≤ b ∧ bBound what many ≤ b) ∨
     opOk ⟨what, a, b⟩ many = true ∧ 0 ≤ a ∧ a < aBound what ∧ 0 ≤ b ∧ b < bBound what many) := by
  by_cases h : what < 1 ∨ 11 < what
  · left; exact ⟨h, decide_eq_false (by simp only []; omega)⟩
  · right; refine ⟨by omega, ?_⟩
    by_cases h2 : 0 ≤ a ∧ a < aBound what ∧ 0 ≤ b ∧ b < bBound what many
    · right; exact ⟨decide_eq_true (by simp only []; omega), h2⟩
    · left; exact ⟨decide_eq_false (by simp only []; omega), by omega⟩

set_option maxHeartbeats 4000000 in
theorem rcode_any (A : Option Addr) (c : Nat) (l : List Op) (w : World) (hs : Sl w A 3 l.length (l.flatMap Op.cells)) (hsw : SlW A c l.length) :
    Calls Tryz.prog 29 #[.slice A l.length c] w (TellNI w (codeChk l)) := by
  obtain ⟨hs1, hs2, hs3⟩ := hsw
  unfold maxLen at hs2
  have HS := hid hs
  clear hs hs3
  unfold codeChk
  by_cases h0 : l.length = 0
  · rw [if_pos h0]
    rw [h0]
    clear h0 HS hs1
    go_enter Tryz.func29, Tryz.ntmps29
    go_wp2
    go_ret2
    exact ⟨rfl, Below.refl _ _⟩
  rw [if_neg h0]
  have h0' : (((l.length : Nat) : Int) == 0) = false := by simpa using h0
  have h01 : 0 < l.length := by omega
  by_cases h20 : 20 < l.length
  · rw [if_pos h20]
    clear HS hs1 h0
    go_enter Tryz.func29, Tryz.ntmps29
    go_wp2
    go_ret2
    exact ⟨rfl, Below.refl _ _⟩
  · rw [if_neg h20]
    obtain ⟨q, hq⟩ : ∃ q, q = opsChk l.length l (l.length + 1) 0 := ⟨_, rfl⟩
    rw [← hq]
    have HQ := hid hq
    obtain ⟨n, hn⟩ : ∃ n, n = l.length := ⟨_, rfl⟩
    rw [← hn] at h0 h0' h01 h20 hs1 HS HQ ⊢
    have HN := hid hn
    clear hq hn h0
    go_enter Tryz.func29, Tryz.ntmps29
    go_wp2_with fail
    go_loopw [4] (fun v4 wr => ∃ k : Nat, k ≤ n ∧ v4 = .int .i64 k ∧ q = opsChk n l (n + 1 - k) k ∧ Below w.heap.size w wr) (fun v4 _ => n - (intOf v4).toNat)
    case atStart => exact ⟨0, by omega, rfl, HQ.out, Below.refl _ _⟩
    case round =>
      obtain ⟨k, hk, rfl, hr, hb⟩ := hrel
      have HR := hid hr
      have HB := hid hb
      clear hr hb
      by_cases hkl : k < n
      · obtain ⟨f, hf⟩ : ∃ f, n + 1 - k = f + 1 := ⟨n - k, by omega⟩
        have HF := hid hf
        clear hf
        have hkl2 : k < l.length := by rw [← HN.out]; exact hkl
        obtain ⟨b, off, rfl, hlb, g0, g1, g2⟩ := HS.out.op HB.out hkl2 hkl
        have hget := List.getElem?_eq_getElem hkl2
        generalize l[k] = x at g0 g1 g2 hget
        obtain ⟨what, a, bb⟩ := x
        simp only [] at g0 g1 g2
        have HG := hid hget
        clear hget
        rcases opOk_cases (what := what) (a := a) (b := bb) (many := n) with ⟨hw, hok⟩ | ⟨⟨hw1, hw2⟩, hrest⟩
        · have hq := HR.out
          rw [HF.out, opsChk_bad HG.out hok] at hq
          subst hq
          have e1 : (what == 1) = false := by simp; omega
          have e2 : (what == 2) = false := by simp; omega
          have e3 : (what == 3) = false := by simp; omega
          have e4 : (what == 4) = false := by simp; omega
          have e5 : (what == 5) = false := by simp; omega
          have e6 : (what == 6) = false := by simp; omega
          have e7 : (what == 7) = false := by simp; omega
          have e8 : (what == 8) = false := by simp; omega
          have e9 : (what == 9) = false := by simp; omega
          have e10 : (what == 10) = false := by simp; omega
          have e11 : (what == 11) = false := by simp; omega
          clear hw hok
          go_wp2_with fail
          go_ret2
          exact ⟨rfl, HB.out.alloc HB.out.size _⟩
        · go_upto_block 2 with fail
          obtain ⟨AB, hAB⟩ : ∃ AB, aBound what = AB := ⟨_, rfl⟩
          obtain ⟨BB, hBB⟩ : ∃ BB, bBound what n = BB := ⟨_, rfl⟩
          rw [hAB, hBB] at hrest
          have HAB := hid hAB
          have HBB := hid hBB
          have HREST := hid hrest
          obtain ⟨wa, hwa⟩ : ∃ wa, wa = wr.alloc (.cells #[.int .i64 what, .int .i64 a, .int .i64 bb] 42) := ⟨_, rfl⟩
          have haa : wa.heap[wr.heap.size]? = some (.cells #[.int .i64 what, .int .i64 a, .int .i64 bb] 42 (0, 0)) := by rw [hwa]; exact heap_alloc_new wr _
          have hab : Below w.heap.size w wa := by rw [hwa]; exact HB.out.alloc HB.out.size _
          rw [← hwa]
          have k0 : wa.cell? ⟨wr.heap.size, 0, none⟩ = some (.int .i64 what) := blk_cell haa 0
          have k1 : wa.cell? ⟨wr.heap.size, 1, none⟩ = some (.int .i64 a) := blk_cell haa 1
          have k2 : wa.cell? ⟨wr.heap.size, 2, none⟩ = some (.int .i64 bb) := blk_cell haa 2
          have HAAB := hid hab
          clear hwa haa hab g0 g1 g2 hAB hBB hrest
          go_cut [6, 7] from 14 to 68 (fun v6 v7 wx => v6 = .int .i64 AB ∧ v7 = .int .i64 BB ∧ wx = wa)
          case first =>
            as_aux_lemma =>
            rcases (show what = 1 ∨ what = 2 ∨ what = 3 ∨ what = 4 ∨ what = 5 ∨ what = 6 ∨ what = 7 ∨ what = 8 ∨ what = 9 ∨ what = 10 ∨ what = 11 by omega) with rfl | rfl | rfl | rfl | rfl | rfl | rfl | rfl | rfl | rfl | rfl
            all_goals
              have x1 := HAB.out
              have x2 := HBB.out
              simp [aBound] at x1
              simp [bBound] at x2
              subst x1 x2
              go_wp2_with fail
              go_meet
              exact ⟨rfl, rfl, rfl⟩
          case rest =>
            as_aux_lemma =>
            obtain ⟨rfl, rfl, rfl⟩ := hcut
            rcases HREST.out with ⟨hok, hbad⟩ | ⟨hok, h1, h2, h3, h4⟩
            · have hq := HR.out
              rw [HF.out, opsChk_bad HG.out hok] at hq
              subst hq
              clear hok
              rcases hbad with h1 | ⟨h1, h2⟩ | ⟨⟨h1, h2⟩, h3⟩ | ⟨⟨h1, h2⟩, h3, h4⟩
              all_goals
                go_wp2_with fail
                go_ret2
                exact ⟨rfl, HAAB.out⟩
            · have hq := HR.out
              rw [HF.out, opsChk_next HG.out hok] at hq
              have HQ2 := hid hq
              clear hok hq
              go_wp2_with fail
              go_roundw
              case rel => exact ⟨k + 1, by omega, by go_num, by rw [HQ2.out]; congr 1; have := HF.out; omega, HAAB.out⟩
              case measure => simp [intOf]; omega
      · obtain rfl : k = n := by omega
        have hq := HR.out
        rw [opsChk_end (by rw [← HN.out]; exact Nat.le_refl _)] at hq
        subst hq
        go_wp2_with fail
        go_ret2
        exact ⟨rfl, HB.out⟩

set_option maxHeartbeats 1000000 in
theorem rstate_any (s : St) (many : Int) (w : World) :
    Calls Tryz.prog 93 #[.agg #[.int .i64 s.pc, .int .i64 s.c0, .int .i64 s.c1, .int .i64 s.c2, .int .i64 s.c3, .int .i64 s.c4, .int .i64 s.c5, .bool s.failed], .int .i64 many] w (TellOk w (stOk s many)) := by
  obtain ⟨S, hS⟩ : ∃ S, S = s := ⟨_, rfl⟩
  have hst : stOk s many = (decide (0 ≤ S.pc ∧ S.pc < many) && S.nums.all cellB) := by rw [hS]; rfl
  rw [hst]
  obtain ⟨pc, c0, c1, c2, c3, c4, c5, f⟩ := s
  simp only []
  have HSS := hid hS
  have hpc : S.pc = pc := by rw [hS]
  have HALL : Hid ((∀ i, i < 6 → cellB (S.get i) = true) → S.nums.all cellB = true) := fun h => by
    simp only [St.nums, List.all_cons, List.all_nil, Bool.and_true, Bool.and_eq_true]
    exact ⟨h 0 (by omega), h 1 (by omega), h 2 (by omega), h 3 (by omega), h 4 (by omega), h 5 (by omega)⟩
  have HNOT : Hid (∀ i, i < 6 → cellB (S.get i) = false → S.nums.all cellB = false) := fun i hi h => by
    rw [List.all_eq_false]
    exact ⟨S.get i, List.mem_of_getElem? (St.nums_get S hi), by rw [h]; decide⟩
  rw [hpc]
  clear hS hpc hst
  go_enter Tryz.func93, Tryz.ntmps93
  go_wp2_with fail
  obtain ⟨w1, hw1⟩ : ∃ w1, w1 = w.alloc (.cells #[.int .i64 pc, .int .i64 c0, .int .i64 c1, .int .i64 c2, .int .i64 c3, .int .i64 c4, .int .i64 c5, .bool f] 106) := ⟨_, rfl⟩
  have h1s : w1.heap[w.heap.size]? = some (.cells (stV S) 106 (0, 0)) := by rw [hw1, HSS.out]; exact heap_alloc_new w _
  have h1b : Below w.heap.size w w1 := by rw [hw1]; exact (Below.refl _ _).alloc (Nat.le_refl _) _
  rw [← hw1]
  have H1S := hid h1s
  have H1B := hid h1b
  clear hw1 h1s h1b
  go_loop [5] (fun v5 => ∃ k : Nat, k ≤ 6 ∧ v5 = .int .i64 k ∧ (∀ i, i < k → cellB (S.get i) = true)) (fun v5 => 6 - (intOf v5).toNat)
  case atStart => exact ⟨0, by omega, rfl, fun i hi => absurd hi (by omega)⟩
  case round =>
    obtain ⟨k, hk, rfl, hall⟩ := hrel
    have HA := hid hall
    clear hall
    by_cases hk6 : k < 6
    · have hc := (blk_cell H1S.out (1 + k)).trans (stV_get S hk6)
      cases hcb : cellB (S.get k) with
      | true =>
        obtain ⟨h1, h2⟩ := cellB_true.1 hcb
        have HCB := hid hcb
        have h3 : S.get k ≤ 999 := by omega
        have HCB := hid hcb
        clear hcb
        generalize hy : S.get k = y at hc h1 h2 h3
        clear hy
        go_wp2_with fail
        go_round
        case rel =>
          refine ⟨k + 1, by omega, by go_num, fun i hi => ?_⟩
          by_cases e : i = k
          · subst e; exact HCB.out
          · exact HA.out i (by omega)
        case measure => simp [intOf]; omega
      | false =>
        have hn := HNOT.out k hk6 hcb
        have hor := cellB_false.1 hcb
        rw [hn, Bool.and_false]
        clear hn hcb
        generalize hy : S.get k = y at hc hor
        clear hy
        rcases hor with h1 | h1
        · go_wp2_with fail
          go_ret
          exact ⟨rfl, H1B.out⟩
        · have h0 : ¬ y < 0 := by omega
          have h2 : 999 < y := by omega
          have d1 : decide (y < 0) = false := decide_eq_false h0
          go_wp2_with fail
          go_ret
          exact ⟨rfl, H1B.out⟩
    · obtain rfl : k = 6 := by omega
      rw [HALL.out HA.out, Bool.and_true]
      have p0 := (stAt H1S.out).p
      rw [HSS.out] at p0
      simp only [] at p0
      by_cases h0 : pc < 0
      · rw [show decide (0 ≤ pc ∧ pc < many) = false from decide_eq_false (by omega)]
        have d1 : decide (0 ≤ pc) = false := decide_eq_false (by omega)
        go_wp2_with fail
        go_ret
        exact ⟨rfl, H1B.out⟩
      by_cases h1 : many ≤ pc
      · rw [show decide (0 ≤ pc ∧ pc < many) = false from decide_eq_false (by omega)]
        have d1 : decide (0 ≤ pc) = true := decide_eq_true (by omega)
        have d2 : decide (pc < many) = false := decide_eq_false (by omega)
        have h2 : 0 ≤ pc := by omega
        clear h0
        go_wp2_with fail
        go_ret
        exact ⟨rfl, H1B.out⟩
      · rw [show decide (0 ≤ pc ∧ pc < many) = true from decide_eq_true (by omega)]
        have h2 : 0 ≤ pc := by omega
        have h3 : pc < many := by omega
        clear h0 h1
        go_wp2_with fail
        go_ret
        exact ⟨by have := HALL.out HA.out; simp [this], H1B.out⟩
end Go.Proofs.YtldllmhgofacbaaGreatDoor

/- frameref1.Plan: the contract, for every plan. -/
namespace Go.Proofs.YtldllmhgofacbaaGreatDoor
open Go.RowKit
set_option maxRecDepth 100000

def pFr (ws : List Wire) (i : Nat) (u : Int) : Bool := match ws[u.toNat]? with | some x => decide (x.fr = i) | none => false
def pTo (ws : List Wire) (i : Nat) (u : Int) : Bool := match ws[u.toNat]? with | some x => decide (x.to = i) | none => false
theorem portsOk_split (ws : List Wire) (i : Nat) (l : List Op) : portsOk ws i l = ((portsL l 8 []).all (pFr ws i) && (portsL l 9 []).all (pTo ws i)) := by
  rw [Bool.eq_iff_iff, Bool.and_eq_true, List.all_eq_true, List.all_eq_true]
  unfold portsOk
  rw [List.all_eq_true]
  constructor
  · intro h
    refine ⟨fun u hu => ?_, fun u hu => ?_⟩
    · obtain ⟨o, ho, h8, hb⟩ := ((portsL_mem 8 u l []).1 hu).resolve_left (by simp)
      have := h o ho
      unfold portOk at this
      rw [if_pos h8, hb] at this
      exact this
    · obtain ⟨o, ho, h9, hb⟩ := ((portsL_mem 9 u l []).1 hu).resolve_left (by simp)
      have := h o ho
      unfold portOk at this
      rw [if_neg (by omega), if_pos h9, hb] at this
      exact this
  · rintro ⟨h1, h2⟩ o ho
    unfold portOk
    by_cases h8 : o.what = 8
    · rw [if_pos h8]
      exact h1 o.b ((portsL_mem 8 o.b l []).2 (.inr ⟨o, ho, h8, rfl⟩))
    · rw [if_neg h8]
      by_cases h9 : o.what = 9
      · rw [if_pos h9]
        exact h2 o.b ((portsL_mem 9 o.b l []).2 (.inr ⟨o, ho, h9, rfl⟩))
      · rw [if_neg h9]
theorem all_of {l : List Int} {q : Nat} (hq : q = l.length) {p : Int → Bool} (h : ∀ j u, j < q → l[j]? = some u → p u = true) : l.all p = true := by
  rw [List.all_eq_true]
  intro u hu
  obtain ⟨j, hj⟩ := List.mem_iff_getElem?.1 hu
  exact h j u (by rw [hq]; exact (List.getElem?_eq_some_iff.1 hj).1) hj
theorem all_snoc {l : List Int} {k : Nat} {p : Int → Bool} {u : Int} (h : ∀ j u, j < k → l[j]? = some u → p u = true) (hu : l[k]? = some u) (hp : p u = true) : ∀ j u, j < k + 1 → l[j]? = some u → p u = true := by
  intro j v hj hg
  by_cases e : j = k
  · subst e; rw [hu] at hg; cases hg; exact hp
  · exact h j v (by omega) hg

set_option maxHeartbeats 8000000 in
theorem rplan_any (w : World) (m : PM) (hm : PlanAt w m) :
    Calls Tryz.prog 12 #[.agg #[.slice m.A m.ros.length m.c, .int .i64 m.ticks, .slice m.sA m.spans.length m.sc, .slice m.wA m.wires.length m.wc]] w (TellV w (planChk m.pl)) := by
  obtain ⟨hrn1, hrn2, hrn3⟩ := hm.rowsW
  have HFR : Hid (∀ w', Below w.heap.size w w' → Calls Tryz.prog 60 #[.int .i64 m.ticks, .slice m.sA m.spans.length m.sc] w' (TellII w' (frameChk m.ticks m.spans))) := fun w' hb => rframe_any _ _ _ _ w' (hm.spans.new hb) hm.spansW
  have HFL : Hid (∀ w', Below w.heap.size w w' → Calls Tryz.prog 61 #[.slice m.wA m.wires.length m.wc] w' (TellII w' (flowChk m.wires))) := fun w' hb => rwires_any _ _ _ w' (hm.wires.new hb) hm.wiresW
  obtain ⟨R, hR⟩ : ∃ R, R = planChk m.pl := ⟨_, rfl⟩
  rw [← hR]
  have hpe : R = if 5 < m.ros.length then 4 else if m.ros.length = 0 then 5
    else if (frameChk m.ticks m.spans).2 ≠ 0 then (frameChk m.ticks m.spans).2
    else if (flowChk m.wires).2 ≠ 0 then (flowChk m.wires).2
    else if (m.spans.any (spanOver m.ros.length) || m.wires.any (wireOver m.ros.length)) = true then 1
    else if codesChk (m.ros.map Ro.ops) ≠ 0 then codesChk (m.ros.map Ro.ops)
    else if allPorts m.wires (m.ros.map Ro.ops) 0 = false then 3 else 0 := by
    rw [hR]; unfold planChk; simp only [PM.pl, List.length_map]; rfl
  have HROWS := hid hm.rows
  have HCODES := hid hm.codes
  have HSP := hid hm.spans
  have HWI := hid hm.wires
  have h12 : (frameChk m.ticks m.spans).2 = 0 → m.spans.length ≤ 12 := fun h => (frameChk_ticks h).2.2
  have h12w : (flowChk m.wires).2 = 0 → m.wires.length ≤ 12 := fun h => (flowChk_ok h).1
  obtain ⟨A, c, ros, tk, sA, sc, spans, wA, wc, ws⟩ := m
  simp only [] at HFR HFL hpe hrn1 hrn2 hrn3 HROWS HCODES HWI HSP h12 h12w ⊢
  obtain ⟨n, hn⟩ : ∃ n, n = ros.length := ⟨_, rfl⟩
  obtain ⟨ns, hns⟩ : ∃ n, n = spans.length := ⟨_, rfl⟩
  obtain ⟨nw, hnw⟩ : ∃ n, n = ws.length := ⟨_, rfl⟩
  rw [← hn] at hpe hrn1 HROWS ⊢
  rw [← hns] at HFR h12 HSP ⊢
  rw [← hnw] at HFL h12w HWI ⊢
  have HN := hid hn
  have HNS := hid hns
  have HNW := hid hnw
  generalize frameChk tk spans = FF at HFR hpe h12
  obtain ⟨Fi, F⟩ := FF
  generalize flowChk ws = WW at HFL hpe h12w
  obtain ⟨Wi, WF⟩ := WW
  simp only [] at hpe h12 h12w
  clear hm hR hn hns hnw hrn3
  by_cases h5 : 5 < n
  · rw [if_pos h5] at hpe
    subst hpe
    clear h12 h12w
    go_enter Tryz.func12, Tryz.ntmps12
    go_wp2_with fail
    go_ret
    exact ⟨rfl, (Below.refl _ _).alloc (by simp) _⟩
  rw [if_neg h5] at hpe
  by_cases h0 : n = 0
  · subst h0
    rw [if_pos rfl] at hpe
    subst hpe
    clear h12 h12w
    go_enter Tryz.func12, Tryz.ntmps12
    go_wp2_with fail
    go_ret
    exact ⟨rfl, (Below.refl _ _).alloc (by simp) _⟩
  rw [if_neg h0] at hpe
  have h01 : 0 < n := by omega
  have h05 : n ≤ 5 := by omega
  have h0b : ((n : Int) == 0) = false := by simp; omega
  clear h5 h0 hrn1 hrn2
  have HPE := hid hpe
  have H12 := hid h12
  have H12W := hid h12w
  clear hpe h12 h12w
  go_enter Tryz.func12, Tryz.ntmps12
  go_upto_region 1 with fail
  obtain ⟨w0, hw0⟩ : ∃ w0, w0 = w.alloc (.cells #[.slice A n c, .int .i64 tk, .slice sA ns sc, .slice wA nw wc] 26) := ⟨_, rfl⟩
  have h0p : w0.heap[w.heap.size]? = some (.cells #[.slice A n c, .int .i64 tk, .slice sA ns sc, .slice wA nw wc] 26 (0, 0)) := by rw [hw0]; exact heap_alloc_new w _
  have h0w : Below w.heap.size w w0 := by rw [hw0]; exact (Below.refl _ _).alloc (by simp) _
  rw [← hw0]
  have H0P := hid h0p
  have HW0 := hid h0w
  have HPC : Hid (∀ w' : World, Below w0.heap.size w0 w' → w'.cell? ⟨w.heap.size, 0, none⟩ = some (.slice A n c) ∧ w'.cell? ⟨w.heap.size, 1, none⟩ = some (.int .i64 tk) ∧ w'.cell? ⟨w.heap.size, 2, none⟩ = some (.slice sA ns sc) ∧ w'.cell? ⟨w.heap.size, 3, none⟩ = some (.slice wA nw wc)) :=
    fun w' hb => have h := (hb.block _ (blk_lt h0p)).trans h0p; ⟨blk_cell h 0, blk_cell h 1, blk_cell h 2, blk_cell h 3⟩
  have HBX : Hid (∀ w' : World, Below w0.heap.size w0 w' → Below w.heap.size w w') := fun w' hb => h0w.trans (hb.mono h0w.size)
  obtain ⟨p0, p1, p2, p3⟩ := HPC.out _ (Below.refl _ _)
  clear hw0 h0p h0w
  by_cases hF : F = 0
  · subst hF
    have h12 := H12.out rfl
    have hpe := HPE.out
    rw [if_neg (by simp)] at hpe
    by_cases hWF : WF = 0
    · subst hWF
      have h12w := H12W.out rfl
      rw [if_neg (by simp)] at hpe
      replace HPE := hid hpe
      clear hpe
      go_wp2_with (first | (go_at_call 60; refine (HFR.out _ HW0.out).mono ?_; rintro e w1 ⟨rfl, hb1⟩; have HB1 := hid ((Below.refl _ _).trans hb1); clear p0 p1 p2 p3 hb1; obtain ⟨p0, p1, p2, p3⟩ := HPC.out _ HB1.out) | (go_at_call 61; refine (HFL.out _ (HBX.out _ HB1.out)).mono ?_; rintro e w2 ⟨rfl, hb1⟩; have HB2 := hid (HB1.out.trans (hb1.mono HB1.out.size)); clear p0 p1 p2 p3 hb1; obtain ⟨p0, p1, p2, p3⟩ := HPC.out _ HB2.out))
      clear p0 p1 p2 p3 HFR HFL H12 H12W
      obtain ⟨C, hC⟩ : ∃ C, C = codesChk (ros.map Ro.ops) := ⟨_, rfl⟩
      obtain ⟨P, hP⟩ : ∃ P, P = allPorts ws (ros.map Ro.ops) 0 := ⟨_, rfl⟩
      have hpe := HPE.out
      rw [← hC, ← hP] at hpe
      replace HPE := hid hpe
      have HC := hid hC
      have HP := hid hP
      clear hC hP hpe
      go_loopw [5] (fun v5 wr => ∃ k : Nat, k ≤ ns ∧ v5 = .int .i64 k ∧ (∀ j s', j < k → spans[j]? = some s' → ¬ spanOver n s' = true) ∧ Below w0.heap.size w0 wr) (fun v5 _ => ns - (intOf v5).toNat)
      case atStart => exact ⟨0, by omega, rfl, fun j s hj => absurd hj (by omega), HB2.out⟩
      case round =>
        obtain ⟨k, hk, rfl, hno, hb⟩ := hrel
        have HNO := hid hno
        have HB := hid hb
        obtain ⟨p0, p1, p2, p3⟩ := HPC.out _ hb
        have hpl : w.heap.size < wr.heap.size := cell_lt p0
        clear hno hb
        by_cases hkn : k < ns
        · have hks : k < spans.length := by rw [← HNS.out]; exact hkn
          obtain ⟨b, off, rfl, _, g0, g1, g2⟩ := HSP.out.span (HBX.out _ HB.out) hks hkn
          have hget := List.getElem?_eq_getElem hks
          generalize spans[k] = x at g0 g1 g2 hget
          have HG := hid hget
          clear hget
          by_cases hov : (n : Int) ≤ x.room
          · have hR : R = 1 := by
              rw [HPE.out, List.any_eq_true.2 ⟨x, List.mem_of_getElem? HG.out, by unfold spanOver; exact decide_eq_true hov⟩]; rfl
            subst hR
            go_wp2_with fail
            go_quiet (fail)
            go_wp2_with fail
            go_ret
            exact ⟨rfl, HBX.out _ (below_drewN HB.out _)⟩
          · have HX := hid (show ¬ spanOver n x = true by unfold spanOver; simpa using hov)
            have hd : decide ((n : Int) ≤ x.room) = false := decide_eq_false hov
            go_wp2_with fail
            go_quiet (fail)
            go_wp2_with fail
            go_roundw
            case rel => exact ⟨k + 1, by omega, by go_num, no_snoc HNO.out HG.out HX.out, below_drewN HB.out _⟩
            case measure => simp [intOf]; omega
        · obtain rfl : k = ns := by omega
          have hs0 : spans.any (spanOver n) = false := by
            rw [List.any_eq_false]
            intro x hx
            obtain ⟨j, hj, rfl⟩ := List.getElem_of_mem hx
            exact HNO.out j _ (by rw [HNS.out]; exact hj) (List.getElem?_eq_getElem hj)
          have hpe := HPE.out
          rw [hs0, Bool.false_or] at hpe
          replace HPE := hid hpe
          clear hpe hs0
          go_wp2_with fail
          clear p0 p1 p2 p3 hpl
          go_loopw [6] (fun v6 wq => ∃ j : Nat, j ≤ nw ∧ v6 = .int .i64 j ∧ (∀ i s', i < j → ws[i]? = some s' → ¬ wireOver n s' = true) ∧ Below w0.heap.size w0 wq) (fun v6 _ => nw - (intOf v6).toNat)
          case atStart => exact ⟨0, by omega, rfl, fun j s hj => absurd hj (by omega), HB.out⟩
          case round =>
            obtain ⟨wq, rfl⟩ : ∃ wq : World, wq = wr := ⟨_, rfl⟩
            obtain ⟨j, hj, rfl, hnow, hb⟩ := hrel
            have HNOW := hid hnow
            have HBQ := hid hb
            obtain ⟨p0, p1, p2, p3⟩ := HPC.out _ hb
            have hpl : w.heap.size < wq.heap.size := cell_lt p0
            clear hnow hb
            by_cases hjn : j < nw
            · have hjs : j < ws.length := by rw [← HNW.out]; exact hjn
              obtain ⟨b, off, rfl, _, g0, g1, g2, g3⟩ := HWI.out.wire (HBX.out _ HBQ.out) hjs hjn
              have hget := List.getElem?_eq_getElem hjs
              generalize ws[j] = x at g0 g1 g2 g3 hget
              have HG := hid hget
              clear hget
              by_cases hov : (n : Int) ≤ x.fr
              · have hR : R = 1 := by
                  rw [HPE.out, List.any_eq_true.2 ⟨x, List.mem_of_getElem? HG.out, by unfold wireOver; exact decide_eq_true (.inl hov)⟩]; rfl
                subst hR
                have hd : decide ((n : Int) ≤ x.fr) = true := decide_eq_true hov
                go_wp2_with fail
                go_quiet (fail)
                go_wp2_with fail
                go_ret
                exact ⟨rfl, HBX.out _ (below_drewN HBQ.out _)⟩
              · have hd : decide ((n : Int) ≤ x.fr) = false := decide_eq_false hov
                by_cases hov2 : (n : Int) ≤ x.to
                · have hR : R = 1 := by
                    rw [HPE.out, List.any_eq_true.2 ⟨x, List.mem_of_getElem? HG.out, by unfold wireOver; exact decide_eq_true (.inr hov2)⟩]; rfl
                  subst hR
                  have hd2 : decide ((n : Int) ≤ x.to) = true := decide_eq_true hov2
                  go_wp2_with fail
                  go_quiet (fail)
                  go_wp2_with fail
                  go_ret
                  exact ⟨rfl, HBX.out _ (below_drewN HBQ.out _)⟩
                · have hd2 : decide ((n : Int) ≤ x.to) = false := decide_eq_false hov2
                  have HX := hid (show ¬ wireOver n x = true by unfold wireOver; simp; omega)
                  go_wp2_with fail
                  go_quiet (fail)
                  go_wp2_with fail
                  go_roundw
                  case rel => exact ⟨j + 1, by omega, by go_num, no_snocW HNOW.out HG.out HX.out, below_drewN HBQ.out _⟩
                  case measure => simp [intOf]; omega
            · obtain rfl : nw = j := by omega
              have hs0 : ws.any (wireOver n) = false := by
                rw [List.any_eq_false]
                intro x hx
                obtain ⟨i, hi, rfl⟩ := List.getElem_of_mem hx
                exact HNOW.out i _ (by rw [HNW.out]; exact hi) (List.getElem?_eq_getElem hi)
              have hpe := HPE.out
              rw [hs0, if_neg (by decide)] at hpe
              replace HPE := hid hpe
              clear hpe hs0
              go_wp2_with fail
              clear p0 p1 p2 p3 hpl
              go_loopw [7] (fun v7 wr => ∃ k : Nat, k ≤ n ∧ v7 = .int .i64 k ∧ C = codesChk ((ros.drop k).map Ro.ops) ∧ Below w0.heap.size w0 wr) (fun v7 _ => n - (intOf v7).toNat)
              case atStart => exact ⟨0, by omega, rfl, by rw [List.drop_zero]; exact HC.out, HBQ.out⟩
              case round =>
                obtain ⟨wc, rfl⟩ : ∃ wc : World, wc = wr := ⟨_, rfl⟩
                obtain ⟨i, hi, rfl, hck, hb⟩ := hrel
                have HCK := hid hck
                have HBC := hid hb
                have HBW := hid (HBX.out _ hb)
                obtain ⟨p0, p1, p2, p3⟩ := HPC.out _ hb
                have hpl : w.heap.size < wc.heap.size := cell_lt p0
                clear hck hb
                by_cases hin : i < n
                · obtain ⟨ro, hro⟩ : ∃ ro, ros[i]? = some ro := ⟨_, List.getElem?_eq_getElem (by rw [← HN.out]; exact hin)⟩
                  obtain ⟨rb, roff, rfl, hrb, hcell⟩ := HROWS.out.ro HBW.out hro hin
                  have hat := HCODES.out ro (List.mem_of_getElem? hro)
                  have HCR : Hid (∀ w', Below w.heap.size w w' → Calls Tryz.prog 29 #[.slice ro.A ro.ops.length ro.c] w' (TellNI w' (codeChk ro.ops))) := fun w' hb => rcode_any ro.A ro.c ro.ops w' (hat.1.new hb) hat.2.1
                  have hdrop := codes_drop hro
                  have hcs : codesChk ((ros.drop i).map Ro.ops) = if (codeChk ro.ops).2 ≠ 0 then (codeChk ro.ops).2 else codesChk ((ros.drop (i + 1)).map Ro.ops) := by rw [hdrop]; rfl
                  obtain ⟨RA, rc, ops⟩ := ro
                  simp only [] at HCR hcell hcs
                  generalize ops.length = lo at HCR hcell
                  generalize codeChk ops = EE at HCR hcs
                  obtain ⟨Ei, E⟩ := EE
                  simp only [] at hcs
                  have HCS := hid hcs
                  have hrlt : rb < wc.heap.size := Nat.lt_of_lt_of_le hrb HBW.out.size
                  clear hcs hdrop hat hro hrb
                  by_cases hE : E = 0
                  · subst hE
                    have hc2 := HCK.out
                    rw [HCS.out, if_neg (by simp)] at hc2
                    have HC2 := hid hc2
                    clear hc2
                    go_wp2_with (go_at_call 29; refine (HCR.out _ HBW.out).mono ?_; rintro e w1 ⟨rfl, hb1⟩; have HB1 := hid hb1; clear hb1)
                    go_roundw
                    case rel => exact ⟨i + 1, by omega, by go_num, HC2.out, HBC.out.trans (HB1.out.mono HBC.out.size)⟩
                    case measure => simp [intOf]; omega
                  · have hc2 := HCK.out
                    rw [HCS.out, if_pos hE] at hc2
                    have hpe := HPE.out
                    rw [hc2, if_pos hE] at hpe
                    have hEb : (E != 0) = true := by simpa using hE
                    clear hE hc2
                    subst hpe
                    go_wp2_with (go_at_call 29; refine (HCR.out _ HBW.out).mono ?_; rintro e w1 ⟨rfl, hb1⟩; have HB1 := hid hb1; clear hb1)
                    go_ret
                    exact ⟨rfl, HBW.out.trans (HB1.out.mono HBW.out.size)⟩
                · obtain rfl : i = n := by omega
                  have hc0 : C = 0 := by rw [HCK.out, List.drop_eq_nil_of_le (by rw [← HN.out]; exact Nat.le_refl _)]; rfl
                  have hall : ∀ r ∈ ros, (codeChk r.ops).2 = 0 := fun r hr => codesChk_ok (by rw [← HC.out]; exact hc0) _ (List.mem_map_of_mem hr)
                  have hpe := HPE.out
                  rw [if_neg (by simpa using hc0)] at hpe
                  have HALL := hid hall
                  replace HPE := hid hpe
                  clear hc0 hall hpe
                  go_wp2_with fail
                  clear p0 p1 p2 p3 hpl
                  go_loopw [8] (fun v8 wr => ∃ k : Nat, k ≤ i ∧ v8 = .int .i64 k ∧ P = allPorts ws ((ros.drop k).map Ro.ops) k ∧ Below w0.heap.size w0 wr) (fun v8 _ => i - (intOf v8).toNat)
                  case atStart => exact ⟨0, by omega, rfl, by rw [List.drop_zero]; exact HP.out, HBC.out⟩
                  case round =>
                    obtain ⟨wp, rfl⟩ : ∃ wp : World, wp = wr := ⟨_, rfl⟩
                    obtain ⟨k, hk, rfl, hpj, hb⟩ := hrel
                    have HPJ := hid hpj
                    have HBP := hid hb
                    obtain ⟨p0, p1, p2, p3⟩ := HPC.out _ hb
                    clear hpj hb
                    by_cases hkn : k < i
                    · obtain ⟨ro, hro⟩ : ∃ ro, ros[k]? = some ro := ⟨_, List.getElem?_eq_getElem (by rw [← HN.out]; exact hkn)⟩
                      obtain ⟨rb, roff, rfl, hrb, hcell⟩ := HROWS.out.ro (Below.refl _ _) hro hkn
                      have HCELL : Hid (∀ w', Below w.heap.size w w' → w'.cell? ⟨rb, roff + k, none⟩ = some (.slice ro.A ro.ops.length ro.c)) := fun w' hb => (hb.cell (p := ⟨rb, roff + k, none⟩) hrb).trans hcell
                      have hat := HCODES.out ro (List.mem_of_getElem? hro)
                      have hcc := codeChk_ok (HALL.out ro (List.mem_of_getElem? hro))
                      have HPT : Hid (∀ w', Below w.heap.size w w' → ∀ v, Calls Tryz.prog 32 #[.slice ro.A ro.ops.length ro.c, .int .i64 v] w' (Drawn w' (portsL ro.ops v []))) := fun w' hb v => rports_any ro.A _ ro.c ro.ops v w' (hat.1.new hb) (by have := hcc.2.1; omega) hat.2.1.1
                      have hpos : ∀ v, v = 8 ∨ v = 9 → ∀ u ∈ portsL ro.ops v [], 0 ≤ u := fun v hv u hu => by
                        obtain ⟨o, ho, h8, hb⟩ := ((portsL_mem v u ro.ops []).1 hu).resolve_left (by simp)
                        have := opOk_iff.1 (hcc.2.2 o ho)
                        omega
                      have hlen : ∀ v, (portsL ro.ops v []).length ≤ 20 := fun v => by have := portsL_len v ro.ops []; have := hcc.2.1; simp at *; omega
                      have hdrop := codes_drop hro
                      have hcs : allPorts ws ((ros.drop k).map Ro.ops) k = (portsOk ws k ro.ops && allPorts ws ((ros.drop (k + 1)).map Ro.ops) (k + 1)) := by rw [hdrop]; rfl
                      have hsplit := portsOk_split ws k ro.ops
                      have hpos8 := hpos 8 (.inl rfl)
                      have hpos9 := hpos 9 (.inr rfl)
                      have hlen8 := hlen 8
                      have hlen9 := hlen 9
                      have HPT8 : Hid (∀ w', Below w.heap.size w w' → Calls Tryz.prog 32 #[.slice ro.A ro.ops.length ro.c, .int .i64 8] w' (Drawn w' (portsL ro.ops 8 []))) := fun w' hb => HPT.out w' hb 8
                      have HPT9 : Hid (∀ w', Below w.heap.size w w' → Calls Tryz.prog 32 #[.slice ro.A ro.ops.length ro.c, .int .i64 9] w' (Drawn w' (portsL ro.ops 9 []))) := fun w' hb => HPT.out w' hb 9
                      generalize portsL ro.ops 8 [] = y8 at hpos8 hlen8 hsplit HPT8
                      generalize portsL ro.ops 9 [] = y9 at hpos9 hlen9 hsplit HPT9
                      obtain ⟨RA, rc, ops⟩ := ro
                      simp only [] at hcs hsplit HPT8 HPT9 HCELL
                      generalize ops.length = lo at HPT8 HPT9 HCELL
                      generalize portsOk ws k ops = pk at hcs hsplit
                      have HCS := hid hcs
                      have HSPLIT := hid hsplit
                      have HPOS8 := hid hpos8
                      have HPOS9 := hid hpos9
                      clear HPT hpos hlen hcs hsplit hpos8 hpos9 hcell hat hcc hdrop hro
                      have c9 := HCELL.out _ (HBX.out _ HBP.out)
                      have hrlt := cell_lt c9
                      have hplt := cell_lt p0
                      go_upto_region 31 with (go_at_call 32; refine (HPT8.out _ (HBX.out _ HBP.out)).mono ?_; rintro e w1 ⟨A8, q8, x8, rfl, hq8, hr8, hf8, hb1⟩; have HQ8 := hid hq8; have HS8 := hid hr8.sl; have HB1 := hid (HBP.out.trans (hb1.mono HBP.out.size)); clear hr8 hf8 hb1 hq8 p0 p1 p2 p3 c9 hrlt hplt)
                      obtain ⟨p0, p1, p2, p3⟩ := HPC.out _ HB1.out
                      have c9 := HCELL.out _ (HBX.out _ HB1.out)
                      have hrlt := cell_lt c9
                      have hplt := cell_lt p0
                      go_wp2_with (go_at_call 32; refine (HPT9.out _ (HBX.out _ HB1.out)).mono ?_; rintro e w2 ⟨A9, q9, x9, rfl, hq9, hr9, hf9, hb1⟩; have HQ9 := hid hq9; have HS9 := hid hr9.sl; have HS8' := hid (HS8.out.new hb1); have HB2 := hid (HB1.out.trans (hb1.mono HB1.out.size)); clear hr9 hf9 hb1 hq9 p0 p1 p2 p3 c9 hrlt hplt)
                      rw [← HQ8.out] at hlen8
                      rw [← HQ9.out] at hlen9
                      go_loopw [11] (fun v11 wr => ∃ j : Nat, j ≤ q8 ∧ v11 = .int .i64 j ∧ (∀ t u, t < j → y8[t]? = some u → pFr ws k u = true) ∧ Below w2.heap.size w2 wr) (fun v11 _ => q8 - (intOf v11).toNat)
                      case atStart => exact ⟨0, by omega, rfl, fun t u ht => absurd ht (by omega), Below.refl _ _⟩
                      case round =>
                        obtain ⟨wj, rfl⟩ : ∃ wj : World, wj = wr := ⟨_, rfl⟩
                        obtain ⟨j, hj, rfl, hall, hb⟩ := hrel
                        have HALL11 := hid hall
                        have HBJ11 := hid (HB2.out.trans (hb.mono HB2.out.size))
                        have HBK11 := hid hb
                        obtain ⟨p0, p1, p2, p3⟩ := HPC.out _ HBJ11.out
                        have hplt := cell_lt p0
                        clear hall hb
                        by_cases hjq : j < q8
                        · obtain ⟨b, o, rfl, hlb, hx⟩ := HS8'.out.2 (by omega)
                          have hjl : j < y8.length := by rw [← HQ8.out]; exact hjq
                          have hu : (ints y8)[j]? = some (.int .i64 y8[j]) := by simp [ints, hjl]
                          have c1 := (HBK11.out.cell (p := ⟨b, o + j, none⟩) hlb).trans (hx j _ hu)
                          have hblt := cell_lt c1
                          have hget := List.getElem?_eq_getElem hjl
                          have hnn := HPOS8.out y8[j] (List.getElem_mem hjl)
                          generalize y8[j] = u at c1 hget hnn
                          obtain ⟨U, rfl⟩ : ∃ U : Nat, u = U := ⟨u.toNat, by omega⟩
                          have HG11 := hid hget
                          have HBAD : Hid (pFr ws k U = false → R = 3) := fun h => by
                            rw [HPE.out, if_pos]
                            rw [HPJ.out, HCS.out, HSPLIT.out]
                            have : y8.all (pFr ws k) = false := by rw [List.all_eq_false]; exact ⟨U, List.mem_of_getElem? hget, by rw [h]; decide⟩
                            rw [this]; simp
                          clear hget hu hx hjl hnn
                          by_cases hbw : nw ≤ U
                          · have hR : R = 3 := HBAD.out (by unfold pFr; rw [Int.toNat_natCast, List.getElem?_eq_none (by rw [← HNW.out]; exact hbw)])
                            subst hR
                            have hd1 : decide ((nw : Int) ≤ (U : Int)) = true := decide_eq_true (by omega)
                            have hd2 : decide (nw ≤ U) = true := decide_eq_true hbw
                            clear hblt
                            go_wp2_with fail
                            go_quiet (fail)
                            go_wp2_with fail
                            go_ret
                            exact ⟨rfl, HBX.out _ (below_drewN HBJ11.out _)⟩
                          · have hUw : U < ws.length := by rw [← HNW.out]; omega
                            obtain ⟨wb, woff, rfl, hwb, g0, g1, g2, g3⟩ := HWI.out.wire (HBX.out _ HBJ11.out) hUw (by omega)
                            have hp8 : pFr ws k U = decide (ws[U].fr = k) := by unfold pFr; rw [Int.toNat_natCast, List.getElem?_eq_getElem hUw]
                            generalize ws[U] = x at g0 g1 g2 g3 hp8
                            have hwlt := cell_lt g0
                            have hbw' : U < nw := by omega
                            have hd1 : decide ((nw : Int) ≤ (U : Int)) = false := decide_eq_false (by omega)
                            have hd2 : decide (nw ≤ U) = false := decide_eq_false hbw
                            clear g1 g2 g3 hbw hUw
                            by_cases hfr : x.fr = k
                            · have HP8 := hid (hp8.trans (decide_eq_true hfr))
                              rw [hfr] at g0
                              clear hp8 hfr
                              go_wp2_with fail
                              go_quiet (fail)
                              go_wp2_with fail
                              go_roundw
                              case rel => exact ⟨j + 1, by omega, by go_num, all_snoc HALL11.out HG11.out HP8.out, below_drewN HBK11.out _⟩
                              case measure => simp [intOf]; omega
                            · have hR : R = 3 := HBAD.out (hp8.trans (decide_eq_false hfr))
                              subst hR
                              have hfb : (x.fr == (k : Int)) = false := by simpa using hfr
                              have hfn : (x.fr != (k : Int)) = true := by simpa using hfr
                              generalize x.fr = xf at g0 hfb hfn
                              clear hp8 hfr
                              go_wp2_with fail
                              go_quiet (fail)
                              go_wp2_with fail
                              go_ret
                              exact ⟨rfl, HBX.out _ (below_drewN HBJ11.out _)⟩
                        · obtain rfl : j = q8 := by omega
                          have HEND11 := hid (all_of HQ8.out HALL11.out)
                          have HS9' := hid (HS9.out.new HBK11.out)
                          clear p0 p1 p2 p3 hplt
                          go_wp2_with fail
                          go_loopw [12] (fun v12 wr => ∃ j : Nat, j ≤ q9 ∧ v12 = .int .i64 j ∧ (∀ t u, t < j → y9[t]? = some u → pTo ws k u = true) ∧ Below wj.heap.size wj wr) (fun v12 _ => q9 - (intOf v12).toNat)
                          case atStart => exact ⟨0, by omega, rfl, fun t u ht => absurd ht (by omega), Below.refl _ _⟩
                          case round =>
                            obtain ⟨ws2, rfl⟩ : ∃ ws2 : World, ws2 = wr := ⟨_, rfl⟩
                            obtain ⟨j, hj, rfl, hall, hb⟩ := hrel
                            have HALL12 := hid hall
                            have HBJ12 := hid (HBJ11.out.trans (hb.mono HBJ11.out.size))
                            have HBK12 := hid hb
                            obtain ⟨p0, p1, p2, p3⟩ := HPC.out _ HBJ12.out
                            have hplt := cell_lt p0
                            clear hall hb
                            by_cases hjq : j < q9
                            · obtain ⟨b, o, rfl, hlb, hx⟩ := HS9'.out.2 (by omega)
                              have hjl : j < y9.length := by rw [← HQ9.out]; exact hjq
                              have hu : (ints y9)[j]? = some (.int .i64 y9[j]) := by simp [ints, hjl]
                              have c1 := (HBK12.out.cell (p := ⟨b, o + j, none⟩) hlb).trans (hx j _ hu)
                              have hblt := cell_lt c1
                              have hget := List.getElem?_eq_getElem hjl
                              have hnn := HPOS9.out y9[j] (List.getElem_mem hjl)
                              generalize y9[j] = u at c1 hget hnn
                              obtain ⟨U, rfl⟩ : ∃ U : Nat, u = U := ⟨u.toNat, by omega⟩
                              have HG12 := hid hget
                              have HBAD : Hid (pTo ws k U = false → R = 3) := fun h => by
                                rw [HPE.out, if_pos]
                                rw [HPJ.out, HCS.out, HSPLIT.out]
                                have : y9.all (pTo ws k) = false := by rw [List.all_eq_false]; exact ⟨U, List.mem_of_getElem? hget, by rw [h]; decide⟩
                                rw [this]; simp
                              clear hget hu hx hjl hnn
                              by_cases hbw : nw ≤ U
                              · have hR : R = 3 := HBAD.out (by unfold pTo; rw [Int.toNat_natCast, List.getElem?_eq_none (by rw [← HNW.out]; exact hbw)])
                                subst hR
                                have hd1 : decide ((nw : Int) ≤ (U : Int)) = true := decide_eq_true (by omega)
                                have hd2 : decide (nw ≤ U) = true := decide_eq_true hbw
                                clear hblt
                                go_wp2_with fail
                                go_quiet (fail)
                                go_wp2_with fail
                                go_ret
                                exact ⟨rfl, HBX.out _ (below_drewN HBJ12.out _)⟩
                              · have hUw : U < ws.length := by rw [← HNW.out]; omega
                                obtain ⟨wb, woff, rfl, hwb, g0, g1, g2, g3⟩ := HWI.out.wire (HBX.out _ HBJ12.out) hUw (by omega)
                                have hp8 : pTo ws k U = decide (ws[U].to = k) := by unfold pTo; rw [Int.toNat_natCast, List.getElem?_eq_getElem hUw]
                                generalize ws[U] = x at g0 g1 g2 g3 hp8
                                have hwlt := cell_lt g0
                                have hbw' : U < nw := by omega
                                have hd1 : decide ((nw : Int) ≤ (U : Int)) = false := decide_eq_false (by omega)
                                have hd2 : decide (nw ≤ U) = false := decide_eq_false hbw
                                clear g0 g2 g3 hbw hUw
                                by_cases hfr : x.to = k
                                · have HP8 := hid (hp8.trans (decide_eq_true hfr))
                                  rw [hfr] at g1
                                  clear hp8 hfr
                                  go_wp2_with fail
                                  go_quiet (fail)
                                  go_wp2_with fail
                                  go_roundw
                                  case rel => exact ⟨j + 1, by omega, by go_num, all_snoc HALL12.out HG12.out HP8.out, below_drewN HBK12.out _⟩
                                  case measure => simp [intOf]; omega
                                · have hR : R = 3 := HBAD.out (hp8.trans (decide_eq_false hfr))
                                  subst hR
                                  have hfb : (x.to == (k : Int)) = false := by simpa using hfr
                                  have hfn : (x.to != (k : Int)) = true := by simpa using hfr
                                  generalize x.to = xf at g1 hfb hfn
                                  clear hp8 hfr
                                  go_wp2_with fail
                                  go_quiet (fail)
                                  go_wp2_with fail
                                  go_ret
                                  exact ⟨rfl, HBX.out _ (below_drewN HBJ12.out _)⟩
                            · obtain rfl : j = q9 := by omega
                              have HEND12 := hid (all_of HQ9.out HALL12.out)
                              clear p0 p1 p2 p3 hplt
                              go_wp2_with fail
                              go_roundw
                              case rel =>
                                have hp2 := HPJ.out
                                rw [HCS.out, HSPLIT.out, HEND11.out, HEND12.out, Bool.and_self, Bool.true_and] at hp2
                                exact ⟨k + 1, by omega, by go_num, hp2, HBJ12.out⟩
                              case measure => simp [intOf]; omega
                    · obtain rfl : k = i := by omega
                      have hpt : P = true := by rw [HPJ.out, List.drop_eq_nil_of_le (by rw [← HN.out]; exact Nat.le_refl _)]; rfl
                      have hpe := HPE.out
                      rw [if_neg (by rw [hpt]; decide)] at hpe
                      subst hpe
                      clear hpt
                      go_wp2_with fail
                      go_ret
                      exact ⟨rfl, HBX.out _ HBP.out⟩
    · have hpe := HPE.out
      rw [if_pos hWF] at hpe
      have HWB := hid (show (WF != 0) = true by simpa using hWF)
      clear hWF h12
      replace HPE := hid hpe
      clear hpe
      go_upto_region 8 with (go_at_call 60; refine (HFR.out _ HW0.out).mono ?_; rintro e w1 ⟨rfl, hb1⟩; have HB1 := hid ((Below.refl _ _).trans hb1); clear p0 p1 p2 p3 hb1)
      obtain ⟨p0, p1, p2, p3⟩ := HPC.out _ HB1.out
      clear p0 p1 p2
      have hWb := HWB.out
      go_wp2_with (go_at_call 61; refine (HFL.out _ (HBX.out _ HB1.out)).mono ?_; rintro e w2 ⟨rfl, hb1⟩; have HB2 := hid (HB1.out.trans (hb1.mono HB1.out.size)); clear p3 hb1)
      go_ret
      exact ⟨by rw [HPE.out]; rfl, HBX.out _ HB2.out⟩
  · have hpe := HPE.out
    rw [if_pos hF] at hpe
    have hFb : (F != 0) = true := by simpa using hF
    clear hF
    subst hpe
    go_wp2_with (go_at_call 60; refine (HFR.out _ HW0.out).mono ?_; rintro e w1 ⟨rfl, hb1⟩; have HB1 := hid ((Below.refl _ _).trans hb1); clear p0 p1 p2 p3 hb1)
    go_ret
    exact ⟨rfl, HBX.out _ HB1.out⟩
end Go.Proofs.YtldllmhgofacbaaGreatDoor
