/- frameref1.Put, Ports: a list that rises; on which wires does code do such? -/
import Derived.Test.YtnmbomhlonifnaaDoorLineU
import Derived.Deep.Cut
namespace Go.Proofs.YtnmbomhlonifnaaDoor
open Go.RowKit
set_option maxRecDepth 100000

/-- Put a number into a list, once. -/
def putL : List Int → Int → List Int
  | [], v => [v]
  | x :: l, v => if x = v then x :: l else if v < x then v :: x :: l else x :: putL l v
theorem putL_len : ∀ (l : List Int) (v : Int), (putL l v).length ≤ l.length + 1
  | [], v => by simp [putL]
  | x :: l, v => by
    have := putL_len l v
    unfold putL
    split
    · simp
    · split <;> simp; omega
theorem putL_mem : ∀ (l : List Int) (v u : Int), u ∈ putL l v ↔ u = v ∨ u ∈ l
  | [], v, u => by simp [putL]
  | x :: l, v, u => by
    have := putL_mem l v u
    unfold putL
    split
    · rename_i h; subst h; simp
    · split
      · simp
      · simp only [List.mem_cons, this]
        constructor
        · rintro (h | h | h) <;> simp [h]
        · rintro (h | h | h) <;> simp [h]
def PutIs (d : Bool) (ys rest : List Int) (v : Int) (tgt : List Int) : Prop := if d = true then ys ++ rest = tgt else ys ++ putL rest v = tgt
theorem PutIs.eq {d : Bool} {ys rest : List Int} {v : Int} {tgt : List Int} (h : PutIs d ys (v :: rest) v tgt) : PutIs true (ys ++ [v]) rest v tgt := by
  unfold PutIs at h ⊢
  cases d <;> simp [putL] at h ⊢ <;> exact h
theorem PutIs.past {x : Int} {ys rest : List Int} {v : Int} {tgt : List Int} (h : PutIs true ys (x :: rest) v tgt) : PutIs true (ys ++ [x]) rest v tgt := by
  unfold PutIs at h ⊢
  simp at h ⊢; exact h
theorem PutIs.ins {x : Int} {ys rest : List Int} {v : Int} {tgt : List Int} (h : PutIs false ys (x :: rest) v tgt) (h1 : x ≠ v) (h2 : v < x) : PutIs true (ys ++ [v] ++ [x]) rest v tgt := by
  unfold PutIs at h ⊢
  simp [putL, h1, h2] at h ⊢; exact h
theorem PutIs.skip {x : Int} {ys rest : List Int} {v : Int} {tgt : List Int} (h : PutIs false ys (x :: rest) v tgt) (h1 : x ≠ v) (h2 : ¬ v < x) : PutIs false (ys ++ [x]) rest v tgt := by
  unfold PutIs at h ⊢
  simp [putL, h1, h2] at h ⊢; exact h

theorem one_sl (w : World) (v : Value) (T : Nat) : Sl (w.alloc (.cells #[v] T)) (some ⟨w.heap.size, 0, none⟩) 1 1 [v] :=
  ⟨rfl, fun _ => ⟨w.heap.size, 0, rfl, by simp, fun j u hu => by
    match j, hu with
    | 0, hu => simp at hu; subst hu; exact blk_cell (heap_alloc_new w _) 0⟩⟩
theorem put_app {w wr w2 : World} {A A' : Option Addr} {q c' : Nat} {ys : List Int} {x : Int} {o : Obj} (hfr : ∀ j, InA A j → w.heap.size ≤ j) (hb : Below w.heap.size w wr)
    (hr : Row w2 3 1 A' (q + 1) c' (ints ys ++ [.int .i64 x])) (hk : Keep (InA A) (wr.alloc o) w2) (hn : ∀ j, InA A' j → InA A j ∨ (wr.alloc o).heap.size ≤ j) :
    Row w2 3 1 A' (q + 1) c' (ints (ys ++ [x])) ∧ (∀ j, InA A' j → w.heap.size ≤ j) ∧ Below w.heap.size w w2 := by
  have hs := hb.size
  refine ⟨by unfold ints at hr ⊢; rw [List.map_append]; exact hr, fun j hj => ?_, ?_⟩
  · rcases hn j hj with h | h
    · exact hfr j h
    · rw [sz_alloc] at h; omega
  · exact Keep.below (F := NoF) ((Keep.of_below NoF (hb.alloc hs o)).then hk fun j hj h => by have := hfr j h; omega) (Nat.le_refl _) (fun j h => h.elim)

/-- A list of numbers in new memory. -/
def Drawn (w : World) (ys : List Int) (e : Ending) (w' : World) : Prop :=
  ∃ A n c, e = .returned (.slice A n c) ∧ n = ys.length ∧ Row w' 3 1 A n c (ints ys) ∧ (∀ j, InA A j → w.heap.size ≤ j) ∧ Below w.heap.size w w'

/-- What holds as the list is walked. -/
structure PutMid (w : World) (n : Nat) (l : List Int) (v : Int) (v5 v6 v7 : Value) (wr : World) (i : Nat) (d : Bool) (A : Option Addr) (q c : Nat) (ys : List Int) : Prop where
  ile : i ≤ n
  e5 : v5 = .slice A q c
  e6 : v6 = .bool d
  e7 : v7 = .int .i64 i
  len : q = ys.length
  most : q ≤ i + d.toNat
  row : Row wr 3 1 A q c (ints ys)
  fresh : ∀ j, InA A j → w.heap.size ≤ j
  below : Below w.heap.size w wr
  is : PutIs d ys (l.drop i) v (putL l v)

set_option maxHeartbeats 4000000 in
theorem rput_any (A0 : Option Addr) (n c0 : Nat) (l : List Int) (v : Int) (w : World) (hA : Sl w A0 1 n (ints l)) (hn : n ≤ 1000) (_hc : n ≤ c0) :
    Calls Tryd.prog 97 #[.slice A0 n c0, .int .i64 v] w (Drawn w (putL l v)) := by
  have HA := hid hA
  have hlen : l.length = n := by have := hA.1; rw [ints_len] at this; omega
  have HL := hid hlen
  obtain ⟨i0, hi, hz0, hz1, hz2⟩ := info_parts Tryd.infoInt
  clear hA hlen
  go_enter Tryd.func97, Tryd.ntmps97
  go_wp2_with fail
  go_loopw [5, 6, 7] (fun v5 v6 v7 wr => ∃ i d A q c ys, PutMid w n l v v5 v6 v7 wr i d A q c ys) (fun _ _ v7 _ => n - (intOf v7).toNat)
  case atStart => exact ⟨0, false, none, 0, 0, [], by omega, rfl, rfl, rfl, rfl, by simp, Row.nil _ _ _, fun j hj => by simp [InA] at hj, Below.refl _ _, by simp [PutIs]⟩
  case round =>
    obtain ⟨i, d, A, q, c, ys, hile, rfl, rfl, rfl, hlen, hmost, hrow, hfresh, hbelow, his⟩ := hrel
    have HLEN := hid hlen
    have hm1 : q ≤ i + 1 := by have := Bool.toNat_le d; omega
    have HROW := hid hrow
    have HFR := hid hfresh
    have HB := hid hbelow
    have HIS := hid his
    clear hlen hrow hfresh hbelow his
    by_cases hin : i < n
    · obtain ⟨b, o, rfl, hlb, hx⟩ := HA.out.2 (by omega)
      have hil : i < l.length := by rw [HL.out]; exact hin
      have hu : (ints l)[i]? = some (.int .i64 l[i]) := by simp [ints, hil]
      have c1 := (HB.out.cell (p := ⟨b, o + i, none⟩) hlb).trans (hx i _ hu)
      have hdrop : l.drop i = l[i] :: l.drop (i + 1) := List.drop_eq_getElem_cons hil
      have his := HIS.out
      rw [hdrop] at his
      generalize l[i] = x at c1 his
      have HI2 := hid his
      have c2 : ∀ o', (wr.alloc o').cell? ⟨b, o + i, none⟩ = some (.int .i64 x) := fun o' => (World.cell?_alloc_lt wr o' ⟨b, o + i, none⟩ (cell_lt c1)).trans c1
      have HRA : Hid (∀ o', Row (wr.alloc o') 3 1 A q c (ints ys)) := fun o' => HROW.out.alloc o'
      clear hu hx hil hdrop his HIS
      by_cases hxv : x = v
      · subst hxv
        have hmost := hm1
        go_wp2_with (at_builtin; refine wpList_append_row _ rfl _ _ 37 rfl 3 i0 (.int .i64 0) 1 8 Tryd.underlying37 hi hz0 hz1 hz2 rfl (by decide) A q c (ints ys) rfl (HRA.out _) (some ⟨wr.heap.size, 0, none⟩) 1 1 [.int .i64 x] rfl (one_sl _ _ _) (by intro u hu; simp at hu; subst hu; rfl) (by unfold maxLen; omega) (by omega) ?_; intro A' c' w2 hr2 hk2 hn2; have HP := hid (put_app HFR.out HB.out hr2 hk2 hn2); clear hr2 hk2 hn2)
        go_roundw
        case rel => exact ⟨i + 1, true, A', q + 1, c', ys ++ [x], by omega, rfl, rfl, by go_num, by simp [HLEN.out], by simp at hmost ⊢; omega, HP.out.1, HP.out.2.1, HP.out.2.2, HI2.out.eq⟩
        case measure => simp [intOf]; omega
      · have e1 : (x == v) = false := by simpa using hxv
        cases d with
        | true =>
          clear hxv
          go_wp2_with (at_builtin; refine wpList_append_row _ rfl _ _ 37 rfl 3 i0 (.int .i64 0) 1 8 Tryd.underlying37 hi hz0 hz1 hz2 rfl (by decide) A q c (ints ys) rfl (HRA.out _) (some ⟨wr.heap.size, 0, none⟩) 1 1 [.int .i64 x] rfl (one_sl _ _ _) (by intro u hu; simp at hu; subst hu; rfl) (by unfold maxLen; omega) (by omega) ?_; intro A' c' w2 hr2 hk2 hn2; have HP := hid (put_app HFR.out HB.out hr2 hk2 hn2); clear hr2 hk2 hn2)
          go_roundw
          case rel => exact ⟨i + 1, true, A', q + 1, c', ys ++ [x], by omega, rfl, rfl, by go_num, by simp [HLEN.out], by simp at hmost ⊢; omega, HP.out.1, HP.out.2.1, HP.out.2.2, HI2.out.past⟩
          case measure => simp [intOf]; omega
        | false =>
          have HXV := hid hxv
          have hmost : q ≤ i := by simpa using hmost
          clear hxv
          by_cases hvx : v < x
          · go_upto_region 10 with (at_builtin; refine wpList_append_row _ rfl _ _ 37 rfl 3 i0 (.int .i64 0) 1 8 Tryd.underlying37 hi hz0 hz1 hz2 rfl (by decide) A q c (ints ys) rfl (HRA.out _) (some ⟨wr.heap.size, 0, none⟩) 1 1 [.int .i64 v] rfl (one_sl _ _ _) (by intro u hu; simp at hu; subst hu; rfl) (by unfold maxLen; omega) (by omega) ?_; intro A' c' w2 hr2 hk2 hn2; have HP := hid (put_app HFR.out HB.out hr2 hk2 hn2); clear hr2 hk2 hn2)
            have c3 : ∀ o', (w2.alloc o').cell? ⟨b, o + i, none⟩ = some (.int .i64 x) := fun o' => by
              have hk : w2.cell? ⟨b, o + i, none⟩ = some (.int .i64 x) := (HP.out.2.2.cell (p := ⟨b, o + i, none⟩) hlb).trans ((HB.out.cell (p := ⟨b, o + i, none⟩) hlb).symm.trans c1)
              exact (World.cell?_alloc_lt w2 o' ⟨b, o + i, none⟩ (cell_lt hk)).trans hk
            have c4 : w2.cell? ⟨b, o + i, none⟩ = some (.int .i64 x) := (HP.out.2.2.cell (p := ⟨b, o + i, none⟩) hlb).trans ((HB.out.cell (p := ⟨b, o + i, none⟩) hlb).symm.trans c1)
            go_wp2_with (at_builtin; refine wpList_append_row _ rfl _ _ 37 rfl 3 i0 (.int .i64 0) 1 8 Tryd.underlying37 hi hz0 hz1 hz2 rfl (by decide) A' (q + 1) c' (ints (ys ++ [v])) rfl (HP.out.1.alloc _) (some ⟨w2.heap.size, 0, none⟩) 1 1 [.int .i64 x] rfl (one_sl _ _ _) (by intro u hu; simp at hu; subst hu; rfl) (by unfold maxLen; omega) (by omega) ?_; intro A'' c'' w3 hr2 hk2 hn2; have HP3 := hid (put_app HP.out.2.1 HP.out.2.2 hr2 hk2 hn2); clear hr2 hk2 hn2)
            go_roundw
            case rel => exact ⟨i + 1, true, A'', q + 1 + 1, c'', ys ++ [v] ++ [x], by omega, rfl, rfl, by go_num, by simp [HLEN.out], by simp at hmost ⊢; omega, HP3.out.1, HP3.out.2.1, HP3.out.2.2, HI2.out.ins HXV.out hvx⟩
            case measure => simp [intOf]; omega
          · go_wp2_with (at_builtin; refine wpList_append_row _ rfl _ _ 37 rfl 3 i0 (.int .i64 0) 1 8 Tryd.underlying37 hi hz0 hz1 hz2 rfl (by decide) A q c (ints ys) rfl (HRA.out _) (some ⟨wr.heap.size, 0, none⟩) 1 1 [.int .i64 x] rfl (one_sl _ _ _) (by intro u hu; simp at hu; subst hu; rfl) (by unfold maxLen; omega) (by omega) ?_; intro A' c' w2 hr2 hk2 hn2; have HP := hid (put_app HFR.out HB.out hr2 hk2 hn2); clear hr2 hk2 hn2)
            go_roundw
            case rel => exact ⟨i + 1, false, A', q + 1, c', ys ++ [x], by omega, rfl, rfl, by go_num, by simp [HLEN.out], by simp at hmost ⊢; omega, HP.out.1, HP.out.2.1, HP.out.2.2, HI2.out.skip HXV.out hvx⟩
            case measure => simp [intOf]; omega
    · obtain rfl : n = i := by omega
      have hd0 : l.drop n = [] := List.drop_eq_nil_of_le (by rw [HL.out]; exact Nat.le_refl _)
      have his := HIS.out
      rw [hd0] at his
      have HI2 := hid his
      have HRA : Hid (∀ o', Row (wr.alloc o') 3 1 A q c (ints ys)) := fun o' => HROW.out.alloc o'
      clear hd0 his HIS
      cases d with
      | true =>
        go_wp2_with fail
        go_ret
        have h := HI2.out
        simp [PutIs] at h
        exact ⟨A, q, c, rfl, by rw [← h]; exact HLEN.out, by rw [← h]; exact HROW.out, HFR.out, HB.out⟩
      | false =>
        go_wp2_with (at_builtin; refine wpList_append_row _ rfl _ _ 37 rfl 3 i0 (.int .i64 0) 1 8 Tryd.underlying37 hi hz0 hz1 hz2 rfl (by decide) A q c (ints ys) rfl (HRA.out _) (some ⟨wr.heap.size, 0, none⟩) 1 1 [.int .i64 v] rfl (one_sl _ _ _) (by intro u hu; simp at hu; subst hu; rfl) (by unfold maxLen; omega) (by omega) ?_; intro A' c' w2 hr2 hk2 hn2; have HP := hid (put_app HFR.out HB.out hr2 hk2 hn2); clear hr2 hk2 hn2)
        go_ret
        have h := HI2.out
        simp [PutIs, putL] at h
        exact ⟨A', q + 1, c', rfl, by rw [← h]; simp [HLEN.out], by rw [← h]; exact HP.out.1, HP.out.2.1, HP.out.2.2⟩
end Go.Proofs.YtnmbomhlonifnaaDoor
