/- The reference (package frameref1): the contract of Numbers, for every row of words; of name, OpText and CodeText. Conditions: no text is longer than 2^40 bytes. -/
import Derived.Test.YtldllmhgofacbaaGreatDoorRTextU
import Derived.Test.YtldllmhgofacbaaGreatDoorRPlanU
import Derived.Test.YtldllmhgofacbaaGreatDoorDeskU
namespace Go.Proofs.YtldllmhgofacbaaGreatDoor
open Go.RowKit
set_option maxRecDepth 100000

theorem row_word {w : World} {A : Option Addr} {n c : Nat} {P : List (List UInt8)} (h : Row w 9 1 A n c (P.map txt)) {i : Nat} {s : List UInt8} (hs : P[i]? = some s) : ∃ b off, A = some ⟨b, off, none⟩ ∧ b < w.heap.size ∧ i < n ∧ w.cell? ⟨b, off + i, none⟩ = some (.string ⟨s.toArray⟩) := by
  have hl := (List.getElem?_eq_some_iff.1 hs).1
  have hn : P.length = n := by have := h.sl.1; rw [List.length_map] at this; omega
  obtain ⟨b, off, rfl, hb, hx⟩ := h.sl.2 (by omega)
  exact ⟨b, off, rfl, hb, by omega, hx i _ (by rw [List.getElem?_map, hs]; rfl)⟩
/-- What the reference's Numbers hands back. -/
def RNumsGot (most : Int) (P : List (List UInt8)) (w : World) (e : Ending) (w' : World) : Prop :=
  Below w.heap.size w w' ∧ ((∃ (ns : List Nat) (A : Option Addr) (n c : Nat), numsOf most P = some ns ∧ ns.length = n ∧ e = .returned (.tuple #[.slice A n c, .bool true]) ∧ Row w' 3 1 A n c (ints (ns.map Int.ofNat)) ∧ ∀ i, InA A i → w.heap.size ≤ i) ∨
    (numsOf most P = none ∧ e = .returned (.tuple #[.slice none 0 0, .bool false])))
theorem numsOf_step {most : Int} {P : List (List UInt8)} {j : Nat} {s : List UInt8} (h : P[j]? = some s) {ns : List Nat} (hn : numsOf most (P.take j) = some ns) :
    (∀ n, numOf most s = some n → numsOf most (P.take (j + 1)) = some (ns ++ [n])) ∧ (numOf most s = none → numsOf most P = none) := by
  obtain ⟨h1, h2⟩ := List.getElem?_eq_some_iff.1 h
  refine ⟨fun n hm => ?_, fun hm => ?_⟩
  · rw [List.take_succ_eq_append_getElem h1, numsOf_snoc hn, h2, hm]; rfl
  · have e : P = P.take j ++ s :: P.drop (j + 1) := by
      rw [← h2, List.getElem_cons_drop, List.take_append_drop]
    rw [e]; exact numsOf_bad hm

set_option maxHeartbeats 4000000 in
theorem rnumbers_any (v0 : List UInt8) (P : List (List UInt8)) (A : Option Addr) (n c : Nat) (most : Int) (hm : most ≤ 7) (hn : P.length + 1 = n) (hn1 : n ≤ 1073741825) (hs : ∀ s ∈ P, s.length ≤ 1099511627776) (w : World) (hr : Row w 9 1 A n c ((v0 :: P).map txt)) :
    Calls Tryz.prog 73 #[.slice A n c, .int .i64 most] w (RNumsGot most P w) := by
  obtain ⟨i0, hi0, hz0, hz1, hz2⟩ := info_parts Tryz.infoInt
  have HR := hid hr
  have HN := hid hn
  have HS := hid hs
  have HLN := hid (show 0 < n by omega)
  clear hr hs
  go_enter Tryz.func73, Tryz.ntmps73
  go_wp2_with fail
  go_loopw [6, 7] (fun v6 v7 wr => ∃ (k : Nat) (B : Option Addr) (d j : Nat) (ns : List Nat), 1 ≤ k ∧ k ≤ n ∧ v6 = .slice B j d ∧ v7 = .int .i64 k ∧ k = j + 1 ∧ ns.length = j ∧ numsOf most (P.take j) = some ns ∧ Row wr 3 1 B j d (ints (ns.map Int.ofNat)) ∧ (∀ i, InA B i → w.heap.size ≤ i) ∧ Below w.heap.size w wr) (fun _ v7 _ => n - (intOf v7).toNat)
  case atStart => exact ⟨1, none, 0, 0, [], by omega, by omega, rfl, rfl, rfl, rfl, rfl, Row.nil _ _ _, fun i hi => by simp [InA] at hi, Below.refl _ _⟩
  case round =>
    obtain ⟨k, B, d, j, ns, hk1, hkn, rfl, rfl, hkj, hnl, hns, hrow, hnew, hb⟩ := hrel
    have HNS := hid hns
    have HROW := hid hrow
    have HNEW := hid hnew
    have HB := hid hb
    have HNL := hid hnl
    have HKJ := hid hkj
    clear hns hrow hnew hb hnl
    by_cases hlt : k < n
    · have hjl : j < P.length := by omega
      have hjn : j ≤ 1073741825 := by omega
      have hget := List.getElem?_eq_getElem hjl
      have hmem := List.getElem_mem hjl
      generalize P[j] = s at hget hmem
      obtain ⟨b, off, rfl, hlb, _, hc⟩ := row_word HR.out (i := k) (s := s) (by rw [hkj, List.getElem?_cons_succ]; exact hget)
      obtain ⟨S, hS⟩ : ∃ S : ByteArray, S = ⟨s.toArray⟩ := ⟨_, rfl⟩
      have hSd : S.data.toList = s := by rw [hS]
      have hSz : S.size ≤ 1099511627776 := by rw [Lib.size_eq, hSd]; exact HS.out s hmem
      rw [← hS] at hc
      have hk : wr.cell? ⟨b, off + k, none⟩ = some (.string S) := (HB.out.cell (p := ⟨b, off + k, none⟩) hlb).trans hc
      have hbw : b < wr.heap.size := Nat.lt_of_lt_of_le hlb HB.out.size
      have hnb := rnumber_any S most hm wr hSz
      unfold RNumGot at hnb
      rw [hSd] at hnb
      have HNB := hid hnb
      have HAT := hid (numsOf_step hget HNS.out)
      clear hget hmem hc hS hSd hSz hnb hkj hn
      go_wp2_with fail
      refine HNB.out.mono ?_
      rintro e w2 ⟨v, b2, rfl, rfl, hor⟩
      rcases hor with ⟨rfl, hnum⟩ | ⟨rfl, rfl, hnum⟩
      · have HNX := hid (HAT.out.1 v hnum)
        clear hnum HAT
        go_wp2_with (at_builtin; refine wpList_append_row _ rfl _ _ 64 rfl 3 i0 (.int .i64 0) 1 8 Tryz.underlying64 hi0 hz0 hz1 hz2 rfl (by decide) B j d (ints (ns.map Int.ofNat)) rfl ?c0 (some ⟨wr.heap.size, 0, none⟩) 1 1 [.int .i64 v] rfl ?c1 ?c2 ?c3 ?c4 ?_)
        case c0 => exact HROW.out.alloc _
        case c1 => exact one_sl wr _ _
        case c2 => intro u hu; simp at hu; subst hu; rfl
        case c3 => unfold maxLen; omega
        case c4 => omega
        intro B' d' w3 hr3 hk3 hi3
        have HR3 := hid hr3
        have HK3 := hid hk3
        have HI3 := hid hi3
        clear hr3 hk3 hi3
        go_wp2_with fail
        go_roundw
        case rel =>
          refine ⟨k + 1, B', d', j + 1, ns ++ [v], by omega, by omega, rfl, by go_num, by rw [HKJ.out], by simp [HNL.out], HNX.out, ?_, ?_, keep_own HB.out HNEW.out HK3.out⟩
          · rw [List.map_append, ints_append]; exact HR3.out
          · intro i hi
            rcases HI3.out i hi with h | h
            · exact HNEW.out i h
            · have := HB.out.size; omega
        case measure => simp [intOf]; omega
      · have HNX := hid (HAT.out.2 hnum)
        clear hnum HAT
        go_wp2_with fail
        go_ret2
        exact ⟨HB.out, .inr ⟨HNX.out, rfl⟩⟩
    · obtain rfl : k = n := by omega
      have HFIN : Hid (numsOf most P = some ns) := by
        have := HNS.out
        rw [List.take_of_length_le (by have := HKJ.out; have := HN.out; omega)] at this
        exact hid this
      clear hkj hn
      go_wp2_with fail
      go_ret2
      exact ⟨HB.out, .inl ⟨ns, B, _, d, HFIN.out, HNL.out, rfl, HROW.out, HNEW.out⟩⟩

set_option maxHeartbeats 8000000 in
/-- The name of what an op does. -/
theorem rname_any (k : Nat) (h1 : 1 ≤ k) (h2 : k ≤ 11) (w : World) : Calls Tryz.prog 119 #[.int .i64 k] w fun e w' => e = .returned (.string ⟨(nameOf k).toArray⟩) ∧ Below w.heap.size w w' := by
  rcases (show k = 1 ∨ k = 2 ∨ k = 3 ∨ k = 4 ∨ k = 5 ∨ k = 6 ∨ k = 7 ∨ k = 8 ∨ k = 9 ∨ k = 10 ∨ k = 11 by omega) with rfl | rfl | rfl | rfl | rfl | rfl | rfl | rfl | rfl | rfl | rfl
  all_goals
    go_enter Tryz.func119, Tryz.ntmps119
    go_wp2_with fail
    go_ret
    exact ⟨rfl, (Below.refl _ _).alloc (Nat.le_refl _) _⟩

theorem alloc2_old' (w : World) (o o' : Obj) : ((w.alloc o).alloc o').heap[w.heap.size]? = some o := by rw [blk_alloc (by simp)]; exact heap_alloc_new w o
theorem one_sl2 (w : World) (o : Obj) (v : Value) (T : Nat) : Sl ((w.alloc o).alloc (.cells #[v] T)) (some ⟨w.heap.size + 1, 0, none⟩) 1 1 [v] := by
  have h := one_sl (w.alloc o) v T
  rw [sz_alloc] at h; exact h
theorem fields_len2 (o : Op) : (fieldsOf o).length ≤ 2 := by
  unfold fieldsOf
  rw [List.length_append]
  split <;> split <;> simp
set_option maxHeartbeats 4000000 in
/-- An op's line. -/
theorem roptext_any (o : Op) (h : WfOp o) (w : World) : Calls Tryz.prog 95 #[.agg #[.int .i64 o.what, .int .i64 o.a, .int .i64 o.b]] w fun e w' => ∃ T : ByteArray, e = .returned (.string T) ∧ T.data.toList = opLine o ∧ Below w.heap.size w w' := by
  obtain ⟨⟨h1, h2⟩, ⟨ha, ha'⟩, ⟨hb, hb'⟩, _, _⟩ := h
  obtain ⟨what, a, b⟩ := o
  simp only [] at *
  obtain ⟨k, rfl⟩ : ∃ k : Nat, what = k := ⟨what.toNat, by omega⟩
  have hk1 : 1 ≤ k := by omega
  have hk2 : k ≤ 11 := by omega
  obtain ⟨i0, hi0, hz0, hz1, hz2⟩ := info_parts Tryz.infoInt
  have HNAME : Hid (∀ w', Calls Tryz.prog 119 #[.int .i64 k] w' fun e w'' => e = .returned (.string ⟨(nameOf k).toArray⟩) ∧ Below w'.heap.size w' w'') := hid fun w' => rname_any k hk1 hk2 w'
  obtain ⟨S, hS⟩ : ∃ S : ByteArray, S = ⟨(nameOf k).toArray⟩ := ⟨_, rfl⟩
  have hSd : S.data.toList = nameOf k := by rw [hS]
  have hSz : S.size ≤ 10 := by
    rw [Lib.size_eq, hSd]
    have H : ∀ i ∈ List.range 12, (nameOf i).length ≤ 10 := by decide
    exact H k (List.mem_range.2 (by omega))
  rw [← hS] at HNAME
  have HROW : Hid (∀ (A : Option Addr) (c n : Nat) (l : List Int) (w' : World), l.length = n → Sl w' A 1 n (ints l) → l = fieldsOf ⟨k, a, b⟩ → Calls Tryz.prog 71 #[.string S, .slice A n c] w' fun e w'' => ∃ T : ByteArray, e = .returned (.string T) ∧ T.data.toList = opLine ⟨k, a, b⟩ ∧ Below w'.heap.size w' w'') := hid fun A c n l w' hn hs hl => by
    subst hn
    have hf2 := fields_len2 ⟨k, a, b⟩
    have h := rrow_any S A c l w' hs (fun x hx => by
      rw [hl] at hx
      unfold fieldsOf at hx
      simp only [List.mem_append] at hx
      have h10 : (10 : Int) ^ 4 = 10000 := by decide
      rcases hx with hx | hx <;> split at hx <;> simp at hx <;> omega) (by omega) (by rw [hl]; omega)
    refine h.mono ?_
    rintro e w'' ⟨T, r1, r2, r3⟩
    refine ⟨T, r1, ?_, r3⟩
    rw [r2, hSd, hl]
    unfold opLine
    rw [Int.toNat_natCast]
  clear hS hSd hSz ha ha' hb hb' h1 h2
  rcases (show (k = 10 ∨ k = 11) ∨ k = 7 ∨ (k < 10 ∧ k ≠ 7) by omega) with hk | rfl | ⟨hk, hk7⟩
  · have hfo : fieldsOf ⟨k, a, b⟩ = [] := by
      unfold fieldsOf formA formB
      simp only [Int.toNat_natCast]
      rw [decide_eq_false (by omega), decide_eq_false (by omega)]; rfl
    have hro := fun w' => HROW.out none 0 0 [] w' rfl (Sl.nil _ _ _) hfo.symm
    have HRO := hid hro
    have hk9 : ¬ (k : Int) < 10 := by omega
    clear hro hfo hk HROW
    go_enter Tryz.func95, Tryz.ntmps95
    go_wp2_with (first
      | (go_at_call 119; refine (HNAME.out _).mono ?_; rintro e w2 ⟨rfl, hb2⟩; have HB2 := hid (((Below.refl _ _).alloc (Nat.le_refl _) _).trans (hb2.mono (by simp))); clear hb2)
      | (go_at_call 71; refine (HRO.out _).mono ?_; rintro e w3 ⟨T, rfl, hT, hb3⟩; have HB3 := hid (HB2.out.trans (hb3.mono HB2.out.size)); have HT := hid hT; clear hb3 hT))
    go_ret
    exact ⟨T, rfl, HT.out, HB3.out⟩
  · have hfo : fieldsOf ⟨(7 : Nat), a, b⟩ = [b] := by
      unfold fieldsOf formA formB
      simp
    have hro := fun (A : Option Addr) (c : Nat) w' (h : Sl w' A 1 1 (ints [b])) => HROW.out A c 1 [b] w' rfl h hfo.symm
    have HRO := hid hro
    clear hro hfo HROW
    go_enter Tryz.func95, Tryz.ntmps95
    go_upto_region 2 with fail
    generalize hA0 : (none : Option Addr) = A0
    have HR0 : Hid (∀ w', Row w' 3 1 A0 0 0 []) := hid fun w' => by rw [← hA0]; exact Row.nil _ _ _
    have HN0 : Hid (∀ j, ¬ InA A0 j) := hid fun j => by rw [← hA0]; simp [InA]
    clear hA0
    go_wp2_with (at_builtin; refine wpList_append_row _ rfl _ _ 64 rfl 3 i0 (.int .i64 0) 1 8 Tryz.underlying64 hi0 hz0 hz1 hz2 rfl (by decide) A0 0 0 [] rfl (HR0.out _) (some ⟨w.heap.size + 1, 0, none⟩) 1 1 [.int .i64 b] rfl (one_sl2 w _ _ _) (by intro u hu; simp at hu; subst hu; rfl) (by decide) (by decide) ?_)
    intro A1 c1 w3 hr3 hk3 hi3
    have hb0 : Below w.heap.size w (w.alloc (.cells #[.int .i64 7, .int .i64 a, .int .i64 b] 42)) := (Below.refl _ _).alloc (Nat.le_refl _) _
    have hb3 : Below w.heap.size w w3 := keep_own hb0 (fun j hj => absurd hj (HN0.out j)) hk3
    have g0 : w3.cell? ⟨w.heap.size, 0, none⟩ = some (.int .i64 7) := (hk3.cell (o := 0) (by simp; omega) (HN0.out _)).trans (blk_cell (alloc2_old' w _ _) 0)
    have hgl := cell_lt g0
    have HR3 := hid hr3.sl
    have HB3 := hid hb3
    clear hr3 hk3 hi3 hb0 hb3
    go_wp2_with (first
      | (go_at_call 119; refine (HNAME.out _).mono ?_; rintro e w4 ⟨rfl, hb4⟩; have HB4 := hid (HB3.out.trans (hb4.mono HB3.out.size)); have HR4 := hid (HR3.out.new hb4); clear hb4)
      | (go_at_call 71; refine (HRO.out _ _ _ HR4.out).mono ?_; rintro e w5 ⟨T, rfl, hT, hb5⟩; have HB5 := hid (HB4.out.trans (hb5.mono HB4.out.size)); have HT := hid hT; clear hb5 hT))
    go_ret
    exact ⟨T, rfl, HT.out, HB5.out⟩
  · have hfo : fieldsOf ⟨k, a, b⟩ = [a, b] := by
      unfold fieldsOf formA formB
      simp only [Int.toNat_natCast]
      rw [decide_eq_true (by omega), decide_eq_true (by omega)]; rfl
    have hro := fun (A : Option Addr) (c : Nat) w' (h : Sl w' A 1 2 (ints [a, b])) => HROW.out A c 2 [a, b] w' rfl h hfo.symm
    have HRO := hid hro
    have hk9 : (k : Int) < 10 := by omega
    have hk8 : ((k : Int) != 7) = true := by simp; omega
    clear hro hfo HROW
    go_enter Tryz.func95, Tryz.ntmps95
    go_upto_region 2 with fail
    generalize hA0 : (none : Option Addr) = A0
    have HR0 : Hid (∀ w', Row w' 3 1 A0 0 0 []) := hid fun w' => by rw [← hA0]; exact Row.nil _ _ _
    have HN0 : Hid (∀ j, ¬ InA A0 j) := hid fun j => by rw [← hA0]; simp [InA]
    clear hA0
    go_wp2_with (at_builtin; refine wpList_append_row _ rfl _ _ 64 rfl 3 i0 (.int .i64 0) 1 8 Tryz.underlying64 hi0 hz0 hz1 hz2 rfl (by decide) A0 0 0 [] rfl (HR0.out _) (some ⟨w.heap.size + 1, 0, none⟩) 1 1 [.int .i64 a] rfl (one_sl2 w _ _ _) (by intro u hu; simp at hu; subst hu; rfl) (by decide) (by decide) ?_)
    intro A1 c1 w3 hr3 hk3 hi3
    have hb0 : Below w.heap.size w (w.alloc (.cells #[.int .i64 k, .int .i64 a, .int .i64 b] 42)) := (Below.refl _ _).alloc (Nat.le_refl _) _
    have hb3 : Below w.heap.size w w3 := keep_own hb0 (fun j hj => absurd hj (HN0.out j)) hk3
    have hblk : w3.heap[w.heap.size]? = some (.cells #[.int .i64 k, .int .i64 a, .int .i64 b] 42 (0, 0)) := (hk3.block _ (by simp; omega) (HN0.out _)).trans (alloc2_old' w _ _)
    have hfr : ∀ j, InA A1 j → w.heap.size < j := fun j hj => by
      rcases hi3 j hj with h | h
      · exact absurd h (HN0.out j)
      · first | omega | (simp at h; omega)
    have g0 : w3.cell? ⟨w.heap.size, 2, none⟩ = some (.int .i64 b) := blk_cell hblk 2
    have hgl := cell_lt g0
    have HR3 := hid hr3
    have HB3 := hid hb3
    have HBLK := hid hblk
    have HFR := hid hfr
    clear hr3 hk3 hi3 hb0 hb3 hblk hfr
    go_wp2_with (at_builtin; refine wpList_append_row _ rfl _ _ 64 rfl 3 i0 (.int .i64 0) 1 8 Tryz.underlying64 hi0 hz0 hz1 hz2 rfl (by decide) A1 1 c1 [.int .i64 a] rfl (HR3.out.alloc _) (some ⟨w3.heap.size, 0, none⟩) 1 1 [.int .i64 b] rfl (one_sl w3 _ _) (by intro u hu; simp at hu; subst hu; rfl) (by decide) (by decide) ?_)
    intro A2 c2 w4 hr4 hk4 hi4
    have hb4 : Below w.heap.size w w4 := keep_own HB3.out (fun j hj => Nat.le_of_lt (HFR.out j hj)) hk4
    have hblk : w4.heap[w.heap.size]? = some (.cells #[.int .i64 k, .int .i64 a, .int .i64 b] 42 (0, 0)) := (hk4.block _ (by simp; omega) (fun h => by have := HFR.out _ h; omega)).trans ((blk_alloc hgl _).trans HBLK.out)
    have g1 : w4.cell? ⟨w.heap.size, 0, none⟩ = some (.int .i64 k) := blk_cell hblk 0
    have hgl4 := cell_lt g1
    have HR4 := hid hr4.sl
    have HB4 := hid hb4
    clear hr4 hk4 hi4 hb4 hblk g0 hgl
    go_wp2_with (first
      | (go_at_call 119; refine (HNAME.out _).mono ?_; rintro e w5 ⟨rfl, hb5⟩; have HB5 := hid (HB4.out.trans (hb5.mono HB4.out.size)); have HR5 := hid (HR4.out.new hb5); clear hb5)
      | (go_at_call 71; refine (HRO.out _ _ _ HR5.out).mono ?_; rintro e w6 ⟨T, rfl, hT, hb6⟩; have HB6 := hid (HB5.out.trans (hb6.mono HB5.out.size)); have HT := hid hT; clear hb6 hT))
    go_ret
    exact ⟨T, rfl, HT.out, HB6.out⟩

theorem opText_le {o : Op} (h : WfOp o) : (opText o).length ≤ 20 := by
  obtain ⟨⟨h1, h2⟩, ⟨ha, ha'⟩, ⟨hb, hb'⟩, _, _⟩ := h
  have hn : (nameOf o.what.toNat).length ≤ 4 := by
    have H : ∀ i ∈ List.range 12, (nameOf i).length ≤ 4 := by decide
    exact H _ (List.mem_range.2 (by omega))
  have h10 : (10 : Int) ^ 4 = 10000 := by decide
  have hi : ∀ n : Int, 0 ≤ n → n < 10 ^ 4 → (numT n).length ≤ 5 := fun n p1 p2 => by
    have := itoa_le (k := 3) p1 p2
    unfold numT; simp; omega
  have hA := hi o.a ha ha'
  have hB := hi o.b hb hb'
  have hf : ((fieldsOf o).flatMap numT).length ≤ 10 := by
    unfold fieldsOf
    split <;> split <;> simp <;> omega
  unfold opText opLine
  simp only [List.length_append, List.length_singleton]; omega
theorem code_len : ∀ (l : List Op), (∀ o ∈ l, WfOp o) → (codeText l).length ≤ 20 * l.length
  | [], _ => by simp [codeText]
  | o :: l, h => by
    have h1 := opText_le (h o (by simp))
    have h2 := code_len l fun x hx => h x (by simp [hx])
    unfold codeText at h2 ⊢
    rw [List.flatMap_cons, List.length_append, List.length_cons]; omega
theorem code_next {l : List Op} {j : Nat} {o : Op} (h : l[j]? = some o) : codeText (l.take (j + 1)) = codeText (l.take j) ++ opLine o ++ [10] := by
  obtain ⟨h1, h2⟩ := List.getElem?_eq_some_iff.1 h
  unfold codeText
  rw [List.take_succ_eq_append_getElem h1, List.flatMap_append, h2, List.append_assoc]; simp [opText]
set_option maxHeartbeats 4000000 in
/-- Code's text. -/
theorem rcodetext_any (A : Option Addr) (c : Nat) (l : List Op) (w : World) (hl : ∀ o ∈ l, WfOp o) (hs : Sl w A 3 l.length (l.flatMap Op.cells)) (h20 : l.length ≤ 20) :
    Calls Tryz.prog 31 #[.slice A l.length c] w fun e w' => ∃ T : ByteArray, e = .returned (.string T) ∧ T.data.toList = codeText l ∧ Below w.heap.size w w' := by
  have HL := hid hl
  have HS := hid hs
  obtain ⟨n, hn⟩ : ∃ n, n = l.length := ⟨_, rfl⟩
  rw [← hn] at HS h20 ⊢
  have HN := hid hn
  clear hl hs hn
  go_enter Tryz.func31, Tryz.ntmps31
  go_wp2_with fail
  go_loopw [3, 4] (fun v3 v4 wr => ∃ (j : Nat) (S : ByteArray), j ≤ n ∧ v3 = .string S ∧ v4 = .int .i64 j ∧ S.data.toList = codeText (l.take j) ∧ S.size ≤ 20 * j ∧ Below w.heap.size w wr) (fun _ v4 _ => n - (intOf v4).toNat)
  case atStart => exact ⟨0, _, by omega, rfl, rfl, rfl, by decide, Below.refl _ _⟩
  case round =>
    obtain ⟨j, S, hj, rfl, rfl, hsd, hsz, hb⟩ := hrel
    have HSD := hid hsd
    have HB := hid hb
    clear hsd hb
    by_cases hjn : j < n
    · have hjl : j < l.length := by rw [← HN.out]; exact hjn
      obtain ⟨b, off, rfl, hlb, g0, g1, g2⟩ := HS.out.op HB.out hjl hjn
      have hget := List.getElem?_eq_getElem hjl
      have hmem := List.getElem_mem hjl
      generalize l[j] = x at g0 g1 g2 hget hmem
      have hwf := HL.out x hmem
      have htx := opText_le hwf
      have HOT := hid (fun w' : World => roptext_any x hwf w')
      have HNX := hid (code_next hget)
      have HTX := hid htx
      obtain ⟨x0, x1, x2⟩ := x
      simp only [] at g0 g1 g2
      have hlw : b < wr.heap.size := Nat.lt_of_lt_of_le hlb HB.out.size
      have h1 : (⟨#[10]⟩ : ByteArray).size = 1 := rfl
      clear hget hmem hwf htx
      go_upto_region 6 with (go_at_call 95; refine (HOT.out _).mono ?_; rintro e w5 ⟨T, rfl, hT, hb5⟩; have HB5 := hid (HB.out.trans (hb5.mono HB.out.size)); have HT := hid hT; clear hb5 hT HOT)
      have hTs : T.size ≤ 19 := by
        have := HTX.out
        unfold opText at this
        rw [List.length_append, ← HT.out, ← Lib.size_eq] at this
        simp at this; omega
      go_wp2_with fail
      go_roundw
      case rel =>
        refine ⟨j + 1, _, by omega, rfl, by go_num, ?_, ?_, HB5.out⟩
        · rw [HNX.out, ← HT.out]
          have e := HSD.out
          rw [ByteArray.data_append, ByteArray.data_append, Array.toList_append, Array.toList_append, e]
        · rw [ByteArray.size_append, ByteArray.size_append, h1]; omega
      case measure => simp [intOf]; omega
    · obtain rfl : j = n := by omega
      go_wp2_with fail
      go_ret
      refine ⟨S, rfl, ?_, HB.out⟩
      rw [HSD.out, HN.out, List.take_length]
end Go.Proofs.YtldllmhgofacbaaGreatDoor
