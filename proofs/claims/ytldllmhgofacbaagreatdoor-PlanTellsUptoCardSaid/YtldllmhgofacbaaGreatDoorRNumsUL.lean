/- Several parts: each begins with what it says. -/
import Derived.Test.YtldllmhgofacbaaGreatDoorRTextUL
import Derived.Test.YtldllmhgofacbaaGreatDoorRPlanUL
import Derived.Test.YtldllmhgofacbaaGreatDoorDeskUL
import Derived.Test.YtldllmhgofacbaaGreatDoorEvUL
import Derived.Test.YtldllmhgofacbaaGreatDoorReadUL
import Derived.Test.YtldllmhgofacbaaGreatDoorRangeUL
import Derived.BigRegion
/- The reference (package frameref1): the contract of Numbers, for every row of words; of name, OpText and CodeText. Conditions: no text is longer than 2^40 bytes. -/
namespace Go.Proofs.YtldllmhgofacbaaGreatDoor
open Go.RowKit
set_option maxRecDepth 100000

theorem row_word {w : World} {A : Option Addr} {n c : Nat} {P : List (List UInt8)} (h : Row w 9 1 A n c (P.map txt)) {i : Nat} {s : List UInt8} (hs : P[i]? = some s) : ∃ b off, A = some ⟨b, off, none⟩ ∧ b < w.heap.size ∧ i < n ∧ w.cell? ⟨b, off + i, none⟩ = some (.string ⟨s.toArray⟩) := by
  have hl := (List.getElem?_eq_some_iff.1 hs).1
  have hn : P.length = n := by have := h.sl.1; rw [List.length_map] at this; omega
  obtain ⟨b, off, rfl, hb, hx⟩ := h.sl.2 (by omega)
  exact ⟨b, off, rfl, hb, by omega, hx i _ (by rw [List.getElem?_map, hs]; rfl)⟩
/-- What the reference's Numbers hands back. -/
def RNumsGot (most : Int) (P : List (List UInt8)) (w : World) (e : Ending) (w' : World) : Prop :=
  Below w.heap.size w w' ∧ ((∃ (ns : List Nat) (A : Option Addr) (n c : Nat), numsOf most P = some ns ∧ ns.length = n ∧ e = .returned (.tuple #[.slice A n c, .bool true]) ∧ Row w' 3 1 A n c (ints (ns.map Int.ofNat)) ∧ ∀ i, InA A i → w.heap.size ≤ i) ∨
    (numsOf most P = none ∧ e = .returned (.tuple #[.slice none 0 0, .bool false])))
theorem numsOf_step {most : Int} {P : List (List UInt8)} {j : Nat} {s : List UInt8} (h : P[j]? = some s) {ns : List Nat} (hn : numsOf most (P.take j) = some ns) :
    (∀ n, numOf most s = some n → numsOf most (P.take (j + 1)) = some (ns ++ [n])) ∧ (numOf most s = none → numsOf most P = none) := by
  obtain ⟨h1, h2⟩ := List.getElem?_eq_some_iff.1 h
  refine ⟨fun n hm => ?_, fun hm => ?_⟩
  · rw [List.take_succ_eq_append_getElem h1, numsOf_snoc hn, h2, hm]; rfl
  · have e : P = P.take j ++ s :: P.drop (j + 1) := by
      rw [← h2, List.getElem_cons_drop, List.take_append_drop]
    rw [e]; exact numsOf_bad hm

set_option maxHeartbeats 4000000 in
theorem rnumbers_any (v0 : List UInt8) (P : List (List UInt8)) (A : Option Addr) (n c : Nat) (most : Int) (hm : most ≤ 7) (hn : P.length + 1 = n) (hn1 : n ≤ 1073741825) (hs : ∀ s ∈ P, s.length ≤ 1099511627776) (w : World) (hr : Row w 9 1 A n c ((v0 :: P).map txt)) :
    Calls Tryz.prog 73 #[.slice A n c, .int .i64 most] w (RNumsGot most P w) := by
  obtain ⟨i0, hi0, hz0, hz1, hz2⟩ := info_parts Tryz.infoInt
  have HR := hid hr
  have HN := hid hn
  have HS := hid hs
  have HLN := hid (show 0 < n by omega)
  clear hr hs
  go_enter Tryz.func73, Tryz.ntmps73
  go_wp2_with fail
  go_loopw [6, 7] (fun v6 v7 wr => ∃ (k : Nat) (B : Option Addr) (d j : Nat) (ns : List Nat), 1 ≤ k ∧ k ≤ n ∧ v6 = .slice B j d ∧ v7 = .int .i64 k ∧ k = j + 1 ∧ ns.length = j ∧ numsOf most (P.take j) = some ns ∧ Row wr 3 1 B j d (ints (ns.map Int.ofNat)) ∧ (∀ i, InA B i → w.heap.size ≤ i) ∧ Below w.heap.size w wr) (fun _ v7 _ => n - (intOf v7).toNat)
  case atStart => exact ⟨1, none, 0, 0, [], by omega, by omega, rfl, rfl, rfl, rfl, rfl, Row.nil _ _ _, fun i hi => by simp [InA] at hi, Below.refl _ _⟩
  case round =>
    obtain ⟨k, B, d, j, ns, hk1, hkn, rfl, rfl, hkj, hnl, hns, hrow, hnew, hb⟩ := hrel
    have HNS := hid hns
    have HROW := hid hrow
    have HNEW := hid hnew
    have HB := hid hb
    have HNL := hid hnl
    have HKJ := hid hkj
    clear hns hrow hnew hb hnl
    by_cases hlt : k < n
    · have hjl : j < P.length := by omega
      have hjn : j ≤ 1073741825 := by omega
      have hget := List.getElem?_eq_getElem hjl
      have hmem := List.getElem_mem hjl
      generalize P[j] = s at hget hmem
      obtain ⟨b, off, rfl, hlb, _, hc⟩ := row_word HR.out (i := k) (s := s) (by rw [hkj, List.getElem?_cons_succ]; exact hget)
      obtain ⟨S, hS⟩ : ∃ S : ByteArray, S = ⟨s.toArray⟩ := ⟨_, rfl⟩
      have hSd : S.data.toList = s := by rw [hS]
      have hSz : S.size ≤ 1099511627776 := by rw [Lib.size_eq, hSd]; exact HS.out s hmem
      rw [← hS] at hc
      have hk : wr.cell? ⟨b, off + k, none⟩ = some (.string S) := (HB.out.cell (p := ⟨b, off + k, none⟩) hlb).trans hc
      have hbw : b < wr.heap.size := Nat.lt_of_lt_of_le hlb HB.out.size
      have hnb := rnumber_any S most hm wr hSz
      unfold RNumGot at hnb
      rw [hSd] at hnb
      have HNB := hid hnb
      have HAT := hid (numsOf_step hget HNS.out)
      clear hget hmem hc hS hSd hSz hnb hkj hn
      go_wp2_with fail
      refine HNB.out.mono ?_
      rintro e w2 ⟨v, b2, rfl, rfl, hor⟩
      rcases hor with ⟨rfl, hnum⟩ | ⟨rfl, rfl, hnum⟩
      · have HNX := hid (HAT.out.1 v hnum)
        clear hnum HAT
        go_wp2_with (at_builtin; refine wpList_append_row _ rfl _ _ 64 rfl 3 i0 (.int .i64 0) 1 8 Tryz.underlying64 hi0 hz0 hz1 hz2 rfl (by decide) B j d (ints (ns.map Int.ofNat)) rfl ?c0 (some ⟨wr.heap.size, 0, none⟩) 1 1 [.int .i64 v] rfl ?c1 ?c2 ?c3 ?c4 ?_)
        case c0 => exact HROW.out.alloc _
        case c1 => exact one_sl wr _ _
        case c2 => intro u hu; simp at hu; subst hu; rfl
        case c3 => unfold maxLen; omega
        case c4 => omega
        intro B' d' w3 hr3 hk3 hi3
        have HR3 := hid hr3
        have HK3 := hid hk3
        have HI3 := hid hi3
        clear hr3 hk3 hi3
        go_wp2_with fail
        go_roundw
        case rel =>
          refine ⟨k + 1, B', d', j + 1, ns ++ [v], by omega, by omega, rfl, by go_num, by rw [HKJ.out], by simp [HNL.out], HNX.out, ?_, ?_, keep_own HB.out HNEW.out HK3.out⟩
          · rw [List.map_append, ints_append]; exact HR3.out
          · intro i hi
            rcases HI3.out i hi with h | h
            · exact HNEW.out i h
            · have := HB.out.size; omega
        case measure => simp [intOf]; omega
      · have HNX := hid (HAT.out.2 hnum)
        clear hnum HAT
        go_wp2_with fail
        go_ret2
        exact ⟨HB.out, .inr ⟨HNX.out, rfl⟩⟩
    · obtain rfl : k = n := by omega
      have HFIN : Hid (numsOf most P = some ns) := by
        have := HNS.out
        rw [List.take_of_length_le (by have := HKJ.out; have := HN.out; omega)] at this
        exact hid this
      clear hkj hn
      go_wp2_with fail
      go_ret2
      exact ⟨HB.out, .inl ⟨ns, B, _, d, HFIN.out, HNL.out, rfl, HROW.out, HNEW.out⟩⟩

set_option maxHeartbeats 8000000 in
/-- The name of what an op does. -/
theorem rname_any (k : Nat) (h1 : 1 ≤ k) (h2 : k ≤ 11) (w : World) : Calls Tryz.prog 119 #[.int .i64 k] w fun e w' => e = .returned (.string ⟨(nameOf k).toArray⟩) ∧ Below w.heap.size w w' := by
  rcases (show k = 1 ∨ k = 2 ∨ k = 3 ∨ k = 4 ∨ k = 5 ∨ k = 6 ∨ k = 7 ∨ k = 8 ∨ k = 9 ∨ k = 10 ∨ k = 11 by omega) with rfl | rfl | rfl | rfl | rfl | rfl | rfl | rfl | rfl | rfl | rfl
  all_goals
    go_enter Tryz.func119, Tryz.ntmps119
    go_wp2_with fail
    go_ret
    exact ⟨rfl, (Below.refl _ _).alloc (Nat.le_refl _) _⟩

theorem alloc2_old' (w : World) (o o' : Obj) : ((w.alloc o).alloc o').heap[w.heap.size]? = some o := by rw [blk_alloc (by simp)]; exact heap_alloc_new w o
theorem one_sl2 (w : World) (o : Obj) (v : Value) (T : Nat) : Sl ((w.alloc o).alloc (.cells #[v] T)) (some ⟨w.heap.size + 1, 0, none⟩) 1 1 [v] := by
  have h := one_sl (w.alloc o) v T
  rw [sz_alloc] at h; exact h
theorem fields_len2 (o : Op) : (fieldsOf o).length ≤ 2 := by
  unfold fieldsOf
  rw [List.length_append]
  split <;> split <;> simp
set_option maxHeartbeats 4000000 in
/-- An op's line. -/
theorem roptext_any (o : Op) (h : WfOp o) (w : World) : Calls Tryz.prog 95 #[.agg #[.int .i64 o.what, .int .i64 o.a, .int .i64 o.b]] w fun e w' => ∃ T : ByteArray, e = .returned (.string T) ∧ T.data.toList = opLine o ∧ Below w.heap.size w w' := by
  obtain ⟨⟨h1, h2⟩, ⟨ha, ha'⟩, ⟨hb, hb'⟩, _, _⟩ := h
  obtain ⟨what, a, b⟩ := o
  simp only [] at *
  obtain ⟨k, rfl⟩ : ∃ k : Nat, what = k := ⟨what.toNat, by omega⟩
  have hk1 : 1 ≤ k := by omega
  have hk2 : k ≤ 11 := by omega
  obtain ⟨i0, hi0, hz0, hz1, hz2⟩ := info_parts Tryz.infoInt
  have HNAME : Hid (∀ w', Calls Tryz.prog 119 #[.int .i64 k] w' fun e w'' => e = .returned (.string ⟨(nameOf k).toArray⟩) ∧ Below w'.heap.size w' w'') := hid fun w' => rname_any k hk1 hk2 w'
  obtain ⟨S, hS⟩ : ∃ S : ByteArray, S = ⟨(nameOf k).toArray⟩ := ⟨_, rfl⟩
  have hSd : S.data.toList = nameOf k := by rw [hS]
  have hSz : S.size ≤ 10 := by
    rw [Lib.size_eq, hSd]
    have H : ∀ i ∈ List.range 12, (nameOf i).length ≤ 10 := by decide
    exact H k (List.mem_range.2 (by omega))
  rw [← hS] at HNAME
  have HROW : Hid (∀ (A : Option Addr) (c n : Nat) (l : List Int) (w' : World), l.length = n → Sl w' A 1 n (ints l) → l = fieldsOf ⟨k, a, b⟩ → Calls Tryz.prog 71 #[.string S, .slice A n c] w' fun e w'' => ∃ T : ByteArray, e = .returned (.string T) ∧ T.data.toList = opLine ⟨k, a, b⟩ ∧ Below w'.heap.size w' w'') := hid fun A c n l w' hn hs hl => by
    subst hn
    have hf2 := fields_len2 ⟨k, a, b⟩
    have h := rrow_any S A c l w' hs (fun x hx => by
      rw [hl] at hx
      unfold fieldsOf at hx
      simp only [List.mem_append] at hx
      have h10 : (10 : Int) ^ 4 = 10000 := by decide
      rcases hx with hx | hx <;> split at hx <;> simp at hx <;> omega) (by omega) (by rw [hl]; omega)
    refine h.mono ?_
    rintro e w'' ⟨T, r1, r2, r3⟩
    refine ⟨T, r1, ?_, r3⟩
    rw [r2, hSd, hl]
    unfold opLine
    rw [Int.toNat_natCast]
  clear hS hSd hSz ha ha' hb hb' h1 h2
  rcases (show (k = 10 ∨ k = 11) ∨ k = 7 ∨ (k < 10 ∧ k ≠ 7) by omega) with hk | rfl | ⟨hk, hk7⟩
  · have hfo : fieldsOf ⟨k, a, b⟩ = [] := by
      unfold fieldsOf formA formB
      simp only [Int.toNat_natCast]
      rw [decide_eq_false (by omega), decide_eq_false (by omega)]; rfl
    have hro := fun w' => HROW.out none 0 0 [] w' rfl (Sl.nil _ _ _) hfo.symm
    have HRO := hid hro
    have hk9 : ¬ (k : Int) < 10 := by omega
    clear hro hfo hk HROW
    go_enter Tryz.func95, Tryz.ntmps95
    go_wp2_with (first
      | (go_at_call 119; refine (HNAME.out _).mono ?_; rintro e w2 ⟨rfl, hb2⟩; have HB2 := hid (((Below.refl _ _).alloc (Nat.le_refl _) _).trans (hb2.mono (by simp))); clear hb2)
      | (go_at_call 71; refine (HRO.out _).mono ?_; rintro e w3 ⟨T, rfl, hT, hb3⟩; have HB3 := hid (HB2.out.trans (hb3.mono HB2.out.size)); have HT := hid hT; clear hb3 hT))
    go_ret
    exact ⟨T, rfl, HT.out, HB3.out⟩
  · have hfo : fieldsOf ⟨(7 : Nat), a, b⟩ = [b] := by
      unfold fieldsOf formA formB
      simp
    have hro := fun (A : Option Addr) (c : Nat) w' (h : Sl w' A 1 1 (ints [b])) => HROW.out A c 1 [b] w' rfl h hfo.symm
    have HRO := hid hro
    clear hro hfo HROW
    go_enter Tryz.func95, Tryz.ntmps95
    go_upto_region 2 with fail
    generalize hA0 : (none : Option Addr) = A0
    have HR0 : Hid (∀ w', Row w' 3 1 A0 0 0 []) := hid fun w' => by rw [← hA0]; exact Row.nil _ _ _
    have HN0 : Hid (∀ j, ¬ InA A0 j) := hid fun j => by rw [← hA0]; simp [InA]
    clear hA0
    go_wp2_with (at_builtin; refine wpList_append_row _ rfl _ _ 64 rfl 3 i0 (.int .i64 0) 1 8 Tryz.underlying64 hi0 hz0 hz1 hz2 rfl (by decide) A0 0 0 [] rfl (HR0.out _) (some ⟨w.heap.size + 1, 0, none⟩) 1 1 [.int .i64 b] rfl (one_sl2 w _ _ _) (by intro u hu; simp at hu; subst hu; rfl) (by decide) (by decide) ?_)
    intro A1 c1 w3 hr3 hk3 hi3
    have hb0 : Below w.heap.size w (w.alloc (.cells #[.int .i64 7, .int .i64 a, .int .i64 b] 42)) := (Below.refl _ _).alloc (Nat.le_refl _) _
    have hb3 : Below w.heap.size w w3 := keep_own hb0 (fun j hj => absurd hj (HN0.out j)) hk3
    have g0 : w3.cell? ⟨w.heap.size, 0, none⟩ = some (.int .i64 7) := (hk3.cell (o := 0) (by simp; omega) (HN0.out _)).trans (blk_cell (alloc2_old' w _ _) 0)
    have hgl := cell_lt g0
    have HR3 := hid hr3.sl
    have HB3 := hid hb3
    clear hr3 hk3 hi3 hb0 hb3
    go_wp2_with (first
      | (go_at_call 119; refine (HNAME.out _).mono ?_; rintro e w4 ⟨rfl, hb4⟩; have HB4 := hid (HB3.out.trans (hb4.mono HB3.out.size)); have HR4 := hid (HR3.out.new hb4); clear hb4)
      | (go_at_call 71; refine (HRO.out _ _ _ HR4.out).mono ?_; rintro e w5 ⟨T, rfl, hT, hb5⟩; have HB5 := hid (HB4.out.trans (hb5.mono HB4.out.size)); have HT := hid hT; clear hb5 hT))
    go_ret
    exact ⟨T, rfl, HT.out, HB5.out⟩
  · have hfo : fieldsOf ⟨k, a, b⟩ = [a, b] := by
      unfold fieldsOf formA formB
      simp only [Int.toNat_natCast]
      rw [decide_eq_true (by omega), decide_eq_true (by omega)]; rfl
    have hro := fun (A : Option Addr) (c : Nat) w' (h : Sl w' A 1 2 (ints [a, b])) => HROW.out A c 2 [a, b] w' rfl h hfo.symm
    have HRO := hid hro
    have hk9 : (k : Int) < 10 := by omega
    have hk8 : ((k : Int) != 7) = true := by simp; omega
    clear hro hfo HROW
    go_enter Tryz.func95, Tryz.ntmps95
    go_upto_region 2 with fail
    generalize hA0 : (none : Option Addr) = A0
    have HR0 : Hid (∀ w', Row w' 3 1 A0 0 0 []) := hid fun w' => by rw [← hA0]; exact Row.nil _ _ _
    have HN0 : Hid (∀ j, ¬ InA A0 j) := hid fun j => by rw [← hA0]; simp [InA]
    clear hA0
    go_wp2_with (at_builtin; refine wpList_append_row _ rfl _ _ 64 rfl 3 i0 (.int .i64 0) 1 8 Tryz.underlying64 hi0 hz0 hz1 hz2 rfl (by decide) A0 0 0 [] rfl (HR0.out _) (some ⟨w.heap.size + 1, 0, none⟩) 1 1 [.int .i64 a] rfl (one_sl2 w _ _ _) (by intro u hu; simp at hu; subst hu; rfl) (by decide) (by decide) ?_)
    intro A1 c1 w3 hr3 hk3 hi3
    have hb0 : Below w.heap.size w (w.alloc (.cells #[.int .i64 k, .int .i64 a, .int .i64 b] 42)) := (Below.refl _ _).alloc (Nat.le_refl _) _
    have hb3 : Below w.heap.size w w3 := keep_own hb0 (fun j hj => absurd hj (HN0.out j)) hk3
    have hblk : w3.heap[w.heap.size]? = some (.cells #[.int .i64 k, .int .i64 a, .int .i64 b] 42 (0, 0)) := (hk3.block _ (by simp; omega) (HN0.out _)).trans (alloc2_old' w _ _)
    have hfr : ∀ j, InA A1 j → w.heap.size < j := fun j hj => by
      rcases hi3 j hj with h | h
      · exact absurd h (HN0.out j)
      · first | omega | (simp at h; omega)
    have g0 : w3.cell? ⟨w.heap.size, 2, none⟩ = some (.int .i64 b) := blk_cell hblk 2
    have hgl := cell_lt g0
    have HR3 := hid hr3
    have HB3 := hid hb3
    have HBLK := hid hblk
    have HFR := hid hfr
    clear hr3 hk3 hi3 hb0 hb3 hblk hfr
    go_wp2_with (at_builtin; refine wpList_append_row _ rfl _ _ 64 rfl 3 i0 (.int .i64 0) 1 8 Tryz.underlying64 hi0 hz0 hz1 hz2 rfl (by decide) A1 1 c1 [.int .i64 a] rfl (HR3.out.alloc _) (some ⟨w3.heap.size, 0, none⟩) 1 1 [.int .i64 b] rfl (one_sl w3 _ _) (by intro u hu; simp at hu; subst hu; rfl) (by decide) (by decide) ?_)
    intro A2 c2 w4 hr4 hk4 hi4
    have hb4 : Below w.heap.size w w4 := keep_own HB3.out (fun j hj => Nat.le_of_lt (HFR.out j hj)) hk4
    have hblk : w4.heap[w.heap.size]? = some (.cells #[.int .i64 k, .int .i64 a, .int .i64 b] 42 (0, 0)) := (hk4.block _ (by simp; omega) (fun h => by have := HFR.out _ h; omega)).trans ((blk_alloc hgl _).trans HBLK.out)
    have g1 : w4.cell? ⟨w.heap.size, 0, none⟩ = some (.int .i64 k) := blk_cell hblk 0
    have hgl4 := cell_lt g1
    have HR4 := hid hr4.sl
    have HB4 := hid hb4
    clear hr4 hk4 hi4 hb4 hblk g0 hgl
    go_wp2_with (first
      | (go_at_call 119; refine (HNAME.out _).mono ?_; rintro e w5 ⟨rfl, hb5⟩; have HB5 := hid (HB4.out.trans (hb5.mono HB4.out.size)); have HR5 := hid (HR4.out.new hb5); clear hb5)
      | (go_at_call 71; refine (HRO.out _ _ _ HR5.out).mono ?_; rintro e w6 ⟨T, rfl, hT, hb6⟩; have HB6 := hid (HB5.out.trans (hb6.mono HB5.out.size)); have HT := hid hT; clear hb6 hT))
    go_ret
    exact ⟨T, rfl, HT.out, HB6.out⟩

theorem opText_le {o : Op} (h : WfOp o) : (opText o).length ≤ 20 := by
  obtain ⟨⟨h1, h2⟩, ⟨ha, ha'⟩, ⟨hb, hb'⟩, _, _⟩ := h
  have hn : (nameOf o.what.toNat).length ≤ 4 := by
    have H : ∀ i ∈ List.range 12, (nameOf i).length ≤ 4 := by decide
    exact H _ (List.mem_range.2 (by omega))
  have h10 : (10 : Int) ^ 4 = 10000 := by decide
  have hi : ∀ n : Int, 0 ≤ n → n < 10 ^ 4 → (numT n).length ≤ 5 := fun n p1 p2 => by
    have := itoa_le (k := 3) p1 p2
    unfold numT; simp; omega
  have hA := hi o.a ha ha'
  have hB := hi o.b hb hb'
  have hf : ((fieldsOf o).flatMap numT).length ≤ 10 := by
    unfold fieldsOf
    split <;> split <;> simp <;> omega
  unfold opText opLine
  simp only [List.length_append, List.length_singleton]; omega
theorem code_len : ∀ (l : List Op), (∀ o ∈ l, WfOp o) → (codeText l).length ≤ 20 * l.length
  | [], _ => by simp [codeText]
  | o :: l, h => by
    have h1 := opText_le (h o (by simp))
    have h2 := code_len l fun x hx => h x (by simp [hx])
    unfold codeText at h2 ⊢
    rw [List.flatMap_cons, List.length_append, List.length_cons]; omega
theorem code_next {l : List Op} {j : Nat} {o : Op} (h : l[j]? = some o) : codeText (l.take (j + 1)) = codeText (l.take j) ++ opLine o ++ [10] := by
  obtain ⟨h1, h2⟩ := List.getElem?_eq_some_iff.1 h
  unfold codeText
  rw [List.take_succ_eq_append_getElem h1, List.flatMap_append, h2, List.append_assoc]; simp [opText]
set_option maxHeartbeats 4000000 in
/-- Code's text. -/
theorem rcodetext_any (A : Option Addr) (c : Nat) (l : List Op) (w : World) (hl : ∀ o ∈ l, WfOp o) (hs : Sl w A 3 l.length (l.flatMap Op.cells)) (h20 : l.length ≤ 20) :
    Calls Tryz.prog 31 #[.slice A l.length c] w fun e w' => ∃ T : ByteArray, e = .returned (.string T) ∧ T.data.toList = codeText l ∧ Below w.heap.size w w' := by
  have HL := hid hl
  have HS := hid hs
  obtain ⟨n, hn⟩ : ∃ n, n = l.length := ⟨_, rfl⟩
  rw [← hn] at HS h20 ⊢
  have HN := hid hn
  clear hl hs hn
  go_enter Tryz.func31, Tryz.ntmps31
  go_wp2_with fail
  go_loopw [3, 4] (fun v3 v4 wr => ∃ (j : Nat) (S : ByteArray), j ≤ n ∧ v3 = .string S ∧ v4 = .int .i64 j ∧ S.data.toList = codeText (l.take j) ∧ S.size ≤ 20 * j ∧ Below w.heap.size w wr) (fun _ v4 _ => n - (intOf v4).toNat)
  case atStart => exact ⟨0, _, by omega, rfl, rfl, rfl, by decide, Below.refl _ _⟩
  case round =>
    obtain ⟨j, S, hj, rfl, rfl, hsd, hsz, hb⟩ := hrel
    have HSD := hid hsd
    have HB := hid hb
    clear hsd hb
    by_cases hjn : j < n
    · have hjl : j < l.length := by rw [← HN.out]; exact hjn
      obtain ⟨b, off, rfl, hlb, g0, g1, g2⟩ := HS.out.op HB.out hjl hjn
      have hget := List.getElem?_eq_getElem hjl
      have hmem := List.getElem_mem hjl
      generalize l[j] = x at g0 g1 g2 hget hmem
      have hwf := HL.out x hmem
      have htx := opText_le hwf
      have HOT := hid (fun w' : World => roptext_any x hwf w')
      have HNX := hid (code_next hget)
      have HTX := hid htx
      obtain ⟨x0, x1, x2⟩ := x
      simp only [] at g0 g1 g2
      have hlw : b < wr.heap.size := Nat.lt_of_lt_of_le hlb HB.out.size
      have h1 : (⟨#[10]⟩ : ByteArray).size = 1 := rfl
      clear hget hmem hwf htx
      go_upto_region 6 with (go_at_call 95; refine (HOT.out _).mono ?_; rintro e w5 ⟨T, rfl, hT, hb5⟩; have HB5 := hid (HB.out.trans (hb5.mono HB.out.size)); have HT := hid hT; clear hb5 hT HOT)
      have hTs : T.size ≤ 19 := by
        have := HTX.out
        unfold opText at this
        rw [List.length_append, ← HT.out, ← Lib.size_eq] at this
        simp at this; omega
      go_wp2_with fail
      go_roundw
      case rel =>
        refine ⟨j + 1, _, by omega, rfl, by go_num, ?_, ?_, HB5.out⟩
        · rw [HNX.out, ← HT.out]
          have e := HSD.out
          rw [ByteArray.data_append, ByteArray.data_append, Array.toList_append, Array.toList_append, e]
        · rw [ByteArray.size_append, ByteArray.size_append, h1]; omega
      case measure => simp [intOf]; omega
    · obtain rfl : j = n := by omega
      go_wp2_with fail
      go_ret
      refine ⟨S, rfl, ?_, HB.out⟩
      rw [HSD.out, HN.out, List.take_length]
end Go.Proofs.YtldllmhgofacbaaGreatDoor

/- Plain: a text as the reference cuts it, at its lines' ends and at blanks: which texts are events. No program is walked. Conditions: none. -/
namespace Go.Proofs.YtldllmhgofacbaaGreatDoor

theorem cut_lines (c : UInt8) : ∀ (l acc : List UInt8), c ∉ acc → ∃ (P : List (List UInt8)) (z : List UInt8), cutA c acc l = P ++ [z] ∧ acc ++ l = P.flatMap (fun x => x ++ [c]) ++ z ∧ (∀ x ∈ P, c ∉ x) ∧ c ∉ z
  | [], acc, h => ⟨[], acc, rfl, (by simp), (fun x hx => by cases hx), h⟩
  | x :: l, acc, h => by
    unfold cutA
    split
    · rename_i hx
      subst hx
      obtain ⟨P, z, h1, h2, h3, h4⟩ := cut_lines x l [] (by simp)
      rw [List.nil_append] at h2
      refine ⟨acc :: P, z, by rw [h1]; rfl, ?_, ?_, h4⟩
      · rw [List.flatMap_cons, List.append_assoc, ← h2]; simp
      · intro y hy
        rcases List.mem_cons.1 hy with rfl | hy
        · exact h
        · exact h3 y hy
    · rename_i hx
      obtain ⟨P, z, h1, h2, h3, h4⟩ := cut_lines c l (acc ++ [x]) (by simp only [List.mem_append, List.mem_singleton]; rintro (h' | h'); exact h h'; exact hx h'.symm)
      exact ⟨P, z, h1, by rw [← h2]; simp, h3, h4⟩
theorem lines_joined {P : List (List UInt8)} (hP : ∀ x ∈ P, (10 : UInt8) ∉ x) : linesOf (P.flatMap fun x => x ++ [10]) = P.map fun x => x ++ [10] := linesG_of (fun x => x) P hP
theorem evs_no_tail {P : List (List UInt8)} {z t : List UInt8} (ht : t = P.flatMap (fun x => x ++ [10]) ++ z) (hz : z ≠ []) (h10 : (10 : UInt8) ∉ z) (l : List Ev) : evsText l ≠ t := by
  rintro rfl
  obtain ⟨y, hy⟩ : ∃ y, z.getLast? = some y := by
    cases hx : z.getLast? with
    | none => exact absurd (List.getLast?_eq_none_iff.1 hx) hz
    | some y => exact ⟨y, rfl⟩
  have h1 : (evsText l).getLast? = some y := by rw [ht, List.getLast?_append, hy]; rfl
  rcases List.eq_nil_or_concat l with rfl | ⟨l', x, rfl⟩
  · simp [evsText] at h1
  · have h2 : evsText (l'.concat x) = evsText l' ++ evLine x ++ [10] := by
      unfold evsText evText
      rw [List.concat_eq_append, List.flatMap_append]; simp
    rw [h2, List.getLast?_append] at h1
    simp at h1
    exact h10 (h1 ▸ List.mem_of_getLast? hy)
theorem evs_line_no {P : List (List UInt8)} {t s : List UInt8} (ht : t = P.flatMap fun x => x ++ [10]) (hP : ∀ x ∈ P, (10 : UInt8) ∉ x) (hs : s ∈ P) (hno : ∀ x, WfEv x → evLine x ≠ s) (l : List Ev) (hl : ∀ o ∈ l, WfEv o) : evsText l ≠ t := by
  refine evs_not (x := s ++ [10]) ?_ (fun o ho e => hno o ho (List.append_cancel_right e)) l hl
  rw [ht, lines_joined hP]
  exact List.mem_map_of_mem (f := fun x => x ++ [10]) hs
theorem evs_all {P : List (List UInt8)} {l : List Ev} (h : l.map evLine = P) : evsText l = P.flatMap fun x => x ++ [10] := by
  subst h
  unfold evsText evText
  rw [List.flatMap_map]
theorem words_no {s : List UInt8} (h : (cutA 32 [] s).length ≠ 4) (x : Ev) : evLine x ≠ s := by
  rintro rfl
  rw [cut_ev] at h
  exact h rfl
theorem word_no {s a b c d : List UInt8} (hc : cutA 32 [] s = [a, b, c, d]) (h : numOf 7 a = none ∨ numOf 7 (wordOf b) = none ∨ numOf 7 c = none ∨ numOf 7 d = none) (x : Ev) (hx : WfEv x) : evLine x ≠ s := by
  intro e
  have h1 := cut_ev x
  rw [e, hc] at h1
  simp only [List.cons.injEq, and_true] at h1
  obtain ⟨e0, e1, e2, e3⟩ := h1
  have h2 := (evread_nums hx).1
  rw [← e0, ← e1, ← e2, ← e3] at h2
  have h3 : numsOf 7 [a, wordOf b, c, d] = none := by
    rcases h with h | h | h | h
    · exact numsOf_bad (l := []) h
    · exact numsOf_bad (l := [a]) h
    · exact numsOf_bad (l := [a, wordOf b]) h
    · exact numsOf_bad (l := [a, wordOf b, c]) h
  rw [h3] at h2
  cases h2
theorem word_yes {s a b c d : List UInt8} {n0 n1 n2 n3 : Nat} (hc : cutA 32 [] s = [a, b, c, d]) (h0 : numOf 7 a = some n0) (h1 : numOf 7 (wordOf b) = some n1) (h2 : numOf 7 c = some n2) (h3 : numOf 7 d = some n3) :
    WfEv ⟨n0, if b = [45] then -1 else n1, n2, n3⟩ ∧ evLine ⟨n0, if b = [45] then -1 else n1, n2, n3⟩ = s := by
  refine evread_yes hc ?_
  unfold numsOf
  rw [h0]
  simp only []
  unfold numsOf
  rw [h1]
  simp only []
  unfold numsOf
  rw [h2]
  simp only []
  unfold numsOf
  rw [h3]
  rfl
end Go.Proofs.YtldllmhgofacbaaGreatDoor

/- The reference (package frameref1): the contracts of ReadOp and ReadCode, for every text. Conditions: no text is longer than 2^30 bytes. -/
namespace Go.Proofs.YtldllmhgofacbaaGreatDoor
open Go.RowKit
set_option maxRecDepth 100000

theorem rread_ret {w' : World} {a : Act} {b : Nat} {x y z : Value} {fl : Bool} {R : Ending → World → Prop} (hx : w'.heap[b]? = some (.cells #[x, y, z] 42 (0, 0))) (h2 : a.tmps[2]? = some (.pointer (some ⟨b, 0, none⟩))) (h3 : a.tmps[3]? = some (.bool fl)) (hd : a.defers = [])
    (h : R (.returned (.tuple #[.agg #[x, y, z], .bool fl])) w') : bodyPost Tryz.prog Tryz.f74 R .ret a w' := by
  have c0 := blk_cell hx 0
  have c1 := blk_cell hx 1
  have c2 := blk_cell hx 2
  simp at c0 c1 c2
  refine bodyPost_ret (v := .tuple #[.agg #[x, y, z], .bool fl]) ?_ hd h
  simp [results, Tryz.results74, go_sem, h2, h3, c0, c1, c2]
/-- An op stored over the result's cells. -/
def putOp (w : World) (b : Nat) (x y z : Int) : World := ((w.setCell ⟨b, 0, none⟩ (.int .i64 x)).setCell ⟨b, 1, none⟩ (.int .i64 y)).setCell ⟨b, 2, none⟩ (.int .i64 z)
theorem putOp_heap {w : World} {b : Nat} {x y z : Int} {u0 u1 u2 : Value} (h : w.heap[b]? = some (.cells #[u0, u1, u2] 42 (0, 0))) : (putOp w b x y z).heap[b]? = some (.cells #[.int .i64 x, .int .i64 y, .int .i64 z] 42 (0, 0)) :=
  blk_set (blk_set (blk_set h 0 (.int .i64 x)) 1 (.int .i64 y)) 2 (.int .i64 z)
theorem putOp_below {w w0 : World} {b : Nat} {x y z : Int} (h : Below w0.heap.size w0 w) (hb : w0.heap.size ≤ b) : Below w0.heap.size w0 (putOp w b x y z) :=
  ((h.setCell (p := ⟨b, 0, none⟩) hb _).setCell (p := ⟨b, 1, none⟩) hb _).setCell (p := ⟨b, 2, none⟩) hb _
theorem rread_done {w wr : World} {a : Act} {s : ByteArray} {x y z : Int} {fl : Bool} (hb : Below w.heap.size w wr) (hx : wr.heap[w.heap.size]? = some (.cells #[.int .i64 0, .int .i64 0, .int .i64 0] 42 (0, 0)))
    (h2 : a.tmps[2]? = some (.pointer (some ⟨w.heap.size, 0, none⟩))) (h3 : a.tmps[3]? = some (.bool fl)) (hd : a.defers = [])
    (h : (fl = true ∧ WfOp ⟨x, y, z⟩ ∧ opLine ⟨x, y, z⟩ = s.data.toList) ∨ (fl = false ∧ x = 0 ∧ y = 0 ∧ z = 0 ∧ ∀ o, WfOp o → opLine o ≠ s.data.toList)) :
    bodyPost Tryz.prog Tryz.f74 (ReadGot s w) .ret a (((wr.setCell ⟨w.heap.size, 0, none⟩ (.int .i64 x)).setCell ⟨w.heap.size, 1, none⟩ (.int .i64 y)).setCell ⟨w.heap.size, 2, none⟩ (.int .i64 z)) := by
  show bodyPost Tryz.prog Tryz.f74 (ReadGot s w) .ret a (putOp wr w.heap.size x y z)
  refine rread_ret (putOp_heap hx) h2 h3 hd ⟨putOp_below hb (Nat.le_refl _), ?_⟩
  rcases h with ⟨rfl, h1, h4⟩ | ⟨rfl, rfl, rfl, rfl, h1⟩
  · exact .inl ⟨⟨x, y, z⟩, h1, h4, rfl⟩
  · exact .inr ⟨h1, rfl⟩
theorem rread_drew {w wr : World} {a : Act} {s : ByteArray} {x y z : Int} (hb : Below w.heap.size w wr) (hx : wr.heap[w.heap.size]? = some (.cells #[.int .i64 0, .int .i64 0, .int .i64 0] 42 (0, 0)))
    (h2 : a.tmps[2]? = some (.pointer (some ⟨w.heap.size, 0, none⟩))) (h3 : a.tmps[3]? = some (.bool true)) (hd : a.defers = []) (h : WfOp ⟨x, y, z⟩ ∧ opLine ⟨x, y, z⟩ = s.data.toList) :
    bodyPost Tryz.prog Tryz.f74 (ReadGot s w) .ret a (((wr.setCell ⟨w.heap.size, 0, none⟩ (.int .i64 x)).setCell ⟨w.heap.size, 1, none⟩ (.int .i64 y)).setCell ⟨w.heap.size, 2, none⟩ (.int .i64 z)).drew := by
  show bodyPost Tryz.prog Tryz.f74 (ReadGot s w) .ret a (putOp wr w.heap.size x y z).drew
  exact rread_ret (w' := (putOp wr w.heap.size x y z).drew) (putOp_heap hx) h2 h3 hd ⟨(putOp_below hb (Nat.le_refl _)).drew, .inl ⟨⟨x, y, z⟩, h.1, h.2, rfl⟩⟩
theorem manyOf_kind {k : Nat} (h1 : 1 ≤ k) (h2 : k ≤ 11) : manyOf k = if k = 7 then 1 else if 10 ≤ k then 0 else 2 := by
  have H : ∀ i ∈ List.range 12, 1 ≤ i → manyOf i = if i = 7 then 1 else if 10 ≤ i then 0 else 2 := by decide
  exact H k (List.mem_range.2 (by omega)) h1
theorem opOf_kind {k : Nat} (h1 : 1 ≤ k) (h2 : k ≤ 11) (ns : List Nat) : opOf k ns = if k = 7 then ⟨7, 0, (ns.getD 0 0 : Nat)⟩ else if 10 ≤ k then ⟨k, 0, 0⟩ else ⟨k, (ns.getD 0 0 : Nat), (ns.getD 1 0 : Nat)⟩ := by
  unfold opOf formA formB
  by_cases h7 : k = 7
  · subst h7; rfl
  · rw [if_neg h7]
    by_cases h10 : 10 ≤ k
    · rw [if_pos h10, decide_eq_false (by omega), decide_eq_false (by omega)]; rfl
    · rw [if_neg h10, decide_eq_true (by omega)]; rfl

set_option maxHeartbeats 8000000 in
theorem rreadop_any (s : ByteArray) (hs : s.size ≤ 1073741824) (w : World) : Calls Tryz.prog 74 #[.string s] w (ReadGot s w) := by
  obtain ⟨w1, hw1⟩ : ∃ w1, w1 = w.alloc (.cells #[.int .i64 0, .int .i64 0, .int .i64 0] 42) := ⟨_, rfl⟩
  have hb1 : Below w.heap.size w w1 := by rw [hw1]; exact (Below.refl _ _).alloc (Nat.le_refl _) _
  have hbx : w1.heap[w.heap.size]? = some (.cells #[.int .i64 0, .int .i64 0, .int .i64 0] 42 (0, 0)) := by rw [hw1]; exact heap_alloc_new w _
  obtain ⟨v0, vs, hc⟩ := cutA_cons 32 s.data.toList []
  have hcut := cut_any s 32 w1 (by omega)
  have hvs : ∀ x ∈ vs, x.length ≤ 1073741824 := fun x hx => by
    have := cutA_le 32 s.data.toList [] x (by rw [hc]; simp [hx])
    simp only [List.length_nil, Nat.zero_add] at this
    rw [← Lib.size_eq] at this; omega
  have hmany : vs.length + 1 ≤ 1073741825 := by
    have h1 := cutA_len 32 s.data.toList []
    rw [hc] at h1
    have h2 := List.count_le_length (a := (32 : UInt8)) (l := s.data.toList)
    rw [← Lib.size_eq] at h2
    simp only [List.length_cons] at h1
    omega
  rw [hc] at hcut
  obtain ⟨n, hn⟩ : ∃ n, n = vs.length + 1 := ⟨_, rfl⟩
  rw [show (v0 :: vs).length = n by rw [hn]; rfl] at hcut
  rw [← hn] at hmany
  have HCUT := hid hcut
  have HC := hid hc
  have HN := hid hn
  have HVS := hid hvs
  have HB1 := hid hb1
  have HBX := hid hbx
  clear hcut hc hn hvs hb1 hbx
  go_enter Tryz.func74, Tryz.ntmps74
  go_upto_region 2 with (go_at_call 40; rw [← hw1]; refine HCUT.out.mono ?_; rintro e w2 ⟨A, cap, rfl, hrow, hfr, hb2⟩; have HROW := hid hrow; have HB2 := hid hb2; clear hw1 hrow hfr hb2 HCUT)
  have hnum := rnumbers_any v0 vs A n cap 4 (by decide) HN.out.symm hmany (fun x hx => Nat.le_trans (HVS.out x hx) (by decide)) w2 HROW.out
  have HNUM := hid hnum
  clear hnum
  go_wp2_with fail
  refine HNUM.out.mono ?_
  rintro e w3 ⟨hb3, hor⟩
  have HX3 := hid ((hb3.block _ (Nat.lt_of_lt_of_le (blk_lt HBX.out) HB2.out.size)).trans ((HB2.out.block _ (blk_lt HBX.out)).trans HBX.out))
  have HB3 := hid (HB1.out.trans ((HB2.out.trans (hb3.mono HB2.out.size)).mono HB1.out.size))
  obtain ⟨b, off, rfl, hlb, _, hc0⟩ := row_word HROW.out (i := 0) (s := v0) rfl
  rw [Nat.add_zero] at hc0
  obtain ⟨V, hV⟩ : ∃ V : ByteArray, V = ⟨v0.toArray⟩ := ⟨_, rfl⟩
  rw [← hV] at hc0
  have hVd : V.data.toList = v0 := by rw [hV]
  have HCELL : Hid (∀ w', Below w3.heap.size w3 w' → w'.cell? ⟨b, off, none⟩ = some (.string V) ∧ b < w'.heap.size) := hid fun w' hb => by
    have h2 : w'.cell? ⟨b, off, none⟩ = some (.string V) := (hb.cell (p := ⟨b, off, none⟩) (Nat.lt_of_lt_of_le hlb hb3.size)).trans ((hb3.cell (p := ⟨b, off, none⟩) hlb).trans hc0)
    exact ⟨h2, cell_lt h2⟩
  have HVD := hid hVd
  have HWHO : Hid (∀ o, WfOp o → opLine o = s.data.toList → nameOf o.what.toNat = v0 ∧ numsOf 4 vs = some ((fieldsOf o).map Int.toNat) ∧ 1 ≤ o.what.toNat ∧ o.what.toNat ≤ 11) := hid fun o ho e => by
    have h1 := HC.out
    rw [← e, read_cut] at h1
    injection h1 with h1 h2
    exact ⟨h1, by rw [← h2]; exact read_nums ho, by have := ho.what; omega, by have := ho.what; omega⟩
  have hn1 : 1 ≤ n := by rw [HN.out]; omega
  clear hb3 hlb hc0 hV hVd HROW HNUM HB1 HB2 HBX
  have HOLD : Hid (∀ w', Below w3.heap.size w3 w' → w'.heap[w.heap.size]? = some (.cells #[.int .i64 0, .int .i64 0, .int .i64 0] 42 (0, 0)) ∧ Below w.heap.size w w') := hid fun w' hb => ⟨(hb.block _ (blk_lt HX3.out)).trans HX3.out, HB3.out.trans (hb.mono HB3.out.size)⟩
  rcases hor with ⟨ns, B, m, d, hns, hm, rfl, hrb, hfb⟩ | ⟨hno, rfl⟩
  · have HNS := hid hns
    have HM := hid hm
    have HRB := hid hrb
    clear hns hm hrb hfb
    go_wp2_with fail
    go_loopw [7] (fun v7 wr => ∃ k : Nat, 1 ≤ k ∧ k ≤ 12 ∧ v7 = .int .i64 k ∧ (∀ o, WfOp o → opLine o = s.data.toList → k ≤ o.what.toNat) ∧ Below w3.heap.size w3 wr) (fun v7 _ => 12 - (intOf v7).toNat)
    case atStart => exact ⟨1, by omega, by omega, rfl, fun o ho e => (HWHO.out o ho e).2.2.1, Below.refl _ _⟩
    case round =>
      obtain ⟨k, hk1, hk12, rfl, hlow, hb⟩ := hrel
      have HLOW := hid hlow
      have HB := hid hb
      clear hlow hb
      by_cases hk : k < 12
      · have HNM : Hid (∀ w', Calls Tryz.prog 119 #[.int .i64 k] w' fun e w'' => e = .returned (.string ⟨(nameOf k).toArray⟩) ∧ Below w'.heap.size w' w'') := hid fun w' => rname_any k hk1 (by omega) w'
        obtain ⟨S, hS⟩ : ∃ S : ByteArray, S = ⟨(nameOf k).toArray⟩ := ⟨_, rfl⟩
        have HSD := hid (show S.data.toList = nameOf k by rw [hS])
        rw [← hS] at HNM
        clear hS
        go_upto_region 7 with (go_at_call 119; refine (HNM.out _).mono ?_; rintro e w4 ⟨rfl, hb4⟩; have HB4 := hid (HB.out.trans (hb4.mono HB.out.size)); clear hb4 HNM)
        obtain ⟨hcell, hcl⟩ := HCELL.out w4 HB4.out
        obtain ⟨hx4, hbw4⟩ := HOLD.out w4 HB4.out
        by_cases hname : nameOf k = v0
        · have hSV : S = V := by
            apply ByteArray.ext
            apply Array.ext'
            rw [HSD.out, HVD.out, hname]
          subst hSV
          have hmk := manyOf_kind hk1 (by omega)
          have hok := opOf_kind hk1 (show k ≤ 11 by omega) ns
          have HNAME := hid hname
          have hry := fun (h : ns.length = manyOf k) => read_yes HC.out ⟨hk1, by omega⟩ hname HNS.out h
          rw [hmk, HM.out, hok] at hry
          have HNEXT : Hid (m ≠ manyOf k → ∀ o, WfOp o → opLine o = s.data.toList → k + 1 ≤ o.what.toNat) := hid fun hmm o ho e => by
            have h1 := HLOW.out o ho e
            obtain ⟨g1, g2, g3, g4⟩ := HWHO.out o ho e
            have hne : o.what.toNat ≠ k := fun ee => by
              rw [HNS.out] at g2
              injection g2 with g2
              have h3 := (op_wf ho).2.1
              have h5 := HM.out
              rw [g2, List.length_map, h3, ee] at h5
              exact hmm h5.symm
            omega
          rw [hmk] at HNEXT
          have HRY := hid hry
          have c0 := blk_cell hx4 0
          have c1 := blk_cell hx4 1
          have c2 := blk_cell hx4 2
          have hl4 := blk_lt hx4
          have fz : ∀ o, w4.frozen? ⟨w.heap.size, o, none⟩ = false := fun o => blk_free hx4 o
          simp at c0 c1 c2
          have HX4 := hid hx4
          have HBW4 := hid hbw4
          clear hname hmk hok hry hx4 hbw4
          have hnum : ∀ j N, ns[j]? = some N → ∃ b6 o6, B = some ⟨b6, o6, none⟩ ∧ w4.cell? ⟨b6, o6 + j, none⟩ = some (.int .i64 (N : Nat)) ∧ b6 < w4.heap.size := fun j N hj => by
            have hjl := (List.getElem?_eq_some_iff.1 hj).1
            obtain ⟨b6, o6, hB, hb6, hx6⟩ := HRB.out.sl.2 (by have := HM.out; omega)
            have h6 : w4.cell? ⟨b6, o6 + j, none⟩ = some (.int .i64 (N : Nat)) := (HB4.out.cell (p := ⟨b6, o6 + j, none⟩) hb6).trans (hx6 j _ (by unfold ints; rw [List.getElem?_map, List.getElem?_map, hj]; rfl))
            exact ⟨b6, o6, hB, h6, cell_lt h6⟩
          have HNUMC := hid hnum
          clear hnum
          rcases (show k = 7 ∨ 10 ≤ k ∨ (k < 10 ∧ k ≠ 7) by omega) with rfl | hk10 | ⟨hk9, hk7⟩
          · rw [if_pos rfl] at HNEXT HRY
            rw [if_pos rfl] at HRY
            by_cases hm1 : m = 1
            · subst hm1
              obtain ⟨N0, hN0⟩ : ∃ N0, ns[0]? = some N0 := ⟨_, List.getElem?_eq_getElem (by have := HM.out; omega)⟩
              obtain ⟨b6, o6, rfl, h6, hl6⟩ := HNUMC.out 0 N0 hN0
              rw [Nat.add_zero] at h6
              rw [show ns.getD 0 0 = N0 by rw [List.getD_eq_getElem?_getD, hN0]; rfl] at HRY
              clear hN0
              go_wp2_with fail
              exact rread_done HBW4.out HX4.out rfl rfl rfl (.inl ⟨rfl, (HRY.out (by first | rfl | trivial)).1, (HRY.out (by first | rfl | trivial)).2⟩)
            · have hmi : ¬ (m : Int) = 1 := by omega
              go_wp2_with fail
              go_roundw
              case rel => exact ⟨8, by omega, by omega, rfl, HNEXT.out hm1, HB4.out⟩
              case measure => simp [intOf]
          · rw [if_neg (by omega), if_pos hk10] at HNEXT HRY
            rw [if_neg (by omega), if_pos hk10] at HRY
            have hki : ¬ (k : Int) = 7 := by omega
            have hkj : (10 : Int) ≤ (k : Int) := by omega
            have hkb : ¬ (k : Int) < 10 := by omega
            by_cases hm1 : m = 0
            · subst hm1
              go_wp2_with fail
              exact rread_done HBW4.out HX4.out rfl rfl rfl (.inl ⟨rfl, (HRY.out (by first | rfl | trivial)).1, (HRY.out (by first | rfl | trivial)).2⟩)
            · have hmi : ¬ (m : Int) = 0 := by omega
              go_wp2_with fail
              go_roundw
              case rel => exact ⟨k + 1, by omega, by omega, by go_num, HNEXT.out hm1, HB4.out⟩
              case measure => simp [intOf]; omega
          · rw [if_neg hk7, if_neg (by omega)] at HNEXT HRY
            rw [if_neg hk7, if_neg (by omega)] at HRY
            have hki : ¬ (k : Int) = 7 := by omega
            have hki2 : ((k : Int) != 7) = true := by simp; omega
            have hkj : ¬ (10 : Int) ≤ (k : Int) := by omega
            have hkb : (k : Int) < 10 := by omega
            by_cases hm1 : m = 2
            · subst hm1
              obtain ⟨N0, hN0⟩ : ∃ N0, ns[0]? = some N0 := ⟨_, List.getElem?_eq_getElem (by have := HM.out; omega)⟩
              obtain ⟨N1, hN1⟩ : ∃ N1, ns[1]? = some N1 := ⟨_, List.getElem?_eq_getElem (by have := HM.out; omega)⟩
              obtain ⟨b6, o6, rfl, h6, hl6⟩ := HNUMC.out 0 N0 hN0
              obtain ⟨b7, o7, hB7, h7, hl7⟩ := HNUMC.out 1 N1 hN1
              obtain ⟨rfl, rfl⟩ : b6 = b7 ∧ o6 = o7 := by injection hB7 with h; injection h with h1 h2; exact ⟨h1, h2⟩
              rw [Nat.add_zero] at h6
              rw [show ns.getD 0 0 = N0 by rw [List.getD_eq_getElem?_getD, hN0]; rfl, show ns.getD 1 0 = N1 by rw [List.getD_eq_getElem?_getD, hN1]; rfl] at HRY
              clear hN0 hN1 hB7
              go_upto_region 13 with fail
              go_region
              all_goals
                go_wp2_with fail
                exact rread_drew HBW4.out HX4.out rfl rfl rfl (HRY.out (by first | rfl | trivial))
            · have hmi : ¬ (m : Int) = 2 := by omega
              go_wp2_with fail
              go_roundw
              case rel => exact ⟨k + 1, by omega, by omega, by go_num, HNEXT.out hm1, HB4.out⟩
              case measure => simp [intOf]; omega
        · have hneq : (S.toList == V.toList) = false := by
            rw [Lib.toList_data, Lib.toList_data, HSD.out, HVD.out]
            exact beq_eq_false_iff_ne.2 hname
          have HNEXT : Hid (∀ o, WfOp o → opLine o = s.data.toList → k + 1 ≤ o.what.toNat) := hid fun o ho e => by
            have h1 := HLOW.out o ho e
            obtain ⟨g1, g2, g3, g4⟩ := HWHO.out o ho e
            have hne : o.what.toNat ≠ k := fun ee => hname (by rw [← ee]; exact g1)
            omega
          clear hname hx4 hbw4
          go_wp2_with fail
          go_roundw
          case rel => exact ⟨k + 1, by omega, by omega, by go_num, HNEXT.out, HB4.out⟩
          case measure => simp [intOf]; omega
      · obtain rfl : k = 12 := by omega
        obtain ⟨hx4, hbw4⟩ := HOLD.out wr HB.out
        have c0 := blk_cell hx4 0
        have c1 := blk_cell hx4 1
        have c2 := blk_cell hx4 2
        have hl4 := blk_lt hx4
        have fz : ∀ o, wr.frozen? ⟨w.heap.size, o, none⟩ = false := fun o => blk_free hx4 o
        simp at c0 c1 c2
        have HX4 := hid hx4
        have HBW4 := hid hbw4
        clear hx4 hbw4
        go_wp2_with fail
        exact rread_done HBW4.out HX4.out rfl rfl rfl (.inr ⟨rfl, rfl, rfl, rfl, fun o ho e => by have h1 := HLOW.out o ho e; have h2 := (HWHO.out o ho e).2.2.2; omega⟩)
  · have HNO := hid hno
    have HNONE : Hid (∀ o, WfOp o → opLine o ≠ s.data.toList) := hid fun o ho e => by
      have h1 := (HWHO.out o ho e).2.1
      rw [HNO.out] at h1; cases h1
    clear hno
    go_wp2_with fail
    go_loopw [7] (fun v7 wr => ∃ k : Nat, 1 ≤ k ∧ k ≤ 12 ∧ v7 = .int .i64 k ∧ Below w3.heap.size w3 wr) (fun v7 _ => 12 - (intOf v7).toNat)
    case atStart => exact ⟨1, by omega, by omega, rfl, Below.refl _ _⟩
    case round =>
      obtain ⟨k, hk1, hk12, rfl, hb⟩ := hrel
      have HB := hid hb
      clear hb
      by_cases hk : k < 12
      · have HNM : Hid (∀ w', Calls Tryz.prog 119 #[.int .i64 k] w' fun e w'' => e = .returned (.string ⟨(nameOf k).toArray⟩) ∧ Below w'.heap.size w' w'') := hid fun w' => rname_any k hk1 (by omega) w'
        generalize (⟨(nameOf k).toArray⟩ : ByteArray) = S at HNM
        go_wp2_with (go_at_call 119; refine (HNM.out _).mono ?_; rintro e w4 ⟨rfl, hb4⟩; have HB4 := hid (HB.out.trans (hb4.mono HB.out.size)); clear hb4 HNM)
        go_roundw
        case rel => exact ⟨k + 1, by omega, by omega, by go_num, HB4.out⟩
        case measure => simp [intOf]; omega
      · obtain rfl : k = 12 := by omega
        obtain ⟨hx4, hbw4⟩ := HOLD.out wr HB.out
        have c0 := blk_cell hx4 0
        have c1 := blk_cell hx4 1
        have c2 := blk_cell hx4 2
        have hl4 := blk_lt hx4
        have fz : ∀ o, wr.frozen? ⟨w.heap.size, o, none⟩ = false := fun o => blk_free hx4 o
        simp at c0 c1 c2
        have HX4 := hid hx4
        have HBW4 := hid hbw4
        clear hx4 hbw4
        go_wp2_with fail
        exact rread_done HBW4.out HX4.out rfl rfl rfl (.inr ⟨rfl, rfl, rfl, rfl, HNONE.out⟩)

theorem row_slw {w : World} {e sz n cap : Nat} {A : Option Addr} {xs : List Value} (h : Row w e sz A n cap xs) : SlW A cap n := by
  refine ⟨h.le.1, h.le.2, fun hA => ?_⟩
  rcases h.2 with ⟨_, h1, h2⟩ | ⟨b, off, cur, h1, _⟩
  · exact ⟨h1, h2⟩
  · rw [hA] at h1; cases h1
/-- What the reference reads as code. -/
def RParseGot (t : ByteArray) (w : World) (e : Ending) (w' : World) : Prop :=
  Below w.heap.size w w' ∧
  ((∃ (l : List Op) (A : Option Addr) (n c : Nat), (∀ o ∈ l, WfOp o) ∧ codeText l = t.data.toList ∧ (codeChk l).2 = 0 ∧ l.length = n ∧ e = .returned (.tuple #[.slice A n c, .int .i64 0]) ∧ Row w' 42 3 A n c (l.flatMap Op.cells)) ∨
   (∃ l : List Op, (∀ o ∈ l, WfOp o) ∧ codeText l = t.data.toList ∧ (codeChk l).2 ≠ 0 ∧ e = .returned (.tuple #[.slice none 0 0, .int .i64 (codeChk l).2])) ∨
   ((∀ l : List Op, (∀ o ∈ l, WfOp o) → codeText l ≠ t.data.toList) ∧ e = .returned (.tuple #[.slice none 0 0, .int .i64 2])))
theorem code_no_tail {P : List (List UInt8)} {z t : List UInt8} (ht : t = P.flatMap (fun x => x ++ [10]) ++ z) (hz : z ≠ []) (h10 : (10 : UInt8) ∉ z) (l : List Op) : codeText l ≠ t := by
  rintro rfl
  obtain ⟨y, hy⟩ : ∃ y, z.getLast? = some y := by
    cases hx : z.getLast? with
    | none => exact absurd (List.getLast?_eq_none_iff.1 hx) hz
    | some y => exact ⟨y, rfl⟩
  have h1 : (codeText l).getLast? = some y := by rw [ht, List.getLast?_append, hy]; rfl
  rcases List.eq_nil_or_concat l with rfl | ⟨l', x, rfl⟩
  · simp [codeText] at h1
  · have h2 : codeText (l'.concat x) = codeText l' ++ opLine x ++ [10] := by
      unfold codeText opText
      rw [List.concat_eq_append, List.flatMap_append]; simp
    rw [h2, List.getLast?_append] at h1
    simp at h1
    exact h10 (h1 ▸ List.mem_of_getLast? hy)
theorem lines_join2 : ∀ (P : List (List UInt8)), (∀ x ∈ P, (10 : UInt8) ∉ x) → linesOf (P.flatMap fun x => x ++ [10]) = P.map fun x => x ++ [10]
  | [], _ => rfl
  | x :: P, h => by
    rw [List.flatMap_cons, List.append_assoc, List.map_cons]
    show linesOf (x ++ 10 :: P.flatMap fun x => x ++ [10]) = _
    rw [linesOf_line _ _ (h x (by simp)), lines_join2 P (fun o ho => h o (by simp [ho]))]
theorem code_line_no {P : List (List UInt8)} {t s : List UInt8} (ht : t = P.flatMap fun x => x ++ [10]) (hP : ∀ x ∈ P, (10 : UInt8) ∉ x) (hs : s ∈ P) (hno : ∀ x, WfOp x → opLine x ≠ s) (l : List Op) (hl : ∀ o ∈ l, WfOp o) : codeText l ≠ t := by
  refine code_not (x := s ++ [10]) ?_ (fun o ho e => hno o ho (List.append_cancel_right e)) l hl
  rw [ht, lines_join2 P hP]
  exact List.mem_map_of_mem (f := fun x => x ++ [10]) hs
theorem code_all {P : List (List UInt8)} {l : List Op} (h : l.map opLine = P) : codeText l = P.flatMap fun x => x ++ [10] := by
  subst h
  unfold codeText opText
  rw [List.flatMap_map]
theorem Tryz.infoOpQ : (Tryz.prog.info? 42).map (fun i => (i.zero, i.size, i.bytes)) = some (some (.agg #[.int .i64 0, .int .i64 0, .int .i64 0]), 3, 24) := by kernel_rfl

set_option maxHeartbeats 8000000 in
theorem rreadcode_any (t : ByteArray) (ht : t.size ≤ 1073741824) (w : World) : Calls Tryz.prog 36 #[.string t] w (RParseGot t w) := by
  obtain ⟨ie, hie, hz0, hz1, hz2⟩ := info_parts Tryz.infoOpQ
  obtain ⟨P, z, hP, hjoin, hno, hzno⟩ := cut_lines 10 t.data.toList [] (by simp)
  rw [List.nil_append] at hjoin
  have hcut := cut_any t 10 w (by omega)
  rw [hP] at hcut
  obtain ⟨m, hm⟩ : ∃ m, m = P.length := ⟨_, rfl⟩
  have hlen : (P ++ [z]).length = m + 1 := by simp [hm]
  rw [hlen] at hcut
  have hPl : ∀ s ∈ P, s.length ≤ t.size := fun s hs => by
    rw [Lib.size_eq]
    have := cutA_le 10 t.data.toList [] s (by rw [hP]; simp [hs])
    simpa using this
  have hmt : m ≤ t.size := by
    have h1 := cutA_len 10 t.data.toList []
    rw [hP, hlen] at h1
    have h2 := List.count_le_length (a := (10 : UInt8)) (l := t.data.toList)
    rw [← Lib.size_eq] at h2
    omega
  have HCUT := hid hcut
  have HJOIN := hid hjoin
  have HNO := hid hno
  have HZN := hid hzno
  have HM := hid hm
  have HPL := hid hPl
  clear hcut hjoin hno hzno hm hPl hP hlen
  go_enter Tryz.func36, Tryz.ntmps36
  go_wp2_with fail
  refine HCUT.out.mono ?_
  rintro e w1 ⟨A, cap, rfl, hrow, hfr, hb1⟩
  have HROW := hid hrow
  have HB1 := hid hb1
  obtain ⟨b, off, rfl, hbl, _, hcz⟩ := row_word hrow (i := m) (s := z) (by rw [HM.out]; simp)
  have hm1 : ((m + 1 : Nat) : Int) - 1 = (m : Int) := by omega
  clear hrow hfr hb1 HCUT
  obtain ⟨Z, hZ⟩ : ∃ Z : ByteArray, Z = ⟨z.toArray⟩ := ⟨_, rfl⟩
  rw [← hZ] at hcz
  by_cases hz : z = []
  · have hzz : (Z.toList == ([] : List UInt8)) = true := by rw [hZ, hz, Lib.toList_data]; rfl
    have HJ : Hid (t.data.toList = P.flatMap fun x => x ++ [10]) := by have := HJOIN.out; rw [hz, List.append_nil] at this; exact this
    clear hZ HJOIN HZN
    go_wp2_with fail
    go_loopw [5, 6] (fun v5 v6 wr => ∃ (i : Nat) (es : List Op) (B : Option Addr) (d : Nat), i ≤ m ∧ v5 = .slice B i d ∧ v6 = .int .i64 i ∧ es.length = i ∧ es.map opLine = P.take i ∧ (∀ o ∈ es, WfOp o) ∧ Row wr 42 3 B i d (es.flatMap Op.cells) ∧ (∀ j, InA B j → w1.heap.size ≤ j) ∧ Below w1.heap.size w1 wr) (fun _ v6 _ => m - (intOf v6).toNat)
    case atStart => exact ⟨0, [], none, 0, by omega, rfl, rfl, rfl, rfl, (fun o ho => by cases ho), Row.nil _ _ _, fun j hj => by simp [InA] at hj, Below.refl _ _⟩
    case round =>
      obtain ⟨i, es, B, d, hi, rfl, rfl, hel, hem, hwf, hrow, hfr, hb⟩ := hrel
      have HEL := hid hel
      have HEM := hid hem
      have HWF := hid hwf
      have HRB := hid hrow
      have HFR := hid hfr
      have HB := hid hb
      clear hel hem hwf hrow hfr hb
      by_cases him : i < m
      · have hiP : i < P.length := by rw [← HM.out]; exact him
        have hPi := List.getElem?_eq_getElem hiP
        have htk : P.take (i + 1) = P.take i ++ [P[i]] := List.take_succ_eq_append_getElem hiP
        have hsm := List.getElem_mem hiP
        generalize P[i] = s at hPi htk hsm
        have hsl := HPL.out s hsm
        obtain ⟨bb, oo, hAA, _, _, hks⟩ := row_word HROW.out (i := i) (s := s) (by rw [List.getElem?_append_left hiP]; exact hPi)
        obtain ⟨rfl, rfl⟩ : b = bb ∧ off = oo := by injection hAA with h; injection h with h1 h2; exact ⟨h1, h2⟩
        obtain ⟨S, hS⟩ : ∃ S : ByteArray, S = ⟨s.toArray⟩ := ⟨_, rfl⟩
        rw [← hS] at hks
        have hSl : S.data.toList = s := by rw [hS]
        have hSz : S.size ≤ t.size := by rw [Lib.size_eq, hSl]; exact hsl
        have hk : wr.cell? ⟨b, off + i, none⟩ = some (.string S) := (HB.out.cell (p := ⟨b, off + i, none⟩) hbl).trans hks
        have hbw : b < wr.heap.size := Nat.lt_of_lt_of_le hbl HB.out.size
        have hrd := rreadop_any S (by omega) wr
        unfold ReadGot at hrd
        rw [hSl] at hrd
        have HRD := hid hrd
        have HSM := hid hsm
        have HTK := hid htk
        clear hPi htk hsm hAA hks hS hSl hrd
        go_wp2_with fail
        refine HRD.out.mono ?_
        rintro e w2 ⟨hb2, hor⟩
        have HB2 := hid (HB.out.trans (hb2.mono HB.out.size))
        have HRB2 := hid (HRB.out.new hb2)
        clear hb2 HRD
        rcases hor with ⟨o, ho1, ho2, rfl⟩ | ⟨hbad, rfl⟩
        · obtain ⟨x0, x1, x2⟩ := o
          simp only []
          have HO1 := hid ho1
          have HO2 := hid ho2
          clear ho1 ho2
          go_upto_region 11 with fail
          have hbx : Below w1.heap.size w1 (w2.alloc (.cells #[.int .i64 x0, .int .i64 x1, .int .i64 x2] 42)) := HB2.out.alloc HB2.out.size _
          have hrx := HRB2.out.alloc (.cells #[.int .i64 x0, .int .i64 x1, .int .i64 x2] 42)
          have hblk := heap_alloc_new w2 (.cells #[.int .i64 x0, .int .i64 x1, .int .i64 x2] 42)
          obtain ⟨w3, hw3⟩ : ∃ w3, w3 = w2.alloc (.cells #[.int .i64 x0, .int .i64 x1, .int .i64 x2] 42) := ⟨_, rfl⟩
          rw [← hw3] at hbx hrx hblk ⊢
          have y0 := blk_cell hblk 0
          have y1 := blk_cell hblk 1
          have y2 := blk_cell hblk 2
          have hly := blk_lt hblk
          simp at y0 y1 y2
          have HBX := hid hbx
          have HRX := hid hrx
          clear hw3 hbx hrx hblk
          go_wp2_with (at_builtin; refine wpList_append_row _ rfl _ _ 43 rfl 42 ie _ 3 24 Tryz.underlying43 hie hz0 hz1 hz2 rfl (by decide) B i d (es.flatMap Op.cells) rfl ?c0 (some ⟨w3.heap.size, 0, none⟩) 1 1 (Op.cells ⟨x0, x1, x2⟩) rfl ?c1 ?c2 ?c3 ?c4 ?_)
          case c0 => exact HRX.out.alloc _
          case c1 => exact sl_blk (heap_alloc_new w3 _) 3 1 _ rfl rfl
          case c2 => intro u hu; simp [Op.cells] at hu; rcases hu with rfl | rfl | rfl <;> rfl
          case c3 => unfold maxLen; omega
          case c4 => omega
          intro B5 d5 w5 hr5 hk5 hn5
          have HR5 := hid hr5
          have HK5 := hid hk5
          have HN5 := hid hn5
          clear hr5 hk5 hn5
          go_wp2_with fail
          go_roundw
          case rel =>
            refine ⟨i + 1, es ++ [⟨x0, x1, x2⟩], B5, d5, by omega, rfl, by go_num, by rw [List.length_append, HEL.out]; rfl, ?_, ?_, ?_, ?_, ?_⟩
            · rw [List.map_append, HEM.out, HTK.out, List.map_cons, List.map_nil, HO2.out]
            · intro o ho
              rcases List.mem_append.1 ho with ho | ho
              · exact HWF.out o ho
              · rw [List.mem_singleton] at ho; rw [ho]; exact HO1.out
            · rw [List.flatMap_append]
              simpa using HR5.out
            · intro j hj
              rcases HN5.out j hj with h | h
              · exact HFR.out j h
              · have := HBX.out.size; omega
            · exact keep_own HBX.out HFR.out HK5.out
          case measure => simp [intOf]; omega
        · have HBAD := hid hbad
          clear hbad
          go_wp2_with fail
          go_ret2
          exact ⟨HB1.out.trans ((HB2.out.alloc HB2.out.size _).mono HB1.out.size), .inr (.inr ⟨code_line_no HJ.out HNO.out HSM.out HBAD.out, rfl⟩)⟩
      · obtain rfl : i = m := by omega
        have hem : es.map opLine = P := by rw [HEM.out, HM.out, List.take_length]
        have HTX : Hid (codeText es = t.data.toList) := hid (by rw [HJ.out]; exact code_all hem)
        have hel := HEL.out
        have hcd := rcode_any B d es wr (by rw [hel]; exact HRB.out.sl) (by rw [hel]; exact row_slw HRB.out)
        rw [hel] at hcd
        have HCD := hid hcd
        unfold TellNI at HCD
        obtain ⟨E, hE⟩ : ∃ E, E = (codeChk es).2 := ⟨_, rfl⟩
        rw [← hE] at HCD
        have HE := hid hE
        clear hem hcd hE hel
        go_wp2_with fail
        refine HCD.out.mono ?_
        rintro e w2 ⟨rfl, hb2⟩
        have HB2 := hid (HB1.out.trans ((HB.out.trans (hb2.mono HB.out.size)).mono HB1.out.size))
        have HRB2 := hid (HRB.out.new hb2)
        clear hb2 HCD
        by_cases he : E = 0
        · subst he
          go_wp2_with fail
          go_ret2
          exact ⟨HB2.out, .inl ⟨es, B, i, d, HWF.out, HTX.out, HE.out.symm, HEL.out, rfl, HRB2.out⟩⟩
        · have hne : (E != 0) = true := by simpa using he
          go_wp2_with fail
          go_ret2
          refine ⟨HB2.out, .inr (.inl ⟨es, HWF.out, HTX.out, by rw [← HE.out]; exact he, by rw [← HE.out]; rfl⟩)⟩
  · have hzz : (Z.toList == ([] : List UInt8)) = false := by
      rw [hZ, Lib.toList_data]
      cases z with
      | nil => exact absurd rfl hz
      | cons x z => rfl
    clear hZ
    go_wp2_with fail
    go_ret2
    exact ⟨HB1.out, .inr (.inr ⟨fun l _ => code_no_tail HJOIN.out hz HZN.out l, rfl⟩)⟩
end Go.Proofs.YtldllmhgofacbaaGreatDoor
