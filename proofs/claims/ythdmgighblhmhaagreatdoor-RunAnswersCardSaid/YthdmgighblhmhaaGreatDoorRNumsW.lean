/- The reference (package frameref1): the contract of Numbers, for every row of words; of name, OpText and CodeText. Conditions: no text is longer than 2^40 bytes. -/
import Derived.Test.YthdmgighblhmhaaGreatDoorRTextU
import Derived.Test.YthdmgighblhmhaaGreatDoorRPlanU
import Derived.Test.YthdmgighblhmhaaGreatDoorDeskU
namespace Go.Proofs.YthdmgighblhmhaaGreatDoor
open Go.RowKit
set_option maxRecDepth 100000

theorem row_word {w : World} {A : Option Addr} {n c : Nat} {P : List (List UInt8)} (h : Row w 9 1 A n c (P.map txt)) {i : Nat} {s : List UInt8} (hs : P[i]? = some s) : ∃ b off, A = some ⟨b, off, none⟩ ∧ b < w.heap.size ∧ i < n ∧ w.cell? ⟨b, off + i, none⟩ = some (.string ⟨s.toArray⟩) := by
  have hl := (List.getElem?_eq_some_iff.1 hs).1
  have hn : P.length = n := by have := h.sl.1; rw [List.length_map] at this; omega
  obtain ⟨b, off, rfl, hb, hx⟩ := h.sl.2 (by omega)
  exact ⟨b, off, rfl, hb, by omega, hx i _ (by rw [List.getElem?_map, hs]; rfl)⟩
/-- What the reference's Numbers hands back. -/
def RNumsGot (most : Int) (P : List (List UInt8)) (w : World) (e : Ending) (w' : World) : Prop :=
  Below w.heap.size w w' ∧ ((∃ (ns : List Nat) (A : Option Addr) (n c : Nat), numsOf most P = some ns ∧ ns.length = n ∧ e = .returned (.tuple #[.slice A n c, .bool true]) ∧ Row w' 3 1 A n c (ints (ns.map Int.ofNat)) ∧ ∀ i, InA A i → w.heap.size ≤ i) ∨
    (numsOf most P = none ∧ e = .returned (.tuple #[.slice none 0 0, .bool false])))
theorem numsOf_step {most : Int} {P : List (List UInt8)} {j : Nat} {s : List UInt8} (h : P[j]? = some s) {ns : List Nat} (hn : numsOf most (P.take j) = some ns) :
    (∀ n, numOf most s = some n → numsOf most (P.take (j + 1)) = some (ns ++ [n])) ∧ (numOf most s = none → numsOf most P = none) := by
  obtain ⟨h1, h2⟩ := List.getElem?_eq_some_iff.1 h
  refine ⟨fun n hm => ?_, fun hm => ?_⟩
  · rw [List.take_succ_eq_append_getElem h1, numsOf_snoc hn, h2, hm]; rfl
  · have e : P = P.take j ++ s :: P.drop (j + 1) := by
      rw [← h2, List.getElem_cons_drop, List.take_append_drop]
    rw [e]; exact numsOf_bad hm

set_option maxHeartbeats 4000000 in
theorem rnumbers_any (v0 : List UInt8) (P : List (List UInt8)) (A : Option Addr) (n c : Nat) (most : Int) (hm : most ≤ 7) (hn : P.length + 1 = n) (hn1 : n ≤ 1073741825) (hs : ∀ s ∈ P, s.length ≤ 1099511627776) (w : World) (hr : Row w 9 1 A n c ((v0 :: P).map txt)) :
    Calls Tryz.prog 19 #[.slice A n c, .int .i64 most] w (RNumsGot most P w) := by
  obtain ⟨i0, hi0, hz0, hz1, hz2⟩ := info_parts Tryz.infoInt
  have HR := hid hr
  have HN := hid hn
  have HS := hid hs
  have HLN := hid (show 0 < n by omega)
  clear hr hs
  go_enter Tryz.func19, Tryz.ntmps19
  go_wp2_with fail
  go_loopw [6, 7] (fun v6 v7 wr => ∃ (k : Nat) (B : Option Addr) (d j : Nat) (ns : List Nat), 1 ≤ k ∧ k ≤ n ∧ v6 = .slice B j d ∧ v7 = .int .i64 k ∧ k = j + 1 ∧ ns.length = j ∧ numsOf most (P.take j) = some ns ∧ Row wr 3 1 B j d (ints (ns.map Int.ofNat)) ∧ (∀ i, InA B i → w.heap.size ≤ i) ∧ Below w.heap.size w wr) (fun _ v7 _ => n - (intOf v7).toNat)
  case atStart => exact ⟨1, none, 0, 0, [], by omega, by omega, rfl, rfl, rfl, rfl, rfl, Row.nil _ _ _, fun i hi => by simp [InA] at hi, Below.refl _ _⟩
  case round =>
    obtain ⟨k, B, d, j, ns, hk1, hkn, rfl, rfl, hkj, hnl, hns, hrow, hnew, hb⟩ := hrel
    have HNS := hid hns
    have HROW := hid hrow
    have HNEW := hid hnew
    have HB := hid hb
    have HNL := hid hnl
    have HKJ := hid hkj
    clear hns hrow hnew hb hnl
    by_cases hlt : k < n
    · have hjl : j < P.length := by omega
      have hjn : j ≤ 1073741825 := by omega
      have hget := List.getElem?_eq_getElem hjl
      have hmem := List.getElem_mem hjl
      generalize P[j] = s at hget hmem
      obtain ⟨b, off, rfl, hlb, _, hc⟩ := row_word HR.out (i := k) (s := s) (by rw [hkj, List.getElem?_cons_succ]; exact hget)
      obtain ⟨S, hS⟩ : ∃ S : ByteArray, S = ⟨s.toArray⟩ := ⟨_, rfl⟩
      have hSd : S.data.toList = s := by rw [hS]
      have hSz : S.size ≤ 1099511627776 := by rw [Lib.size_eq, hSd]; exact HS.out s hmem
      rw [← hS] at hc
      have hk : wr.cell? ⟨b, off + k, none⟩ = some (.string S) := (HB.out.cell (p := ⟨b, off + k, none⟩) hlb).trans hc
      have hbw : b < wr.heap.size := Nat.lt_of_lt_of_le hlb HB.out.size
      have hnb := rnumber_any S most hm wr hSz
      unfold RNumGot at hnb
      rw [hSd] at hnb
      have HNB := hid hnb
      have HAT := hid (numsOf_step hget HNS.out)
      clear hget hmem hc hS hSd hSz hnb hkj hn
      go_wp2_with fail
      refine HNB.out.mono ?_
      rintro e w2 ⟨v, b2, rfl, rfl, hor⟩
      rcases hor with ⟨rfl, hnum⟩ | ⟨rfl, rfl, hnum⟩
      · have HNX := hid (HAT.out.1 v hnum)
        clear hnum HAT
        go_wp2_with (at_builtin; refine wpList_append_row _ rfl _ _ 63 rfl 3 i0 (.int .i64 0) 1 8 Tryz.underlying63 hi0 hz0 hz1 hz2 rfl (by decide) B j d (ints (ns.map Int.ofNat)) rfl ?c0 (some ⟨wr.heap.size, 0, none⟩) 1 1 [.int .i64 v] rfl ?c1 ?c2 ?c3 ?c4 ?_)
        case c0 => exact HROW.out.alloc _
        case c1 => exact one_sl wr _ _
        case c2 => intro u hu; simp at hu; subst hu; rfl
        case c3 => unfold maxLen; omega
        case c4 => omega
        intro B' d' w3 hr3 hk3 hi3
        have HR3 := hid hr3
        have HK3 := hid hk3
        have HI3 := hid hi3
        clear hr3 hk3 hi3
        go_wp2_with fail
        go_roundw
        case rel =>
          refine ⟨k + 1, B', d', j + 1, ns ++ [v], by omega, by omega, rfl, by go_num, by rw [HKJ.out], by simp [HNL.out], HNX.out, ?_, ?_, keep_own HB.out HNEW.out HK3.out⟩
          · rw [List.map_append, ints_append]; exact HR3.out
          · intro i hi
            rcases HI3.out i hi with h | h
            · exact HNEW.out i h
            · have := HB.out.size; omega
        case measure => simp [intOf]; omega
      · have HNX := hid (HAT.out.2 hnum)
        clear hnum HAT
        go_wp2_with fail
        go_ret2
        exact ⟨HB.out, .inr ⟨HNX.out, rfl⟩⟩
    · obtain rfl : k = n := by omega
      have HFIN : Hid (numsOf most P = some ns) := by
        have := HNS.out
        rw [List.take_of_length_le (by have := HKJ.out; have := HN.out; omega)] at this
        exact hid this
      clear hkj hn
      go_wp2_with fail
      go_ret2
      exact ⟨HB.out, .inl ⟨ns, B, _, d, HFIN.out, HNL.out, rfl, HROW.out, HNEW.out⟩⟩

theorem alloc2_old' (w : World) (o o' : Obj) : ((w.alloc o).alloc o').heap[w.heap.size]? = some o := by rw [blk_alloc (by simp)]; exact heap_alloc_new w o
theorem one_sl2 (w : World) (o : Obj) (v : Value) (T : Nat) : Sl ((w.alloc o).alloc (.cells #[v] T)) (some ⟨w.heap.size + 1, 0, none⟩) 1 1 [v] := by
  have h := one_sl (w.alloc o) v T
  rw [sz_alloc] at h; exact h
theorem fields_len2 (o : Op) : (fieldsOf o).length ≤ 2 := by
  unfold fieldsOf
  rw [List.length_append]
  split <;> split <;> simp
theorem opText_le {o : Op} (h : WfOp o) : (opText o).length ≤ 20 := by
  obtain ⟨⟨h1, h2⟩, ⟨ha, ha'⟩, ⟨hb, hb'⟩, _, _⟩ := h
  have hn : (nameOf o.what.toNat).length ≤ 4 := by
    have H : ∀ i ∈ List.range 12, (nameOf i).length ≤ 4 := by decide
    exact H _ (List.mem_range.2 (by omega))
  have h10 : (10 : Int) ^ 4 = 10000 := by decide
  have hi : ∀ n : Int, 0 ≤ n → n < 10 ^ 4 → (numT n).length ≤ 5 := fun n p1 p2 => by
    have := itoa_le (k := 3) p1 p2
    unfold numT; simp; omega
  have hA := hi o.a ha ha'
  have hB := hi o.b hb hb'
  have hf : ((fieldsOf o).flatMap numT).length ≤ 10 := by
    unfold fieldsOf
    split <;> split <;> simp <;> omega
  unfold opText opLine
  simp only [List.length_append, List.length_singleton]; omega
theorem code_len : ∀ (l : List Op), (∀ o ∈ l, WfOp o) → (codeText l).length ≤ 20 * l.length
  | [], _ => by simp [codeText]
  | o :: l, h => by
    have h1 := opText_le (h o (by simp))
    have h2 := code_len l fun x hx => h x (by simp [hx])
    unfold codeText at h2 ⊢
    rw [List.flatMap_cons, List.length_append, List.length_cons]; omega
theorem code_next {l : List Op} {j : Nat} {o : Op} (h : l[j]? = some o) : codeText (l.take (j + 1)) = codeText (l.take j) ++ opLine o ++ [10] := by
  obtain ⟨h1, h2⟩ := List.getElem?_eq_some_iff.1 h
  unfold codeText
  rw [List.take_succ_eq_append_getElem h1, List.flatMap_append, h2, List.append_assoc]; simp [opText]
end Go.Proofs.YthdmgighblhmhaaGreatDoor
