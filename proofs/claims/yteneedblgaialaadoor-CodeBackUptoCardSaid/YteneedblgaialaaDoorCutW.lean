/- The reference (package frameref1): the contract of Cut, for every text. -/
import Derived.Test.YteneedblgaialaaDoorTextLaw
import Derived.Test.YteneedblgaialaaDoorLineU
namespace Go.Proofs.YteneedblgaialaaDoor
open Go.RowKit
set_option maxRecDepth 100000

/-- A text as a value. -/
def txt (l : List UInt8) : Value := .string ⟨l.toArray⟩
theorem Tryd.infoStr : (Tryd.prog.info? 9).map (fun i => (i.zero, i.size, i.bytes)) = some (some (.string ⟨#[]⟩), 1, 16) := by kernel_rfl

/-- Where a text is being cut: what lies behind place k. -/
structure CutAt (c : UInt8) (L : List UInt8) (k fr : Nat) (done : List (List UInt8)) : Prop where
  le : fr ≤ k
  eq : cutA c [] L = done ++ cutA c ((L.take k).drop fr) (L.drop k)
  few : done.length ≤ k
theorem CutAt.hit {c : UInt8} {L : List UInt8} {k fr : Nat} {done : List (List UInt8)} (h : CutAt c L k fr done) (hk : k < L.length) (hc : L[k] = c) : CutAt c L (k + 1) (k + 1) (done ++ [(L.take k).drop fr]) := by
  refine ⟨Nat.le_refl _, ?_, by simp; have := h.few; omega⟩
  rw [h.eq, List.drop_eq_getElem_cons hk, cutA, if_pos hc]
  simp
theorem CutAt.miss {c : UInt8} {L : List UInt8} {k fr : Nat} {done : List (List UInt8)} (h : CutAt c L k fr done) (hk : k < L.length) (hc : L[k] ≠ c) : CutAt c L (k + 1) fr done := by
  have hl := h.le
  refine ⟨by omega, ?_, by have := h.few; omega⟩
  rw [h.eq, List.drop_eq_getElem_cons hk, cutA, if_neg hc]
  congr 2
  rw [List.take_succ_eq_append_getElem hk, List.drop_append, List.length_take, Nat.min_eq_left (by omega), show fr - k = 0 by omega, List.drop_zero]
theorem CutAt.done {c : UInt8} {L : List UInt8} {k fr : Nat} {done : List (List UInt8)} (h : CutAt c L k fr done) (hk : k = L.length) : cutA c [] L = done ++ [L.drop fr] := by
  subst hk
  rw [h.eq, List.take_length, List.drop_length]
  rfl

theorem byte_eq {s : ByteArray} {L : List UInt8} (h : L = s.data.toList) {k : Nat} (hs : k < s.size) (hl : k < L.length) (c : UInt8) : (((s[k]'hs).toNat : Int) == (c.toNat : Int)) = (L[k] == c) := by
  subst h
  have e : s[k]'hs = s.data.toList[k]'hl := by rw [Array.getElem_toList]; rfl
  rw [e, Bool.eq_iff_iff]
  simp only [beq_iff_eq]
  constructor
  · intro h; exact UInt8.toNat_inj.1 (by omega)
  · intro h; rw [h]
/-- The slice of one that an append is handed. -/
theorem one_sl (w : World) (v : Value) (T : Nat) : Sl (w.alloc (.cells #[v] T)) (some ⟨w.heap.size, 0, none⟩) 1 1 [v] := by
  refine ⟨rfl, fun _ => ⟨w.heap.size, 0, rfl, by simp, fun j u hu => ?_⟩⟩
  rw [Nat.zero_add, blk_cell (heap_alloc_new w _)]
  simpa using hu
/-- An append onto a row that is new since w0. -/
theorem keep_own {w0 w w1 : World} {A : Option Addr} {o : Obj} (hb : Below w0.heap.size w0 w) (hA : ∀ i, InA A i → w0.heap.size ≤ i) (hk : Keep (InA A) (w.alloc o) w1) : Below w0.heap.size w0 w1 :=
  (hb.alloc hb.size o).trans (Keep.below hk (by have := hb.size; simp; omega) hA)

set_option maxHeartbeats 2000000 in
theorem cut_any (s : ByteArray) (c : UInt8) (w : World) (hs : s.size ≤ 1099511627776) :
    Calls Tryd.prog 7 #[.string s, .int .u8 c.toNat] w fun e w' => ∃ A cap, e = .returned (.slice A (cutA c [] s.data.toList).length cap) ∧
      Row w' 9 1 A (cutA c [] s.data.toList).length cap ((cutA c [] s.data.toList).map txt) ∧ (∀ i, InA A i → w.heap.size ≤ i) ∧ Below w.heap.size w w' := by
  obtain ⟨i0, hi0, hz0, hz1, hz2⟩ := info_parts Tryd.infoStr
  obtain ⟨L, hL⟩ : ∃ L, L = s.data.toList := ⟨_, rfl⟩
  have hLs : s.size = L.length := by rw [hL]; exact Lib.size_eq s
  rw [← hL]
  have HL := hid hL
  have HLS := hid hLs
  clear hL hLs
  go_enter Tryd.func7, Tryd.ntmps7
  go_wp2_with fail
  go_loopw [5, 6, 7] (fun v5 v6 v7 wr => ∃ (k fr : Nat) (A : Option Addr) (n cap : Nat) (done : List (List UInt8)), k ≤ L.length ∧ v5 = .slice A n cap ∧ v6 = .int .i64 fr ∧ v7 = .int .i64 k ∧ done.length = n ∧ CutAt c L k fr done ∧ Row wr 9 1 A n cap (done.map txt) ∧ (∀ i, InA A i → w.heap.size ≤ i) ∧ Below w.heap.size w wr) (fun _ _ v7 _ => s.size - (intOf v7).toNat)
  case atStart => exact ⟨0, 0, none, 0, 0, [], by omega, rfl, rfl, rfl, rfl, ⟨Nat.le_refl _, by simp, Nat.le_refl _⟩, Row.nil _ _ _, fun i hi => by simp [InA] at hi, Below.refl _ _⟩
  case round =>
    obtain ⟨k, fr, A, n, cap, done, hk, rfl, rfl, rfl, hn, hcut, hrow, hnew, hb⟩ := hrel
    have HN := hid hn
    have HCUT := hid hcut
    have HROW := hid hrow
    have HNEW := hid hnew
    have HB := hid hb
    have hfk := hcut.le
    have hnk : n ≤ k := by rw [← hn]; exact hcut.few
    clear hn hcut hrow hnew hb
    by_cases hlt : k < L.length
    · have hks : k < s.size := by rw [HLS.out]; exact hlt
      have hcb : (((s[k]'hks).toNat : Int) == (c.toNat : Int)) = (L[k] == c) := byte_eq HL.out hks hlt c
      cases hc : (L[k] == c) with
      | true =>
        rw [hc] at hcb
        have hce : L[k] = c := by simpa using hc
        have HNEXT := hid (HCUT.out.hit hlt hce)
        clear hc hce
        go_wp2_with (at_builtin; refine wpList_append_row _ rfl _ _ 29 rfl 9 i0 (.string ⟨#[]⟩) 1 16 Tryd.underlying29 hi0 hz0 hz1 hz2 rfl (by decide) A n cap (done.map txt) rfl ?c0 (some ⟨wr.heap.size, 0, none⟩) 1 1 [.string (s.extract fr k)] rfl ?c1 ?c2 ?c3 ?c4 ?_)
        case c0 => exact HROW.out.alloc _
        case c1 => exact one_sl wr _ _
        case c2 => intro u hu; simp at hu; subst hu; rfl
        case c3 => unfold maxLen; omega
        case c4 => omega
        intro A' cap' w1 hrow1 hkeep1 hin1
        have hb1 := hkeep1
        have HR1 := hid hrow1
        have HK1 := hid hkeep1
        have HI1 := hid hin1
        clear hrow1 hkeep1 hin1 hb1
        go_wp2_with fail
        go_roundw
        case rel =>
          refine ⟨k + 1, k + 1, A', n + 1, cap', done ++ [(L.take k).drop fr], by omega, rfl, by go_num, by go_num, by simp [HN.out], HNEXT.out, ?_, ?_, ?_⟩
          · have := HR1.out
            rw [List.map_append]
            have e : ([(L.take k).drop fr].map txt) = [Value.string (s.extract fr k)] := by
              simp only [List.map_cons, List.map_nil, txt]
              rw [Lib.extract_eq, ← HL.out, List.drop_take]
            rw [e]; exact this
          · intro i hi
            rcases HI1.out i hi with h | h
            · exact HNEW.out i h
            · have := HB.out.size; omega
          · exact keep_own HB.out (HNEW.out) HK1.out
        case measure => simp [intOf]; omega
      | false =>
        rw [hc] at hcb
        have hce : L[k] ≠ c := by simpa using hc
        have HNEXT := hid (HCUT.out.miss hlt hce)
        clear hc hce
        go_wp2_with fail
        go_roundw
        case rel => exact ⟨k + 1, fr, A, n, cap, done, by omega, rfl, rfl, by go_num, HN.out, HNEXT.out, HROW.out, HNEW.out, HB.out⟩
        case measure => simp [intOf]; omega
    · obtain rfl : k = L.length := by omega
      have hsl := HLS.out
      have HDONE := hid (HCUT.out.done rfl)
      go_wp2_with (at_builtin; refine wpList_append_row _ rfl _ _ 29 rfl 9 i0 (.string ⟨#[]⟩) 1 16 Tryd.underlying29 hi0 hz0 hz1 hz2 rfl (by decide) A n cap (done.map txt) rfl ?c0 (some ⟨wr.heap.size, 0, none⟩) 1 1 [.string (s.extract fr L.length)] rfl ?c1 ?c2 ?c3 ?c4 ?_)
      case c0 => exact HROW.out.alloc _
      case c1 => exact one_sl wr _ _
      case c2 => intro u hu; simp at hu; subst hu; rfl
      case c3 => unfold maxLen; omega
      case c4 => omega
      intro A' cap' w1 hrow1 hkeep1 hin1
      have HR1 := hid hrow1
      have HK1 := hid hkeep1
      have HI1 := hid hin1
      clear hrow1 hkeep1 hin1
      go_wp2_with fail
      go_ret
      have hlen : (cutA c [] L).length = n + 1 := by rw [HDONE.out]; simp [HN.out]
      have e : (cutA c [] L).map txt = done.map txt ++ [Value.string (s.extract fr L.length)] := by
        rw [HDONE.out, List.map_append]
        simp only [List.map_cons, List.map_nil, txt]
        rw [Lib.extract_eq, ← HL.out, List.take_of_length_le (by rw [List.length_drop]; omega)]
      rw [hlen, e]
      refine ⟨A', cap', rfl, HR1.out, ?_, keep_own HB.out (HNEW.out) HK1.out⟩
      intro i hi
      rcases HI1.out i hi with h | h
      · exact HNEW.out i h
      · have := HB.out.size; omega
end Go.Proofs.YteneedblgaialaaDoor
