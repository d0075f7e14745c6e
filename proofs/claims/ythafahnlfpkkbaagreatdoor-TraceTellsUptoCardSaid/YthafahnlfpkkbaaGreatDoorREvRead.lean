/- The reference (package frameref2): the contract of ReadEvents, for every text. Conditions: no text is longer than 2^30 bytes. -/
import Derived.Test.YthafahnlfpkkbaaGreatDoorREvW
import Derived.Test.YthafahnlfpkkbaaGreatDoorRReadLaw
import Derived.Test.YthafahnlfpkkbaaGreatDoorTraceU
import Derived.Deep.DeepCutAuto
namespace Go.Proofs.YthafahnlfpkkbaaGreatDoor
open Go.RowKit
set_option maxRecDepth 100000

/-- What the reference reads. -/
def REvGot (t : ByteArray) (w : World) (e : Ending) (w' : World) : Prop :=
  Below w.heap.size w w' ∧
  ((∃ (l : List Ev) (A : Option Addr) (n c : Nat), (∀ o ∈ l, WfEv o) ∧ evsText l = t.data.toList ∧ evsChk l = 0 ∧ l.length = n ∧ e = .returned (.tuple #[.slice A n c, .int .i64 0]) ∧ Row w' 32 4 A n c (l.flatMap Ev.cells)) ∨
   (∃ l : List Ev, (∀ o ∈ l, WfEv o) ∧ evsText l = t.data.toList ∧ evsChk l ≠ 0 ∧ e = .returned (.tuple #[.slice none 0 0, .int .i64 (evsChk l)])) ∨
   ((∀ l : List Ev, (∀ o ∈ l, WfEv o) → evsText l ≠ t.data.toList) ∧ e = .returned (.tuple #[.slice none 0 0, .int .i64 2])))
theorem row_txt {w : World} {A : Option Addr} {n c : Nat} {P : List (List UInt8)} (h : Row w 9 1 A n c (P.map txt)) {i : Nat} {s : List UInt8} (hs : P[i]? = some s) : ∃ b off, A = some ⟨b, off, none⟩ ∧ b < w.heap.size ∧ i < n ∧ w.cell? ⟨b, off + i, none⟩ = some (.string ⟨s.toArray⟩) := by
  have hl := (List.getElem?_eq_some_iff.1 hs).1
  have hn : P.length = n := by have := h.sl.1; rw [List.length_map] at this; omega
  obtain ⟨b, off, rfl, hb, hx⟩ := h.sl.2 (by omega)
  exact ⟨b, off, rfl, hb, by omega, hx i _ (by rw [List.getElem?_map, hs]; rfl)⟩
/-- The numbers of an event's words, so many of them read. -/
def VK (a b c d : List UInt8) (k : Nat) (v0 v1 v2 v3 : Int) : Prop :=
  (0 < k → ∃ n : Nat, numOf 7 a = some n ∧ v0 = n) ∧ (1 < k → (b = [45] ∧ v1 = -1) ∨ (b ≠ [45] ∧ ∃ n : Nat, numOf 7 b = some n ∧ v1 = n)) ∧ (2 < k → ∃ n : Nat, numOf 7 c = some n ∧ v2 = n) ∧ (3 < k → ∃ n : Nat, numOf 7 d = some n ∧ v3 = n)
theorem num_zero : numOf 7 [48] = some 0 := (numOf_some (by decide)).2 ⟨itoa_zero, by decide⟩
theorem VK.done {s a b c d : List UInt8} {v0 v1 v2 v3 : Int} (h : VK a b c d 4 v0 v1 v2 v3) (hc : cutA 32 [] s = [a, b, c, d]) : WfEv ⟨v0, v1, v2, v3⟩ ∧ evLine ⟨v0, v1, v2, v3⟩ = s := by
  obtain ⟨n0, h0, rfl⟩ := h.1 (by decide)
  obtain ⟨n2, h2, rfl⟩ := h.2.2.1 (by decide)
  obtain ⟨n3, h3, rfl⟩ := h.2.2.2 (by decide)
  rcases h.2.1 (by decide) with ⟨hb, rfl⟩ | ⟨hb, n1, h1, rfl⟩
  · have := word_yes hc h0 (by unfold wordOf; rw [if_pos hb]; exact num_zero) h2 h3
    rwa [if_pos hb] at this
  · have := word_yes hc h0 (by unfold wordOf; rw [if_neg hb]; exact h1) h2 h3
    rwa [if_neg hb] at this
theorem four_words {s : List UInt8} (h : (cutA 32 [] s).length = 4) : ∃ a b c d, cutA 32 [] s = [a, b, c, d] := by
  match hx : cutA 32 [] s, h with
  | [a, b, c, d], _ => exact ⟨a, b, c, d, rfl⟩

set_option maxHeartbeats 8000000 in
theorem revread_any (t : ByteArray) (ht : t.size ≤ 1073741824) (w : World) : Calls Tryz.prog 23 #[.string t] w (REvGot t w) := by
  obtain ⟨ie, hie, hz0, hz1, hz2⟩ := info_parts Tryz.infoEvent
  obtain ⟨P, z, hP, hjoin, hno, hzno⟩ := cut_lines 10 t.data.toList [] (by simp)
  rw [List.nil_append] at hjoin
  have hcut := cut_any t 10 w (by omega)
  rw [hP] at hcut
  obtain ⟨m, hm⟩ : ∃ m, m = P.length := ⟨_, rfl⟩
  have hlen : (P ++ [z]).length = m + 1 := by simp [hm]
  rw [hlen] at hcut
  have hPl : ∀ s ∈ P, s.length ≤ t.size := fun s hs => by
    rw [Lib.size_eq]
    have := cutA_le 10 t.data.toList [] s (by rw [hP]; simp [hs])
    simpa using this
  have hmt : m ≤ t.size := by
    have h1 := cutA_len 10 t.data.toList []
    rw [hP, hlen] at h1
    have h2 := List.count_le_length (a := (10 : UInt8)) (l := t.data.toList)
    rw [← Lib.size_eq] at h2
    omega
  have HCUT := hid hcut
  have HJOIN := hid hjoin
  have HNO := hid hno
  have HZN := hid hzno
  have HM := hid hm
  have HPL := hid hPl
  clear hcut hjoin hno hzno hm hPl hP hlen
  go_enter Tryz.func23, Tryz.ntmps23
  go_wp2_with fail
  refine HCUT.out.mono ?_
  rintro e w1 ⟨A, cap, rfl, hrow, hfr, hb1⟩
  have HROW := hid hrow
  have HB1 := hid hb1
  obtain ⟨b, off, rfl, hbl, _, hcz⟩ := row_txt hrow (i := m) (s := z) (by rw [HM.out]; simp)
  have hm1 : ((m + 1 : Nat) : Int) - 1 = (m : Int) := by omega
  clear hrow hfr hb1 HCUT
  obtain ⟨Z, hZ⟩ : ∃ Z : ByteArray, Z = ⟨z.toArray⟩ := ⟨_, rfl⟩
  rw [← hZ] at hcz
  by_cases hz : z = []
  · have hzz : (Z.toList == ([] : List UInt8)) = true := by rw [hZ, hz, Lib.toList_data]; rfl
    have HJ : Hid (t.data.toList = P.flatMap fun x => x ++ [10]) := by have := HJOIN.out; rw [hz, List.append_nil] at this; exact this
    clear hZ HJOIN HZN
    go_wp2_with fail
    go_loopw [5, 6] (fun v5 v6 wr => ∃ (i : Nat) (es : List Ev) (B : Option Addr) (d : Nat), i ≤ m ∧ v5 = .slice B i d ∧ v6 = .int .i64 i ∧ es.length = i ∧ es.map evLine = P.take i ∧ (∀ o ∈ es, WfEv o) ∧ Row wr 32 4 B i d (es.flatMap Ev.cells) ∧ (∀ j, InA B j → w1.heap.size ≤ j) ∧ Below w1.heap.size w1 wr) (fun _ v6 _ => m - (intOf v6).toNat)
    case atStart => exact ⟨0, [], none, 0, by omega, rfl, rfl, rfl, rfl, (fun o ho => by cases ho), Row.nil _ _ _, fun j hj => by simp [InA] at hj, Below.refl _ _⟩
    case round =>
      obtain ⟨i, es, B, d, hi, rfl, rfl, hel, hem, hwf, hrow, hfr, hb⟩ := hrel
      have HEL := hid hel
      have HEM := hid hem
      have HWF := hid hwf
      have HRB := hid hrow
      have HFR := hid hfr
      have HB := hid hb
      clear hel hem hwf hrow hfr hb
      by_cases him : i < m
      · have hiP : i < P.length := by rw [← HM.out]; exact him
        have hPi := List.getElem?_eq_getElem hiP
        have htk : P.take (i + 1) = P.take i ++ [P[i]] := List.take_succ_eq_append_getElem hiP
        have hsm := List.getElem_mem hiP
        generalize P[i] = s at hPi htk hsm
        have hsl := HPL.out s hsm
        obtain ⟨bb, oo, hAA, _, _, hks⟩ := row_txt HROW.out (i := i) (s := s) (by rw [List.getElem?_append_left hiP]; exact hPi)
        obtain ⟨rfl, rfl⟩ : b = bb ∧ off = oo := by injection hAA with h; injection h with h1 h2; exact ⟨h1, h2⟩
        obtain ⟨S, hS⟩ : ∃ S : ByteArray, S = ⟨s.toArray⟩ := ⟨_, rfl⟩
        rw [← hS] at hks
        have hSl : S.data.toList = s := by rw [hS]
        have hSz : S.size ≤ t.size := by rw [Lib.size_eq, hSl]; exact hsl
        have hk : wr.cell? ⟨b, off + i, none⟩ = some (.string S) := (HB.out.cell (p := ⟨b, off + i, none⟩) hbl).trans hks
        have hbw : b < wr.heap.size := Nat.lt_of_lt_of_le hbl HB.out.size
        have hcut := cut_any S 32 wr (by omega)
        rw [hSl] at hcut
        obtain ⟨N4, hN4⟩ : ∃ N4, N4 = (cutA 32 [] s).length := ⟨_, rfl⟩
        rw [← hN4] at hcut
        have HC2 := hid hcut
        have HN4 := hid hN4
        have HSM := hid hsm
        have HTK := hid htk
        have HWL : Hid (∀ x ∈ cutA 32 [] s, x.length ≤ t.size) := hid fun x hx => by
          have := cutA_le 32 s [] x hx
          simp only [List.length_nil, Nat.zero_add] at this
          omega
        clear hPi htk hsm hAA hks hS hSl hcut hN4
        by_cases h4 : N4 = 4
        · obtain ⟨wa, wb, wc, wd, hw4⟩ := four_words (s := s) (by rw [← HN4.out]; exact h4)
          subst h4
          go_wp2_with (go_at_call 67; refine HC2.out.mono ?_; rintro e w2 ⟨A2, cap2, rfl, hr2, hf2, hb2⟩; have HR2 := hid hr2; have HB2 := hid (HB.out.trans (hb2.mono HB.out.size)); have HRB2 := hid (HRB.out.new hb2); clear hr2 hf2 hb2 HC2)
          have hwl := HWL.out
          rw [hw4] at hwl
          have hr2 := HR2.out
          rw [hw4] at hr2
          obtain ⟨bw, ow, rfl, hbw2, _, hc0⟩ := row_txt hr2 (i := 0) (s := wa) rfl
          obtain ⟨bw1, ow1, hA1, _, _, hc1⟩ := row_txt hr2 (i := 1) (s := wb) rfl
          obtain ⟨bw2, ow2, hA2, _, _, hc2⟩ := row_txt hr2 (i := 2) (s := wc) rfl
          obtain ⟨bw3, ow3, hA3, _, _, hc3⟩ := row_txt hr2 (i := 3) (s := wd) rfl
          obtain ⟨rfl, rfl⟩ : bw = bw1 ∧ ow = ow1 := by injection hA1 with h; injection h with h1 h2; exact ⟨h1, h2⟩
          obtain ⟨rfl, rfl⟩ : bw = bw2 ∧ ow = ow2 := by injection hA2 with h; injection h with h1 h2; exact ⟨h1, h2⟩
          obtain ⟨rfl, rfl⟩ : bw = bw3 ∧ ow = ow3 := by injection hA3 with h; injection h with h1 h2; exact ⟨h1, h2⟩
          obtain ⟨Wa, hWa⟩ : ∃ S : ByteArray, S = ⟨wa.toArray⟩ := ⟨_, rfl⟩
          obtain ⟨Wb, hWb⟩ : ∃ S : ByteArray, S = ⟨wb.toArray⟩ := ⟨_, rfl⟩
          obtain ⟨Wc, hWc⟩ : ∃ S : ByteArray, S = ⟨wc.toArray⟩ := ⟨_, rfl⟩
          obtain ⟨Wd, hWd⟩ : ∃ S : ByteArray, S = ⟨wd.toArray⟩ := ⟨_, rfl⟩
          rw [← hWa] at hc0
          rw [← hWb] at hc1
          rw [← hWc] at hc2
          rw [← hWd] at hc3
          have la : Wa.data.toList = wa := by rw [hWa]
          have lb : Wb.data.toList = wb := by rw [hWb]
          have lc : Wc.data.toList = wc := by rw [hWc]
          have ld : Wd.data.toList = wd := by rw [hWd]
          have za : Wa.size ≤ t.size := by rw [Lib.size_eq, la]; exact hwl wa (by simp)
          have zb : Wb.size ≤ t.size := by rw [Lib.size_eq, lb]; exact hwl wb (by simp)
          have zc : Wc.size ≤ t.size := by rw [Lib.size_eq, lc]; exact hwl wc (by simp)
          have zd : Wd.size ≤ t.size := by rw [Lib.size_eq, ld]; exact hwl wd (by simp)
          have HNA : Hid (∀ w', Calls Tryz.prog 68 #[.string Wa, .int .i64 7] w' (RNumGot 7 Wa w')) := hid fun w' => rnumber_any Wa 7 (by decide) w' (by omega)
          have HNB : Hid (∀ w', Calls Tryz.prog 68 #[.string Wb, .int .i64 7] w' (RNumGot 7 Wb w')) := hid fun w' => rnumber_any Wb 7 (by decide) w' (by omega)
          have HNC : Hid (∀ w', Calls Tryz.prog 68 #[.string Wc, .int .i64 7] w' (RNumGot 7 Wc w')) := hid fun w' => rnumber_any Wc 7 (by decide) w' (by omega)
          have HND : Hid (∀ w', Calls Tryz.prog 68 #[.string Wd, .int .i64 7] w' (RNumGot 7 Wd w')) := hid fun w' => rnumber_any Wd 7 (by decide) w' (by omega)
          unfold RNumGot at HNA HNB HNC HND
          rw [la] at HNA
          rw [lb] at HNB
          rw [lc] at HNC
          rw [ld] at HND
          have HLB := hid lb
          have HW4 := hid hw4
          have HCS : Hid (∀ w', Below w2.heap.size w2 w' → w'.cell? ⟨bw, ow, none⟩ = some (.string Wa) ∧ w'.cell? ⟨bw, ow + 1, none⟩ = some (.string Wb) ∧ w'.cell? ⟨bw, ow + 2, none⟩ = some (.string Wc) ∧ w'.cell? ⟨bw, ow + 3, none⟩ = some (.string Wd) ∧ bw < w'.heap.size) := hid fun w' hb =>
            ⟨(hb.cell (p := ⟨bw, ow, none⟩) hbw2).trans hc0, (hb.cell (p := ⟨bw, ow + 1, none⟩) hbw2).trans hc1, (hb.cell (p := ⟨bw, ow + 2, none⟩) hbw2).trans hc2, (hb.cell (p := ⟨bw, ow + 3, none⟩) hbw2).trans hc3, Nat.lt_of_lt_of_le hbw2 hb.size⟩
          clear hA1 hA2 hA3 hWa hWb hWc hWd hc0 hc1 hc2 hc3 la lb lc ld za zb zc zd hwl hr2 hw4 HWL HR2
          go_loopw [9] (fun v9 wr2 => ∃ (k : Nat) (v0 v1 v2 v3 : Int), k ≤ 4 ∧ v9 = .int .i64 k ∧ VK wa wb wc wd k v0 v1 v2 v3 ∧ wr2.heap[w2.heap.size]? = some (.cells #[.int .i64 v0, .int .i64 v1, .int .i64 v2, .int .i64 v3] 132 (0, 0)) ∧ Below w2.heap.size w2 wr2) (fun v9 _ => 4 - (intOf v9).toNat)
          case atStart => exact ⟨0, 0, 0, 0, 0, by omega, rfl, ⟨fun h => by omega, fun h => by omega, fun h => by omega, fun h => by omega⟩, heap_alloc_new w2 _, (Below.refl _ _).alloc (Nat.le_refl _) _⟩
          case round =>
            obtain ⟨wq, rfl⟩ : ∃ wq : World, wq = wr := ⟨_, rfl⟩
            obtain ⟨k, v0, v1, v2, v3, hk4, rfl, hvk, hblk, hbq⟩ := hrel
            have HVK := hid hvk
            have HBLK := hid hblk
            have HBQ := hid hbq
            have u0 := blk_cell hblk 0
            have u1 := blk_cell hblk 1
            have u2 := blk_cell hblk 2
            have u3 := blk_cell hblk 3
            have uf := fun o => blk_free hblk o
            have ul := blk_lt hblk
            simp at u0 u1 u2 u3
            obtain ⟨y0, y1, y2, y3, hly⟩ := HCS.out wq hbq
            clear hvk hblk hbq
            rcases (show k = 0 ∨ k = 1 ∨ k = 2 ∨ k = 3 ∨ k = 4 by omega) with rfl | rfl | rfl | rfl | rfl
            · go_wp2_with fail
              refine (HNA.out wq).mono ?_
              rintro e w4 ⟨v, b4, rfl, rfl, ⟨rfl, hnum⟩ | ⟨rfl, _, hnum⟩⟩
              · have HV := hid hnum
                clear hnum
                go_wp2_with fail
                go_roundw
                case rel =>
                  have hnum := HV.out
                  exact ⟨1, (v : Int), v1, v2, v3, by omega, rfl, ⟨fun _ => ⟨v, hnum, rfl⟩, fun h => by omega, fun h => by omega, fun h => by omega⟩, blk_set HBLK.out 0 _, (HBQ.out.setCell (p := ⟨w2.heap.size, 0, none⟩) (Nat.le_refl _) _)⟩
                case measure => simp [intOf]
              · have HBAD := hid (word_no HW4.out (.inl hnum))
                clear hnum
                go_wp2_with fail
                go_ret2
                exact ⟨HB1.out.trans ((HB2.out.trans (HBQ.out.mono HB2.out.size)).mono HB1.out.size), .inr (.inr ⟨evs_line_no HJ.out HNO.out HSM.out HBAD.out, rfl⟩)⟩
            · by_cases hnb : wb = [45]
              · have hb45 : (Wb.toList == [45]) = true := by rw [Lib.toList_data, HLB.out, hnb]; rfl
                go_wp2_with fail
                go_roundw
                case rel => exact ⟨2, v0, -1, v2, v3, by omega, rfl, ⟨fun _ => HVK.out.1 (by decide), fun _ => .inl ⟨hnb, rfl⟩, fun h => by omega, fun h => by omega⟩, blk_set HBLK.out 1 _, (HBQ.out.setCell (p := ⟨w2.heap.size, 1, none⟩) (Nat.le_refl _) _)⟩
                case measure => simp [intOf]
              · have hb45 : (Wb.toList == [45]) = false := by rw [Lib.toList_data, HLB.out, beq_eq_false_iff_ne]; exact hnb
                go_wp2_with fail
                refine (HNB.out wq).mono ?_
                rintro e w4 ⟨v, b4, rfl, rfl, ⟨rfl, hnum⟩ | ⟨rfl, _, hnum⟩⟩
                · have HV := hid hnum
                  clear hnum
                  go_wp2_with fail
                  go_roundw
                  case rel =>
                    have hnum := HV.out
                    exact ⟨2, v0, (v : Int), v2, v3, by omega, rfl, ⟨fun _ => HVK.out.1 (by decide), fun _ => .inr ⟨hnb, v, hnum, rfl⟩, fun h => by omega, fun h => by omega⟩, blk_set HBLK.out 1 _, (HBQ.out.setCell (p := ⟨w2.heap.size, 1, none⟩) (Nat.le_refl _) _)⟩
                  case measure => simp [intOf]
                · have HBAD := hid (word_no HW4.out (.inr (.inl (by unfold wordOf; rw [if_neg hnb]; exact hnum))))
                  clear hnum
                  go_wp2_with fail
                  go_ret2
                  exact ⟨HB1.out.trans ((HB2.out.trans (HBQ.out.mono HB2.out.size)).mono HB1.out.size), .inr (.inr ⟨evs_line_no HJ.out HNO.out HSM.out HBAD.out, rfl⟩)⟩
            · go_wp2_with fail
              refine (HNC.out wq).mono ?_
              rintro e w4 ⟨v, b4, rfl, rfl, ⟨rfl, hnum⟩ | ⟨rfl, _, hnum⟩⟩
              · have HV := hid hnum
                clear hnum
                go_wp2_with fail
                go_roundw
                case rel =>
                  have hnum := HV.out
                  exact ⟨3, v0, v1, (v : Int), v3, by omega, rfl, ⟨fun _ => HVK.out.1 (by decide), fun _ => HVK.out.2.1 (by decide), fun _ => ⟨v, hnum, rfl⟩, fun h => by omega⟩, blk_set HBLK.out 2 _, (HBQ.out.setCell (p := ⟨w2.heap.size, 2, none⟩) (Nat.le_refl _) _)⟩
                case measure => simp [intOf]
              · have HBAD := hid (word_no HW4.out (.inr (.inr (.inl hnum))))
                clear hnum
                go_wp2_with fail
                go_ret2
                exact ⟨HB1.out.trans ((HB2.out.trans (HBQ.out.mono HB2.out.size)).mono HB1.out.size), .inr (.inr ⟨evs_line_no HJ.out HNO.out HSM.out HBAD.out, rfl⟩)⟩
            · go_wp2_with fail
              refine (HND.out wq).mono ?_
              rintro e w4 ⟨v, b4, rfl, rfl, ⟨rfl, hnum⟩ | ⟨rfl, _, hnum⟩⟩
              · have HV := hid hnum
                clear hnum
                go_wp2_with fail
                go_roundw
                case rel =>
                  have hnum := HV.out
                  exact ⟨4, v0, v1, v2, (v : Int), by omega, rfl, ⟨fun _ => HVK.out.1 (by decide), fun _ => HVK.out.2.1 (by decide), fun _ => HVK.out.2.2.1 (by decide), fun _ => ⟨v, hnum, rfl⟩⟩, blk_set HBLK.out 3 _, (HBQ.out.setCell (p := ⟨w2.heap.size, 3, none⟩) (Nat.le_refl _) _)⟩
                case measure => simp [intOf]
              · have HBAD := hid (word_no HW4.out (.inr (.inr (.inr hnum))))
                clear hnum
                go_wp2_with fail
                go_ret2
                exact ⟨HB1.out.trans ((HB2.out.trans (HBQ.out.mono HB2.out.size)).mono HB1.out.size), .inr (.inr ⟨evs_line_no HJ.out HNO.out HSM.out HBAD.out, rfl⟩)⟩
            · have hev := HVK.out.done HW4.out
              have HEVW := hid hev.1
              have HEVL := hid hev.2
              have HRQ := hid (HRB2.out.new HBQ.out)
              clear hev y0 y1 y2 y3 hly
              go_wp2_with (at_builtin; refine wpList_append_row _ rfl _ _ 27 rfl 32 ie _ 4 32 Tryz.underlying27 hie hz0 hz1 hz2 rfl (by decide) B i d (es.flatMap Ev.cells) rfl ?c0 (some ⟨wq.heap.size, 0, none⟩) 1 1 (Ev.cells ⟨v0, v1, v2, v3⟩) rfl ?c1 ?c2 ?c3 ?c4 ?_)
              case c0 => exact HRQ.out.alloc _
              case c1 => exact sl_blk (heap_alloc_new wq _) 4 1 _ rfl rfl
              case c2 => exact ev_one _
              case c3 => unfold maxLen; omega
              case c4 => omega
              intro B5 d5 w5 hr5 hk5 hn5
              have HR5 := hid hr5
              have HK5 := hid hk5
              have HN5 := hid hn5
              clear hr5 hk5 hn5
              go_wp2_with fail
              go_roundw
              case rel =>
                have hbo : Below w1.heap.size w1 wq := HB2.out.trans (HBQ.out.mono HB2.out.size)
                refine ⟨i + 1, es ++ [⟨v0, v1, v2, v3⟩], B5, d5, by omega, rfl, by go_num, by rw [List.length_append, HEL.out]; rfl, ?_, ?_, ?_, ?_, ?_⟩
                · rw [List.map_append, HEM.out, HTK.out, List.map_cons, List.map_nil, HEVL.out]
                · intro o ho
                  rcases List.mem_append.1 ho with ho | ho
                  · exact HWF.out o ho
                  · rw [List.mem_singleton] at ho; rw [ho]; exact HEVW.out
                · rw [List.flatMap_append]
                  simpa using HR5.out
                · intro j hj
                  rcases HN5.out j hj with h | h
                  · exact HFR.out j h
                  · have := hbo.size; omega
                · exact keep_own hbo HFR.out HK5.out
              case measure => simp [intOf]; omega
        · have hne : ((N4 : Int) != 4) = true := by simp; omega
          go_wp2_with (go_at_call 67; refine HC2.out.mono ?_; rintro e w2 ⟨A2, cap2, rfl, hr2, hf2, hb2⟩; have HR2 := hid hr2; have HB2 := hid (HB.out.trans (hb2.mono HB.out.size)); have HRB2 := hid (HRB.out.new hb2); clear hr2 hf2 hb2 HC2)
          have HB3 := hid (HB1.out.trans (HB2.out.mono HB1.out.size))
          go_ret2
          exact ⟨HB3.out, .inr (.inr ⟨evs_line_no HJ.out HNO.out HSM.out (fun x _ => words_no (by rw [← HN4.out]; exact h4) x), rfl⟩)⟩
      · obtain rfl : i = m := by omega
        have hem : es.map evLine = P := by rw [HEM.out, HM.out, List.take_length]
        have HTX : Hid (evsText es = t.data.toList) := hid (by rw [HJ.out]; exact evs_all hem)
        have hev := revents_any B i d es wr HEL.out HRB.out.sl
        have HEV := hid hev
        clear hem hev
        go_wp2_with fail
        refine HEV.out.mono ?_
        rintro e w2 ⟨rfl, hb2⟩
        have HB2 := hid (HB1.out.trans ((HB.out.trans (hb2.mono HB.out.size)).mono HB1.out.size))
        have HRB2 := hid (HRB.out.new hb2)
        clear hb2 HEV
        obtain ⟨E, hE⟩ : ∃ E, E = evsChk es := ⟨_, rfl⟩
        rw [← hE]
        have HE := hid hE
        clear hE
        by_cases he : E = 0
        · subst he
          go_wp2_with fail
          go_ret2
          exact ⟨HB2.out, .inl ⟨es, B, i, d, HWF.out, HTX.out, HE.out.symm, HEL.out, rfl, HRB2.out⟩⟩
        · have hne : (E != 0) = true := by simpa using he
          go_wp2_with fail
          go_ret2
          refine ⟨HB2.out, .inr (.inl ⟨es, HWF.out, HTX.out, by rw [← HE.out]; exact he, by rw [← HE.out]; rfl⟩)⟩
  · have hzz : (Z.toList == ([] : List UInt8)) = false := by
      rw [hZ, Lib.toList_data]
      cases z with
      | nil => exact absurd rfl hz
      | cons x z => rfl
    clear hZ
    go_wp2_with fail
    go_ret2
    exact ⟨HB1.out, .inr (.inr ⟨fun l _ => evs_no_tail HJOIN.out hz HZN.out l, rfl⟩)⟩
end Go.Proofs.YthafahnlfpkkbaaGreatDoor
