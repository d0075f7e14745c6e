/- The reference (package frameref2): the contract of Save, for every kernel that is right. Conditions: none. -/
import Derived.Test.YtldllmhgofacbaaGreatDoorSnapSvU
import Derived.Test.YtldllmhgofacbaaGreatDoorRTextU
import Derived.Test.YtldllmhgofacbaaGreatDoorRKernUT
namespace Go.Proofs.YtldllmhgofacbaaGreatDoor
open Go.RowKit
set_option maxRecDepth 100000

theorem six_cells (s : St) {c : Nat} (hc : c < 6) : (roomNums s).take (1 + (c + 1)) = (roomNums s).take (1 + c) ++ [s.get c] := by
  rcases six hc with rfl | rfl | rfl | rfl | rfl | rfl <;> rfl
theorem box_cell {w : World} {b : Nat} {s : St} (h : w.heap[b]? = some (.cells #[.int .i64 s.pc, .int .i64 s.c0, .int .i64 s.c1, .int .i64 s.c2, .int .i64 s.c3, .int .i64 s.c4, .int .i64 s.c5, .bool s.failed] 106 (0, 0))) {c : Nat} (hc : c < 6) : w.cell? ⟨b, 1 + c, none⟩ = some (.int .i64 (s.get c)) := by
  rcases six hc with rfl | rfl | rfl | rfl | rfl | rfl
  · exact (blk_cell h 1).trans rfl
  · exact (blk_cell h 2).trans rfl
  · exact (blk_cell h 3).trans rfl
  · exact (blk_cell h 4).trans rfl
  · exact (blk_cell h 5).trans rfl
  · exact (blk_cell h 6).trans rfl
theorem rnums_done (s : St) : (roomNums s).take (1 + 6) ++ [if s.failed then 1 else 0] = roomNums s := rfl
theorem rsave_ret {w w' : World} {a : Act} {S : ByteArray} {l : List UInt8} (h4 : a.tmps[2]? = some (.string S)) (hd : a.defers = []) (hS : S.data.toList = l) (hb : Below w.heap.size w w') :
    bodyPost Tryz.prog Tryz.f27 (fun e w' => ∃ T : ByteArray, e = .returned (.string T) ∧ T.data.toList = l ∧ Below w.heap.size w w') .ret a w' :=
  bodyPost_ret (v := .string S) (by simp [results, Tryz.results27, go_sem, h4]) hd ⟨S, rfl, hS, hb⟩
set_option maxHeartbeats 8000000 in
theorem rsave_any {w : World} {kb : Nat} {M : KM} {k : Kst} (hka : KAt 98 165 163 w kb M k) (hok : SnapOk k) :
    Calls Tryz.prog 27 #[.pointer (some ⟨kb, 0, none⟩)] w fun e w' => ∃ T : ByteArray, e = .returned (.string T) ∧ T.data.toList = snapText k ∧ Below w.heap.size w w' := by
  have HKA : Hid (∀ w', Below w.heap.size w w' → KAt 98 165 163 w' kb M k) := hid fun w' hb => hka.new hb
  have HROW : Hid (∀ (w' : World) (word : ByteArray) (A : Option Addr) (n c : Nat) (l : List Int), l.length = n → Sl w' A 1 n (ints l) → (∀ x ∈ l, 0 ≤ x ∧ x ≤ 200000000) → word.size ≤ 100 → n ≤ 20 → Calls Tryz.prog 71 #[.string word, .slice A n c] w' fun e w'' => ∃ T : ByteArray, e = .returned (.string T) ∧ T.data.toList = word.data.toList ++ l.flatMap numT ∧ Below w'.heap.size w' w'') := fun w' word A n c l hn hs hl hw hln => by
    subst hn
    exact rrow_any word A c l w' hs (fun x hx => by have := hl x hx; omega) (by omega) (by omega)
  obtain ⟨_, _, _, _, _, k6, _, hkb⟩ := hka.cells
  have HOK := hid hok
  obtain ⟨R, hR⟩ : ∃ R, R = k.rooms.length := ⟨_, rfl⟩
  obtain ⟨Q, hQ⟩ : ∃ Q, Q = k.lines.length := ⟨_, rfl⟩
  have hR5 : R ≤ 5 := by rw [hR]; exact hok.few.1
  have hQ12 : Q ≤ 12 := by rw [hQ]; exact hok.few.2
  have HK4 : Hid (∀ w', Below w.heap.size w w' → w'.cell? ⟨kb, 4, none⟩ = some (.slice M.rA R M.rc) ∧ w'.cell? ⟨kb, 5, none⟩ = some (.slice M.lA Q M.lc) ∧ kb < w'.heap.size) := hid fun w' hb => by
    obtain ⟨_, _, _, k4, k5, _, _, hkb⟩ := (HKA.out w' hb).cells
    rw [hR, hQ]; exact ⟨k4, k5, hkb⟩
  have HRL := hid hR
  have HQL := hid hQ
  have ht := hok.time
  obtain ⟨T0, hT0⟩ : ∃ T0, T0 = snapHead k := ⟨_, rfl⟩
  have HT0 := hid hT0
  have hT0l : T0.length ≤ 27 := by
    rw [hT0, time_line]
    exact lineT_le (n := 1) (by decide) (Nat.le_refl 1) (fun x hx => by simp at hx; omega)
  have HT0L := hid hT0l
  obtain ⟨i0, hi0, hz0, hz1, hz2⟩ := info_parts Tryz.infoInt
  have h10 : (ByteArray.mk #[10]).size = 1 := rfl
  clear hka hok hR hQ hT0 hT0l
  go_enter Tryz.func27, Tryz.ntmps27
  go_upto_region 1 with fail
  obtain ⟨w2, hw2⟩ : ∃ w2, w2 = w.alloc (.cells #[.int .i64 k.time] 3) := ⟨_, rfl⟩
  have HB2 : Hid (Below w.heap.size w w2) := hid (by rw [hw2]; exact (Below.refl _ _).alloc (Nat.le_refl _) _)
  have HTR := hid (HROW.out w2 ⟨#[116, 105, 109, 101]⟩ (some ⟨w.heap.size, 0, none⟩) 1 1 [k.time] rfl (by rw [hw2]; exact one_sl w (.int .i64 k.time) 3) (fun x hx => by simp at hx; subst hx; exact ht) (by decide) (by decide))
  have hTl0 : ∀ T : ByteArray, T.data.toList = [116, 105, 109, 101] ++ [k.time].flatMap numT → T.size ≤ 26 := fun T hT => by
    have h1 := lineT_le (w := [116, 105, 109, 101]) (l := [k.time]) (n := 1) (by decide) (Nat.le_refl 1) (fun x hx => by simp at hx; omega)
    unfold lineT at h1
    rw [List.length_append] at h1
    rw [Lib.size_eq, hT]
    simp only [List.length_singleton] at h1
    exact Nat.le_of_succ_le_succ h1
  have HTL0 := hid hTl0
  clear hTl0
  go_wp2_with fail
  rw [← hw2]
  refine HTR.out.mono ?_
  rintro e w3 ⟨T3, rfl, hT3, hb3⟩
  have HB3 := hid (HB2.out.trans (hb3.mono HB2.out.size))
  have hT3l := HTL0.out T3 hT3
  have HT3 := hid hT3
  have hcat0 : ¬ 9223372036854775807 < T3.size + 1 := by omega
  clear hT3 hb3 hw2 k6 hkb HTR
  go_wp2_with fail
  obtain ⟨T4, hT4⟩ : ∃ T4, T4 = T3 ++ (⟨#[10]⟩ : ByteArray) := ⟨_, rfl⟩
  have HT4 : Hid (T4.data.toList = T0) := hid (by
    rw [hT4, ByteArray.data_append, Array.toList_append, HT3.out, HT0.out]; rfl)
  rw [← hT4]
  clear hT4 hT3l
  go_loopw [3, 4] (fun v3 v4 wr => ∃ (r : Nat) (S : ByteArray), r ≤ R ∧ v3 = .string S ∧ v4 = .int .i64 r ∧ S.data.toList = T0 ++ (k.rooms.take r).flatMap roomLine ∧ Below w.heap.size w wr) (fun _ v4 _ => R - (intOf v4).toNat)
  case atStart => exact ⟨0, T4, by omega, rfl, rfl, by rw [HT4.out, List.take_zero]; simp, HB3.out⟩
  case round =>
    obtain ⟨wo, rfl⟩ : ∃ wo : World, wo = wr := ⟨_, rfl⟩
    obtain ⟨r, S, hr, rfl, rfl, hS, hb⟩ := hrel
    have hSl : S.size ≤ 27 + 181 * r := by
      have h1 := flat_le roomLine 181 (k.rooms.take r) (fun s hs => lineT_le (n := 8) (by decide) (by simp [roomNums]) (HOK.out.rooms s (List.mem_of_mem_take hs)))
      rw [List.length_take] at h1
      have h2 := Nat.min_le_left r k.rooms.length
      have h3 : 181 * min r k.rooms.length ≤ 181 * r := Nat.mul_le_mul_left _ h2
      have := HT0L.out
      rw [Lib.size_eq, hS, List.length_append]; omega
    have HS := hid hS
    have HB := hid hb
    obtain ⟨x4, x5, hlx⟩ := HK4.out wo hb
    clear hS hb
    by_cases hrR : r < R
    · have hrl : r < k.rooms.length := by rw [← HRL.out]; exact hrR
      have hget := List.getElem?_eq_getElem hrl
      generalize k.rooms[r] = s at hget
      obtain ⟨rb, roff, hrA, ⟨s0, s1, s2, s3, s4, s5, s6, s7⟩, hrf, hrb, hrkb, hrl2, hrc, hrm⟩ := (HKA.out wo HB.out).room hget
      have HNUM := hid (HOK.out.rooms s (List.mem_of_getElem? hget))
      have HNX := hid (take_flat roomLine hget)
      rw [hrA] at x4
      unfold maxLen at hrm
      rw [← HRL.out] at hrl2 hrc
      have hnum7 := HNUM.out
      clear hget hrf hrkb
      go_upto_region 6 with fail
      obtain ⟨w8, hw8⟩ : ∃ w8, w8 = wo.alloc (.cells #[.int .i64 s.pc, .int .i64 s.c0, .int .i64 s.c1, .int .i64 s.c2, .int .i64 s.c3, .int .i64 s.c4, .int .i64 s.c5, .bool s.failed] 106) := ⟨_, rfl⟩
      rw [← hw8]
      obtain ⟨sb, hsbe⟩ : ∃ sb, sb = wo.heap.size := ⟨_, rfl⟩
      rw [← hsbe]
      have hsb : w8.heap[sb]? = some (.cells #[.int .i64 s.pc, .int .i64 s.c0, .int .i64 s.c1, .int .i64 s.c2, .int .i64 s.c3, .int .i64 s.c4, .int .i64 s.c5, .bool s.failed] 106 (0, 0)) := by rw [hw8, hsbe]; exact heap_alloc_new wo _
      have HB8 : Hid (Below w.heap.size w w8) := hid (by rw [hw8]; exact HB.out.alloc HB.out.size _)
      have HSB := hid hsb
      have d0 := blk_cell hsb 0
      have hld := blk_lt hsb
      simp at d0
      clear hw8 hsb hsbe s0 s1 s2 s3 s4 s5 s6 s7 x4 x5 hlx hrb hrA hnum7
      go_wp2_with fail
      go_loopw [6, 7] (fun v6 v7 wq => ∃ (c : Nat) (A : Option Addr) (cap : Nat), c ≤ 6 ∧ v6 = .slice A (1 + c) cap ∧ v7 = .int .i64 c ∧ Row wq 3 1 A (1 + c) cap (ints ((roomNums s).take (1 + c))) ∧ (∀ j, InA A j → w8.heap.size ≤ j) ∧ Below w8.heap.size w8 wq) (fun _ v7 _ => 6 - (intOf v7).toNat)
      case atStart => exact ⟨0, some ⟨w8.heap.size, 0, none⟩, 1, by omega, rfl, rfl, row_lit (heap_alloc_new w8 _), fun j hj => by simp [InA] at hj; omega, (Below.refl _ _).alloc (Nat.le_refl _) _⟩
      case round =>
        obtain ⟨wp, rfl⟩ : ∃ wp : World, wp = wr := ⟨_, rfl⟩
        obtain ⟨c, A, cap, hc, rfl, rfl, hrow, hfr, hbq⟩ := hrel
        have HRW := hid hrow
        have HFR := hid hfr
        have HBQ := hid hbq
        have hbx := (hbq.block _ (blk_lt HSB.out)).trans HSB.out
        have hlb := blk_lt hbx
        clear hrow hfr hbq d0 hld
        by_cases hc6 : c < 6
        · have hcell := box_cell hbx hc6
          have HSX := hid (six_cells s hc6)
          generalize s.get c = x at hcell HSX
          clear hbx
          go_wp2_with (at_builtin; refine wpList_append_row _ rfl _ _ 64 rfl 3 i0 (.int .i64 0) 1 8 Tryz.underlying64 hi0 hz0 hz1 hz2 rfl (by decide) A (1 + c) cap (ints ((roomNums s).take (1 + c))) rfl ?c0 (some ⟨wp.heap.size, 0, none⟩) 1 1 [.int .i64 x] rfl ?c1 ?c2 ?c3 ?c4 ?_)
          case c0 => exact HRW.out.alloc _
          case c1 => exact one_sl wp _ _
          case c2 => intro u hu; simp at hu; subst hu; rfl
          case c3 => unfold maxLen; omega
          case c4 => omega
          intro A' cap' w9 hr9 hk9 hi9
          have HR9 : Hid (Row w9 3 1 A' (1 + (c + 1)) cap' (ints ((roomNums s).take (1 + (c + 1))))) := hid (by
            rw [HSX.out, ints_append]; exact hr9)
          have HB9 := hid (keep_own HBQ.out HFR.out hk9)
          have HI9 : Hid (∀ j, InA A' j → w8.heap.size ≤ j) := hid fun j hj => by
            rcases hi9 j hj with h | h
            · exact HFR.out j h
            · have := HBQ.out.size; omega
          clear hr9 hk9 hi9
          go_wp2_with fail
          go_roundw
          case rel => exact ⟨c + 1, A', cap', by omega, by rw [Nat.add_assoc], by go_num, HR9.out, HI9.out, HB9.out⟩
          case measure => simp [intOf]; omega
        · obtain rfl : c = 6 := by omega
          have HDN := hid (rnums_done s)
          have z7 := blk_cell hbx 7
          simp at z7
          clear hbx hc6
          cases hf : s.failed
          all_goals
            rw [hf] at z7 HDN
            go_wp2_with (at_builtin; refine wpList_append_row _ rfl _ _ 64 rfl 3 i0 (.int .i64 0) 1 8 Tryz.underlying64 hi0 hz0 hz1 hz2 rfl (by decide) A (1 + 6) cap (ints ((roomNums s).take (1 + 6))) rfl (HRW.out.alloc _) (some ⟨wp.heap.size, 0, none⟩) 1 1 _ rfl (one_sl wp _ _) (fun u hu => by simp at hu; subst hu; rfl) (by decide) (by decide) ?_)
            intro A' cap' w9 hr9 hk9 hi9
            have HR9 : Hid (Row w9 3 1 A' 8 cap' (ints (roomNums s))) := hid (by
              rw [← HDN.out, ints_append]; exact hr9)
            have HB9 := hid (HB8.out.trans ((keep_own HBQ.out HFR.out hk9).mono HB8.out.size))
            clear hr9 hk9 hi9
            have hTl : ∀ T : ByteArray, T.data.toList = [114, 111, 111, 109] ++ (roomNums s).flatMap numT → T.size ≤ 180 := fun T hT => by
              have h1 := lineT_le (w := [114, 111, 111, 109]) (l := roomNums s) (n := 8) (by decide) (by simp [roomNums]) HNUM.out
              unfold lineT at h1
              rw [List.length_append] at h1
              rw [Lib.size_eq, hT]
              simp only [List.length_singleton] at h1
              exact Nat.le_of_succ_le_succ h1
            have HTL := hid hTl
            clear hTl
            go_wp2_with (go_at_call 71; refine (HROW.out w9 ⟨#[114, 111, 111, 109]⟩ _ 8 _ (roomNums s) (by simp [roomNums]) HR9.out.sl HNUM.out (by decide) (by decide)).mono ?_; rintro e w11 ⟨T11, rfl, hT11, hb11⟩; have hT11l := HTL.out T11 hT11; have HB11 := hid (HB9.out.trans (hb11.mono HB9.out.size)); have HT11 := hid hT11; have hcat : ¬ 9223372036854775807 < S.size + T11.size := (by omega); have hcat2 : ¬ 9223372036854775807 < (S ++ T11).size + 1 := (by rw [ByteArray.size_append]; omega); clear hT11 hb11)
            go_roundw
            case rel =>
              refine ⟨r + 1, _, by omega, rfl, by go_num, ?_, HB11.out⟩
              rw [ByteArray.data_append, ByteArray.data_append, Array.toList_append, Array.toList_append, HS.out, HT11.out, HNX.out, ← List.append_assoc]
              unfold roomLine lineT
              simp
            case measure => simp [intOf]; omega
    · obtain rfl : r = R := by omega
      have hS0 : S.data.toList = T0 ++ k.rooms.flatMap roomLine := by rw [HS.out, HRL.out, List.take_length]
      obtain ⟨T1, hT1⟩ : ∃ T1, T1 = T0 ++ k.rooms.flatMap roomLine := ⟨_, rfl⟩
      rw [← hT1] at hS0
      have hT1l : T1.length ≤ 932 := by rw [← hS0, ← Lib.size_eq]; omega
      have HT1 := hid hT1
      have HS0 := hid hS0
      clear HS hS0 hT1 hSl hrR
      go_wp2_with fail
      go_loopw [3, 8] (fun v3 v8 wr => ∃ (q : Nat) (S : ByteArray), q ≤ Q ∧ v3 = .string S ∧ v8 = .int .i64 q ∧ S.data.toList = T1 ++ (k.lines.take q).flatMap wireLine ∧ Below w.heap.size w wr) (fun _ v8 _ => Q - (intOf v8).toNat)
      case atStart => exact ⟨0, S, by omega, rfl, rfl, by rw [HS0.out, List.take_zero]; simp, HB.out⟩
      case round =>
        obtain ⟨wp, rfl⟩ : ∃ wp : World, wp = wr := ⟨_, rfl⟩
        obtain ⟨q, S, hq, rfl, rfl, hS, hb⟩ := hrel
        have hSl : S.size ≤ 932 + 159 * q := by
          have h1 := flat_le wireLine 159 (k.lines.take q) (fun x hx => by
            have h := HOK.out.lines x (List.mem_of_mem_take hx)
            exact lineT_le (n := 7) (by decide) (by simp; omega) h.2)
          rw [List.length_take] at h1
          have h2 := Nat.min_le_left q k.lines.length
          have h3 : 159 * min q k.lines.length ≤ 159 * q := Nat.mul_le_mul_left _ h2
          rw [Lib.size_eq, hS, List.length_append]; omega
        have HS := hid hS
        have HB2 := hid hb
        clear x4 x5 hlx
        obtain ⟨x4, x5, hlx⟩ := HK4.out wp hb
        clear hS hb
        by_cases hqQ : q < Q
        · have hql : q < k.lines.length := by rw [← HQL.out]; exact hqQ
          have hget := List.getElem?_eq_getElem hql
          generalize k.lines[q] = x at hget
          obtain ⟨hx6, hnums⟩ := HOK.out.lines x (List.mem_of_getElem? hget)
          obtain ⟨a, pb, po, ha, hA, hcp, ⟨icap, hlb, hlr⟩, hil, hpb⟩ := (HKA.out wp HB2.out).line hget
          have hlc := (HKA.out wp HB2.out).ptrs.le
          unfold maxLen at hlc
          rw [← HQL.out] at hil hlc
          rw [hA] at x5
          have HNX := hid (take_flat wireLine hget)
          have HNUM := hid hnums
          have HLR := hid hlr
          have g4 := blk_cell hlb 4
          have g5 := blk_cell hlb 5
          have hlg := blk_lt hlb
          simp at g4 g5
          obtain ⟨xw, items, lost⟩ := x
          simp only [] at hx6 HLR g4 g5
          obtain ⟨ni, hni⟩ : ∃ ni, items.length = ni := ⟨_, rfl⟩
          rw [hni] at hx6 HLR g4
          have HNI := hid hni
          generalize a.A = iA at HLR g4
          generalize a.b = ab at g4 g5 hlg hcp
          clear hget hnums hni hlr hlb ha hA
          go_wp2_with (at_builtin; refine wpList_append_row _ rfl _ _ 64 rfl 3 i0 (.int .i64 0) 1 8 Tryz.underlying64 hi0 hz0 hz1 hz2 rfl (by decide) (some ⟨wp.heap.size, 0, none⟩) 1 1 [.int .i64 lost] rfl (row_lit (heap_alloc_new wp _)) iA ni icap (ints items) rfl (HLR.out.sl.new ((Below.refl _ _).alloc (Nat.le_refl _) _)) (fun u hu => by unfold ints at hu; obtain ⟨n, _, rfl⟩ := List.mem_map.1 hu; rfl) (by unfold maxLen; omega) (by omega) ?_)
          intro A9 cap9 w9 hrow9 hkeep9 hin9
          have HR9 := hid hrow9
          have HB9 : Hid (Below w.heap.size w w9) := hid ((HB2.out.alloc HB2.out.size _).trans (Keep.below hkeep9 (by have := HB2.out.size; simp; omega) fun i hi => by simp [InA] at hi; have := HB2.out.size; omega))
          have hTl : ∀ T : ByteArray, T.data.toList = [119, 105, 114, 101] ++ (lost :: items).flatMap numT → T.size ≤ 158 := fun T hT => by
            have h1 := lineT_le (w := [119, 105, 114, 101]) (l := lost :: items) (n := 7) (by decide) (by rw [List.length_cons, HNI.out]; omega) HNUM.out
            unfold lineT at h1
            rw [List.length_append] at h1
            rw [Lib.size_eq, hT]
            simp only [List.length_singleton] at h1
            exact Nat.le_of_succ_le_succ h1
          have HTL := hid hTl
          clear hrow9 hkeep9 hin9 hTl
          go_wp2_with (go_at_call 71; refine (HROW.out w9 ⟨#[119, 105, 114, 101]⟩ _ (1 + ni) _ (lost :: items) (by rw [List.length_cons, HNI.out]; omega) HR9.out.sl HNUM.out (by decide) (by omega)).mono ?_; rintro e w11 ⟨T11, rfl, hT11, hb11⟩; have hT11l := HTL.out T11 hT11; have HB11 := hid (HB9.out.trans (hb11.mono HB9.out.size)); have HT11 := hid hT11; have hcat : ¬ 9223372036854775807 < S.size + T11.size := (by omega); have hcat2 : ¬ 9223372036854775807 < (S ++ T11).size + 1 := (by rw [ByteArray.size_append]; omega); clear hT11 hb11)
          go_roundw
          case rel =>
            refine ⟨q + 1, _, by omega, rfl, by go_num, ?_, HB11.out⟩
            rw [ByteArray.data_append, ByteArray.data_append, Array.toList_append, Array.toList_append, HS.out, HT11.out, HNX.out, ← List.append_assoc]
            unfold wireLine lineT
            simp
          case measure => simp [intOf]; omega
        · obtain rfl : q = Q := by omega
          have hfin : S.data.toList = snapText k := by
            rw [HS.out, HQL.out, List.take_length, HT1.out, HT0.out]; rfl
          clear HS
          go_wp2_with fail
          exact rsave_ret rfl rfl hfin HB2.out
end Go.Proofs.YtldllmhgofacbaaGreatDoor
