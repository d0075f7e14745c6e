/- Package sight: the contract of Run, for every plan that is right. -/
import Derived.Test.YtldllmhgofacbaaGreatDoorTickU
import Derived.Test.YtldllmhgofacbaaGreatDoorKernNew
import Derived.Test.YtldllmhgofacbaaGreatDoorGetU
import Derived.Test.YtldllmhgofacbaaGreatDoorKLawU
namespace Go.Proofs.YtldllmhgofacbaaGreatDoor
open Go.RowKit
set_option maxRecDepth 100000

theorem TF_tick {kb : Nat} {M M' : KM} {S : Nat} (h2 : M'.P = M.P ∧ M'.lA = M.lA) (h4 : ∀ j, KF kb M' j → KF kb M j ∨ S ≤ j) : ∀ j, TF kb M' j → TF kb M j ∨ S ≤ j := by
  rintro j (hj | hj | hj)
  · exact (h4 j hj).imp_left .inl
  · rw [h2.2] at hj; exact .inl (.inr (.inl hj))
  · rw [h2.1] at hj; exact .inl (.inr (.inr hj))
def SightRun (w : World) (p : Pl) (r n : Nat) (e : Ending) (w' : World) : Prop :=
  ∃ A c, e = .returned (.tuple #[.slice A (n + 1) c, .nilIface]) ∧ Row w' 106 8 A (n + 1) c ((statesTo p r (n + 1)).flatMap St.cells) ∧ (∀ j, InA A j → w.heap.size ≤ j) ∧ Below w.heap.size w w'
/-- The head of a round. -/
structure SightAt (w wr : World) (kb : Nat) (p : Pl) (r n t : Nat) (M : KM) (A : Option Addr) (c : Nat) : Prop where
  row : Row wr 106 8 A t c ((statesTo p r t).flatMap St.cells)
  kat : KAt 145 215 147 wr kb M (runK p (if t ≤ n then t else n))
  plan : M.P.pl = p
  fresh : ∀ j, TF kb M j → w.heap.size ≤ j
  apart : ∀ j, InA A j → w.heap.size ≤ j ∧ ¬ TF kb M j
  below : Below w.heap.size w wr
theorem one_state (s : St) : ∀ u ∈ s.cells, u.oneCell' = true := by
  intro u hu
  simp [St.cells] at hu
  rcases hu with rfl | rfl | rfl | rfl | rfl | rfl | rfl | rfl <;> rfl
theorem sl_states {w3 : World} {o : Obj} (s : St) : Sl ((w3.alloc o).alloc (.cells #[.int .i64 s.pc, .int .i64 s.c0, .int .i64 s.c1, .int .i64 s.c2, .int .i64 s.c3, .int .i64 s.c4, .int .i64 s.c5, .bool s.failed] 106)) (some ⟨w3.heap.size + 1, 0, none⟩) 8 1 s.cells := by
  have h : ((w3.alloc o).alloc (.cells #[.int .i64 s.pc, .int .i64 s.c0, .int .i64 s.c1, .int .i64 s.c2, .int .i64 s.c3, .int .i64 s.c4, .int .i64 s.c5, .bool s.failed] 106)).heap[w3.heap.size + 1]? = some (.cells #[.int .i64 s.pc, .int .i64 s.c0, .int .i64 s.c1, .int .i64 s.c2, .int .i64 s.c3, .int .i64 s.c4, .int .i64 s.c5, .bool s.failed] 106 (0, 0)) := by
    rw [hp_alloc, if_pos (by rw [sz_alloc])]
  refine ⟨rfl, fun _ => ⟨_, 0, rfl, blk_lt h, fun j u hu => ?_⟩⟩
  rw [Nat.zero_add, blk_cell h]
  simpa [St.cells] using hu
/-- One state more. -/
theorem SightAt.more {w wr w3 w4 : World} {kb : Nat} {p : Pl} {r n t : Nat} {M : KM} {A A' : Option Addr} {c c' : Nat} {o1 o2 : Obj} (h : SightAt w wr kb p r n t M A c) (h3 : Below wr.heap.size wr w3)
    (hr : Row w4 106 8 A' (t + 1) c' ((statesTo p r t).flatMap St.cells ++ (stAtT p r t).cells)) (hk : Keep (InA A) ((w3.alloc o1).alloc o2) w4) (hn : ∀ j, InA A' j → InA A j ∨ w3.heap.size + 1 + 1 ≤ j) :
    Row w4 106 8 A' (t + 1) c' ((statesTo p r (t + 1)).flatMap St.cells) ∧ KAt 145 215 147 w4 kb M (runK p (if t ≤ n then t else n)) ∧ (∀ j, InA A' j → w.heap.size ≤ j ∧ ¬ TF kb M j) ∧ Below w.heap.size w w4 := by
  have s3 := h3.size
  have s0 := h.below.size
  have h2 : Below wr.heap.size wr ((w3.alloc o1).alloc o2) := (h3.alloc s3 _).alloc (by rw [sz_alloc]; omega) _
  have hlt := h.kat.lt
  refine ⟨?_, (h.kat.new h2).through hk fun j hj hA => (h.apart j hA).2 hj, fun j hj => ?_, ?_⟩
  · simp only [statesTo, List.flatMap_append, List.flatMap_cons, List.flatMap_nil, List.append_nil]; exact hr
  · rcases hn j hj with h5 | h5
    · exact h.apart j h5
    · exact ⟨by omega, fun hj' => by have := hlt j hj'; omega⟩
  · exact Keep.below (F := NoF) ((Keep.of_below NoF (h.below.trans (h2.mono s0))).then hk fun j hj hA => by have := (h.apart j hA).1; omega) (Nat.le_refl _) (fun j h => h.elim)

set_option maxHeartbeats 4000000 in
theorem sight_run (w : World) (m : PM) (n r : Nat) (hf : Forms w) (hm : PlanAt w m) (he : planChk m.pl = 0) (hn : n ≤ 2000) (hr : r < m.ros.length) :
    Calls Tryz.prog 59 #[.agg #[.slice m.A m.ros.length m.c, .int .i64 m.ticks, .slice m.sA m.spans.length m.sc, .slice m.wA m.wires.length m.wc], .int .i64 n, .int .i64 r] w (SightRun w m.pl r n) := by
  have hp := planChk_ok he
  have hnr : m.ros.length ≤ 5 := by have := hp.most5; simpa [PM.pl] using this
  have HNEW : Hid (∀ w', Below w.heap.size w w' → Calls Tryz.prog 20 #[.agg #[.slice m.A m.ros.length m.c, .int .i64 m.ticks, .slice m.sA m.spans.length m.sc, .slice m.wA m.wires.length m.wc]] w' (KMade w' m)) := fun w' hb => kern_new_ok w' m (hf.new hb) (hm.new hb) he
  have HRN : Hid (∀ t, (runK m.pl t).rooms.length = m.ros.length) := fun t => by rw [(runK_ok hp t).rooms]; simp [PM.pl]
  unfold KMade at HNEW
  generalize m.pl = p at HNEW HRN he hp ⊢
  generalize hnn : m.ros.length = nn at HNEW HRN hr hnr ⊢
  generalize m.spans.length = ns at HNEW ⊢
  generalize m.wires.length = nw at HNEW ⊢
  obtain ⟨A0, c0, _, tk, sA0, sc0, _, wA0, wc0, _⟩ := m
  simp only [] at HNEW ⊢
  have HP := hid hp
  have hrn' : (r : Int) < (nn : Int) := by omega
  have HKOK : Hid (∀ t, KOk p (runK p t) t) := fun t => runK_ok hp t
  clear hnn hf hm he hp
  obtain ⟨i0, hi, hz0, hz1, hz2⟩ := info_parts Tryz.infoSt
  have d1 : decide ((r : Int) < 0) = false := decide_eq_false (by omega)
  have d2 : decide (nn ≤ r) = false := decide_eq_false (by omega)
  have d3 : decide ((n : Int) < 0) = false := decide_eq_false (by omega)
  have d4 : decide (2000 < (n : Int)) = false := decide_eq_false (by omega)
  go_enter Tryz.func59, Tryz.ntmps59
  go_wp2_with (go_at_call 20; refine (HNEW.out _ ((Below.refl _ _).alloc (Nat.le_refl _) _)).mono ?_; rintro e w1 ⟨kb, M, rfl, hka, hpl, htf, hb1⟩; have p0 := (hb1.cell (p := ⟨w.heap.size, 0, none⟩) (by simp)).trans (blk_cell (heap_alloc_new w _) 0); simp at p0; have hltp := cell_lt p0; have HKA := hid hka; have HPL := hid hpl; have HTF := hid htf; have HBW := hid (((Below.refl w.heap.size w).alloc (Nat.le_refl _) _).trans (hb1.mono (by simp))); clear hka hpl htf hb1)
  clear p0 hltp
  go_loopw [42, 11, 10, 12, 13] (fun v42 v11 v10 v12 v13 wr => ∃ (t : Nat) (M : KM) (A : Option Addr) (c : Nat), t ≤ n + 1 ∧ v42 = .int .i64 t ∧ v10 = .slice A t c ∧ SightAt w wr kb p r n t M A c) (fun v42 _ _ _ _ _ => n + 1 - (intOf v42).toNat)
  case atStart => exact ⟨0, M, none, 0, by omega, rfl, rfl, ⟨Row.nil _ _ _, by rw [if_pos (by omega)]; exact HKA.out, HPL.out, fun j hj => by have := HTF.out j hj; simp at this; omega, fun j hj => by simp [InA] at hj, HBW.out⟩⟩
  case round =>
    obtain ⟨t, M, A, c, ht, rfl, rfl, hat⟩ := hrel
    have HAT := hid hat
    clear hat
    by_cases htn : t < n + 1
    · have hkt := HAT.out.kat
      rw [if_pos (show t ≤ n by omega)] at hkt
      have hst : stateOf (runK p t) r = (stAtT p r t, 0) := by
        unfold stateOf
        rw [HRN.out, if_pos (by unfold inB; exact decide_eq_true (by omega)), Int.toNat_natCast]; rfl
      have HSC : Hid (Calls Tryz.prog 58 #[.pointer (some ⟨kb, 0, none⟩), .int .i64 r] wr (StateV wr (stAtT p r t, 0))) := by
        have := kstate_any (r : Int) (by rw [HRN.out]; exact hnr) hkt
        rw [hst] at this; exact this
      unfold StateV at HSC
      obtain ⟨s, hs⟩ : ∃ s, s = stAtT p r t := ⟨_, rfl⟩
      rw [← hs] at HSC
      have HS := hid hs
      clear hkt hst hs
      obtain ⟨pc, c0', c1, c2, c3, c4, c5, f⟩ := s
      unfold stV at HSC
      simp only [errV_zero] at HSC
      go_wp2_with (first | (go_at_call 58; refine (HSC.out).mono ?_; rintro e w3 ⟨rfl, hb3⟩; have HB3 := hid hb3; clear hb3) | (at_builtin; refine wpList_append_row _ rfl _ _ 95 rfl 106 i0 _ 8 64 Tryz.underlying95 hi hz0 hz1 hz2 rfl (by decide) A t c ((statesTo p r t).flatMap St.cells) rfl ?c0 (some ⟨w3.heap.size + 1, 0, none⟩) 1 1 (St.cells ⟨pc, c0', c1, c2, c3, c4, c5, f⟩) rfl ?c1 ?c2 ?c3 ?c4 ?_))
      case c0 => exact HAT.out.row.keep fun j _ hl => by rw [blk_alloc (by rw [sz_alloc]; have := HB3.out.size; omega), blk_alloc (by have := HB3.out.size; omega)]; exact HB3.out.block j hl
      case c1 => exact sl_states _
      case c2 => exact one_state _
      case c3 => unfold maxLen; omega
      case c4 => omega
      intro A' cap' w4 hrow4 hkeep4 hin4
      have hs := HS.out
      rw [hs] at hrow4
      obtain ⟨m1, m2, m3, m4⟩ := HAT.out.more HB3.out hrow4 hkeep4 hin4
      rw [if_pos (show t ≤ n by omega)] at m2
      have M1 := hid m1
      have M2 := hid m2
      have M3 := hid m3
      have M4 := hid m4
      clear hrow4 hkeep4 hin4 m1 m2 m3 m4 hs
      by_cases hlt : t < n
      · have HTK : Hid (Calls Tryz.prog 23 #[.pointer (some ⟨kb, 0, none⟩)] w4 (KTicked 145 215 147 w4 kb M (tick p (runK p t)))) :=
          ktick_any w4 kb M (runK p t) p t HP.out HAT.out.plan (HKOK.out t) (by omega) M2.out
        obtain ⟨q, hq⟩ : ∃ q, q = tick p (runK p t) := ⟨_, rfl⟩
        have hq2 : q.2 = runK p (t + 1) := by rw [hq]; rfl
        rw [← hq] at HTK
        have HQ := hid hq2
        clear hq hq2
        go_wp2_with (go_at_call 23; refine (HTK.out).mono ?_; rintro e w5 ⟨M', rfl, h1, h2, h3, h4⟩; have HH1 := hid h1; have HH2 := hid h2; have HH3 := hid h3; have HH4 := hid h4; clear h1 h2 h3 h4)
        go_roundw
        case rel =>
          have hT := TF_tick HH2.out HH4.out
          have hrl := M1.out.lt
          have hk1 := HH1.out
          rw [HQ.out] at hk1
          exact ⟨t + 1, M', A', cap', by omega, by go_num, rfl, ⟨M1.out.through HH3.out fun j hj hk => (M3.out j hj).2 (.inl hk), by rw [if_pos (show t + 1 ≤ n by omega)]; exact hk1, by rw [HH2.out.1]; exact HAT.out.plan, fun j hj => (hT j hj).elim (fun h => HAT.out.fresh j h) (fun h => Nat.le_trans M4.out.size h), fun j hj => ⟨(M3.out j hj).1, fun h => (hT j h).elim (M3.out j hj).2 (fun h5 => by have := hrl j hj; omega)⟩,
            Keep.below (F := NoF) ((Keep.of_below NoF M4.out).then HH3.out fun j hj hk => by have := HAT.out.fresh j (.inl hk); omega) (Nat.le_refl _) (fun j h => h.elim)⟩⟩
        case measure => simp [intOf]; omega
      · obtain rfl : t = n := by omega
        go_wp2_with fail
        go_roundw
        case rel =>
          exact ⟨t + 1, M, A', cap', by omega, by go_num, rfl, ⟨M1.out, by rw [if_neg (by omega)]; exact M2.out, HAT.out.plan, HAT.out.fresh, M3.out, M4.out⟩⟩
        case measure => simp [intOf]
    · obtain rfl : t = n + 1 := by omega
      go_wp2_with fail
      go_ret2
      exact ⟨A, c, rfl, HAT.out.row, fun j hj => (HAT.out.apart j hj).1, HAT.out.below⟩
end Go.Proofs.YtldllmhgofacbaaGreatDoor
