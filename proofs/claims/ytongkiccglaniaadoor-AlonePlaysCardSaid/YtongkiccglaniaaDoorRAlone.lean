/- The reference's room on a machine of its own: the contract of Step. -/
import Derived.Test.YtongkiccglaniaaDoorRAloneMem
import Derived.Test.YtongkiccglaniaaDoorAmid
import Derived.Test.YtongkiccglaniaaDoorRDoW
import Derived.Deep.DeepCutAuto
import Derived.Deep.DrawnRows
import Derived.StillTailTactics
namespace Go.Proofs.YtongkiccglaniaaDoor
open Go.RowKit
set_option maxRecDepth 100000
attribute [local go_sem ↓] Go.wp_at_zero Go.wp_at_succ

/-- What came of a step, as the reference says it. -/
def rEv (r : Int) (a : Ast) (o : Op) (is : Bool) : Ev := ⟨a.turns, r, a.st.pc, stepWhat o a.st is⟩
section
variable {w w' w3 : World} {ab c : Nat} {A : Option Addr} {l : List Op} {r : Int} {a a' : Ast}
theorem RAloneAt.cells (h : RAloneAt w ab A c l r a) : w.cell? ⟨ab, 0, none⟩ = some (.slice A l.length c) ∧ w.cell? ⟨ab, 1, none⟩ = some (.int .i64 r) ∧ w.cell? ⟨ab, 2, none⟩ = some (.int .i64 a.st.pc) ∧ w.cell? ⟨ab, 3, none⟩ = some (.int .i64 a.st.c0) ∧ w.cell? ⟨ab, 4, none⟩ = some (.int .i64 a.st.c1) ∧ w.cell? ⟨ab, 5, none⟩ = some (.int .i64 a.st.c2) ∧ w.cell? ⟨ab, 6, none⟩ = some (.int .i64 a.st.c3) ∧
    w.cell? ⟨ab, 7, none⟩ = some (.int .i64 a.st.c4) ∧ w.cell? ⟨ab, 8, none⟩ = some (.int .i64 a.st.c5) ∧ w.cell? ⟨ab, 9, none⟩ = some (.bool a.st.failed) ∧ w.cell? ⟨ab, 10, none⟩ = some (.int .i64 a.turns) ∧ (∀ j, w.frozen? ⟨ab, j, none⟩ = false) ∧ ab < w.heap.size :=
  ⟨blk_cell h.blk 0, blk_cell h.blk 1, blk_cell h.blk 2, blk_cell h.blk 3, blk_cell h.blk 4, blk_cell h.blk 5, blk_cell h.blk 6, blk_cell h.blk 7, blk_cell h.blk 8, blk_cell h.blk 9, blk_cell h.blk 10, fun j => blk_free h.blk j, blk_lt h.blk⟩
theorem rput2_heap {w : World} {b T : Nat} {A : Value} {R tn : Value} {v1 v2 v3 v4 v5 v6 v7 v8 : Value} (h : w.heap[b]? = some (.cells #[A, R, v1, v2, v3, v4, v5, v6, v7, v8, tn] T (0, 0))) (t : St) :
    (putAt w b 2 t).heap[b]? = some (.cells #[A, R, .int .i64 t.pc, .int .i64 t.c0, .int .i64 t.c1, .int .i64 t.c2, .int .i64 t.c3, .int .i64 t.c4, .int .i64 t.c5, .bool t.failed, tn] T (0, 0)) := by
  unfold putAt
  simp [hp_set, h, setObj]
/-- Its state is written; its turns. -/
theorem RAloneAt.state (h : RAloneAt w ab A c l r a) (t : St) : Went w (putAt w ab 2 t) (raloneT ab A c l r a) (raloneT ab A c l r ⟨t, a.turns⟩) :=
  h.put (putAt_keep w ab 2 t) (rput2_heap h.blk t)
theorem RAloneAt.turn (h : RAloneAt w ab A c l r a) (n : Int) : Went w (w.setCell ⟨ab, 10, none⟩ (.int .i64 n)) (raloneT ab A c l r a) (raloneT ab A c l r ⟨a.st, n⟩) :=
  h.put ((Keep.refl (fun j => j = ab) w).setCell (.inl rfl) _) (by rw [hp_set, if_pos rfl, h.blk]; rfl)

set_option maxHeartbeats 4000000 in
theorem ralone_step (h : RAloneAt w ab A c l r a) {B : Int} (hok : AOk l a B) (hB : B < 4611686018427387904) {o : Op} (ho : l[a.st.pc.toNat]? = some o) (got : Int) (is : Bool) :
    Calls Tryd.prog 24 #[.pointer (some ⟨ab, 0, none⟩), .int .i64 got, .bool is] w fun e w' =>
      e = .returned (.tuple #[.agg #[.int .i64 (rEv r a o is).tick, .int .i64 (rEv r a o is).room, .int .i64 (rEv r a o is).pc, .int .i64 (rEv r a o is).what], .int .i64 (stepDo l.length o a.st got is).2]) ∧ Went w w' (raloneT ab A c l r a) (raloneT ab A c l r (aGo l.length a o got is)) := by
  have hpn := (List.getElem?_eq_some_iff.1 ho).1
  have hpc := (stOk_iff.1 hok.st).1
  have hop := (codeChk_ok hok.code).2.2 o (List.mem_of_getElem? ho)
  obtain ⟨pk, hpk⟩ : ∃ pk : Nat, a.st.pc = pk := ⟨a.st.pc.toNat, by omega⟩
  rw [hpk, Int.toNat_natCast] at ho hpn
  have HSTEP : Hid (∀ w', Below w.heap.size w w' → Calls Tryd.prog 71 #[.slice A l.length c, .agg #[.int .i64 a.st.pc, .int .i64 a.st.c0, .int .i64 a.st.c1, .int .i64 a.st.c2, .int .i64 a.st.c3, .int .i64 a.st.c4, .int .i64 a.st.c5, .bool a.st.failed], .int .i64 got, .bool is] w' (RDoneV w' (stepDo l.length o a.st got is).1 (stepDo l.length o a.st got is).2 (stepWhat o a.st is))) := fun w' hb => by
    have hx := h.new hb
    obtain ⟨ob, off, hA, hob, g0, g1, g2⟩ := hx.code.op (Below.refl _ _) hpn hpn
    have hget : l[pk] = o := Option.some.inj ((List.getElem?_eq_getElem hpn).symm.trans ho)
    rw [hget] at g0 g1 g2
    have hcap := hx.cap
    rw [hA]
    refine rstep_any ob off l.length c pk a.st o got is w' hpk hok.st hop ?_
    exact ⟨hpn, (codeChk_ok hok.code).2.1, g0, g1, g2⟩
  have HA0 := hid ((Amid.start h.lie).box (evV 0 0 0 0) 34)
  have HAT : Hid (∀ w', Below w.heap.size w w' → RAloneAt w' ab A c l r a) := fun w' hb => h.new hb
  have ht0 := hok.t0
  have htB := hok.tB
  obtain ⟨t, ht⟩ : ∃ t, t = (stepDo l.length o a.st got is).1 := ⟨_, rfl⟩
  obtain ⟨out, hout⟩ : ∃ out, out = (stepDo l.length o a.st got is).2 := ⟨_, rfl⟩
  have hago : aGo l.length a o got is = ⟨t, a.turns + 1⟩ := by rw [ht]; rfl
  rw [← ht, ← hout] at HSTEP
  rw [← hout, hago]
  unfold rEv
  generalize stepWhat o a.st is = wh at HSTEP ⊢
  unfold RDoneV at HSTEP
  obtain ⟨n, hn⟩ : ∃ n, n = l.length := ⟨_, rfl⟩
  rw [← hn] at HSTEP
  have HN := hid hn
  obtain ⟨wa, hwa⟩ : ∃ wa, wa = w.alloc (.cells (evV 0 0 0 0) 34) := ⟨_, rfl⟩
  rw [← hwa] at HA0
  unfold evV at hwa
  have hx := HA0.out.here.cells
  rw [← hn] at hx
  obtain ⟨x0, x1, x2, x3, x4, x5, x6, x7, x8, x9, x10, xf, hlt⟩ := hx
  obtain ⟨⟨pc, c0, c1, c2, c3, c4, c5, f⟩, tn⟩ := a
  simp only [] at HSTEP HAT ht0 htB HA0 x2 x3 x4 x5 x6 x7 x8 x9 x10 ⊢
  have HWA : Hid (Below w.heap.size w wa) := by rw [hwa]; exact (Below.refl _ _).alloc (Nat.le_refl _) _
  clear h hok ho hop hpn hpc hpk ht hout hago hn
  go_enter Tryd.func24, Tryd.ntmps24
  go_upto_region 1 with fail
  rw [← hwa]
  clear hwa
  go_cut [8] (fun v8 wx => ∃ b8, v8 = .pointer (some ⟨b8, 0, none⟩) ∧ Below wa.heap.size wa wx ∧ Amid w wx (raloneT ab A c l r ⟨⟨pc, c0, c1, c2, c3, c4, c5, f⟩, tn⟩) (raloneT ab A c l r ⟨⟨pc, c0, c1, c2, c3, c4, c5, f⟩, tn⟩) [blkT w.heap.size (.cells (evV 0 0 0 0) 34 (0, 0)), blkT b8 (.cells (evV tn r pc 0) 34 (0, 0))])
  case first =>
    as_aux_lemma =>
    go_region
    go_wp2_with fail
    go_meet
    exact ⟨wa.heap.size, rfl, ((Below.refl _ _).alloc (Nat.le_refl _) _).drew, (HA0.out.box (evV tn r pc 0) 34).drew⟩
  obtain ⟨b8, rfl, hb8, ham⟩ := hcut
  obtain ⟨wb, rfl⟩ : ∃ w' : World, w' = wc := ⟨_, rfl⟩
  have HAM := hid ham
  have HWB := hid (HWA.out.trans (hb8.mono HWA.out.size))
  have HS2 : Hid (∀ w', Below wb.heap.size wb w' → (w'.cell? ⟨ab, 0, none⟩ = some (.slice A n c) ∧ w'.cell? ⟨ab, 2, none⟩ = some (.int .i64 pc) ∧ w'.cell? ⟨ab, 3, none⟩ = some (.int .i64 c0) ∧ w'.cell? ⟨ab, 4, none⟩ = some (.int .i64 c1) ∧ w'.cell? ⟨ab, 5, none⟩ = some (.int .i64 c2) ∧ w'.cell? ⟨ab, 6, none⟩ = some (.int .i64 c3) ∧ w'.cell? ⟨ab, 7, none⟩ = some (.int .i64 c4) ∧ w'.cell? ⟨ab, 8, none⟩ = some (.int .i64 c5) ∧ w'.cell? ⟨ab, 9, none⟩ = some (.bool f))) := fun w' hb => by
    have hx := (HAM.out.new hb).here.cells
    rw [← HN.out] at hx
    obtain ⟨x0, _, x2, x3, x4, x5, x6, x7, x8, x9, _, _, _⟩ := hx
    exact ⟨x0, x2, x3, x4, x5, x6, x7, x8, x9⟩
  clear hb8 ham x0 x1 x2 x3 x4 x5 x6 x7 x8 x9 x10 xf hlt HA0 HWA
  go_upto_region 2 with fail
  go_cut [9, 10, 11] (fun v9 v10 v11 wx => ∃ b9, v9 = .pointer (some ⟨b9, 0, none⟩) ∧ v10 = .int .i64 out ∧ v11 = .int .i64 wh ∧ Amid w wx (raloneT ab A c l r ⟨⟨pc, c0, c1, c2, c3, c4, c5, f⟩, tn⟩) (raloneT ab A c l r ⟨⟨pc, c0, c1, c2, c3, c4, c5, f⟩, tn⟩) [blkT w.heap.size (.cells (evV 0 0 0 0) 34 (0, 0)), blkT b8 (.cells (evV tn r pc 0) 34 (0, 0)), blkT b9 (.cells (stV t) 40 (0, 0))])
  case first =>
    clear HN HAT ht0 htB hB
    obtain ⟨x0, x2, x3, x4, x5, x6, x7, x8, x9⟩ := HS2.out _ (Below.refl _ _)
    have hlt : ab < wb.heap.size := cell_lt x0
    go_region_held3 (fun w' => w'.cell? ⟨ab, 0, none⟩ = some (.slice A n c) ∧ w'.cell? ⟨ab, 2, none⟩ = some (.int .i64 pc) ∧ w'.cell? ⟨ab, 3, none⟩ = some (.int .i64 c0) ∧ w'.cell? ⟨ab, 4, none⟩ = some (.int .i64 c1) ∧ w'.cell? ⟨ab, 5, none⟩ = some (.int .i64 c2) ∧ w'.cell? ⟨ab, 6, none⟩ = some (.int .i64 c3) ∧ w'.cell? ⟨ab, 7, none⟩ = some (.int .i64 c4) ∧ w'.cell? ⟨ab, 8, none⟩ = some (.int .i64 c5) ∧ w'.cell? ⟨ab, 9, none⟩ = some (.bool f))
      ((refine HS2.out _ ?_; (repeat (with_reducible first | exact HB2.out | exact Below.refl _ _ | refine Below.drew ?_ | refine Below.alloc ?_ (Nat.le_refl _) _ | refine Below.alloc ?_ HB2.out.size _ | exact below_put0 HB2.out (Nat.le_refl _) _ _ _ _ _ _ _ _))))
      (first | (go_at_call 71; refine (HSTEP.out _ HWB.out.drew).mono ?_; rintro e w2' ⟨rfl, hb2⟩; unfold stV; have HB2 := hid ((Below.refl wb.heap.size wb).drew.trans hb2); clear hb2) | (go_at_call 71; refine (HSTEP.out _ (HWB.out.alloc HWB.out.size _).drew).mono ?_; rintro e w2' ⟨rfl, hb2⟩; unfold stV; have HB2 := hid (((Below.refl wb.heap.size wb).alloc (Nat.le_refl _) _).drew.trans (hb2.mono (by simp))); have HMD := hid ((HAM.out.box (stV St.zero) 40).drew.new hb2); have hz : w2'.heap[wb.heap.size]? = some (.cells (stV St.zero) 40 (0, 0)) := (hb2.block wb.heap.size (by simp)).trans (heap_alloc_new wb _); have q0 := blk_cell hz 0; have q1 := blk_cell hz 1; have q2 := blk_cell hz 2; have q3 := blk_cell hz 3; have q4 := blk_cell hz 4; have q5 := blk_cell hz 5; have q6 := blk_cell hz 6; have q7 := blk_cell hz 7; have qf := fun j => blk_free hz j; have HZ := hid hz; unfold stV at q0 q1 q2 q3 q4 q5 q6 q7; simp at q0 q1 q2 q3 q4 q5 q6 q7; clear hz hb2))
    all_goals
      go_wp2_with fail
      go_meet
    · exact ⟨_, rfl, rfl, rfl, (HAM.out.new HB2.out).box (stV t) 40⟩
    · exact ⟨_, rfl, rfl, rfl, HMD.out.write 2 rfl (put8_keep (F := fun j => j = wb.heap.size) (Keep.refl _ w2') (.inl rfl) t) (put8_heap HZ.out)⟩
  obtain ⟨b9, rfl, rfl, rfl, ham⟩ := hcut
  obtain ⟨wd, rfl⟩ : ∃ w' : World, w' = wc := ⟨_, rfl⟩
  have hob := ham.here.blk
  have hb9 := ham.get 2 rfl
  have t0 := blk_cell hb9 0
  have t1 := blk_cell hb9 1
  have t2 := blk_cell hb9 2
  have t3 := blk_cell hb9 3
  have t4 := blk_cell hb9 4
  have t5 := blk_cell hb9 5
  have t6 := blk_cell hb9 6
  have t7 := blk_cell hb9 7
  unfold stV at t0 t1 t2 t3 t4 t5 t6 t7
  unfold raloneObj at hob
  have k2 := blk_cell hob 2
  have k3 := blk_cell hob 3
  have k4 := blk_cell hob 4
  have k5 := blk_cell hob 5
  have k6 := blk_cell hob 6
  have k7 := blk_cell hob 7
  have k8 := blk_cell hob 8
  have k9 := blk_cell hob 9
  have kf := fun j => blk_free hob j
  have hl9 := blk_lt hb9
  have hlo := blk_lt hob
  simp at t0 t1 t2 t3 t4 t5 t6 t7 k2 k3 k4 k5 k6 k7 k8 k9
  have HM2 := hid (ham.go (ham.here.state t))
  clear hob hb9 ham HS2 HWB HAM HSTEP
  go_upto_region 4 with fail
  obtain ⟨we, hwe⟩ : ∃ we, we = putAt wd ab 2 t := ⟨_, rfl⟩
  have hm2 := HM2.out
  rw [← hwe] at hm2
  unfold putAt at hwe
  simp only [Nat.reduceAdd] at hwe
  rw [← hwe]
  clear hwe HM2 t0 t1 t2 t3 t4 t5 t6 t7 k2 k3 k4 k5 k6 k7 k8 k9 kf hl9 hlo
  have hob := hm2.here.blk
  unfold raloneObj at hob
  have k10 := blk_cell hob 10
  have kf := fun j => blk_free hob j
  have hlo := blk_lt hob
  simp at k10
  have hw1 : IntKind.i64.wrap (tn + 1) = tn + 1 := IntWalk.i64_in _ (by omega)
  have HM3 := hid (hm2.go (hm2.here.turn (tn + 1)))
  clear hob hm2
  go_upto_region 5 with fail
  obtain ⟨wf, hwf⟩ : ∃ wf, wf = we.setCell ⟨ab, 10, none⟩ (.int .i64 (tn + 1)) := ⟨_, rfl⟩
  have hm3 := HM3.out
  rw [← hwf] at hm3 ⊢
  clear hwf HM3 k10 kf hlo
  have hb8 := hm3.get 1 rfl
  have z3 := blk_cell hb8 3
  have zf := fun j => blk_free hb8 j
  have hl8 := blk_lt hb8
  simp [evV] at z3
  have hset : (wf.setCell ⟨b8, 3, none⟩ (.int .i64 wh)).heap[b8]? = some (.cells (evV tn r pc wh) 34 (0, 0)) := (blk_set hb8 3 _).trans rfl
  have HM4 := hid (hm3.write 1 rfl ((Keep.refl (fun j => j = b8) wf).setCell (.inl rfl) _) hset)
  clear hset hb8 hm3
  go_upto_region 6 with fail
  obtain ⟨wg, hwg⟩ : ∃ wg, wg = wf.setCell ⟨b8, 3, none⟩ (.int .i64 wh) := ⟨_, rfl⟩
  have hm4 := HM4.out
  rw [← hwg] at hm4 ⊢
  clear hwg HM4 z3 zf hl8
  have hb8 := hm4.get 1 rfl
  have hres := hm4.get 0 rfl
  have x0 := blk_cell hb8 0
  have x1 := blk_cell hb8 1
  have x2 := blk_cell hb8 2
  have x3 := blk_cell hb8 3
  have y0 := blk_cell hres 0
  have y1 := blk_cell hres 1
  have y2 := blk_cell hres 2
  have y3 := blk_cell hres 3
  have yf := fun j => blk_free hres j
  have hl8 := blk_lt hb8
  have hlr := blk_lt hres
  simp [evV] at x0 x1 x2 x3 y0 y1 y2 y3
  have hblk := put4_heap hres (.int .i64 tn) (.int .i64 r) (.int .i64 pc) (.int .i64 wh)
  have HRT := hid ((hm4.write 0 rfl (put4_keep _ _ _ _ _ _) hblk).went)
  have HBK := hid hblk
  clear hres hblk hb8 hm4
  go_wp2_with fail
  obtain ⟨wz, hwz⟩ : ∃ wz, wz = put4 wg w.heap.size (.int .i64 tn) (.int .i64 r) (.int .i64 pc) (.int .i64 wh) := ⟨_, rfl⟩
  have hret := HRT.out
  have hblk := HBK.out
  rw [← hwz] at hret
  unfold put4 at hwz
  rw [← hwz] at hblk ⊢
  have z0 := blk_cell hblk 0
  have z1 := blk_cell hblk 1
  have z2 := blk_cell hblk 2
  have z3 := blk_cell hblk 3
  simp at z0 z1 z2 z3
  exact bodyPost_ret (v := .tuple #[.agg #[.int .i64 tn, .int .i64 r, .int .i64 pc, .int .i64 wh], .int .i64 out]) (by simp [results, Tryd.results24, go_sem, z0, z1, z2, z3]) rfl ⟨rfl, hret⟩
end
end Go.Proofs.YtongkiccglaniaaDoor
