/- Package spread: the contract of Tick: it is a tick of the kernel of the same plan. -/
import Derived.Test.YtongkiccglaniaaDoorSpreadW
namespace Go.Proofs.YtongkiccglaniaaDoor
open Go.RowKit
set_option maxRecDepth 100000
attribute [local go_sem ↓] Go.wp_at_zero Go.wp_at_succ

theorem sp_time {w w3 : World} {sb : Nat} {S : SM} {time t2 : Int} (h : Beside w (spL sb S time)) (hk : Keep (fun j => j = sb) w w3) (hx : w3.heap[sb]? = some (spreadObj S t2)) : Went w w3 (spT sb S time) (spT sb S t2) := by
  have hw := h.went (i := 0) rfl (blk_went (h.get (i := 0) rfl) hk hx)
  exact hw
theorem SpFacts.time {p : Pl} {S : SM} {k : Kst} {tB : Int} (h : SpFacts p S k tB) (t : Int) : SpFacts p S ⟨k.rooms, k.lines, t⟩ tB := ⟨h.pl, h.codes, h.rooms, h.lines, h.idx, h.turns⟩
theorem SpFacts.more {p : Pl} {S : SM} {k : Kst} {tB tC : Int} (h : SpFacts p S k tB) (hC : tB ≤ tC) : SpFacts p S k tC := ⟨h.pl, h.codes, h.rooms, h.lines, h.idx, fun x hx => by have := h.turns x hx; omega⟩
/-- What a tick leaves. -/
def STicked (w : World) (sb : Nat) (p : Pl) (S : SM) (k : Kst) (q : Ev × Kst) (e : Ending) (w' : World) : Prop :=
  ∃ S', e = .returned (.agg #[.int .i64 q.1.tick, .int .i64 q.1.room, .int .i64 q.1.pc, .int .i64 q.1.what]) ∧ Went w w' (spreadT sb p S k) (spreadT sb p S' q.2)
theorem went_spread {w w' : World} {sb : Nat} {p : Pl} {S S' : SM} {k k' : Kst} (hg : Went w w' (spT sb S k.time) (spT sb S' k'.time)) (hf : SpFacts p S' k' k'.time) : Went w w' (spreadT sb p S k) (spreadT sb p S' k') :=
  ⟨SpreadAt.lie ⟨hg.lie.here, hf⟩, hg.keep, hg.inF, hg.inW⟩

set_option maxHeartbeats 4000000 in
theorem stick_any {w0 w : World} {sb : Nat} {p : Pl} {S : SM} {k : Kst} {B : Int} (hf : Forms w0) (hw0 : Below w0.heap.size w0 w) (hfr : ∀ j, (spreadT sb p S k).W j → w0.heap.size ≤ j) (h : SpreadAt w sb p S k) (hp : PlOk p) (hk : KOk p k B) (hB : B < 4611686018427387904) :
    Calls Tryd.prog 26 #[.pointer (some ⟨sb, 0, none⟩)] w (STicked w sb p S k (tick p k)) := by
  have hF := h.facts
  have htk := frameChk_ticks hp.frame
  have ht0 := hk.time0
  have htB := hk.timeB
  have hSp : S.P.spans = p.spans := by rw [← hF.pl]; rfl
  have hSt : S.P.ticks = p.ticks := by rw [← hF.pl]; rfl
  have HTURN : Hid (∀ w', Beside w' (spL sb S k.time) → Calls Tryd.prog 73 #[.int .i64 S.P.ticks, .slice S.P.sA S.P.spans.length S.P.sc, .int .i64 k.time] w' fun e w'' => e = .returned (.int .i64 (turnAt p.spans (k.time % p.ticks))) ∧ Below w'.heap.size w' w'') := fun w' hb => by
    have hpl := sp_plan hb
    have h1 := turn_any S.P.ticks k.time S.P.sA S.P.sc S.P.spans w' hpl.spans hpl.spansW (by rw [hSt]; exact htk.1) (by rw [hSt]; exact htk.2.1) ht0 (by omega)
    rw [hSp, hSt] at h1
    rw [hSp, hSt]
    exact h1
  have hmeets := tick_meets hp hk (spans_in hp)
  have HSTEP : Hid (∀ (r : Nat) (ops : List Op) (s : St) (o : Op) (w' : World) (bs : List Tg), p.code[r]? = some ops → k.rooms[r]? = some s → ops[s.pc.toNat]? = some o → Amid w w' (spT sb S k.time) (spT sb S k.time) bs → Calls Tryd.prog 74 #[.pointer (some ⟨sb, 0, none⟩), .int .i64 r] w' (SDid w' sb p k S r s.pc (kDo ops.length r o s k))) := fun r ops s o w' bs h1 h2 h3 hm =>
    sstep_any hf (Keep.below (F := NoF) ((Keep.of_below NoF hw0).then hm.went.keep fun j hj hW => by have := hfr j hW; omega) (Nat.le_refl _) (fun _ h => h.elim)) hfr ⟨hm.here, hF⟩ hp hk hB h1 h2 h3
  have HN : Hid (turnAt p.spans (k.time % p.ticks) = -1 → tick p k = (⟨k.time, -1, 0, 0⟩, ⟨k.rooms, k.lines, k.time + 1⟩)) := fun h => tick_none h
  have HR : Hid (∀ (r : Nat) (ops : List Op) (s : St) (o : Op), turnAt p.spans (k.time % p.ticks) = r → p.code[r]? = some ops → k.rooms[r]? = some s → ops[s.pc.toNat]? = some o →
      tick p k = (⟨k.time, r, s.pc, (kDo ops.length r o s k).1⟩, ⟨(kDo ops.length r o s k).2.rooms, (kDo ops.length r o s k).2.lines, k.time + 1⟩)) := fun r ops s o h1 h2 h3 h4 => tick_room h1 h2 h3 h4
  obtain ⟨Q, hQ⟩ : ∃ Q, Q = STicked w sb p S k (tick p k) := ⟨_, rfl⟩
  rw [← hQ]
  have HQ := hid hQ
  obtain ⟨T, hT⟩ : ∃ T, T = turnAt p.spans (k.time % p.ticks) := ⟨_, rfl⟩
  rw [← hT] at HTURN hmeets
  have HTE := hid hT
  have HME := hid hmeets
  have HFA := hid hF
  have HMD := hid ((Amid.start h.all.lie).box #[.int .i64 0, .int .i64 0, .int .i64 0, .int .i64 0] 34)
  obtain ⟨tm, htm⟩ : ∃ tm, tm = k.time := ⟨_, rfl⟩
  obtain ⟨ns, hns⟩ : ∃ ns, ns = S.P.spans.length := ⟨_, rfl⟩
  obtain ⟨tks, htks⟩ : ∃ tks, tks = S.P.ticks := ⟨_, rfl⟩
  have HSP : Hid (∀ w', Beside w' (spL sb S tm) → w'.cell? ⟨sb, 1, none⟩ = some (.int .i64 tks) ∧ w'.cell? ⟨sb, 2, none⟩ = some (.slice S.P.sA ns S.P.sc) ∧ w'.cell? ⟨sb, 6, none⟩ = some (.int .i64 tm)) := fun w' hb => by
    obtain ⟨_, k1, k2, _, _, _, k6, _, _⟩ := sp_cells hb
    rw [htks, hns]
    exact ⟨k1, k2, k6⟩
  rw [← htm, ← hns, ← htks] at HTURN
  rw [← htm] at HMD HSTEP ht0 htB
  have HTM := hid htm
  clear h hF htk hSp hSt hmeets hQ hT htm hns htks hp hk hf hw0 hfr
  go_enter Tryd.func26, Tryd.ntmps26
  go_upto_region 1 with fail
  obtain ⟨wa, hwa⟩ : ∃ wa, wa = w.alloc (.cells #[.int .i64 0, .int .i64 0, .int .i64 0, .int .i64 0] 34) := ⟨_, rfl⟩
  rw [← hwa] at HMD ⊢
  clear hwa
  have HS : Hid (∀ w', Below wa.heap.size wa w' → w'.cell? ⟨sb, 1, none⟩ = some (.int .i64 tks) ∧ w'.cell? ⟨sb, 2, none⟩ = some (.slice S.P.sA ns S.P.sc) ∧ w'.cell? ⟨sb, 6, none⟩ = some (.int .i64 tm)) := fun w' hb => HSP.out _ (HMD.out.new hb).here
  have hsbl := (sp_cells (show Beside wa (spL sb S tm) from HMD.out.here)).2.2.2.2.2.2.2.2
  go_cut [3] (fun v3 wx => ∃ b3, v3 = .pointer (some ⟨b3, 0, none⟩) ∧ Amid w wx (spT sb S tm) (spT sb S tm) [blkT w.heap.size (evObj 0 0 0 0), blkT b3 (evObj 0 T 0 0)])
  case first =>
    have HTA : Hid (∀ w', Below wa.heap.size wa w' → Calls Tryd.prog 73 #[.int .i64 tks, .slice S.P.sA ns S.P.sc, .int .i64 tm] w' fun e w'' => e = .returned (.int .i64 T) ∧ Below w'.heap.size w' w'') := fun w' hb => HTURN.out _ (HMD.out.new hb).here
    clear HTURN HSTEP HN HR HME HQ
    go_region_held3 (fun w' => w'.cell? ⟨sb, 1, none⟩ = some (.int .i64 tks) ∧ w'.cell? ⟨sb, 2, none⟩ = some (.slice S.P.sA ns S.P.sc) ∧ w'.cell? ⟨sb, 6, none⟩ = some (.int .i64 tm))
      ((refine HS.out _ ?_; (repeat (with_reducible first | exact HB2.out | exact Below.refl _ _ | refine Below.drew ?_ | refine Below.alloc ?_ (Nat.le_refl _) _ | refine Below.alloc ?_ HB2.out.size _ | exact below_put4 HB2.out (Nat.le_refl _) _ _ _ _))))
      (first | (go_at_call 73; refine (HTA.out wa.drew (Below.refl _ _).drew).mono ?_; rintro e w2' ⟨rfl, hb2⟩; have HB2 := hid ((Below.refl wa.heap.size wa).drew.trans hb2); clear hb2) | (go_at_call 73; refine (HTA.out (wa.alloc (.cells #[.int .i64 0, .int .i64 0, .int .i64 0, .int .i64 0] 34)).drew ((Below.refl _ _).alloc (Nat.le_refl _) _).drew).mono ?_; rintro e w2' ⟨rfl, hb2⟩; have HB2 := hid (((Below.refl wa.heap.size wa).alloc (Nat.le_refl _) _).drew.trans (hb2.mono (by simp))); have HMQ := hid (((HMD.out.box #[.int .i64 0, .int .i64 0, .int .i64 0, .int .i64 0] 34).drew).new hb2); have hz : w2'.heap[wa.heap.size]? = some (.cells #[.int .i64 0, .int .i64 0, .int .i64 0, .int .i64 0] 34 (0, 0)) := (hb2.block wa.heap.size (by simp)).trans (heap_alloc_new wa _); have q0 := blk_cell hz 0; have q1 := blk_cell hz 1; have q2 := blk_cell hz 2; have q3 := blk_cell hz 3; have qf := fun j => blk_free hz j; have ql := blk_lt hz; have HZ : Hid (w2'.heap[wa.heap.size]? = some (.cells (evV 0 0 0 0) 34 (0, 0))) := hid hz; simp at q0 q1 q2 q3; clear hz hb2))
    all_goals
      go_wp2_with fail
      go_meet
    · exact ⟨_, rfl, (HMD.out.new HB2.out).box #[.int .i64 0, .int .i64 T, .int .i64 0, .int .i64 0] 34⟩
    · refine ⟨wa.heap.size, rfl, HMQ.out.write 1 rfl (put4_keep _ _ _ _ _ _) ?_⟩
      exact put4_heap HZ.out _ _ _ _
  obtain ⟨b3, rfl, hmid⟩ := hcut
  have HM := hid hmid
  have he : wc.heap[b3]? = some (.cells #[.int .i64 0, .int .i64 T, .int .i64 0, .int .i64 0] 34 (0, 0)) := hmid.get 1 rfl
  have e1 := blk_cell he 1
  have el := blk_lt he
  simp at e1
  clear hmid he HMD HS hsbl HTURN
  have HEND : Hid (∀ (wx : World) (S' : SM) (b : List Tg) (a c d u : Int) (k' : Kst), Amid w wx (spT sb S tm) (spT sb S' (tm + 1)) (blkT w.heap.size (evObj a c d u) :: b) → tick p k = (⟨a, c, d, u⟩, k') → k'.time = tm + 1 → SpFacts p S' k' (tm + 1) →
      Q (.returned (.agg #[.int .i64 a, .int .i64 c, .int .i64 d, .int .i64 u])) wx) := fun wx S' b a c d u k' hm hq hkt hf => by
    rw [HQ.out, hq]
    refine ⟨S', rfl, went_spread ?_ ?_⟩
    · rw [hkt, ← HTM.out]; exact hm.went
    · rw [hkt]; exact hf
  rcases HME.out with hT | ⟨r, ops, s, o, hT, hc, hs, ho⟩
  · subst hT
    have hfin := HN.out HTE.out.symm
    rw [← HTM.out] at hfin
    have HFIN := hid hfin
    clear hfin
    go_upto_region 7 with fail
    clear e1 el
    obtain ⟨_, _, _, _, _, _, k6, kf, ksb⟩ := sp_cells (show Beside wc (spL sb S tm) from HM.out.here)
    have he : wc.heap[b3]? = some (.cells #[.int .i64 0, .int .i64 (-1), .int .i64 0, .int .i64 0] 34 (0, 0)) := HM.out.get 1 rfl
    have e0 := blk_cell he 0
    have ef := fun j => blk_free he j
    have el := blk_lt he
    simp at e0
    have hset : (wc.setCell ⟨b3, 0, none⟩ (.int .i64 tm)).heap[b3]? = some (evObj tm (-1) 0 0) := by rw [hp_set, if_pos rfl, he]; rfl
    have HM2 := hid (HM.out.write 1 rfl ((Keep.refl (fun j => j = b3) wc).setCell (.inl rfl) _) hset)
    clear hset he
    go_upto_region 8 with fail
    obtain ⟨wd, hwd⟩ : ∃ wd, wd = wc.setCell ⟨b3, 0, none⟩ (.int .i64 tm) := ⟨_, rfl⟩
    rw [← hwd] at HM2 ⊢
    clear hwd k6 kf ksb e0 ef el
    have hin : Beside wd (spL sb S tm) := HM2.out.here
    obtain ⟨_, _, _, _, _, _, k6, kf, ksb⟩ := sp_cells hin
    have hset : (wd.setCell ⟨sb, 6, none⟩ (.int .i64 (tm + 1))).heap[sb]? = some (spreadObj S (tm + 1)) := by rw [hp_set, if_pos rfl, sp_obj hin]; rfl
    have HM3 := hid (HM2.out.go (sp_time hin ((Keep.refl (fun j => j = sb) wd).setCell (.inl rfl) _) hset))
    clear hset hin
    go_upto_region 9 with fail
    obtain ⟨we, hwe⟩ : ∃ we, we = wd.setCell ⟨sb, 6, none⟩ (.int .i64 (tm + 1)) := ⟨_, rfl⟩
    rw [← hwe] at HM3 ⊢
    clear hwe k6 kf ksb HM2 HM
    have he : we.heap[b3]? = some (.cells #[.int .i64 tm, .int .i64 (-1), .int .i64 0, .int .i64 0] 34 (0, 0)) := HM3.out.get 1 rfl
    have hr : we.heap[w.heap.size]? = some (.cells #[.int .i64 0, .int .i64 0, .int .i64 0, .int .i64 0] 34 (0, 0)) := HM3.out.get 0 rfl
    have x0 := blk_cell he 0
    have x1 := blk_cell he 1
    have x2 := blk_cell he 2
    have x3 := blk_cell he 3
    have y0 := blk_cell hr 0
    have y1 := blk_cell hr 1
    have y2 := blk_cell hr 2
    have y3 := blk_cell hr 3
    have yf := fun j => blk_free hr j
    have yl := blk_lt hr
    have xl := blk_lt he
    simp at x0 x1 x2 x3 y0 y1 y2 y3
    clear he
    go_wp2_with fail
    obtain ⟨wz, hwz⟩ : ∃ wz, wz = put4 we w.heap.size (.int .i64 tm) (.int .i64 (-1)) (.int .i64 0) (.int .i64 0) := ⟨_, rfl⟩
    have hblk : wz.heap[w.heap.size]? = some (.cells #[.int .i64 tm, .int .i64 (-1), .int .i64 0, .int .i64 0] 34 (0, 0)) := by rw [hwz]; exact put4_heap hr _ _ _ _
    have hkz := put4_keep we w.heap.size (.int .i64 tm) (.int .i64 (-1)) (.int .i64 0) (.int .i64 0)
    rw [← hwz] at hkz
    have HMZ := hid (HM3.out.write 0 rfl hkz hblk)
    unfold put4 at hwz
    rw [← hwz]
    have q0 := blk_cell hblk 0
    have q1 := blk_cell hblk 1
    have q2 := blk_cell hblk 2
    have q3 := blk_cell hblk 3
    simp at q0 q1 q2 q3
    refine bodyPost_ret (v := .agg #[.int .i64 tm, .int .i64 (-1), .int .i64 0, .int .i64 0]) (by simp [results, Tryd.results26, go_sem, q0, q1, q2, q3]) rfl ?_
    refine HEND.out wz S _ tm (-1) 0 0 ⟨k.rooms, k.lines, tm + 1⟩ HMZ.out HFIN.out rfl ?_
    exact (HFA.out.time (tm + 1)).more (by rw [← HTM.out]; omega)
  · subst hT
    have hfin := HR.out r ops s o HTE.out.symm hc hs ho
    have HCALL : Hid (∀ (w' : World) (bs : List Tg), Amid w w' (spT sb S tm) (spT sb S tm) bs → Calls Tryd.prog 74 #[.pointer (some ⟨sb, 0, none⟩), .int .i64 r] w' (SDid w' sb p k S r s.pc (kDo ops.length r o s k))) := fun w' bs hm => HSTEP.out r ops s o w' bs hc hs ho hm
    have hkt := kDo_time ops.length r o s k
    generalize kDo ops.length r o s k = d at HCALL hfin hkt
    obtain ⟨v, kd⟩ := d
    generalize s.pc = pc at HCALL hfin
    unfold SDid at HCALL
    rw [← HTM.out] at HCALL hfin hkt
    simp only [] at HCALL hfin hkt
    have HFIN := hid hfin
    have HKT := hid hkt
    have hr0 : (0 : Int) ≤ (r : Int) := by omega
    clear hfin hkt hc hs ho HSTEP HN HR HME
    go_upto_region 3 with fail
    go_wp2_with fail
    refine (HCALL.out _ _ HM.out).mono ?_
    rintro e w4 ⟨tn, S', rfl, hw, hf4⟩
    have HM4 := hid ((HM.out.go hw).box #[.int .i64 tn, .int .i64 r, .int .i64 pc, .int .i64 v] 34)
    have HF4 := hid hf4
    clear hw hf4 e1 el HM
    go_upto_region 6 with fail
    obtain ⟨b4, hb4⟩ : ∃ b4, b4 = w4.heap.size := ⟨_, rfl⟩
    obtain ⟨w5, hw5⟩ : ∃ w5, w5 = w4.alloc (.cells #[.int .i64 tn, .int .i64 r, .int .i64 pc, .int .i64 v] 34) := ⟨_, rfl⟩
    rw [← hb4, ← hw5] at HM4
    rw [← hb4, ← hw5]
    clear hb4 hw5
    have he : w5.heap[b3]? = some (.cells #[.int .i64 0, .int .i64 r, .int .i64 0, .int .i64 0] 34 (0, 0)) := HM4.out.get 1 rfl
    have h4 : w5.heap[b4]? = some (.cells #[.int .i64 tn, .int .i64 r, .int .i64 pc, .int .i64 v] 34 (0, 0)) := HM4.out.get 2 rfl
    have x0 := blk_cell h4 0
    have x1 := blk_cell h4 1
    have x2 := blk_cell h4 2
    have x3 := blk_cell h4 3
    have xl := blk_lt h4
    have y0 := blk_cell he 0
    have y1 := blk_cell he 1
    have y2 := blk_cell he 2
    have y3 := blk_cell he 3
    have yf := fun j => blk_free he j
    have yl := blk_lt he
    simp at x0 x1 x2 x3 y0 y1 y2 y3
    have hput : (put4 w5 b3 (.int .i64 tn) (.int .i64 r) (.int .i64 pc) (.int .i64 v)).heap[b3]? = some (evObj tn r pc v) := put4_heap he _ _ _ _
    have HM6 := hid (HM4.out.write 1 rfl (put4_keep _ _ _ _ _ _) hput)
    clear he h4 hput
    go_upto_region 7 with fail
    obtain ⟨w6, hw6⟩ : ∃ w6, w6 = put4 w5 b3 (.int .i64 tn) (.int .i64 r) (.int .i64 pc) (.int .i64 v) := ⟨_, rfl⟩
    rw [← hw6] at HM6
    unfold put4 at hw6
    rw [← hw6]
    clear hw6 x0 x1 x2 x3 xl y0 y1 y2 y3 yf yl HM4
    obtain ⟨_, _, _, _, _, _, k6, kf, ksb⟩ := sp_cells (show Beside w6 (spL sb S' tm) from HM6.out.here)
    have he : w6.heap[b3]? = some (.cells #[.int .i64 tn, .int .i64 r, .int .i64 pc, .int .i64 v] 34 (0, 0)) := HM6.out.get 1 rfl
    have e0 := blk_cell he 0
    have ef := fun j => blk_free he j
    have el := blk_lt he
    simp at e0
    have hset : (w6.setCell ⟨b3, 0, none⟩ (.int .i64 tm)).heap[b3]? = some (evObj tm r pc v) := by rw [hp_set, if_pos rfl, he]; rfl
    have HM2 := hid (HM6.out.write 1 rfl ((Keep.refl (fun j => j = b3) w6).setCell (.inl rfl) _) hset)
    clear hset he
    go_upto_region 8 with fail
    obtain ⟨wd, hwd⟩ : ∃ wd, wd = w6.setCell ⟨b3, 0, none⟩ (.int .i64 tm) := ⟨_, rfl⟩
    rw [← hwd] at HM2 ⊢
    clear hwd k6 kf ksb e0 ef el HM6
    have hin : Beside wd (spL sb S' tm) := HM2.out.here
    obtain ⟨_, _, _, _, _, _, k6, kf, ksb⟩ := sp_cells hin
    have hset : (wd.setCell ⟨sb, 6, none⟩ (.int .i64 (tm + 1))).heap[sb]? = some (spreadObj S' (tm + 1)) := by rw [hp_set, if_pos rfl, sp_obj hin]; rfl
    have HM3 := hid (HM2.out.go (sp_time hin ((Keep.refl (fun j => j = sb) wd).setCell (.inl rfl) _) hset))
    clear hset hin
    go_upto_region 9 with fail
    obtain ⟨we, hwe⟩ : ∃ we, we = wd.setCell ⟨sb, 6, none⟩ (.int .i64 (tm + 1)) := ⟨_, rfl⟩
    rw [← hwe] at HM3 ⊢
    clear hwe k6 kf ksb HM2
    have he : we.heap[b3]? = some (.cells #[.int .i64 tm, .int .i64 r, .int .i64 pc, .int .i64 v] 34 (0, 0)) := HM3.out.get 1 rfl
    have hr : we.heap[w.heap.size]? = some (.cells #[.int .i64 0, .int .i64 0, .int .i64 0, .int .i64 0] 34 (0, 0)) := HM3.out.get 0 rfl
    have x0 := blk_cell he 0
    have x1 := blk_cell he 1
    have x2 := blk_cell he 2
    have x3 := blk_cell he 3
    have y0 := blk_cell hr 0
    have y1 := blk_cell hr 1
    have y2 := blk_cell hr 2
    have y3 := blk_cell hr 3
    have yf := fun j => blk_free hr j
    have yl := blk_lt hr
    have xl := blk_lt he
    simp at x0 x1 x2 x3 y0 y1 y2 y3
    clear he
    go_wp2_with fail
    obtain ⟨wz, hwz⟩ : ∃ wz, wz = put4 we w.heap.size (.int .i64 tm) (.int .i64 r) (.int .i64 pc) (.int .i64 v) := ⟨_, rfl⟩
    have hblk : wz.heap[w.heap.size]? = some (.cells #[.int .i64 tm, .int .i64 r, .int .i64 pc, .int .i64 v] 34 (0, 0)) := by rw [hwz]; exact put4_heap hr _ _ _ _
    have hkz := put4_keep we w.heap.size (.int .i64 tm) (.int .i64 r) (.int .i64 pc) (.int .i64 v)
    rw [← hwz] at hkz
    have HMZ := hid (HM3.out.write 0 rfl hkz hblk)
    unfold put4 at hwz
    rw [← hwz]
    have q0 := blk_cell hblk 0
    have q1 := blk_cell hblk 1
    have q2 := blk_cell hblk 2
    have q3 := blk_cell hblk 3
    simp at q0 q1 q2 q3
    refine bodyPost_ret (v := .agg #[.int .i64 tm, .int .i64 r, .int .i64 pc, .int .i64 v]) (by simp [results, Tryd.results26, go_sem, q0, q1, q2, q3]) rfl ?_
    exact HEND.out wz S' _ tm r pc v _ HMZ.out HFIN.out rfl (HF4.out.time (tm + 1))
end Go.Proofs.YtongkiccglaniaaDoor
