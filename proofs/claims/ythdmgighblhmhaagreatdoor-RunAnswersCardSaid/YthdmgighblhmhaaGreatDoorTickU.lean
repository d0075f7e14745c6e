/- Several parts: each begins with what it says. -/
import Derived.Test.YthdmgighblhmhaaGreatDoorWhatU
import Derived.Test.YthdmgighblhmhaaGreatDoorFrameU
import Derived.Test.YthdmgighblhmhaaGreatDoorOwnU
/- Package kernel: the contracts of Turn, TickBy, Tick, for every kernel that is right. -/
namespace Go.Proofs.YthdmgighblhmhaaGreatDoor
open Go.RowKit
set_option maxRecDepth 100000
attribute [local go_sem ↓] Go.wp_at_zero Go.wp_at_succ

section
variable {kb : Nat} {w : World} {M : KM} {k : Kst}
theorem kturn_any (p : Pl) (B : Int) (A : Option Addr) (c : Nat) (l : List Span) (hp : PlOk p) (hM : M.P.pl = p) (hk : KOk p k B) (hB : B < 4611686018427387904)
    (hka : KAt 88 120 90 w kb M k) (hs : Sl w A 3 l.length (l.flatMap Span.cells)) (hsw : SlW A c l.length) :
    Calls Tryz.prog 96 #[.pointer (some ⟨kb, 0, none⟩), .slice A l.length c] w fun e w' => e = .returned (.int .i64 (turnAt l (k.time % p.ticks))) ∧ Below w.heap.size w w' := by
  obtain ⟨k0, k1, k2, k4, k5, k6, kf, hkb⟩ := hka.cells
  have ht := frameChk_ticks hp.frame
  have htk : M.P.ticks = p.ticks := by rw [← hM]; rfl
  rw [htk] at k1
  have ht0 := hk.time0
  have htB := hk.timeB
  have HT : Hid (∀ w', Below w.heap.size w w' → Calls Tryz.prog 109 #[.int .i64 p.ticks, .slice A l.length c, .int .i64 k.time] w' fun e w'' => e = .returned (.int .i64 (turnAt l (k.time % p.ticks))) ∧ Below w'.heap.size w' w'') := fun w' hb =>
    turn_any p.ticks k.time A c l w' (hs.new hb) hsw ht.1 ht.2.1 ht0 (by omega)
  generalize turnAt l (k.time % p.ticks) = T at HT ⊢
  generalize l.length = n at HT ⊢
  generalize k.time = tm at HT k6
  generalize p.ticks = tk at HT k1
  clear k0 k2 k4 k5 kf ht ht0 htB hs hsw hk hp hM hka htk hB
  go_enter Tryz.func96, Tryz.ntmps96
  go_wp2_with fail
  have HS : Hid (∀ w', Below w.heap.size w w' → w'.cell? ⟨kb, 1, none⟩ = some (.int .i64 tk) ∧ w'.cell? ⟨kb, 6, none⟩ = some (.int .i64 tm)) := fun w' hb => ⟨(hb.cell (p := ⟨kb, 1, none⟩) hkb).trans k1, (hb.cell (p := ⟨kb, 6, none⟩) hkb).trans k6⟩
  go_region_held3 (fun w' => w'.cell? ⟨kb, 1, none⟩ = some (.int .i64 tk) ∧ w'.cell? ⟨kb, 6, none⟩ = some (.int .i64 tm))
    (first | (with_reducible exact HS.out _ HB2.out) | (with_reducible exact HS.out _ (Below.drew (Below.refl _ _))))
    (first | (go_at_call 109; refine (HT.out _ (Below.refl _ _).drew).mono ?_; rintro e w2 ⟨rfl, hb2⟩; have HB2 := hid ((Below.refl w.heap.size w).drew.trans hb2); clear hb2))
  go_wp2_with fail
  go_ret
  exact ⟨rfl, HB2.out⟩
end

/-- What a tick leaves. -/
def KTicked (TK TL TP : Nat) (w : World) (kb : Nat) (M : KM) (q : Ev × Kst) (e : Ending) (w' : World) : Prop :=
  ∃ M', e = .returned (.agg #[.int .i64 q.1.tick, .int .i64 q.1.room, .int .i64 q.1.pc, .int .i64 q.1.what]) ∧ KAt TK TL TP w' kb M' q.2 ∧ (M'.P = M.P ∧ M'.lA = M.lA) ∧ Keep (KF kb M) w w' ∧ ∀ j, KF kb M' j → KF kb M j ∨ w.heap.size ≤ j

def evV (a b c d : Int) : Array Value := #[.int .i64 a, .int .i64 b, .int .i64 c, .int .i64 d]
/-- The event's block, and the result's. -/
structure TkMid (TK TL TP : Nat) (w wx : World) (kb : Nat) (M0 M : KM) (k : Kst) (b5 : Nat) (a b c d : Int) : Prop where
  kat : KAt TK TL TP wx kb M k
  ev : wx.heap[b5]? = some (.cells (evV a b c d) 76 (0, 0))
  res : wx.heap[w.heap.size]? = some (.cells (evV 0 0 0 0) 76 (0, 0))
  lt : w.heap.size < b5
  apart : ∀ j, TF kb M j → j ≠ b5 ∧ j ≠ w.heap.size
  keep : Keep (KF kb M0) w wx
  plan : M.P = M0.P ∧ M.lA = M0.lA
  grow : ∀ j, KF kb M j → KF kb M0 j ∨ w.heap.size ≤ j
section
variable {TK TL TP : Nat} {w wx w' : World} {kb b5 : Nat} {M0 M : KM} {k : Kst} {a b c d : Int}
theorem TkMid.at2 (h : TkMid TK TL TP w wx kb M0 M k b5 a b c d) (u : Int) : TkMid TK TL TP w (wx.setCell ⟨b5, 2, none⟩ (.int .i64 u)) kb M0 M k b5 a b u d := by
  have hlt := h.lt
  refine ⟨h.kat.keep (by rw [sz_set]; exact Nat.le_refl _) (fun j _ hj => blk_far (p := ⟨b5, 2, none⟩) (h.apart j hj).1 _), ?_, ?_, hlt, h.apart, h.keep.setCell (.inr (by omega)) _, h.plan, h.grow⟩
  · rw [hp_set, if_pos rfl, h.ev]; rfl
  · rw [hp_set, if_neg (by omega)]; exact h.res
theorem TkMid.at3 (h : TkMid TK TL TP w wx kb M0 M k b5 a b c d) (u : Int) : TkMid TK TL TP w (wx.setCell ⟨b5, 3, none⟩ (.int .i64 u)) kb M0 M k b5 a b c u := by
  have hlt := h.lt
  refine ⟨h.kat.keep (by rw [sz_set]; exact Nat.le_refl _) (fun j _ hj => blk_far (p := ⟨b5, 3, none⟩) (h.apart j hj).1 _), ?_, ?_, hlt, h.apart, h.keep.setCell (.inr (by omega)) _, h.plan, h.grow⟩
  · rw [hp_set, if_pos rfl, h.ev]; rfl
  · rw [hp_set, if_neg (by omega)]; exact h.res
theorem TkMid.time (h : TkMid TK TL TP w wx kb M0 M k b5 a b c d) (t : Int) : TkMid TK TL TP w (wx.setCell ⟨kb, 6, none⟩ (.int .i64 t)) kb M0 M ⟨k.rooms, k.lines, t⟩ b5 a b c d := by
  have hkb := h.apart kb (.inl (.inl rfl))
  refine ⟨h.kat.atTime t, ?_, ?_, h.lt, h.apart, h.keep.setCell (.inl (.inl rfl)) _, h.plan, h.grow⟩
  · rw [hp_set, if_neg (fun e => hkb.1 e.symm)]; exact h.ev
  · rw [hp_set, if_neg (fun e => hkb.2 e.symm)]; exact h.res
theorem TkMid.did {M1 : KM} {k1 : Kst} (h : TkMid TK TL TP w wx kb M0 M k b5 a b c d) (h1 : KAt TK TL TP w' kb M1 k1) (h2 : M1.P = M.P ∧ M1.lA = M.lA) (h3 : Keep (KF kb M) wx w') (h4 : ∀ j, KF kb M1 j → KF kb M j ∨ wx.heap.size ≤ j) : TkMid TK TL TP w w' kb M0 M1 k1 b5 a b c d := by
  have e1 := blk_lt h.ev
  have e2 := blk_lt h.res
  have ks := h.keep.size
  refine ⟨h1, (h3.block _ e1 fun hj => (h.apart _ (.inl hj)).1 rfl).trans h.ev, (h3.block _ e2 fun hj => (h.apart _ (.inl hj)).2 rfl).trans h.res, h.lt, ?_, h.keep.then h3 ?_, ⟨h2.1.trans h.plan.1, h2.2.trans h.plan.2⟩, ?_⟩
  · rintro j (hj | hj | hj)
    · rcases h4 j hj with hj | hj
      · exact h.apart j (.inl hj)
      · omega
    · rw [h2.2] at hj; exact h.apart j (.inr (.inl hj))
    · rw [h2.1] at hj; exact h.apart j (.inr (.inr hj))
  · intro j hj hf
    rcases h.grow j hf with h5 | h5
    · exact h5
    · omega
  · intro j hj
    rcases h4 j hj with hj | hj
    · exact h.grow j hj
    · right; omega
theorem TkMid.ret (h : TkMid TK TL TP w wx kb M0 M k b5 a b c d) {q : Ev × Kst} (hq : q = (⟨a, b, c, d⟩, k)) :
    KTicked TK TL TP w kb M0 q (.returned (.agg #[.int .i64 a, .int .i64 b, .int .i64 c, .int .i64 d])) (put4 wx w.heap.size (.int .i64 a) (.int .i64 b) (.int .i64 c) (.int .i64 d)) ∧
      (put4 wx w.heap.size (.int .i64 a) (.int .i64 b) (.int .i64 c) (.int .i64 d)).heap[w.heap.size]? = some (.cells (evV a b c d) 76 (0, 0)) := by
  subst hq
  refine ⟨⟨M, rfl, h.kat.through (put4_keep _ _ _ _ _ _) fun j hj e => (h.apart j hj).2 e, h.plan, h.keep.then (put4_keep _ _ _ _ _ _) fun j hj e => by omega, h.grow⟩, ?_⟩
  unfold put4
  simp [hp_set, h.res, setObj, evV]
end
theorem below_put4 {B b : Nat} {a w : World} (h : Below B a w) (hb : B ≤ b) (v0 v1 v2 v3 : Value) :
    Below B a ((((w.setCell ⟨b, 0, none⟩ v0).setCell ⟨b, 1, none⟩ v1).setCell ⟨b, 2, none⟩ v2).setCell ⟨b, 3, none⟩ v3) :=
  (((h.setCell hb _).setCell hb _).setCell hb _).setCell hb _
theorem put4_heap {w : World} {b T : Nat} {a0 a1 a2 a3 : Int} (h : w.heap[b]? = some (.cells (evV a0 a1 a2 a3) T (0, 0))) (v0 v1 v2 v3 : Value) : ((((w.setCell ⟨b, 0, none⟩ v0).setCell ⟨b, 1, none⟩ v1).setCell ⟨b, 2, none⟩ v2).setCell ⟨b, 3, none⟩ v3).heap[b]? = some (.cells #[v0, v1, v2, v3] T (0, 0)) := by
  simp [hp_set, h, setObj, evV]
end Go.Proofs.YthdmgighblhmhaaGreatDoor

/- Package kernel: the contracts of TickBy and Tick, for every kernel that is right. -/
namespace Go.Proofs.YthdmgighblhmhaaGreatDoor
open Go.RowKit
set_option maxRecDepth 100000
attribute [local go_sem ↓] Go.wp_at_zero Go.wp_at_succ

theorem kDo_time (n : Int) (r : Nat) (o : Op) (s : St) (k : Kst) : (kDo n r o s k).2.time = k.time := by
  unfold kDo
  repeat' split
  all_goals rfl
theorem spans_in {p : Pl} (hp : PlOk p) : ∀ s ∈ p.spans, 0 ≤ s.room ∧ s.room < p.code.length := fun s hs => by
  refine ⟨?_, hp.spans s hs⟩
  obtain ⟨i, hi⟩ := List.mem_iff_getElem?.1 hs
  exact (spanOk (frOk_of hp.frame i s hi).1).2.2.2.1

set_option maxHeartbeats 4000000 in
theorem ktickBy_any (w : World) (kb : Nat) (M : KM) (k : Kst) (p : Pl) (B : Int) (A : Option Addr) (c : Nat) (l : List Span) (hp : PlOk p) (hM : M.P.pl = p) (hk : KOk p k B) (hB : B < 4611686018427387904)
    (hka : KAt 88 120 90 w kb M k) (hs : Sl w A 3 l.length (l.flatMap Span.cells)) (hsw : SlW A c l.length) (hsp : ∀ s ∈ l, 0 ≤ s.room ∧ s.room < p.code.length) :
    Calls Tryz.prog 81 #[.pointer (some ⟨kb, 0, none⟩), .slice A l.length c] w (KTicked 88 120 90 w kb M (tickBy p l k)) := by
  have hmeets := tick_meets hp hk hsp
  have HN : Hid (turnAt l (k.time % p.ticks) = -1 → tickBy p l k = (⟨k.time, -1, 0, 0⟩, ⟨k.rooms, k.lines, k.time + 1⟩)) := fun h => tick_none h
  have HR : Hid (∀ (r : Nat) (ops : List Op) (s : St) (o : Op), turnAt l (k.time % p.ticks) = r → p.code[r]? = some ops → k.rooms[r]? = some s → ops[s.pc.toNat]? = some o →
      tickBy p l k = (⟨k.time, r, s.pc, (kDo ops.length r o s k).1⟩, ⟨(kDo ops.length r o s k).2.rooms, (kDo ops.length r o s k).2.lines, k.time + 1⟩)) := fun r ops s o h1 h2 h3 h4 => tick_room h1 h2 h3 h4
  have HTURN : Hid (∀ w', Below w.heap.size w w' → Calls Tryz.prog 96 #[.pointer (some ⟨kb, 0, none⟩), .slice A l.length c] w' fun e w'' => e = .returned (.int .i64 (turnAt l (k.time % p.ticks))) ∧ Below w'.heap.size w' w'') := fun w' hb =>
    kturn_any p B A c l hp hM hk hB (hka.new hb) (hs.new hb) hsw
  have HDO : Hid (∀ (r : Nat) (ops : List Op) (s : St) (o : Op) (w' : World), KAt 88 120 90 w' kb M k → p.code[r]? = some ops → k.rooms[r]? = some s → ops[s.pc.toNat]? = some o →
      Calls Tryz.prog 97 #[.pointer (some ⟨kb, 0, none⟩), .int .i64 r] w' (KDid 88 120 90 w' kb M s.pc (kDo ops.length r o s k))) := fun r ops s o w' h1 h2 h3 h4 =>
    kdo_any w' kb M k p B r ops s o hp hM hk hB h1 h2 h3 h4
  obtain ⟨q, hq⟩ : ∃ q, q = tickBy p l k := ⟨_, rfl⟩
  rw [← hq]
  have HQ := hid hq
  have ht0 := hk.time0
  have htB := hk.timeB
  obtain ⟨k0, k1, k2, k4, k5, k6, kf, hkb⟩ := hka.cells
  obtain ⟨T, hT⟩ : ∃ T, T = turnAt l (k.time % p.ticks) := ⟨_, rfl⟩
  rw [← hT] at HTURN hmeets
  have HTE := hid hT
  have HME := hid hmeets
  have HKA := hid hka
  obtain ⟨tm, htm⟩ : ∃ tm, tm = k.time := ⟨_, rfl⟩
  rw [← htm] at k6 ht0 htB
  have HTM := hid htm
  obtain ⟨n, hn⟩ : ∃ n, n = l.length := ⟨_, rfl⟩
  rw [← hn] at HTURN ⊢
  clear hq hT hmeets hka htm hn k0 k1 k2 k4 k5 kf hs hsw hsp hp hM hk
  go_enter Tryz.func81, Tryz.ntmps81
  go_upto_region 1 with fail
  obtain ⟨wa, hwa⟩ : ∃ wa, wa = w.alloc (.cells #[.int .i64 0, .int .i64 0, .int .i64 0, .int .i64 0] 76) := ⟨_, rfl⟩
  have hab : Below w.heap.size w wa := by rw [hwa]; exact (Below.refl _ _).alloc (Nat.le_refl _) _
  have haw : wa.heap[w.heap.size]? = some (.cells (evV 0 0 0 0) 76 (0, 0)) := by rw [hwa]; exact heap_alloc_new w _
  rw [← hwa]
  have HAB := hid hab
  have HAW := hid haw
  have a6 := (hab.cell (p := ⟨kb, 6, none⟩) hkb).trans k6
  have hkba : kb < wa.heap.size := Nat.lt_of_lt_of_le hkb hab.size
  have HS : Hid (∀ w', Below wa.heap.size wa w' → w'.cell? ⟨kb, 6, none⟩ = some (.int .i64 tm)) := fun w' hb => (hb.cell (p := ⟨kb, 6, none⟩) hkba).trans a6
  have HMK : Hid (∀ wx b5, w.heap.size < b5 → (∀ j, TF kb M j → j ≠ b5) → Below wa.heap.size wa wx → wx.heap[b5]? = some (.cells (evV tm T 0 0) 76 (0, 0)) → TkMid 88 120 90 w wx kb M M k b5 tm T 0 0) := fun wx b5 h1 h2 h3 h4 =>
    ⟨(HKA.out.new HAB.out).new h3, h4, (h3.block _ (blk_lt HAW.out)).trans HAW.out, h1, fun j hj => ⟨h2 j hj, by have := HKA.out.lt j hj; omega⟩, (Keep.of_below _ HAB.out).then (Keep.of_below NoF h3) (fun _ _ h => h.elim), ⟨rfl, rfl⟩, fun j hj => .inl hj⟩
  clear hwa hab haw k6
  go_cut [5] (fun v5 wx => ∃ b5, v5 = .pointer (some ⟨b5, 0, none⟩) ∧ TkMid 88 120 90 w wx kb M M k b5 tm T 0 0)
  case first =>
    go_region_held3 (fun w' => w'.cell? ⟨kb, 6, none⟩ = some (.int .i64 tm))
      ((refine HS.out _ ?_; (repeat (with_reducible first | exact HB2.out | exact Below.refl _ _ | refine Below.drew ?_ | refine Below.alloc ?_ (Nat.le_refl _) _ | refine Below.alloc ?_ HB2.out.size _ | exact below_put4 HB2.out (Nat.le_refl _) _ _ _ _))))
      (first | (go_at_call 96; refine (HTURN.out _ HAB.out.drew).mono ?_; rintro e w2 ⟨rfl, hb2⟩; have HB2 := hid ((Below.refl wa.heap.size wa).drew.trans hb2); clear hb2) | (go_at_call 96; refine (HTURN.out _ (HAB.out.alloc HAB.out.size _).drew).mono ?_; rintro e w2 ⟨rfl, hb2⟩; have HB2 := hid (((Below.refl wa.heap.size wa).alloc (Nat.le_refl _) _).drew.trans (hb2.mono (by simp))); have hz : w2.heap[wa.heap.size]? = some (.cells (evV 0 0 0 0) 76 (0, 0)) := (hb2.block wa.heap.size (by simp)).trans (heap_alloc_new wa _); have z0 := blk_cell hz 0; have z1 := blk_cell hz 1; have z2 := blk_cell hz 2; have z3 := blk_cell hz 3; have zf := fun j => blk_free hz j; have HZ := hid hz; simp [evV] at z0 z1 z2 z3; clear hz hb2))
    all_goals
      go_wp2_with fail
      go_meet
      have hlt := HKA.out.lt
      have hls := HAB.out.size
      have hlw := blk_lt HAW.out
    · exact ⟨_, rfl, HMK.out _ _ (by have := HB2.out.size; omega) (fun j hj => by have := hlt j hj; have := HB2.out.size; omega) (HB2.out.alloc HB2.out.size _) (heap_alloc_new w2 _)⟩
    · exact ⟨_, rfl, HMK.out _ wa.heap.size hlw (fun j hj => by have := hlt j hj; omega) (below_put4 HB2.out (Nat.le_refl _) _ _ _ _) (put4_heap HZ.out _ _ _ _)⟩
  obtain ⟨b5, rfl, hmid⟩ := hcut
  have HMD := hid hmid
  have e1 := blk_cell hmid.ev 1
  simp [evV] at e1
  have he5 := blk_lt hmid.ev
  have c6 := hmid.kat.cells.2.2.2.2.2.1
  have f6 := hmid.kat.cells.2.2.2.2.2.2.1 6
  have hkb' := hmid.kat.cells.2.2.2.2.2.2.2
  rw [← HTM.out] at c6
  clear hmid a6 hkba HS HMK HAB HAW
  rcases HME.out with hT | ⟨r, ops, s, o, hT, hc, hs, ho⟩
  · subst hT
    have hm2 := HMD.out.time (tm + 1)
    have hqe : q = (⟨tm, -1, 0, 0⟩, ⟨k.rooms, k.lines, tm + 1⟩) := by rw [HQ.out, HN.out HTE.out.symm, HTM.out]
    obtain ⟨hret, hblk⟩ := hm2.ret hqe
    have HRET := hid hret
    have HBLK := hid hblk
    have HM2 := hid hm2
    clear hret hblk hm2 hqe
    go_upto_region 5 with fail
    obtain ⟨wt, hwt⟩ : ∃ wt, wt = wc.setCell ⟨kb, 6, none⟩ (.int .i64 (tm + 1)) := ⟨_, rfl⟩
    have hm2 := HM2.out
    have hret := HRET.out
    have hblk := HBLK.out
    rw [← hwt] at hm2 hret hblk ⊢
    have x0 := blk_cell hm2.ev 0
    have x1 := blk_cell hm2.ev 1
    have x2 := blk_cell hm2.ev 2
    have x3 := blk_cell hm2.ev 3
    have y0 := blk_cell hm2.res 0
    have y1 := blk_cell hm2.res 1
    have y2 := blk_cell hm2.res 2
    have y3 := blk_cell hm2.res 3
    have yf := fun j => blk_free hm2.res j
    simp [evV] at x0 x1 x2 x3 y0 y1 y2 y3
    have HRT := hid hret
    have HBK := hid hblk
    clear hret hblk hm2 hwt HM2 HRET HBLK e1 c6 f6
    go_wp2_with fail
    obtain ⟨wz, hwz⟩ : ∃ wz, wz = put4 wt w.heap.size (.int .i64 tm) (.int .i64 (-1)) (.int .i64 0) (.int .i64 0) := ⟨_, rfl⟩
    have hret := HRT.out
    have hblk := HBK.out
    rw [← hwz] at hret hblk
    unfold put4 at hwz
    rw [← hwz]
    have z0 := blk_cell hblk 0
    have z1 := blk_cell hblk 1
    have z2 := blk_cell hblk 2
    have z3 := blk_cell hblk 3
    simp [evV] at z0 z1 z2 z3
    exact bodyPost_ret (v := .agg #[.int .i64 tm, .int .i64 (-1), .int .i64 0, .int .i64 0]) (by simp [results, Tryz.results81, go_sem, z0, z1, z2, z3]) rfl hret
  · have hqe : q = (⟨tm, r, s.pc, (kDo ops.length r o s k).1⟩, ⟨(kDo ops.length r o s k).2.rooms, (kDo ops.length r o s k).2.lines, tm + 1⟩) := by
      rw [HQ.out, HR.out r ops s o (by rw [← HTE.out]; exact hT) hc hs ho, HTM.out]
    have HCALL : Hid (Calls Tryz.prog 97 #[.pointer (some ⟨kb, 0, none⟩), .int .i64 r] wc (KDid 88 120 90 wc kb M s.pc (kDo ops.length r o s k))) := HDO.out r ops s o wc HMD.out.kat hc hs ho
    have hkt := kDo_time ops.length r o s k
    rw [← HTM.out] at hkt
    generalize kDo ops.length r o s k = d at HCALL hqe hkt
    obtain ⟨v, kd⟩ := d
    generalize s.pc = pc at HCALL hqe
    simp only [] at hqe hkt
    have HKT := hid hkt
    clear hkt
    have HQE := hid hqe
    subst hT
    have hr0 : (0 : Int) ≤ (r : Int) := by omega
    clear hqe hc hs ho c6 f6
    go_upto_region 4 with (go_at_call 97; refine (HCALL.out).mono ?_; rintro e w2 ⟨M1, rfl, h1, h2, h3, h4⟩; have HM1 := hid (HMD.out.did h1 h2 h3 h4); have hev := HM1.out.ev; have g2 := blk_cell hev 2; have g3 := blk_cell hev 3; have gf := fun j => blk_free hev j; simp [evV] at g2 g3; clear hev h1 h2 h3 h4)
    have HM2 := hid ((HM1.out.at2 pc).at3 v)
    obtain ⟨ws, hws⟩ : ∃ ws, ws = (w2.setCell ⟨b5, 2, none⟩ (.int .i64 pc)).setCell ⟨b5, 3, none⟩ (.int .i64 v) := ⟨_, rfl⟩
    have hm2 := HM2.out
    rw [← hws] at hm2 ⊢
    have c6 := hm2.kat.cells.2.2.2.2.2.1
    have f6 := hm2.kat.cells.2.2.2.2.2.2.1 6
    rw [HKT.out] at c6
    have HM3 := hid (hm2.time (tm + 1))
    obtain ⟨hret, hblk⟩ := HM3.out.ret HQE.out
    have HRET := hid hret
    have HBLK := hid hblk
    clear hret hblk hm2 hws HM2 HM1 g2 g3 gf e1
    go_upto_region 5 with fail
    obtain ⟨wt, hwt⟩ : ∃ wt, wt = ws.setCell ⟨kb, 6, none⟩ (.int .i64 (tm + 1)) := ⟨_, rfl⟩
    have hm2 := HM3.out
    have hret := HRET.out
    have hblk := HBLK.out
    rw [← hwt] at hm2 hret hblk ⊢
    have x0 := blk_cell hm2.ev 0
    have x1 := blk_cell hm2.ev 1
    have x2 := blk_cell hm2.ev 2
    have x3 := blk_cell hm2.ev 3
    have y0 := blk_cell hm2.res 0
    have y1 := blk_cell hm2.res 1
    have y2 := blk_cell hm2.res 2
    have y3 := blk_cell hm2.res 3
    have yf := fun j => blk_free hm2.res j
    simp [evV] at x0 x1 x2 x3 y0 y1 y2 y3
    have HRT := hid hret
    have HBK := hid hblk
    clear hret hblk hm2 hwt HM3 HRET HBLK c6 f6
    go_wp2_with fail
    obtain ⟨wz, hwz⟩ : ∃ wz, wz = put4 wt w.heap.size (.int .i64 tm) (.int .i64 r) (.int .i64 pc) (.int .i64 v) := ⟨_, rfl⟩
    have hret := HRT.out
    have hblk := HBK.out
    rw [← hwz] at hret hblk
    unfold put4 at hwz
    rw [← hwz]
    have z0 := blk_cell hblk 0
    have z1 := blk_cell hblk 1
    have z2 := blk_cell hblk 2
    have z3 := blk_cell hblk 3
    simp [evV] at z0 z1 z2 z3
    exact bodyPost_ret (v := .agg #[.int .i64 tm, .int .i64 r, .int .i64 pc, .int .i64 v]) (by simp [results, Tryz.results81, go_sem, z0, z1, z2, z3]) rfl hret

theorem ktick_any (w : World) (kb : Nat) (M : KM) (k : Kst) (p : Pl) (B : Int) (hp : PlOk p) (hM : M.P.pl = p) (hk : KOk p k B) (hB : B < 4611686018427387904)
    (hka : KAt 88 120 90 w kb M k) :
    Calls Tryz.prog 58 #[.pointer (some ⟨kb, 0, none⟩)] w (KTicked 88 120 90 w kb M (tick p k)) := by
  have HTB : Hid (∀ w', Below w.heap.size w w' → Calls Tryz.prog 81 #[.pointer (some ⟨kb, 0, none⟩), .slice M.P.sA M.P.spans.length M.P.sc] w' (KTicked 88 120 90 w' kb M (tick p k))) := fun w' hb => by
    have h1 := hka.new hb
    have he : M.P.spans = p.spans := by rw [← hM]; rfl
    have h2 := ktickBy_any w' kb M k p B M.P.sA M.P.sc M.P.spans hp hM hk hB h1 h1.plan.spans h1.plan.spansW (by rw [he]; exact spans_in hp)
    rw [he] at h2 ⊢
    exact h2
  have k2 := hka.cells.2.2.1
  have hkb := hka.cells.2.2.2.2.2.2.2
  have HLT := hid hka.lt
  generalize M.P.spans.length = n at HTB k2
  obtain ⟨⟨ev, k'⟩, hq⟩ : ∃ q, q = tick p k := ⟨_, rfl⟩
  rw [← hq] at HTB ⊢
  obtain ⟨a, b, c, d⟩ := ev
  clear hka hk hp hM hB hq
  go_enter Tryz.func58, Tryz.ntmps58
  go_wp2_with fail
  refine (HTB.out _ ((Below.refl _ _).alloc (Nat.le_refl _) _)).mono ?_
  rintro e w2 ⟨M', rfl, h1, h2, h3, h4⟩
  have hres : w2.heap[w.heap.size]? = some (.cells (evV 0 0 0 0) 76 (0, 0)) := (h3.block _ (by simp) fun hj => by have := HLT.out _ (.inl hj); omega).trans (heap_alloc_new w _)
  have hm : TkMid 88 120 90 w w2 kb M M' k' (w.heap.size + 1) a b c d → True := fun _ => trivial
  have hap : ∀ j, TF kb M' j → j ≠ w.heap.size := by
    rintro j (hj | hj | hj)
    · rcases h4 j hj with h5 | h5
      · have := HLT.out j (.inl h5); omega
      · simp at h5; omega
    · rw [h2.2] at hj; have := HLT.out j (.inr (.inl hj)); omega
    · rw [h2.1] at hj; have := HLT.out j (.inr (.inr hj)); omega
  have hret : KTicked 88 120 90 w kb M (⟨a, b, c, d⟩, k') (.returned (.agg #[.int .i64 a, .int .i64 b, .int .i64 c, .int .i64 d])) (put4 w2 w.heap.size (.int .i64 a) (.int .i64 b) (.int .i64 c) (.int .i64 d)) :=
    ⟨M', rfl, h1.through (put4_keep _ _ _ _ _ _) fun j hj e => hap j hj e, h2, ((Keep.refl _ _).alloc _ |>.then h3 (fun _ _ h => h)).then (put4_keep _ _ _ _ _ _) fun j hj e => by omega, fun j hj => (h4 j hj).imp_right fun h => by simp at h; omega⟩
  have hblk := put4_heap hres (.int .i64 a) (.int .i64 b) (.int .i64 c) (.int .i64 d)
  have HRT := hid hret
  have HBK := hid hblk
  have y0 := blk_cell hres 0
  have y1 := blk_cell hres 1
  have y2 := blk_cell hres 2
  have y3 := blk_cell hres 3
  have yf := fun j => blk_free hres j
  simp [evV] at y0 y1 y2 y3
  clear hres hret hblk h1 h2 h3 h4 hap hm k2
  go_wp2_with fail
  obtain ⟨wz, hwz⟩ : ∃ wz, wz = put4 w2 w.heap.size (.int .i64 a) (.int .i64 b) (.int .i64 c) (.int .i64 d) := ⟨_, rfl⟩
  have hret := HRT.out
  have hblk := HBK.out
  rw [← hwz] at hret
  unfold put4 at hwz
  rw [← hwz] at hblk ⊢
  have z0 := blk_cell hblk 0
  have z1 := blk_cell hblk 1
  have z2 := blk_cell hblk 2
  have z3 := blk_cell hblk 3
  simp at z0 z1 z2 z3
  exact bodyPost_ret (v := .agg #[.int .i64 a, .int .i64 b, .int .i64 c, .int .i64 d]) (by simp [results, Tryz.results58, go_sem, z0, z1, z2, z3]) rfl hret
end Go.Proofs.YthdmgighblhmhaaGreatDoor
