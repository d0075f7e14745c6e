/- Package sway: the contracts of since, pair, Since. -/
import Derived.Test.YtongkiccglaniaaDoorSwayLaw
import Derived.Test.YtongkiccglaniaaDoorKernPair
import Derived.Test.YtongkiccglaniaaDoorRunU
import Derived.Test.YtongkiccglaniaaDoorSameU
import Derived.IntWalk
namespace Go.Proofs.YtongkiccglaniaaDoor
open Go.RowKit
set_option maxRecDepth 100000

def SinceV (w : World) (v err : Int) (e : Ending) (w' : World) : Prop := e = .returned (.tuple #[.int .i64 v, errV err]) ∧ Below w.heap.size w w'
abbrev PPair := KPair 152 201 145 152 201 145
set_option maxHeartbeats 4000000 in
theorem since_any {w w0 : World} {kb mb : Nat} {M N : KM} {p : Pl} {k m : Kst} (hpr : PPair w w0 kb p M k mb p N m) (hp : PlOk p) (hk : KOk p k 0) (hm : KOk p m 0) (b ticks : Nat) (hb : b < p.code.length) (ht : ticks ≤ 2000) :
    Calls Tryd.prog 97 #[.pointer (some ⟨kb, 0, none⟩), .pointer (some ⟨mb, 0, none⟩), .int .i64 b, .int .i64 ticks] w0 (SinceV w (firstOf (unlikeK p k m b) (ticks + 1)) 0) := by
  unfold SinceV
  rw [errV_zero]
  have HKK : Hid (∀ t : Nat, KOk p (goK p k t) t) := fun t => by have := goK_ok hp hk t; rwa [Int.zero_add] at this
  have HKM : Hid (∀ t : Nat, KOk p (goK p m t) t) := fun t => by have := goK_ok hp hm t; rwa [Int.zero_add] at this
  have HP := hid hp
  have HPR := hid hpr
  clear hpr hp hk hm
  go_enter Tryd.func97, Tryd.ntmps97
  go_wp2_with fail
  go_loopw [16] (fun v16 wr => ∃ (t : Nat) (M N : KM), t ≤ ticks + 1 ∧ v16 = .int .i64 t ∧ PPair w wr kb p M (goK p k (if t ≤ ticks then t else ticks)) mb p N (goK p m (if t ≤ ticks then t else ticks)) ∧ ∀ j, j < t → unlikeK p k m b j = false) (fun v16 _ => ticks + 1 - (intOf v16).toNat)
  case atStart => exact ⟨0, M, N, by omega, rfl, by rw [if_pos (by omega)]; exact HPR.out, fun j hj => by omega⟩
  case round =>
    obtain ⟨wo, rfl⟩ : ∃ wo : World, wo = wr := ⟨_, rfl⟩
    obtain ⟨t, M, N, htl, rfl, hpt, hno⟩ := hrel
    have HNO := hid hno
    clear hno
    by_cases htk : t < ticks + 1
    · rw [if_pos (show t ≤ ticks by omega)] at hpt
      have HPT := hid hpt
      clear hpt
      obtain ⟨x, hx⟩ : ∃ x, (goK p k t).rooms[b]? = some x := ⟨_, List.getElem?_eq_getElem (by rw [(HKK.out t).rooms]; exact hb)⟩
      obtain ⟨y, hy⟩ : ∃ y, (goK p m t).rooms[b]? = some y := ⟨_, List.getElem?_eq_getElem (by rw [(HKM.out t).rooms]; exact hb)⟩
      have hxs := state_run HPT.out.a.run HP.out (HKK.out t) hx
      have hyc : ∀ w', Below wo.heap.size wo w' → Calls Tryd.prog 30 #[.pointer (some ⟨mb, 0, none⟩), .int .i64 b] w' fun e w'' => e = .returned (.tuple #[.agg (stV y), .nilIface]) ∧ Below w'.heap.size w' w'' := fun w' hb' => state_run (HPT.out.b.run.new hb') HP.out (HKM.out t) hy
      have hun : unlikeK p k m b t = !stEq x y := by
        unfold unlikeK
        rw [List.getD_eq_getElem?_getD, List.getD_eq_getElem?_getD, hx, hy]; rfl
      have hneq : ∀ w, (binOp .neq 40 (.agg #[.int .i64 x.pc, .int .i64 x.c0, .int .i64 x.c1, .int .i64 x.c2, .int .i64 x.c3, .int .i64 x.c4, .int .i64 x.c5, .bool x.failed]) (.agg #[.int .i64 y.pc, .int .i64 y.c0, .int .i64 y.c1, .int .i64 y.c2, .int .i64 y.c3, .int .i64 y.c4, .int .i64 y.c5, .bool y.failed])).run Tryd.prog w = .ok (.bool (!stEq x y)) w := fun w => state_neq x y w
      rw [← hun] at hneq
      obtain ⟨q, hq⟩ : ∃ q, q = unlikeK p k m b t := ⟨_, rfl⟩
      rw [← hq] at hneq
      have HQ := hid hq
      have HNE := hid hneq
      have HXS := hid hxs
      have HYC := hid hyc
      clear hx hy hxs hyc hun hq hneq
      obtain ⟨px, x0, x1, x2, x3, x4, x5, fx⟩ := x
      obtain ⟨py, y0, y1, y2, y3, y4, y5, fy⟩ := y
      unfold stV at HXS HYC
      simp only [] at HXS HYC HNE
      go_wp2_with fail
      refine HXS.out.mono ?_
      rintro e w1 ⟨rfl, hb1⟩
      have HB1 := hid hb1
      clear hb1
      go_wp2_with fail
      have hba : Below wo.heap.size wo (w1.alloc (.cells #[.int .i64 px, .int .i64 x0, .int .i64 x1, .int .i64 x2, .int .i64 x3, .int .i64 x4, .int .i64 x5, .bool fx] 40)) := HB1.out.alloc HB1.out.size _
      have hbl : (w1.alloc (.cells #[.int .i64 px, .int .i64 x0, .int .i64 x1, .int .i64 x2, .int .i64 x3, .int .i64 x4, .int .i64 x5, .bool fx] 40)).heap[w1.heap.size]? = some (.cells #[.int .i64 px, .int .i64 x0, .int .i64 x1, .int .i64 x2, .int .i64 x3, .int .i64 x4, .int .i64 x5, .bool fx] 40 (0, 0)) := heap_alloc_new _ _
      refine (HYC.out _ hba).mono ?_
      rintro e w2 ⟨rfl, hb2⟩
      have hbl2 := (hb2.block _ (blk_lt hbl)).trans hbl
      have g0 := blk_cell hbl2 0
      have g1 := blk_cell hbl2 1
      have g2 := blk_cell hbl2 2
      have g3 := blk_cell hbl2 3
      have g4 := blk_cell hbl2 4
      have g5 := blk_cell hbl2 5
      have g6 := blk_cell hbl2 6
      have g7 := blk_cell hbl2 7
      have hlt := blk_lt hbl2
      simp at g0 g1 g2 g3 g4 g5 g6 g7
      have HB2 := hid ((hba.trans (hb2.mono hba.size)).alloc (hba.trans (hb2.mono hba.size)).size (.cells #[.int .i64 py, .int .i64 y0, .int .i64 y1, .int .i64 y2, .int .i64 y3, .int .i64 y4, .int .i64 y5, .bool fy] 40))
      have HW := hid (HPT.out.a.below)
      have hneq := HNE.out
      have hgd := state_guard
      clear hba hbl hb2 hbl2
      cases hqc : q with
      | true =>
        rw [hqc] at hneq HQ
        clear hqc
        go_wp2_with fail
        go_ret2
        exact ⟨by rw [firstOf_hit HQ.out.symm HNO.out (by omega)]; rfl, HW.out.trans (HB2.out.mono HW.out.size)⟩
      | false =>
        rw [hqc] at hneq HQ
        clear hqc
        by_cases hlt2 : t < ticks
        · have HPU := hid (HPT.out.new HB2.out)
          go_wp2_with fail
          refine (tick_run HPU.out.a.run HP.out (HKK.out t) (by omega)).mono ?_
          rintro e w4 ⟨M4, rfl, hr4, hk4, hf4⟩
          have HPV := hid (HPU.out.goA hr4.g hk4 hf4)
          clear hr4 hk4 hf4 g0 g1 g2 g3 g4 g5 g6 g7 hlt
          go_wp2_with fail
          refine (tick_run HPV.out.b.run HP.out (HKM.out t) (by omega)).mono ?_
          rintro e w5 ⟨N5, rfl, hr5, hk5, hf5⟩
          have HPW := hid (HPV.out.goB hr5.g hk5 hf5)
          clear hr5 hk5 hf5
          go_wp2_with fail
          go_roundw
          case rel =>
            refine ⟨t + 1, M4, N5, by omega, by go_num, by rw [if_pos (by omega)]; exact HPW.out, fun j hj => ?_⟩
            by_cases e : j = t
            · subst e; exact HQ.out.symm
            · exact HNO.out j (by omega)
          case measure => simp [intOf]; omega
        · obtain rfl : t = ticks := by omega
          go_wp2_with fail
          go_roundw
          case rel =>
            refine ⟨t + 1, M, N, by omega, by go_num, by rw [if_neg (by omega)]; exact HPT.out.new HB2.out, fun j hj => ?_⟩
            by_cases e : j = t
            · subst e; exact HQ.out.symm
            · exact HNO.out j (by omega)
          case measure => simp [intOf]
    · obtain rfl : t = ticks + 1 := by omega
      go_wp2_with fail
      go_ret2
      exact ⟨by rw [firstOf_none HNO.out]; rfl, hpt.a.below⟩

/-- What pair answers. -/
def PairBad (w : World) (err : Int) (e : Ending) (w' : World) : Prop := ∃ a b : Option Addr, e = .returned (.tuple #[.pointer a, .pointer b, errV err]) ∧ Below w.heap.size w w'
def PairGood (w : World) (p : Pl) (a c v : Int) (e : Ending) (w' : World) : Prop :=
  ∃ kb M mb N, e = .returned (.tuple #[.pointer (some ⟨kb, 0, none⟩), .pointer (some ⟨mb, 0, none⟩), .nilIface]) ∧ PPair w w' kb p M (kNew p) mb p N (pokeK (kNew p) a c v)
theorem pair_plan (w : World) (m : PM) (a c v : Int) (hf : Forms w) (hm : PlanAt w m) (he : planChk m.pl ≠ 0) :
    Calls Tryd.prog 96 #[.agg #[.slice m.A m.ros.length m.c, .int .i64 m.ticks, .slice m.sA m.spans.length m.sc, .slice m.wA m.wires.length m.wc], .int .i64 a, .int .i64 c, .int .i64 v] w (PairBad w (planChk m.pl)) := by
  unfold PairBad
  have HNEW : Hid (∀ w', Below w.heap.size w w' → Calls Tryd.prog 28 #[.agg #[.slice m.A m.ros.length m.c, .int .i64 m.ticks, .slice m.sA m.spans.length m.sc, .slice m.wA m.wires.length m.wc]] w' fun e w'' => e = .returned (.tuple #[.pointer none, errV (planChk m.pl)]) ∧ Below w'.heap.size w' w'') := fun w' hb => kern_new_bad w' m (hf.new hb) (hm.new hb) he
  generalize planChk m.pl = q at HNEW he ⊢
  rw [errV_pos he] at HNEW ⊢
  generalize m.ros.length = nn at HNEW ⊢
  generalize m.spans.length = ns at HNEW ⊢
  generalize m.wires.length = nw at HNEW ⊢
  clear hm hf he
  go_enter Tryd.func96, Tryd.ntmps96
  go_wp2_with (go_at_call 28; refine (HNEW.out _ ((Below.refl _ _).alloc (Nat.le_refl _) _)).mono ?_; rintro e w1 ⟨rfl, hb1⟩; have HB := hid (((Below.refl w.heap.size w).alloc (Nat.le_refl _) _).trans (hb1.mono (by simp))); clear hb1)
  go_ret3
  exact ⟨none, none, rfl, HB.out⟩
theorem pair_of (w : World) (m : PM) (a c v : Int) (hf : Forms w) (hm : PlanAt w m) (he : planChk m.pl = 0) :
    Calls Tryd.prog 96 #[.agg #[.slice m.A m.ros.length m.c, .int .i64 m.ticks, .slice m.sA m.spans.length m.sc, .slice m.wA m.wires.length m.wc], .int .i64 a, .int .i64 c, .int .i64 v] w (if pokeOk m.pl.code.length a c v = true then PairGood w m.pl a c v else PairBad w 1) := by
  have HP := hid (planChk_ok he)
  have HNEW : Hid (∀ w', Below w.heap.size w w' → Calls Tryd.prog 28 #[.agg #[.slice m.A m.ros.length m.c, .int .i64 m.ticks, .slice m.sA m.spans.length m.sc, .slice m.wA m.wires.length m.wc]] w' (KNew w' m.pl)) := fun w' hb => new_run w' m (hf.new hb) (hm.new hb) he
  unfold KNew at HNEW
  generalize m.pl = p at HNEW HP ⊢
  obtain ⟨nn, hnn⟩ : ∃ nn, nn = m.ros.length := ⟨_, rfl⟩
  obtain ⟨ns, hns⟩ : ∃ ns, ns = m.spans.length := ⟨_, rfl⟩
  obtain ⟨nw, hnw⟩ : ∃ nw, nw = m.wires.length := ⟨_, rfl⟩
  rw [← hnn, ← hns, ← hnw] at HNEW ⊢
  have HLN : Hid ((kNew p).rooms.length = p.code.length) := (kNew_ok HP.out).rooms
  have HL5 : Hid (p.code.length ≤ 5) := HP.out.most5
  obtain ⟨w1, hw1⟩ : ∃ w1, w1 = w.alloc (.cells #[.slice m.A nn m.c, .int .i64 m.ticks, .slice m.sA ns m.sc, .slice m.wA nw m.wc] 31) := ⟨_, rfl⟩
  have hb1 : Below w.heap.size w w1 := by rw [hw1]; exact (Below.refl _ _).alloc (Nat.le_refl _) _
  have hbox : w1.heap[w.heap.size]? = some (.cells #[.slice m.A nn m.c, .int .i64 m.ticks, .slice m.sA ns m.sc, .slice m.wA nw m.wc] 31 (0, 0)) := by rw [hw1]; exact heap_alloc_new w _
  have x0 := blk_cell hbox 0
  have x1 := blk_cell hbox 1
  have x2 := blk_cell hbox 2
  have x3 := blk_cell hbox 3
  have hlt := blk_lt hbox
  simp at x0 x1 x2 x3
  have HB1 := hid hb1
  have HBX := hid hbox
  clear hb1 hbox hm hf he hnn hns hnw
  obtain ⟨Q, hQ⟩ : ∃ Q, Q = if pokeOk p.code.length a c v = true then PairGood w p a c v else PairBad w 1 := ⟨_, rfl⟩
  rw [← hQ]
  have HQ := hid hQ
  clear hQ
  go_enter Tryd.func96, Tryd.ntmps96
  go_wp2_with fail
  rw [← hw1]
  refine (HNEW.out _ HB1.out).mono ?_
  rintro e w2 ⟨kb, M, rfl, hr2⟩
  have hbx2 := (hr2.below.block _ hlt).trans HBX.out
  have HR2 := hid hr2
  have HB2 := hid (HB1.out.trans (hr2.below.mono HB1.out.size))
  clear hr2 x0 x1 x2 x3 hlt hw1
  have x0 := blk_cell hbx2 0
  have x1 := blk_cell hbx2 1
  have x2 := blk_cell hbx2 2
  have x3 := blk_cell hbx2 3
  have hlt := blk_lt hbx2
  simp at x0 x1 x2 x3
  clear hbx2
  go_wp2_with fail
  refine (HNEW.out _ HB2.out).mono ?_
  rintro e w3 ⟨mb, N, rfl, hr3⟩
  have HPR := hid (KPair.mk' HR2.out.g hr3.g)
  clear hr3 HR2 x0 x1 x2 x3 hlt
  cases hpk : pokeOk p.code.length a c v with
  | true =>
    have HPK := hid hpk
    have hpo := kpoke_ok (k := kNew p) a c v (by rw [HLN.out]; exact HL5.out) HPR.out.b.kat (by rw [HLN.out]; exact hpk)
    have HPO := hid hpo
    clear hpo hpk
    go_wp2_with fail
    refine HPO.out.mono ?_
    rintro e w4 ⟨rfl, h1, h2, _⟩
    have HPQ := hid (HPR.out.goB (HPR.out.b.poked h1 h2) h2 fun _ hj => .inl hj)
    clear h1 h2
    go_wp2_with fail
    go_ret3
    rw [HQ.out, if_pos HPK.out]
    refine ⟨kb, M, mb, N, rfl, ?_⟩
    have hq := HPQ.out
    exact ⟨⟨hq.a.kat, hq.a.plan, fun j hj => Nat.le_trans HB1.out.size (hq.a.fresh j hj), HB1.out.trans (hq.a.below.mono HB1.out.size)⟩, ⟨hq.b.kat, hq.b.plan, fun j hj => Nat.le_trans HB1.out.size (hq.b.fresh j hj), HB1.out.trans (hq.b.below.mono HB1.out.size)⟩, hq.apart⟩
  | false =>
    have HPK := hid hpk
    have hpo := kpoke_bad (k := kNew p) a c v (by rw [HLN.out]; exact HL5.out) HPR.out.b.kat (by rw [HLN.out]; exact hpk)
    rw [errV_pos (by decide)] at hpo
    have HPO := hid hpo
    clear hpo hpk
    go_wp2_with fail
    refine HPO.out.mono ?_
    rintro e w4 ⟨rfl, rfl⟩
    go_wp2_with fail
    go_ret3
    rw [HQ.out, if_neg (by rw [HPK.out]; decide)]
    exact ⟨_, _, rfl, HB1.out.trans (HPR.out.a.below.mono HB1.out.size)⟩

/-- Since: for any plan, any numbers. -/
theorem swaySince_any (w : World) (m : PM) (a c v b ticks : Int) (hf : Forms w) (hm : PlanAt w m) :
    Calls Tryd.prog 49 #[.agg #[.slice m.A m.ros.length m.c, .int .i64 m.ticks, .slice m.sA m.spans.length m.sc, .slice m.wA m.wires.length m.wc], .int .i64 a, .int .i64 c, .int .i64 v, .int .i64 b, .int .i64 ticks] w (SinceV w (swayV m.pl a c v b ticks) (swayE m.pl a c v b ticks)) := by
  obtain ⟨Q, hQ⟩ : ∃ Q, Q = SinceV w (swayV m.pl a c v b ticks) (swayE m.pl a c v b ticks) := ⟨_, rfl⟩
  rw [← hQ]
  have HQ := hid hQ
  clear hQ
  obtain ⟨w1, hw1⟩ : ∃ w1, w1 = w.alloc (.cells #[.slice m.A m.ros.length m.c, .int .i64 m.ticks, .slice m.sA m.spans.length m.sc, .slice m.wA m.wires.length m.wc] 31) := ⟨_, rfl⟩
  have hb1 : Below w.heap.size w w1 := by rw [hw1]; exact (Below.refl _ _).alloc (Nat.le_refl _) _
  have hbox : w1.heap[w.heap.size]? = some (.cells #[.slice m.A m.ros.length m.c, .int .i64 m.ticks, .slice m.sA m.spans.length m.sc, .slice m.wA m.wires.length m.wc] 31 (0, 0)) := by rw [hw1]; exact heap_alloc_new w _
  have hbad := pair_plan w1 m a c v (hf.new hb1) (hm.new hb1)
  have hgood := pair_of w1 m a c v (hf.new hb1) (hm.new hb1)
  have hlen : m.pl.code.length = m.ros.length := by simp [PM.pl]
  have h5 : planChk m.pl = 0 → m.ros.length ≤ 5 := fun he => by have := (planChk_ok he).most5; rw [hlen] at this; exact this
  generalize m.pl = p at HQ hbad hgood hlen h5
  obtain ⟨nn, hnn⟩ : ∃ nn, nn = m.ros.length := ⟨_, rfl⟩
  obtain ⟨ns, hns⟩ : ∃ ns, ns = m.spans.length := ⟨_, rfl⟩
  obtain ⟨nw, hnw⟩ : ∃ nw, nw = m.wires.length := ⟨_, rfl⟩
  rw [← hnn] at hlen h5
  rw [← hnn, ← hns, ← hnw] at hbad hgood hw1 hbox ⊢
  have HB1 := hid hb1
  have HBX := hid hbox
  have HLEN := hid hlen
  have x0 := blk_cell hbox 0
  have x1 := blk_cell hbox 1
  have x2 := blk_cell hbox 2
  have x3 := blk_cell hbox 3
  have hlt := blk_lt hbox
  simp at x0 x1 x2 x3
  clear hb1 hbox hm hf hnn hns hnw hlen
  by_cases he : planChk p = 0
  · have HE := hid he
    have hn5 := h5 he
    replace hgood := hgood he
    have HP := hid (planChk_ok he)
    clear hbad h5 he
    by_cases hpk : pokeOk p.code.length a c v = true
    · rw [if_pos hpk] at hgood
      have HPK := hid hpk
      have HGOOD := hid hgood
      clear hpk hgood
      go_enter Tryd.func49, Tryd.ntmps49
      go_wp2_with fail
      rw [← hw1]
      refine HGOOD.out.mono ?_
      rintro e w2 ⟨kb, M, mb, N, rfl, hpr⟩
      have HPR := hid hpr
      have hbx := (hpr.a.below.block _ hlt).trans HBX.out
      clear hpr x0 x1 x2 x3 hlt hw1
      have x0 := blk_cell hbx 0
      have x1 := blk_cell hbx 1
      have x2 := blk_cell hbx 2
      have x3 := blk_cell hbx 3
      have hlt := blk_lt hbx
      simp at x0 x1 x2 x3
      clear hbx
      by_cases hin : 0 ≤ b ∧ b < nn ∧ 0 ≤ ticks ∧ ticks ≤ 2000
      · obtain ⟨B, rfl⟩ : ∃ B : Nat, b = B := ⟨b.toNat, by omega⟩
        obtain ⟨T, rfl⟩ : ∃ T : Nat, ticks = T := ⟨ticks.toNat, by omega⟩
        obtain ⟨i0, i1, i2, i3⟩ := hin
        have hs := since_any HPR.out HP.out (kNew_ok HP.out) (poke_right (kNew_ok HP.out) (by rw [(kNew_ok HP.out).rooms]; exact HPK.out)) B T (by have := HLEN.out; omega) (by omega)
        unfold SinceV at hs
        rw [errV_zero] at hs
        have HS := hid hs
        have hE := hid (swayE_of (a := a) (c := c) (v := v) (b := B) (ticks := T) HE.out HPK.out ⟨by omega, by rw [HLEN.out]; omega, by omega, by omega⟩)
        clear hs
        go_wp2_with fail
        refine HS.out.mono ?_
        rintro e w3 ⟨rfl, hb3⟩
        have HB3 := hid hb3
        clear hb3 x0 x1 x2 x3 hlt
        go_wp2_with fail
        (first | go_ret2 | skip)
        rw [HQ.out, swayV_nat hE.out, hE.out]
        exact ⟨rfl, HB1.out.trans (HB3.out.mono HB1.out.size)⟩
      · have hE : Hid (swayE p a c v b ticks = 1) := by
          show _ = _
          unfold swayE
          rw [if_neg (fun e => e HE.out), if_neg (fun h => hin ⟨h.2.1, by have := h.2.2.1; rw [HLEN.out] at this; exact this, h.2.2.2.1, h.2.2.2.2⟩)]
        have HB2 := hid (HPR.out.a.below)
        have hb : b < 0 ∨ (0 ≤ b ∧ (nn : Int) ≤ b) ∨ (0 ≤ b ∧ b < nn ∧ ticks < 0) ∨ (0 ≤ b ∧ b < nn ∧ 0 ≤ ticks ∧ 2000 < ticks) := by omega
        clear hin
        rcases hb with hb | ⟨hb, hb1⟩ | ⟨hb, hb1, hb2⟩ | ⟨hb, hb1, hb2, hb3⟩
        all_goals
          go_wp2_with fail
          (first | go_ret2 | skip)
          rw [HQ.out]
          unfold swayV
          rw [hE.out, if_neg (by decide)]
          exact ⟨rfl, HB1.out.trans (HB2.out.mono HB1.out.size)⟩
    · rw [if_neg hpk] at hgood
      have hE : Hid (swayE p a c v b ticks = 1) := by
        show _ = _
        unfold swayE
        rw [if_neg (fun e => e HE.out), if_neg (fun h => hpk h.1)]
      unfold PairBad at hgood
      rw [errV_pos (by decide)] at hgood
      have HGOOD := hid hgood
      clear hpk hgood
      go_enter Tryd.func49, Tryd.ntmps49
      go_wp2_with fail
      rw [← hw1]
      refine HGOOD.out.mono ?_
      rintro e w2 ⟨pa, pb, rfl, hb2⟩
      have HB2 := hid hb2
      clear hb2 x0 x1 x2 x3 hlt hw1
      go_wp2_with fail
      (first | go_ret2 | skip)
      rw [HQ.out]
      unfold swayV
      rw [hE.out, if_neg (by decide)]
      exact ⟨rfl, HB1.out.trans (HB2.out.mono HB1.out.size)⟩
  · replace hbad := hbad he
    have hE : Hid (swayE p a c v b ticks = planChk p) := by
      show _ = _
      unfold swayE
      rw [if_pos he]
    have HE := hid he
    unfold PairBad at hbad
    generalize planChk p = q at hbad HE hE
    rw [errV_pos HE.out] at hbad
    have HBAD := hid hbad
    clear he hbad hgood h5
    go_enter Tryd.func49, Tryd.ntmps49
    go_wp2_with fail
    rw [← hw1]
    refine HBAD.out.mono ?_
    rintro e w2 ⟨pa, pb, rfl, hb2⟩
    have HB2 := hid hb2
    clear hb2 x0 x1 x2 x3 hlt hw1
    go_wp2_with fail
    (first | go_ret2 | skip)
    rw [HQ.out]
    unfold swayV
    rw [hE.out, if_neg HE.out]
    exact ⟨by rw [errV_pos HE.out]; rfl, HB1.out.trans (HB2.out.mono HB1.out.size)⟩
end Go.Proofs.YtongkiccglaniaaDoor
