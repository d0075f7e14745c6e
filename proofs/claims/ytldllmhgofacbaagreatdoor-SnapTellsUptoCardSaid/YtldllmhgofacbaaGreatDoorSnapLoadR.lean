/- Package snap: Load of any text, for every plan that is right. Conditions: the plan's memory, the text desk of the row. -/
import Derived.Test.YtldllmhgofacbaaGreatDoorSnapLU
import Derived.Test.YtldllmhgofacbaaGreatDoorRunU
namespace Go.Proofs.YtldllmhgofacbaaGreatDoor
open Go.RowKit
set_option maxRecDepth 100000

set_option maxHeartbeats 8000000 in
theorem sload_any (t : ByteArray) (ht : t.size ≤ 1073741824) (w : World) (m : PM) (hd : Desk w) (hf : Forms w) (hm : PlanAt w m) (he : planChk m.pl = 0) :
    Calls Tryz.prog 22 #[.agg #[.slice m.A m.ros.length m.c, .int .i64 m.ticks, .slice m.sA m.spans.length m.sc, .slice m.wA m.wires.length m.wc], .string t] w (SLoadGot w m.pl t) := by
  have hp := planChk_ok he
  have hml : m.pl.code.length = m.ros.length := by simp [PM.pl]
  have hmw : m.pl.wires.length = m.wires.length := rfl
  have hn5 : m.ros.length ≤ 5 := by rw [← hml]; exact hp.most5
  have hn1 : 1 ≤ m.ros.length := by rw [← hml]; exact hp.some1
  have hw12 : m.wires.length ≤ 12 := by rw [← hmw]; exact wires_few hp
  obtain ⟨cb, co, hA0, hcb, hcd⟩ : ∃ cb co, m.A = some ⟨cb, co, none⟩ ∧ cb < w.heap.size ∧ ∀ (i : Nat) (c : List Op), m.pl.code[i]? = some c → ∃ a cc, w.cell? ⟨cb, co + i, none⟩ = some (.slice a c.length cc) := by
    obtain ⟨cb, co, hA, hb, hx⟩ := hm.rows.2 (by omega)
    refine ⟨cb, co, hA, hb, fun i c hc => ?_⟩
    have hc' : (m.ros.map Ro.ops)[i]? = some c := hc
    rw [List.getElem?_map] at hc'
    obtain ⟨r, hr, rfl⟩ := Option.map_eq_some_iff.1 hc'
    refine ⟨r.A, r.c, hx i _ ?_⟩
    rw [show m.ros.flatMap Ro.cells = m.ros.map (fun r => Value.slice r.A r.ops.length r.c) from List.map_eq_flatMap.symm, List.getElem?_map, hr]
    rfl
  have hmc := hm.rowsW.1
  have hmc2 := hm.rowsW.2.1
  unfold maxLen at hmc2
  obtain ⟨w1, hw1⟩ : ∃ w1, w1 = w.alloc (.cells #[.slice m.A m.ros.length m.c, .int .i64 m.ticks, .slice m.sA m.spans.length m.sc, .slice m.wA m.wires.length m.wc] 26) := ⟨_, rfl⟩
  have hb1 : Below w.heap.size w w1 := by rw [hw1]; exact (Below.refl _ _).alloc (Nat.le_refl _) _
  have hbox : w1.heap[w.heap.size]? = some (.cells #[.slice m.A m.ros.length m.c, .int .i64 m.ticks, .slice m.sA m.spans.length m.sc, .slice m.wA m.wires.length m.wc] 26 (0, 0)) := by rw [hw1]; exact heap_alloc_new w _
  have HNEW := hid (new_run w1 m (hf.new hb1) (hm.new hb1) he)
  have HREAD : Hid (∀ w', Below w.heap.size w w' → Calls Tryz.prog 85 #[.agg #[.slice m.A m.ros.length m.c, .int .i64 m.ticks, .slice m.sA m.spans.length m.sc, .slice m.wA m.wires.length m.wc], .string t] w' (SReadGot (wordsOf m.ros.length m.wires.length) t w')) := hid fun w' hb =>
    sread_any t ht w' (hd.new hb) m.A m.sA m.wA m.ros.length m.c m.spans.length m.sc m.wires.length m.wc m.ticks (by omega) (by omega)
  obtain ⟨p, hpp⟩ : ∃ p, p = m.pl := ⟨_, rfl⟩
  rw [← hpp] at hp hml hmw HNEW hcd ⊢
  rw [hA0] at hw1 hbox HNEW HREAD ⊢
  have HCD := hid (And.intro hcb hcd)
  obtain ⟨nn, hnn⟩ : ∃ nn, m.ros.length = nn := ⟨_, rfl⟩
  obtain ⟨ns, hns⟩ : ∃ ns, m.spans.length = ns := ⟨_, rfl⟩
  obtain ⟨nw, hnw⟩ : ∃ nw, m.wires.length = nw := ⟨_, rfl⟩
  rw [hnn] at hml hn5 hn1
  rw [hnw] at hmw hw12
  rw [hnn, hns, hnw] at hw1 hbox HNEW HREAD ⊢
  rw [hnn] at hmc
  have HPL := hid (And.intro hml hmw)
  have HP := hid hp
  have HB1 := hid hb1
  have x0 := blk_cell hbox 0
  have x1 := blk_cell hbox 1
  have x2 := blk_cell hbox 2
  have x3 := blk_cell hbox 3
  have hlx := blk_lt hbox
  simp at x0 x1 x2 x3
  have HBOX := hid hbox
  have HXC : Hid (∀ W : World, Below w1.heap.size w1 W → W.cell? ⟨w.heap.size, 0, none⟩ = some (.slice (some ⟨cb, co, none⟩) nn m.c) ∧ W.cell? ⟨w.heap.size, 1, none⟩ = some (.int .i64 m.ticks) ∧ W.cell? ⟨w.heap.size, 2, none⟩ = some (.slice m.sA ns m.sc) ∧ W.cell? ⟨w.heap.size, 3, none⟩ = some (.slice m.wA nw m.wc) ∧ w.heap.size < W.heap.size) := hid fun W hb =>
    ⟨(hb.cell (p := ⟨w.heap.size, 0, none⟩) hlx).trans x0, (hb.cell (p := ⟨w.heap.size, 1, none⟩) hlx).trans x1, (hb.cell (p := ⟨w.heap.size, 2, none⟩) hlx).trans x2, (hb.cell (p := ⟨w.heap.size, 3, none⟩) hlx).trans x3, Nat.lt_of_lt_of_le hlx hb.size⟩
  clear hf hm hd he hb1 hbox hnn hns hnw hpp hml hmw hp ht hA0 hcb hcd
  go_enter Tryz.func22, Tryz.ntmps22
  go_wp2_with fail
  rw [← hw1]
  clear hw1
  refine HNEW.out.mono ?_
  rintro e w2 ⟨kb, M, rfl, hk⟩
  have HB2 := hid (HB1.out.trans (hk.below.mono HB1.out.size))
  have HK2 := hid hk
  obtain ⟨x0, x1, x2, x3, hlx⟩ := HXC.out w2 hk.below
  clear hk HNEW
  go_upto_region 4 with fail
  go_upto_region 5 with (go_at_call 85; refine (HREAD.out w2 HB2.out).mono ?_; rintro e w3 ⟨hb3, ⟨L, rs, A, n, c, htab, rfl, hta, hfr, hfrs⟩ | ⟨hno, A, n, c, rfl⟩⟩)
  rotate_left
  · have HB3 := hid (HB2.out.trans (hb3.mono HB2.out.size))
    have HNO := hid hno
    clear hb3 hno x0 x1 x2 x3 hlx
    go_wp2_with fail
    go_ret2
    exact .inr ⟨by rw [HPL.out.1, HPL.out.2]; exact HNO.out, rfl, HB3.out⟩
  have hlen : L.length = 1 + nn + nw := by rw [← wordsOf_len nn nw]; exact htab.len
  have HTABS := hid htab
  have HLEN := hid hlen
  obtain ⟨h0, hh0⟩ : ∃ h0, L[0]? = some h0 := ⟨L[0]'(by omega), List.getElem?_eq_getElem (by omega)⟩
  have HHD := hid (head_get hh0)
  have HH0 := hid hh0
  have htl := hta.len
  have HLINE : Hid (∀ (i : Nat) (ns : List Nat), L[i]? = some ns → ∃ (b o : Nat) (B : Option Addr) (d : Nat), A = some ⟨b, o, none⟩ ∧ b < w3.heap.size ∧ i < n ∧ n ≤ c ∧ c ≤ maxLen ∧ w3.cell? ⟨b, o + i, none⟩ = some (.slice B ns.length d) ∧ Sl w3 B 1 ns.length (ints (ns.map Int.ofNat)) ∧ ns.length ≤ d ∧ d ≤ maxLen) := hid fun i ns h => hta.line h
  obtain ⟨b, o, B, d, hA, hbl, _, hnc, hcm, hc0, hsl0, hd0, hdm⟩ := HLINE.out 0 h0 hh0
  subst hA
  rw [Nat.add_zero] at hc0
  have hn : n = 1 + nn + nw := by omega
  subst hn
  have HTA := hid hta
  have HFR := hid hfr
  have HFRS := hid hfrs
  have HB3 := hid (HB2.out.trans (hb3.mono HB2.out.size))
  have HK3 := hid (HK2.out.new hb3)
  have HSL0 := hid hsl0
  have HB23 := hid hb3
  unfold maxLen at hcm hdm
  obtain ⟨hl0, hhl0⟩ : ∃ hl0, hl0 = h0.length := ⟨_, rfl⟩
  rw [← hhl0] at hc0 hd0
  have HHL := hid hhl0
  clear hta hfr hfrs htab hlen hh0 htl hb3 hsl0 hhl0 x0 x1 x2 x3 hlx
  by_cases h1 : hl0 = 1
  rotate_left
  · go_wp2_with fail
    go_ret2
    have hE : loadE p L = 2 := load_head (by rw [HHD.out, ← HHL.out]; exact h1)
    exact .inl ⟨L, by rw [HPL.out.1, HPL.out.2]; exact HTABS.out, .inr ⟨by rw [hE]; decide, by rw [hE]; rfl, HB3.out⟩⟩
  subst h1
  obtain ⟨hb0, ho0, hB0, hbl0, hcell⟩ := sl_first HSL0.out (by intro h; have := HHL.out; rw [h] at this; simp at this)
  subst hB0
  have HSET := hid fun (w' : World) (hb : Below w3.heap.size w3 w') => kset_any (HK3.out.new hb).kat (gi h0 0)
  go_upto_region 7 with fail
  go_upto_region 8 with (go_at_call 86; refine (HSET.out w3 (Below.refl _ _)).mono ?_; rintro e w4 ⟨rfl, hk4, hkp4⟩)
  have HK4 := hid (HK3.out.ticked hk4 ⟨rfl, rfl⟩ hkp4 fun _ hj => .inl hj)
  obtain ⟨x0, x1, x2, x3, hlx⟩ := HXC.out w4 HK4.out.below
  have HKF : Hid (∀ j, TF kb M j → j < w2.heap.size) := hid HK2.out.kat.lt
  have hTA4 : TabAt w4 L rs (some ⟨b, o, none⟩) (1 + nn + nw) c := HTA.out.through hkp4 (fun j hj hk => by have := HFR.out j hj; have := HKF.out j (.inl hk); omega) (fun r hr j hj hk => by have := HFRS.out r hr j hj; have := HKF.out j (.inl hk); omega)
  have HTA4 := hid hTA4
  obtain ⟨b', o', B', d', hA', hbl4, _, _, _, hc4, _⟩ := hTA4.line HH0.out
  cases hA'
  have hcz : c ≠ 1 := by omega
  have hcz' : (c = 1) = False := eq_false hcz
  obtain ⟨A2, hA2, hA2w⟩ : ∃ A2, A2 = (if c = 1 + nn then some ⟨b, o, none⟩ else some (⟨b, o + (1 + nn), none⟩ : Addr)) ∧ (0 < nw → A2 = some ⟨b, o + (1 + nn), none⟩) := ⟨_, rfl, fun h => by rw [if_neg (by omega)]⟩
  have HA2 := hid hA2w
  have HKF3 : Hid (w2.heap.size ≤ w3.heap.size ∧ w3.heap.size ≤ w4.heap.size) := hid ⟨HB23.out.size, hkp4.size⟩
  obtain ⟨ie, hie, hz0, hz1, hz2⟩ := info_parts Tryz.infoSt
  clear hk4 hkp4 hTA4 hc0 hcell hbl hbl0 HSET hA2w
  have q1 : 1 + nn + nw - (1 + nn) = nw := by omega
  have q2 : 1 + nn - 1 = nn := by omega
  by_cases hcq : c = 1 + nn
  all_goals
    (first | rw [if_pos hcq] at hA2 | rw [if_neg hcq] at hA2)
    go_region
    go_upto_region 11 with fail
    rw [← hA2]
    (try simp only [Nat.add_sub_cancel_left, Nat.sub_self])
    clear hcq hA2 x0 x1 x2 x3 hlx hc4 hbl4
    obtain ⟨w5, hw5⟩ : ∃ w5, w5 = w4.drew := ⟨_, rfl⟩
    rw [← hw5]
    have HK5 : Hid (KRun w1 w5 kb p M ⟨(kNew p).rooms, (kNew p).lines, gi h0 0⟩) := hid (by rw [hw5]; exact HK4.out.new (Below.refl _ _).drew)
    have HTA5 : Hid (TabAt w5 L rs (some ⟨b, o, none⟩) (1 + nn + nw) c) := hid (by rw [hw5]; exact HTA4.out.drew)
    have HSZ : Hid (w2.heap.size ≤ w5.heap.size) := hid (by rw [hw5]; exact Nat.le_trans HKF3.out.1 HKF3.out.2)
    have HBE : Hid (∀ W : World, Below w5.heap.size w5 W → Below w.heap.size w W) := hid fun W hb => HB1.out.trans ((HK5.out.below.trans (hb.mono HK5.out.below.size)).mono HB1.out.size)
    clear hw5
    go_loopw [68, 12, 14, 15, 16, 4, 5] (fun v68 v12 v14 v15 v16 v4 v5 wr => ∃ (i : Nat) (S : Option Addr) (sc : Nat), i ≤ nn ∧ v68 = .int .i64 i ∧ v12 = .slice S i sc ∧ Grow w5 wr 106 8 S i sc (((stsT p L).take i).flatMap St.cells) ∧ ∀ ns ∈ (roomsT nn L).take i, roomShape ns = true) (fun v68 _ _ _ _ _ _ _ => nn - (intOf v68).toNat)
    case atStart => exact ⟨0, none, 0, by omega, rfl, rfl, Grow.nil (Below.refl _ _), by simp⟩
    case round =>
      obtain ⟨wo, rfl⟩ : ∃ wo : World, wo = wr := ⟨_, rfl⟩
      obtain ⟨i, S, sc, hi, rfl, rfl, hg, hsh⟩ := hrel
      have HG := hid hg
      have HSH := hid hsh
      clear hg hsh
      by_cases hin : i < nn
      · obtain ⟨nl, hnl⟩ : ∃ nl, L[1 + i]? = some nl := ⟨L[1 + i]'(by have := HLEN.out; omega), List.getElem?_eq_getElem (by have := HLEN.out; omega)⟩
        obtain ⟨b', o', B, d, hA', hbl, _, _, _, hcl, hsl, hd, hdm⟩ := (HTA5.out.new HG.out.below).line hnl
        cases hA'
        rw [← Nat.add_assoc] at hcl
        have HNL := hid hnl
        have HST := hid fun (w' : World) (hb : Below wo.heap.size wo w') => sstate_any w' B nl.length d nl rfl hd (hsl.new hb)
        obtain ⟨sh, hsh⟩ : ∃ sh, sh = roomShape nl := ⟨_, rfl⟩
        obtain ⟨st, hst⟩ : ∃ st, st = if roomShape nl = true then stOf nl else St.zero := ⟨_, rfl⟩
        rw [← hst, ← hsh] at HST
        obtain ⟨ln, hln⟩ : ∃ ln, ln = nl.length := ⟨_, rfl⟩
        rw [← hln] at hcl HST
        have HSS := hid (And.intro hsh hst)
        unfold maxLen at hdm
        clear hsl hd hnl hsh hst hln
        unfold SStateGot stV at HST
        obtain ⟨pc, c0, c1, c2, c3, c4, c5, fl⟩ := st
        simp only [] at HST
        go_upto_region 14 with (go_at_call 87; refine (HST.out wo (Below.refl _ _)).mono ?_; rintro e w7 ⟨rfl, hb7⟩)
        cases sh with
        | false =>
          have hE : loadE p L = 2 := load_room (ns := nl) (List.mem_of_getElem? (i := i) (by rw [HPL.out.1, rooms_get hin]; exact HNL.out)) HSS.out.1.symm
          have HBF := hid (HBE.out _ ((HG.out.below.trans (hb7.mono HG.out.below.size)).alloc (Nat.le_trans HG.out.below.size hb7.size) (.cells #[.int .i64 pc, .int .i64 c0, .int .i64 c1, .int .i64 c2, .int .i64 c3, .int .i64 c4, .int .i64 c5, .bool fl] 106)))
          clear hb7
          go_wp2_with fail
          go_ret2
          exact .inl ⟨L, by rw [HPL.out.1, HPL.out.2]; exact HTABS.out, .inr ⟨by rw [hE]; decide, by rw [hE]; rfl, HBF.out⟩⟩
        | true =>
          have hse : (⟨pc, c0, c1, c2, c3, c4, c5, fl⟩ : St) = stOf nl := by rw [HSS.out.2, if_pos HSS.out.1.symm]
          have hget : (stsT p L)[i]? = some ⟨pc, c0, c1, c2, c3, c4, c5, fl⟩ := by rw [hse]; exact stsT_get (by rw [HPL.out.1]; exact hin) HNL.out
          obtain ⟨w8, hw8⟩ : ∃ w8, w8 = w7.alloc (.cells #[.int .i64 pc, .int .i64 c0, .int .i64 c1, .int .i64 c2, .int .i64 c3, .int .i64 c4, .int .i64 c5, .bool fl] 106) := ⟨_, rfl⟩
          have hb8 : Below w7.heap.size w7 w8 := by rw [hw8]; exact (Below.refl _ _).alloc (Nat.le_refl _) _
          have hx8 : w8.heap[w7.heap.size]? = some (.cells #[.int .i64 pc, .int .i64 c0, .int .i64 c1, .int .i64 c2, .int .i64 c3, .int .i64 c4, .int .i64 c5, .bool fl] 106 (0, 0)) := by rw [hw8]; exact heap_alloc_new w7 _
          rw [← hw8]
          have HG8 := hid ((HG.out.new hb7).new hb8)
          have HGET := hid hget
          have z0 := blk_cell hx8 0
          have z1 := blk_cell hx8 1
          have z2 := blk_cell hx8 2
          have z3 := blk_cell hx8 3
          have z4 := blk_cell hx8 4
          have z5 := blk_cell hx8 5
          have z6 := blk_cell hx8 6
          have z7 := blk_cell hx8 7
          have hlz := blk_lt hx8
          simp at z0 z1 z2 z3 z4 z5 z6 z7
          clear hw8 hb8 hx8 hb7 hget hse
          go_wp2_with (at_builtin; refine wpList_append_row _ rfl _ _ 95 rfl 106 ie _ 8 64 Tryz.underlying95 hie hz0 hz1 hz2 rfl (by decide) S i sc (((stsT p L).take i).flatMap St.cells) rfl ?c0 (some ⟨w8.heap.size, 0, none⟩) 1 1 (St.cells ⟨pc, c0, c1, c2, c3, c4, c5, fl⟩) rfl ?c1 ?c2 ?c3 ?c4 ?_)
          case c0 => exact HG8.out.row.new ((Below.refl _ _).alloc (Nat.le_refl _) _)
          case c1 => exact sl_blk (heap_alloc_new w8 _) 8 1 _ rfl rfl
          case c2 => exact state_cells1 _
          case c3 => unfold maxLen; omega
          case c4 => omega
          intro S2 sc2 w9 hr9 hk9 hn9
          have HG9 := hid (HG8.out.more ((Below.refl _ _).alloc (Nat.le_refl _) _) hr9 hk9 fun j hj => (hn9 j hj).imp_right fun h => by simp at h ⊢; omega)
          clear hr9 hk9 hn9 z0 z1 z2 z3 z4 z5 z6 z7 hlz
          go_wp2_with fail
          go_roundw
          case rel =>
            refine ⟨i + 1, S2, sc2, by omega, by go_num, rfl, by rw [take_succ_st HGET.out]; exact HG9.out, fun x hx => ?_⟩
            rw [List.take_add_one, rooms_get hin, HNL.out] at hx
            rcases List.mem_append.1 hx with h | h
            · exact HSH.out x h
            · have : x = nl := by simpa using h
              rw [this]; exact HSS.out.1.symm
          case measure => simp [intOf]; omega
      · obtain rfl : nn = i := by omega
        have hall : ∀ x ∈ roomsT nn L, roomShape x = true := by
          have hl := (tab_parts (p := p) (L := L) (by rw [HPL.out.1, HPL.out.2]; exact HLEN.out)).2.1
          rw [HPL.out.1] at hl
          intro x hx
          exact HSH.out x (by rw [List.take_of_length_le (by omega)]; exact hx)
        have HALL := hid hall
        have HKW := hid (HK5.out.new HG.out.below)
        have HTW := hid (HTA5.out.new HG.out.below)
        clear hall
        go_upto_region 19 with fail
        go_loop [87, 18, 4, 5] (fun v87 v18 v4 v5 => ∃ k : Nat, k ≤ nw ∧ v87 = .int .i64 k ∧ ∀ x ∈ (wiresT nn L).take k, wireShape x = true) (fun v87 _ _ _ => nw - (intOf v87).toNat)
        case atStart => exact ⟨0, by omega, rfl, by simp⟩
        case round =>
          obtain ⟨k, hk, rfl, hws⟩ := hrel
          have HWS := hid hws
          clear hws
          by_cases hkn : k < nw
          · have hA := HA2.out (by omega)
            subst hA
            obtain ⟨nl, hnl⟩ : ∃ nl, L[1 + nn + k]? = some nl := ⟨L[1 + nn + k]'(by have := HLEN.out; omega), List.getElem?_eq_getElem (by have := HLEN.out; omega)⟩
            obtain ⟨b', o', B, d, hA', hbl, _, _, _, hcl, _⟩ := HTW.out.line hnl
            cases hA'
            rw [← Nat.add_assoc o (1 + nn) k] at hcl
            obtain ⟨ln, hln⟩ : ∃ ln, ln = nl.length := ⟨_, rfl⟩
            rw [← hln] at hcl
            have HLN := hid hln
            have HNL := hid hnl
            clear hln hnl
            by_cases hz : ln = 0
            · have hE : loadE p L = 2 := load_wire (ns := nl) (List.mem_of_getElem? (i := k) (by rw [HPL.out.1, wires_get]; exact HNL.out)) (by
                have h0 : nl = [] := List.length_eq_zero_iff.1 (by rw [← HLN.out]; exact hz)
                rw [h0]; rfl)
              have HEE := hid hE
              clear hE
              subst hz
              have HBF := hid (HBE.out _ HG.out.below)
              go_wp2_with fail
              go_ret2
              exact .inl ⟨L, by rw [HPL.out.1, HPL.out.2]; exact HTABS.out, .inr ⟨by rw [HEE.out]; decide, by rw [HEE.out]; rfl, HBF.out⟩⟩
            · have hz' : ((ln : Int) == 0) = false := beq_eq_false_iff_ne.2 (by omega)
              go_wp2_with fail
              go_round
              case rel =>
                refine ⟨k + 1, by omega, by go_num, fun x hx => ?_⟩
                rw [List.take_add_one, wires_get, HNL.out] at hx
                rcases List.mem_append.1 hx with h | h
                · exact HWS.out x h
                · have : x = nl := by simpa using h
                  rw [this]
                  exact decide_eq_true (fun h0 => hz (by rw [HLN.out, h0]; rfl))
              case measure => simp [intOf]; omega
          · obtain rfl : nw = k := by omega
            have hshape : shapeOk p L = true := by
              have hparts := (tab_parts (p := p) (L := L) (by rw [HPL.out.1, HPL.out.2]; exact HLEN.out)).2
              refine shape_yes (by rw [HHD.out, ← HHL.out]) (by rw [HPL.out.1]; exact HALL.out) fun x hx => HWS.out x ?_
              rw [HPL.out.1] at hx
              rw [HPL.out.1, HPL.out.2] at hparts
              rw [List.take_of_length_le (by omega)]; exact hx
            have HSHAPE := hid hshape
            have hmid : LMid w1 kb p w2.heap.size wo.heap.size L rs (some ⟨b, o, none⟩) (1 + nn + nw) c (stsT p L) S nn sc M ⟨mix (stsT p L) (kNew p).rooms 0, (kNew p).lines, gi h0 0⟩ wo := by
              have hl : (stsT p L).length = nn := by rw [stsT_len (by rw [HPL.out.1, HPL.out.2]; exact HLEN.out), HPL.out.1]
              have hrow := HG.out.row
              rw [take_all_st hl] at hrow
              exact { run := by rw [mix_zero]; exact HKW.out
                      tab := HTW.out
                      row := hrow
                      kf := fun j hj => .inl (HKF.out j hj)
                      tf := fun j hj => ⟨HFR.out j hj, HTW.out.row.lt j hj⟩
                      rf := fun r hr j hj => ⟨HFRS.out r hr j hj, (HTW.out.rows r hr).lt j hj⟩
                      sf := fun j hj => ⟨Nat.le_trans HSZ.out (HG.out.fresh j hj), HG.out.row.lt j hj⟩
                      big := Nat.le_refl _ }
            have HMID := hid hmid
            clear hshape hmid
            go_upto_region 25 with fail
            go_loopw [98, 19, 20, 4, 5] (fun v98 v19 v20 v4 v5 wr => ∃ (i : Nat) (M' : KM), i ≤ nn ∧ v98 = .int .i64 i ∧ LMid w1 kb p w2.heap.size wo.heap.size L rs (some ⟨b, o, none⟩) (1 + nn + nw) c (stsT p L) S nn sc M' ⟨mix (stsT p L) (kNew p).rooms i, (kNew p).lines, gi h0 0⟩ wr ∧ ∀ (j : Nat) (cc : List Op) (ns' : List Nat), j < i → p.code[j]? = some cc → (roomsT nn L)[j]? = some ns' → roomFits cc ns' = true) (fun v98 _ _ _ _ _ => nn - (intOf v98).toNat)
            case atStart => exact ⟨0, M, by omega, rfl, HMID.out, fun j _ _ hj => absurd hj (by omega)⟩
            case round =>
              obtain ⟨wq, rfl⟩ : ∃ wq : World, wq = wr := ⟨_, rfl⟩
              obtain ⟨i, M3, hi, rfl, hmid, hfit⟩ := hrel
              have HFIT := hid hfit
              have HMD := hid hmid
              clear hfit hmid HMID
              by_cases hin : i < nn
              · obtain ⟨nl, hnl⟩ : ∃ nl, L[1 + i]? = some nl := ⟨L[1 + i]'(by have := HLEN.out; omega), List.getElem?_eq_getElem (by have := HLEN.out; omega)⟩
                obtain ⟨cd, hcd⟩ : ∃ cd, p.code[i]? = some cd := ⟨p.code[i]'(by rw [HPL.out.1]; exact hin), List.getElem?_eq_getElem (by rw [HPL.out.1]; exact hin)⟩
                have hst := stsT_get (p := p) (by rw [HPL.out.1]; exact hin) hnl
                obtain ⟨st, hste⟩ : ∃ st, st = stOf nl := ⟨_, rfl⟩
                rw [← hste] at hst
                obtain ⟨sb, so, hSA, ⟨s0, s1, s2, s3, s4, s5, s6, s7⟩, hsbl, _, hsnc, hscm⟩ := row_st HMD.out.row hst
                subst hSA
                obtain ⟨ca, ccap, hcc⟩ := HCD.out.2 i cd hcd
                have hbq : Below w.heap.size w wq := HB1.out.trans (HMD.out.run.below.mono HB1.out.size)
                have hccq := (hbq.cell (p := ⟨cb, co + i, none⟩) HCD.out.1).trans hcc
                have hx0 := (HXC.out wq HMD.out.run.below).1
                have hxl := (HXC.out wq HMD.out.run.below).2.2.2.2
                have hcbq := Nat.lt_of_lt_of_le HCD.out.1 hbq.size
                obtain ⟨kl, hkl⟩ : ∃ kl, kl = cd.length := ⟨_, rfl⟩
                rw [← hkl] at hccq
                obtain ⟨v, hv⟩ : ∃ v, v = stOk st (kl : Int) := ⟨_, rfl⟩
                have hrt := fun (w' : World) => state_right st (kl : Int) w'
                rw [← hv] at hrt
                have hget := hst
                obtain ⟨pc, c0, c1, c2, c3, c4, c5, fl⟩ := st
                simp only [] at s0 s1 s2 s3 s4 s5 s6 s7 hrt
                have HRT := hid hrt
                have HV : Hid (roomFits cd nl = v) := hid (by rw [hv, hkl, hste]; rfl)
                have HCDI := hid hcd
                have HNL := hid hnl
                have HGET := hid hget
                unfold maxLen at hscm
                clear hrt hv hkl hste hcd hnl hget hst hcc
                go_upto_region 27 with fail
                obtain ⟨w6, hw6⟩ : ∃ w6, w6 = wq.alloc (.cells #[.int .i64 pc, .int .i64 c0, .int .i64 c1, .int .i64 c2, .int .i64 c3, .int .i64 c4, .int .i64 c5, .bool fl] 106) := ⟨_, rfl⟩
                have hb6 : Below wq.heap.size wq w6 := by rw [hw6]; exact (Below.refl _ _).alloc (Nat.le_refl _) _
                have hx6 : w6.heap[wq.heap.size]? = some (.cells #[.int .i64 pc, .int .i64 c0, .int .i64 c1, .int .i64 c2, .int .i64 c3, .int .i64 c4, .int .i64 c5, .bool fl] 106 (0, 0)) := by rw [hw6]; exact heap_alloc_new wq _
                rw [← hw6]
                have y0 := blk_cell hx6 0
                have y1 := blk_cell hx6 1
                have y2 := blk_cell hx6 2
                have y3 := blk_cell hx6 3
                have y4 := blk_cell hx6 4
                have y5 := blk_cell hx6 5
                have y6 := blk_cell hx6 6
                have y7 := blk_cell hx6 7
                have hl6 := blk_lt hx6
                simp at y0 y1 y2 y3 y4 y5 y6 y7
                have yb := (hb6.cell (p := ⟨w.heap.size, 0, none⟩) hxl).trans hx0
                have yc := (hb6.cell (p := ⟨cb, co + i, none⟩) hcbq).trans hccq
                have HS0 := hid (And.intro y0 (And.intro y1 (And.intro y2 (And.intro y3 (And.intro y4 (And.intro y5 (And.intro y6 (And.intro y7 (And.intro yb yc)))))))))
                have hxl6 := Nat.lt_of_lt_of_le hxl hb6.size
                have hcb6 := Nat.lt_of_lt_of_le hcbq hb6.size
                have HSK : Hid (∀ w' : World, Below w6.heap.size w6 w' → w'.cell? ⟨wq.heap.size, 0, none⟩ = some (.int .i64 pc) ∧ w'.cell? ⟨wq.heap.size, 1, none⟩ = some (.int .i64 c0) ∧ w'.cell? ⟨wq.heap.size, 2, none⟩ = some (.int .i64 c1) ∧ w'.cell? ⟨wq.heap.size, 3, none⟩ = some (.int .i64 c2) ∧ w'.cell? ⟨wq.heap.size, 4, none⟩ = some (.int .i64 c3) ∧ w'.cell? ⟨wq.heap.size, 5, none⟩ = some (.int .i64 c4) ∧ w'.cell? ⟨wq.heap.size, 6, none⟩ = some (.int .i64 c5) ∧ w'.cell? ⟨wq.heap.size, 7, none⟩ = some (.bool fl) ∧ w'.cell? ⟨w.heap.size, 0, none⟩ = some (.slice (some ⟨cb, co, none⟩) nn m.c) ∧ w'.cell? ⟨cb, co + i, none⟩ = some (.slice ca kl ccap)) := hid fun w' hb =>
                  ⟨(hb.cell (p := ⟨wq.heap.size, 0, none⟩) hl6).trans HS0.out.1, (hb.cell (p := ⟨wq.heap.size, 1, none⟩) hl6).trans HS0.out.2.1, (hb.cell (p := ⟨wq.heap.size, 2, none⟩) hl6).trans HS0.out.2.2.1, (hb.cell (p := ⟨wq.heap.size, 3, none⟩) hl6).trans HS0.out.2.2.2.1, (hb.cell (p := ⟨wq.heap.size, 4, none⟩) hl6).trans HS0.out.2.2.2.2.1, (hb.cell (p := ⟨wq.heap.size, 5, none⟩) hl6).trans HS0.out.2.2.2.2.2.1, (hb.cell (p := ⟨wq.heap.size, 6, none⟩) hl6).trans HS0.out.2.2.2.2.2.2.1, (hb.cell (p := ⟨wq.heap.size, 7, none⟩) hl6).trans HS0.out.2.2.2.2.2.2.2.1, (hb.cell (p := ⟨w.heap.size, 0, none⟩) hxl6).trans HS0.out.2.2.2.2.2.2.2.2.1, (hb.cell (p := ⟨cb, co + i, none⟩) hcb6).trans HS0.out.2.2.2.2.2.2.2.2.2⟩
                have HM6 := hid (HMD.out.new hb6)
                clear hw6 hb6 hx6 y0 y1 y2 y3 y4 y5 y6 y7 yb yc s0 s1 s2 s3 s4 s5 s6 s7 hx0 hxl hccq hcbq hsbl hbq HMD
                go_region_held3 (fun w' => w'.cell? ⟨wq.heap.size, 0, none⟩ = some (.int .i64 pc) ∧ w'.cell? ⟨wq.heap.size, 1, none⟩ = some (.int .i64 c0) ∧ w'.cell? ⟨wq.heap.size, 2, none⟩ = some (.int .i64 c1) ∧ w'.cell? ⟨wq.heap.size, 3, none⟩ = some (.int .i64 c2) ∧ w'.cell? ⟨wq.heap.size, 4, none⟩ = some (.int .i64 c3) ∧ w'.cell? ⟨wq.heap.size, 5, none⟩ = some (.int .i64 c4) ∧ w'.cell? ⟨wq.heap.size, 6, none⟩ = some (.int .i64 c5) ∧ w'.cell? ⟨wq.heap.size, 7, none⟩ = some (.bool fl) ∧ w'.cell? ⟨w.heap.size, 0, none⟩ = some (.slice (some ⟨cb, co, none⟩) nn m.c) ∧ w'.cell? ⟨cb, co + i, none⟩ = some (.slice ca kl ccap))
                  (exact HS0.out)
                  (first | (go_at_call 88; refine (HRT.out _).mono ?_; rintro e w7 ⟨rfl, hb7⟩; have HB7 := hid ((Below.refl w6.heap.size w6).drew.trans hb7); replace HS0 := hid (HSK.out w7 HB7.out); clear hb7))
                all_goals
                  have HM7 := hid (HM6.out.new HB7.out)
                  obtain ⟨y0, y1, y2, y3, y4, y5, y6, y7, _, _⟩ := HS0.out
                  have hl7 := Nat.lt_of_lt_of_le hl6 HB7.out.size
                  cases v with
                  | false =>
                    have hE : loadE p L = 1 := fit_room HSHAPE.out HCDI.out (by rw [HPL.out.1, rooms_get hin]; exact HNL.out) HV.out
                    have HEE := hid hE
                    have HBF := hid (HB1.out.trans (HM7.out.run.below.mono HB1.out.size))
                    clear hE
                    go_wp2_with fail
                    go_ret2
                    exact .inl ⟨L, by rw [HPL.out.1, HPL.out.2]; exact HTABS.out, .inr ⟨by rw [HEE.out]; decide, by rw [HEE.out]; rfl, HBF.out⟩⟩
                  | true =>
                    have hsl : (stsT p L).length = nn := by rw [stsT_len (by rw [HPL.out.1, HPL.out.2]; exact HLEN.out), HPL.out.1]
                    have hrl : (kNew p).rooms.length = nn := by rw [show (kNew p).rooms = p.code.map fun _ => St.zero from rfl, List.length_map, HPL.out.1]
                    have hz : (mix (stsT p L) (kNew p).rooms i)[i]? = some St.zero := by
                      rw [mix_get (by omega), show (kNew p).rooms = p.code.map fun _ => St.zero from rfl, List.getElem?_map, HCDI.out]; rfl
                    have HPUT := hid (kput_any i St.zero ⟨pc, c0, c1, c2, c3, c4, c5, fl⟩ (by show (mix (stsT p L) (kNew p).rooms i).length ≤ 5; rw [mix_len (by omega)]; omega) HM7.out.run.kat hz)
                    have HMS : Hid ((mix (stsT p L) (kNew p).rooms i).set i ⟨pc, c0, c1, c2, c3, c4, c5, fl⟩ = mix (stsT p L) (kNew p).rooms (i + 1)) := hid (mix_set HGET.out (by omega))
                    clear hsl hrl hz
                    go_wp2_with (go_at_call 89; refine HPUT.out.mono ?_; rintro e w9 ⟨rfl, hk9, hkp9⟩; rw [HMS.out] at hk9; have HM9 := hid (HM7.out.went0 hk9 hkp9); clear hk9 hkp9)
                    go_roundw
                    case rel =>
                      refine ⟨i + 1, M3, by omega, by go_num, HM9.out, fun j cc ns' hj h1 h2 => ?_⟩
                      by_cases hji : j < i
                      · exact HFIT.out j cc ns' hji h1 h2
                      · obtain rfl : j = i := by omega
                        rw [HCDI.out] at h1
                        rw [rooms_get hin, HNL.out] at h2
                        cases h1
                        cases h2
                        exact HV.out
                    case measure => simp [intOf]; omega
              · obtain rfl : nn = i := by omega
                have hmid2 : LMid w1 kb p w2.heap.size wo.heap.size L rs (some ⟨b, o, none⟩) (1 + nn + nw) c (stsT p L) S nn sc M3 ⟨stsT p L, mix (lnsT p L) (kNew p).lines 0, gi h0 0⟩ wq := by
                  have h := HMD.out
                  rw [mix_full (by rw [stsT_len (by rw [HPL.out.1, HPL.out.2]; exact HLEN.out), HPL.out.1]) (by rw [show (kNew p).rooms = p.code.map fun _ => St.zero from rfl, List.length_map, HPL.out.1])] at h
                  rw [mix_zero]; exact h
                have HMID2 := hid hmid2
                clear hmid2 HMD
                go_upto_region 32 with fail
                go_loopw [120, 21, 22, 4, 5] (fun v120 v21 v22 v4 v5 wr => ∃ (k : Nat) (M' : KM), k ≤ nw ∧ v120 = .int .i64 k ∧ LMid w1 kb p w2.heap.size wo.heap.size L rs (some ⟨b, o, none⟩) (1 + nn + nw) c (stsT p L) S nn sc M' ⟨stsT p L, mix (lnsT p L) (kNew p).lines k, gi h0 0⟩ wr ∧ ∀ (j : Nat) (x : Wire) (ns' : List Nat), j < k → p.wires[j]? = some x → (wiresT nn L)[j]? = some ns' → wireFits x ns' = true) (fun v120 _ _ _ _ _ => nw - (intOf v120).toNat)
                case atStart => exact ⟨0, M3, by omega, rfl, HMID2.out, fun j _ _ hj => absurd hj (by omega)⟩
                case round =>
                  obtain ⟨wp, rfl⟩ : ∃ wp : World, wp = wr := ⟨_, rfl⟩
                  obtain ⟨k, M4, hk, rfl, hmid, hfit⟩ := hrel
                  have HFT := hid hfit
                  have HMD := hid hmid
                  clear hfit hmid HMID2
                  by_cases hkn : k < nw
                  · have hA := HA2.out (by omega)
                    subst hA
                    obtain ⟨nl, hnl⟩ : ∃ nl, L[1 + nn + k]? = some nl := ⟨L[1 + nn + k]'(by have := HLEN.out; omega), List.getElem?_eq_getElem (by have := HLEN.out; omega)⟩
                    obtain ⟨x, hx⟩ : ∃ x, p.wires[k]? = some x := ⟨p.wires[k]'(by rw [HPL.out.2]; exact hkn), List.getElem?_eq_getElem (by rw [HPL.out.2]; exact hkn)⟩
                    obtain ⟨b', o', B, d, hA', hbl, _, _, _, hcl, hsl, hd, hdm⟩ := HMD.out.tab.line hnl
                    cases hA'
                    rw [← Nat.add_assoc o (1 + nn) k] at hcl
                    have hne : nl ≠ [] := by
                      have h := HSHAPE.out
                      unfold shapeOk at h
                      rw [Bool.and_eq_true, Bool.and_eq_true, List.all_eq_true, List.all_eq_true] at h
                      exact of_decide_eq_true (h.2 nl (List.mem_of_getElem? (i := k) (by rw [HPL.out.1, wires_get]; exact hnl)))
                    obtain ⟨nb, no, hBA, hnbl, hg0⟩ := sl_first hsl hne
                    subst hBA
                    obtain ⟨ln, hln⟩ : ∃ ln, ln = nl.length := ⟨_, rfl⟩
                    obtain ⟨g0, hg⟩ : ∃ g0, g0 = gi nl 0 := ⟨_, rfl⟩
                    obtain ⟨rr, hrr, hrB⟩ := HMD.out.tab.lineA hnl (by rw [Nat.add_assoc] at hcl; exact hcl)
                    rw [← hg] at hg0
                    have hrest := sl_rest hsl hne
                    have htail : nl.tail.length = ln - 1 := by rw [List.length_tail, hln]
                    have hln1 : 1 ≤ ln := by rw [hln]; exact List.length_pos_iff.2 hne
                    rw [← hln] at hcl hd
                    obtain ⟨q, hq⟩ : ∃ q, q = wireFits x nl := ⟨_, rfl⟩
                    have hxk : (mix (lnsT p L) (kNew p).lines k)[k]? = some ⟨x, [], 0⟩ := by
                      rw [mix_get (by rw [lnsT_len (by rw [HPL.out.1, HPL.out.2]; exact HLEN.out), HPL.out.2]; omega), show (kNew p).lines = p.wires.map fun x => (⟨x, [], 0⟩ : Ln) from rfl, List.getElem?_map, hx]; rfl
                    have hdeep : x.deep ≤ 6 := by
                      have hm : (⟨x, [], 0⟩ : Ln) ∈ (kNew p).lines := List.mem_of_getElem? (i := k) (by rw [show (kNew p).lines = p.wires.map fun x => (⟨x, [], 0⟩ : Ln) from rfl, List.getElem?_map, hx]; rfl)
                      exact (wire_kind ((kNew_ok HP.out).lns _ hm).wire).2.2
                    have HFILL : Hid (∀ (w' : World) (HA : Option Addr) (n' cc : Nat), Below wp.heap.size wp w' → ln - 1 = n' → Sl wp HA 1 n' (ints (nl.tail.map Int.ofNat)) → Calls Tryz.prog 90 #[.pointer (some ⟨kb, 0, none⟩), .int .i64 k, .agg #[.slice HA n' cc, .int .i64 g0]] w' (KFilled w' kb M4 ⟨stsT p L, (mix (lnsT p L) (kNew p).lines k).set k ⟨x, nl.tail.map Int.ofNat, g0⟩, gi h0 0⟩ q)) := hid fun w' HA n' cc hb hn' hs' => by
                      rw [hq, ← fits_same, ← hg]
                      exact kfill_any (HMD.out.new hb).run.kat hxk hdeep HA n' cc (nl.tail.map Int.ofNat) g0 (by rw [List.length_map, htail]; exact hn') (hs'.new hb)
                    have HNK : Hid (¬ KF kb M4 nb) := hid fun h => by
                      have h1 := HMD.out.kf nb (.inl h)
                      have h2 := HMD.out.rf rr hrr nb (by rw [hrB]; rfl)
                      omega
                    have HKEEP : Hid (∀ (e : Ending) (w'' : World) (K' : Kst), KFilled wp.drew kb M4 K' q e w'' → w''.cell? ⟨nb, no, none⟩ = some (.int .i64 g0)) := hid fun e w'' K' h => by
                      obtain ⟨_, h1, h2⟩ := h
                      cases q with
                      | true =>
                        obtain ⟨M', _, _, hkp, _⟩ := h1 rfl
                        exact (World.cell?_of_block (hkp.block nb hnbl HNK.out)).trans hg0
                      | false => exact ((h2 rfl).cell (p := ⟨nb, no, none⟩) hnbl).trans hg0
                    have HLS : Hid ((mix (lnsT p L) (kNew p).lines k).set k ⟨x, nl.tail.map Int.ofNat, g0⟩ = mix (lnsT p L) (kNew p).lines (k + 1)) := hid (mix_set (by rw [hg]; exact lnsT_get hx (by rw [HPL.out.1]; exact hnl)) (by rw [show (kNew p).lines = p.wires.map fun x => (⟨x, [], 0⟩ : Ln) from rfl, List.length_map, HPL.out.2]; exact hkn))
                    rw [HLS.out] at HFILL
                    have HQ := hid hq
                    have HNL := hid hnl
                    have HX := hid hx
                    have HREST := hid hrest
                    have HTL := hid htail
                    have HS0 := hid hg0
                    have hi1 : (1 : Int) ≤ (ln : Int) := by omega
                    have hi2 : (ln : Int) ≤ (d : Int) := by omega
                    have hi0 : (0 : Int) < (ln : Int) := by omega
                    have hi3 : 0 < ln := by omega
                    have hi4 : ¬ ln = 0 := by omega
                    unfold maxLen at hdm
                    clear hln hg hnl hx hrest hsl hq hxk hdeep htail hrr hrB hg0 hne
                    have hsp : (d = 1 ∧ ln = 1) ∨ d ≠ 1 := by omega
                    rcases hsp with ⟨hd1, hl1⟩ | hd1
                    · subst hd1
                      subst hl1
                      have ht : nl.tail = [] := List.length_eq_zero_iff.1 HTL.out
                      have HRN : Hid (Sl wp (some ⟨nb, no, none⟩) 1 0 (ints (nl.tail.map Int.ofNat))) := hid (by rw [ht]; exact Sl.nil wp _ 1)
                      clear ht
                      go_upto_region 34 with fail
                      go_region_held3 (fun w' => w'.cell? ⟨nb, no, none⟩ = some (.int .i64 g0))
                        (exact HS0.out)
                        (first | (go_at_call 90; refine (HFILL.out wp.drew _ _ _ (Below.refl _ _).drew rfl HRN.out).mono ?_; rintro e w7 hf7; have he := hf7.1; subst he; replace HS0 := hid (HKEEP.out _ w7 _ hf7); have HF7 := hid hf7; clear hf7))
                      all_goals
                        cases q with
                        | false =>
                          have hE : loadE p L = 1 := fit_wire HSHAPE.out HX.out (by rw [HPL.out.1, wires_get]; exact HNL.out) HQ.out.symm
                          have HEE := hid hE
                          have HBF := hid (HB1.out.trans (((HMD.out.new (Below.refl wp.heap.size wp).drew).new (HF7.out.2.2 rfl)).run.below.mono HB1.out.size))
                          clear hE
                          go_wp2_with fail
                          go_ret2
                          exact .inl ⟨L, by rw [HPL.out.1, HPL.out.2]; exact HTABS.out, .inr ⟨by rw [HEE.out]; decide, by rw [HEE.out]; rfl, HBF.out⟩⟩
                        | true =>
                          obtain ⟨M', hk7, hpm, hkp, hnw⟩ := HF7.out.2.1 rfl
                          have HM7 := hid ((HMD.out.new (Below.refl wp.heap.size wp).drew).went hk7 hpm hkp hnw)
                          clear hk7 hpm hkp hnw
                          go_wp2_with fail
                          go_roundw
                          case rel =>
                            refine ⟨k + 1, M', by omega, by go_num, HM7.out, fun j y ns' hj h1 h2 => ?_⟩
                            by_cases hji : j < k
                            · exact HFT.out j y ns' hji h1 h2
                            · obtain rfl : j = k := by omega
                              rw [HX.out] at h1
                              rw [wires_get, HNL.out] at h2
                              cases h1
                              cases h2
                              exact HQ.out.symm
                          case measure => simp [intOf]; omega
                    · have hd1' : (d = 1) = False := eq_false hd1
                      have HRN : Hid (Sl wp (some ⟨nb, no + 1, none⟩) 1 (ln - 1) (ints (nl.tail.map Int.ofNat))) := hid (by rw [← HTL.out]; exact HREST.out)
                      go_upto_region 34 with fail
                      go_region_held3 (fun w' => w'.cell? ⟨nb, no, none⟩ = some (.int .i64 g0))
                        (exact HS0.out)
                        (first | (go_at_call 90; refine (HFILL.out wp.drew _ _ _ (Below.refl _ _).drew rfl HRN.out).mono ?_; rintro e w7 hf7; have he := hf7.1; subst he; replace HS0 := hid (HKEEP.out _ w7 _ hf7); have HF7 := hid hf7; clear hf7))
                      all_goals
                        cases q with
                        | false =>
                          have hE : loadE p L = 1 := fit_wire HSHAPE.out HX.out (by rw [HPL.out.1, wires_get]; exact HNL.out) HQ.out.symm
                          have HEE := hid hE
                          have HBF := hid (HB1.out.trans (((HMD.out.new (Below.refl wp.heap.size wp).drew).new (HF7.out.2.2 rfl)).run.below.mono HB1.out.size))
                          clear hE
                          go_wp2_with fail
                          go_ret2
                          exact .inl ⟨L, by rw [HPL.out.1, HPL.out.2]; exact HTABS.out, .inr ⟨by rw [HEE.out]; decide, by rw [HEE.out]; rfl, HBF.out⟩⟩
                        | true =>
                          obtain ⟨M', hk7, hpm, hkp, hnw⟩ := HF7.out.2.1 rfl
                          have HM7 := hid ((HMD.out.new (Below.refl wp.heap.size wp).drew).went hk7 hpm hkp hnw)
                          clear hk7 hpm hkp hnw
                          go_wp2_with fail
                          go_roundw
                          case rel =>
                            refine ⟨k + 1, M', by omega, by go_num, HM7.out, fun j y ns' hj h1 h2 => ?_⟩
                            by_cases hji : j < k
                            · exact HFT.out j y ns' hji h1 h2
                            · obtain rfl : j = k := by omega
                              rw [HX.out] at h1
                              rw [wires_get, HNL.out] at h2
                              cases h1
                              cases h2
                              exact HQ.out.symm
                          case measure => simp [intOf]; omega
                  · obtain rfl : nw = k := by omega
                    have hE : loadE p L = 0 := by
                      refine fit_yes HSHAPE.out (fun i cc ns' h1 h2 => ?_) fun i x ns' h1 h2 => ?_
                      · have hlt := (List.getElem?_eq_some_iff.1 h1).1
                        rw [HPL.out.1] at hlt h2
                        exact HFIT.out i cc ns' hlt h1 h2
                      · have hlt := (List.getElem?_eq_some_iff.1 h1).1
                        rw [HPL.out.2] at hlt
                        rw [HPL.out.1] at h2
                        exact HFT.out i x ns' hlt h1 h2
                    have hrun : KRun w wp kb p M4 (loadK p L) := by
                      have h := HMD.out.run.base HB1.out
                      rw [mix_full (by rw [lnsT_len (by rw [HPL.out.1, HPL.out.2]; exact HLEN.out), HPL.out.2]) (by rw [show (kNew p).lines = p.wires.map fun x => (⟨x, [], 0⟩ : Ln) from rfl, List.length_map, HPL.out.2])] at h
                      rw [loadK_eq, HHD.out]; exact h
                    have HEE := hid hE
                    have HRUN := hid hrun
                    clear hE hrun
                    go_wp2_with fail
                    go_ret2
                    exact .inl ⟨L, by rw [HPL.out.1, HPL.out.2]; exact HTABS.out, .inl ⟨HEE.out, kb, M4, rfl, HRUN.out⟩⟩
end Go.Proofs.YtldllmhgofacbaaGreatDoor
