/- Package spread: the contract of step, for every room of a plan that is right. -/
import Derived.Test.YtongkiccglaniaaDoorSpreadMem
import Derived.Test.YtongkiccglaniaaDoorAmid
import Derived.Test.YtongkiccglaniaaDoorAloneT
import Derived.Test.YtongkiccglaniaaDoorRunU
import Derived.Test.YtongkiccglaniaaDoorTickU
import Derived.Deep.DeepCutAuto
import Derived.Deep.DrawnRows
import Derived.StillTailTactics
namespace Go.Proofs.YtongkiccglaniaaDoor
open Go.RowKit
set_option maxRecDepth 100000
attribute [local go_sem ↓] Go.wp_at_zero Go.wp_at_succ

theorem pGot_cell {k : Kst} {o : Op} {s : St} (hl : o.what = 9 → ∃ x : Ln, k.lines[o.b.toNat]? = some x ∧ ∀ n ∈ x.items, 0 ≤ n ∧ n < 1000) (h : (pGot k o s).2 = true) : cellB (pGot k o s).1 = true := by
  unfold pGot at h ⊢
  by_cases ht : pTakes o s = true
  · rw [if_pos ht] at h ⊢
    have h9 : o.what = 9 := by unfold pTakes at ht; simp at ht; exact ht.1
    obtain ⟨x, hx, hn⟩ := hl h9
    unfold sGot at h ⊢
    rw [if_pos h9, hx] at h ⊢
    simp only [] at h ⊢
    cases hi : x.items with
    | nil => rw [hi] at h; simp at h
    | cons a r =>
      have := hn a (by rw [hi]; simp)
      unfold cellB
      exact decide_eq_true (by simpa using this)
  · rw [if_neg ht] at h; simp at h
def SDid (w : World) (sb : Nat) (p : Pl) (k : Kst) (S : SM) (r : Nat) (pc : Int) (q : Int × Kst) (e : Ending) (w' : World) : Prop :=
  ∃ (tn : Int) (S' : SM), e = .returned (.tuple #[.agg #[.int .i64 tn, .int .i64 r, .int .i64 pc, .int .i64 q.1], .nilIface]) ∧ Went w w' (spT sb S k.time) (spT sb S' k.time) ∧ SpFacts p S' ⟨q.2.rooms, q.2.lines, k.time⟩ (k.time + 1)
def evObj (a b c d : Int) : Obj := .cells #[.int .i64 a, .int .i64 b, .int .i64 c, .int .i64 d] 34 (0, 0)
def opObj (o : Op) : Obj := .cells #[.int .i64 o.what, .int .i64 o.a, .int .i64 o.b] 45 (0, 0)

theorem forms_keep {w0 w w' : World} {W : Nat → Prop} (hf : Forms w0) (hw : Below w0.heap.size w0 w) (hfr : ∀ j, W j → w0.heap.size ≤ j) (hk : Keep W w w') : Forms w' :=
  hf.new (Keep.below (F := NoF) ((Keep.of_below NoF hw).then hk fun j hj h => by have := hfr j h; omega) (Nat.le_refl _) (fun _ h => h.elim))

set_option maxHeartbeats 8000000 in
theorem sstep_any {w0 w : World} {sb : Nat} {p : Pl} {S : SM} {k : Kst} {B : Int} (hf : Forms w0) (hw0 : Below w0.heap.size w0 w) (hfr : ∀ j, (spT sb S k.time).W j → w0.heap.size ≤ j) (h : SpreadAt w sb p S k) (hp : PlOk p) (hk : KOk p k B) (hB : B < 4611686018427387904) {r : Nat} {ops : List Op} {s : St} {o : Op} (hc : p.code[r]? = some ops) (hs : k.rooms[r]? = some s) (ho : ops[s.pc.toNat]? = some o) :
    Calls Tryd.prog 74 #[.pointer (some ⟨sb, 0, none⟩), .int .i64 r] w (SDid w sb p k S r s.pc (kDo ops.length r o s k)) := by
  have hF := h.facts
  have hrl : r < S.rs.length := by rw [hF.manyR]; exact (List.getElem?_eq_some_iff.1 hc).1
  obtain ⟨x, hx⟩ : ∃ x, S.rs[r]? = some x := ⟨_, List.getElem?_eq_getElem hrl⟩
  have hxl : x.l = ops := by
    have h1 : (S.rs.map AR.l)[r]? = some ops := by rw [hF.codes]; exact hc
    rw [List.getElem?_map, hx] at h1
    exact Option.some.inj h1
  have hxs : x.a.st = s := by
    have h1 : (S.rs.map (fun x => x.a.st))[r]? = some s := by rw [hF.rooms]; exact hs
    rw [List.getElem?_map, hx] at h1
    exact Option.some.inj h1
  have hxr := hF.idx r x hx
  have hxt := hF.turns x (List.mem_of_getElem? hx)
  have htB := hk.timeB
  have hok : AOk ops x.a k.time := ⟨hp.codes ops (List.mem_of_getElem? hc), by rw [hxs]; exact hk.states r ops s hc hs, hxt.1, hxt.2⟩
  obtain ⟨ab, A, c, l, rr, ⟨st, tn⟩⟩ := x
  simp only [] at hxl hxs hxr hxt hok
  subst hxl hxs hxr
  have hop := (codeChk_ok hok.code).2.2 o (List.mem_of_getElem? ho)
  have HLINE : Hid (o.what = 8 ∨ o.what = 9 → ∃ (b : Nat) (x : Ln), o.b = b ∧ k.lines[b]? = some x ∧ LnOk x B) := fun hw => by
    obtain ⟨b, x, h1, h2, h3, _⟩ := op_line hp hk hc (List.mem_of_getElem? ho) hw
    exact ⟨b, x, h1, h2, h3⟩
  have hgc : (pGot k o st).2 = true → cellB (pGot k o st).1 = true := pGot_cell (fun h9 => by
    obtain ⟨b, x, h1, h2, h3⟩ := HLINE.out (.inr h9)
    exact ⟨x, by rw [h1, Int.toNat_natCast]; exact h2, h3.nums⟩)
  have hq : kDo l.length r o st k = (pWhat l.length k o st, ⟨k.rooms.set r (sDo l.length k o st).1, (sSend l.length k o st).2, k.time⟩) := by
    rw [p_what (fun j hj => ((stOk_iff.1 hok.st).2 j hj).1) (opOk_a hop).2]
    exact steps_eq hs (fun hw => by
      obtain ⟨b, x, h1, h2, _⟩ := HLINE.out hw
      exact ⟨x, by rw [h1, Int.toNat_natCast]; exact h2⟩) (fun j hj => ((stOk_iff.1 hok.st).2 j hj).1) (opOk_a hop).2
  rw [hq]
  obtain ⟨G, hG⟩ : ∃ G, G = (pGot k o st).1 := ⟨_, rfl⟩
  obtain ⟨I, hI⟩ : ∃ I, I = (pGot k o st).2 := ⟨_, rfl⟩
  obtain ⟨t, ht⟩ : ∃ t, t = (sDo l.length k o st).1 := ⟨_, rfl⟩
  obtain ⟨out, hout⟩ : ∃ out, out = (sDo l.length k o st).2 := ⟨_, rfl⟩
  obtain ⟨tk, htk⟩ : ∃ tk, tk = pTakes o st := ⟨_, rfl⟩
  have hpd := p_do l.length k o st
  rw [← hG, ← hI] at hpd hgc
  have HSTEP : Hid (∀ w', Forms w' → AloneAt w' ab A c l r ⟨st, tn⟩ → Calls Tryd.prog 19 #[.pointer (some ⟨ab, 0, none⟩), .int .i64 G, .bool I] w' fun e w'' => e = .returned (.tuple #[.agg #[.int .i64 tn, .int .i64 r, .int .i64 st.pc, .int .i64 (whatOf o.what st.failed (I || (o.what == 8)))], .int .i64 out, .nilIface]) ∧ Went w' w'' (aloneT ab A c l r ⟨st, tn⟩) (aloneT ab A c l r ⟨t, tn + 1⟩)) := fun w' hf' ha => by
    have h1 := astep_ok ha hf' hok (by omega) ho G I hgc
    unfold aGo aEv at h1
    rw [hpd, ← ht, ← hout] at h1
    exact h1
  have HNX : Hid (∀ w', AloneAt w' ab A c l r ⟨st, tn⟩ → Calls Tryd.prog 63 #[.pointer (some ⟨ab, 0, none⟩)] w' fun e w'' => e = .returned (.agg #[.int .i64 o.what, .int .i64 o.a, .int .i64 o.b]) ∧ Below w'.heap.size w' w'') := fun w' ha => anext_any ha hok ho
  have HGO : Hid (∀ w1 w2, Beside w1 (spL sb S k.time) → Went w1 w2 (aloneT ab A c l r ⟨st, tn⟩) (aloneT ab A c l r ⟨t, tn + 1⟩) → Went w1 w2 (spT sb S k.time) (spT sb (S.setR r ⟨ab, A, c, l, r, ⟨t, tn + 1⟩⟩) k.time)) := fun w1 w2 hb hg => sp_goR hb hx (y := ⟨ab, A, c, l, r, ⟨t, tn + 1⟩⟩) rfl hg
  have HFACT : Hid (SpFacts p (S.setR r ⟨ab, A, c, l, r, ⟨t, tn + 1⟩⟩) ⟨k.rooms.set r t, k.lines, k.time⟩ (k.time + 1)) := hF.setR hx (y := ⟨ab, A, c, l, r, ⟨t, tn + 1⟩⟩) rfl rfl (by omega) (by simp only []; omega)
  have HAL : Hid (∀ w', Beside w' (spL sb S k.time) → AloneAt w' ab A c l r ⟨st, tn⟩) := fun w' hb => sp_alone hb hx
  have HRP : Hid (∀ w', Beside w' (spL sb S k.time) → ∃ b off, S.rA = some ⟨b, off, none⟩ ∧ w'.cell? ⟨b, off + r, none⟩ = some (.pointer (some ⟨ab, 0, none⟩)) ∧ b < w'.heap.size ∧ S.rs.length ≤ S.rc ∧ S.rc ≤ maxLen) := fun w' hb => by
    obtain ⟨b, off, h1, h2, h3, _, h5⟩ := sp_rptr hb hx
    exact ⟨b, off, h1, h2, h3, h5⟩
  have HMD := hid ((Amid.start h.all.lie).box #[.int .i64 0, .int .i64 0, .int .i64 0, .int .i64 0] 34)
  have HFW : Hid (∀ w' t bs, Amid w w' (spT sb S k.time) t bs → Forms w') := fun w' t bs hm => forms_keep hf hw0 hfr hm.went.keep
  have HTK : Hid (tk = (decide (o.what = 9) && !st.failed)) := htk
  have HG : Hid (tk = false → G = 0 ∧ I = false) := fun h1 => by
    rw [hG, hI]; unfold pGot; rw [← htk, if_neg (by rw [h1]; decide)]; exact ⟨rfl, rfl⟩
  have HG2 : Hid (tk = true → ∀ b x, o.b = (b : Nat) → k.lines[b]? = some x → G = x.items.headD 0 ∧ I = !x.items.isEmpty) := fun h1 b x hb hx => by
    have h9 : o.what = 9 := by rw [htk] at h1; unfold pTakes at h1; simp at h1; exact h1.1
    rw [hG, hI]; unfold pGot; rw [← htk, if_pos h1]; unfold sGot; rw [if_pos h9, hb, Int.toNat_natCast, hx]; exact ⟨rfl, rfl⟩
  have HTI : Hid ((tk && I) = sTakes k o st) := by have := p_takes k o st; rw [← htk, ← hI] at this; exact this
  have HOUT := hid hout
  have HT := hid ht
  have HIE := hid hI
  have HHB := hid hB
  have HST := hid hok.st
  have HOPK := hid (opOk_a hop)
  have HLEN := hid hF.manyL
  have HRN : Hid (S.rs.length ≤ 5) := by show S.rs.length ≤ 5; rw [hF.manyR]; exact hp.most5
  have HLN : Hid (S.ls.length ≤ 12) := by show S.ls.length ≤ 12; rw [hF.manyL, lines_len hk]; exact wires_few hp
  have HLX : Hid (∀ (b : Nat) (x : Ln), k.lines[b]? = some x → ∃ y : LR, S.ls[b]? = some y ∧ y.x = x) := fun b x hb => by
    have h1 := hF.lines
    rw [← h1, List.getElem?_map, Option.map_eq_some_iff] at hb
    exact hb
  have hrr : S.rs.length = S.rs.length := rfl
  obtain ⟨nr, hnr⟩ : ∃ nr, nr = S.rs.length := ⟨_, rfl⟩
  obtain ⟨nl, hnl⟩ : ∃ nl, nl = S.ls.length := ⟨_, rfl⟩
  have HNR := hid hnr
  have HNL := hid hnl
  have hrn : r < nr := by omega
  have hn5 : nr ≤ 5 := by rw [hnr]; exact HRN.out
  obtain ⟨n, hn⟩ : ∃ n, n = l.length := ⟨_, rfl⟩
  obtain ⟨tm, htm⟩ : ∃ tm, tm = k.time := ⟨_, rfl⟩
  rw [← htm] at HGO HFACT HAL HRP HMD HFW
  obtain ⟨Q, hQ⟩ : ∃ Q, Q = SDid w sb p k S r st.pc (pWhat l.length k o st, ⟨k.rooms.set r (sDo l.length k o st).1, (sSend l.length k o st).2, k.time⟩) := ⟨_, rfl⟩
  rw [← hQ]
  have HQ := hid hQ
  have HTM := hid htm
  clear h hF hok hop hq hpd hx hxt hs ho hc hk hp hG hI ht hout htk hgc hf htB hw0 hfr hQ hrr hnr hnl hn htm hB
  obtain ⟨pc, c0, c1, c2, c3, c4, c5, f⟩ := st
  obtain ⟨what, oa, ob⟩ := o
  simp only [] at HSTEP HNX HTK HQ
  go_enter Tryd.func74, Tryd.ntmps74
  go_upto_region 1 with fail
  obtain ⟨wa, hwa⟩ : ∃ wa, wa = w.alloc (.cells #[.int .i64 0, .int .i64 0, .int .i64 0, .int .i64 0] 34) := ⟨_, rfl⟩
  rw [← hwa] at HMD ⊢
  clear hwa
  obtain ⟨rb, roff, hrA, hrp, hrb, hrc, hrm⟩ := HRP.out _ HMD.out.here
  obtain ⟨_, _, _, _, k4, _, _, _, hsb⟩ := sp_cells (show Beside wa (spL sb S tm) from HMD.out.here)
  rw [hrA, ← HNR.out] at k4
  rw [← HNR.out] at hrc
  unfold maxLen at hrm
  have hrn' : (r : Int) < (nr : Int) := by omega
  have hr0 : (0 : Int) ≤ (r : Int) := by omega
  clear hrA
  go_upto_region 2 with fail
  clear hrp hrb hrc hrm k4 hsb
  go_wp2_with fail
  refine (HNX.out _ (HAL.out _ HMD.out.here)).mono ?_
  rintro e w2 ⟨rfl, hb2⟩
  have HMD2 := hid ((HMD.out.new hb2).box #[.int .i64 what, .int .i64 oa, .int .i64 ob] 45)
  clear hb2 HMD
  go_upto_region 3 with fail
  obtain ⟨b7, hb7⟩ : ∃ b7, b7 = w2.heap.size := ⟨_, rfl⟩
  obtain ⟨w3, hw3⟩ : ∃ w3, w3 = w2.alloc (.cells #[.int .i64 what, .int .i64 oa, .int .i64 ob] 45) := ⟨_, rfl⟩
  rw [← hb7, ← hw3] at HMD2 ⊢
  clear hb7 hw3
  have ho3 := HMD2.out.get 1 rfl
  have o0 := blk_cell ho3 0
  have ol := blk_lt ho3
  simp at o0
  clear ho3
  go_cut [8] (fun v8 wx => v8 = .bool tk ∧ Amid w wx (spT sb S tm) (spT sb S tm) [blkT w.heap.size (evObj 0 0 0 0), blkT b7 (opObj ⟨what, oa, ob⟩)])
  case first =>
    have hfd : ∀ (p a0 a1 a2 a3 a4 a5 : Int) (f : Bool) w, (Instr.field 40 (.agg #[.int .i64 p, .int .i64 a0, .int .i64 a1, .int .i64 a2, .int .i64 a3, .int .i64 a4, .int .i64 a5, .bool f]) 2).run Tryd.prog w = .ok (.bool f) w := fun p a0 a1 a2 a3 a4 a5 f w => by kernel_rfl
    by_cases h9 : what = 9
    · have hst := astate_any (HAL.out _ HMD2.out.here)
      unfold stV at hst
      have hv : tk = !f := by rw [HTK.out]; simp [h9]
      subst h9 hv
      go_wp2_with fail
      refine hst.mono ?_
      rintro e w4 ⟨rfl, hb4⟩
      have HM4 := hid (HMD2.out.new hb4)
      clear hb4 hst
      go_wp2_with fail
      go_meet
      exact ⟨rfl, HM4.out⟩
    · have hv : tk = false := by rw [HTK.out]; simp [h9]
      have e9 : (what == 9) = false := by simpa using h9
      subst hv
      clear h9
      go_wp2_with fail
      go_meet
      exact ⟨rfl, HMD2.out⟩
  obtain ⟨rfl, hmid⟩ := hcut
  have HM := hid hmid
  clear hmid HMD2 o0 ol
  go_upto_if 36 with fail
  go_cut [9, 10] (fun v9 v10 wx => v9 = .int .i64 G ∧ v10 = .bool I ∧ Amid w wx (spT sb S tm) (spT sb S tm) [blkT w.heap.size (evObj 0 0 0 0), blkT b7 (opObj ⟨what, oa, ob⟩)])
  case first =>
    cases tk with
    | false =>
      obtain ⟨hg0, hi0⟩ := HG.out rfl
      subst hg0 hi0
      go_wp2_with fail
      go_meet
      exact ⟨rfl, rfl, HM.out⟩
    | true =>
      have h9 : what = 9 := by have := HTK.out; simp at this; exact this.1
      subst h9
      obtain ⟨b, y, hb, hy, hyk⟩ := HLINE.out (.inr rfl)
      obtain ⟨z, hz, rfl⟩ := HLX.out b y hy
      obtain ⟨hgg, hii⟩ := HG2.out rfl b z.x hb hy
      subst hb
      obtain ⟨lb, loff, hlA, hlp, hlb, hbl, hlc, hlm⟩ := sp_lptr (show Beside wc (spL sb S tm) from HM.out.here) hz
      have hln := sp_line (show Beside wc (spL sb S tm) from HM.out.here) hz
      obtain ⟨_, _, _, _, _, k5, _, _, hsb⟩ := sp_cells (show Beside wc (spL sb S tm) from HM.out.here)
      rw [hlA, ← HNL.out] at k5
      rw [← HNL.out] at hbl hlc
      have hpk := fun (w' : World) (h' : LnAt 201 w' z.b z.A z.x) => peek_ln z.b w' z.A z.x hyk h'
      have HPK : Hid (∀ nq, Calls Tryd.prog 122 #[.pointer (some ⟨z.b, 0, none⟩)] (wc.drewN nq) fun e w'' => e = .returned (.tuple #[.int .i64 G, .bool I]) ∧ ∃ m, w'' = wc.drewN m) := fun nq => by
        rw [hgg, hii]
        refine (hpk (wc.drewN nq) (hln.keep fun j _ _ => rfl)).mono ?_
        rintro e w'' ⟨rfl, rfl⟩
        exact ⟨rfl, nq, rfl⟩
      have ho7 : wc.heap[b7]? = some (.cells #[.int .i64 9, .int .i64 oa, .int .i64 b] 45 (0, 0)) := HM.out.get 1 rfl
      have o2 := blk_cell ho7 2
      have ol := blk_lt ho7
      simp at o2
      have hb0 : (0 : Int) ≤ (b : Int) := by omega
      have hb1 : (b : Int) < (nl : Int) := by omega
      unfold LR.ptr at hlp
      obtain ⟨zb, zA, zx⟩ := z
      unfold maxLen at hlm
      clear hgg hii hpk hln hz hy hyk ho7 hlA
      go_wp2_with fail
      go_quiet ((go_at_call 122; exact HPK.out _))
      go_wp2_with fail
      go_meet
      exact ⟨rfl, rfl, HM.out.new (below_drawn (Below.refl _ _) _)⟩
  obtain ⟨rfl, rfl, hmid⟩ := hcut
  replace HM := hid hmid
  clear hmid
  go_upto_region 7 with fail
  go_wp2_with fail
  refine (HSTEP.out _ (HFW.out _ _ _ HM.out) (HAL.out _ HM.out.here)).mono ?_
  rintro e w5 ⟨rfl, hw⟩
  obtain ⟨W0, hW0⟩ : ∃ W0, W0 = whatOf what f (I || (what == 8)) := ⟨_, rfl⟩
  rw [← hW0]
  have HW0 := hid hW0
  have HM5 := hid ((HM.out.go (HGO.out _ _ HM.out.here hw)).box #[.int .i64 tn, .int .i64 r, .int .i64 pc, .int .i64 W0] 34)
  clear hw hW0 HM
  go_upto_region 10 with fail
  obtain ⟨b11, hb11⟩ : ∃ b11, b11 = w5.heap.size := ⟨_, rfl⟩
  obtain ⟨w6, hw6⟩ : ∃ w6, w6 = w5.alloc (.cells #[.int .i64 tn, .int .i64 r, .int .i64 pc, .int .i64 W0] 34) := ⟨_, rfl⟩
  obtain ⟨S1, hS1⟩ : ∃ S1, S1 = S.setR r ⟨ab, A, c, l, r, ⟨t, tn + 1⟩⟩ := ⟨_, rfl⟩
  have hlA1 : S1.lA = S.lA ∧ S1.lc = S.lc ∧ S1.ls = S.ls := by rw [hS1]; exact ⟨rfl, rfl, rfl⟩
  rw [← hb11, ← hw6, ← hS1] at HM5
  rw [← hw6, ← hb11]
  rw [← hS1] at HFACT
  have HL1 := hid hlA1
  clear hb11 hw6 hS1 hlA1 HSTEP HNX HAL HRP HGO HFW
  obtain ⟨ST, hST⟩ : ∃ ST, ST = (⟨pc, c0, c1, c2, c3, c4, c5, f⟩ : St) := ⟨_, rfl⟩
  obtain ⟨O, hO⟩ : ∃ O, O = (⟨what, oa, ob⟩ : Op) := ⟨_, rfl⟩
  rw [← hST, ← hO] at HQ HTI HOUT HT HIE
  have HSE := hid hST
  have HOE := hid hO
  have HMS : Hid (∀ (wx : World) (T : SM) (bs : List Tg) (b : Nat) (z : LR), Amid w wx (spT sb S tm) (spT sb T tm) (blkT w.heap.size (evObj 0 0 0 0) :: blkT b7 (opObj ⟨what, oa, ob⟩) :: bs) → T.ls[b]? = some z → b < nl → T.ls.length = nl →
      ∃ lb loff, LnAt 201 wx z.b z.A z.x ∧ (0 ≤ (b : Int) ∧ (b : Int) < (nl : Int) ∧ nl ≤ T.lc ∧ T.lc ≤ 9223372036854775807) ∧ T.lA = some ⟨lb, loff, none⟩ ∧ (∀ w'', Keep (LF z.b z.A) wx w'' → w''.cell? ⟨sb, 5, none⟩ = some (.slice (some ⟨lb, loff, none⟩) nl T.lc) ∧ w''.cell? ⟨b7, 2, none⟩ = some (.int .i64 ob) ∧ w''.cell? ⟨lb, loff + b, none⟩ = some (.pointer (some ⟨z.b, 0, none⟩)))) := by
    intro wx T bs b z hm hz hbn hll
    have hin : Beside wx (spL sb T tm) := hm.here
    obtain ⟨lb, loff, hlA, hlp, hlb, hbl, hlc, hlm⟩ := sp_lptr hin hz
    obtain ⟨_, _, _, _, _, k5, _, _, hsb⟩ := sp_cells hin
    rw [hlA, hll] at k5
    have hin2 : ∀ j, LF z.b z.A j → (allT (T.ls.map LR.tg)).W j := fun j hj => ⟨z.tg, List.mem_map_of_mem (List.mem_of_getElem? hz), hj⟩
    have hin3 : ∀ j, LF z.b z.A j → (spT sb T tm).W j := fun j hj => ⟨_, List.mem_of_getElem? (show (spL sb T tm)[5]? = some (allT (T.ls.map LR.tg)) from rfl), hin2 j hj⟩
    have h7 : wx.heap[b7]? = some (.cells #[.int .i64 what, .int .i64 oa, .int .i64 ob] 45 (0, 0)) := hm.get 1 rfl
    have o2 := blk_cell h7 2
    simp at o2
    unfold maxLen at hlm
    refine ⟨lb, loff, sp_line hin hz, ⟨by omega, by omega, by omega, by omega⟩, hlA, fun w'' hk => ⟨(hk.cell hsb fun h => ?_).trans k5, (hk.cell (blk_lt h7) fun h => ?_).trans o2, (hk.cell hlb fun h => ?_).trans hlp⟩⟩
    · exact hin.apart 5 0 _ _ rfl rfl (by decide) sb (hin2 sb h) rfl
    · exact hm.all.apart 0 2 _ _ rfl rfl (by decide) b7 (hin3 b7 h) rfl
    · exact hin.apart 5 3 _ _ rfl rfl (by decide) lb (hin2 lb h) (by rw [hlA]; rfl)
  clear hST hO
  obtain ⟨TK, hTK⟩ : ∃ TK, TK = (tk && I) := ⟨_, rfl⟩
  have HTKI := hid hTK
  rw [← hTK] at HTI
  clear hTK
  go_cut [64] (fun v64 wx => v64 = .bool TK ∧ wx = w6)
  case first =>
    have hcs : (tk = false ∧ TK = false) ∨ (tk = true ∧ I = TK) := by
      cases tk with
      | false => exact .inl ⟨rfl, HTKI.out⟩
      | true => exact .inr ⟨rfl, HTKI.out.symm⟩
    rcases hcs with ⟨rfl, h1⟩ | ⟨rfl, rfl⟩
    · have H1 := hid h1
      clear h1
      go_wp2_with fail
      go_meet
      exact ⟨by rw [H1.out], rfl⟩
    · go_wp2_with fail
      go_meet
      exact ⟨rfl, rfl⟩
  obtain ⟨rfl, rfl⟩ := hcut
  go_upto_if 64 with fail
  go_cut [] (fun wx => ∃ S2, Amid w wx (spT sb S tm) (spT sb S2 tm) [blkT w.heap.size (evObj 0 0 0 0), blkT b7 (opObj ⟨what, oa, ob⟩), blkT b11 (evObj tn r pc W0)] ∧ SpFacts p S2 ⟨k.rooms.set r t, sLines2 k O ST, tm⟩ (tm + 1))
  case first =>
    by_cases hc : tk = true ∧ I = true
    · obtain ⟨rfl, rfl⟩ := hc
      have hTKt : TK = true := HTKI.out
      subst hTKt
      have h9 : what = 9 := by have := HTK.out; simp at this; exact this.1
      subst h9
      obtain ⟨b, y, hb, hy, hyk⟩ := HLINE.out (.inr rfl)
      obtain ⟨z, hz, rfl⟩ := HLX.out b y hy
      have hii := (HG2.out rfl b z.x hb hy).2
      subst hb
      have hne : z.x.items ≠ [] := by intro h; rw [h] at hii; simp at hii
      have hz1 : S1.ls[b]? = some z := by rw [HL1.out.2.2]; exact hz
      have hbn : b < nl := by rw [HNL.out]; exact (List.getElem?_eq_some_iff.1 hz).1
      have hll1 : S1.ls.length = nl := by rw [HL1.out.2.2]; exact HNL.out.symm
      obtain ⟨lb, loff, hln, ⟨hb0, hb1, hlc, hlm⟩, hlA, hks⟩ := HMS.out _ S1 _ b z HM5.out hz1 hbn hll1
      have HKS := hid hks
      obtain ⟨k5, o2, hlp⟩ := hks _ (Keep.refl _ _)
      have HTAKE : Hid (∀ w', Below wc.heap.size wc w' → Calls Tryd.prog 123 #[.pointer (some ⟨z.b, 0, none⟩)] w' (TookLn w' z.b z.A z.x)) := fun w' hb => take_ln z.b w' z.A z.x hne hyk (hln.keep fun j _ hl => hb.block j hl)
      have hl2 : sLines2 k O ST = k.lines.set b ⟨z.x.w, lineTake z.x.w z.x.items, z.x.lost⟩ := by
        unfold sLines2; rw [if_pos HTI.out.symm, HOE.out]; simp only [Int.toNat_natCast, hy]
      have HL2 := hid hl2
      have HZ1 := hid hz1
      obtain ⟨l5, l6⟩ : (Amid w wc (spT sb S tm) (spT sb S1 tm) [blkT w.heap.size (evObj 0 0 0 0), blkT b7 (opObj ⟨9, oa, b⟩), blkT b11 (evObj tn r pc W0)]) ∧ True := ⟨HM5.out, trivial⟩
      obtain ⟨_, _, _, _, _, _, _, _, hsb⟩ := sp_cells (show Beside wc (spL sb S1 tm) from HM5.out.here)
      have h7l := blk_lt (HM5.out.get 1 rfl)
      clear hln hks hne hii hz hz1 hy hyk hl2 hlA l5 l6
      go_wp2_with fail
      go_region_held3 (fun w' => w'.cell? ⟨sb, 5, none⟩ = some (.slice (some ⟨lb, loff, none⟩) nl S1.lc) ∧ w'.cell? ⟨b7, 2, none⟩ = some (.int .i64 b) ∧ w'.cell? ⟨lb, loff + b, none⟩ = some (.pointer (some ⟨z.b, 0, none⟩)))
        (first | (with_reducible exact HKS.out _ HK2.out) | (with_reducible exact HKS.out _ (Keep.drew (Keep.refl _ _))))
        (first | (go_at_call 123; refine (HTAKE.out _ (Below.refl _ _).drew).mono ?_; rintro e w7 ⟨v, A', rfl, h2, h3, h4⟩; have HK2 : Hid (Keep (LF z.b z.A) wc w7) := (Keep.refl _ wc).drew.then h3 (fun _ _ h => h); have HH2 := hid h2; have HH4 := hid h4; clear h2 h3 h4))
      go_wp2_with fail
      go_meet
      refine ⟨S1.setL b ⟨z.b, A', ⟨z.x.w, lineTake z.x.w z.x.items, z.x.lost⟩⟩, HM5.out.go (sp_goL (HM5.out.here) HZ1.out rfl (ln_went HH2.out HK2.out fun j hj => .inl (HH4.out j hj))), ?_⟩
      rw [HL2.out]
      exact HFACT.out.setL
    · have hv : TK = false := by
        rw [HTKI.out]
        cases tk with
        | false => rfl
        | true => cases I with
          | false => rfl
          | true => exact absurd ⟨rfl, rfl⟩ hc
      have hl2 : sLines2 k O ST = k.lines := by unfold sLines2; rw [if_neg (by rw [← HTI.out, hv]; decide)]
      have HL2 := hid hl2
      subst hv
      clear hc hl2
      go_wp2_with fail
      go_meet
      exact ⟨S1, HM5.out, by rw [HL2.out]; exact HFACT.out⟩
  obtain ⟨S2, hmid, hf2⟩ := hcut
  have HM := hid hmid
  have HF2 := hid hf2
  clear hmid hf2 HM5 HFACT HL1
  obtain ⟨W, hW⟩ : ∃ W, W = pWhat l.length k O ST := ⟨_, rfl⟩
  rw [← hW] at HQ
  have HWE := hid hW
  clear hW
  go_upto_if 82 with fail
  go_cut [] (fun wx => ∃ S3, Amid w wx (spT sb S tm) (spT sb S3 tm) [blkT w.heap.size (evObj 0 0 0 0), blkT b7 (opObj ⟨what, oa, ob⟩), blkT b11 (evObj tn r pc W)] ∧ SpFacts p S3 ⟨k.rooms.set r t, (sSend l.length k O ST).2, tm⟩ (tm + 1))
  case first =>
    have hwp : W = if 0 ≤ out ∧ (sSend l.length k O ST).1 = false then 3 else W0 := by
      rw [HWE.out, HW0.out]; unfold pWhat; rw [← HOUT.out, ← HIE.out]
      congr 1
      rw [HOE.out, HSE.out]
    by_cases h0 : 0 ≤ out
    · have hsent := sDo_sent (n := l.length) (k := k) (o := O) (s := ST) (by rw [← HOUT.out]; exact h0)
      rw [HSE.out, HOE.out] at hsent
      obtain ⟨hf0, h8⟩ := hsent
      simp only [] at hf0 h8
      subst hf0 h8
      obtain ⟨b, y, hb, hy, hyk⟩ := HLINE.out (.inl rfl)
      subst hb
      have hd2 : out = ST.get O.a.toNat := by rw [HOUT.out]; unfold sDo; rw [stepDo_snd, HSE.out, HOE.out]; rfl
      have h1k : out < 1000 := by rw [hd2, HSE.out, HOE.out]; exact (((stOk_iff.1 HST.out).2 _ HOPK.out.2)).2
      have hl2 : sLines2 k O ST = k.lines := by
        unfold sLines2; rw [if_neg]
        unfold sTakes; rw [HOE.out]; simp
      have hss : sSend l.length k O ST = ((lineSend y.w y.items y.lost out).1, k.lines.set b ⟨y.w, (lineSend y.w y.items y.lost out).2.1, (lineSend y.w y.items y.lost out).2.2⟩) := by
        unfold sSend; rw [← HOUT.out, if_pos h0, HOE.out]; simp only [Int.toNat_natCast, hy]
      have hf2 := HF2.out
      rw [hl2] at hf2
      have hz : ∃ z : LR, S2.ls[b]? = some z ∧ z.x = y := by
        have h1 : (S2.ls.map LR.x)[b]? = some y := by rw [hf2.lines]; exact hy
        rw [List.getElem?_map, Option.map_eq_some_iff] at h1
        exact h1
      obtain ⟨z, hz1, rfl⟩ := hz
      have hll : S2.ls.length = nl := by
        have h1 := hf2.manyL
        simp only [] at h1
        rw [h1, HNL.out, HLEN.out]
      have hbn : b < nl := by rw [← hll]; exact (List.getElem?_eq_some_iff.1 hz1).1
      obtain ⟨lb, loff, hln, ⟨hb0, hb1, hlc, hlm⟩, hlA, hks⟩ := HMS.out _ S2 _ b z HM.out hz1 hbn hll
      have HKS := hid hks
      obtain ⟨k5, o2, hlp⟩ := hks _ (Keep.refl _ _)
      have HB2 := HHB.out
      have HSND : Hid (∀ w', Below wc.heap.size wc w' → Calls Tryd.prog 124 #[.pointer (some ⟨z.b, 0, none⟩), .int .i64 out] w' (SentLn w' z.b z.A z.x out)) := fun w' hb => send_ln z.b w' z.A z.x out h0 h1k hyk HB2 (hln.keep fun j _ hl => hb.block j hl)
      obtain ⟨D, hD⟩ : ∃ D, D = (lineSend z.x.w z.x.items z.x.lost out).1 := ⟨_, rfl⟩
      have HF3 : Hid (∀ A', SpFacts p (S2.setL b ⟨z.b, A', ⟨z.x.w, (lineSend z.x.w z.x.items z.x.lost out).2.1, (lineSend z.x.w z.x.items z.x.lost out).2.2⟩⟩) ⟨k.rooms.set r t, (sSend l.length k O ST).2, tm⟩ (tm + 1)) := fun A' => by rw [hss]; exact hf2.setL (y := ⟨z.b, A', ⟨z.x.w, (lineSend z.x.w z.x.items z.x.lost out).2.1, (lineSend z.x.w z.x.items z.x.lost out).2.2⟩⟩)
      unfold SentLn at HSND
      rw [hss] at hwp
      rw [← hD] at HSND hwp
      have HZ1 := hid hz1
      have HWP := hid hwp
      have H0 := hid h0
      obtain ⟨_, _, _, _, _, _, _, _, hsb⟩ := sp_cells (show Beside wc (spL sb S2 tm) from HM.out.here)
      have h7l := blk_lt (HM.out.get 1 rfl)
      clear hln hks hz1 hy hyk hl2 hlA hss hf2 hd2 hwp hD HB2
      cases D
      all_goals
        go_wp2_with fail
        go_region_held3 (fun w' => w'.cell? ⟨sb, 5, none⟩ = some (.slice (some ⟨lb, loff, none⟩) nl S2.lc) ∧ w'.cell? ⟨b7, 2, none⟩ = some (.int .i64 b) ∧ w'.cell? ⟨lb, loff + b, none⟩ = some (.pointer (some ⟨z.b, 0, none⟩)))
          (first | (with_reducible exact HKS.out _ HK2.out) | (with_reducible exact HKS.out _ (Keep.drew (Keep.refl _ _))))
          (first | (go_at_call 124; refine (HSND.out _ (Below.refl _ _).drew).mono ?_; rintro e w7 ⟨A', rfl, h2, h3, h4⟩; have HK2 : Hid (Keep (LF z.b z.A) wc w7) := (Keep.refl _ wc).drew.then h3 (fun _ _ h => h); have HH2 := hid h2; have HH4 := hid h4; clear h2 h3 h4))
        have HM7 := hid (HM.out.go (sp_goL (HM.out.here) HZ1.out (y := ⟨z.b, A', ⟨z.x.w, (lineSend z.x.w z.x.items z.x.lost out).2.1, (lineSend z.x.w z.x.items z.x.lost out).2.2⟩⟩) rfl (ln_went HH2.out HK2.out HH4.out)))
        have he7 : w7.heap[b11]? = some (.cells #[.int .i64 tn, .int .i64 r, .int .i64 pc, .int .i64 W0] 34 (0, 0)) := HM7.out.get 2 rfl
        have y3 := blk_cell he7 3
        have yf := blk_free he7 3
        have yl := blk_lt he7
        simp at y3
      · have hset : (w7.setCell ⟨b11, 3, none⟩ (.int .i64 3)).heap[b11]? = some (evObj tn r pc 3) := by rw [hp_set, if_pos rfl, he7]; rfl
        have HM8 := hid (HM7.out.write 2 rfl ((Keep.refl (fun j => j = b11) w7).setCell (.inl rfl) _) hset)
        have hW3 : W = 3 := by rw [HWP.out, if_pos ⟨H0.out, by first | rfl | trivial⟩]
        have HW3 := hid hW3
        clear hset he7 hW3
        go_wp2_with fail
        go_meet
        exact ⟨_, by rw [HW3.out]; exact HM8.out, HF3.out A'⟩
      · have hW3 : W = W0 := by rw [HWP.out, if_neg (by simp)]
        have HW3 := hid hW3
        clear he7 hW3
        go_wp2_with fail
        go_meet
        exact ⟨_, by rw [HW3.out]; exact HM7.out, HF3.out A'⟩
    · have hss : sSend l.length k O ST = ((sGot k O).2, sLines2 k O ST) := by unfold sSend; rw [← HOUT.out, if_neg h0]
      have hW3 : W = W0 := by rw [hwp, if_neg (fun h => h0 h.1)]
      have HSS := hid hss
      have HW3 := hid hW3
      have hlt0 : out < 0 := by omega
      clear hss hW3 hwp h0
      go_wp2_with fail
      go_meet
      exact ⟨S2, by rw [HW3.out]; exact HM.out, by rw [HSS.out]; exact HF2.out⟩
  obtain ⟨S3, hmid, hf3⟩ := hcut
  have HM3 := hid hmid
  have HF3 := hid hf3
  have he : wc.heap[b11]? = some (.cells #[.int .i64 tn, .int .i64 r, .int .i64 pc, .int .i64 W] 34 (0, 0)) := hmid.get 2 rfl
  have hr : wc.heap[w.heap.size]? = some (.cells #[.int .i64 0, .int .i64 0, .int .i64 0, .int .i64 0] 34 (0, 0)) := hmid.get 0 rfl
  have x0 := blk_cell he 0
  have x1 := blk_cell he 1
  have x2 := blk_cell he 2
  have x3 := blk_cell he 3
  have y0 := blk_cell hr 0
  have y1 := blk_cell hr 1
  have y2 := blk_cell hr 2
  have y3 := blk_cell hr 3
  have yf := fun j => blk_free hr j
  have yl := blk_lt hr
  have xl := blk_lt he
  simp at x0 x1 x2 x3 y0 y1 y2 y3
  clear hmid hf3 he HM HF2
  go_wp2_with fail
  obtain ⟨wz, hwz⟩ : ∃ wz, wz = put4 wc w.heap.size (.int .i64 tn) (.int .i64 r) (.int .i64 pc) (.int .i64 W) := ⟨_, rfl⟩
  have hblk : wz.heap[w.heap.size]? = some (.cells #[.int .i64 tn, .int .i64 r, .int .i64 pc, .int .i64 W] 34 (0, 0)) := by rw [hwz]; exact put4_heap hr _ _ _ _
  have hkz := put4_keep wc w.heap.size (.int .i64 tn) (.int .i64 r) (.int .i64 pc) (.int .i64 W)
  rw [← hwz] at hkz
  have HMZ := hid (HM3.out.write 0 rfl hkz hblk)
  unfold put4 at hwz
  rw [← hwz]
  have q0 := blk_cell hblk 0
  have q1 := blk_cell hblk 1
  have q2 := blk_cell hblk 2
  have q3 := blk_cell hblk 3
  simp at q0 q1 q2 q3
  refine bodyPost_ret (v := .tuple #[.agg #[.int .i64 tn, .int .i64 r, .int .i64 pc, .int .i64 W], .nilIface]) (by simp [results, Tryd.results74, go_sem, q0, q1, q2, q3]) rfl ?_
  rw [HQ.out]
  have hw2 := HMZ.out.went
  rw [HTM.out] at hw2
  refine ⟨tn, S3, rfl, hw2, ?_⟩
  have hf := HF3.out
  rw [HT.out, HTM.out] at hf
  exact hf
end Go.Proofs.YtongkiccglaniaaDoor
