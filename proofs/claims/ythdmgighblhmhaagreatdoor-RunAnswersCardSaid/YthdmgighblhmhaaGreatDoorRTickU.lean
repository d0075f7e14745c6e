/- Several parts: each begins with what it says. -/
import Derived.Test.YthdmgighblhmhaaGreatDoorTickU
import Derived.Test.YthdmgighblhmhaaGreatDoorWhatU
import Derived.Test.YthdmgighblhmhaaGreatDoorRLawU
import Derived.Test.YthdmgighblhmhaaGreatDoorDoU
import Derived.Test.YthdmgighblhmhaaGreatDoorRLineU
import Derived.Deep.DeepCutAuto
import Derived.Deep.DrawnRows
import Derived.StillTailTactics
/- Midway in a call that changes a kernel: the kernel, and the blocks that the call has laid. -/
namespace Go.Proofs.YthdmgighblhmhaaGreatDoor
open Go.RowKit
set_option maxRecDepth 100000

/-- A block: where, its cells, its type. -/
structure Bk where
  b : Nat
  cs : Array Value
  T : Nat
structure KMid (TK TL TP : Nat) (w wx : World) (kb : Nat) (M0 M : KM) (k : Kst) (bs : List Bk) : Prop where
  kat : KAt TK TL TP wx kb M k
  blk : ∀ x ∈ bs, wx.heap[x.b]? = some (.cells x.cs x.T (0, 0)) ∧ w.heap.size ≤ x.b ∧ ∀ j, TF kb M j → j ≠ x.b
  keep : Keep (KF kb M0) w wx
  plan : M.P = M0.P ∧ M.lA = M0.lA
  grow : ∀ j, KF kb M j → KF kb M0 j ∨ w.heap.size ≤ j
section
variable {TK TL TP : Nat} {w wx w' : World} {kb : Nat} {M0 M M1 : KM} {k k1 : Kst} {bs : List Bk}
theorem KMid.start (h : KAt TK TL TP w kb M k) : KMid TK TL TP w w kb M M k [] := ⟨h, fun x hx => by simp at hx, Keep.refl _ _, ⟨rfl, rfl⟩, fun _ hj => .inl hj⟩
theorem KMid.new (h : KMid TK TL TP w wx kb M0 M k bs) (hb : Below wx.heap.size wx w') : KMid TK TL TP w w' kb M0 M k bs :=
  ⟨h.kat.new hb, fun x hx => ⟨(hb.block _ (blk_lt (h.blk x hx).1)).trans (h.blk x hx).1, (h.blk x hx).2⟩, h.keep.then (Keep.of_below NoF hb) (fun _ _ h => h.elim), h.plan, h.grow⟩
/-- A block more, as it lies in new memory. -/
theorem KMid.add (h : KMid TK TL TP w wx kb M0 M k bs) (hb : Below wx.heap.size wx w') {b T : Nat} {cs : Array Value} (hx : w'.heap[b]? = some (.cells cs T (0, 0))) (hl : wx.heap.size ≤ b) : KMid TK TL TP w w' kb M0 M k (⟨b, cs, T⟩ :: bs) := by
  have hn := h.new hb
  refine ⟨hn.kat, fun x hx' => ?_, hn.keep, h.plan, h.grow⟩
  rcases List.mem_cons.1 hx' with rfl | hx'
  · exact ⟨hx, Nat.le_trans h.keep.size hl, fun j hj => by have := h.kat.lt j hj; simp only []; omega⟩
  · exact hn.blk x hx'
theorem KMid.drop (h : KMid TK TL TP w wx kb M0 M k bs) {cs : List Bk} (hs : ∀ x ∈ cs, x ∈ bs) : KMid TK TL TP w wx kb M0 M k cs := ⟨h.kat, fun x hx => h.blk x (hs x hx), h.keep, h.plan, h.grow⟩
/-- A laid block is written: the others stay, if they lie elsewhere. -/
theorem KMid.put {b T : Nat} {cs cs' : Array Value} (h : KMid TK TL TP w wx kb M0 M k (⟨b, cs, T⟩ :: bs)) (hk : Keep (fun j => j = b) wx w') (hx : w'.heap[b]? = some (.cells cs' T (0, 0))) (hne : ∀ x ∈ bs, x.b ≠ b) : KMid TK TL TP w w' kb M0 M k (⟨b, cs', T⟩ :: bs) := by
  obtain ⟨_, hlo, hap⟩ := h.blk ⟨b, cs, T⟩ (by simp)
  simp only [] at hlo hap
  refine ⟨h.kat.through hk fun j hj e => hap j hj e, fun x hx' => ?_, h.keep.then hk fun j hj e => by omega, h.plan, h.grow⟩
  rcases List.mem_cons.1 hx' with rfl | hx'
  · exact ⟨hx, hlo, hap⟩
  · have hb := h.blk x (by simp [hx'])
    exact ⟨(hk.block _ (blk_lt hb.1) (hne x hx')).trans hb.1, hb.2⟩
/-- The kernel is changed. -/
theorem KMid.step (h : KMid TK TL TP w wx kb M0 M k bs) (h1 : KAt TK TL TP w' kb M1 k1) (h2 : M1.P = M.P ∧ M1.lA = M.lA) (h3 : Keep (KF kb M) wx w') (h4 : ∀ j, KF kb M1 j → KF kb M j ∨ wx.heap.size ≤ j) : KMid TK TL TP w w' kb M0 M1 k1 bs := by
  have ks := h.keep.size
  refine ⟨h1, fun x hx => ?_, h.keep.then h3 fun j hj hf => ?_, ⟨h2.1.trans h.plan.1, h2.2.trans h.plan.2⟩, fun j hj => ?_⟩
  · obtain ⟨a, b, c⟩ := h.blk x hx
    refine ⟨(h3.block _ (blk_lt a) fun hj => c _ (.inl hj) rfl).trans a, b, fun j hj => ?_⟩
    rcases hj with hj | hj | hj
    · rcases h4 j hj with hj | hj
      · exact c j (.inl hj)
      · have := blk_lt a; omega
    · rw [h2.2] at hj; exact c j (.inr (.inl hj))
    · rw [h2.1] at hj; exact c j (.inr (.inr hj))
  · rcases h.grow j hf with h5 | h5
    · exact h5
    · omega
  · rcases h4 j hj with hj | hj
    · exact h.grow j hj
    · right; omega
theorem KMid.time (h : KMid TK TL TP w wx kb M0 M k bs) (t : Int) : KMid TK TL TP w (wx.setCell ⟨kb, 6, none⟩ (.int .i64 t)) kb M0 M ⟨k.rooms, k.lines, t⟩ bs :=
  h.step (h.kat.atTime t) ⟨rfl, rfl⟩ ((Keep.refl _ _).setCell (.inl (.inl rfl)) _) fun _ hj => .inl hj
theorem KMid.room (h : KMid TK TL TP w wx kb M0 M k bs) {r rb roff : Nat} {s' : St} (hA : M.rA = some ⟨rb, roff, none⟩) (hs : k.rooms[r]? = some s') (t : St) : KMid TK TL TP w (putAt wx rb (roff + r * 8) t) kb M0 M ⟨k.rooms.set r t, k.lines, k.time⟩ bs :=
  h.step (h.kat.putRoomAt hA rfl hs t) ⟨rfl, rfl⟩ ((putAt_keep _ _ _ _).mono fun j _ e => by subst e; exact .inr (.inl (by rw [hA]; rfl))) fun _ hj => .inl hj
theorem KMid.line (h : KMid TK TL TP w wx kb M0 M k bs) {i : Nat} {x y : Ln} {a : LM} {A' : Option Addr} (hx : k.lines[i]? = some x) (ha : M.ls[i]? = some a) (hl : LnAt TL w' a.b A' y) (hk : Keep (LF a.b a.A) wx w') (hn : ∀ j, InA A' j → InA a.A j ∨ wx.heap.size ≤ j) :
    KMid TK TL TP w w' kb M0 (M.setLine i ⟨a.b, A'⟩) ⟨k.rooms, k.lines.set i y, k.time⟩ bs :=
  h.step (h.kat.putLine hx ha hl hk hn) ⟨rfl, rfl⟩ (hk.mono fun _ _ hj => .inr (.inr ⟨a, List.mem_of_getElem? ha, hj⟩)) (KF_line ha hn)
/-- What such a call leaves. -/
theorem KMid.ticked (h : KMid TK TL TP w wx kb M0 M k bs) {q : Ev × Kst} {a b c d : Int} (hq : q = (⟨a, b, c, d⟩, k)) : KTicked TK TL TP w kb M0 q (.returned (.agg #[.int .i64 a, .int .i64 b, .int .i64 c, .int .i64 d])) wx := by
  subst hq
  exact ⟨M, rfl, h.kat, h.plan, h.keep, h.grow⟩
theorem KMid.cell (h : KMid TK TL TP w wx kb M0 M k bs) {x : Bk} (hx : x ∈ bs) : wx.heap[x.b]? = some (.cells x.cs x.T (0, 0)) := (h.blk x hx).1
end
end Go.Proofs.YthdmgighblhmhaaGreatDoor

/- Plain: a step of a kernel's room in the order in which the reference does it. -/
namespace Go.Proofs.YthdmgighblhmhaaGreatDoor

def rTakes (o : Op) (s : St) : Bool := !s.failed && decide (o.what = 9)
def rGot (k : Kst) (o : Op) (s : St) : Int × Bool := if rTakes o s = true then (match k.lines[o.b.toNat]? with | some x => (x.items.headD 0, !x.items.isEmpty) | none => (0, false)) else (0, false)
def rLines2 (k : Kst) (o : Op) (s : St) : List Ln := if rTakes o s = true then (match k.lines[o.b.toNat]? with | some x => k.lines.set o.b.toNat ⟨x.w, lineTake x.w x.items, x.lost⟩ | none => k.lines) else k.lines
def rDo (n : Int) (k : Kst) (o : Op) (s : St) : St × Int := stepDo n o s (rGot k o s).1 (rGot k o s).2
def rSend (n : Int) (k : Kst) (o : Op) (s : St) : Int × List Ln :=
  if 0 ≤ (rDo n k o s).2 then (match k.lines[o.b.toNat]? with
    | some x => (if (lineSend x.w x.items x.lost (rDo n k o s).2).1 = true then stepWhat o s (rGot k o s).2 else 3, k.lines.set o.b.toNat ⟨x.w, (lineSend x.w x.items x.lost (rDo n k o s).2).2.1, (lineSend x.w x.items x.lost (rDo n k o s).2).2.2⟩)
    | none => (stepWhat o s (rGot k o s).2, rLines2 k o s)) else (stepWhat o s (rGot k o s).2, rLines2 k o s)
theorem rsteps_eq {n : Int} {k : Kst} {r : Nat} {o : Op} {s : St} (hs : k.rooms[r]? = some s) (hl : o.what = 8 ∨ o.what = 9 → ∃ x, k.lines[o.b.toNat]? = some x) (hg : ∀ a, a < 6 → 0 ≤ s.get a) (ha : o.a.toNat < 6) :
    kDo n r o s k = ((rSend n k o s).1, ⟨k.rooms.set r (rDo n k o s).1, (rSend n k o s).2, k.time⟩) := by
  unfold kDo
  by_cases hf : s.failed = true
  · have ht : rTakes o s = false := by unfold rTakes; rw [hf]; rfl
    have hd : rDo n k o s = (s, -1) := by unfold rDo stepDo; rw [if_pos hf]
    have hw : ∀ b, stepWhat o s b = 5 := fun b => by unfold stepWhat; rw [if_pos hf]
    have hss : rSend n k o s = (5, k.lines) := by
      unfold rSend rLines2
      rw [hd, if_neg (show ¬ (0 : Int) ≤ -1 by decide), if_neg (by rw [ht]; decide), hw]
    rw [if_pos hf, hss, hd, set_same _ _ _ hs]
  · rw [if_neg hf]
    have hf' : s.failed = false := by simpa using hf
    by_cases h9 : o.what = 9
    · obtain ⟨x, hx⟩ := hl (.inr h9)
      have ht : rTakes o s = true := by unfold rTakes; rw [hf', h9]; rfl
      have hout : (rDo n k o s).2 = -1 := by unfold rDo; rw [stepDo_snd, if_neg (by rw [h9]; simp)]
      have hsend : rSend n k o s = (stepWhat o s (rGot k o s).2, k.lines.set o.b.toNat ⟨x.w, lineTake x.w x.items, x.lost⟩) := by
        unfold rSend rLines2
        rw [hout, if_neg (show ¬ (0 : Int) ≤ -1 by decide), if_pos ht, hx]
      rw [if_pos h9, hx]
      simp only []
      cases hi : x.items with
      | nil =>
        have hgot : rGot k o s = (0, false) := by unfold rGot; rw [if_pos ht, hx]; simp [hi]
        have hd : rDo n k o s = (s, -1) := by unfold rDo stepDo; rw [if_neg hf, hgot]; simp [h9]
        have hls : k.lines.set o.b.toNat ⟨x.w, lineTake x.w x.items, x.lost⟩ = k.lines := by
          refine set_same _ _ _ ?_
          rw [hx, hi]
          obtain ⟨a, b, c⟩ := x
          simp only [] at hi
          subst hi
          simp [lineTake]
        have hwh : stepWhat o s false = 3 := by unfold stepWhat; rw [if_neg hf]; simp [h9]
        rw [hsend, hd, hls, hgot, set_same _ _ _ hs, hwh]
      | cons i rest =>
        have hgot : rGot k o s = (i, true) := by unfold rGot; rw [if_pos ht, hx]; simp [hi]
        have hwh : stepWhat o s true = 2 := by unfold stepWhat; rw [if_neg hf]; simp [h9]
        rw [hsend, hgot, hwh]
        unfold rDo
        rw [hgot]
        simp only [hi]
    · have ht : rTakes o s = false := by unfold rTakes; simp [h9]
      have hgot : rGot k o s = (0, false) := by unfold rGot; rw [if_neg (by rw [ht]; decide)]
      have hl2 : rLines2 k o s = k.lines := by unfold rLines2; rw [if_neg (by rw [ht]; decide)]
      rw [if_neg h9]
      by_cases h8 : o.what = 8
      · obtain ⟨x, hx⟩ := hl (.inl h8)
        have hout : (rDo n k o s).2 = s.get o.a.toNat := by unfold rDo; rw [stepDo_snd, if_pos ⟨hf', h8⟩]
        have hwh : stepWhat o s false = 1 := by unfold stepWhat; rw [if_neg hf]; simp [h8]
        have hsend : rSend n k o s = (if (lineSend x.w x.items x.lost (s.get o.a.toNat)).1 = true then 1 else 3, k.lines.set o.b.toNat ⟨x.w, (lineSend x.w x.items x.lost (s.get o.a.toNat)).2.1, (lineSend x.w x.items x.lost (s.get o.a.toNat)).2.2⟩) := by
          unfold rSend
          rw [hout, if_pos (hg _ ha), hx, hgot, hwh]
        rw [if_pos h8, hx, hsend]
        unfold rDo
        rw [hgot]
      · have hout : (rDo n k o s).2 = -1 := by unfold rDo; rw [stepDo_snd, if_neg (by simp [h8])]
        have hsend : rSend n k o s = (stepWhat o s false, k.lines) := by
          unfold rSend
          rw [hout, if_neg (show ¬ (0 : Int) ≤ -1 by decide), hl2, hgot]
        have hwh : stepWhat o s false = if o.what = 11 then 4 else 0 := by unfold stepWhat; rw [if_neg hf]; simp [h8, h9]
        rw [if_neg h8, hsend, hwh]
        unfold rDo
        rw [hgot]
end Go.Proofs.YthdmgighblhmhaaGreatDoor

/- The reference's step of a room: contracts of frameref1.Step for each kind of op, and for any. -/
namespace Go.Proofs.YthdmgighblhmhaaGreatDoor
open Go.RowKit
set_option maxRecDepth 100000

def RDoneV (w : World) (t : St) (out what : Int) (e : Ending) (w' : World) : Prop := e = .returned (.tuple #[.agg (stV t), .int .i64 out, .int .i64 what]) ∧ Below w.heap.size w w'
def NextAt (n k : Nat) (nx : Int) : Prop := (k + 1 = n ∧ nx = 0) ∨ (k + 1 ≠ n ∧ nx = k + 1)
theorem nextAt {n k : Nat} {s : St} (hk : s.pc = k) (h : k < n) : NextAt n k (nextPc s n) := by
  unfold NextAt nextPc
  rw [hk]
  by_cases e : k + 1 = n
  · left; refine ⟨e, ?_⟩
    rw [← e, Int.natCast_add]; exact Int.emod_self
  · right; refine ⟨e, ?_⟩
    exact Int.emod_eq_of_lt (by omega) (by omega)

set_option maxHeartbeats 2000000 in
theorem rs_set (ob off n c k : Nat) (c0 c1 c2 c3 c4 c5 : Int) (got : Int) (a : Nat) (b : Int) (is : Bool) (nx : Int) (w : World) (ha : a < 6) (hnx : NextAt n k nx)  (h : DoHyp w ob off n k 1 a b) :
    Calls Tryz.prog 69 #[.slice (some ⟨ob, off, none⟩) n c, .agg #[.int .i64 k, .int .i64 c0, .int .i64 c1, .int .i64 c2, .int .i64 c3, .int .i64 c4, .int .i64 c5, .bool false], .int .i64 got, .bool is] w
      (RDoneV w { (⟨k, c0, c1, c2, c3, c4, c5, false⟩ : St).put a b with pc := nx } (-1) 0) := by
  obtain ⟨q1, q2, g0, g1, g2⟩ := h
  have hlt := cell_lt g0
  obtain ⟨t, ht⟩ : ∃ t, t = (⟨k, c0, c1, c2, c3, c4, c5, false⟩ : St).put a b := ⟨_, rfl⟩
  rw [show ({ (⟨k, c0, c1, c2, c3, c4, c5, false⟩ : St).put a b with pc := nx } : St) = { t with pc := nx } by rw [ht]]
  have HT := hid ht
  clear ht
  rcases hnx with ⟨rfl, rfl⟩ | ⟨hne, rfl⟩
  case' inr => have hnb : ((k : Int) + 1 == (n : Int)) = false := by simp; omega
  all_goals
    go_enter Tryz.func69, Tryz.ntmps69
    go_upto_region 4 with fail
    have hx := do_at w k c0 c1 c2 c3 c4 c5 1 a b
    obtain ⟨wx, hwx⟩ : ∃ wx, wx = (((w.alloc (.cells #[.int .i64 k, .int .i64 c0, .int .i64 c1, .int .i64 c2, .int .i64 c3, .int .i64 c4, .int .i64 c5, .bool false] 81)).alloc (.cells #[.int .i64 0, .int .i64 0, .int .i64 0, .int .i64 0, .int .i64 0, .int .i64 0, .int .i64 0, .bool false] 81)).alloc (.cells #[.int .i64 1, .int .i64 a, .int .i64 b] 72)) := ⟨_, rfl⟩
    rw [← hwx] at hx ⊢
    clear hwx g0 g1 g2
    have HX := hid hx
    obtain ⟨b0, b1, o0, o1, o2, hb⟩ := hx
    have ca := (blk_cell b0 (1 + a)).trans (stV_get _ ha)
    have fa := blk_free b0 (1 + a)
    have cp := blk_cell b0 0
    have cf := blk_cell b0 7
    have ff := blk_free b0 7
    simp [stV] at cp cf
    clear b0 b1 hb
    go_upto_region 39 with fail
    all_goals
      have hy := HX.out.put ha (b)
      obtain ⟨wy, hwy⟩ : ∃ wy, wy = wx.setCell ⟨w.heap.size, 1 + a, none⟩ (.int .i64 (b)) := ⟨_, rfl⟩
      rw [← hwy] at hy ⊢
      rw [← HT.out] at hy
      have HY := hid hy
      obtain ⟨⟨p0, p1, p2, p3, p4, p5, p6, p7⟩, p8, ⟨r0, r1, r2, r3, r4, r5, r6, r7⟩, p10⟩ := hy.facts
      clear hy hwy HX o0 o1 o2 HT ca fa cp cf ff
      go_wp2_with fail
      first
      | (
        have hz := HY.out.fin (0)
        obtain ⟨wz, hwz⟩ : ∃ wz, wz = put8 (wy.setCell ⟨w.heap.size, 0, none⟩ (.int .i64 (0))) (w.heap.size + 1) { t with pc := 0 } := ⟨_, rfl⟩
        rw [← hwz] at hz
        unfold put8 at hwz
        rw [← hwz]
        obtain ⟨⟨z0, z1, z2, z3, z4, z5, z6, z7⟩, zb⟩ := hz
        clear hwz p0 p1 p2 p3 p4 p5 p6 p7 p8 r0 r1 r2 r3 r4 r5 r6 r7 p10
        refine bodyPost_ret (v := .tuple #[.agg (stV { t with pc := 0 }), .int .i64 (-1), .int .i64 0]) (by simp [results, Tryz.results69, go_sem, stV, z0, z1, z2, z3, z4, z5, z6, z7]) rfl ?_
        exact ⟨rfl, zb⟩)
      | (
        have hz := HY.out.fin ((k : Int) + 1)
        obtain ⟨wz, hwz⟩ : ∃ wz, wz = put8 (wy.setCell ⟨w.heap.size, 0, none⟩ (.int .i64 ((k : Int) + 1))) (w.heap.size + 1) { t with pc := (k : Int) + 1 } := ⟨_, rfl⟩
        rw [← hwz] at hz
        unfold put8 at hwz
        rw [← hwz]
        obtain ⟨⟨z0, z1, z2, z3, z4, z5, z6, z7⟩, zb⟩ := hz
        clear hwz p0 p1 p2 p3 p4 p5 p6 p7 p8 r0 r1 r2 r3 r4 r5 r6 r7 p10
        refine bodyPost_ret (v := .tuple #[.agg (stV { t with pc := (k : Int) + 1 }), .int .i64 (-1), .int .i64 0]) (by simp [results, Tryz.results69, go_sem, stV, z0, z1, z2, z3, z4, z5, z6, z7]) rfl ?_
        exact ⟨rfl, zb⟩)

set_option maxHeartbeats 2000000 in
theorem rs_take (ob off n c k : Nat) (c0 c1 c2 c3 c4 c5 : Int) (got : Int) (a : Nat) (b : Int) (nx : Int) (w : World) (ha : a < 6) (hnx : NextAt n k nx)  (h : DoHyp w ob off n k 9 a b) :
    Calls Tryz.prog 69 #[.slice (some ⟨ob, off, none⟩) n c, .agg #[.int .i64 k, .int .i64 c0, .int .i64 c1, .int .i64 c2, .int .i64 c3, .int .i64 c4, .int .i64 c5, .bool false], .int .i64 got, .bool true] w
      (RDoneV w { (⟨k, c0, c1, c2, c3, c4, c5, false⟩ : St).put a got with pc := nx } (-1) 2) := by
  obtain ⟨q1, q2, g0, g1, g2⟩ := h
  have hlt := cell_lt g0
  obtain ⟨t, ht⟩ : ∃ t, t = (⟨k, c0, c1, c2, c3, c4, c5, false⟩ : St).put a got := ⟨_, rfl⟩
  rw [show ({ (⟨k, c0, c1, c2, c3, c4, c5, false⟩ : St).put a got with pc := nx } : St) = { t with pc := nx } by rw [ht]]
  have HT := hid ht
  clear ht
  rcases hnx with ⟨rfl, rfl⟩ | ⟨hne, rfl⟩
  case' inr => have hnb : ((k : Int) + 1 == (n : Int)) = false := by simp; omega
  all_goals
    go_enter Tryz.func69, Tryz.ntmps69
    go_upto_region 4 with fail
    have hx := do_at w k c0 c1 c2 c3 c4 c5 9 a b
    obtain ⟨wx, hwx⟩ : ∃ wx, wx = (((w.alloc (.cells #[.int .i64 k, .int .i64 c0, .int .i64 c1, .int .i64 c2, .int .i64 c3, .int .i64 c4, .int .i64 c5, .bool false] 81)).alloc (.cells #[.int .i64 0, .int .i64 0, .int .i64 0, .int .i64 0, .int .i64 0, .int .i64 0, .int .i64 0, .bool false] 81)).alloc (.cells #[.int .i64 9, .int .i64 a, .int .i64 b] 72)) := ⟨_, rfl⟩
    rw [← hwx] at hx ⊢
    clear hwx g0 g1 g2
    have HX := hid hx
    obtain ⟨b0, b1, o0, o1, o2, hb⟩ := hx
    have ca := (blk_cell b0 (1 + a)).trans (stV_get _ ha)
    have fa := blk_free b0 (1 + a)
    have cp := blk_cell b0 0
    have cf := blk_cell b0 7
    have ff := blk_free b0 7
    simp [stV] at cp cf
    clear b0 b1 hb
    go_upto_region 39 with fail
    all_goals
      have hy := HX.out.put ha (got)
      obtain ⟨wy, hwy⟩ : ∃ wy, wy = wx.setCell ⟨w.heap.size, 1 + a, none⟩ (.int .i64 (got)) := ⟨_, rfl⟩
      rw [← hwy] at hy ⊢
      rw [← HT.out] at hy
      have HY := hid hy
      obtain ⟨⟨p0, p1, p2, p3, p4, p5, p6, p7⟩, p8, ⟨r0, r1, r2, r3, r4, r5, r6, r7⟩, p10⟩ := hy.facts
      clear hy hwy HX o0 o1 o2 HT ca fa cp cf ff
      go_wp2_with fail
      first
      | (
        have hz := HY.out.fin (0)
        obtain ⟨wz, hwz⟩ : ∃ wz, wz = put8 (wy.setCell ⟨w.heap.size, 0, none⟩ (.int .i64 (0))) (w.heap.size + 1) { t with pc := 0 } := ⟨_, rfl⟩
        rw [← hwz] at hz
        unfold put8 at hwz
        rw [← hwz]
        obtain ⟨⟨z0, z1, z2, z3, z4, z5, z6, z7⟩, zb⟩ := hz
        clear hwz p0 p1 p2 p3 p4 p5 p6 p7 p8 r0 r1 r2 r3 r4 r5 r6 r7 p10
        refine bodyPost_ret (v := .tuple #[.agg (stV { t with pc := 0 }), .int .i64 (-1), .int .i64 2]) (by simp [results, Tryz.results69, go_sem, stV, z0, z1, z2, z3, z4, z5, z6, z7]) rfl ?_
        exact ⟨rfl, zb⟩)
      | (
        have hz := HY.out.fin ((k : Int) + 1)
        obtain ⟨wz, hwz⟩ : ∃ wz, wz = put8 (wy.setCell ⟨w.heap.size, 0, none⟩ (.int .i64 ((k : Int) + 1))) (w.heap.size + 1) { t with pc := (k : Int) + 1 } := ⟨_, rfl⟩
        rw [← hwz] at hz
        unfold put8 at hwz
        rw [← hwz]
        obtain ⟨⟨z0, z1, z2, z3, z4, z5, z6, z7⟩, zb⟩ := hz
        clear hwz p0 p1 p2 p3 p4 p5 p6 p7 p8 r0 r1 r2 r3 r4 r5 r6 r7 p10
        refine bodyPost_ret (v := .tuple #[.agg (stV { t with pc := (k : Int) + 1 }), .int .i64 (-1), .int .i64 2]) (by simp [results, Tryz.results69, go_sem, stV, z0, z1, z2, z3, z4, z5, z6, z7]) rfl ?_
        exact ⟨rfl, zb⟩)

set_option maxHeartbeats 2000000 in
theorem rs_copy (ob off n c k : Nat) (c0 c1 c2 c3 c4 c5 : Int) (got : Int) (a : Nat) (b : Nat) (y : Int) (is : Bool) (nx : Int) (w : World) (ha : a < 6) (hnx : NextAt n k nx) (hbb : b < 6) (hyg : (⟨k, c0, c1, c2, c3, c4, c5, false⟩ : St).get b = y) (h : DoHyp w ob off n k 2 a b) :
    Calls Tryz.prog 69 #[.slice (some ⟨ob, off, none⟩) n c, .agg #[.int .i64 k, .int .i64 c0, .int .i64 c1, .int .i64 c2, .int .i64 c3, .int .i64 c4, .int .i64 c5, .bool false], .int .i64 got, .bool is] w
      (RDoneV w { (⟨k, c0, c1, c2, c3, c4, c5, false⟩ : St).put a y with pc := nx } (-1) 0) := by
  obtain ⟨q1, q2, g0, g1, g2⟩ := h
  have hlt := cell_lt g0
  have HYG := hid hyg
  clear hyg
  obtain ⟨t, ht⟩ : ∃ t, t = (⟨k, c0, c1, c2, c3, c4, c5, false⟩ : St).put a y := ⟨_, rfl⟩
  rw [show ({ (⟨k, c0, c1, c2, c3, c4, c5, false⟩ : St).put a y with pc := nx } : St) = { t with pc := nx } by rw [ht]]
  have HT := hid ht
  clear ht
  rcases hnx with ⟨rfl, rfl⟩ | ⟨hne, rfl⟩
  case' inr => have hnb : ((k : Int) + 1 == (n : Int)) = false := by simp; omega
  all_goals
    go_enter Tryz.func69, Tryz.ntmps69
    go_upto_region 4 with fail
    have hx := do_at w k c0 c1 c2 c3 c4 c5 2 a b
    obtain ⟨wx, hwx⟩ : ∃ wx, wx = (((w.alloc (.cells #[.int .i64 k, .int .i64 c0, .int .i64 c1, .int .i64 c2, .int .i64 c3, .int .i64 c4, .int .i64 c5, .bool false] 81)).alloc (.cells #[.int .i64 0, .int .i64 0, .int .i64 0, .int .i64 0, .int .i64 0, .int .i64 0, .int .i64 0, .bool false] 81)).alloc (.cells #[.int .i64 2, .int .i64 a, .int .i64 b] 72)) := ⟨_, rfl⟩
    rw [← hwx] at hx ⊢
    clear hwx g0 g1 g2
    have HX := hid hx
    obtain ⟨b0, b1, o0, o1, o2, hb⟩ := hx
    have ca := (blk_cell b0 (1 + a)).trans (stV_get _ ha)
    have fa := blk_free b0 (1 + a)
    have cp := blk_cell b0 0
    have cf := blk_cell b0 7
    have ff := blk_free b0 7
    simp [stV] at cp cf
    have cb := (blk_cell b0 (1 + b)).trans (stV_get _ hbb)
    rw [HYG.out] at cb
    clear b0 b1 hb
    go_upto_region 14 with fail
    go_region
    all_goals go_upto_region 39 with fail
    all_goals
      have hy := (HX.out.put ha y).drew
      obtain ⟨wy, hwy⟩ : ∃ wy, wy = (wx.setCell ⟨w.heap.size, 1 + a, none⟩ (.int .i64 y)).drew := ⟨_, rfl⟩
      rw [← hwy] at hy ⊢
      rw [← HT.out] at hy
      have HY := hid hy
      obtain ⟨⟨p0, p1, p2, p3, p4, p5, p6, p7⟩, p8, ⟨r0, r1, r2, r3, r4, r5, r6, r7⟩, p10⟩ := hy.facts
      clear hy hwy HX o0 o1 o2 HT ca fa cp cf ff
      go_wp2_with fail
      first
      | (
        have hz := HY.out.fin (0)
        obtain ⟨wz, hwz⟩ : ∃ wz, wz = put8 (wy.setCell ⟨w.heap.size, 0, none⟩ (.int .i64 (0))) (w.heap.size + 1) { t with pc := 0 } := ⟨_, rfl⟩
        rw [← hwz] at hz
        unfold put8 at hwz
        rw [← hwz]
        obtain ⟨⟨z0, z1, z2, z3, z4, z5, z6, z7⟩, zb⟩ := hz
        clear hwz p0 p1 p2 p3 p4 p5 p6 p7 p8 r0 r1 r2 r3 r4 r5 r6 r7 p10
        refine bodyPost_ret (v := .tuple #[.agg (stV { t with pc := 0 }), .int .i64 (-1), .int .i64 0]) (by simp [results, Tryz.results69, go_sem, stV, z0, z1, z2, z3, z4, z5, z6, z7]) rfl ?_
        exact ⟨rfl, zb⟩)
      | (
        have hz := HY.out.fin ((k : Int) + 1)
        obtain ⟨wz, hwz⟩ : ∃ wz, wz = put8 (wy.setCell ⟨w.heap.size, 0, none⟩ (.int .i64 ((k : Int) + 1))) (w.heap.size + 1) { t with pc := (k : Int) + 1 } := ⟨_, rfl⟩
        rw [← hwz] at hz
        unfold put8 at hwz
        rw [← hwz]
        obtain ⟨⟨z0, z1, z2, z3, z4, z5, z6, z7⟩, zb⟩ := hz
        clear hwz p0 p1 p2 p3 p4 p5 p6 p7 p8 r0 r1 r2 r3 r4 r5 r6 r7 p10
        refine bodyPost_ret (v := .tuple #[.agg (stV { t with pc := (k : Int) + 1 }), .int .i64 (-1), .int .i64 0]) (by simp [results, Tryz.results69, go_sem, stV, z0, z1, z2, z3, z4, z5, z6, z7]) rfl ?_
        exact ⟨rfl, zb⟩)

set_option maxHeartbeats 2000000 in
theorem rs_add (ob off n c k : Nat) (c0 c1 c2 c3 c4 c5 : Int) (got : Int) (a : Nat) (b : Nat) (x y v : Int) (is : Bool) (nx : Int) (w : World) (ha : a < 6) (hnx : NextAt n k nx) (hbb : b < 6) (hxg : (⟨k, c0, c1, c2, c3, c4, c5, false⟩ : St).get a = x) (hyg : (⟨k, c0, c1, c2, c3, c4, c5, false⟩ : St).get b = y) (hx0 : 0 ≤ x ∧ x < 1000) (hy0 : 0 ≤ y ∧ y < 1000) (hv : (x + y) % 1000 = v) (h : DoHyp w ob off n k 3 a b) :
    Calls Tryz.prog 69 #[.slice (some ⟨ob, off, none⟩) n c, .agg #[.int .i64 k, .int .i64 c0, .int .i64 c1, .int .i64 c2, .int .i64 c3, .int .i64 c4, .int .i64 c5, .bool false], .int .i64 got, .bool is] w
      (RDoneV w { (⟨k, c0, c1, c2, c3, c4, c5, false⟩ : St).put a v with pc := nx } (-1) 0) := by
  obtain ⟨q1, q2, g0, g1, g2⟩ := h
  have hlt := cell_lt g0
  have HXG := hid hxg
  have HYG := hid hyg
  have HM : Hid ((x + y).tmod 1000 = v) := by rw [← hv]; exact Int.tmod_eq_emod_of_nonneg (by omega)
  clear hxg hyg hv
  obtain ⟨t, ht⟩ : ∃ t, t = (⟨k, c0, c1, c2, c3, c4, c5, false⟩ : St).put a v := ⟨_, rfl⟩
  rw [show ({ (⟨k, c0, c1, c2, c3, c4, c5, false⟩ : St).put a v with pc := nx } : St) = { t with pc := nx } by rw [ht]]
  have HT := hid ht
  clear ht
  rcases hnx with ⟨rfl, rfl⟩ | ⟨hne, rfl⟩
  case' inr => have hnb : ((k : Int) + 1 == (n : Int)) = false := by simp; omega
  all_goals
    go_enter Tryz.func69, Tryz.ntmps69
    go_upto_region 4 with fail
    have hx := do_at w k c0 c1 c2 c3 c4 c5 3 a b
    obtain ⟨wx, hwx⟩ : ∃ wx, wx = (((w.alloc (.cells #[.int .i64 k, .int .i64 c0, .int .i64 c1, .int .i64 c2, .int .i64 c3, .int .i64 c4, .int .i64 c5, .bool false] 81)).alloc (.cells #[.int .i64 0, .int .i64 0, .int .i64 0, .int .i64 0, .int .i64 0, .int .i64 0, .int .i64 0, .bool false] 81)).alloc (.cells #[.int .i64 3, .int .i64 a, .int .i64 b] 72)) := ⟨_, rfl⟩
    rw [← hwx] at hx ⊢
    clear hwx g0 g1 g2
    have HX := hid hx
    obtain ⟨b0, b1, o0, o1, o2, hb⟩ := hx
    have ca := (blk_cell b0 (1 + a)).trans (stV_get _ ha)
    have fa := blk_free b0 (1 + a)
    have cp := blk_cell b0 0
    have cf := blk_cell b0 7
    have ff := blk_free b0 7
    simp [stV] at cp cf
    have cb := (blk_cell b0 (1 + b)).trans (stV_get _ hbb)
    rw [HXG.out] at ca
    rw [HYG.out] at cb
    have e1 : IntKind.i64.wrap (x + y) = x + y := IntWalk.i64_in _ (by omega)
    have e2 : (x + y).tmod 1000 = v := HM.out
    clear b0 b1 hb
    go_upto_region 16 with fail
    go_region
    all_goals go_upto_region 39 with fail
    all_goals
      have hy := (HX.out.put ha v).drew
      obtain ⟨wy, hwy⟩ : ∃ wy, wy = (wx.setCell ⟨w.heap.size, 1 + a, none⟩ (.int .i64 v)).drew := ⟨_, rfl⟩
      rw [← hwy] at hy ⊢
      rw [← HT.out] at hy
      have HY := hid hy
      obtain ⟨⟨p0, p1, p2, p3, p4, p5, p6, p7⟩, p8, ⟨r0, r1, r2, r3, r4, r5, r6, r7⟩, p10⟩ := hy.facts
      clear hy hwy HX o0 o1 o2 HT ca fa cp cf ff
      go_wp2_with fail
      first
      | (
        have hz := HY.out.fin (0)
        obtain ⟨wz, hwz⟩ : ∃ wz, wz = put8 (wy.setCell ⟨w.heap.size, 0, none⟩ (.int .i64 (0))) (w.heap.size + 1) { t with pc := 0 } := ⟨_, rfl⟩
        rw [← hwz] at hz
        unfold put8 at hwz
        rw [← hwz]
        obtain ⟨⟨z0, z1, z2, z3, z4, z5, z6, z7⟩, zb⟩ := hz
        clear hwz p0 p1 p2 p3 p4 p5 p6 p7 p8 r0 r1 r2 r3 r4 r5 r6 r7 p10
        refine bodyPost_ret (v := .tuple #[.agg (stV { t with pc := 0 }), .int .i64 (-1), .int .i64 0]) (by simp [results, Tryz.results69, go_sem, stV, z0, z1, z2, z3, z4, z5, z6, z7]) rfl ?_
        exact ⟨rfl, zb⟩)
      | (
        have hz := HY.out.fin ((k : Int) + 1)
        obtain ⟨wz, hwz⟩ : ∃ wz, wz = put8 (wy.setCell ⟨w.heap.size, 0, none⟩ (.int .i64 ((k : Int) + 1))) (w.heap.size + 1) { t with pc := (k : Int) + 1 } := ⟨_, rfl⟩
        rw [← hwz] at hz
        unfold put8 at hwz
        rw [← hwz]
        obtain ⟨⟨z0, z1, z2, z3, z4, z5, z6, z7⟩, zb⟩ := hz
        clear hwz p0 p1 p2 p3 p4 p5 p6 p7 p8 r0 r1 r2 r3 r4 r5 r6 r7 p10
        refine bodyPost_ret (v := .tuple #[.agg (stV { t with pc := (k : Int) + 1 }), .int .i64 (-1), .int .i64 0]) (by simp [results, Tryz.results69, go_sem, stV, z0, z1, z2, z3, z4, z5, z6, z7]) rfl ?_
        exact ⟨rfl, zb⟩)

set_option maxHeartbeats 2000000 in
theorem rs_sub (ob off n c k : Nat) (c0 c1 c2 c3 c4 c5 : Int) (got : Int) (a : Nat) (b : Nat) (x y v : Int) (is : Bool) (nx : Int) (w : World) (ha : a < 6) (hnx : NextAt n k nx) (hbb : b < 6) (hxg : (⟨k, c0, c1, c2, c3, c4, c5, false⟩ : St).get a = x) (hyg : (⟨k, c0, c1, c2, c3, c4, c5, false⟩ : St).get b = y) (hx0 : 0 ≤ x ∧ x < 1000) (hy0 : 0 ≤ y ∧ y < 1000) (hv : (x + 1000 - y) % 1000 = v) (h : DoHyp w ob off n k 4 a b) :
    Calls Tryz.prog 69 #[.slice (some ⟨ob, off, none⟩) n c, .agg #[.int .i64 k, .int .i64 c0, .int .i64 c1, .int .i64 c2, .int .i64 c3, .int .i64 c4, .int .i64 c5, .bool false], .int .i64 got, .bool is] w
      (RDoneV w { (⟨k, c0, c1, c2, c3, c4, c5, false⟩ : St).put a v with pc := nx } (-1) 0) := by
  obtain ⟨q1, q2, g0, g1, g2⟩ := h
  have hlt := cell_lt g0
  have HXG := hid hxg
  have HYG := hid hyg
  have HM : Hid ((x + 1000 - y).tmod 1000 = v) := by rw [← hv]; exact Int.tmod_eq_emod_of_nonneg (by omega)
  clear hxg hyg hv
  obtain ⟨t, ht⟩ : ∃ t, t = (⟨k, c0, c1, c2, c3, c4, c5, false⟩ : St).put a v := ⟨_, rfl⟩
  rw [show ({ (⟨k, c0, c1, c2, c3, c4, c5, false⟩ : St).put a v with pc := nx } : St) = { t with pc := nx } by rw [ht]]
  have HT := hid ht
  clear ht
  rcases hnx with ⟨rfl, rfl⟩ | ⟨hne, rfl⟩
  case' inr => have hnb : ((k : Int) + 1 == (n : Int)) = false := by simp; omega
  all_goals
    go_enter Tryz.func69, Tryz.ntmps69
    go_upto_region 4 with fail
    have hx := do_at w k c0 c1 c2 c3 c4 c5 4 a b
    obtain ⟨wx, hwx⟩ : ∃ wx, wx = (((w.alloc (.cells #[.int .i64 k, .int .i64 c0, .int .i64 c1, .int .i64 c2, .int .i64 c3, .int .i64 c4, .int .i64 c5, .bool false] 81)).alloc (.cells #[.int .i64 0, .int .i64 0, .int .i64 0, .int .i64 0, .int .i64 0, .int .i64 0, .int .i64 0, .bool false] 81)).alloc (.cells #[.int .i64 4, .int .i64 a, .int .i64 b] 72)) := ⟨_, rfl⟩
    rw [← hwx] at hx ⊢
    clear hwx g0 g1 g2
    have HX := hid hx
    obtain ⟨b0, b1, o0, o1, o2, hb⟩ := hx
    have ca := (blk_cell b0 (1 + a)).trans (stV_get _ ha)
    have fa := blk_free b0 (1 + a)
    have cp := blk_cell b0 0
    have cf := blk_cell b0 7
    have ff := blk_free b0 7
    simp [stV] at cp cf
    have cb := (blk_cell b0 (1 + b)).trans (stV_get _ hbb)
    rw [HXG.out] at ca
    rw [HYG.out] at cb
    have e0 : IntKind.i64.wrap (x + 1000) = x + 1000 := IntWalk.i64_in _ (by omega)
    have e1 : IntKind.i64.wrap (x + 1000 - y) = x + 1000 - y := IntWalk.i64_in _ (by omega)
    have e2 : (x + 1000 - y).tmod 1000 = v := HM.out
    clear b0 b1 hb
    go_upto_region 18 with fail
    go_region
    all_goals go_upto_region 39 with fail
    all_goals
      have hy := (HX.out.put ha v).drew
      obtain ⟨wy, hwy⟩ : ∃ wy, wy = (wx.setCell ⟨w.heap.size, 1 + a, none⟩ (.int .i64 v)).drew := ⟨_, rfl⟩
      rw [← hwy] at hy ⊢
      rw [← HT.out] at hy
      have HY := hid hy
      obtain ⟨⟨p0, p1, p2, p3, p4, p5, p6, p7⟩, p8, ⟨r0, r1, r2, r3, r4, r5, r6, r7⟩, p10⟩ := hy.facts
      clear hy hwy HX o0 o1 o2 HT ca fa cp cf ff
      go_wp2_with fail
      first
      | (
        have hz := HY.out.fin (0)
        obtain ⟨wz, hwz⟩ : ∃ wz, wz = put8 (wy.setCell ⟨w.heap.size, 0, none⟩ (.int .i64 (0))) (w.heap.size + 1) { t with pc := 0 } := ⟨_, rfl⟩
        rw [← hwz] at hz
        unfold put8 at hwz
        rw [← hwz]
        obtain ⟨⟨z0, z1, z2, z3, z4, z5, z6, z7⟩, zb⟩ := hz
        clear hwz p0 p1 p2 p3 p4 p5 p6 p7 p8 r0 r1 r2 r3 r4 r5 r6 r7 p10
        refine bodyPost_ret (v := .tuple #[.agg (stV { t with pc := 0 }), .int .i64 (-1), .int .i64 0]) (by simp [results, Tryz.results69, go_sem, stV, z0, z1, z2, z3, z4, z5, z6, z7]) rfl ?_
        exact ⟨rfl, zb⟩)
      | (
        have hz := HY.out.fin ((k : Int) + 1)
        obtain ⟨wz, hwz⟩ : ∃ wz, wz = put8 (wy.setCell ⟨w.heap.size, 0, none⟩ (.int .i64 ((k : Int) + 1))) (w.heap.size + 1) { t with pc := (k : Int) + 1 } := ⟨_, rfl⟩
        rw [← hwz] at hz
        unfold put8 at hwz
        rw [← hwz]
        obtain ⟨⟨z0, z1, z2, z3, z4, z5, z6, z7⟩, zb⟩ := hz
        clear hwz p0 p1 p2 p3 p4 p5 p6 p7 p8 r0 r1 r2 r3 r4 r5 r6 r7 p10
        refine bodyPost_ret (v := .tuple #[.agg (stV { t with pc := (k : Int) + 1 }), .int .i64 (-1), .int .i64 0]) (by simp [results, Tryz.results69, go_sem, stV, z0, z1, z2, z3, z4, z5, z6, z7]) rfl ?_
        exact ⟨rfl, zb⟩)

set_option maxHeartbeats 2000000 in
theorem rs_mul (ob off n c k : Nat) (c0 c1 c2 c3 c4 c5 : Int) (got : Int) (a : Nat) (b : Nat) (x y v : Int) (is : Bool) (nx : Int) (w : World) (ha : a < 6) (hnx : NextAt n k nx) (hbb : b < 6) (hxg : (⟨k, c0, c1, c2, c3, c4, c5, false⟩ : St).get a = x) (hyg : (⟨k, c0, c1, c2, c3, c4, c5, false⟩ : St).get b = y) (hx0 : 0 ≤ x ∧ x < 1000) (hy0 : 0 ≤ y ∧ y < 1000) (hv : (x * y) % 1000 = v) (h : DoHyp w ob off n k 5 a b) :
    Calls Tryz.prog 69 #[.slice (some ⟨ob, off, none⟩) n c, .agg #[.int .i64 k, .int .i64 c0, .int .i64 c1, .int .i64 c2, .int .i64 c3, .int .i64 c4, .int .i64 c5, .bool false], .int .i64 got, .bool is] w
      (RDoneV w { (⟨k, c0, c1, c2, c3, c4, c5, false⟩ : St).put a v with pc := nx } (-1) 0) := by
  obtain ⟨q1, q2, g0, g1, g2⟩ := h
  have hlt := cell_lt g0
  have HXG := hid hxg
  have HYG := hid hyg
  have HM : Hid ((x * y).tmod 1000 = v) := by rw [← hv]; exact Int.tmod_eq_emod_of_nonneg (by exact Int.mul_nonneg hx0.1 hy0.1)
  clear hxg hyg hv
  obtain ⟨t, ht⟩ : ∃ t, t = (⟨k, c0, c1, c2, c3, c4, c5, false⟩ : St).put a v := ⟨_, rfl⟩
  rw [show ({ (⟨k, c0, c1, c2, c3, c4, c5, false⟩ : St).put a v with pc := nx } : St) = { t with pc := nx } by rw [ht]]
  have HT := hid ht
  clear ht
  rcases hnx with ⟨rfl, rfl⟩ | ⟨hne, rfl⟩
  case' inr => have hnb : ((k : Int) + 1 == (n : Int)) = false := by simp; omega
  all_goals
    go_enter Tryz.func69, Tryz.ntmps69
    go_upto_region 4 with fail
    have hx := do_at w k c0 c1 c2 c3 c4 c5 5 a b
    obtain ⟨wx, hwx⟩ : ∃ wx, wx = (((w.alloc (.cells #[.int .i64 k, .int .i64 c0, .int .i64 c1, .int .i64 c2, .int .i64 c3, .int .i64 c4, .int .i64 c5, .bool false] 81)).alloc (.cells #[.int .i64 0, .int .i64 0, .int .i64 0, .int .i64 0, .int .i64 0, .int .i64 0, .int .i64 0, .bool false] 81)).alloc (.cells #[.int .i64 5, .int .i64 a, .int .i64 b] 72)) := ⟨_, rfl⟩
    rw [← hwx] at hx ⊢
    clear hwx g0 g1 g2
    have HX := hid hx
    obtain ⟨b0, b1, o0, o1, o2, hb⟩ := hx
    have ca := (blk_cell b0 (1 + a)).trans (stV_get _ ha)
    have fa := blk_free b0 (1 + a)
    have cp := blk_cell b0 0
    have cf := blk_cell b0 7
    have ff := blk_free b0 7
    simp [stV] at cp cf
    have cb := (blk_cell b0 (1 + b)).trans (stV_get _ hbb)
    rw [HXG.out] at ca
    rw [HYG.out] at cb
    have m0 : 0 ≤ x * y := Int.mul_nonneg hx0.1 hy0.1
    have m1 : x * y ≤ 1000 * 1000 := Int.mul_le_mul (by omega) (by omega) hy0.1 (by omega)
    have e1 : IntKind.i64.wrap (x * y) = x * y := IntWalk.i64_in _ (by omega)
    have e2 : (x * y).tmod 1000 = v := HM.out
    clear b0 b1 hb
    go_upto_region 20 with fail
    go_region
    all_goals go_upto_region 39 with fail
    all_goals
      have hy := (HX.out.put ha v).drew
      obtain ⟨wy, hwy⟩ : ∃ wy, wy = (wx.setCell ⟨w.heap.size, 1 + a, none⟩ (.int .i64 v)).drew := ⟨_, rfl⟩
      rw [← hwy] at hy ⊢
      rw [← HT.out] at hy
      have HY := hid hy
      obtain ⟨⟨p0, p1, p2, p3, p4, p5, p6, p7⟩, p8, ⟨r0, r1, r2, r3, r4, r5, r6, r7⟩, p10⟩ := hy.facts
      clear hy hwy HX o0 o1 o2 HT ca fa cp cf ff
      go_wp2_with fail
      first
      | (
        have hz := HY.out.fin (0)
        obtain ⟨wz, hwz⟩ : ∃ wz, wz = put8 (wy.setCell ⟨w.heap.size, 0, none⟩ (.int .i64 (0))) (w.heap.size + 1) { t with pc := 0 } := ⟨_, rfl⟩
        rw [← hwz] at hz
        unfold put8 at hwz
        rw [← hwz]
        obtain ⟨⟨z0, z1, z2, z3, z4, z5, z6, z7⟩, zb⟩ := hz
        clear hwz p0 p1 p2 p3 p4 p5 p6 p7 p8 r0 r1 r2 r3 r4 r5 r6 r7 p10
        refine bodyPost_ret (v := .tuple #[.agg (stV { t with pc := 0 }), .int .i64 (-1), .int .i64 0]) (by simp [results, Tryz.results69, go_sem, stV, z0, z1, z2, z3, z4, z5, z6, z7]) rfl ?_
        exact ⟨rfl, zb⟩)
      | (
        have hz := HY.out.fin ((k : Int) + 1)
        obtain ⟨wz, hwz⟩ : ∃ wz, wz = put8 (wy.setCell ⟨w.heap.size, 0, none⟩ (.int .i64 ((k : Int) + 1))) (w.heap.size + 1) { t with pc := (k : Int) + 1 } := ⟨_, rfl⟩
        rw [← hwz] at hz
        unfold put8 at hwz
        rw [← hwz]
        obtain ⟨⟨z0, z1, z2, z3, z4, z5, z6, z7⟩, zb⟩ := hz
        clear hwz p0 p1 p2 p3 p4 p5 p6 p7 p8 r0 r1 r2 r3 r4 r5 r6 r7 p10
        refine bodyPost_ret (v := .tuple #[.agg (stV { t with pc := (k : Int) + 1 }), .int .i64 (-1), .int .i64 0]) (by simp [results, Tryz.results69, go_sem, stV, z0, z1, z2, z3, z4, z5, z6, z7]) rfl ?_
        exact ⟨rfl, zb⟩)

set_option maxHeartbeats 2000000 in
theorem rs_jump (ob off n c k : Nat) (c0 c1 c2 c3 c4 c5 : Int) (got : Int) (a : Nat) (b : Int) (is : Bool) (nx : Int) (w : World) (ha : a < 6) (hnx : NextAt n k nx)  (h : DoHyp w ob off n k 7 a b) :
    Calls Tryz.prog 69 #[.slice (some ⟨ob, off, none⟩) n c, .agg #[.int .i64 k, .int .i64 c0, .int .i64 c1, .int .i64 c2, .int .i64 c3, .int .i64 c4, .int .i64 c5, .bool false], .int .i64 got, .bool is] w
      (RDoneV w { (⟨k, c0, c1, c2, c3, c4, c5, false⟩ : St) with pc := b } (-1) 0) := by
  obtain ⟨q1, q2, g0, g1, g2⟩ := h
  have hlt := cell_lt g0
  obtain ⟨t, ht⟩ : ∃ t, t = (⟨k, c0, c1, c2, c3, c4, c5, false⟩ : St) := ⟨_, rfl⟩
  rw [show ({ (⟨k, c0, c1, c2, c3, c4, c5, false⟩ : St) with pc := b } : St) = { t with pc := b } by rw [ht]]
  have HT := hid ht
  clear ht
  rcases hnx with ⟨rfl, rfl⟩ | ⟨hne, rfl⟩
  case' inr => have hnb : ((k : Int) + 1 == (n : Int)) = false := by simp; omega
  all_goals
    go_enter Tryz.func69, Tryz.ntmps69
    go_upto_region 4 with fail
    have hx := do_at w k c0 c1 c2 c3 c4 c5 7 a b
    obtain ⟨wx, hwx⟩ : ∃ wx, wx = (((w.alloc (.cells #[.int .i64 k, .int .i64 c0, .int .i64 c1, .int .i64 c2, .int .i64 c3, .int .i64 c4, .int .i64 c5, .bool false] 81)).alloc (.cells #[.int .i64 0, .int .i64 0, .int .i64 0, .int .i64 0, .int .i64 0, .int .i64 0, .int .i64 0, .bool false] 81)).alloc (.cells #[.int .i64 7, .int .i64 a, .int .i64 b] 72)) := ⟨_, rfl⟩
    rw [← hwx] at hx ⊢
    clear hwx g0 g1 g2
    have HX := hid hx
    obtain ⟨b0, b1, o0, o1, o2, hb⟩ := hx
    have ca := (blk_cell b0 (1 + a)).trans (stV_get _ ha)
    have fa := blk_free b0 (1 + a)
    have cp := blk_cell b0 0
    have cf := blk_cell b0 7
    have ff := blk_free b0 7
    simp [stV] at cp cf
    clear b0 b1 hb
    go_upto_region 39 with fail
    all_goals
      have hy := HX.out.stay
      obtain ⟨wy, hwy⟩ : ∃ wy, wy = wx := ⟨_, rfl⟩
      rw [← hwy] at hy ⊢
      rw [← HT.out] at hy
      have HY := hid hy
      obtain ⟨⟨p0, p1, p2, p3, p4, p5, p6, p7⟩, p8, ⟨r0, r1, r2, r3, r4, r5, r6, r7⟩, p10⟩ := hy.facts
      clear hy hwy HX o0 o1 o2 HT ca fa cp cf ff
      go_wp2_with fail
      have hz := HY.out.fin (b)
      obtain ⟨wz, hwz⟩ : ∃ wz, wz = put8 (wy.setCell ⟨w.heap.size, 0, none⟩ (.int .i64 (b))) (w.heap.size + 1) { t with pc := b } := ⟨_, rfl⟩
      rw [← hwz] at hz
      unfold put8 at hwz
      rw [← hwz]
      obtain ⟨⟨z0, z1, z2, z3, z4, z5, z6, z7⟩, zb⟩ := hz
      clear hwz p0 p1 p2 p3 p4 p5 p6 p7 p8 r0 r1 r2 r3 r4 r5 r6 r7 p10
      refine bodyPost_ret (v := .tuple #[.agg (stV { t with pc := b }), .int .i64 (-1), .int .i64 0]) (by simp [results, Tryz.results69, go_sem, stV, z0, z1, z2, z3, z4, z5, z6, z7]) rfl ?_
      exact ⟨rfl, zb⟩

set_option maxHeartbeats 2000000 in
theorem rs_rest (ob off n c k : Nat) (c0 c1 c2 c3 c4 c5 : Int) (got : Int) (a : Nat) (b : Int) (is : Bool) (nx : Int) (w : World) (ha : a < 6) (hnx : NextAt n k nx)  (h : DoHyp w ob off n k 10 a b) :
    Calls Tryz.prog 69 #[.slice (some ⟨ob, off, none⟩) n c, .agg #[.int .i64 k, .int .i64 c0, .int .i64 c1, .int .i64 c2, .int .i64 c3, .int .i64 c4, .int .i64 c5, .bool false], .int .i64 got, .bool is] w
      (RDoneV w { (⟨k, c0, c1, c2, c3, c4, c5, false⟩ : St) with pc := nx } (-1) 0) := by
  obtain ⟨q1, q2, g0, g1, g2⟩ := h
  have hlt := cell_lt g0
  obtain ⟨t, ht⟩ : ∃ t, t = (⟨k, c0, c1, c2, c3, c4, c5, false⟩ : St) := ⟨_, rfl⟩
  rw [show ({ (⟨k, c0, c1, c2, c3, c4, c5, false⟩ : St) with pc := nx } : St) = { t with pc := nx } by rw [ht]]
  have HT := hid ht
  clear ht
  rcases hnx with ⟨rfl, rfl⟩ | ⟨hne, rfl⟩
  case' inr => have hnb : ((k : Int) + 1 == (n : Int)) = false := by simp; omega
  all_goals
    go_enter Tryz.func69, Tryz.ntmps69
    go_upto_region 4 with fail
    have hx := do_at w k c0 c1 c2 c3 c4 c5 10 a b
    obtain ⟨wx, hwx⟩ : ∃ wx, wx = (((w.alloc (.cells #[.int .i64 k, .int .i64 c0, .int .i64 c1, .int .i64 c2, .int .i64 c3, .int .i64 c4, .int .i64 c5, .bool false] 81)).alloc (.cells #[.int .i64 0, .int .i64 0, .int .i64 0, .int .i64 0, .int .i64 0, .int .i64 0, .int .i64 0, .bool false] 81)).alloc (.cells #[.int .i64 10, .int .i64 a, .int .i64 b] 72)) := ⟨_, rfl⟩
    rw [← hwx] at hx ⊢
    clear hwx g0 g1 g2
    have HX := hid hx
    obtain ⟨b0, b1, o0, o1, o2, hb⟩ := hx
    have ca := (blk_cell b0 (1 + a)).trans (stV_get _ ha)
    have fa := blk_free b0 (1 + a)
    have cp := blk_cell b0 0
    have cf := blk_cell b0 7
    have ff := blk_free b0 7
    simp [stV] at cp cf
    clear b0 b1 hb
    go_upto_region 39 with fail
    all_goals
      have hy := HX.out.stay
      obtain ⟨wy, hwy⟩ : ∃ wy, wy = wx := ⟨_, rfl⟩
      rw [← hwy] at hy ⊢
      rw [← HT.out] at hy
      have HY := hid hy
      obtain ⟨⟨p0, p1, p2, p3, p4, p5, p6, p7⟩, p8, ⟨r0, r1, r2, r3, r4, r5, r6, r7⟩, p10⟩ := hy.facts
      clear hy hwy HX o0 o1 o2 HT ca fa cp cf ff
      go_wp2_with fail
      first
      | (
        have hz := HY.out.fin (0)
        obtain ⟨wz, hwz⟩ : ∃ wz, wz = put8 (wy.setCell ⟨w.heap.size, 0, none⟩ (.int .i64 (0))) (w.heap.size + 1) { t with pc := 0 } := ⟨_, rfl⟩
        rw [← hwz] at hz
        unfold put8 at hwz
        rw [← hwz]
        obtain ⟨⟨z0, z1, z2, z3, z4, z5, z6, z7⟩, zb⟩ := hz
        clear hwz p0 p1 p2 p3 p4 p5 p6 p7 p8 r0 r1 r2 r3 r4 r5 r6 r7 p10
        refine bodyPost_ret (v := .tuple #[.agg (stV { t with pc := 0 }), .int .i64 (-1), .int .i64 0]) (by simp [results, Tryz.results69, go_sem, stV, z0, z1, z2, z3, z4, z5, z6, z7]) rfl ?_
        exact ⟨rfl, zb⟩)
      | (
        have hz := HY.out.fin ((k : Int) + 1)
        obtain ⟨wz, hwz⟩ : ∃ wz, wz = put8 (wy.setCell ⟨w.heap.size, 0, none⟩ (.int .i64 ((k : Int) + 1))) (w.heap.size + 1) { t with pc := (k : Int) + 1 } := ⟨_, rfl⟩
        rw [← hwz] at hz
        unfold put8 at hwz
        rw [← hwz]
        obtain ⟨⟨z0, z1, z2, z3, z4, z5, z6, z7⟩, zb⟩ := hz
        clear hwz p0 p1 p2 p3 p4 p5 p6 p7 p8 r0 r1 r2 r3 r4 r5 r6 r7 p10
        refine bodyPost_ret (v := .tuple #[.agg (stV { t with pc := (k : Int) + 1 }), .int .i64 (-1), .int .i64 0]) (by simp [results, Tryz.results69, go_sem, stV, z0, z1, z2, z3, z4, z5, z6, z7]) rfl ?_
        exact ⟨rfl, zb⟩)

set_option maxHeartbeats 2000000 in
theorem rs_zero (ob off n c k : Nat) (c0 c1 c2 c3 c4 c5 : Int) (got : Int) (a : Nat) (b : Int) (is : Bool) (nx : Int) (w : World) (ha : a < 6) (hnx : NextAt n k nx) (hxg : (⟨k, c0, c1, c2, c3, c4, c5, false⟩ : St).get a = 0) (h : DoHyp w ob off n k 6 a b) :
    Calls Tryz.prog 69 #[.slice (some ⟨ob, off, none⟩) n c, .agg #[.int .i64 k, .int .i64 c0, .int .i64 c1, .int .i64 c2, .int .i64 c3, .int .i64 c4, .int .i64 c5, .bool false], .int .i64 got, .bool is] w
      (RDoneV w { (⟨k, c0, c1, c2, c3, c4, c5, false⟩ : St) with pc := b } (-1) 0) := by
  obtain ⟨q1, q2, g0, g1, g2⟩ := h
  have hlt := cell_lt g0
  have HXG := hid hxg
  clear hxg
  obtain ⟨t, ht⟩ : ∃ t, t = (⟨k, c0, c1, c2, c3, c4, c5, false⟩ : St) := ⟨_, rfl⟩
  rw [show ({ (⟨k, c0, c1, c2, c3, c4, c5, false⟩ : St) with pc := b } : St) = { t with pc := b } by rw [ht]]
  have HT := hid ht
  clear ht
  rcases hnx with ⟨rfl, rfl⟩ | ⟨hne, rfl⟩
  case' inr => have hnb : ((k : Int) + 1 == (n : Int)) = false := by simp; omega
  all_goals
    go_enter Tryz.func69, Tryz.ntmps69
    go_upto_region 4 with fail
    have hx := do_at w k c0 c1 c2 c3 c4 c5 6 a b
    obtain ⟨wx, hwx⟩ : ∃ wx, wx = (((w.alloc (.cells #[.int .i64 k, .int .i64 c0, .int .i64 c1, .int .i64 c2, .int .i64 c3, .int .i64 c4, .int .i64 c5, .bool false] 81)).alloc (.cells #[.int .i64 0, .int .i64 0, .int .i64 0, .int .i64 0, .int .i64 0, .int .i64 0, .int .i64 0, .bool false] 81)).alloc (.cells #[.int .i64 6, .int .i64 a, .int .i64 b] 72)) := ⟨_, rfl⟩
    rw [← hwx] at hx ⊢
    clear hwx g0 g1 g2
    have HX := hid hx
    obtain ⟨b0, b1, o0, o1, o2, hb⟩ := hx
    have ca := (blk_cell b0 (1 + a)).trans (stV_get _ ha)
    have fa := blk_free b0 (1 + a)
    have cp := blk_cell b0 0
    have cf := blk_cell b0 7
    have ff := blk_free b0 7
    simp [stV] at cp cf
    rw [HXG.out] at ca
    clear b0 b1 hb
    go_upto_region 39 with fail
    all_goals
      have hy := HX.out.stay
      obtain ⟨wy, hwy⟩ : ∃ wy, wy = wx := ⟨_, rfl⟩
      rw [← hwy] at hy ⊢
      rw [← HT.out] at hy
      have HY := hid hy
      obtain ⟨⟨p0, p1, p2, p3, p4, p5, p6, p7⟩, p8, ⟨r0, r1, r2, r3, r4, r5, r6, r7⟩, p10⟩ := hy.facts
      clear hy hwy HX o0 o1 o2 HT ca fa cp cf ff
      go_wp2_with fail
      have hz := HY.out.fin (b)
      obtain ⟨wz, hwz⟩ : ∃ wz, wz = put8 (wy.setCell ⟨w.heap.size, 0, none⟩ (.int .i64 (b))) (w.heap.size + 1) { t with pc := b } := ⟨_, rfl⟩
      rw [← hwz] at hz
      unfold put8 at hwz
      rw [← hwz]
      obtain ⟨⟨z0, z1, z2, z3, z4, z5, z6, z7⟩, zb⟩ := hz
      clear hwz p0 p1 p2 p3 p4 p5 p6 p7 p8 r0 r1 r2 r3 r4 r5 r6 r7 p10
      refine bodyPost_ret (v := .tuple #[.agg (stV { t with pc := b }), .int .i64 (-1), .int .i64 0]) (by simp [results, Tryz.results69, go_sem, stV, z0, z1, z2, z3, z4, z5, z6, z7]) rfl ?_
      exact ⟨rfl, zb⟩

set_option maxHeartbeats 2000000 in
theorem rs_nonzero (ob off n c k : Nat) (c0 c1 c2 c3 c4 c5 : Int) (got : Int) (a : Nat) (b : Int) (x : Int) (is : Bool) (nx : Int) (w : World) (ha : a < 6) (hnx : NextAt n k nx) (hxg : (⟨k, c0, c1, c2, c3, c4, c5, false⟩ : St).get a = x) (hx0 : (x == 0) = false) (h : DoHyp w ob off n k 6 a b) :
    Calls Tryz.prog 69 #[.slice (some ⟨ob, off, none⟩) n c, .agg #[.int .i64 k, .int .i64 c0, .int .i64 c1, .int .i64 c2, .int .i64 c3, .int .i64 c4, .int .i64 c5, .bool false], .int .i64 got, .bool is] w
      (RDoneV w { (⟨k, c0, c1, c2, c3, c4, c5, false⟩ : St) with pc := nx } (-1) 0) := by
  obtain ⟨q1, q2, g0, g1, g2⟩ := h
  have hlt := cell_lt g0
  have HXG := hid hxg
  clear hxg
  obtain ⟨t, ht⟩ : ∃ t, t = (⟨k, c0, c1, c2, c3, c4, c5, false⟩ : St) := ⟨_, rfl⟩
  rw [show ({ (⟨k, c0, c1, c2, c3, c4, c5, false⟩ : St) with pc := nx } : St) = { t with pc := nx } by rw [ht]]
  have HT := hid ht
  clear ht
  rcases hnx with ⟨rfl, rfl⟩ | ⟨hne, rfl⟩
  case' inr => have hnb : ((k : Int) + 1 == (n : Int)) = false := by simp; omega
  all_goals
    go_enter Tryz.func69, Tryz.ntmps69
    go_upto_region 4 with fail
    have hx := do_at w k c0 c1 c2 c3 c4 c5 6 a b
    obtain ⟨wx, hwx⟩ : ∃ wx, wx = (((w.alloc (.cells #[.int .i64 k, .int .i64 c0, .int .i64 c1, .int .i64 c2, .int .i64 c3, .int .i64 c4, .int .i64 c5, .bool false] 81)).alloc (.cells #[.int .i64 0, .int .i64 0, .int .i64 0, .int .i64 0, .int .i64 0, .int .i64 0, .int .i64 0, .bool false] 81)).alloc (.cells #[.int .i64 6, .int .i64 a, .int .i64 b] 72)) := ⟨_, rfl⟩
    rw [← hwx] at hx ⊢
    clear hwx g0 g1 g2
    have HX := hid hx
    obtain ⟨b0, b1, o0, o1, o2, hb⟩ := hx
    have ca := (blk_cell b0 (1 + a)).trans (stV_get _ ha)
    have fa := blk_free b0 (1 + a)
    have cp := blk_cell b0 0
    have cf := blk_cell b0 7
    have ff := blk_free b0 7
    simp [stV] at cp cf
    rw [HXG.out] at ca
    clear b0 b1 hb
    go_upto_region 39 with fail
    all_goals
      have hy := HX.out.stay
      obtain ⟨wy, hwy⟩ : ∃ wy, wy = wx := ⟨_, rfl⟩
      rw [← hwy] at hy ⊢
      rw [← HT.out] at hy
      have HY := hid hy
      obtain ⟨⟨p0, p1, p2, p3, p4, p5, p6, p7⟩, p8, ⟨r0, r1, r2, r3, r4, r5, r6, r7⟩, p10⟩ := hy.facts
      clear hy hwy HX o0 o1 o2 HT ca fa cp cf ff
      go_wp2_with fail
      first
      | (
        have hz := HY.out.fin (0)
        obtain ⟨wz, hwz⟩ : ∃ wz, wz = put8 (wy.setCell ⟨w.heap.size, 0, none⟩ (.int .i64 (0))) (w.heap.size + 1) { t with pc := 0 } := ⟨_, rfl⟩
        rw [← hwz] at hz
        unfold put8 at hwz
        rw [← hwz]
        obtain ⟨⟨z0, z1, z2, z3, z4, z5, z6, z7⟩, zb⟩ := hz
        clear hwz p0 p1 p2 p3 p4 p5 p6 p7 p8 r0 r1 r2 r3 r4 r5 r6 r7 p10
        refine bodyPost_ret (v := .tuple #[.agg (stV { t with pc := 0 }), .int .i64 (-1), .int .i64 0]) (by simp [results, Tryz.results69, go_sem, stV, z0, z1, z2, z3, z4, z5, z6, z7]) rfl ?_
        exact ⟨rfl, zb⟩)
      | (
        have hz := HY.out.fin ((k : Int) + 1)
        obtain ⟨wz, hwz⟩ : ∃ wz, wz = put8 (wy.setCell ⟨w.heap.size, 0, none⟩ (.int .i64 ((k : Int) + 1))) (w.heap.size + 1) { t with pc := (k : Int) + 1 } := ⟨_, rfl⟩
        rw [← hwz] at hz
        unfold put8 at hwz
        rw [← hwz]
        obtain ⟨⟨z0, z1, z2, z3, z4, z5, z6, z7⟩, zb⟩ := hz
        clear hwz p0 p1 p2 p3 p4 p5 p6 p7 p8 r0 r1 r2 r3 r4 r5 r6 r7 p10
        refine bodyPost_ret (v := .tuple #[.agg (stV { t with pc := (k : Int) + 1 }), .int .i64 (-1), .int .i64 0]) (by simp [results, Tryz.results69, go_sem, stV, z0, z1, z2, z3, z4, z5, z6, z7]) rfl ?_
        exact ⟨rfl, zb⟩)

set_option maxHeartbeats 2000000 in
theorem rs_send (ob off n c k : Nat) (c0 c1 c2 c3 c4 c5 : Int) (got : Int) (a : Nat) (b : Int) (sx : Int) (is : Bool) (nx : Int) (w : World) (ha : a < 6) (hnx : NextAt n k nx) (hxg : (⟨k, c0, c1, c2, c3, c4, c5, false⟩ : St).get a = sx) (h : DoHyp w ob off n k 8 a b) :
    Calls Tryz.prog 69 #[.slice (some ⟨ob, off, none⟩) n c, .agg #[.int .i64 k, .int .i64 c0, .int .i64 c1, .int .i64 c2, .int .i64 c3, .int .i64 c4, .int .i64 c5, .bool false], .int .i64 got, .bool is] w
      (RDoneV w { (⟨k, c0, c1, c2, c3, c4, c5, false⟩ : St) with pc := nx } (sx) 1) := by
  obtain ⟨q1, q2, g0, g1, g2⟩ := h
  have hlt := cell_lt g0
  have HXG := hid hxg
  clear hxg
  obtain ⟨t, ht⟩ : ∃ t, t = (⟨k, c0, c1, c2, c3, c4, c5, false⟩ : St) := ⟨_, rfl⟩
  rw [show ({ (⟨k, c0, c1, c2, c3, c4, c5, false⟩ : St) with pc := nx } : St) = { t with pc := nx } by rw [ht]]
  have HT := hid ht
  clear ht
  rcases hnx with ⟨rfl, rfl⟩ | ⟨hne, rfl⟩
  case' inr => have hnb : ((k : Int) + 1 == (n : Int)) = false := by simp; omega
  all_goals
    go_enter Tryz.func69, Tryz.ntmps69
    go_upto_region 4 with fail
    have hx := do_at w k c0 c1 c2 c3 c4 c5 8 a b
    obtain ⟨wx, hwx⟩ : ∃ wx, wx = (((w.alloc (.cells #[.int .i64 k, .int .i64 c0, .int .i64 c1, .int .i64 c2, .int .i64 c3, .int .i64 c4, .int .i64 c5, .bool false] 81)).alloc (.cells #[.int .i64 0, .int .i64 0, .int .i64 0, .int .i64 0, .int .i64 0, .int .i64 0, .int .i64 0, .bool false] 81)).alloc (.cells #[.int .i64 8, .int .i64 a, .int .i64 b] 72)) := ⟨_, rfl⟩
    rw [← hwx] at hx ⊢
    clear hwx g0 g1 g2
    have HX := hid hx
    obtain ⟨b0, b1, o0, o1, o2, hb⟩ := hx
    have ca := (blk_cell b0 (1 + a)).trans (stV_get _ ha)
    have fa := blk_free b0 (1 + a)
    have cp := blk_cell b0 0
    have cf := blk_cell b0 7
    have ff := blk_free b0 7
    simp [stV] at cp cf
    rw [HXG.out] at ca
    clear b0 b1 hb
    go_upto_region 39 with fail
    all_goals
      have hy := HX.out.stay
      obtain ⟨wy, hwy⟩ : ∃ wy, wy = wx := ⟨_, rfl⟩
      rw [← hwy] at hy ⊢
      rw [← HT.out] at hy
      have HY := hid hy
      obtain ⟨⟨p0, p1, p2, p3, p4, p5, p6, p7⟩, p8, ⟨r0, r1, r2, r3, r4, r5, r6, r7⟩, p10⟩ := hy.facts
      clear hy hwy HX o0 o1 o2 HT ca fa cp cf ff
      go_wp2_with fail
      first
      | (
        have hz := HY.out.fin (0)
        obtain ⟨wz, hwz⟩ : ∃ wz, wz = put8 (wy.setCell ⟨w.heap.size, 0, none⟩ (.int .i64 (0))) (w.heap.size + 1) { t with pc := 0 } := ⟨_, rfl⟩
        rw [← hwz] at hz
        unfold put8 at hwz
        rw [← hwz]
        obtain ⟨⟨z0, z1, z2, z3, z4, z5, z6, z7⟩, zb⟩ := hz
        clear hwz p0 p1 p2 p3 p4 p5 p6 p7 p8 r0 r1 r2 r3 r4 r5 r6 r7 p10
        refine bodyPost_ret (v := .tuple #[.agg (stV { t with pc := 0 }), .int .i64 (sx), .int .i64 1]) (by simp [results, Tryz.results69, go_sem, stV, z0, z1, z2, z3, z4, z5, z6, z7]) rfl ?_
        exact ⟨rfl, zb⟩)
      | (
        have hz := HY.out.fin ((k : Int) + 1)
        obtain ⟨wz, hwz⟩ : ∃ wz, wz = put8 (wy.setCell ⟨w.heap.size, 0, none⟩ (.int .i64 ((k : Int) + 1))) (w.heap.size + 1) { t with pc := (k : Int) + 1 } := ⟨_, rfl⟩
        rw [← hwz] at hz
        unfold put8 at hwz
        rw [← hwz]
        obtain ⟨⟨z0, z1, z2, z3, z4, z5, z6, z7⟩, zb⟩ := hz
        clear hwz p0 p1 p2 p3 p4 p5 p6 p7 p8 r0 r1 r2 r3 r4 r5 r6 r7 p10
        refine bodyPost_ret (v := .tuple #[.agg (stV { t with pc := (k : Int) + 1 }), .int .i64 (sx), .int .i64 1]) (by simp [results, Tryz.results69, go_sem, stV, z0, z1, z2, z3, z4, z5, z6, z7]) rfl ?_
        exact ⟨rfl, zb⟩)

set_option maxHeartbeats 2000000 in
theorem rs_wait (ob off n c k : Nat) (c0 c1 c2 c3 c4 c5 : Int) (got : Int) (a : Nat) (b : Int) (nx : Int) (w : World) (ha : a < 6) (hnx : NextAt n k nx)  (h : DoHyp w ob off n k 9 a b) :
    Calls Tryz.prog 69 #[.slice (some ⟨ob, off, none⟩) n c, .agg #[.int .i64 k, .int .i64 c0, .int .i64 c1, .int .i64 c2, .int .i64 c3, .int .i64 c4, .int .i64 c5, .bool false], .int .i64 got, .bool false] w
      (RDoneV w { (⟨k, c0, c1, c2, c3, c4, c5, false⟩ : St) with pc := (k : Int) } (-1) 3) := by
  obtain ⟨q1, q2, g0, g1, g2⟩ := h
  have hlt := cell_lt g0
  obtain ⟨t, ht⟩ : ∃ t, t = (⟨k, c0, c1, c2, c3, c4, c5, false⟩ : St) := ⟨_, rfl⟩
  rw [show ({ (⟨k, c0, c1, c2, c3, c4, c5, false⟩ : St) with pc := (k : Int) } : St) = { t with pc := (k : Int) } by rw [ht]]
  have HT := hid ht
  clear ht
  rcases hnx with ⟨rfl, rfl⟩ | ⟨hne, rfl⟩
  case' inr => have hnb : ((k : Int) + 1 == (n : Int)) = false := by simp; omega
  all_goals
    go_enter Tryz.func69, Tryz.ntmps69
    go_upto_region 4 with fail
    have hx := do_at w k c0 c1 c2 c3 c4 c5 9 a b
    obtain ⟨wx, hwx⟩ : ∃ wx, wx = (((w.alloc (.cells #[.int .i64 k, .int .i64 c0, .int .i64 c1, .int .i64 c2, .int .i64 c3, .int .i64 c4, .int .i64 c5, .bool false] 81)).alloc (.cells #[.int .i64 0, .int .i64 0, .int .i64 0, .int .i64 0, .int .i64 0, .int .i64 0, .int .i64 0, .bool false] 81)).alloc (.cells #[.int .i64 9, .int .i64 a, .int .i64 b] 72)) := ⟨_, rfl⟩
    rw [← hwx] at hx ⊢
    clear hwx g0 g1 g2
    have HX := hid hx
    obtain ⟨b0, b1, o0, o1, o2, hb⟩ := hx
    have ca := (blk_cell b0 (1 + a)).trans (stV_get _ ha)
    have fa := blk_free b0 (1 + a)
    have cp := blk_cell b0 0
    have cf := blk_cell b0 7
    have ff := blk_free b0 7
    simp [stV] at cp cf
    clear b0 b1 hb
    go_upto_region 39 with fail
    all_goals
      have hy := HX.out.stay
      obtain ⟨wy, hwy⟩ : ∃ wy, wy = wx := ⟨_, rfl⟩
      rw [← hwy] at hy ⊢
      rw [← HT.out] at hy
      have HY := hid hy
      obtain ⟨⟨p0, p1, p2, p3, p4, p5, p6, p7⟩, p8, ⟨r0, r1, r2, r3, r4, r5, r6, r7⟩, p10⟩ := hy.facts
      clear hy hwy HX o0 o1 o2 HT ca fa cp cf ff
      go_wp2_with fail
      have hz := HY.out.fin ((k : Int))
      obtain ⟨wz, hwz⟩ : ∃ wz, wz = put8 (wy.setCell ⟨w.heap.size, 0, none⟩ (.int .i64 ((k : Int)))) (w.heap.size + 1) { t with pc := (k : Int) } := ⟨_, rfl⟩
      rw [← hwz] at hz
      unfold put8 at hwz
      rw [← hwz]
      obtain ⟨⟨z0, z1, z2, z3, z4, z5, z6, z7⟩, zb⟩ := hz
      clear hwz p0 p1 p2 p3 p4 p5 p6 p7 p8 r0 r1 r2 r3 r4 r5 r6 r7 p10
      refine bodyPost_ret (v := .tuple #[.agg (stV { t with pc := (k : Int) }), .int .i64 (-1), .int .i64 3]) (by simp [results, Tryz.results69, go_sem, stV, z0, z1, z2, z3, z4, z5, z6, z7]) rfl ?_
      exact ⟨rfl, zb⟩

set_option maxHeartbeats 2000000 in
theorem rs_fail (ob off n c k : Nat) (c0 c1 c2 c3 c4 c5 : Int) (got : Int) (a : Nat) (b : Int) (is : Bool) (nx : Int) (w : World) (ha : a < 6) (hnx : NextAt n k nx)  (h : DoHyp w ob off n k 11 a b) :
    Calls Tryz.prog 69 #[.slice (some ⟨ob, off, none⟩) n c, .agg #[.int .i64 k, .int .i64 c0, .int .i64 c1, .int .i64 c2, .int .i64 c3, .int .i64 c4, .int .i64 c5, .bool false], .int .i64 got, .bool is] w
      (RDoneV w { ({ (⟨k, c0, c1, c2, c3, c4, c5, false⟩ : St) with failed := true } : St) with pc := (k : Int) } (-1) 4) := by
  obtain ⟨q1, q2, g0, g1, g2⟩ := h
  have hlt := cell_lt g0
  obtain ⟨t, ht⟩ : ∃ t, t = ({ (⟨k, c0, c1, c2, c3, c4, c5, false⟩ : St) with failed := true } : St) := ⟨_, rfl⟩
  rw [show ({ ({ (⟨k, c0, c1, c2, c3, c4, c5, false⟩ : St) with failed := true } : St) with pc := (k : Int) } : St) = { t with pc := (k : Int) } by rw [ht]]
  have HT := hid ht
  clear ht
  rcases hnx with ⟨rfl, rfl⟩ | ⟨hne, rfl⟩
  case' inr => have hnb : ((k : Int) + 1 == (n : Int)) = false := by simp; omega
  all_goals
    go_enter Tryz.func69, Tryz.ntmps69
    go_upto_region 4 with fail
    have hx := do_at w k c0 c1 c2 c3 c4 c5 11 a b
    obtain ⟨wx, hwx⟩ : ∃ wx, wx = (((w.alloc (.cells #[.int .i64 k, .int .i64 c0, .int .i64 c1, .int .i64 c2, .int .i64 c3, .int .i64 c4, .int .i64 c5, .bool false] 81)).alloc (.cells #[.int .i64 0, .int .i64 0, .int .i64 0, .int .i64 0, .int .i64 0, .int .i64 0, .int .i64 0, .bool false] 81)).alloc (.cells #[.int .i64 11, .int .i64 a, .int .i64 b] 72)) := ⟨_, rfl⟩
    rw [← hwx] at hx ⊢
    clear hwx g0 g1 g2
    have HX := hid hx
    obtain ⟨b0, b1, o0, o1, o2, hb⟩ := hx
    have ca := (blk_cell b0 (1 + a)).trans (stV_get _ ha)
    have fa := blk_free b0 (1 + a)
    have cp := blk_cell b0 0
    have cf := blk_cell b0 7
    have ff := blk_free b0 7
    simp [stV] at cp cf
    clear b0 b1 hb
    go_upto_region 39 with fail
    all_goals
      have hy := HX.out.fails
      obtain ⟨wy, hwy⟩ : ∃ wy, wy = wx.setCell ⟨w.heap.size, 7, none⟩ (.bool true) := ⟨_, rfl⟩
      rw [← hwy] at hy ⊢
      rw [← HT.out] at hy
      have HY := hid hy
      obtain ⟨⟨p0, p1, p2, p3, p4, p5, p6, p7⟩, p8, ⟨r0, r1, r2, r3, r4, r5, r6, r7⟩, p10⟩ := hy.facts
      clear hy hwy HX o0 o1 o2 HT ca fa cp cf ff
      go_wp2_with fail
      have hz := HY.out.fin ((k : Int))
      obtain ⟨wz, hwz⟩ : ∃ wz, wz = put8 (wy.setCell ⟨w.heap.size, 0, none⟩ (.int .i64 ((k : Int)))) (w.heap.size + 1) { t with pc := (k : Int) } := ⟨_, rfl⟩
      rw [← hwz] at hz
      unfold put8 at hwz
      rw [← hwz]
      obtain ⟨⟨z0, z1, z2, z3, z4, z5, z6, z7⟩, zb⟩ := hz
      clear hwz p0 p1 p2 p3 p4 p5 p6 p7 p8 r0 r1 r2 r3 r4 r5 r6 r7 p10
      refine bodyPost_ret (v := .tuple #[.agg (stV { t with pc := (k : Int) }), .int .i64 (-1), .int .i64 4]) (by simp [results, Tryz.results69, go_sem, stV, z0, z1, z2, z3, z4, z5, z6, z7]) rfl ?_
      exact ⟨rfl, zb⟩

set_option maxHeartbeats 1000000 in
theorem rs_failed (A : Option Addr) (n c : Nat) (pc c0 c1 c2 c3 c4 c5 : Int) (got : Int) (is : Bool) (w : World) :
    Calls Tryz.prog 69 #[.slice A n c, .agg #[.int .i64 pc, .int .i64 c0, .int .i64 c1, .int .i64 c2, .int .i64 c3, .int .i64 c4, .int .i64 c5, .bool true], .int .i64 got, .bool is] w
      (RDoneV w ⟨pc, c0, c1, c2, c3, c4, c5, true⟩ (-1) 5) := by
  go_enter Tryz.func69, Tryz.ntmps69
  go_wp2_with fail
  refine bodyPost_ret (v := .tuple #[.agg (stV ⟨pc, c0, c1, c2, c3, c4, c5, true⟩), .int .i64 (-1), .int .i64 5]) (by simp [results, Tryz.results69, go_sem, stV]) rfl ?_
  exact ⟨rfl, by repeat (first | exact Below.refl _ _ | refine Below.setCell ?_ (by simp) _ | refine Below.alloc ?_ (by simp) _)⟩

theorem rstep_any (ob off n c k : Nat) (s : St) (o : Op) (got : Int) (is : Bool) (w : World) (hk : s.pc = k) (hst : stOk s n = true) (hop : opOk o n = true) (hh : DoHyp w ob off n k o.what o.a o.b) :
    Calls Tryz.prog 69 #[.slice (some ⟨ob, off, none⟩) n c, .agg #[.int .i64 s.pc, .int .i64 s.c0, .int .i64 s.c1, .int .i64 s.c2, .int .i64 s.c3, .int .i64 s.c4, .int .i64 s.c5, .bool s.failed], .int .i64 got, .bool is] w
      (RDoneV w (stepDo n o s got is).1 (stepDo n o s got is).2 (stepWhat o s is)) := by
  have hnx := nextAt (n := n) hk hh.lt
  obtain ⟨pc, c0, c1, c2, c3, c4, c5, f⟩ := s
  simp only [] at hk
  subst hk
  have hcell := (stOk_iff.1 hst).2
  cases f with
  | true => exact rs_failed _ n c k c0 c1 c2 c3 c4 c5 got is w
  | false =>
    obtain ⟨what, a, b⟩ := o
    have ha := opOk_a hop
    have hwh := opOk_iff.1 hop
    have hb6 := opOk_b6 hop
    simp only [] at hh ha hb6 hwh
    obtain ⟨ha0, ha6⟩ := ha
    obtain ⟨h1, h2, _⟩ := hwh
    have h11 : what = 1 ∨ what = 2 ∨ what = 3 ∨ what = 4 ∨ what = 5 ∨ what = 6 ∨ what = 7 ∨ what = 8 ∨ what = 9 ∨ what = 10 ∨ what = 11 := by omega
    obtain ⟨a', rfl⟩ : ∃ a' : Nat, a = a' := ⟨a.toNat, by omega⟩
    have ha6' : a' < 6 := by omega
    have hca := hcell a' ha6'
    unfold stepDo stepWhat
    simp only [Int.toNat_natCast]
    rcases h11 with rfl | rfl | rfl | rfl | rfl | rfl | rfl | rfl | rfl | rfl | rfl
    · exact rs_set ob off n c k c0 c1 c2 c3 c4 c5 got a' b is _ w ha6' hnx hh
    · obtain ⟨hb0, hb6⟩ := hb6 (by omega)
      obtain ⟨b', rfl⟩ : ∃ b' : Nat, b = b' := ⟨b.toNat, by omega⟩
      exact rs_copy ob off n c k c0 c1 c2 c3 c4 c5 got a' b' _ is _ w ha6' hnx (by omega) rfl hh
    · obtain ⟨hb0, hb6⟩ := hb6 (by omega)
      obtain ⟨b', rfl⟩ : ∃ b' : Nat, b = b' := ⟨b.toNat, by omega⟩
      exact rs_add ob off n c k c0 c1 c2 c3 c4 c5 got a' b' _ _ _ is _ w ha6' hnx (by omega) rfl rfl hca (hcell b' (by omega)) rfl hh
    · obtain ⟨hb0, hb6⟩ := hb6 (by omega)
      obtain ⟨b', rfl⟩ : ∃ b' : Nat, b = b' := ⟨b.toNat, by omega⟩
      exact rs_sub ob off n c k c0 c1 c2 c3 c4 c5 got a' b' _ _ _ is _ w ha6' hnx (by omega) rfl rfl hca (hcell b' (by omega)) (by rw [Int.toNat_natCast]; omega) hh
    · obtain ⟨hb0, hb6⟩ := hb6 (by omega)
      obtain ⟨b', rfl⟩ : ∃ b' : Nat, b = b' := ⟨b.toNat, by omega⟩
      exact rs_mul ob off n c k c0 c1 c2 c3 c4 c5 got a' b' _ _ _ is _ w ha6' hnx (by omega) rfl rfl hca (hcell b' (by omega)) rfl hh
    · by_cases h0 : (⟨k, c0, c1, c2, c3, c4, c5, false⟩ : St).get a' = 0
      · simp only [h0]
        exact rs_zero ob off n c k c0 c1 c2 c3 c4 c5 got a' b is _ w ha6' hnx h0 hh
      · simp only [if_neg h0]
        exact rs_nonzero ob off n c k c0 c1 c2 c3 c4 c5 got a' b _ is _ w ha6' hnx rfl (by simpa using h0) hh
    · exact rs_jump ob off n c k c0 c1 c2 c3 c4 c5 got a' b is _ w ha6' hnx hh
    · exact rs_send ob off n c k c0 c1 c2 c3 c4 c5 got a' b _ is _ w ha6' hnx rfl hh
    · cases is with
      | true => exact rs_take ob off n c k c0 c1 c2 c3 c4 c5 got a' b _ w ha6' hnx hh
      | false => exact rs_wait ob off n c k c0 c1 c2 c3 c4 c5 got a' b _ w ha6' hnx hh
    · exact rs_rest ob off n c k c0 c1 c2 c3 c4 c5 got a' b is _ w ha6' hnx hh
    · exact rs_fail ob off n c k c0 c1 c2 c3 c4 c5 got a' b is _ w ha6' hnx hh
end Go.Proofs.YthdmgighblhmhaaGreatDoor

/- Package frameref1: the contract of the reference's TickBy, for every kernel that is right. -/
namespace Go.Proofs.YthdmgighblhmhaaGreatDoor
open Go.RowKit
set_option maxRecDepth 100000
attribute [local go_sem ↓] Go.wp_at_zero Go.wp_at_succ

section
variable {TK TL TP kb : Nat} {w : World} {M : KM} {k : Kst}
/-- A room's code where it lies. -/
theorem KAt.codeRo (h : KAt TK TL TP w kb M k) {r : Nat} {ops : List Op} (hc : M.P.pl.code[r]? = some ops) {i : Nat} {o : Op} (ho : ops[i]? = some o) :
    ∃ ro cb coff ob ooff, M.P.ros[r]? = some ro ∧ ro.ops = ops ∧ ro.A = some ⟨ob, ooff, none⟩ ∧ M.P.A = some ⟨cb, coff, none⟩ ∧ w.cell? ⟨cb, coff + r, none⟩ = some (.slice (some ⟨ob, ooff, none⟩) ops.length ro.c) ∧ r < M.P.ros.length ∧ i < ops.length ∧ cb < w.heap.size ∧ ops.length ≤ ro.c ∧ ro.c ≤ maxLen := by
  simp only [PM.pl, List.getElem?_map, Option.map_eq_some_iff] at hc
  obtain ⟨ro, hro, rfl⟩ := hc
  have hr := (List.getElem?_eq_some_iff.1 hro).1
  obtain ⟨cb, coff, hA, hcb, hcell⟩ := h.plan.rows.ro (Below.refl _ _) hro hr
  have hat := h.plan.codes ro (List.mem_of_getElem? hro)
  have hi := (List.getElem?_eq_some_iff.1 ho).1
  obtain ⟨ob, ooff, hoA, _⟩ := hat.1.op (Below.refl _ _) hi hi
  rw [hoA] at hcell
  exact ⟨ro, cb, coff, ob, ooff, hro, rfl, hoA, hA, hcell, hr, hi, hcb, hat.2.1.1, hat.2.1.2.1⟩
theorem KAt.codeIn (h : KAt TK TL TP w kb M k) {r : Nat} {ro : Ro} (hro : M.P.ros[r]? = some ro) {i : Nat} {o : Op} (ho : ro.ops[i]? = some o) {ob ooff : Nat} (hA : ro.A = some ⟨ob, ooff, none⟩) :
    w.cell? ⟨ob, ooff + i * 3, none⟩ = some (.int .i64 o.what) ∧ w.cell? ⟨ob, ooff + i * 3 + 1, none⟩ = some (.int .i64 o.a) ∧ w.cell? ⟨ob, ooff + i * 3 + 2, none⟩ = some (.int .i64 o.b) ∧ ob < w.heap.size ∧ TF kb M ob := by
  have hat := h.plan.codes ro (List.mem_of_getElem? hro)
  have hi := (List.getElem?_eq_some_iff.1 ho).1
  obtain ⟨ob', ooff', hoA, hob, g0, g1, g2⟩ := hat.1.op (Below.refl _ _) hi hi
  have hget := (List.getElem?_eq_getElem hi).symm.trans ho
  cases hget
  rw [hA] at hoA
  cases hoA
  exact ⟨g0, g1, g2, hob, .inr (.inr (.inr (.inl ⟨ro, List.mem_of_getElem? hro, by omega, by rw [hA]; rfl⟩)))⟩
end

/-- What a take leaves, its answers by names. -/
def RTookG (w : World) (b : Nat) (A : Option Addr) (x : Ln) (v : Int) (ok : Bool) (e : Ending) (w' : World) : Prop :=
  ∃ A', e = .returned (.tuple #[.int .i64 v, .bool ok]) ∧ LnAt 67 w' b A' ⟨x.w, lineTake x.w x.items, x.lost⟩ ∧ Keep (LF b A) w w' ∧ (∀ k, InA A' k → InA A k)
def RSentG (w : World) (b : Nat) (A : Option Addr) (x : Ln) (r : Bool × List Int × Int) (e : Ending) (w' : World) : Prop :=
  ∃ A', e = .returned (.bool r.1) ∧ LnAt 67 w' b A' ⟨x.w, r.2.1, r.2.2⟩ ∧ Keep (LF b A) w w' ∧ (∀ k, InA A' k → InA A k ∨ w.heap.size ≤ k)
set_option maxHeartbeats 8000000 in
theorem rtickBy_anyW (w : World) (kb : Nat) (M : KM) (k : Kst) (p : Pl) (B : Int) (A : Option Addr) (c : Nat) (l : List Span) (hp : PlOk p) (hM : M.P.pl.code = p.code) (hMt : M.P.ticks = p.ticks) (hk : KOk p k B) (hB : B < 4611686018427387904)
    (hka : KAt 59 67 60 w kb M k) (hs : Sl w A 3 l.length (l.flatMap Span.cells)) (hsw : SlW A c l.length) (hsp : ∀ s ∈ l, 0 ≤ s.room ∧ s.room < p.code.length) :
    Calls Tryz.prog 37 #[.pointer (some ⟨kb, 0, none⟩), .slice A l.length c] w (KTicked 59 67 60 w kb M (tickBy p l k)) := by
  have hmeets := tick_meets hp hk hsp
  have HN : Hid (turnAt l (k.time % p.ticks) = -1 → tickBy p l k = (⟨k.time, -1, 0, 0⟩, ⟨k.rooms, k.lines, k.time + 1⟩)) := fun h => tick_none h
  have HR : Hid (∀ (r : Nat) (ops : List Op) (s : St) (o : Op), turnAt l (k.time % p.ticks) = r → p.code[r]? = some ops → k.rooms[r]? = some s → ops[s.pc.toNat]? = some o →
      tickBy p l k = (⟨k.time, r, s.pc, (kDo ops.length r o s k).1⟩, ⟨(kDo ops.length r o s k).2.rooms, (kDo ops.length r o s k).2.lines, k.time + 1⟩)) := fun r ops s o h1 h2 h3 h4 => tick_room h1 h2 h3 h4
  have htk := frameChk_ticks hp.frame
  have ht0 := hk.time0
  have htB := hk.timeB
  have HWHO : Hid (∀ w', Below w.heap.size w w' → Calls Tryz.prog 67 #[.int .i64 p.ticks, .slice A l.length c, .int .i64 k.time] w' (TellV w' (turnAt l (k.time % p.ticks)))) := fun w' hb =>
    rwho_any p.ticks k.time A l.length c l w' rfl (hs.new hb) hsw htk.1 htk.2.1 ht0 (by omega)
  obtain ⟨q, hq⟩ : ∃ q, q = tickBy p l k := ⟨_, rfl⟩
  rw [← hq]
  have HQ := hid hq
  obtain ⟨k0, k1, k2, k4, k5, k6, kf, hkb⟩ := hka.cells
  rw [hMt] at k1
  obtain ⟨T, hT⟩ : ∃ T, T = turnAt l (k.time % p.ticks) := ⟨_, rfl⟩
  rw [← hT] at HWHO hmeets
  have HTE := hid hT
  have HME := hid hmeets
  have HKA := hid hka
  obtain ⟨tm, htm⟩ : ∃ tm, tm = k.time := ⟨_, rfl⟩
  rw [← htm] at k6 ht0 htB HWHO
  have HTM := hid htm
  obtain ⟨n, hn⟩ : ∃ n, n = l.length := ⟨_, rfl⟩
  rw [← hn] at HWHO ⊢
  obtain ⟨tk, htk'⟩ : ∃ tk, tk = p.ticks := ⟨_, rfl⟩
  rw [← htk'] at HWHO k1
  have HP := hid hp
  have HMP := hid hM
  have HKO := hid hk
  unfold TellV at HWHO
  clear hq hT hmeets hka htm hn htk' htk hMt k0 k2 k4 k5 kf hs hsw hsp hp hM hk
  go_enter Tryz.func37, Tryz.ntmps37
  go_upto_region 1 with fail
  obtain ⟨wa, hwa⟩ : ∃ wa, wa = w.alloc (.cells #[.int .i64 0, .int .i64 0, .int .i64 0, .int .i64 0] 76) := ⟨_, rfl⟩
  have hab : Below w.heap.size w wa := by rw [hwa]; exact (Below.refl _ _).alloc (Nat.le_refl _) _
  have haw : wa.heap[w.heap.size]? = some (.cells (evV 0 0 0 0) 76 (0, 0)) := by rw [hwa]; exact heap_alloc_new w _
  rw [← hwa]
  have HAB := hid hab
  have HM0 := hid ((KMid.start HKA.out).add hab haw (Nat.le_refl _))
  have a6 := (hab.cell (p := ⟨kb, 6, none⟩) hkb).trans k6
  have a1 := (hab.cell (p := ⟨kb, 1, none⟩) hkb).trans k1
  have hkba : kb < wa.heap.size := Nat.lt_of_lt_of_le hkb hab.size
  have HS : Hid (∀ w', Below wa.heap.size wa w' → w'.cell? ⟨kb, 6, none⟩ = some (.int .i64 tm) ∧ w'.cell? ⟨kb, 1, none⟩ = some (.int .i64 tk)) := fun w' hb => ⟨(hb.cell (p := ⟨kb, 6, none⟩) hkba).trans a6, (hb.cell (p := ⟨kb, 1, none⟩) hkba).trans a1⟩
  have hwlt : w.heap.size < wa.heap.size := blk_lt haw
  clear hwa hab haw k6 k1
  go_cut [5] (fun v5 wx => ∃ b5, v5 = .pointer (some ⟨b5, 0, none⟩) ∧ w.heap.size < b5 ∧ KMid 59 67 60 w wx kb M M k [⟨b5, evV tm T 0 0, 76⟩, ⟨w.heap.size, evV 0 0 0 0, 76⟩])
  case first =>
    go_region_held3 (fun w' => w'.cell? ⟨kb, 6, none⟩ = some (.int .i64 tm) ∧ w'.cell? ⟨kb, 1, none⟩ = some (.int .i64 tk))
      ((refine HS.out _ ?_; (repeat (with_reducible first | exact HB2.out | exact Below.refl _ _ | refine Below.drew ?_ | refine Below.alloc ?_ (Nat.le_refl _) _ | refine Below.alloc ?_ HB2.out.size _ | exact below_put4 HB2.out (Nat.le_refl _) _ _ _ _))))
      (first | (go_at_call 67; refine (HWHO.out _ HAB.out.drew).mono ?_; rintro e w2 ⟨rfl, hb2⟩; have HB2 := hid ((Below.refl wa.heap.size wa).drew.trans hb2); clear hb2) | (go_at_call 67; refine (HWHO.out _ (HAB.out.alloc HAB.out.size _).drew).mono ?_; rintro e w2 ⟨rfl, hb2⟩; have HB2 := hid (((Below.refl wa.heap.size wa).alloc (Nat.le_refl _) _).drew.trans (hb2.mono (by simp))); have hz : w2.heap[wa.heap.size]? = some (.cells (evV 0 0 0 0) 76 (0, 0)) := (hb2.block wa.heap.size (by simp)).trans (heap_alloc_new wa _); have z0 := blk_cell hz 0; have z1 := blk_cell hz 1; have z2 := blk_cell hz 2; have z3 := blk_cell hz 3; have zf := fun j => blk_free hz j; have HZ := hid hz; simp [evV] at z0 z1 z2 z3; clear hz hb2))
    all_goals
      go_wp2_with fail
      go_meet
    · exact ⟨_, rfl, Nat.lt_of_lt_of_le hwlt HB2.out.size, HM0.out.add (HB2.out.alloc HB2.out.size _) (heap_alloc_new w2 _) HB2.out.size⟩
    · exact ⟨_, rfl, hwlt, HM0.out.add (below_put4 HB2.out (Nat.le_refl _) _ _ _ _) (put4_heap HZ.out _ _ _ _) (Nat.le_refl _)⟩
  obtain ⟨b5, rfl, hb5, hmid⟩ := hcut
  have HMD := hid hmid
  have e1 := blk_cell (hmid.cell (x := ⟨b5, evV tm T 0 0, 76⟩) (by simp)) 1
  have he5 := blk_lt (hmid.cell (x := ⟨b5, evV tm T 0 0, 76⟩) (by simp))
  simp [evV] at e1 he5
  obtain ⟨_, _, _, _, _, c6, kfz, hkc⟩ := hmid.kat.cells
  rw [← HTM.out] at c6
  have f6 := kfz 6
  clear hmid a6 a1 hkba HS HM0 HAB hkb kfz
  have hw1 : IntKind.i64.wrap (tm + 1) = tm + 1 := IntWalk.i64_in _ (by omega)
  go_upto_region 3 with fail
  have HM1 := hid (HMD.out.time (tm + 1))
  obtain ⟨wt, hwt⟩ : ∃ wt, wt = wc.setCell ⟨kb, 6, none⟩ (.int .i64 (tm + 1)) := ⟨_, rfl⟩
  have hm1 := HM1.out
  rw [← hwt] at hm1 ⊢
  replace HM1 := hid hm1
  clear e1 he5 c6 f6 hkc hw1 HMD hwt
  have hev := hm1.cell (x := ⟨b5, evV tm T 0 0, 76⟩) (by simp)
  have e0 := blk_cell hev 0
  have e1 := blk_cell hev 1
  have e2 := blk_cell hev 2
  have e3 := blk_cell hev 3
  have ef := fun j => blk_free hev j
  have hle := blk_lt hev
  simp [evV] at e0 e1 e2 e3
  clear hm1 hev
  rcases HME.out with hT | ⟨r, ops, s, o, hT, hc, hs, ho⟩
  · subst hT
    have hres := HM1.out.cell (x := ⟨w.heap.size, evV 0 0 0 0, 76⟩) (by simp)
    have r0 := blk_cell hres 0
    have r1 := blk_cell hres 1
    have r2 := blk_cell hres 2
    have r3 := blk_cell hres 3
    have rf := fun j => blk_free hres j
    have hlr := blk_lt hres
    simp [evV] at r0 r1 r2 r3
    have hne : b5 ≠ w.heap.size := by omega
    have hqe : q = (⟨tm, -1, 0, 0⟩, ⟨k.rooms, k.lines, tm + 1⟩) := by rw [HQ.out, HN.out HTE.out.symm, HTM.out]
    have hz := put4_heap hres (.int .i64 tm) (.int .i64 (-1)) (.int .i64 0) (.int .i64 0)
    have HLAST := hid (KMid.put (b := w.heap.size) (cs := evV 0 0 0 0) (T := 76) (bs := []) (HM1.out.drop (by simp)) (put4_keep wt w.heap.size (.int .i64 tm) (.int .i64 (-1)) (.int .i64 0) (.int .i64 0)) hz (by simp))
    have HZ := hid hz
    have HQE := hid hqe
    clear hres hqe hz
    go_wp2_with fail
    obtain ⟨wz, hwz⟩ : ∃ wz, wz = put4 wt w.heap.size (.int .i64 tm) (.int .i64 (-1)) (.int .i64 0) (.int .i64 0) := ⟨_, rfl⟩
    have hz := HZ.out
    have hlast := HLAST.out
    unfold put4 at hwz hlast
    rw [← hwz] at hz hlast ⊢
    have z0 := blk_cell hz 0
    have z1 := blk_cell hz 1
    have z2 := blk_cell hz 2
    have z3 := blk_cell hz 3
    simp at z0 z1 z2 z3
    exact bodyPost_ret (v := .agg #[.int .i64 tm, .int .i64 (-1), .int .i64 0, .int .i64 0]) (by simp [results, Tryz.results37, go_sem, z0, z1, z2, z3]) rfl (hlast.ticked HQE.out)
  · have hqe : q = (⟨tm, r, s.pc, (kDo ops.length r o s k).1⟩, ⟨(kDo ops.length r o s k).2.rooms, (kDo ops.length r o s k).2.lines, tm + 1⟩) := by
      rw [HQ.out, HR.out r ops s o (by rw [← HTE.out]; exact hT) hc hs ho, HTM.out]
    have HQE := hid hqe
    clear hqe
    subst hT
    have hcode := codeChk_ok (HP.out.codes ops (List.mem_of_getElem? hc))
    have hst := HKO.out.states r ops s hc hs
    have hop := hcode.2.2 o (List.mem_of_getElem? ho)
    have hpc := (stOk_iff.1 hst).1
    obtain ⟨pk, hpk⟩ : ∃ pk : Nat, s.pc = pk := ⟨s.pc.toNat, by omega⟩
    rw [hpk, Int.toNat_natCast] at ho
    have hs' : (⟨k.rooms, k.lines, tm + 1⟩ : Kst).rooms[r]? = some s := hs
    obtain ⟨rb, roff, hrA, hsi, hrf, hrb, hrkb, hrl, hrc, hrm⟩ := HM1.out.kat.room hs'
    obtain ⟨ro, cb, coff, ob, ooff, hro, hroo, hroA, hcA, hcc, hrn, hpn, hcb, hoc, hom⟩ := HM1.out.kat.codeRo (by rw [HMP.out]; exact hc) ho
    obtain ⟨oc, hroc⟩ : ∃ oc, oc = ro.c := ⟨_, rfl⟩
    rw [← hroc] at hcc hoc hom
    obtain ⟨k0, _, _, k4, _, _, _, hkb⟩ := HM1.out.kat.cells
    rw [hcA] at k0
    rw [hrA] at k4
    obtain ⟨nc, hnc⟩ : ∃ nc, nc = M.P.ros.length := ⟨_, rfl⟩
    obtain ⟨no, hno⟩ : ∃ no, no = ops.length := ⟨_, rfl⟩
    obtain ⟨nr, hnr⟩ : ∃ nr, nr = k.rooms.length := ⟨_, rfl⟩
    simp only [] at k4 hrl hrc
    rw [← hnc] at k0 hrn
    rw [← hnr] at k4 hrl hrc
    rw [← hno] at hcc hpn hoc
    have hcm := HM1.out.kat.plan.rowsW
    rw [← hnc] at hcm
    have hcm1 := hcm.1
    have hcm2 := hcm.2.1
    have hno20 : no ≤ 20 := by have := hcode.2.1; omega
    unfold maxLen at hrm hom hcm2
    obtain ⟨s1, s2, s3, s4, s5, s6, s7, s8⟩ := hsi
    rw [hpk] at s1
    obtain ⟨pc, c0, c1, c2, c3, c4, c5, f⟩ := s
    obtain ⟨what, a, b⟩ := o
    simp only [] at hpk s1 s2 s3 s4 s5 s6 s7 s8
    subst hpk
    have hr0 : (0 : Int) ≤ (r : Int) := by omega
    have hrn' : (r : Int) < (nc : Int) := by omega
    have hrl' : (r : Int) < (nr : Int) := by omega
    have hp0 : (0 : Int) ≤ (pk : Int) := by omega
    have hpn' : (pk : Int) < (no : Int) := by omega
    obtain ⟨S, hS⟩ : ∃ S, S = (⟨pk, c0, c1, c2, c3, c4, c5, f⟩ : St) := ⟨_, rfl⟩
    obtain ⟨O, hO⟩ : ∃ O, O = (⟨what, a, b⟩ : Op) := ⟨_, rfl⟩
    have HFACT : Hid (∀ w', Below wt.heap.size wt w' → (w'.cell? ⟨kb, 4, none⟩ = some (.slice (some ⟨rb, roff, none⟩) nr M.rc) ∧ w'.cell? ⟨b5, 1, none⟩ = some (.int .i64 r)) ∧ (w'.cell? ⟨rb, roff + r * 8, none⟩ = some (.int .i64 pk) ∧ w'.cell? ⟨rb, roff + r * 8 + 1, none⟩ = some (.int .i64 c0) ∧ w'.cell? ⟨rb, roff + r * 8 + 2, none⟩ = some (.int .i64 c1) ∧ w'.cell? ⟨rb, roff + r * 8 + 3, none⟩ = some (.int .i64 c2) ∧ w'.cell? ⟨rb, roff + r * 8 + 4, none⟩ = some (.int .i64 c3) ∧ w'.cell? ⟨rb, roff + r * 8 + 5, none⟩ = some (.int .i64 c4) ∧ w'.cell? ⟨rb, roff + r * 8 + 6, none⟩ = some (.int .i64 c5) ∧ w'.cell? ⟨rb, roff + r * 8 + 7, none⟩ = some (.bool f))) := fun w' hb =>
      ⟨⟨(hb.cell (p := ⟨kb, 4, none⟩) hkb).trans k4, (hb.cell (p := ⟨b5, 1, none⟩) hle).trans e1⟩, (hb.cell (p := ⟨rb, roff + r * 8, none⟩) hrb).trans s1, (hb.cell (p := ⟨rb, roff + r * 8 + 1, none⟩) hrb).trans s2, (hb.cell (p := ⟨rb, roff + r * 8 + 2, none⟩) hrb).trans s3, (hb.cell (p := ⟨rb, roff + r * 8 + 3, none⟩) hrb).trans s4, (hb.cell (p := ⟨rb, roff + r * 8 + 4, none⟩) hrb).trans s5, (hb.cell (p := ⟨rb, roff + r * 8 + 5, none⟩) hrb).trans s6, (hb.cell (p := ⟨rb, roff + r * 8 + 6, none⟩) hrb).trans s7, (hb.cell (p := ⟨rb, roff + r * 8 + 7, none⟩) hrb).trans s8⟩
    have HC := hid hc
    have HHS := hid hs
    rw [← hS] at HHS
    have HO := hid ho
    rw [← hO] at HO
    have HST := hid hst
    rw [← hS] at HST
    have HOP := hid hop
    rw [← hO] at HOP
    have HQ2 := HQE.out
    rw [← hS, ← hO] at HQ2
    replace HQE := hid HQ2
    have HNC := hid hnc
    have HNO := hid hno
    have HNR := hid hnr
    have HRF := hid hrf
    have HRA := hid hrA
    have HSE := hid hS
    have HOE := hid hO
    have hcode2 : ∀ (wx : World) (M' : KM) (k' : Kst), KAt 59 67 60 wx kb M' k' → M'.P = M.P → wx.cell? ⟨ob, ooff + pk * 3, none⟩ = some (.int .i64 what) ∧ wx.cell? ⟨ob, ooff + pk * 3 + 1, none⟩ = some (.int .i64 a) ∧ wx.cell? ⟨ob, ooff + pk * 3 + 2, none⟩ = some (.int .i64 b) ∧ ob < wx.heap.size ∧ TF kb M' ob := fun wx M' k' hk hP => by
      have := hk.codeIn (by rw [hP]; exact hro) (by rw [hroo]; exact ho) hroA
      exact this
    have HCODE := hid hcode2
    clear hc hs hs' ho hcode hst hop hpc hnc hno hnr hcm hcA hrA hrf hS hO HQ2 s1 s2 s3 s4 s5 s6 s7 s8 k4 e0 e2 e3 ef hcode2 hro hroo hroA hroc
    go_upto_region 5 with fail
    go_cut [6] (fun v6 wx => v6 = .slice (some ⟨ob, ooff, none⟩) no oc ∧ ∃ d, wx = wt.drewN d)
    case first =>
      go_quiet (fail)
      go_wp2_with fail
      go_meet
      exact ⟨rfl, _, rfl⟩
    obtain ⟨rfl, d, hwd⟩ := hcut
    have hbd : Below wt.heap.size wt wc := by rw [hwd]; exact ⟨rfl, rfl, rfl, Nat.le_refl _, fun _ _ => rfl⟩
    have HM2 := hid (HM1.out.new hbd)
    have HBD := hid hbd
    have HF2 : Hid (∀ w', Below wc.heap.size wc w' → (w'.cell? ⟨kb, 4, none⟩ = some (.slice (some ⟨rb, roff, none⟩) nr M.rc) ∧ w'.cell? ⟨b5, 1, none⟩ = some (.int .i64 r)) ∧ (w'.cell? ⟨rb, roff + r * 8, none⟩ = some (.int .i64 pk) ∧ w'.cell? ⟨rb, roff + r * 8 + 1, none⟩ = some (.int .i64 c0) ∧ w'.cell? ⟨rb, roff + r * 8 + 2, none⟩ = some (.int .i64 c1) ∧ w'.cell? ⟨rb, roff + r * 8 + 3, none⟩ = some (.int .i64 c2) ∧ w'.cell? ⟨rb, roff + r * 8 + 4, none⟩ = some (.int .i64 c3) ∧ w'.cell? ⟨rb, roff + r * 8 + 5, none⟩ = some (.int .i64 c4) ∧ w'.cell? ⟨rb, roff + r * 8 + 6, none⟩ = some (.int .i64 c5) ∧ w'.cell? ⟨rb, roff + r * 8 + 7, none⟩ = some (.bool f))) := fun w' hb => HFACT.out _ (hbd.trans (hb.mono hbd.size))
    have hb5c : b5 < wc.heap.size := Nat.lt_of_lt_of_le hle hbd.size
    clear hwd hbd k0 hcc e1 hle HFACT HM1
    go_upto_region 6 with fail
    go_cut [7] (fun v7 wx => ∃ b7, v7 = .pointer (some ⟨b7, 0, none⟩) ∧ b5 < b7 ∧ KMid 59 67 60 w wx kb M M ⟨k.rooms, k.lines, tm + 1⟩ [⟨b7, #[.int .i64 pk, .int .i64 c0, .int .i64 c1, .int .i64 c2, .int .i64 c3, .int .i64 c4, .int .i64 c5, .bool f], 81⟩, ⟨b5, evV tm r 0 0, 76⟩, ⟨w.heap.size, evV 0 0 0 0, 76⟩])
    case first =>
      obtain ⟨⟨q4, q5⟩, q0, q1, q2, q3, q6, q7, q8, q9⟩ := HF2.out _ (Below.refl _ _)
      go_region_held3 (fun w' => (w'.cell? ⟨kb, 4, none⟩ = some (.slice (some ⟨rb, roff, none⟩) nr M.rc) ∧ w'.cell? ⟨b5, 1, none⟩ = some (.int .i64 r)) ∧ (w'.cell? ⟨rb, roff + r * 8, none⟩ = some (.int .i64 pk) ∧ w'.cell? ⟨rb, roff + r * 8 + 1, none⟩ = some (.int .i64 c0) ∧ w'.cell? ⟨rb, roff + r * 8 + 2, none⟩ = some (.int .i64 c1) ∧ w'.cell? ⟨rb, roff + r * 8 + 3, none⟩ = some (.int .i64 c2) ∧ w'.cell? ⟨rb, roff + r * 8 + 4, none⟩ = some (.int .i64 c3) ∧ w'.cell? ⟨rb, roff + r * 8 + 5, none⟩ = some (.int .i64 c4) ∧ w'.cell? ⟨rb, roff + r * 8 + 6, none⟩ = some (.int .i64 c5) ∧ w'.cell? ⟨rb, roff + r * 8 + 7, none⟩ = some (.bool f)))
        (first | (with_reducible exact HF2.out _ (Below.refl _ _).drew) | (with_reducible exact HF2.out _ ((Below.refl _ _).alloc (Nat.le_refl _) _).drew))
        (fail)
      all_goals
        go_wp2_with fail
        go_meet
        exact ⟨_, rfl, hb5c, (HM2.out.add ((Below.refl _ _).alloc (Nat.le_refl _) _) (heap_alloc_new _ _) (Nat.le_refl _)).new (Below.refl _ _).drew⟩
    obtain ⟨b7, rfl, hb57, hmid⟩ := hcut
    have HM3 := hid hmid
    have h7 := hmid.cell (x := ⟨b7, #[.int .i64 pk, .int .i64 c0, .int .i64 c1, .int .i64 c2, .int .i64 c3, .int .i64 c4, .int .i64 c5, .bool f], 81⟩) (by simp)
    have h5 := hmid.cell (x := ⟨b5, evV tm r 0 0, 76⟩) (by simp)
    have p0 := blk_cell h7 0
    have z2 := blk_cell h5 2
    have ef := fun j => blk_free h5 j
    have hlt5 := blk_lt h5
    simp [evV] at p0 z2
    have h5' : wc.heap[b5]? = some (.cells (evV tm r 0 0) 76 (0, 0)) := h5
    clear hmid h7 h5 HM2 HF2 hb5c HBD
    go_upto_region 8 with fail
    obtain ⟨w4, hw4⟩ : ∃ w4, w4 = wc.setCell ⟨b5, 2, none⟩ (.int .i64 pk) := ⟨_, rfl⟩
    have HM4 : Hid (KMid 59 67 60 w w4 kb M M ⟨k.rooms, k.lines, tm + 1⟩ [⟨b5, evV tm r pk 0, 76⟩, ⟨b7, #[.int .i64 pk, .int .i64 c0, .int .i64 c1, .int .i64 c2, .int .i64 c3, .int .i64 c4, .int .i64 c5, .bool f], 81⟩, ⟨w.heap.size, evV 0 0 0 0, 76⟩]) := by
      refine KMid.put (cs := evV tm r 0 0) (HM3.out.drop (by simp)) (wx := wc) ?_ ?_ ?_
      · rw [hw4]; exact Keep.setCell (F := fun j => j = b5) (Keep.refl _ _) (.inl rfl) _
      · rw [hw4, hp_set, if_pos rfl, h5']; rfl
      · simp only [List.mem_cons, List.not_mem_nil, or_false]
        rintro x (rfl | rfl) <;> simp only [] <;> omega
    rw [← hw4]
    clear hw4 p0 z2 ef hlt5 h5' HM3
    have h7 := HM4.out.cell (x := ⟨b7, #[.int .i64 pk, .int .i64 c0, .int .i64 c1, .int .i64 c2, .int .i64 c3, .int .i64 c4, .int .i64 c5, .bool f], 81⟩) (by simp)
    have p0 := blk_cell h7 0
    have p7 := blk_cell h7 7
    have hlt7 := blk_lt h7
    simp at p0 p7 hlt7
    obtain ⟨g0, g1, g2, hob, _⟩ := HCODE.out _ _ _ HM4.out.kat rfl
    go_upto_region 11 with fail
    obtain ⟨w5, hw5⟩ : ∃ w5, w5 = w4.alloc (.cells #[.int .i64 what, .int .i64 a, .int .i64 b] 72) := ⟨_, rfl⟩
    have hb45 : Below w4.heap.size w4 w5 := by rw [hw5]; exact (Below.refl _ _).alloc (Nat.le_refl _) _
    have HM5 := hid (HM4.out.add hb45 (b := w4.heap.size) (T := 72) (cs := #[.int .i64 what, .int .i64 a, .int .i64 b]) (by rw [hw5]; exact heap_alloc_new _ _) (Nat.le_refl _))
    have h57 : b7 < w4.heap.size ∧ b5 < w4.heap.size := ⟨hlt7, by omega⟩
    rw [← hw5]
    generalize w4.heap.size = b8 at HM5 h57 ⊢
    obtain ⟨hb78, hb58⟩ := h57
    clear hw5 hb45 h7 p0 p7 hlt7 g0 g1 g2 hob HM4
    have h7 := HM5.out.cell (x := ⟨b7, #[.int .i64 pk, .int .i64 c0, .int .i64 c1, .int .i64 c2, .int .i64 c3, .int .i64 c4, .int .i64 c5, .bool f], 81⟩) (by simp)
    have h8 := HM5.out.cell (x := ⟨b8, #[.int .i64 what, .int .i64 a, .int .i64 b], 72⟩) (by simp)
    have p7 := blk_cell h7 7
    have o0 := blk_cell h8 0
    have hlt7 := blk_lt h7
    have hlt8 := blk_lt h8
    simp at p7 o0 hlt7 hlt8
    clear h7 h8
    obtain ⟨TK, hTK⟩ : ∃ TK, TK = rTakes O S := ⟨_, rfl⟩
    have hTK2 : TK = (!f && decide (what = 9)) := by rw [hTK, HSE.out, HOE.out]; rfl
    have HTK := hid hTK
    have HTK2 := hid hTK2
    clear hTK hTK2
    go_cut [74] (fun v wx => v = .bool TK ∧ wx = w5)
    case first =>
      cases f with
      | true =>
        have hv : TK = false := by rw [HTK2.out]; rfl
        subst hv
        go_wp2_with fail
        go_meet
        exact ⟨rfl, rfl⟩
      | false =>
        by_cases h9 : what = 9
        · have hv : TK = true := by rw [HTK2.out]; simp [h9]
          subst h9 hv
          go_wp2_with fail
          go_meet
          exact ⟨rfl, rfl⟩
        · have hv : TK = false := by rw [HTK2.out]; simp [h9]
          have e9 : (what == 9) = false := by simpa using h9
          subst hv
          clear h9
          go_wp2_with fail
          go_meet
          exact ⟨rfl, rfl⟩
    obtain ⟨rfl, rfl⟩ := hcut
    clear p7 o0 hlt7 hlt8
    go_upto_if 74 with fail
    obtain ⟨G, hG⟩ : ∃ G, G = (rGot k O S).1 := ⟨_, rfl⟩
    obtain ⟨I, hI⟩ : ∃ I, I = (rGot k O S).2 := ⟨_, rfl⟩
    obtain ⟨L2, hL2⟩ : ∃ L2, L2 = rLines2 k O S := ⟨_, rfl⟩
    have HG := hid hG
    have HI := hid hI
    have HL2 := hid hL2
    clear hG hI hL2
    have HLINE : Hid (what = 8 ∨ what = 9 → ∃ (b' : Nat) (x : Ln), b = b' ∧ k.lines[b']? = some x ∧ LnOk x B ∧ p.wires[b']? = some x.w ∧ (what = 8 → x.w.fr = r) ∧ (what = 9 → x.w.to = r)) := fun hw => by
      have := op_line (o := O) HP.out HKO.out HC.out (List.mem_of_getElem? HO.out) (by rw [HOE.out]; exact hw)
      rw [HOE.out] at this; exact this
    obtain ⟨nl, hnl⟩ : ∃ nl, nl = k.lines.length := ⟨_, rfl⟩
    have HNL := hid hnl
    clear hnl
    go_cut [9, 10] (fun v9 v10 wx => v9 = .int .i64 G ∧ v10 = .bool I ∧ ∃ M', KMid 59 67 60 w wx kb M M' ⟨k.rooms, L2, tm + 1⟩ [⟨b8, #[.int .i64 what, .int .i64 a, .int .i64 b], 72⟩, ⟨b5, evV tm r pk 0, 76⟩, ⟨b7, #[.int .i64 pk, .int .i64 c0, .int .i64 c1, .int .i64 c2, .int .i64 c3, .int .i64 c4, .int .i64 c5, .bool f], 81⟩, ⟨w.heap.size, evV 0 0 0 0, 76⟩])
    case first =>
      cases TK with
      | false =>
        have hg1 : rGot k O S = (0, false) := by unfold rGot; rw [if_neg (by rw [← HTK.out]; decide)]
        have hl2 : rLines2 k O S = k.lines := by unfold rLines2; rw [if_neg (by rw [← HTK.out]; decide)]
        have hgg : G = 0 := by rw [HG.out, hg1]
        have hii : I = false := by rw [HI.out, hg1]
        have hll : L2 = k.lines := by rw [HL2.out, hl2]
        subst hgg hii hll
        clear hg1 hl2
        go_wp2_with fail
        go_meet
        exact ⟨rfl, rfl, M, HM5.out⟩
      | true =>
        have hc2 := HTK2.out
        have hf : f = false := by cases f with | true => cases hc2 | false => rfl
        have h9 : what = 9 := by rw [hf] at hc2; simp at hc2; exact hc2
        obtain ⟨b', x, hb', hx, hxok, _, _, _⟩ := HLINE.out (.inr h9)
        subst hf h9 hb'
        have hg1 : rGot k O S = (x.items.headD 0, !x.items.isEmpty) := by
          unfold rGot; rw [if_pos HTK.out.symm, HOE.out]; simp only [Int.toNat_natCast, hx]
        have hgg : G = x.items.headD 0 := by rw [HG.out, hg1]
        have hii : I = !x.items.isEmpty := by rw [HI.out, hg1]
        have hll : L2 = k.lines.set b' ⟨x.w, lineTake x.w x.items, x.lost⟩ := by
          rw [HL2.out]; unfold rLines2; rw [if_pos HTK.out.symm, HOE.out]; simp only [Int.toNat_natCast, hx]
        have hx' : (⟨k.rooms, k.lines, tm + 1⟩ : Kst).lines[b']? = some x := hx
        obtain ⟨la, lb, loff, hla, hlA, hlp, hln, hil, hlb⟩ := HM5.out.kat.line hx'
        obtain ⟨_, _, _, _, k5, _, _, hkb'⟩ := HM5.out.kat.cells
        have h8 := HM5.out.cell (x := ⟨b8, #[.int .i64 9, .int .i64 a, .int .i64 b'], 72⟩) (by simp)
        have h8n := (HM5.out.blk ⟨b8, #[.int .i64 9, .int .i64 a, .int .i64 b'], 72⟩ (by simp)).2.2
        have o2 := blk_cell h8 2
        have olt := blk_lt h8
        simp at o2 olt h8n
        rw [hlA] at k5
        simp only [] at k5 hil
        have hnl := HNL.out
        rw [← hnl] at k5 hil
        have hb0 : (0 : Int) ≤ (b' : Int) := by omega
        have hb1 : (b' : Int) < (nl : Int) := by omega
        have hkk := (wire_kind hxok.wire).1
        have HLN := hid hln
        have HTAKE : Hid (∀ w', Below wc.heap.size wc w' → Calls Tryz.prog 68 #[.pointer (some ⟨la.b, 0, none⟩)] w' (RTookG w' la.b la.A x G I)) := fun w' hb => by
          have h := rtake_any la.b w' la.A x.w x.items x.lost hxok.six (by omega) (HLN.out.keep fun j _ hl => hb.block j hl)
          unfold RTook at h
          rw [← hgg, ← hii] at h
          exact h
        have HKS : Hid (∀ w'', Keep (LF la.b la.A) wc w'' → w''.cell? ⟨kb, 5, none⟩ = some (.slice (some ⟨lb, loff, none⟩) nl M.lc) ∧ w''.cell? ⟨b8, 2, none⟩ = some (.int .i64 b') ∧ w''.cell? ⟨lb, loff + b', none⟩ = some (.pointer (some ⟨la.b, 0, none⟩))) := fun w'' hk => by
          obtain ⟨own, p0, p1, p2, p3, p4⟩ := HM5.out.kat.own
          refine ⟨(hk.cell hkb' fun h => ?_).trans k5, (hk.cell olt fun h => ?_).trans o2, (hk.cell hlb fun h => ?_).trans hlp⟩
          · have := p4 b' la hla _ h; rw [p0] at this; omega
          · exact h8n _ (.inl (.inr (.inr ⟨la, List.mem_of_getElem? hla, h⟩))) rfl
          · have := p4 b' la hla _ h; rw [p2 lb (by rw [hlA]; rfl)] at this; omega
        have HHX' := hid hx'
        have HLA := hid hla
        have HLL := hid hll
        clear hx hx' hxok hln hnl hla hll hc2 hg1 hgg hii h8 h8n hkk
        go_wp2_with fail
        go_region_held3 (fun w' => w'.cell? ⟨kb, 5, none⟩ = some (.slice (some ⟨lb, loff, none⟩) nl M.lc) ∧ w'.cell? ⟨b8, 2, none⟩ = some (.int .i64 b') ∧ w'.cell? ⟨lb, loff + b', none⟩ = some (.pointer (some ⟨la.b, 0, none⟩)))
          (first | (with_reducible exact HKS.out _ HK2.out) | (with_reducible exact HKS.out _ (Keep.drew (Keep.refl _ _))))
          (first | (go_at_call 68; refine (HTAKE.out _ (Below.refl _ _).drew).mono ?_; rintro e w2 ⟨A', rfl, h2, h3, h4⟩; have HK2 : Hid (Keep (LF la.b la.A) wc w2) := (Keep.refl _ wc).drew.then h3 (fun _ _ h => h); have HH2 := hid h2; have HH4 := hid h4; clear h2 h3 h4))
        go_wp2_with fail
        go_meet
        exact ⟨rfl, rfl, _, by rw [HLL.out]; exact HM5.out.line HHX'.out HLA.out HH2.out HK2.out (fun j hj => .inl (HH4.out j hj))⟩
    obtain ⟨rfl, rfl, M1, hmid⟩ := hcut
    clear HM5
    have HM6 := hid hmid
    have h7 := hmid.cell (x := ⟨b7, #[.int .i64 pk, .int .i64 c0, .int .i64 c1, .int .i64 c2, .int .i64 c3, .int .i64 c4, .int .i64 c5, .bool f], 81⟩) (by simp)
    have p0 := blk_cell h7 0
    have p1 := blk_cell h7 1
    have p2 := blk_cell h7 2
    have p3 := blk_cell h7 3
    have p4 := blk_cell h7 4
    have p5 := blk_cell h7 5
    have p6 := blk_cell h7 6
    have p7 := blk_cell h7 7
    have hlt7 := blk_lt h7
    simp at p0 p1 p2 p3 p4 p5 p6 p7 hlt7
    clear hmid h7
    obtain ⟨t, ht⟩ : ∃ t, t = (rDo ops.length k O S).1 := ⟨_, rfl⟩
    obtain ⟨out, hout⟩ : ∃ out, out = (rDo ops.length k O S).2 := ⟨_, rfl⟩
    obtain ⟨wh, hwh⟩ : ∃ wh, wh = stepWhat O S I := ⟨_, rfl⟩
    obtain ⟨g0, g1, g2, hob, _⟩ := HCODE.out _ _ _ HM6.out.kat HM6.out.plan.1
    have HSTEP : Hid (Calls Tryz.prog 69 #[.slice (some ⟨ob, ooff, none⟩) no oc, .agg #[.int .i64 pk, .int .i64 c0, .int .i64 c1, .int .i64 c2, .int .i64 c3, .int .i64 c4, .int .i64 c5, .bool f], .int .i64 G, .bool I] wc (RDoneV wc t out wh)) := by
      have h1 := rstep_any ob ooff no oc pk S O G I wc (by rw [HSE.out]) (by rw [HNO.out]; exact HST.out) (by rw [HNO.out]; exact HOP.out) (by rw [HOE.out]; exact ⟨hpn, hno20, g0, g1, g2⟩)
      have e1 : stepDo no O S G I = rDo ops.length k O S := by rw [HNO.out, HG.out, HI.out]; rfl
      rw [e1, ← ht, ← hout, ← hwh, HSE.out] at h1
      exact h1
    have HT := hid ht
    have HOUT := hid hout
    have HWH := hid hwh
    clear ht hout hwh g0 g1 g2 hob
    go_wp2_with fail
    refine Calls.mono HSTEP.out ?_
    rintro e w7 ⟨rfl, hb7⟩
    have HB7 := hid hb7
    obtain ⟨tp, t0, t1, t2, t3, t4, t5, tf⟩ := t
    unfold stV
    clear hb7 HSTEP p0 p1 p2 p3 p4 p5 p6 p7 hlt7
    go_upto_region 14 with fail
    obtain ⟨w8, hw8⟩ : ∃ w8, w8 = w7.alloc (.cells #[.int .i64 tp, .int .i64 t0, .int .i64 t1, .int .i64 t2, .int .i64 t3, .int .i64 t4, .int .i64 t5, .bool tf] 81) := ⟨_, rfl⟩
    have hb78' : Below w7.heap.size w7 w8 := by rw [hw8]; exact (Below.refl _ _).alloc (Nat.le_refl _) _
    have HM8 := hid (HM6.out.add (HB7.out.trans (hb78'.mono HB7.out.size)) (b := w7.heap.size) (T := 81) (cs := #[.int .i64 tp, .int .i64 t0, .int .i64 t1, .int .i64 t2, .int .i64 t3, .int .i64 t4, .int .i64 t5, .bool tf]) (by rw [hw8]; exact heap_alloc_new _ _) HB7.out.size)
    rw [← hw8]
    generalize w7.heap.size = b11 at HM8 ⊢
    have hk8 : (⟨k.rooms, L2, tm + 1⟩ : Kst).rooms[r]? = some S := HHS.out
    obtain ⟨rb2, roff2, hrA2, ⟨s0, s1, s2, s3, s4, s5, s6, s7⟩, hrf2, hrb2, hrkb2, hrl2, hrc2, hrm2⟩ := HM8.out.kat.room hk8
    obtain ⟨_, _, _, k4, _, _, _, hkb8⟩ := HM8.out.kat.cells
    rw [hrA2] at k4
    simp only [] at k4 hrl2 hrc2
    have hnr := HNR.out
    rw [← hnr] at k4 hrl2 hrc2
    unfold maxLen at hrm2
    have h11 := HM8.out.cell (x := ⟨b11, #[.int .i64 tp, .int .i64 t0, .int .i64 t1, .int .i64 t2, .int .i64 t3, .int .i64 t4, .int .i64 t5, .bool tf], 81⟩) (by simp)
    have h5 := HM8.out.cell (x := ⟨b5, evV tm r pk 0, 76⟩) (by simp)
    have hb11n := (HM8.out.blk ⟨b11, #[.int .i64 tp, .int .i64 t0, .int .i64 t1, .int .i64 t2, .int .i64 t3, .int .i64 t4, .int .i64 t5, .bool tf], 81⟩ (by simp)).2.2 rb2 (.inl (.inr (.inl (by rw [hrA2]; rfl))))
    have p0 := blk_cell h11 0
    have p1 := blk_cell h11 1
    have p2 := blk_cell h11 2
    have p3 := blk_cell h11 3
    have p4 := blk_cell h11 4
    have p5 := blk_cell h11 5
    have p6 := blk_cell h11 6
    have p7 := blk_cell h11 7
    have e1 := blk_cell h5 1
    simp [evV] at p0 p1 p2 p3 p4 p5 p6 p7 e1 hb11n
    have hb11r : b11 ≠ rb2 := fun e => hb11n e.symm
    have HRT := hid (HM8.out.room hrA2 hk8 ⟨tp, t0, t1, t2, t3, t4, t5, tf⟩)
    have f0 := hrf2 (roff2 + r * 8)
    have f1 := hrf2 (roff2 + r * 8 + 1)
    have f2 := hrf2 (roff2 + r * 8 + 2)
    have f3 := hrf2 (roff2 + r * 8 + 3)
    have f4 := hrf2 (roff2 + r * 8 + 4)
    have f5 := hrf2 (roff2 + r * 8 + 5)
    have f6 := hrf2 (roff2 + r * 8 + 6)
    have f7 := hrf2 (roff2 + r * 8 + 7)
    clear hw8 hb78' hk8 hrA2 hrf2 hnr h11 h5 hb11n HM6 HB7
    go_cut [] (fun wx => KMid 59 67 60 w wx kb M M1 ⟨k.rooms.set r ⟨tp, t0, t1, t2, t3, t4, t5, tf⟩, L2, tm + 1⟩ [⟨b11, #[.int .i64 tp, .int .i64 t0, .int .i64 t1, .int .i64 t2, .int .i64 t3, .int .i64 t4, .int .i64 t5, .bool tf], 81⟩, ⟨b8, #[.int .i64 what, .int .i64 a, .int .i64 b], 72⟩, ⟨b5, evV tm r pk 0, 76⟩, ⟨b7, #[.int .i64 pk, .int .i64 c0, .int .i64 c1, .int .i64 c2, .int .i64 c3, .int .i64 c4, .int .i64 c5, .bool f], 81⟩, ⟨w.heap.size, evV 0 0 0 0, 76⟩])
    case first =>
      go_region_with (fail)
      all_goals
        go_wp2_with fail
        go_meet
        exact HRT.out.new (Below.refl _ _).drew
    have HM9 := hid hcut
    clear hcut HRT p0 p1 p2 p3 p4 p5 p6 p7 s0 s1 s2 s3 s4 s5 s6 s7 f0 f1 f2 f3 f4 f5 f6 f7 k4 e1 HM8
    obtain ⟨R, hR⟩ : ∃ R, R = k.rooms.set r (⟨tp, t0, t1, t2, t3, t4, t5, tf⟩ : St) := ⟨_, rfl⟩
    rw [← hR] at HM9
    have HR2 := hid hR
    obtain ⟨WH, hWH⟩ : ∃ WH, WH = (rSend ops.length k O S).1 := ⟨_, rfl⟩
    obtain ⟨L3, hL3⟩ : ∃ L3, L3 = (rSend ops.length k O S).2 := ⟨_, rfl⟩
    have HWH3 := hid hWH
    have HL3 := hid hL3
    clear hR hWH hL3
    go_upto_if 105 with fail
    go_cut [13] (fun v13 wx => v13 = .int .i64 WH ∧ ∃ M'', KMid 59 67 60 w wx kb M M'' ⟨R, L3, tm + 1⟩ [⟨b5, evV tm r pk 0, 76⟩, ⟨w.heap.size, evV 0 0 0 0, 76⟩])
    case first =>
      by_cases h0 : 0 ≤ out
      · have hsnd := HOUT.out
        unfold rDo at hsnd
        rw [stepDo_snd] at hsnd
        have hf8 : S.failed = false ∧ O.what = 8 := by
          by_cases hh : S.failed = false ∧ O.what = 8
          · exact hh
          · rw [if_neg hh] at hsnd; omega
        have h8w : what = 8 := by have := hf8.2; rw [HOE.out] at this; exact this
        have htk : rTakes O S = false := by unfold rTakes; simp [hf8.2]
        have hl2 : L2 = k.lines := by rw [HL2.out]; unfold rLines2; rw [if_neg (by rw [htk]; decide)]
        obtain ⟨b', x, hb', hx, hxok, _, _, _⟩ := HLINE.out (.inl h8w)
        subst hb'
        have hse : rSend ops.length k O S = (if (lineSend x.w x.items x.lost out).1 = true then wh else 3, k.lines.set b' ⟨x.w, (lineSend x.w x.items x.lost out).2.1, (lineSend x.w x.items x.lost out).2.2⟩) := by
          unfold rSend
          rw [← HOUT.out, if_pos h0, ← HI.out, ← HWH.out]
          rw [show O.b.toNat = b' by rw [HOE.out]; rfl, hx]
        have hx' : (⟨R, L2, tm + 1⟩ : Kst).lines[b']? = some x := by rw [hl2]; exact hx
        obtain ⟨la, lb, loff, hla, hlA, hlp, hln, hil, hlb⟩ := HM9.out.kat.line hx'
        obtain ⟨_, _, _, _, k5, _, _, hkb'⟩ := HM9.out.kat.cells
        have h8 := HM9.out.cell (x := ⟨b8, #[.int .i64 what, .int .i64 a, .int .i64 b'], 72⟩) (by simp)
        have h8n := (HM9.out.blk ⟨b8, #[.int .i64 what, .int .i64 a, .int .i64 b'], 72⟩ (by simp)).2.2
        have o2 := blk_cell h8 2
        have olt := blk_lt h8
        simp at o2 olt h8n
        rw [hlA] at k5
        have hnl2 : L2.length = nl := by rw [hl2, HNL.out]
        simp only [] at k5 hil
        rw [hnl2] at k5 hil
        have hb0 : (0 : Int) ≤ (b' : Int) := by omega
        have hb1 : (b' : Int) < (nl : Int) := by omega
        have hkk := (wire_kind hxok.wire).1
        have hlob := hxok.lostB
        have HLN := hid hln
        have HSND : Hid (∀ w', Below wc.heap.size wc w' → Calls Tryz.prog 70 #[.pointer (some ⟨la.b, 0, none⟩), .int .i64 out] w' (RSentG w' la.b la.A x (lineSend x.w x.items x.lost out))) := fun w' hb =>
          rsend_any la.b out w' la.A x.w x.items x.lost (by omega) hxok.six hxok.most hxok.lost0 (by omega) (HLN.out.keep fun j _ hl => hb.block j hl)
        have HKS : Hid (∀ w'', Keep (LF la.b la.A) wc w'' → w''.cell? ⟨kb, 5, none⟩ = some (.slice (some ⟨lb, loff, none⟩) nl M1.lc) ∧ w''.cell? ⟨b8, 2, none⟩ = some (.int .i64 b') ∧ w''.cell? ⟨lb, loff + b', none⟩ = some (.pointer (some ⟨la.b, 0, none⟩))) := fun w'' hk => by
          obtain ⟨own, p0, p1, p2, p3, p4⟩ := HM9.out.kat.own
          refine ⟨(hk.cell hkb' fun h => ?_).trans k5, (hk.cell olt fun h => ?_).trans o2, (hk.cell hlb fun h => ?_).trans hlp⟩
          · have := p4 b' la hla _ h; rw [p0] at this; omega
          · exact h8n _ (.inl (.inr (.inr ⟨la, List.mem_of_getElem? hla, h⟩))) rfl
          · have := p4 b' la hla _ h; rw [p2 lb (by rw [hlA]; rfl)] at this; omega
        generalize lineSend x.w x.items x.lost out = sq at HSND hse
        obtain ⟨th, its, lo⟩ := sq
        have HHX' := hid hx'
        have HLA := hid hla
        have HL22 := hid hl2
        have hwh3 : WH = if th = true then wh else 3 := by rw [HWH3.out, hse]
        have hll3 : L3 = k.lines.set b' ⟨x.w, its, lo⟩ := by rw [HL3.out, hse]
        have HLL3 := hid hll3
        have HWW := hid hwh3
        clear hx hx' hxok hln hla hl2 hnl2 h8 h8n hkk hlob hsnd hf8 htk hse hll3 hwh3
        go_wp2_with fail
        cases th with
        | true =>
          go_region_held3 (fun w' => w'.cell? ⟨kb, 5, none⟩ = some (.slice (some ⟨lb, loff, none⟩) nl M1.lc) ∧ w'.cell? ⟨b8, 2, none⟩ = some (.int .i64 b') ∧ w'.cell? ⟨lb, loff + b', none⟩ = some (.pointer (some ⟨la.b, 0, none⟩)))
            (first | (with_reducible exact HKS.out _ HK2.out) | (with_reducible exact HKS.out _ (Keep.drew (Keep.refl _ _))))
            (first | (go_at_call 70; refine (HSND.out _ (Below.refl _ _).drew).mono ?_; rintro e w2 ⟨A', rfl, h2, h3, h4⟩; have HK2 : Hid (Keep (LF la.b la.A) wc w2) := (Keep.refl _ wc).drew.then h3 (fun _ _ h => h); have HH2 := hid h2; have HH4 := hid h4; clear h2 h3 h4))
          go_wp2_with fail
          go_meet
          exact ⟨by rw [HWW.out]; rfl, _, by rw [HLL3.out, ← HL22.out]; exact (HM9.out.line HHX'.out HLA.out HH2.out HK2.out (fun j hj => HH4.out j hj)).drop (by simp)⟩
        | false =>
          go_region_held3 (fun w' => w'.cell? ⟨kb, 5, none⟩ = some (.slice (some ⟨lb, loff, none⟩) nl M1.lc) ∧ w'.cell? ⟨b8, 2, none⟩ = some (.int .i64 b') ∧ w'.cell? ⟨lb, loff + b', none⟩ = some (.pointer (some ⟨la.b, 0, none⟩)))
            (first | (with_reducible exact HKS.out _ HK2.out) | (with_reducible exact HKS.out _ (Keep.drew (Keep.refl _ _))))
            (first | (go_at_call 70; refine (HSND.out _ (Below.refl _ _).drew).mono ?_; rintro e w2 ⟨A', rfl, h2, h3, h4⟩; have HK2 : Hid (Keep (LF la.b la.A) wc w2) := (Keep.refl _ wc).drew.then h3 (fun _ _ h => h); have HH2 := hid h2; have HH4 := hid h4; clear h2 h3 h4))
          go_wp2_with fail
          go_meet
          exact ⟨by rw [HWW.out]; rfl, _, by rw [HLL3.out, ← HL22.out]; exact (HM9.out.line HHX'.out HLA.out HH2.out HK2.out (fun j hj => HH4.out j hj)).drop (by simp)⟩
      · have hse : rSend ops.length k O S = (wh, L2) := by
          unfold rSend
          rw [← HOUT.out, if_neg h0, ← HI.out, ← HWH.out, ← HL2.out]
        have hw : WH = wh := by rw [HWH3.out, hse]
        have hl : L3 = L2 := by rw [HL3.out, hse]
        have ho : out < 0 := by omega
        have HWW := hid hw
        have HLL3 := hid hl
        clear hse hw hl h0
        go_wp2_with fail
        go_meet
        exact ⟨by rw [HWW.out], M1, by rw [HLL3.out]; exact HM9.out.drop (by simp)⟩
    obtain ⟨rfl, M2, hmid⟩ := hcut
    have HM10 := hid hmid
    have hqe : q = (⟨tm, r, pk, WH⟩, ⟨R, L3, tm + 1⟩) := by
      have hr := rsteps_eq (n := (ops.length : Int)) HHS.out (fun hw => by
        have := HLINE.out (by rw [HOE.out] at hw; exact hw)
        obtain ⟨b', x, h1, h2, _⟩ := this
        exact ⟨x, by rw [HOE.out]; simp only [h1, Int.toNat_natCast]; exact h2⟩) (fun a ha => ((stOk_iff.1 HST.out).2 a ha).1) (opOk_a HOP.out).2
      rw [HQE.out, hr, HR2.out, HT.out, HWH3.out, HL3.out, HSE.out]
    have HQF := hid hqe
    have h5 := hmid.cell (x := ⟨b5, evV tm r pk 0, 76⟩) (by simp)
    have e0 := blk_cell h5 0
    have e1 := blk_cell h5 1
    have e2 := blk_cell h5 2
    have e3 := blk_cell h5 3
    have ef := fun j => blk_free h5 j
    have hlt5 := blk_lt h5
    simp [evV] at e0 e1 e2 e3
    have h5' : wc.heap[b5]? = some (.cells (evV tm r pk 0) 76 (0, 0)) := h5
    clear hmid hqe h5 HM9
    go_upto_region 20 with fail
    obtain ⟨wf, hwf⟩ : ∃ wf, wf = wc.setCell ⟨b5, 3, none⟩ (.int .i64 WH) := ⟨_, rfl⟩
    have HM11 : Hid (KMid 59 67 60 w wf kb M M2 ⟨R, L3, tm + 1⟩ [⟨b5, evV tm r pk WH, 76⟩, ⟨w.heap.size, evV 0 0 0 0, 76⟩]) := by
      refine KMid.put (cs := evV tm r pk 0) HM10.out (wx := wc) ?_ ?_ ?_
      · rw [hwf]; exact Keep.setCell (F := fun j => j = b5) (Keep.refl _ _) (.inl rfl) _
      · rw [hwf, hp_set, if_pos rfl, h5']; rfl
      · simp only [List.mem_cons, List.not_mem_nil, or_false]
        rintro x rfl; simp only []; omega
    rw [← hwf]
    clear hwf e0 e1 e2 e3 ef hlt5 h5' HM10
    have h5 := HM11.out.cell (x := ⟨b5, evV tm r pk WH, 76⟩) (by simp)
    have hres := HM11.out.cell (x := ⟨w.heap.size, evV 0 0 0 0, 76⟩) (by simp)
    have e0 := blk_cell h5 0
    have e1 := blk_cell h5 1
    have e2 := blk_cell h5 2
    have e3 := blk_cell h5 3
    have hlt5 := blk_lt h5
    have r0 := blk_cell hres 0
    have r1 := blk_cell hres 1
    have r2 := blk_cell hres 2
    have r3 := blk_cell hres 3
    have rf := fun j => blk_free hres j
    have hlr := blk_lt hres
    simp [evV] at e0 e1 e2 e3 r0 r1 r2 r3
    have hne : b5 ≠ w.heap.size := by omega
    have hz := put4_heap hres (.int .i64 tm) (.int .i64 r) (.int .i64 pk) (.int .i64 WH)
    have HLAST := hid (KMid.put (b := w.heap.size) (cs := evV 0 0 0 0) (T := 76) (bs := []) (HM11.out.drop (by simp)) (put4_keep wf w.heap.size (.int .i64 tm) (.int .i64 r) (.int .i64 pk) (.int .i64 WH)) hz (by simp))
    have HZ := hid hz
    clear h5 hres hz
    go_wp2_with fail
    obtain ⟨wz, hwz⟩ : ∃ wz, wz = put4 wf w.heap.size (.int .i64 tm) (.int .i64 r) (.int .i64 pk) (.int .i64 WH) := ⟨_, rfl⟩
    have hz := HZ.out
    have hlast := HLAST.out
    unfold put4 at hwz hlast
    rw [← hwz] at hz hlast ⊢
    have z0 := blk_cell hz 0
    have z1 := blk_cell hz 1
    have z2 := blk_cell hz 2
    have z3 := blk_cell hz 3
    simp at z0 z1 z2 z3
    exact bodyPost_ret (v := .agg #[.int .i64 tm, .int .i64 r, .int .i64 pk, .int .i64 WH]) (by simp [results, Tryz.results37, go_sem, z0, z1, z2, z3]) rfl (hlast.ticked HQF.out)
theorem rtickBy_any (w : World) (kb : Nat) (M : KM) (k : Kst) (p : Pl) (B : Int) (A : Option Addr) (c : Nat) (l : List Span) (hp : PlOk p) (hM : M.P.pl = p) (hk : KOk p k B) (hB : B < 4611686018427387904)
    (hka : KAt 59 67 60 w kb M k) (hs : Sl w A 3 l.length (l.flatMap Span.cells)) (hsw : SlW A c l.length) (hsp : ∀ s ∈ l, 0 ≤ s.room ∧ s.room < p.code.length) :
    Calls Tryz.prog 37 #[.pointer (some ⟨kb, 0, none⟩), .slice A l.length c] w (KTicked 59 67 60 w kb M (tickBy p l k)) :=
  rtickBy_anyW w kb M k p B A c l hp (by rw [hM]) (by rw [← hM]; rfl) hk hB hka hs hsw hsp
end Go.Proofs.YthdmgighblhmhaaGreatDoor
