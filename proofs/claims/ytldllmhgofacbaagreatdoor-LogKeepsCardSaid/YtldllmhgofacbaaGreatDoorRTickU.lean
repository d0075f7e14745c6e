/- Several parts: each begins with what it says. -/
import Derived.Test.YtldllmhgofacbaaGreatDoorTickU
import Derived.Test.YtldllmhgofacbaaGreatDoorWhatU
import Derived.Test.YtldllmhgofacbaaGreatDoorRLawU
/- Midway in a call that changes a kernel: the kernel, and the blocks that the call has laid. -/
namespace Go.Proofs.YtldllmhgofacbaaGreatDoor
open Go.RowKit
set_option maxRecDepth 100000

/-- A block: where, its cells, its type. -/
structure Bk where
  b : Nat
  cs : Array Value
  T : Nat
structure KMid (TK TL TP : Nat) (w wx : World) (kb : Nat) (M0 M : KM) (k : Kst) (bs : List Bk) : Prop where
  kat : KAt TK TL TP wx kb M k
  blk : ∀ x ∈ bs, wx.heap[x.b]? = some (.cells x.cs x.T (0, 0)) ∧ w.heap.size ≤ x.b ∧ ∀ j, TF kb M j → j ≠ x.b
  keep : Keep (KF kb M0) w wx
  plan : M.P = M0.P ∧ M.lA = M0.lA
  grow : ∀ j, KF kb M j → KF kb M0 j ∨ w.heap.size ≤ j
section
variable {TK TL TP : Nat} {w wx w' : World} {kb : Nat} {M0 M M1 : KM} {k k1 : Kst} {bs : List Bk}
theorem KMid.start (h : KAt TK TL TP w kb M k) : KMid TK TL TP w w kb M M k [] := ⟨h, fun x hx => by simp at hx, Keep.refl _ _, ⟨rfl, rfl⟩, fun _ hj => .inl hj⟩
theorem KMid.new (h : KMid TK TL TP w wx kb M0 M k bs) (hb : Below wx.heap.size wx w') : KMid TK TL TP w w' kb M0 M k bs :=
  ⟨h.kat.new hb, fun x hx => ⟨(hb.block _ (blk_lt (h.blk x hx).1)).trans (h.blk x hx).1, (h.blk x hx).2⟩, h.keep.then (Keep.of_below NoF hb) (fun _ _ h => h.elim), h.plan, h.grow⟩
/-- A block more, as it lies in new memory. -/
theorem KMid.add (h : KMid TK TL TP w wx kb M0 M k bs) (hb : Below wx.heap.size wx w') {b T : Nat} {cs : Array Value} (hx : w'.heap[b]? = some (.cells cs T (0, 0))) (hl : wx.heap.size ≤ b) : KMid TK TL TP w w' kb M0 M k (⟨b, cs, T⟩ :: bs) := by
  have hn := h.new hb
  refine ⟨hn.kat, fun x hx' => ?_, hn.keep, h.plan, h.grow⟩
  rcases List.mem_cons.1 hx' with rfl | hx'
  · exact ⟨hx, Nat.le_trans h.keep.size hl, fun j hj => by have := h.kat.lt j hj; simp only []; omega⟩
  · exact hn.blk x hx'
theorem KMid.drop (h : KMid TK TL TP w wx kb M0 M k bs) {cs : List Bk} (hs : ∀ x ∈ cs, x ∈ bs) : KMid TK TL TP w wx kb M0 M k cs := ⟨h.kat, fun x hx => h.blk x (hs x hx), h.keep, h.plan, h.grow⟩
/-- A laid block is written: the others stay, if they lie elsewhere. -/
theorem KMid.put {b T : Nat} {cs cs' : Array Value} (h : KMid TK TL TP w wx kb M0 M k (⟨b, cs, T⟩ :: bs)) (hk : Keep (fun j => j = b) wx w') (hx : w'.heap[b]? = some (.cells cs' T (0, 0))) (hne : ∀ x ∈ bs, x.b ≠ b) : KMid TK TL TP w w' kb M0 M k (⟨b, cs', T⟩ :: bs) := by
  obtain ⟨_, hlo, hap⟩ := h.blk ⟨b, cs, T⟩ (by simp)
  simp only [] at hlo hap
  refine ⟨h.kat.through hk fun j hj e => hap j hj e, fun x hx' => ?_, h.keep.then hk fun j hj e => by omega, h.plan, h.grow⟩
  rcases List.mem_cons.1 hx' with rfl | hx'
  · exact ⟨hx, hlo, hap⟩
  · have hb := h.blk x (by simp [hx'])
    exact ⟨(hk.block _ (blk_lt hb.1) (hne x hx')).trans hb.1, hb.2⟩
/-- The kernel is changed. -/
theorem KMid.step (h : KMid TK TL TP w wx kb M0 M k bs) (h1 : KAt TK TL TP w' kb M1 k1) (h2 : M1.P = M.P ∧ M1.lA = M.lA) (h3 : Keep (KF kb M) wx w') (h4 : ∀ j, KF kb M1 j → KF kb M j ∨ wx.heap.size ≤ j) : KMid TK TL TP w w' kb M0 M1 k1 bs := by
  have ks := h.keep.size
  refine ⟨h1, fun x hx => ?_, h.keep.then h3 fun j hj hf => ?_, ⟨h2.1.trans h.plan.1, h2.2.trans h.plan.2⟩, fun j hj => ?_⟩
  · obtain ⟨a, b, c⟩ := h.blk x hx
    refine ⟨(h3.block _ (blk_lt a) fun hj => c _ (.inl hj) rfl).trans a, b, fun j hj => ?_⟩
    rcases hj with hj | hj | hj
    · rcases h4 j hj with hj | hj
      · exact c j (.inl hj)
      · have := blk_lt a; omega
    · rw [h2.2] at hj; exact c j (.inr (.inl hj))
    · rw [h2.1] at hj; exact c j (.inr (.inr hj))
  · rcases h.grow j hf with h5 | h5
    · exact h5
    · omega
  · rcases h4 j hj with hj | hj
    · exact h.grow j hj
    · right; omega
theorem KMid.time (h : KMid TK TL TP w wx kb M0 M k bs) (t : Int) : KMid TK TL TP w (wx.setCell ⟨kb, 6, none⟩ (.int .i64 t)) kb M0 M ⟨k.rooms, k.lines, t⟩ bs :=
  h.step (h.kat.atTime t) ⟨rfl, rfl⟩ ((Keep.refl _ _).setCell (.inl (.inl rfl)) _) fun _ hj => .inl hj
theorem KMid.room (h : KMid TK TL TP w wx kb M0 M k bs) {r rb roff : Nat} {s' : St} (hA : M.rA = some ⟨rb, roff, none⟩) (hs : k.rooms[r]? = some s') (t : St) : KMid TK TL TP w (putAt wx rb (roff + r * 8) t) kb M0 M ⟨k.rooms.set r t, k.lines, k.time⟩ bs :=
  h.step (h.kat.putRoomAt hA rfl hs t) ⟨rfl, rfl⟩ ((putAt_keep _ _ _ _).mono fun j _ e => by subst e; exact .inr (.inl (by rw [hA]; rfl))) fun _ hj => .inl hj
theorem KMid.line (h : KMid TK TL TP w wx kb M0 M k bs) {i : Nat} {x y : Ln} {a : LM} {A' : Option Addr} (hx : k.lines[i]? = some x) (ha : M.ls[i]? = some a) (hl : LnAt TL w' a.b A' y) (hk : Keep (LF a.b a.A) wx w') (hn : ∀ j, InA A' j → InA a.A j ∨ wx.heap.size ≤ j) :
    KMid TK TL TP w w' kb M0 (M.setLine i ⟨a.b, A'⟩) ⟨k.rooms, k.lines.set i y, k.time⟩ bs :=
  h.step (h.kat.putLine hx ha hl hk hn) ⟨rfl, rfl⟩ (hk.mono fun _ _ hj => .inr (.inr ⟨a, List.mem_of_getElem? ha, hj⟩)) (KF_line ha hn)
/-- What such a call leaves. -/
theorem KMid.ticked (h : KMid TK TL TP w wx kb M0 M k bs) {q : Ev × Kst} {a b c d : Int} (hq : q = (⟨a, b, c, d⟩, k)) : KTicked TK TL TP w kb M0 q (.returned (.agg #[.int .i64 a, .int .i64 b, .int .i64 c, .int .i64 d])) wx := by
  subst hq
  exact ⟨M, rfl, h.kat, h.plan, h.keep, h.grow⟩
theorem KMid.cell (h : KMid TK TL TP w wx kb M0 M k bs) {x : Bk} (hx : x ∈ bs) : wx.heap[x.b]? = some (.cells x.cs x.T (0, 0)) := (h.blk x hx).1
end
end Go.Proofs.YtldllmhgofacbaaGreatDoor

/- Plain: a step of a kernel's room in the order in which the reference does it. -/
namespace Go.Proofs.YtldllmhgofacbaaGreatDoor

def rTakes (o : Op) (s : St) : Bool := !s.failed && decide (o.what = 9)
def rGot (k : Kst) (o : Op) (s : St) : Int × Bool := if rTakes o s = true then (match k.lines[o.b.toNat]? with | some x => (x.items.headD 0, !x.items.isEmpty) | none => (0, false)) else (0, false)
def rLines2 (k : Kst) (o : Op) (s : St) : List Ln := if rTakes o s = true then (match k.lines[o.b.toNat]? with | some x => k.lines.set o.b.toNat ⟨x.w, lineTake x.w x.items, x.lost⟩ | none => k.lines) else k.lines
def rDo (n : Int) (k : Kst) (o : Op) (s : St) : St × Int := stepDo n o s (rGot k o s).1 (rGot k o s).2
def rSend (n : Int) (k : Kst) (o : Op) (s : St) : Int × List Ln :=
  if 0 ≤ (rDo n k o s).2 then (match k.lines[o.b.toNat]? with
    | some x => (if (lineSend x.w x.items x.lost (rDo n k o s).2).1 = true then stepWhat o s (rGot k o s).2 else 3, k.lines.set o.b.toNat ⟨x.w, (lineSend x.w x.items x.lost (rDo n k o s).2).2.1, (lineSend x.w x.items x.lost (rDo n k o s).2).2.2⟩)
    | none => (stepWhat o s (rGot k o s).2, rLines2 k o s)) else (stepWhat o s (rGot k o s).2, rLines2 k o s)
theorem rsteps_eq {n : Int} {k : Kst} {r : Nat} {o : Op} {s : St} (hs : k.rooms[r]? = some s) (hl : o.what = 8 ∨ o.what = 9 → ∃ x, k.lines[o.b.toNat]? = some x) (hg : ∀ a, a < 6 → 0 ≤ s.get a) (ha : o.a.toNat < 6) :
    kDo n r o s k = ((rSend n k o s).1, ⟨k.rooms.set r (rDo n k o s).1, (rSend n k o s).2, k.time⟩) := by
  unfold kDo
  by_cases hf : s.failed = true
  · have ht : rTakes o s = false := by unfold rTakes; rw [hf]; rfl
    have hd : rDo n k o s = (s, -1) := by unfold rDo stepDo; rw [if_pos hf]
    have hw : ∀ b, stepWhat o s b = 5 := fun b => by unfold stepWhat; rw [if_pos hf]
    have hss : rSend n k o s = (5, k.lines) := by
      unfold rSend rLines2
      rw [hd, if_neg (show ¬ (0 : Int) ≤ -1 by decide), if_neg (by rw [ht]; decide), hw]
    rw [if_pos hf, hss, hd, set_same _ _ _ hs]
  · rw [if_neg hf]
    have hf' : s.failed = false := by simpa using hf
    by_cases h9 : o.what = 9
    · obtain ⟨x, hx⟩ := hl (.inr h9)
      have ht : rTakes o s = true := by unfold rTakes; rw [hf', h9]; rfl
      have hout : (rDo n k o s).2 = -1 := by unfold rDo; rw [stepDo_snd, if_neg (by rw [h9]; simp)]
      have hsend : rSend n k o s = (stepWhat o s (rGot k o s).2, k.lines.set o.b.toNat ⟨x.w, lineTake x.w x.items, x.lost⟩) := by
        unfold rSend rLines2
        rw [hout, if_neg (show ¬ (0 : Int) ≤ -1 by decide), if_pos ht, hx]
      rw [if_pos h9, hx]
      simp only []
      cases hi : x.items with
      | nil =>
        have hgot : rGot k o s = (0, false) := by unfold rGot; rw [if_pos ht, hx]; simp [hi]
        have hd : rDo n k o s = (s, -1) := by unfold rDo stepDo; rw [if_neg hf, hgot]; simp [h9]
        have hls : k.lines.set o.b.toNat ⟨x.w, lineTake x.w x.items, x.lost⟩ = k.lines := by
          refine set_same _ _ _ ?_
          rw [hx, hi]
          obtain ⟨a, b, c⟩ := x
          simp only [] at hi
          subst hi
          simp [lineTake]
        have hwh : stepWhat o s false = 3 := by unfold stepWhat; rw [if_neg hf]; simp [h9]
        rw [hsend, hd, hls, hgot, set_same _ _ _ hs, hwh]
      | cons i rest =>
        have hgot : rGot k o s = (i, true) := by unfold rGot; rw [if_pos ht, hx]; simp [hi]
        have hwh : stepWhat o s true = 2 := by unfold stepWhat; rw [if_neg hf]; simp [h9]
        rw [hsend, hgot, hwh]
        unfold rDo
        rw [hgot]
        simp only [hi]
    · have ht : rTakes o s = false := by unfold rTakes; simp [h9]
      have hgot : rGot k o s = (0, false) := by unfold rGot; rw [if_neg (by rw [ht]; decide)]
      have hl2 : rLines2 k o s = k.lines := by unfold rLines2; rw [if_neg (by rw [ht]; decide)]
      rw [if_neg h9]
      by_cases h8 : o.what = 8
      · obtain ⟨x, hx⟩ := hl (.inl h8)
        have hout : (rDo n k o s).2 = s.get o.a.toNat := by unfold rDo; rw [stepDo_snd, if_pos ⟨hf', h8⟩]
        have hwh : stepWhat o s false = 1 := by unfold stepWhat; rw [if_neg hf]; simp [h8]
        have hsend : rSend n k o s = (if (lineSend x.w x.items x.lost (s.get o.a.toNat)).1 = true then 1 else 3, k.lines.set o.b.toNat ⟨x.w, (lineSend x.w x.items x.lost (s.get o.a.toNat)).2.1, (lineSend x.w x.items x.lost (s.get o.a.toNat)).2.2⟩) := by
          unfold rSend
          rw [hout, if_pos (hg _ ha), hx, hgot, hwh]
        rw [if_pos h8, hx, hsend]
        unfold rDo
        rw [hgot]
      · have hout : (rDo n k o s).2 = -1 := by unfold rDo; rw [stepDo_snd, if_neg (by simp [h8])]
        have hsend : rSend n k o s = (stepWhat o s false, k.lines) := by
          unfold rSend
          rw [hout, if_neg (show ¬ (0 : Int) ≤ -1 by decide), hl2, hgot]
        have hwh : stepWhat o s false = if o.what = 11 then 4 else 0 := by unfold stepWhat; rw [if_neg hf]; simp [h8, h9]
        rw [if_neg h8, hsend, hwh]
        unfold rDo
        rw [hgot]
end Go.Proofs.YtldllmhgofacbaaGreatDoor
