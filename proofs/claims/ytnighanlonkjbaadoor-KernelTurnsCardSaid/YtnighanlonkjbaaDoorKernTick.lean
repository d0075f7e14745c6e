/- Package kernel: the contracts of Turn, TickBy, Tick, for every kernel that is right. -/
import Derived.Test.YtnighanlonkjbaaDoorKernDo
import Derived.Test.YtnighanlonkjbaaDoorFrame2
import Derived.Test.YtnighanlonkjbaaDoorOwnW2
namespace Go.Proofs.YtnighanlonkjbaaDoor
open Go.RowKit
set_option maxRecDepth 100000
attribute [local go_sem ↓] Go.wp_at_zero Go.wp_at_succ

section
variable {kb : Nat} {w : World} {M : KM} {k : Kst}
theorem kturn_any (p : Pl) (B : Int) (A : Option Addr) (c : Nat) (l : List Span) (hp : PlOk p) (hM : M.P.pl = p) (hk : KOk p k B) (hB : B < 4611686018427387904)
    (hka : KAt 137 125 48 w kb M k) (hs : Sl w A 3 l.length (l.flatMap Span.cells)) (hsw : SlW A c l.length) :
    Calls Tryd.prog 92 #[.pointer (some ⟨kb, 0, none⟩), .slice A l.length c] w fun e w' => e = .returned (.int .i64 (turnAt l (k.time % p.ticks))) ∧ Below w.heap.size w w' := by
  obtain ⟨k0, k1, k2, k4, k5, k6, kf, hkb⟩ := hka.cells
  have ht := frameChk_ticks hp.frame
  have htk : M.P.ticks = p.ticks := by rw [← hM]; rfl
  rw [htk] at k1
  have ht0 := hk.time0
  have htB := hk.timeB
  have HT : Hid (∀ w', Below w.heap.size w w' → Calls Tryd.prog 74 #[.int .i64 p.ticks, .slice A l.length c, .int .i64 k.time] w' fun e w'' => e = .returned (.int .i64 (turnAt l (k.time % p.ticks))) ∧ Below w'.heap.size w' w'') := fun w' hb =>
    turn_any p.ticks k.time A c l w' (hs.new hb) hsw ht.1 ht.2.1 ht0 (by omega)
  generalize turnAt l (k.time % p.ticks) = T at HT ⊢
  generalize l.length = n at HT ⊢
  generalize k.time = tm at HT k6
  generalize p.ticks = tk at HT k1
  clear k0 k2 k4 k5 kf ht ht0 htB hs hsw hk hp hM hka htk hB
  go_enter Tryd.func92, Tryd.ntmps92
  go_wp2_with fail
  have HS : Hid (∀ w', Below w.heap.size w w' → w'.cell? ⟨kb, 1, none⟩ = some (.int .i64 tk) ∧ w'.cell? ⟨kb, 6, none⟩ = some (.int .i64 tm)) := fun w' hb => ⟨(hb.cell (p := ⟨kb, 1, none⟩) hkb).trans k1, (hb.cell (p := ⟨kb, 6, none⟩) hkb).trans k6⟩
  go_region_held3 (fun w' => w'.cell? ⟨kb, 1, none⟩ = some (.int .i64 tk) ∧ w'.cell? ⟨kb, 6, none⟩ = some (.int .i64 tm))
    (first | (with_reducible exact HS.out _ HB2.out) | (with_reducible exact HS.out _ (Below.drew (Below.refl _ _))))
    (first | (go_at_call 74; refine (HT.out _ (Below.refl _ _).drew).mono ?_; rintro e w2 ⟨rfl, hb2⟩; have HB2 := hid ((Below.refl w.heap.size w).drew.trans hb2); clear hb2))
  go_wp2_with fail
  go_ret
  exact ⟨rfl, HB2.out⟩
end

/-- What a tick leaves. -/
def KTicked (TK TL TP : Nat) (w : World) (kb : Nat) (M : KM) (q : Ev × Kst) (e : Ending) (w' : World) : Prop :=
  ∃ M', e = .returned (.agg #[.int .i64 q.1.tick, .int .i64 q.1.room, .int .i64 q.1.pc, .int .i64 q.1.what]) ∧ KAt TK TL TP w' kb M' q.2 ∧ (M'.P = M.P ∧ M'.lA = M.lA) ∧ Keep (KF kb M) w w' ∧ ∀ j, KF kb M' j → KF kb M j ∨ w.heap.size ≤ j

def evV (a b c d : Int) : Array Value := #[.int .i64 a, .int .i64 b, .int .i64 c, .int .i64 d]
/-- The event's block, and the result's. -/
structure TkMid (TK TL TP : Nat) (w wx : World) (kb : Nat) (M0 M : KM) (k : Kst) (b5 : Nat) (a b c d : Int) : Prop where
  kat : KAt TK TL TP wx kb M k
  ev : wx.heap[b5]? = some (.cells (evV a b c d) 77 (0, 0))
  res : wx.heap[w.heap.size]? = some (.cells (evV 0 0 0 0) 77 (0, 0))
  lt : w.heap.size < b5
  apart : ∀ j, TF kb M j → j ≠ b5 ∧ j ≠ w.heap.size
  keep : Keep (KF kb M0) w wx
  plan : M.P = M0.P ∧ M.lA = M0.lA
  grow : ∀ j, KF kb M j → KF kb M0 j ∨ w.heap.size ≤ j
section
variable {TK TL TP : Nat} {w wx w' : World} {kb b5 : Nat} {M0 M : KM} {k : Kst} {a b c d : Int}
theorem TkMid.at2 (h : TkMid TK TL TP w wx kb M0 M k b5 a b c d) (u : Int) : TkMid TK TL TP w (wx.setCell ⟨b5, 2, none⟩ (.int .i64 u)) kb M0 M k b5 a b u d := by
  have hlt := h.lt
  refine ⟨h.kat.keep (by rw [sz_set]; exact Nat.le_refl _) (fun j _ hj => blk_far (p := ⟨b5, 2, none⟩) (h.apart j hj).1 _), ?_, ?_, hlt, h.apart, h.keep.setCell (.inr (by omega)) _, h.plan, h.grow⟩
  · rw [hp_set, if_pos rfl, h.ev]; rfl
  · rw [hp_set, if_neg (by omega)]; exact h.res
theorem TkMid.at3 (h : TkMid TK TL TP w wx kb M0 M k b5 a b c d) (u : Int) : TkMid TK TL TP w (wx.setCell ⟨b5, 3, none⟩ (.int .i64 u)) kb M0 M k b5 a b c u := by
  have hlt := h.lt
  refine ⟨h.kat.keep (by rw [sz_set]; exact Nat.le_refl _) (fun j _ hj => blk_far (p := ⟨b5, 3, none⟩) (h.apart j hj).1 _), ?_, ?_, hlt, h.apart, h.keep.setCell (.inr (by omega)) _, h.plan, h.grow⟩
  · rw [hp_set, if_pos rfl, h.ev]; rfl
  · rw [hp_set, if_neg (by omega)]; exact h.res
theorem TkMid.time (h : TkMid TK TL TP w wx kb M0 M k b5 a b c d) (t : Int) : TkMid TK TL TP w (wx.setCell ⟨kb, 6, none⟩ (.int .i64 t)) kb M0 M ⟨k.rooms, k.lines, t⟩ b5 a b c d := by
  have hkb := h.apart kb (.inl (.inl rfl))
  refine ⟨h.kat.atTime t, ?_, ?_, h.lt, h.apart, h.keep.setCell (.inl (.inl rfl)) _, h.plan, h.grow⟩
  · rw [hp_set, if_neg (fun e => hkb.1 e.symm)]; exact h.ev
  · rw [hp_set, if_neg (fun e => hkb.2 e.symm)]; exact h.res
theorem TkMid.did {M1 : KM} {k1 : Kst} (h : TkMid TK TL TP w wx kb M0 M k b5 a b c d) (h1 : KAt TK TL TP w' kb M1 k1) (h2 : M1.P = M.P ∧ M1.lA = M.lA) (h3 : Keep (KF kb M) wx w') (h4 : ∀ j, KF kb M1 j → KF kb M j ∨ wx.heap.size ≤ j) : TkMid TK TL TP w w' kb M0 M1 k1 b5 a b c d := by
  have e1 := blk_lt h.ev
  have e2 := blk_lt h.res
  have ks := h.keep.size
  refine ⟨h1, (h3.block _ e1 fun hj => (h.apart _ (.inl hj)).1 rfl).trans h.ev, (h3.block _ e2 fun hj => (h.apart _ (.inl hj)).2 rfl).trans h.res, h.lt, ?_, h.keep.then h3 ?_, ⟨h2.1.trans h.plan.1, h2.2.trans h.plan.2⟩, ?_⟩
  · rintro j (hj | hj | hj)
    · rcases h4 j hj with hj | hj
      · exact h.apart j (.inl hj)
      · omega
    · rw [h2.2] at hj; exact h.apart j (.inr (.inl hj))
    · rw [h2.1] at hj; exact h.apart j (.inr (.inr hj))
  · intro j hj hf
    rcases h.grow j hf with h5 | h5
    · exact h5
    · omega
  · intro j hj
    rcases h4 j hj with hj | hj
    · exact h.grow j hj
    · right; omega
theorem TkMid.ret (h : TkMid TK TL TP w wx kb M0 M k b5 a b c d) {q : Ev × Kst} (hq : q = (⟨a, b, c, d⟩, k)) :
    KTicked TK TL TP w kb M0 q (.returned (.agg #[.int .i64 a, .int .i64 b, .int .i64 c, .int .i64 d])) (put4 wx w.heap.size (.int .i64 a) (.int .i64 b) (.int .i64 c) (.int .i64 d)) ∧
      (put4 wx w.heap.size (.int .i64 a) (.int .i64 b) (.int .i64 c) (.int .i64 d)).heap[w.heap.size]? = some (.cells (evV a b c d) 77 (0, 0)) := by
  subst hq
  refine ⟨⟨M, rfl, h.kat.through (put4_keep _ _ _ _ _ _) fun j hj e => (h.apart j hj).2 e, h.plan, h.keep.then (put4_keep _ _ _ _ _ _) fun j hj e => by omega, h.grow⟩, ?_⟩
  unfold put4
  simp [hp_set, h.res, setObj, evV]
end
theorem below_put4 {B b : Nat} {a w : World} (h : Below B a w) (hb : B ≤ b) (v0 v1 v2 v3 : Value) :
    Below B a ((((w.setCell ⟨b, 0, none⟩ v0).setCell ⟨b, 1, none⟩ v1).setCell ⟨b, 2, none⟩ v2).setCell ⟨b, 3, none⟩ v3) :=
  (((h.setCell hb _).setCell hb _).setCell hb _).setCell hb _
theorem put4_heap {w : World} {b T : Nat} {a0 a1 a2 a3 : Int} (h : w.heap[b]? = some (.cells (evV a0 a1 a2 a3) T (0, 0))) (v0 v1 v2 v3 : Value) : ((((w.setCell ⟨b, 0, none⟩ v0).setCell ⟨b, 1, none⟩ v1).setCell ⟨b, 2, none⟩ v2).setCell ⟨b, 3, none⟩ v3).heap[b]? = some (.cells #[v0, v1, v2, v3] T (0, 0)) := by
  simp [hp_set, h, setObj, evV]
end Go.Proofs.YtnighanlonkjbaaDoor
