/- A kernel beside a log: how each goes on. Conditions: none. -/
import Derived.Test.YtldllmhgofacbaaGreatDoorTopKeptLawL
import Derived.Test.YtldllmhgofacbaaGreatDoorLogCUL
import Derived.Test.YtldllmhgofacbaaGreatDoorSightW
import Derived.Test.YtldllmhgofacbaaGreatDoorRunUL
import Derived.Deep.MidRow
namespace Go.Proofs.YtldllmhgofacbaaGreatDoor
open Go.RowKit
set_option maxRecDepth 100000

section
variable {w0 w w1 : World} {lb : Nat} {m : PM} {L : Lg} {ts : List Tg} {kb : Nat} {p : Pl} {M : KM} {k : Kst}
theorem LgAt.add (h : LgAt w0 w lb m L ts) (hr : KRun w w1 kb p M k) : LgAt w0 w1 lb m L (ts ++ [kTh kb p M k]) := by
  obtain ⟨kb', M', h⟩ := h
  exact ⟨kb', M', h.add hr.below (k_lie hr.kat hr.plan) (fun j hj => hr.fresh j (.inl hj)) (fun j hj => .inl (hr.fresh j hj))⟩
theorem LgAt.drop {t : Tg} (h : LgAt w0 w lb m L (t :: ts)) : LgAt w0 w lb m L ts := by
  obtain ⟨kb', M', h⟩ := h
  exact ⟨kb', M', h.del (us := [_, _, _])⟩
theorem LgAt.boxed (h : LgAt w0 w lb m L ts) (cs : Array Value) (T : Nat) : LgAt w0 (w.alloc (.cells cs T)) lb m L (ts ++ [blkT w.heap.size (.cells cs T (0, 0))]) := by
  obtain ⟨kb', M', h⟩ := h
  exact ⟨kb', M', h.add ((Below.refl _ _).alloc (Nat.le_refl _) _) (blk_lie (heap_alloc_new w _)) (fun j hj => by have : j = w.heap.size := hj; omega) (fun j hj => .inl (by have : j = w.heap.size := hj; omega))⟩
theorem LgAt.wrote {w' : World} {i b : Nat} {o o' : Obj} (h : LgAt w0 w lb m L ts) (hi : ts[i]? = some (blkT b o)) (hk : Keep (fun j => j = b) w w') (hx : w'.heap[b]? = some o') : LgAt w0 w' lb m L (ts.set i (blkT b o')) := by
  obtain ⟨kb', M', h⟩ := h
  have h1 := h.go (i + 3) hi (blk_went (h.get (i := i + 3) hi) hk hx)
  exact ⟨kb', M', h1⟩
theorem LgAt.blk {i b : Nat} {o : Obj} (h : LgAt w0 w lb m L ts) (hi : ts[i]? = some (blkT b o)) : w.heap[b]? = some o := by
  obtain ⟨kb', M', h⟩ := h
  exact (h.get (i := i + 3) hi).here
theorem LgAt.kat (h : LgAt w0 w lb m L (kTh kb p M k :: ts)) : KAt 145 215 147 w kb M k := by
  obtain ⟨kb', N, h⟩ := h
  exact (h.get (i := 3) rfl).here.1
theorem lg_tick {B : Int} (h : LgAt w0 w lb m L (kTh kb p M k :: ts)) (hp : PlOk p) (hk : KOk p k B) (hB : B < 4611686018427387904) :
    Calls Tryz.prog 23 #[.pointer (some ⟨kb, 0, none⟩)] w fun e w' => ∃ M', e = .returned (.agg #[.int .i64 (tick p k).1.tick, .int .i64 (tick p k).1.room, .int .i64 (tick p k).1.pc, .int .i64 (tick p k).1.what]) ∧ LgAt w0 w' lb m L (kTh kb p M' (tick p k).2 :: ts) := by
  obtain ⟨kb', N, h⟩ := h
  have hl := h.get (i := 3) rfl
  exact (ktick_any w kb M k p B hp hl.here.2 hk hB hl.here.1).mono fun e w' ⟨M', h1, h2, h3, h4, h5⟩ => ⟨M', h1, kb', N, h.go 3 rfl (k_went hl h2 h3 h4 h5)⟩
theorem lg_state {B : Int} (h : LgAt w0 w lb m L (kTh kb p M k :: ts)) (hp : PlOk p) (hk : KOk p k B) {r : Nat} {s : St} (hr : k.rooms[r]? = some s) :
    Calls Tryz.prog 58 #[.pointer (some ⟨kb, 0, none⟩), .int .i64 r] w fun e w' => e = .returned (.tuple #[.agg (stV s), .nilIface]) ∧ Below w.heap.size w w' := by
  have h1 := kstate_any (r : Int) (by rw [hk.rooms]; exact hp.most5) h.kat
  have hlt := (List.getElem?_eq_some_iff.1 hr).1
  have h2 : stateOf k (r : Int) = (s, 0) := by
    unfold stateOf inB
    rw [if_pos (decide_eq_true (by omega)), Int.toNat_natCast, List.getD_eq_getElem?_getD, hr]; rfl
  rw [h2] at h1
  refine h1.mono fun e w' h3 => ?_
  unfold StateV at h3
  rw [errV_zero] at h3
  exact h3
theorem lg_time (h : LgAt w0 w lb m L (kTh kb p M k :: ts)) : Calls Tryz.prog 24 #[.pointer (some ⟨kb, 0, none⟩)] w fun e w' => e = .returned (.int .i64 k.time) ∧ w = w' := ktime_any h.kat
end
/-- A state that lies somewhere and is only read. -/
def stInT (b o : Nat) (s : St) : Tg := ⟨fun j => j = b, fun _ => False, fun w => StIn w b o s ∧ b < w.heap.size⟩
theorem stIn_lie {w : World} {b o : Nat} {s : St} (h : StIn w b o s) (hb : b < w.heap.size) : Lie w (stInT b o s) :=
  ⟨⟨h, hb⟩, fun j hj => by have e : j = b := hj; omega, fun _ h => h.elim, fun w' hs hk => by
    have e : w'.heap[b]? = w.heap[b]? := hk b hb rfl
    obtain ⟨h0, h1, h2, h3, h4, h5, h6, h7⟩ := h
    exact ⟨⟨(World.cell?_of_block e).trans h0, (World.cell?_of_block e).trans h1, (World.cell?_of_block e).trans h2, (World.cell?_of_block e).trans h3, (World.cell?_of_block e).trans h4, (World.cell?_of_block e).trans h5, (World.cell?_of_block e).trans h6, (World.cell?_of_block e).trans h7⟩, Nat.lt_of_lt_of_le hb hs⟩⟩
theorem LgAt.read {w0 w w1 : World} {lb : Nat} {m : PM} {L : Lg} {ts : List Tg} {b o : Nat} {s : St} (h : LgAt w0 w lb m L ts) (hb : Below w.heap.size w w1) (hs : StIn w1 b o s) (hl : b < w1.heap.size) (hf : w.heap.size ≤ b) : LgAt w0 w1 lb m L (ts ++ [stInT b o s]) := by
  obtain ⟨kb', M', h⟩ := h
  exact ⟨kb', M', h.add hb (stIn_lie hs hl) (fun _ hj => hj.elim) (fun j hj => .inl (by have e : j = b := hj; omega))⟩
theorem LgAt.there {w0 w : World} {lb : Nat} {m : PM} {L : Lg} {ts : List Tg} {i b o : Nat} {s : St} (h : LgAt w0 w lb m L ts) (hi : ts[i]? = some (stInT b o s)) : StIn w b o s ∧ b < w.heap.size := by
  obtain ⟨kb', M', h⟩ := h
  exact (h.get (i := i + 3) hi).here
/-- A state that is put into a block of its own. -/
theorem box8_blk {w : World} {b : Nat} {v0 v1 v2 v3 v4 v5 v6 v7 u0 u1 u2 u3 u4 u5 u6 u7 : Value} {T : Nat} (h : w.heap[b]? = some (.cells #[v0, v1, v2, v3, v4, v5, v6, v7] T (0, 0))) :
    ((((((((w.setCell ⟨b, 0, none⟩ u0).setCell ⟨b, 1, none⟩ u1).setCell ⟨b, 2, none⟩ u2).setCell ⟨b, 3, none⟩ u3).setCell ⟨b, 4, none⟩ u4).setCell ⟨b, 5, none⟩ u5).setCell ⟨b, 6, none⟩ u6).setCell ⟨b, 7, none⟩ u7).heap[b]? = some (.cells #[u0, u1, u2, u3, u4, u5, u6, u7] T (0, 0)) := by
  have h0 : (w.setCell ⟨b, 0, none⟩ u0).heap[b]? = some (.cells #[u0, v1, v2, v3, v4, v5, v6, v7] T (0, 0)) := (blk_set h 0 u0).trans rfl
  have h1 : ((w.setCell ⟨b, 0, none⟩ u0).setCell ⟨b, 1, none⟩ u1).heap[b]? = some (.cells #[u0, u1, v2, v3, v4, v5, v6, v7] T (0, 0)) := (blk_set h0 1 u1).trans rfl
  have h2 : (((w.setCell ⟨b, 0, none⟩ u0).setCell ⟨b, 1, none⟩ u1).setCell ⟨b, 2, none⟩ u2).heap[b]? = some (.cells #[u0, u1, u2, v3, v4, v5, v6, v7] T (0, 0)) := (blk_set h1 2 u2).trans rfl
  have h3 : ((((w.setCell ⟨b, 0, none⟩ u0).setCell ⟨b, 1, none⟩ u1).setCell ⟨b, 2, none⟩ u2).setCell ⟨b, 3, none⟩ u3).heap[b]? = some (.cells #[u0, u1, u2, u3, v4, v5, v6, v7] T (0, 0)) := (blk_set h2 3 u3).trans rfl
  have h4 : (((((w.setCell ⟨b, 0, none⟩ u0).setCell ⟨b, 1, none⟩ u1).setCell ⟨b, 2, none⟩ u2).setCell ⟨b, 3, none⟩ u3).setCell ⟨b, 4, none⟩ u4).heap[b]? = some (.cells #[u0, u1, u2, u3, u4, v5, v6, v7] T (0, 0)) := (blk_set h3 4 u4).trans rfl
  have h5 : ((((((w.setCell ⟨b, 0, none⟩ u0).setCell ⟨b, 1, none⟩ u1).setCell ⟨b, 2, none⟩ u2).setCell ⟨b, 3, none⟩ u3).setCell ⟨b, 4, none⟩ u4).setCell ⟨b, 5, none⟩ u5).heap[b]? = some (.cells #[u0, u1, u2, u3, u4, u5, v6, v7] T (0, 0)) := (blk_set h4 5 u5).trans rfl
  have h6 : (((((((w.setCell ⟨b, 0, none⟩ u0).setCell ⟨b, 1, none⟩ u1).setCell ⟨b, 2, none⟩ u2).setCell ⟨b, 3, none⟩ u3).setCell ⟨b, 4, none⟩ u4).setCell ⟨b, 5, none⟩ u5).setCell ⟨b, 6, none⟩ u6).heap[b]? = some (.cells #[u0, u1, u2, u3, u4, u5, u6, v7] T (0, 0)) := (blk_set h5 6 u6).trans rfl
  have h7 : ((((((((w.setCell ⟨b, 0, none⟩ u0).setCell ⟨b, 1, none⟩ u1).setCell ⟨b, 2, none⟩ u2).setCell ⟨b, 3, none⟩ u3).setCell ⟨b, 4, none⟩ u4).setCell ⟨b, 5, none⟩ u5).setCell ⟨b, 6, none⟩ u6).setCell ⟨b, 7, none⟩ u7).heap[b]? = some (.cells #[u0, u1, u2, u3, u4, u5, u6, u7] T (0, 0)) := (blk_set h6 7 u7).trans rfl
  exact h7
theorem box8_keep (w : World) (b : Nat) (u0 u1 u2 u3 u4 u5 u6 u7 : Value) :
    Keep (fun j => j = b) w ((((((((w.setCell ⟨b, 0, none⟩ u0).setCell ⟨b, 1, none⟩ u1).setCell ⟨b, 2, none⟩ u2).setCell ⟨b, 3, none⟩ u3).setCell ⟨b, 4, none⟩ u4).setCell ⟨b, 5, none⟩ u5).setCell ⟨b, 6, none⟩ u6).setCell ⟨b, 7, none⟩ u7) :=
  ((((((((Keep.refl (fun j => j = b) w).setCell (.inl rfl) _).setCell (.inl rfl) _).setCell (.inl rfl) _).setCell (.inl rfl) _).setCell (.inl rfl) _).setCell (.inl rfl) _).setCell (.inl rfl) _).setCell (.inl rfl) _
theorem boxs_keep (w : World) (b : Nat) (u0 u1 u2 u3 u4 u5 u6 u7 : Value) : Keep (fun j => j = b) w (w.setCells b 0 [u0, u1, u2, u3, u4, u5, u6, u7]) := box8_keep w b u0 u1 u2 u3 u4 u5 u6 u7
theorem boxs_blk {w : World} {b : Nat} {v0 v1 v2 v3 v4 v5 v6 v7 u0 u1 u2 u3 u4 u5 u6 u7 : Value} {T : Nat} (h : w.heap[b]? = some (.cells #[v0, v1, v2, v3, v4, v5, v6, v7] T (0, 0))) : (w.setCells b 0 [u0, u1, u2, u3, u4, u5, u6, u7]).heap[b]? = some (.cells #[u0, u1, u2, u3, u4, u5, u6, u7] T (0, 0)) := box8_blk h
theorem boxs_there {w : World} {b : Nat} {v0 v1 v2 v3 v4 v5 v6 v7 : Value} {T : Nat} (h : w.heap[b]? = some (.cells #[v0, v1, v2, v3, v4, v5, v6, v7] T (0, 0))) : w.there b 0 8 := fun j hj => by
  refine ⟨?_, blk_free h _⟩
  rw [blk_cell h]
  rcases (show j = 0 ∨ j = 1 ∨ j = 2 ∨ j = 3 ∨ j = 4 ∨ j = 5 ∨ j = 6 ∨ j = 7 by omega) with rfl | rfl | rfl | rfl | rfl | rfl | rfl | rfl <;> rfl
/-- The last of the states that a run tells. -/
def RunLast (w : World) (n : Nat) (s : St) (e : Ending) (w' : World) : Prop :=
  ∃ b off c, e = .returned (.tuple #[.slice (some ⟨b, off, none⟩) (n + 1) c, .nilIface]) ∧ StIn w' b (off + n * 8) s ∧ b < w'.heap.size ∧ w.heap.size ≤ b ∧ n + 1 ≤ c ∧ c ≤ maxLen ∧ Below w.heap.size w w'
theorem SightRun.last {w w' : World} {p : Pl} {r n : Nat} {e : Ending} (h : SightRun w p r n e w') : RunLast w n (stAtT p r n) e w' := by
  obtain ⟨A, c, h1, h2, h3, h4⟩ := h
  have hg : (statesTo p r (n + 1))[n]? = some (stAtT p r n) := statesTo_get p r (n + 1) n (by omega)
  obtain ⟨b, off, cur, rfl, hh, hsz, hi, hnc, hcm, hx⟩ := h2.elem St.cells St.len (by decide) hg
  have hc : ∀ j u, (stAtT p r n).cells[j]? = some u → w'.cell? ⟨b, off + n * 8 + j, none⟩ = some u := fun j u hu => by
    rw [Nat.add_assoc]
    exact (blk_cell hh _).trans (hx j u hu)
  exact ⟨b, off, c, h1, ⟨hc 0 _ rfl, hc 1 _ rfl, hc 2 _ rfl, hc 3 _ rfl, hc 4 _ rfl, hc 5 _ rfl, hc 6 _ rfl, hc 7 _ rfl⟩, blk_lt hh, h3 b rfl, hnc, hcm, h4⟩
end Go.Proofs.YtldllmhgofacbaaGreatDoor
