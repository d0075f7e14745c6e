/- Package frameref1, frameref2: the reference's Tick, NewKernel and Poke, for every kernel that is right. -/
import Derived.Test.YtongkiccglaniaaDoorRTick
import Derived.Test.YtongkiccglaniaaDoorKernPair
import Derived.Test.YtongkiccglaniaaDoorRunU
import Derived.Test.YtongkiccglaniaaDoorRNew
namespace Go.Proofs.YtongkiccglaniaaDoor
open Go.RowKit
set_option maxRecDepth 100000
attribute [local go_sem ↓] Go.wp_at_zero Go.wp_at_succ

theorem rtick_any (w : World) (kb : Nat) (M : KM) (k : Kst) (p : Pl) (B : Int) (hp : PlOk p) (hM : M.P.pl = p) (hk : KOk p k B) (hB : B < 4611686018427387904)
    (hka : KAt 83 85 86 w kb M k) :
    Calls Tryd.prog 35 #[.pointer (some ⟨kb, 0, none⟩)] w (KTicked 83 85 86 w kb M (tick p k)) := by
  have HTB : Hid (∀ w', Below w.heap.size w w' → Calls Tryd.prog 40 #[.pointer (some ⟨kb, 0, none⟩), .slice M.P.sA M.P.spans.length M.P.sc] w' (KTicked 83 85 86 w' kb M (tick p k))) := fun w' hb => by
    have h1 := hka.new hb
    have he : M.P.spans = p.spans := by rw [← hM]; rfl
    have h2 := rtickBy_any w' kb M k p B M.P.sA M.P.sc M.P.spans hp hM hk hB h1 h1.plan.spans h1.plan.spansW (by rw [he]; exact spans_in hp)
    rw [he] at h2 ⊢
    exact h2
  have k2 := hka.cells.2.2.1
  have hkb := hka.cells.2.2.2.2.2.2.2
  have HLT := hid hka.lt
  generalize M.P.spans.length = n at HTB k2
  obtain ⟨⟨ev, k'⟩, hq⟩ : ∃ q, q = tick p k := ⟨_, rfl⟩
  rw [← hq] at HTB ⊢
  obtain ⟨a, b, c, d⟩ := ev
  clear hka hk hp hM hB hq
  go_enter Tryd.func35, Tryd.ntmps35
  go_wp2_with fail
  refine (HTB.out _ ((Below.refl _ _).alloc (Nat.le_refl _) _)).mono ?_
  rintro e w2 ⟨M', rfl, h1, h2, h3, h4⟩
  have hres : w2.heap[w.heap.size]? = some (.cells (evV 0 0 0 0) 34 (0, 0)) := (h3.block _ (by simp) fun hj => by have := HLT.out _ (.inl hj); omega).trans (heap_alloc_new w _)
  have hm : TkMid 83 85 86 w w2 kb M M' k' (w.heap.size + 1) a b c d → True := fun _ => trivial
  have hap : ∀ j, TF kb M' j → j ≠ w.heap.size := by
    rintro j (hj | hj | hj)
    · rcases h4 j hj with h5 | h5
      · have := HLT.out j (.inl h5); omega
      · simp at h5; omega
    · rw [h2.2] at hj; have := HLT.out j (.inr (.inl hj)); omega
    · rw [h2.1] at hj; have := HLT.out j (.inr (.inr hj)); omega
  have hret : KTicked 83 85 86 w kb M (⟨a, b, c, d⟩, k') (.returned (.agg #[.int .i64 a, .int .i64 b, .int .i64 c, .int .i64 d])) (put4 w2 w.heap.size (.int .i64 a) (.int .i64 b) (.int .i64 c) (.int .i64 d)) :=
    ⟨M', rfl, h1.through (put4_keep _ _ _ _ _ _) fun j hj e => hap j hj e, h2, ((Keep.refl _ _).alloc _ |>.then h3 (fun _ _ h => h)).then (put4_keep _ _ _ _ _ _) fun j hj e => by omega, fun j hj => (h4 j hj).imp_right fun h => by simp at h; omega⟩
  have hblk := put4_heap hres (.int .i64 a) (.int .i64 b) (.int .i64 c) (.int .i64 d)
  have HRT := hid hret
  have HBK := hid hblk
  have y0 := blk_cell hres 0
  have y1 := blk_cell hres 1
  have y2 := blk_cell hres 2
  have y3 := blk_cell hres 3
  have yf := fun j => blk_free hres j
  simp [evV] at y0 y1 y2 y3
  clear hres hret hblk h1 h2 h3 h4 hap hm k2
  go_wp2_with fail
  obtain ⟨wz, hwz⟩ : ∃ wz, wz = put4 w2 w.heap.size (.int .i64 a) (.int .i64 b) (.int .i64 c) (.int .i64 d) := ⟨_, rfl⟩
  have hret := HRT.out
  have hblk := HBK.out
  rw [← hwz] at hret
  unfold put4 at hwz
  rw [← hwz] at hblk ⊢
  have z0 := blk_cell hblk 0
  have z1 := blk_cell hblk 1
  have z2 := blk_cell hblk 2
  have z3 := blk_cell hblk 3
  simp at z0 z1 z2 z3
  exact bodyPost_ret (v := .agg #[.int .i64 a, .int .i64 b, .int .i64 c, .int .i64 d]) (by simp [results, Tryd.results35, go_sem, z0, z1, z2, z3]) rfl hret

/-- A kernel of the reference that runs: its plan may lie in older memory. -/
structure RRun (w wr : World) (kb : Nat) (p : Pl) (M : KM) (k : Kst) : Prop where
  kat : KAt 83 85 86 wr kb M k
  plan : M.P.pl = p
  fresh : ∀ j, KF kb M j ∨ InA M.lA j → w.heap.size ≤ j
  below : Below w.heap.size w wr
/-- What a tick leaves. -/
def RGo (w wr : World) (kb : Nat) (p : Pl) (M : KM) (q : Ev × Kst) (e : Ending) (w3 : World) : Prop :=
  ∃ M', e = .returned (.agg #[.int .i64 q.1.tick, .int .i64 q.1.room, .int .i64 q.1.pc, .int .i64 q.1.what]) ∧ RRun w w3 kb p M' q.2 ∧ Keep (KF kb M) wr w3 ∧ (∀ j, TF kb M' j → TF kb M j ∨ wr.heap.size ≤ j) ∧ M'.P = M.P
section
variable {w wr w3 : World} {kb : Nat} {p : Pl} {M M' : KM} {k k' : Kst}
theorem RRun.new (h : RRun w wr kb p M k) (hb : Below wr.heap.size wr w3) : RRun w w3 kb p M k := ⟨h.kat.new hb, h.plan, h.fresh, h.below.trans (hb.mono h.below.size)⟩
theorem RRun.ticked (h : RRun w wr kb p M k) (h1 : KAt 83 85 86 w3 kb M' k') (h2 : M'.P = M.P ∧ M'.lA = M.lA) (h3 : Keep (KF kb M) wr w3) (h4 : ∀ j, KF kb M' j → KF kb M j ∨ wr.heap.size ≤ j) : RRun w w3 kb p M' k' := by
  have s1 := h.below.size
  refine ⟨h1, by rw [h2.1]; exact h.plan, fun j hj => ?_, Keep.below (F := NoF) ((Keep.of_below NoF h.below).then h3 fun j hj hk => by have := h.fresh j (.inl hk); omega) (Nat.le_refl _) (fun j h => h.elim)⟩
  rcases hj with hj | hj
  · rcases h4 j hj with h5 | h5
    · exact h.fresh j (.inl h5)
    · omega
  · rw [h2.2] at hj; exact h.fresh j (.inr hj)
theorem RRun.base {w0 : World} (h : RRun w wr kb p M k) (hb : Below w0.heap.size w0 w) : RRun w0 wr kb p M k :=
  ⟨h.kat, h.plan, fun j hj => Nat.le_trans hb.size (h.fresh j hj), hb.trans (h.below.mono hb.size)⟩
theorem rtick_run (h : RRun w wr kb p M k) {B : Int} (hp : PlOk p) (hk : KOk p k B) (hB : B < 4611686018427387904) : Calls Tryd.prog 35 #[.pointer (some ⟨kb, 0, none⟩)] wr (RGo w wr kb p M (tick p k)) :=
  (rtick_any wr kb M k p B hp h.plan hk hB h.kat).mono fun _ _ ⟨M', h1, h2, h3, h4, h5⟩ => ⟨M', h1, h.ticked h2 h3 h4 h5, h4, by
    rintro j (hj | hj | hj)
    · exact (h5 j hj).imp_left .inl
    · rw [h3.2] at hj; exact .inl (.inr (.inl hj))
    · rw [h3.1] at hj; exact .inl (.inr (.inr hj)), h3.1⟩
/-- A new one. -/
def RNewd (w : World) (m : PM) (e : Ending) (w' : World) : Prop := ∃ kb M, e = .returned (.pointer (some ⟨kb, 0, none⟩)) ∧ RRun w w' kb m.pl M (kNew m.pl) ∧ M.P = m
theorem rnew_run (w : World) (m : PM) (hm : PlanAt w m) (he : planChk m.pl = 0) :
    Calls Tryd.prog 34 #[.agg #[.slice m.A m.ros.length m.c, .int .i64 m.ticks, .slice m.sA m.spans.length m.sc, .slice m.wA m.wires.length m.wc]] w (RNewd w m) :=
  (rnew_any w m hm he).mono fun _ _ ⟨kb, M, h1, h2, h3, h4, h5⟩ => ⟨kb, M, h1, ⟨h2, by rw [h3], h4, h5⟩, h3⟩
end
/-- The program's kernel and the reference's, apart. -/
structure RPair (w wr : World) (kb : Nat) (p : Pl) (M : KM) (k : Kst) (mb : Nat) (N : KM) (m : Kst) : Prop where
  a : KRun w wr kb p M k
  b : RRun w wr mb p N m
  old : ∀ j, planF N.P j → j < w.heap.size
  apart : ∀ j, TF kb M j → ¬ TF mb N j
section
variable {w wr w3 : World} {kb mb : Nat} {p : Pl} {M M' N N' : KM} {k k' m m' : Kst}
theorem RPair.new (h : RPair w wr kb p M k mb N m) (hb : Below wr.heap.size wr w3) : RPair w w3 kb p M k mb N m := ⟨h.a.new hb, h.b.new hb, h.old, h.apart⟩
theorem RPair.goA (h : RPair w wr kb p M k mb N m) (h1 : KRun w w3 kb p M' k') (h3 : Keep (KF kb M) wr w3) (h4 : ∀ j, TF kb M' j → TF kb M j ∨ wr.heap.size ≤ j) : RPair w w3 kb p M' k' mb N m := by
  have hlt := h.b.kat.lt
  refine ⟨h1, ⟨h.b.kat.through h3 fun j hj hf => h.apart j (.inl hf) hj, h.b.plan, h.b.fresh, h1.below⟩, h.old, fun j hj hn => ?_⟩
  rcases h4 j hj with h5 | h5
  · exact h.apart j h5 hn
  · have := hlt j hn; omega
theorem RPair.goB (h : RPair w wr kb p M k mb N m) (h1 : RRun w w3 mb p N' m') (h3 : Keep (KF mb N) wr w3) (h4 : ∀ j, TF mb N' j → TF mb N j ∨ wr.heap.size ≤ j) (h5 : N'.P = N.P) : RPair w w3 kb p M k mb N' m' := by
  have hlt := h.a.kat.lt
  refine ⟨⟨h.a.kat.through h3 fun j hj hf => h.apart j hj (.inl hf), h.a.plan, h.a.fresh, h1.below⟩, h1, by rw [h5]; exact h.old, fun j hj hn => ?_⟩
  rcases h4 j hn with h6 | h6
  · exact h.apart j hj h6
  · have := hlt j hj; omega
/-- The reference's is made beside the program's. -/
theorem RPair.mk' {m0 : PM} (h : KRun w wr kb p M k) (hb : RRun wr w3 mb p N m) (hP : N.P = m0) (hold : PlanAt w m0) : RPair w w3 kb p M k mb N m := by
  have hlt := h.kat.lt
  have holt := hold.lt
  refine ⟨h.new hb.below, hb.base h.below, by rw [hP]; exact holt, fun j h1 h2 => ?_⟩
  have h3 := hlt j h1
  rcases h2 with h2 | h2 | h2
  · have := hb.fresh j (.inl h2); omega
  · have := hb.fresh j (.inr h2); omega
  · rw [hP] at h2; have := holt j h2; have := h.fresh j h1; omega
theorem RPair.pokedA (h : RPair w wr kb p M k mb N m) (h1 : KAt 152 201 145 w3 kb M k') (h3 : Keep (KF kb M) wr w3) : RPair w w3 kb p M k' mb N m :=
  h.goA (h.a.ticked h1 ⟨rfl, rfl⟩ h3 fun _ hj => .inl hj) h3 fun _ hj => .inl hj
theorem RPair.pokedB (h : RPair w wr kb p M k mb N m) (h1 : KAt 83 85 86 w3 mb N m') (h3 : Keep (KF mb N) wr w3) : RPair w w3 kb p M k mb N m' :=
  h.goB (h.b.ticked h1 ⟨rfl, rfl⟩ h3 fun _ hj => .inl hj) h3 (fun _ hj => .inl hj) rfl
end
section
variable {kb : Nat} {w : World} {M : KM} {k : Kst}
def RPoked (w : World) (kb : Nat) (M : KM) (k' : Kst) (e : Ending) (w' : World) : Prop := e = .returned (.int .i64 0) ∧ KAt 83 85 86 w' kb M k' ∧ Keep (KF kb M) w w' ∧ w'.heap.size = w.heap.size
theorem rpoke_bad (r c v : Int) (_hn : k.rooms.length ≤ 5) (hka : KAt 83 85 86 w kb M k) (hb : pokeOk k.rooms.length r c v = false) :
    Calls Tryd.prog 53 #[.pointer (some ⟨kb, 0, none⟩), .int .i64 r, .int .i64 c, .int .i64 v] w fun e w' => e = .returned (.int .i64 1) ∧ w = w' := by
  obtain ⟨k0, k1, k2, k4, k5, k6, kf, hkb⟩ := hka.cells
  have hbad : ¬ (0 ≤ r ∧ r < k.rooms.length ∧ 0 ≤ c ∧ c < 6 ∧ 0 ≤ v ∧ v < 1000) := by simpa [pokeOk] using hb
  generalize k.rooms.length = n at _hn k4 hbad
  have hcv : r < 0 ∨ (n : Int) ≤ r ∧ 0 ≤ r ∨ c < 0 ∧ 0 ≤ r ∧ r < n ∨ 6 ≤ c ∧ 0 ≤ c ∧ 0 ≤ r ∧ r < n ∨ v < 0 ∧ 0 ≤ c ∧ c < 6 ∧ 0 ≤ r ∧ r < n ∨ 1000 ≤ v ∧ 0 ≤ v ∧ 0 ≤ c ∧ c < 6 ∧ 0 ≤ r ∧ r < n := by omega
  clear hb hbad k0 k1 k2 k5 k6 kf hka
  rcases hcv with h | ⟨h, h0⟩ | ⟨h, h0, h1⟩ | ⟨h, h0, h1, h2⟩ | ⟨h, h0, h1, h2, h3⟩ | ⟨h, h0, h1, h2, h3, h4⟩
  all_goals
    go_enter Tryd.func53, Tryd.ntmps53
    go_wp2_with fail
    go_ret
    exact ⟨rfl, rfl⟩
theorem rpoke_ok (r c v : Int) (_hn : k.rooms.length ≤ 5) (hka : KAt 83 85 86 w kb M k) (hb : pokeOk k.rooms.length r c v = true) :
    Calls Tryd.prog 53 #[.pointer (some ⟨kb, 0, none⟩), .int .i64 r, .int .i64 c, .int .i64 v] w (RPoked w kb M (pokeK k r c v)) := by
  obtain ⟨k0, k1, k2, k4, k5, k6, kf, hkb⟩ := hka.cells
  have hok : 0 ≤ r ∧ r < k.rooms.length ∧ 0 ≤ c ∧ c < 6 ∧ 0 ≤ v ∧ v < 1000 := by simpa [pokeOk] using hb
  obtain ⟨h0, h1, h2, h3, h4, h5⟩ := hok
  obtain ⟨R, rfl⟩ : ∃ R : Nat, r = R := ⟨r.toNat, by omega⟩
  obtain ⟨C, rfl⟩ : ∃ C : Nat, c = C := ⟨c.toNat, by omega⟩
  have hg : k.rooms[R]? = some (k.rooms.getD R St.zero) := by
    rw [List.getD_eq_getElem?_getD, List.getElem?_eq_getElem (by omega)]; rfl
  have hC : C < 6 := by omega
  unfold pokeK
  rw [Int.toNat_natCast, Int.toNat_natCast]
  generalize k.rooms.getD R St.zero = s at hg ⊢
  obtain ⟨rb, roff, hrA, hst, hrf, hrb, hrkb, hrl, hrc, hrm⟩ := hka.room hg
  have hput := hka.pokeRoom hrA hg hC v
  have hkeep : Keep (KF kb M) w (w.setCell ⟨rb, roff + R * 8 + 1 + C, none⟩ (.int .i64 v)) := (Keep.refl _ _).setCell (.inl (.inr (.inl (by rw [hrA]; rfl)))) _
  have HPUT := hid hput
  have HKEEP := hid hkeep
  have hold : ∃ u, w.cell? ⟨rb, roff + R * 8 + 1 + C, none⟩ = some u := by
    obtain ⟨s0, s1, s2, s3, s4, s5, s6, s7⟩ := hst
    rcases six hC with rfl | rfl | rfl | rfl | rfl | rfl
    · exact ⟨_, s1⟩
    · exact ⟨_, s2⟩
    · exact ⟨_, s3⟩
    · exact ⟨_, s4⟩
    · exact ⟨_, s5⟩
    · exact ⟨_, s6⟩
  obtain ⟨u, hu⟩ := hold
  have hfz := hrf (roff + R * 8 + 1 + C)
  rw [hrA] at k4
  generalize k.rooms.length = n at k4 _hn hrl hrc h1
  unfold maxLen at hrm
  clear hput hkeep hst hrf hg hb k0 k1 k2 k5 k6 kf hka hrA
  go_enter Tryd.func53, Tryd.ntmps53
  go_wp2_with fail
  go_ret
  exact ⟨rfl, HPUT.out, HKEEP.out, sz_set _ _ _⟩
end
end Go.Proofs.YtongkiccglaniaaDoor
