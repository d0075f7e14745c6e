/- Several parts: each begins with what it says. -/
import Derived.Test.YthdmgighblhmhaaGreatDoorTickU
import Derived.Test.YthdmgighblhmhaaGreatDoorSameU
import Derived.Test.YthdmgighblhmhaaGreatDoorKernNew
import Derived.Test.YthdmgighblhmhaaGreatDoorGetU
import Derived.Test.YthdmgighblhmhaaGreatDoorKLawU
import Derived.Test.YthdmgighblhmhaaGreatDoorKernU
/- Rows that grow by appending, lists of what is held, and a kernel that runs on: what stays of each. -/
namespace Go.Proofs.YthdmgighblhmhaaGreatDoor
open Go.RowKit
set_option maxRecDepth 100000

/-- A row in new memory, and nothing old has changed. -/
structure Grow (w wr : World) (e sz : Nat) (A : Option Addr) (n c : Nat) (xs : List Value) : Prop where
  row : Row wr e sz A n c xs
  fresh : ∀ j, InA A j → w.heap.size ≤ j
  below : Below w.heap.size w wr
section
variable {w wr w3 w4 : World} {e sz n c c' : Nat} {A A' : Option Addr} {xs news : List Value}
theorem Grow.nil (h : Below w.heap.size w wr) : Grow w wr e sz none 0 0 [] := ⟨Row.nil _ _ _, fun j hj => by simp [InA] at hj, h⟩
theorem Grow.more (h : Grow w wr e sz A n c xs) (h3 : Below wr.heap.size wr w3) (hr : Row w4 e sz A' (n + 1) c' (xs ++ news)) (hk : Keep (InA A) w3 w4) (hn : ∀ j, InA A' j → InA A j ∨ w3.heap.size ≤ j) : Grow w w4 e sz A' (n + 1) c' (xs ++ news) := by
  have s1 := h.below.size
  have s3 := h3.size
  refine ⟨hr, fun j hj => ?_, Keep.below (F := NoF) ((Keep.of_below NoF (h.below.trans (h3.mono s1))).then hk fun j hj hA => by have := h.fresh j hA; omega) (Nat.le_refl _) (fun j h => h.elim)⟩
  rcases hn j hj with h5 | h5
  · exact h.fresh j h5
  · omega
theorem Grow.new (h : Grow w wr e sz A n c xs) (hb : Below wr.heap.size wr w3) : Grow w w3 e sz A n c xs := ⟨h.row.new hb, h.fresh, h.below.trans (hb.mono h.below.size)⟩
end

/-- What is held, one behind the other, in new memory. -/
structure Helds (w wr : World) (A : Option Addr) (n c : Nat) (hs : List Hm) : Prop where
  grow : Grow w wr 65 2 A n c (hs.flatMap Hm.cells)
  each : ∀ h ∈ hs, Row wr 3 1 h.A h.items.length h.c (ints h.items) ∧ h.items.length ≤ 6 ∧ ∀ j, InA h.A j → w.heap.size ≤ j
theorem held_one (h : Hm) : ∀ u ∈ h.cells, u.oneCell' = true := by
  intro u hu
  simp [Hm.cells] at hu
  rcases hu with rfl | rfl <;> rfl
section
variable {w wr w2 w3 w4 : World} {n c c' : Nat} {A A' : Option Addr} {hs : List Hm} {h1 : Hm}
theorem Helds.nil (h : Below w.heap.size w wr) : Helds w wr none 0 0 [] := ⟨Grow.nil h, fun h hh => by simp at hh⟩
theorem Helds.more (h : Helds w wr A n c hs) (h2 : Below wr.heap.size wr w2) (hx : Row w2 3 1 h1.A h1.items.length h1.c (ints h1.items)) (h6 : h1.items.length ≤ 6) (hf : ∀ j, InA h1.A j → wr.heap.size ≤ j) (h3 : Below w2.heap.size w2 w3)
    (hr : Row w4 65 2 A' (n + 1) c' (hs.flatMap Hm.cells ++ h1.cells)) (hk : Keep (InA A) w3 w4) (hn : ∀ j, InA A' j → InA A j ∨ w3.heap.size ≤ j) : Helds w w4 A' (n + 1) c' (hs ++ [h1]) := by
  have s1 := h.grow.below.size
  have s2 := h2.size
  have s3 := h3.size
  have h23 : Below wr.heap.size wr w3 := h2.trans (h3.mono s2)
  have hrow3 : Row w3 65 2 A n c (hs.flatMap Hm.cells) := h.grow.row.new h23
  have keep : ∀ g : Hm, Row w3 3 1 g.A g.items.length g.c (ints g.items) → Row w4 3 1 g.A g.items.length g.c (ints g.items) := fun g hg => hg.through hk (hg.apart2 hrow3 (by decide))
  refine ⟨?_, fun g hg => ?_⟩
  · have := h.grow.more h23 hr hk hn
    simpa using this
  · rcases List.mem_append.1 hg with hg | hg
    · obtain ⟨a, b, c⟩ := h.each g hg
      exact ⟨keep g (a.new h23), b, c⟩
    · simp at hg; subst hg
      exact ⟨keep g (hx.new h3), h6, fun j hj => by have := hf j hj; omega⟩
theorem Helds.new (h : Helds w wr A n c hs) (hb : Below wr.heap.size wr w3) : Helds w w3 A n c hs := ⟨h.grow.new hb, fun g hg => ⟨(h.each g hg).1.new hb, (h.each g hg).2⟩⟩
end
/-- What is held, as it is read later. -/
structure HeldsIn (wr : World) (A : Option Addr) (n c : Nat) (hs : List Hm) : Prop where
  row : Row wr 65 2 A n c (hs.flatMap Hm.cells)
  each : ∀ h ∈ hs, Row wr 3 1 h.A h.items.length h.c (ints h.items) ∧ h.items.length ≤ 6
theorem Helds.through {w wr w3 : World} {n c : Nat} {A : Option Addr} {hs : List Hm} (h : Helds w wr A n c hs) {F : Nat → Prop} (hk : Keep F wr w3) (hF : ∀ j, F j → j < w.heap.size) : HeldsIn w3 A n c hs :=
  ⟨h.grow.row.through hk fun j hj hf => by have := h.grow.fresh j hj; have := hF j hf; omega, fun g hg => by
    obtain ⟨a, b, c⟩ := h.each g hg
    exact ⟨a.through hk fun j hj hf => by have := c j hj; have := hF j hf; omega, b⟩⟩
theorem HeldsIn.new {wr w3 : World} {n c : Nat} {A : Option Addr} {hs : List Hm} (h : HeldsIn wr A n c hs) (hb : Below wr.heap.size wr w3) : HeldsIn w3 A n c hs := ⟨h.row.new hb, fun g hg => ⟨(h.each g hg).1.new hb, (h.each g hg).2⟩⟩
/-- One of what is held. -/
theorem HeldsIn.get {wr : World} {n c : Nat} {A : Option Addr} {hs : List Hm} (h : HeldsIn wr A n c hs) {i : Nat} {g : Hm} (hg : hs[i]? = some g) :
    ∃ b off, A = some ⟨b, off, none⟩ ∧ b < wr.heap.size ∧ wr.cell? ⟨b, off + i * 2, none⟩ = some (.slice g.A g.items.length g.c) ∧ wr.cell? ⟨b, off + i * 2 + 1, none⟩ = some (.int .i64 g.lost) ∧ HmAt wr g := by
  obtain ⟨b, off, cur, hA, hh, hsz, hi, hnc, hcm, hx⟩ := h.row.elem Hm.cells Hm.len (by decide) hg
  obtain ⟨a, b6⟩ := h.each g (List.mem_of_getElem? hg)
  exact ⟨b, off, hA, blk_lt hh, (blk_cell hh _).trans (hx 0 _ rfl), (by rw [Nat.add_assoc]; exact (blk_cell hh _).trans (hx 1 _ rfl)), ⟨a.sl, a.le.1, by omega⟩⟩

/-- A kernel that runs, all of it in new memory. -/
structure KRun (w wr : World) (kb : Nat) (p : Pl) (M : KM) (k : Kst) : Prop where
  kat : KAt 88 120 90 wr kb M k
  plan : M.P.pl = p
  fresh : ∀ j, TF kb M j → w.heap.size ≤ j
  below : Below w.heap.size w wr
section
variable {w wr w3 : World} {kb : Nat} {p : Pl} {M M' : KM} {k k' : Kst}
theorem KRun.new (h : KRun w wr kb p M k) (hb : Below wr.heap.size wr w3) : KRun w w3 kb p M k := ⟨h.kat.new hb, h.plan, h.fresh, h.below.trans (hb.mono h.below.size)⟩
theorem KRun.ticked (h : KRun w wr kb p M k) (h1 : KAt 88 120 90 w3 kb M' k') (h2 : M'.P = M.P ∧ M'.lA = M.lA) (h3 : Keep (KF kb M) wr w3) (h4 : ∀ j, KF kb M' j → KF kb M j ∨ wr.heap.size ≤ j) : KRun w w3 kb p M' k' := by
  have s1 := h.below.size
  refine ⟨h1, by rw [h2.1]; exact h.plan, fun j hj => ?_, Keep.below (F := NoF) ((Keep.of_below NoF h.below).then h3 fun j hj hk => by have := h.fresh j (.inl hk); omega) (Nat.le_refl _) (fun j h => h.elim)⟩
  rcases hj with hj | hj | hj
  · rcases h4 j hj with h5 | h5
    · exact h.fresh j (.inl h5)
    · omega
  · rw [h2.2] at hj; exact h.fresh j (.inr (.inl hj))
  · rw [h2.1] at hj; exact h.fresh j (.inr (.inr hj))
/-- What such a tick leaves, for one who does not look into memory. -/
theorem KRun.back (h : KRun w wr kb p M k) {w0 : World} (hb : Below w0.heap.size w0 w) : Below w0.heap.size w0 wr := hb.trans (h.below.mono hb.size)
end
end Go.Proofs.YthdmgighblhmhaaGreatDoor

/- Package kernel: New, Tick, State, Wire, Time of a kernel that runs in new memory; and what a plan that is right says of its kernel. -/
namespace Go.Proofs.YthdmgighblhmhaaGreatDoor
open Go.RowKit
set_option maxRecDepth 100000

def KNew (w : World) (p : Pl) (e : Ending) (w' : World) : Prop := ∃ kb M, e = .returned (.tuple #[.pointer (some ⟨kb, 0, none⟩), .nilIface]) ∧ KRun w w' kb p M (kNew p)
theorem new_run (w : World) (m : PM) (hf : Forms w) (hm : PlanAt w m) (he : planChk m.pl = 0) :
    Calls Tryz.prog 12 #[.agg #[.slice m.A m.ros.length m.c, .int .i64 m.ticks, .slice m.sA m.spans.length m.sc, .slice m.wA m.wires.length m.wc]] w (KNew w m.pl) :=
  (kern_new_ok w m hf hm he).mono fun _ _ ⟨kb, M, h1, h2, h3, h4, h5⟩ => ⟨kb, M, h1, h2, h3, h4, h5⟩

/-- What a tick leaves. -/
def KGo (w wr : World) (kb : Nat) (p : Pl) (M : KM) (q : Ev × Kst) (e : Ending) (w3 : World) : Prop :=
  ∃ M', e = .returned (.agg #[.int .i64 q.1.tick, .int .i64 q.1.room, .int .i64 q.1.pc, .int .i64 q.1.what]) ∧ KRun w w3 kb p M' q.2 ∧ Keep (KF kb M) wr w3 ∧ ∀ j, TF kb M' j → TF kb M j ∨ wr.heap.size ≤ j
section
variable {w wr : World} {kb : Nat} {p : Pl} {M : KM} {k : Kst}
theorem tick_run (h : KRun w wr kb p M k) {B : Int} (hp : PlOk p) (hk : KOk p k B) (hB : B < 4611686018427387904) : Calls Tryz.prog 58 #[.pointer (some ⟨kb, 0, none⟩)] wr (KGo w wr kb p M (tick p k)) :=
  (ktick_any wr kb M k p B hp h.plan hk hB h.kat).mono fun _ _ ⟨M', h1, h2, h3, h4, h5⟩ => ⟨M', h1, h.ticked h2 h3 h4 h5, h4, by
    rintro j (hj | hj | hj)
    · exact (h5 j hj).imp_left .inl
    · rw [h3.2] at hj; exact .inl (.inr (.inl hj))
    · rw [h3.1] at hj; exact .inl (.inr (.inr hj))⟩
theorem state_run (h : KRun w wr kb p M k) {B : Int} (hp : PlOk p) (hk : KOk p k B) {r : Nat} {s : St} (hr : k.rooms[r]? = some s) :
    Calls Tryz.prog 82 #[.pointer (some ⟨kb, 0, none⟩), .int .i64 r] wr fun e w' => e = .returned (.tuple #[.agg (stV s), .nilIface]) ∧ Below wr.heap.size wr w' := by
  have h1 := kstate_any (r : Int) (by rw [hk.rooms]; exact hp.most5) h.kat
  have hlt := (List.getElem?_eq_some_iff.1 hr).1
  have h2 : stateOf k (r : Int) = (s, 0) := by
    unfold stateOf inB
    rw [if_pos (decide_eq_true (by omega)), Int.toNat_natCast, List.getD_eq_getElem?_getD, hr]; rfl
  rw [h2] at h1
  refine h1.mono fun e w' h3 => ?_
  unfold StateV at h3
  rw [errV_zero] at h3
  exact h3
theorem wires_few {p : Pl} (hp : PlOk p) : p.wires.length ≤ 12 := by
  have h := hp.flow
  unfold flowChk at h
  split at h
  · simp at h
  · omega
theorem lines_len {B : Int} (hk : KOk p k B) : k.lines.length = p.wires.length := by rw [← hk.lines, List.length_map]
theorem wire_run (h : KRun w wr kb p M k) {B : Int} (hp : PlOk p) (hk : KOk p k B) {i : Nat} {x : Ln} (hx : k.lines[i]? = some x) :
    Calls Tryz.prog 84 #[.pointer (some ⟨kb, 0, none⟩), .int .i64 i] wr (WireV wr x.items x.lost 0) := by
  have h1 := kwire_any (i : Int) p B hk (by rw [lines_len hk]; exact wires_few hp) h.kat
  have hlt := (List.getElem?_eq_some_iff.1 hx).1
  have h2 : wireOf k (i : Int) = ((x.items, x.lost), 0) := by
    unfold wireOf inB
    rw [if_pos (decide_eq_true (by omega)), Int.toNat_natCast, List.getD_eq_getElem?_getD, hx]; rfl
  rw [h2] at h1
  exact h1
end
theorem tick_room_time (p : Pl) (hp : PlOk p) (k : Kst) {B : Int} (hk : KOk p k B) : (tick p k).2.time = k.time + 1 := by
  rcases tick_meets hp hk (spans_ok hp) with h0 | ⟨r, ops, s, o, h0, hc, hs, ho⟩
  · unfold tick; rw [tick_none h0]
  · unfold tick; rw [tick_room h0 hc hs ho]
theorem runK_time (p : Pl) (hp : PlOk p) : ∀ t : Nat, (runK p t).time = t
  | 0 => rfl
  | t + 1 => by
    have h := (tick_room_time p hp (runK p t) (runK_ok hp t))
    show (tick p (runK p t)).2.time = _
    rw [h, runK_time p hp t]; rfl
end Go.Proofs.YthdmgighblhmhaaGreatDoor

/- Package kernel: the contract of Poke, for every kernel that is right; and the reference's. -/
namespace Go.Proofs.YthdmgighblhmhaaGreatDoor
open Go.RowKit
set_option maxRecDepth 100000
attribute [local go_sem ↓] Go.wp_at_zero Go.wp_at_succ

theorem put_cells (s : St) {c : Nat} (hc : c < 6) (v : Int) : (s.put c v).cells = s.cells.set (1 + c) (.int .i64 v) := by
  rcases six hc with rfl | rfl | rfl | rfl | rfl | rfl <;> rfl
section
variable {TK TL TP kb : Nat} {w : World} {M : KM} {k : Kst}
/-- A room's cell is put. -/
theorem KAt.pokeRoom (h : KAt TK TL TP w kb M k) {r rb roff : Nat} (hA : M.rA = some ⟨rb, roff, none⟩) {s : St} (hr : k.rooms[r]? = some s) {c : Nat} (hc : c < 6) (v : Int) :
    KAt TK TL TP (w.setCell ⟨rb, roff + r * 8 + 1 + c, none⟩ (.int .i64 v)) kb M ⟨k.rooms.set r (s.put c v), k.lines, k.time⟩ := by
  obtain ⟨own, o0, o1, o2, o3, o4⟩ := h.own
  have orb : own rb = 1 := o1 rb (by rw [hA]; rfl)
  have far : ∀ j, own j ≠ 1 → (w.setCell ⟨rb, roff + r * 8 + 1 + c, none⟩ (.int .i64 v)).heap[j]? = w.heap[j]? := fun j hj => blk_far (p := ⟨rb, roff + r * 8 + 1 + c, none⟩) (by rintro rfl; exact hj orb) _
  obtain ⟨b, off, cur, hA2, hh, hsz, hi, hnc, hcm, hx⟩ := h.rooms.elem St.cells St.len (by decide) hr
  rw [hA] at hA2
  cases hA2
  have h8 : (r + 1) * 8 ≤ M.rc * 8 := Nat.mul_le_mul_right _ (by omega)
  have hrow : Row (w.setCell ⟨rb, roff + r * 8 + 1 + c, none⟩ (.int .i64 v)) 81 8 M.rA k.rooms.length M.rc ((k.rooms.set r (s.put c v)).flatMap St.cells) := by
    refine h.rooms.put St.cells St.len (by decide) (i := r) hA (s.put c v) cur (cur.setIfInBounds (roff + r * 8 + 1 + c) (.int .i64 v)) hh (blk_set hh _ _) (by simp) (fun j hj => ?_) (fun j u hu => ?_)
    · rw [Array.getElem?_setIfInBounds_ne (by omega)]
    · rw [put_cells s hc v, List.getElem?_set] at hu
      by_cases e : 1 + c = j
      · subst e
        rw [if_pos rfl, if_pos (by rw [St.len]; omega)] at hu
        rw [show roff + r * 8 + (1 + c) = roff + r * 8 + 1 + c by omega, Array.getElem?_setIfInBounds_self, if_pos (by omega)]
        exact hu
      · rw [if_neg e] at hu
        rw [Array.getElem?_setIfInBounds_ne (by omega), Nat.add_assoc]
        exact hx j u hu
  exact { blk := by rw [far kb (by rw [o0]; decide), h.blk, List.length_set]
          plan := h.plan.keep (by rw [sz_set]; exact Nat.le_refl _) fun j _ hj => far j (by rw [o3 j hj]; decide)
          rooms := by rw [List.length_set]; exact hrow
          ptrs := h.ptrs.keep fun j hj _ => far j (by rw [o2 j hj]; decide)
          many := h.many
          lines := fun i x a hx ha => (h.lines i x a hx ha).keep fun j hj _ => far j (by rw [o4 i a ha j hj]; omega)
          own := h.own }
end
/-- May a cell be poked? -/
def pokeOk (n : Nat) (r c v : Int) : Bool := decide (0 ≤ r ∧ r < n ∧ 0 ≤ c ∧ c < 6 ∧ 0 ≤ v ∧ v < 1000)
def pokeK (k : Kst) (r c v : Int) : Kst := ⟨k.rooms.set r.toNat ((k.rooms.getD r.toNat St.zero).put c.toNat v), k.lines, k.time⟩
def KPoked (TK TL TP : Nat) (w : World) (kb : Nat) (M : KM) (k' : Kst) (v : Value) (e : Ending) (w' : World) : Prop := e = .returned v ∧ KAt TK TL TP w' kb M k' ∧ Keep (KF kb M) w w' ∧ w'.heap.size = w.heap.size
section
variable {kb : Nat} {w : World} {M : KM} {k : Kst}
theorem kpoke_bad (r c v : Int) (hn : k.rooms.length ≤ 5) (hka : KAt 88 120 90 w kb M k) (hb : pokeOk k.rooms.length r c v = false) :
    Calls Tryz.prog 61 #[.pointer (some ⟨kb, 0, none⟩), .int .i64 r, .int .i64 c, .int .i64 v] w fun e w' => e = .returned (errV 1) ∧ w = w' := by
  obtain ⟨k0, k1, k2, k4, k5, k6, kf, hkb⟩ := hka.cells
  have hhas := khas_any kb M.rA k.rooms.length M.rc r w k4 (by omega)
  have hbad : ¬ (0 ≤ r ∧ r < k.rooms.length ∧ 0 ≤ c ∧ c < 6 ∧ 0 ≤ v ∧ v < 1000) := by simpa [pokeOk] using hb
  rw [errV_pos (by decide)]
  by_cases hin : 0 ≤ r ∧ r < k.rooms.length
  · rw [show inB r k.rooms.length = true from decide_eq_true hin] at hhas
    have HHAS := hid hhas
    have hcv : c < 0 ∨ 6 ≤ c ∧ 0 ≤ c ∨ v < 0 ∧ 0 ≤ c ∧ c < 6 ∨ 1000 ≤ v ∧ 0 ≤ v ∧ 0 ≤ c ∧ c < 6 := by omega
    clear hhas hbad hin hb k0 k1 k2 k4 k5 k6 kf hkb hka hn
    rcases hcv with h | ⟨h, h1⟩ | ⟨h, h1, h2⟩ | ⟨h, h1, h2, h3⟩
    all_goals
      go_enter Tryz.func61, Tryz.ntmps61
      go_wp2_with (go_at_call 85; refine (HHAS.out).mono ?_; rintro e w1 ⟨rfl, rfl⟩)
      go_ret
      exact ⟨rfl, rfl⟩
  · rw [show inB r k.rooms.length = false from decide_eq_false hin] at hhas
    have HHAS := hid hhas
    clear hhas hbad hin hb k0 k1 k2 k4 k5 k6 kf hkb hka hn
    go_enter Tryz.func61, Tryz.ntmps61
    go_wp2_with (go_at_call 85; refine (HHAS.out).mono ?_; rintro e w1 ⟨rfl, rfl⟩)
    go_ret
    exact ⟨rfl, rfl⟩
theorem kpoke_ok (r c v : Int) (hn : k.rooms.length ≤ 5) (hka : KAt 88 120 90 w kb M k) (hb : pokeOk k.rooms.length r c v = true) :
    Calls Tryz.prog 61 #[.pointer (some ⟨kb, 0, none⟩), .int .i64 r, .int .i64 c, .int .i64 v] w (KPoked 88 120 90 w kb M (pokeK k r c v) .nilIface) := by
  obtain ⟨k0, k1, k2, k4, k5, k6, kf, hkb⟩ := hka.cells
  have hok : 0 ≤ r ∧ r < k.rooms.length ∧ 0 ≤ c ∧ c < 6 ∧ 0 ≤ v ∧ v < 1000 := by simpa [pokeOk] using hb
  obtain ⟨h0, h1, h2, h3, h4, h5⟩ := hok
  have hhas := khas_any kb M.rA k.rooms.length M.rc r w k4 (by omega)
  rw [show inB r k.rooms.length = true from decide_eq_true ⟨h0, h1⟩] at hhas
  obtain ⟨R, rfl⟩ : ∃ R : Nat, r = R := ⟨r.toNat, by omega⟩
  obtain ⟨C, rfl⟩ : ∃ C : Nat, c = C := ⟨c.toNat, by omega⟩
  have hg : k.rooms[R]? = some (k.rooms.getD R St.zero) := by
    rw [List.getD_eq_getElem?_getD, List.getElem?_eq_getElem (by omega)]; rfl
  have hC : C < 6 := by omega
  unfold pokeK
  rw [Int.toNat_natCast, Int.toNat_natCast]
  generalize k.rooms.getD R St.zero = s at hg ⊢
  obtain ⟨rb, roff, hrA, hst, hrf, hrb, hrkb, hrl, hrc, hrm⟩ := hka.room hg
  have hput := hka.pokeRoom hrA hg hC v
  have hkeep : Keep (KF kb M) w (w.setCell ⟨rb, roff + R * 8 + 1 + C, none⟩ (.int .i64 v)) := (Keep.refl _ _).setCell (.inl (.inr (.inl (by rw [hrA]; rfl)))) _
  have HPUT := hid hput
  have HKEEP := hid hkeep
  have HHAS := hid hhas
  have hold : ∃ u, w.cell? ⟨rb, roff + R * 8 + 1 + C, none⟩ = some u := by
    obtain ⟨s0, s1, s2, s3, s4, s5, s6, s7⟩ := hst
    rcases six hC with rfl | rfl | rfl | rfl | rfl | rfl
    · exact ⟨_, s1⟩
    · exact ⟨_, s2⟩
    · exact ⟨_, s3⟩
    · exact ⟨_, s4⟩
    · exact ⟨_, s5⟩
    · exact ⟨_, s6⟩
  obtain ⟨u, hu⟩ := hold
  have hfz := hrf (roff + R * 8 + 1 + C)
  rw [hrA] at k4
  generalize k.rooms.length = n at k4 hn hrl hrc h1 HHAS
  unfold maxLen at hrm
  clear hput hkeep hhas hst hrf hg hb k0 k1 k2 k5 k6 kf hka hrA
  go_enter Tryz.func61, Tryz.ntmps61
  go_wp2_with (go_at_call 85; refine (HHAS.out).mono ?_; rintro e w1 ⟨rfl, rfl⟩)
  go_ret
  exact ⟨rfl, HPUT.out, HKEEP.out, sz_set _ _ _⟩
end
end Go.Proofs.YthdmgighblhmhaaGreatDoor

/- A plan of one room as a program lays it: one block for its code, one for the rooms, one for its spans. -/
namespace Go.Proofs.YthdmgighblhmhaaGreatDoor
open Go.RowKit
set_option maxRecDepth 100000

theorem sl_blk {w : World} {b t : Nat} {cs : Array Value} (h : w.heap[b]? = some (.cells cs t (0, 0))) (sz n : Nat) (xs : List Value) (hx : cs.toList = xs) (hn : xs.length = n * sz) : Sl w (some ⟨b, 0, none⟩) sz n xs := by
  subst hx
  refine ⟨hn, fun _ => ⟨b, 0, rfl, blk_lt h, fun j u hu => ?_⟩⟩
  rw [Nat.zero_add, blk_cell h]
  simpa using hu
theorem lit_slW (b n : Nat) (hn : n ≤ 100) : SlW (some ⟨b, 0, none⟩) n n := ⟨Nat.le_refl _, by unfold maxLen; omega, fun h => by cases h⟩
theorem fits_lit {a : Int} (h : -1000 ≤ a ∧ a ≤ 1000) : Fits a := ⟨by omega, by omega⟩
/-- The plan as it lies: code at ob, rooms at rb, spans at sb. -/
def onePM (ob rb sb : Nat) (ops : List Op) (T : Int) (spans : List Span) : PM :=
  ⟨some ⟨rb, 0, none⟩, 1, [⟨some ⟨ob, 0, none⟩, ops.length, ops⟩], T, some ⟨sb, 0, none⟩, spans.length, spans, none, 0, []⟩
theorem one_plan {w : World} {ob rb sb : Nat} {ops : List Op} {T : Int} {spans : List Span} {t1 t2 t3 : Nat}
    (h1 : w.heap[ob]? = some (.cells (ops.flatMap Op.cells).toArray t1 (0, 0))) (h2 : w.heap[rb]? = some (.cells #[.slice (some ⟨ob, 0, none⟩) ops.length ops.length] t2 (0, 0)))
    (h3 : w.heap[sb]? = some (.cells (spans.flatMap Span.cells).toArray t3 (0, 0)))
    (hl : ops.length ≤ 20) (hs : spans.length ≤ 12) (hT : -1000 ≤ T ∧ T ≤ 1000) (ho : ∀ o ∈ ops, o.Ok) (hso : ∀ s ∈ spans, s.Ok) : PlanAt w (onePM ob rb sb ops T spans) := by
  refine ⟨sl_blk h2 1 1 _ rfl rfl, lit_slW _ 1 (by omega), fun r hr => ?_, fits_lit hT, sl_blk h3 3 spans.length (spans.flatMap Span.cells) (by simp) (flatMap_len Span.cells 3 Span.len _), lit_slW _ spans.length (by omega), hso, Sl.nil _ _ _, ⟨Nat.le_refl _, Nat.zero_le _, fun _ => ⟨rfl, rfl⟩⟩, fun y hy => by simp [onePM] at hy⟩
  simp [onePM] at hr
  subst hr
  exact ⟨sl_blk h1 3 ops.length (ops.flatMap Op.cells) (by simp) (flatMap_len Op.cells 3 Op.len _), lit_slW _ ops.length (by omega), ho⟩
/-- Without spans. -/
def onePM0 (ob rb : Nat) (ops : List Op) (T : Int) : PM := ⟨some ⟨rb, 0, none⟩, 1, [⟨some ⟨ob, 0, none⟩, ops.length, ops⟩], T, none, 0, [], none, 0, []⟩
theorem one_plan0 {w : World} {ob rb : Nat} {ops : List Op} {T : Int} {t1 t2 : Nat}
    (h1 : w.heap[ob]? = some (.cells (ops.flatMap Op.cells).toArray t1 (0, 0))) (h2 : w.heap[rb]? = some (.cells #[.slice (some ⟨ob, 0, none⟩) ops.length ops.length] t2 (0, 0)))
    (hl : ops.length ≤ 20) (hT : -1000 ≤ T ∧ T ≤ 1000) (ho : ∀ o ∈ ops, o.Ok) : PlanAt w (onePM0 ob rb ops T) := by
  refine ⟨sl_blk h2 1 1 _ rfl rfl, lit_slW _ 1 (by omega), fun r hr => ?_, fits_lit hT, Sl.nil _ _ _, ⟨Nat.le_refl _, Nat.zero_le _, fun _ => ⟨rfl, rfl⟩⟩, fun y hy => by simp [onePM0] at hy, Sl.nil _ _ _, ⟨Nat.le_refl _, Nat.zero_le _, fun _ => ⟨rfl, rfl⟩⟩, fun y hy => by simp [onePM0] at hy⟩
  simp [onePM0] at hr
  subst hr
  exact ⟨sl_blk h1 3 ops.length (ops.flatMap Op.cells) (by simp) (flatMap_len Op.cells 3 Op.len _), lit_slW _ ops.length (by omega), ho⟩
end Go.Proofs.YthdmgighblhmhaaGreatDoor

/- A kernel of a plan of one room that the program lays itself. -/
namespace Go.Proofs.YthdmgighblhmhaaGreatDoor
open Go.RowKit
set_option maxRecDepth 100000

theorem KRun.base {w w0 wr : World} {kb : Nat} {p : Pl} {M : KM} {k : Kst} (h : KRun w wr kb p M k) (hb : Below w0.heap.size w0 w) : KRun w0 wr kb p M k :=
  ⟨h.kat, h.plan, fun j hj => Nat.le_trans hb.size (h.fresh j hj), hb.trans (h.below.mono hb.size)⟩
theorem one_new (ops : List Op) (T : Int) (spans : List Span) {w : World} (hf : Forms w) (hl : ops.length ≤ 20) (hs : spans.length ≤ 12) (hT : -1000 ≤ T ∧ T ≤ 1000) (ho : ∀ o ∈ ops, o.Ok) (hso : ∀ s ∈ spans, s.Ok)
    (he : planChk ⟨[ops], T, spans, []⟩ = 0) (s : Nat) (hz : w.heap.size = s) :
    Calls Tryz.prog 12 #[.agg #[.slice (some ⟨s + 1, 0, none⟩) 1 1, .int .i64 T, .slice (some ⟨s + 1 + 1, 0, none⟩) spans.length spans.length, .slice none 0 0]]
      (((w.alloc (.cells (ops.flatMap Op.cells).toArray 72)).alloc (.cells #[.slice (some ⟨s, 0, none⟩) ops.length ops.length] 70)).alloc (.cells (spans.flatMap Span.cells).toArray 69)) (KNew w ⟨[ops], T, spans, []⟩) := by
  obtain ⟨w3, hw3⟩ : ∃ w3, w3 = (((w.alloc (.cells (ops.flatMap Op.cells).toArray 72)).alloc (.cells #[.slice (some ⟨s, 0, none⟩) ops.length ops.length] 70)).alloc (.cells (spans.flatMap Span.cells).toArray 69)) := ⟨_, rfl⟩
  have hb : Below w.heap.size w w3 := by
    rw [hw3]; exact (((Below.refl _ _).alloc (Nat.le_refl _) _).alloc (by simp) _).alloc (by simp; omega) _
  have h1 : w3.heap[s]? = some (.cells (ops.flatMap Op.cells).toArray 72 (0, 0)) := by
    rw [hw3]; simp only [hp_alloc, sz_alloc, hz]; repeat (first | rw [if_pos True.intro] | rw [if_pos rfl] | rw [if_neg (by omega)])
  have h2 : w3.heap[s + 1]? = some (.cells #[.slice (some ⟨s, 0, none⟩) ops.length ops.length] 70 (0, 0)) := by
    rw [hw3]; simp only [hp_alloc, sz_alloc, hz]; repeat (first | rw [if_pos True.intro] | rw [if_pos rfl] | rw [if_neg (by omega)])
  have h3 : w3.heap[s + 1 + 1]? = some (.cells (spans.flatMap Span.cells).toArray 69 (0, 0)) := by
    rw [hw3]; simp only [hp_alloc, sz_alloc, hz]; repeat (first | rw [if_pos True.intro] | rw [if_pos rfl] | rw [if_neg (by omega)])
  have hp : PlanAt w3 (onePM s (s + 1) (s + 1 + 1) ops T spans) := one_plan h1 h2 h3 hl hs hT ho hso
  rw [← hw3]
  refine (new_run w3 (onePM s (s + 1) (s + 1 + 1) ops T spans) (hf.new hb) hp he).mono ?_
  rintro e w' ⟨kb, M, h4, h5⟩
  exact ⟨kb, M, h4, h5.base hb⟩
end Go.Proofs.YthdmgighblhmhaaGreatDoor

/- Two kernels beside each other: what one does leaves the other alone; and a kernel that is poked stays right. -/
namespace Go.Proofs.YthdmgighblhmhaaGreatDoor
open Go.RowKit
set_option maxRecDepth 100000

theorem poke_right {p : Pl} {k : Kst} {B : Int} (h : KOk p k B) {r c v : Int} (ho : pokeOk k.rooms.length r c v = true) : KOk p (pokeK k r c v) B := by
  have hok : 0 ≤ r ∧ r < k.rooms.length ∧ 0 ≤ c ∧ c < 6 ∧ 0 ≤ v ∧ v < 1000 := by simpa [pokeOk] using ho
  refine ⟨by simp only [pokeK, List.length_set]; exact h.rooms, h.lines, h.time0, h.timeB, fun r' ops s hc hs => ?_, h.lns⟩
  simp only [pokeK] at hs
  rw [List.getElem?_set] at hs
  by_cases e : r.toNat = r'
  · subst e
    rw [if_pos rfl, if_pos (by omega)] at hs
    cases hs
    have hg : k.rooms[r.toNat]? = some (k.rooms.getD r.toNat St.zero) := by
      rw [List.getD_eq_getElem?_getD, List.getElem?_eq_getElem (by omega)]; rfl
    exact stOk_put (h.states _ ops _ hc hg) (by omega) ⟨hok.2.2.2.2.1, hok.2.2.2.2.2⟩
  · rw [if_neg e] at hs; exact h.states r' ops s hc hs
theorem poke_far {k : Kst} {r c v : Int} {r' : Nat} (h : r.toNat ≠ r') : (pokeK k r c v).rooms[r']? = k.rooms[r']? := List.getElem?_set_ne h

/-- A kernel that runs, of any two types. -/
structure KRunG (TK TL TP : Nat) (w wr : World) (kb : Nat) (p : Pl) (M : KM) (k : Kst) : Prop where
  kat : KAt TK TL TP wr kb M k
  plan : M.P.pl = p
  fresh : ∀ j, TF kb M j → w.heap.size ≤ j
  below : Below w.heap.size w wr
theorem KRun.g {w wr : World} {kb : Nat} {p : Pl} {M : KM} {k : Kst} (h : KRun w wr kb p M k) : KRunG 88 120 90 w wr kb p M k := ⟨h.kat, h.plan, h.fresh, h.below⟩
theorem KRunG.run {w wr : World} {kb : Nat} {p : Pl} {M : KM} {k : Kst} (h : KRunG 88 120 90 w wr kb p M k) : KRun w wr kb p M k := ⟨h.kat, h.plan, h.fresh, h.below⟩
section
variable {TK TL TP UK UL UP : Nat} {w wr w3 : World} {kb mb : Nat} {p q : Pl} {M M' N : KM} {k k' m : Kst}
theorem KRunG.new (h : KRunG TK TL TP w wr kb p M k) (hb : Below wr.heap.size wr w3) : KRunG TK TL TP w w3 kb p M k := ⟨h.kat.new hb, h.plan, h.fresh, h.below.trans (hb.mono h.below.size)⟩
theorem KRunG.ticked (h : KRunG TK TL TP w wr kb p M k) (h1 : KAt TK TL TP w3 kb M' k') (h2 : M'.P = M.P ∧ M'.lA = M.lA) (h3 : Keep (KF kb M) wr w3) (h4 : ∀ j, KF kb M' j → KF kb M j ∨ wr.heap.size ≤ j) : KRunG TK TL TP w w3 kb p M' k' := by
  have s1 := h.below.size
  refine ⟨h1, by rw [h2.1]; exact h.plan, fun j hj => ?_, Keep.below (F := NoF) ((Keep.of_below NoF h.below).then h3 fun j hj hk => by have := h.fresh j (.inl hk); omega) (Nat.le_refl _) (fun j h => h.elim)⟩
  rcases hj with hj | hj | hj
  · rcases h4 j hj with h5 | h5
    · exact h.fresh j (.inl h5)
    · omega
  · rw [h2.2] at hj; exact h.fresh j (.inr (.inl hj))
  · rw [h2.1] at hj; exact h.fresh j (.inr (.inr hj))
/-- Two kernels that share no memory. -/
structure KPair (TK TL TP UK UL UP : Nat) (w wr : World) (kb : Nat) (p : Pl) (M : KM) (k : Kst) (mb : Nat) (q : Pl) (N : KM) (m : Kst) : Prop where
  a : KRunG TK TL TP w wr kb p M k
  b : KRunG UK UL UP w wr mb q N m
  apart : ∀ j, TF kb M j → ¬ TF mb N j
theorem KPair.swap (h : KPair TK TL TP UK UL UP w wr kb p M k mb q N m) : KPair UK UL UP TK TL TP w wr mb q N m kb p M k := ⟨h.b, h.a, fun j h1 h2 => h.apart j h2 h1⟩
theorem KPair.new (h : KPair TK TL TP UK UL UP w wr kb p M k mb q N m) (hb : Below wr.heap.size wr w3) : KPair TK TL TP UK UL UP w w3 kb p M k mb q N m := ⟨h.a.new hb, h.b.new hb, h.apart⟩
/-- The first goes on. -/
theorem KPair.goA (h : KPair TK TL TP UK UL UP w wr kb p M k mb q N m) (h1 : KRunG TK TL TP w w3 kb p M' k') (h3 : Keep (KF kb M) wr w3) (h4 : ∀ j, TF kb M' j → TF kb M j ∨ wr.heap.size ≤ j) : KPair TK TL TP UK UL UP w w3 kb p M' k' mb q N m := by
  have hlt := h.b.kat.lt
  refine ⟨h1, ⟨h.b.kat.through h3 fun j hj hf => h.apart j (.inl hf) hj, h.b.plan, h.b.fresh, h1.below⟩, fun j hj hn => ?_⟩
  rcases h4 j hj with h5 | h5
  · exact h.apart j h5 hn
  · have := hlt j hn; omega
theorem KPair.goB {N' : KM} {m' : Kst} (h : KPair TK TL TP UK UL UP w wr kb p M k mb q N m) (h1 : KRunG UK UL UP w w3 mb q N' m') (h3 : Keep (KF mb N) wr w3) (h4 : ∀ j, TF mb N' j → TF mb N j ∨ wr.heap.size ≤ j) : KPair TK TL TP UK UL UP w w3 kb p M k mb q N' m' := (h.swap.goA h1 h3 h4).swap
/-- What is written elsewhere. -/
theorem KPair.far (h : KPair TK TL TP UK UL UP w wr kb p M k mb q N m) {F : Nat → Prop} (hk : Keep F wr w3) (hA : ∀ j, TF kb M j → ¬ F j) (hB : ∀ j, TF mb N j → ¬ F j) (hF : ∀ j, F j → w.heap.size ≤ j) : KPair TK TL TP UK UL UP w w3 kb p M k mb q N m := by
  have hb : Below w.heap.size w w3 := Keep.below (F := NoF) ((Keep.of_below NoF h.a.below).then hk fun j hj hf => by have := hF j hf; omega) (Nat.le_refl _) (fun _ h => h.elim)
  exact ⟨⟨h.a.kat.through hk hA, h.a.plan, h.a.fresh, hb⟩, ⟨h.b.kat.through hk hB, h.b.plan, h.b.fresh, hb⟩, h.apart⟩
/-- One is made beside another one. -/
theorem KPair.mk' (h : KRunG TK TL TP w wr kb p M k) (hb : KRunG UK UL UP wr w3 mb q N m) : KPair TK TL TP UK UL UP w w3 kb p M k mb q N m := by
  have hlt := h.kat.lt
  refine ⟨h.new hb.below, ⟨hb.kat, hb.plan, fun j hj => Nat.le_trans h.below.size (hb.fresh j hj), h.below.trans (hb.below.mono h.below.size)⟩, fun j h1 h2 => ?_⟩
  have := hlt j h1
  have := hb.fresh j h2
  omega
theorem KRunG.poked (h : KRunG TK TL TP w wr kb p M k) (h1 : KAt TK TL TP w3 kb M k') (h3 : Keep (KF kb M) wr w3) : KRunG TK TL TP w w3 kb p M k' :=
  h.ticked h1 ⟨rfl, rfl⟩ h3 fun _ hj => .inl hj
end
end Go.Proofs.YthdmgighblhmhaaGreatDoor
