/- Several parts: each begins with what it says. -/
import Derived.Test.YthdmgighblhmhaaGreatDoorBaseU
import Derived.Test.YthdmgighblhmhaaGreatDoorWire
import Derived.Test.YthdmgighblhmhaaGreatDoorOpen
import Derived.Test.YthdmgighblhmhaaGreatDoorLineU
import Derived.StillTailTactics
import Derived.Laws.Tables
/- Who reaches whom, by wires: the plain law of a walk from room to room. -/
namespace Go.Proofs.YthdmgighblhmhaaGreatDoor

/-- A wire leads from u to v. -/
def Edge (l : List Wire) (u v : Nat) : Prop := ∃ x ∈ l, x.fr = u ∧ x.to = v
inductive Reach (l : List Wire) (a : Nat) : Nat → Prop
  | refl : Reach l a a
  | step {u v : Nat} : Reach l a u → Edge l u v → Reach l a v
theorem Reach.trans {l : List Wire} {a b c : Nat} (h : Reach l a b) (k : Reach l b c) : Reach l a c := by
  induction k with
  | refl => exact h
  | step _ e ih => exact ih.step e
open Classical in
noncomputable def reachB (l : List Wire) (a b : Nat) : Bool := decide (Reach l a b)
theorem reachB_iff {l : List Wire} {a b : Nat} : reachB l a b = true ↔ Reach l a b := by simp [reachB]

/-- Wires between rooms that there are. -/
def InRooms (l : List Wire) : Prop := ∀ x ∈ l, (0 ≤ x.fr ∧ x.fr < 5) ∧ (0 ≤ x.to ∧ x.to < 5)
theorem Edge.lt {l : List Wire} (h : InRooms l) {u v : Nat} (e : Edge l u v) : u < 5 ∧ v < 5 := by
  obtain ⟨x, hx, h1, h2⟩ := e
  have := h x hx
  omega

/-- A matrix of 5 by 5, by its place. -/
def upd (M : Nat → Bool) (i : Nat) : Nat → Bool := fun j => if j = i then true else M j
def cnt (M : Nat → Bool) (a : Nat) : Nat := (M (a * 5)).toNat + (M (a * 5 + 1)).toNat + (M (a * 5 + 2)).toNat + (M (a * 5 + 3)).toNat + (M (a * 5 + 4)).toNat
theorem cnt_le (M : Nat → Bool) (a : Nat) : cnt M a ≤ 5 := by
  have := fun i => Bool.toNat_le (M i)
  have h0 := this (a * 5); have h1 := this (a * 5 + 1); have h2 := this (a * 5 + 2); have h3 := this (a * 5 + 3); have h4 := this (a * 5 + 4)
  unfold cnt; omega
theorem cnt_upd {M : Nat → Bool} {a t : Nat} (ht : t < 5) (h : M (a * 5 + t) = false) : cnt (upd M (a * 5 + t)) a = cnt M a + 1 := by
  rcases (show t = 0 ∨ t = 1 ∨ t = 2 ∨ t = 3 ∨ t = 4 by omega) with rfl | rfl | rfl | rfl | rfl <;> simp_all [cnt, upd] <;> omega

/-- Behind some rounds of the walk from room a: M's rows; the queue. -/
structure Bfs (l : List Wire) (a : Nat) (M : Nat → Bool) (Q : List Nat) : Prop where
  done : ∀ u v, u < a → v < 5 → M (u * 5 + v) = reachB l u v
  fresh : ∀ u v, a < u → u < 5 → v < 5 → M (u * 5 + v) = false
  sound : ∀ v, v < 5 → M (a * 5 + v) = true → Reach l a v
  self : M (a * 5 + a) = true
  queue : ∀ v ∈ Q, v < 5 ∧ M (a * 5 + v) = true
  closed : ∀ v, v < 5 → M (a * 5 + v) = true → v ∉ Q → ∀ t, Edge l v t → M (a * 5 + t) = true

theorem upd_other {M : Nat → Bool} {i j : Nat} (h : j ≠ i) : upd M i j = M j := by simp [upd, h]
theorem upd_same (M : Nat → Bool) (i : Nat) : upd M i i = true := by simp [upd]
theorem upd_true {M : Nat → Bool} {i j : Nat} (h : M j = true) : upd M i j = true := by unfold upd; split <;> simp_all
theorem place {u v u' v' : Nat} (hv : v < 5) (hv' : v' < 5) (h : u * 5 + v = u' * 5 + v') : u = u' ∧ v = v' := by omega

theorem Bfs.start {l : List Wire} {a : Nat} {M : Nat → Bool} (ha : a < 5) (hd : ∀ u v, u < a → v < 5 → M (u * 5 + v) = reachB l u v) (hf : ∀ u v, a ≤ u → u < 5 → v < 5 → M (u * 5 + v) = false) : Bfs l a (upd M (a * 5 + a)) [a] := by
  refine ⟨fun u v hu hv => ?_, fun u v hu h5 hv => ?_, fun v hv h => ?_, upd_same _ _, fun v hv => ?_, fun v hv h hn => ?_⟩
  · rw [upd_other (by omega)]; exact hd u v hu hv
  · rw [upd_other (by omega)]; exact hf u v (by omega) h5 hv
  · by_cases e : v = a
    · subst e; exact .refl
    · rw [upd_other (by omega), hf a v (Nat.le_refl _) ha hv] at h; cases h
  · simp at hv; subst hv; exact ⟨ha, upd_same _ _⟩
  · by_cases e : v = a
    · subst e; simp at hn
    · rw [upd_other (by omega), hf a v (Nat.le_refl _) ha hv] at h; cases h

/-- In the middle of a round at room u, k wires on. -/
structure Mid (l : List Wire) (a : Nat) (M : Nat → Bool) (u : Nat) (Q : List Nat) (k : Nat) : Prop where
  bfs : Bfs l a M (u :: Q)
  here : ∀ j x, j < k → l[j]? = some x → x.fr = u → M (a * 5 + x.to.toNat) = true

theorem Mid.start {l : List Wire} {a u : Nat} {M : Nat → Bool} {Q : List Nat} (h : Bfs l a M (u :: Q)) : Mid l a M u Q 0 := ⟨h, fun j x hj => absurd hj (by omega)⟩
theorem Mid.skip {l : List Wire} {a u k : Nat} {M : Nat → Bool} {Q : List Nat} {x : Wire} (h : Mid l a M u Q k) (hx : l[k]? = some x) (hn : x.fr = u → M (a * 5 + x.to.toNat) = true) : Mid l a M u Q (k + 1) :=
  ⟨h.bfs, fun j y hj hy => by
    by_cases e : j = k
    · subst e; rw [hx] at hy; cases hy; exact hn
    · exact h.here j y (by omega) hy⟩
theorem Mid.hit {l : List Wire} {a u k : Nat} {M : Nat → Bool} {Q : List Nat} {x : Wire} (hr : InRooms l) (_ha : a < 5) (h : Mid l a M u Q k) (hx : l[k]? = some x) (hu : x.fr = u) (hn : M (a * 5 + x.to.toNat) = false) :
    Mid l a (upd M (a * 5 + x.to.toNat)) u (Q ++ [x.to.toNat]) (k + 1) := by
  have hmem := List.mem_of_getElem? hx
  have hb := hr x hmem
  obtain ⟨t, ht⟩ : ∃ t : Nat, x.to = t := ⟨x.to.toNat, by omega⟩
  have ht5 : t < 5 := by omega
  have he : Edge l u t := ⟨x, hmem, hu, ht⟩
  rw [ht, Int.toNat_natCast] at hn ⊢
  have hq := h.bfs.queue u (by simp)
  refine ⟨⟨fun p v hp hv => ?_, fun p v hp h5 hv => ?_, fun v hv hm => ?_, upd_true h.bfs.self, fun v hv => ?_, fun v hv hm hnq s hs => ?_⟩, fun j y hj hy hyu => ?_⟩
  · rw [upd_other (by omega)]; exact h.bfs.done p v hp hv
  · rw [upd_other (by omega)]; exact h.bfs.fresh p v hp h5 hv
  · by_cases e : v = t
    · subst e; exact (h.bfs.sound u hq.1 hq.2).step he
    · rw [upd_other (by omega)] at hm; exact h.bfs.sound v hv hm
  · simp only [List.mem_cons, List.mem_append, List.not_mem_nil, or_false] at hv
    rcases hv with hv | hv | hv
    · subst hv; exact ⟨hq.1, upd_true hq.2⟩
    · have := h.bfs.queue v (by simp [hv]); exact ⟨this.1, upd_true this.2⟩
    · subst hv; exact ⟨ht5, upd_same _ _⟩
  · simp only [List.mem_cons, List.mem_append, List.not_mem_nil, or_false, not_or] at hnq
    rw [upd_other (by have := hnq.2.2; omega)] at hm
    exact upd_true (h.bfs.closed v hv hm (by simp [hnq.1, hnq.2.1]) s hs)
  · by_cases e : j = k
    · subst e; rw [hx] at hy; cases hy; rw [ht, Int.toNat_natCast]; exact upd_same _ _
    · exact upd_true (h.here j y (by omega) hy hyu)
theorem Mid.pop {l : List Wire} {a u : Nat} {M : Nat → Bool} {Q : List Nat} (_hr : InRooms l) (h : Mid l a M u Q l.length) : Bfs l a M Q := by
  refine ⟨h.bfs.done, h.bfs.fresh, h.bfs.sound, h.bfs.self, fun v hv => h.bfs.queue v (by simp [hv]), fun v hv hm hn t ht => ?_⟩
  by_cases e : v = u
  · subst e
    obtain ⟨x, hx, h1, h2⟩ := ht
    obtain ⟨j, hj, rfl⟩ := List.getElem_of_mem hx
    have := h.here j _ hj (List.getElem?_eq_getElem hj) h1
    rw [h2, Int.toNat_natCast] at this
    exact this
  · exact h.bfs.closed v hv hm (by simp [e, hn]) t ht
theorem Bfs.finish {l : List Wire} {a : Nat} {M : Nat → Bool} (hr : InRooms l) (ha : a < 5) (h : Bfs l a M []) : ∀ u v, u < a + 1 → v < 5 → M (u * 5 + v) = reachB l u v := by
  intro u v hu hv
  by_cases e : u = a
  · subst e
    have all : ∀ t, Reach l u t → t < 5 ∧ M (u * 5 + t) = true := by
      intro t hR
      induction hR with
      | refl => exact ⟨ha, h.self⟩
      | step _ e ih => exact ⟨(e.lt hr).2, h.closed _ ih.1 ih.2 (by simp) _ e⟩
    cases hb : M (u * 5 + v) with
    | true => exact (reachB_iff.2 (h.sound v hv hb)).symm
    | false =>
      cases hc : reachB l u v with
      | false => rfl
      | true => rw [(all v (reachB_iff.1 hc)).2] at hb; cases hb
  · exact h.done u v (by omega) hv

/-- The matrix as cells. -/
def bitsA (M : Nat → Bool) : Array Value := ((List.range 25).map fun i => Value.bool (M i)).toArray
theorem bitsA_size (M : Nat → Bool) : (bitsA M).size = 25 := by simp [bitsA]
theorem bitsA_get (M : Nat → Bool) {i : Nat} (h : i < 25) : (bitsA M)[i]? = some (.bool (M i)) := by simp [bitsA, h]
theorem bitsA_set (M : Nat → Bool) {i : Nat} (_h : i < 25) : (bitsA M).setIfInBounds i (.bool true) = bitsA (upd M i) := by
  apply Array.ext
  · simp [bitsA]
  · intro j h1 h2
    simp [bitsA] at h1 h2
    by_cases e : i = j
    · subst e; simp [bitsA, upd]
    · rw [Array.getElem_setIfInBounds_ne _ e]
      · simp [bitsA, upd, Ne.symm e]
      · simp [bitsA, h2]
theorem bitsA_zero : bitsA (fun _ => false) = #[.bool false, .bool false, .bool false, .bool false, .bool false, .bool false, .bool false, .bool false, .bool false, .bool false, .bool false, .bool false, .bool false, .bool false, .bool false, .bool false, .bool false, .bool false, .bool false, .bool false, .bool false, .bool false, .bool false, .bool false, .bool false] := by rfl
theorem bitsA_congr {M N : Nat → Bool} (h : ∀ i, i < 25 → M i = N i) : bitsA M = bitsA N := by
  unfold bitsA
  congr 1
  apply List.map_congr_left
  intro i hi
  rw [h i (by simpa using hi)]
theorem bitsA_one (M : Nat → Bool) : (bitsA M).all (·.oneCell') = true := by simp [bitsA, Value.oneCell']
end Go.Proofs.YthdmgighblhmhaaGreatDoor

/- Package flow: contracts of Check, Right, Ways, for every list of wires. -/
namespace Go.Proofs.YthdmgighblhmhaaGreatDoor
open Go.RowKit
set_option maxRecDepth 100000

def wiresChk (l : List Wire) : Nat → Nat → Nat × Int
  | 0, _ => (0, 0)
  | fuel + 1, i => match l[i]? with
    | none => (0, 0)
    | some x => if wireChk x = 0 then wiresChk l fuel (i + 1) else (i, wireChk x)
def flowChk (l : List Wire) : Nat × Int := if 12 < l.length then (0, 4) else wiresChk l (l.length + 1) 0
theorem wiresChk_bad {l : List Wire} {f k : Nat} {x : Wire} (hg : l[k]? = some x) (hb : wireChk x ≠ 0) : wiresChk l (f + 1) k = (k, wireChk x) := by simp [wiresChk, hg, hb]
theorem wiresChk_next {l : List Wire} {f k : Nat} {x : Wire} (hg : l[k]? = some x) (hb : wireChk x = 0) : wiresChk l (f + 1) k = wiresChk l f (k + 1) := by simp [wiresChk, hg, hb]
theorem wiresChk_end {l : List Wire} {f k : Nat} (h : l.length ≤ k) : wiresChk l f k = (0, 0) := by
  cases f with
  | zero => rfl
  | succ f => simp [wiresChk, List.getElem?_eq_none h]
theorem wiresChk_ok {l : List Wire} : ∀ {f k : Nat}, l.length < f + k → (wiresChk l f k).2 = 0 → ∀ j x, k ≤ j → l[j]? = some x → wireChk x = 0
  | 0, k, hf, _, j, x, hj, hx => by have := (List.getElem?_eq_some_iff.1 hx).1; omega
  | f + 1, k, hf, h, j, x, hj, hx => by
    have hk : k < l.length := by have := (List.getElem?_eq_some_iff.1 hx).1; omega
    have hg := List.getElem?_eq_getElem hk
    by_cases hb : wireChk l[k] = 0
    · rw [wiresChk_next hg hb] at h
      by_cases e : j = k
      · subst e; rw [hg] at hx; cases hx; exact hb
      · exact wiresChk_ok (by omega) h j x (by omega) hx
    · rw [wiresChk_bad hg hb] at h; exact absurd h hb
theorem flowChk_ok {l : List Wire} (h : (flowChk l).2 = 0) : l.length ≤ 12 ∧ (∀ x ∈ l, wireChk x = 0) ∧ InRooms l := by
  unfold flowChk at h
  split at h
  · simp at h
  · rename_i h12
    have all : ∀ x ∈ l, wireChk x = 0 := by
      intro x hx
      obtain ⟨j, hj, rfl⟩ := List.getElem_of_mem hx
      exact wiresChk_ok (by omega) h j _ (Nat.zero_le _) (List.getElem?_eq_getElem hj)
    refine ⟨by omega, all, fun x hx => ?_⟩
    have := all x hx
    unfold wireChk at this
    split at this
    · omega
    · rename_i h1
      have h2 : roomB x.fr = true ∧ roomB x.to = true := by
        constructor
        · cases h : roomB x.fr with
          | true => rfl
          | false => exact absurd (.inl h) h1
        · cases h : roomB x.to with
          | true => rfl
          | false => exact absurd (.inr (.inl h)) h1
      exact ⟨roomB_true.1 h2.1, roomB_true.1 h2.2⟩

theorem Sl.wire {w : World} {A : Option Addr} {n : Nat} {l : List Wire} (h : Sl w A 4 n (l.flatMap Wire.cells)) {wr : World} (hb : Below w.heap.size w wr) {i : Nat} (hi : i < l.length) (hn : i < n) :
    ∃ b off, A = some ⟨b, off, none⟩ ∧ b < w.heap.size ∧ wr.cell? ⟨b, off + i * 4, none⟩ = some (.int .i64 l[i].fr) ∧ wr.cell? ⟨b, off + i * 4 + 1, none⟩ = some (.int .i64 l[i].to) ∧
      wr.cell? ⟨b, off + i * 4 + 2, none⟩ = some (.int .i64 l[i].kind) ∧ wr.cell? ⟨b, off + i * 4 + 3, none⟩ = some (.int .i64 l[i].deep) := by
  obtain ⟨b, off, rfl, hlt, hx⟩ := h.2 (by omega)
  have hg := fun j (hj : j < 4) => flatMap_get Wire.cells 4 Wire.len l i j l[i] (List.getElem?_eq_getElem hi) hj
  have hk := fun o => hb.cell (p := ⟨b, o, none⟩) hlt
  refine ⟨b, off, rfl, hlt, ?_, ?_, ?_, ?_⟩
  · rw [hk]; exact hx _ _ ((hg 0 (by omega)).trans rfl)
  · rw [hk, Nat.add_assoc]; exact hx _ _ ((hg 1 (by omega)).trans rfl)
  · rw [hk, Nat.add_assoc]; exact hx _ _ ((hg 2 (by omega)).trans rfl)
  · rw [hk, Nat.add_assoc]; exact hx _ _ ((hg 3 (by omega)).trans rfl)

def FlowFound (w : World) (r : Nat × Int) (e : Ending) (w' : World) : Prop := e = .returned (.tuple #[.int .i64 r.1, errV r.2]) ∧ Below w.heap.size w w'

set_option maxHeartbeats 1000000 in
theorem flow_check (A : Option Addr) (c : Nat) (l : List Wire) (w : World) (hs : Sl w A 4 l.length (l.flatMap Wire.cells)) (hsw : SlW A c l.length) :
    Calls Tryz.prog 72 #[.slice A l.length c] w (FlowFound w (flowChk l)) := by
  obtain ⟨hs1, hs2, hs3⟩ := hsw
  unfold maxLen at hs2
  have HS := hid hs
  clear hs hs3
  unfold flowChk
  by_cases h12 : 12 < l.length
  · rw [if_pos h12]
    go_enter Tryz.func72, Tryz.ntmps72
    go_wp2
    go_ret2
    exact ⟨rfl, Below.refl _ _⟩
  · rw [if_neg h12]
    obtain ⟨q, hq⟩ : ∃ q, q = wiresChk l (l.length + 1) 0 := ⟨_, rfl⟩
    rw [← hq]
    have HQ := hid hq
    clear hq
    go_enter Tryz.func72, Tryz.ntmps72
    go_wp2_with fail
    go_loopw [4, 5, 6, 13] (fun v4 v5 v6 v13 wr => ∃ k : Nat, k ≤ l.length ∧ v13 = .int .i64 k ∧ q = wiresChk l (l.length + 1 - k) k ∧ Below w.heap.size w wr) (fun _ _ _ v13 _ => l.length - (intOf v13).toNat)
    case atStart => exact ⟨0, by omega, rfl, HQ.out, Below.refl _ _⟩
    case round =>
      obtain ⟨k, hk, rfl, hr, hb⟩ := hrel
      have HR := hid hr
      have HB := hid hb
      clear hr hb
      by_cases hkl : k < l.length
      · obtain ⟨f, hf⟩ : ∃ f, l.length + 1 - k = f + 1 := ⟨l.length - k, by omega⟩
        have HF := hid hf
        clear hf
        obtain ⟨b, off, rfl, hlb, g0, g1, g2, g3⟩ := HS.out.wire HB.out hkl hkl
        have hget := List.getElem?_eq_getElem hkl
        generalize l[k] = x at g0 g1 g2 g3 hget
        have HG := hid hget
        clear hget
        by_cases hc : wireChk x = 0
        · have hq := HR.out
          rw [HF.out, wiresChk_next HG.out hc] at hq
          have HQ2 := hid hq
          have HC : Hid (errV (wireChk ⟨x.fr, x.to, x.kind, x.deep⟩) = .nilIface) := by show errV (wireChk x) = _; rw [hc]; rfl
          clear hc hq
          go_wp2_with (go_at_call 50; refine (wire_check x.fr x.to x.kind x.deep _).mono ?_; rw [HC.out]; rintro e w1 ⟨rfl, hb1⟩; have HB1 := hid hb1; clear hb1)
          go_roundw
          case rel => exact ⟨k + 1, by omega, by go_num, by rw [HQ2.out]; congr 1; have := HF.out; omega, (HB.out.alloc HB.out.size _).trans (HB1.out.mono (by have := HB.out.size; simp; omega))⟩
          case measure => simp [intOf]; omega
        · have hq := HR.out
          rw [HF.out, wiresChk_bad HG.out hc] at hq
          subst hq
          have he := errV_pos hc
          have HE : Hid (errV (wireChk ⟨x.fr, x.to, x.kind, x.deep⟩) = .iface 98 (.int .i64 (wireChk x))) := he
          clear hc he
          go_wp2_with (go_at_call 50; refine (wire_check x.fr x.to x.kind x.deep _).mono ?_; rw [HE.out]; rintro e w1 ⟨rfl, hb1⟩; have HB1 := hid hb1; clear hb1)
          go_ret2
          exact ⟨by have h : errV (wireChk x) = _ := HE.out; rw [h]; rfl, (HB.out.alloc HB.out.size _).trans (HB1.out.mono (by have := HB.out.size; simp; omega))⟩
      · have hq := HR.out
        rw [wiresChk_end (by omega)] at hq
        subst hq
        go_wp2_with fail
        go_ret2
        exact ⟨rfl, HB.out⟩

theorem flow_right (A : Option Addr) (c : Nat) (l : List Wire) (w : World) (hs : Sl w A 4 l.length (l.flatMap Wire.cells)) (hsw : SlW A c l.length) :
    Calls Tryz.prog 39 #[.slice A l.length c] w fun e w' => e = .returned (errV (flowChk l).2) ∧ Below w.heap.size w w' := by
  have HS := hid hs
  have HW := hid hsw
  clear hs hsw
  go_enter Tryz.func39, Tryz.ntmps39
  go_wp2_with (go_at_call 72; refine (flow_check A c l _ HS.out HW.out).mono ?_; rintro e w1 ⟨rfl, hb1⟩)
  go_ret
  exact ⟨rfl, hb1⟩
end Go.Proofs.YthdmgighblhmhaaGreatDoor

/- Package flow: the contract of Ways, for every list of wires that is right: who reaches whom. -/
namespace Go.Proofs.YthdmgighblhmhaaGreatDoor
open Go.RowKit
set_option maxRecDepth 100000

def isT : Option Value → Nat
  | some (.bool true) => 1
  | _ => 0
def cntW (w : World) (b a : Nat) : Nat := isT (w.cell? ⟨b, a * 5, none⟩) + isT (w.cell? ⟨b, a * 5 + 1, none⟩) + isT (w.cell? ⟨b, a * 5 + 2, none⟩) + isT (w.cell? ⟨b, a * 5 + 3, none⟩) + isT (w.cell? ⟨b, a * 5 + 4, none⟩)
theorem cntW_eq {w : World} {b t a : Nat} {M : Nat → Bool} (h : w.heap[b]? = some (.cells (bitsA M) t (0, 0))) (ha : a < 5) : cntW w b a = cnt M a := by
  have g := fun i (hi : i < 25) => (blk_cell h i).trans (bitsA_get M hi)
  unfold cntW cnt
  rw [g (a * 5) (by omega), g (a * 5 + 1) (by omega), g (a * 5 + 2) (by omega), g (a * 5 + 3) (by omega), g (a * 5 + 4) (by omega)]
  have : ∀ x, isT (some (.bool x)) = x.toNat := fun x => by cases x <;> rfl
  simp only [this]
theorem cell_alloc_at {w : World} {b i t : Nat} {cs : Array Value} {v : Value} (h : b = w.heap.size) (hv : cs[i]? = some v) : (w.alloc (.cells cs t)).cell? ⟨b, i, none⟩ = some v := by subst h; exact (blk_cell (heap_alloc_new w _) i).trans hv
def lenOf : Value → Nat
  | .slice _ n _ => n
  | _ => 0
def nats (Q : List Nat) : List Int := Q.map (fun (v : Nat) => (v : Int))

/-- Who reaches whom, as a value. -/
noncomputable def waysV (l : List Wire) : Array Value := bitsA fun i => reachB l (i / 5) (i % 5)
def IsWays (w : World) (l : List Wire) (e : Ending) (w' : World) : Prop := e = .returned (.agg (waysV l)) ∧ Below w.heap.size w w'

end Go.Proofs.YthdmgighblhmhaaGreatDoor

/- Package flow: who reaches whom, as a row that is stored and read. -/
namespace Go.Proofs.YthdmgighblhmhaaGreatDoor
open Go.RowKit
set_option maxRecDepth 100000

theorem waysV_get (l : List Wire) {t f : Nat} (ht : t < 5) (hf : f < 5) : (waysV l)[t * 5 + f]? = some (.bool (reachB l t f)) := by
  have := bitsA_get (fun i => reachB l (i / 5) (i % 5)) (show t * 5 + f < 25 by omega)
  rw [show (t * 5 + f) / 5 = t by omega, show (t * 5 + f) % 5 = f by omega] at this
  exact this
theorem wpList_store_rowK {P : Program} {ops : Array Oper} {rest : List Oper} {o : Oper} {a : Act} {w : World} {Q : Exit → Act → World → Prop} (hgd : o.guard = none) (ty : TypeId) (x y : Operand) (ho : o.op = .store ty x y)
    (g : Nat) (cells : Array Value) (hx : a.eval x = .pointer (some ⟨g, 0, none⟩)) (hy : a.eval y = .agg cells)
    (t : TypeId) (old : Array Value) (hg : w.heap[g]? = some (.cells old t (0, 0))) (hi : (P.info? ty).map (·.size) = some cells.size)
    (hold : old.size = cells.size) (h1 : cells.all (·.oneCell') = true)
    (h : ∀ w', w'.heap[g]? = some (.cells cells t (0, 0)) → Keep (fun i => i = g) w w' → w'.heap.size = w.heap.size → wpList P ops Q rest (a.put o.dst undef) w') : wpList P ops Q (o :: rest) a w :=
  wpList_store_row hgd ty x y ho g cells hx hy t old hg hi hold h1
    (h _ (setRow_heap w g _ cells t _ hg) ⟨rfl, rfl, rfl, by simp [World.setRow], fun k _ hk => setRow_other w g k cells hk⟩ (size_setRow w g cells))
end Go.Proofs.YthdmgighblhmhaaGreatDoor
