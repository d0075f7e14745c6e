/- Several parts: each begins with what it says. -/
import Derived.Test.YtongkiccglaniaaDoorBaseU
import Derived.Test.YtongkiccglaniaaDoorWire
import Derived.Test.YtongkiccglaniaaDoorOpen
import Derived.Test.YtongkiccglaniaaDoorLineU
import Derived.StillTailTactics
import Derived.Laws.Tables
/- Who reaches whom, by wires: the plain law of a walk from room to room. -/
namespace Go.Proofs.YtongkiccglaniaaDoor

/-- A wire leads from u to v. -/
def Edge (l : List Wire) (u v : Nat) : Prop := ∃ x ∈ l, x.fr = u ∧ x.to = v
inductive Reach (l : List Wire) (a : Nat) : Nat → Prop
  | refl : Reach l a a
  | step {u v : Nat} : Reach l a u → Edge l u v → Reach l a v
theorem Reach.trans {l : List Wire} {a b c : Nat} (h : Reach l a b) (k : Reach l b c) : Reach l a c := by
  induction k with
  | refl => exact h
  | step _ e ih => exact ih.step e
open Classical in
noncomputable def reachB (l : List Wire) (a b : Nat) : Bool := decide (Reach l a b)
theorem reachB_iff {l : List Wire} {a b : Nat} : reachB l a b = true ↔ Reach l a b := by simp [reachB]

/-- Wires between rooms that there are. -/
def InRooms (l : List Wire) : Prop := ∀ x ∈ l, (0 ≤ x.fr ∧ x.fr < 5) ∧ (0 ≤ x.to ∧ x.to < 5)
theorem Edge.lt {l : List Wire} (h : InRooms l) {u v : Nat} (e : Edge l u v) : u < 5 ∧ v < 5 := by
  obtain ⟨x, hx, h1, h2⟩ := e
  have := h x hx
  omega

/-- A matrix of 5 by 5, by its place. -/
def upd (M : Nat → Bool) (i : Nat) : Nat → Bool := fun j => if j = i then true else M j
def cnt (M : Nat → Bool) (a : Nat) : Nat := (M (a * 5)).toNat + (M (a * 5 + 1)).toNat + (M (a * 5 + 2)).toNat + (M (a * 5 + 3)).toNat + (M (a * 5 + 4)).toNat
theorem cnt_le (M : Nat → Bool) (a : Nat) : cnt M a ≤ 5 := by
  have := fun i => Bool.toNat_le (M i)
  have h0 := this (a * 5); have h1 := this (a * 5 + 1); have h2 := this (a * 5 + 2); have h3 := this (a * 5 + 3); have h4 := this (a * 5 + 4)
  unfold cnt; omega
theorem cnt_upd {M : Nat → Bool} {a t : Nat} (ht : t < 5) (h : M (a * 5 + t) = false) : cnt (upd M (a * 5 + t)) a = cnt M a + 1 := by
  rcases (show t = 0 ∨ t = 1 ∨ t = 2 ∨ t = 3 ∨ t = 4 by omega) with rfl | rfl | rfl | rfl | rfl <;> simp_all [cnt, upd] <;> omega

/-- Behind some rounds of the walk from room a: M's rows; the queue. -/
structure Bfs (l : List Wire) (a : Nat) (M : Nat → Bool) (Q : List Nat) : Prop where
  done : ∀ u v, u < a → v < 5 → M (u * 5 + v) = reachB l u v
  fresh : ∀ u v, a < u → u < 5 → v < 5 → M (u * 5 + v) = false
  sound : ∀ v, v < 5 → M (a * 5 + v) = true → Reach l a v
  self : M (a * 5 + a) = true
  queue : ∀ v ∈ Q, v < 5 ∧ M (a * 5 + v) = true
  closed : ∀ v, v < 5 → M (a * 5 + v) = true → v ∉ Q → ∀ t, Edge l v t → M (a * 5 + t) = true

theorem upd_other {M : Nat → Bool} {i j : Nat} (h : j ≠ i) : upd M i j = M j := by simp [upd, h]
theorem upd_same (M : Nat → Bool) (i : Nat) : upd M i i = true := by simp [upd]
theorem upd_true {M : Nat → Bool} {i j : Nat} (h : M j = true) : upd M i j = true := by unfold upd; split <;> simp_all
theorem place {u v u' v' : Nat} (hv : v < 5) (hv' : v' < 5) (h : u * 5 + v = u' * 5 + v') : u = u' ∧ v = v' := by omega

theorem Bfs.start {l : List Wire} {a : Nat} {M : Nat → Bool} (ha : a < 5) (hd : ∀ u v, u < a → v < 5 → M (u * 5 + v) = reachB l u v) (hf : ∀ u v, a ≤ u → u < 5 → v < 5 → M (u * 5 + v) = false) : Bfs l a (upd M (a * 5 + a)) [a] := by
  refine ⟨fun u v hu hv => ?_, fun u v hu h5 hv => ?_, fun v hv h => ?_, upd_same _ _, fun v hv => ?_, fun v hv h hn => ?_⟩
  · rw [upd_other (by omega)]; exact hd u v hu hv
  · rw [upd_other (by omega)]; exact hf u v (by omega) h5 hv
  · by_cases e : v = a
    · subst e; exact .refl
    · rw [upd_other (by omega), hf a v (Nat.le_refl _) ha hv] at h; cases h
  · simp at hv; subst hv; exact ⟨ha, upd_same _ _⟩
  · by_cases e : v = a
    · subst e; simp at hn
    · rw [upd_other (by omega), hf a v (Nat.le_refl _) ha hv] at h; cases h

/-- In the middle of a round at room u, k wires on. -/
structure Mid (l : List Wire) (a : Nat) (M : Nat → Bool) (u : Nat) (Q : List Nat) (k : Nat) : Prop where
  bfs : Bfs l a M (u :: Q)
  here : ∀ j x, j < k → l[j]? = some x → x.fr = u → M (a * 5 + x.to.toNat) = true

theorem Mid.start {l : List Wire} {a u : Nat} {M : Nat → Bool} {Q : List Nat} (h : Bfs l a M (u :: Q)) : Mid l a M u Q 0 := ⟨h, fun j x hj => absurd hj (by omega)⟩
theorem Mid.skip {l : List Wire} {a u k : Nat} {M : Nat → Bool} {Q : List Nat} {x : Wire} (h : Mid l a M u Q k) (hx : l[k]? = some x) (hn : x.fr = u → M (a * 5 + x.to.toNat) = true) : Mid l a M u Q (k + 1) :=
  ⟨h.bfs, fun j y hj hy => by
    by_cases e : j = k
    · subst e; rw [hx] at hy; cases hy; exact hn
    · exact h.here j y (by omega) hy⟩
theorem Mid.hit {l : List Wire} {a u k : Nat} {M : Nat → Bool} {Q : List Nat} {x : Wire} (hr : InRooms l) (_ha : a < 5) (h : Mid l a M u Q k) (hx : l[k]? = some x) (hu : x.fr = u) (hn : M (a * 5 + x.to.toNat) = false) :
    Mid l a (upd M (a * 5 + x.to.toNat)) u (Q ++ [x.to.toNat]) (k + 1) := by
  have hmem := List.mem_of_getElem? hx
  have hb := hr x hmem
  obtain ⟨t, ht⟩ : ∃ t : Nat, x.to = t := ⟨x.to.toNat, by omega⟩
  have ht5 : t < 5 := by omega
  have he : Edge l u t := ⟨x, hmem, hu, ht⟩
  rw [ht, Int.toNat_natCast] at hn ⊢
  have hq := h.bfs.queue u (by simp)
  refine ⟨⟨fun p v hp hv => ?_, fun p v hp h5 hv => ?_, fun v hv hm => ?_, upd_true h.bfs.self, fun v hv => ?_, fun v hv hm hnq s hs => ?_⟩, fun j y hj hy hyu => ?_⟩
  · rw [upd_other (by omega)]; exact h.bfs.done p v hp hv
  · rw [upd_other (by omega)]; exact h.bfs.fresh p v hp h5 hv
  · by_cases e : v = t
    · subst e; exact (h.bfs.sound u hq.1 hq.2).step he
    · rw [upd_other (by omega)] at hm; exact h.bfs.sound v hv hm
  · simp only [List.mem_cons, List.mem_append, List.not_mem_nil, or_false] at hv
    rcases hv with hv | hv | hv
    · subst hv; exact ⟨hq.1, upd_true hq.2⟩
    · have := h.bfs.queue v (by simp [hv]); exact ⟨this.1, upd_true this.2⟩
    · subst hv; exact ⟨ht5, upd_same _ _⟩
  · simp only [List.mem_cons, List.mem_append, List.not_mem_nil, or_false, not_or] at hnq
    rw [upd_other (by have := hnq.2.2; omega)] at hm
    exact upd_true (h.bfs.closed v hv hm (by simp [hnq.1, hnq.2.1]) s hs)
  · by_cases e : j = k
    · subst e; rw [hx] at hy; cases hy; rw [ht, Int.toNat_natCast]; exact upd_same _ _
    · exact upd_true (h.here j y (by omega) hy hyu)
theorem Mid.pop {l : List Wire} {a u : Nat} {M : Nat → Bool} {Q : List Nat} (_hr : InRooms l) (h : Mid l a M u Q l.length) : Bfs l a M Q := by
  refine ⟨h.bfs.done, h.bfs.fresh, h.bfs.sound, h.bfs.self, fun v hv => h.bfs.queue v (by simp [hv]), fun v hv hm hn t ht => ?_⟩
  by_cases e : v = u
  · subst e
    obtain ⟨x, hx, h1, h2⟩ := ht
    obtain ⟨j, hj, rfl⟩ := List.getElem_of_mem hx
    have := h.here j _ hj (List.getElem?_eq_getElem hj) h1
    rw [h2, Int.toNat_natCast] at this
    exact this
  · exact h.bfs.closed v hv hm (by simp [e, hn]) t ht
theorem Bfs.finish {l : List Wire} {a : Nat} {M : Nat → Bool} (hr : InRooms l) (ha : a < 5) (h : Bfs l a M []) : ∀ u v, u < a + 1 → v < 5 → M (u * 5 + v) = reachB l u v := by
  intro u v hu hv
  by_cases e : u = a
  · subst e
    have all : ∀ t, Reach l u t → t < 5 ∧ M (u * 5 + t) = true := by
      intro t hR
      induction hR with
      | refl => exact ⟨ha, h.self⟩
      | step _ e ih => exact ⟨(e.lt hr).2, h.closed _ ih.1 ih.2 (by simp) _ e⟩
    cases hb : M (u * 5 + v) with
    | true => exact (reachB_iff.2 (h.sound v hv hb)).symm
    | false =>
      cases hc : reachB l u v with
      | false => rfl
      | true => rw [(all v (reachB_iff.1 hc)).2] at hb; cases hb
  · exact h.done u v (by omega) hv

/-- The matrix as cells. -/
def bitsA (M : Nat → Bool) : Array Value := ((List.range 25).map fun i => Value.bool (M i)).toArray
theorem bitsA_size (M : Nat → Bool) : (bitsA M).size = 25 := by simp [bitsA]
theorem bitsA_get (M : Nat → Bool) {i : Nat} (h : i < 25) : (bitsA M)[i]? = some (.bool (M i)) := by simp [bitsA, h]
theorem bitsA_set (M : Nat → Bool) {i : Nat} (_h : i < 25) : (bitsA M).setIfInBounds i (.bool true) = bitsA (upd M i) := by
  apply Array.ext
  · simp [bitsA]
  · intro j h1 h2
    simp [bitsA] at h1 h2
    by_cases e : i = j
    · subst e; simp [bitsA, upd]
    · rw [Array.getElem_setIfInBounds_ne _ e]
      · simp [bitsA, upd, Ne.symm e]
      · simp [bitsA, h2]
theorem bitsA_zero : bitsA (fun _ => false) = #[.bool false, .bool false, .bool false, .bool false, .bool false, .bool false, .bool false, .bool false, .bool false, .bool false, .bool false, .bool false, .bool false, .bool false, .bool false, .bool false, .bool false, .bool false, .bool false, .bool false, .bool false, .bool false, .bool false, .bool false, .bool false] := by rfl
theorem bitsA_congr {M N : Nat → Bool} (h : ∀ i, i < 25 → M i = N i) : bitsA M = bitsA N := by
  unfold bitsA
  congr 1
  apply List.map_congr_left
  intro i hi
  rw [h i (by simpa using hi)]
theorem bitsA_one (M : Nat → Bool) : (bitsA M).all (·.oneCell') = true := by simp [bitsA, Value.oneCell']
end Go.Proofs.YtongkiccglaniaaDoor

/- Package flow: contracts of Check, Right, Ways, for every list of wires. -/
namespace Go.Proofs.YtongkiccglaniaaDoor
open Go.RowKit
set_option maxRecDepth 100000

def wiresChk (l : List Wire) : Nat → Nat → Nat × Int
  | 0, _ => (0, 0)
  | fuel + 1, i => match l[i]? with
    | none => (0, 0)
    | some x => if wireChk x = 0 then wiresChk l fuel (i + 1) else (i, wireChk x)
def flowChk (l : List Wire) : Nat × Int := if 12 < l.length then (0, 4) else wiresChk l (l.length + 1) 0
theorem wiresChk_bad {l : List Wire} {f k : Nat} {x : Wire} (hg : l[k]? = some x) (hb : wireChk x ≠ 0) : wiresChk l (f + 1) k = (k, wireChk x) := by simp [wiresChk, hg, hb]
theorem wiresChk_next {l : List Wire} {f k : Nat} {x : Wire} (hg : l[k]? = some x) (hb : wireChk x = 0) : wiresChk l (f + 1) k = wiresChk l f (k + 1) := by simp [wiresChk, hg, hb]
theorem wiresChk_end {l : List Wire} {f k : Nat} (h : l.length ≤ k) : wiresChk l f k = (0, 0) := by
  cases f with
  | zero => rfl
  | succ f => simp [wiresChk, List.getElem?_eq_none h]
theorem wiresChk_ok {l : List Wire} : ∀ {f k : Nat}, l.length < f + k → (wiresChk l f k).2 = 0 → ∀ j x, k ≤ j → l[j]? = some x → wireChk x = 0
  | 0, k, hf, _, j, x, hj, hx => by have := (List.getElem?_eq_some_iff.1 hx).1; omega
  | f + 1, k, hf, h, j, x, hj, hx => by
    have hk : k < l.length := by have := (List.getElem?_eq_some_iff.1 hx).1; omega
    have hg := List.getElem?_eq_getElem hk
    by_cases hb : wireChk l[k] = 0
    · rw [wiresChk_next hg hb] at h
      by_cases e : j = k
      · subst e; rw [hg] at hx; cases hx; exact hb
      · exact wiresChk_ok (by omega) h j x (by omega) hx
    · rw [wiresChk_bad hg hb] at h; exact absurd h hb
theorem flowChk_ok {l : List Wire} (h : (flowChk l).2 = 0) : l.length ≤ 12 ∧ (∀ x ∈ l, wireChk x = 0) ∧ InRooms l := by
  unfold flowChk at h
  split at h
  · simp at h
  · rename_i h12
    have all : ∀ x ∈ l, wireChk x = 0 := by
      intro x hx
      obtain ⟨j, hj, rfl⟩ := List.getElem_of_mem hx
      exact wiresChk_ok (by omega) h j _ (Nat.zero_le _) (List.getElem?_eq_getElem hj)
    refine ⟨by omega, all, fun x hx => ?_⟩
    have := all x hx
    unfold wireChk at this
    split at this
    · omega
    · rename_i h1
      have h2 : roomB x.fr = true ∧ roomB x.to = true := by
        constructor
        · cases h : roomB x.fr with
          | true => rfl
          | false => exact absurd (.inl h) h1
        · cases h : roomB x.to with
          | true => rfl
          | false => exact absurd (.inr (.inl h)) h1
      exact ⟨roomB_true.1 h2.1, roomB_true.1 h2.2⟩

theorem Sl.wire {w : World} {A : Option Addr} {n : Nat} {l : List Wire} (h : Sl w A 4 n (l.flatMap Wire.cells)) {wr : World} (hb : Below w.heap.size w wr) {i : Nat} (hi : i < l.length) (hn : i < n) :
    ∃ b off, A = some ⟨b, off, none⟩ ∧ b < w.heap.size ∧ wr.cell? ⟨b, off + i * 4, none⟩ = some (.int .i64 l[i].fr) ∧ wr.cell? ⟨b, off + i * 4 + 1, none⟩ = some (.int .i64 l[i].to) ∧
      wr.cell? ⟨b, off + i * 4 + 2, none⟩ = some (.int .i64 l[i].kind) ∧ wr.cell? ⟨b, off + i * 4 + 3, none⟩ = some (.int .i64 l[i].deep) := by
  obtain ⟨b, off, rfl, hlt, hx⟩ := h.2 (by omega)
  have hg := fun j (hj : j < 4) => flatMap_get Wire.cells 4 Wire.len l i j l[i] (List.getElem?_eq_getElem hi) hj
  have hk := fun o => hb.cell (p := ⟨b, o, none⟩) hlt
  refine ⟨b, off, rfl, hlt, ?_, ?_, ?_, ?_⟩
  · rw [hk]; exact hx _ _ ((hg 0 (by omega)).trans rfl)
  · rw [hk, Nat.add_assoc]; exact hx _ _ ((hg 1 (by omega)).trans rfl)
  · rw [hk, Nat.add_assoc]; exact hx _ _ ((hg 2 (by omega)).trans rfl)
  · rw [hk, Nat.add_assoc]; exact hx _ _ ((hg 3 (by omega)).trans rfl)

def FlowFound (w : World) (r : Nat × Int) (e : Ending) (w' : World) : Prop := e = .returned (.tuple #[.int .i64 r.1, errV r.2]) ∧ Below w.heap.size w w'

set_option maxHeartbeats 1000000 in
theorem flow_check (A : Option Addr) (c : Nat) (l : List Wire) (w : World) (hs : Sl w A 4 l.length (l.flatMap Wire.cells)) (hsw : SlW A c l.length) :
    Calls Tryd.prog 127 #[.slice A l.length c] w (FlowFound w (flowChk l)) := by
  obtain ⟨hs1, hs2, hs3⟩ := hsw
  unfold maxLen at hs2
  have HS := hid hs
  clear hs hs3
  unfold flowChk
  by_cases h12 : 12 < l.length
  · rw [if_pos h12]
    go_enter Tryd.func127, Tryd.ntmps127
    go_wp2
    go_ret2
    exact ⟨rfl, Below.refl _ _⟩
  · rw [if_neg h12]
    obtain ⟨q, hq⟩ : ∃ q, q = wiresChk l (l.length + 1) 0 := ⟨_, rfl⟩
    rw [← hq]
    have HQ := hid hq
    clear hq
    go_enter Tryd.func127, Tryd.ntmps127
    go_wp2_with fail
    go_loopw [4, 5, 6, 13] (fun v4 v5 v6 v13 wr => ∃ k : Nat, k ≤ l.length ∧ v13 = .int .i64 k ∧ q = wiresChk l (l.length + 1 - k) k ∧ Below w.heap.size w wr) (fun _ _ _ v13 _ => l.length - (intOf v13).toNat)
    case atStart => exact ⟨0, by omega, rfl, HQ.out, Below.refl _ _⟩
    case round =>
      obtain ⟨k, hk, rfl, hr, hb⟩ := hrel
      have HR := hid hr
      have HB := hid hb
      clear hr hb
      by_cases hkl : k < l.length
      · obtain ⟨f, hf⟩ : ∃ f, l.length + 1 - k = f + 1 := ⟨l.length - k, by omega⟩
        have HF := hid hf
        clear hf
        obtain ⟨b, off, rfl, hlb, g0, g1, g2, g3⟩ := HS.out.wire HB.out hkl hkl
        have hget := List.getElem?_eq_getElem hkl
        generalize l[k] = x at g0 g1 g2 g3 hget
        have HG := hid hget
        clear hget
        by_cases hc : wireChk x = 0
        · have hq := HR.out
          rw [HF.out, wiresChk_next HG.out hc] at hq
          have HQ2 := hid hq
          have HC : Hid (errV (wireChk ⟨x.fr, x.to, x.kind, x.deep⟩) = .nilIface) := by show errV (wireChk x) = _; rw [hc]; rfl
          clear hc hq
          go_wp2_with (go_at_call 121; refine (wire_check x.fr x.to x.kind x.deep _).mono ?_; rw [HC.out]; rintro e w1 ⟨rfl, hb1⟩; have HB1 := hid hb1; clear hb1)
          go_roundw
          case rel => exact ⟨k + 1, by omega, by go_num, by rw [HQ2.out]; congr 1; have := HF.out; omega, (HB.out.alloc HB.out.size _).trans (HB1.out.mono (by have := HB.out.size; simp; omega))⟩
          case measure => simp [intOf]; omega
        · have hq := HR.out
          rw [HF.out, wiresChk_bad HG.out hc] at hq
          subst hq
          have he := errV_pos hc
          have HE : Hid (errV (wireChk ⟨x.fr, x.to, x.kind, x.deep⟩) = .iface 125 (.int .i64 (wireChk x))) := he
          clear hc he
          go_wp2_with (go_at_call 121; refine (wire_check x.fr x.to x.kind x.deep _).mono ?_; rw [HE.out]; rintro e w1 ⟨rfl, hb1⟩; have HB1 := hid hb1; clear hb1)
          go_ret2
          exact ⟨by have h : errV (wireChk x) = _ := HE.out; rw [h]; rfl, (HB.out.alloc HB.out.size _).trans (HB1.out.mono (by have := HB.out.size; simp; omega))⟩
      · have hq := HR.out
        rw [wiresChk_end (by omega)] at hq
        subst hq
        go_wp2_with fail
        go_ret2
        exact ⟨rfl, HB.out⟩

theorem flow_right (A : Option Addr) (c : Nat) (l : List Wire) (w : World) (hs : Sl w A 4 l.length (l.flatMap Wire.cells)) (hsw : SlW A c l.length) :
    Calls Tryd.prog 87 #[.slice A l.length c] w fun e w' => e = .returned (errV (flowChk l).2) ∧ Below w.heap.size w w' := by
  have HS := hid hs
  have HW := hid hsw
  clear hs hsw
  go_enter Tryd.func87, Tryd.ntmps87
  go_wp2_with (go_at_call 127; refine (flow_check A c l _ HS.out HW.out).mono ?_; rintro e w1 ⟨rfl, hb1⟩)
  go_ret
  exact ⟨rfl, hb1⟩
end Go.Proofs.YtongkiccglaniaaDoor

/- Package flow: the contract of Ways, for every list of wires that is right: who reaches whom. -/
namespace Go.Proofs.YtongkiccglaniaaDoor
open Go.RowKit
set_option maxRecDepth 100000

def isT : Option Value → Nat
  | some (.bool true) => 1
  | _ => 0
def cntW (w : World) (b a : Nat) : Nat := isT (w.cell? ⟨b, a * 5, none⟩) + isT (w.cell? ⟨b, a * 5 + 1, none⟩) + isT (w.cell? ⟨b, a * 5 + 2, none⟩) + isT (w.cell? ⟨b, a * 5 + 3, none⟩) + isT (w.cell? ⟨b, a * 5 + 4, none⟩)
theorem cntW_eq {w : World} {b t a : Nat} {M : Nat → Bool} (h : w.heap[b]? = some (.cells (bitsA M) t (0, 0))) (ha : a < 5) : cntW w b a = cnt M a := by
  have g := fun i (hi : i < 25) => (blk_cell h i).trans (bitsA_get M hi)
  unfold cntW cnt
  rw [g (a * 5) (by omega), g (a * 5 + 1) (by omega), g (a * 5 + 2) (by omega), g (a * 5 + 3) (by omega), g (a * 5 + 4) (by omega)]
  have : ∀ x, isT (some (.bool x)) = x.toNat := fun x => by cases x <;> rfl
  simp only [this]
theorem cell_alloc_at {w : World} {b i t : Nat} {cs : Array Value} {v : Value} (h : b = w.heap.size) (hv : cs[i]? = some v) : (w.alloc (.cells cs t)).cell? ⟨b, i, none⟩ = some v := by subst h; exact (blk_cell (heap_alloc_new w _) i).trans hv
def lenOf : Value → Nat
  | .slice _ n _ => n
  | _ => 0
def nats (Q : List Nat) : List Int := Q.map (fun (v : Nat) => (v : Int))

/-- Who reaches whom, as a value. -/
noncomputable def waysV (l : List Wire) : Array Value := bitsA fun i => reachB l (i / 5) (i % 5)
def IsWays (w : World) (l : List Wire) (e : Ending) (w' : World) : Prop := e = .returned (.agg (waysV l)) ∧ Below w.heap.size w w'

set_option maxHeartbeats 8000000 in
set_option maxRecDepth 100000 in
theorem ways_any (A0 : Option Addr) (c0 : Nat) (l : List Wire) (w : World) (hs : Sl w A0 4 l.length (l.flatMap Wire.cells)) (hl : l.length ≤ 12) (hr : InRooms l) :
    Calls Tryd.prog 84 #[.slice A0 l.length c0] w (IsWays w l) := by
  obtain ⟨i0, hi0, hz0, hz1, hz2⟩ := info_parts Tryd.infoInt
  have HS := hid hs
  have HR := hid hr
  clear hs hr
  go_enter Tryd.func84, Tryd.ntmps84
  go_wp2_with fail
  go_loopw [4, 5, 7, 8] (fun v4 v5 v7 v8 wr => ∃ (a : Nat) (M : Nat → Bool), a ≤ 5 ∧ v8 = .int .i64 a ∧ wr.heap[w.heap.size]? = some (.cells (bitsA fun _ => false) 161 (0, 0)) ∧ wr.heap[w.heap.size + 1]? = some (.cells (bitsA M) 161 (0, 0)) ∧
      (∀ u v, u < a → v < 5 → M (u * 5 + v) = reachB l u v) ∧ (∀ u v, a ≤ u → u < 5 → v < 5 → M (u * 5 + v) = false) ∧ Below w.heap.size w wr) (fun _ _ _ v8 _ => 5 - (intOf v8).toNat)
  case atStart =>
    refine ⟨0, fun _ => false, by omega, rfl, ?_, ?_, fun u v hu => absurd hu (by omega), fun _ _ _ _ _ => rfl, ((Below.refl _ _).alloc (Nat.le_refl _) _).alloc (by simp) _⟩
    · rw [hp_alloc, if_neg (by simp), hp_alloc, if_pos rfl]; rfl
    · rw [hp_alloc, if_pos (by simp)]; rfl
  case round =>
    obtain ⟨a, M, ha, rfl, hb0, hb1, hd, hf, hb⟩ := hrel
    have HB0 := hid hb0
    have HB1 := hid hb1
    have HD := hid hd
    have HF := hid hf
    have HB := hid hb
    have hlt1 := blk_lt hb1
    clear hb0 hb1 hd hf hb
    by_cases hlt : a < 5
    · have hlti : (a : Int) < 5 := by omega
      have k1 := (blk_cell HB1.out (a * 5 + a)).trans (bitsA_get M (by omega))
      have f1 := blk_free HB1.out (a * 5 + a)
      go_wp2_with fail
      go_loopw [5, 7] (fun v5 v7 wq => ∃ (M2 : Nat → Bool) (Q : List Nat) (A : Option Addr) (n cap : Nat), v5 = .slice A n cap ∧ Q.length = n ∧ Row wq 3 1 A n cap (ints (nats Q)) ∧ (∀ k, InA A k → w.heap.size + 2 ≤ k) ∧
          wq.heap[w.heap.size]? = some (.cells (bitsA fun _ => false) 161 (0, 0)) ∧ wq.heap[w.heap.size + 1]? = some (.cells (bitsA M2) 161 (0, 0)) ∧ Bfs l a M2 Q ∧ 2 * (5 - cnt M2 a) + Q.length ≤ 9 ∧ Below w.heap.size w wq)
        (fun v5 _ wq => 2 * (5 - cntW wq (w.heap.size + 1) a) + lenOf v5)
      case atStart =>
        refine ⟨upd M (a * 5 + a), [a], some ⟨wr.heap.size, 0, none⟩, 1, 1, rfl, rfl, ⟨rfl, .inr ⟨wr.heap.size, 0, #[.int .i64 a], rfl, ?_, by simp, by simp [maxLen], by simp, ?_⟩⟩, fun k hk => by simp [InA] at hk; omega, ?_, ?_, Bfs.start hlt HD.out HF.out, (by have := cnt_upd (a := a) hlt (HF.out a a (Nat.le_refl _) hlt hlt); simp only [List.length_cons, List.length_nil]; omega), ?_⟩
        · rw [hp_alloc, sz_set, if_pos rfl]
        · intro j u hu
          match j, hu with
          | 0, hu => simpa [ints, nats] using hu
        · rw [hp_alloc, sz_set, if_neg (by omega), hp_set, if_neg (by omega)]; exact HB0.out
        · rw [hp_alloc, sz_set, if_neg (by omega), hp_set, if_pos rfl, HB1.out]
          simp only [Option.map_some, setObj]
          rw [bitsA_set _ (by omega)]
        · exact (HB.out.setCell (by simp) _).alloc (by rw [sz_set]; exact HB.out.size) _
      case round =>
        obtain ⟨M2, Q, A, n, cap, rfl, hqn, hrow, hnew, hc0, hc1, hbfs, hpot2, hbel⟩ := hrel
        obtain ⟨wq, hwq⟩ : ∃ wq : World, wq = wr := ⟨_, rfl⟩
        subst hwq
        have HROW := hid hrow
        have HNEW := hid hnew
        have HC0 := hid hc0
        have HC1 := hid hc1
        have HBFS := hid hbfs
        have HPOT2 := hid hpot2
        have HBEL := hid hbel
        have hlt2 := blk_lt hc1
        clear hrow hnew hc0 hc1 hbfs hpot2 hbel
        cases Q with
        | nil =>
          simp only [List.length_nil] at hqn
          subst hqn
          go_wp2_with fail
          go_roundw
          case rel => exact ⟨a + 1, M2, by omega, by go_num, HC0.out, HC1.out, HBFS.out.finish HR.out hlt, fun u v hu h5 hv => HBFS.out.fresh u v (by omega) h5 hv, HBEL.out⟩
          case measure => simp [intOf]; omega
        | cons u Q =>
          simp only [List.length_cons] at hqn
          have hn1 : 1 ≤ n := by omega
          have hn0 : 0 < n := by omega
          have hn63 := HROW.out.le
          unfold maxLen at hn63
          have HQN := hid hqn
          clear hqn
          go_wp2_with fail
          go_loopw [5, 7, 24] (fun v5 v7 v24 wi => ∃ (k : Nat) (M3 : Nat → Bool) (Q3 : List Nat) (A3 : Option Addr) (n3 cap3 : Nat), k ≤ l.length ∧ v24 = .int .i64 k ∧ v5 = .slice A3 n3 cap3 ∧ Q3.length + 1 = n3 ∧ Row wi 3 1 A3 n3 cap3 (ints (nats (u :: Q3))) ∧ (∀ k, InA A3 k → w.heap.size + 2 ≤ k) ∧
              wi.heap[w.heap.size]? = some (.cells (bitsA fun _ => false) 161 (0, 0)) ∧ wi.heap[w.heap.size + 1]? = some (.cells (bitsA M3) 161 (0, 0)) ∧ Mid l a M3 u Q3 k ∧
              2 * (5 - cnt M3 a) + (Q3.length + 1) ≤ 2 * (5 - cnt M2 a) + (Q.length + 1) ∧ Below w.heap.size w wi) (fun _ _ v24 _ => l.length - (intOf v24).toNat)
          case atStart => exact ⟨0, M2, Q, A, n, cap, by omega, rfl, rfl, HQN.out, HROW.out, HNEW.out, HC0.out, HC1.out, Mid.start HBFS.out, Nat.le_refl _, HBEL.out⟩
          case round =>
            obtain ⟨k, M3, Q3, A3, n3, cap3, hk, rfl, rfl, hqn3, hrow3, hnew3, hd0, hd1, hmid, hpot, hbel3⟩ := hrel
            obtain ⟨wi, hwi⟩ : ∃ wi : World, wi = wr := ⟨_, rfl⟩
            subst hwi
            have HROW3 := hid hrow3
            have HNEW3 := hid hnew3
            have HD0 := hid hd0
            have HD1 := hid hd1
            have HMID := hid hmid
            have HPOT := hid hpot
            have HBEL3 := hid hbel3
            have hlt3 := blk_lt hd1
            have hle3 := hrow3.le
            have hq3l : Q3.length ≤ 8 := by have := HPOT2.out; simp only [List.length_cons] at this; omega
            have hq := hmid.bfs.queue u (by simp)
            have hu5 := hq.1
            have hsl := hrow3.sl.2 (by omega)
            have hn31 : 1 ≤ n3 := by omega
            have hn38 : n3 ≤ 9 := by omega
            have HQN3 := hid hqn3
            clear hrow3 hnew3 hd0 hd1 hmid hpot hbel3 hq hqn3
            unfold maxLen at hle3
            by_cases hkl : k < l.length
            · obtain ⟨b, off, rfl, hlb, g0, g1, g2, g3⟩ := HS.out.wire HBEL3.out hkl hkl
              have hget := List.getElem?_eq_getElem hkl
              have hin := HR.out l[k] (List.getElem_mem hkl)
              have hltb : b < wi.heap.size := cell_lt g0
              generalize l[k] = x at g0 g1 g2 g3 hget hin
              obtain ⟨f, t, kk, dd⟩ := x
              obtain ⟨⟨hf0, hf5⟩, ht0, ht5⟩ := hin
              simp only [] at g0 g1 g2 g3 hf0 hf5 ht0 ht5
              obtain ⟨t, rfl⟩ : ∃ n : Nat, t = n := ⟨t.toNat, by omega⟩
              have ht5' : t < 5 := by omega
              have HG := hid hget
              clear hget
              obtain ⟨qb, qo, rfl, hqb, hqx⟩ := hsl
              have qc : wi.cell? ⟨qb, qo, none⟩ = some (.int .i64 u) := hqx 0 _ rfl
              clear hqx
              have oc := (blk_cell HD1.out (a * 5 + t)).trans (bitsA_get M3 (by omega))
              have of := blk_free HD1.out (a * 5 + t)
              generalize hm : M3 (a * 5 + t) = m at oc
              have HM := hid hm
              clear hm
              by_cases hfu : f = (u : Int)
              · subst hfu
                cases m with
                | true =>
                  go_wp2_with fail
                  go_quiet (fail)
                  go_wp2_with fail
                  go_roundw
                  case rel =>
                    have hkp : ∀ o : Obj, Keep (fun _ => False) wi ((wi.alloc o).drewN nq) := fun o => ((Keep.refl _ wi).alloc o).drewN nq
                    exact ⟨k + 1, M3, Q3, _, n3, cap3, by omega, by go_num, rfl, HQN3.out, HROW3.out.through (hkp _) (fun _ _ h => h), HNEW3.out, ((hkp _).block _ (by omega) (fun h => h)).trans HD0.out, ((hkp _).block _ hlt3 (fun h => h)).trans HD1.out, HMID.out.skip HG.out (fun _ => by simpa using HM.out), HPOT.out, HBEL3.out.trans ((hkp _).below HBEL3.out.size (fun _ h => h.elim))⟩
                  case measure => simp [intOf]; omega
                | false =>
                  have HAP : Hid (¬ InA (some ⟨qb, qo, none⟩) (w.heap.size + 1)) := HROW3.out.apart HD1.out (by decide)
                  go_wp2_with fail
                  go_quiet (fail)
                  go_wp2_with fail
                  have x1 : ((wi.alloc (Obj.cells #[.int .i64 u, .int .i64 t, .int .i64 kk, .int .i64 dd] 48)).drewN nq).cell? ⟨wi.heap.size, 1, none⟩ = some (.int .i64 t) := blk_cell (heap_alloc_new wi _) 1
                  have x2 : ((wi.alloc (Obj.cells #[.int .i64 u, .int .i64 t, .int .i64 kk, .int .i64 dd] 48)).drewN nq).cell? ⟨w.heap.size + 1, a * 5 + t, none⟩ = some (.bool false) := (World.cell?_alloc_lt wi _ ⟨w.heap.size + 1, a * 5 + t, none⟩ hlt3).trans oc
                  have x3 : ((wi.alloc (Obj.cells #[.int .i64 u, .int .i64 t, .int .i64 kk, .int .i64 dd] 48)).drewN nq).frozen? ⟨w.heap.size + 1, a * 5 + t, none⟩ = false := (World.frozen?_of_block (w := wi) (a := ⟨w.heap.size + 1, a * 5 + t, none⟩) (blk_alloc hlt3 _)).trans of
                  have x4 : wi.heap.size < ((wi.alloc (Obj.cells #[.int .i64 u, .int .i64 t, .int .i64 kk, .int .i64 dd] 48)).drewN nq).heap.size := by simp
                  have xk : ∀ F, Keep F wi ((wi.alloc (Obj.cells #[.int .i64 u, .int .i64 t, .int .i64 kk, .int .i64 dd] 48)).drewN nq) := fun F => ((Keep.refl _ wi).alloc _).drewN nq
                  generalize ((wi.alloc (Obj.cells #[.int .i64 u, .int .i64 t, .int .i64 kk, .int .i64 dd] 48)).drewN nq) = wx at *
                  have XK := hid xk
                  have hxn : wi.heap.size ≠ w.heap.size + 1 := by omega
                  have hxm : w.heap.size + 1 ≠ wi.heap.size := by omega
                  clear xk oc of qc
                  go_region
                  all_goals go_wp2_with (first
                    | (at_builtin
                       refine wpList_append_row _ rfl (.tmp 48) (.tmp 51) 43 rfl 3 i0 (.int .i64 0) 1 8 Tryd.underlying43 hi0 hz0 hz1 hz2 rfl (by decide) (some ⟨qb, qo, none⟩) n3 cap3 (ints (nats (u :: Q3))) rfl
                         (by exact (HROW3.out.through (XK.out (fun _ => False)) (fun _ _ h => h)).through (F := fun i => i = w.heap.size + 1) (by repeat (first | exact Keep.refl _ _ | refine Keep.drewN ?_ _ | refine Keep.drew ?_ | refine Keep.alloc ?_ _ | refine Keep.setCell ?_ (by exact Or.inl rfl) _)) (fun i hi h => HAP.out (by subst h; exact hi)))
                         (some ⟨wx.heap.size, 0, none⟩) 1 1 (ints [(t : Int)]) rfl
                         (by exact ⟨rfl, fun _ => ⟨wx.heap.size, 0, rfl, by simp, fun j v hv => by
                               match j, hv with
                               | 0, hv => (simp [ints] at hv; subst hv; exact cell_alloc_at (by simp) rfl)⟩⟩)
                         (ints_one _) (by unfold maxLen; omega) (by omega) ?_
                       intro A4 cap4 w4 hr4 hk4 hi4))
                  all_goals
                    have hK : Keep (fun i => i = w.heap.size + 1 ∨ InA (some ⟨qb, qo, none⟩) i) wi w4 := Keep.then (by repeat (first | exact XK.out _ | refine Keep.drewN ?_ _ | refine Keep.drew ?_ | refine Keep.alloc ?_ _ | refine Keep.setCell ?_ (by exact Or.inl (Or.inl rfl)) _)) hk4 (fun i _ h => .inr h)
                    have e4 := hk4.block (w.heap.size + 1) (by simp; omega) HAP.out
                    simp only [hp_alloc, hp_drew, hp_set, sz_set, if_true] at e4
                    rw [if_neg (by omega), (XK.out (fun _ => False)).block _ hlt3 (fun h => h), HD1.out] at e4
                    simp only [Option.map_some, setObj] at e4
                    rw [bitsA_set _ (by omega)] at e4
                    have hz4 := hk4.size
                    have E4 := hid e4
                    have HK4 := hid hK
                    have HR4 := hid hr4
                    have HI4 := hid hi4
                    clear e4 hK hr4 hi4 hk4
                    go_wp2_with fail
                    go_roundw
                    case rel =>
                      have hK := HK4.out
                      have hbs := HBEL3.out.size
                      have hml := HMID.out.hit HR.out hlt HG.out rfl (by simpa using HM.out)
                      refine ⟨k + 1, upd M3 (a * 5 + t), Q3 ++ [t], A4, n3 + 1, cap4, by omega, by go_num, rfl, by have := HQN3.out; simp; omega, by simpa [ints, nats] using HR4.out, ?_, ?_, E4.out, by simpa using hml, ?_, HBEL3.out.trans (hK.below hbs ?_)⟩
                      · intro i hi
                        rcases HI4.out i hi with h | h
                        · exact HNEW3.out i h
                        · have := (XK.out (fun _ => False)).size; simp at h; omega
                      · refine (hK.block _ (by omega) ?_).trans HD0.out
                        rintro (h | h)
                        · omega
                        · have := HNEW3.out _ h; omega
                      · have := HPOT.out
                        have := cnt_upd (a := a) ht5' HM.out
                        have := cnt_le (upd M3 (a * 5 + t)) a
                        simp only [List.length_append, List.length_cons, List.length_nil]
                        omega
                      · rintro i (h | h)
                        · omega
                        · have := HNEW3.out _ h; omega
                    case measure => simp [intOf]; omega
              · have hbf : (f == (u : Int)) = false := by simpa using hfu
                have HFU := hid hfu
                clear hfu
                go_wp2_with fail
                go_quiet (fail)
                go_wp2_with fail
                go_roundw
                case rel =>
                  have hkp : ∀ o : Obj, Keep (fun _ => False) wi ((wi.alloc o).drewN nq) := fun o => ((Keep.refl _ wi).alloc o).drewN nq
                  exact ⟨k + 1, M3, Q3, _, n3, cap3, by omega, by go_num, rfl, HQN3.out, HROW3.out.through (hkp _) (fun _ _ h => h), HNEW3.out, ((hkp _).block _ (by omega) (fun h => h)).trans HD0.out, ((hkp _).block _ hlt3 (fun h => h)).trans HD1.out, HMID.out.skip HG.out (fun h => absurd h HFU.out), HPOT.out, HBEL3.out.trans ((hkp _).below HBEL3.out.size (fun _ h => h.elim))⟩
                case measure => simp [intOf]; omega
            · obtain rfl : k = l.length := by omega
              have hpop := HMID.out.pop HR.out
              have HPOP := hid hpop
              clear hpop
              have htail := HROW3.out.tail (k := 1) hn31
              have HT := hid htail
              clear htail
              by_cases hcap : cap3 = 1
              · subst hcap
                obtain rfl : n3 = 1 := by omega
                go_wp2_with fail
                go_roundw
                case rel =>
                  have hlen : Q3.length = 0 := by have := HQN3.out; omega
                  refine ⟨M3, Q3, _, 0, 0, rfl, hlen, ?_, ?_, HD0.out, HD1.out, HPOP.out, ?_, HBEL3.out⟩
                  · have h := HT.out
                    rw [if_pos rfl] at h
                    simpa [ints, nats, Addr.add] using h
                  · intro i hi
                    exact HNEW3.out i (by simpa [InA] using hi)
                  · have := HPOT.out
                    have := HPOT2.out
                    have := HQN.out
                    simp only [List.length_cons] at *
                    omega
                case measure =>
                  simp only [lenOf]
                  rw [cntW_eq HD1.out hlt, cntW_eq HC1.out hlt]
                  have := HPOT.out
                  have := HQN.out
                  have := HQN3.out
                  omega

              · go_wp2_with fail
                go_roundw
                case rel =>
                  have hlen : Q3.length = (n3 - 1) := by have := HQN3.out; omega
                  refine ⟨M3, Q3, _, (n3 - 1), (cap3 - 1), rfl, hlen, ?_, ?_, HD0.out, HD1.out, HPOP.out, ?_, HBEL3.out⟩
                  · have h := HT.out
                    rw [if_neg hcap] at h
                    simpa [ints, nats, Addr.add] using h
                  · intro i hi
                    exact HNEW3.out i (by simpa [InA] using hi)
                  · have := HPOT.out
                    have := HPOT2.out
                    have := HQN.out
                    simp only [List.length_cons] at *
                    omega
                case measure =>
                  simp only [lenOf]
                  rw [cntW_eq HD1.out hlt, cntW_eq HC1.out hlt]
                  have := HPOT.out
                  have := HQN.out
                  have := HQN3.out
                  omega

    · obtain rfl : a = 5 := by omega
      have hM : bitsA M = waysV l := bitsA_congr fun i hi => by
        have h1 := HD.out (i / 5) (i % 5) (by omega) (by omega)
        rw [show i / 5 * 5 + i % 5 = i by omega] at h1
        exact h1
      have HM := hid hM
      clear hM
      have hi75 : (Tryd.prog.info? 161).map (·.size) = some (bitsA M).size := by rw [bitsA_size]; kernel_rfl
      have hne : w.heap.size ≠ w.heap.size + 1 := by omega
      go_wp2_with (first
        | (refine wpList_load_row rfl 161 _ rfl (w.heap.size + 1) rfl _ (bitsA M) _ _ HB1.out Tryd.underlying161 rfl hi75 ?_)
        | (refine wpList_store_row rfl 161 _ _ rfl w.heap.size (bitsA M) rfl rfl _ _ HB0.out hi75 (by simp [bitsA_size]) (bitsA_one M) ?_))
      refine bodyPost_ret (results_cell_row rfl _ _ w.heap.size _ (bitsA M) _ _ rfl (setRow_heap wr w.heap.size _ _ _ _ HB0.out) Tryd.underlying161 rfl hi75) rfl ?_
      refine ⟨by rw [HM.out], HB.out.trans ⟨rfl, rfl, rfl, by simp [World.setRow], fun k hk => setRow_other _ _ _ _ (by omega)⟩⟩

/-- A row of the matrix, and a cell of it. -/
theorem ways_row (l : List Wire) (a : Nat) (ha : a < 5) (w : World) : (Instr.index 161 (.agg (waysV l)) (.int .i64 a)).run Tryd.prog w = .ok (.agg ((waysV l).extract (a * 5) (a * 5 + 5))) w := by
  rcases (show a = 0 ∨ a = 1 ∨ a = 2 ∨ a = 3 ∨ a = 4 by omega) with rfl | rfl | rfl | rfl | rfl <;> kernel_rfl
theorem ways_cell (l : List Wire) (a b : Nat) (ha : a < 5) (hb : b < 5) (w : World) : (Instr.index 160 (.agg ((waysV l).extract (a * 5) (a * 5 + 5))) (.int .i64 b)).run Tryd.prog w = .ok (.bool (reachB l a b)) w := by
  rcases (show a = 0 ∨ a = 1 ∨ a = 2 ∨ a = 3 ∨ a = 4 by omega) with rfl | rfl | rfl | rfl | rfl <;> rcases (show b = 0 ∨ b = 1 ∨ b = 2 ∨ b = 3 ∨ b = 4 by omega) with rfl | rfl | rfl | rfl | rfl <;> kernel_rfl
end Go.Proofs.YtongkiccglaniaaDoor

/- Package flow: who reaches whom, as a row that is stored and read. -/
namespace Go.Proofs.YtongkiccglaniaaDoor
open Go.RowKit
set_option maxRecDepth 100000

theorem waysV_get (l : List Wire) {t f : Nat} (ht : t < 5) (hf : f < 5) : (waysV l)[t * 5 + f]? = some (.bool (reachB l t f)) := by
  have := bitsA_get (fun i => reachB l (i / 5) (i % 5)) (show t * 5 + f < 25 by omega)
  rw [show (t * 5 + f) / 5 = t by omega, show (t * 5 + f) % 5 = f by omega] at this
  exact this
theorem wpList_store_rowK {P : Program} {ops : Array Oper} {rest : List Oper} {o : Oper} {a : Act} {w : World} {Q : Exit → Act → World → Prop} (hgd : o.guard = none) (ty : TypeId) (x y : Operand) (ho : o.op = .store ty x y)
    (g : Nat) (cells : Array Value) (hx : a.eval x = .pointer (some ⟨g, 0, none⟩)) (hy : a.eval y = .agg cells)
    (t : TypeId) (old : Array Value) (hg : w.heap[g]? = some (.cells old t (0, 0))) (hi : (P.info? ty).map (·.size) = some cells.size)
    (hold : old.size = cells.size) (h1 : cells.all (·.oneCell') = true)
    (h : ∀ w', w'.heap[g]? = some (.cells cells t (0, 0)) → Keep (fun i => i = g) w w' → w'.heap.size = w.heap.size → wpList P ops Q rest (a.put o.dst undef) w') : wpList P ops Q (o :: rest) a w :=
  wpList_store_row hgd ty x y ho g cells hx hy t old hg hi hold h1
    (h _ (setRow_heap w g _ cells t _ hg) ⟨rfl, rfl, rfl, by simp [World.setRow], fun k _ hk => setRow_other w g k cells hk⟩ (size_setRow w g cells))
end Go.Proofs.YtongkiccglaniaaDoor
