/- Package flow: contracts of Check, Right, Ways, for every list of wires. -/
import Derived.Test.YtnighanlonkjbaaDoorWire
import Derived.Test.YtnighanlonkjbaaDoorOpen
import Derived.Test.YtnighanlonkjbaaDoorReach
import Derived.Test.YtnighanlonkjbaaDoorLine
namespace Go.Proofs.YtnighanlonkjbaaDoor
open Go.RowKit
set_option maxRecDepth 100000

def wiresChk (l : List Wire) : Nat → Nat → Nat × Int
  | 0, _ => (0, 0)
  | fuel + 1, i => match l[i]? with
    | none => (0, 0)
    | some x => if wireChk x = 0 then wiresChk l fuel (i + 1) else (i, wireChk x)
def flowChk (l : List Wire) : Nat × Int := if 12 < l.length then (0, 4) else wiresChk l (l.length + 1) 0
theorem wiresChk_bad {l : List Wire} {f k : Nat} {x : Wire} (hg : l[k]? = some x) (hb : wireChk x ≠ 0) : wiresChk l (f + 1) k = (k, wireChk x) := by simp [wiresChk, hg, hb]
theorem wiresChk_next {l : List Wire} {f k : Nat} {x : Wire} (hg : l[k]? = some x) (hb : wireChk x = 0) : wiresChk l (f + 1) k = wiresChk l f (k + 1) := by simp [wiresChk, hg, hb]
theorem wiresChk_end {l : List Wire} {f k : Nat} (h : l.length ≤ k) : wiresChk l f k = (0, 0) := by
  cases f with
  | zero => rfl
  | succ f => simp [wiresChk, List.getElem?_eq_none h]
theorem wiresChk_ok {l : List Wire} : ∀ {f k : Nat}, l.length < f + k → (wiresChk l f k).2 = 0 → ∀ j x, k ≤ j → l[j]? = some x → wireChk x = 0
  | 0, k, hf, _, j, x, hj, hx => by have := (List.getElem?_eq_some_iff.1 hx).1; omega
  | f + 1, k, hf, h, j, x, hj, hx => by
    have hk : k < l.length := by have := (List.getElem?_eq_some_iff.1 hx).1; omega
    have hg := List.getElem?_eq_getElem hk
    by_cases hb : wireChk l[k] = 0
    · rw [wiresChk_next hg hb] at h
      by_cases e : j = k
      · subst e; rw [hg] at hx; cases hx; exact hb
      · exact wiresChk_ok (by omega) h j x (by omega) hx
    · rw [wiresChk_bad hg hb] at h; exact absurd h hb
theorem flowChk_ok {l : List Wire} (h : (flowChk l).2 = 0) : l.length ≤ 12 ∧ (∀ x ∈ l, wireChk x = 0) ∧ InRooms l := by
  unfold flowChk at h
  split at h
  · simp at h
  · rename_i h12
    have all : ∀ x ∈ l, wireChk x = 0 := by
      intro x hx
      obtain ⟨j, hj, rfl⟩ := List.getElem_of_mem hx
      exact wiresChk_ok (by omega) h j _ (Nat.zero_le _) (List.getElem?_eq_getElem hj)
    refine ⟨by omega, all, fun x hx => ?_⟩
    have := all x hx
    unfold wireChk at this
    split at this
    · omega
    · rename_i h1
      have h2 : roomB x.fr = true ∧ roomB x.to = true := by
        constructor
        · cases h : roomB x.fr with
          | true => rfl
          | false => exact absurd (.inl h) h1
        · cases h : roomB x.to with
          | true => rfl
          | false => exact absurd (.inr (.inl h)) h1
      exact ⟨roomB_true.1 h2.1, roomB_true.1 h2.2⟩

theorem Sl.wire {w : World} {A : Option Addr} {n : Nat} {l : List Wire} (h : Sl w A 4 n (l.flatMap Wire.cells)) {wr : World} (hb : Below w.heap.size w wr) {i : Nat} (hi : i < l.length) (hn : i < n) :
    ∃ b off, A = some ⟨b, off, none⟩ ∧ b < w.heap.size ∧ wr.cell? ⟨b, off + i * 4, none⟩ = some (.int .i64 l[i].fr) ∧ wr.cell? ⟨b, off + i * 4 + 1, none⟩ = some (.int .i64 l[i].to) ∧
      wr.cell? ⟨b, off + i * 4 + 2, none⟩ = some (.int .i64 l[i].kind) ∧ wr.cell? ⟨b, off + i * 4 + 3, none⟩ = some (.int .i64 l[i].deep) := by
  obtain ⟨b, off, rfl, hlt, hx⟩ := h.2 (by omega)
  have hg := fun j (hj : j < 4) => flatMap_get Wire.cells 4 Wire.len l i j l[i] (List.getElem?_eq_getElem hi) hj
  have hk := fun o => hb.cell (p := ⟨b, o, none⟩) hlt
  refine ⟨b, off, rfl, hlt, ?_, ?_, ?_, ?_⟩
  · rw [hk]; exact hx _ _ ((hg 0 (by omega)).trans rfl)
  · rw [hk, Nat.add_assoc]; exact hx _ _ ((hg 1 (by omega)).trans rfl)
  · rw [hk, Nat.add_assoc]; exact hx _ _ ((hg 2 (by omega)).trans rfl)
  · rw [hk, Nat.add_assoc]; exact hx _ _ ((hg 3 (by omega)).trans rfl)

def FlowFound (w : World) (r : Nat × Int) (e : Ending) (w' : World) : Prop := e = .returned (.tuple #[.int .i64 r.1, errV r.2]) ∧ Below w.heap.size w w'

set_option maxHeartbeats 1000000 in
theorem flow_check (A : Option Addr) (c : Nat) (l : List Wire) (w : World) (hs : Sl w A 4 l.length (l.flatMap Wire.cells)) (hsw : SlW A c l.length) :
    Calls Tryd.prog 85 #[.slice A l.length c] w (FlowFound w (flowChk l)) := by
  obtain ⟨hs1, hs2, hs3⟩ := hsw
  unfold maxLen at hs2
  have HS := hid hs
  clear hs hs3
  unfold flowChk
  by_cases h12 : 12 < l.length
  · rw [if_pos h12]
    go_enter Tryd.func85, Tryd.ntmps85
    go_wp2
    go_ret2
    exact ⟨rfl, Below.refl _ _⟩
  · rw [if_neg h12]
    obtain ⟨q, hq⟩ : ∃ q, q = wiresChk l (l.length + 1) 0 := ⟨_, rfl⟩
    rw [← hq]
    have HQ := hid hq
    clear hq
    go_enter Tryd.func85, Tryd.ntmps85
    go_wp2_with fail
    go_loopw [4, 5, 6, 13] (fun v4 v5 v6 v13 wr => ∃ k : Nat, k ≤ l.length ∧ v13 = .int .i64 k ∧ q = wiresChk l (l.length + 1 - k) k ∧ Below w.heap.size w wr) (fun _ _ _ v13 _ => l.length - (intOf v13).toNat)
    case atStart => exact ⟨0, by omega, rfl, HQ.out, Below.refl _ _⟩
    case round =>
      obtain ⟨k, hk, rfl, hr, hb⟩ := hrel
      have HR := hid hr
      have HB := hid hb
      clear hr hb
      by_cases hkl : k < l.length
      · obtain ⟨f, hf⟩ : ∃ f, l.length + 1 - k = f + 1 := ⟨l.length - k, by omega⟩
        have HF := hid hf
        clear hf
        obtain ⟨b, off, rfl, hlb, g0, g1, g2, g3⟩ := HS.out.wire HB.out hkl hkl
        have hget := List.getElem?_eq_getElem hkl
        generalize l[k] = x at g0 g1 g2 g3 hget
        have HG := hid hget
        clear hget
        by_cases hc : wireChk x = 0
        · have hq := HR.out
          rw [HF.out, wiresChk_next HG.out hc] at hq
          have HQ2 := hid hq
          have HC : Hid (errV (wireChk ⟨x.fr, x.to, x.kind, x.deep⟩) = .nilIface) := by show errV (wireChk x) = _; rw [hc]; rfl
          clear hc hq
          go_wp2_with (go_at_call 23; refine (wire_check x.fr x.to x.kind x.deep _).mono ?_; rw [HC.out]; rintro e w1 ⟨rfl, hb1⟩; have HB1 := hid hb1; clear hb1)
          go_roundw
          case rel => exact ⟨k + 1, by omega, by go_num, by rw [HQ2.out]; congr 1; have := HF.out; omega, (HB.out.alloc HB.out.size _).trans (HB1.out.mono (by have := HB.out.size; simp; omega))⟩
          case measure => simp [intOf]; omega
        · have hq := HR.out
          rw [HF.out, wiresChk_bad HG.out hc] at hq
          subst hq
          have he := errV_pos hc
          have HE : Hid (errV (wireChk ⟨x.fr, x.to, x.kind, x.deep⟩) = .iface 119 (.int .i64 (wireChk x))) := he
          clear hc he
          go_wp2_with (go_at_call 23; refine (wire_check x.fr x.to x.kind x.deep _).mono ?_; rw [HE.out]; rintro e w1 ⟨rfl, hb1⟩; have HB1 := hid hb1; clear hb1)
          go_ret2
          exact ⟨by have h : errV (wireChk x) = _ := HE.out; rw [h]; rfl, (HB.out.alloc HB.out.size _).trans (HB1.out.mono (by have := HB.out.size; simp; omega))⟩
      · have hq := HR.out
        rw [wiresChk_end (by omega)] at hq
        subst hq
        go_wp2_with fail
        go_ret2
        exact ⟨rfl, HB.out⟩

theorem flow_right (A : Option Addr) (c : Nat) (l : List Wire) (w : World) (hs : Sl w A 4 l.length (l.flatMap Wire.cells)) (hsw : SlW A c l.length) :
    Calls Tryd.prog 65 #[.slice A l.length c] w fun e w' => e = .returned (errV (flowChk l).2) ∧ Below w.heap.size w w' := by
  have HS := hid hs
  have HW := hid hsw
  clear hs hsw
  go_enter Tryd.func65, Tryd.ntmps65
  go_wp2_with (go_at_call 85; refine (flow_check A c l _ HS.out HW.out).mono ?_; rintro e w1 ⟨rfl, hb1⟩)
  go_ret
  exact ⟨rfl, hb1⟩
end Go.Proofs.YtnighanlonkjbaaDoor
