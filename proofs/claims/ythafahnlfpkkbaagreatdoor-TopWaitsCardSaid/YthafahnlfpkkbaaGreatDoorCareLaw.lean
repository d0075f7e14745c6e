/- Plain: what becomes of who failed. No program in sight. -/
import Derived.Test.YthafahnlfpkkbaaGreatDoorFlowsLaw
namespace Go.Proofs.YthafahnlfpkkbaaGreatDoor

/-- A kernel, and how often each room was helped. -/
structure Cst where
  k : Kst
  times : List Int
def helped (n what : Int) (s : St) : St := if what = 1 then St.zero else { s with failed := false, pc := (s.pc + 1) % n }
def due (what times : List Int) (most : Int) (r : Nat) (s : St) : Bool := s.failed && (!decide (what.getD r 0 = 0) && !decide (most ≤ times.getD r 0))
def helpC (p : Pl) (what : List Int) (most : Int) (c : Cst) (r : Nat) : Cst :=
  match c.k.rooms[r]?, p.code[r]? with
  | some s, some ops => if due what c.times most r s = true then ⟨⟨c.k.rooms.set r (helped ops.length (what.getD r 0) s), c.k.lines, c.k.time⟩, c.times.set r (c.times.getD r 0 + 1)⟩ else c
  | _, _ => c
/-- Ahead of a tick. -/
def careC (p : Pl) (what : List Int) (most : Int) (c : Cst) : Cst := if turnAt p.spans (c.k.time % p.ticks) < 0 then c else helpC p what most c (turnAt p.spans (c.k.time % p.ticks)).toNat
def careTick (p : Pl) (what : List Int) (most : Int) (c : Cst) : Ev × Cst := ((tick p (careC p what most c).k).1, ⟨(tick p (careC p what most c).k).2, (careC p what most c).times⟩)
def careNew (p : Pl) : Cst := ⟨kNew p, List.replicate p.code.length 0⟩
def runC (p : Pl) (what : List Int) (most : Int) : Nat → Cst
  | 0 => careNew p
  | t + 1 => (careTick p what most (runC p what most t)).2

/-- What is right of it. -/
structure COk (p : Pl) (what : List Int) (most : Int) (c : Cst) (B : Int) : Prop where
  k : KOk p c.k B
  many : c.times.length = p.code.length
  least : ∀ (j : Nat) (h : Int), c.times[j]? = some h → 0 ≤ h ∧ h ≤ most ∧ (what.getD j 0 = 0 → h = 0)
section
variable {p : Pl} {what : List Int} {most : Int} {c : Cst} {B : Int}
theorem helped_ok {n w : Int} {s : St} (hn : 0 < n) (hs : stOk s n = true) : stOk (helped n w s) n = true := by
  unfold helped
  split
  · exact stOk_zero hn
  · refine stOk_iff.2 ⟨⟨Int.emod_nonneg _ (by omega), Int.emod_lt_of_pos _ hn⟩, fun a ha => ?_⟩
    have := (stOk_iff.1 hs).2 a ha
    rcases six ha with rfl | rfl | rfl | rfl | rfl | rfl <;> exact this
theorem help_time (c : Cst) (r : Nat) : (helpC p what most c r).k.time = c.k.time := by unfold helpC; split <;> (try split) <;> rfl
theorem help_lines (c : Cst) (r : Nat) : (helpC p what most c r).k.lines = c.k.lines := by unfold helpC; split <;> (try split) <;> rfl
theorem help_ok (hp : PlOk p) (h : COk p what most c B) (r : Nat) : COk p what most (helpC p what most c r) B := by
  unfold helpC
  split
  · rename_i s ops hs hc
    by_cases hd : due what c.times most r s = true
    · rw [if_pos hd]
      have hcode := codeChk_ok (hp.codes ops (List.mem_of_getElem? hc))
      refine ⟨⟨by simp only [List.length_set]; exact h.k.rooms, h.k.lines, h.k.time0, h.k.timeB, fun r' ops' s' hc' hs' => ?_, h.k.lns⟩, by simp only [List.length_set]; exact h.many, fun j x hx => ?_⟩
      · rw [List.getElem?_set] at hs'
        by_cases e : r = r'
        · subst e
          rw [if_pos rfl, if_pos (List.getElem?_eq_some_iff.1 hs).1] at hs'
          cases hs'
          rw [hc] at hc'
          cases hc'
          exact helped_ok (by have := hcode.1; omega) (h.k.states r ops s hc hs)
        · rw [if_neg e] at hs'; exact h.k.states r' ops' s' hc' hs'
      · rw [List.getElem?_set] at hx
        by_cases e : r = j
        · subst e
          have hrl : r < c.times.length := by rw [h.many]; exact (List.getElem?_eq_some_iff.1 hc).1
          rw [if_pos rfl, if_pos hrl] at hx
          cases hx
          have h1 := h.least r _ (List.getElem?_eq_getElem hrl)
          rw [List.getD_eq_getElem?_getD (l := c.times), List.getElem?_eq_getElem hrl, Option.getD_some]
          unfold due at hd
          rw [List.getD_eq_getElem?_getD (l := c.times), List.getElem?_eq_getElem hrl, Option.getD_some] at hd
          simp only [Bool.and_eq_true, Bool.not_eq_true', decide_eq_false_iff_not] at hd
          exact ⟨by omega, by omega, fun h0 => absurd h0 hd.2.1⟩
        · rw [if_neg e] at hx; exact h.least j x hx
    · rw [if_neg hd]; exact h
  · exact h
theorem care_ok (hp : PlOk p) (h : COk p what most c B) : COk p what most (careC p what most c) B := by
  unfold careC
  split
  · exact h
  · exact help_ok hp h _
theorem careTick_ok (hp : PlOk p) (h : COk p what most c B) : COk p what most (careTick p what most c).2 (B + 1) :=
  ⟨tick_ok hp (care_ok hp h).k (spans_ok hp), (care_ok hp h).many, (care_ok hp h).least⟩
theorem careNew_ok (hp : PlOk p) (hm : 0 ≤ most) : COk p what most (careNew p) 0 := ⟨kNew_ok hp, by simp [careNew], fun j h hj => by
  simp only [careNew, List.getElem?_replicate] at hj
  split at hj
  · cases hj; exact ⟨by omega, hm, fun _ => rfl⟩
  · cases hj⟩
theorem runC_ok (hp : PlOk p) (hm : 0 ≤ most) : ∀ t : Nat, COk p what most (runC p what most t) t
  | 0 => careNew_ok hp hm
  | t + 1 => careTick_ok hp (runC_ok hp hm t)

/-- Where none failed nothing is done. -/
theorem care_none (h : ∀ s ∈ c.k.rooms, s.failed = false) : careC p what most c = c := by
  unfold careC
  split
  · rfl
  · unfold helpC
    split
    · rename_i s ops hs hc
      rw [if_neg]
      unfold due
      rw [h s (List.mem_of_getElem? hs)]
      simp
    · rfl
theorem stepDo_failed {n : Int} {o : Op} {s : St} {got : Int} {is : Bool} (h : s.failed = false) (ho : o.what ≠ 11) : (stepDo n o s got is).1.failed = false := by
  unfold stepDo
  rw [if_neg (by rw [h]; simp)]
  have put : ∀ (a : Nat) (v : Int), (s.put a v).failed = false := fun a v => by rw [St.put_failed]; exact h
  by_cases h1 : o.what = 1
  · rw [if_pos h1]; exact put _ _
  rw [if_neg h1]
  by_cases h2 : o.what = 2
  · rw [if_pos h2]; exact put _ _
  rw [if_neg h2]
  by_cases h3 : o.what = 3
  · rw [if_pos h3]; exact put _ _
  rw [if_neg h3]
  by_cases h4 : o.what = 4
  · rw [if_pos h4]; exact put _ _
  rw [if_neg h4]
  by_cases h5 : o.what = 5
  · rw [if_pos h5]; exact put _ _
  rw [if_neg h5]
  by_cases h6 : o.what = 6
  · rw [if_pos h6]; exact h
  rw [if_neg h6]
  by_cases h7 : o.what = 7
  · rw [if_pos h7]; exact h
  rw [if_neg h7]
  by_cases h8 : o.what = 8
  · rw [if_pos h8]; exact h
  rw [if_neg h8]
  by_cases h9 : o.what = 9
  · rw [if_pos h9]
    cases is with
    | true => exact put _ _
    | false => exact h
  rw [if_neg h9, if_neg ho]
  exact h
/-- A tick at which none fails. -/
theorem tick_nofail {k : Kst} (hp : PlOk p) (hk : KOk p k B) (h : ∀ s ∈ k.rooms, s.failed = false) (hw : (tick p k).1.what ≠ 4) : ∀ s ∈ (tick p k).2.rooms, s.failed = false := by
  unfold tick at hw ⊢
  rcases tick_meets hp hk (spans_ok hp) with h0 | ⟨r, ops, s, o, h0, hc, hs, ho⟩
  · rw [tick_none h0]; exact h
  · rw [tick_room h0 hc hs ho] at hw ⊢
    have hsf := h s (List.mem_of_getElem? hs)
    simp only [] at hw ⊢
    unfold kDo at hw ⊢
    rw [if_neg (by rw [hsf]; simp)] at hw ⊢
    by_cases h11 : o.what = 11
    · rw [if_neg (by omega), if_neg (by omega), if_pos h11] at hw
      exact absurd rfl hw
    · have put : ∀ g i, ∀ x ∈ k.rooms.set r (stepDo ops.length o s g i).1, x.failed = false := fun g i x hx => by
        rcases List.mem_or_eq_of_mem_set hx with hx | rfl
        · exact h x hx
        · exact stepDo_failed hsf h11
      split
      · split
        · split
          · exact h
          · exact put _ _
        · exact h
      · split
        · split
          · exact put _ _
          · exact h
        · exact put _ _
end

/-- Alike, helped as often. -/
structure CAlike (S : Int → Prop) (p : Pl) (c d : Cst) : Prop where
  k : AlikeOn S p c.k d.k
  times : ∀ r : Nat, S r → c.times[r]? = d.times[r]?
theorem help_alike {S : Int → Prop} {p q : Pl} {what : List Int} {most : Int} {c d : Cst} {B C : Int} (hk : COk p what most c B) (hm : COk q what most d C) (hn : p.code.length = q.code.length) (hc : ∀ r : Nat, S r → p.code[r]? = q.code[r]?) (h : CAlike S p c d) (r : Nat) :
    CAlike S p (helpC p what most c r) (helpC q what most d r) := by
  have hc1 : ∀ r' : Nat, S r' → r' ≠ r → (helpC p what most c r).k.rooms[r']? = c.k.rooms[r']? ∧ (helpC p what most c r).times[r']? = c.times[r']? := fun r' _ hne => by
    unfold helpC
    split
    · split
      · exact ⟨List.getElem?_set_ne (fun e => hne e.symm), List.getElem?_set_ne (fun e => hne e.symm)⟩
      · exact ⟨rfl, rfl⟩
    · exact ⟨rfl, rfl⟩
  have hc2 : ∀ r' : Nat, S r' → r' ≠ r → (helpC q what most d r).k.rooms[r']? = d.k.rooms[r']? ∧ (helpC q what most d r).times[r']? = d.times[r']? := fun r' _ hne => by
    unfold helpC
    split
    · split
      · exact ⟨List.getElem?_set_ne (fun e => hne e.symm), List.getElem?_set_ne (fun e => hne e.symm)⟩
      · exact ⟨rfl, rfl⟩
    · exact ⟨rfl, rfl⟩
  have both : S r → (helpC p what most c r).k.rooms[r]? = (helpC q what most d r).k.rooms[r]? ∧ (helpC p what most c r).times[r]? = (helpC q what most d r).times[r]? := fun hr => by
    have e1 := hc r hr
    have e2 := h.k.rooms r hr
    have e3 := h.times r hr
    have g3 : c.times.getD r 0 = d.times.getD r 0 := by rw [List.getD_eq_getElem?_getD, List.getD_eq_getElem?_getD, e3]
    have l1 := hk.k.rooms
    have l2 := hm.k.rooms
    have l3 := hk.many
    have l4 := hm.many
    unfold helpC
    rw [← e1, ← e2]
    cases hs : c.k.rooms[r]? with
    | none => exact ⟨by rw [← e2], e3⟩
    | some s =>
      cases hco : p.code[r]? with
      | none => exact ⟨by rw [← e2], e3⟩
      | some ops =>
        have hrl := (List.getElem?_eq_some_iff.1 hs).1
        simp only []
        have hd : due what d.times most r s = due what c.times most r s := by unfold due; rw [g3]
        rw [hd, ← g3]
        cases due what c.times most r s with
        | false => exact ⟨by simp only [Bool.false_eq_true, if_false]; exact e2, by simp only [Bool.false_eq_true, if_false]; exact e3⟩
        | true =>
          simp only [if_true]
          exact ⟨by rw [List.getElem?_set_self (by omega), List.getElem?_set_self (by omega)], by rw [List.getElem?_set_self (by omega), List.getElem?_set_self (by omega)]⟩
  refine ⟨⟨by rw [help_time, help_time]; exact h.k.time, fun r' hr' => ?_, fun i x hx hS => by rw [help_lines, help_lines]; exact h.k.lines i x hx hS⟩, fun r' hr' => ?_⟩
  · by_cases e : r' = r
    · subst e; exact (both hr').1
    · rw [(hc1 r' hr' e).1, (hc2 r' hr' e).1]; exact h.k.rooms r' hr'
  · by_cases e : r' = r
    · subst e; exact (both hr').2
    · rw [(hc1 r' hr' e).2, (hc2 r' hr' e).2]; exact h.times r' hr'
theorem careTick_alike {S : Int → Prop} {p q : Pl} {what : List Int} {most : Int} {c d : Cst} {B C : Int} (hp : PlOk p) (hq : PlOk q) (hk : COk p what most c B) (hm : COk q what most d C) (ht : p.ticks = q.ticks) (hsp : p.spans = q.spans) (hw : p.wires = q.wires) (hn : p.code.length = q.code.length)
    (hc : ∀ r : Nat, S r → p.code[r]? = q.code[r]?) (hS : ∀ x ∈ p.wires, S x.to → S x.fr) (h : CAlike S p c d) : CAlike S p (careTick p what most c).2 (careTick q what most d).2 := by
  have hcare : CAlike S p (careC p what most c) (careC q what most d) := by
    unfold careC
    rw [← hsp, ← ht, ← h.k.time]
    split
    · exact h
    · exact help_alike hk hm hn hc h _
  refine ⟨?_, hcare.times⟩
  have h1 := (tick_alike (spans := p.spans) hp hq (care_ok hp hk).k (care_ok hq hm).k ht hw hn (spans_ok hp) hc hS hcare.k).1
  rw [show tickBy q p.spans (careC q what most d).k = tick q (careC q what most d).k by unfold tick; rw [hsp]] at h1
  exact h1
/-- Without those that do not reach a room it is helped, and goes on, as it did. -/
theorem care_purge {p : Pl} (hp : PlOk p) {what : List Int} {most : Int} (hm : 0 ≤ most) (room : Nat) : ∀ t : Nat, CAlike (Ahd p.wires room) p (runC p what most t) (runC (purgePl p room) what most t)
  | 0 => ⟨⟨rfl, fun r _ => by simp only [runC, careNew, kNew, List.getElem?_map, purge_get, Option.map_map]; rfl, fun i x _ _ => rfl⟩, fun r _ => by simp only [runC, careNew, purge_len]⟩
  | t + 1 => careTick_alike hp (purge_ok hp room) (runC_ok hp hm t) (runC_ok (purge_ok hp room) hm t) rfl rfl rfl (purge_len p room).symm (fun r hr => by
      rw [purge_get]
      cases p.code[r]? with
      | none => rfl
      | some c =>
        have h2 : reachB p.wires r room = true := reachB_iff.2 (by have := hr.2; rwa [Int.toNat_natCast] at this)
        simp only [Option.map_some, purgeRow, h2, if_true]) (ahd_edge (flowChk_ok hp.flow).2.2 room) (care_purge hp hm room t)
end Go.Proofs.YthafahnlfpkkbaaGreatDoor
