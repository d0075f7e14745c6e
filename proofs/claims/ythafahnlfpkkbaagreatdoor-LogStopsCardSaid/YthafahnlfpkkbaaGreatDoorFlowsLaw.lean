/- Plain: who does not reach a room does not matter to it: plans that are purged, cells that are poked; and the first tick at which something is so. No program in sight. -/
import Derived.Test.YthafahnlfpkkbaaGreatDoorKLawU
import Derived.Test.YthafahnlfpkkbaaGreatDoorKernPair
import Derived.Test.YthafahnlfpkkbaaGreatDoorSameU
namespace Go.Proofs.YthafahnlfpkkbaaGreatDoor

/-- Those that reach a room. -/
def Ahd (ws : List Wire) (room : Nat) (i : Int) : Prop := 0 ≤ i ∧ Reach ws i.toNat room
theorem ahd_edge {ws : List Wire} (hr : InRooms ws) (room : Nat) : ∀ x ∈ ws, Ahd ws room x.to → Ahd ws room x.fr := fun x hx h => by
  have h1 := hr x hx
  refine ⟨h1.1.1, Reach.trans ?_ h.2⟩
  exact Reach.step .refl ⟨x, hx, by omega, by omega⟩
theorem ahd_self (ws : List Wire) (room : Nat) : Ahd ws room room := ⟨by omega, by rw [Int.toNat_natCast]; exact .refl⟩

theorem purge_alike {p : Pl} (hp : PlOk p) (room : Nat) : ∀ t : Nat, AlikeOn (Ahd p.wires room) p (runK p t) (runK (purgePl p room) t)
  | 0 => ⟨rfl, fun r _ => by simp only [runK, kNew, List.getElem?_map, purge_get, Option.map_map]; rfl, fun i x _ _ => rfl⟩
  | t + 1 => (tick_alike hp (purge_ok hp room) (runK_ok hp t) (runK_ok (purge_ok hp room) t) rfl rfl (purge_len p room).symm (spans_ok hp) (fun r hr => by
      rw [purge_get]
      cases p.code[r]? with
      | none => rfl
      | some c =>
        have h2 : reachB p.wires r room = true := reachB_iff.2 (by have := hr.2; rwa [Int.toNat_natCast] at this)
        simp only [Option.map_some, purgeRow, h2, if_true]) (ahd_edge (flowChk_ok hp.flow).2.2 room) (purge_alike hp room t)).1
theorem purge_same {p : Pl} (hp : PlOk p) (room : Nat) (t : Nat) : (runK p t).rooms[room]? = (runK (purgePl p room) t).rooms[room]? := (purge_alike hp room t).rooms room (ahd_self _ _)

/-- So many ticks on. -/
def goK (p : Pl) (k : Kst) : Nat → Kst
  | 0 => k
  | t + 1 => (tick p (goK p k t)).2
theorem goK_new (p : Pl) : ∀ t : Nat, goK p (kNew p) t = runK p t
  | 0 => rfl
  | t + 1 => by show (tick p (goK p (kNew p) t)).2 = _; rw [goK_new p t]; rfl
theorem goK_ok {p : Pl} (hp : PlOk p) {k : Kst} {B : Int} (hk : KOk p k B) : ∀ t : Nat, KOk p (goK p k t) (B + t)
  | 0 => by rw [show B + ((0 : Nat) : Int) = B by omega]; exact hk
  | t + 1 => by
    have h := tick_ok hp (goK_ok hp hk t) (spans_ok hp)
    rw [show B + ((t + 1 : Nat) : Int) = B + t + 1 by omega]; exact h
theorem goK_alike {p : Pl} (hp : PlOk p) {S : Int → Prop} (hS : ∀ x ∈ p.wires, S x.to → S x.fr) {k m : Kst} {B C : Int} (hk : KOk p k B) (hm : KOk p m C) (h : AlikeOn S p k m) : ∀ t : Nat, AlikeOn S p (goK p k t) (goK p m t)
  | 0 => h
  | t + 1 => (tick_alike hp hp (goK_ok hp hk t) (goK_ok hp hm t) rfl rfl rfl (spans_ok hp) (fun _ _ => rfl) hS (goK_alike hp hS hk hm h t)).1
/-- Where a room does not reach another one, that one is alike whatever the first one is. -/
theorem poke_alike {p : Pl} (hp : PlOk p) {k : Kst} {B : Int} (hk : KOk p k B) {a c v : Int} (ho : pokeOk k.rooms.length a c v = true) {b : Nat} (hn : ¬ Reach p.wires a.toNat b) (t : Nat) : (goK p k t).rooms[b]? = (goK p (pokeK k a c v) t).rooms[b]? := by
  have h : AlikeOn (Ahd p.wires b) p k (pokeK k a c v) := ⟨rfl, fun r hr => by
    refine (poke_far fun e => hn ?_).symm
    have := hr.2
    rw [Int.toNat_natCast] at this
    rw [e]; exact this, fun _ _ _ _ => rfl⟩
  exact (goK_alike hp (ahd_edge (flowChk_ok hp.flow).2.2 b) hk (poke_right hk ho) h t).rooms b (ahd_self _ _)

/-- The first of so many at which something is so (-1: none). -/
def firstOf (f : Nat → Bool) : Nat → Int
  | 0 => -1
  | n + 1 => if 0 ≤ firstOf f n then firstOf f n else if f n = true then (n : Int) else -1
theorem firstOf_none {f : Nat → Bool} : ∀ {n : Nat}, (∀ j, j < n → f j = false) → firstOf f n = -1
  | 0, _ => rfl
  | n + 1, h => by
    unfold firstOf
    rw [firstOf_none (n := n) fun j hj => h j (by omega), if_neg (by omega), h n (by omega), if_neg (by decide)]
theorem firstOf_hit {f : Nat → Bool} {t : Nat} (ht : f t = true) (hn : ∀ j, j < t → f j = false) : ∀ {n : Nat}, t < n → firstOf f n = t
  | 0, h => by omega
  | n + 1, h => by
    unfold firstOf
    by_cases e : t = n
    · subst e; rw [firstOf_none hn, if_neg (by omega), if_pos ht]
    · rw [firstOf_hit ht hn (n := n) (by omega), if_pos (by omega)]
/-- Which it is. -/
theorem firstOf_cases (f : Nat → Bool) : ∀ n : Nat, (firstOf f n = -1 ∧ ∀ j, j < n → f j = false) ∨ ∃ t : Nat, t < n ∧ firstOf f n = t ∧ f t = true ∧ ∀ j, j < t → f j = false
  | 0 => .inl ⟨rfl, fun j h => by omega⟩
  | n + 1 => by
    rcases firstOf_cases f n with ⟨h1, h2⟩ | ⟨t, h1, h2, h3, h4⟩
    · cases hf : f n with
      | true => exact .inr ⟨n, by omega, by unfold firstOf; rw [h1, if_neg (by omega), if_pos hf], hf, h2⟩
      | false =>
        refine .inl ⟨by unfold firstOf; rw [h1, if_neg (by omega), hf, if_neg (by decide)], fun j hj => ?_⟩
        by_cases e : j = n
        · subst e; exact hf
        · exact h2 j (by omega)
    · exact .inr ⟨t, by omega, by unfold firstOf; rw [h2, if_pos (by omega)], h3, h4⟩
theorem firstOf_ge (f : Nat → Bool) (n : Nat) : -1 ≤ firstOf f n ∧ firstOf f n < n := by
  rcases firstOf_cases f n with ⟨h1, _⟩ | ⟨t, h1, h2, _⟩ <;> omega
theorem firstOf_pos {f : Nat → Bool} {n : Nat} (h : 0 ≤ firstOf f n) : ∃ t : Nat, t < n ∧ firstOf f n = t ∧ f t = true ∧ ∀ j, j < t → f j = false := by
  rcases firstOf_cases f n with ⟨h1, _⟩ | h
  · omega
  · exact h
/-- More of them have the same first one. -/
theorem firstOf_more {f : Nat → Bool} {n m : Nat} (h : 0 ≤ firstOf f n) (hm : n ≤ m) : firstOf f m = firstOf f n := by
  obtain ⟨t, h1, h2, h3, h4⟩ := firstOf_pos h
  rw [h2, firstOf_hit h3 h4 (by omega)]
theorem firstOf_congr {f g : Nat → Bool} : ∀ {n : Nat}, (∀ j, j < n → f j = g j) → firstOf f n = firstOf g n
  | 0, _ => rfl
  | n + 1, h => by unfold firstOf; rw [firstOf_congr (n := n) fun j hj => h j (by omega), h n (by omega)]

/-- Is a room unlike in two kernels, so many ticks on? -/
noncomputable def unlikeK (p : Pl) (k m : Kst) (b t : Nat) : Bool := !stEq ((goK p k t).rooms.getD b St.zero) ((goK p m t).rooms.getD b St.zero)
theorem unlikeK_false {p : Pl} {k m : Kst} {b t : Nat} (h : (goK p k t).rooms[b]? = (goK p m t).rooms[b]?) : unlikeK p k m b t = false := by
  unfold unlikeK
  rw [List.getD_eq_getElem?_getD, List.getD_eq_getElem?_getD, h, stEq_refl]; rfl
/-- Since which tick a room is unlikeK, if a cell was another number. -/
noncomputable def sinceOf (p : Pl) (a c v : Int) (b ticks : Nat) : Int := firstOf (unlikeK p (kNew p) (pokeK (kNew p) a c v) b) (ticks + 1)
theorem since_flows {p : Pl} (hp : PlOk p) {a c v : Int} (ho : pokeOk p.code.length a c v = true) {b ticks : Nat} (h : 0 ≤ sinceOf p a c v b ticks) : Reach p.wires a.toNat b := by
  obtain ⟨t, _, _, h3, _⟩ := firstOf_pos h
  refine Classical.byContradiction fun hn => ?_
  have := unlikeK_false (poke_alike hp (kNew_ok hp) (a := a) (c := c) (v := v) (by rw [(kNew_ok hp).rooms]; exact ho) hn t)
  rw [this] at h3
  cases h3
end Go.Proofs.YthafahnlfpkkbaaGreatDoor
