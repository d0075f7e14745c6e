/- Plain: what a tick of a kernel of a plan that is right leaves alone, room by room and wire by wire. -/
import Derived.Test.YtnighanlonkjbaaDoorKernOthers
import Derived.Test.YtnighanlonkjbaaDoorSightLaw
namespace Go.Proofs.YtnighanlonkjbaaDoor

theorem tick_time {p : Pl} (hp : PlOk p) {k : Kst} {B : Int} (hk : KOk p k B) : (tick p k).2.time = k.time + 1 := (tick_others hp hk (spans_ok hp)).2.2.1
theorem runK_at {p : Pl} (hp : PlOk p) : ∀ t : Nat, (runK p t).time = t
  | 0 => rfl
  | t + 1 => by
    show (tick p (runK p t)).2.time = _
    rw [tick_time hp (runK_ok hp t), runK_at hp t]; rfl
def whoAt (p : Pl) (i : Nat) : Int := turnAt p.spans ((i : Int) % p.ticks)
theorem turns_tick {p : Pl} (hp : PlOk p) (i : Nat) : ∃ pc what : Int, tick p (runK p i) = (⟨i, whoAt p i, pc, what⟩, runK p (i + 1)) := by
  have h := tick_others hp (runK_ok hp i) (spans_ok hp)
  rw [runK_at hp i] at h
  refine ⟨(tick p (runK p i)).1.pc, (tick p (runK p i)).1.what, ?_⟩
  have h1 : (tick p (runK p i)).1.room = whoAt p i := h.1
  have h2 : (tick p (runK p i)).1.tick = i := h.2.1
  show _ = (_, (tick p (runK p i)).2)
  rw [← h1, ← h2]
theorem turns_room {p : Pl} (hp : PlOk p) (i r : Nat) (hr : r < p.code.length) : ∃ s t, (runK p i).rooms[r]? = some s ∧ (runK p (i + 1)).rooms[r]? = some t ∧ ((r : Int) ≠ whoAt p i → t = s) := by
  have h := tick_others hp (runK_ok hp i) (spans_ok hp)
  rw [runK_at hp i] at h
  have l1 := (runK_ok hp i).rooms
  have l2 := (runK_ok hp (i + 1)).rooms
  refine ⟨_, _, List.getElem?_eq_getElem (by omega), List.getElem?_eq_getElem (by omega), fun hne => ?_⟩
  have h3 := h.2.2.2.1 r hne
  have h4 : (runK p (i + 1)).rooms[r]? = (runK p i).rooms[r]? := h3
  rw [List.getElem?_eq_getElem (by omega), List.getElem?_eq_getElem (by omega)] at h4
  exact Option.some.inj h4
theorem turns_wire {p : Pl} (hp : PlOk p) (i j : Nat) {x : Wire} (hx : p.wires[j]? = some x) : ∃ y z, (runK p i).lines[j]? = some y ∧ (runK p (i + 1)).lines[j]? = some z ∧ z.items.length ≤ 6 ∧ (x.fr ≠ whoAt p i → x.to ≠ whoAt p i → z = y) := by
  have h := tick_others hp (runK_ok hp i) (spans_ok hp)
  rw [runK_at hp i] at h
  have g : ∀ t, ∃ y, (runK p t).lines[j]? = some y := fun t => by
    have h1 := (runK_ok hp t).lines
    rw [← h1, List.getElem?_map, Option.map_eq_some_iff] at hx
    obtain ⟨y, hy, _⟩ := hx
    exact ⟨y, hy⟩
  obtain ⟨y, hy⟩ := g i
  obtain ⟨z, hz⟩ := g (i + 1)
  refine ⟨y, z, hy, hz, ((runK_ok hp (i + 1)).lns z (List.mem_of_getElem? hz)).six, fun h1 h2 => ?_⟩
  have h3 : (runK p (i + 1)).lines[j]? = (runK p i).lines[j]? := h.2.2.2.2 j x hx h1 h2
  rw [hy, hz] at h3
  exact Option.some.inj h3
end Go.Proofs.YtnighanlonkjbaaDoor
