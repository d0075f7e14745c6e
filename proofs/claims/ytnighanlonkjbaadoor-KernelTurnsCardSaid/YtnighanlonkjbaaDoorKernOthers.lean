/- Plain: a tick changes no room but the one whose turn it is, and no wire but those of it. No program in sight. -/
import Derived.Test.YtnighanlonkjbaaDoorKernLaw
namespace Go.Proofs.YtnighanlonkjbaaDoor

theorem kDo_rooms (n : Int) (r : Nat) (o : Op) (s : St) (k : Kst) (r' : Nat) (h : r' ≠ r) : (kDo n r o s k).2.rooms[r']? = k.rooms[r']? := by
  unfold kDo
  have hs : ∀ t : St, (k.rooms.set r t)[r']? = k.rooms[r']? := fun t => List.getElem?_set_ne (fun e => h e.symm)
  split
  · rfl
  split
  · split
    · split
      · rfl
      · exact hs _
    · rfl
  split
  · split
    · exact hs _
    · rfl
  · exact hs _
theorem kDo_lines (n : Int) (r : Nat) (o : Op) (s : St) (k : Kst) (i : Nat) (h : o.what = 8 ∨ o.what = 9 → i ≠ o.b.toNat) : (kDo n r o s k).2.lines[i]? = k.lines[i]? := by
  unfold kDo
  split
  · rfl
  split
  · rename_i h9
    have hs : ∀ t : Ln, (k.lines.set o.b.toNat t)[i]? = k.lines[i]? := fun t => List.getElem?_set_ne (fun e => h (.inr h9) e.symm)
    split
    · split
      · rfl
      · exact hs _
    · rfl
  split
  · rename_i h8
    have hs : ∀ t : Ln, (k.lines.set o.b.toNat t)[i]? = k.lines[i]? := fun t => List.getElem?_set_ne (fun e => h (.inl h8) e.symm)
    split
    · exact hs _
    · rfl
  · rfl
/-- Whose wire an op is on. -/
theorem op_wire {p : Pl} (hp : PlOk p) {r : Nat} {ops : List Op} {o : Op} (hc : p.code[r]? = some ops) (ho : o ∈ ops) (hw : o.what = 8 ∨ o.what = 9) :
    ∃ x, p.wires[o.b.toNat]? = some x ∧ (o.what = 8 → x.fr = r) ∧ (o.what = 9 → x.to = r) := by
  have h := hp.ports r ops hc
  unfold portsOk at h
  have h1 := List.all_eq_true.1 h o ho
  unfold portOk at h1
  rcases hw with hw | hw
  · rw [if_pos hw] at h1
    cases hx : p.wires[o.b.toNat]? with
    | none => rw [hx] at h1; cases h1
    | some x => rw [hx] at h1; exact ⟨x, rfl, fun _ => of_decide_eq_true h1, fun h9 => by omega⟩
  · rw [if_neg (by omega), if_pos hw] at h1
    cases hx : p.wires[o.b.toNat]? with
    | none => rw [hx] at h1; cases h1
    | some x => rw [hx] at h1; exact ⟨x, rfl, fun h8 => by omega, fun _ => of_decide_eq_true h1⟩
/-- What a tick leaves alone. -/
theorem tick_others {p : Pl} {k : Kst} {B : Int} {spans : List Span} (hp : PlOk p) (h : KOk p k B) (hsp : ∀ s ∈ spans, 0 ≤ s.room ∧ s.room < p.code.length) :
    (tickBy p spans k).1.room = turnAt spans (k.time % p.ticks) ∧ (tickBy p spans k).1.tick = k.time ∧ (tickBy p spans k).2.time = k.time + 1 ∧
    (∀ r : Nat, (r : Int) ≠ turnAt spans (k.time % p.ticks) → (tickBy p spans k).2.rooms[r]? = k.rooms[r]?) ∧
    (∀ (i : Nat) (x : Wire), p.wires[i]? = some x → x.fr ≠ turnAt spans (k.time % p.ticks) → x.to ≠ turnAt spans (k.time % p.ticks) → (tickBy p spans k).2.lines[i]? = k.lines[i]?) := by
  rcases tick_meets hp h hsp with ht | ⟨r, ops, s, o, ht, hc, hs, ho⟩
  · rw [tick_none ht, ht]
    exact ⟨rfl, rfl, rfl, fun _ _ => rfl, fun _ _ _ _ _ => rfl⟩
  · rw [tick_room ht hc hs ho, ht]
    refine ⟨rfl, rfl, rfl, fun r' hr => kDo_rooms _ _ _ _ _ _ (by omega), fun i x hx h1 h2 => kDo_lines _ _ _ _ _ _ fun hw e => ?_⟩
    obtain ⟨y, hy, h8, h9⟩ := op_wire hp hc (List.mem_of_getElem? ho) hw
    rw [← e, hx] at hy
    cases hy
    rcases hw with hw | hw
    · exact h1 (h8 hw)
    · exact h2 (h9 hw)
end Go.Proofs.YtnighanlonkjbaaDoor
