/- Several parts: each begins with what it says. -/
import Derived.Test.YthdmgighblhmhaaGreatDoorKLawU
/- Plain: a tick changes no room but the one whose turn it is, and no wire but those of it. No program in sight. -/
namespace Go.Proofs.YthdmgighblhmhaaGreatDoor

theorem kDo_rooms (n : Int) (r : Nat) (o : Op) (s : St) (k : Kst) (r' : Nat) (h : r' ≠ r) : (kDo n r o s k).2.rooms[r']? = k.rooms[r']? := by
  unfold kDo
  have hs : ∀ t : St, (k.rooms.set r t)[r']? = k.rooms[r']? := fun t => List.getElem?_set_ne (fun e => h e.symm)
  split
  · rfl
  split
  · split
    · split
      · rfl
      · exact hs _
    · rfl
  split
  · split
    · exact hs _
    · rfl
  · exact hs _
theorem kDo_lines (n : Int) (r : Nat) (o : Op) (s : St) (k : Kst) (i : Nat) (h : o.what = 8 ∨ o.what = 9 → i ≠ o.b.toNat) : (kDo n r o s k).2.lines[i]? = k.lines[i]? := by
  unfold kDo
  split
  · rfl
  split
  · rename_i h9
    have hs : ∀ t : Ln, (k.lines.set o.b.toNat t)[i]? = k.lines[i]? := fun t => List.getElem?_set_ne (fun e => h (.inr h9) e.symm)
    split
    · split
      · rfl
      · exact hs _
    · rfl
  split
  · rename_i h8
    have hs : ∀ t : Ln, (k.lines.set o.b.toNat t)[i]? = k.lines[i]? := fun t => List.getElem?_set_ne (fun e => h (.inl h8) e.symm)
    split
    · exact hs _
    · rfl
  · rfl
/-- Whose wire an op is on. -/
theorem op_wire {p : Pl} (hp : PlOk p) {r : Nat} {ops : List Op} {o : Op} (hc : p.code[r]? = some ops) (ho : o ∈ ops) (hw : o.what = 8 ∨ o.what = 9) :
    ∃ x, p.wires[o.b.toNat]? = some x ∧ (o.what = 8 → x.fr = r) ∧ (o.what = 9 → x.to = r) := by
  have h := hp.ports r ops hc
  unfold portsOk at h
  have h1 := List.all_eq_true.1 h o ho
  unfold portOk at h1
  rcases hw with hw | hw
  · rw [if_pos hw] at h1
    cases hx : p.wires[o.b.toNat]? with
    | none => rw [hx] at h1; cases h1
    | some x => rw [hx] at h1; exact ⟨x, rfl, fun _ => of_decide_eq_true h1, fun h9 => by omega⟩
  · rw [if_neg (by omega), if_pos hw] at h1
    cases hx : p.wires[o.b.toNat]? with
    | none => rw [hx] at h1; cases h1
    | some x => rw [hx] at h1; exact ⟨x, rfl, fun h8 => by omega, fun _ => of_decide_eq_true h1⟩
/-- What a tick leaves alone. -/
theorem tick_others {p : Pl} {k : Kst} {B : Int} {spans : List Span} (hp : PlOk p) (h : KOk p k B) (hsp : ∀ s ∈ spans, 0 ≤ s.room ∧ s.room < p.code.length) :
    (tickBy p spans k).1.room = turnAt spans (k.time % p.ticks) ∧ (tickBy p spans k).1.tick = k.time ∧ (tickBy p spans k).2.time = k.time + 1 ∧
    (∀ r : Nat, (r : Int) ≠ turnAt spans (k.time % p.ticks) → (tickBy p spans k).2.rooms[r]? = k.rooms[r]?) ∧
    (∀ (i : Nat) (x : Wire), p.wires[i]? = some x → x.fr ≠ turnAt spans (k.time % p.ticks) → x.to ≠ turnAt spans (k.time % p.ticks) → (tickBy p spans k).2.lines[i]? = k.lines[i]?) := by
  rcases tick_meets hp h hsp with ht | ⟨r, ops, s, o, ht, hc, hs, ho⟩
  · rw [tick_none ht, ht]
    exact ⟨rfl, rfl, rfl, fun _ _ => rfl, fun _ _ _ _ _ => rfl⟩
  · rw [tick_room ht hc hs ho, ht]
    refine ⟨rfl, rfl, rfl, fun r' hr => kDo_rooms _ _ _ _ _ _ (by omega), fun i x hx h1 h2 => kDo_lines _ _ _ _ _ _ fun hw e => ?_⟩
    obtain ⟨y, hy, h8, h9⟩ := op_wire hp hc (List.mem_of_getElem? ho) hw
    rw [← e, hx] at hy
    cases hy
    rcases hw with hw | hw
    · exact h1 (h8 hw)
    · exact h2 (h9 hw)
end Go.Proofs.YthdmgighblhmhaaGreatDoor

/- Plain: what a tick of a kernel of a plan that is right leaves alone, room by room and wire by wire. -/
namespace Go.Proofs.YthdmgighblhmhaaGreatDoor

theorem tick_time {p : Pl} (hp : PlOk p) {k : Kst} {B : Int} (hk : KOk p k B) : (tick p k).2.time = k.time + 1 := (tick_others hp hk (spans_ok hp)).2.2.1
theorem runK_at {p : Pl} (hp : PlOk p) : ∀ t : Nat, (runK p t).time = t
  | 0 => rfl
  | t + 1 => by
    show (tick p (runK p t)).2.time = _
    rw [tick_time hp (runK_ok hp t), runK_at hp t]; rfl
def whoAt (p : Pl) (i : Nat) : Int := turnAt p.spans ((i : Int) % p.ticks)
theorem turns_tick {p : Pl} (hp : PlOk p) (i : Nat) : ∃ pc what : Int, tick p (runK p i) = (⟨i, whoAt p i, pc, what⟩, runK p (i + 1)) := by
  have h := tick_others hp (runK_ok hp i) (spans_ok hp)
  rw [runK_at hp i] at h
  refine ⟨(tick p (runK p i)).1.pc, (tick p (runK p i)).1.what, ?_⟩
  have h1 : (tick p (runK p i)).1.room = whoAt p i := h.1
  have h2 : (tick p (runK p i)).1.tick = i := h.2.1
  show _ = (_, (tick p (runK p i)).2)
  rw [← h1, ← h2]
theorem turns_room {p : Pl} (hp : PlOk p) (i r : Nat) (hr : r < p.code.length) : ∃ s t, (runK p i).rooms[r]? = some s ∧ (runK p (i + 1)).rooms[r]? = some t ∧ ((r : Int) ≠ whoAt p i → t = s) := by
  have h := tick_others hp (runK_ok hp i) (spans_ok hp)
  rw [runK_at hp i] at h
  have l1 := (runK_ok hp i).rooms
  have l2 := (runK_ok hp (i + 1)).rooms
  refine ⟨_, _, List.getElem?_eq_getElem (by omega), List.getElem?_eq_getElem (by omega), fun hne => ?_⟩
  have h3 := h.2.2.2.1 r hne
  have h4 : (runK p (i + 1)).rooms[r]? = (runK p i).rooms[r]? := h3
  rw [List.getElem?_eq_getElem (by omega), List.getElem?_eq_getElem (by omega)] at h4
  exact Option.some.inj h4
theorem turns_wire {p : Pl} (hp : PlOk p) (i j : Nat) {x : Wire} (hx : p.wires[j]? = some x) : ∃ y z, (runK p i).lines[j]? = some y ∧ (runK p (i + 1)).lines[j]? = some z ∧ z.items.length ≤ 6 ∧ (x.fr ≠ whoAt p i → x.to ≠ whoAt p i → z = y) := by
  have h := tick_others hp (runK_ok hp i) (spans_ok hp)
  rw [runK_at hp i] at h
  have g : ∀ t, ∃ y, (runK p t).lines[j]? = some y := fun t => by
    have h1 := (runK_ok hp t).lines
    rw [← h1, List.getElem?_map, Option.map_eq_some_iff] at hx
    obtain ⟨y, hy, _⟩ := hx
    exact ⟨y, hy⟩
  obtain ⟨y, hy⟩ := g i
  obtain ⟨z, hz⟩ := g (i + 1)
  refine ⟨y, z, hy, hz, ((runK_ok hp (i + 1)).lns z (List.mem_of_getElem? hz)).six, fun h1 h2 => ?_⟩
  have h3 : (runK p (i + 1)).lines[j]? = (runK p i).lines[j]? := h.2.2.2.2 j x hx h1 h2
  rw [hy, hz] at h3
  exact Option.some.inj h3
end Go.Proofs.YthdmgighblhmhaaGreatDoor

/- Plain: two kernels alike on rooms to which no wire leads from outside go on alike there (Goguen, Meseguer). No program in sight. -/
namespace Go.Proofs.YthdmgighblhmhaaGreatDoor

structure AlikeOn (S : Int → Prop) (p : Pl) (k m : Kst) : Prop where
  time : k.time = m.time
  rooms : ∀ r : Nat, S r → k.rooms[r]? = m.rooms[r]?
  lines : ∀ (i : Nat) (x : Wire), p.wires[i]? = some x → S x.to → k.lines[i]? = m.lines[i]?
theorem set_alike {α : Type} {l l' : List α} {r r' : Nat} {t : α} (hl : r < l.length) (hl' : r < l'.length) (h : l[r']? = l'[r']?) : (l.set r t)[r']? = (l'.set r t)[r']? := by
  by_cases e : r = r'
  · subst e; rw [List.getElem?_set_self hl, List.getElem?_set_self hl']
  · rw [List.getElem?_set_ne e, List.getElem?_set_ne e]; exact h
theorem KOk.line {p : Pl} {k : Kst} {B : Int} (h : KOk p k B) {i : Nat} {x : Wire} (hx : p.wires[i]? = some x) : ∃ y, k.lines[i]? = some y ∧ y.w = x := by
  have h1 := h.lines
  rw [← h1, List.getElem?_map, Option.map_eq_some_iff] at hx
  exact hx
theorem kDo_alike {S : Int → Prop} {p q : Pl} {k m : Kst} {B C : Int} (hp : PlOk p) (hk : KOk p k B) (hm : KOk q m C) (hw : p.wires = q.wires) {r : Nat} {ops : List Op} {s : St} {o : Op} (hc : p.code[r]? = some ops) (hs : k.rooms[r]? = some s) (hs' : m.rooms[r]? = some s) (ho : o ∈ ops)
    (hS : S r) (h : AlikeOn S p k m) (n : Int) :
    (∀ r' : Nat, S r' → (kDo n r o s k).2.rooms[r']? = (kDo n r o s m).2.rooms[r']?) ∧ (∀ (i : Nat) (x : Wire), p.wires[i]? = some x → S x.to → (kDo n r o s k).2.lines[i]? = (kDo n r o s m).2.lines[i]?) ∧
    (∀ x, (o.what = 8 → p.wires[o.b.toNat]? = some x → S x.to) → (o.what = 8 → p.wires[o.b.toNat]? = some x) → (kDo n r o s k).1 = (kDo n r o s m).1) := by
  have hl1 := (List.getElem?_eq_some_iff.1 hs).1
  have hl2 := (List.getElem?_eq_some_iff.1 hs').1
  have put : ∀ t : St, ∀ r' : Nat, S r' → (k.rooms.set r t)[r']? = (m.rooms.set r t)[r']? := fun t r' hr' => set_alike hl1 hl2 (h.rooms r' hr')
  unfold kDo
  by_cases hf : s.failed = true
  · rw [if_pos hf, if_pos hf]; exact ⟨h.rooms, h.lines, fun _ _ _ => rfl⟩
  rw [if_neg hf, if_neg hf]
  by_cases h9 : o.what = 9
  · obtain ⟨x, hx, _, h9t⟩ := op_wire hp hc ho (.inr h9)
    have hto : S x.to := by rw [h9t h9]; exact hS
    obtain ⟨y, hy, rfl⟩ := hk.line hx
    have hy' := h.lines _ _ hx hto
    rw [hy] at hy'
    rw [if_pos h9, if_pos h9, hy, ← hy']
    simp only []
    have hi1 := (List.getElem?_eq_some_iff.1 hy).1
    have hi2 := (List.getElem?_eq_some_iff.1 hy'.symm).1
    cases y.items with
    | nil => exact ⟨h.rooms, h.lines, fun _ _ _ => rfl⟩
    | cons a rest => exact ⟨put _, fun i x hx hx' => set_alike hi1 hi2 (h.lines i x hx hx'), fun _ _ _ => rfl⟩
  rw [if_neg h9, if_neg h9]
  by_cases h8 : o.what = 8
  · obtain ⟨x, hx, h8f, _⟩ := op_wire hp hc ho (.inl h8)
    obtain ⟨y, hy, hyx⟩ := hk.line hx
    obtain ⟨z, hz, hzx⟩ := hm.line (hw ▸ hx)
    rw [if_pos h8, if_pos h8, hy, hz]
    simp only []
    have hi1 := (List.getElem?_eq_some_iff.1 hy).1
    have hi2 := (List.getElem?_eq_some_iff.1 hz).1
    refine ⟨put _, fun i x' hx' hxs => ?_, fun x' hx' hxe => ?_⟩
    · by_cases e : i = o.b.toNat
      · subst e
        rw [hx] at hx'; cases hx'
        have := h.lines _ _ hx hxs
        rw [hy, hz] at this
        cases this
        exact set_alike hi1 hi2 (by rw [hy, hz])
      · rw [List.getElem?_set_ne (fun e' => e e'.symm), List.getElem?_set_ne (fun e' => e e'.symm)]
        exact h.lines i x' hx' hxs
    · have h1 := hxe h8
      have h2 := hx' h8 h1
      have := h.lines _ _ h1 h2
      rw [hy, hz] at this
      cases this; rfl
  · rw [if_neg h8, if_neg h8]
    exact ⟨put _, h.lines, fun _ _ _ => rfl⟩
theorem tick_alike {S : Int → Prop} {p q : Pl} {k m : Kst} {B C : Int} {spans : List Span} (hp : PlOk p) (hq : PlOk q) (hk : KOk p k B) (hm : KOk q m C) (ht : p.ticks = q.ticks) (hw : p.wires = q.wires) (hn : p.code.length = q.code.length)
    (hsp : ∀ s ∈ spans, 0 ≤ s.room ∧ s.room < p.code.length) (hc : ∀ r : Nat, S r → p.code[r]? = q.code[r]?) (hS : ∀ x ∈ p.wires, S x.to → S x.fr) (h : AlikeOn S p k m) :
    AlikeOn S p (tickBy p spans k).2 (tickBy q spans m).2 ∧ (tickBy p spans k).1.room = (tickBy q spans m).1.room := by
  have hte : turnAt spans (m.time % q.ticks) = turnAt spans (k.time % p.ticks) := by rw [← h.time, ht]
  rcases tick_meets hp hk hsp with h0 | ⟨r, ops, s, o, h0, hco, hs, ho⟩
  · rw [tick_none h0, tick_none (hte.trans h0)]
    exact ⟨⟨by simp only [h.time], h.rooms, h.lines⟩, rfl⟩
  · rcases tick_meets hq hm (hn ▸ hsp) with h0' | ⟨r', ops', s', o', h0', hco', hs', ho'⟩
    · rw [hte, h0] at h0'; omega
    · rw [hte, h0] at h0'
      obtain rfl : r = r' := by omega
      rw [tick_room h0 hco hs ho, tick_room (hte.trans h0) hco' hs' ho']
      refine ⟨?_, rfl⟩
      by_cases hSr : S r
      · have e1 := hc r hSr
        rw [hco, hco'] at e1
        cases e1
        have e2 := h.rooms r hSr
        rw [hs, hs'] at e2
        cases e2
        rw [ho] at ho'
        cases ho'
        obtain ⟨a, b, _⟩ := kDo_alike hp hk hm hw hco hs hs' (List.mem_of_getElem? ho) hSr h ops.length
        exact ⟨by simp only [h.time], a, b⟩
      · refine ⟨by simp only [h.time], fun r1 h1 => ?_, fun i x hx h1 => ?_⟩
        · have hne : r1 ≠ r := by rintro rfl; exact hSr h1
          simp only []
          rw [kDo_rooms _ _ _ _ _ _ hne, kDo_rooms _ _ _ _ _ _ hne]
          exact h.rooms r1 h1
        · simp only []
          have far : ∀ (p' : Pl) (_ : PlOk p') (_ : p'.wires = p.wires) (ops1 : List Op) (o1 : Op), p'.code[r]? = some ops1 → o1 ∈ ops1 → o1.what = 8 ∨ o1.what = 9 → i ≠ o1.b.toNat := by
            intro p' hp' hwe ops1 o1 hc1 ho1 hw1 e
            obtain ⟨y, hy, g8, g9⟩ := op_wire hp' hc1 ho1 hw1
            rw [← e, hwe, hx] at hy
            cases hy
            rcases hw1 with g | g
            · exact hSr (by rw [← g8 g]; exact hS x (List.mem_of_getElem? hx) h1)
            · exact hSr (by rw [← g9 g]; exact h1)
          rw [kDo_lines _ _ _ _ _ _ (far p hp rfl ops o hco (List.mem_of_getElem? ho)), kDo_lines _ _ _ _ _ _ (far q hq hw.symm ops' o' hco' (List.mem_of_getElem? ho'))]
          exact h.lines i x hx h1
end Go.Proofs.YthdmgighblhmhaaGreatDoor

/- Plain: a plan without those that cannot tell a room. No program in sight. -/
namespace Go.Proofs.YthdmgighblhmhaaGreatDoor

def restOps : List Op := [⟨10, 0, 0⟩]
noncomputable def purgeRow (ws : List Wire) (room i : Nat) (c : List Op) : List Op := if reachB ws i room = true then c else restOps
noncomputable def purgePl (p : Pl) (room : Nat) : Pl := ⟨p.code.mapIdx (purgeRow p.wires room), p.ticks, p.spans, p.wires⟩
theorem purge_len (p : Pl) (room : Nat) : (purgePl p room).code.length = p.code.length := by simp [purgePl]
theorem purge_get (p : Pl) (room i : Nat) : (purgePl p room).code[i]? = p.code[i]?.map (purgeRow p.wires room i) := by simp [purgePl]
theorem purge_twice (p : Pl) (room : Nat) : purgePl (purgePl p room) room = purgePl p room := by
  show Pl.mk _ _ _ _ = Pl.mk _ _ _ _
  congr 1
  apply List.ext_getElem?
  intro i
  simp only [purgePl, List.getElem?_mapIdx, Option.map_map]
  congr 1
  funext c
  simp only [Function.comp, purgeRow]
  split <;> rfl
theorem codes_all {l : List (List Op)} (h : ∀ c ∈ l, (codeChk c).2 = 0) : codesChk l = 0 := by
  induction l with
  | nil => rfl
  | cons a r ih =>
    unfold codesChk
    rw [if_neg (show ¬ (codeChk a).2 ≠ 0 from fun h1 => h1 (h a (by simp)))]
    exact ih fun c hc => h c (by simp [hc])
theorem ports_all {ws : List Wire} : ∀ {l : List (List Op)} {i : Nat}, (∀ k c, l[k]? = some c → portsOk ws (i + k) c = true) → allPorts ws l i = true
  | [], _, _ => rfl
  | a :: r, i, h => by
    unfold allPorts
    rw [Bool.and_eq_true]
    refine ⟨h 0 a rfl, ports_all fun k c hk => ?_⟩
    have := h (k + 1) c (by simpa using hk)
    rwa [show i + 1 + k = i + (k + 1) by omega]
/-- A plan is right, if all of it is. -/
theorem planChk_of {p : Pl} (h : PlOk p) : planChk p = 0 := by
  unfold planChk
  have h1 := h.some1
  have h2 := h.most5
  rw [if_neg (by omega), if_neg (by omega), if_neg (fun h3 => h3 h.frame), if_neg (fun h3 => h3 h.flow), if_neg, if_neg (fun h3 => h3 (codes_all h.codes)), if_neg]
  · rw [ports_all (fun k c hk => by rw [Nat.zero_add]; exact h.ports k c hk)]; simp
  · simp only [Bool.or_eq_true, not_or, Bool.not_eq_true, List.any_eq_false]
    refine ⟨fun s hs => ?_, fun x hx => ?_⟩
    · have := h.spans s hs
      simp only [spanOver, decide_eq_false_iff_not]; omega
    · have := h.wires x hx
      simp only [wireOver, decide_eq_false_iff_not]; omega
theorem rest_ok : (codeChk restOps).2 = 0 := by decide
theorem purge_ok {p : Pl} (h : PlOk p) (room : Nat) : PlOk (purgePl p room) := by
  have hl := purge_len p room
  refine ⟨by rw [hl]; exact h.some1, by rw [hl]; exact h.most5, h.frame, h.flow, fun s hs => by rw [hl]; exact h.spans s hs, fun x hx => by rw [hl]; exact h.wires x hx, fun c hc => ?_, fun k c hk => ?_⟩
  · obtain ⟨i, hi⟩ := List.mem_iff_getElem?.1 hc
    rw [purge_get, Option.map_eq_some_iff] at hi
    obtain ⟨d, hd, rfl⟩ := hi
    unfold purgeRow
    split
    · exact h.codes d (List.mem_of_getElem? hd)
    · exact rest_ok
  · rw [purge_get, Option.map_eq_some_iff] at hk
    obtain ⟨d, hd, rfl⟩ := hk
    unfold purgeRow
    split
    · exact h.ports k d hd
    · rfl
theorem purge_chk {p : Pl} (h : planChk p = 0) (room : Nat) : planChk (purgePl p room) = 0 := planChk_of (purge_ok (planChk_ok h) room)
end Go.Proofs.YthdmgighblhmhaaGreatDoor
