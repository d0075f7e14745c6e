/- Package kernel: New, Tick, State, Wire, Time of a kernel that runs in new memory; and what a plan that is right says of its kernel. -/
import Derived.Test.YtnighanlonkjbaaDoorKernTick2
import Derived.Test.YtnighanlonkjbaaDoorKernNew
import Derived.Test.YtnighanlonkjbaaDoorKernWire
import Derived.Test.YtnighanlonkjbaaDoorGrow
import Derived.Test.YtnighanlonkjbaaDoorSightLaw
namespace Go.Proofs.YtnighanlonkjbaaDoor
open Go.RowKit
set_option maxRecDepth 100000

def KNew (w : World) (p : Pl) (e : Ending) (w' : World) : Prop := ∃ kb M, e = .returned (.tuple #[.pointer (some ⟨kb, 0, none⟩), .nilIface]) ∧ KRun w w' kb p M (kNew p)
theorem new_run (w : World) (m : PM) (hf : Forms w) (hm : PlanAt w m) (he : planChk m.pl = 0) :
    Calls Tryd.prog 33 #[.agg #[.slice m.A m.ros.length m.c, .int .i64 m.ticks, .slice m.sA m.spans.length m.sc, .slice m.wA m.wires.length m.wc]] w (KNew w m.pl) :=
  (kern_new_ok w m hf hm he).mono fun _ _ ⟨kb, M, h1, h2, h3, h4, h5⟩ => ⟨kb, M, h1, h2, h3, h4, h5⟩

/-- What a tick leaves. -/
def KGo (w wr : World) (kb : Nat) (p : Pl) (M : KM) (q : Ev × Kst) (e : Ending) (w3 : World) : Prop :=
  ∃ M', e = .returned (.agg #[.int .i64 q.1.tick, .int .i64 q.1.room, .int .i64 q.1.pc, .int .i64 q.1.what]) ∧ KRun w w3 kb p M' q.2 ∧ Keep (KF kb M) wr w3 ∧ ∀ j, TF kb M' j → TF kb M j ∨ wr.heap.size ≤ j
section
variable {w wr : World} {kb : Nat} {p : Pl} {M : KM} {k : Kst}
theorem tick_run (h : KRun w wr kb p M k) {B : Int} (hp : PlOk p) (hk : KOk p k B) (hB : B < 4611686018427387904) : Calls Tryd.prog 35 #[.pointer (some ⟨kb, 0, none⟩)] wr (KGo w wr kb p M (tick p k)) :=
  (ktick_any wr kb M k p B hp h.plan hk hB h.kat).mono fun _ _ ⟨M', h1, h2, h3, h4, h5⟩ => ⟨M', h1, h.ticked h2 h3 h4 h5, h4, by
    rintro j (hj | hj | hj)
    · exact (h5 j hj).imp_left .inl
    · rw [h3.2] at hj; exact .inl (.inr (.inl hj))
    · rw [h3.1] at hj; exact .inl (.inr (.inr hj))⟩
theorem state_run (h : KRun w wr kb p M k) {B : Int} (hp : PlOk p) (hk : KOk p k B) {r : Nat} {s : St} (hr : k.rooms[r]? = some s) :
    Calls Tryd.prog 36 #[.pointer (some ⟨kb, 0, none⟩), .int .i64 r] wr fun e w' => e = .returned (.tuple #[.agg (stV s), .nilIface]) ∧ Below wr.heap.size wr w' := by
  have h1 := kstate_any (r : Int) (by rw [hk.rooms]; exact hp.most5) h.kat
  have hlt := (List.getElem?_eq_some_iff.1 hr).1
  have h2 : stateOf k (r : Int) = (s, 0) := by
    unfold stateOf inB
    rw [if_pos (decide_eq_true (by omega)), Int.toNat_natCast, List.getD_eq_getElem?_getD, hr]; rfl
  rw [h2] at h1
  refine h1.mono fun e w' h3 => ?_
  unfold StateV at h3
  rw [errV_zero] at h3
  exact h3
theorem wires_few {p : Pl} (hp : PlOk p) : p.wires.length ≤ 12 := by
  have h := hp.flow
  unfold flowChk at h
  split at h
  · simp at h
  · omega
theorem lines_len {B : Int} (hk : KOk p k B) : k.lines.length = p.wires.length := by rw [← hk.lines, List.length_map]
theorem wire_run (h : KRun w wr kb p M k) {B : Int} (hp : PlOk p) (hk : KOk p k B) {i : Nat} {x : Ln} (hx : k.lines[i]? = some x) :
    Calls Tryd.prog 39 #[.pointer (some ⟨kb, 0, none⟩), .int .i64 i] wr (WireV wr x.items x.lost 0) := by
  have h1 := kwire_any (i : Int) p B hk (by rw [lines_len hk]; exact wires_few hp) h.kat
  have hlt := (List.getElem?_eq_some_iff.1 hx).1
  have h2 : wireOf k (i : Int) = ((x.items, x.lost), 0) := by
    unfold wireOf inB
    rw [if_pos (decide_eq_true (by omega)), Int.toNat_natCast, List.getD_eq_getElem?_getD, hx]; rfl
  rw [h2] at h1
  exact h1
theorem time_run (h : KRun w wr kb p M k) : Calls Tryd.prog 37 #[.pointer (some ⟨kb, 0, none⟩)] wr fun e w' => e = .returned (.int .i64 k.time) ∧ wr = w' := ktime_any h.kat
end
theorem tick_room_time (p : Pl) (hp : PlOk p) (k : Kst) {B : Int} (hk : KOk p k B) : (tick p k).2.time = k.time + 1 := by
  rcases tick_meets hp hk (spans_ok hp) with h0 | ⟨r, ops, s, o, h0, hc, hs, ho⟩
  · unfold tick; rw [tick_none h0]
  · unfold tick; rw [tick_room h0 hc hs ho]
theorem runK_time (p : Pl) (hp : PlOk p) : ∀ t : Nat, (runK p t).time = t
  | 0 => rfl
  | t + 1 => by
    have h := (tick_room_time p hp (runK p t) (runK_ok hp t))
    show (tick p (runK p t)).2.time = _
    rw [h, runK_time p hp t]; rfl
end Go.Proofs.YtnighanlonkjbaaDoor
