/- A region that draws its order, in a round of a range over a function: by the unfenced rules. -/
import Derived.OrdersIn
import Derived.OrdersHeld
import Derived.Deep.RegionHeld
import Derived.RangeFuncCalls
namespace Go.Proofs.YtldllmhgofacbaaGreatDoor

section
variable {P : Program} {ops : Array Oper} {Q : Exit → Act → World → Prop} {S : World → Prop} {l n : Nat}
/-- What must hold behind, and it is not let out. -/
def StrictQ (Q : Exit → Act → World → Prop) : Exit → Act → World → Prop
  | .outgrown, _, _ => False
  | e, a, w => Q e a w
theorem strict_not : ¬ LetsOut (StrictQ Q) := by
  rintro ⟨a, w, h⟩
  exact h
theorem strict_normal {a : Act} {w : World} (h : Q .normal a w) : StrictQ Q .normal a w := h
def noDefers (ops : Array Oper) : Bool := ops.toList.all fun o => match o.op with | .defer _ => false | _ => true
theorem noDefers_spec (h : noDefers ops = true) {i : Nat} {o : Oper} (ho : ops[i]? = some o) (c) : o.op ≠ .defer c := fun e => by
  unfold noDefers at h
  have h1 := List.all_eq_true.1 h o (by
    rw [← Array.getElem?_toList] at ho
    exact List.mem_of_getElem? ho)
  rw [e] at h1
  exact absurd h1 (by simp)
theorem upon_round {o : Oper} {a : Act} {K K' : Act → World → Prop} (hK : ∀ a w, K a w → K' a w) : ∀ {r : Result Next}, o.upon P a K (StrictQ Q) r → o.uponIn (Fence.wide.inRound l) n P a K' Q r
  | .ok (.value v) w', h => hK _ _ h
  | .ok .skip w', h => hK _ _ h
  | .ok (.defer d) w', h => hK _ _ h
  | .ok (.enter f args) w', h => ⟨fun hd => by simp [Fence.wide] at hd, CallsIn.inRound l ((callsIn_wide.2 h).mono fun e w'' he => by
      cases e with
      | returned v => exact hK _ _ he
      | panicked c => exact he
      | outgrown => exact absurd he strict_not)⟩
  | .ok (.row row args) w', h => ⟨fun hd => by simp [Fence.wide] at hd, fun c cs _ => let ⟨v, w'', r, s⟩ := h c cs; ⟨v, w'', hK _ _ r, stepsIn_wide.2 s⟩⟩
  | .ok (.round ..) w', h => h.elim
  | .halt (.panic v) w', h => h
  | .halt (.stuck s) w', h => by simp [Oper.upon] at h
theorem ops_round (hnd : noDefers ops = true) : ∀ (is : List Nat) (a : Act) (w : World), wpOps P ops (StrictQ Q) is a w → wpOpsIn (Fence.wide.inRound l) n P ops Q is a w
  | [], a, w, h => h
  | i :: rest, a, w, h => by
    rw [wpOps_cons] at h
    rw [wpOpsIn_cons]
    unfold wpOp at h
    unfold wpOpIn
    cases ho : ops[i]? with
    | none =>
      simp only [ho] at h ⊢
      exact ops_round hnd rest a w h
    | some o =>
      simp only [ho] at h ⊢
      split
      · rename_i hw
        simp only [hw, if_true] at h
        rcases h with h | ⟨_, h⟩
        · refine ⟨fun _ _ => trivial, ?_⟩
          rw [Oper.semAt_eq _ _ _ (noDefers_spec hnd ho)]
          exact upon_round (fun a w h => ops_round hnd rest a w h) h
        · exact absurd h strict_not
      · rename_i hw
        simp only [hw] at h
        exact ⟨fun _ _ => trivial, ops_round hnd rest _ w h⟩
theorem wpIn_round_held {id : Nat} {a : Act} {w : World} (hm : P.follows .mixedOrders = true) (hnd : noDefers ops = true) (hS : S w.drew)
    (h : S w.drew → wpAnyH P .any ops (StrictQ Q) S ops.size (Array.replicate ops.size false) a w.drew) : (Code.region id ops true).wpIn (Fence.wide.inRound l) n P Q a w :=
  wpIn_region_draw fun t => by
    simp only [Region.schedule, hm, Bool.true_or, if_true]
    exact ops_round hnd _ _ _ (wpAny_sound ops.size t _ a _ (wpAny_of_held _ _ _ _ (h hS)))
end
end Go.Proofs.YtldllmhgofacbaaGreatDoor
