/- Several parts: each begins with what it says. -/
import Derived.Test.YthdmgighblhmhaaGreatDoorDeskU
import Derived.Test.YthdmgighblhmhaaGreatDoorOpen2
import Derived.Deep.DeepCutAuto
import Derived.Test.YthdmgighblhmhaaGreatDoorRangeU
import Derived.Shelf.Abstract
import Derived.Shelf.RegionOpen
import Derived.WalkKit
import Derived.OwnWalkIn
import Derived.TacticsInMore
import Derived.LoopNIn
import Derived.LoopIn
/- Package snap: the contract of words; and the library's strings.Lines. Conditions: none. -/
namespace Go.Proofs.YthdmgighblhmhaaGreatDoor
open Go.RowKit
set_option maxRecDepth 100000

theorem lines_made0 (s : ByteArray) (w : World) :
    Calls Tryz.prog 14 #[.string s] w fun e w' => e = .returned (.func (.func 29) #[] #[.pointer (some ⟨w.heap.size, 0, none⟩)]) ∧ w' = w.alloc (.cells #[.string s] 9) := by
  go_enter Tryz.func14, Tryz.ntmps14
  go_wp2
  go_ret
  exact ⟨rfl, rfl⟩

/-- Midway: so many words are laid, in new memory; the plan's box lies as it lay. -/
structure WordsAt (w : World) (bx : Obj) (wr : World) (A : Option Addr) (n c : Nat) : Prop where
  row : ∃ xs, Row wr 9 1 A n c xs
  fresh : ∀ i, InA A i → w.heap.size + 1 ≤ i
  box : wr.heap[w.heap.size]? = some bx
  below : Below w.heap.size w wr
theorem WordsAt.more {w : World} {bx o : Obj} {wr w1 : World} {A A' : Option Addr} {n n' c c' : Nat} {xs : List Value} (h : WordsAt w bx wr A n c) (hr : Row w1 9 1 A' n' c' xs) (hk : Keep (InA A) (wr.alloc o) w1) (hn : ∀ k, InA A' k → InA A k ∨ (wr.alloc o).heap.size ≤ k) : WordsAt w bx w1 A' n' c' := by
  have hs := h.below.size
  have hl := blk_lt h.box
  refine ⟨⟨xs, hr⟩, fun i hi => ?_, ?_, (h.below.alloc hs o).trans (Keep.below hk (by rw [sz_alloc]; omega) fun i hi => by have := h.fresh i hi; omega)⟩
  · rcases hn i hi with h1 | h1
    · exact h.fresh i h1
    · rw [sz_alloc] at h1; omega
  · rw [hk.block _ (by rw [sz_alloc]; omega) (fun hi => by have := h.fresh _ hi; omega), blk_alloc hl]
    exact h.box

end Go.Proofs.YthdmgighblhmhaaGreatDoor

/- strings.Lines' iterator over the empty text: no line comes. Conditions: none. -/
namespace Go.Proofs.YthdmgighblhmhaaGreatDoor
open Go.RowKit Go.Shelf
set_option maxRecDepth 100000
attribute [local go_sem] Oper.semAt_some

set_option maxHeartbeats 1000000 in
theorem lines_none {α : Type} (encs : α → Array Value) (n t T : Nat) (w : World) (ht : w.heap[t]? = some (.cells #[.string ⟨#[]⟩] T (0, 0))) :
    GivesAll Fence.wide n Tryz.prog 29 #[.pointer (some ⟨t, 0, none⟩)] encs t ([] : List α) w := by
  intro l J Jx W hW hJ hJx hJs hJxs hY h0
  have hl := blk_lt ht
  have hb := (hW.block _ hl).trans ht
  have hc := blk_cell hb 0
  simp at hc
  refine callsIn_of_wp Tryz.func29 rfl trivial ?_ rfl
  simp only [Tryz.ntmps29, List.size_toArray, List.length_cons, List.length_nil, Nat.reduceAdd, Nat.reduceSub, Array.replicate_succ, Array.replicate_zero, List.push_toArray, List.append_toArray, List.nil_append, List.cons_append]
  gi_wp2
  gi_loopw [3] (fun _ wr => wr = W) (fun _ _ => 0)
  case atStart => rfl
  case round =>
    subst hrel
    gi_wp2
    go_end0
    exact ⟨⟨_, rfl⟩, .inl h0⟩
end Go.Proofs.YthdmgighblhmhaaGreatDoor
