/- Several parts: each begins with what it says. -/
import Derived.RangeFuncNested
import Derived.RangeFuncBound
import Derived.RangeFuncCalls
import Derived.RangeFuncLeaves
import Derived.Test.YthdmgighblhmhaaGreatDoorDeskU
import Derived.Test.YthdmgighblhmhaaGreatDoorShelf
import Derived.RangeFuncBox
import Derived.Shelf.Abstract
import Derived.Shelf.RegionOpen
import Derived.WalkKit
import Derived.OwnWalkIn
import Derived.TacticsInMore
import Derived.LoopNIn
import Derived.LoopIn
import Derived.BigRegionIn
import Derived.Test.YthdmgighblhmhaaGreatDoorOpen
import Derived.Test.YthdmgighblhmhaaGreatDoorOpen2
import Derived.Test.YthdmgighblhmhaaGreatDoorBaseU
/- A range over a function whose iterator writes a captured cell of its own between two rounds: the statement's law, over any program. Conditions: the iterator's contract 'GivesAll', and the two parties' words. -/
namespace Go.Proofs.YthdmgighblhmhaaGreatDoor
open Go Go.RowKit

/-- An invariant abides what an iterator with a cell at t does: turns of blocks from B on that are no cells, and writes into t. -/
structure Abide {β : Type} (B t : Nat) (I : β → World → Prop) : Prop where
  turn : OwnFrom B I
  cell : ∀ s W v, I s W → I s (W.setCell ⟨t, 0, none⟩ v)
theorem Abide.put {β : Type} {B t : Nat} {I : β → World → Prop} (h : Abide B t I) {s : β} {W : World} {l : Nat} {o : Obj} (o' : Obj) (hs : I s W) (hB : B ≤ l) (hl : W.heap[l]? = some o) (ho : o.isCells = false) : I s (W.putObj l o') :=
  h.turn.putObj o' hs hB hl ho
theorem Abide.and {β : Type} {B t : Nat} {I K : β → World → Prop} (h : Abide B t I) (k : Abide B t K) : Abide B t (fun s W => I s W ∧ K s W) :=
  ⟨h.turn.and k.turn, fun s W v hs => ⟨h.cell s W v hs.1, k.cell s W v hs.2⟩⟩

/-- The iterator's contract: all its elements come, in their order, or a first part of them, a round having said 'no more'. -/
def GivesAll {α : Type} (F : Fence) (n : Nat) (P : Program) (g : Nat) (lb : Array Value) (encs : α → Array Value) (t : Nat) (all : List α) (w : World) : Prop :=
  ∀ (l : Nat) (J Jx : List α → World → Prop) (W : World), Below w.heap.size w W → AbidesFrom W.heap.size J → AbidesFrom W.heap.size Jx →
    (∀ s W v, J s W → J s (W.setCell ⟨t, 0, none⟩ v)) → (∀ s W v, Jx s W → Jx s (W.setCell ⟨t, 0, none⟩ v)) →
    (∀ pre x W1, J pre W1 → pre ++ [x] <+: all → YieldAt F (n - 1) P l (encs x) W1 fun e W' =>
      (e = .returned (.bool true) ∧ J (pre ++ [x]) W' ∧ W'.heap[t]? = W1.heap[t]?) ∨ (e = .returned (.bool false) ∧ Jx (pre ++ [x]) W')) →
    J [] W →
    CallsIn F n P g (#[.func (.yield l) #[] #[]] ++ lb) W fun e W' => (∃ v, e = .returned v) ∧ (J all W' ∨ ∃ pre, pre <+: all ∧ Jx pre W')

/-- How a round may be left. -/
def RoundLeft {α : Type} (B t : Nat) (I : List α → World → Prop) (Ix : Code → List α → World → Prop) (xs : List α) (W : World) : Exit → Act → World → Prop
  | .normal, _, W' => KeepsFrom B W W' ∧ W'.heap[t]? = W.heap[t]? ∧ I xs W'
  | .ret, _, W' => KeepsFrom B W W' ∧ Ix .ret xs W'
  | .exit id, _, W' => KeepsFrom B W W' ∧ Ix (.exit id) xs W'
  | .goto u, _, W' => KeepsFrom B W W' ∧ Ix (.goto u) xs W'
  | .panic _, _, _ => False
  | .outgrown, _, _ => False

theorem block_keep {W W' : World} {row : Option Nat} (hg : W.grownBy W' row) (hr : ∀ r, row = some r → ∃ o : Obj, W.heap[r]? = some o ∧ o.isWalk = true) {k : Nat} {o : Obj} (hk : W.heap[k]? = some o) (ho : o.isWalk = false) : W'.heap[k]? = some o :=
  (grownBy_keeps hg hr hk ho).trans hk
theorem set_keep {W : World} {t k : Nat} {v : Value} {o : Obj} (hk : W.heap[k]? = some o) (ne : k ≠ t) : (W.setCell ⟨t, 0, none⟩ v).heap[k]? = some o :=
  (Below.heap_setCell W ⟨t, 0, none⟩ v k ne).trans hk

variable {F : Fence} {n : Nat} {P : Program}

theorem range_cell {α : Type} {g : Operand} {ps : Array Tmp} {assign body : Code} {Q : Exit → Act → World → Prop} {a : Act} {w : World} {t : Nat} {all : List α}
    (hro : F.round = none) (h1 : 1 ≤ n) {gf : Nat} {lb : Array Value} (hg : a.eval g = .func (.func gf) #[] lb) (hFg : F.fn gf) (eg : ∀ args w, (callFunc gf args).run P w = .ok (.enter gf args) w)
    {encs : α → Array Value} (ht : t < w.heap.size) (hseq : GivesAll F (n - 1) P gf lb encs t all w) (hps : ∀ x, (encs x).size = ps.size)
    (I : List α → World → Prop) (Ix : Code → List α → World → Prop) (hI : Abide w.heap.size t I) (hIx : ∀ c, Abide w.heap.size t (Ix c)) (h0 : I [] w) (a₁ : α → Act)
    (hassign : ∀ (l : Nat) (x : α) (W : World) (K : Act → World → Prop), K (a₁ x) W →
      assign.wpIn (F.inRound l) (n - 1 - 1) P (Exit.then K (fun _ _ _ => False)) { tmps := (ps.zip (encs x)).foldl (fun u (p, v) => u.setIfInBounds p v) a.tmps, defers := [] } W)
    (hbody : ∀ (l : Nat) (pre : List α) (x : α) (W : World), I pre W → pre ++ [x] <+: all → body.wpIn (F.inRound l) (n - 1 - 1) P (RoundLeft w.heap.size t I Ix (pre ++ [x]) W) (a₁ x) W)
    (hdone : ∀ (D : Nat) (W : World), w.heap.size ≤ D → I all W → W.heap[D]? = some (.deferred (some [])) → Q .normal { a with defers := { target := .collected D, args := #[] } :: a.defers } W)
    (hstop : ∀ (D : Nat) (c : Code) (pre : List α) (W : World), w.heap.size ≤ D → pre <+: all → Ix c pre W → W.heap[D]? = some (.deferred (some [])) → c.wpIn F n P Q { a with defers := { target := .collected D, args := #[] } :: a.defers } W) :
    (Code.rangeFunc g ps assign body).wpIn F n P Q a w := by
  obtain ⟨m, hm⟩ : ∃ m, m = w.heap.size := ⟨_, rfl⟩
  rw [← hm] at ht hI hIx hbody hdone hstop
  refine wpIn_rangeFunc fun fn hfn => ?_
  rw [hro]
  obtain ⟨R, hR⟩ : ∃ R : LoopState → Option Code → Loop, R = fun st pe => { state := st, pending := pe, fn, tmps := a.tmps, params := ps, assign, body, defers := m } := ⟨_, rfl⟩
  obtain ⟨V, hV⟩ : ∃ V, V = (w.alloc (.deferred (some []))).alloc (.loop (R .ready none)) := ⟨_, rfl⟩
  have hVs : V.heap.size = m + 2 := by rw [hV, hm]; simp
  have hVD : V.heap[m]? = some (.deferred (some [])) := by
    rw [hV, Below.heap_alloc _ _ _ (by rw [hm]; simp), hm]; exact World.alloc_heap_new w _
  have hVL : V.heap[m + 1]? = some (.loop (R .ready none)) := by
    have := World.alloc_heap_new (w.alloc (.deferred (some []))) (.loop (R .ready none))
    rw [World.size_alloc, ← hm] at this
    rw [hV]; exact this
  have hVI : I [] V := by rw [hV]; exact hI.turn.alloc _ (hI.turn.alloc _ h0)
  have hVb : Below w.heap.size w V := by rw [hV]; exact ((Below.refl _ w).alloc (Nat.le_refl _) _).alloc (by simp) _
  refine ⟨m + 1, [{ target := .collected m, args := #[] }], V, { target := .fn (.func gf) lb, args := #[.func (.yield (m + 1)) #[] #[]] }, V, gf, #[.func (.yield (m + 1)) #[] #[]] ++ lb, V, ?_, ?_, ?_, ?_, fun _ => h1, ?_⟩
  · rw [hV, hR, hm]; exact run_enterLoop_outer _ _ _ _ _
  · simp only [resolve, hg]; simp [go_sem]
  · intro f hf; simp [Target.leads] at hf; subst hf; exact hFg
  · simp [invoke, go_sem, eg]
  -- the two parties' words, with the record and the deferred calls' block beside
  have hturn : ∀ {A : World} {row : Option Nat}, (∀ r, row = some r → V.heap.size ≤ r ∧ ∃ o : Obj, A.heap[r]? = some o ∧ o.isWalk = true) → ∀ r, row = some r → m ≤ r ∧ ∃ o : Obj, A.heap[r]? = some o ∧ o.isCells = false :=
    fun hr r e => by obtain ⟨q, o, ho, hw⟩ := hr r e; exact ⟨by omega, o, ho, Obj.not_cells_of_walk hw⟩
  have hfin : ∀ (jump : Option Code) (A : World), A.heap[m + 1]? = some (.loop { R .ready none with state := .busy }) → A.heap[m]? = some (.deferred (some [])) →
      (Instr.endRound (m + 1) jump).run P A = .ok (.bool jump.isNone) (A.putObj (m + 1) (.loop (R (if jump.isNone then .ready else .done) jump))) ∧
      (A.putObj (m + 1) (.loop (R (if jump.isNone then .ready else .done) jump))).heap[m + 1]? = some (.loop (R (if jump.isNone then .ready else .done) jump)) ∧
      (A.putObj (m + 1) (.loop (R (if jump.isNone then .ready else .done) jump))).heap[m]? = some (.deferred (some [])) := fun jump A hl hd => by
    have h := run_endRound (P := P) jump hl
    rw [hR] at h ⊢
    exact ⟨h, World.putObj_heap_same (Array.getElem?_eq_some_iff.1 hl).1, (World.putObj_heap_other (by omega)).trans hd⟩
  refine (hseq (m + 1) (fun pre A => I pre A ∧ A.heap[m + 1]? = some (.loop (R .ready none)) ∧ A.heap[m]? = some (.deferred (some [])))
    (fun pre A => ∃ c, Ix c pre A ∧ A.heap[m + 1]? = some (.loop (R .done (some c))) ∧ A.heap[m]? = some (.deferred (some []))) V hVb
    (fun s A B row hs hg hr => ⟨hI.turn s A B row hs.1 hg (hturn hr), block_keep hg (fun r e => (hr r e).2) hs.2.1 rfl, block_keep hg (fun r e => (hr r e).2) hs.2.2 rfl⟩)
    (fun s A B row ⟨c, hc, hl, hd⟩ hg hr => ⟨c, (hIx c).turn s A B row hc hg (hturn hr), block_keep hg (fun r e => (hr r e).2) hl rfl, block_keep hg (fun r e => (hr r e).2) hd rfl⟩)
    (fun s A v hs => ⟨hI.cell s A v hs.1, set_keep hs.2.1 (by omega), set_keep hs.2.2 (by omega)⟩)
    (fun s A v ⟨c, hc, hl, hd⟩ => ⟨c, (hIx c).cell s A v hc, set_keep hl (by omega), set_keep hd (by omega)⟩)
    ?_ ⟨hVI, hVL, hVD⟩).mono ?_
  · rintro pre x A ⟨hi, hl, hd⟩ hpre
    have hlt : m + 1 < A.heap.size := (Array.getElem?_eq_some_iff.1 hl).1
    have hy := run_yield (P := P) (args := encs x) hl (by rw [hR]; exact hps x)
    rw [hR] at hy
    refine ⟨fn, _, assign, body, hy, roundIn_of_wpIn hfn (hassign _ x A _ ⟨_, run_beginRound hl (by rw [hR]), ?_⟩)⟩
    obtain ⟨C, hC⟩ : ∃ C, C = A.putObj (m + 1) (.loop { R .ready none with state := .busy }) := ⟨_, rfl⟩
    rw [← hC]
    have hCl : C.heap[m + 1]? = some (.loop { R .ready none with state := .busy }) := by rw [hC]; exact World.putObj_heap_same hlt
    have hCd : C.heap[m]? = some (.deferred (some [])) := by rw [hC]; exact (World.putObj_heap_other (by omega)).trans hd
    have hCt : C.heap[t]? = A.heap[t]? := by rw [hC]; exact World.putObj_heap_other (by omega)
    have hCi : I pre C := by rw [hC]; exact hI.put _ hi (by omega) hl rfl
    refine wpIn_mono (hbody _ pre x C hCi hpre) ?_
    have jumps : ∀ (c : Code) (a3 : Act) (D : World), KeepsFrom m C D → Ix c (pre ++ [x]) D → ∃ v w', (Instr.endRound (m + 1) (some c)).run P D = .ok v w' ∧
        (((Ending.returned v) = .returned (.bool true) ∧ (I (pre ++ [x]) w' ∧ w'.heap[m + 1]? = some (.loop (R .ready none)) ∧ w'.heap[m]? = some (.deferred (some []))) ∧ w'.heap[t]? = A.heap[t]?) ∨
        ((Ending.returned v) = .returned (.bool false) ∧ ∃ c, Ix c (pre ++ [x]) w' ∧ w'.heap[m + 1]? = some (.loop (R .done (some c))) ∧ w'.heap[m]? = some (.deferred (some [])))) := fun c a3 D hk hx => by
      obtain ⟨f1, f2, f3⟩ := hfin (some c) D (hk.same _ _ (by omega) hCl rfl) (hk.same _ _ (Nat.le_refl _) hCd rfl)
      exact ⟨_, _, f1, .inr ⟨rfl, c, (hIx c).put _ hx (by omega) (hk.same _ _ (by omega) hCl rfl) rfl, f2, f3⟩⟩
    rintro e a3 D hp
    cases e with
    | normal =>
      obtain ⟨hk, hkt, hi3⟩ := hp
      have hDl := hk.same _ _ (by omega) hCl rfl
      obtain ⟨f1, f2, f3⟩ := hfin none D hDl (hk.same _ _ (Nat.le_refl _) hCd rfl)
      exact ⟨_, _, f1, .inl ⟨rfl, ⟨hI.put _ hi3 (by omega) hDl rfl, f2, f3⟩, (World.putObj_heap_other (by omega)).trans (hkt.trans hCt)⟩⟩
    | ret => exact jumps .ret a3 D hp.1 hp.2
    | exit id => exact jumps (.exit id) a3 D hp.1 hp.2
    | goto u => exact jumps (.goto u) a3 D hp.1 hp.2
    | panic ch => exact hp.elim
    | outgrown => exact hp.elim
  · rintro e A ⟨⟨v, rfl⟩, (⟨hi, hl, hd⟩ | ⟨pre, hpre, c, hi, hl, hd⟩)⟩
    · exact ⟨none, _, by have := run_endLoop (P := P) hl (by rw [hR]; simp); rw [hR] at this; exact this, hdone m _ (Nat.le_refl _) (hI.put _ hi (by omega) hl rfl) ((World.putObj_heap_other (by omega)).trans hd)⟩
    · exact ⟨some c, _, by have := run_endLoop (P := P) hl (by rw [hR]; simp); rw [hR] at this; exact this, hstop m c pre _ (Nat.le_refl _) hpre ((hIx c).put _ hi (by omega) hl rfl) ((World.putObj_heap_other (by omega)).trans hd)⟩
end Go.Proofs.YthdmgighblhmhaaGreatDoor

/- strings.Lines' iterator, for every text: all its lines come, in their order, or a first part of them where a round has said 'no more'. Conditions: no text is longer than an int tells. -/
namespace Go.Proofs.YthdmgighblhmhaaGreatDoor
open Go.RowKit Go.Shelf
set_option maxRecDepth 100000
attribute [local go_sem] Oper.semAt_some

theorem lines_made (s : ByteArray) (w : World) :
    Calls Tryz.prog 14 #[.string s] w fun e w' => e = .returned (.func (.func 29) #[] #[.pointer (some ⟨w.heap.size, 0, none⟩)]) ∧ w' = w.alloc (.cells #[.string s] 9) := by
  go_enter Tryz.func14, Tryz.ntmps14
  go_wp2
  go_ret
  exact ⟨rfl, rfl⟩

/-- The lines of a text, as texts. -/
def linesB (s : ByteArray) : List ByteArray := (linesOf s.data.toList).map fun l => ⟨l.toArray⟩
theorem linesB_none {s : ByteArray} (h : s.size = 0) : linesB s = [] := by
  have h1 : s.data.toList = [] := by rw [Lib.size_eq] at h; exact List.eq_nil_of_length_eq_zero h
  unfold linesB linesOf; rw [h1]; rfl
theorem linesB_hit {s : ByteArray} {k : Nat} (h : Lib.indexByte s.data.toList 10 = k) : linesB s = s.extract 0 (k + 1) :: linesB (s.extract (k + 1) s.size) ∧ k < s.size := by
  obtain ⟨h1, h2⟩ := linesOf_hit _ k h
  have h3 : k < s.size := by rw [Lib.size_eq]; exact h2
  refine ⟨?_, h3⟩
  unfold linesB
  rw [h1, List.map_cons, Lib.extract_eq, Lib.extract_eq]
  simp only [List.drop_zero, Nat.sub_zero]
  congr 2
  rw [List.take_of_length_le (by rw [List.length_drop, ← Lib.size_eq]; omega)]
theorem linesB_miss {s : ByteArray} (h : Lib.indexByte s.data.toList 10 = -1) (h0 : s.size ≠ 0) : linesB s = [s] := by
  have h1 : s.data.toList ≠ [] := fun e => h0 (by rw [Lib.size_eq, e]; rfl)
  unfold linesB
  rw [linesOf_miss _ h h1]
  rfl
/-- How much of the text is left, read off the world. -/
def leftAt (t : Nat) (w : World) : Nat :=
  match w.cell? ⟨t, 0, none⟩ with
  | some (.string s) => s.size
  | _ => 0
theorem leftAt_eq {t T : Nat} {w : World} {s : ByteArray} (h : Boxed w t T (.string s)) : leftAt t w = s.size := by
  unfold leftAt; rw [h.cell]

set_option maxHeartbeats 4000000 in
theorem lines_gives (n t T : Nat) (s : ByteArray) (hs : s.size ≤ 1099511627776) (w : World) (ht : Boxed w t T (.string s)) :
    GivesAll Fence.wide n Tryz.prog 29 #[.pointer (some ⟨t, 0, none⟩)] (fun x => #[.string x]) t (linesB s) w := by
  intro l J Jx W hW hJ hJx hJs hJxs hY h0
  have hb : Boxed W t T (.string s) := (hW.block _ ht.lt).trans ht
  have HB0 := hid hb
  refine callsIn_of_wp Tryz.func29 rfl trivial ?_ rfl
  simp only [Tryz.ntmps29, List.size_toArray, List.length_cons, List.length_nil, Nat.reduceAdd, Nat.reduceSub, Array.replicate_succ, Array.replicate_zero, List.push_toArray, List.append_toArray, List.nil_append, List.cons_append]
  clear hb ht
  gi_wp2
  gi_loopw [3] (fun _ wr => ∃ (pre : List ByteArray) (S : ByteArray), linesB s = pre ++ linesB S ∧ S.size ≤ 1099511627776 ∧ Boxed wr t T (.string S) ∧ J pre wr) (fun _ wr => leftAt t wr)
  case atStart => exact ⟨[], s, rfl, hs, HB0.out, h0⟩
  case round =>
    obtain ⟨pre, S, hpre, hS, hbx, hjp⟩ := hrel
    have HBX := hid hbx
    have HPRE := hid hpre
    have HM := hid (leftAt_eq hbx)
    have c1 := hbx.cell
    have f1 := hbx.frozen
    have hbx1 : ∀ x : ByteArray, Boxed (wr.setCell ⟨t, 0, none⟩ (.string x)) t T (.string x) := fun x => hbx.set _
    clear hbx hpre
    by_cases hz : S.size = 0
    · have hz' : decide ((0 : Int) < ↑S.size) = false := decide_eq_false (by omega)
      gi_wp2
      go_end0
      refine ⟨⟨_, rfl⟩, .inl ?_⟩
      have := HPRE.out
      rw [linesB_none hz, List.append_nil] at this
      rw [this]; exact hjp
    · have hz' : decide ((0 : Int) < ↑S.size) = true := decide_eq_true (by omega)
      have hge := Lib.indexByte_ge S.data.toList 10
      by_cases hm : Lib.indexByte S.data.toList 10 = -1
      · have HMISS := hid (linesB_miss hm hz)
        have hpre1 : pre ++ [S] <+: linesB s := by rw [HPRE.out, HMISS.out]; exact List.prefix_refl _
        have HP1 := hid hpre1
        have HBE := hid (hbx1 ⟨#[]⟩)
        obtain ⟨fn, tmps, assign, body, hy, hR⟩ := hY pre S _ (hJs pre wr (.string ⟨#[]⟩) hjp) hpre1
        clear hpre1 hbx1
        gi_wp2_with (refine ⟨trivial, (fun h => by cases h), ?_⟩; gi_at_call 30; refine (callsIn_wide.2 (Tryz.strings_IndexByte S 10 _)).mono ?_; rintro e w' ⟨rfl, rfl⟩)
        gi_wp2
        refine ⟨(fun h => by cases h), hR.mono ?_⟩
        rintro e W3 (⟨rfl, hJ3, hk3⟩ | ⟨rfl, hJx3⟩)
        · have hb3 : Boxed W3 t T (.string ⟨#[]⟩) := hk3.trans HBE.out
          have HB3 := hid hb3
          clear hb3 hk3
          gi_wp2
          go_roundw
          case rel => exact ⟨pre ++ [S], ⟨#[]⟩, by rw [HPRE.out, HMISS.out, linesB_none (s := ⟨#[]⟩) rfl, List.append_nil], by decide, HB3.out, hJ3⟩
          case measure => rw [leftAt_eq HB3.out, HM.out]; show 0 < S.size; omega
        · gi_wp2
          refine bodyPost_ret (results_none rfl _ _ _) rfl ?_
          exact ⟨⟨_, rfl⟩, .inr ⟨_, HP1.out, hJx3⟩⟩
      · obtain ⟨k, hk⟩ : ∃ k : Nat, Lib.indexByte S.data.toList 10 = k := ⟨(Lib.indexByte S.data.toList 10).toNat, by omega⟩
        obtain ⟨hhit, hkl⟩ := linesB_hit hk
        have HBE := hid hbx1
        clear hbx1
        have HHIT := hid hhit
        clear hhit
        gi_wp2_with (refine ⟨trivial, (fun h => by cases h), ?_⟩; gi_at_call 30; refine (callsIn_wide.2 (Tryz.strings_IndexByte S 10 _)).mono ?_; rintro e w' ⟨rfl, rfl⟩)
        have hk1 : k + 1 ≤ S.size := hkl
        gi_region
        obtain ⟨W1, hW1⟩ : ∃ W1, (w'.setCell ⟨t, 0, none⟩ (.string (S.extract (k + 1) S.size))).drew = W1 := ⟨_, rfl⟩
        have hj1 : J pre W1 := by rw [← hW1]; exact hJ pre _ _ none (hJs pre w' (.string (S.extract (k + 1) S.size)) hjp) ⟨rfl, rfl, rfl, Nat.le_refl _, fun _ _ _ => rfl⟩ (fun r e => by cases e)
        have hb1 : Boxed W1 t T (.string (S.extract (k + 1) S.size)) := by rw [← hW1]; exact HBE.out _
        have hpre1 : pre ++ [S.extract 0 (k + 1)] <+: linesB s := by
          rw [HPRE.out, HHIT.out]
          exact ⟨linesB (S.extract (k + 1) S.size), by simp⟩
        have HP1 := hid hpre1
        have HB1 := hid hb1
        obtain ⟨fn, tmps, assign, body, hy, hR⟩ := hY pre (S.extract 0 (k + 1)) W1 hj1 hpre1
        rw [hW1]
        clear hW1 hj1 hb1 hpre1 c1 f1
        gi_wp2
        refine ⟨(fun h => by cases h), hR.mono ?_⟩
        rintro e W3 (⟨rfl, hJ3, hk3⟩ | ⟨rfl, hJx3⟩)
        · have hb3 : Boxed W3 t T (.string (S.extract (k + 1) S.size)) := hk3.trans HB1.out
          have HB3 := hid hb3
          have hsz : (S.extract (k + 1) S.size).size = S.size - (k + 1) := by simp
          clear hb3 hk3
          gi_wp2
          go_roundw
          case rel => exact ⟨pre ++ [S.extract 0 (k + 1)], S.extract (k + 1) S.size, by rw [HPRE.out, HHIT.out]; simp, by omega, HB3.out, hJ3⟩
          case measure => rw [leftAt_eq HB3.out, HM.out, hsz]; omega
        · gi_wp2
          refine bodyPost_ret (results_none rfl _ _ _) rfl ?_
          exact ⟨⟨_, rfl⟩, .inr ⟨_, HP1.out, hJx3⟩⟩
end Go.Proofs.YthdmgighblhmhaaGreatDoor

/- Plain: which texts are code, and of which ops. No program is walked. Conditions: none. -/
namespace Go.Proofs.YthdmgighblhmhaaGreatDoor

theorem linesA_join : ∀ (l acc : List UInt8), (linesA acc l).flatten = acc ++ l
  | [], acc => by
    unfold linesA
    split
    · rename_i h; simp [h]
    · simp
  | x :: l, acc => by
    unfold linesA
    split
    · rename_i h
      rw [List.flatten_cons, linesA_join l [], h]; simp
    · rw [linesA_join l]; simp
theorem lines_join (l : List UInt8) : (linesOf l).flatten = l := by
  have := linesA_join l []
  rw [List.nil_append] at this; exact this
theorem lines_of (f : Op → List UInt8) : ∀ (l : List Op), (∀ o ∈ l, (10 : UInt8) ∉ f o) → linesOf (l.flatMap fun o => f o ++ [10]) = l.map fun o => f o ++ [10]
  | [], _ => rfl
  | o :: l, h => by
    rw [List.flatMap_cons, List.append_assoc, List.map_cons]
    show linesOf (f o ++ 10 :: l.flatMap fun o => f o ++ [10]) = _
    rw [linesOf_line _ _ (h o (by simp)), lines_of f l (fun o ho => h o (by simp [ho]))]
theorem lines_code (l : List Op) : linesOf (codeText l) = l.map opText := lines_of opLine l fun o _ => line_no10 o
/-- A line is a whole one, or the last without an end. -/
theorem linesA_mem : ∀ (l acc : List UInt8), (10 : UInt8) ∉ acc → ∀ x ∈ linesA acc l, (∃ t, x = t ++ [10] ∧ (10 : UInt8) ∉ t) ∨ ((10 : UInt8) ∉ x)
  | [], acc, h, x, hx => by
    unfold linesA at hx
    split at hx
    · cases hx
    · simp at hx; subst hx; exact .inr h
  | y :: l, acc, h, x, hx => by
    unfold linesA at hx
    split at hx
    · rcases List.mem_cons.1 hx with rfl | hx
      · exact .inl ⟨acc, rfl, h⟩
      · exact linesA_mem l [] (by simp) x hx
    · rename_i hy
      exact linesA_mem l _ (by simp only [List.mem_append, List.mem_singleton]; rintro (h1 | h1); exact h h1; exact hy h1.symm) x hx
theorem lines_mem {l x : List UInt8} (h : x ∈ linesOf l) : (∃ t, x = t ++ [10] ∧ (10 : UInt8) ∉ t) ∨ ((10 : UInt8) ∉ x) := linesA_mem l [] (by simp) x h
theorem lines_le {l x : List UInt8} (h : x ∈ linesOf l) : x.length ≤ l.length := by
  have H : ∀ L : List (List UInt8), x ∈ L → x.length ≤ L.flatten.length := by
    intro L
    induction L with
    | nil => intro h; cases h
    | cons y L ih =>
      intro h
      rw [List.flatten_cons, List.length_append]
      rcases List.mem_cons.1 h with rfl | h
      · omega
      · have := ih h; omega
  have h1 := H (linesOf l) h
  rw [lines_join] at h1; exact h1
theorem lines_ne {l x : List UInt8} (h : x ∈ linesOf l) : x ≠ [] := by
  have H : ∀ (l acc : List UInt8), ∀ x ∈ linesA acc l, x ≠ [] := by
    intro l
    induction l with
    | nil =>
      intro acc x hx
      unfold linesA at hx
      split at hx
      · cases hx
      · rename_i h; simp at hx; rw [hx]; exact h
    | cons y l ih =>
      intro acc x hx
      unfold linesA at hx
      split at hx
      · rcases List.mem_cons.1 hx with rfl | hx
        · simp
        · exact ih [] x hx
      · exact ih _ x hx
  exact H l [] x h
theorem lines_few (l : List UInt8) : (linesOf l).length ≤ l.length := by
  have H : ∀ L : List (List UInt8), (∀ x ∈ L, x ≠ []) → L.length ≤ L.flatten.length := by
    intro L
    induction L with
    | nil => intro _; simp
    | cons x L ih =>
      intro h
      have h1 := ih fun y hy => h y (by simp [hy])
      have h2 : 0 < x.length := List.length_pos_iff.2 (h x (by simp))
      rw [List.flatten_cons, List.length_append, List.length_cons]; omega
  have := H (linesOf l) fun x hx => lines_ne hx
  rw [lines_join] at this; exact this
/-- A text whose lines are the ops' is their code's text. -/
theorem code_of {t : List UInt8} {l : List Op} (h : linesOf t = l.map opText) : codeText l = t := by
  rw [← lines_join t, h]
  unfold codeText
  rw [List.flatMap_def]
/-- A line that is no op's: the text is no code. -/
theorem code_not {t x : List UInt8} (hx : x ∈ linesOf t) (hno : ∀ o, WfOp o → opText o ≠ x) : ∀ l : List Op, (∀ o ∈ l, WfOp o) → codeText l ≠ t := by
  rintro l hl rfl
  rw [lines_code] at hx
  obtain ⟨o, ho, he⟩ := List.mem_map.1 hx
  exact hno o (hl o ho) he
/-- Two codes with one text are one. -/
theorem code_inj {l l' : List Op} (h : ∀ o ∈ l, WfOp o) (h' : ∀ o ∈ l', WfOp o) (e : codeText l = codeText l') : l = l' := by
  have h1 := lines_code l
  rw [e, lines_code] at h1
  have H : ∀ (a b : List Op), (∀ o ∈ a, WfOp o) → (∀ o ∈ b, WfOp o) → a.map opText = b.map opText → a = b := by
    intro a
    induction a with
    | nil =>
      intro b _ _ hm
      cases b with
      | nil => rfl
      | cons y b => simp at hm
    | cons x a ih =>
      intro b ha hb hm
      cases b with
      | nil => simp at hm
      | cons y b =>
        rw [List.map_cons, List.map_cons] at hm
        injection hm with h2 h3
        rw [ih b (fun o ho => ha o (by simp [ho])) (fun o ho => hb o (by simp [ho])) h3]
        have h4 : opLine x = opLine y := List.append_cancel_right h2
        rw [op_inj (ha x (by simp)) (hb y (by simp)) h4]
  exact (H l' l h' h h1).symm
end Go.Proofs.YthdmgighblhmhaaGreatDoor

/- A line as strings.CutSuffix leaves it; a row's slice. Conditions: no line is longer than 2^30 bytes. -/
namespace Go.Proofs.YthdmgighblhmhaaGreatDoor
open Go.RowKit
set_option maxRecDepth 100000

/-- A line as it is cut. -/
theorem line_cut {t x : ByteArray} (hx : x ∈ linesB t) : ∃ (y : ByteArray) (b : Bool), Lib.trimSuffix x.data.toList [10] = y.data.toList ∧ Lib.hasSuffix x.data.toList [10] = b ∧ y.size ≤ x.size ∧ x.size ≤ t.size ∧ x.data.toList ∈ linesOf t.data.toList ∧
    ((b = true ∧ x.data.toList = y.data.toList ++ [10]) ∨ (b = false ∧ (10 : UInt8) ∉ x.data.toList)) := by
  unfold linesB at hx
  obtain ⟨l, hl, rfl⟩ := List.mem_map.1 hx
  have hle := lines_le hl
  have e0 : (⟨l.toArray⟩ : ByteArray).data.toList = l := rfl
  rcases lines_mem hl with ⟨s, rfl, hs⟩ | hs
  · obtain ⟨h1, h2⟩ := cut_line s
    refine ⟨⟨s.toArray⟩, true, h1, h2, ?_, ?_, hl, .inl ⟨rfl, rfl⟩⟩
    · rw [Lib.size_eq, Lib.size_eq, e0]; simp
    · rw [Lib.size_eq, Lib.size_eq]; exact hle
  · obtain ⟨h1, h2⟩ := cut_last l hs
    refine ⟨⟨l.toArray⟩, false, h1, h2, Nat.le_refl _, ?_, hl, .inr ⟨rfl, hs⟩⟩
    rw [Lib.size_eq, Lib.size_eq]; exact hle
theorem row_slW {w : World} {e sz n c : Nat} {A : Option Addr} {xs : List Value} (h : Row w e sz A n c xs) : SlW A c n := by
  refine ⟨h.le.1, h.le.2, fun hA => ?_⟩
  rcases h.2 with ⟨_, h1, h2⟩ | ⟨b, off, cur, h1, _⟩
  · exact ⟨h1, h2⟩
  · rw [hA] at h1; cases h1
end Go.Proofs.YthdmgighblhmhaaGreatDoor

/- A range over a function whose body appends onto a row of its own: the step of append inside a fence, and what the row and the world's blocks abide. Conditions: none. -/
namespace Go.Proofs.YthdmgighblhmhaaGreatDoor
open Go.RowKit Go.Shelf
set_option maxRecDepth 100000

theorem wpListIn_append_row {F : Fence} {n : Nat} {P : Program} {w : World} {ops : Array Oper} {rest : List Oper} {o : Oper} {a : Act} {Q : Exit → Act → World → Prop} (hg : o.guard = none) (s x : Operand) (t : TypeId)
    (hop : o.op = Op.call { callee := Callee.builtin Builtin.append, args := #[s, x], argTypes := #[t, t] })
    (e : TypeId) (i : TypeInfo) (z : Value) (size bytes : Nat) (ht : P.underlying t = some (.slice e)) (hi : P.info? e = some i) (hz : i.zero = some z)
    (hsize : i.size = size) (hby : i.bytes = bytes) (hzs : z.cells.size = size) (hsz : 0 < size)
    (A : Option Addr) (n' cap : Nat) (xs : List Value) (hs : a.eval s = .slice A n' cap) (hrow : Row w e size A n' cap xs)
    (A2 : Option Addr) (m c : Nat) (news : List Value) (hx : a.eval x = .slice A2 m c) (hnews : Sl w A2 size m news) (h1 : ∀ u ∈ news, u.oneCell' = true)
    (h63 : n' + m ≤ maxLen) (hbytes : (n' + m) * bytes ≤ 140737488355328)
    (h : ∀ A' cap' w', Row w' e size A' (n' + m) cap' (xs ++ news) → Keep (InA A) w w' → (∀ k, InA A' k → InA A k ∨ w.heap.size ≤ k) → wpListIn F n P ops Q rest (a.put o.dst (.slice A' (n' + m) cap')) w') :
    wpListIn F n P ops Q (o :: rest) a w := by
  refine wpListIn_plain hg fun K hK' => ?_
  obtain ⟨A', cap', w', hrun, r1, r2, r3⟩ := run_append_row (P := P) w t o.type e i z size bytes ht hi hz hsize hby hzs hsz A n' cap xs hrow A2 m c news hnews h1 h63 hbytes
  unfold Oper.wpIn
  refine ⟨?_, ?_⟩
  · simp [Oper.about, hop, resolve, Target.leads, Sem.run_pure]
  · rw [Oper.semAt_plain F _ _ (by rw [hop]; intro c hc'; cases hc')]
    simp [execOp, hop, resolve, invoke, builtin, hs, hx, hrun, Result.andThen]
    exact hK' _ _ (h A' cap' w' r1 r2 r3)

theorem Row.cellsAt {w : World} {e sz n cap : Nat} {A : Option Addr} {xs : List Value} (h : Row w e sz A n cap xs) {b : Nat} (hb : InA A b) : ∃ o : Obj, w.heap[b]? = some o ∧ o.isCells = true := by
  rcases h.2 with ⟨rfl, _⟩ | ⟨b', off, cur, rfl, hh, _⟩
  · simp [InA] at hb
  · have : b = b' := by simp [InA] at hb; omega
    rw [this]; exact ⟨_, hh, rfl⟩
theorem Row.turned {w w' : World} {e sz n cap : Nat} {A : Option Addr} {xs : List Value} {row : Option Nat} (h : Row w e sz A n cap xs) (hg : w.grownBy w' row) (hr : ∀ r, row = some r → ∃ o : Obj, w.heap[r]? = some o ∧ o.isCells = false) : Row w' e sz A n cap xs := by
  refine ⟨h.1, ?_⟩
  rcases h.2 with h0 | ⟨b, off, cur, rfl, hh, h1⟩
  · exact .inl h0
  · exact .inr ⟨b, off, cur, rfl, (grownBy_keeps_cells hg hr hh rfl).trans hh, h1⟩
theorem boxed_turned {w w' : World} {b t : Nat} {v : Value} {row : Option Nat} (h : Boxed w b t v) (hg : w.grownBy w' row) (hr : ∀ r, row = some r → ∃ o : Obj, w.heap[r]? = some o ∧ o.isCells = false) : Boxed w' b t v :=
  (grownBy_keeps_cells hg hr h rfl).trans h
theorem keeps_below {B : Nat} {W W' : World} (h : Below W.heap.size W W') : KeepsFrom B W W' := ⟨h.size, fun k _ _ hk _ => (h.block k (blk_lt hk)).trans hk⟩
theorem keeps_row {B : Nat} {W W' : World} {A : Option Addr} (hk : Keep (InA A) W W') (hc : ∀ b, InA A b → ∃ q : Obj, W.heap[b]? = some q ∧ q.isCells = true) : KeepsFrom B W W' := by
  refine ⟨hk.size, fun k o _ ho hn => ?_⟩
  by_cases hA : InA A k
  · obtain ⟨o', h1, h2⟩ := hc k hA
    rw [ho] at h1
    injection h1 with h1
    rw [h1, h2] at hn; cases hn
  · exact (hk.block k (blk_lt ho) hA).trans ho
theorem keeps_set {B : Nat} {W : World} (p : Addr) (v : Value) : KeepsFrom B W (W.setCell p v) := (KeepsOthers.setCell W p v).from B
end Go.Proofs.YthdmgighblhmhaaGreatDoor
