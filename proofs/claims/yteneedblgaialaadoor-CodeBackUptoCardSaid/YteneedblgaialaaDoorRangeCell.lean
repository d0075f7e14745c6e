/- A range over a function whose iterator writes a captured cell of its own between two rounds: the statement's law, over any program. Conditions: the iterator's contract 'GivesAll', and the two parties' words. -/
import Derived.RangeFuncNested
import Derived.RangeFuncBound
import Derived.RangeFuncCalls
import Derived.RangeFuncLeaves
namespace Go.Proofs.YteneedblgaialaaDoor
open Go Go.RowKit

/-- An invariant abides what an iterator with a cell at t does: turns of blocks from B on that are no cells, and writes into t. -/
structure Abide {β : Type} (B t : Nat) (I : β → World → Prop) : Prop where
  turn : OwnFrom B I
  cell : ∀ s W v, I s W → I s (W.setCell ⟨t, 0, none⟩ v)
theorem Abide.put {β : Type} {B t : Nat} {I : β → World → Prop} (h : Abide B t I) {s : β} {W : World} {l : Nat} {o : Obj} (o' : Obj) (hs : I s W) (hB : B ≤ l) (hl : W.heap[l]? = some o) (ho : o.isCells = false) : I s (W.putObj l o') :=
  h.turn.putObj o' hs hB hl ho
theorem Abide.and {β : Type} {B t : Nat} {I K : β → World → Prop} (h : Abide B t I) (k : Abide B t K) : Abide B t (fun s W => I s W ∧ K s W) :=
  ⟨h.turn.and k.turn, fun s W v hs => ⟨h.cell s W v hs.1, k.cell s W v hs.2⟩⟩

/-- The iterator's contract: all its elements come, in their order, or a first part of them, a round having said 'no more'. -/
def GivesAll {α : Type} (F : Fence) (n : Nat) (P : Program) (g : Nat) (lb : Array Value) (encs : α → Array Value) (t : Nat) (all : List α) (w : World) : Prop :=
  ∀ (l : Nat) (J Jx : List α → World → Prop) (W : World), Below w.heap.size w W → AbidesFrom W.heap.size J → AbidesFrom W.heap.size Jx →
    (∀ s W v, J s W → J s (W.setCell ⟨t, 0, none⟩ v)) → (∀ s W v, Jx s W → Jx s (W.setCell ⟨t, 0, none⟩ v)) →
    (∀ pre x W1, J pre W1 → pre ++ [x] <+: all → YieldAt F (n - 1) P l (encs x) W1 fun e W' =>
      (e = .returned (.bool true) ∧ J (pre ++ [x]) W' ∧ W'.heap[t]? = W1.heap[t]?) ∨ (e = .returned (.bool false) ∧ Jx (pre ++ [x]) W')) →
    J [] W →
    CallsIn F n P g (#[.func (.yield l) #[] #[]] ++ lb) W fun e W' => (∃ v, e = .returned v) ∧ (J all W' ∨ ∃ pre, pre <+: all ∧ Jx pre W')

/-- How a round may be left. -/
def RoundLeft {α : Type} (B t : Nat) (I : List α → World → Prop) (Ix : Code → List α → World → Prop) (xs : List α) (W : World) : Exit → Act → World → Prop
  | .normal, _, W' => KeepsFrom B W W' ∧ W'.heap[t]? = W.heap[t]? ∧ I xs W'
  | .ret, _, W' => KeepsFrom B W W' ∧ Ix .ret xs W'
  | .exit id, _, W' => KeepsFrom B W W' ∧ Ix (.exit id) xs W'
  | .goto u, _, W' => KeepsFrom B W W' ∧ Ix (.goto u) xs W'
  | .panic _, _, _ => False
  | .outgrown, _, _ => False

theorem block_keep {W W' : World} {row : Option Nat} (hg : W.grownBy W' row) (hr : ∀ r, row = some r → ∃ o : Obj, W.heap[r]? = some o ∧ o.isWalk = true) {k : Nat} {o : Obj} (hk : W.heap[k]? = some o) (ho : o.isWalk = false) : W'.heap[k]? = some o :=
  (grownBy_keeps hg hr hk ho).trans hk
theorem set_keep {W : World} {t k : Nat} {v : Value} {o : Obj} (hk : W.heap[k]? = some o) (ne : k ≠ t) : (W.setCell ⟨t, 0, none⟩ v).heap[k]? = some o :=
  (Below.heap_setCell W ⟨t, 0, none⟩ v k ne).trans hk

variable {F : Fence} {n : Nat} {P : Program}

theorem range_cell {α : Type} {g : Operand} {ps : Array Tmp} {assign body : Code} {Q : Exit → Act → World → Prop} {a : Act} {w : World} {t : Nat} {all : List α}
    (hro : F.round = none) (h1 : 1 ≤ n) {gf : Nat} {lb : Array Value} (hg : a.eval g = .func (.func gf) #[] lb) (hFg : F.fn gf) (eg : ∀ args w, (callFunc gf args).run P w = .ok (.enter gf args) w)
    {encs : α → Array Value} (ht : t < w.heap.size) (hseq : GivesAll F (n - 1) P gf lb encs t all w) (hps : ∀ x, (encs x).size = ps.size)
    (I : List α → World → Prop) (Ix : Code → List α → World → Prop) (hI : Abide w.heap.size t I) (hIx : ∀ c, Abide w.heap.size t (Ix c)) (h0 : I [] w) (a₁ : α → Act)
    (hassign : ∀ (l : Nat) (x : α) (W : World) (K : Act → World → Prop), K (a₁ x) W →
      assign.wpIn (F.inRound l) (n - 1 - 1) P (Exit.then K (fun _ _ _ => False)) { tmps := (ps.zip (encs x)).foldl (fun u (p, v) => u.setIfInBounds p v) a.tmps, defers := [] } W)
    (hbody : ∀ (l : Nat) (pre : List α) (x : α) (W : World), I pre W → pre ++ [x] <+: all → body.wpIn (F.inRound l) (n - 1 - 1) P (RoundLeft w.heap.size t I Ix (pre ++ [x]) W) (a₁ x) W)
    (hdone : ∀ (D : Nat) (W : World), w.heap.size ≤ D → I all W → W.heap[D]? = some (.deferred (some [])) → Q .normal { a with defers := { target := .collected D, args := #[] } :: a.defers } W)
    (hstop : ∀ (D : Nat) (c : Code) (pre : List α) (W : World), w.heap.size ≤ D → pre <+: all → Ix c pre W → W.heap[D]? = some (.deferred (some [])) → c.wpIn F n P Q { a with defers := { target := .collected D, args := #[] } :: a.defers } W) :
    (Code.rangeFunc g ps assign body).wpIn F n P Q a w := by
  obtain ⟨m, hm⟩ : ∃ m, m = w.heap.size := ⟨_, rfl⟩
  rw [← hm] at ht hI hIx hbody hdone hstop
  refine wpIn_rangeFunc fun fn hfn => ?_
  rw [hro]
  obtain ⟨R, hR⟩ : ∃ R : LoopState → Option Code → Loop, R = fun st pe => { state := st, pending := pe, fn, tmps := a.tmps, params := ps, assign, body, defers := m } := ⟨_, rfl⟩
  obtain ⟨V, hV⟩ : ∃ V, V = (w.alloc (.deferred (some []))).alloc (.loop (R .ready none)) := ⟨_, rfl⟩
  have hVs : V.heap.size = m + 2 := by rw [hV, hm]; simp
  have hVD : V.heap[m]? = some (.deferred (some [])) := by
    rw [hV, Below.heap_alloc _ _ _ (by rw [hm]; simp), hm]; exact World.alloc_heap_new w _
  have hVL : V.heap[m + 1]? = some (.loop (R .ready none)) := by
    have := World.alloc_heap_new (w.alloc (.deferred (some []))) (.loop (R .ready none))
    rw [World.size_alloc, ← hm] at this
    rw [hV]; exact this
  have hVI : I [] V := by rw [hV]; exact hI.turn.alloc _ (hI.turn.alloc _ h0)
  have hVb : Below w.heap.size w V := by rw [hV]; exact ((Below.refl _ w).alloc (Nat.le_refl _) _).alloc (by simp) _
  refine ⟨m + 1, [{ target := .collected m, args := #[] }], V, { target := .fn (.func gf) lb, args := #[.func (.yield (m + 1)) #[] #[]] }, V, gf, #[.func (.yield (m + 1)) #[] #[]] ++ lb, V, ?_, ?_, ?_, ?_, fun _ => h1, ?_⟩
  · rw [hV, hR, hm]; exact run_enterLoop_outer _ _ _ _ _
  · simp only [resolve, hg]; simp [go_sem]
  · intro f hf; simp [Target.leads] at hf; subst hf; exact hFg
  · simp [invoke, go_sem, eg]
  -- the two parties' words, with the record and the deferred calls' block beside
  have hturn : ∀ {A : World} {row : Option Nat}, (∀ r, row = some r → V.heap.size ≤ r ∧ ∃ o : Obj, A.heap[r]? = some o ∧ o.isWalk = true) → ∀ r, row = some r → m ≤ r ∧ ∃ o : Obj, A.heap[r]? = some o ∧ o.isCells = false :=
    fun hr r e => by obtain ⟨q, o, ho, hw⟩ := hr r e; exact ⟨by omega, o, ho, Obj.not_cells_of_walk hw⟩
  have hfin : ∀ (jump : Option Code) (A : World), A.heap[m + 1]? = some (.loop { R .ready none with state := .busy }) → A.heap[m]? = some (.deferred (some [])) →
      (Instr.endRound (m + 1) jump).run P A = .ok (.bool jump.isNone) (A.putObj (m + 1) (.loop (R (if jump.isNone then .ready else .done) jump))) ∧
      (A.putObj (m + 1) (.loop (R (if jump.isNone then .ready else .done) jump))).heap[m + 1]? = some (.loop (R (if jump.isNone then .ready else .done) jump)) ∧
      (A.putObj (m + 1) (.loop (R (if jump.isNone then .ready else .done) jump))).heap[m]? = some (.deferred (some [])) := fun jump A hl hd => by
    have h := run_endRound (P := P) jump hl
    rw [hR] at h ⊢
    exact ⟨h, World.putObj_heap_same (Array.getElem?_eq_some_iff.1 hl).1, (World.putObj_heap_other (by omega)).trans hd⟩
  refine (hseq (m + 1) (fun pre A => I pre A ∧ A.heap[m + 1]? = some (.loop (R .ready none)) ∧ A.heap[m]? = some (.deferred (some [])))
    (fun pre A => ∃ c, Ix c pre A ∧ A.heap[m + 1]? = some (.loop (R .done (some c))) ∧ A.heap[m]? = some (.deferred (some []))) V hVb
    (fun s A B row hs hg hr => ⟨hI.turn s A B row hs.1 hg (hturn hr), block_keep hg (fun r e => (hr r e).2) hs.2.1 rfl, block_keep hg (fun r e => (hr r e).2) hs.2.2 rfl⟩)
    (fun s A B row ⟨c, hc, hl, hd⟩ hg hr => ⟨c, (hIx c).turn s A B row hc hg (hturn hr), block_keep hg (fun r e => (hr r e).2) hl rfl, block_keep hg (fun r e => (hr r e).2) hd rfl⟩)
    (fun s A v hs => ⟨hI.cell s A v hs.1, set_keep hs.2.1 (by omega), set_keep hs.2.2 (by omega)⟩)
    (fun s A v ⟨c, hc, hl, hd⟩ => ⟨c, (hIx c).cell s A v hc, set_keep hl (by omega), set_keep hd (by omega)⟩)
    ?_ ⟨hVI, hVL, hVD⟩).mono ?_
  · rintro pre x A ⟨hi, hl, hd⟩ hpre
    have hlt : m + 1 < A.heap.size := (Array.getElem?_eq_some_iff.1 hl).1
    have hy := run_yield (P := P) (args := encs x) hl (by rw [hR]; exact hps x)
    rw [hR] at hy
    refine ⟨fn, _, assign, body, hy, roundIn_of_wpIn hfn (hassign _ x A _ ⟨_, run_beginRound hl (by rw [hR]), ?_⟩)⟩
    obtain ⟨C, hC⟩ : ∃ C, C = A.putObj (m + 1) (.loop { R .ready none with state := .busy }) := ⟨_, rfl⟩
    rw [← hC]
    have hCl : C.heap[m + 1]? = some (.loop { R .ready none with state := .busy }) := by rw [hC]; exact World.putObj_heap_same hlt
    have hCd : C.heap[m]? = some (.deferred (some [])) := by rw [hC]; exact (World.putObj_heap_other (by omega)).trans hd
    have hCt : C.heap[t]? = A.heap[t]? := by rw [hC]; exact World.putObj_heap_other (by omega)
    have hCi : I pre C := by rw [hC]; exact hI.put _ hi (by omega) hl rfl
    refine wpIn_mono (hbody _ pre x C hCi hpre) ?_
    have jumps : ∀ (c : Code) (a3 : Act) (D : World), KeepsFrom m C D → Ix c (pre ++ [x]) D → ∃ v w', (Instr.endRound (m + 1) (some c)).run P D = .ok v w' ∧
        (((Ending.returned v) = .returned (.bool true) ∧ (I (pre ++ [x]) w' ∧ w'.heap[m + 1]? = some (.loop (R .ready none)) ∧ w'.heap[m]? = some (.deferred (some []))) ∧ w'.heap[t]? = A.heap[t]?) ∨
        ((Ending.returned v) = .returned (.bool false) ∧ ∃ c, Ix c (pre ++ [x]) w' ∧ w'.heap[m + 1]? = some (.loop (R .done (some c))) ∧ w'.heap[m]? = some (.deferred (some [])))) := fun c a3 D hk hx => by
      obtain ⟨f1, f2, f3⟩ := hfin (some c) D (hk.same _ _ (by omega) hCl rfl) (hk.same _ _ (Nat.le_refl _) hCd rfl)
      exact ⟨_, _, f1, .inr ⟨rfl, c, (hIx c).put _ hx (by omega) (hk.same _ _ (by omega) hCl rfl) rfl, f2, f3⟩⟩
    rintro e a3 D hp
    cases e with
    | normal =>
      obtain ⟨hk, hkt, hi3⟩ := hp
      have hDl := hk.same _ _ (by omega) hCl rfl
      obtain ⟨f1, f2, f3⟩ := hfin none D hDl (hk.same _ _ (Nat.le_refl _) hCd rfl)
      exact ⟨_, _, f1, .inl ⟨rfl, ⟨hI.put _ hi3 (by omega) hDl rfl, f2, f3⟩, (World.putObj_heap_other (by omega)).trans (hkt.trans hCt)⟩⟩
    | ret => exact jumps .ret a3 D hp.1 hp.2
    | exit id => exact jumps (.exit id) a3 D hp.1 hp.2
    | goto u => exact jumps (.goto u) a3 D hp.1 hp.2
    | panic ch => exact hp.elim
    | outgrown => exact hp.elim
  · rintro e A ⟨⟨v, rfl⟩, (⟨hi, hl, hd⟩ | ⟨pre, hpre, c, hi, hl, hd⟩)⟩
    · exact ⟨none, _, by have := run_endLoop (P := P) hl (by rw [hR]; simp); rw [hR] at this; exact this, hdone m _ (Nat.le_refl _) (hI.put _ hi (by omega) hl rfl) ((World.putObj_heap_other (by omega)).trans hd)⟩
    · exact ⟨some c, _, by have := run_endLoop (P := P) hl (by rw [hR]; simp); rw [hR] at this; exact this, hstop m c pre _ (Nat.le_refl _) hpre ((hIx c).put _ hi (by omega) hl rfl) ((World.putObj_heap_other (by omega)).trans hd)⟩
end Go.Proofs.YteneedblgaialaaDoor
