/- Package trace, and the reference of events: each contract in one form, right or wrong. Conditions: 'Desk', the table of forms, which the row lists; no text is longer than 2^30 bytes. -/
import Derived.Test.YthafahnlfpkkbaaGreatDoorTraceDel2
import Derived.Test.YthafahnlfpkkbaaGreatDoorEvU
import Derived.Test.YthafahnlfpkkbaaGreatDoorTraceU
import Derived.Test.YthafahnlfpkkbaaGreatDoorREvRead
import Derived.Test.YthafahnlfpkkbaaGreatDoorRKernU
namespace Go.Proofs.YthafahnlfpkkbaaGreatDoor
open Go.RowKit
set_option maxRecDepth 100000

theorem sl_nothing (w : World) (sz : Nat) : Sl w none sz 0 [] := Sl.nil w none sz
/-- Events handed back, or a fault. -/
def EvOut (w : World) (es : List Ev) (E : Int) (e : Ending) (w' : World) : Prop :=
  ∃ (A : Option Addr) (k c : Nat), e = .returned (.tuple #[.slice A k c, errV E]) ∧ Sl w' A 4 k (es.flatMap Ev.cells) ∧ es.length = k ∧ k ≤ c ∧ Below w.heap.size w w'
def runEvs (p : Pl) (n : Int) : List Ev := if runE p n = 0 then evsTo p n.toNat else []
theorem run_un (w : World) (m : PM) (n : Int) (hf : Forms w) (hm : PlanAt w m) :
    Calls Tryz.prog 14 #[.agg #[.slice m.A m.ros.length m.c, .int .i64 m.ticks, .slice m.sA m.spans.length m.sc, .slice m.wA m.wires.length m.wc], .int .i64 n] w (EvOut w (runEvs m.pl n) (runE m.pl n)) := by
  refine (traceRun_any w m n hf hm).mono ?_
  unfold EvOut runEvs
  rintro e w' (⟨h, rfl, hb⟩ | ⟨h, A, k, c, rfl, hk, hg⟩)
  · rw [if_neg h]; exact ⟨none, 0, 0, rfl, Sl.nil _ _ _, rfl, Nat.le_refl _, hb⟩
  · obtain rfl : n = k := hk.symm
    rw [if_pos h, h, errV_zero, Int.toNat_natCast]
    exact ⟨A, k, c, rfl, hg.row.sl, evsTo_len _ _, hg.row.le.1, hg.below⟩
def cntList (l : List Ev) : List Int := [(kindsOf l 0 : Int), kindsOf l 1, kindsOf l 2, kindsOf l 3, kindsOf l 4, kindsOf l 5]
def cntsOf (l : List Ev) : List Int := if evsChk l = 0 then cntList l else []
theorem counts_un (A : Option Addr) (n c : Nat) (l : List Ev) (w : World) (hl : l.length = n) (hs : Sl w A 4 n (l.flatMap Ev.cells)) (hsw : SlW A c n) :
    Calls Tryz.prog 20 #[.slice A n c] w fun e w' => ∃ (B : Option Addr) (k d : Nat), e = .returned (.tuple #[.slice B k d, errV (evsChk l)]) ∧ Sl w' B 1 k (ints (cntsOf l)) ∧ (cntsOf l).length = k ∧ k ≤ d ∧ Below w.heap.size w w' := by
  by_cases he : evsChk l = 0
  · refine (tcounts_any A n c l w hl hs hsw he).mono ?_
    rintro e w' ⟨b, rfl, hb, hbel⟩
    unfold cntsOf
    rw [if_pos he, he, errV_zero]
    exact ⟨some ⟨b, 0, none⟩, 6, 6, rfl, sl_blk hb 1 6 _ rfl rfl, rfl, Nat.le_refl _, hbel⟩
  · have HCHK := hid (traceCheck_any A n c l w hl hs hsw.1 hsw.2.1)
    have e0 : cntsOf l = [] := by unfold cntsOf; rw [if_neg he]
    rw [e0]
    rw [errV_pos he] at HCHK ⊢
    generalize evsChk l = E at HCHK ⊢
    clear hs hsw hl he e0
    go_enter Tryz.func20, Tryz.ntmps20
    go_wp2_with (go_at_call 59; refine HCHK.out.mono ?_; rintro e w1 ⟨rfl, hb1⟩; have HB1 := hid hb1; clear hb1 HCHK)
    go_ret2
    exact ⟨none, 0, 0, rfl, Sl.nil _ _ _, rfl, Nat.le_refl _, HB1.out⟩
def ofE (l : List Ev) (R : Int) : Int := if evsChk l ≠ 0 then evsChk l else if R < -1 ∨ 4 < R then 1 else 0
def ofL (l : List Ev) (R : Int) : List Ev := if ofE l R = 0 then keptR R l else []
theorem kept_len (R : Int) (l : List Ev) : (keptR R l).length = left R l := rfl
theorem of_un (A : Option Addr) (n c : Nat) (l : List Ev) (R : Int) (w : World) (hl : l.length = n) (hs : Sl w A 4 n (l.flatMap Ev.cells)) (hsw : SlW A c n) :
    Calls Tryz.prog 22 #[.slice A n c, .int .i64 R] w (EvOut w (ofL l R) (ofE l R)) := by
  unfold EvOut
  by_cases he : evsChk l = 0
  · have h20 := (evs_each he).1
    rw [hl] at h20
    by_cases hR : R < -1 ∨ 4 < R
    · have e1 : ofE l R = 1 := by unfold ofE; rw [if_neg (fun h => h he), if_pos hR]
      have e2 : ofL l R = [] := by unfold ofL; rw [if_neg (by rw [e1]; decide)]
      rw [e1, e2, errV_pos (by decide)]
      have hw : wIn R (-1) 4 = false := by
        unfold wIn
        rcases hR with h | h
        · rw [decide_eq_false (by omega)]; rfl
        · rw [decide_eq_false (show ¬ R ≤ 4 by omega), Bool.and_false]
      have HC : Hid (∀ w' : World, Below w.heap.size w w' → Calls Tryz.prog 59 #[.slice A n c] w' fun e w'' => e = .returned .nilIface ∧ Below w'.heap.size w' w'') := fun w' hb => (traceCheck_any A n c l w' hl (hs.new hb) hsw.1 hsw.2.1).mono fun e w'' h => by
        rw [he, errV_zero] at h
        exact h
      have HW : Hid (∀ w' : World, Calls Tryz.prog 63 #[.int .i64 R, .int .i64 (-1), .int .i64 4] w' fun e w'' => e = .returned (.bool false) ∧ w'' = w') := fun w' => (within_any R (-1) 4 w').mono fun e w'' h => by
        rw [hw] at h
        exact h
      clear hs hsw hl he e1 e2 hw hR
      go_enter Tryz.func22, Tryz.ntmps22
      go_wp2_with fail
      refine (HC.out _ ((Below.refl _ _).alloc (Nat.le_refl _) _)).mono ?_
      rintro e w1 ⟨rfl, hb1⟩
      have hx := (hb1.block _ (by simp)).trans (heap_alloc_new w _)
      have x0 := blk_cell hx 0
      have hlx := blk_lt hx
      simp at x0
      have HB1 := hid (((Below.refl w.heap.size w).alloc (Nat.le_refl _) _).trans (hb1.mono (by simp)))
      clear hb1 hx
      go_wp2_with fail
      refine (HW.out _).mono ?_
      rintro e w2 ⟨rfl, rfl⟩
      clear x0 hlx
      go_wp2_with fail
      go_ret2
      exact ⟨none, 0, 0, rfl, Sl.nil _ _ _, rfl, Nat.le_refl _, HB1.out⟩
    · have e1 : ofE l R = 0 := by unfold ofE; rw [if_neg (fun h => h he), if_neg hR]
      have e2 : ofL l R = keptR R l := by unfold ofL; rw [if_pos e1]
      rw [e1, e2, errV_zero]
      refine (ofF_good A n c l R w hl hs hsw h20 he (by unfold wIn; rw [decide_eq_true (by omega), decide_eq_true (by omega)]; rfl)).mono ?_
      rintro e w' ⟨A', k, c', rfl, h1, h2, h3, h4⟩
      refine ⟨A', k, c', rfl, h1, ?_, h3, h4⟩
      have := h1.1
      rw [flatMap_len Ev.cells 4 Ev.len] at this
      omega
  · have e1 : ofE l R = evsChk l := by unfold ofE; rw [if_pos he]
    have e2 : ofL l R = [] := by unfold ofL; rw [e1, if_neg he]
    have HC : Hid (∀ w' : World, Below w.heap.size w w' → Calls Tryz.prog 59 #[.slice A n c] w' fun e w'' => e = .returned (errV (evsChk l)) ∧ Below w'.heap.size w' w'') := fun w' hb => traceCheck_any A n c l w' hl (hs.new hb) hsw.1 hsw.2.1
    rw [e1, e2]
    rw [errV_pos he] at HC ⊢
    generalize evsChk l = E at HC ⊢
    clear hs hsw hl he e1 e2
    go_enter Tryz.func22, Tryz.ntmps22
    go_wp2_with fail
    refine (HC.out _ ((Below.refl _ _).alloc (Nat.le_refl _) _)).mono ?_
    rintro e w1 ⟨rfl, hb1⟩
    have HB1 := hid (((Below.refl w.heap.size w).alloc (Nat.le_refl _) _).trans (hb1.mono (by simp)))
    clear hb1
    go_wp2_with fail
    go_ret2
    exact ⟨none, 0, 0, rfl, Sl.nil _ _ _, rfl, Nat.le_refl _, HB1.out⟩
/-- What a text is read as: events, and the fault. -/
def ReadsAs (t : List UInt8) (es : List Ev) (E : Int) : Prop :=
  (∃ l : List Ev, (∀ o ∈ l, WfEv o) ∧ evsText l = t ∧ ((evsChk l = 0 ∧ es = l ∧ E = 0) ∨ (evsChk l ≠ 0 ∧ es = [] ∧ E = evsChk l))) ∨ ((∀ l : List Ev, (∀ o ∈ l, WfEv o) → evsText l ≠ t) ∧ es = [] ∧ E = 2)
theorem ReadsAs.one {t : List UInt8} {es es' : List Ev} {E E' : Int} (h : ReadsAs t es E) (k : ReadsAs t es' E') : es = es' ∧ E = E' := by
  rcases h with ⟨l, hw, ht, hc⟩ | ⟨hno, rfl, rfl⟩
  · rcases k with ⟨l', hw', ht', hc'⟩ | ⟨hno, _, _⟩
    · obtain rfl := evs_inj hw hw' (ht.trans ht'.symm)
      rcases hc with ⟨h1, rfl, rfl⟩ | ⟨h1, rfl, rfl⟩
      · rcases hc' with ⟨_, rfl, rfl⟩ | ⟨h2, _, _⟩
        · exact ⟨rfl, rfl⟩
        · exact absurd h1 h2
      · rcases hc' with ⟨h2, _, _⟩ | ⟨_, rfl, rfl⟩
        · exact absurd h2 h1
        · exact ⟨rfl, rfl⟩
    · exact absurd ht (hno l hw)
  · rcases k with ⟨l', hw', ht', _⟩ | ⟨_, rfl, rfl⟩
    · exact absurd ht' (hno l' hw')
    · exact ⟨rfl, rfl⟩
theorem parse_un (t : ByteArray) (ht : t.size ≤ 1073741824) (w : World) (hd : Desk w) : Calls Tryz.prog 24 #[.string t] w fun e w' => ∃ es E, ReadsAs t.data.toList es E ∧ EvOut w es E e w' := by
  refine (tparse_any t ht w hd).mono ?_
  rintro e w' ⟨hb, ⟨l, A, n, c, hwf, hct, hchk, hn, rfl, hrow, _⟩ | ⟨l, hwf, hct, hchk, rfl⟩ | ⟨hno, rfl⟩⟩
  · exact ⟨l, 0, .inl ⟨l, hwf, hct, .inl ⟨hchk, rfl, rfl⟩⟩, A, n, c, by rw [errV_zero], hrow.sl, hn, hrow.le.1, hb⟩
  · exact ⟨[], evsChk l, .inl ⟨l, hwf, hct, .inr ⟨hchk, rfl, rfl⟩⟩, none, 0, 0, rfl, Sl.nil _ _ _, rfl, Nat.le_refl _, hb⟩
  · exact ⟨[], 2, .inr ⟨hno, rfl, rfl⟩, none, 0, 0, rfl, Sl.nil _ _ _, rfl, Nat.le_refl _, hb⟩
theorem rread_un (t : ByteArray) (ht : t.size ≤ 1073741824) (w : World) : Calls Tryz.prog 23 #[.string t] w fun e w' => ∃ (es : List Ev) (E : Int) (A : Option Addr) (k c : Nat), ReadsAs t.data.toList es E ∧ e = .returned (.tuple #[.slice A k c, .int .i64 E]) ∧ Sl w' A 4 k (es.flatMap Ev.cells) ∧ es.length = k ∧ k ≤ c ∧ Below w.heap.size w w' := by
  refine (revread_any t ht w).mono ?_
  rintro e w' ⟨hb, ⟨l, A, n, c, hwf, hct, hchk, hn, rfl, hrow⟩ | ⟨l, hwf, hct, hchk, rfl⟩ | ⟨hno, rfl⟩⟩
  · exact ⟨l, 0, A, n, c, .inl ⟨l, hwf, hct, .inl ⟨hchk, rfl, rfl⟩⟩, rfl, hrow.sl, hn, hrow.le.1, hb⟩
  · exact ⟨[], evsChk l, none, 0, 0, .inl ⟨l, hwf, hct, .inr ⟨hchk, rfl, rfl⟩⟩, rfl, Sl.nil _ _ _, rfl, Nat.le_refl _, hb⟩
  · exact ⟨[], 2, none, 0, 0, .inr ⟨hno, rfl, rfl⟩, rfl, Sl.nil _ _ _, rfl, Nat.le_refl _, hb⟩
end Go.Proofs.YthafahnlfpkkbaaGreatDoor
