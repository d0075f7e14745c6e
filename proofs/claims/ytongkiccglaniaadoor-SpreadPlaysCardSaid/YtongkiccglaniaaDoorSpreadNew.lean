/- Package spread: the contract of New. -/
import Derived.Test.YtongkiccglaniaaDoorSpreadMem
import Derived.Test.YtongkiccglaniaaDoorAloneNew
import Derived.Test.YtongkiccglaniaaDoorRunU
namespace Go.Proofs.YtongkiccglaniaaDoor
open Go.RowKit
set_option maxRecDepth 100000

theorem allT_more {w w1 : World} {ts : List Tg} {t : Tg} (h : Lie w (allT ts)) (hb : Below w.heap.size w w1) (ht : Lie w1 t) (hF : ∀ j, t.F j → w.heap.size ≤ j) : Went w w1 (allT ts) (allT (ts ++ [t])) := by
  have hh : Beside w ts := h.here
  have hlt : ∀ u ∈ ts, ∀ j, u.F j → j < w.heap.size := fun u hu => (hh.lies u hu).lt
  have hadd := (hh.new hb).add ht (fun u hu j h1 h2 => by have := hlt u hu j ((hh.lies u hu).sub j h1); have := hF j h2; omega) (fun u hu j h1 h2 => by have := hF j (ht.sub j h1); have := hlt u hu j h2; omega)
  refine ⟨hadd.lie, Keep.of_below _ hb, ?_, ?_⟩
  · rintro j ⟨u, hu, hj⟩
    rcases List.mem_append.1 hu with hu | hu
    · exact .inl ⟨u, hu, hj⟩
    · simp at hu; subst hu; exact .inr (hF j hj)
  · rintro j ⟨u, hu, hj⟩
    rcases List.mem_append.1 hu with hu | hu
    · exact .inl ⟨u, hu, hj⟩
    · simp at hu; subst hu; exact .inr (hF j (ht.sub j hj))
theorem row_more {w3 w4 : World} {e sz n n' c c' : Nat} {A A' : Option Addr} {xs ys : List Value} (hr : Row w4 e sz A' n' c' ys) (hk : Keep (InA A) w3 w4) (hn : ∀ j, InA A' j → InA A j ∨ w3.heap.size ≤ j) : Went w3 w4 (rowT e sz A n c xs) (rowT e sz A' n' c' ys) :=
  ⟨row_lie hr, hk, hn, hn⟩
theorem Stand.allOne {w0 w : World} {ts : List Tg} (h : Stand w0 w ts) : Stand w0 w [allT ts] := by
  refine ⟨⟨fun u hu => by simp at hu; subst hu; exact h.all.lie, fun i j s u hs hu hne => ?_⟩, fun u hu j hj => ?_, h.below⟩
  · have h1 := (List.getElem?_eq_some_iff.1 hs).1
    have h2 := (List.getElem?_eq_some_iff.1 hu).1
    simp at h1 h2
    omega
  · simp at hu; subst hu
    obtain ⟨t, ht, hj⟩ := hj
    exact h.fresh t ht j hj
def SNew (w : World) (p : Pl) (e : Ending) (w' : World) : Prop :=
  ∃ sb S, e = .returned (.tuple #[.pointer (some ⟨sb, 0, none⟩), .nilIface]) ∧ Stand w w' [spreadT sb p S (kNew p)] ∧ ∀ j, (spreadT sb p S (kNew p)).F j → w.heap.size ≤ j
/-- While it is made: so many machines, so many lines. -/
structure SpMade (w w1 wr : World) (sb : Nat) (m : PM) (S : SM) (i k : Nat) : Prop where
  st : Stand w1 wr (spL sb S 0)
  fresh : ∀ j, (spT sb S 0).F j → w.heap.size ≤ j
  pl : S.P.pl = m.pl
  codes : S.rs.map AR.l = m.pl.code.take i
  news : ∀ (j : Nat) (x : AR), S.rs[j]? = some x → x.r = j ∧ x.a = ⟨St.zero, 0⟩
  lines : S.ls.map LR.x = (m.wires.take k).map fun x => ⟨x, [], 0⟩
  il : i ≤ m.pl.code.length
  kl : k ≤ m.wires.length
theorem spread_bad {w : World} {m : PM} (hf : Forms w) (hm : PlanAt w m) (he : planChk m.pl ≠ 0) :
    Calls Tryd.prog 25 #[.agg #[.slice m.A m.ros.length m.c, .int .i64 m.ticks, .slice m.sA m.spans.length m.sc, .slice m.wA m.wires.length m.wc]] w
      fun e w' => e = .returned (.tuple #[.pointer none, errV (planChk m.pl)]) ∧ Below w.heap.size w w' := by
  have HCK : Hid (∀ w', Below w.heap.size w w' → Calls Tryd.prog 44 #[.agg #[.slice m.A m.ros.length m.c, .int .i64 m.ticks, .slice m.sA m.spans.length m.sc, .slice m.wA m.wires.length m.wc]] w' fun e w'' => e = .returned (errV (planChk m.pl)) ∧ Below w'.heap.size w' w'') :=
    fun w' hb => plan_check m w' (hf.new hb) (hm.new hb)
  generalize planChk m.pl = E at he HCK ⊢
  have hv := errV_pos he
  rw [hv] at HCK ⊢
  generalize m.ros.length = n at HCK ⊢
  generalize m.spans.length = ns at HCK ⊢
  generalize m.wires.length = nw at HCK ⊢
  obtain ⟨A0, c0, _, tk, sA0, sc0, _, wA0, wc0, _⟩ := m
  simp only [] at HCK ⊢
  clear hv hm hf
  go_enter Tryd.func25, Tryd.ntmps25
  go_wp2_with fail
  refine (HCK.out _ ((Below.refl _ _).alloc (Nat.le_refl _) _)).mono ?_
  rintro e w1 ⟨rfl, hb1⟩
  go_wp2_with fail
  go_ret2
  exact ⟨rfl, ((Below.refl _ _).alloc (Nat.le_refl _) _).trans (hb1.mono (by simp))⟩
theorem Tryd.infoPA : (Tryd.prog.info? 22).map (fun i => (i.zero, i.size, i.bytes)) = some (some (.pointer none), 1, 8) := by kernel_rfl
/-- One machine more. -/
theorem SpMade.addR {w w1 wr w2 w4 : World} {sb : Nat} {m : PM} {S : SM} {i k : Nat} (h : SpMade w w1 wr sb m S i k) {l : List Op} (hl : m.pl.code[i]? = some l) {ab c : Nat} {A : Option Addr} (ha : AloneAt w2 ab A c l i ⟨St.zero, 0⟩) (hf : ∀ j, (j = ab ∨ (0 < l.length ∧ InA A j)) → wr.heap.size ≤ j) (hb : Below wr.heap.size wr w2)
    {o : Obj} {rA : Option Addr} {rc : Nat} (hr : Row w4 22 1 rA (S.rs.length + 1) rc (S.rs.map AR.ptr ++ [.pointer (some ⟨ab, 0, none⟩)])) (hk : Keep (InA S.rA) (w2.alloc o) w4) (hn : ∀ j, InA rA j → InA S.rA j ∨ (w2.alloc o).heap.size ≤ j) (hw1 : w.heap.size ≤ w1.heap.size) :
    SpMade w w1 (w4.setCell ⟨sb, 4, none⟩ (.slice rA (S.rs.length + 1) rc)) sb m ⟨S.P, rA, rc, S.lA, S.lc, S.rs ++ [⟨ab, A, c, l, i, ⟨St.zero, 0⟩⟩], S.ls⟩ (i + 1) k := by
  have hil : i < m.pl.code.length := (List.getElem?_eq_some_iff.1 hl).1
  have hrl : S.rs.length = i := by have := congrArg List.length h.codes; simp at this; have := h.il; omega
  have s1 := h.st.below.size
  have s2 := hb.size
  have hba : Below w2.heap.size w2 (w2.alloc o) := (Below.refl _ _).alloc (Nat.le_refl _) _
  have g1 : Stand w1 w2 ((spL sb S 0).set 4 (allT (S.rs.map AR.tg ++ [(⟨ab, A, c, l, i, ⟨St.zero, 0⟩⟩ : AR).tg]))) := h.st.go 4 rfl (allT_more (h.st.get (i := 4) rfl) hb ha.lie hf)
  have g2 := g1.new hba
  have g3 := g2.go 2 (t' := rowT 22 1 rA (S.rs.length + 1) rc (S.rs.map AR.ptr ++ [.pointer (some ⟨ab, 0, none⟩)])) rfl (row_more hr hk hn)
  have hob : w4.heap[sb]? = some (spreadObj S 0) := (g3.get (i := 0) rfl).here
  have hset : (w4.setCell ⟨sb, 4, none⟩ (.slice rA (S.rs.length + 1) rc)).heap[sb]? = some (spreadObj ⟨S.P, rA, rc, S.lA, S.lc, S.rs ++ [⟨ab, A, c, l, i, ⟨St.zero, 0⟩⟩], S.ls⟩ 0) := by
    rw [hp_set, if_pos rfl, hob]; simp [spreadObj, setObj]
  have g4 := g3.go 0 (t' := blkT sb (spreadObj ⟨S.P, rA, rc, S.lA, S.lc, S.rs ++ [⟨ab, A, c, l, i, ⟨St.zero, 0⟩⟩], S.ls⟩ 0)) rfl (blk_went (g3.get (i := 0) rfl) ((Keep.refl (fun j => j = sb) w4).setCell (.inl rfl) _) hset)
  have hS : spL sb ⟨S.P, rA, rc, S.lA, S.lc, S.rs ++ [⟨ab, A, c, l, i, ⟨St.zero, 0⟩⟩], S.ls⟩ 0 = [blkT sb (spreadObj ⟨S.P, rA, rc, S.lA, S.lc, S.rs ++ [⟨ab, A, c, l, i, ⟨St.zero, 0⟩⟩], S.ls⟩ 0), planT S.P, rowT 22 1 rA (S.rs.length + 1) rc (S.rs.map AR.ptr ++ [.pointer (some ⟨ab, 0, none⟩)]), rowT 145 1 S.lA S.ls.length S.lc (S.ls.map LR.ptr), allT (S.rs.map AR.tg ++ [(⟨ab, A, c, l, i, ⟨St.zero, 0⟩⟩ : AR).tg]), allT (S.ls.map LR.tg)] := by
    simp [spL, AR.ptr]
  refine ⟨by rw [hS]; exact g4, ?_, h.pl, ?_, ?_, h.lines, by omega, h.kl⟩
  · have hz : w.heap.size ≤ wr.heap.size := by omega
    rintro j ⟨t, ht, hj⟩
    rw [hS] at ht
    simp only [List.mem_cons, List.not_mem_nil, or_false] at ht
    have hold : ∀ (q : Nat) (u : Tg), (spL sb S 0)[q]? = some u → u.F j → w.heap.size ≤ j := fun q u hu hF => h.fresh j ⟨u, List.mem_of_getElem? hu, hF⟩
    rcases ht with rfl | rfl | rfl | rfl | rfl | rfl
    · exact hold 0 _ rfl hj
    · exact hold 1 _ rfl hj
    · rcases hn j hj with h1 | h1
      · exact hold 2 _ rfl h1
      · rw [sz_alloc] at h1; omega
    · exact hold 3 _ rfl hj
    · obtain ⟨u, hu, hj⟩ := hj
      rcases List.mem_append.1 hu with hu | hu
      · exact hold 4 _ rfl ⟨u, hu, hj⟩
      · simp at hu; subst hu
        have := hf j hj; omega
    · exact hold 5 _ rfl hj
  · show (S.rs ++ [(⟨ab, A, c, l, i, ⟨St.zero, 0⟩⟩ : AR)]).map AR.l = _
    rw [List.map_append, h.codes, List.take_add_one, hl]; rfl
  · intro j x hx
    have hx' : (S.rs ++ [(⟨ab, A, c, l, i, ⟨St.zero, 0⟩⟩ : AR)])[j]? = some x := hx
    by_cases hj : j < S.rs.length
    · rw [List.getElem?_append_left hj] at hx'; exact h.news j x hx'
    · rw [List.getElem?_append_right (by omega)] at hx'
      have hz : j - S.rs.length = 0 := by
        have := (List.getElem?_eq_some_iff.1 hx').1
        simp at this; omega
      rw [hz] at hx'
      simp at hx'
      subst hx'
      exact ⟨by simp only []; omega, rfl⟩
/-- One line more. -/
theorem SpMade.addL {w w1 wr w2 w4 : World} {sb : Nat} {m : PM} {S : SM} {i k : Nat} (h : SpMade w w1 wr sb m S i k) {x : Wire} (hx : m.wires[k]? = some x) {lb : Nat} (hl : LnAt 201 w2 lb none ⟨x, [], 0⟩) (hlb : wr.heap.size ≤ lb) (hb : Below wr.heap.size wr w2)
    {o : Obj} {lA : Option Addr} {lc : Nat} (hr : Row w4 145 1 lA (S.ls.length + 1) lc (S.ls.map LR.ptr ++ [.pointer (some ⟨lb, 0, none⟩)])) (hk : Keep (InA S.lA) (w2.alloc o) w4) (hn : ∀ j, InA lA j → InA S.lA j ∨ (w2.alloc o).heap.size ≤ j) (hw1 : w.heap.size ≤ w1.heap.size) :
    SpMade w w1 (w4.setCell ⟨sb, 5, none⟩ (.slice lA (S.ls.length + 1) lc)) sb m ⟨S.P, S.rA, S.rc, lA, lc, S.rs, S.ls ++ [⟨lb, none, ⟨x, [], 0⟩⟩]⟩ i (k + 1) := by
  have hkl : k < m.wires.length := (List.getElem?_eq_some_iff.1 hx).1
  have s1 := h.st.below.size
  have s2 := hb.size
  have hba : Below w2.heap.size w2 (w2.alloc o) := (Below.refl _ _).alloc (Nat.le_refl _) _
  have hnew : ∀ j, LF lb none j → wr.heap.size ≤ j := by
    rintro j (rfl | hj)
    · exact hlb
    · simp [InA] at hj
  have g1 : Stand w1 w2 ((spL sb S 0).set 5 (allT (S.ls.map LR.tg ++ [(⟨lb, none, ⟨x, [], 0⟩⟩ : LR).tg]))) := h.st.go 5 rfl (allT_more (h.st.get (i := 5) rfl) hb (ln_lie hl) hnew)
  have g2 := g1.new hba
  have g3 := g2.go 3 (t' := rowT 145 1 lA (S.ls.length + 1) lc (S.ls.map LR.ptr ++ [.pointer (some ⟨lb, 0, none⟩)])) rfl (row_more hr hk hn)
  have hob : w4.heap[sb]? = some (spreadObj S 0) := (g3.get (i := 0) rfl).here
  have hset : (w4.setCell ⟨sb, 5, none⟩ (.slice lA (S.ls.length + 1) lc)).heap[sb]? = some (spreadObj ⟨S.P, S.rA, S.rc, lA, lc, S.rs, S.ls ++ [⟨lb, none, ⟨x, [], 0⟩⟩]⟩ 0) := by
    rw [hp_set, if_pos rfl, hob]; simp [spreadObj, setObj]
  have g4 := g3.go 0 (t' := blkT sb (spreadObj ⟨S.P, S.rA, S.rc, lA, lc, S.rs, S.ls ++ [⟨lb, none, ⟨x, [], 0⟩⟩]⟩ 0)) rfl (blk_went (g3.get (i := 0) rfl) ((Keep.refl (fun j => j = sb) w4).setCell (.inl rfl) _) hset)
  have hS : spL sb ⟨S.P, S.rA, S.rc, lA, lc, S.rs, S.ls ++ [⟨lb, none, ⟨x, [], 0⟩⟩]⟩ 0 = [blkT sb (spreadObj ⟨S.P, S.rA, S.rc, lA, lc, S.rs, S.ls ++ [⟨lb, none, ⟨x, [], 0⟩⟩]⟩ 0), planT S.P, rowT 22 1 S.rA S.rs.length S.rc (S.rs.map AR.ptr), rowT 145 1 lA (S.ls.length + 1) lc (S.ls.map LR.ptr ++ [.pointer (some ⟨lb, 0, none⟩)]), allT (S.rs.map AR.tg), allT (S.ls.map LR.tg ++ [(⟨lb, none, ⟨x, [], 0⟩⟩ : LR).tg])] := by
    simp [spL, LR.ptr]
  refine ⟨by rw [hS]; exact g4, ?_, h.pl, h.codes, h.news, ?_, h.il, by omega⟩
  · rintro j ⟨t, ht, hj⟩
    rw [hS] at ht
    simp only [List.mem_cons, List.not_mem_nil, or_false] at ht
    have hold : ∀ (q : Nat) (u : Tg), (spL sb S 0)[q]? = some u → u.F j → w.heap.size ≤ j := fun q u hu hF => h.fresh j ⟨u, List.mem_of_getElem? hu, hF⟩
    rcases ht with rfl | rfl | rfl | rfl | rfl | rfl
    · exact hold 0 _ rfl hj
    · exact hold 1 _ rfl hj
    · exact hold 2 _ rfl hj
    · rcases hn j hj with h1 | h1
      · exact hold 3 _ rfl h1
      · rw [sz_alloc] at h1; omega
    · exact hold 4 _ rfl hj
    · obtain ⟨u, hu, hj⟩ := hj
      rcases List.mem_append.1 hu with hu | hu
      · exact hold 5 _ rfl ⟨u, hu, hj⟩
      · simp at hu; subst hu
        have := hnew j hj; omega
  · show (S.ls ++ [(⟨lb, none, ⟨x, [], 0⟩⟩ : LR)]).map LR.x = _
    rw [List.map_append, h.lines, List.take_add_one, hx, List.map_append]; rfl
/-- All of them. -/
theorem SpMade.done {w w1 wr : World} {sb : Nat} {m : PM} {S : SM} {i k : Nat} (h : SpMade w w1 wr sb m S i k) (hi : i = m.pl.code.length) (hk : k = m.wires.length) (hb : Below w.heap.size w w1) : SNew w m.pl (.returned (.tuple #[.pointer (some ⟨sb, 0, none⟩), .nilIface])) wr := by
  subst hi hk
  have hf : SpFacts m.pl S (kNew m.pl) 0 := by
    refine ⟨h.pl, by rw [h.codes, List.take_length], ?_, ?_, fun j x hx => (h.news j x hx).1, fun x hx => ?_⟩
    · have h1 : S.rs.map (fun x => x.a.st) = S.rs.map (fun _ => St.zero) := List.map_congr_left fun x hx => by
        obtain ⟨j, hj⟩ := List.mem_iff_getElem?.1 hx
        rw [(h.news j x hj).2]
      rw [h1]
      have h2 : S.rs.length = m.pl.code.length := by have := congrArg List.length h.codes; simpa using this
      simp only [kNew]
      rw [List.map_const', List.map_const', h2]
    · rw [h.lines, List.take_length]; rfl
    · obtain ⟨j, hj⟩ := List.mem_iff_getElem?.1 hx
      rw [(h.news j x hj).2]
      exact ⟨Int.le_refl _, Int.le_refl _⟩
  have hs := h.st.base hb
  have h1 := hs.allOne
  refine ⟨sb, S, rfl, ⟨⟨fun u hu => ?_, fun a b s u hs1 hu hne => ?_⟩, fun u hu j hj => ?_, h1.below⟩, h.fresh⟩
  · simp at hu; subst hu
    exact SpreadAt.lie ⟨h.st.all, hf⟩
  · have h3 := (List.getElem?_eq_some_iff.1 hs1).1
    have h4 := (List.getElem?_eq_some_iff.1 hu).1
    simp at h3 h4
    omega
  · simp at hu; subst hu
    exact h1.fresh (allT (spL sb S 0)) (by simp) j hj
theorem spMade_start {w w1 w2 : World} {m P : PM} (hw1 : w.heap.size ≤ w1.heap.size) (hb : Below w1.heap.size w1 w2) (hp : PlanAt w2 P) (hpl : P.pl = m.pl) (hfr : ∀ j, planF P j → w1.heap.size ≤ j) {w3 : World} (hw3 : w3 = w2.alloc (.cells #[.slice P.A P.ros.length P.c, .int .i64 P.ticks, .slice P.sA P.spans.length P.sc, .slice P.wA P.wires.length P.wc, .slice none 0 0, .slice none 0 0, .int .i64 0] 144)) :
    SpMade w w1 w3 w2.heap.size m ⟨P, none, 0, none, 0, [], []⟩ 0 0 := by
  have hs := hb.size
  have hba : Below w2.heap.size w2 w3 := by rw [hw3]; exact (Below.refl _ _).alloc (Nat.le_refl _) _
  have hob : w3.heap[w2.heap.size]? = some (spreadObj ⟨P, none, 0, none, 0, [], []⟩ 0) := by rw [hw3]; exact heap_alloc_new _ _
  have hlt := hp.lt
  have b0 := Beside.nil w3
  have b1 := b0.add (blk_lie hob) (fun u hu => by simp at hu) (fun u hu => by simp at hu)
  have b2 := b1.add (plan_lie (hp.new hba)) (fun u hu j h1 h2 => by
    simp at hu; subst hu
    have e : j = w2.heap.size := h1
    have := hlt j h2
    omega) (fun u hu j h1 h2 => h1.elim)
  have b3 := b2.add (row_lie (Row.nil w3 22 1)) (fun u hu j h1 h2 => by have h3 : InA none j := h2; simp [InA] at h3) (fun u hu j h1 h2 => by have h3 : InA none j := h1; simp [InA] at h3)
  have b4 := b3.add (row_lie (Row.nil w3 145 1)) (fun u hu j h1 h2 => by have h3 : InA none j := h2; simp [InA] at h3) (fun u hu j h1 h2 => by have h3 : InA none j := h1; simp [InA] at h3)
  have b5 := b4.add (Beside.nil w3).lie (fun u hu j h1 h2 => by obtain ⟨t, ht, _⟩ := h2; simp at ht) (fun u hu j h1 h2 => by obtain ⟨t, ht, _⟩ := h1; simp at ht)
  have b6 := b5.add (Beside.nil w3).lie (fun u hu j h1 h2 => by obtain ⟨t, ht, _⟩ := h2; simp at ht) (fun u hu j h1 h2 => by obtain ⟨t, ht, _⟩ := h1; simp at ht)
  have hfresh : ∀ u ∈ spL w2.heap.size ⟨P, none, 0, none, 0, [], []⟩ 0, ∀ j, u.F j → w1.heap.size ≤ j := by
    intro u hu j hj
    simp only [spL, List.mem_cons, List.not_mem_nil, or_false] at hu
    rcases hu with rfl | rfl | rfl | rfl | rfl | rfl
    · have e : j = w2.heap.size := hj
      omega
    · exact hfr j hj
    · have h3 : InA none j := hj
      simp [InA] at h3
    · have h3 : InA none j := hj
      simp [InA] at h3
    · obtain ⟨t, ht, _⟩ := hj; simp at ht
    · obtain ⟨t, ht, _⟩ := hj; simp at ht
  exact ⟨⟨b6, fun u hu j hj => hfresh u hu j ((b6.lies u hu).sub j hj), hb.trans (hba.mono hs)⟩, fun j ⟨t, ht, hj⟩ => Nat.le_trans hw1 (hfresh t ht j hj), hpl, by simp, fun j x hx => by simp at hx, by simp, Nat.zero_le _, Nat.zero_le _⟩

set_option maxHeartbeats 8000000 in
theorem spread_good {w : World} {m : PM} (hf : Forms w) (hm : PlanAt w m) (he : planChk m.pl = 0) :
    Calls Tryd.prog 25 #[.agg #[.slice m.A m.ros.length m.c, .int .i64 m.ticks, .slice m.sA m.spans.length m.sc, .slice m.wA m.wires.length m.wc]] w (SNew w m.pl) := by
  have hsm := planSmall he
  have HCK : Hid (∀ w', Below w.heap.size w w' → Calls Tryd.prog 44 #[.agg #[.slice m.A m.ros.length m.c, .int .i64 m.ticks, .slice m.sA m.spans.length m.sc, .slice m.wA m.wires.length m.wc]] w' fun e w'' => e = .returned .nilIface ∧ Below w'.heap.size w' w'') :=
    fun w' hb => (plan_check m w' (hf.new hb) (hm.new hb)).mono fun e w'' h => by rw [he, errV_zero] at h; exact h
  have HOWN : Hid (∀ w', Below w.heap.size w w' → Calls Tryd.prog 61 #[.agg #[.slice m.A m.ros.length m.c, .int .i64 m.ticks, .slice m.sA m.spans.length m.sc, .slice m.wA m.wires.length m.wc]] w' (Owned w' m)) := fun w' hb => own_any w' m (hm.new hb) hsm
  have HAN : Hid (∀ w', Below w.heap.size w w' → ∀ (i : Nat) (l : List Op), m.pl.code[i]? = some l → Calls Tryd.prog 17 #[.agg #[.slice m.A m.ros.length m.c, .int .i64 m.ticks, .slice m.sA m.spans.length m.sc, .slice m.wA m.wires.length m.wc], .int .i64 i] w' (ANew w' l i)) := fun w' hb i l hl => aloneNew_good (hf.new hb) (hm.new hb) he hl
  have HWS : Hid (∀ w', Below w.heap.size w w' → Sl w' m.wA 4 m.wires.length (m.wires.flatMap Wire.cells)) := fun w' hb => hm.wires.new hb
  have HWK : Hid (∀ x ∈ m.wires, wireChk x = 0) := (flowChk_ok (planChk_ok he).flow).2.1
  have hn5 := hsm.ros
  have hw12 := hsm.wires
  have hcl : m.pl.code.length = m.ros.length := by simp [PM.pl]
  obtain ⟨n, hn⟩ : ∃ n, n = m.ros.length := ⟨_, rfl⟩
  obtain ⟨ns, hns⟩ : ∃ ns, ns = m.spans.length := ⟨_, rfl⟩
  obtain ⟨nw, hnw⟩ : ∃ nw, nw = m.wires.length := ⟨_, rfl⟩
  rw [← hn, ← hns, ← hnw] at HCK HOWN HAN ⊢
  rw [← hnw] at HWS hw12
  rw [← hn] at hn5 hcl
  have HCL := hid hcl
  have HNW := hid hnw
  obtain ⟨Q, hQ⟩ : ∃ Q, Q = SNew w m.pl := ⟨_, rfl⟩
  rw [← hQ]
  have HQ := hid hQ
  unfold ANew at HAN
  obtain ⟨wA0, hwA0⟩ : ∃ a, a = m.wA := ⟨_, rfl⟩
  rw [← hwA0] at HCK HOWN HAN HWS ⊢
  clear hf hm he hsm hn hns hnw hcl hQ hwA0
  go_enter Tryd.func25, Tryd.ntmps25
  go_wp2_with fail
  refine (HCK.out _ ((Below.refl _ _).alloc (Nat.le_refl _) _)).mono ?_
  rintro e w1 ⟨rfl, hb1⟩
  have HB1 : Hid (Below w.heap.size w w1) := ((Below.refl w.heap.size w).alloc (Nat.le_refl _) _).trans (hb1.mono (by simp))
  have HBX := hid ((hb1.block w.heap.size (by simp)).trans (heap_alloc_new w _))
  have x0 := blk_cell HBX.out 0
  have x1 := blk_cell HBX.out 1
  have x2 := blk_cell HBX.out 2
  have x3 := blk_cell HBX.out 3
  have hlx := blk_lt HBX.out
  simp at x0 x1 x2 x3
  clear hb1
  go_wp2_with fail
  refine (HOWN.out _ HB1.out).mono ?_
  rintro e w2 ⟨P, rfl, hpt, hpl, _, hfr, hb2⟩
  obtain ⟨w3, hw3⟩ : ∃ w3, w3 = w2.alloc (.cells #[.slice P.A P.ros.length P.c, .int .i64 P.ticks, .slice P.sA P.spans.length P.sc, .slice P.wA P.wires.length P.wc, .slice none 0 0, .slice none 0 0, .int .i64 0] 144) := ⟨_, rfl⟩
  have HM0 := hid (spMade_start (w := w) HB1.out.size hb2 hpt hpl hfr hw3)
  clear hpt hpl hfr hb2 x0 x1 x2 x3 hlx
  go_upto_region 5 with fail
  obtain ⟨sb, hsb⟩ : ∃ sb, sb = w2.heap.size := ⟨_, rfl⟩
  rw [← hw3, ← hsb]
  rw [← hsb] at HM0
  clear hw3 hsb
  have HXS : Hid (∀ w', Below w1.heap.size w1 w' → w'.cell? ⟨w.heap.size, 0, none⟩ = some (.slice m.A n m.c) ∧ w'.cell? ⟨w.heap.size, 1, none⟩ = some (.int .i64 m.ticks) ∧ w'.cell? ⟨w.heap.size, 2, none⟩ = some (.slice m.sA ns m.sc) ∧ w'.cell? ⟨w.heap.size, 3, none⟩ = some (.slice wA0 nw m.wc) ∧ w.heap.size < w'.heap.size) := fun w' hb => by
    have h := (hb.block _ (blk_lt HBX.out)).trans HBX.out
    exact ⟨blk_cell h 0, blk_cell h 1, blk_cell h 2, blk_cell h 3, blk_lt h⟩
  obtain ⟨x0, _, _, _, hlx⟩ := HXS.out _ HM0.out.st.below
  obtain ⟨ia, hia, ha0, ha1, ha2⟩ := info_parts Tryd.infoPA
  obtain ⟨il, hil, hz0, hz1, hz2⟩ := info_parts Tryd.infoPLn
  go_wp2_with fail
  clear x0 hlx
  go_loopw [25] (fun v25 wr => ∃ (i : Nat) (S : SM), i ≤ n ∧ v25 = .int .i64 i ∧ SpMade w w1 wr sb m S i 0) (fun v25 _ => n - (intOf v25).toNat)
  case atStart => exact ⟨0, _, by omega, rfl, HM0.out⟩
  case round =>
    obtain ⟨wo, rfl⟩ : ∃ wo : World, wo = wr := ⟨_, rfl⟩
    obtain ⟨i, S, hi, rfl, hmade⟩ := hrel
    have HMR := hid hmade
    clear hmade
    by_cases hin : i < n
    · have hil2 : i < m.pl.code.length := by rw [HCL.out]; exact hin
      obtain ⟨l, hl⟩ : ∃ l, m.pl.code[i]? = some l := ⟨_, List.getElem?_eq_getElem hil2⟩
      have hcall := HAN.out wo (HB1.out.trans (HMR.out.st.below.mono HB1.out.size)) i l hl
      have HL := hid hl
      have hrl : S.rs.length = i := by have := congrArg List.length HMR.out.codes; simp at this; omega
      have HRL := hid hrl
      obtain ⟨x0, x1, x2, x3, hlx⟩ := HXS.out _ HMR.out.st.below
      clear hl hil2 hrl
      go_wp2_with fail
      refine hcall.mono ?_
      clear hcall
      rintro e w4 ⟨ab, A, c, rfl, hal, hfr, hb4⟩
      have hin4 : Beside w4 (spL sb S 0) := (HMR.out.st.new hb4).all
      obtain ⟨_, _, _, _, k4, _, _, kf, ksb⟩ := sp_cells hin4
      rw [HRL.out] at k4
      have hrp := sp_rp hin4
      rw [HRL.out] at hrp
      have HAL := hid hal
      have HFR := hid hfr
      have HB4 := hid hb4
      have HRP := hid hrp
      have HIN4 := hid hin4
      clear hal hfr hb4 hrp hin4 x0 x1 x2 x3 hlx
      go_wp2_with (at_builtin; refine wpList_append_row _ rfl _ _ 141 rfl 22 ia (.pointer none) 1 8 Tryd.underlying141 hia ha0 ha1 ha2 rfl (by decide) S.rA i S.rc (S.rs.map AR.ptr) rfl ?c0 (some ⟨w4.heap.size, 0, none⟩) 1 1 [.pointer (some ⟨ab, 0, none⟩)] rfl ?c1 ?c2 ?c3 ?c4 ?_)
      case c0 => exact HRP.out.alloc _
      case c1 =>
        exact ⟨rfl, fun _ => ⟨w4.heap.size, 0, rfl, by simp, fun j u hu => by
          match j, hu with
          | 0, hu => simp at hu; subst hu; exact blk_cell (heap_alloc_new w4 _) 0⟩⟩
      case c2 => intro u hu; simp at hu; subst hu; rfl
      case c3 => unfold maxLen; omega
      case c4 => omega
      intro rA' rc' w5 hrow5 hkeep5 hin5
      have HR5 := hid hrow5
      have HK5 := hid hkeep5
      have HI5 := hid hin5
      have hsbA : ¬ InA S.rA sb := fun h => HIN4.out.apart 2 0 _ _ rfl rfl (by decide) sb h rfl
      have h5b := (hkeep5.block sb (by simp; omega) hsbA).trans ((blk_alloc ksb _).trans (sp_obj HIN4.out))
      have d4 := blk_cell h5b 4
      have d4f := blk_free h5b 4
      simp at d4
      rw [HRL.out] at d4
      have hadd := HMR.out.addR HL.out HAL.out HFR.out HB4.out (by rw [HRL.out]; exact HR5.out) HK5.out (fun j hj => (HI5.out j hj).imp_right fun h => by rw [sz_alloc]; exact h) HB1.out.size
      rw [HRL.out] at hadd
      have HADD := hid hadd
      clear hrow5 hkeep5 hin5 h5b hsbA hadd k4 kf ksb
      go_wp2_with fail
      go_roundw
      case rel => exact ⟨i + 1, _, by omega, by go_num, HADD.out⟩
      case measure => simp [intOf]; omega
    · obtain rfl : i = n := by omega
      obtain ⟨_, _, _, x3, hlx⟩ := HXS.out _ HMR.out.st.below
      clear hin
      go_wp2_with fail
      clear x3 hlx
      go_loopw [51] (fun v51 wq => ∃ (k : Nat) (S : SM), k ≤ nw ∧ v51 = .int .i64 k ∧ SpMade w w1 wq sb m S i k) (fun v51 _ => nw - (intOf v51).toNat)
      case atStart => exact ⟨0, S, by omega, rfl, HMR.out⟩
      case round =>
        obtain ⟨wq, rfl⟩ : ∃ wq : World, wq = wr := ⟨_, rfl⟩
        obtain ⟨k, T, hk, rfl, hmade⟩ := hrel
        have HMT := hid hmade
        clear hmade
        by_cases hkn : k < nw
        · have hkm : k < m.wires.length := by rw [← HNW.out]; exact hkn
          have hll : T.ls.length = k := by have := congrArg List.length HMT.out.lines; simp at this; omega
          have HLL := hid hll
          have HBQ := hid (HB1.out.trans (HMT.out.st.below.mono HB1.out.size))
          obtain ⟨wb, woff, hwA, hwb, g0, g1, g2, g3⟩ := (HWS.out wq HBQ.out).wire (Below.refl _ _) hkm hkn
          subst hwA
          have hget := List.getElem?_eq_getElem hkm
          have hchk := HWK.out _ (List.getElem_mem hkm)
          generalize m.wires[k] = x at g0 g1 g2 g3 hget hchk
          have HGET := hid hget
          have HNEW : Hid (∀ w', Calls Tryd.prog 72 #[.agg #[.int .i64 x.fr, .int .i64 x.to, .int .i64 x.kind, .int .i64 x.deep]] w' (Made w' x)) := fun w' => new_ok x w' hchk
          clear hget hchk hll hkm
          go_wp2_with fail
          refine (HNEW.out _).mono ?_
          rintro e w4 ⟨lb, rfl, hlb, hla, hb4⟩
          have HB4 : Hid (Below wq.heap.size wq w4) := ((Below.refl _ _).alloc (Nat.le_refl _) _).trans (hb4.mono (by simp))
          have hin4 : Beside w4 (spL sb T 0) := (HMT.out.st.new HB4.out).all
          obtain ⟨_, _, _, _, _, k5, _, kf, ksb⟩ := sp_cells hin4
          rw [HLL.out] at k5
          have hlp := sp_lp hin4
          rw [HLL.out] at hlp
          have HLB := hid hlb
          have HLA := hid hla
          have HLP := hid hlp
          have HIN4 := hid hin4
          clear hlb hla hb4 hlp hin4 g0 g1 g2 g3
          go_wp2_with (at_builtin; refine wpList_append_row _ rfl _ _ 142 rfl 145 il (.pointer none) 1 8 Tryd.underlying142 hil hz0 hz1 hz2 rfl (by decide) T.lA k T.lc (T.ls.map LR.ptr) rfl ?c0 (some ⟨w4.heap.size, 0, none⟩) 1 1 [.pointer (some ⟨lb, 0, none⟩)] rfl ?c1 ?c2 ?c3 ?c4 ?_)
          case c0 => exact HLP.out.alloc _
          case c1 =>
            exact ⟨rfl, fun _ => ⟨w4.heap.size, 0, rfl, by simp, fun j u hu => by
              match j, hu with
              | 0, hu => simp at hu; subst hu; exact blk_cell (heap_alloc_new w4 _) 0⟩⟩
          case c2 => intro u hu; simp at hu; subst hu; rfl
          case c3 => unfold maxLen; omega
          case c4 => omega
          intro lA' lc' w5 hrow5 hkeep5 hin5
          have HR5 := hid hrow5
          have HK5 := hid hkeep5
          have HI5 := hid hin5
          have hsbA : ¬ InA T.lA sb := fun h => HIN4.out.apart 3 0 _ _ rfl rfl (by decide) sb h rfl
          have h5b := (hkeep5.block sb (by simp; omega) hsbA).trans ((blk_alloc ksb _).trans (sp_obj HIN4.out))
          have d5 := blk_cell h5b 5
          have d5f := blk_free h5b 5
          simp at d5
          rw [HLL.out] at d5
          have hadd := HMT.out.addL HGET.out HLA.out (by have := HLB.out; simp at this; omega) HB4.out (by rw [HLL.out]; exact HR5.out) HK5.out (fun j hj => (HI5.out j hj).imp_right fun h => by rw [sz_alloc]; exact h) HB1.out.size
          rw [HLL.out] at hadd
          have HADD := hid hadd
          clear hrow5 hkeep5 hin5 h5b hsbA hadd k5 kf ksb
          go_wp2_with fail
          go_roundw
          case rel => exact ⟨k + 1, _, by omega, by go_num, HADD.out⟩
          case measure => simp [intOf]; omega
        · obtain rfl : k = nw := by omega
          go_wp2_with fail
          (first | go_ret2 | skip)
          rw [HQ.out]
          exact HMT.out.done HCL.out.symm HNW.out HB1.out
end Go.Proofs.YtongkiccglaniaaDoor
