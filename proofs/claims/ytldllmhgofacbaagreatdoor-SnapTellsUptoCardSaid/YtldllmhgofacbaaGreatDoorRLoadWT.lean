/- The reference (package frameref2): the contract of Load, for every plan that is right and every text. Conditions: no text is longer than 2^30 bytes. -/
import Derived.Test.YtldllmhgofacbaaGreatDoorRLoadLaw
import Derived.Test.YtldllmhgofacbaaGreatDoorRNumsWT
import Derived.Test.YtldllmhgofacbaaGreatDoorRSaveWT
import Derived.Test.YtldllmhgofacbaaGreatDoorRKernUT
import Derived.Test.YtldllmhgofacbaaGreatDoorRPlanU
import Derived.Test.YtldllmhgofacbaaGreatDoorPart
import Derived.BigQuiet
import Derived.Deep.RegionHeld3
namespace Go.Proofs.YtldllmhgofacbaaGreatDoor
open Go.RowKit
set_option maxRecDepth 100000

abbrev rlT (kb : Nat) (p : Pl) (M : KM) (k : Kst) : Tg := kT 98 165 163 kb p M k
theorem Stand.addL {w0 w w1 : World} {ts : List Tg} {kb : Nat} {p : Pl} {M : KM} {k : Kst} (h : Stand w0 w ts) (hr : RRun w w1 kb p M k) (ho : ∀ j, planF M.P j → j < w0.heap.size) : Stand w0 w1 (ts ++ [rlT kb p M k]) :=
  h.add hr.below (k_lie hr.kat hr.plan) (fun j hj => hr.fresh j (.inl hj)) fun j hj => by
    rcases hj with hj | hj | hj
    · exact .inl (hr.fresh j (.inl hj))
    · exact .inl (hr.fresh j (.inr hj))
    · exact .inr (ho j hj)
/-- Such a kernel's tick. -/
theorem ltick_stand {w0 wr : World} {ts : List Tg} {i kb : Nat} {p : Pl} {M : KM} {k : Kst} {B : Int} (h : Stand w0 wr ts) (hi : ts[i]? = some (rlT kb p M k)) (hp : PlOk p) (hk : KOk p k B) (hB : B < 4611686018427387904) :
    Calls Tryz.prog 26 #[.pointer (some ⟨kb, 0, none⟩)] wr fun e w' => ∃ M', e = .returned (.agg #[.int .i64 (tick p k).1.tick, .int .i64 (tick p k).1.room, .int .i64 (tick p k).1.pc, .int .i64 (tick p k).1.what]) ∧ Stand w0 w' (ts.set i (rlT kb p M' (tick p k).2)) := by
  have hk1 := (h.get hi).here
  refine (rtick_any wr kb M k p B hp hk1.2 hk hB hk1.1).mono ?_
  rintro e w' ⟨M', rfl, h1, h2, h3, h4⟩
  exact ⟨M', rfl, h.go i hi (k_went (h.get hi) h1 h2 h3 h4)⟩
/-- What Load hands back. -/
def RLoadGot (w : World) (m : PM) (t : ByteArray) (e : Ending) (w' : World) : Prop :=
  Below w.heap.size w w' ∧ ((textE m.pl t.data.toList = 0 ∧ ∃ kb M, e = .returned (.tuple #[.pointer (some ⟨kb, 0, none⟩), .int .i64 0]) ∧ RRun w w' kb m.pl M (loadK m.pl (tabOf m.pl t.data.toList)) ∧ M.P = m) ∨
    (textE m.pl t.data.toList ≠ 0 ∧ e = .returned (.tuple #[.pointer none, .int .i64 (textE m.pl t.data.toList)])))
theorem rload_bad {w w' : World} {a : Act} {m : PM} {t : ByteArray} {E : Int} (h4 : a.tmps[4]? = some (.pointer none)) (h5 : a.tmps[5]? = some (.int .i64 E)) (hd : a.defers = []) (hE : textE m.pl t.data.toList = E) (h0 : E ≠ 0) (hb : Below w.heap.size w w') :
    bodyPost Tryz.prog Tryz.f28 (RLoadGot w m t) .ret a w' :=
  bodyPost_ret (v := .tuple #[.pointer none, .int .i64 E]) (by simp [results, Tryz.results28, go_sem, h4, h5]) hd ⟨hb, .inr ⟨by rw [hE]; exact h0, by rw [hE]⟩⟩
theorem rload_yes {w w' : World} {a : Act} {m : PM} {t : ByteArray} {kb : Nat} {M : KM} (h4 : a.tmps[4]? = some (.pointer (some ⟨kb, 0, none⟩))) (h5 : a.tmps[5]? = some (.int .i64 0)) (hd : a.defers = []) (hE : textE m.pl t.data.toList = 0) (hr : RRun w w' kb m.pl M (loadK m.pl (tabOf m.pl t.data.toList))) (hP : M.P = m) :
    bodyPost Tryz.prog Tryz.f28 (RLoadGot w m t) .ret a w' :=
  bodyPost_ret (v := .tuple #[.pointer (some ⟨kb, 0, none⟩), .int .i64 0]) (by simp [results, Tryz.results28, go_sem, h4, h5]) hd ⟨hr.below, .inl ⟨hE, kb, M, rfl, hr, hP⟩⟩
def RCut7 (v0 : List UInt8) (vs : List (List UInt8)) (n : Nat) (w : World) (e : Ending) (w' : World) : Prop := ∃ A cap, e = .returned (.slice A n cap) ∧ Row w' 9 1 A n cap ((v0 :: vs).map txt) ∧ Below w.heap.size w w'
theorem rcut7 (S : ByteArray) (hS : S.size ≤ 1073741824) : ∃ (v0 : List UInt8) (vs : List (List UInt8)) (n : Nat), cutA 32 [] S.data.toList = v0 :: vs ∧ 1 ≤ n ∧ n ≤ 1073741825 ∧
    (∀ w, Calls Tryz.prog 40 #[.string S, .int .u8 32] w (RCut7 v0 vs n w)) ∧ (∀ A cap w, Row w 9 1 A n cap ((v0 :: vs).map txt) → Calls Tryz.prog 73 #[.slice A n cap, .int .i64 7] w (RNumsGot 7 vs w)) := by
  obtain ⟨v0, vs, hc⟩ := cutA_cons 32 S.data.toList []
  have hvs : ∀ x ∈ vs, x.length ≤ 1099511627776 := fun x hx => by
    have := cutA_le 32 S.data.toList [] x (by rw [hc]; simp [hx])
    simp only [List.length_nil, Nat.zero_add] at this
    rw [← Lib.size_eq] at this; omega
  have hmany : vs.length + 1 ≤ 1073741825 := by
    have h1 := cutA_len 32 S.data.toList []
    rw [hc] at h1
    have h2 := List.count_le_length (a := (32 : UInt8)) (l := S.data.toList)
    rw [← Lib.size_eq] at h2
    simp only [List.length_cons] at h1
    omega
  refine ⟨v0, vs, vs.length + 1, hc, by omega, hmany, fun w => ?_, fun A cap w hr => rnumbers_any v0 vs A _ cap 7 (by decide) rfl hmany hvs w hr⟩
  refine (cut_any S 32 w (by omega)).mono ?_
  rw [hc]
  rintro e w' ⟨A, cap, rfl, hrow, _, hb⟩
  exact ⟨A, cap, rfl, hrow, hb⟩
/-- A word of a slice of words. -/
theorem sl_word {w : World} {A : Option Addr} {n : Nat} {P : List (List UInt8)} (h : Sl w A 1 n (P.map txt)) {i : Nat} {s : List UInt8} (hs : P[i]? = some s) : ∃ b off, A = some ⟨b, off, none⟩ ∧ b < w.heap.size ∧ i < n ∧ w.cell? ⟨b, off + i, none⟩ = some (.string ⟨s.toArray⟩) := by
  have hl := (List.getElem?_eq_some_iff.1 hs).1
  have hn : P.length = n := by have := h.1; rw [List.length_map] at this; omega
  obtain ⟨b, off, rfl, hb, hx⟩ := h.2 (by omega)
  exact ⟨b, off, rfl, hb, by omega, hx i _ (by rw [List.getElem?_map, hs]; rfl)⟩
/-- A state of numbers, so many of its cells read. -/
def stC (n : List Nat) (c : Nat) : St := ⟨gi n 0, if 0 < c then gi n 1 else 0, if 1 < c then gi n 2 else 0, if 2 < c then gi n 3 else 0, if 3 < c then gi n 4 else 0, if 4 < c then gi n 5 else 0, if 5 < c then gi n 6 else 0, decide (n.getD 7 0 = 1)⟩
def stObj (s : St) : Obj := .cells #[.int .i64 s.pc, .int .i64 s.c0, .int .i64 s.c1, .int .i64 s.c2, .int .i64 s.c3, .int .i64 s.c4, .int .i64 s.c5, .bool s.failed] 106 (0, 0)
theorem stC_all (n : List Nat) : stC n 6 = stOf n := rfl
theorem stC_zero (n : List Nat) : stC n 0 = ⟨gi n 0, 0, 0, 0, 0, 0, 0, decide (n.getD 7 0 = 1)⟩ := rfl
theorem stC_next {n : List Nat} {c b : Nat} {w : World} (hc : c < 6) (h : w.heap[b]? = some (stObj (stC n c))) : (w.setCell ⟨b, 1 + c, none⟩ (.int .i64 (gi n (1 + c)))).heap[b]? = some (stObj (stC n (c + 1))) := by
  unfold stObj at h ⊢
  have h1 := blk_set h (1 + c) (.int .i64 (gi n (1 + c)))
  refine h1.trans ?_
  rcases six hc with rfl | rfl | rfl | rfl | rfl | rfl <;> rfl
theorem wordAt_time (nr nw : Nat) : (wordsOf nr nw)[0]? = some timeW := rfl
theorem wordAt_room {nr nw i : Nat} (h0 : i ≠ 0) (h1 : i ≤ nr) : (wordsOf nr nw)[i]? = some roomW := by rw [wordsOf_get, if_neg h0, if_pos h1]
theorem wordAt_wire {nr nw i : Nat} (h1 : nr < i) (h2 : i ≤ nr + nw) : (wordsOf nr nw)[i]? = some wireW := by rw [wordsOf_get, if_neg (by omega), if_neg (by omega), if_pos h2]
/-- A line of the table put into a kernel. -/
theorem rl_wire {w1 wo w7 : World} {kb q nb no k7 d7 : Nat} {p : Pl} {M : KM} {k : Kst} {T : Tg} {y : Ln} {a : LM} {x : Wire} {ns : List Nat} (h : Stand w1 wo [rlT kb p M k, T]) (hb : Below wo.heap.size wo w7) (hy : k.lines[q]? = some y) (hyw : y.w = x) (ha : M.ls[q]? = some a)
    (hr : Row w7 3 1 (some ⟨nb, no, none⟩) k7 d7 (ints (ns.map Int.ofNat))) (hk : ns.length = k7) (h1 : 1 ≤ k7) (hnew : wo.heap.size ≤ nb) {A' : Option Addr} (hA : A' = if d7 = 1 then some ⟨nb, no, none⟩ else some ⟨nb, no + 1, none⟩) :
    ∃ M', (M'.P = M.P ∧ M'.lA = M.lA) ∧ Stand w1 ((w7.setCell ⟨a.b, 4, none⟩ (.slice A' (k7 - 1) (d7 - 1))).setCell ⟨a.b, 5, none⟩ (.int .i64 (gi ns 0))) [rlT kb p M' ⟨k.rooms, k.lines.set q (lnOf x ns), k.time⟩, T] := by
  have hka := (h.get (i := 0) rfl).here.1
  obtain ⟨icap, hlb, hlr⟩ := hka.lines q y a hy ha
  have hlt := blk_lt hlb
  have hlb7 := (hb.block _ hlt).trans hlb
  have hne : a.b ≠ nb := by omega
  have hin : ∀ j, InA A' j → j = nb := fun j hj => by
    rw [hA] at hj
    split at hj <;> (simp [InA] at hj; omega)
  have hx : ((w7.setCell ⟨a.b, 4, none⟩ (.slice A' (k7 - 1) (d7 - 1))).setCell ⟨a.b, 5, none⟩ (.int .i64 (gi ns 0))).heap[a.b]? = some (.cells #[.int .i64 y.w.fr, .int .i64 y.w.to, .int .i64 y.w.kind, .int .i64 y.w.deep, .slice A' (k7 - 1) (d7 - 1), .int .i64 (gi ns 0)] 165 (0, 0)) := (blk_set (blk_set hlb7 4 _) 5 _).trans rfl
  have hrow : Row w7 3 1 A' (k7 - 1) (d7 - 1) (ints (ns.tail.map Int.ofNat)) := by
    have h2 := hr.tail h1
    have e1 : (if d7 = 1 then some ⟨nb, no, none⟩ else (some (⟨nb, no, none⟩ : Addr)).map (·.add (1 * 1))) = A' := by rw [hA]; rfl
    have e2 : (ints (ns.map Int.ofNat)).drop (1 * 1) = ints (ns.tail.map Int.ofNat) := by cases ns <;> rfl
    rw [e1, e2] at h2
    exact h2
  have hrow2 := (hrow.setCell (p := ⟨a.b, 4, none⟩) (fun hj => hne (hin _ hj)) (.slice A' (k7 - 1) (d7 - 1))).setCell (p := ⟨a.b, 5, none⟩) (fun hj => hne (hin _ hj)) (.int .i64 (gi ns 0))
  have hlen : (ns.tail.map Int.ofNat).length = k7 - 1 := by rw [List.length_map, List.length_tail, hk]
  have hl : LnAt 165 ((w7.setCell ⟨a.b, 4, none⟩ (.slice A' (k7 - 1) (d7 - 1))).setCell ⟨a.b, 5, none⟩ (.int .i64 (gi ns 0))) a.b A' (lnOf x ns) := by
    refine ⟨d7 - 1, ?_, ?_⟩
    · rw [hx, hyw]
      unfold lnOf
      simp only [hlen]
    · unfold lnOf
      simp only [hlen]
      exact hrow2
  have hkp : Keep (LF a.b a.A) wo ((w7.setCell ⟨a.b, 4, none⟩ (.slice A' (k7 - 1) (d7 - 1))).setCell ⟨a.b, 5, none⟩ (.int .i64 (gi ns 0))) := ((Keep.of_below (LF a.b a.A) hb).setCell (.inl (.inl rfl)) _).setCell (.inl (.inl rfl)) _
  have hn : ∀ j, InA A' j → InA a.A j ∨ wo.heap.size ≤ j := fun j hj => .inr (by rw [hin j hj]; exact hnew)
  exact ⟨M.setLine q ⟨a.b, A'⟩, ⟨rfl, rfl⟩, h.go 0 rfl (k_went (h.get (i := 0) rfl) (hka.putLine hy ha hl hkp hn) ⟨rfl, rfl⟩ (hkp.mono fun j _ hj => .inr (.inr ⟨a, List.mem_of_getElem? ha, hj⟩)) (KF_line ha hn))⟩
def badI (b : Bool) : Int := if b = true then 0 else 1

set_option maxHeartbeats 40000000 in
theorem rload_any (t : ByteArray) (ht : t.size ≤ 1073741824) (w : World) (m : PM) (hm : PlanAt w m) (he : planChk m.pl = 0) :
    Calls Tryz.prog 28 #[.agg #[.slice m.A m.ros.length m.c, .int .i64 m.ticks, .slice m.sA m.spans.length m.sc, .slice m.wA m.wires.length m.wc], .string t] w (RLoadGot w m t) := by
  have hp := planChk_ok he
  have hml : m.pl.code.length = m.ros.length := by simp [PM.pl]
  have hmw : m.pl.wires.length = m.wires.length := rfl
  have hn5 : m.ros.length ≤ 5 := by rw [← hml]; exact hp.most5
  have hn1 : 1 ≤ m.ros.length := by rw [← hml]; exact hp.some1
  have hw12 : m.wires.length ≤ 12 := by rw [← hmw]; exact wires_few hp
  obtain ⟨cb, co, hA0, hcb, hcd⟩ : ∃ cb co, m.A = some ⟨cb, co, none⟩ ∧ cb < w.heap.size ∧ ∀ (i : Nat) (c : List Op), m.pl.code[i]? = some c → ∃ a cc, w.cell? ⟨cb, co + i, none⟩ = some (.slice a c.length cc) := by
    obtain ⟨cb, co, hA, hb, hx⟩ := hm.rows.2 (by omega)
    refine ⟨cb, co, hA, hb, fun i c hc => ?_⟩
    have hc' : (m.ros.map Ro.ops)[i]? = some c := hc
    rw [List.getElem?_map] at hc'
    obtain ⟨r, hr, rfl⟩ := Option.map_eq_some_iff.1 hc'
    refine ⟨r.A, r.c, hx i _ ?_⟩
    rw [show m.ros.flatMap Ro.cells = m.ros.map (fun r => Value.slice r.A r.ops.length r.c) from List.map_eq_flatMap.symm, List.getElem?_map, hr]
    rfl
  have hmc := hm.rowsW.1
  have hmc2 := hm.rowsW.2.1
  unfold maxLen at hmc2
  have HPF := hid hm.lt
  obtain ⟨w1, hw1⟩ : ∃ w1, w1 = w.alloc (.cells #[.slice m.A m.ros.length m.c, .int .i64 m.ticks, .slice m.sA m.spans.length m.sc, .slice m.wA m.wires.length m.wc] 26) := ⟨_, rfl⟩
  have hb1 : Below w.heap.size w w1 := by rw [hw1]; exact (Below.refl _ _).alloc (Nat.le_refl _) _
  have hbox : w1.heap[w.heap.size]? = some (.cells #[.slice m.A m.ros.length m.c, .int .i64 m.ticks, .slice m.sA m.spans.length m.sc, .slice m.wA m.wires.length m.wc] 26 (0, 0)) := by rw [hw1]; exact heap_alloc_new w _
  have hnew := rnew_run w1 m (hm.new hb1) he
  unfold RNewd at hnew
  have HCD := hid (And.intro hcb hcd)
  obtain ⟨P, z, hP, hjoin, hno, hzno⟩ := cut_linesT 10 t.data.toList [] (by simp)
  rw [List.nil_append] at hjoin
  obtain ⟨mm, hmm⟩ : ∃ mm, mm = P.length := ⟨_, rfl⟩
  have hlen : (P ++ [z]).length = mm + 1 := by simp [hmm]
  have hcut : ∀ w', Calls Tryz.prog 40 #[.string t, .int .u8 10] w' fun e w'' => ∃ A cap, e = .returned (.slice A (mm + 1) cap) ∧ Row w'' 9 1 A (mm + 1) cap ((P ++ [z]).map txt) ∧ (∀ i, InA A i → w'.heap.size ≤ i) ∧ Below w'.heap.size w' w'' := fun w' => by
    have h := cut_any t 10 w' (by omega)
    rw [hP, hlen] at h
    exact h
  have hPl : ∀ s ∈ P, s.length ≤ t.size := fun s hs => by
    rw [Lib.size_eq]
    have := cutA_le 10 t.data.toList [] s (by rw [hP]; simp [hs])
    simpa using this
  have hmt : mm ≤ t.size := by
    have h1 := cutA_len 10 t.data.toList []
    rw [hP, hlen] at h1
    have h2 := List.count_le_length (a := (10 : UInt8)) (l := t.data.toList)
    rw [← Lib.size_eq] at h2
    omega
  have hmm30 : mm ≤ 1073741824 := by omega
  have HNEW := hid hnew
  have HCUT := hid hcut
  have HJOIN := hid hjoin
  have HNO := hid hno
  have HZN := hid hzno
  have HMM := hid hmm
  have HPLL := hid hPl
  have HT := hid ht
  have HP := hid hp
  obtain ⟨p, hpp⟩ : ∃ p, p = m.pl := ⟨_, rfl⟩
  rw [← hpp] at hml hmw HNEW HCD HP
  have HPP := hid hpp
  obtain ⟨nn, hnn⟩ : ∃ nn, m.ros.length = nn := ⟨_, rfl⟩
  obtain ⟨ns', hns⟩ : ∃ ns', m.spans.length = ns' := ⟨_, rfl⟩
  obtain ⟨nw, hnw⟩ : ∃ nw, m.wires.length = nw := ⟨_, rfl⟩
  rw [hnn] at hml hn5 hn1 hmc
  rw [hnw] at hmw hw12
  rw [hA0] at hw1 hbox HNEW ⊢
  rw [hnn, hns, hnw] at hw1 hbox HNEW ⊢
  have HPL := hid (And.intro hml hmw)
  have HB1 := hid hb1
  have HEND : Hid (∀ w', Below w1.heap.size w1 w' → Below w.heap.size w w') := hid fun w' hb => hb1.trans (hb.mono hb1.size)
  have HBX : Hid (∀ w', Below w1.heap.size w1 w' → w'.cell? ⟨w.heap.size, 0, none⟩ = some (.slice (some ⟨cb, co, none⟩) nn m.c) ∧ w'.cell? ⟨w.heap.size, 1, none⟩ = some (.int .i64 m.ticks) ∧ w'.cell? ⟨w.heap.size, 2, none⟩ = some (.slice m.sA ns' m.sc) ∧ w'.cell? ⟨w.heap.size, 3, none⟩ = some (.slice m.wA nw m.wc) ∧ w.heap.size < w'.heap.size) := hid fun w' hb => by
    have h := (hb.block _ (blk_lt hbox)).trans hbox
    have x0 := blk_cell h 0
    have x1 := blk_cell h 1
    have x2 := blk_cell h 2
    have x3 := blk_cell h 3
    simp at x0 x1 x2 x3
    exact ⟨x0, x1, x2, x3, blk_lt h⟩
  clear hm he hb1 hbox hnew hcut hjoin hno hzno hmm hPl hmt hP hlen hnn hns hnw hpp hml hmw hp ht hA0 hcb hcd
  go_enter Tryz.func28, Tryz.ntmps28
  go_upto_region 2 with (go_at_call 25; rw [← hw1]; refine HNEW.out.mono ?_; rintro e w2 ⟨kb, M0, rfl, hr, hMP⟩)
  have hst2 : Stand w1 w2 [rlT kb p M0 (kNew p)] := (Stand.start (Below.refl _ _)).addL hr (fun j hj => by rw [hMP] at hj; exact Nat.lt_of_lt_of_le (HPF.out j hj) HB1.out.size)
  have HLA : Hid (∀ j, InA M0.lA j → w1.heap.size ≤ j) := hid fun j hj => hr.fresh j (.inr hj)
  have HST2 := hid hst2
  have HMP := hid hMP
  clear hr hMP hst2 hw1 HNEW
  go_upto_region 3 with (go_at_call 40; refine (HCUT.out w2).mono ?_; rintro e w3 ⟨A, cap, rfl, hrow, hfr, hb3⟩)
  have hst3 : Stand w1 w3 [rlT kb p M0 (kNew p), slT A 1 (mm + 1) ((P ++ [z]).map txt)] := HST2.out.add hb3 (sl_lie hrow.sl) (fun _ hj => hj.elim) (fun j hj => .inl (hfr j hj.2))
  obtain ⟨b, off, rfl, hbl, _, hcz⟩ := sl_word hrow.sl (i := mm) (s := z) (by rw [HMM.out]; simp)
  have hcap : mm + 1 ≤ cap := hrow.le.1
  have hcap2 : cap ≤ 9223372036854775807 := by have := hrow.le.2; unfold maxLen at this; omega
  obtain ⟨Z, hZ⟩ : ∃ Z : ByteArray, Z = ⟨z.toArray⟩ := ⟨_, rfl⟩
  rw [← hZ] at hcz
  have HST3 := hid hst3
  obtain ⟨x0, x1, x2, x3, hlx⟩ := HBX.out w3 hst3.below
  have hm1 : ((mm + 1 : Nat) : Int) - 1 = (mm : Int) := by omega
  clear hrow hfr hb3 hst3 HCUT HST2
  by_cases hz : z = []
  rotate_left
  · have hzz : (Z.toList == ([] : List UInt8)) = false := by
      rw [hZ, Lib.toList_data]
      cases z with
      | nil => exact absurd rfl hz
      | cons x z => rfl
    have HE : Hid (textE m.pl t.data.toList = 2) := hid (text_bad (bad_end HJOIN.out HNO.out hz HZN.out))
    clear hZ hz
    go_wp2_with fail
    exact rload_bad rfl rfl rfl HE.out (by decide) (HEND.out _ HST3.out.below)
  subst hz
  have hzz : (Z.toList == ([] : List UInt8)) = true := by rw [hZ, Lib.toList_data]; rfl
  have HJ : Hid (t.data.toList = P.flatMap fun x => x ++ [10]) := by have := HJOIN.out; rw [List.append_nil] at this; exact hid this
  clear hZ HJOIN HZN
  by_cases hmany : mm = 1 + nn + nw
  rotate_left
  · have hne : ((mm : Int) + 1 != 2 + (nn : Int) + (nw : Int)) = true := by simp; omega
    have hne2 : (((mm + 1 : Nat) : Int) != 2 + (nn : Int) + (nw : Int)) = true := by simp; omega
    have HE : Hid (textE m.pl t.data.toList = 2) := hid (text_bad (bad_many HJ.out HNO.out (by rw [← HMM.out, ← HPP.out, HPL.out.1, HPL.out.2]; exact hmany)))
    go_wp2_with fail
    exact rload_bad rfl rfl rfl HE.out (by decide) (HEND.out _ HST3.out.below)
  have hne : ((mm : Int) + 1 != 2 + (nn : Int) + (nw : Int)) = false := by simp; omega
  have hne2 : (((mm + 1 : Nat) : Int) != 2 + (nn : Int) + (nw : Int)) = false := by simp; omega
  have HMANY := hid hmany
  have HWORD : Hid (∀ i, i < mm → ∃ S : ByteArray, P[i]? = some S.data.toList ∧ S.size ≤ 1073741824 ∧ ∀ w', Sl w' (some ⟨b, off, none⟩) 1 (mm + 1) ((P ++ [[]]).map txt) → w'.cell? ⟨b, off + i, none⟩ = some (.string S) ∧ b < w'.heap.size) := hid fun i hi => by
    have hiP : i < P.length := by rw [← HMM.out]; exact hi
    have hget := List.getElem?_eq_getElem hiP
    have hmem := List.getElem_mem hiP
    generalize P[i] = s at hget hmem
    refine ⟨⟨s.toArray⟩, by rw [hget], by rw [Lib.size_eq]; have := HPLL.out s hmem; have := HT.out; simp only []; omega, fun w' hs => ?_⟩
    obtain ⟨bb, oo, hAA, hbb, _, hks⟩ := sl_word hs (i := i) (s := s) (by rw [List.getElem?_append_left hiP]; exact hget)
    cases hAA
    exact ⟨hks, hbb⟩
  clear HPLL hmany
  go_wp2_with fail
  go_loopw [8, 9] (fun v8 v9 wr => ∃ (i : Nat) (L : List (List Nat)) (M : KM), i ≤ mm ∧ L.length = i ∧ v8 = .int .i64 (badI (fitsOk p L)) ∧ v9 = .int .i64 i ∧ RPre p P L ∧ (M.P = m ∧ M.lA = M0.lA) ∧ Stand w1 wr [rlT kb p M (preK p L), slT (some ⟨b, off, none⟩) 1 (mm + 1) ((P ++ [[]]).map txt)]) (fun _ v9 _ => mm - (intOf v9).toNat)
  case atStart => exact ⟨0, [], M0, by omega, rfl, by rw [fits_nil]; rfl, rfl, RPre.nil p P, ⟨HMP.out, rfl⟩, by rw [preK_nil]; exact HST3.out⟩
  case round =>
    as_aux_lemma =>
    obtain ⟨wo, rfl⟩ : ∃ wo : World, wo = wr := ⟨_, rfl⟩
    obtain ⟨i, L, M, him, hLi, rfl, rfl, hpre, hmp, hst⟩ := hrel
    have HPRE := hid hpre
    have HMQ := hid hmp
    have HST := hid hst
    have HLI := hid hLi
    obtain ⟨bd, hbd⟩ : ∃ bd, bd = badI (fitsOk p L) := ⟨_, rfl⟩
    rw [← hbd]
    have HBD := hid hbd
    clear x0 x1 x2 x3 hlx hcz hzz hne hne2 hbl
    obtain ⟨x0, x1, x2, x3, hlx⟩ := HBX.out wo hst.below
    clear hpre hmp hst hLi hbd HST3 HMP
    by_cases hlt : i < mm
    · obtain ⟨S, hS, hSz, hSc⟩ := HWORD.out i hlt
      obtain ⟨v0, vs, k0, hc0, hk0, hk30, hcu0, hnu0⟩ := rcut7 S hSz
      obtain ⟨hcw, hbw⟩ := hSc wo (HST.out.get (i := 1) rfl).here
      have HCU := hid hcu0
      have HNU := hid hnu0
      have HC0 := hid hc0
      have HS := hid hS
      have HBL : Hid ((numsOf 7 vs = none ∨ (∃ w0, (wordsOf p.code.length p.wires.length)[i]? = some w0 ∧ v0 ≠ w0) ∨ ∃ ns, numsOf 7 vs = some ns ∧ lineShape p.code.length i ns = false) → textE m.pl t.data.toList = 2) := hid fun h => by rw [← HPP.out]; exact text_bad (bad_line HJ.out HNO.out HS.out HC0.out h)
      have HNXT : Hid (∀ ns, numsOf 7 vs = some ns → (wordsOf p.code.length p.wires.length)[i]? = some v0 → lineShape p.code.length i ns = true → RPre p P (L ++ [ns])) := hid fun ns h1 h2 h3 => HPRE.out.next (by rw [HLI.out]; exact HS.out) HC0.out h1 (by rw [HLI.out]; exact h2) (by rw [HLI.out]; exact h3)
      clear hS hSc hcu0 hnu0 hc0
      go_upto_region 10 with (go_at_call 40; refine (HCU.out _).mono ?_; rintro e w6 ⟨A6, cap6, rfl, hrow6, hb6⟩; have HR6 := hid hrow6; have HB6 := hid hb6; clear hrow6 hb6 HCU hcw hbw)
      go_wp2_with fail
      refine (HNU.out _ _ _ HR6.out).mono ?_
      rintro e w7 ⟨hb7, hor⟩
      obtain ⟨b6, o6, rfl, hlb6, _, hcv⟩ := row_word HR6.out (i := 0) (s := v0) rfl
      have hc6 := HR6.out.le
      unfold maxLen at hc6
      rw [Nat.add_zero] at hcv
      obtain ⟨V, hV⟩ : ∃ V : ByteArray, V = ⟨v0.toArray⟩ := ⟨_, rfl⟩
      rw [← hV] at hcv
      have hcv7 : w7.cell? ⟨b6, o6, none⟩ = some (.string V) := (hb7.cell (p := ⟨b6, o6, none⟩) hlb6).trans hcv
      have hlv7 := cell_lt hcv7
      have hbw7 : Below wo.heap.size wo w7 := HB6.out.trans (hb7.mono HB6.out.size)
      have HST7 := hid (HST.out.new hbw7)
      have HVT : Hid (V.toList = v0) := hid (by rw [hV, Lib.toList_data])
      clear x0 x1 x2 x3 hlx
      obtain ⟨x0, x1, x2, x3, hlx⟩ := HBX.out w7 HST7.out.below
      have HBW7 := hid hbw7
      have HB6S := hid HB6.out.size
      clear hb7 hlb6 hcv hV HR6 HNU hbw7
      rcases hor with ⟨ns, B7, k7, d7, hns, hk7, rfl, hrb, hnew7⟩ | ⟨hnone, rfl⟩
      rotate_left
      · have HE := hid (HBL.out (.inl hnone))
        clear hnone
        go_wp2_with fail
        exact rload_bad rfl rfl rfl HE.out (by decide) (HEND.out _ HST7.out.below)
      have HNS := hid hns
      have HK7 := hid hk7
      have HRB := hid hrb
      have hd7 := hrb.le
      unfold maxLen at hd7
      have HNEW7 : Hid (∀ j, InA B7 j → wo.heap.size ≤ j) := hid fun j hj => Nat.le_trans HB6S.out (hnew7 j hj)
      clear hns hk7 hrb hnew7
      rcases (show i = 0 ∨ (i ≠ 0 ∧ i ≤ nn) ∨ nn < i by omega) with h0 | ⟨h0, hin⟩ | hin
      · subst h0
        have hL0 : L = [] := List.eq_nil_of_length_eq_zero HLI.out
        by_cases hv : v0 = timeW
        rotate_left
        · have HE := hid (HBL.out (.inr (.inl ⟨_, wordAt_time _ _, hv⟩)))
          have hvv : (V.toList == ([116, 105, 109, 101] : List UInt8)) = false := by rw [HVT.out]; exact beq_eq_false_iff_ne.2 hv
          clear hv
          go_wp2_with fail
          exact rload_bad rfl rfl rfl HE.out (by decide) (HEND.out _ HST7.out.below)
        have hvv : (V.toList == ([116, 105, 109, 101] : List UInt8)) = true := by rw [HVT.out, hv]; decide
        by_cases hk : k7 = 1
        rotate_left
        · have HE := hid (HBL.out (.inr (.inr ⟨ns, HNS.out, by unfold lineShape; rw [if_pos rfl]; exact decide_eq_false (by rw [HK7.out]; exact hk)⟩)))
          have hkk : ((k7 : Int) != 1) = true := by simp; omega
          clear hv
          go_wp2_with fail
          exact rload_bad rfl rfl rfl HE.out (by decide) (HEND.out _ HST7.out.below)
        subst hk
        obtain ⟨N, rfl⟩ := List.length_eq_one_iff.1 HK7.out
        have HPR := hid (HNXT.out [N] HNS.out (by rw [hv]; exact wordAt_time _ _) rfl)
        obtain ⟨nb, no, rfl, hnl, gx⟩ := nums_lie HRB.out.sl (by decide)
        have g0 := gx 0 N rfl
        rw [Nat.add_zero] at g0
        clear gx
        have hka := (HST7.out.get (i := 0) rfl).here.1
        obtain ⟨_, _, _, _, _, k6, kf, hkb⟩ := hka.cells
        have kf6 := kf 6
        have hst8 : Stand w1 (w7.setCell ⟨kb, 6, none⟩ (.int .i64 N)) [rlT kb p M (preK p (L ++ [[N]])), slT (some ⟨b, off, none⟩) 1 (mm + 1) ((P ++ [[]]).map txt)] := by
          have h1 := hka.atTime (N : Int)
          have h2 : preK p (L ++ [[N]]) = ⟨(preK p L).rooms, (preK p L).lines, (N : Int)⟩ := by rw [hL0, List.nil_append, preK_time, preK_nil]; rfl
          rw [h2]
          exact HST7.out.go 0 rfl (k_went (HST7.out.get (i := 0) rfl) h1 ⟨rfl, rfl⟩ ((Keep.refl _ _).setCell (.inl (.inl rfl)) _) fun _ hj => .inl hj)
        have HST8 := hid hst8
        have HBD8 : Hid (bd = badI (fitsOk p (L ++ [[N]]))) := hid (by rw [HBD.out, hL0, List.nil_append, fits_nil, fits_time])
        clear hv hka kf hst8 hL0
        go_wp2_with fail
        go_roundw
        case rel => exact ⟨1, L ++ [[N]], M, by omega, by rw [List.length_append, HLI.out]; rfl, by rw [HBD8.out], by go_num, HPR.out, HMQ.out, HST8.out⟩
        case measure => simp [intOf]; omega
      · obtain ⟨r, hri⟩ : ∃ r, i = r + 1 := ⟨i - 1, by omega⟩
        have hi0 : ((i : Int) == 0) = false := by simp; omega
        have hile : (i : Int) ≤ (nn : Int) := by omega
        have hir : (i : Int) - 1 = (r : Int) := by omega
        have hrn : r < nn := by omega
        have HRI := hid hri
        clear hri
        by_cases hv : v0 = roomW
        rotate_left
        · have HE := hid (HBL.out (.inr (.inl ⟨_, wordAt_room h0 (by rw [HPL.out.1]; exact hin), hv⟩)))
          have hvv : (V.toList == ([114, 111, 111, 109] : List UInt8)) = false := by rw [HVT.out]; exact beq_eq_false_iff_ne.2 hv
          clear hv
          go_wp2_with fail
          exact rload_bad rfl rfl rfl HE.out (by decide) (HEND.out _ HST7.out.below)
        have hvv : (V.toList == ([114, 111, 111, 109] : List UInt8)) = true := by rw [HVT.out, hv]; decide
        by_cases hk : k7 = 8
        rotate_left
        · have HE := hid (HBL.out (.inr (.inr ⟨ns, HNS.out, by unfold lineShape; rw [if_neg h0, if_pos (by rw [HPL.out.1]; exact hin)]; exact decide_eq_false (fun h => hk (HK7.out.symm.trans h.1))⟩)))
          have hkk : ((k7 : Int) != 8) = true := by simp; omega
          clear hv
          go_wp2_with fail
          exact rload_bad rfl rfl rfl HE.out (by decide) (HEND.out _ HST7.out.below)
        subst hk
        obtain ⟨n0, n1, n2, n3, n4, n5, n6, n7, hnn⟩ := eight_of HK7.out
        obtain ⟨nb, no, rfl, hnl, gx⟩ := nums_lie HRB.out.sl (by decide)
        have g0 := gx 0 n0 (by rw [hnn]; rfl)
        rw [Nat.add_zero] at g0
        have g7 := gx 7 n7 (by rw [hnn]; rfl)
        by_cases h7 : n7 ≤ 1
        rotate_left
        · have HE := hid (HBL.out (.inr (.inr ⟨ns, HNS.out, by unfold lineShape; rw [if_neg h0, if_pos (by rw [HPL.out.1]; exact hin), hnn]; exact decide_eq_false (fun h => h7 h.2)⟩)))
          have h7' : (1 : Int) < (n7 : Int) := by omega
          clear hv gx hnn
          go_wp2_with fail
          exact rload_bad rfl rfl rfl HE.out (by decide) (HEND.out _ HST7.out.below)
        have h7' : (n7 : Int) ≤ 1 := by omega
        have HPR := hid (HNXT.out ns HNS.out (by rw [hv]; exact wordAt_room h0 (by rw [HPL.out.1]; exact hin)) (by unfold lineShape; rw [if_neg h0, if_pos (by rw [HPL.out.1]; exact hin), hnn]; exact decide_eq_true ⟨rfl, h7⟩))
        have HGX : Hid (∀ c, c < 6 → ∀ w', Below w7.heap.size w7 w' → w'.cell? ⟨nb, no + (1 + c), none⟩ = some (.int .i64 (gi ns (1 + c)))) := hid fun c hc w' hb => by
          refine (hb.cell (p := ⟨nb, no + (1 + c), none⟩) hnl).trans (gx (1 + c) _ ?_)
          rw [hnn]
          rcases six hc with rfl | rfl | rfl | rfl | rfl | rfl <;> rfl
        have h0g : gi ns 0 = (n0 : Int) := by rw [hnn]; rfl
        have h7g : decide (ns.getD 7 0 = 1) = ((n7 : Int) == 1) := by
          rw [hnn]
          show decide (n7 = 1) = _
          by_cases e : n7 = 1
          · subst e; rfl
          · rw [decide_eq_false e]; symm; simp; omega
        obtain ⟨fb, hfb⟩ : ∃ fb, fb = ((n7 : Int) == 1) := ⟨_, rfl⟩
        have H0G := hid h0g
        have H7G : Hid (decide (ns.getD 7 0 = 1) = fb) := hid (h7g.trans hfb.symm)
        clear h0g h7g gx hnn hv h7
        go_upto_region 20 with fail
        go_region
        rw [← hfb]
        obtain ⟨sb, hsb⟩ : ∃ sb, sb = w7.heap.size := ⟨_, rfl⟩
        obtain ⟨w8, hw8⟩ : ∃ w8, w8 = (w7.alloc (.cells #[.int .i64 n0, .int .i64 0, .int .i64 0, .int .i64 0, .int .i64 0, .int .i64 0, .int .i64 0, .bool fb] 106)).drew := ⟨_, rfl⟩
        have hx8 : w8.heap[sb]? = some (stObj (stC ns 0)) := by
          rw [hw8, hsb, stC_zero, H0G.out, H7G.out]
          exact heap_alloc_new w7 _
        have hb8 : Below w7.heap.size w7 w8 := by rw [hw8]; exact ((Below.refl _ _).alloc (Nat.le_refl _) _).drew
        rw [← hw8, ← hsb]
        have HSBW : Hid (w7.heap.size ≤ sb) := hid (by rw [hsb]; exact Nat.le_refl _)
        have HX8 := hid hx8
        have HB8 := hid hb8
        clear hw8 hsb hx8 hb8 hfb H0G H7G g0 g7 hvv hcv7 hlv7 x0 x1 x2 x3 hlx h7'
        go_wp2_with fail
        go_loopw [14] (fun v14 wq => ∃ c : Nat, c ≤ 6 ∧ v14 = .int .i64 c ∧ wq.heap[sb]? = some (stObj (stC ns c)) ∧ Keep (fun j => j = sb) w8 wq) (fun v14 _ => 6 - (intOf v14).toNat)
        case atStart => exact ⟨0, by omega, rfl, HX8.out, Keep.refl _ _⟩
        case round =>
          obtain ⟨wp, rfl⟩ : ∃ wp : World, wp = wr := ⟨_, rfl⟩
          obtain ⟨c, hc, rfl, hx, hkq⟩ := hrel
          have HX := hid hx
          have HKP := hid hkq
          have hbq : Below w7.heap.size w7 wp := Keep.below (F := NoF) ((Keep.of_below NoF HB8.out).then hkq fun j hj hf => by have e : j = sb := hf; have := HSBW.out; omega) (Nat.le_refl _) (fun _ h => h.elim)
          have HBQ := hid hbq
          clear hkq hbq HX8
          by_cases hc6 : c < 6
          · have hcell := HGX.out c hc6 wp HBQ.out
            have hnbl : nb < wp.heap.size := Nat.lt_of_lt_of_le hnl HBQ.out.size
            have hold := box_cell (s := stC ns c) hx hc6
            have hfz := blk_free hx (1 + c)
            have hlt := blk_lt hx
            obtain ⟨g, hg⟩ : ∃ g, g = gi ns (1 + c) := ⟨_, rfl⟩
            rw [← hg] at hcell
            have HG := hid hg
            clear hg hx
            go_wp2_with fail
            go_roundw
            case rel => exact ⟨c + 1, by omega, by go_num, by rw [HG.out]; exact stC_next hc6 HX.out, HKP.out.setCell (.inl rfl) _⟩
            case measure => simp [intOf]; omega
          · obtain rfl : c = 6 := by omega
            clear hx hc6
            obtain ⟨sx, hsx⟩ : ∃ sx, sx = stOf ns := ⟨_, rfl⟩
            have hxb : wp.heap[sb]? = some (stObj sx) := by rw [hsx]; exact HX.out
            obtain ⟨code, hcode⟩ : ∃ code, p.code[r]? = some code := ⟨_, List.getElem?_eq_getElem (by rw [HPL.out.1]; omega)⟩
            obtain ⟨ca, cc, hcc⟩ := HCD.out.2 r code hcode
            have hbw : Below w.heap.size w wp := HEND.out _ (HST7.out.below.trans (HBQ.out.mono HST7.out.below.size))
            have hccp : wp.cell? ⟨cb, co + r, none⟩ = some (.slice ca code.length cc) := (hbw.cell (p := ⟨cb, co + r, none⟩) HCD.out.1).trans hcc
            obtain ⟨x0, x1, x2, x3, hlx⟩ := HBX.out wp (HST7.out.below.trans (HBQ.out.mono HST7.out.below.size))
            obtain ⟨cl, hcl⟩ : ∃ cl, cl = code.length := ⟨_, rfl⟩
            rw [← hcl] at hccp
            have hft : fitsOk p (L ++ [ns]) = (fitsOk p L && roomFits code ns) := fits_room (by have := HLI.out; omega) (by rw [HLI.out, HRI.out, Nat.add_sub_cancel]; exact hcode) ns
            have hpk : preK p (L ++ [ns]) = ⟨(preK p L).rooms.set r (stOf ns), (preK p L).lines, (preK p L).time⟩ := by
              have h := preK_room (p := p) (L := L) (by have := HLI.out; omega) (by rw [HLI.out, HPL.out.1]; omega) ns
              rw [HLI.out, HRI.out, Nat.add_sub_cancel] at h
              exact h
            unfold roomFits at hft
            rw [← hsx, ← hcl] at hft
            rw [← hsx] at hpk
            have HRST : Hid (∀ w', Calls Tryz.prog 93 #[.agg #[.int .i64 sx.pc, .int .i64 sx.c0, .int .i64 sx.c1, .int .i64 sx.c2, .int .i64 sx.c3, .int .i64 sx.c4, .int .i64 sx.c5, .bool sx.failed], .int .i64 cl] w' (TellOk w' (stOk sx cl))) := hid fun w' => rstate_any sx cl w'
            obtain ⟨q, hq⟩ : ∃ q, q = stOk sx cl := ⟨_, rfl⟩
            rw [← hq] at HRST hft
            have HFT := hid hft
            have HPK := hid hpk
            have HXB := hid hxb
            have HCCP := hid (And.intro x0 hccp)
            have hcbl : cb < wp.heap.size := Nat.lt_of_lt_of_le HCD.out.1 hbw.size
            obtain ⟨s0, hs0⟩ : ∃ s0, (preK p L).rooms[r]? = some s0 := ⟨_, List.getElem?_eq_getElem (by rw [preK_rooms, HPL.out.1]; omega)⟩
            have HS0R := hid hs0
            have hrm : (r : Int) < (nn : Int) := by omega
            have h0r : (0 : Int) ≤ (r : Int) := by omega
            have hr5 : r ≤ 5 := by omega
            have hwr : IntKind.i64.wrap (r : Int) = (r : Int) := IntWalk.i64_in _ (by omega)
            have hwr2 : IntKind.i64.wrap ((i : Int) - 1) = (r : Int) := by rw [hir]; exact hwr
            have hml0 : m.c ≤ 9223372036854775807 := by omega
            clear hsx hcode hcc hbw hcl hft hpk hq hs0 HX
            obtain ⟨pc, c0, c1, c2, c3, c4, c5, f⟩ := sx
            unfold stObj at hxb
            simp only [] at hxb HRST
            have y0 := blk_cell hxb 0
            have y1 := blk_cell hxb 1
            have y2 := blk_cell hxb 2
            have y3 := blk_cell hxb 3
            have y4 := blk_cell hxb 4
            have y5 := blk_cell hxb 5
            have y6 := blk_cell hxb 6
            have y7 := blk_cell hxb 7
            have hyl := blk_lt hxb
            simp at y0 y1 y2 y3 y4 y5 y6 y7
            have HSK : Hid (∀ w' : World, Below wp.heap.size wp w' → w'.cell? ⟨sb, 0, none⟩ = some (.int .i64 pc) ∧ w'.cell? ⟨sb, 1, none⟩ = some (.int .i64 c0) ∧ w'.cell? ⟨sb, 2, none⟩ = some (.int .i64 c1) ∧ w'.cell? ⟨sb, 3, none⟩ = some (.int .i64 c2) ∧ w'.cell? ⟨sb, 4, none⟩ = some (.int .i64 c3) ∧ w'.cell? ⟨sb, 5, none⟩ = some (.int .i64 c4) ∧ w'.cell? ⟨sb, 6, none⟩ = some (.int .i64 c5) ∧ w'.cell? ⟨sb, 7, none⟩ = some (.bool f) ∧ w'.cell? ⟨w.heap.size, 0, none⟩ = some (.slice (some ⟨cb, co, none⟩) nn m.c) ∧ w'.cell? ⟨cb, co + r, none⟩ = some (.slice ca cl cc)) := hid fun w' hb =>
              ⟨(hb.cell (p := ⟨sb, 0, none⟩) hyl).trans y0, (hb.cell (p := ⟨sb, 1, none⟩) hyl).trans y1, (hb.cell (p := ⟨sb, 2, none⟩) hyl).trans y2, (hb.cell (p := ⟨sb, 3, none⟩) hyl).trans y3, (hb.cell (p := ⟨sb, 4, none⟩) hyl).trans y4, (hb.cell (p := ⟨sb, 5, none⟩) hyl).trans y5, (hb.cell (p := ⟨sb, 6, none⟩) hyl).trans y6, (hb.cell (p := ⟨sb, 7, none⟩) hyl).trans y7, (hb.cell (p := ⟨w.heap.size, 0, none⟩) hlx).trans HCCP.out.1, (hb.cell (p := ⟨cb, co + r, none⟩) hcbl).trans HCCP.out.2⟩
            have HSS := hid (HSK.out wp (Below.refl _ _))
            clear y0 y1 y2 y3 y4 y5 y6 y7 hxb hccp x0 x1 x2 x3
            go_upto_region 25 with fail
            refine wp_region_held_drew (S := (fun w' => w'.cell? ⟨sb, 0, none⟩ = some (.int .i64 pc) ∧ w'.cell? ⟨sb, 1, none⟩ = some (.int .i64 c0) ∧ w'.cell? ⟨sb, 2, none⟩ = some (.int .i64 c1) ∧ w'.cell? ⟨sb, 3, none⟩ = some (.int .i64 c2) ∧ w'.cell? ⟨sb, 4, none⟩ = some (.int .i64 c3) ∧ w'.cell? ⟨sb, 5, none⟩ = some (.int .i64 c4) ∧ w'.cell? ⟨sb, 6, none⟩ = some (.int .i64 c5) ∧ w'.cell? ⟨sb, 7, none⟩ = some (.bool f) ∧ w'.cell? ⟨w.heap.size, 0, none⟩ = some (.slice (some ⟨cb, co, none⟩) nn m.c) ∧ w'.cell? ⟨cb, co + r, none⟩ = some (.slice ca cl cc))) (by kernel_rfl) ?_ (fun hHeld => ?_)
            · exact HSS.out
            refine wpAnyH_take (i := 0) (v := ?vs0) rfl (by kernel_rfl) (by kernel_rfl) (by kernel_rfl) (fun _ _ _ h => h) (Or.inl ⟨by rfl, ?hs0⟩) (by assumption) ?rs0
            case hs0 => (intro w hSw; (try dsimp only at hSw); (try simp only [List.getElem_toArray, List.getElem_cons_zero]); go_simp; (try with_reducible rfl))
            (try simp only [Act.put, List.getElem_toArray, List.getElem_cons_zero, List.setIfInBounds_toArray, List.set_cons_zero, List.set_cons_succ])
            refine wpAnyH_take (i := 1) (v := ?vs1) rfl (by kernel_rfl) (by kernel_rfl) (by kernel_rfl) (fun _ _ _ h => h) (Or.inl ⟨by rfl, ?hs1⟩) (by assumption) ?rs1
            case hs1 => (intro w hSw; (try dsimp only at hSw); (try simp only [List.getElem_toArray, List.getElem_cons_zero, List.getElem_cons_succ]); go_simp; (try with_reducible rfl))
            (try simp only [Act.put, List.getElem_toArray, List.getElem_cons_zero, List.getElem_cons_succ, List.setIfInBounds_toArray, List.set_cons_zero, List.set_cons_succ])
            refine wpAnyH_take (i := 2) (v := ?vs2) rfl (by kernel_rfl) (by kernel_rfl) (by kernel_rfl) (fun _ _ _ h => h) (Or.inl ⟨by rfl, ?hs2⟩) (by assumption) ?rs2
            case hs2 => (intro w hSw; (try dsimp only at hSw); (try simp only [List.getElem_toArray, List.getElem_cons_zero, List.getElem_cons_succ]); go_simp; (try with_reducible rfl))
            (try simp only [Act.put, List.getElem_toArray, List.getElem_cons_zero, List.getElem_cons_succ, List.setIfInBounds_toArray, List.set_cons_zero, List.set_cons_succ])
            refine wpAnyH_take (i := 3) (v := ?vs3) rfl (by kernel_rfl) (by kernel_rfl) (by kernel_rfl) (fun _ _ _ h => h) (Or.inl ⟨by rfl, ?hs3⟩) (by assumption) ?rs3
            case hs3 => (intro w hSw; (try dsimp only at hSw); (try simp only [List.getElem_toArray, List.getElem_cons_zero, List.getElem_cons_succ]); go_simp; (try with_reducible rfl))
            (try simp only [Act.put, List.getElem_toArray, List.getElem_cons_zero, List.getElem_cons_succ, List.setIfInBounds_toArray, List.set_cons_zero, List.set_cons_succ])
            refine wpAnyH_take (i := 4) (v := ?vs4) rfl (by kernel_rfl) (by kernel_rfl) (by kernel_rfl) (fun _ _ _ h => h) (Or.inl ⟨by rfl, ?hs4⟩) (by assumption) ?rs4
            case hs4 => (intro w hSw; (try dsimp only at hSw); (try simp only [List.getElem_toArray, List.getElem_cons_zero, List.getElem_cons_succ]); go_simp; (try with_reducible rfl))
            (try simp only [Act.put, List.getElem_toArray, List.getElem_cons_zero, List.getElem_cons_succ, List.setIfInBounds_toArray, List.set_cons_zero, List.set_cons_succ])
            refine wpAnyH_take (i := 5) (v := ?vs5) rfl (by kernel_rfl) (by kernel_rfl) (by kernel_rfl) (fun _ _ _ h => h) (Or.inl ⟨by rfl, ?hs5⟩) (by assumption) ?rs5
            case hs5 => (intro w hSw; (try dsimp only at hSw); (try simp only [List.getElem_toArray, List.getElem_cons_zero, List.getElem_cons_succ]); go_simp; (try with_reducible rfl))
            (try simp only [Act.put, List.getElem_toArray, List.getElem_cons_zero, List.getElem_cons_succ, List.setIfInBounds_toArray, List.set_cons_zero, List.set_cons_succ])
            refine wpAnyH_take (i := 6) (v := ?vs6) rfl (by kernel_rfl) (by kernel_rfl) (by kernel_rfl) (fun _ _ _ h => h) (Or.inl ⟨by rfl, ?hs6⟩) (by assumption) ?rs6
            case hs6 => (intro w hSw; (try dsimp only at hSw); (try simp only [List.getElem_toArray, List.getElem_cons_zero, List.getElem_cons_succ]); go_simp; (try with_reducible rfl))
            (try simp only [Act.put, List.getElem_toArray, List.getElem_cons_zero, List.getElem_cons_succ, List.setIfInBounds_toArray, List.set_cons_zero, List.set_cons_succ])
            refine wpAnyH_take (i := 7) (v := ?vs7) rfl (by kernel_rfl) (by kernel_rfl) (by kernel_rfl) (fun _ _ _ h => h) (Or.inl ⟨by rfl, ?hs7⟩) (by assumption) ?rs7
            case hs7 => (intro w hSw; (try dsimp only at hSw); (try simp only [List.getElem_toArray, List.getElem_cons_zero, List.getElem_cons_succ]); go_simp; (try with_reducible rfl))
            (try simp only [Act.put, List.getElem_toArray, List.getElem_cons_zero, List.getElem_cons_succ, List.setIfInBounds_toArray, List.set_cons_zero, List.set_cons_succ])
            refine wpAnyH_ready (rs := [8]) (by kernel_rfl) (by simp) ?_
            refine AllReadyH.cons rfl (fun K hK => ?_) AllReadyH.nil
            go_simp
            go_at_call 93
            refine (HRST.out _).mono ?_
            rintro e w9 ⟨rfl, hb9⟩
            have HB9 : Hid (Below wp.heap.size wp w9) := hid ((Below.refl wp.heap.size wp).drew.trans hb9)
            replace HSS := hid (HSK.out w9 HB9.out)
            clear hb9
            refine hK.out _ _ ?_ (fun hHeld => ?_)
            · exact HSS.out
            clear hK K
            (try simp only [Act.put, List.getElem_toArray, List.getElem_cons_zero, List.getElem_cons_succ, List.setIfInBounds_toArray, List.set_cons_zero, List.set_cons_succ])
            refine wpAnyH_ready (rs := [9]) (by kernel_rfl) (by simp) ?_
            refine AllReadyH.cons rfl (fun K hK => ?_) AllReadyH.nil
            go_simp
            refine hK.out _ _ ?_ (fun hHeld => ?_)
            · exact HSS.out
            clear hK K
            (try simp only [Act.put, List.getElem_toArray, List.getElem_cons_zero, List.getElem_cons_succ, List.setIfInBounds_toArray, List.set_cons_zero, List.set_cons_succ])
            refine wpAnyH_done (by kernel_rfl) ?_ _
            obtain ⟨y0, y1, y2, y3, y4, y5, y6, y7, _, _⟩ := HSS.out
            have hyl9 : sb < w9.heap.size := Nat.lt_of_lt_of_le hyl HB9.out.size
            have HST9 : Hid (Stand w1 w9 [rlT kb p M (preK p L), slT (some ⟨b, off, none⟩) 1 (mm + 1) ((P ++ [[]]).map txt)]) := hid ((HST7.out.new HBQ.out).new HB9.out)
            have hka := (HST9.out.get (i := 0) rfl).here.1
            obtain ⟨_, _, _, k4, _, _, _, hkb⟩ := hka.cells
            obtain ⟨rb, roff, hrA, ⟨s0, s1, s2, s3, s4, s5, s6, s7⟩, hrf, hrb, hrkb, hrl, hrc, hrmx⟩ := hka.room HS0R.out
            rw [hrA] at k4
            have hprl : (preK p L).rooms.length = nn := by rw [preK_rooms, HPL.out.1]
            rw [hprl] at k4 hrl hrc
            unfold maxLen at hrmx
            have f0 := hrf (roff + r * 8)
            have f1 := hrf (roff + r * 8 + 1)
            have f2 := hrf (roff + r * 8 + 2)
            have f3 := hrf (roff + r * 8 + 3)
            have f4 := hrf (roff + r * 8 + 4)
            have f5 := hrf (roff + r * 8 + 5)
            have f6 := hrf (roff + r * 8 + 6)
            have f7 := hrf (roff + r * 8 + 7)
            have hsr : sb ≠ rb := fun e => by
              have h1 := (HST7.out.get (i := 0) rfl).here.1.lt rb (.inl (.inr (.inl (by rw [hrA]; rfl))))
              have := HSBW.out
              omega
            have hkad := hka.new (Below.refl w9.heap.size w9).drew
            have HSTD := hid (HST9.out.new (Below.refl w9.heap.size w9).drew)
            have HSTZ : Hid (Stand w1 (putAt w9.drew rb (roff + r * 8) ⟨pc, c0, c1, c2, c3, c4, c5, f⟩) [rlT kb p M (preK p (L ++ [ns])), slT (some ⟨b, off, none⟩) 1 (mm + 1) ((P ++ [[]]).map txt)]) := hid (by
              rw [HPK.out]
              exact HSTD.out.go 0 rfl (k_went (HSTD.out.get (i := 0) rfl) (hkad.putRoomAt hrA rfl HS0R.out _) ⟨rfl, rfl⟩ ((putAt_keep _ _ _ _).mono fun j _ e => by subst e; exact .inr (.inl (by rw [hrA]; rfl))) fun _ hj => .inl hj))
            have HTH : Hid (w9.there rb (roff + r * 8) 8) := hid fun j hj => by
              refine ⟨?_, hrf _⟩
              rcases (show j = 0 ∨ j = 1 ∨ j = 2 ∨ j = 3 ∨ j = 4 ∨ j = 5 ∨ j = 6 ∨ j = 7 by omega) with rfl | rfl | rfl | rfl | rfl | rfl | rfl | rfl
              · rw [Nat.add_zero, s0]; rfl
              · rw [s1]; rfl
              · rw [s2]; rfl
              · rw [s3]; rfl
              · rw [s4]; rfl
              · rw [s5]; rfl
              · rw [s6]; rfl
              · rw [s7]; rfl
            have HSQ : Hid (∀ w' : World, w'.heap[sb]? = w9.heap[sb]? → w'.heap[kb]? = w9.heap[kb]? → w'.cell? ⟨kb, 4, none⟩ = some (.slice (some ⟨rb, roff, none⟩) nn M.rc) ∧ w'.cell? ⟨sb, 0, none⟩ = some (.int .i64 pc) ∧ w'.cell? ⟨sb, 1, none⟩ = some (.int .i64 c0) ∧ w'.cell? ⟨sb, 2, none⟩ = some (.int .i64 c1) ∧ w'.cell? ⟨sb, 3, none⟩ = some (.int .i64 c2) ∧ w'.cell? ⟨sb, 4, none⟩ = some (.int .i64 c3) ∧ w'.cell? ⟨sb, 5, none⟩ = some (.int .i64 c4) ∧ w'.cell? ⟨sb, 6, none⟩ = some (.int .i64 c5) ∧ w'.cell? ⟨sb, 7, none⟩ = some (.bool f)) := hid fun w' e1 e2 =>
              ⟨(World.cell?_of_block e2).trans k4, (World.cell?_of_block e1).trans y0, (World.cell?_of_block e1).trans y1, (World.cell?_of_block e1).trans y2, (World.cell?_of_block e1).trans y3, (World.cell?_of_block e1).trans y4, (World.cell?_of_block e1).trans y5, (World.cell?_of_block e1).trans y6, (World.cell?_of_block e1).trans y7⟩
            have HFAR : Hid ((putAt w9.drew rb (roff + r * 8) ⟨pc, c0, c1, c2, c3, c4, c5, f⟩).heap[sb]? = w9.heap[sb]? ∧ (putAt w9.drew rb (roff + r * 8) ⟨pc, c0, c1, c2, c3, c4, c5, f⟩).heap[kb]? = w9.heap[kb]?) := hid ⟨putAt_far _ _ _ _ _ hsr, putAt_far _ _ _ _ _ (fun e => hrkb e.symm)⟩
            have HLN : Hid ((L ++ [ns]).length = i + 1) := hid (by rw [List.length_append, HLI.out]; rfl)
            have HMZ := hid HMQ.out
            clear hHeld hka hkad hrA hrf hprl s0 s1 s2 s3 s4 s5 s6 s7 f0 f1 f2 f3 f4 f5 f6 f7 HSK HXB HCCP hcbl hlx hyl HRST HST7 HKP HBQ HB9
            clear y0 y1 y2 y3 y4 y5 y6 y7 k4
            cases q
            · have HBE : Hid ((1 : Int) = badI (fitsOk p (L ++ [ns]))) := hid (by rw [HFT.out, Bool.and_false]; rfl)
              go_upto_region 28 with fail
              refine wp_region_held_drew (S := (fun w' => w'.cell? ⟨kb, 4, none⟩ = some (.slice (some ⟨rb, roff, none⟩) nn M.rc) ∧ w'.cell? ⟨sb, 0, none⟩ = some (.int .i64 pc) ∧ w'.cell? ⟨sb, 1, none⟩ = some (.int .i64 c0) ∧ w'.cell? ⟨sb, 2, none⟩ = some (.int .i64 c1) ∧ w'.cell? ⟨sb, 3, none⟩ = some (.int .i64 c2) ∧ w'.cell? ⟨sb, 4, none⟩ = some (.int .i64 c3) ∧ w'.cell? ⟨sb, 5, none⟩ = some (.int .i64 c4) ∧ w'.cell? ⟨sb, 6, none⟩ = some (.int .i64 c5) ∧ w'.cell? ⟨sb, 7, none⟩ = some (.bool f))) (by kernel_rfl) ?_ (fun hHeld => ?_)
              · exact HSQ.out w9 rfl rfl
              refine wpAnyH_take (i := 0) (v := ?va0) rfl (by kernel_rfl) (by kernel_rfl) (by kernel_rfl) (fun _ _ _ h => h) (Or.inl ⟨by rfl, ?ha0⟩) (by assumption) ?ra0
              case ha0 => (intro w hSw; (try dsimp only at hSw); (try simp only [List.getElem_toArray, List.getElem_cons_zero]); go_simp; (try with_reducible rfl))
              (try simp only [Act.put, List.getElem_toArray, List.getElem_cons_zero, List.setIfInBounds_toArray, List.set_cons_zero, List.set_cons_succ])
              refine wpAnyH_take (i := 1) (v := ?va1) rfl (by kernel_rfl) (by kernel_rfl) (by kernel_rfl) (fun _ _ _ h => h) (Or.inl ⟨by rfl, ?ha1⟩) (by assumption) ?ra1
              case ha1 => (intro w hSw; (try dsimp only at hSw); (try simp only [List.getElem_toArray, List.getElem_cons_zero, List.getElem_cons_succ]); go_simp; (try with_reducible rfl))
              (try simp only [Act.put, List.getElem_toArray, List.getElem_cons_zero, List.getElem_cons_succ, List.setIfInBounds_toArray, List.set_cons_zero, List.set_cons_succ])
              refine wpAnyH_take (i := 2) (v := ?va2) rfl (by kernel_rfl) (by kernel_rfl) (by kernel_rfl) (fun _ _ _ h => h) (Or.inl ⟨by rfl, ?ha2⟩) (by assumption) ?ra2
              case ha2 => (intro w hSw; (try dsimp only at hSw); (try simp only [List.getElem_toArray, List.getElem_cons_zero, List.getElem_cons_succ]); go_simp; (try with_reducible rfl))
              (try simp only [Act.put, List.getElem_toArray, List.getElem_cons_zero, List.getElem_cons_succ, List.setIfInBounds_toArray, List.set_cons_zero, List.set_cons_succ])
              refine wpAnyH_take (i := 3) (v := ?va3) rfl (by kernel_rfl) (by kernel_rfl) (by kernel_rfl) (fun _ _ _ h => h) (Or.inl ⟨by rfl, ?ha3⟩) (by assumption) ?ra3
              case ha3 => (intro w hSw; (try dsimp only at hSw); (try simp only [List.getElem_toArray, List.getElem_cons_zero, List.getElem_cons_succ]); go_simp; (try with_reducible rfl))
              (try simp only [Act.put, List.getElem_toArray, List.getElem_cons_zero, List.getElem_cons_succ, List.setIfInBounds_toArray, List.set_cons_zero, List.set_cons_succ])
              refine wpAnyH_take (i := 4) (v := ?va4) rfl (by kernel_rfl) (by kernel_rfl) (by kernel_rfl) (fun _ _ _ h => h) (Or.inl ⟨by rfl, ?ha4⟩) (by assumption) ?ra4
              case ha4 => (intro w hSw; (try dsimp only at hSw); (try simp only [List.getElem_toArray, List.getElem_cons_zero, List.getElem_cons_succ]); go_simp; (try with_reducible rfl))
              (try simp only [Act.put, List.getElem_toArray, List.getElem_cons_zero, List.getElem_cons_succ, List.setIfInBounds_toArray, List.set_cons_zero, List.set_cons_succ])
              refine wpAnyH_take (i := 5) (v := ?va5) rfl (by kernel_rfl) (by kernel_rfl) (by kernel_rfl) (fun _ _ _ h => h) (Or.inl ⟨by rfl, ?ha5⟩) (by assumption) ?ra5
              case ha5 => (intro w hSw; (try dsimp only at hSw); (try simp only [List.getElem_toArray, List.getElem_cons_zero, List.getElem_cons_succ]); go_simp; (try with_reducible rfl))
              (try simp only [Act.put, List.getElem_toArray, List.getElem_cons_zero, List.getElem_cons_succ, List.setIfInBounds_toArray, List.set_cons_zero, List.set_cons_succ])
              refine wpAnyH_take (i := 6) (v := ?va6) rfl (by kernel_rfl) (by kernel_rfl) (by kernel_rfl) (fun _ _ _ h => h) (Or.inl ⟨by rfl, ?ha6⟩) (by assumption) ?ra6
              case ha6 => (intro w hSw; (try dsimp only at hSw); (try simp only [List.getElem_toArray, List.getElem_cons_zero, List.getElem_cons_succ]); go_simp; (try with_reducible rfl))
              (try simp only [Act.put, List.getElem_toArray, List.getElem_cons_zero, List.getElem_cons_succ, List.setIfInBounds_toArray, List.set_cons_zero, List.set_cons_succ])
              refine wpAnyH_take (i := 7) (v := ?va7) rfl (by kernel_rfl) (by kernel_rfl) (by kernel_rfl) (fun _ _ _ h => h) (Or.inl ⟨by rfl, ?ha7⟩) (by assumption) ?ra7
              case ha7 => (intro w hSw; (try dsimp only at hSw); (try simp only [List.getElem_toArray, List.getElem_cons_zero, List.getElem_cons_succ]); go_simp; (try with_reducible rfl))
              (try simp only [Act.put, List.getElem_toArray, List.getElem_cons_zero, List.getElem_cons_succ, List.setIfInBounds_toArray, List.set_cons_zero, List.set_cons_succ])
              refine wpAnyH_ready (rs := [8]) (by kernel_rfl) (by simp) ?_
              refine AllReadyH.cons rfl (fun K hK => ?_) AllReadyH.nil
              rw [if_pos (by simp [Region.wanted])]
              refine wp_store_mid 106 (.tmp 135) (.tmp 134) rfl rb (roff + r * 8) #[.int .i64 pc, .int .i64 c0, .int .i64 c1, .int .i64 c2, .int .i64 c3, .int .i64 c4, .int .i64 c5, .bool f] rfl rfl HTH.out (by kernel_rfl) (by simp [Value.oneCell']) ?_
              refine hK.out _ _ ?_ (fun hHeld => ?_)
              · exact HSQ.out _ HFAR.out.1 HFAR.out.2
              clear hK K
              obtain ⟨wz, hwz⟩ : ∃ wz, wz = w9.drew.setCells rb (roff + r * 8) (#[.int .i64 pc, .int .i64 c0, .int .i64 c1, .int .i64 c2, .int .i64 c3, .int .i64 c4, .int .i64 c5, .bool f] : Array Value).toList := ⟨_, rfl⟩
              have HSTY : Hid (Stand w1 wz [rlT kb p M (preK p (L ++ [ns])), slT (some ⟨b, off, none⟩) 1 (mm + 1) ((P ++ [[]]).map txt)]) := hid (by rw [hwz]; exact HSTZ.out)
              rw [← hwz]
              clear hHeld hwz HSTZ HTH HSQ HFAR HST9 HSTD HSS
              (try simp only [Act.put, List.getElem_toArray, List.getElem_cons_zero, List.getElem_cons_succ])
              refine wpAnyH_done (by kernel_rfl) ?_ _
              go_wp2_with fail
              go_roundw
              case rel => exact ⟨i + 1, L ++ [ns], M, by omega, HLN.out, by rw [← HBE.out], by go_num, HPR.out, HMZ.out, HSTY.out⟩
              case measure => simp [intOf]; omega
            · have HBE : Hid (bd = badI (fitsOk p (L ++ [ns]))) := hid (by rw [HFT.out, Bool.and_true]; exact HBD.out)
              go_upto_region 28 with fail
              refine wp_region_held_drew (S := (fun w' => w'.cell? ⟨kb, 4, none⟩ = some (.slice (some ⟨rb, roff, none⟩) nn M.rc) ∧ w'.cell? ⟨sb, 0, none⟩ = some (.int .i64 pc) ∧ w'.cell? ⟨sb, 1, none⟩ = some (.int .i64 c0) ∧ w'.cell? ⟨sb, 2, none⟩ = some (.int .i64 c1) ∧ w'.cell? ⟨sb, 3, none⟩ = some (.int .i64 c2) ∧ w'.cell? ⟨sb, 4, none⟩ = some (.int .i64 c3) ∧ w'.cell? ⟨sb, 5, none⟩ = some (.int .i64 c4) ∧ w'.cell? ⟨sb, 6, none⟩ = some (.int .i64 c5) ∧ w'.cell? ⟨sb, 7, none⟩ = some (.bool f))) (by kernel_rfl) ?_ (fun hHeld => ?_)
              · exact HSQ.out w9 rfl rfl
              refine wpAnyH_take (i := 0) (v := ?vb0) rfl (by kernel_rfl) (by kernel_rfl) (by kernel_rfl) (fun _ _ _ h => h) (Or.inl ⟨by rfl, ?hb0⟩) (by assumption) ?rb0
              case hb0 => (intro w hSw; (try dsimp only at hSw); (try simp only [List.getElem_toArray, List.getElem_cons_zero]); go_simp; (try with_reducible rfl))
              (try simp only [Act.put, List.getElem_toArray, List.getElem_cons_zero, List.setIfInBounds_toArray, List.set_cons_zero, List.set_cons_succ])
              refine wpAnyH_take (i := 1) (v := ?vb1) rfl (by kernel_rfl) (by kernel_rfl) (by kernel_rfl) (fun _ _ _ h => h) (Or.inl ⟨by rfl, ?hb1⟩) (by assumption) ?rb1
              case hb1 => (intro w hSw; (try dsimp only at hSw); (try simp only [List.getElem_toArray, List.getElem_cons_zero, List.getElem_cons_succ]); go_simp; (try with_reducible rfl))
              (try simp only [Act.put, List.getElem_toArray, List.getElem_cons_zero, List.getElem_cons_succ, List.setIfInBounds_toArray, List.set_cons_zero, List.set_cons_succ])
              refine wpAnyH_take (i := 2) (v := ?vb2) rfl (by kernel_rfl) (by kernel_rfl) (by kernel_rfl) (fun _ _ _ h => h) (Or.inl ⟨by rfl, ?hb2⟩) (by assumption) ?rb2
              case hb2 => (intro w hSw; (try dsimp only at hSw); (try simp only [List.getElem_toArray, List.getElem_cons_zero, List.getElem_cons_succ]); go_simp; (try with_reducible rfl))
              (try simp only [Act.put, List.getElem_toArray, List.getElem_cons_zero, List.getElem_cons_succ, List.setIfInBounds_toArray, List.set_cons_zero, List.set_cons_succ])
              refine wpAnyH_take (i := 3) (v := ?vb3) rfl (by kernel_rfl) (by kernel_rfl) (by kernel_rfl) (fun _ _ _ h => h) (Or.inl ⟨by rfl, ?hb3⟩) (by assumption) ?rb3
              case hb3 => (intro w hSw; (try dsimp only at hSw); (try simp only [List.getElem_toArray, List.getElem_cons_zero, List.getElem_cons_succ]); go_simp; (try with_reducible rfl))
              (try simp only [Act.put, List.getElem_toArray, List.getElem_cons_zero, List.getElem_cons_succ, List.setIfInBounds_toArray, List.set_cons_zero, List.set_cons_succ])
              refine wpAnyH_take (i := 4) (v := ?vb4) rfl (by kernel_rfl) (by kernel_rfl) (by kernel_rfl) (fun _ _ _ h => h) (Or.inl ⟨by rfl, ?hb4⟩) (by assumption) ?rb4
              case hb4 => (intro w hSw; (try dsimp only at hSw); (try simp only [List.getElem_toArray, List.getElem_cons_zero, List.getElem_cons_succ]); go_simp; (try with_reducible rfl))
              (try simp only [Act.put, List.getElem_toArray, List.getElem_cons_zero, List.getElem_cons_succ, List.setIfInBounds_toArray, List.set_cons_zero, List.set_cons_succ])
              refine wpAnyH_take (i := 5) (v := ?vb5) rfl (by kernel_rfl) (by kernel_rfl) (by kernel_rfl) (fun _ _ _ h => h) (Or.inl ⟨by rfl, ?hb5⟩) (by assumption) ?rb5
              case hb5 => (intro w hSw; (try dsimp only at hSw); (try simp only [List.getElem_toArray, List.getElem_cons_zero, List.getElem_cons_succ]); go_simp; (try with_reducible rfl))
              (try simp only [Act.put, List.getElem_toArray, List.getElem_cons_zero, List.getElem_cons_succ, List.setIfInBounds_toArray, List.set_cons_zero, List.set_cons_succ])
              refine wpAnyH_take (i := 6) (v := ?vb6) rfl (by kernel_rfl) (by kernel_rfl) (by kernel_rfl) (fun _ _ _ h => h) (Or.inl ⟨by rfl, ?hb6⟩) (by assumption) ?rb6
              case hb6 => (intro w hSw; (try dsimp only at hSw); (try simp only [List.getElem_toArray, List.getElem_cons_zero, List.getElem_cons_succ]); go_simp; (try with_reducible rfl))
              (try simp only [Act.put, List.getElem_toArray, List.getElem_cons_zero, List.getElem_cons_succ, List.setIfInBounds_toArray, List.set_cons_zero, List.set_cons_succ])
              refine wpAnyH_take (i := 7) (v := ?vb7) rfl (by kernel_rfl) (by kernel_rfl) (by kernel_rfl) (fun _ _ _ h => h) (Or.inl ⟨by rfl, ?hb7⟩) (by assumption) ?rb7
              case hb7 => (intro w hSw; (try dsimp only at hSw); (try simp only [List.getElem_toArray, List.getElem_cons_zero, List.getElem_cons_succ]); go_simp; (try with_reducible rfl))
              (try simp only [Act.put, List.getElem_toArray, List.getElem_cons_zero, List.getElem_cons_succ, List.setIfInBounds_toArray, List.set_cons_zero, List.set_cons_succ])
              refine wpAnyH_ready (rs := [8]) (by kernel_rfl) (by simp) ?_
              refine AllReadyH.cons rfl (fun K hK => ?_) AllReadyH.nil
              rw [if_pos (by simp [Region.wanted])]
              refine wp_store_mid 106 (.tmp 135) (.tmp 134) rfl rb (roff + r * 8) #[.int .i64 pc, .int .i64 c0, .int .i64 c1, .int .i64 c2, .int .i64 c3, .int .i64 c4, .int .i64 c5, .bool f] rfl rfl HTH.out (by kernel_rfl) (by simp [Value.oneCell']) ?_
              refine hK.out _ _ ?_ (fun hHeld => ?_)
              · exact HSQ.out _ HFAR.out.1 HFAR.out.2
              clear hK K
              obtain ⟨wz, hwz⟩ : ∃ wz, wz = w9.drew.setCells rb (roff + r * 8) (#[.int .i64 pc, .int .i64 c0, .int .i64 c1, .int .i64 c2, .int .i64 c3, .int .i64 c4, .int .i64 c5, .bool f] : Array Value).toList := ⟨_, rfl⟩
              have HSTY : Hid (Stand w1 wz [rlT kb p M (preK p (L ++ [ns])), slT (some ⟨b, off, none⟩) 1 (mm + 1) ((P ++ [[]]).map txt)]) := hid (by rw [hwz]; exact HSTZ.out)
              rw [← hwz]
              clear hHeld hwz HSTZ HTH HSQ HFAR HST9 HSTD HSS
              (try simp only [Act.put, List.getElem_toArray, List.getElem_cons_zero, List.getElem_cons_succ])
              refine wpAnyH_done (by kernel_rfl) ?_ _
              go_wp2_with fail
              go_roundw
              case rel => exact ⟨i + 1, L ++ [ns], M, by omega, HLN.out, by rw [← HBE.out], by go_num, HPR.out, HMZ.out, HSTY.out⟩
              case measure => simp [intOf]; omega
      · obtain ⟨q, hqi⟩ : ∃ q, i = nn + 1 + q := ⟨i - nn - 1, by omega⟩
        have hqw : q < nw := by (have := HMANY.out; omega)
        have hi0 : ((i : Int) == 0) = false := by simp; omega
        have hgt : (nn : Int) < (i : Int) := by omega
        have hiq : (i : Int) - 1 - (nn : Int) = (q : Int) := by omega
        have h0i : i ≠ 0 := by omega
        have hniw : i ≤ nn + nw := by omega
        have HQI := hid hqi
        clear hqi
        by_cases hv : v0 = wireW
        rotate_left
        · have HE := hid (HBL.out (.inr (.inl ⟨_, wordAt_wire (by rw [HPL.out.1]; exact hin) (by rw [HPL.out.1, HPL.out.2]; exact hniw), hv⟩)))
          have hvv : (V.toList == ([119, 105, 114, 101] : List UInt8)) = false := by rw [HVT.out]; exact beq_eq_false_iff_ne.2 hv
          clear hv
          go_wp2_with fail
          exact rload_bad rfl rfl rfl HE.out (by decide) (HEND.out _ HST7.out.below)
        have hvv : (V.toList == ([119, 105, 114, 101] : List UInt8)) = true := by rw [HVT.out, hv]; decide
        have hlsh : lineShape p.code.length i ns = wireShape ns := by unfold lineShape; rw [if_neg h0i, if_neg (by rw [HPL.out.1]; omega)]
        by_cases hk : k7 = 0
        · subst hk
          have hnil : ns = [] := List.eq_nil_of_length_eq_zero HK7.out
          have HE := hid (HBL.out (.inr (.inr ⟨ns, HNS.out, by rw [hlsh, hnil]; rfl⟩)))
          clear hv hnil hlsh
          go_wp2_with fail
          exact rload_bad rfl rfl rfl HE.out (by decide) (HEND.out _ HST7.out.below)
        have hk1 : 1 ≤ k7 := by omega
        have hkk : ((k7 : Int) == 0) = false := by simp; omega
        have hkI : (1 : Int) ≤ (k7 : Int) := by omega
        obtain ⟨nb, no, rfl, hnl, gx⟩ := nums_lie HRB.out.sl (by omega)
        have hns0 : ns[0]? = some (ns.getD 0 0) := by rw [List.getD_eq_getElem?_getD, List.getElem?_eq_getElem (by rw [HK7.out]; omega)]; rfl
        have g0 : w7.cell? ⟨nb, no, none⟩ = some (.int .i64 (gi ns 0)) := by have h := gx 0 _ hns0; rw [Nat.add_zero] at h; exact h
        have HPR := hid (HNXT.out ns HNS.out (by rw [hv]; exact wordAt_wire (by rw [HPL.out.1]; exact hin) (by rw [HPL.out.1, HPL.out.2]; exact hniw)) (by rw [hlsh]; exact decide_eq_true (fun e => by have := HK7.out; rw [e] at this; simp at this; omega)))
        obtain ⟨x, hx⟩ : ∃ x, p.wires[q]? = some x := ⟨_, List.getElem?_eq_getElem (by rw [HPL.out.2]; exact hqw)⟩
        have hpl := preK_lines (p := p) HPRE.out.le
        have hnl2 : (preK p L).lines.length = nw := by rw [← HPL.out.2, ← hpl, List.length_map]
        obtain ⟨y, hy⟩ : ∃ y, (preK p L).lines[q]? = some y := ⟨_, List.getElem?_eq_getElem (by rw [hnl2]; exact hqw)⟩
        have hyw : y.w = x := by
          have h : ((preK p L).lines.map Ln.w)[q]? = some x := by rw [hpl]; exact hx
          rw [List.getElem?_map, hy] at h
          simpa using h
        have hLq : L.length - 1 - p.code.length = q := by rw [HLI.out, HPL.out.1, HQI.out]; omega
        have hft : fitsOk p (L ++ [ns]) = (fitsOk p L && wireFits x ns) := fits_wire (by rw [HLI.out, HPL.out.1]; exact hin) (by rw [hLq]; exact hx) ns
        have hpk : preK p (L ++ [ns]) = ⟨(preK p L).rooms, (preK p L).lines.set q (lnOf x ns), (preK p L).time⟩ := by
          have h := preK_wire (p := p) (L := L) (by rw [HLI.out, HPL.out.1]; exact hin) (x := x) (by rw [hLq]; exact hx) ns
          rw [hLq] at h
          exact h
        have hka := (HST7.out.get (i := 0) rfl).here.1
        obtain ⟨_, _, _, _, k5, _, _, hkb⟩ := hka.cells
        obtain ⟨a, pb, po, ha, hA, hcp, ⟨icap, hlb, hlr⟩, _, hpb⟩ := hka.line hy
        have hplc := hka.ptrs.le
        unfold maxLen at hplc
        rw [hnl2] at k5 hplc
        rw [hA] at k5
        have HFIN : Hid (∀ kq A', A' = (if d7 = 1 then some ⟨nb, no, none⟩ else some (⟨nb, no + 1, none⟩ : Addr)) → ∃ M', (M'.P = m ∧ M'.lA = M0.lA) ∧ Stand w1 (((w7.drewN kq).setCell ⟨a.b, 4, none⟩ (.slice A' (k7 - 1) (d7 - 1))).setCell ⟨a.b, 5, none⟩ (.int .i64 (gi ns 0))) [rlT kb p M' (preK p (L ++ [ns])), slT (some ⟨b, off, none⟩) 1 (mm + 1) ((P ++ [[]]).map txt)]) := hid fun kq A' hA' => by
          obtain ⟨M', h1, h2⟩ := rl_wire HST.out (below_drewN HBW7.out kq) hy hyw ha (HRB.out.new (below_drewN (Below.refl _ _) kq)) HK7.out hk1 (HNEW7.out nb rfl) hA'
          rw [hpk]
          exact ⟨M', ⟨h1.1.trans HMQ.out.1, h1.2.trans HMQ.out.2⟩, h2⟩
        have g2 := blk_cell hlb 2
        have g3 := blk_cell hlb 3
        have g4 := blk_cell hlb 4
        have g5 := blk_cell hlb 5
        have gf := fun o => blk_free hlb o
        have hlg := blk_lt hlb
        rw [hyw] at g2 g3
        simp at g2 g3 g4 g5
        have hne : nb ≠ a.b := fun e => by
          have h1 := (HST.out.get (i := 0) rfl).here.1.lt a.b (.inl (.inr (.inr ⟨a, List.mem_of_getElem? ha, .inl rfl⟩)))
          have := HNEW7.out nb rfl
          omega
        have HGX : Hid (∀ c, c + 1 < k7 → ∃ u : Nat, ns.tail[c]? = some u ∧ w7.cell? ⟨nb, no + (c + 1), none⟩ = some (.int .i64 (u : Int))) := hid fun c hc => by
          have h1 : ns[c + 1]? = some (ns[c + 1]'(by rw [HK7.out]; exact hc)) := List.getElem?_eq_getElem _
          exact ⟨_, by rw [List.getElem?_tail]; exact h1, gx (c + 1) _ h1⟩
        have HFT := hid hft
        have HTL : Hid (ns.tail.length = k7 - 1) := hid (by rw [List.length_tail, HK7.out])
        have HLN : Hid ((L ++ [ns]).length = i + 1) := hid (by rw [List.length_append, HLI.out]; rfl)
        generalize a.b = ab at hcp g2 g3 g4 g5 gf hlg hne HFIN
        obtain ⟨n0, hn0⟩ : ∃ n0, n0 = gi ns 0 := ⟨_, rfl⟩
        rw [← hn0] at g0 HFIN
        have HN0 := hid hn0
        clear gx hns0 hx hpl hnl2 hy hyw hLq hft hpk hka ha hA hlb hlr hv hlsh hn0 HST HPRE HNXT HBL
        go_upto_region 31 with fail
        go_quiet (fail)
        obtain ⟨wd, hwd⟩ : ∃ wd, wd = w7.drewN nq := ⟨_, rfl⟩
        have hg0 : wd.cell? ⟨nb, no, none⟩ = some (.int .i64 n0) := by rw [hwd]; exact g0
        have hg2 : wd.cell? ⟨ab, 2, none⟩ = some (.int .i64 x.kind) := by rw [hwd]; exact g2
        have hg3 : wd.cell? ⟨ab, 3, none⟩ = some (.int .i64 x.deep) := by rw [hwd]; exact g3
        obtain ⟨u4, hu4⟩ : ∃ u, w7.cell? ⟨ab, 4, none⟩ = some u := ⟨_, g4⟩
        obtain ⟨u5, hu5⟩ : ∃ u, w7.cell? ⟨ab, 5, none⟩ = some u := ⟨_, g5⟩
        have hg4 : wd.cell? ⟨ab, 4, none⟩ = some u4 := by rw [hwd]; exact hu4
        have hg5 : wd.cell? ⟨ab, 5, none⟩ = some u5 := by rw [hwd]; exact hu5
        have hgf : ∀ o, wd.frozen? ⟨ab, o, none⟩ = false := fun o => by rw [hwd]; exact gf o
        have hgl : ab < wd.heap.size := by rw [hwd]; exact hlg
        have hnl' : nb < wd.heap.size := by rw [hwd]; exact hnl
        replace HGX : Hid (∀ c, c + 1 < k7 → ∃ u : Nat, ns.tail[c]? = some u ∧ wd.cell? ⟨nb, no + (c + 1), none⟩ = some (.int .i64 (u : Int))) := hid (by rw [hwd]; exact HGX.out)
        have HF2 : Hid (∀ A', A' = (if d7 = 1 then some ⟨nb, no, none⟩ else some (⟨nb, no + 1, none⟩ : Addr)) → ∃ M', (M'.P = m ∧ M'.lA = M0.lA) ∧ Stand w1 ((wd.setCell ⟨ab, 4, none⟩ (.slice A' (k7 - 1) (d7 - 1))).setCell ⟨ab, 5, none⟩ (.int .i64 n0)) [rlT kb p M' (preK p (L ++ [ns])), slT (some ⟨b, off, none⟩) 1 (mm + 1) ((P ++ [[]]).map txt)]) := hid (by rw [hwd]; exact HFIN.out nq)
        rw [← hwd]
        clear hwd hu4 hu5 g0 g2 g3 g4 g5 gf hlg hnl HFIN HST7 hcp hpb k5 x0 x1 x2 x3 hlx hvv hcv7 hlv7 hplc hkb
        have f4 := hgf 4
        have f5 := hgf 5
        clear hgf
        obtain ⟨dp, hdp⟩ : ∃ dp, dp = x.deep := ⟨_, rfl⟩
        obtain ⟨kd, hkd⟩ : ∃ kd, kd = x.kind := ⟨_, rfl⟩
        rw [← hdp] at hg3
        rw [← hkd] at hg2
        have HDP := hid hdp
        have HKD := hid hkd
        clear hdp hkd
        rcases (show (dp < (k7 : Int) - 1 ∨ ((k7 : Int) - 1 ≤ dp ∧ kd = 1 ∧ n0 ≠ 0)) ∨ (((k7 : Int) - 1 ≤ dp ∧ kd ≠ 1) ∨ ((k7 : Int) - 1 ≤ dp ∧ kd = 1 ∧ n0 = 0)) by omega) with hC | hC
        · have HWF : Hid (wireFits x ns = false) := hid (by
            rcases hC with h | ⟨_, h1, h2⟩
            · exact wireFits_deep (by rw [HTL.out, ← HDP.out]; omega)
            · exact wireFits_lost (by rw [← HKD.out]; exact h1) (by rw [← HN0.out]; exact h2))
          rcases hC with hA | ⟨hA, hK, hZ⟩
          all_goals
            (try (have hZ2 : (n0 != 0) = true := (by simpa using hZ)))
            (try subst hK)
            (try clear hZ)
            go_upto_region 34 with fail
            go_wp2_with fail
            go_loop [8, 16] (fun v8 v16 => ∃ j : Nat, j + 1 ≤ k7 ∧ v16 = .int .i64 ((j : Int) + 1) ∧ v8 = .int .i64 (if (ns.tail.take j).any farN = true then 1 else 1)) (fun _ v16 => k7 - (intOf v16).toNat)
            case atStart => exact ⟨0, by omega, rfl, by simp⟩
            case round =>
              obtain ⟨j, hj, rfl, rfl⟩ := hrel
              obtain ⟨bj, hbj⟩ : ∃ bj, bj = (if (ns.tail.take j).any farN = true then (1 : Int) else 1) := ⟨_, rfl⟩
              rw [← hbj]
              have HBJ := hid hbj
              clear hbj
              by_cases hjk : j + 1 < k7
              · obtain ⟨u, hu1, hu2⟩ := HGX.out j hjk
                have HNX := hid (any_next hu1)
                have hjI : (j : Int) + 1 < (k7 : Int) := by omega
                clear hu1
                by_cases hu : 1000 ≤ u
                · have hu' : (999 : Int) < (u : Int) := by omega
                  have HFU : Hid (farN u = true) := hid (decide_eq_true hu)
                  go_wp2_with fail
                  go_round
                  case rel => exact ⟨j + 1, by omega, by go_num, by rw [HNX.out, HFU.out, Bool.or_true, if_pos rfl]⟩
                  case measure => simp [intOf]; omega
                · have hu' : (u : Int) ≤ 999 := by omega
                  have HFU : Hid (farN u = false) := hid (decide_eq_false hu)
                  go_wp2_with fail
                  go_round
                  case rel => exact ⟨j + 1, by omega, by go_num, by rw [HNX.out, HFU.out, Bool.or_false, HBJ.out]⟩
                  case measure => simp [intOf]; omega
              · have hjk2 : j + 1 = k7 := by omega
                have htk : ns.tail.take j = ns.tail := List.take_of_length_le (by rw [HTL.out]; omega)
                have HBE : Hid (bj = badI (fitsOk p (L ++ [ns]))) := hid (by
                  rw [HBJ.out, htk, HFT.out, HWF.out]
                  rw [Bool.and_false]; split <;> rfl)
                have hjI : (k7 : Int) ≤ (j : Int) + 1 := by omega
                clear htk hjk hjk2
                by_cases hd1 : d7 = 1
                · obtain rfl : k7 = 1 := by omega
                  subst hd1
                  obtain ⟨M', hM, hS⟩ := HF2.out _ (if_pos rfl).symm
                  have HM := hid hM
                  have HS2 := hid hS
                  clear hM hS
                  go_upto_region 39 with fail
                  go_region
                  all_goals
                    go_wp2_with fail
                    go_roundw
                    case rel => exact ⟨i + 1, L ++ [ns], M', by omega, HLN.out, by rw [← HBE.out], by go_num, HPR.out, HM.out, HS2.out.new (Below.refl _ _).drew⟩
                    case measure => simp [intOf]; omega
                · have hdf : (d7 = 1) = False := eq_false hd1
                  obtain ⟨M', hM, hS⟩ := HF2.out _ (if_neg hd1).symm
                  have HM := hid hM
                  have HS2 := hid hS
                  clear hM hS hd1
                  go_upto_region 39 with fail
                  go_region
                  all_goals
                    go_wp2_with fail
                    go_roundw
                    case rel => exact ⟨i + 1, L ++ [ns], M', by omega, HLN.out, by rw [← HBE.out], by go_num, HPR.out, HM.out, HS2.out.new (Below.refl _ _).drew⟩
                    case measure => simp [intOf]; omega
        · have HWF : Hid (wireFits x ns = !ns.tail.any farN) := hid (by
            rcases hC with ⟨h, h1⟩ | ⟨h, h1, h2⟩
            · exact wireFits_rest (by rw [HTL.out, ← HDP.out]; omega) (fun e => absurd (HKD.out.trans e) h1)
            · exact wireFits_rest (by rw [HTL.out, ← HDP.out]; omega) (fun _ => HN0.out.symm.trans h2))
          rcases hC with ⟨hA, hK⟩ | ⟨hA, hK, hZ⟩
          all_goals
            (try (have hK2 : (kd == 1) = false := (by simpa using hK)))
            (try (have hZ2 : (n0 != 0) = false := (by simpa using hZ)))
            (try subst hK)
            (try clear hK)
            (try clear hZ)
            go_upto_region 34 with fail
            go_wp2_with fail
            go_loop [8, 16] (fun v8 v16 => ∃ j : Nat, j + 1 ≤ k7 ∧ v16 = .int .i64 ((j : Int) + 1) ∧ v8 = .int .i64 (if (ns.tail.take j).any farN = true then 1 else bd)) (fun _ v16 => k7 - (intOf v16).toNat)
            case atStart => exact ⟨0, by omega, rfl, by simp⟩
            case round =>
              obtain ⟨j, hj, rfl, rfl⟩ := hrel
              obtain ⟨bj, hbj⟩ : ∃ bj, bj = (if (ns.tail.take j).any farN = true then (1 : Int) else bd) := ⟨_, rfl⟩
              rw [← hbj]
              have HBJ := hid hbj
              clear hbj
              by_cases hjk : j + 1 < k7
              · obtain ⟨u, hu1, hu2⟩ := HGX.out j hjk
                have HNX := hid (any_next hu1)
                have hjI : (j : Int) + 1 < (k7 : Int) := by omega
                clear hu1
                by_cases hu : 1000 ≤ u
                · have hu' : (999 : Int) < (u : Int) := by omega
                  have HFU : Hid (farN u = true) := hid (decide_eq_true hu)
                  go_wp2_with fail
                  go_round
                  case rel => exact ⟨j + 1, by omega, by go_num, by rw [HNX.out, HFU.out, Bool.or_true, if_pos rfl]⟩
                  case measure => simp [intOf]; omega
                · have hu' : (u : Int) ≤ 999 := by omega
                  have HFU : Hid (farN u = false) := hid (decide_eq_false hu)
                  go_wp2_with fail
                  go_round
                  case rel => exact ⟨j + 1, by omega, by go_num, by rw [HNX.out, HFU.out, Bool.or_false, HBJ.out]⟩
                  case measure => simp [intOf]; omega
              · have hjk2 : j + 1 = k7 := by omega
                have htk : ns.tail.take j = ns.tail := List.take_of_length_le (by rw [HTL.out]; omega)
                have HBE : Hid (bj = badI (fitsOk p (L ++ [ns]))) := hid (by
                  rw [HBJ.out, htk, HFT.out, HWF.out]
                  rw [HBD.out]
                  cases (ns.tail.any farN) <;> cases (fitsOk p L) <;> rfl)
                have hjI : (k7 : Int) ≤ (j : Int) + 1 := by omega
                clear htk hjk hjk2
                by_cases hd1 : d7 = 1
                · obtain rfl : k7 = 1 := by omega
                  subst hd1
                  obtain ⟨M', hM, hS⟩ := HF2.out _ (if_pos rfl).symm
                  have HM := hid hM
                  have HS2 := hid hS
                  clear hM hS
                  go_upto_region 39 with fail
                  go_region
                  all_goals
                    go_wp2_with fail
                    go_roundw
                    case rel => exact ⟨i + 1, L ++ [ns], M', by omega, HLN.out, by rw [← HBE.out], by go_num, HPR.out, HM.out, HS2.out.new (Below.refl _ _).drew⟩
                    case measure => simp [intOf]; omega
                · have hdf : (d7 = 1) = False := eq_false hd1
                  obtain ⟨M', hM, hS⟩ := HF2.out _ (if_neg hd1).symm
                  have HM := hid hM
                  have HS2 := hid hS
                  clear hM hS hd1
                  go_upto_region 39 with fail
                  go_region
                  all_goals
                    go_wp2_with fail
                    go_roundw
                    case rel => exact ⟨i + 1, L ++ [ns], M', by omega, HLN.out, by rw [← HBE.out], by go_num, HPR.out, HM.out, HS2.out.new (Below.refl _ _).drew⟩
                    case measure => simp [intOf]; omega
    · obtain rfl : i = mm := by omega
      have hLm : L.length = P.length := by rw [HLI.out, HMM.out]
      obtain ⟨hT, hE⟩ := HPRE.out.all HJ.out HNO.out (by rw [← HMM.out, HPL.out.1, HPL.out.2]; exact HMANY.out) hLm
      obtain ⟨e1, e2⟩ := text_tab hT
      have HTX : Hid (textE m.pl t.data.toList = bd) := hid (by rw [← HPP.out, e2, hE, HBD.out]; rfl)
      have HTK : Hid (loadK m.pl (tabOf m.pl t.data.toList) = preK p L) := hid (by rw [← HPP.out, e1, preK_all (by rw [HLI.out, HMANY.out, HPL.out.1, HPL.out.2])])
      clear hLm hT hE e1 e2 x0 x1 x2 x3 hlx
      by_cases hb0 : bd = 0
      · subst hb0
        have hka := (HST.out.get (i := 0) rfl).here
        have HR : Hid (RRun w wo kb m.pl M (loadK m.pl (tabOf m.pl t.data.toList))) := hid (by
          rw [HTK.out]
          refine ⟨hka.1, by rw [← HPP.out]; exact hka.2, fun j hj => ?_, HEND.out _ HST.out.below⟩
          rcases hj with hj | hj
          · exact Nat.le_trans HB1.out.size (HST.out.fresh _ (List.mem_cons_self ..) j hj)
          · rw [HMQ.out.2] at hj; exact Nat.le_trans HB1.out.size (HLA.out j hj))
        clear hka
        go_wp2_with fail
        exact rload_yes rfl rfl rfl HTX.out HR.out HMQ.out.1
      · have hb1 : (bd != 0) = true := by simpa using hb0
        go_wp2_with fail
        exact rload_bad rfl rfl rfl HTX.out hb0 (HEND.out _ HST.out.below)
end Go.Proofs.YtldllmhgofacbaaGreatDoor
