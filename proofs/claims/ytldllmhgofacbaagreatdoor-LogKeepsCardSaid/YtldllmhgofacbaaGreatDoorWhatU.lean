/- Several parts: each begins with what it says. -/
import Derived.Test.YtldllmhgofacbaaGreatDoorKernU
import Derived.Test.YtldllmhgofacbaaGreatDoorPlanU
import Derived.Test.YtldllmhgofacbaaGreatDoorKLawU
/- Package kernel: the contract of What, and what a step finds in a kernel's memory. -/
namespace Go.Proofs.YtldllmhgofacbaaGreatDoor
open Go.RowKit
set_option maxRecDepth 100000

def whatOf (what : Int) (failed done : Bool) : Int :=
  if failed = true then 5 else if what = 11 then 4 else if what = 8 then (if done = true then 1 else 3) else if what = 9 then (if done = true then 2 else 3) else 0

set_option maxHeartbeats 1000000 in
theorem what_any (o : Op) (s : St) (done : Bool) (w : World) :
    Calls Tryz.prog 176 #[.agg #[.int .i64 o.what, .int .i64 o.a, .int .i64 o.b], .agg #[.int .i64 s.pc, .int .i64 s.c0, .int .i64 s.c1, .int .i64 s.c2, .int .i64 s.c3, .int .i64 s.c4, .int .i64 s.c5, .bool s.failed], .bool done] w
      fun e w' => e = .returned (.int .i64 (whatOf o.what s.failed done)) ∧ Below w.heap.size w w' := by
  obtain ⟨what, a, b⟩ := o
  obtain ⟨pc, c0, c1, c2, c3, c4, c5, f⟩ := s
  simp only []
  have hb : ∀ (o1 o2 : Obj), Below w.heap.size w ((w.alloc o1).alloc o2) := fun o1 o2 => ((Below.refl _ _).alloc (Nat.le_refl _) _).alloc (by simp) _
  have HB := hid hb
  clear hb
  unfold whatOf
  cases f with
  | true =>
    go_enter Tryz.func176, Tryz.ntmps176
    go_wp2_with fail
    go_ret
    exact ⟨rfl, HB.out _ _⟩
  | false =>
    by_cases h11 : what = 11
    · subst h11
      go_enter Tryz.func176, Tryz.ntmps176
      go_wp2_with fail
      go_ret
      exact ⟨rfl, HB.out _ _⟩
    · have e11 : (what == 11) = false := by simpa using h11
      by_cases h8 : what = 8
      · subst h8
        cases done <;>
        · go_enter Tryz.func176, Tryz.ntmps176
          go_wp2_with fail
          go_ret
          exact ⟨rfl, HB.out _ _⟩
      · have e8 : (what == 8) = false := by simpa using h8
        by_cases h9 : what = 9
        · subst h9
          cases done <;>
          · go_enter Tryz.func176, Tryz.ntmps176
            go_wp2_with fail
            go_ret
            exact ⟨rfl, HB.out _ _⟩
        · have e9 : (what == 9) = false := by simpa using h9
          rw [if_neg h11, if_neg h8, if_neg h9, if_neg (by decide)]
          clear h11 h8 h9
          go_enter Tryz.func176, Tryz.ntmps176
          go_wp2_with fail
          go_ret
          exact ⟨rfl, HB.out _ _⟩

/-- A room's state among the rooms, cell by cell. -/
structure StIn (w : World) (b o : Nat) (s : St) : Prop where
  p : w.cell? ⟨b, o, none⟩ = some (.int .i64 s.pc)
  c0 : w.cell? ⟨b, o + 1, none⟩ = some (.int .i64 s.c0)
  c1 : w.cell? ⟨b, o + 2, none⟩ = some (.int .i64 s.c1)
  c2 : w.cell? ⟨b, o + 3, none⟩ = some (.int .i64 s.c2)
  c3 : w.cell? ⟨b, o + 4, none⟩ = some (.int .i64 s.c3)
  c4 : w.cell? ⟨b, o + 5, none⟩ = some (.int .i64 s.c4)
  c5 : w.cell? ⟨b, o + 6, none⟩ = some (.int .i64 s.c5)
  f : w.cell? ⟨b, o + 7, none⟩ = some (.bool s.failed)
section
variable {TK TL TP kb : Nat} {w w' : World} {M : KM} {k : Kst}
theorem KAt.room (h : KAt TK TL TP w kb M k) {r : Nat} {s : St} (hs : k.rooms[r]? = some s) :
    ∃ rb roff, M.rA = some ⟨rb, roff, none⟩ ∧ StIn w rb (roff + r * 8) s ∧ (∀ j, w.frozen? ⟨rb, j, none⟩ = false) ∧ rb < w.heap.size ∧ rb ≠ kb ∧ r < k.rooms.length ∧ k.rooms.length ≤ M.rc ∧ M.rc ≤ maxLen := by
  obtain ⟨b, off, cur, hA, hh, hsz, hi, hnc, hcm, hx⟩ := h.rooms.elem St.cells St.len (by decide) hs
  have hc : ∀ j u, s.cells[j]? = some u → w.cell? ⟨b, off + r * 8 + j, none⟩ = some u := fun j u hu => by
    rw [Nat.add_assoc]; exact (blk_cell hh _).trans (hx j u hu)
  obtain ⟨own, o0, o1, _⟩ := h.own
  refine ⟨b, off, hA, ⟨hc 0 _ rfl, hc 1 _ rfl, hc 2 _ rfl, hc 3 _ rfl, hc 4 _ rfl, hc 5 _ rfl, hc 6 _ rfl, hc 7 _ rfl⟩, fun j => blk_free hh j, blk_lt hh, ?_, hi, hnc, hcm⟩
  rintro rfl
  have := o1 b (by rw [hA]; rfl)
  rw [o0] at this; cases this
theorem KAt.cells (h : KAt TK TL TP w kb M k) : w.cell? ⟨kb, 0, none⟩ = some (.slice M.P.A M.P.ros.length M.P.c) ∧ w.cell? ⟨kb, 1, none⟩ = some (.int .i64 M.P.ticks) ∧ w.cell? ⟨kb, 2, none⟩ = some (.slice M.P.sA M.P.spans.length M.P.sc) ∧
    w.cell? ⟨kb, 4, none⟩ = some (.slice M.rA k.rooms.length M.rc) ∧ w.cell? ⟨kb, 5, none⟩ = some (.slice M.lA k.lines.length M.lc) ∧ w.cell? ⟨kb, 6, none⟩ = some (.int .i64 k.time) ∧ (∀ j, w.frozen? ⟨kb, j, none⟩ = false) ∧ kb < w.heap.size :=
  ⟨blk_cell h.blk 0, blk_cell h.blk 1, blk_cell h.blk 2, blk_cell h.blk 4, blk_cell h.blk 5, blk_cell h.blk 6, fun j => blk_free h.blk j, blk_lt h.blk⟩
/-- A line's pointer among them. -/
theorem KAt.line (h : KAt TK TL TP w kb M k) {i : Nat} {x : Ln} (hx : k.lines[i]? = some x) :
    ∃ a b off, M.ls[i]? = some a ∧ M.lA = some ⟨b, off, none⟩ ∧ w.cell? ⟨b, off + i, none⟩ = some (.pointer (some ⟨a.b, 0, none⟩)) ∧ LnAt TL w a.b a.A x ∧ i < k.lines.length ∧ b < w.heap.size := by
  have hi := (List.getElem?_eq_some_iff.1 hx).1
  have ha := List.getElem?_eq_getElem (show i < M.ls.length by rw [h.many]; exact hi)
  generalize M.ls[i]'(by rw [h.many]; exact hi) = a at ha
  obtain ⟨b, off, hA, hb, hg⟩ := h.ptrs.sl.2 (by omega)
  exact ⟨a, b, off, ha, hA, hg i _ (by rw [List.getElem?_map, ha]; rfl), h.lines i x a hx ha, hi, hb⟩
/-- A room's code, and the op at which it is. -/
theorem KAt.code (h : KAt TK TL TP w kb M k) {r : Nat} {ops : List Op} (hc : M.P.pl.code[r]? = some ops) {i : Nat} {o : Op} (ho : ops[i]? = some o) :
    ∃ cb coff ob ooff oc, M.P.A = some ⟨cb, coff, none⟩ ∧ w.cell? ⟨cb, coff + r, none⟩ = some (.slice (some ⟨ob, ooff, none⟩) ops.length oc) ∧ w.cell? ⟨ob, ooff + i * 3, none⟩ = some (.int .i64 o.what) ∧ w.cell? ⟨ob, ooff + i * 3 + 1, none⟩ = some (.int .i64 o.a) ∧
      w.cell? ⟨ob, ooff + i * 3 + 2, none⟩ = some (.int .i64 o.b) ∧ r < M.P.ros.length ∧ i < ops.length ∧ cb < w.heap.size ∧ ob < w.heap.size ∧ ops.length ≤ oc ∧ oc ≤ maxLen := by
  simp only [PM.pl, List.getElem?_map, Option.map_eq_some_iff] at hc
  obtain ⟨ro, hro, rfl⟩ := hc
  have hr := (List.getElem?_eq_some_iff.1 hro).1
  obtain ⟨cb, coff, hA, hcb, hcell⟩ := h.plan.rows.ro (Below.refl _ _) hro hr
  have hat := h.plan.codes ro (List.mem_of_getElem? hro)
  have hi := (List.getElem?_eq_some_iff.1 ho).1
  obtain ⟨ob, ooff, hoA, hob, g0, g1, g2⟩ := hat.1.op (Below.refl _ _) hi hi
  have hget := (List.getElem?_eq_getElem hi).symm.trans ho
  cases hget
  rw [hoA] at hcell
  exact ⟨cb, coff, ob, ooff, ro.c, hA, hcell, g0, g1, g2, hr, hi, hcb, hob, hat.2.1.1, hat.2.1.2.1⟩
end
/-- What a take leaves, where something is there. -/
def TookLn (w : World) (b : Nat) (A : Option Addr) (x : Ln) (e : Ending) (w' : World) : Prop :=
  ∃ v A', e = .returned (.tuple #[.int .i64 v, .nilIface]) ∧ LnAt 215 w' b A' ⟨x.w, lineTake x.w x.items, x.lost⟩ ∧ Keep (LF b A) w w' ∧ ∀ j, InA A' j → InA A j
theorem take_ln (b : Nat) (w : World) (A : Option Addr) (x : Ln) {B : Int} (hx : x.items ≠ []) (hok : LnOk x B) (hl : LnAt 215 w b A x) : Calls Tryz.prog 174 #[.pointer (some ⟨b, 0, none⟩)] w (TookLn w b A x) := by
  have hk := (wire_kind hok.wire).1
  refine (take_any b w A x.w x.items x.lost hok.six (by omega) hl).mono ?_
  rintro e w' ⟨A', h1, h2, h3, h4⟩
  rw [if_neg hx, errV_zero] at h1
  exact ⟨_, A', h1, h2, h3, h4⟩
def SentLn (w : World) (b : Nat) (A : Option Addr) (x : Ln) (n : Int) (e : Ending) (w' : World) : Prop :=
  ∃ A', e = .returned (.tuple #[.bool (lineSend x.w x.items x.lost n).1, .nilIface]) ∧ LnAt 215 w' b A' ⟨x.w, (lineSend x.w x.items x.lost n).2.1, (lineSend x.w x.items x.lost n).2.2⟩ ∧ Keep (LF b A) w w' ∧ ∀ j, InA A' j → InA A j ∨ w.heap.size ≤ j
theorem send_ln (b : Nat) (w : World) (A : Option Addr) (x : Ln) {B : Int} (n : Int) (h0 : 0 ≤ n) (h1 : n < 1000) (hok : LnOk x B) (hB : B < 4611686018427387904) (hl : LnAt 215 w b A x) :
    Calls Tryz.prog 175 #[.pointer (some ⟨b, 0, none⟩), .int .i64 n] w (SentLn w b A x n) := by
  have hk := (wire_kind hok.wire).1
  have hlb := hok.lostB
  exact send_any b n w A x.w x.items x.lost h0 h1 (by omega) hok.six hok.lost0 (by omega) hl
theorem peek_ln (b : Nat) (w : World) (A : Option Addr) (x : Ln) {B : Int} (hok : LnOk x B) (hl : LnAt 215 w b A x) :
    Calls Tryz.prog 172 #[.pointer (some ⟨b, 0, none⟩)] w fun e w' => e = .returned (.tuple #[.int .i64 (x.items.headD 0), .bool (!x.items.isEmpty)]) ∧ w = w' :=
  peek_any b w A x.w x.items x.lost hok.six hl
end Go.Proofs.YtldllmhgofacbaaGreatDoor

/- Plain: a step of a kernel's room in the order in which the program does it. -/
namespace Go.Proofs.YtldllmhgofacbaaGreatDoor

def sGot (k : Kst) (o : Op) : Int × Bool := if o.what = 9 then (match k.lines[o.b.toNat]? with | some x => (x.items.headD 0, !x.items.isEmpty) | none => (0, false)) else (0, false)
def sDo (n : Int) (k : Kst) (o : Op) (s : St) : St × Int := stepDo n o s (sGot k o).1 (sGot k o).2
def sTakes (k : Kst) (o : Op) (s : St) : Bool := !s.failed && (decide (o.what = 9) && (sGot k o).2)
def sLines2 (k : Kst) (o : Op) (s : St) : List Ln := if sTakes k o s = true then (match k.lines[o.b.toNat]? with | some x => k.lines.set o.b.toNat ⟨x.w, lineTake x.w x.items, x.lost⟩ | none => k.lines) else k.lines
def sSend (n : Int) (k : Kst) (o : Op) (s : St) : Bool × List Ln :=
  if 0 ≤ (sDo n k o s).2 then (match k.lines[o.b.toNat]? with
    | some x => ((lineSend x.w x.items x.lost (sDo n k o s).2).1, k.lines.set o.b.toNat ⟨x.w, (lineSend x.w x.items x.lost (sDo n k o s).2).2.1, (lineSend x.w x.items x.lost (sDo n k o s).2).2.2⟩)
    | none => ((sGot k o).2, sLines2 k o s)) else ((sGot k o).2, sLines2 k o s)

theorem set_same {α : Type} (l : List α) (r : Nat) (s : α) (h : l[r]? = some s) : l.set r s = l := by
  apply List.ext_getElem?
  intro j
  rw [List.getElem?_set]
  by_cases e : r = j
  · subst e
    rw [if_pos rfl, if_pos (List.getElem?_eq_some_iff.1 h).1, h]
  · rw [if_neg e]
theorem stepDo_snd (n : Int) (o : Op) (s : St) (got : Int) (is : Bool) : (stepDo n o s got is).2 = if s.failed = false ∧ o.what = 8 then s.get o.a.toNat else -1 := by
  unfold stepDo
  by_cases hf : s.failed = true
  · rw [if_pos hf, if_neg (show ¬ (s.failed = false ∧ o.what = 8) by rw [hf]; simp)]
  · rw [if_neg hf]
    have hf' : s.failed = false := by simpa using hf
    by_cases h8 : o.what = 8
    · rw [if_pos (show s.failed = false ∧ o.what = 8 from ⟨hf', h8⟩)]; simp [h8]
    · rw [if_neg (show ¬ (s.failed = false ∧ o.what = 8) by simp [h8])]
      repeat' split
      all_goals first | rfl | exact absurd ‹_› h8
theorem sDo_sent {n : Int} {k : Kst} {o : Op} {s : St} (h : 0 ≤ (sDo n k o s).2) : s.failed = false ∧ o.what = 8 := by
  unfold sDo at h
  rw [stepDo_snd] at h
  split at h
  · assumption
  · simp at h
theorem steps_eq {n : Int} {k : Kst} {r : Nat} {o : Op} {s : St} (hs : k.rooms[r]? = some s) (hl : o.what = 8 ∨ o.what = 9 → ∃ x, k.lines[o.b.toNat]? = some x) (hg : ∀ a, a < 6 → 0 ≤ s.get a) (ha : o.a.toNat < 6) :
    kDo n r o s k = (whatOf o.what s.failed (sSend n k o s).1, ⟨k.rooms.set r (sDo n k o s).1, (sSend n k o s).2, k.time⟩) := by
  unfold kDo whatOf
  by_cases hf : s.failed = true
  · have hd : sDo n k o s = (s, -1) := by unfold sDo stepDo; rw [if_pos hf]
    have ht : sTakes k o s = false := by unfold sTakes; rw [hf]; rfl
    have hss : sSend n k o s = ((sGot k o).2, k.lines) := by
      unfold sSend sLines2
      rw [hd, if_neg (show ¬ (0 : Int) ≤ -1 by decide), if_neg (by rw [ht]; decide)]
    rw [if_pos hf, if_pos hf, hss, hd, set_same _ _ _ hs]
  · rw [if_neg hf, if_neg hf]
    have hf' : s.failed = false := by simpa using hf
    by_cases h9 : o.what = 9
    · obtain ⟨x, hx⟩ := hl (.inr h9)
      rw [if_pos h9, hx, if_neg (by omega), if_neg (by omega), if_pos h9]
      cases hi : x.items with
      | nil =>
        have hgot : sGot k o = (0, false) := by unfold sGot; rw [if_pos h9, hx]; simp [hi]
        have hd : sDo n k o s = (s, -1) := by
          unfold sDo stepDo; rw [if_neg hf, hgot]; simp [h9]
        have ht : sTakes k o s = false := by unfold sTakes; rw [hgot]; simp
        have hss : sSend n k o s = (false, k.lines) := by
          unfold sSend sLines2
          rw [hd, if_neg (show ¬ (0 : Int) ≤ -1 by decide), if_neg (by rw [ht]; decide), hgot]
        rw [hss, hd, set_same _ _ _ hs]; simp [hi]
      | cons i rest =>
        have hgot : sGot k o = (i, true) := by unfold sGot; rw [if_pos h9, hx]; simp [hi]
        have ht : sTakes k o s = true := by unfold sTakes; rw [hgot, hf']; simp [h9]
        have hd2 : (sDo n k o s).2 = -1 := by
          unfold sDo stepDo; rw [if_neg hf, hgot]; simp [h9]
        have hss : sSend n k o s = (true, k.lines.set o.b.toNat ⟨x.w, lineTake x.w x.items, x.lost⟩) := by
          unfold sSend sLines2
          rw [hd2, if_neg (by decide), if_pos ht, hgot, hx]
        rw [hss]
        unfold sDo
        rw [hgot]
        simp [hi]
    · rw [if_neg h9]
      have hgot : sGot k o = (0, false) := by unfold sGot; rw [if_neg h9]
      have ht : sTakes k o s = false := by unfold sTakes; rw [hgot]; simp
      have hsd : sDo n k o s = stepDo n o s 0 false := by unfold sDo; rw [hgot]
      by_cases h8 : o.what = 8
      · obtain ⟨x, hx⟩ := hl (.inl h8)
        have hd2 : (sDo n k o s).2 = s.get o.a.toNat := by rw [hsd]; unfold stepDo; rw [if_neg hf]; simp [h8]
        have h0 := hg _ ha
        rw [if_pos h8, hx, if_neg (by omega), if_pos h8]
        unfold sSend
        rw [hd2, if_pos h0, hx, hsd]
      · rw [if_neg h8]
        have hd2 : (sDo n k o s).2 = -1 := by
          rw [hsd, stepDo_snd, if_neg (show ¬ (s.failed = false ∧ o.what = 8) by simp [h8])]
        have hss : sSend n k o s = (false, k.lines) := by
          unfold sSend sLines2
          rw [hd2, if_neg (by decide), if_neg (by rw [ht]; decide), hgot]
        rw [hss, hsd, if_neg h8, if_neg h9]
/-- The line of an op that sends or takes. -/
theorem op_line {p : Pl} {k : Kst} {B : Int} {r : Nat} {ops : List Op} {o : Op} (hp : PlOk p) (h : KOk p k B) (hc : p.code[r]? = some ops) (ho : o ∈ ops) (hw : o.what = 8 ∨ o.what = 9) :
    ∃ (b : Nat) (x : Ln), o.b = b ∧ k.lines[b]? = some x ∧ LnOk x B ∧ p.wires[b]? = some x.w ∧ (o.what = 8 → x.w.fr = r) ∧ (o.what = 9 → x.w.to = r) := by
  have hcode := codeChk_ok (hp.codes ops (List.mem_of_getElem? hc))
  have hb := opOk_bw (hcode.2.2 o ho) hw
  have hpo := List.all_eq_true.1 (hp.ports r ops hc) o ho
  have hwl : ∃ x, p.wires[o.b.toNat]? = some x ∧ (o.what = 8 → x.fr = r) ∧ (o.what = 9 → x.to = r) := by
    unfold portOk at hpo
    rcases hw with h8 | h9
    · rw [if_pos h8] at hpo
      cases hx : p.wires[o.b.toNat]? with
      | none => rw [hx] at hpo; cases hpo
      | some x => rw [hx] at hpo; exact ⟨x, rfl, fun _ => by simpa using hpo, fun h => by omega⟩
    · rw [if_neg (by omega), if_pos h9] at hpo
      cases hx : p.wires[o.b.toNat]? with
      | none => rw [hx] at hpo; cases hpo
      | some x => rw [hx] at hpo; exact ⟨x, rfl, fun h => by omega, fun _ => by simpa using hpo⟩
  obtain ⟨y, hy, h1, h2⟩ := hwl
  have hyw := hy
  rw [← h.lines, List.getElem?_map, Option.map_eq_some_iff] at hy
  obtain ⟨x, hx, rfl⟩ := hy
  exact ⟨o.b.toNat, x, by omega, hx, h.lns x (List.mem_of_getElem? hx), hyw, h1, h2⟩
end Go.Proofs.YtldllmhgofacbaaGreatDoor
