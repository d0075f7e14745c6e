/- Several parts: each begins with what it says. -/
import Derived.Test.YthdmgighblhmhaaGreatDoorKernU
import Derived.Test.YthdmgighblhmhaaGreatDoorPlanU
import Derived.Test.YthdmgighblhmhaaGreatDoorKLawU
import Derived.Deep.DeepCutAuto
import Derived.Deep.DrawnRows
import Derived.StillTailTactics
/- Package kernel: the contract of What, and what a step finds in a kernel's memory. -/
namespace Go.Proofs.YthdmgighblhmhaaGreatDoor
open Go.RowKit
set_option maxRecDepth 100000

def whatOf (what : Int) (failed done : Bool) : Int :=
  if failed = true then 5 else if what = 11 then 4 else if what = 8 then (if done = true then 1 else 3) else if what = 9 then (if done = true then 2 else 3) else 0

set_option maxHeartbeats 1000000 in
theorem what_any (o : Op) (s : St) (done : Bool) (w : World) :
    Calls Tryz.prog 114 #[.agg #[.int .i64 o.what, .int .i64 o.a, .int .i64 o.b], .agg #[.int .i64 s.pc, .int .i64 s.c0, .int .i64 s.c1, .int .i64 s.c2, .int .i64 s.c3, .int .i64 s.c4, .int .i64 s.c5, .bool s.failed], .bool done] w
      fun e w' => e = .returned (.int .i64 (whatOf o.what s.failed done)) ∧ Below w.heap.size w w' := by
  obtain ⟨what, a, b⟩ := o
  obtain ⟨pc, c0, c1, c2, c3, c4, c5, f⟩ := s
  simp only []
  have hb : ∀ (o1 o2 : Obj), Below w.heap.size w ((w.alloc o1).alloc o2) := fun o1 o2 => ((Below.refl _ _).alloc (Nat.le_refl _) _).alloc (by simp) _
  have HB := hid hb
  clear hb
  unfold whatOf
  cases f with
  | true =>
    go_enter Tryz.func114, Tryz.ntmps114
    go_wp2_with fail
    go_ret
    exact ⟨rfl, HB.out _ _⟩
  | false =>
    by_cases h11 : what = 11
    · subst h11
      go_enter Tryz.func114, Tryz.ntmps114
      go_wp2_with fail
      go_ret
      exact ⟨rfl, HB.out _ _⟩
    · have e11 : (what == 11) = false := by simpa using h11
      by_cases h8 : what = 8
      · subst h8
        cases done <;>
        · go_enter Tryz.func114, Tryz.ntmps114
          go_wp2_with fail
          go_ret
          exact ⟨rfl, HB.out _ _⟩
      · have e8 : (what == 8) = false := by simpa using h8
        by_cases h9 : what = 9
        · subst h9
          cases done <;>
          · go_enter Tryz.func114, Tryz.ntmps114
            go_wp2_with fail
            go_ret
            exact ⟨rfl, HB.out _ _⟩
        · have e9 : (what == 9) = false := by simpa using h9
          rw [if_neg h11, if_neg h8, if_neg h9, if_neg (by decide)]
          clear h11 h8 h9
          go_enter Tryz.func114, Tryz.ntmps114
          go_wp2_with fail
          go_ret
          exact ⟨rfl, HB.out _ _⟩

/-- A room's state among the rooms, cell by cell. -/
structure StIn (w : World) (b o : Nat) (s : St) : Prop where
  p : w.cell? ⟨b, o, none⟩ = some (.int .i64 s.pc)
  c0 : w.cell? ⟨b, o + 1, none⟩ = some (.int .i64 s.c0)
  c1 : w.cell? ⟨b, o + 2, none⟩ = some (.int .i64 s.c1)
  c2 : w.cell? ⟨b, o + 3, none⟩ = some (.int .i64 s.c2)
  c3 : w.cell? ⟨b, o + 4, none⟩ = some (.int .i64 s.c3)
  c4 : w.cell? ⟨b, o + 5, none⟩ = some (.int .i64 s.c4)
  c5 : w.cell? ⟨b, o + 6, none⟩ = some (.int .i64 s.c5)
  f : w.cell? ⟨b, o + 7, none⟩ = some (.bool s.failed)
section
variable {TK TL TP kb : Nat} {w w' : World} {M : KM} {k : Kst}
theorem KAt.room (h : KAt TK TL TP w kb M k) {r : Nat} {s : St} (hs : k.rooms[r]? = some s) :
    ∃ rb roff, M.rA = some ⟨rb, roff, none⟩ ∧ StIn w rb (roff + r * 8) s ∧ (∀ j, w.frozen? ⟨rb, j, none⟩ = false) ∧ rb < w.heap.size ∧ rb ≠ kb ∧ r < k.rooms.length ∧ k.rooms.length ≤ M.rc ∧ M.rc ≤ maxLen := by
  obtain ⟨b, off, cur, hA, hh, hsz, hi, hnc, hcm, hx⟩ := h.rooms.elem St.cells St.len (by decide) hs
  have hc : ∀ j u, s.cells[j]? = some u → w.cell? ⟨b, off + r * 8 + j, none⟩ = some u := fun j u hu => by
    rw [Nat.add_assoc]; exact (blk_cell hh _).trans (hx j u hu)
  obtain ⟨own, o0, o1, _⟩ := h.own
  refine ⟨b, off, hA, ⟨hc 0 _ rfl, hc 1 _ rfl, hc 2 _ rfl, hc 3 _ rfl, hc 4 _ rfl, hc 5 _ rfl, hc 6 _ rfl, hc 7 _ rfl⟩, fun j => blk_free hh j, blk_lt hh, ?_, hi, hnc, hcm⟩
  rintro rfl
  have := o1 b (by rw [hA]; rfl)
  rw [o0] at this; cases this
theorem KAt.cells (h : KAt TK TL TP w kb M k) : w.cell? ⟨kb, 0, none⟩ = some (.slice M.P.A M.P.ros.length M.P.c) ∧ w.cell? ⟨kb, 1, none⟩ = some (.int .i64 M.P.ticks) ∧ w.cell? ⟨kb, 2, none⟩ = some (.slice M.P.sA M.P.spans.length M.P.sc) ∧
    w.cell? ⟨kb, 4, none⟩ = some (.slice M.rA k.rooms.length M.rc) ∧ w.cell? ⟨kb, 5, none⟩ = some (.slice M.lA k.lines.length M.lc) ∧ w.cell? ⟨kb, 6, none⟩ = some (.int .i64 k.time) ∧ (∀ j, w.frozen? ⟨kb, j, none⟩ = false) ∧ kb < w.heap.size :=
  ⟨blk_cell h.blk 0, blk_cell h.blk 1, blk_cell h.blk 2, blk_cell h.blk 4, blk_cell h.blk 5, blk_cell h.blk 6, fun j => blk_free h.blk j, blk_lt h.blk⟩
/-- A line's pointer among them. -/
theorem KAt.line (h : KAt TK TL TP w kb M k) {i : Nat} {x : Ln} (hx : k.lines[i]? = some x) :
    ∃ a b off, M.ls[i]? = some a ∧ M.lA = some ⟨b, off, none⟩ ∧ w.cell? ⟨b, off + i, none⟩ = some (.pointer (some ⟨a.b, 0, none⟩)) ∧ LnAt TL w a.b a.A x ∧ i < k.lines.length ∧ b < w.heap.size := by
  have hi := (List.getElem?_eq_some_iff.1 hx).1
  have ha := List.getElem?_eq_getElem (show i < M.ls.length by rw [h.many]; exact hi)
  generalize M.ls[i]'(by rw [h.many]; exact hi) = a at ha
  obtain ⟨b, off, hA, hb, hg⟩ := h.ptrs.sl.2 (by omega)
  exact ⟨a, b, off, ha, hA, hg i _ (by rw [List.getElem?_map, ha]; rfl), h.lines i x a hx ha, hi, hb⟩
/-- A room's code, and the op at which it is. -/
theorem KAt.code (h : KAt TK TL TP w kb M k) {r : Nat} {ops : List Op} (hc : M.P.pl.code[r]? = some ops) {i : Nat} {o : Op} (ho : ops[i]? = some o) :
    ∃ cb coff ob ooff oc, M.P.A = some ⟨cb, coff, none⟩ ∧ w.cell? ⟨cb, coff + r, none⟩ = some (.slice (some ⟨ob, ooff, none⟩) ops.length oc) ∧ w.cell? ⟨ob, ooff + i * 3, none⟩ = some (.int .i64 o.what) ∧ w.cell? ⟨ob, ooff + i * 3 + 1, none⟩ = some (.int .i64 o.a) ∧
      w.cell? ⟨ob, ooff + i * 3 + 2, none⟩ = some (.int .i64 o.b) ∧ r < M.P.ros.length ∧ i < ops.length ∧ cb < w.heap.size ∧ ob < w.heap.size ∧ ops.length ≤ oc ∧ oc ≤ maxLen := by
  simp only [PM.pl, List.getElem?_map, Option.map_eq_some_iff] at hc
  obtain ⟨ro, hro, rfl⟩ := hc
  have hr := (List.getElem?_eq_some_iff.1 hro).1
  obtain ⟨cb, coff, hA, hcb, hcell⟩ := h.plan.rows.ro (Below.refl _ _) hro hr
  have hat := h.plan.codes ro (List.mem_of_getElem? hro)
  have hi := (List.getElem?_eq_some_iff.1 ho).1
  obtain ⟨ob, ooff, hoA, hob, g0, g1, g2⟩ := hat.1.op (Below.refl _ _) hi hi
  have hget := (List.getElem?_eq_getElem hi).symm.trans ho
  cases hget
  rw [hoA] at hcell
  exact ⟨cb, coff, ob, ooff, ro.c, hA, hcell, g0, g1, g2, hr, hi, hcb, hob, hat.2.1.1, hat.2.1.2.1⟩
end
/-- What a take leaves, where something is there. -/
def TookLn (w : World) (b : Nat) (A : Option Addr) (x : Ln) (e : Ending) (w' : World) : Prop :=
  ∃ v A', e = .returned (.tuple #[.int .i64 v, .nilIface]) ∧ LnAt 120 w' b A' ⟨x.w, lineTake x.w x.items, x.lost⟩ ∧ Keep (LF b A) w w' ∧ ∀ j, InA A' j → InA A j
theorem take_ln (b : Nat) (w : World) (A : Option Addr) (x : Ln) {B : Int} (hx : x.items ≠ []) (hok : LnOk x B) (hl : LnAt 120 w b A x) : Calls Tryz.prog 112 #[.pointer (some ⟨b, 0, none⟩)] w (TookLn w b A x) := by
  have hk := (wire_kind hok.wire).1
  refine (take_any b w A x.w x.items x.lost hok.six (by omega) hl).mono ?_
  rintro e w' ⟨A', h1, h2, h3, h4⟩
  rw [if_neg hx, errV_zero] at h1
  exact ⟨_, A', h1, h2, h3, h4⟩
def SentLn (w : World) (b : Nat) (A : Option Addr) (x : Ln) (n : Int) (e : Ending) (w' : World) : Prop :=
  ∃ A', e = .returned (.tuple #[.bool (lineSend x.w x.items x.lost n).1, .nilIface]) ∧ LnAt 120 w' b A' ⟨x.w, (lineSend x.w x.items x.lost n).2.1, (lineSend x.w x.items x.lost n).2.2⟩ ∧ Keep (LF b A) w w' ∧ ∀ j, InA A' j → InA A j ∨ w.heap.size ≤ j
theorem send_ln (b : Nat) (w : World) (A : Option Addr) (x : Ln) {B : Int} (n : Int) (h0 : 0 ≤ n) (h1 : n < 1000) (hok : LnOk x B) (hB : B < 4611686018427387904) (hl : LnAt 120 w b A x) :
    Calls Tryz.prog 113 #[.pointer (some ⟨b, 0, none⟩), .int .i64 n] w (SentLn w b A x n) := by
  have hk := (wire_kind hok.wire).1
  have hlb := hok.lostB
  exact send_any b n w A x.w x.items x.lost h0 h1 (by omega) hok.six hok.lost0 (by omega) hl
theorem peek_ln (b : Nat) (w : World) (A : Option Addr) (x : Ln) {B : Int} (hok : LnOk x B) (hl : LnAt 120 w b A x) :
    Calls Tryz.prog 110 #[.pointer (some ⟨b, 0, none⟩)] w fun e w' => e = .returned (.tuple #[.int .i64 (x.items.headD 0), .bool (!x.items.isEmpty)]) ∧ w = w' :=
  peek_any b w A x.w x.items x.lost hok.six hl
end Go.Proofs.YthdmgighblhmhaaGreatDoor

/- Plain: a step of a kernel's room in the order in which the program does it. -/
namespace Go.Proofs.YthdmgighblhmhaaGreatDoor

def sGot (k : Kst) (o : Op) : Int × Bool := if o.what = 9 then (match k.lines[o.b.toNat]? with | some x => (x.items.headD 0, !x.items.isEmpty) | none => (0, false)) else (0, false)
def sDo (n : Int) (k : Kst) (o : Op) (s : St) : St × Int := stepDo n o s (sGot k o).1 (sGot k o).2
def sTakes (k : Kst) (o : Op) (s : St) : Bool := !s.failed && (decide (o.what = 9) && (sGot k o).2)
def sLines2 (k : Kst) (o : Op) (s : St) : List Ln := if sTakes k o s = true then (match k.lines[o.b.toNat]? with | some x => k.lines.set o.b.toNat ⟨x.w, lineTake x.w x.items, x.lost⟩ | none => k.lines) else k.lines
def sSend (n : Int) (k : Kst) (o : Op) (s : St) : Bool × List Ln :=
  if 0 ≤ (sDo n k o s).2 then (match k.lines[o.b.toNat]? with
    | some x => ((lineSend x.w x.items x.lost (sDo n k o s).2).1, k.lines.set o.b.toNat ⟨x.w, (lineSend x.w x.items x.lost (sDo n k o s).2).2.1, (lineSend x.w x.items x.lost (sDo n k o s).2).2.2⟩)
    | none => ((sGot k o).2, sLines2 k o s)) else ((sGot k o).2, sLines2 k o s)

theorem set_same {α : Type} (l : List α) (r : Nat) (s : α) (h : l[r]? = some s) : l.set r s = l := by
  apply List.ext_getElem?
  intro j
  rw [List.getElem?_set]
  by_cases e : r = j
  · subst e
    rw [if_pos rfl, if_pos (List.getElem?_eq_some_iff.1 h).1, h]
  · rw [if_neg e]
theorem stepDo_snd (n : Int) (o : Op) (s : St) (got : Int) (is : Bool) : (stepDo n o s got is).2 = if s.failed = false ∧ o.what = 8 then s.get o.a.toNat else -1 := by
  unfold stepDo
  by_cases hf : s.failed = true
  · rw [if_pos hf, if_neg (show ¬ (s.failed = false ∧ o.what = 8) by rw [hf]; simp)]
  · rw [if_neg hf]
    have hf' : s.failed = false := by simpa using hf
    by_cases h8 : o.what = 8
    · rw [if_pos (show s.failed = false ∧ o.what = 8 from ⟨hf', h8⟩)]; simp [h8]
    · rw [if_neg (show ¬ (s.failed = false ∧ o.what = 8) by simp [h8])]
      repeat' split
      all_goals first | rfl | exact absurd ‹_› h8
theorem sDo_sent {n : Int} {k : Kst} {o : Op} {s : St} (h : 0 ≤ (sDo n k o s).2) : s.failed = false ∧ o.what = 8 := by
  unfold sDo at h
  rw [stepDo_snd] at h
  split at h
  · assumption
  · simp at h
theorem steps_eq {n : Int} {k : Kst} {r : Nat} {o : Op} {s : St} (hs : k.rooms[r]? = some s) (hl : o.what = 8 ∨ o.what = 9 → ∃ x, k.lines[o.b.toNat]? = some x) (hg : ∀ a, a < 6 → 0 ≤ s.get a) (ha : o.a.toNat < 6) :
    kDo n r o s k = (whatOf o.what s.failed (sSend n k o s).1, ⟨k.rooms.set r (sDo n k o s).1, (sSend n k o s).2, k.time⟩) := by
  unfold kDo whatOf
  by_cases hf : s.failed = true
  · have hd : sDo n k o s = (s, -1) := by unfold sDo stepDo; rw [if_pos hf]
    have ht : sTakes k o s = false := by unfold sTakes; rw [hf]; rfl
    have hss : sSend n k o s = ((sGot k o).2, k.lines) := by
      unfold sSend sLines2
      rw [hd, if_neg (show ¬ (0 : Int) ≤ -1 by decide), if_neg (by rw [ht]; decide)]
    rw [if_pos hf, if_pos hf, hss, hd, set_same _ _ _ hs]
  · rw [if_neg hf, if_neg hf]
    have hf' : s.failed = false := by simpa using hf
    by_cases h9 : o.what = 9
    · obtain ⟨x, hx⟩ := hl (.inr h9)
      rw [if_pos h9, hx, if_neg (by omega), if_neg (by omega), if_pos h9]
      cases hi : x.items with
      | nil =>
        have hgot : sGot k o = (0, false) := by unfold sGot; rw [if_pos h9, hx]; simp [hi]
        have hd : sDo n k o s = (s, -1) := by
          unfold sDo stepDo; rw [if_neg hf, hgot]; simp [h9]
        have ht : sTakes k o s = false := by unfold sTakes; rw [hgot]; simp
        have hss : sSend n k o s = (false, k.lines) := by
          unfold sSend sLines2
          rw [hd, if_neg (show ¬ (0 : Int) ≤ -1 by decide), if_neg (by rw [ht]; decide), hgot]
        rw [hss, hd, set_same _ _ _ hs]; simp [hi]
      | cons i rest =>
        have hgot : sGot k o = (i, true) := by unfold sGot; rw [if_pos h9, hx]; simp [hi]
        have ht : sTakes k o s = true := by unfold sTakes; rw [hgot, hf']; simp [h9]
        have hd2 : (sDo n k o s).2 = -1 := by
          unfold sDo stepDo; rw [if_neg hf, hgot]; simp [h9]
        have hss : sSend n k o s = (true, k.lines.set o.b.toNat ⟨x.w, lineTake x.w x.items, x.lost⟩) := by
          unfold sSend sLines2
          rw [hd2, if_neg (by decide), if_pos ht, hgot, hx]
        rw [hss]
        unfold sDo
        rw [hgot]
        simp [hi]
    · rw [if_neg h9]
      have hgot : sGot k o = (0, false) := by unfold sGot; rw [if_neg h9]
      have ht : sTakes k o s = false := by unfold sTakes; rw [hgot]; simp
      have hsd : sDo n k o s = stepDo n o s 0 false := by unfold sDo; rw [hgot]
      by_cases h8 : o.what = 8
      · obtain ⟨x, hx⟩ := hl (.inl h8)
        have hd2 : (sDo n k o s).2 = s.get o.a.toNat := by rw [hsd]; unfold stepDo; rw [if_neg hf]; simp [h8]
        have h0 := hg _ ha
        rw [if_pos h8, hx, if_neg (by omega), if_pos h8]
        unfold sSend
        rw [hd2, if_pos h0, hx, hsd]
      · rw [if_neg h8]
        have hd2 : (sDo n k o s).2 = -1 := by
          rw [hsd, stepDo_snd, if_neg (show ¬ (s.failed = false ∧ o.what = 8) by simp [h8])]
        have hss : sSend n k o s = (false, k.lines) := by
          unfold sSend sLines2
          rw [hd2, if_neg (by decide), if_neg (by rw [ht]; decide), hgot]
        rw [hss, hsd, if_neg h8, if_neg h9]
/-- The line of an op that sends or takes. -/
theorem op_line {p : Pl} {k : Kst} {B : Int} {r : Nat} {ops : List Op} {o : Op} (hp : PlOk p) (h : KOk p k B) (hc : p.code[r]? = some ops) (ho : o ∈ ops) (hw : o.what = 8 ∨ o.what = 9) :
    ∃ (b : Nat) (x : Ln), o.b = b ∧ k.lines[b]? = some x ∧ LnOk x B ∧ p.wires[b]? = some x.w ∧ (o.what = 8 → x.w.fr = r) ∧ (o.what = 9 → x.w.to = r) := by
  have hcode := codeChk_ok (hp.codes ops (List.mem_of_getElem? hc))
  have hb := opOk_bw (hcode.2.2 o ho) hw
  have hpo := List.all_eq_true.1 (hp.ports r ops hc) o ho
  have hwl : ∃ x, p.wires[o.b.toNat]? = some x ∧ (o.what = 8 → x.fr = r) ∧ (o.what = 9 → x.to = r) := by
    unfold portOk at hpo
    rcases hw with h8 | h9
    · rw [if_pos h8] at hpo
      cases hx : p.wires[o.b.toNat]? with
      | none => rw [hx] at hpo; cases hpo
      | some x => rw [hx] at hpo; exact ⟨x, rfl, fun _ => by simpa using hpo, fun h => by omega⟩
    · rw [if_neg (by omega), if_pos h9] at hpo
      cases hx : p.wires[o.b.toNat]? with
      | none => rw [hx] at hpo; cases hpo
      | some x => rw [hx] at hpo; exact ⟨x, rfl, fun h => by omega, fun _ => by simpa using hpo⟩
  obtain ⟨y, hy, h1, h2⟩ := hwl
  have hyw := hy
  rw [← h.lines, List.getElem?_map, Option.map_eq_some_iff] at hy
  obtain ⟨x, hx, rfl⟩ := hy
  exact ⟨o.b.toNat, x, by omega, hx, h.lns x (List.mem_of_getElem? hx), hyw, h1, h2⟩
end Go.Proofs.YthdmgighblhmhaaGreatDoor

/- Package kernel: the contract of do, for every room of a kernel that is right. -/
namespace Go.Proofs.YthdmgighblhmhaaGreatDoor
open Go.RowKit
set_option maxRecDepth 100000
attribute [local go_sem ↓] Go.wp_at_zero Go.wp_at_succ

/-- What a step leaves. -/
def KDid (TK TL TP : Nat) (w : World) (kb : Nat) (M : KM) (pc : Int) (q : Int × Kst) (e : Ending) (w' : World) : Prop :=
  ∃ M', e = .returned (.tuple #[.int .i64 pc, .int .i64 q.1]) ∧ KAt TK TL TP w' kb M' q.2 ∧ (M'.P = M.P ∧ M'.lA = M.lA) ∧ Keep (KF kb M) w w' ∧ ∀ j, KF kb M' j → KF kb M j ∨ w.heap.size ≤ j
/-- Midway: the kernel, and the blocks of what the room was and of its op. -/
structure DoMid (TK TL TP : Nat) (w wx : World) (kb : Nat) (M0 M : KM) (k : Kst) (s : St) (o : Op) : Prop where
  kat : KAt TK TL TP wx kb M k
  was : wx.heap[w.heap.size]? = some (.cells #[.int .i64 s.pc, .int .i64 s.c0, .int .i64 s.c1, .int .i64 s.c2, .int .i64 s.c3, .int .i64 s.c4, .int .i64 s.c5, .bool s.failed] 81 (0, 0))
  op : wx.heap[w.heap.size + 1]? = some (.cells #[.int .i64 o.what, .int .i64 o.a, .int .i64 o.b] 72 (0, 0))
  keep : Keep (KF kb M0) w wx
  plan : M.P = M0.P ∧ M.lA = M0.lA
  grow : ∀ j, KF kb M j → KF kb M0 j ∨ w.heap.size ≤ j
  apart : ∀ j, KF kb M j → j ≠ w.heap.size ∧ j ≠ w.heap.size + 1
section
variable {TK TL TP : Nat} {w wx w' : World} {kb : Nat} {M0 M : KM} {k : Kst} {s : St} {o : Op}
theorem DoMid.new (h : DoMid TK TL TP w wx kb M0 M k s o) (hb : Below wx.heap.size wx w') : DoMid TK TL TP w w' kb M0 M k s o :=
  ⟨h.kat.new hb, (hb.block _ (blk_lt h.was)).trans h.was, (hb.block _ (blk_lt h.op)).trans h.op, h.keep.then (Keep.of_below NoF hb) (fun _ _ h => h.elim), h.plan, h.grow, h.apart⟩
theorem DoMid.room (h : DoMid TK TL TP w wx kb M0 M k s o) {r rb roff : Nat} {s' : St} (hA : M.rA = some ⟨rb, roff, none⟩) (hs : k.rooms[r]? = some s') (t : St) : DoMid TK TL TP w (putAt wx rb (roff + r * 8) t) kb M0 M ⟨k.rooms.set r t, k.lines, k.time⟩ s o := by
  have hin : KF kb M rb := .inr (.inl (by rw [hA]; rfl))
  have hap := h.apart rb hin
  refine ⟨h.kat.putRoomAt hA rfl hs t, ?_, ?_, h.keep.then (putAt_keep _ _ _ _) ?_, h.plan, h.grow, h.apart⟩
  · rw [putAt_far _ _ _ _ _ (fun e => hap.1 e.symm)]; exact h.was
  · rw [putAt_far _ _ _ _ _ (fun e => hap.2 e.symm)]; exact h.op
  · rintro j hj rfl
    rcases h.grow j hin with h1 | h1
    · exact h1
    · omega
theorem DoMid.line (h : DoMid TK TL TP w wx kb M0 M k s o) {i : Nat} {x y : Ln} {a : LM} {A' : Option Addr} (hx : k.lines[i]? = some x) (ha : M.ls[i]? = some a) (hl : LnAt TL w' a.b A' y) (hk : Keep (LF a.b a.A) wx w') (hn : ∀ j, InA A' j → InA a.A j ∨ wx.heap.size ≤ j) :
    DoMid TK TL TP w w' kb M0 (M.setLine i ⟨a.b, A'⟩) ⟨k.rooms, k.lines.set i y, k.time⟩ s o := by
  have hin : ∀ j, LF a.b a.A j → KF kb M j := fun j hj => .inr (.inr ⟨a, List.mem_of_getElem? ha, hj⟩)
  have hlt := blk_lt h.op
  have hks := h.keep.size
  refine ⟨h.kat.putLine hx ha hl hk hn, ?_, ?_, h.keep.then hk ?_, h.plan, ?_, ?_⟩
  · rw [hk.block _ (blk_lt h.was) (fun hj => (h.apart _ (hin _ hj)).1 rfl)]; exact h.was
  · rw [hk.block _ hlt (fun hj => (h.apart _ (hin _ hj)).2 rfl)]; exact h.op
  · intro j hj hf
    rcases h.grow j (hin j hf) with h1 | h1
    · exact h1
    · omega
  · intro j hj
    rcases KF_line ha hn j hj with h1 | h1
    · exact h.grow j h1
    · right; omega
  · intro j hj
    rcases KF_line ha hn j hj with h1 | h1
    · exact h.apart j h1
    · omega
theorem DoMid.did (h : DoMid TK TL TP w wx kb M0 M k s o) (hb : Below wx.heap.size wx w') {pc v : Int} {q : Int × Kst} (hq : q = (v, k)) : KDid TK TL TP w kb M0 pc q (.returned (.tuple #[.int .i64 pc, .int .i64 v])) w' := by
  subst hq
  exact ⟨M, rfl, h.kat.new hb, h.plan, h.keep.then (Keep.of_below NoF hb) (fun _ _ h => h.elim), h.grow⟩
end

theorem below_put0 {B b : Nat} {a w : World} (h : Below B a w) (hb : B ≤ b) (v0 v1 v2 v3 v4 v5 v6 v7 : Value) :
    Below B a ((((((((w.setCell ⟨b, 0, none⟩ v0).setCell ⟨b, 1, none⟩ v1).setCell ⟨b, 2, none⟩ v2).setCell ⟨b, 3, none⟩ v3).setCell ⟨b, 4, none⟩ v4).setCell ⟨b, 5, none⟩ v5).setCell ⟨b, 6, none⟩ v6).setCell ⟨b, 7, none⟩ v7) :=
  (((((((h.setCell hb _).setCell hb _).setCell hb _).setCell hb _).setCell hb _).setCell hb _).setCell hb _).setCell hb _

set_option maxHeartbeats 4000000 in
theorem kdo_any (w : World) (kb : Nat) (M : KM) (k : Kst) (p : Pl) (B : Int) (r : Nat) (ops : List Op) (s : St) (o : Op) (hp : PlOk p) (hM : M.P.pl = p) (hk : KOk p k B) (hB : B < 4611686018427387904)
    (hka : KAt 88 120 90 w kb M k) (hc : p.code[r]? = some ops) (hs : k.rooms[r]? = some s) (ho : ops[s.pc.toNat]? = some o) :
    Calls Tryz.prog 97 #[.pointer (some ⟨kb, 0, none⟩), .int .i64 r] w (KDid 88 120 90 w kb M s.pc (kDo ops.length r o s k)) := by
  have hcode := codeChk_ok (hp.codes ops (List.mem_of_getElem? hc))
  have hst := hk.states r ops s hc hs
  have hop := hcode.2.2 o (List.mem_of_getElem? ho)
  have hpc := (stOk_iff.1 hst).1
  obtain ⟨pk, hpk⟩ : ∃ pk : Nat, s.pc = pk := ⟨s.pc.toNat, by omega⟩
  rw [hpk, Int.toNat_natCast] at ho
  obtain ⟨rb, roff, hrA, hsi, hrf, hrb, hrkb, hrl, hrc, hrm⟩ := hka.room hs
  obtain ⟨cb, coff, ob, ooff, oc, hcA, hcc, g0, g1, g2, hrn, hpn, hcb, hob, hoc, hom⟩ := hka.code (by rw [hM]; exact hc) ho
  obtain ⟨k0, k1, k2, k4, k5, k6, kf, hkb⟩ := hka.cells
  rw [hcA] at k0
  rw [hrA] at k4
  obtain ⟨n, hn⟩ : ∃ n, n = M.P.ros.length := ⟨_, rfl⟩
  obtain ⟨nl, hnl⟩ : ∃ nl, nl = k.lines.length := ⟨_, rfl⟩
  obtain ⟨no, hno⟩ : ∃ no, no = ops.length := ⟨_, rfl⟩
  obtain ⟨nr, hnr⟩ : ∃ nr, nr = k.rooms.length := ⟨_, rfl⟩
  rw [← hn] at k0 hrn
  rw [← hnr] at k4 hrl hrc
  rw [← hno] at hcc hpn hoc
  have hcm := hka.plan.rowsW
  rw [← hn] at hcm
  have hn5 : n ≤ 5 := by have := hp.most5; rw [← hM] at this; simp [PM.pl] at this; omega
  have hno20 : no ≤ 20 := by have := hcode.2.1; omega
  unfold maxLen at hrm hom
  obtain ⟨s1, s2, s3, s4, s5, s6, s7, s8⟩ := hsi
  rw [hpk] at s1
  have HKA := hid hka
  obtain ⟨pc, c0, c1, c2, c3, c4, c5, f⟩ := s
  obtain ⟨what, a, b⟩ := o
  simp only [] at hpk s1 s2 s3 s4 s5 s6 s7 s8 g0 g1 g2
  subst hpk
  have hr0 : (0 : Int) ≤ (r : Int) := by omega
  have hrn' : (r : Int) < (n : Int) := by omega
  have hp0 : (0 : Int) ≤ (pk : Int) := by omega
  have hpn' : (pk : Int) < (no : Int) := by omega
  have HFACT : Hid (∀ w', Below w.heap.size w w' → w'.cell? ⟨kb, 0, none⟩ = some (.slice (some ⟨cb, coff, none⟩) n M.P.c) ∧ w'.cell? ⟨cb, coff + r, none⟩ = some (.slice (some ⟨ob, ooff, none⟩) no oc) ∧
      w'.cell? ⟨ob, ooff + pk * 3, none⟩ = some (.int .i64 what) ∧ w'.cell? ⟨ob, ooff + pk * 3 + 1, none⟩ = some (.int .i64 a) ∧ w'.cell? ⟨ob, ooff + pk * 3 + 2, none⟩ = some (.int .i64 b)) := fun w' hb =>
    ⟨(hb.cell (p := ⟨kb, 0, none⟩) hkb).trans k0, (hb.cell (p := ⟨cb, coff + r, none⟩) hcb).trans hcc, (hb.cell (p := ⟨ob, ooff + pk * 3, none⟩) hob).trans g0, (hb.cell (p := ⟨ob, ooff + pk * 3 + 1, none⟩) hob).trans g1, (hb.cell (p := ⟨ob, ooff + pk * 3 + 2, none⟩) hob).trans g2⟩
  have HHK := hid hk
  have HHP := hid hp
  have HM := hid hM
  have HC := hid hc
  have HHS := hid hs
  have HO := hid ho
  have HST := hid hst
  have HOP := hid hop
  have HN := hid hn
  have HNL := hid hnl
  have HNO := hid hno
  have HNR := hid hnr
  have HRF := hid hrf
  have HKF := hid kf
  have HRA := hid hrA
  have HCODE := hid hcode
  clear k0 k1 k2 k5 k6 g0 g1 g2 hcc hka hc hs ho hcode hst hop hpc hn hnl hno hnr hk hp hM hcm hcA hrA hrf kf
  go_enter Tryz.func97, Tryz.ntmps97
  go_upto_region 2 with fail
  obtain ⟨wa, hwa⟩ : ∃ wa, wa = w.alloc (.cells #[.int .i64 pk, .int .i64 c0, .int .i64 c1, .int .i64 c2, .int .i64 c3, .int .i64 c4, .int .i64 c5, .bool f] 81) := ⟨_, rfl⟩
  have hab : Below w.heap.size w wa := by rw [hwa]; exact (Below.refl _ _).alloc (Nat.le_refl _) _
  have haw : wa.heap[w.heap.size]? = some (.cells #[.int .i64 pk, .int .i64 c0, .int .i64 c1, .int .i64 c2, .int .i64 c3, .int .i64 c4, .int .i64 c5, .bool f] 81 (0, 0)) := by rw [hwa]; exact heap_alloc_new w _
  have has : wa.heap.size = w.heap.size + 1 := by rw [hwa]; simp
  rw [← hwa]
  have HAB := hid hab
  have HAW := hid haw
  have HAS := hid has
  have q0 := blk_cell haw 0
  simp at q0
  clear hwa hab haw has s1 s2 s3 s4 s5 s6 s7 s8 k4
  obtain ⟨f0, f1, f2, f3, f4⟩ := HFACT.out _ HAB.out
  obtain ⟨S, hS⟩ : ∃ S, S = (⟨pk, c0, c1, c2, c3, c4, c5, f⟩ : St) := ⟨_, rfl⟩
  obtain ⟨O, hO⟩ : ∃ O, O = (⟨what, a, b⟩ : Op) := ⟨_, rfl⟩
  rw [← hS] at HHS HST
  rw [← hO] at HO HOP
  have HSE := hid hS
  have HOE := hid hO
  clear hS hO
  go_cut [7] (fun v7 wx => v7 = .pointer (some ⟨w.heap.size + 1, 0, none⟩) ∧ DoMid 88 120 90 w wx kb M M k S O)
  case first =>
    have HF2 : Hid (∀ w', Below wa.heap.size wa w' → (w'.cell? ⟨kb, 0, none⟩ = some (.slice (some ⟨cb, coff, none⟩) n M.P.c) ∧ w'.cell? ⟨cb, coff + r, none⟩ = some (.slice (some ⟨ob, ooff, none⟩) no oc) ∧
      w'.cell? ⟨ob, ooff + pk * 3, none⟩ = some (.int .i64 what) ∧ w'.cell? ⟨ob, ooff + pk * 3 + 1, none⟩ = some (.int .i64 a) ∧ w'.cell? ⟨ob, ooff + pk * 3 + 2, none⟩ = some (.int .i64 b)) ∧ w'.cell? ⟨w.heap.size, 0, none⟩ = some (.int .i64 pk)) :=
      fun w' hb => ⟨HFACT.out _ (HAB.out.trans (hb.mono HAB.out.size)), (hb.cell (p := ⟨w.heap.size, 0, none⟩) (blk_lt HAW.out)).trans q0⟩
    go_region_held3 (fun w' => (w'.cell? ⟨kb, 0, none⟩ = some (.slice (some ⟨cb, coff, none⟩) n M.P.c) ∧ w'.cell? ⟨cb, coff + r, none⟩ = some (.slice (some ⟨ob, ooff, none⟩) no oc) ∧
      w'.cell? ⟨ob, ooff + pk * 3, none⟩ = some (.int .i64 what) ∧ w'.cell? ⟨ob, ooff + pk * 3 + 1, none⟩ = some (.int .i64 a) ∧ w'.cell? ⟨ob, ooff + pk * 3 + 2, none⟩ = some (.int .i64 b)) ∧ w'.cell? ⟨w.heap.size, 0, none⟩ = some (.int .i64 pk))
      (first | exact HF2.out _ (Below.refl _ _).drew | exact HF2.out _ ((Below.refl _ _).alloc (Nat.le_refl _) _).drew)
      (fail)
    all_goals
      go_wp2_with fail
      go_meet
      refine ⟨by rw [HAS.out], DoMid.new (wx := wa.alloc (.cells #[.int .i64 what, .int .i64 a, .int .i64 b] 72)) ⟨HKA.out.new (HAB.out.alloc HAB.out.size _), ?_, ?_, (Keep.of_below _ HAB.out).alloc _, ⟨rfl, rfl⟩, fun j hj => .inl hj, fun j hj => ?_⟩ (Below.refl _ _).drew⟩
      · rw [blk_alloc (blk_lt HAW.out), HSE.out]; exact HAW.out
      · rw [hp_alloc, if_pos HAS.out.symm, HOE.out]
      · have := HKA.out.lt j (.inl hj); omega
  obtain ⟨rfl, hmid⟩ := hcut
  have HMD := hid hmid
  clear hmid f0 f1 f2 f3 f4 q0 HFACT HAB HAW HAS
  obtain ⟨G, hG⟩ : ∃ G, G = (sGot k O).1 := ⟨_, rfl⟩
  obtain ⟨I, hI⟩ : ∃ I, I = (sGot k O).2 := ⟨_, rfl⟩
  obtain ⟨t, ht⟩ : ∃ t, t = (sDo ops.length k O S).1 := ⟨_, rfl⟩
  obtain ⟨out, hout⟩ : ∃ out, out = (sDo ops.length k O S).2 := ⟨_, rfl⟩
  have HG := hid hG
  have HI := hid hI
  have HT := hid ht
  have HOUT := hid hout
  clear hG hI ht hout
  have HLINE : Hid (what = 8 ∨ what = 9 → ∃ (b' : Nat) (x : Ln), b = b' ∧ k.lines[b']? = some x ∧ LnOk x B ∧ p.wires[b']? = some x.w ∧ (what = 8 → x.w.fr = r) ∧ (what = 9 → x.w.to = r)) := fun hw => by
    have := op_line (o := O) HHP.out HHK.out HC.out (List.mem_of_getElem? HO.out) (by rw [HOE.out]; exact hw)
    rw [HOE.out] at this; exact this
  have HOC : Hid (∀ (wx : World) (M' : KM) (k' : Kst), DoMid 88 120 90 w wx kb M M' k' S O → wx.cell? ⟨w.heap.size + 1, 0, none⟩ = some (.int .i64 what) ∧ wx.cell? ⟨w.heap.size + 1, 1, none⟩ = some (.int .i64 a) ∧ wx.cell? ⟨w.heap.size + 1, 2, none⟩ = some (.int .i64 b) ∧ w.heap.size + 1 < wx.heap.size) := fun wx M' k' h => by
    have := h.op
    rw [HOE.out] at this
    exact ⟨blk_cell this 0, blk_cell this 1, blk_cell this 2, blk_lt this⟩
  obtain ⟨o0, o1, o2, olt⟩ := HOC.out _ _ _ HMD.out
  go_upto_if 38 with fail
  go_cut [8, 9] (fun v8 v9 wx => v8 = .int .i64 G ∧ v9 = .bool I ∧ DoMid 88 120 90 w wx kb M M k S O)
  case first =>
    by_cases h9 : what = 9
    · obtain ⟨b', x, hb', hx, hxok, _, _, _⟩ := HLINE.out (.inr h9)
      have hg1 : sGot k O = (x.items.headD 0, !x.items.isEmpty) := by
        rw [HOE.out]; unfold sGot; simp only [h9, if_true, hb', Int.toNat_natCast, hx]
      have hgg : G = x.items.headD 0 := by rw [HG.out, hg1]
      have hii : I = !x.items.isEmpty := by rw [HI.out, hg1]
      subst h9 hb'
      obtain ⟨la, lb, loff, hla, hlA, hlp, hln, hil, hlb⟩ := HMD.out.kat.line hx
      obtain ⟨_, _, _, _, k5, _, _, hkb'⟩ := HMD.out.kat.cells
      rw [hlA] at k5
      have h6 := hxok.six
      have hnl := HNL.out
      rw [← hnl] at k5 hil
      have hb0 : (0 : Int) ≤ (b' : Int) := by omega
      have hb1 : (b' : Int) < (nl : Int) := by omega
      have HLN := hid hln
      have HPK : Hid (∀ w', Below wc.heap.size wc w' → Calls Tryz.prog 110 #[.pointer (some ⟨la.b, 0, none⟩)] w' fun e w'' => e = .returned (.tuple #[.int .i64 G, .bool I]) ∧ w' = w'') := fun w' hb => by
        rw [hgg, hii]
        exact peek_any la.b w' la.A x.w x.items x.lost h6 (HLN.out.keep fun j _ hl => hb.block j hl)
      have HHX := hid hx
      have HXOK := hid hxok
      clear hg1 hla hx hxok hln hnl h6 hgg hii
      go_wp2_with fail
      go_region_held3 (fun w' => w'.cell? ⟨kb, 5, none⟩ = some (.slice (some ⟨lb, loff, none⟩) nl M.lc) ∧ w'.cell? ⟨w.heap.size + 1, 2, none⟩ = some (.int .i64 b') ∧ w'.cell? ⟨lb, loff + b', none⟩ = some (.pointer (some ⟨la.b, 0, none⟩)))
        (first | exact ⟨k5, o2, hlp⟩)
        (first | (go_at_call 110; refine (HPK.out _ (Below.refl _ _).drew).mono ?_; rintro e w2 ⟨rfl, rfl⟩))
      go_wp2_with fail
      go_meet
      exact ⟨rfl, rfl, HMD.out.new (Below.refl _ _).drew⟩
    · have hg1 : sGot k O = (0, false) := by
        rw [HOE.out]; unfold sGot; rw [if_neg h9]
      have hgg : G = 0 := by rw [HG.out, hg1]
      have hii : I = false := by rw [HI.out, hg1]
      subst hgg hii
      have e9 : (what == 9) = false := by simpa using h9
      clear h9 hg1
      go_wp2_with fail
      go_meet
      exact ⟨rfl, rfl, HMD.out⟩
  obtain ⟨rfl, rfl, hmid⟩ := hcut
  clear o0 o1 o2 olt HMD
  have HMD := hid hmid
  clear hmid
  go_upto_region 6 with fail
  obtain ⟨cb, coff, ob, ooff, oc, hcA, hcc, g0, g1, g2, hrn, hpn, hcb, hob, hoc, hom⟩ := HMD.out.kat.code (by rw [HM.out]; exact HC.out) HO.out
  obtain ⟨k0, _, _, k4, _, _, _, hkb⟩ := HMD.out.kat.cells
  rw [hcA, ← HN.out] at k0
  rw [← HN.out] at hrn
  rw [← HNO.out] at hcc hpn hoc
  unfold maxLen at hom
  have haw := HMD.out.was
  rw [HSE.out] at haw
  have HAW := hid haw
  have w0 := blk_cell haw 0
  have w1 := blk_cell haw 1
  have w2 := blk_cell haw 2
  have w3 := blk_cell haw 3
  have w4 := blk_cell haw 4
  have w5 := blk_cell haw 5
  have w6 := blk_cell haw 6
  have w7 := blk_cell haw 7
  simp at w0 w1 w2 w3 w4 w5 w6 w7
  have hrn' : (r : Int) < (n : Int) := by omega
  have HDO : Hid (∀ w', Below wc.heap.size wc w' → Calls Tryz.prog 111 #[.slice (some ⟨ob, ooff, none⟩) no oc, .agg #[.int .i64 pk, .int .i64 c0, .int .i64 c1, .int .i64 c2, .int .i64 c3, .int .i64 c4, .int .i64 c5, .bool f], .int .i64 G, .bool I] w' (DoneV w' t out)) := fun w' hb => by
    have h1 := do_any ob ooff no oc pk S O G I w' (by rw [HSE.out]) (by rw [HNO.out]; exact HST.out) (by rw [HNO.out]; exact HOP.out)
      ⟨hpn, hno20, (hb.cell (p := ⟨ob, ooff + pk * 3, none⟩) hob).trans g0, (hb.cell (p := ⟨ob, ooff + pk * 3 + 1, none⟩) hob).trans g1, (hb.cell (p := ⟨ob, ooff + pk * 3 + 2, none⟩) hob).trans g2⟩
    have e1 : stepDo no O S G I = sDo ops.length k O S := by rw [HNO.out, HG.out, HI.out]; rfl
    rw [e1, ← HT.out, ← HOUT.out, HSE.out] at h1
    exact h1
  have HS : Hid (∀ w', Below wc.heap.size wc w' → (w'.cell? ⟨kb, 0, none⟩ = some (.slice (some ⟨cb, coff, none⟩) n M.P.c) ∧ w'.cell? ⟨cb, coff + r, none⟩ = some (.slice (some ⟨ob, ooff, none⟩) no oc)) ∧ (w'.cell? ⟨w.heap.size, 0, none⟩ = some (.int .i64 pk) ∧ w'.cell? ⟨w.heap.size, 1, none⟩ = some (.int .i64 c0) ∧ w'.cell? ⟨w.heap.size, 2, none⟩ = some (.int .i64 c1) ∧ w'.cell? ⟨w.heap.size, 3, none⟩ = some (.int .i64 c2) ∧ w'.cell? ⟨w.heap.size, 4, none⟩ = some (.int .i64 c3) ∧ w'.cell? ⟨w.heap.size, 5, none⟩ = some (.int .i64 c4) ∧ w'.cell? ⟨w.heap.size, 6, none⟩ = some (.int .i64 c5) ∧ w'.cell? ⟨w.heap.size, 7, none⟩ = some (.bool f))) := fun w' hb => by
    obtain ⟨s0, s1, s2, s3, s4, s5, s6, s7⟩ := stAt (s := ⟨pk, c0, c1, c2, c3, c4, c5, f⟩) ((hb.block _ (blk_lt HAW.out)).trans HAW.out)
    exact ⟨⟨(hb.cell (p := ⟨kb, 0, none⟩) hkb).trans k0, (hb.cell (p := ⟨cb, coff + r, none⟩) hcb).trans hcc⟩, s0, s1, s2, s3, s4, s5, s6, s7⟩
  clear haw g0 g1 g2 hcA hom hoc hob k4
  go_cut [10, 11] (fun v10 v11 wx => ∃ b10, v10 = .pointer (some ⟨b10, 0, none⟩) ∧ v11 = .int .i64 out ∧ wx.heap[b10]? = some (.cells (stV t) 81 (0, 0)) ∧ w.heap.size < b10 ∧ (∀ j, KF kb M j → j ≠ b10) ∧ DoMid 88 120 90 w wx kb M M k S O)
  case first =>
    go_region_held3 (fun w' => (w'.cell? ⟨kb, 0, none⟩ = some (.slice (some ⟨cb, coff, none⟩) n M.P.c) ∧ w'.cell? ⟨cb, coff + r, none⟩ = some (.slice (some ⟨ob, ooff, none⟩) no oc)) ∧ (w'.cell? ⟨w.heap.size, 0, none⟩ = some (.int .i64 pk) ∧ w'.cell? ⟨w.heap.size, 1, none⟩ = some (.int .i64 c0) ∧ w'.cell? ⟨w.heap.size, 2, none⟩ = some (.int .i64 c1) ∧ w'.cell? ⟨w.heap.size, 3, none⟩ = some (.int .i64 c2) ∧ w'.cell? ⟨w.heap.size, 4, none⟩ = some (.int .i64 c3) ∧ w'.cell? ⟨w.heap.size, 5, none⟩ = some (.int .i64 c4) ∧ w'.cell? ⟨w.heap.size, 6, none⟩ = some (.int .i64 c5) ∧ w'.cell? ⟨w.heap.size, 7, none⟩ = some (.bool f)))
      ((refine HS.out _ ?_; (repeat (with_reducible first | exact HB2.out | exact Below.refl _ _ | refine Below.drew ?_ | refine Below.alloc ?_ (Nat.le_refl _) _ | refine Below.alloc ?_ HB2.out.size _ | exact below_put0 HB2.out (Nat.le_refl _) _ _ _ _ _ _ _ _))))
      (first | (go_at_call 111; refine (HDO.out _ (Below.refl _ _).drew).mono ?_; rintro e w2' ⟨rfl, hb2⟩; unfold stV; have HB2 := hid ((Below.refl wc.heap.size wc).drew.trans hb2); clear hb2) | (go_at_call 111; refine (HDO.out _ ((Below.refl _ _).alloc (Nat.le_refl _) _).drew).mono ?_; rintro e w2' ⟨rfl, hb2⟩; unfold stV; have HB2 := hid (((Below.refl wc.heap.size wc).alloc (Nat.le_refl _) _).drew.trans (hb2.mono (by simp))); have hz : w2'.heap[wc.heap.size]? = some (.cells (stV St.zero) 81 (0, 0)) := (hb2.block wc.heap.size (by simp)).trans (heap_alloc_new wc _); have z0 := blk_cell hz 0; have z1 := blk_cell hz 1; have z2 := blk_cell hz 2; have z3 := blk_cell hz 3; have z4 := blk_cell hz 4; have z5 := blk_cell hz 5; have z6 := blk_cell hz 6; have z7 := blk_cell hz 7; have zf := fun j => blk_free hz j; have HZ := hid hz; unfold stV at z0 z1 z2 z3 z4 z5 z6 z7; simp at z0 z1 z2 z3 z4 z5 z6 z7; clear hz hb2))
    all_goals
      go_wp2_with fail
      go_meet
      have hlt := HMD.out.kat.lt
      have hwl := blk_lt HMD.out.was
      have h2s := HB2.out.size
    · exact ⟨_, rfl, rfl, heap_alloc_new w2' _, by omega, fun j hj => by have := hlt j (.inl hj); omega, HMD.out.new (HB2.out.alloc HB2.out.size _)⟩
    · exact ⟨_, rfl, rfl, put8_heap HZ.out, hwl, fun j hj => by have := hlt j (.inl hj); omega, HMD.out.new (below_put0 HB2.out (Nat.le_refl _) _ _ _ _ _ _ _ _)⟩
  obtain ⟨b10, rfl, rfl, hb10, hb10w, hb10n, hmid⟩ := hcut
  clear HMD HDO HS HAW k0 hcc w0 w1 w2 w3 w4 w5 w6 w7 hkb hcb hrn hpn
  have HMD := hid hmid
  have HB10 := hid hb10
  have hs := HHS.out
  obtain ⟨rb, roff, hrA, ⟨s0, s1, s2, s3, s4, s5, s6, s7⟩, hrf, hrb, hrkb, hrl, hrc, hrm⟩ := HMD.out.kat.room hs
  obtain ⟨_, _, _, k4, _, _, _, hkb⟩ := HMD.out.kat.cells
  rw [hrA, ← HNR.out] at k4
  rw [← HNR.out] at hrl hrc
  unfold maxLen at hrm
  have hrl' : (r : Int) < (nr : Int) := by omega
  have p0 := blk_cell hb10 0
  have p1 := blk_cell hb10 1
  have p2 := blk_cell hb10 2
  have p3 := blk_cell hb10 3
  have p4 := blk_cell hb10 4
  have p5 := blk_cell hb10 5
  have p6 := blk_cell hb10 6
  have p7 := blk_cell hb10 7
  unfold stV at p0 p1 p2 p3 p4 p5 p6 p7
  simp at p0 p1 p2 p3 p4 p5 p6 p7
  have HRT : Hid (DoMid 88 120 90 w (putAt wc rb (roff + r * 8) t) kb M M ⟨k.rooms.set r t, k.lines, k.time⟩ S O) := HMD.out.room hrA hs t
  have f0 := hrf (roff + r * 8)
  have f1 := hrf (roff + r * 8 + 1)
  have f2 := hrf (roff + r * 8 + 2)
  have f3 := hrf (roff + r * 8 + 3)
  have f4 := hrf (roff + r * 8 + 4)
  have f5 := hrf (roff + r * 8 + 5)
  have f6 := hrf (roff + r * 8 + 6)
  have f7 := hrf (roff + r * 8 + 7)
  have hb10r : b10 ≠ rb := fun e => hb10n rb (.inr (.inl (by rw [hrA]; rfl))) e.symm
  clear hmid hb10 hs hrA hrf hb10n
  go_upto_region 7 with fail
  go_cut [] (fun wx => DoMid 88 120 90 w wx kb M M ⟨k.rooms.set r t, k.lines, k.time⟩ S O)
  case first =>
    go_region_with (fail)
    all_goals
      go_wp2_with fail
      go_meet
      exact HRT.out.new (Below.refl _ _).drew
  have HMD := hid hcut
  clear hcut HRT HB10 p0 p1 p2 p3 p4 p5 p6 p7 s0 s1 s2 s3 s4 s5 s6 s7 f0 f1 f2 f3 f4 f5 f6 f7 k4
  obtain ⟨R, hR⟩ : ∃ R, R = k.rooms.set r t := ⟨_, rfl⟩
  rw [← hR] at HMD
  have HR := hid hR
  obtain ⟨TK, hTK⟩ : ∃ TK, TK = sTakes k O S := ⟨_, rfl⟩
  have HTK := hid hTK
  have hTK2 : TK = (!f && (decide (what = 9) && I)) := by rw [hTK, HSE.out, HI.out, HOE.out]; rfl
  have HTK2 := hid hTK2
  have haw := HMD.out.was
  rw [HSE.out] at haw
  have w7 := blk_cell haw 7
  simp at w7
  obtain ⟨o0, o1, o2, olt⟩ := HOC.out _ _ _ HMD.out
  clear hR hTK hTK2 haw
  go_upto_region 9 with fail
  go_cut [84] (fun v wx => v = .bool TK ∧ wx = wc)
  case first =>
    cases f with
    | true =>
      have hv : TK = false := by rw [HTK2.out]; rfl
      subst hv
      go_wp2_with fail
      go_meet
      exact ⟨rfl, rfl⟩
    | false =>
      by_cases h9 : what = 9
      · have hv : TK = I := by rw [HTK2.out]; simp [h9]
        subst h9 hv
        cases TK <;>
        · go_wp2_with fail
          go_meet
          exact ⟨rfl, rfl⟩
      · have hv : TK = false := by rw [HTK2.out]; simp [h9]
        have e9 : (what == 9) = false := by simpa using h9
        subst hv
        clear h9
        go_wp2_with fail
        go_meet
        exact ⟨rfl, rfl⟩
  obtain ⟨rfl, rfl⟩ := hcut
  go_upto_if 84 with fail
  go_cut [12] (fun v12 wx => v12 = .bool I ∧ ∃ M', DoMid 88 120 90 w wx kb M M' ⟨R, sLines2 k O S, k.time⟩ S O)
  case first =>
    cases TK with
    | false =>
      have hl2 : sLines2 k O S = k.lines := by unfold sLines2; rw [if_neg (by rw [← HTK.out]; decide)]
      have HL2 := hid hl2
      clear hl2
      go_wp2_with fail
      go_meet
      exact ⟨rfl, M, by rw [HL2.out]; exact HMD.out⟩
    | true =>
      have hc2 := HTK2.out
      have hf : f = false := by cases f with | true => cases hc2 | false => rfl
      have h9 : what = 9 := by rw [hf] at hc2; simp at hc2; exact hc2.1
      have hI : I = true := by rw [hf] at hc2; simp at hc2; exact hc2.2
      obtain ⟨b', x, hb', hx, hxok, _, _, _⟩ := HLINE.out (.inr h9)
      subst hf h9 hb' hI
      have hit : x.items ≠ [] := by
        have := HI.out
        rw [HOE.out] at this
        unfold sGot at this
        simp only [if_true, Int.toNat_natCast, hx] at this
        intro h; rw [h] at this; simp at this
      have hl2 : sLines2 k O S = k.lines.set b' ⟨x.w, lineTake x.w x.items, x.lost⟩ := by
        unfold sLines2; rw [if_pos HTK.out.symm, HOE.out]; simp only [Int.toNat_natCast, hx]
      have HL2 := hid hl2
      have hx' : (⟨R, k.lines, k.time⟩ : Kst).lines[b']? = some x := hx
      obtain ⟨la, lb, loff, hla, hlA, hlp, hln, hil, hlb⟩ := HMD.out.kat.line hx'
      obtain ⟨_, _, _, _, k5, _, _, hkb'⟩ := HMD.out.kat.cells
      rw [hlA] at k5
      have hnl := HNL.out
      simp only [] at k5 hil
      rw [← hnl] at k5 hil
      have hb0 : (0 : Int) ≤ (b' : Int) := by omega
      have hb1 : (b' : Int) < (nl : Int) := by omega
      have HLN := hid hln
      have HTAKE : Hid (∀ w', Below wc.heap.size wc w' → Calls Tryz.prog 112 #[.pointer (some ⟨la.b, 0, none⟩)] w' (TookLn w' la.b la.A x)) := fun w' hb =>
        take_ln la.b w' la.A x hit hxok (HLN.out.keep fun j _ hl => hb.block j hl)
      have HKS : Hid (∀ w'', Keep (LF la.b la.A) wc w'' → w''.cell? ⟨kb, 5, none⟩ = some (.slice (some ⟨lb, loff, none⟩) nl M.lc) ∧ w''.cell? ⟨w.heap.size + 1, 2, none⟩ = some (.int .i64 b') ∧ w''.cell? ⟨lb, loff + b', none⟩ = some (.pointer (some ⟨la.b, 0, none⟩))) := fun w'' hk => by
        obtain ⟨own, p0, p1, p2, p3, p4⟩ := HMD.out.kat.own
        refine ⟨(hk.cell hkb' fun h => ?_).trans k5, (hk.cell olt fun h => ?_).trans o2, (hk.cell hlb fun h => ?_).trans hlp⟩
        · have := p4 b' la hla _ h; rw [p0] at this; omega
        · exact (HMD.out.apart _ (.inr (.inr ⟨la, List.mem_of_getElem? hla, h⟩))).2 rfl
        · have := p4 b' la hla _ h; rw [p2 lb (by rw [hlA]; rfl)] at this; omega
      have HHX := hid hx
      have HHX' := hid hx'
      have HLA := hid hla
      clear hx hx' hxok hln hnl hla hl2 hit hc2
      go_wp2_with fail
      go_region_held3 (fun w' => w'.cell? ⟨kb, 5, none⟩ = some (.slice (some ⟨lb, loff, none⟩) nl M.lc) ∧ w'.cell? ⟨w.heap.size + 1, 2, none⟩ = some (.int .i64 b') ∧ w'.cell? ⟨lb, loff + b', none⟩ = some (.pointer (some ⟨la.b, 0, none⟩)))
        (first | (with_reducible exact HKS.out _ HK2.out) | (with_reducible exact HKS.out _ (Keep.drew (Keep.refl _ _))))
        (first | (go_at_call 112; refine (HTAKE.out _ (Below.refl _ _).drew).mono ?_; rintro e w2 ⟨v, A', rfl, h2, h3, h4⟩; have HK2 : Hid (Keep (LF la.b la.A) wc w2) := (Keep.refl _ wc).drew.then h3 (fun _ _ h => h); have HH2 := hid h2; have HH4 := hid h4; clear h2 h3 h4))
      go_wp2_with fail
      go_meet
      exact ⟨rfl, _, by rw [HL2.out]; exact HMD.out.line HHX'.out HLA.out HH2.out HK2.out (fun j hj => .inl (HH4.out j hj))⟩
  obtain ⟨rfl, M1, hmid⟩ := hcut
  clear HMD o0 o1 o2 olt w7
  have HMD := hid hmid
  clear hmid
  obtain ⟨D, hD⟩ : ∃ D, D = (sSend ops.length k O S).1 := ⟨_, rfl⟩
  obtain ⟨L3, hL3⟩ : ∃ L3, L3 = (sSend ops.length k O S).2 := ⟨_, rfl⟩
  have HD := hid hD
  have HL3 := hid hL3
  obtain ⟨o0, o1, o2, olt⟩ := HOC.out _ _ _ HMD.out
  clear hD hL3
  go_upto_if 100 with fail
  go_cut [12, 15, 16] (fun v12 v15 v16 wx => v12 = .bool D ∧ ∃ M', DoMid 88 120 90 w wx kb M M' ⟨R, L3, k.time⟩ S O)
  case first =>
    by_cases h0 : 0 ≤ out
    · have hsent := sDo_sent (by rw [← HOUT.out]; exact h0)
      rw [HSE.out, HOE.out] at hsent
      obtain ⟨hf, h8⟩ := hsent
      simp only [] at hf h8
      obtain ⟨b', x, hb', hx, hxok, _, _, _⟩ := HLINE.out (.inl h8)
      subst hf h8 hb'
      have hd2 : out = S.get O.a.toNat := by rw [HOUT.out]; unfold sDo; rw [stepDo_snd, HSE.out, HOE.out]; rfl
      have h1k : out < 1000 := by rw [hd2]; exact ((stOk_iff.1 HST.out).2 _ (opOk_a HOP.out).2).2
      have hl2 : sLines2 k O S = k.lines := by
        unfold sLines2; rw [if_neg]
        unfold sTakes; rw [HOE.out]; simp
      have hss : sSend ops.length k O S = ((lineSend x.w x.items x.lost out).1, k.lines.set b' ⟨x.w, (lineSend x.w x.items x.lost out).2.1, (lineSend x.w x.items x.lost out).2.2⟩) := by
        unfold sSend; rw [← HOUT.out, if_pos h0, HOE.out]; simp only [Int.toNat_natCast, hx]
      have hdd : D = (lineSend x.w x.items x.lost out).1 := by rw [HD.out, hss]
      have hll : L3 = k.lines.set b' ⟨x.w, (lineSend x.w x.items x.lost out).2.1, (lineSend x.w x.items x.lost out).2.2⟩ := by rw [HL3.out, hss]
      have hmd := HMD.out
      rw [hl2] at hmd
      have hx' : (⟨R, k.lines, k.time⟩ : Kst).lines[b']? = some x := hx
      obtain ⟨la, lb, loff, hla, hlA, hlp, hln, hil, hlb⟩ := hmd.kat.line hx'
      obtain ⟨_, _, _, _, k5, _, _, hkb'⟩ := hmd.kat.cells
      rw [hlA] at k5
      have hnl := HNL.out
      simp only [] at k5 hil
      rw [← hnl] at k5 hil
      have hb0 : (0 : Int) ≤ (b' : Int) := by omega
      have hb1 : (b' : Int) < (nl : Int) := by omega
      have HLN := hid hln
      have HSND : Hid (∀ w', Below wc.heap.size wc w' → Calls Tryz.prog 113 #[.pointer (some ⟨la.b, 0, none⟩), .int .i64 out] w' (SentLn w' la.b la.A x out)) := fun w' hb =>
        send_ln la.b w' la.A x out h0 h1k hxok hB (HLN.out.keep fun j _ hl => hb.block j hl)
      have HKS : Hid (∀ w'', Keep (LF la.b la.A) wc w'' → w''.cell? ⟨kb, 5, none⟩ = some (.slice (some ⟨lb, loff, none⟩) nl M1.lc) ∧ w''.cell? ⟨w.heap.size + 1, 2, none⟩ = some (.int .i64 b') ∧ w''.cell? ⟨lb, loff + b', none⟩ = some (.pointer (some ⟨la.b, 0, none⟩))) := fun w'' hk => by
        obtain ⟨own, p0, p1, p2, p3, p4⟩ := hmd.kat.own
        refine ⟨(hk.cell hkb' fun h => ?_).trans k5, (hk.cell olt fun h => ?_).trans o2, (hk.cell hlb fun h => ?_).trans hlp⟩
        · have := p4 b' la hla _ h; rw [p0] at this; omega
        · exact (hmd.apart _ (.inr (.inr ⟨la, List.mem_of_getElem? hla, h⟩))).2 rfl
        · have := p4 b' la hla _ h; rw [p2 lb (by rw [hlA]; rfl)] at this; omega
      have HLINED : Hid (∀ w'' A', LnAt 120 w'' la.b A' ⟨x.w, (lineSend x.w x.items x.lost out).2.1, (lineSend x.w x.items x.lost out).2.2⟩ → Keep (LF la.b la.A) wc w'' → (∀ j, InA A' j → InA la.A j ∨ wc.heap.size ≤ j) → ∃ M', DoMid 88 120 90 w w'' kb M M' ⟨R, L3, k.time⟩ S O) := fun w'' A' h2 h3 h4 => by
        rw [hll]; exact ⟨_, hmd.line hx' hla h2 h3 h4⟩
      unfold SentLn at HSND
      rw [← hdd] at HSND
      clear hx hx' hxok hln hnl hla hl2 hss hdd hll hmd hd2 hB
      cases D <;>
      · go_wp2_with fail
        go_region_held3 (fun w' => w'.cell? ⟨kb, 5, none⟩ = some (.slice (some ⟨lb, loff, none⟩) nl M1.lc) ∧ w'.cell? ⟨w.heap.size + 1, 2, none⟩ = some (.int .i64 b') ∧ w'.cell? ⟨lb, loff + b', none⟩ = some (.pointer (some ⟨la.b, 0, none⟩)))
          (first | (with_reducible exact HKS.out _ HK2.out) | (with_reducible exact HKS.out _ (Keep.drew (Keep.refl _ _))))
          (first | (go_at_call 113; refine (HSND.out _ (Below.refl _ _).drew).mono ?_; rintro e w2 ⟨A', rfl, h2, h3, h4⟩; have HK2 : Hid (Keep (LF la.b la.A) wc w2) := (Keep.refl _ wc).drew.then h3 (fun _ _ h => h); have HH2 := hid h2; have HH4 := hid h4; clear h2 h3 h4))
        go_wp2_with fail
        go_meet
        exact ⟨rfl, HLINED.out _ _ HH2.out HK2.out HH4.out⟩
    · have hss : sSend ops.length k O S = ((sGot k O).2, sLines2 k O S) := by unfold sSend; rw [← HOUT.out, if_neg h0]
      have hdd : D = I := by rw [HD.out, hss, HI.out]
      have hll : L3 = sLines2 k O S := by rw [HL3.out, hss]
      have hlt0 : out < 0 := by omega
      have HLL := hid hll
      have HDD := hid hdd
      clear hss hll hdd
      go_wp2_with fail
      go_meet
      exact ⟨by rw [HDD.out], M1, by rw [HLL.out]; exact HMD.out⟩
  obtain ⟨rfl, M2, hmid⟩ := hcut
  clear HMD o0 o1 o2 olt
  have HMD := hid hmid
  have haw := hmid.was
  rw [HSE.out] at haw
  have HAW := hid haw
  have hob := hmid.op
  rw [HOE.out] at hob
  have HOB := hid hob
  have HSB : Hid (∀ w', Below wc.heap.size wc w' → (w'.cell? ⟨w.heap.size, 0, none⟩ = some (.int .i64 pk) ∧ w'.cell? ⟨w.heap.size, 1, none⟩ = some (.int .i64 c0) ∧ w'.cell? ⟨w.heap.size, 2, none⟩ = some (.int .i64 c1) ∧ w'.cell? ⟨w.heap.size, 3, none⟩ = some (.int .i64 c2) ∧ w'.cell? ⟨w.heap.size, 4, none⟩ = some (.int .i64 c3) ∧ w'.cell? ⟨w.heap.size, 5, none⟩ = some (.int .i64 c4) ∧ w'.cell? ⟨w.heap.size, 6, none⟩ = some (.int .i64 c5) ∧ w'.cell? ⟨w.heap.size, 7, none⟩ = some (.bool f)) ∧ w'.cell? ⟨w.heap.size + 1, 0, none⟩ = some (.int .i64 what) ∧ w'.cell? ⟨w.heap.size + 1, 1, none⟩ = some (.int .i64 a) ∧ w'.cell? ⟨w.heap.size + 1, 2, none⟩ = some (.int .i64 b)) := fun w' hb => by
    obtain ⟨s0, s1, s2, s3, s4, s5, s6, s7⟩ := stAt (s := ⟨pk, c0, c1, c2, c3, c4, c5, f⟩) ((hb.block _ (blk_lt HAW.out)).trans HAW.out)
    have h2 := (hb.block _ (blk_lt HOB.out)).trans HOB.out
    exact ⟨⟨s0, s1, s2, s3, s4, s5, s6, s7⟩, blk_cell h2 0, blk_cell h2 1, blk_cell h2 2⟩
  have HWH : Hid (∀ w', Calls Tryz.prog 114 #[.agg #[.int .i64 what, .int .i64 a, .int .i64 b], .agg #[.int .i64 pk, .int .i64 c0, .int .i64 c1, .int .i64 c2, .int .i64 c3, .int .i64 c4, .int .i64 c5, .bool f], .bool D] w' fun e w'' => e = .returned (.int .i64 (whatOf what f D)) ∧ Below w'.heap.size w' w'') := fun w' => what_any ⟨what, a, b⟩ ⟨pk, c0, c1, c2, c3, c4, c5, f⟩ D w'
  clear hmid haw hob
  go_upto_region 16 with fail
  go_region_held3 (fun w' => (w'.cell? ⟨w.heap.size, 0, none⟩ = some (.int .i64 pk) ∧ w'.cell? ⟨w.heap.size, 1, none⟩ = some (.int .i64 c0) ∧ w'.cell? ⟨w.heap.size, 2, none⟩ = some (.int .i64 c1) ∧ w'.cell? ⟨w.heap.size, 3, none⟩ = some (.int .i64 c2) ∧ w'.cell? ⟨w.heap.size, 4, none⟩ = some (.int .i64 c3) ∧ w'.cell? ⟨w.heap.size, 5, none⟩ = some (.int .i64 c4) ∧ w'.cell? ⟨w.heap.size, 6, none⟩ = some (.int .i64 c5) ∧ w'.cell? ⟨w.heap.size, 7, none⟩ = some (.bool f)) ∧ w'.cell? ⟨w.heap.size + 1, 0, none⟩ = some (.int .i64 what) ∧ w'.cell? ⟨w.heap.size + 1, 1, none⟩ = some (.int .i64 a) ∧ w'.cell? ⟨w.heap.size + 1, 2, none⟩ = some (.int .i64 b))
    (first | (with_reducible exact HSB.out _ HB2.out) | (with_reducible exact HSB.out _ (Below.drew (Below.refl _ _))))
    (first | (go_at_call 114; refine (HWH.out _).mono ?_; rintro e w2 ⟨rfl, hb2⟩; have HB2 := hid ((Below.refl wc.heap.size wc).drew.trans hb2); clear hb2))
  go_wp2_with fail
  go_ret2
  refine HMD.out.did HB2.out ?_
  have hse := HSE.out
  have hoe := HOE.out
  have h1 := steps_eq (n := ops.length) (o := O) (s := S) HHS.out (by
    intro hw
    rw [HOE.out] at hw
    obtain ⟨b', x, hb', hx, _⟩ := HLINE.out hw
    refine ⟨x, ?_⟩
    rw [HOE.out]
    simp only [hb', Int.toNat_natCast]; exact hx) (fun j hj => ((stOk_iff.1 HST.out).2 j hj).1) (opOk_a HOP.out).2
  rw [← HD.out, ← HL3.out, ← HT.out, ← HR.out] at h1
  rw [hse, hoe] at h1
  exact h1
end Go.Proofs.YthdmgighblhmhaaGreatDoor
