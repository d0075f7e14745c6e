/- Several parts: each begins with what it says. -/
import Derived.Test.YtldllmhgofacbaaGreatDoorKernUL
import Derived.Test.YtldllmhgofacbaaGreatDoorPlanUL
import Derived.Test.YtldllmhgofacbaaGreatDoorKLawUL
/- Package kernel: the contract of What, and what a step finds in a kernel's memory. -/
namespace Go.Proofs.YtldllmhgofacbaaGreatDoor
open Go.RowKit
set_option maxRecDepth 100000

def whatOf (what : Int) (failed done : Bool) : Int :=
  if failed = true then 5 else if what = 11 then 4 else if what = 8 then (if done = true then 1 else 3) else if what = 9 then (if done = true then 2 else 3) else 0

/-- A room's state among the rooms, cell by cell. -/
structure StIn (w : World) (b o : Nat) (s : St) : Prop where
  p : w.cell? ⟨b, o, none⟩ = some (.int .i64 s.pc)
  c0 : w.cell? ⟨b, o + 1, none⟩ = some (.int .i64 s.c0)
  c1 : w.cell? ⟨b, o + 2, none⟩ = some (.int .i64 s.c1)
  c2 : w.cell? ⟨b, o + 3, none⟩ = some (.int .i64 s.c2)
  c3 : w.cell? ⟨b, o + 4, none⟩ = some (.int .i64 s.c3)
  c4 : w.cell? ⟨b, o + 5, none⟩ = some (.int .i64 s.c4)
  c5 : w.cell? ⟨b, o + 6, none⟩ = some (.int .i64 s.c5)
  f : w.cell? ⟨b, o + 7, none⟩ = some (.bool s.failed)
section
variable {TK TL TP kb : Nat} {w w' : World} {M : KM} {k : Kst}
end
end Go.Proofs.YtldllmhgofacbaaGreatDoor

/- Plain: a step of a kernel's room in the order in which the program does it. -/
namespace Go.Proofs.YtldllmhgofacbaaGreatDoor

def sGot (k : Kst) (o : Op) : Int × Bool := if o.what = 9 then (match k.lines[o.b.toNat]? with | some x => (x.items.headD 0, !x.items.isEmpty) | none => (0, false)) else (0, false)
def sDo (n : Int) (k : Kst) (o : Op) (s : St) : St × Int := stepDo n o s (sGot k o).1 (sGot k o).2
def sTakes (k : Kst) (o : Op) (s : St) : Bool := !s.failed && (decide (o.what = 9) && (sGot k o).2)
def sLines2 (k : Kst) (o : Op) (s : St) : List Ln := if sTakes k o s = true then (match k.lines[o.b.toNat]? with | some x => k.lines.set o.b.toNat ⟨x.w, lineTake x.w x.items, x.lost⟩ | none => k.lines) else k.lines
def sSend (n : Int) (k : Kst) (o : Op) (s : St) : Bool × List Ln :=
  if 0 ≤ (sDo n k o s).2 then (match k.lines[o.b.toNat]? with
    | some x => ((lineSend x.w x.items x.lost (sDo n k o s).2).1, k.lines.set o.b.toNat ⟨x.w, (lineSend x.w x.items x.lost (sDo n k o s).2).2.1, (lineSend x.w x.items x.lost (sDo n k o s).2).2.2⟩)
    | none => ((sGot k o).2, sLines2 k o s)) else ((sGot k o).2, sLines2 k o s)

theorem set_same {α : Type} (l : List α) (r : Nat) (s : α) (h : l[r]? = some s) : l.set r s = l := by
  apply List.ext_getElem?
  intro j
  rw [List.getElem?_set]
  by_cases e : r = j
  · subst e
    rw [if_pos rfl, if_pos (List.getElem?_eq_some_iff.1 h).1, h]
  · rw [if_neg e]
theorem stepDo_snd (n : Int) (o : Op) (s : St) (got : Int) (is : Bool) : (stepDo n o s got is).2 = if s.failed = false ∧ o.what = 8 then s.get o.a.toNat else -1 := by
  unfold stepDo
  by_cases hf : s.failed = true
  · rw [if_pos hf, if_neg (show ¬ (s.failed = false ∧ o.what = 8) by rw [hf]; simp)]
  · rw [if_neg hf]
    have hf' : s.failed = false := by simpa using hf
    by_cases h8 : o.what = 8
    · rw [if_pos (show s.failed = false ∧ o.what = 8 from ⟨hf', h8⟩)]; simp [h8]
    · rw [if_neg (show ¬ (s.failed = false ∧ o.what = 8) by simp [h8])]
      repeat' split
      all_goals first | rfl | exact absurd ‹_› h8
theorem sDo_sent {n : Int} {k : Kst} {o : Op} {s : St} (h : 0 ≤ (sDo n k o s).2) : s.failed = false ∧ o.what = 8 := by
  unfold sDo at h
  rw [stepDo_snd] at h
  split at h
  · assumption
  · simp at h
theorem steps_eq {n : Int} {k : Kst} {r : Nat} {o : Op} {s : St} (hs : k.rooms[r]? = some s) (hl : o.what = 8 ∨ o.what = 9 → ∃ x, k.lines[o.b.toNat]? = some x) (hg : ∀ a, a < 6 → 0 ≤ s.get a) (ha : o.a.toNat < 6) :
    kDo n r o s k = (whatOf o.what s.failed (sSend n k o s).1, ⟨k.rooms.set r (sDo n k o s).1, (sSend n k o s).2, k.time⟩) := by
  unfold kDo whatOf
  by_cases hf : s.failed = true
  · have hd : sDo n k o s = (s, -1) := by unfold sDo stepDo; rw [if_pos hf]
    have ht : sTakes k o s = false := by unfold sTakes; rw [hf]; rfl
    have hss : sSend n k o s = ((sGot k o).2, k.lines) := by
      unfold sSend sLines2
      rw [hd, if_neg (show ¬ (0 : Int) ≤ -1 by decide), if_neg (by rw [ht]; decide)]
    rw [if_pos hf, if_pos hf, hss, hd, set_same _ _ _ hs]
  · rw [if_neg hf, if_neg hf]
    have hf' : s.failed = false := by simpa using hf
    by_cases h9 : o.what = 9
    · obtain ⟨x, hx⟩ := hl (.inr h9)
      rw [if_pos h9, hx, if_neg (by omega), if_neg (by omega), if_pos h9]
      cases hi : x.items with
      | nil =>
        have hgot : sGot k o = (0, false) := by unfold sGot; rw [if_pos h9, hx]; simp [hi]
        have hd : sDo n k o s = (s, -1) := by
          unfold sDo stepDo; rw [if_neg hf, hgot]; simp [h9]
        have ht : sTakes k o s = false := by unfold sTakes; rw [hgot]; simp
        have hss : sSend n k o s = (false, k.lines) := by
          unfold sSend sLines2
          rw [hd, if_neg (show ¬ (0 : Int) ≤ -1 by decide), if_neg (by rw [ht]; decide), hgot]
        rw [hss, hd, set_same _ _ _ hs]; simp [hi]
      | cons i rest =>
        have hgot : sGot k o = (i, true) := by unfold sGot; rw [if_pos h9, hx]; simp [hi]
        have ht : sTakes k o s = true := by unfold sTakes; rw [hgot, hf']; simp [h9]
        have hd2 : (sDo n k o s).2 = -1 := by
          unfold sDo stepDo; rw [if_neg hf, hgot]; simp [h9]
        have hss : sSend n k o s = (true, k.lines.set o.b.toNat ⟨x.w, lineTake x.w x.items, x.lost⟩) := by
          unfold sSend sLines2
          rw [hd2, if_neg (by decide), if_pos ht, hgot, hx]
        rw [hss]
        unfold sDo
        rw [hgot]
        simp [hi]
    · rw [if_neg h9]
      have hgot : sGot k o = (0, false) := by unfold sGot; rw [if_neg h9]
      have ht : sTakes k o s = false := by unfold sTakes; rw [hgot]; simp
      have hsd : sDo n k o s = stepDo n o s 0 false := by unfold sDo; rw [hgot]
      by_cases h8 : o.what = 8
      · obtain ⟨x, hx⟩ := hl (.inl h8)
        have hd2 : (sDo n k o s).2 = s.get o.a.toNat := by rw [hsd]; unfold stepDo; rw [if_neg hf]; simp [h8]
        have h0 := hg _ ha
        rw [if_pos h8, hx, if_neg (by omega), if_pos h8]
        unfold sSend
        rw [hd2, if_pos h0, hx, hsd]
      · rw [if_neg h8]
        have hd2 : (sDo n k o s).2 = -1 := by
          rw [hsd, stepDo_snd, if_neg (show ¬ (s.failed = false ∧ o.what = 8) by simp [h8])]
        have hss : sSend n k o s = (false, k.lines) := by
          unfold sSend sLines2
          rw [hd2, if_neg (by decide), if_neg (by rw [ht]; decide), hgot]
        rw [hss, hsd, if_neg h8, if_neg h9]
/-- The line of an op that sends or takes. -/
theorem op_line {p : Pl} {k : Kst} {B : Int} {r : Nat} {ops : List Op} {o : Op} (hp : PlOk p) (h : KOk p k B) (hc : p.code[r]? = some ops) (ho : o ∈ ops) (hw : o.what = 8 ∨ o.what = 9) :
    ∃ (b : Nat) (x : Ln), o.b = b ∧ k.lines[b]? = some x ∧ LnOk x B ∧ p.wires[b]? = some x.w ∧ (o.what = 8 → x.w.fr = r) ∧ (o.what = 9 → x.w.to = r) := by
  have hcode := codeChk_ok (hp.codes ops (List.mem_of_getElem? hc))
  have hb := opOk_bw (hcode.2.2 o ho) hw
  have hpo := List.all_eq_true.1 (hp.ports r ops hc) o ho
  have hwl : ∃ x, p.wires[o.b.toNat]? = some x ∧ (o.what = 8 → x.fr = r) ∧ (o.what = 9 → x.to = r) := by
    unfold portOk at hpo
    rcases hw with h8 | h9
    · rw [if_pos h8] at hpo
      cases hx : p.wires[o.b.toNat]? with
      | none => rw [hx] at hpo; cases hpo
      | some x => rw [hx] at hpo; exact ⟨x, rfl, fun _ => by simpa using hpo, fun h => by omega⟩
    · rw [if_neg (by omega), if_pos h9] at hpo
      cases hx : p.wires[o.b.toNat]? with
      | none => rw [hx] at hpo; cases hpo
      | some x => rw [hx] at hpo; exact ⟨x, rfl, fun h => by omega, fun _ => by simpa using hpo⟩
  obtain ⟨y, hy, h1, h2⟩ := hwl
  have hyw := hy
  rw [← h.lines, List.getElem?_map, Option.map_eq_some_iff] at hy
  obtain ⟨x, hx, rfl⟩ := hy
  exact ⟨o.b.toNat, x, by omega, hx, h.lns x (List.mem_of_getElem? hx), hyw, h1, h2⟩
end Go.Proofs.YtldllmhgofacbaaGreatDoor
