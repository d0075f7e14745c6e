/- Plain: a step of a kernel's room in the order in which the reference does it. -/
import Derived.Test.YtongkiccglaniaaDoorWhatU
import Derived.Test.YtongkiccglaniaaDoorRLawU
namespace Go.Proofs.YtongkiccglaniaaDoor

def rTakes (o : Op) (s : St) : Bool := !s.failed && decide (o.what = 9)
def rGot (k : Kst) (o : Op) (s : St) : Int × Bool := if rTakes o s = true then (match k.lines[o.b.toNat]? with | some x => (x.items.headD 0, !x.items.isEmpty) | none => (0, false)) else (0, false)
def rLines2 (k : Kst) (o : Op) (s : St) : List Ln := if rTakes o s = true then (match k.lines[o.b.toNat]? with | some x => k.lines.set o.b.toNat ⟨x.w, lineTake x.w x.items, x.lost⟩ | none => k.lines) else k.lines
def rDo (n : Int) (k : Kst) (o : Op) (s : St) : St × Int := stepDo n o s (rGot k o s).1 (rGot k o s).2
def rSend (n : Int) (k : Kst) (o : Op) (s : St) : Int × List Ln :=
  if 0 ≤ (rDo n k o s).2 then (match k.lines[o.b.toNat]? with
    | some x => (if (lineSend x.w x.items x.lost (rDo n k o s).2).1 = true then stepWhat o s (rGot k o s).2 else 3, k.lines.set o.b.toNat ⟨x.w, (lineSend x.w x.items x.lost (rDo n k o s).2).2.1, (lineSend x.w x.items x.lost (rDo n k o s).2).2.2⟩)
    | none => (stepWhat o s (rGot k o s).2, rLines2 k o s)) else (stepWhat o s (rGot k o s).2, rLines2 k o s)
theorem rsteps_eq {n : Int} {k : Kst} {r : Nat} {o : Op} {s : St} (hs : k.rooms[r]? = some s) (hl : o.what = 8 ∨ o.what = 9 → ∃ x, k.lines[o.b.toNat]? = some x) (hg : ∀ a, a < 6 → 0 ≤ s.get a) (ha : o.a.toNat < 6) :
    kDo n r o s k = ((rSend n k o s).1, ⟨k.rooms.set r (rDo n k o s).1, (rSend n k o s).2, k.time⟩) := by
  unfold kDo
  by_cases hf : s.failed = true
  · have ht : rTakes o s = false := by unfold rTakes; rw [hf]; rfl
    have hd : rDo n k o s = (s, -1) := by unfold rDo stepDo; rw [if_pos hf]
    have hw : ∀ b, stepWhat o s b = 5 := fun b => by unfold stepWhat; rw [if_pos hf]
    have hss : rSend n k o s = (5, k.lines) := by
      unfold rSend rLines2
      rw [hd, if_neg (show ¬ (0 : Int) ≤ -1 by decide), if_neg (by rw [ht]; decide), hw]
    rw [if_pos hf, hss, hd, set_same _ _ _ hs]
  · rw [if_neg hf]
    have hf' : s.failed = false := by simpa using hf
    by_cases h9 : o.what = 9
    · obtain ⟨x, hx⟩ := hl (.inr h9)
      have ht : rTakes o s = true := by unfold rTakes; rw [hf', h9]; rfl
      have hout : (rDo n k o s).2 = -1 := by unfold rDo; rw [stepDo_snd, if_neg (by rw [h9]; simp)]
      have hsend : rSend n k o s = (stepWhat o s (rGot k o s).2, k.lines.set o.b.toNat ⟨x.w, lineTake x.w x.items, x.lost⟩) := by
        unfold rSend rLines2
        rw [hout, if_neg (show ¬ (0 : Int) ≤ -1 by decide), if_pos ht, hx]
      rw [if_pos h9, hx]
      simp only []
      cases hi : x.items with
      | nil =>
        have hgot : rGot k o s = (0, false) := by unfold rGot; rw [if_pos ht, hx]; simp [hi]
        have hd : rDo n k o s = (s, -1) := by unfold rDo stepDo; rw [if_neg hf, hgot]; simp [h9]
        have hls : k.lines.set o.b.toNat ⟨x.w, lineTake x.w x.items, x.lost⟩ = k.lines := by
          refine set_same _ _ _ ?_
          rw [hx, hi]
          obtain ⟨a, b, c⟩ := x
          simp only [] at hi
          subst hi
          simp [lineTake]
        have hwh : stepWhat o s false = 3 := by unfold stepWhat; rw [if_neg hf]; simp [h9]
        rw [hsend, hd, hls, hgot, set_same _ _ _ hs, hwh]
      | cons i rest =>
        have hgot : rGot k o s = (i, true) := by unfold rGot; rw [if_pos ht, hx]; simp [hi]
        have hwh : stepWhat o s true = 2 := by unfold stepWhat; rw [if_neg hf]; simp [h9]
        rw [hsend, hgot, hwh]
        unfold rDo
        rw [hgot]
        simp only [hi]
    · have ht : rTakes o s = false := by unfold rTakes; simp [h9]
      have hgot : rGot k o s = (0, false) := by unfold rGot; rw [if_neg (by rw [ht]; decide)]
      have hl2 : rLines2 k o s = k.lines := by unfold rLines2; rw [if_neg (by rw [ht]; decide)]
      rw [if_neg h9]
      by_cases h8 : o.what = 8
      · obtain ⟨x, hx⟩ := hl (.inl h8)
        have hout : (rDo n k o s).2 = s.get o.a.toNat := by unfold rDo; rw [stepDo_snd, if_pos ⟨hf', h8⟩]
        have hwh : stepWhat o s false = 1 := by unfold stepWhat; rw [if_neg hf]; simp [h8]
        have hsend : rSend n k o s = (if (lineSend x.w x.items x.lost (s.get o.a.toNat)).1 = true then 1 else 3, k.lines.set o.b.toNat ⟨x.w, (lineSend x.w x.items x.lost (s.get o.a.toNat)).2.1, (lineSend x.w x.items x.lost (s.get o.a.toNat)).2.2⟩) := by
          unfold rSend
          rw [hout, if_pos (hg _ ha), hx, hgot, hwh]
        rw [if_pos h8, hx, hsend]
        unfold rDo
        rw [hgot]
      · have hout : (rDo n k o s).2 = -1 := by unfold rDo; rw [stepDo_snd, if_neg (by simp [h8])]
        have hsend : rSend n k o s = (stepWhat o s false, k.lines) := by
          unfold rSend
          rw [hout, if_neg (show ¬ (0 : Int) ≤ -1 by decide), hl2, hgot]
        have hwh : stepWhat o s false = if o.what = 11 then 4 else 0 := by unfold stepWhat; rw [if_neg hf]; simp [h8, h9]
        rw [if_neg h8, hsend, hwh]
        unfold rDo
        rw [hgot]
end Go.Proofs.YtongkiccglaniaaDoor
