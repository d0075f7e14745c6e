/- Several parts: each begins with what it says. -/
import Derived.Test.YtldllmhgofacbaaGreatDoorSnapLoadR
import Derived.Test.YtldllmhgofacbaaGreatDoorRunU
import Derived.Test.YtldllmhgofacbaaGreatDoorSameU
import Derived.Test.YtldllmhgofacbaaGreatDoorDoorU
/- Package snap: Load for a plan that is wrong; Load of a kernel's own text. Conditions: those of Load. -/
namespace Go.Proofs.YtldllmhgofacbaaGreatDoor
open Go.RowKit
set_option maxRecDepth 100000

set_option maxHeartbeats 2000000 in
theorem sload_bad (t : ByteArray) (w : World) (m : PM) (hf : Forms w) (hm : PlanAt w m) (he : planChk m.pl ≠ 0) :
    Calls Tryz.prog 22 #[.agg #[.slice m.A m.ros.length m.c, .int .i64 m.ticks, .slice m.sA m.spans.length m.sc, .slice m.wA m.wires.length m.wc], .string t] w fun e w' => e = .returned (.tuple #[.pointer none, errV (planChk m.pl)]) ∧ Below w.heap.size w w' := by
  obtain ⟨w1, hw1⟩ : ∃ w1, w1 = w.alloc (.cells #[.slice m.A m.ros.length m.c, .int .i64 m.ticks, .slice m.sA m.spans.length m.sc, .slice m.wA m.wires.length m.wc] 26) := ⟨_, rfl⟩
  have hb1 : Below w.heap.size w w1 := by rw [hw1]; exact (Below.refl _ _).alloc (Nat.le_refl _) _
  have hbad := kern_new_bad w1 m (hf.new hb1) (hm.new hb1) he
  rw [errV_pos he] at hbad ⊢
  have HBAD := hid hbad
  have HB1 := hid hb1
  generalize planChk m.pl = q at HBAD ⊢
  obtain ⟨nn, hnn⟩ : ∃ nn, m.ros.length = nn := ⟨_, rfl⟩
  obtain ⟨ns, hns⟩ : ∃ ns, m.spans.length = ns := ⟨_, rfl⟩
  obtain ⟨nw, hnw⟩ : ∃ nw, m.wires.length = nw := ⟨_, rfl⟩
  rw [hnn, hns, hnw] at hw1 HBAD ⊢
  clear hbad hf hm he hb1 hnn hns hnw
  go_enter Tryz.func22, Tryz.ntmps22
  go_wp2_with fail
  rw [← hw1]
  clear hw1
  refine HBAD.out.mono ?_
  rintro e w2 ⟨rfl, hb2⟩
  have HB2 := hid (HB1.out.trans (hb2.mono HB1.out.size))
  clear hb2
  go_wp2_with fail
  go_ret2
  exact ⟨rfl, HB2.out⟩
/-- Loaded of a kernel's own text. -/
def SLoadOwn (w : World) (p : Pl) (k : Kst) (e : Ending) (w' : World) : Prop := ∃ kb M, e = .returned (.tuple #[.pointer (some ⟨kb, 0, none⟩), .nilIface]) ∧ KRun w w' kb p M k
theorem sload_own {k : Kst} {B : Int} (t : ByteArray) (hT : t.data.toList = snapText k) (w : World) (m : PM) (hd : Desk w) (hf : Forms w) (hm : PlanAt w m) (he : planChk m.pl = 0) (hk : KOk m.pl k B) (hB : B < 10000000) (hs : Sampled k) (ht : t.size ≤ 1073741824) :
    Calls Tryz.prog 22 #[.agg #[.slice m.A m.ros.length m.c, .int .i64 m.ticks, .slice m.sA m.spans.length m.sc, .slice m.wA m.wires.length m.wc], .string t] w (SLoadOwn w m.pl k) := by
  obtain ⟨h1, h2, h3⟩ := tab_own (planChk_ok he) hk hB hs
  refine (sload_any t ht w m hd hf hm he).mono ?_
  rintro e w' (⟨L, hL, h⟩ | ⟨hno, _, _⟩)
  · rw [hT] at hL
    have hLL : L = tabK k := tab_inj (wordsOf_plain _ _) hL h1
    subst hLL
    rcases h with ⟨_, kb, M, rfl, hr⟩ | ⟨hne, _, _⟩
    · rw [h3] at hr; exact ⟨kb, M, rfl, hr⟩
    · exact absurd h2 hne
  · rw [hT] at hno; exact absurd h1 (hno _)
theorem sampled_run (p : Pl) : ∀ n, Sampled (runK p n)
  | 0 => sampled_new p
  | n + 1 => by
    have h := sampled_tick (p := p) (spans := p.spans) (sampled_run p n)
    exact h
end Go.Proofs.YtldllmhgofacbaaGreatDoor

/- The walk of framelaw3.SnapGoesOn: it returns true at every input whose text is of at most 2^30 bytes. Conditions: the plan's memory, the text desk of the row. -/
namespace Go.Proofs.YtldllmhgofacbaaGreatDoor
open Go.RowKit
set_option maxRecDepth 100000

def restP1 : Pl := ⟨[[⟨10, 0, 0⟩]], 1, [], []⟩
theorem restP1_chk : planChk restP1 = 0 := by kernel_rfl
theorem restP1_text : snapText (kNew restP1) = [116, 105, 109, 101, 32, 48, 10, 114, 111, 111, 109, 32, 48, 32, 48, 32, 48, 32, 48, 32, 48, 32, 48, 32, 48, 32, 48, 10] := by kernel_rfl
theorem bytes_of {T : ByteArray} {l : List UInt8} (h : T.data.toList = l) : T = ⟨l.toArray⟩ := by
  cases T with
  | mk d => simp only at h; rw [← h]
theorem snap_le2 {k : Kst} (h : SnapOk k) : (snapText k).length ≤ 2840 := by
  have h1 := lineT_le (w := [116, 105, 109, 101]) (l := [k.time]) (n := 1) (by decide) (Nat.le_refl 1) (fun x hx => by have := h.time; simp at hx; omega)
  have h2 := flat_le roomLine 181 k.rooms (fun s hs => lineT_le (n := 8) (by decide) (by simp [roomNums]) (h.rooms s hs))
  have h3 := flat_le wireLine 159 k.lines (fun x hx => lineT_le (n := 7) (by decide) (by have := (h.lines x hx).1; simp; omega) (h.lines x hx).2)
  have h4 := h.few
  have h5 : 181 * k.rooms.length ≤ 181 * 5 := Nat.mul_le_mul_left _ h4.1
  have h6 : 159 * k.lines.length ≤ 159 * 12 := Nat.mul_le_mul_left _ h4.2
  unfold snapText snapHead
  rw [List.length_append, List.length_append]; omega
theorem snapGoesOn_ret {w w' : World} {a : Act} (h : a.tmps[8]? = some (.bool true)) (hd : a.defers = []) (hb : Below w.heap.size w w') : bodyPost Tryz.prog Tryz.f4 (fun e w' => e = .returned (.bool true) ∧ Below w.heap.size w w') .ret a w' :=
  bodyPost_ret (v := .bool true) (by simp [results, Tryz.results4, go_sem, h]) hd ⟨rfl, hb⟩
def SavedK (k : Kst) (w' : World) (e : Ending) (w'' : World) : Prop := ∃ T : ByteArray, e = .returned (.tuple #[.string T, .nilIface]) ∧ T.data.toList = snapText k ∧ Below w'.heap.size w' w''
/-- The first part: a plan of one room that rests, its kernel. -/
theorem rest_new {w : World} (hf : Forms w) (s : Nat) (hz : w.heap.size = s) :
    Calls Tryz.prog 20 #[.agg #[.slice (some ⟨s + 1, 0, none⟩) 1 1, .int .i64 1, .slice none 0 0, .slice none 0 0]]
      (((w.alloc (.cells #[.int .i64 10, .int .i64 0, .int .i64 0] 42)).alloc (.cells #[.slice (some ⟨s, 0, none⟩) 1 1] 43)).alloc (.cells #[.slice (some ⟨s + 1, 0, none⟩) 1 1, .int .i64 1, .slice none 0 0, .slice none 0 0] 26)) fun e w' => ∃ kb M, e = .returned (.tuple #[.pointer (some ⟨kb, 0, none⟩), .nilIface]) ∧ KRun w w' kb restP1 M (kNew restP1) ∧ PlanAt w' (onePM0 s (s + 1) [⟨10, 0, 0⟩] 1) ∧ w'.heap[s + 1 + 1]? = some (.cells #[.slice (some ⟨s + 1, 0, none⟩) 1 1, .int .i64 1, .slice none 0 0, .slice none 0 0] 26 (0, 0)) := by
  obtain ⟨w3, hw3⟩ : ∃ w3, w3 = (((w.alloc (.cells #[.int .i64 10, .int .i64 0, .int .i64 0] 42)).alloc (.cells #[.slice (some ⟨s, 0, none⟩) 1 1] 43)).alloc (.cells #[.slice (some ⟨s + 1, 0, none⟩) 1 1, .int .i64 1, .slice none 0 0, .slice none 0 0] 26)) := ⟨_, rfl⟩
  have hb : Below w.heap.size w w3 := by
    rw [hw3]; exact (((Below.refl _ _).alloc (Nat.le_refl _) _).alloc (by simp) _).alloc (by simp; omega) _
  have h1 : w3.heap[s]? = some (.cells #[.int .i64 10, .int .i64 0, .int .i64 0] 42 (0, 0)) := by
    rw [hw3]; simp only [hp_alloc, sz_alloc, hz]; repeat (first | rw [if_pos True.intro] | rw [if_pos rfl] | rw [if_neg (by omega)])
  have h2 : w3.heap[s + 1]? = some (.cells #[.slice (some ⟨s, 0, none⟩) 1 1] 43 (0, 0)) := by
    rw [hw3]; simp only [hp_alloc, sz_alloc, hz]; repeat (first | rw [if_pos True.intro] | rw [if_pos rfl] | rw [if_neg (by omega)])
  have h3 : w3.heap[s + 1 + 1]? = some (.cells #[.slice (some ⟨s + 1, 0, none⟩) 1 1, .int .i64 1, .slice none 0 0, .slice none 0 0] 26 (0, 0)) := by
    rw [hw3]; simp only [hp_alloc, sz_alloc, hz]; repeat (first | rw [if_pos True.intro] | rw [if_pos rfl] | rw [if_neg (by omega)])
  have hp : PlanAt w3 (onePM0 s (s + 1) [⟨10, 0, 0⟩] 1) := one_plan0 h1 h2 (by decide) (by decide) (fun o ho => by
    simp at ho; subst ho; exact ⟨⟨by decide, by decide⟩, ⟨by decide, by decide⟩, by decide, by decide⟩)
  rw [← hw3]
  refine (new_run w3 (onePM0 s (s + 1) [⟨10, 0, 0⟩] 1) (hf.new hb) hp restP1_chk).mono ?_
  rintro e w' ⟨kb, M, h4, h5⟩
  exact ⟨kb, M, h4, h5.base hb, hp.new h5.below, (h5.below.block _ (blk_lt h3)).trans h3⟩
end Go.Proofs.YtldllmhgofacbaaGreatDoor
