/- The contract of frametop.one: it returns true. -/
import Derived.Test.YtldllmhgofacbaaGreatDoorRunUL
import Derived.IntWalk
namespace Go.Proofs.YtldllmhgofacbaaGreatDoor
open Go.RowKit
set_option maxRecDepth 100000

def sevenPl : Pl := ⟨[[⟨1, 2, 7⟩]], 1, [⟨0, 1, 0⟩], []⟩
theorem seven_chk : planChk sevenPl = 0 := by decide
theorem seven_tick : (runK sevenPl 1).rooms[0]? = some ⟨0, 0, 0, 7, 0, 0, 0, false⟩ := by rfl
theorem seven_new {w : World} (hf : Forms w) :
    Calls Tryz.prog 20 #[.agg #[.slice (some ⟨w.heap.size + 1, 0, none⟩) 1 1, .int .i64 1, .slice (some ⟨w.heap.size + 1 + 1, 0, none⟩) 1 1, .slice none 0 0]]
      (((w.alloc (.cells #[.int .i64 1, .int .i64 2, .int .i64 7] 42)).alloc (.cells #[.slice (some ⟨w.heap.size, 0, none⟩) 1 1] 43)).alloc (.cells #[.int .i64 0, .int .i64 1, .int .i64 0] 115)) (KNew w sevenPl) :=
  one_new [⟨1, 2, 7⟩] 1 [⟨0, 1, 0⟩] hf (by decide) (by decide) (by decide) (fun o ho => by
    simp at ho; subst ho
    refine ⟨⟨?_, ?_⟩, ⟨?_, ?_⟩, ⟨?_, ?_⟩⟩ <;> decide) (fun y hy => by
    simp at hy; subst hy
    refine ⟨⟨?_, ?_⟩, ⟨?_, ?_⟩, ⟨?_, ?_⟩⟩ <;> decide) seven_chk w.heap.size rfl
theorem top_one {w : World} (hf : Forms w) : Calls Tryz.prog 56 #[] w fun e w' => e = .returned (.bool true) ∧ Below w.heap.size w w' := by
  have hnew := seven_new hf
  unfold KNew at hnew
  have HNEW := hid hnew
  have HP := hid (planChk_ok seven_chk)
  clear hnew hf
  go_enter Tryz.func56, Tryz.ntmps56
  go_wp2_with fail
  refine HNEW.out.mono ?_
  rintro e w1 ⟨kb, M, rfl, hr⟩
  have HR := hid hr
  clear hr
  go_wp2_with fail
  refine (tick_run HR.out HP.out (kNew_ok HP.out) (by omega)).mono ?_
  rintro e w2 ⟨M2, rfl, hr, _, _⟩
  have HR2 : Hid (KRun w w2 kb sevenPl M2 (runK sevenPl 1)) := hr
  clear hr
  go_wp2_with fail
  refine (state_run HR2.out HP.out (runK_ok HP.out 1) seven_tick).mono ?_
  unfold stV
  rintro e w3 ⟨rfl, hb3⟩
  have HB3 := hid (HR2.out.below.trans (hb3.mono HR2.out.below.size))
  clear hb3
  go_wp2_with fail
  go_ret
  exact ⟨rfl, HB3.out.alloc HB3.out.size _⟩
end Go.Proofs.YtldllmhgofacbaaGreatDoor
