/- framesame.Lists: of two lists of lists that are the same it says so. -/
import Derived.Test.YtfokcjooibmigaaDoorSameInts
import Derived.Test.YtfokcjooibmigaaDoorRingsUse
namespace Go.Proofs.YtfokcjooibmigaaDoor
open Go.RowKit
set_option maxRecDepth 100000

theorem same_lists (A B : Option Addr) (n ca cb B1 B2 : Nat) (rs qs : List Ri) (w : World) (hA : RingsAt w B1 A n ca rs) (hB : RingsAt w B2 B n cb qs) (heq : rs.map Ri.xs = qs.map Ri.xs) (hn : n ≤ 1000) (hm : ∀ r ∈ rs, r.xs.length ≤ 1000) :
    Calls Tryd.prog 40 #[.slice A n ca, .slice B n cb] w (Read w (.bool true)) := by
  have HA := hid hA
  have HB := hid hB
  have HE := hid heq
  have HM := hid hm
  have hca := hA.row.le.1
  have hcb := hB.row.le.1
  clear hA hB heq hm
  go_enter Tryd.func40, Tryd.ntmps40
  go_wp2_with fail
  go_loopw [5, 6] (fun v5 v6 wr => ∃ k d : Nat, k ≤ n ∧ v5 = .int .i64 k ∧ wr = w.drewN d) (fun v5 _ _ => n - (intOf v5).toNat)
  case atStart => exact ⟨0, 0, by omega, rfl, rfl⟩
  case round =>
    obtain ⟨k, d, hk, rfl, hw⟩ := hrel
    have hbw : Below w.heap.size w wr := by rw [hw]; exact Below.drawnN (Below.refl _ _) _
    have HWR := hid hw
    clear hw
    by_cases hkn : k < n
    · obtain ⟨r, b, o, hr, rfl, hb1, c1, _⟩ := HA.out.get hkn
      obtain ⟨q, b2, o2, hq, rfl, hb2, c2, _⟩ := HB.out.get hkn
      rw [← hbw.cell (p := ⟨b, o + k, none⟩) hb1] at c1
      rw [← hbw.cell (p := ⟨b2, o2 + k, none⟩) hb2] at c2
      have hxs : r.xs = q.xs := by
        have h := congrArg (fun l => l[k]?) HE.out
        simp only [List.getElem?_map, hr, hq, Option.map_some, Option.some.injEq] at h
        exact h
      have hmr := HM.out r (List.mem_of_getElem? hr)
      have e1 := (HA.out.each r (List.mem_of_getElem? hr)).1
      have e2 := (HB.out.each q (List.mem_of_getElem? hq)).1
      rw [← hxs] at c2 e2
      obtain ⟨rA, rc, xs⟩ := r
      obtain ⟨qA, qc, ys⟩ := q
      simp only [] at c1 c2 e1 e2 hmr
      obtain ⟨m, hm⟩ : ∃ m, m = xs.length := ⟨_, rfl⟩
      rw [← hm] at c1 c2 e1 e2 hmr
      have l1 := e1.le.1
      have l2 := e2.le.1
      have E1 := hid (e1.sl.new hbw)
      have E2 := hid (e2.sl.new hbw)
      have HBW := hid hbw
      clear hr hq hxs e1 e2 hm hbw
      go_wp2_with fail
      go_quiet ((go_at_call 27; exact same_ints_q rA qA m rc qc xs wr _ E1.out E2.out (by omega) l1 l2))
      go_wp2_with fail
      go_roundw
      case rel => exact ⟨k + 1, _, by omega, by go_num, by rw [HWR.out, World.drewN_drewN]⟩
      case measure => simp [intOf]; omega
    · obtain rfl : k = n := by omega
      go_wp2_with fail
      go_ret
      exact ⟨rfl, d, HWR.out⟩
end Go.Proofs.YtfokcjooibmigaaDoor
