/- The variable run.unread as a row lists it: a struct of one error of package api. Conditions: none. -/
import Derived.Test.YthdmgighblhmhaaGreatDoorDoorTU
import Derived.Test.YthdmgighblhmhaaGreatDoorRunLine
namespace Go.Proofs.YthdmgighblhmhaaGreatDoor
open Go.ChangeShapes Go.WideShapes Go.RowKit
set_option maxRecDepth 100000

theorem Tryz.gUn : Tryz.prog.globalNamed "framekeep/run.unread" = some 0 := by kernel_rfl
theorem Tryz.gUnt : (Tryz.prog.globals[0]?).map (·.type) = some 97 := by kernel_rfl
theorem typeName_plain {P : Program} {nm : String} {tp : TypeId} (hrows : ((List.range P.types.size).all fun u => P.typeName? 3 u != some nm || u == tp) = true)
    (hstar : ∀ x : String, "*" ++ x ≠ nm) (u : TypeId) (hu : P.typeName? 3 u = some nm) : u = tp := by
  by_cases hlt : u < P.types.size
  · have := List.all_eq_true.1 hrows u (List.mem_range.2 hlt)
    simpa [hu] using this
  · exfalso
    unfold Program.typeName? at hu
    cases hi : P.info? u with
    | none => simp [hi] at hu
    | some i =>
      have hb := Tables.info?_beyond hlt hi
      simp only [hi] at hu
      cases hd : i.desc <;> simp only [hd, TypeDesc.tableOnly] at hu hb <;> try cases hb
      all_goals try cases hu
      simp only [Option.map_eq_some_iff] at hu
      obtain ⟨n', _, hs⟩ := hu
      exact hstar _ hs
theorem errno_star (x : String) : "*" ++ x ≠ "framekeep/api.Errno" := fun h => by
  have := congrArg (fun s : String => s.toList.head?) h
  simp [String.toList_append] at this
theorem Tryz.rowErrno (u : TypeId) (h : Tryz.prog.typeName? 3 u = some "framekeep/api.Errno") : u = 98 :=
  typeName_plain (by kernel_rfl) errno_star u h
theorem unread_of {W : World} {l : List (String × DataW Unit)} {k : Nat} {r : List (String × DataW Unit)} (h : laidMet Tryz.prog l W)
    (hk : l.drop k = ("framekeep/run.unread", .agg [.iface "framekeep/api.Errno" (.lit (.int .i64 2))]) :: r) : Unread W := by
  have h2 := laid_drop k h
  rw [hk] at h2
  obtain ⟨ps, ⟨g0, t0, cs0, f0, p0, q0, hg0, ht0, hv0, hd0, _, e0⟩, _, hrows⟩ := h2
  obtain rfl := Option.some.inj (Tryz.gUn.symm.trans hg0)
  obtain rfl := Option.some.inj (Tryz.gUnt.symm.trans ht0)
  subst e0
  obtain ⟨l0⟩ := cs0
  obtain ⟨y0, n, hx, hl, hy⟩ := trod_struct1 Tryz.underlying97 hd0
  have hc : Tryz.prog.cellsOf 97 = 1 := by kernel_rfl
  have hc1 : Tryz.prog.cellsOf 40 = 1 := by kernel_rfl
  rw [hc] at hl
  obtain ⟨c, rfl⟩ : ∃ c, l0 = [c] := by
    match l0, hl with
    | [c], _ => exact ⟨c, rfl⟩
  simp only [Prod.mk.injEq, DataW.agg.injEq, List.cons.injEq, and_true] at hx
  obtain ⟨hx1, hx2⟩ := hx
  have hy2 : DataW.trod (fun _ => ()) Tryz.prog W 0 (fun _ => true) false n 40 [c] = some y0 := by
    have := hy
    simp only [hc1, List.drop_zero, List.take_succ_cons, List.take_zero] at this
    exact this
  obtain ⟨d0, q1⟩ := y0
  simp only at hx1
  subst hx1
  obtain ⟨f1, u, v, e1, hn, h1⟩ := iface_of_trod Tryz.underlying40 hy2
  obtain rfl := Tryz.rowErrno u hn
  simp only [List.cons.injEq, and_true] at e1
  subst e1
  have hcell : W.cell? ⟨0, 0, none⟩ = some (.iface 98 v) := by simpa using World.var?_cell Tryz.gUn hv0 0
  have ok : Value.okWide Tryz.prog W .any 0 98 v := (hrows 0 0 (by simp [MemPlace.row])).2 _ v hcell
  obtain ⟨a, rfl⟩ := okWide_int Tryz.underlying98 ok
  obtain ⟨a', e2, e3, _⟩ := DataW.trod_int Tryz.underlying98 h1
  simp only [Value.cells, List.cons.injEq, Value.int.injEq, true_and, and_true] at e2
  subst e2
  simp only [Prod.mk.injEq, DataW.lit.injEq, Lit.int.injEq, true_and] at e3
  rw [← e3.1] at hcell
  exact hcell
end Go.Proofs.YthdmgighblhmhaaGreatDoor
