/- Several parts: each begins with what it says. -/
import Derived.Test.YthdmgighblhmhaaGreatDoorRunAU
import Derived.Test.YthdmgighblhmhaaGreatDoorRunU
import Derived.Test.YthdmgighblhmhaaGreatDoorBuildU
import Derived.Test.YthdmgighblhmhaaGreatDoorPart
import Derived.Test.YthdmgighblhmhaaGreatDoorStandU
import Derived.OrdersIn
import Derived.OrdersHeld
import Derived.Deep.RegionHeld
import Derived.RangeFuncCalls
/- Package run: the contract of Plan: the plan of sessions. Conditions: none. -/
namespace Go.Proofs.YthdmgighblhmhaaGreatDoor
open Go.RowKit
set_option maxRecDepth 100000

def opsA : List Op := [⟨1, 1, 1⟩, ⟨3, 0, 1⟩, ⟨8, 0, 0⟩, ⟨9, 2, 1⟩, ⟨7, 0, 1⟩]
def opsB : List Op := [⟨9, 0, 0⟩, ⟨5, 0, 0⟩, ⟨8, 0, 1⟩]
def spansR : List Span := [⟨0, 2, 0⟩, ⟨2, 3, 1⟩]
def wiresR : List Wire := [⟨0, 1, 2, 2⟩, ⟨1, 0, 1, 1⟩]
/-- The plan of sessions as it lies. -/
def runPM (ab bb cb sb wb : Nat) : PM :=
  ⟨some ⟨cb, 0, none⟩, 2, [⟨some ⟨ab, 0, none⟩, 5, opsA⟩, ⟨some ⟨bb, 0, none⟩, 3, opsB⟩], 4, some ⟨sb, 0, none⟩, 2, spansR, some ⟨wb, 0, none⟩, 2, wiresR⟩
theorem runPM_pl (ab bb cb sb wb : Nat) : (runPM ab bb cb sb wb).pl = runPl := rfl
theorem run_plan_at {w : World} {ab bb cb sb wb t1 t2 t3 t4 t5 : Nat}
    (h1 : w.heap[ab]? = some (.cells (opsA.flatMap Op.cells).toArray t1 (0, 0))) (h2 : w.heap[bb]? = some (.cells (opsB.flatMap Op.cells).toArray t2 (0, 0)))
    (h3 : w.heap[cb]? = some (.cells #[.slice (some ⟨ab, 0, none⟩) 5 5, .slice (some ⟨bb, 0, none⟩) 3 3] t3 (0, 0)))
    (h4 : w.heap[sb]? = some (.cells (spansR.flatMap Span.cells).toArray t4 (0, 0))) (h5 : w.heap[wb]? = some (.cells (wiresR.flatMap Wire.cells).toArray t5 (0, 0))) : PlanAt w (runPM ab bb cb sb wb) := by
  refine ⟨sl_blk h3 1 2 _ rfl rfl, lit_slW _ 2 (by omega), fun r hr => ?_, fits_lit (show -1000 ≤ (4 : Int) ∧ (4 : Int) ≤ 1000 by decide), sl_blk h4 3 2 (spansR.flatMap Span.cells) (by simp) rfl, lit_slW _ 2 (by omega), fun s hs => ?_, sl_blk h5 4 2 (wiresR.flatMap Wire.cells) (by simp) rfl, lit_slW _ 2 (by omega), fun x hx => ?_⟩
  · simp [runPM] at hr
    rcases hr with rfl | rfl
    · exact ⟨sl_blk h1 3 5 (opsA.flatMap Op.cells) (by simp) rfl, lit_slW _ 5 (by omega), fun o ho => by
        simp [opsA] at ho
        rcases ho with rfl | rfl | rfl | rfl | rfl <;> exact ⟨fits_lit (by decide), fits_lit (by decide), fits_lit (by decide)⟩⟩
    · exact ⟨sl_blk h2 3 3 (opsB.flatMap Op.cells) (by simp) rfl, lit_slW _ 3 (by omega), fun o ho => by
        simp [opsB] at ho
        rcases ho with rfl | rfl | rfl <;> exact ⟨fits_lit (by decide), fits_lit (by decide), fits_lit (by decide)⟩⟩
  · simp [runPM, spansR] at hs
    rcases hs with rfl | rfl <;> exact ⟨fits_lit (by decide), fits_lit (by decide), fits_lit (by decide)⟩
  · simp [runPM, wiresR] at hx
    rcases hx with rfl | rfl <;> exact ⟨fits_lit (by decide), fits_lit (by decide), fits_lit (by decide), fits_lit (by decide)⟩
theorem alloc6 (w : World) (o0 o1 o2 o3 o4 o5 : Obj) {W : World} (hW : W = (((((w.alloc o0).alloc o1).alloc o2).alloc o3).alloc o4).alloc o5) :
    W.heap[w.heap.size]? = some o0 ∧ W.heap[w.heap.size + 1]? = some o1 ∧ W.heap[w.heap.size + 1 + 1]? = some o2 ∧ W.heap[w.heap.size + 1 + 1 + 1]? = some o3 ∧ W.heap[w.heap.size + 1 + 1 + 1 + 1]? = some o4 ∧ W.heap[w.heap.size + 1 + 1 + 1 + 1 + 1]? = some o5 ∧ Below w.heap.size w W := by
  subst hW
  have h0 := heap_alloc_new w o0
  have h1 := heap_alloc_new (w.alloc o0) o1
  have h2 := heap_alloc_new ((w.alloc o0).alloc o1) o2
  have h3 := heap_alloc_new (((w.alloc o0).alloc o1).alloc o2) o3
  have h4 := heap_alloc_new ((((w.alloc o0).alloc o1).alloc o2).alloc o3) o4
  have h5 := heap_alloc_new (((((w.alloc o0).alloc o1).alloc o2).alloc o3).alloc o4) o5
  simp only [sz_alloc] at h1 h2 h3 h4 h5
  refine ⟨?_, ?_, ?_, ?_, ?_, h5, ?_⟩
  · rw [blk_alloc (by simp only [sz_alloc]; omega), blk_alloc (by simp only [sz_alloc]; omega), blk_alloc (by simp only [sz_alloc]; omega), blk_alloc (by simp only [sz_alloc]; omega), blk_alloc (by simp only [sz_alloc]; omega), h0]
  · rw [blk_alloc (by simp only [sz_alloc]; omega), blk_alloc (by simp only [sz_alloc]; omega), blk_alloc (by simp only [sz_alloc]; omega), blk_alloc (by simp only [sz_alloc]; omega), h1]
  · rw [blk_alloc (by simp only [sz_alloc]; omega), blk_alloc (by simp only [sz_alloc]; omega), blk_alloc (by simp only [sz_alloc]; omega), h2]
  · rw [blk_alloc (by simp only [sz_alloc]; omega), blk_alloc (by simp only [sz_alloc]; omega), h3]
  · rw [blk_alloc (by simp only [sz_alloc]; omega), h4]
  · exact (((((((Below.refl _ _).alloc (Nat.le_refl _) _).alloc (by simp only [sz_alloc]; omega) _).alloc (by simp only [sz_alloc]; omega) _).alloc (by simp only [sz_alloc]; omega) _).alloc (by simp only [sz_alloc]; omega) _).alloc (by simp only [sz_alloc]; omega) _)
set_option maxHeartbeats 4000000 in
theorem runplan_any (w : World) : Calls Tryz.prog 13 #[] w fun e w' => ∃ (m : PM), m.pl = runPl ∧ e = .returned (.agg #[.slice m.A m.ros.length m.c, .int .i64 m.ticks, .slice m.sA m.spans.length m.sc, .slice m.wA m.wires.length m.wc]) ∧ PlanAt w' m ∧ Below w.heap.size w w' := by
  go_enter Tryz.func13, Tryz.ntmps13
  go_wp2_with fail
  obtain ⟨W, hW⟩ : ∃ W, W = ((((((w.alloc (.cells #[.slice (some ⟨w.heap.size + 1 + 1 + 1, 0, none⟩) 2 2, .int .i64 4, .slice (some ⟨w.heap.size + 1 + 1 + 1 + 1, 0, none⟩) 2 2, .slice (some ⟨w.heap.size + 1 + 1 + 1 + 1 + 1, 0, none⟩) 2 2] 31)).alloc (.cells (opsA.flatMap Op.cells).toArray 72)).alloc (.cells (opsB.flatMap Op.cells).toArray 72)).alloc (.cells #[.slice (some ⟨w.heap.size + 1, 0, none⟩) 5 5, .slice (some ⟨w.heap.size + 1 + 1, 0, none⟩) 3 3] 70)).alloc (.cells (spansR.flatMap Span.cells).toArray 69)).alloc (.cells (wiresR.flatMap Wire.cells).toArray 62)) := ⟨_, rfl⟩
  have h := alloc6 w _ _ _ _ _ _ hW
  change bodyPost _ _ _ _ _ ((((((w.alloc (.cells #[.slice (some ⟨w.heap.size + 1 + 1 + 1, 0, none⟩) 2 2, .int .i64 4, .slice (some ⟨w.heap.size + 1 + 1 + 1 + 1, 0, none⟩) 2 2, .slice (some ⟨w.heap.size + 1 + 1 + 1 + 1 + 1, 0, none⟩) 2 2] 31)).alloc (.cells (opsA.flatMap Op.cells).toArray 72)).alloc (.cells (opsB.flatMap Op.cells).toArray 72)).alloc (.cells #[.slice (some ⟨w.heap.size + 1, 0, none⟩) 5 5, .slice (some ⟨w.heap.size + 1 + 1, 0, none⟩) 3 3] 70)).alloc (.cells (spansR.flatMap Span.cells).toArray 69)).alloc (.cells (wiresR.flatMap Wire.cells).toArray 62))
  rw [← hW]
  clear hW
  obtain ⟨h0, h1, h2, h3, h4, h5, hb⟩ := h
  have c0 := blk_cell h0 0
  have c1 := blk_cell h0 1
  have c2 := blk_cell h0 2
  have c3 := blk_cell h0 3
  simp at c0 c1 c2 c3
  exact bodyPost_ret (v := .agg #[.slice (some ⟨w.heap.size + 1 + 1 + 1, 0, none⟩) 2 2, .int .i64 4, .slice (some ⟨w.heap.size + 1 + 1 + 1 + 1, 0, none⟩) 2 2, .slice (some ⟨w.heap.size + 1 + 1 + 1 + 1 + 1, 0, none⟩) 2 2]) (by simp [results, Tryz.results13, go_sem, c0, c1, c2, c3]) rfl ⟨runPM _ _ _ _ _, rfl, rfl, run_plan_at h1 h2 h3 h4 h5, hb⟩
end Go.Proofs.YthdmgighblhmhaaGreatDoor

/- The library's strings.Builder among things that stand beside each other. Conditions: none. -/
namespace Go.Proofs.YthdmgighblhmhaaGreatDoor
open Go.RowKit
set_option maxRecDepth 100000

/-- Where the row of bytes lies behind an append: where it lay, or in new memory. -/
theorem append_str_block {P : Program} (w : World) (t u ty e : TypeId) (i : TypeInfo) (ht : P.underlying t = some (.slice e)) (hu : P.underlying u = some .string) (hi : P.info? e = some i) (hz : i.zero = some (.int .u8 0))
    (hsize : i.size = 1) (hby : i.bytes = 1) (v : Value) (n : Nat) (xs : List Value) (hown : w.ownsRowF 0 e 1 v n xs) (s : ByteArray) (h63 : n + s.size ≤ maxLen) (hbytes : n + s.size ≤ 140737488355328) :
    ∃ v' w', (Builtin.append_ #[t, u] ty #[v, .string s]).run P w = .ok v' w' ∧ w'.ownsRowF 0 e 1 v' (n + s.size) (xs ++ Lib.strCells s) ∧ w.grownBy w' v.ownBlock ∧ (v'.ownBlock = v.ownBlock ∨ ∀ k, v'.ownBlock = some k → w.heap.size ≤ k) := by
  rcases hown.2 with ⟨rfl, rfl⟩ | ⟨g, cap, cur, fz, rfl, hbg, hg, hfz, hnc, hcm, hcs, htake⟩
  · obtain ⟨v', w', h1, h2, h3, _⟩ := Lib.run_append_own_stringF (P := P) w w.heap.size t u ty e i ht hu hi hz hsize hby (.slice none 0 0) 0 xs ⟨hown.1, .inl ⟨rfl, rfl⟩⟩ s h63 hbytes (Nat.le_refl _)
    refine ⟨v', w', h1, ⟨h2.1, h2.2.imp_right fun ⟨g, cap, cur, fz, a, _, c⟩ => ⟨g, cap, cur, fz, a, Nat.zero_le _, c⟩⟩, h3, .inr fun k hk => (h2.lt k hk).1⟩
  · obtain ⟨v', w', h1, h2, h3, _⟩ := Lib.run_append_own_stringF (P := P) w 0 t u ty e i ht hu hi hz hsize hby _ n xs hown s h63 hbytes (Nat.zero_le _)
    refine ⟨v', w', h1, h2, h3, ?_⟩
    have hxl : xs.length = n := by simpa using hown.1
    by_cases hroom : n + s.size ≤ cap
    · have hcs' : cur.size = cap := by simpa using hcs
      have hr := Lib.run_append_room_stringF (P := P) w t u ty e i ht hu hi hsize g n cap cur fz hg (by simpa using hfz) s hroom (by omega)
      rw [hr] at h1
      injection h1 with e1 e2
      rw [← e1]
      exact .inl rfl
    · have holds : ∀ j u, xs[j]? = some u → w.cell? ((⟨g, 0, none⟩ : Addr).add j) = some u := hown.cells (g := g) rfl
      have hr := Lib.run_append_grow_string (P := P) w t u ty e i (.int .u8 0) ht hu hi hz ⟨g, 0, none⟩ n cap xs (by rw [hsize]; simpa using hxl) holds s (by omega) (by simp only [maxLen] at h63; omega) (by rw [hby]; exact growslice_fits (by simp only [maxLen] at h63; omega) (by omega))
      rw [hr] at h1
      injection h1 with e1 e2
      rw [← e1]
      refine .inr fun k hk => ?_
      simp [Value.ownBlock] at hk
      omega
theorem wpList_append_strG {P : Program} (w : World) {ops : Array Oper} {rest : List Oper} {o : Oper} {a : Act} {Q : Exit → Act → World → Prop} (hgd : o.guard = none) (sl x : Operand) (t u : TypeId)
    (ho : o.op = .call { callee := .builtin .append, args := #[sl, x], argTypes := #[t, u] })
    (e : TypeId) (i : TypeInfo) (ht : P.underlying t = some (.slice e)) (hu : P.underlying u = some .string) (hi : P.info? e = some i) (hz : i.zero = some (.int .u8 0))
    (hsize : i.size = 1) (hby : i.bytes = 1)
    (v : Value) (n : Nat) (xs : List Value) (hs : a.eval sl = v) (hown : w.ownsRowF 0 e 1 v n xs) (s : ByteArray) (hx : a.eval x = .string s)
    (h63 : n + s.size ≤ maxLen) (hbytes : n + s.size ≤ 140737488355328)
    (h : ∀ v' w', w'.ownsRowF 0 e 1 v' (n + s.size) (xs ++ Lib.strCells s) → w.grownBy w' v.ownBlock → (v'.ownBlock = v.ownBlock ∨ ∀ k, v'.ownBlock = some k → w.heap.size ≤ k) → wpList P ops Q rest (a.put o.dst v') w') : wpList P ops Q (o :: rest) a w := by
  refine wpList_plain hgd fun K hK => ?_
  obtain ⟨v', w', hr, h2, h3, h4⟩ := append_str_block (P := P) w t u o.type e i ht hu hi hz hsize hby v n xs hown s h63 hbytes
  unfold Oper.wp execOp
  simp only [ho, resolve, invoke, builtin, Sem.run_bind, Sem.run_pure, Result.andThen_ok, List.map_toArray, List.map_cons, List.map_nil, hs, hx, hr]
  exact hK _ _ (h v' w' h2 h3 h4)

/-- A builder in block b, its bytes in block g. -/
def BldG (b : Nat) (g : Option Nat) (l : List UInt8) (w : World) : Prop :=
  ∃ p v, (p = .pointer none ∨ p = .pointer (some ⟨b, 0, none⟩)) ∧ w.heap[b]? = some (.cells #[p, v] 48 (0, 0)) ∧ w.ownsRowF 0 5 1 v l.length (Lib.byteCells l) ∧ v.ownBlock = g ∧ g ≠ some b
def bldT (b : Nat) (g : Option Nat) (l : List UInt8) : Tg := ⟨fun j => j = b ∨ g = some j, fun j => j = b ∨ g = some j, fun w => BldG b g l w⟩
theorem ownsF_keep {w w' : World} {e : TypeId} {v : Value} {n : Nat} {xs : List Value} (h : w.ownsRowF 0 e 1 v n xs) (hk : ∀ k, v.ownBlock = some k → k < w.heap.size → w'.heap[k]? = w.heap[k]?) : w'.ownsRowF 0 e 1 v n xs := by
  refine ⟨h.1, ?_⟩
  rcases h.2 with hn | ⟨g, cap, cur, fz, rfl, hb, hg, rest⟩
  · exact .inl hn
  · exact .inr ⟨g, cap, cur, fz, rfl, hb, (hk g rfl (blk_lt hg)).trans hg, rest⟩
theorem bld_lie {w : World} {b : Nat} {g : Option Nat} {l : List UInt8} (h : BldG b g l w) : Lie w (bldT b g l) := by
  refine ⟨h, ?_, fun _ hj => hj, fun w' hs hk => ?_⟩
  · obtain ⟨p, v, _, hb, hown, hg, _⟩ := h
    rintro j (rfl | hj)
    · exact blk_lt hb
    · exact (hown.lt j (hg.trans hj)).2
  · obtain ⟨p, v, hp, hb, hown, hg, hne⟩ := h
    exact ⟨p, v, hp, (hk b (blk_lt hb) (.inl rfl)).trans hb, ownsF_keep hown fun k hv hl => hk k hl (.inr (hg.symm.trans hv)), hg, hne⟩
theorem bld_celled (b : Nat) (g : Option Nat) (l : List UInt8) : Celled (bldT b g l) := by
  intro w h j hj
  obtain ⟨p, v, _, hb, hown, hg, _⟩ := (show BldG b g l w from h.here)
  rcases hj with rfl | hj
  · exact ⟨_, hb, rfl⟩
  · rcases hown.2 with ⟨rfl, _⟩ | ⟨g', cap, cur, fz, rfl, _, hh, _⟩
    · rw [hj] at hg; simp [Value.ownBlock] at hg
    · rw [hj] at hg
      simp [Value.ownBlock] at hg
      subst hg
      exact ⟨_, hh, rfl⟩
/-- A new one. -/
theorem bldg_fresh (w : World) : BldG w.heap.size none [] (w.alloc (.cells #[.pointer none, .slice none 0 0] 48)) :=
  ⟨_, _, .inl rfl, heap_alloc_new w _, World.ownsRowF_nil _ _ _ _, rfl, by simp⟩
theorem Stand.addB {w0 w : World} {ts : List Tg} (h : Stand w0 w ts) : Stand w0 (w.alloc (.cells #[.pointer none, .slice none 0 0] 48)) (ts ++ [bldT w.heap.size none []]) :=
  h.add ((Below.refl _ _).alloc (Nat.le_refl _) _) (bld_lie (bldg_fresh w)) (fun j hj => by rcases hj with rfl | hj; exact Nat.le_refl _; cases hj) (fun j hj => by rcases hj with rfl | hj; exact .inl (Nat.le_refl _); cases hj)
set_option maxHeartbeats 4000000 in
theorem writeG_any (b : Nat) (g : Option Nat) (l : List UInt8) (s : ByteArray) (w : World) (h : BldG b g l w) (hlen : l.length + s.size ≤ 1000000000) :
    Calls Tryz.prog 15 #[.pointer (some ⟨b, 0, none⟩), .string s] w fun e w' => ∃ g', e = .returned (.tuple #[.int .i64 s.size, .nilIface]) ∧ Went w w' (bldT b g l) (bldT b g' (l ++ s.data.toList)) := by
  obtain ⟨i0, hi, hz0, hz1, hz2⟩ := info_parts Tryz.infoByte
  have hbl := Lib.byteCells_length l
  obtain ⟨p, v, hp, hb, hown, hg, hne⟩ := h
  have hcc : Calls Tryz.prog 31 #[.pointer (some ⟨b, 0, none⟩)] w fun e w' => e = .returned (.tuple #[]) ∧ w'.heap[b]? = some (.cells #[.pointer (some ⟨b, 0, none⟩), v] 48 (0, 0)) ∧ Keep (fun j => j = b) w w' := by
    have c0 : w.cell? ⟨b, 0, none⟩ = some p := by rw [Lib.cell_of_heap hb]; rfl
    rcases hp with rfl | rfl
    · refine (ccheck_fresh b w c0 (by simp [World.shape?, hb]) (blk_free hb 0)).mono ?_
      rintro e w' ⟨rfl, rfl⟩
      exact ⟨rfl, blk_set hb 0 _, Keep.setCell (Keep.refl (fun j => j = b) w) (.inl rfl) _⟩
    · refine (ccheck_used b w c0).mono ?_
      rintro e w' ⟨rfl, rfl⟩
      exact ⟨rfl, hb, Keep.refl _ _⟩
  have hltb := blk_lt hb
  have HOWN := hid hown
  have HG := hid hg
  have HNE := hid hne
  clear hown hg hne hb hp
  go_enter Tryz.func15, Tryz.ntmps15
  go_wp2_with (go_at_call 31; refine hcc.mono ?_)
  rintro e w1 ⟨rfl, hbk, hk1⟩
  have c0 : w1.cell? ⟨b, 0, none⟩ = some (.pointer (some ⟨b, 0, none⟩)) := by rw [Lib.cell_of_heap hbk]; rfl
  have c1 : w1.cell? ⟨b, 1, none⟩ = some v := by rw [Lib.cell_of_heap hbk]; rfl
  have hown1 : w1.ownsRowF 0 5 1 v (Lib.byteCells l).length (Lib.byteCells l) := by
    rw [hbl]
    exact ownsF_keep HOWN.out fun k hv hl => hk1.block k hl (fun e => HNE.out (by rw [← HG.out, hv, e]))
  clear hcc
  go_wp2_with (at_builtin; refine wpList_append_strG _ rfl _ _ 46 9 rfl 5 i0 Tryz.underlying46 Tryz.underlying9 hi hz0 hz1 hz2 _ _ _ rfl hown1 s rfl ?c3 ?c4 ?_)
  case c3 => unfold maxLen; omega
  case c4 => omega
  intro v' w2 hown' hgrow hblk
  have hlt : b < w1.heap.size := blk_lt hbk
  have hb2 : w2.heap[b]? = some (.cells #[.pointer (some ⟨b, 0, none⟩), v] 48 (0, 0)) := by
    rw [hgrow.block b hlt (fun e => HNE.out (by rw [← HG.out, ← e]))]
    exact hbk
  have d0 : w2.cell? ⟨b, 0, none⟩ = some (.pointer (some ⟨b, 0, none⟩)) := by rw [Lib.cell_of_heap hb2]; rfl
  have d1 : w2.cell? ⟨b, 1, none⟩ = some v := by rw [Lib.cell_of_heap hb2]; rfl
  have f1 : w2.frozen? ⟨b, 1, none⟩ = false := Lib.frozen_of_heap hb2 1
  obtain ⟨ao, n', cap, rfl⟩ : ∃ ao n' cap, v' = .slice ao n' cap := by
    rcases hown'.2 with ⟨hv, _⟩ | ⟨g, cap, cur, fz, hv, _⟩
    · exact ⟨_, _, _, hv⟩
    · exact ⟨_, _, _, hv⟩
  have HW : Hid (Went w (w2.setCell ⟨b, 1, none⟩ (.slice ao n' cap)) (bldT b g l) (bldT b (Value.slice ao n' cap).ownBlock (l ++ s.data.toList))) := hid (by
    have hs1 := hk1.size
    have hneb : (Value.slice ao n' cap).ownBlock ≠ some b := by
      intro e
      rcases hblk with h | h
      · exact HNE.out (by rw [← HG.out, ← h, e])
      · have := h b e; omega
    have hkeep : Keep (fun j => j = b ∨ g = some j) w (w2.setCell ⟨b, 1, none⟩ (.slice ao n' cap)) := by
      have k2 : Keep (fun j => j = b ∨ g = some j) w1 w2 := ⟨hgrow.os, hgrow.tape, hgrow.output, hgrow.size, fun i hi hn => hgrow.block i hi (fun e => hn (.inr (HG.out.symm.trans e.symm)))⟩
      have k1 : Keep (fun j => j = b ∨ g = some j) w w1 := hk1.mono fun j _ hj => .inl hj
      exact Keep.setCell (k1.then k2 fun _ _ h => h) (.inl (.inl rfl)) _
    have hfn : ∀ j, (j = b ∨ (Value.slice ao n' cap).ownBlock = some j) → (j = b ∨ g = some j) ∨ w.heap.size ≤ j := fun j hj => by
      rcases hj with hj | hj
      · exact .inl (.inl hj)
      · rcases hblk with h | h
        · exact .inl (.inr (by rw [← HG.out, ← h, hj]))
        · exact .inr (by have := h j hj; omega)
    refine ⟨bld_lie ⟨_, _, .inr rfl, blk_set hb2 1 _, ?_, rfl, hneb⟩, hkeep, hfn, hfn⟩
    rw [Lib.byteCells_append, List.length_append]
    have h5 : w2.ownsRowF 0 5 1 (.slice ao n' cap) (l.length + s.data.toList.length) (Lib.byteCells l ++ Lib.byteCells s.data.toList) := by
      have := hown'
      rw [Lib.size_eq] at this
      exact this
    exact ownsF_keep h5 fun k hv _ => Below.heap_setCell _ _ _ _ (fun e => hneb (hv.trans (congrArg some e))))
  clear hown' hgrow hblk hbk hk1 hb2 HOWN HG HNE
  go_wp2
  go_ret2
  exact ⟨_, rfl, HW.out⟩
end Go.Proofs.YthdmgighblhmhaaGreatDoor

/- A region that draws its order, in a round of a range over a function: by the unfenced rules. -/
namespace Go.Proofs.YthdmgighblhmhaaGreatDoor

section
variable {P : Program} {ops : Array Oper} {Q : Exit → Act → World → Prop} {S : World → Prop} {l n : Nat}
/-- What must hold behind, and it is not let out. -/
def StrictQ (Q : Exit → Act → World → Prop) : Exit → Act → World → Prop
  | .outgrown, _, _ => False
  | e, a, w => Q e a w
theorem strict_not : ¬ LetsOut (StrictQ Q) := by
  rintro ⟨a, w, h⟩
  exact h
theorem strict_normal {a : Act} {w : World} (h : Q .normal a w) : StrictQ Q .normal a w := h
def noDefers (ops : Array Oper) : Bool := ops.toList.all fun o => match o.op with | .defer _ => false | _ => true
theorem noDefers_spec (h : noDefers ops = true) {i : Nat} {o : Oper} (ho : ops[i]? = some o) (c) : o.op ≠ .defer c := fun e => by
  unfold noDefers at h
  have h1 := List.all_eq_true.1 h o (by
    rw [← Array.getElem?_toList] at ho
    exact List.mem_of_getElem? ho)
  rw [e] at h1
  exact absurd h1 (by simp)
theorem upon_round {o : Oper} {a : Act} {K K' : Act → World → Prop} (hK : ∀ a w, K a w → K' a w) : ∀ {r : Result Next}, o.upon P a K (StrictQ Q) r → o.uponIn (Fence.wide.inRound l) n P a K' Q r
  | .ok (.value v) w', h => hK _ _ h
  | .ok .skip w', h => hK _ _ h
  | .ok (.defer d) w', h => hK _ _ h
  | .ok (.enter f args) w', h => ⟨fun hd => by simp [Fence.wide] at hd, CallsIn.inRound l ((callsIn_wide.2 h).mono fun e w'' he => by
      cases e with
      | returned v => exact hK _ _ he
      | panicked c => exact he
      | outgrown => exact absurd he strict_not)⟩
  | .ok (.row row args) w', h => ⟨fun hd => by simp [Fence.wide] at hd, fun c cs _ => let ⟨v, w'', r, s⟩ := h c cs; ⟨v, w'', hK _ _ r, stepsIn_wide.2 s⟩⟩
  | .ok (.round ..) w', h => h.elim
  | .halt (.panic v) w', h => h
  | .halt (.stuck s) w', h => by simp [Oper.upon] at h
theorem ops_round (hnd : noDefers ops = true) : ∀ (is : List Nat) (a : Act) (w : World), wpOps P ops (StrictQ Q) is a w → wpOpsIn (Fence.wide.inRound l) n P ops Q is a w
  | [], a, w, h => h
  | i :: rest, a, w, h => by
    rw [wpOps_cons] at h
    rw [wpOpsIn_cons]
    unfold wpOp at h
    unfold wpOpIn
    cases ho : ops[i]? with
    | none =>
      simp only [ho] at h ⊢
      exact ops_round hnd rest a w h
    | some o =>
      simp only [ho] at h ⊢
      split
      · rename_i hw
        simp only [hw, if_true] at h
        rcases h with h | ⟨_, h⟩
        · refine ⟨fun _ _ => trivial, ?_⟩
          rw [Oper.semAt_eq _ _ _ (noDefers_spec hnd ho)]
          exact upon_round (fun a w h => ops_round hnd rest a w h) h
        · exact absurd h strict_not
      · rename_i hw
        simp only [hw] at h
        exact ⟨fun _ _ => trivial, ops_round hnd rest _ w h⟩
theorem wpIn_round_held {id : Nat} {a : Act} {w : World} (hm : P.follows .mixedOrders = true) (hnd : noDefers ops = true) (hS : S w.drew)
    (h : S w.drew → wpAnyH P .any ops (StrictQ Q) S ops.size (Array.replicate ops.size false) a w.drew) : (Code.region id ops true).wpIn (Fence.wide.inRound l) n P Q a w :=
  wpIn_region_draw fun t => by
    simp only [Region.schedule, hm, Bool.true_or, if_true]
    exact ops_round hnd _ _ _ (wpAny_sound ops.size t _ a _ (wpAny_of_held _ _ _ _ (h hS)))
end
end Go.Proofs.YthdmgighblhmhaaGreatDoor
