/- Several parts: each begins with what it says. -/
import Derived.Test.YthdmgighblhmhaaGreatDoorDeskU
import Derived.Deep.DeepCutAuto
import Derived.Test.YthdmgighblhmhaaGreatDoorRunU
import Derived.Test.YthdmgighblhmhaaGreatDoorGetU
import Derived.Test.YthdmgighblhmhaaGreatDoorPlanU
import Derived.Deep.CutBlock
import Derived.Deep.RegionLaw
import Derived.Test.YthdmgighblhmhaaGreatDoorRangeU
import Derived.Test.YthdmgighblhmhaaGreatDoorSnapRdU
/- Package snap: the contract of line, for every word and numbers. Conditions: the library's table of powers, which the row lists. -/
namespace Go.Proofs.YthdmgighblhmhaaGreatDoor
open Go.RowKit
set_option maxRecDepth 100000

/-- A line of a word and numbers. -/
def lineT (w : List UInt8) (l : List Int) : List UInt8 := w ++ l.flatMap numT ++ [10]
theorem lineT_10 {w : List UInt8} (h : (10 : UInt8) ∉ w) (l : List Int) : (lineT w l).count 10 = 1 := by
  unfold lineT
  rw [List.count_append, List.count_append, List.count_eq_zero.2 h, List.count_eq_zero.2 (nums_no10 l)]
  rfl
theorem numT_le {n : Int} (h0 : 0 ≤ n) (h1 : n ≤ 200000000) : (numT n).length ≤ 22 := by
  have := Lib.itoa_length_le n (by omega) (by omega)
  unfold numT; simp; omega
theorem nums_le : ∀ (l : List Int), (∀ n ∈ l, 0 ≤ n ∧ n ≤ 200000000) → (l.flatMap numT).length ≤ 22 * l.length
  | [], _ => by simp
  | n :: l, h => by
    have h1 := numT_le (h n (by simp)).1 (h n (by simp)).2
    have h2 := nums_le l (fun m hm => h m (by simp [hm]))
    rw [List.flatMap_cons, List.length_append, List.length_cons]; omega
theorem take_nums {l : List Int} {j : Nat} {n : Int} (h : l[j]? = some n) : (l.take (j + 1)).flatMap numT = (l.take j).flatMap numT ++ numT n := by
  obtain ⟨h1, h2⟩ := List.getElem?_eq_some_iff.1 h
  rw [List.take_succ_eq_append_getElem h1, List.flatMap_append, h2]; simp

end Go.Proofs.YthdmgighblhmhaaGreatDoor

/- Package snap: the contract of Save, for every kernel of a plan that is right. Conditions: the tables that the row lists. -/
namespace Go.Proofs.YthdmgighblhmhaaGreatDoor
open Go.RowKit
set_option maxRecDepth 100000

def roomNums (s : St) : List Int := [s.pc, s.c0, s.c1, s.c2, s.c3, s.c4, s.c5, if s.failed then 1 else 0]
def roomLine (s : St) : List UInt8 := lineT [114, 111, 111, 109] (roomNums s)
def wireLine (x : Ln) : List UInt8 := lineT [119, 105, 114, 101] (x.lost :: x.items)
def snapHead (k : Kst) : List UInt8 := lineT [116, 105, 109, 101] [k.time]
def snapText (k : Kst) : List UInt8 := snapHead k ++ k.rooms.flatMap roomLine ++ k.lines.flatMap wireLine
theorem flat_10 {α : Type} (f : α → List UInt8) (h : ∀ x, (f x).count 10 = 1) : ∀ l : List α, (l.flatMap f).count 10 = l.length
  | [] => rfl
  | x :: l => by rw [List.flatMap_cons, List.count_append, h, flat_10 f h l, List.length_cons]; omega
theorem snap_10 (k : Kst) : (snapText k).count 10 = 1 + k.rooms.length + k.lines.length := by
  unfold snapText snapHead
  rw [List.count_append, List.count_append, lineT_10 (by decide), flat_10 roomLine (fun s => lineT_10 (by decide) _), flat_10 wireLine (fun s => lineT_10 (by decide) _)]
theorem lineT_le {w : List UInt8} {l : List Int} {n : Nat} (hw : w.length ≤ 4) (hl : l.length ≤ n) (h : ∀ x ∈ l, 0 ≤ x ∧ x ≤ 200000000) : (lineT w l).length ≤ 5 + 22 * n := by
  have h1 := nums_le l h
  unfold lineT
  simp only [List.length_append, List.length_singleton]; omega
theorem flat_le {α : Type} (f : α → List UInt8) (n : Nat) : ∀ l : List α, (∀ x ∈ l, (f x).length ≤ n) → (l.flatMap f).length ≤ n * l.length
  | [], _ => by simp
  | x :: l, h => by
    have h1 := h x (by simp)
    have h2 := flat_le f n l fun y hy => h y (by simp [hy])
    rw [List.flatMap_cons, List.length_append, List.length_cons, Nat.mul_succ]; omega
theorem take_flat {α : Type} (f : α → List UInt8) {l : List α} {j : Nat} {x : α} (h : l[j]? = some x) : (l.take (j + 1)).flatMap f = (l.take j).flatMap f ++ f x := by
  obtain ⟨h1, h2⟩ := List.getElem?_eq_some_iff.1 h
  rw [List.take_succ_eq_append_getElem h1, List.flatMap_append, h2]; simp

/-- What stands as a kernel's numbers in its text. -/
structure SnapOk (k : Kst) : Prop where
  time : 0 ≤ k.time ∧ k.time ≤ 200000000
  rooms : ∀ s ∈ k.rooms, ∀ x ∈ roomNums s, 0 ≤ x ∧ x ≤ 200000000
  lines : ∀ x ∈ k.lines, x.items.length ≤ 6 ∧ ∀ n ∈ x.lost :: x.items, 0 ≤ n ∧ n ≤ 200000000
  few : k.rooms.length ≤ 5 ∧ k.lines.length ≤ 12
theorem roomNums_le {p : Pl} {k : Kst} {B : Int} (hp : PlOk p) (hk : KOk p k B) {s : St} (hs : s ∈ k.rooms) : ∀ x ∈ roomNums s, 0 ≤ x ∧ x ≤ 1000 := by
  intro x hx
  obtain ⟨r, hr⟩ := List.mem_iff_getElem?.1 hs
  have hl := (List.getElem?_eq_some_iff.1 hr).1
  have hc := List.getElem?_eq_getElem (show r < p.code.length by rw [← hk.rooms]; exact hl)
  have h1 := hk.states r _ s hc hr
  have h2 : (p.code[r]'(by rw [← hk.rooms]; exact hl)).length ≤ 20 := (codeChk_ok (hp.codes _ (List.getElem_mem _))).2.1
  obtain ⟨h3, h4⟩ := stOk_iff.1 h1
  have g0 := h4 0 (by omega)
  have g1 := h4 1 (by omega)
  have g2 := h4 2 (by omega)
  have g3 := h4 3 (by omega)
  have g4 := h4 4 (by omega)
  have g5 := h4 5 (by omega)
  simp only [St.get] at g0 g1 g2 g3 g4 g5
  simp only [roomNums, List.mem_cons, List.mem_nil_iff, or_false] at hx
  rcases hx with rfl | rfl | rfl | rfl | rfl | rfl | rfl | rfl
  · omega
  · omega
  · omega
  · omega
  · omega
  · omega
  · omega
  · split <;> omega
theorem snap_ok {p : Pl} {k : Kst} {B : Int} (hp : PlOk p) (hk : KOk p k B) (hB : B ≤ 100000000) : SnapOk k := by
  refine ⟨⟨hk.time0, by have := hk.timeB; omega⟩, fun s hs x hx => by have := roomNums_le hp hk hs x hx; omega, fun x hx => ?_, by rw [hk.rooms]; exact hp.most5, by rw [lines_len hk]; exact wires_few hp⟩
  have h := hk.lns x hx
  have hw := wire_kind h.wire
  refine ⟨by have := h.most; omega, fun n hn => ?_⟩
  rw [List.mem_cons] at hn
  rcases hn with rfl | hn
  · exact ⟨h.lost0, by have := h.lostB; omega⟩
  · have := h.nums n hn; omega
theorem row_lit {w : World} {b T : Nat} {v : Value} (h : w.heap[b]? = some (.cells #[v] T (0, 0))) : Row w T 1 (some ⟨b, 0, none⟩) 1 1 [v] :=
  ⟨rfl, .inr ⟨b, 0, #[v], rfl, h, Nat.le_refl _, by decide, by simp, fun j u hu => by rw [Nat.zero_add]; simpa using hu⟩⟩
/-- append onto a row, at a step of a region that draws. -/
theorem step_append_rowS {P : Program} {w : World} {ops : Array Oper} {o : Oper} {a : Act} {K : Act → World → Prop} {Q : Exit → Act → World → Prop} {E : Prop} (hgd : o.guard = none) (s x : Operand) (t : TypeId)
    (hop : o.op = Op.call { callee := Callee.builtin Builtin.append, args := #[s, x], argTypes := #[t, t] })
    (e : TypeId) (i : TypeInfo) (z : Value) (size bytes : Nat) (ht : P.underlying t = some (.slice e)) (hi : P.info? e = some i) (hz : i.zero = some z)
    (hsize : i.size = size) (hby : i.bytes = bytes) (hzs : z.cells.size = size) (hsz : 0 < size)
    (A : Option Addr) (n cap : Nat) (hs : a.eval s = .slice A n cap) (A2 : Option Addr) (m c : Nat) (hx : a.eval x = .slice A2 m c) (xs news : List Value) (hrow : Row w e size A n cap xs) (hnews : Sl w A2 size m news) (h1 : ∀ u ∈ news, u.oneCell' = true)
    (h63 : n + m ≤ maxLen) (hbytes : (n + m) * bytes ≤ 140737488355328)
    (h : ∀ A' cap' w', Row w' e size A' (n + m) cap' (xs ++ news) → Keep (InA A) w w' → (∀ k, InA A' k → InA A k ∨ w.heap.size ≤ k) → K (a.put o.dst (.slice A' (n + m) cap')) w') :
    if Region.wanted o (yielded ops a.tmps) = true then Oper.wp P o a w K Q else E := by
  have hw : Region.wanted o (yielded ops a.tmps) = true := by simp [Region.wanted, hgd]
  rw [if_pos hw]
  obtain ⟨A', cap', w', hrun, r1, r2, r3⟩ := run_append_row (P := P) w t o.type e i z size bytes ht hi hz hsize hby hzs hsz A n cap xs hrow A2 m c news hnews h1 h63 hbytes
  unfold Oper.wp
  simp [execOp, hop, resolve, invoke, builtin, hs, hx, hrun, Result.andThen]
  exact h A' cap' w' r1 r2 r3
theorem row_drew {w : World} {e sz n cap : Nat} {A : Option Addr} {xs : List Value} (h : Row w e sz A n cap xs) : Row w.drew e sz A n cap xs := h
theorem sl_drew {w : World} {sz n : Nat} {A : Option Addr} {xs : List Value} (h : Sl w A sz n xs) : Sl w.drew A sz n xs := h
theorem sl_six {w : World} {sb : Nat} {pc c0 c1 c2 c3 c4 c5 : Value} {fl : Value} (h : w.heap[sb]? = some (.cells #[pc, c0, c1, c2, c3, c4, c5, fl] 81 (0, 0))) : Sl w (some ⟨sb, 1, none⟩) 1 6 [c0, c1, c2, c3, c4, c5] := by
  refine ⟨rfl, fun _ => ⟨sb, 1, rfl, blk_lt h, fun j u hu => ?_⟩⟩
  rw [blk_cell h]
  match j, hu with
  | 0, hu => simpa using hu
  | 1, hu => simpa using hu
  | 2, hu => simpa using hu
  | 3, hu => simpa using hu
  | 4, hu => simpa using hu
  | 5, hu => simpa using hu
theorem alloc2_new (w : World) (o o' : Obj) : ((w.alloc o).alloc o').heap[w.heap.size + 1]? = some o' := by
  have h := heap_alloc_new (w.alloc o) o'
  rw [sz_alloc] at h; exact h
theorem alloc2_old (w : World) (o o' : Obj) : ((w.alloc o).alloc o').heap[w.heap.size]? = some o := by rw [blk_alloc (by simp)]; exact heap_alloc_new w o
theorem sl_one {w : World} {b T : Nat} {v : Value} (h : w.heap[b]? = some (.cells #[v] T (0, 0))) : Sl w (some ⟨b, 0, none⟩) 1 1 [v] := (row_lit h).sl
/-- What the first append leaves: new memory alone. -/
structure Room9 (w w8 w9 : World) (A7 : Option Addr) : Prop where
  below : Below w.heap.size w w9
  fresh : ∀ i, InA A7 i → w.heap.size ≤ i
theorem room9 {w w8 wx w9 : World} {A7 : Option Addr} {b : Nat} (h8 : Below w.heap.size w w8) (hx : Below w8.heap.size w8 wx) (hb : w8.heap.size ≤ b) (k9 : Keep (InA (some ⟨b, 0, none⟩)) wx.drew w9) (i9 : ∀ k, InA A7 k → InA (some ⟨b, 0, none⟩) k ∨ wx.drew.heap.size ≤ k) : Room9 w w8 w9 A7 := by
  have s8 := h8.size
  have sx := hx.size
  refine ⟨(h8.trans (hx.mono s8)).trans (Keep.below (B := w.heap.size) (Keep.then (F := InA (some ⟨b, 0, none⟩)) (w := wx.drew) (Keep.drew (Keep.refl _ _)) k9 fun _ _ h => h) (by omega) fun i hi => by simp [InA] at hi; omega), fun i hi => ?_⟩
  rcases i9 i hi with h | h
  · simp [InA] at h; omega
  · have h2 : wx.heap.size ≤ i := h
    omega
theorem room10 {w w8 w9 w10 : World} {A7 : Option Addr} (h : Room9 w w8 w9 A7) {wx : World} (hx : Below w9.heap.size w9 wx) (k10 : Keep (InA A7) wx w10) : Below w.heap.size w w10 :=
  (h.below.trans (hx.mono h.below.size)).trans (Keep.below k10 (Nat.le_trans h.below.size hx.size) h.fresh)
theorem wire_below {w w7 w9 : World} {o o' : Obj} (h7 : Below w.heap.size w w7) (k9 : Keep (InA (some ⟨w7.heap.size + 1, 0, none⟩)) ((w7.alloc o).alloc o') w9) : Below w.heap.size w w9 := by
  have s7 := h7.size
  exact ((h7.alloc s7 o).alloc (by simp; omega) o').trans (Keep.below k9 (by simp; omega) fun i hi => by simp [InA] at hi; omega)
theorem line_size {T : ByteArray} {l : List UInt8} {n : Nat} (h : T.data.toList = l) (hl : l.length ≤ n) : T.size ≤ n := by rw [Lib.size_eq, h]; exact hl
theorem time_line (k : Kst) : snapHead k = lineT [116, 105, 109, 101] [k.time] := rfl

end Go.Proofs.YthdmgighblhmhaaGreatDoor

/- Plain: a table of numbers as text: words that are given, each with numbers behind it, a line each. No program is walked. Conditions: none. -/
namespace Go.Proofs.YthdmgighblhmhaaGreatDoor

def numsT (ns : List Nat) : List UInt8 := (ns.map Int.ofNat).flatMap numT
def tabLine (x : List UInt8 × List Nat) : List UInt8 := x.1 ++ numsT x.2
def tabText (ws : List (List UInt8)) (L : List (List Nat)) : List UInt8 := (ws.zip L).flatMap fun x => tabLine x ++ [10]
/-- A text is the table's. -/
structure Tab (ws : List (List UInt8)) (t : List UInt8) (L : List (List Nat)) : Prop where
  len : L.length = ws.length
  small : ∀ ns ∈ L, ∀ n ∈ ns, n < 10 ^ 7
  text : tabText ws L = t
/-- Words without a blank or an end. -/
def PlainW (ws : List (List UInt8)) : Prop := ∀ w ∈ ws, (10 : UInt8) ∉ w ∧ (32 : UInt8) ∉ w
theorem numsT_no10 (ns : List Nat) : (10 : UInt8) ∉ numsT ns := nums_no10 _
theorem linesT_of {α : Type} (f : α → List UInt8) : ∀ (l : List α), (∀ o ∈ l, (10 : UInt8) ∉ f o) → linesOf (l.flatMap fun o => f o ++ [10]) = l.map fun o => f o ++ [10]
  | [], _ => rfl
  | o :: l, h => by
    rw [List.flatMap_cons, List.append_assoc, List.map_cons]
    show linesOf (f o ++ 10 :: l.flatMap fun o => f o ++ [10]) = _
    rw [linesOf_line _ _ (h o (by simp)), linesT_of f l (fun o ho => h o (by simp [ho]))]
theorem tabLine_no10 {ws : List (List UInt8)} (hw : PlainW ws) {L : List (List Nat)} : ∀ x ∈ ws.zip L, (10 : UInt8) ∉ tabLine x := by
  rintro ⟨w, ns⟩ hx
  have h1 := (hw w (List.of_mem_zip hx).1).1
  unfold tabLine
  rw [List.mem_append]
  rintro (h | h)
  · exact h1 h
  · exact numsT_no10 ns h
theorem tab_lines {ws : List (List UInt8)} (hw : PlainW ws) (L : List (List Nat)) : linesOf (tabText ws L) = (ws.zip L).map fun x => tabLine x ++ [10] := linesT_of tabLine _ (tabLine_no10 hw)
theorem small_int {ns : List Nat} (h : ∀ n ∈ ns, n < 10 ^ 7) : ∀ n ∈ ns.map Int.ofNat, 0 ≤ n ∧ n < 10 ^ (6 + 1) := by
  intro n hn
  obtain ⟨k, hk, rfl⟩ := List.mem_map.1 hn
  have := h k hk
  have h10 : (10 : Int) ^ (6 + 1) = 10000000 := by decide
  have h11 : (10 : Nat) ^ 7 = 10000000 := by decide
  exact ⟨Int.natCast_nonneg k, by rw [h10]; show (k : Int) < 10000000; omega⟩
/-- How its line is cut and read. -/
theorem tabLine_cut {w : List UInt8} (hw : (32 : UInt8) ∉ w) (ns : List Nat) : cutA 32 [] (tabLine (w, ns)) = w :: (ns.map Int.ofNat).map Lib.itoa := cutA_words hw _
theorem tabLine_nums {ns : List Nat} (h : ∀ n ∈ ns, n < 10 ^ 7) : numsOf 7 ((ns.map Int.ofNat).map Lib.itoa) = some ns := by
  have h1 := numsOf_itoa (k := 6) (by decide) (small_int h)
  rw [List.map_map (g := Int.toNat)] at h1
  refine h1.trans ?_
  congr 1
  exact (List.map_congr_left fun n _ => (show (Int.toNat ∘ Int.ofNat) n = id n from rfl)).trans (List.map_id _)
theorem line_nums {s v0 : List UInt8} {vs : List (List UInt8)} {ns : List Nat} (hc : cutA 32 [] s = v0 :: vs) (hn : numsOf 7 vs = some ns) : s = tabLine (v0, ns) ∧ ∀ n ∈ ns, n < 10 ^ 7 := by
  obtain ⟨h1, h2⟩ := (numsOf_some (by decide)).1 hn
  refine ⟨?_, fun n hm => ?_⟩
  · have h3 := cutA_join 32 s [] v0 vs hc
    rw [List.nil_append] at h3
    rw [h3, h1]
    unfold tabLine numsT
    congr 1
    rw [List.flatMap_map, List.flatMap_map]
    rfl
  · have := h2 (Lib.itoa (n : Int)) (by rw [h1]; exact List.mem_map_of_mem (f := fun n : Nat => Lib.itoa (n : Int)) hm)
    rw [itoa_nat] at this
    exact num_lt (by omega)
section
variable {ws : List (List UInt8)} {t : List UInt8} {L : List (List Nat)}
theorem Tab.lines (h : Tab ws t L) (hw : PlainW ws) : linesOf t = (ws.zip L).map fun x => tabLine x ++ [10] := by rw [← h.text, tab_lines hw]
theorem Tab.count (h : Tab ws t L) (hw : PlainW ws) : (linesOf t).length = ws.length := by
  rw [h.lines hw, List.length_map, List.length_zip, h.len, Nat.min_self]
theorem Tab.line (h : Tab ws t L) (hw : PlainW ws) {i : Nat} {x : List UInt8} (hx : (linesOf t)[i]? = some x) : ∃ w ns, ws[i]? = some w ∧ L[i]? = some ns ∧ x = tabLine (w, ns) ++ [10] ∧ ∀ n ∈ ns, n < 10 ^ 7 := by
  rw [h.lines hw, List.getElem?_map, Option.map_eq_some_iff] at hx
  obtain ⟨⟨w, ns⟩, hz, rfl⟩ := hx
  rw [List.getElem?_zip_eq_some] at hz
  exact ⟨w, ns, hz.1, hz.2, rfl, h.small ns (List.mem_of_getElem? hz.2)⟩
theorem tab_of (hl : L.length = ws.length) (hs : ∀ ns ∈ L, ∀ n ∈ ns, n < 10 ^ 7) (h : linesOf t = (ws.zip L).map fun x => tabLine x ++ [10]) : Tab ws t L := by
  refine ⟨hl, hs, ?_⟩
  rw [← lines_join t, h]
  unfold tabText
  rw [List.flatMap_def]
/-- A line that is none of the table's. -/
theorem tab_not (hw : PlainW ws) {i : Nat} {x : List UInt8} (hx : (linesOf t)[i]? = some x) (hno : ∀ w ns, ws[i]? = some w → (∀ n ∈ ns, n < 10 ^ 7) → x ≠ tabLine (w, ns) ++ [10]) : ¬ Tab ws t L := by
  intro h
  obtain ⟨w, ns, h1, _, h3, h4⟩ := h.line hw hx
  exact hno w ns h1 h4 h3
theorem tab_not_end (hw : PlainW ws) {i : Nat} {x : List UInt8} (hx : (linesOf t)[i]? = some x) (h10 : (10 : UInt8) ∉ x) : ¬ Tab ws t L :=
  tab_not hw hx fun w ns _ _ e => h10 (by rw [e]; simp)
theorem tab_not_more (hw : PlainW ws) {i : Nat} {x : List UInt8} (hx : (linesOf t)[i]? = some x) (hi : ws.length ≤ i) : ¬ Tab ws t L :=
  tab_not hw hx fun w ns h _ _ => by rw [List.getElem?_eq_none hi] at h; cases h
theorem tab_not_nums (hw : PlainW ws) {i : Nat} {x y v0 : List UInt8} {vs : List (List UInt8)} (hx : (linesOf t)[i]? = some x) (hxy : x = y ++ [10]) (hc : cutA 32 [] y = v0 :: vs) (h : numsOf 7 vs = none) : ¬ Tab ws t L :=
  tab_not hw hx fun w ns hi hs e => by
    have h1 : y = tabLine (w, ns) := List.append_cancel_right (hxy.symm.trans e)
    have h2 := tabLine_cut (hw w (List.mem_of_getElem? hi)).2 ns
    rw [← h1, hc] at h2
    injection h2 with _ h3
    rw [h3, tabLine_nums hs] at h; cases h
theorem tab_not_word (hw : PlainW ws) {i : Nat} {x y v0 w0 : List UInt8} {vs : List (List UInt8)} (hx : (linesOf t)[i]? = some x) (hxy : x = y ++ [10]) (hc : cutA 32 [] y = v0 :: vs) (h0 : ws[i]? = some w0) (h : v0 ≠ w0) : ¬ Tab ws t L :=
  tab_not hw hx fun w ns hi hs e => by
    have h1 : y = tabLine (w, ns) := List.append_cancel_right (hxy.symm.trans e)
    have h2 := tabLine_cut (hw w (List.mem_of_getElem? hi)).2 ns
    rw [← h1, hc] at h2
    injection h2 with h3 _
    rw [h0] at hi
    injection hi with hi
    exact h (h3.trans hi.symm)
theorem tab_inj (hw : PlainW ws) {L' : List (List Nat)} (h : Tab ws t L) (h' : Tab ws t L') : L = L' := by
  have hc := h.count hw
  refine List.ext_getElem? fun i => ?_
  by_cases hi : i < ws.length
  · obtain ⟨x, hx⟩ : ∃ x, (linesOf t)[i]? = some x := ⟨_, List.getElem?_eq_getElem (by rw [hc]; exact hi)⟩
    obtain ⟨w, ns, h1, h2, h3, h4⟩ := h.line hw hx
    obtain ⟨w', ns', h1', h2', h3', h4'⟩ := h'.line hw hx
    rw [h2, h2']
    rw [h1] at h1'
    injection h1' with e
    subst e
    have e2 : tabLine (w, ns) = tabLine (w, ns') := List.append_cancel_right (h3.symm.trans h3')
    have n1 := tabLine_nums h4
    have n2 := tabLine_nums h4'
    have c1 := tabLine_cut (hw w (List.mem_of_getElem? h1)).2 ns
    rw [e2, tabLine_cut (hw w (List.mem_of_getElem? h1)).2 ns'] at c1
    injection c1 with _ c1
    rw [← c1, n2] at n1
    exact n1.symm
  · rw [List.getElem?_eq_none (by rw [h.len]; omega), List.getElem?_eq_none (by rw [h'.len]; omega)]
/-- So many lines are read: one more. -/
theorem tab_next {pre : List (List UInt8)} {w y x : List UInt8} {ns : List Nat} (h : pre = (ws.zip L).map fun x => tabLine x ++ [10]) (hl : L.length < ws.length) (hw : ws[L.length]? = some w) (hx : x = y ++ [10]) (hy : y = tabLine (w, ns)) : pre ++ [x] = (ws.zip (L ++ [ns])).map fun x => tabLine x ++ [10] := by
  have e : ws.zip (L ++ [ns]) = ws.zip L ++ [(w, ns)] := by
    obtain ⟨h1, h2⟩ := List.getElem?_eq_some_iff.1 hw
    have e0 : ws = ws.take L.length ++ w :: ws.drop (L.length + 1) := by
      rw [← h2, List.getElem_cons_drop, List.take_append_drop]
    have hl2 : (ws.take L.length).length = L.length := by rw [List.length_take]; omega
    have z1 : ws.zip (L ++ [ns]) = (ws.take L.length ++ w :: ws.drop (L.length + 1)).zip (L ++ [ns]) := by rw [← e0]
    have z2 : ws.zip L = (ws.take L.length ++ w :: ws.drop (L.length + 1)).zip (L ++ []) := by rw [← e0, List.append_nil]
    rw [z1, z2, List.zip_append hl2, List.zip_append hl2]
    simp
  rw [e, List.map_append, ← h, hx, hy]; rfl
end
/-- The reference's way: pieces. -/
theorem lines_pieces : ∀ (P : List (List UInt8)) (z : List UInt8), (∀ x ∈ P, (10 : UInt8) ∉ x) → linesOf (P.flatMap (fun x => x ++ [10]) ++ z) = P.map (fun x => x ++ [10]) ++ linesOf z
  | [], z, _ => rfl
  | x :: P, z, h => by
    rw [List.flatMap_cons, List.append_assoc, List.append_assoc, List.map_cons]
    show linesOf (x ++ 10 :: (P.flatMap (fun x => x ++ [10]) ++ z)) = _
    rw [linesOf_line _ _ (h x (by simp)), lines_pieces P z (fun o ho => h o (by simp [ho]))]; rfl
end Go.Proofs.YthdmgighblhmhaaGreatDoor

/- Plain: a kernel and its table: which tables are a kernel's, and of which. No program is walked. Conditions: none. -/
namespace Go.Proofs.YthdmgighblhmhaaGreatDoor

def timeW : List UInt8 := [116, 105, 109, 101]
def roomW : List UInt8 := [114, 111, 111, 109]
def wireW : List UInt8 := [119, 105, 114, 101]
def wordsOf (nr nw : Nat) : List (List UInt8) := timeW :: (List.replicate nr roomW ++ List.replicate nw wireW)
theorem wordsOf_len (nr nw : Nat) : (wordsOf nr nw).length = 1 + nr + nw := by unfold wordsOf; simp; omega
theorem wordsOf_mem {nr nw : Nat} {w : List UInt8} (h : w ∈ wordsOf nr nw) : w = timeW ∨ w = roomW ∨ w = wireW := by
  unfold wordsOf at h
  rcases List.mem_cons.1 h with h | h
  · exact .inl h
  rcases List.mem_append.1 h with h | h
  · exact .inr (.inl (List.eq_of_mem_replicate h))
  · exact .inr (.inr (List.eq_of_mem_replicate h))
theorem wordsOf_plain (nr nw : Nat) : PlainW (wordsOf nr nw) := by
  intro w hw
  rcases wordsOf_mem hw with rfl | rfl | rfl <;> decide
theorem wordsOf_get {nr nw i : Nat} : (wordsOf nr nw)[i]? = if i = 0 then some timeW else if i ≤ nr then some roomW else if i ≤ nr + nw then some wireW else none := by
  unfold wordsOf
  cases i with
  | zero => rfl
  | succ i =>
    rw [List.getElem?_cons_succ, if_neg (by omega), List.getElem?_append, List.length_replicate]
    by_cases h1 : i < nr
    · rw [if_pos h1, if_pos (by omega), List.getElem?_replicate, if_pos h1]
    · rw [if_neg h1, if_neg (by omega), List.getElem?_replicate]
      by_cases h2 : i - nr < nw
      · rw [if_pos h2, if_pos (by omega)]
      · rw [if_neg h2, if_neg (by omega)]
/-- A room's numbers, a wire's. -/
def roomNs (s : St) : List Nat := (roomNums s).map Int.toNat
def wireNs (x : Ln) : List Nat := (x.lost :: x.items).map Int.toNat
def tabK (k : Kst) : List (List Nat) := [k.time.toNat] :: (k.rooms.map roomNs ++ k.lines.map wireNs)
/-- A room of numbers, a wire of numbers. -/
def gi (n : List Nat) (i : Nat) : Int := (n.getD i 0 : Nat)
def stOf (n : List Nat) : St := ⟨gi n 0, gi n 1, gi n 2, gi n 3, gi n 4, gi n 5, gi n 6, decide (n.getD 7 0 = 1)⟩
def lnOf (x : Wire) (n : List Nat) : Ln := ⟨x, n.tail.map Int.ofNat, gi n 0⟩
def roomShape (n : List Nat) : Bool := decide (n.length = 8 ∧ n.getD 7 0 ≤ 1)
def wireShape (n : List Nat) : Bool := decide (n ≠ [])
def roomFits (c : List Op) (n : List Nat) : Bool := stOk (stOf n) c.length
def wireFits (x : Wire) (n : List Nat) : Bool := decide ((n.tail.length : Int) ≤ x.deep ∧ (x.kind = 1 → gi n 0 = 0)) && n.tail.all fun k => decide (k < 1000)
def roomsT (nr : Nat) (L : List (List Nat)) : List (List Nat) := (L.drop 1).take nr
def wiresT (nr : Nat) (L : List (List Nat)) : List (List Nat) := L.drop (1 + nr)
def headT (L : List (List Nat)) : List Nat := L.headD []
/-- What is wrong with a table of a plan's. -/
def shapeOk (p : Pl) (L : List (List Nat)) : Bool := decide ((headT L).length = 1) && (roomsT p.code.length L).all roomShape && (wiresT p.code.length L).all wireShape
def fitsOk (p : Pl) (L : List (List Nat)) : Bool := ((p.code.zip (roomsT p.code.length L)).all fun x => roomFits x.1 x.2) && ((p.wires.zip (wiresT p.code.length L)).all fun x => wireFits x.1 x.2)
def loadE (p : Pl) (L : List (List Nat)) : Int := if shapeOk p L = true then (if fitsOk p L = true then 0 else 1) else 2
def loadK (p : Pl) (L : List (List Nat)) : Kst := ⟨(roomsT p.code.length L).map stOf, (p.wires.zip (wiresT p.code.length L)).map fun x => lnOf x.1 x.2, gi (headT L) 0⟩
theorem loadE_ok {p : Pl} {L : List (List Nat)} : loadE p L = 0 ↔ shapeOk p L = true ∧ fitsOk p L = true := by
  unfold loadE
  cases shapeOk p L <;> cases fitsOk p L <;> simp
theorem tab_parts {p : Pl} {L : List (List Nat)} (h : L.length = 1 + p.code.length + p.wires.length) : L = headT L :: (roomsT p.code.length L ++ wiresT p.code.length L) ∧ (roomsT p.code.length L).length = p.code.length ∧ (wiresT p.code.length L).length = p.wires.length := by
  cases L with
  | nil => simp at h; omega
  | cons a L =>
    unfold headT roomsT wiresT
    simp only [List.length_cons] at h
    refine ⟨?_, ?_, ?_⟩
    · rw [List.headD_cons, List.drop_succ_cons, List.drop_zero, Nat.add_comm 1, List.drop_succ_cons, List.take_append_drop]
    · rw [List.drop_succ_cons, List.drop_zero, List.length_take]; omega
    · rw [Nat.add_comm 1, List.drop_succ_cons, List.length_drop]; omega
theorem roomNs_of {s : St} {c : List Op} (h : stOk s c.length = true) : roomShape (roomNs s) = true ∧ stOf (roomNs s) = s := by
  obtain ⟨h1, h2⟩ := stOk_iff.1 h
  have g0 := h2 0 (by omega)
  have g1 := h2 1 (by omega)
  have g2 := h2 2 (by omega)
  have g3 := h2 3 (by omega)
  have g4 := h2 4 (by omega)
  have g5 := h2 5 (by omega)
  obtain ⟨pc, c0, c1, c2, c3, c4, c5, f⟩ := s
  simp only [St.get] at h1 g0 g1 g2 g3 g4 g5
  refine ⟨?_, ?_⟩
  · cases f <;> simp [roomShape, roomNs, roomNums]
  · unfold stOf gi roomNs roomNums
    simp only [List.map_cons, List.map_nil, List.getD_cons_zero, List.getD_cons_succ, St.mk.injEq]
    refine ⟨by omega, by omega, by omega, by omega, by omega, by omega, by omega, ?_⟩
    cases f <;> simp
theorem stOf_nums {n : List Nat} (h : roomShape n = true) : roomNs (stOf n) = n := by
  obtain ⟨h1, h2⟩ := of_decide_eq_true h
  match n, h1 with
  | [a0, a1, a2, a3, a4, a5, a6, a7], _ =>
    simp only [List.getD_cons_zero, List.getD_cons_succ] at h2
    simp only [roomNs, roomNums, stOf, gi, List.getD_cons_zero, List.getD_cons_succ, List.map_cons, List.map_nil, Int.toNat_natCast]
    congr 7
    rcases (show a7 = 0 ∨ a7 = 1 by omega) with rfl | rfl <;> simp
theorem toNat_map {l : List Int} (h : ∀ n ∈ l, 0 ≤ n) : (l.map Int.toNat).map Int.ofNat = l := by
  rw [List.map_map]
  refine (List.map_congr_left fun n hn => ?_).trans (List.map_id _)
  have := h n hn
  show ((n.toNat : Nat) : Int) = id n
  simp only [id]; omega
theorem wireNs_of {x : Ln} {B : Int} (h : LnOk x B) (hk : x.w.kind = 1 → x.lost = 0) : wireShape (wireNs x) = true ∧ wireFits x.w (wireNs x) = true ∧ lnOf x.w (wireNs x) = x := by
  have h0 := h.lost0
  have hm := h.most
  have hn := h.nums
  obtain ⟨w, items, lost⟩ := x
  simp only [] at hk h0 hm hn
  have hg : gi (wireNs ⟨w, items, lost⟩) 0 = lost := by unfold gi wireNs; simp; omega
  have ht : (wireNs ⟨w, items, lost⟩).tail = items.map Int.toNat := rfl
  refine ⟨by simp [wireShape, wireNs], ?_, ?_⟩
  · unfold wireFits
    rw [hg, ht, List.length_map, Bool.and_eq_true, decide_eq_true_eq, List.all_eq_true]
    refine ⟨⟨hm, hk⟩, fun k hk2 => ?_⟩
    obtain ⟨n, hn2, rfl⟩ := List.mem_map.1 hk2
    have := hn n hn2
    simp only [decide_eq_true_eq]; omega
  · unfold lnOf
    rw [hg, ht, toNat_map fun n hn2 => (hn n hn2).1]
theorem lnOf_nums {x : Wire} {n : List Nat} (h : wireShape n = true) : wireNs (lnOf x n) = n := by
  have h1 : n ≠ [] := of_decide_eq_true h
  cases n with
  | nil => exact absurd rfl h1
  | cons a r =>
    unfold wireNs lnOf gi
    simp only [List.getD_cons_zero, List.tail_cons, List.map_cons, Int.toNat_natCast, List.map_map]
    congr 1
    exact (List.map_congr_left fun n _ => (show (Int.toNat ∘ Int.ofNat) n = id n from rfl)).trans (List.map_id _)
/-- The kernel of a table has that table. -/
theorem loadK_tab {p : Pl} {L : List (List Nat)} (hl : L.length = 1 + p.code.length + p.wires.length) (h : loadE p L = 0) : tabK (loadK p L) = L := by
  obtain ⟨h1, h2⟩ := loadE_ok.1 h
  obtain ⟨e1, e2, e3⟩ := tab_parts hl
  unfold shapeOk at h1
  rw [Bool.and_eq_true, Bool.and_eq_true, decide_eq_true_eq, List.all_eq_true, List.all_eq_true] at h1
  obtain ⟨⟨s1, s2⟩, s3⟩ := h1
  have hhead : [(gi (headT L) 0).toNat] = headT L := by
    match hh : headT L, s1 with
    | [a], _ => rfl
  unfold tabK loadK
  simp only []
  conv => rhs; rw [e1]
  rw [hhead]
  congr 1
  congr 1
  · rw [List.map_map]
    exact (List.map_congr_left fun n hn => (show (roomNs ∘ stOf) n = id n from stOf_nums (s2 n hn))).trans (List.map_id _)
  · rw [List.map_map]
    have e : ((p.wires.zip (wiresT p.code.length L)).map (wireNs ∘ fun x => lnOf x.1 x.2)) = (p.wires.zip (wiresT p.code.length L)).map Prod.snd :=
      List.map_congr_left fun x hx => lnOf_nums (s3 x.2 (List.of_mem_zip hx).2)
    rw [e, List.map_snd_zip (by omega)]
theorem lnOf_w (ws : List Wire) : ∀ (L : List (List Nat)), L.length = ws.length → ((ws.zip L).map fun x => lnOf x.1 x.2).map Ln.w = ws := by
  intro L hl
  rw [List.map_map]
  have e : (ws.zip L).map (Ln.w ∘ fun x => lnOf x.1 x.2) = (ws.zip L).map Prod.fst := List.map_congr_left fun x _ => rfl
  rw [e, List.map_fst_zip (by omega)]
theorem gi_lt {n : List Nat} (h : ∀ k ∈ n, k < 10 ^ 7) (i : Nat) : 0 ≤ gi n i ∧ gi n i < 10000000 := by
  unfold gi
  have h10 : (10 : Nat) ^ 7 = 10000000 := by decide
  rw [List.getD_eq_getElem?_getD]
  cases hg : n[i]? with
  | none => simp
  | some k => have := h k (List.mem_of_getElem? hg); simp; omega
theorem loadK_ok {p : Pl} {L : List (List Nat)} (hp : PlOk p) (hl : L.length = 1 + p.code.length + p.wires.length) (hs : ∀ ns ∈ L, ∀ n ∈ ns, n < 10 ^ 7) (h : loadE p L = 0) : KOk p (loadK p L) 10000000 := by
  obtain ⟨h1, h2⟩ := loadE_ok.1 h
  obtain ⟨e1, e2, e3⟩ := tab_parts hl
  unfold fitsOk at h2
  rw [Bool.and_eq_true, List.all_eq_true, List.all_eq_true] at h2
  obtain ⟨f1, f2⟩ := h2
  have hmem : ∀ n, n = headT L ∨ n ∈ roomsT p.code.length L ∨ n ∈ wiresT p.code.length L → n ∈ L := fun n hn => by
    rw [e1, List.mem_cons, List.mem_append]; exact hn
  have ht := gi_lt (hs _ (hmem _ (.inl rfl))) 0
  refine ⟨by unfold loadK; simp [e2], lnOf_w _ _ (by omega), ht.1, by have := ht.2; unfold loadK; simp only []; omega, fun r ops s hc hr => ?_, fun x hx => ?_⟩
  · unfold loadK at hr
    simp only [] at hr
    rw [List.getElem?_map, Option.map_eq_some_iff] at hr
    obtain ⟨n, hn, rfl⟩ := hr
    exact f1 (ops, n) (List.mem_of_getElem? (List.getElem?_zip_eq_some.2 ⟨hc, hn⟩ : (p.code.zip (roomsT p.code.length L))[r]? = some (ops, n)))
  · unfold loadK at hx
    simp only [] at hx
    obtain ⟨⟨x, n⟩, hz, rfl⟩ := List.mem_map.1 hx
    clear hx
    have hx := hz
    clear hz
    have hw := (flowChk_ok hp.flow).2.1 x (List.of_mem_zip hx).1
    have hf := f2 _ hx
    have hnl := hmem n (.inr (.inr (List.of_mem_zip hx).2))
    unfold wireFits at hf
    rw [Bool.and_eq_true, decide_eq_true_eq, List.all_eq_true] at hf
    obtain ⟨⟨g1, g2⟩, g3⟩ := hf
    have hg := gi_lt (hs n hnl) 0
    refine ⟨hw, ?_, fun k hk => ?_, hg.1, by have := hg.2; unfold lnOf; simp only []; omega⟩
    · unfold lnOf; simp only [List.length_map]; exact g1
    · unfold lnOf at hk
      simp only [] at hk
      obtain ⟨u, hu, rfl⟩ := List.mem_map.1 hk
      have := g3 u hu
      simp only [decide_eq_true_eq] at this
      exact ⟨Int.natCast_nonneg u, by show (u : Int) < 1000; omega⟩
/-- What a kernel's table is as text. -/
theorem zip_repl {α : Type} (w : List UInt8) (f : α → List Nat) : ∀ (l : List α), (List.replicate l.length w).zip (l.map f) = l.map fun x => (w, f x)
  | [] => rfl
  | x :: l => by rw [List.length_cons, List.replicate_succ, List.map_cons, List.zip_cons_cons, zip_repl w f l]; rfl
theorem tabText_k {k : Kst} (h : SnapOk k) : tabText (wordsOf k.rooms.length k.lines.length) (tabK k) = snapText k := by
  have ht := h.time
  unfold tabText wordsOf tabK snapText
  rw [List.zip_cons_cons, List.zip_append (by simp), zip_repl, zip_repl, List.flatMap_cons, List.flatMap_append, List.flatMap_map, List.flatMap_map]
  have e0 : tabLine (timeW, [k.time.toNat]) ++ [10] = snapHead k := by
    unfold tabLine numsT snapHead lineT timeW
    simp only [List.map_cons, List.map_nil]
    rw [show Int.ofNat k.time.toNat = k.time by show ((k.time.toNat : Nat) : Int) = k.time; omega]
  have e1 : ∀ s ∈ k.rooms, tabLine (roomW, roomNs s) ++ [10] = roomLine s := fun s hs => by
    unfold tabLine numsT roomLine lineT roomNs roomW
    rw [toNat_map fun n hn => (h.rooms s hs n hn).1]
  have e2 : ∀ x ∈ k.lines, tabLine (wireW, wireNs x) ++ [10] = wireLine x := fun x hx => by
    unfold tabLine numsT wireLine lineT wireNs wireW
    rw [toNat_map fun n hn => ((h.lines x hx).2 n hn).1]
  have fc : ∀ {α : Type} (l : List α) (f g : α → List UInt8), (∀ x ∈ l, f x = g x) → l.flatMap f = l.flatMap g := by
    intro α l f g
    induction l with
    | nil => intro _; rfl
    | cons x l ih => intro hx; rw [List.flatMap_cons, List.flatMap_cons, hx x (by simp), ih fun y hy => hx y (by simp [hy])]
  rw [e0, List.append_assoc, fc _ _ _ e1, fc _ _ _ e2]
/-- A sample loses nothing. -/
def Sampled (k : Kst) : Prop := ∀ x ∈ k.lines, x.w.kind = 1 → x.lost = 0
theorem sampled_new (p : Pl) : Sampled (kNew p) := by
  intro x hx _
  simp only [kNew, List.mem_map] at hx
  obtain ⟨y, _, rfl⟩ := hx
  rfl
theorem sampled_set {k : Kst} (h : Sampled k) {i : Nat} {y : Ln} (hy : y.w.kind = 1 → y.lost = 0) (rooms : List St) (t : Int) : Sampled ⟨rooms, k.lines.set i y, t⟩ := by
  intro x hx hk
  rcases List.mem_or_eq_of_mem_set hx with hx | rfl
  · exact h x hx hk
  · exact hy hk
theorem sampled_do {k : Kst} (h : Sampled k) (n : Int) (r : Nat) (o : Op) (s : St) : Sampled (kDo n r o s k).2 := by
  unfold kDo
  split
  · exact h
  split
  · cases hx : k.lines[o.b.toNat]? with
    | none => exact h
    | some x =>
      simp only []
      cases hi : x.items with
      | nil => exact h
      | cons i rest =>
        simp only []
        exact sampled_set h (y := ⟨x.w, lineTake x.w (i :: rest), x.lost⟩) (fun hk => h x (List.mem_of_getElem? hx) hk) _ _
  split
  · cases hx : k.lines[o.b.toNat]? with
    | none => exact h
    | some x =>
      refine sampled_set h (fun hk => ?_) _ _
      have hk2 : x.w.kind = 1 := hk
      simp only []
      unfold lineSend
      rw [if_pos hk2]
      exact h x (List.mem_of_getElem? hx) hk
  · exact h
theorem sampled_tick {p : Pl} {spans : List Span} {k : Kst} (h : Sampled k) : Sampled (tickBy p spans k).2 := by
  unfold tickBy
  split
  · exact h
  split
  · split
    · exact sampled_do h _ _ _ _
    · exact h
  · exact h
theorem snap_ok7 {p : Pl} {k : Kst} {B : Int} (hp : PlOk p) (hk : KOk p k B) (hB : B ≤ 100000000) : SnapOk k := snap_ok hp hk hB
/-- A kernel's own table. -/
theorem tab_own {p : Pl} {k : Kst} {B : Int} (hp : PlOk p) (hk : KOk p k B) (hB : B < 10000000) (hs : Sampled k) : Tab (wordsOf p.code.length p.wires.length) (snapText k) (tabK k) ∧ loadE p (tabK k) = 0 ∧ loadK p (tabK k) = k := by
  have hok := snap_ok7 hp hk (by omega)
  have hr := hk.rooms
  have hl := lines_len hk
  have h10 : (10 : Nat) ^ 7 = 10000000 := by decide
  have ht0 := hk.time0
  have htB := hk.timeB
  have e1 : roomsT p.code.length (tabK k) = k.rooms.map roomNs := by
    unfold roomsT tabK
    rw [List.drop_succ_cons, List.drop_zero, ← hr, List.take_append_of_le_length (by simp), List.take_of_length_le (by simp)]
  have e2 : wiresT p.code.length (tabK k) = k.lines.map wireNs := by
    unfold wiresT tabK
    rw [Nat.add_comm 1, List.drop_succ_cons, ← hr, List.drop_append, List.drop_of_length_le (by simp)]
    simp
  have e3 : headT (tabK k) = [k.time.toNat] := rfl
  have hroom : ∀ (r : Nat) (c : List Op) (s : St), p.code[r]? = some c → k.rooms[r]? = some s → stOk s c.length = true := hk.states
  have hroom2 : ∀ s ∈ k.rooms, ∃ c : List Op, stOk s c.length = true := fun s hs => by
    obtain ⟨r, hr2⟩ := List.mem_iff_getElem?.1 hs
    have hlt := (List.getElem?_eq_some_iff.1 hr2).1
    exact ⟨_, hroom r _ s (List.getElem?_eq_getElem (by omega)) hr2⟩
  have hwl : ∀ (i : Nat) (x : Wire) (y : Ln), p.wires[i]? = some x → k.lines[i]? = some y → y.w = x := fun i x y h1 h2 => by
    have h3 := hk.lines
    have h4 : (k.lines.map Ln.w)[i]? = some x := by rw [h3]; exact h1
    rw [List.getElem?_map, h2] at h4
    simpa using h4
  refine ⟨⟨?_, fun ns hns n hn => ?_, ?_⟩, loadE_ok.2 ⟨?_, ?_⟩, ?_⟩
  · rw [wordsOf_len]; unfold tabK; simp; omega
  · rw [h10]
    unfold tabK at hns
    rcases List.mem_cons.1 hns with rfl | hns
    · rw [List.mem_singleton] at hn; omega
    rcases List.mem_append.1 hns with hns | hns
    · obtain ⟨s, hs2, rfl⟩ := List.mem_map.1 hns
      unfold roomNs at hn
      obtain ⟨u, hu, rfl⟩ := List.mem_map.1 hn
      have := roomNums_le hp hk hs2 u hu; omega
    · obtain ⟨x, hx, rfl⟩ := List.mem_map.1 hns
      unfold wireNs at hn
      obtain ⟨u, hu, rfl⟩ := List.mem_map.1 hn
      have h5 := hk.lns x hx
      rcases List.mem_cons.1 hu with rfl | hu
      · have := h5.lostB; have := h5.lost0; omega
      · have := h5.nums u hu; omega
  · rw [← hr, ← hl]; exact tabText_k hok
  · unfold shapeOk
    rw [e1, e2, e3, Bool.and_eq_true, Bool.and_eq_true, List.all_eq_true, List.all_eq_true]
    refine ⟨⟨rfl, fun n hn => ?_⟩, fun n hn => ?_⟩
    · obtain ⟨s, hs2, rfl⟩ := List.mem_map.1 hn
      obtain ⟨c, hc⟩ := hroom2 s hs2
      exact (roomNs_of hc).1
    · obtain ⟨x, hx, rfl⟩ := List.mem_map.1 hn
      exact (wireNs_of (hk.lns x hx) (hs x hx)).1
  · unfold fitsOk
    rw [e1, e2, Bool.and_eq_true, List.all_eq_true, List.all_eq_true]
    refine ⟨fun y hy => ?_, fun y hy => ?_⟩
    · obtain ⟨i, hi⟩ := List.mem_iff_getElem?.1 hy
      obtain ⟨c, n⟩ := y
      rw [List.getElem?_zip_eq_some] at hi
      obtain ⟨h1, h2⟩ := hi
      simp only [List.getElem?_map, Option.map_eq_some_iff] at h1 h2
      obtain ⟨s, h3, rfl⟩ := h2
      have h4 := hroom i c s h1 h3
      unfold roomFits
      rw [(roomNs_of h4).2]; exact h4
    · obtain ⟨i, hi⟩ := List.mem_iff_getElem?.1 hy
      obtain ⟨w, n⟩ := y
      rw [List.getElem?_zip_eq_some] at hi
      obtain ⟨h1, h2⟩ := hi
      simp only [List.getElem?_map, Option.map_eq_some_iff] at h1 h2
      obtain ⟨x, h3, rfl⟩ := h2
      have h4 := hwl i w x h1 h3
      have h5 := (wireNs_of (hk.lns x (List.mem_of_getElem? h3)) (hs x (List.mem_of_getElem? h3))).2.1
      rw [h4] at h5; exact h5
  · obtain ⟨rooms, lines, time⟩ := k
    unfold loadK
    rw [e1, e2, e3]
    simp only [Kst.mk.injEq]
    refine ⟨?_, ?_, ?_⟩
    · rw [List.map_map]
      exact (List.map_congr_left fun s hs2 => by
        obtain ⟨c, hc⟩ := hroom2 s hs2
        show stOf (roomNs s) = id s
        exact (roomNs_of hc).2).trans (List.map_id _)
    · rw [← hk.lines]
      simp only []
      have hz : ∀ l : List Ln, (∀ x ∈ l, ∃ B, LnOk x B ∧ (x.w.kind = 1 → x.lost = 0)) → ((l.map Ln.w).zip (l.map wireNs)).map (fun x => lnOf x.1 x.2) = l := by
        intro l
        induction l with
        | nil => intro _; rfl
        | cons x l ih =>
          intro h
          obtain ⟨B', h1, h2⟩ := h x (by simp)
          rw [List.map_cons, List.map_cons, List.zip_cons_cons, List.map_cons, ih fun y hy => h y (by simp [hy])]
          simp only []
          rw [(wireNs_of h1 h2).2.2]
      exact hz lines fun x hx => ⟨B, hk.lns x hx, hs x hx⟩
    · show gi [time.toNat] 0 = time
      unfold gi
      simp only [List.getD_cons_zero]
      have : 0 ≤ time := ht0
      omega
end Go.Proofs.YthdmgighblhmhaaGreatDoor

/- Package snap: the contract of words, word by word. Conditions: none. -/
namespace Go.Proofs.YthdmgighblhmhaaGreatDoor
open Go.RowKit
set_option maxRecDepth 100000

/-- Midway: these words are laid, in new memory; the plan's box lies as it lay. -/
structure WordsR (w : World) (bx : Obj) (wr : World) (A : Option Addr) (n c : Nat) (xs : List Value) : Prop where
  row : Row wr 9 1 A n c xs
  fresh : ∀ i, InA A i → w.heap.size + 1 ≤ i
  box : wr.heap[w.heap.size]? = some bx
  below : Below w.heap.size w wr
theorem WordsR.more {w : World} {bx o : Obj} {wr w1 : World} {A A' : Option Addr} {n n' c c' : Nat} {xs xs' : List Value} (h : WordsR w bx wr A n c xs) (hr : Row w1 9 1 A' n' c' xs') (hk : Keep (InA A) (wr.alloc o) w1) (hn : ∀ k, InA A' k → InA A k ∨ (wr.alloc o).heap.size ≤ k) : WordsR w bx w1 A' n' c' xs' := by
  have hs := h.below.size
  have hl := blk_lt h.box
  refine ⟨hr, fun i hi => ?_, ?_, (h.below.alloc hs o).trans (Keep.below hk (by rw [sz_alloc]; omega) fun i hi => by have := h.fresh i hi; omega)⟩
  · rcases hn i hi with h1 | h1
    · exact h.fresh i h1
    · rw [sz_alloc] at h1; omega
  · rw [hk.block _ (by rw [sz_alloc]; omega) (fun hi => by have := h.fresh _ hi; omega), blk_alloc hl]
    exact h.box
theorem words_room (j : Nat) : (timeW :: List.replicate (j + 1) roomW).map txt = (timeW :: List.replicate j roomW).map txt ++ [.string ⟨#[114, 111, 111, 109]⟩] := by
  rw [List.replicate_succ', List.map_cons, List.map_append, List.map_cons (l := List.replicate j roomW)]; rfl
theorem words_wire (j q : Nat) : (timeW :: (List.replicate j roomW ++ List.replicate (q + 1) wireW)).map txt = (timeW :: (List.replicate j roomW ++ List.replicate q wireW)).map txt ++ [.string ⟨#[119, 105, 114, 101]⟩] := by
  rw [List.replicate_succ', ← List.append_assoc, List.map_cons, List.map_append, List.map_cons (l := List.replicate j roomW ++ _)]; rfl

end Go.Proofs.YthdmgighblhmhaaGreatDoor
