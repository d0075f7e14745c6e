/- Package snap: the contract of Save, for every kernel of a plan that is right. Conditions: the tables that the row lists. -/
import Derived.Test.YtikadpfchchbpaaGreatDoorSnapLine
import Derived.Test.YtikadpfchchbpaaGreatDoorRunU
import Derived.Test.YtikadpfchchbpaaGreatDoorGetU
import Derived.Test.YtikadpfchchbpaaGreatDoorRooms
import Derived.Test.YtikadpfchchbpaaGreatDoorPlanU
import Derived.Deep.CutBlock
import Derived.Deep.RegionLaw
namespace Go.Proofs.YtikadpfchchbpaaGreatDoor
open Go.RowKit
set_option maxRecDepth 100000

def roomNums (s : St) : List Int := [s.pc, s.c0, s.c1, s.c2, s.c3, s.c4, s.c5, if s.failed then 1 else 0]
def roomLine (s : St) : List UInt8 := lineT [114, 111, 111, 109] (roomNums s)
def wireLine (x : Ln) : List UInt8 := lineT [119, 105, 114, 101] (x.lost :: x.items)
def snapHead (k : Kst) : List UInt8 := lineT [116, 105, 109, 101] [k.time]
def snapText (k : Kst) : List UInt8 := snapHead k ++ k.rooms.flatMap roomLine ++ k.lines.flatMap wireLine
theorem flat_10 {α : Type} (f : α → List UInt8) (h : ∀ x, (f x).count 10 = 1) : ∀ l : List α, (l.flatMap f).count 10 = l.length
  | [] => rfl
  | x :: l => by rw [List.flatMap_cons, List.count_append, h, flat_10 f h l, List.length_cons]; omega
theorem snap_10 (k : Kst) : (snapText k).count 10 = 1 + k.rooms.length + k.lines.length := by
  unfold snapText snapHead
  rw [List.count_append, List.count_append, lineT_10 (by decide), flat_10 roomLine (fun s => lineT_10 (by decide) _), flat_10 wireLine (fun s => lineT_10 (by decide) _)]
theorem lineT_le {w : List UInt8} {l : List Int} {n : Nat} (hw : w.length ≤ 4) (hl : l.length ≤ n) (h : ∀ x ∈ l, 0 ≤ x ∧ x ≤ 1000000) : (lineT w l).length ≤ 5 + 22 * n := by
  have h1 := nums_le l h
  unfold lineT
  simp only [List.length_append, List.length_singleton]; omega
theorem flat_le {α : Type} (f : α → List UInt8) (n : Nat) : ∀ l : List α, (∀ x ∈ l, (f x).length ≤ n) → (l.flatMap f).length ≤ n * l.length
  | [], _ => by simp
  | x :: l, h => by
    have h1 := h x (by simp)
    have h2 := flat_le f n l fun y hy => h y (by simp [hy])
    rw [List.flatMap_cons, List.length_append, List.length_cons, Nat.mul_succ]; omega
theorem take_flat {α : Type} (f : α → List UInt8) {l : List α} {j : Nat} {x : α} (h : l[j]? = some x) : (l.take (j + 1)).flatMap f = (l.take j).flatMap f ++ f x := by
  obtain ⟨h1, h2⟩ := List.getElem?_eq_some_iff.1 h
  rw [List.take_succ_eq_append_getElem h1, List.flatMap_append, h2]; simp

/-- What stands as a kernel's numbers in its text. -/
structure SnapOk (k : Kst) : Prop where
  time : 0 ≤ k.time ∧ k.time ≤ 1000000
  rooms : ∀ s ∈ k.rooms, ∀ x ∈ roomNums s, 0 ≤ x ∧ x ≤ 1000000
  lines : ∀ x ∈ k.lines, x.items.length ≤ 6 ∧ ∀ n ∈ x.lost :: x.items, 0 ≤ n ∧ n ≤ 1000000
  few : k.rooms.length ≤ 5 ∧ k.lines.length ≤ 12
theorem snap_ok {p : Pl} {k : Kst} {B : Int} (hp : PlOk p) (hk : KOk p k B) (hB : B ≤ 1000) : SnapOk k := by
  refine ⟨⟨hk.time0, by have := hk.timeB; omega⟩, fun s hs x hx => ?_, fun x hx => ?_, by rw [hk.rooms]; exact hp.most5, by rw [lines_len hk]; exact wires_few hp⟩
  · obtain ⟨r, hr⟩ := List.mem_iff_getElem?.1 hs
    have hl := (List.getElem?_eq_some_iff.1 hr).1
    have hc := List.getElem?_eq_getElem (show r < p.code.length by rw [← hk.rooms]; exact hl)
    have h1 := hk.states r _ s hc hr
    have h2 : (p.code[r]'(by rw [← hk.rooms]; exact hl)).length ≤ 20 := (codeChk_ok (hp.codes _ (List.getElem_mem _))).2.1
    obtain ⟨h3, h4⟩ := stOk_iff.1 h1
    have g0 := h4 0 (by omega)
    have g1 := h4 1 (by omega)
    have g2 := h4 2 (by omega)
    have g3 := h4 3 (by omega)
    have g4 := h4 4 (by omega)
    have g5 := h4 5 (by omega)
    simp only [St.get] at g0 g1 g2 g3 g4 g5
    simp only [roomNums, List.mem_cons, List.mem_nil_iff, or_false] at hx
    rcases hx with rfl | rfl | rfl | rfl | rfl | rfl | rfl | rfl
    · omega
    · omega
    · omega
    · omega
    · omega
    · omega
    · omega
    · split <;> omega
  · have h := hk.lns x hx
    have hw := wire_kind h.wire
    refine ⟨by have := h.most; omega, fun n hn => ?_⟩
    rw [List.mem_cons] at hn
    rcases hn with rfl | hn
    · exact ⟨h.lost0, by have := h.lostB; omega⟩
    · have := h.nums n hn; omega
theorem row_lit {w : World} {b T : Nat} {v : Value} (h : w.heap[b]? = some (.cells #[v] T (0, 0))) : Row w T 1 (some ⟨b, 0, none⟩) 1 1 [v] :=
  ⟨rfl, .inr ⟨b, 0, #[v], rfl, h, Nat.le_refl _, by decide, by simp, fun j u hu => by rw [Nat.zero_add]; simpa using hu⟩⟩
/-- append onto a row, at a step of a region that draws. -/
theorem step_append_rowS {P : Program} {w : World} {ops : Array Oper} {o : Oper} {a : Act} {K : Act → World → Prop} {Q : Exit → Act → World → Prop} {E : Prop} (hgd : o.guard = none) (s x : Operand) (t : TypeId)
    (hop : o.op = Op.call { callee := Callee.builtin Builtin.append, args := #[s, x], argTypes := #[t, t] })
    (e : TypeId) (i : TypeInfo) (z : Value) (size bytes : Nat) (ht : P.underlying t = some (.slice e)) (hi : P.info? e = some i) (hz : i.zero = some z)
    (hsize : i.size = size) (hby : i.bytes = bytes) (hzs : z.cells.size = size) (hsz : 0 < size)
    (A : Option Addr) (n cap : Nat) (hs : a.eval s = .slice A n cap) (A2 : Option Addr) (m c : Nat) (hx : a.eval x = .slice A2 m c) (xs news : List Value) (hrow : Row w e size A n cap xs) (hnews : Sl w A2 size m news) (h1 : ∀ u ∈ news, u.oneCell' = true)
    (h63 : n + m ≤ maxLen) (hbytes : (n + m) * bytes ≤ 140737488355328)
    (h : ∀ A' cap' w', Row w' e size A' (n + m) cap' (xs ++ news) → Keep (InA A) w w' → (∀ k, InA A' k → InA A k ∨ w.heap.size ≤ k) → K (a.put o.dst (.slice A' (n + m) cap')) w') :
    if Region.wanted o (yielded ops a.tmps) = true then Oper.wp P o a w K Q else E := by
  have hw : Region.wanted o (yielded ops a.tmps) = true := by simp [Region.wanted, hgd]
  rw [if_pos hw]
  obtain ⟨A', cap', w', hrun, r1, r2, r3⟩ := run_append_row (P := P) w t o.type e i z size bytes ht hi hz hsize hby hzs hsz A n cap xs hrow A2 m c news hnews h1 h63 hbytes
  unfold Oper.wp
  simp [execOp, hop, resolve, invoke, builtin, hs, hx, hrun, Result.andThen]
  exact h A' cap' w' r1 r2 r3
theorem row_drew {w : World} {e sz n cap : Nat} {A : Option Addr} {xs : List Value} (h : Row w e sz A n cap xs) : Row w.drew e sz A n cap xs := h
theorem sl_drew {w : World} {sz n : Nat} {A : Option Addr} {xs : List Value} (h : Sl w A sz n xs) : Sl w.drew A sz n xs := h
theorem sl_six {w : World} {sb : Nat} {pc c0 c1 c2 c3 c4 c5 : Value} {fl : Value} (h : w.heap[sb]? = some (.cells #[pc, c0, c1, c2, c3, c4, c5, fl] 59 (0, 0))) : Sl w (some ⟨sb, 1, none⟩) 1 6 [c0, c1, c2, c3, c4, c5] := by
  refine ⟨rfl, fun _ => ⟨sb, 1, rfl, blk_lt h, fun j u hu => ?_⟩⟩
  rw [blk_cell h]
  match j, hu with
  | 0, hu => simpa using hu
  | 1, hu => simpa using hu
  | 2, hu => simpa using hu
  | 3, hu => simpa using hu
  | 4, hu => simpa using hu
  | 5, hu => simpa using hu
theorem alloc2_new (w : World) (o o' : Obj) : ((w.alloc o).alloc o').heap[w.heap.size + 1]? = some o' := by
  have h := heap_alloc_new (w.alloc o) o'
  rw [sz_alloc] at h; exact h
theorem alloc2_old (w : World) (o o' : Obj) : ((w.alloc o).alloc o').heap[w.heap.size]? = some o := by rw [blk_alloc (by simp)]; exact heap_alloc_new w o
theorem sl_one {w : World} {b T : Nat} {v : Value} (h : w.heap[b]? = some (.cells #[v] T (0, 0))) : Sl w (some ⟨b, 0, none⟩) 1 1 [v] := (row_lit h).sl
/-- What the first append leaves: new memory alone. -/
structure Room9 (w w8 w9 : World) (A7 : Option Addr) : Prop where
  below : Below w.heap.size w w9
  fresh : ∀ i, InA A7 i → w.heap.size ≤ i
theorem room9 {w w8 wx w9 : World} {A7 : Option Addr} {b : Nat} (h8 : Below w.heap.size w w8) (hx : Below w8.heap.size w8 wx) (hb : w8.heap.size ≤ b) (k9 : Keep (InA (some ⟨b, 0, none⟩)) wx.drew w9) (i9 : ∀ k, InA A7 k → InA (some ⟨b, 0, none⟩) k ∨ wx.drew.heap.size ≤ k) : Room9 w w8 w9 A7 := by
  have s8 := h8.size
  have sx := hx.size
  refine ⟨(h8.trans (hx.mono s8)).trans (Keep.below (B := w.heap.size) (Keep.then (F := InA (some ⟨b, 0, none⟩)) (w := wx.drew) (Keep.drew (Keep.refl _ _)) k9 fun _ _ h => h) (by omega) fun i hi => by simp [InA] at hi; omega), fun i hi => ?_⟩
  rcases i9 i hi with h | h
  · simp [InA] at h; omega
  · have h2 : wx.heap.size ≤ i := h
    omega
theorem room10 {w w8 w9 w10 : World} {A7 : Option Addr} (h : Room9 w w8 w9 A7) {wx : World} (hx : Below w9.heap.size w9 wx) (k10 : Keep (InA A7) wx w10) : Below w.heap.size w w10 :=
  (h.below.trans (hx.mono h.below.size)).trans (Keep.below k10 (Nat.le_trans h.below.size hx.size) h.fresh)
theorem wire_below {w w7 w9 : World} {o o' : Obj} (h7 : Below w.heap.size w w7) (k9 : Keep (InA (some ⟨w7.heap.size + 1, 0, none⟩)) ((w7.alloc o).alloc o') w9) : Below w.heap.size w w9 := by
  have s7 := h7.size
  exact ((h7.alloc s7 o).alloc (by simp; omega) o').trans (Keep.below k9 (by simp; omega) fun i hi => by simp [InA] at hi; omega)
theorem line_size {T : ByteArray} {l : List UInt8} {n : Nat} (h : T.data.toList = l) (hl : l.length ≤ n) : T.size ≤ n := by rw [Lib.size_eq, h]; exact hl
theorem time_line (k : Kst) : snapHead k = lineT [116, 105, 109, 101] [k.time] := rfl

theorem save_ret {w w' : World} {a : Act} {S : ByteArray} {l : List UInt8} (h4 : a.tmps[4]? = some (.string S)) (h5 : a.tmps[5]? = some .nilIface) (hd : a.defers = []) (hS : S.data.toList = l) (hb : Below w.heap.size w w') :
    bodyPost Tryz.prog Tryz.f10 (fun e w' => ∃ T : ByteArray, e = .returned (.tuple #[.string T, .nilIface]) ∧ T.data.toList = l ∧ Below w.heap.size w w') .ret a w' :=
  bodyPost_ret (v := .tuple #[.string S, .nilIface]) (by simp [results, Tryz.results10, go_sem, h4, h5]) hd ⟨S, rfl, hS, hb⟩

set_option maxHeartbeats 8000000 in
theorem ssave_any {w : World} {kb : Nat} {M : KM} {k : Kst} {p : Pl} {B : Int} {m : PM} (hf : Forms w) (hpw : Pows w) (hka : KAt 77 122 81 w kb M k) (hk : KOk p k B) (hok : SnapOk k) (hm : PlanAt w m) (hpl : m.pl = p) (hchk : planChk p = 0) :
    Calls Tryz.prog 10 #[.pointer (some ⟨kb, 0, none⟩), .agg #[.slice m.A m.ros.length m.c, .int .i64 m.ticks, .slice m.sA m.spans.length m.sc, .slice m.wA m.wires.length m.wc]] w fun e w' =>
      ∃ T : ByteArray, e = .returned (.tuple #[.string T, .nilIface]) ∧ T.data.toList = snapText k ∧ Below w.heap.size w w' := by
  have hrl : k.rooms.length = m.ros.length := by rw [hk.rooms, ← hpl]; simp [PM.pl]
  have hwl : k.lines.length = m.wires.length := by rw [lines_len hk, ← hpl]; rfl
  obtain ⟨w1, hw1⟩ : ∃ w1, w1 = w.alloc (.cells #[.slice m.A m.ros.length m.c, .int .i64 m.ticks, .slice m.sA m.spans.length m.sc, .slice m.wA m.wires.length m.wc] 26) := ⟨_, rfl⟩
  have hb1 : Below w.heap.size w w1 := by rw [hw1]; exact (Below.refl _ _).alloc (Nat.le_refl _) _
  have hbox : w1.heap[w.heap.size]? = some (.cells #[.slice m.A m.ros.length m.c, .int .i64 m.ticks, .slice m.sA m.spans.length m.sc, .slice m.wA m.wires.length m.wc] 26 (0, 0)) := by rw [hw1]; exact heap_alloc_new w _
  have hck := plan_check m w1 (hf.new hb1) (hm.new hb1)
  rw [hpl, hchk, errV_zero] at hck
  have HROOMS : Hid (∀ w', Below w.heap.size w w' → Calls Tryz.prog 29 #[.pointer (some ⟨kb, 0, none⟩)] w' fun e w'' => e = .returned (.tuple #[.int .i64 m.ros.length, .int .i64 m.wires.length]) ∧ Below w'.heap.size w' w'') := fun w' hb => by
    have h := krooms_of (hka.new hb)
    rw [hrl, hwl] at h; exact h
  have HTIME : Hid (∀ w', Below w.heap.size w w' → Calls Tryz.prog 31 #[.pointer (some ⟨kb, 0, none⟩)] w' fun e w'' => e = .returned (.int .i64 k.time) ∧ w' = w'') := fun w' hb => ktime_any (hka.new hb)
  have HSTATE : Hid (∀ (w' : World) (r : Nat) (s : St), Below w.heap.size w w' → k.rooms[r]? = some s → Calls Tryz.prog 32 #[.pointer (some ⟨kb, 0, none⟩), .int .i64 r] w' fun e w'' => e = .returned (.tuple #[.agg (stV s), .nilIface]) ∧ Below w'.heap.size w' w'') := fun w' r s hb hr => by
    have h1 := kstate_any (r : Int) hok.few.1 (hka.new hb)
    have hlt := (List.getElem?_eq_some_iff.1 hr).1
    have h2 : stateOf k (r : Int) = (s, 0) := by
      unfold stateOf inB
      rw [if_pos (decide_eq_true (by omega)), Int.toNat_natCast, List.getD_eq_getElem?_getD, hr]; rfl
    rw [h2] at h1
    refine h1.mono fun e w' h3 => ?_
    unfold StateV at h3
    rw [errV_zero] at h3
    exact h3
  have HWIRE : Hid (∀ (w' : World) (i : Nat) (x : Ln), Below w.heap.size w w' → k.lines[i]? = some x → Calls Tryz.prog 33 #[.pointer (some ⟨kb, 0, none⟩), .int .i64 i] w' (WireV w' x.items x.lost 0)) := fun w' i x hb hx => by
    have h1 := kwire_any (i : Int) p B hk hok.few.2 (hka.new hb)
    have hlt := (List.getElem?_eq_some_iff.1 hx).1
    have h2 : wireOf k (i : Int) = ((x.items, x.lost), 0) := by
      unfold wireOf inB
      rw [if_pos (decide_eq_true (by omega)), Int.toNat_natCast, List.getD_eq_getElem?_getD, hx]; rfl
    rw [h2] at h1
    exact h1
  have HLINE : Hid (∀ (w' : World) (word : ByteArray) (A : Option Addr) (n c : Nat) (l : List Int), Below w.heap.size w w' → l.length = n → Sl w' A 1 n (ints l) → (∀ x ∈ l, 0 ≤ x ∧ x ≤ 1000000) → word.size ≤ 100 → n ≤ 20 → Calls Tryz.prog 30 #[.string word, .slice A n c] w' fun e w'' => ∃ T : ByteArray, e = .returned (.string T) ∧ T.data.toList = lineT word.data.toList l ∧ Below w'.heap.size w' w'') := fun w' word A n c l hb hn hs hl hw hln => by
    subst hn
    exact sline_any w' word A c l (hpw.new (pows_lt hpw) hb) hs hl hw hln
  have HCK := hid hck
  have HB1 := hid hb1
  have HBOX : Hid (∀ w', Below w1.heap.size w1 w' → w'.cell? ⟨w.heap.size, 0, none⟩ = some (.slice m.A m.ros.length m.c) ∧ w'.cell? ⟨w.heap.size, 3, none⟩ = some (.slice m.wA m.wires.length m.wc) ∧ w.heap.size < w'.heap.size) := fun w' hb => by
    have h := (hb.block _ (blk_lt hbox)).trans hbox
    exact ⟨blk_cell h 0, blk_cell h 3, blk_lt h⟩
  have x0 := blk_cell hbox 0
  have x1 := blk_cell hbox 1
  have x2 := blk_cell hbox 2
  have x3 := blk_cell hbox 3
  have hlx := blk_lt hbox
  simp at x0 x1 x2 x3
  have HOK := hid hok
  obtain ⟨R, hR⟩ : ∃ R, m.ros.length = R := ⟨_, rfl⟩
  obtain ⟨Q, hQ⟩ : ∃ Q, m.wires.length = Q := ⟨_, rfl⟩
  obtain ⟨ns, hns⟩ : ∃ ns, m.spans.length = ns := ⟨_, rfl⟩
  rw [hR] at hw1 hrl HROOMS HCK HBOX x0 ⊢
  rw [hQ] at hw1 hwl HROOMS HCK HBOX x3 ⊢
  rw [hns] at hw1 HCK x2 ⊢
  have HRL := hid hrl
  have HWL := hid hwl
  obtain ⟨T0, hT0⟩ : ∃ T0, T0 = snapHead k := ⟨_, rfl⟩
  have HT0 := hid hT0
  clear hf hpw hka hk hok hm hpl hchk hrl hwl hb1 hbox hck hR hQ hns hT0
  obtain ⟨i0, hi0, hz0, hz1, hz2⟩ := info_parts Tryz.infoInt
  go_enter Tryz.func10, Tryz.ntmps10
  go_wp2_with fail
  rw [← hw1]
  clear hw1
  refine HCK.out.mono ?_
  rintro e w2 ⟨rfl, hb2⟩
  obtain ⟨y0, y3, hly⟩ := HBOX.out w2 hb2
  have HB2 := hid (HB1.out.trans (hb2.mono HB1.out.size))
  have HX2 := hid hb2
  clear hb2 x0 x1 x2 x3 hlx HCK
  go_wp2_with (first
    | (go_at_call 29; refine (HROOMS.out _ HB2.out).mono ?_; rintro e w3 ⟨rfl, hb3⟩; obtain ⟨z0, z3, hlz⟩ := HBOX.out w3 (HX2.out.trans (hb3.mono HX2.out.size)); have HB3 := hid (HB2.out.trans (hb3.mono HB2.out.size)); clear hb3 y0 y3 hly HROOMS)
    | (go_at_call 31; refine (HTIME.out _ HB3.out).mono ?_; rintro e w4 ⟨rfl, rfl⟩; clear HTIME))
  refine (HLINE.out _ ⟨#[116, 105, 109, 101]⟩ _ 1 1 [k.time] (HB3.out.alloc HB3.out.size _) rfl (one_sl w3 (.int .i64 k.time) 3) (fun x hx => by have := HOK.out.time; simp at hx; omega) (by decide) (by decide)).mono ?_
  rintro e w6 ⟨T6, rfl, hT6, hb6⟩
  have HB6 := hid ((HB3.out.alloc HB3.out.size _).trans (hb6.mono (by have := HB3.out.size; simp; omega)))
  have HT6 : Hid (T6.data.toList = T0) := by rw [HT0.out]; exact hT6
  have hT0l : T0.length ≤ 27 := by
    rw [HT0.out, time_line]
    exact lineT_le (n := 1) (by decide) (Nat.le_refl 1) (fun x hx => by have := HOK.out.time; simp at hx; omega)
  have HT0L := hid hT0l
  clear hT6 hb6 z0 z3 hlz hT0l
  go_wp2_with fail
  go_loopw [9, 45] (fun v9 v45 wr => ∃ (r : Nat) (S : ByteArray), r ≤ R ∧ v9 = .string S ∧ v45 = .int .i64 r ∧ S.data.toList = T0 ++ (k.rooms.take r).flatMap roomLine ∧ Below w.heap.size w wr) (fun _ v45 _ => R - (intOf v45).toNat)
  case atStart => exact ⟨0, T6, by omega, rfl, rfl, by rw [HT6.out, List.take_zero]; simp, HB6.out⟩
  case round =>
    obtain ⟨r, S, hr, rfl, rfl, hS, hb⟩ := hrel
    have hSl : S.size ≤ 27 + 181 * r := by
      have h1 := flat_le roomLine 181 (k.rooms.take r) (fun s hs => lineT_le (n := 8) (by decide) (by simp [roomNums]) (HOK.out.rooms s (List.mem_of_mem_take hs)))
      rw [List.length_take] at h1
      have h2 := Nat.min_le_left r k.rooms.length
      have h3 : 181 * min r k.rooms.length ≤ 181 * r := Nat.mul_le_mul_left _ h2
      have := HT0L.out
      rw [Lib.size_eq, hS, List.length_append]; omega
    have hR5 : R ≤ 5 := by rw [← HRL.out]; exact HOK.out.few.1
    have HS := hid hS
    have HB := hid hb
    clear hS hb
    by_cases hrR : r < R
    · have hrl : r < k.rooms.length := by rw [HRL.out]; exact hrR
      have hget := List.getElem?_eq_getElem hrl
      generalize k.rooms[r] = s at hget
      have hnums := HOK.out.rooms s (List.mem_of_getElem? hget)
      have HST := hid (HSTATE.out wr r s HB.out hget)
      have HNX := hid (take_flat roomLine hget)
      obtain ⟨pc, c0, c1, c2, c3, c4, c5, fl⟩ := s
      unfold stV at HST
      simp only [] at HST
      have HNUM := hid hnums
      clear hget hnums
      cases fl
      · go_upto_region 17 with (go_at_call 32; refine HST.out.mono ?_; rintro e w7 ⟨rfl, hb7⟩; have HB7 := hid (HB.out.trans (hb7.mono HB.out.size)); clear hb7 HST)
        obtain ⟨w8, hw8⟩ : ∃ w8, w8 = w7.alloc (.cells #[.int .i64 pc, .int .i64 c0, .int .i64 c1, .int .i64 c2, .int .i64 c3, .int .i64 c4, .int .i64 c5, .bool false] 59) := ⟨_, rfl⟩
        have hsb : w8.heap[w7.heap.size]? = some (.cells #[.int .i64 pc, .int .i64 c0, .int .i64 c1, .int .i64 c2, .int .i64 c3, .int .i64 c4, .int .i64 c5, .bool false] 59 (0, 0)) := by rw [hw8]; exact heap_alloc_new w7 _
        have HB8 : Hid (Below w.heap.size w w8) := by rw [hw8]; exact HB7.out.alloc HB7.out.size _
        have d0 := blk_cell hsb 0
        have hd := blk_lt hsb
        simp at d0
        have HSB8 : Hid (∀ o : Obj, (w8.alloc o).heap[w7.heap.size]? = some (.cells #[.int .i64 pc, .int .i64 c0, .int .i64 c1, .int .i64 c2, .int .i64 c3, .int .i64 c4, .int .i64 c5, .bool false] 59 (0, 0))) := fun o => (blk_alloc (blk_lt hsb) o).trans hsb
        have HSB9 : Hid (∀ o o' : Obj, ((w8.alloc o).alloc o').heap[w7.heap.size]? = some (.cells #[.int .i64 pc, .int .i64 c0, .int .i64 c1, .int .i64 c2, .int .i64 c3, .int .i64 c4, .int .i64 c5, .bool false] 59 (0, 0))) := fun o o' => (blk_alloc (blk_lt ((blk_alloc (blk_lt hsb) o).trans hsb)) o').trans ((blk_alloc (blk_lt hsb) o).trans hsb)
        rw [← hw8]
        clear hw8 hsb
        generalize w7.heap.size = sb at d0 hd HSB8 HSB9 ⊢
        go_region_law (first
          | (refine step_append_rowS rfl (.tmp 62) (.tmp 64) 53 rfl 3 i0 (.int .i64 0) 1 8 Tryz.underlying53 hi0 hz0 hz1 hz2 rfl (by decide) _ _ _ rfl _ _ _ rfl [.int .i64 pc] [.int .i64 c0, .int .i64 c1, .int .i64 c2, .int .i64 c3, .int .i64 c4, .int .i64 c5] (row_drew (row_lit (heap_alloc_new w8 _))) (sl_drew (sl_six (HSB8.out _))) (by intro u hu; simp at hu; rcases hu with rfl | rfl | rfl | rfl | rfl | rfl <;> rfl) (by decide) (by decide) ?_; intro A7 cap7 w9 hrow9 hkeep9 hin9; have HR9 := hid hrow9; have HR0 := hid (room9 HB8.out ((Below.refl _ _).alloc (Nat.le_refl _) _) (Nat.le_refl _) hkeep9 hin9); have HX9 := hid (one_sl w9 (.int .i64 0) 3); clear hrow9 hkeep9 hin9)
          | (refine step_append_rowS rfl (.tmp 62) (.tmp 64) 53 rfl 3 i0 (.int .i64 0) 1 8 Tryz.underlying53 hi0 hz0 hz1 hz2 rfl (by decide) _ _ _ rfl _ _ _ rfl [.int .i64 pc] [.int .i64 c0, .int .i64 c1, .int .i64 c2, .int .i64 c3, .int .i64 c4, .int .i64 c5] (row_drew ((row_lit (heap_alloc_new w8 _)).alloc _)) (sl_drew (sl_six (HSB9.out _ _))) (by intro u hu; simp at hu; rcases hu with rfl | rfl | rfl | rfl | rfl | rfl <;> rfl) (by decide) (by decide) ?_; intro A7 cap7 w9 hrow9 hkeep9 hin9; have HR9 := hid hrow9; have HR0 := hid (room9 HB8.out (((Below.refl _ _).alloc (Nat.le_refl _) _).alloc (by simp) _) (Nat.le_refl _) hkeep9 hin9); have HX9 := hid (sl_one ((hkeep9.block (w8.heap.size + 1) (by simp) (by simp [InA])).trans (alloc2_new w8 _ _))); clear hrow9 hkeep9 hin9)
          | (refine step_append_rowS rfl (.tmp 62) (.tmp 64) 53 rfl 3 i0 (.int .i64 0) 1 8 Tryz.underlying53 hi0 hz0 hz1 hz2 rfl (by decide) _ _ _ rfl _ _ _ rfl [.int .i64 pc] [.int .i64 c0, .int .i64 c1, .int .i64 c2, .int .i64 c3, .int .i64 c4, .int .i64 c5] (row_drew (row_lit (alloc2_new w8 _ _))) (sl_drew (sl_six (HSB9.out _ _))) (by intro u hu; simp at hu; rcases hu with rfl | rfl | rfl | rfl | rfl | rfl <;> rfl) (by decide) (by decide) ?_; intro A7 cap7 w9 hrow9 hkeep9 hin9; have HR9 := hid hrow9; have HR0 := hid (room9 HB8.out (((Below.refl _ _).alloc (Nat.le_refl _) _).alloc (by simp) _) (Nat.le_succ _) hkeep9 hin9); have HX9 := hid (sl_one ((hkeep9.block w8.heap.size (by simp; omega) (by simp [InA])).trans (alloc2_old w8 _ _))); clear hrow9 hkeep9 hin9)
          | (refine step_append_rowS rfl (.tmp 65) (.tmp 67) 53 rfl 3 i0 (.int .i64 0) 1 8 Tryz.underlying53 hi0 hz0 hz1 hz2 rfl (by decide) _ _ _ rfl _ _ _ rfl [.int .i64 pc, .int .i64 c0, .int .i64 c1, .int .i64 c2, .int .i64 c3, .int .i64 c4, .int .i64 c5] [.int .i64 0] (HR9.out.alloc _) HX9.out (by intro u hu; simp at hu; subst hu; rfl) (by decide) (by decide) ?_; intro A8 cap8 w10 hrow10 hkeep10 hin10; have HR10 := hid hrow10; have HB10 := hid (room10 HR0.out ((Below.refl _ _).alloc (Nat.le_refl _) _) hkeep10); clear hrow10 hkeep10 hin10)
          | (refine step_append_rowS rfl (.tmp 65) (.tmp 67) 53 rfl 3 i0 (.int .i64 0) 1 8 Tryz.underlying53 hi0 hz0 hz1 hz2 rfl (by decide) _ _ _ rfl _ _ _ rfl [.int .i64 pc, .int .i64 c0, .int .i64 c1, .int .i64 c2, .int .i64 c3, .int .i64 c4, .int .i64 c5] [.int .i64 0] HR9.out HX9.out (by intro u hu; simp at hu; subst hu; rfl) (by decide) (by decide) ?_; intro A8 cap8 w10 hrow10 hkeep10 hin10; have HR10 := hid hrow10; have HB10 := hid (room10 HR0.out (Below.refl _ _) hkeep10); clear hrow10 hkeep10 hin10)
          | (go_simp; go_at_call 30; refine (HLINE.out w10 ⟨#[114, 111, 111, 109]⟩ _ 8 _ [pc, c0, c1, c2, c3, c4, c5, 0] HB10.out rfl HR10.out.sl HNUM.out (by decide) (by decide)).mono ?_; rintro e w11 ⟨T11, rfl, hT11, hb11⟩; have hT11l : T11.size ≤ 181 := line_size hT11 (lineT_le (n := 8) (by decide) (Nat.le_refl 8) HNUM.out); have hcat : ¬ 9223372036854775807 < S.size + T11.size := (by omega); have HB11 := hid (HB10.out.trans (hb11.mono HB10.out.size)); have HT11 := hid hT11; clear hT11 hb11))
        all_goals
          go_wp2_with fail
          go_roundw
          case rel =>
            refine ⟨r + 1, _, by omega, rfl, by go_num, ?_, HB11.out⟩
            rw [ByteArray.data_append, Array.toList_append, HS.out, HT11.out, HNX.out, ← List.append_assoc]
            rfl
          case measure => simp [intOf]; omega
      · go_upto_region 17 with (go_at_call 32; refine HST.out.mono ?_; rintro e w7 ⟨rfl, hb7⟩; have HB7 := hid (HB.out.trans (hb7.mono HB.out.size)); clear hb7 HST)
        obtain ⟨w8, hw8⟩ : ∃ w8, w8 = w7.alloc (.cells #[.int .i64 pc, .int .i64 c0, .int .i64 c1, .int .i64 c2, .int .i64 c3, .int .i64 c4, .int .i64 c5, .bool true] 59) := ⟨_, rfl⟩
        have hsb : w8.heap[w7.heap.size]? = some (.cells #[.int .i64 pc, .int .i64 c0, .int .i64 c1, .int .i64 c2, .int .i64 c3, .int .i64 c4, .int .i64 c5, .bool true] 59 (0, 0)) := by rw [hw8]; exact heap_alloc_new w7 _
        have HB8 : Hid (Below w.heap.size w w8) := by rw [hw8]; exact HB7.out.alloc HB7.out.size _
        have d0 := blk_cell hsb 0
        have hd := blk_lt hsb
        simp at d0
        have HSB8 : Hid (∀ o : Obj, (w8.alloc o).heap[w7.heap.size]? = some (.cells #[.int .i64 pc, .int .i64 c0, .int .i64 c1, .int .i64 c2, .int .i64 c3, .int .i64 c4, .int .i64 c5, .bool true] 59 (0, 0))) := fun o => (blk_alloc (blk_lt hsb) o).trans hsb
        have HSB9 : Hid (∀ o o' : Obj, ((w8.alloc o).alloc o').heap[w7.heap.size]? = some (.cells #[.int .i64 pc, .int .i64 c0, .int .i64 c1, .int .i64 c2, .int .i64 c3, .int .i64 c4, .int .i64 c5, .bool true] 59 (0, 0))) := fun o o' => (blk_alloc (blk_lt ((blk_alloc (blk_lt hsb) o).trans hsb)) o').trans ((blk_alloc (blk_lt hsb) o).trans hsb)
        rw [← hw8]
        clear hw8 hsb
        generalize w7.heap.size = sb at d0 hd HSB8 HSB9 ⊢
        go_region_law (first
          | (refine step_append_rowS rfl (.tmp 62) (.tmp 64) 53 rfl 3 i0 (.int .i64 0) 1 8 Tryz.underlying53 hi0 hz0 hz1 hz2 rfl (by decide) _ _ _ rfl _ _ _ rfl [.int .i64 pc] [.int .i64 c0, .int .i64 c1, .int .i64 c2, .int .i64 c3, .int .i64 c4, .int .i64 c5] (row_drew (row_lit (heap_alloc_new w8 _))) (sl_drew (sl_six (HSB8.out _))) (by intro u hu; simp at hu; rcases hu with rfl | rfl | rfl | rfl | rfl | rfl <;> rfl) (by decide) (by decide) ?_; intro A7 cap7 w9 hrow9 hkeep9 hin9; have HR9 := hid hrow9; have HR0 := hid (room9 HB8.out ((Below.refl _ _).alloc (Nat.le_refl _) _) (Nat.le_refl _) hkeep9 hin9); have HX9 := hid (one_sl w9 (.int .i64 1) 3); clear hrow9 hkeep9 hin9)
          | (refine step_append_rowS rfl (.tmp 62) (.tmp 64) 53 rfl 3 i0 (.int .i64 0) 1 8 Tryz.underlying53 hi0 hz0 hz1 hz2 rfl (by decide) _ _ _ rfl _ _ _ rfl [.int .i64 pc] [.int .i64 c0, .int .i64 c1, .int .i64 c2, .int .i64 c3, .int .i64 c4, .int .i64 c5] (row_drew ((row_lit (heap_alloc_new w8 _)).alloc _)) (sl_drew (sl_six (HSB9.out _ _))) (by intro u hu; simp at hu; rcases hu with rfl | rfl | rfl | rfl | rfl | rfl <;> rfl) (by decide) (by decide) ?_; intro A7 cap7 w9 hrow9 hkeep9 hin9; have HR9 := hid hrow9; have HR0 := hid (room9 HB8.out (((Below.refl _ _).alloc (Nat.le_refl _) _).alloc (by simp) _) (Nat.le_refl _) hkeep9 hin9); have HX9 := hid (sl_one ((hkeep9.block (w8.heap.size + 1) (by simp) (by simp [InA])).trans (alloc2_new w8 _ _))); clear hrow9 hkeep9 hin9)
          | (refine step_append_rowS rfl (.tmp 62) (.tmp 64) 53 rfl 3 i0 (.int .i64 0) 1 8 Tryz.underlying53 hi0 hz0 hz1 hz2 rfl (by decide) _ _ _ rfl _ _ _ rfl [.int .i64 pc] [.int .i64 c0, .int .i64 c1, .int .i64 c2, .int .i64 c3, .int .i64 c4, .int .i64 c5] (row_drew (row_lit (alloc2_new w8 _ _))) (sl_drew (sl_six (HSB9.out _ _))) (by intro u hu; simp at hu; rcases hu with rfl | rfl | rfl | rfl | rfl | rfl <;> rfl) (by decide) (by decide) ?_; intro A7 cap7 w9 hrow9 hkeep9 hin9; have HR9 := hid hrow9; have HR0 := hid (room9 HB8.out (((Below.refl _ _).alloc (Nat.le_refl _) _).alloc (by simp) _) (Nat.le_succ _) hkeep9 hin9); have HX9 := hid (sl_one ((hkeep9.block w8.heap.size (by simp; omega) (by simp [InA])).trans (alloc2_old w8 _ _))); clear hrow9 hkeep9 hin9)
          | (refine step_append_rowS rfl (.tmp 65) (.tmp 67) 53 rfl 3 i0 (.int .i64 0) 1 8 Tryz.underlying53 hi0 hz0 hz1 hz2 rfl (by decide) _ _ _ rfl _ _ _ rfl [.int .i64 pc, .int .i64 c0, .int .i64 c1, .int .i64 c2, .int .i64 c3, .int .i64 c4, .int .i64 c5] [.int .i64 1] (HR9.out.alloc _) HX9.out (by intro u hu; simp at hu; subst hu; rfl) (by decide) (by decide) ?_; intro A8 cap8 w10 hrow10 hkeep10 hin10; have HR10 := hid hrow10; have HB10 := hid (room10 HR0.out ((Below.refl _ _).alloc (Nat.le_refl _) _) hkeep10); clear hrow10 hkeep10 hin10)
          | (refine step_append_rowS rfl (.tmp 65) (.tmp 67) 53 rfl 3 i0 (.int .i64 0) 1 8 Tryz.underlying53 hi0 hz0 hz1 hz2 rfl (by decide) _ _ _ rfl _ _ _ rfl [.int .i64 pc, .int .i64 c0, .int .i64 c1, .int .i64 c2, .int .i64 c3, .int .i64 c4, .int .i64 c5] [.int .i64 1] HR9.out HX9.out (by intro u hu; simp at hu; subst hu; rfl) (by decide) (by decide) ?_; intro A8 cap8 w10 hrow10 hkeep10 hin10; have HR10 := hid hrow10; have HB10 := hid (room10 HR0.out (Below.refl _ _) hkeep10); clear hrow10 hkeep10 hin10)
          | (go_simp; go_at_call 30; refine (HLINE.out w10 ⟨#[114, 111, 111, 109]⟩ _ 8 _ [pc, c0, c1, c2, c3, c4, c5, 1] HB10.out rfl HR10.out.sl HNUM.out (by decide) (by decide)).mono ?_; rintro e w11 ⟨T11, rfl, hT11, hb11⟩; have hT11l : T11.size ≤ 181 := line_size hT11 (lineT_le (n := 8) (by decide) (Nat.le_refl 8) HNUM.out); have hcat : ¬ 9223372036854775807 < S.size + T11.size := (by omega); have HB11 := hid (HB10.out.trans (hb11.mono HB10.out.size)); have HT11 := hid hT11; clear hT11 hb11))
        all_goals
          go_wp2_with fail
          go_roundw
          case rel =>
            refine ⟨r + 1, _, by omega, rfl, by go_num, ?_, HB11.out⟩
            rw [ByteArray.data_append, Array.toList_append, HS.out, HT11.out, HNX.out, ← List.append_assoc]
            rfl
          case measure => simp [intOf]; omega
    · obtain rfl : r = R := by omega
      have hS0 : S.data.toList = T0 ++ k.rooms.flatMap roomLine := by rw [HS.out, ← HRL.out, List.take_length]
      obtain ⟨T1, hT1⟩ : ∃ T1, T1 = T0 ++ k.rooms.flatMap roomLine := ⟨_, rfl⟩
      rw [← hT1] at hS0
      have hT1l : T1.length ≤ 932 := by rw [← hS0, ← Lib.size_eq]; omega
      have HT1 := hid hT1
      have HS0 := hid hS0
      have hQ12 : Q ≤ 12 := by rw [← HWL.out]; exact HOK.out.few.2
      clear HS hS0 hT1 hSl hrR
      go_wp2_with fail
      go_loopw [9, 73] (fun v9 v73 wr => ∃ (q : Nat) (S : ByteArray), q ≤ Q ∧ v9 = .string S ∧ v73 = .int .i64 q ∧ S.data.toList = T1 ++ (k.lines.take q).flatMap wireLine ∧ Below w.heap.size w wr) (fun _ v73 _ => Q - (intOf v73).toNat)
      case atStart => exact ⟨0, S, by omega, rfl, rfl, by rw [HS0.out, List.take_zero]; simp, HB.out⟩
      case round =>
        obtain ⟨q, S, hq, rfl, rfl, hS, hb⟩ := hrel
        have hSl : S.size ≤ 932 + 159 * q := by
          have h1 := flat_le wireLine 159 (k.lines.take q) (fun x hx => by
            have h := HOK.out.lines x (List.mem_of_mem_take hx)
            exact lineT_le (n := 7) (by decide) (by simp; omega) h.2)
          rw [List.length_take] at h1
          have h2 := Nat.min_le_left q k.lines.length
          have h3 : 159 * min q k.lines.length ≤ 159 * q := Nat.mul_le_mul_left _ h2
          rw [Lib.size_eq, hS, List.length_append]; omega
        have HS := hid hS
        have HB2 := hid hb
        clear hS hb
        by_cases hqQ : q < Q
        · have hql : q < k.lines.length := by rw [HWL.out]; exact hqQ
          have hget := List.getElem?_eq_getElem hql
          generalize k.lines[q] = x at hget
          obtain ⟨hx6, hnums⟩ := HOK.out.lines x (List.mem_of_getElem? hget)
          have hwire := HWIRE.out wr q x HB2.out hget
          unfold WireV at hwire
          rw [errV_zero] at hwire
          have HWR := hid hwire
          have HNX := hid (take_flat wireLine hget)
          have HNUM := hid hnums
          obtain ⟨xw, items, lost⟩ := x
          simp only [] at hx6 HWR
          obtain ⟨ni, hni⟩ : ∃ ni, items.length = ni := ⟨_, rfl⟩
          rw [hni] at hx6 HWR
          have HNI := hid hni
          clear hget hnums hwire hni
          go_wp2_with (first
            | (go_at_call 33; refine HWR.out.mono ?_; rintro e w7 ⟨iA, icap, rfl, hrow, _, hb7⟩; have HB7 := hid (HB2.out.trans (hb7.mono HB2.out.size)); have HR7 := hid hrow; clear hrow hb7 HWR)
            | (at_builtin; refine wpList_append_row _ rfl _ _ 53 rfl 3 i0 (.int .i64 0) 1 8 Tryz.underlying53 hi0 hz0 hz1 hz2 rfl (by decide) (some ⟨w7.heap.size + 1, 0, none⟩) 1 1 [.int .i64 lost] rfl (row_lit (alloc2_new w7 _ _)) iA ni icap (ints items) rfl ?c1 ?c2 ?c3 ?c4 ?_))
          case c1 => exact (HR7.out.sl.new ((Below.refl _ _).alloc (Nat.le_refl _) _)).new ((Below.refl _ _).alloc (Nat.le_refl _) _)
          case c2 => intro u hu; unfold ints at hu; obtain ⟨n, _, rfl⟩ := List.mem_map.1 hu; rfl
          case c3 => unfold maxLen; omega
          case c4 => omega
          intro A9 cap9 w9 hrow9 hkeep9 hin9
          have HR9 := hid hrow9
          have HB9 := hid (wire_below HB7.out hkeep9)
          clear hrow9 hkeep9 hin9
          go_wp2_with fail
          refine (HLINE.out w9 ⟨#[119, 105, 114, 101]⟩ _ (1 + ni) _ (lost :: items) HB9.out (by rw [List.length_cons, HNI.out]; omega) HR9.out.sl HNUM.out (by decide) (by omega)).mono ?_
          rintro e w11 ⟨T11, rfl, hT11, hb11⟩
          have hT11l : T11.size ≤ 159 := line_size hT11 (lineT_le (n := 7) (by decide) (by rw [List.length_cons, HNI.out]; omega) HNUM.out)
          have hcat : ¬ 9223372036854775807 < S.size + T11.size := by omega
          have HB11 := hid (HB9.out.trans (hb11.mono HB9.out.size))
          have HT11 := hid hT11
          clear hT11 hb11
          go_wp2_with fail
          go_roundw
          case rel =>
            refine ⟨q + 1, _, by omega, rfl, by go_num, ?_, HB11.out⟩
            rw [ByteArray.data_append, Array.toList_append, HS.out, HT11.out, HNX.out, ← List.append_assoc]
            rfl
          case measure => simp [intOf]; omega
        · obtain rfl : q = Q := by omega
          have hfin : S.data.toList = snapText k := by
            rw [HS.out, ← HWL.out, List.take_length, HT1.out, HT0.out]; rfl
          clear HS
          go_wp2_with fail
          exact save_ret rfl rfl rfl hfin HB2.out
end Go.Proofs.YtikadpfchchbpaaGreatDoor
