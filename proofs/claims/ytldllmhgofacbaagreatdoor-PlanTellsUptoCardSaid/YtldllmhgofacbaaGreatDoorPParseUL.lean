/- Several parts: each begins with what it says. -/
import Derived.OrdersIn
import Derived.OrdersHeld
import Derived.Deep.RegionHeld
import Derived.RangeFuncCalls
import Derived.Test.YtldllmhgofacbaaGreatDoorPReadUL
import Derived.Test.YtldllmhgofacbaaGreatDoorPTextUL
import Derived.Test.YtldllmhgofacbaaGreatDoorDeskUL
import Derived.BigQuiet
import Derived.Deep.DeepCutAuto
import Derived.Test.YtldllmhgofacbaaGreatDoorReadUL
import Derived.Test.YtldllmhgofacbaaGreatDoorPPrintUL
import Derived.IntWalk
/- A region that draws its order, in a round of a range over a function: by the unfenced rules. -/
namespace Go.Proofs.YtldllmhgofacbaaGreatDoor

section
variable {P : Program} {ops : Array Oper} {Q : Exit → Act → World → Prop} {S : World → Prop} {l n : Nat}
/-- What must hold behind, and it is not let out. -/
def StrictQ (Q : Exit → Act → World → Prop) : Exit → Act → World → Prop
  | .outgrown, _, _ => False
  | e, a, w => Q e a w
theorem strict_not : ¬ LetsOut (StrictQ Q) := by
  rintro ⟨a, w, h⟩
  exact h
theorem strict_normal {a : Act} {w : World} (h : Q .normal a w) : StrictQ Q .normal a w := h
def noDefers (ops : Array Oper) : Bool := ops.toList.all fun o => match o.op with | .defer _ => false | _ => true
theorem noDefers_spec (h : noDefers ops = true) {i : Nat} {o : Oper} (ho : ops[i]? = some o) (c) : o.op ≠ .defer c := fun e => by
  unfold noDefers at h
  have h1 := List.all_eq_true.1 h o (by
    rw [← Array.getElem?_toList] at ho
    exact List.mem_of_getElem? ho)
  rw [e] at h1
  exact absurd h1 (by simp)
theorem upon_round {o : Oper} {a : Act} {K K' : Act → World → Prop} (hK : ∀ a w, K a w → K' a w) : ∀ {r : Result Next}, o.upon P a K (StrictQ Q) r → o.uponIn (Fence.wide.inRound l) n P a K' Q r
  | .ok (.value v) w', h => hK _ _ h
  | .ok .skip w', h => hK _ _ h
  | .ok (.defer d) w', h => hK _ _ h
  | .ok (.enter f args) w', h => ⟨fun hd => by simp [Fence.wide] at hd, CallsIn.inRound l ((callsIn_wide.2 h).mono fun e w'' he => by
      cases e with
      | returned v => exact hK _ _ he
      | panicked c => exact he
      | outgrown => exact absurd he strict_not)⟩
  | .ok (.row row args) w', h => ⟨fun hd => by simp [Fence.wide] at hd, fun c cs _ => let ⟨v, w'', r, s⟩ := h c cs; ⟨v, w'', hK _ _ r, stepsIn_wide.2 s⟩⟩
  | .ok (.round ..) w', h => h.elim
  | .halt (.panic v) w', h => h
  | .halt (.stuck s) w', h => by simp [Oper.upon] at h
theorem ops_round (hnd : noDefers ops = true) : ∀ (is : List Nat) (a : Act) (w : World), wpOps P ops (StrictQ Q) is a w → wpOpsIn (Fence.wide.inRound l) n P ops Q is a w
  | [], a, w, h => h
  | i :: rest, a, w, h => by
    rw [wpOps_cons] at h
    rw [wpOpsIn_cons]
    unfold wpOp at h
    unfold wpOpIn
    cases ho : ops[i]? with
    | none =>
      simp only [ho] at h ⊢
      exact ops_round hnd rest a w h
    | some o =>
      simp only [ho] at h ⊢
      split
      · rename_i hw
        simp only [hw, if_true] at h
        rcases h with h | ⟨_, h⟩
        · refine ⟨fun _ _ => trivial, ?_⟩
          rw [Oper.semAt_eq _ _ _ (noDefers_spec hnd ho)]
          exact upon_round (fun a w h => ops_round hnd rest a w h) h
        · exact absurd h strict_not
      · rename_i hw
        simp only [hw] at h
        exact ⟨fun _ _ => trivial, ops_round hnd rest _ w h⟩
theorem wpIn_round_held {id : Nat} {a : Act} {w : World} (hm : P.follows .mixedOrders = true) (hnd : noDefers ops = true) (hS : S w.drew)
    (h : S w.drew → wpAnyH P .any ops (StrictQ Q) S ops.size (Array.replicate ops.size false) a w.drew) : (Code.region id ops true).wpIn (Fence.wide.inRound l) n P Q a w :=
  wpIn_region_draw fun t => by
    simp only [Region.schedule, hm, Bool.true_or, if_true]
    exact ops_round hnd _ _ _ (wpAny_sound ops.size t _ a _ (wpAny_of_held _ _ _ _ (h hS)))
end
end Go.Proofs.YtldllmhgofacbaaGreatDoor

/- Package plan: the contract of head, for every line and every reader. Conditions: 'Desk' and the table of parts, which the row lists. -/
namespace Go.Proofs.YtldllmhgofacbaaGreatDoor
open Go.RowKit
set_option maxRecDepth 100000

/-- The table of parts. -/
structure Parts (w : World) : Prop where
  lt : 1 < w.heap.size
  w0 : w.cell? ⟨1, 0, none⟩ = some (.string ⟨#[102, 114, 97, 109, 101]⟩)
  m0 : w.cell? ⟨1, 1, none⟩ = some (.int .i64 1)
  w1 : w.cell? ⟨1, 2, none⟩ = some (.string ⟨#[115, 112, 97, 110]⟩)
  m1 : w.cell? ⟨1, 3, none⟩ = some (.int .i64 3)
  w2 : w.cell? ⟨1, 4, none⟩ = some (.string ⟨#[119, 105, 114, 101]⟩)
  m2 : w.cell? ⟨1, 5, none⟩ = some (.int .i64 4)
  w3 : w.cell? ⟨1, 6, none⟩ = some (.string ⟨#[114, 111, 111, 109]⟩)
  m3 : w.cell? ⟨1, 7, none⟩ = some (.int .i64 0)
theorem Parts.new {w w' : World} (h : Parts w) (hb : Below w.heap.size w w') : Parts w' :=
  have c : ∀ o, w'.cell? ⟨1, o, none⟩ = w.cell? ⟨1, o, none⟩ := fun o => hb.cell (p := ⟨1, o, none⟩) h.lt
  ⟨Nat.lt_of_lt_of_le h.lt hb.size, (c 0).trans h.w0, (c 1).trans h.m0, (c 2).trans h.w1, (c 3).trans h.m1, (c 4).trans h.w2, (c 5).trans h.m2, (c 6).trans h.w3, (c 7).trans h.m3⟩
/-- What head hands back. -/
def HeadGot (base b : Nat) (w : World) (m : PM) (part : Nat) (bg : Bool) (s : List UInt8) (e : Ending) (w' : World) : Prop :=
  Keep (rdF m b) w w' ∧
  ((∃ (l : PLine) (S' : PS) (m' : PM), l.Wf ∧ l.isHead = true ∧ l.txt = s ∧ (PS.mk m.pl part bg).step l = some S' ∧ m'.pl = S'.p ∧ e = .returned (.bool true) ∧ RdAt base w' b m' S'.part S'.begun) ∨
   ((∀ l : PLine, l.Wf → l.isHead = true → l.txt = s → (PS.mk m.pl part bg).step l = none) ∧ e = .returned (.bool false) ∧ RdAt base w' b m part bg))
theorem keep_new {m : PM} {b : Nat} {w w' : World} (hb : Below w.heap.size w w') : Keep (rdF m b) w w' := Keep.of_below _ hb
theorem head_false {base b part : Nat} {w w' : World} {m : PM} {bg : Bool} {s : List UInt8} (h : RdAt base w b m part bg) (hb : Below w.heap.size w w') (hno : ∀ l : PLine, l.Wf → l.isHead = true → l.txt = s → (PS.mk m.pl part bg).step l = none) : HeadGot base b w m part bg s (.returned (.bool false)) w' :=
  ⟨keep_new hb, .inr ⟨hno, rfl, h.new hb⟩⟩
theorem head_true {base b part : Nat} {w w4 w' : World} {m m' : PM} {bg : Bool} {s : List UInt8} {l : PLine} {S' : PS} (hb : Keep (rdF m b) w w4) (hk : Keep (rdF m b) w4 w') (hl : l.Wf) (hh : l.isHead = true) (ht : l.txt = s) (hst : (PS.mk m.pl part bg).step l = some S') (hm : m'.pl = S'.p) (h : RdAt base w' b m' S'.part S'.begun) : HeadGot base b w m part bg s (.returned (.bool true)) w' :=
  ⟨hb.then hk fun _ _ hj => hj, .inl ⟨l, S', m', hl, hh, ht, hst, hm, rfl, h⟩⟩
section
variable {base b part : Nat} {w wq : World} {m : PM} {A : Option Addr} {c : Nat}
theorem nums_past {n : Nat} {xs : List Value} {bg : Bool} (h : RdAt base wq b m part bg) (hn : Row wq 3 1 A n c xs) (v : Value) : Row (wq.setCell ⟨b, 4, none⟩ v) 3 1 A n c xs := hn.setCell (hn.apart h.blk (by decide)) v
theorem acc_frame {N0 : Nat} (h : RdAt base w b m 0 false) (hb : Below w.heap.size w wq) (hn : Row wq 3 1 A 1 c (ints ([N0].map Int.ofNat))) :
    Calls Tryz.prog 125 #[.pointer (some ⟨b, 0, none⟩), .slice A 1 c] (wq.setCell ⟨b, 4, none⟩ (.int .i64 0)) fun e w' => e = .returned (.tuple #[]) ∧ ∀ s, (mkLine 0 [N0]).Wf → (mkLine 0 [N0]).txt = s → HeadGot base b w m 0 false s (.returned (.bool true)) w' := by
  have h1 := h.new hb
  obtain ⟨h2, hk2⟩ := rd_part h1 0
  have h3 := nums_past h1 hn (.int .i64 0)
  refine (take_frame h2 h3.sl).mono ?_
  rintro e w' ⟨m', hpl, rfl, hrd, hk⟩
  exact ⟨rfl, fun s hw ht => head_true (S' := ⟨_, 0, true⟩) ((keep_new hb).then hk2 fun _ _ hj => hj) hk hw (mk_head _ (by decide)) ht (by rw [show mkLine 0 [N0] = PLine.frame N0 from rfl, step_frame, if_neg Bool.false_ne_true]; rfl) hpl hrd⟩
theorem acc_span {N0 N1 N2 : Nat} (hfew : m.spans.length ≤ 1073741824) (hp : part ≤ 1) (h : RdAt base w b m part true) (hb : Below w.heap.size w wq) (hn : Row wq 3 1 A 3 c (ints ([N0, N1, N2].map Int.ofNat))) :
    Calls Tryz.prog 125 #[.pointer (some ⟨b, 0, none⟩), .slice A 3 c] (wq.setCell ⟨b, 4, none⟩ (.int .i64 1)) fun e w' => e = .returned (.tuple #[]) ∧ ∀ s, (mkLine 1 [N0, N1, N2]).Wf → (mkLine 1 [N0, N1, N2]).txt = s → HeadGot base b w m part true s (.returned (.bool true)) w' := by
  have h1 := h.new hb
  obtain ⟨h2, hk2⟩ := rd_part h1 1
  have h3 := nums_past h1 hn (.int .i64 1)
  refine (take_span h2 hfew h3).mono ?_
  rintro e w' ⟨m', hpl, rfl, hrd, hk⟩
  exact ⟨rfl, fun s hw ht => head_true (S' := ⟨_, 1, true⟩) ((keep_new hb).then hk2 fun _ _ hj => hj) hk hw (mk_head _ (by decide)) ht (by rw [show mkLine 1 [N0, N1, N2] = PLine.span ⟨N0, N1, N2⟩ from rfl, step_span, if_pos ⟨rfl, hp⟩]) hpl hrd⟩
theorem acc_wire {N0 N1 N2 N3 : Nat} (hfew : m.wires.length ≤ 1073741824) (hp : part ≤ 2) (h : RdAt base w b m part true) (hb : Below w.heap.size w wq) (hn : Row wq 3 1 A 4 c (ints ([N0, N1, N2, N3].map Int.ofNat))) :
    Calls Tryz.prog 125 #[.pointer (some ⟨b, 0, none⟩), .slice A 4 c] (wq.setCell ⟨b, 4, none⟩ (.int .i64 2)) fun e w' => e = .returned (.tuple #[]) ∧ ∀ s, (mkLine 2 [N0, N1, N2, N3]).Wf → (mkLine 2 [N0, N1, N2, N3]).txt = s → HeadGot base b w m part true s (.returned (.bool true)) w' := by
  have h1 := h.new hb
  obtain ⟨h2, hk2⟩ := rd_part h1 2
  have h3 := nums_past h1 hn (.int .i64 2)
  refine (take_wire h2 hfew h3).mono ?_
  rintro e w' ⟨m', hpl, rfl, hrd, hk⟩
  exact ⟨rfl, fun s hw ht => head_true (S' := ⟨_, 2, true⟩) ((keep_new hb).then hk2 fun _ _ hj => hj) hk hw (mk_head _ (by decide)) ht (by rw [show mkLine 2 [N0, N1, N2, N3] = PLine.wire ⟨N0, N1, N2, N3⟩ from rfl, step_wire, if_pos ⟨rfl, hp⟩]) hpl hrd⟩
theorem acc_room {N : Nat} (hfew : m.ros.length ≤ 1073741824) (h : RdAt base w b m part true) (hb : Below w.heap.size w wq) (_ : N = 0) :
    Calls Tryz.prog 125 #[.pointer (some ⟨b, 0, none⟩), .slice A 0 c] (wq.setCell ⟨b, 4, none⟩ (.int .i64 3)) fun e w' => e = .returned (.tuple #[]) ∧ ∀ s, (mkLine 3 []).Wf → (mkLine 3 []).txt = s → HeadGot base b w m part true s (.returned (.bool true)) w' := by
  have h1 := h.new hb
  obtain ⟨h2, hk2⟩ := rd_part h1 3

  refine (take_room h2 hfew A c).mono ?_
  rintro e w' ⟨m', hpl, rfl, hrd, hk⟩
  exact ⟨rfl, fun s hw ht => head_true (S' := ⟨_, 3, true⟩) ((keep_new hb).then hk2 fun _ _ hj => hj) hk hw (mk_head _ (by decide)) ht (by rw [show mkLine 3 [] = PLine.room from rfl, step_room, if_pos rfl]) hpl hrd⟩
end

set_option maxHeartbeats 16000000 in
theorem head_any {base b part : Nat} {w : World} {m : PM} {bg : Bool} (s : ByteArray) (hs : s.size ≤ 1073741824) (hd : Desk w) (hp : Parts w) (h : RdAt base w b m part bg) (h3 : part ≤ 3) (h0 : bg = false → part = 0) (hf1 : m.ros.length ≤ 1073741824) (hf2 : m.spans.length ≤ 1073741824) (hf3 : m.wires.length ≤ 1073741824) :
    Calls Tryz.prog 77 #[.pointer (some ⟨b, 0, none⟩), .string s] w (HeadGot base b w m part bg s.data.toList) := by
  have HSPLIT := hid (split_any s hs w hd)
  have HD := hid hd
  have HP := hid hp
  have H := hid h
  have H0 := hid h0
  have HL := hid h.blk
  clear hd hp h h0
  go_enter Tryz.func77, Tryz.ntmps77
  go_upto_region 2 with (go_at_call 123; refine HSPLIT.out.mono ?_; rintro e w2 ⟨ws, n, hn, hws, hle, hns, rfl, rfl⟩; have HN := hid hn; have HWS := hid hws; have HLE := hid hle; clear hn hws hle HSPLIT)
  obtain ⟨v0, vs, hcut⟩ := cutA_cons 32 s.data.toList []
  have HCUT := hid hcut
  have hws0 := HWS.out
  rw [hcut] at hws0
  obtain ⟨w0, rest, hwr, hw0, hrest⟩ : ∃ w0 rest, ws = w0 :: rest ∧ w0.data.toList = v0 ∧ rest.map (fun s : ByteArray => s.data.toList) = vs := by
    cases ws with
    | nil => simp at hws0
    | cons w0 rest =>
      rw [List.map_cons] at hws0
      injection hws0 with h1 h2
      exact ⟨w0, rest, rfl, h1, h2⟩
  have hn := HN.out
  rw [hwr, List.length_cons] at hn
  have hsl := split_sl (w := w) HN.out
  have hrl : ∀ x ∈ rest, x.size ≤ 1073741824 := fun x hx => Nat.le_trans (HLE.out x (by rw [hwr]; simp [hx])) hs
  obtain ⟨W2, hW2⟩ : ∃ W2, w.alloc (.cells (ws.map Value.string).toArray 9) = W2 := ⟨_, rfl⟩
  have hb2 : Below w.heap.size w W2 := by rw [← hW2]; exact (Below.refl _ _).alloc (Nat.le_refl _) _
  have hsz2 : W2.heap.size = w.heap.size + 1 := by rw [← hW2]; exact sz_alloc _ _
  rw [hW2] at hsl ⊢
  have hw0c : W2.cell? ⟨w.heap.size, 0, none⟩ = some (.string w0) := by
    obtain ⟨bb, off, e, _, hx⟩ := hsl.2 (by omega)
    injection e with e
    injection e with e1 e2
    subst e1 e2
    exact hx 0 _ (by rw [hwr]; rfl)
  have hsl1 : Sl W2 (some ⟨w.heap.size, 1, none⟩) 1 (n - 1) (rest.map Value.string) := by
    refine ⟨by rw [List.length_map]; omega, fun _ => ⟨w.heap.size, 1, rfl, by omega, fun j u hu => ?_⟩⟩
    obtain ⟨bb, off, e, _, hx⟩ := hsl.2 (by omega)
    injection e with e
    injection e with e1 e2
    subst e1 e2
    have := hx (j + 1) u (by rw [hwr, List.map_cons]; exact hu)
    rw [show 1 + j = 0 + (j + 1) by omega]; exact this
  have HB2 := hid hb2
  have HNUM : Hid (if n = 1 then Calls Tryz.prog 124 #[.slice (some ⟨w.heap.size, 0, none⟩) 0 0, .int .i64 4] W2 (NumsGot 4 rest W2) else Calls Tryz.prog 124 #[.slice (some ⟨w.heap.size, 1, none⟩) (n - 1) (n - 1), .int .i64 4] W2 (NumsGot 4 rest W2)) := hid (by
    split
    · rename_i h1
      refine numbers_any rest _ 0 0 4 (by omega) (by omega) hrl W2 (HD.out.new HB2.out) ?_
      have : rest = [] := List.eq_nil_of_length_eq_zero (by omega)
      rw [this]; exact Sl.nil _ _ _
    · exact numbers_any rest _ (n - 1) (n - 1) 4 (by omega) (by omega) hrl W2 (HD.out.new HB2.out) hsl1)
  have HREST := hid hrest
  have HW0 := hid hw0
  have HW0C := hid hw0c
  have hn1 : 1 ≤ n := by omega
  clear hW2 hws0 hsl hsl1 hw0c hb2 hwr hrl hrest hcut HN HWS HLE hw0 hn
  have HN3 : Hid (∀ (w3 : World), Below W2.heap.size W2 w3 → Below w.heap.size w w3 ∧ w3.cell? ⟨w.heap.size, 0, none⟩ = some (.string w0)) := hid fun w3 hb => ⟨HB2.out.trans (hb.mono HB2.out.size), (hb.cell (p := ⟨w.heap.size, 0, none⟩) (by rw [hsz2]; exact Nat.lt_succ_self _)).trans HW0C.out⟩
  by_cases hn2 : n = 1
  all_goals
    first | rw [if_pos hn2] at HNUM | rw [if_neg hn2] at HNUM
    go_wp2_with fail
    refine HNUM.out.mono ?_
    rintro e w3 ⟨hb3, hor⟩
    rw [HREST.out] at hor
    obtain ⟨hbw3, hc3⟩ := HN3.out w3 hb3
    have HB3 := hid hbw3
    have hp3 := HP.out.new hbw3
    have p0 := hp3.w0
    have p1 := hp3.m0
    have p2 := hp3.w1
    have p3 := hp3.m1
    have p4 := hp3.w2
    have p5 := hp3.m2
    have p6 := hp3.w3
    have p7 := hp3.m3
    have hpl := hp3.lt
    obtain ⟨S0, hS0⟩ : ∃ S : ByteArray, S = ⟨#[102, 114, 97, 109, 101]⟩ := ⟨_, rfl⟩
    obtain ⟨S1, hS1⟩ : ∃ S : ByteArray, S = ⟨#[115, 112, 97, 110]⟩ := ⟨_, rfl⟩
    obtain ⟨S2, hS2⟩ : ∃ S : ByteArray, S = ⟨#[119, 105, 114, 101]⟩ := ⟨_, rfl⟩
    obtain ⟨S3, hS3⟩ : ∃ S : ByteArray, S = ⟨#[114, 111, 111, 109]⟩ := ⟨_, rfl⟩
    rw [← hS0] at p0
    rw [← hS1] at p2
    rw [← hS2] at p4
    rw [← hS3] at p6
    have HS0 : Hid (S0.data.toList = partWord 0) := hid (by rw [hS0]; rfl)
    have HS1 : Hid (S1.data.toList = partWord 1) := hid (by rw [hS1]; rfl)
    have HS2 : Hid (S2.data.toList = partWord 2) := hid (by rw [hS2]; rfl)
    have HS3 : Hid (S3.data.toList = partWord 3) := hid (by rw [hS3]; rfl)
    have HWR : Hid (∀ wr, Below w3.heap.size w3 wr → Below w.heap.size w wr ∧ (∀ o, (wr.alloc o).cell? ⟨w.heap.size, 0, none⟩ = some (.string w0)) ∧ (∀ o, (wr.alloc o).cell? ⟨b, 4, none⟩ = some (.int .i64 part)) ∧ (∀ o, (wr.alloc o).cell? ⟨b, 5, none⟩ = some (.bool bg)) ∧ w.heap.size < wr.heap.size ∧ b < wr.heap.size ∧ (∀ o j, (wr.alloc o).frozen? ⟨b, j, none⟩ = false)) := hid fun wr hb => by
      have hbw := hbw3.trans (hb.mono hbw3.size)
      have hl := cell_lt hc3
      have hbk := (hbw.block b (blk_lt HL.out)).trans HL.out
      unfold rdCells at hbk
      have hlr := blk_lt hbk
      have hl2 : w.heap.size < wr.heap.size := Nat.lt_of_lt_of_le hl hb.size
      refine ⟨hbw, fun o => (World.cell?_alloc_lt wr o ⟨w.heap.size, 0, none⟩ hl2).trans ((hb.cell (p := ⟨w.heap.size, 0, none⟩) hl).trans hc3), fun o => (World.cell?_alloc_lt wr o ⟨b, 4, none⟩ hlr).trans ((blk_cell hbk 4).trans rfl), fun o => (World.cell?_alloc_lt wr o ⟨b, 5, none⟩ hlr).trans ((blk_cell hbk 5).trans rfl), hl2, hlr, fun o j => ?_⟩
      exact blk_free ((blk_alloc hlr o).trans hbk) j
    clear hp3 hb3 hbw3 HNUM hS0 hS1 hS2 hS3
    have hix0 : ∀ w, (Instr.index 204 (.agg #[.string S0, .int .i64 1, .string S1, .int .i64 3, .string S2, .int .i64 4, .string S3, .int .i64 0]) (.int .i64 0)).run Tryz.prog w = .ok (.agg #[.string S0, .int .i64 1]) w := fun w => by kernel_rfl
    have hix1 : ∀ w, (Instr.index 204 (.agg #[.string S0, .int .i64 1, .string S1, .int .i64 3, .string S2, .int .i64 4, .string S3, .int .i64 0]) (.int .i64 1)).run Tryz.prog w = .ok (.agg #[.string S1, .int .i64 3]) w := fun w => by kernel_rfl
    have hix2 : ∀ w, (Instr.index 204 (.agg #[.string S0, .int .i64 1, .string S1, .int .i64 3, .string S2, .int .i64 4, .string S3, .int .i64 0]) (.int .i64 2)).run Tryz.prog w = .ok (.agg #[.string S2, .int .i64 4]) w := fun w => by kernel_rfl
    have hix3 : ∀ w, (Instr.index 204 (.agg #[.string S0, .int .i64 1, .string S1, .int .i64 3, .string S2, .int .i64 4, .string S3, .int .i64 0]) (.int .i64 3)).run Tryz.prog w = .ok (.agg #[.string S3, .int .i64 0]) w := fun w => by kernel_rfl
    rcases hor with ⟨ns, A6, m6, c6, hns6, hm6, rfl, hrow6, hnew6⟩ | ⟨hbad, rfl⟩
    · have HNS := hid hns6
      have HM6 := hid hm6
      have HR6 := hid hrow6
      have HB3N : Hid (∀ wr, Below w3.heap.size w3 wr → Below w3.heap.size w3 wr) := hid fun _ h => h
      clear hns6 hm6 hrow6 hnew6
      go_wp2_with fail
      go_loopw [19] (fun v19 wr => ∃ i : Nat, i ≤ 4 ∧ v19 = .int .i64 i ∧ (∀ j, j < i → partWord j ≠ v0) ∧ Below w3.heap.size w3 wr) (fun v19 _ => 4 - (intOf v19).toNat)
      case atStart => exact ⟨0, by omega, rfl, fun j hj => absurd hj (by omega), Below.refl _ _⟩
      case round =>
        obtain ⟨i, hi, rfl, hno, hb⟩ := hrel
        have HNO := hid hno
        have HBR := hid hb
        clear hno hb p0 p1 p2 p3 p4 p5 p6 p7 hpl hc3
        rcases (show i = 0 ∨ i = 1 ∨ i = 2 ∨ i = 3 ∨ i = 4 by omega) with rfl | rfl | rfl | rfl | rfl
        · obtain ⟨hbw, y0, y4, y5, hl0, hlb, yf⟩ := HWR.out wr HBR.out
          have HBW := hid hbw
          by_cases hw : partWord 0 = v0
          · obtain rfl : S0 = w0 := by
              apply ByteArray.ext
              apply Array.ext'
              rw [HS0.out, HW0.out, hw]
            subst hw
            have HNOT : Hid (¬ (ns.length = partMany 0 ∧ (PS.mk m.pl part bg).may 0) → ∀ l : PLine, l.Wf → l.isHead = true → l.txt = s.data.toList → (PS.mk m.pl part bg).step l = none) := hid fun hn l hl hh e => head_not HCUT.out (by decide) HNS.out H0.out h3 hn l hl hh e
            by_cases hl : m6 = 1
            · subst hl
              by_cases hp : part ≤ 0
              · obtain rfl : part = 0 := by omega
                cases bg with
                | true =>
                  clear hbw
                  go_upto_region 6 with fail
                  go_quiet (fail)
                  go_wp2_with fail
                  go_ret
                  exact head_false H.out (below_drawn (HBW.out.alloc HBW.out.size _) _) (HNOT.out fun hn => by have := hn.2.2; simp at this)
                | false =>
                  obtain ⟨N0, rfl⟩ : ∃ N0 : Nat, ns = [N0] := by
                    match ns, HM6.out with
                    | [x0], _ => exact ⟨x0, rfl⟩
                  have HACC : Hid (∀ wq, Below wr.heap.size wr wq → Calls Tryz.prog 125 #[.pointer (some ⟨b, 0, none⟩), .slice A6 1 c6] (wq.setCell ⟨b, 4, none⟩ (.int .i64 0)) fun e w' => e = .returned (.tuple #[]) ∧ ∀ s, (mkLine 0 [N0]).Wf → (mkLine 0 [N0]).txt = s → HeadGot base b w m 0 false s (.returned (.bool true)) w') := hid fun wq hq => acc_frame H.out (HBW.out.trans (hq.mono HBW.out.size)) (HR6.out.new ((HB3N.out wr HBR.out).trans (hq.mono (HB3N.out wr HBR.out).size)))
                  have HYES := hid (head_yes (i := 0) HCUT.out (by decide) HNS.out rfl)
                  clear hbw
                  go_upto_region 6 with fail
                  go_quiet (fail)
                  go_wp2_with (go_at_call 125; refine (HACC.out _ (below_drawn ((Below.refl _ _).alloc (Nat.le_refl _) _) _)).mono ?_; rintro e w9 ⟨rfl, hg⟩; have HG := hid (hg s.data.toList HYES.out.1 HYES.out.2); clear hg)
                  go_ret
                  exact HG.out
              · have hpi : (0 : Int) < (part : Int) := by omega
                clear hbw
                go_upto_region 6 with fail
                go_quiet (fail)
                go_wp2_with fail
                go_ret
                exact head_false H.out (below_drawn (HBW.out.alloc HBW.out.size _) _) (HNOT.out fun hn => hp hn.2.1)
            · have hli : ((m6 : Int) != 1) = true := by simp; omega
              clear hbw
              go_upto_region 6 with fail
              go_quiet (fail)
              go_wp2_with fail
              go_ret
              exact head_false H.out (below_drawn (HBW.out.alloc HBW.out.size _) _) (HNOT.out fun hn => hl (HM6.out.symm.trans hn.1))
          · have hne : (S0.toList == w0.toList) = false := by
              rw [Lib.toList_data, Lib.toList_data, HS0.out, HW0.out]
              exact beq_eq_false_iff_ne.2 hw
            have HWN := hid hw
            clear hbw hw
            go_upto_region 6 with fail
            go_quiet (fail)
            go_wp2_with fail
            go_roundw
            case rel =>
              refine ⟨1, by omega, by go_num, fun j hj => ?_, below_drawn (HBR.out.alloc HBR.out.size _) _⟩
              by_cases hjk : j = 0
              · rw [hjk]; exact HWN.out
              · exact HNO.out j (by omega)
            case measure => simp [intOf]
        · obtain ⟨hbw, y0, y4, y5, hl0, hlb, yf⟩ := HWR.out wr HBR.out
          have HBW := hid hbw
          by_cases hw : partWord 1 = v0
          · obtain rfl : S1 = w0 := by
              apply ByteArray.ext
              apply Array.ext'
              rw [HS1.out, HW0.out, hw]
            subst hw
            have HNOT : Hid (¬ (ns.length = partMany 1 ∧ (PS.mk m.pl part bg).may 1) → ∀ l : PLine, l.Wf → l.isHead = true → l.txt = s.data.toList → (PS.mk m.pl part bg).step l = none) := hid fun hn l hl hh e => head_not HCUT.out (by decide) HNS.out H0.out h3 hn l hl hh e
            by_cases hl : m6 = 3
            · subst hl
              by_cases hp : part ≤ 1
              · have hpi : ¬ (1 : Int) < (part : Int) := by omega
                cases bg with
                | false =>
                  clear hbw
                  go_upto_region 6 with fail
                  go_quiet (fail)
                  go_wp2_with fail
                  go_ret
                  exact head_false H.out (below_drawn (HBW.out.alloc HBW.out.size _) _) (HNOT.out fun hn => by have := hn.2.2; simp at this)
                | true =>
                  obtain ⟨N0, N1, N2, rfl⟩ : ∃ N0 N1 N2 : Nat, ns = [N0, N1, N2] := by
                    match ns, HM6.out with
                    | [x0, x1, x2], _ => exact ⟨x0, x1, x2, rfl⟩
                  have HACC : Hid (∀ wq, Below wr.heap.size wr wq → Calls Tryz.prog 125 #[.pointer (some ⟨b, 0, none⟩), .slice A6 3 c6] (wq.setCell ⟨b, 4, none⟩ (.int .i64 1)) fun e w' => e = .returned (.tuple #[]) ∧ ∀ s, (mkLine 1 [N0, N1, N2]).Wf → (mkLine 1 [N0, N1, N2]).txt = s → HeadGot base b w m part true s (.returned (.bool true)) w') := hid fun wq hq => acc_span hf2 hp H.out (HBW.out.trans (hq.mono HBW.out.size)) (HR6.out.new ((HB3N.out wr HBR.out).trans (hq.mono (HB3N.out wr HBR.out).size)))
                  have HYES := hid (head_yes (i := 1) HCUT.out (by decide) HNS.out rfl)
                  clear hbw
                  go_upto_region 6 with fail
                  go_quiet (fail)
                  go_wp2_with (go_at_call 125; refine (HACC.out _ (below_drawn ((Below.refl _ _).alloc (Nat.le_refl _) _) _)).mono ?_; rintro e w9 ⟨rfl, hg⟩; have HG := hid (hg s.data.toList HYES.out.1 HYES.out.2); clear hg)
                  go_ret
                  exact HG.out
              · have hpi : (1 : Int) < (part : Int) := by omega
                clear hbw
                go_upto_region 6 with fail
                go_quiet (fail)
                go_wp2_with fail
                go_ret
                exact head_false H.out (below_drawn (HBW.out.alloc HBW.out.size _) _) (HNOT.out fun hn => hp hn.2.1)
            · have hli : ((m6 : Int) != 3) = true := by simp; omega
              clear hbw
              go_upto_region 6 with fail
              go_quiet (fail)
              go_wp2_with fail
              go_ret
              exact head_false H.out (below_drawn (HBW.out.alloc HBW.out.size _) _) (HNOT.out fun hn => hl (HM6.out.symm.trans hn.1))
          · have hne : (S1.toList == w0.toList) = false := by
              rw [Lib.toList_data, Lib.toList_data, HS1.out, HW0.out]
              exact beq_eq_false_iff_ne.2 hw
            have HWN := hid hw
            clear hbw hw
            go_upto_region 6 with fail
            go_quiet (fail)
            go_wp2_with fail
            go_roundw
            case rel =>
              refine ⟨2, by omega, by go_num, fun j hj => ?_, below_drawn (HBR.out.alloc HBR.out.size _) _⟩
              by_cases hjk : j = 1
              · rw [hjk]; exact HWN.out
              · exact HNO.out j (by omega)
            case measure => simp [intOf]
        · obtain ⟨hbw, y0, y4, y5, hl0, hlb, yf⟩ := HWR.out wr HBR.out
          have HBW := hid hbw
          by_cases hw : partWord 2 = v0
          · obtain rfl : S2 = w0 := by
              apply ByteArray.ext
              apply Array.ext'
              rw [HS2.out, HW0.out, hw]
            subst hw
            have HNOT : Hid (¬ (ns.length = partMany 2 ∧ (PS.mk m.pl part bg).may 2) → ∀ l : PLine, l.Wf → l.isHead = true → l.txt = s.data.toList → (PS.mk m.pl part bg).step l = none) := hid fun hn l hl hh e => head_not HCUT.out (by decide) HNS.out H0.out h3 hn l hl hh e
            by_cases hl : m6 = 4
            · subst hl
              by_cases hp : part ≤ 2
              · have hpi : ¬ (2 : Int) < (part : Int) := by omega
                cases bg with
                | false =>
                  clear hbw
                  go_upto_region 6 with fail
                  go_quiet (fail)
                  go_wp2_with fail
                  go_ret
                  exact head_false H.out (below_drawn (HBW.out.alloc HBW.out.size _) _) (HNOT.out fun hn => by have := hn.2.2; simp at this)
                | true =>
                  obtain ⟨N0, N1, N2, N3, rfl⟩ : ∃ N0 N1 N2 N3 : Nat, ns = [N0, N1, N2, N3] := by
                    match ns, HM6.out with
                    | [x0, x1, x2, x3], _ => exact ⟨x0, x1, x2, x3, rfl⟩
                  have HACC : Hid (∀ wq, Below wr.heap.size wr wq → Calls Tryz.prog 125 #[.pointer (some ⟨b, 0, none⟩), .slice A6 4 c6] (wq.setCell ⟨b, 4, none⟩ (.int .i64 2)) fun e w' => e = .returned (.tuple #[]) ∧ ∀ s, (mkLine 2 [N0, N1, N2, N3]).Wf → (mkLine 2 [N0, N1, N2, N3]).txt = s → HeadGot base b w m part true s (.returned (.bool true)) w') := hid fun wq hq => acc_wire hf3 hp H.out (HBW.out.trans (hq.mono HBW.out.size)) (HR6.out.new ((HB3N.out wr HBR.out).trans (hq.mono (HB3N.out wr HBR.out).size)))
                  have HYES := hid (head_yes (i := 2) HCUT.out (by decide) HNS.out rfl)
                  clear hbw
                  go_upto_region 6 with fail
                  go_quiet (fail)
                  go_wp2_with (go_at_call 125; refine (HACC.out _ (below_drawn ((Below.refl _ _).alloc (Nat.le_refl _) _) _)).mono ?_; rintro e w9 ⟨rfl, hg⟩; have HG := hid (hg s.data.toList HYES.out.1 HYES.out.2); clear hg)
                  go_ret
                  exact HG.out
              · have hpi : (2 : Int) < (part : Int) := by omega
                clear hbw
                go_upto_region 6 with fail
                go_quiet (fail)
                go_wp2_with fail
                go_ret
                exact head_false H.out (below_drawn (HBW.out.alloc HBW.out.size _) _) (HNOT.out fun hn => hp hn.2.1)
            · have hli : ((m6 : Int) != 4) = true := by simp; omega
              clear hbw
              go_upto_region 6 with fail
              go_quiet (fail)
              go_wp2_with fail
              go_ret
              exact head_false H.out (below_drawn (HBW.out.alloc HBW.out.size _) _) (HNOT.out fun hn => hl (HM6.out.symm.trans hn.1))
          · have hne : (S2.toList == w0.toList) = false := by
              rw [Lib.toList_data, Lib.toList_data, HS2.out, HW0.out]
              exact beq_eq_false_iff_ne.2 hw
            have HWN := hid hw
            clear hbw hw
            go_upto_region 6 with fail
            go_quiet (fail)
            go_wp2_with fail
            go_roundw
            case rel =>
              refine ⟨3, by omega, by go_num, fun j hj => ?_, below_drawn (HBR.out.alloc HBR.out.size _) _⟩
              by_cases hjk : j = 2
              · rw [hjk]; exact HWN.out
              · exact HNO.out j (by omega)
            case measure => simp [intOf]
        · obtain ⟨hbw, y0, y4, y5, hl0, hlb, yf⟩ := HWR.out wr HBR.out
          have HBW := hid hbw
          by_cases hw : partWord 3 = v0
          · obtain rfl : S3 = w0 := by
              apply ByteArray.ext
              apply Array.ext'
              rw [HS3.out, HW0.out, hw]
            subst hw
            have HNOT : Hid (¬ (ns.length = partMany 3 ∧ (PS.mk m.pl part bg).may 3) → ∀ l : PLine, l.Wf → l.isHead = true → l.txt = s.data.toList → (PS.mk m.pl part bg).step l = none) := hid fun hn l hl hh e => head_not HCUT.out (by decide) HNS.out H0.out h3 hn l hl hh e
            by_cases hl : m6 = 0
            · subst hl
              by_cases hp : part ≤ 3
              · have hpi : ¬ (3 : Int) < (part : Int) := by omega
                cases bg with
                | false =>
                  clear hbw
                  go_upto_region 6 with fail
                  go_quiet (fail)
                  go_wp2_with fail
                  go_ret
                  exact head_false H.out (below_drawn (HBW.out.alloc HBW.out.size _) _) (HNOT.out fun hn => by have := hn.2.2; simp at this)
                | true =>
                  obtain rfl : ns = [] := List.eq_nil_of_length_eq_zero HM6.out
                  have HACC : Hid (∀ wq, Below wr.heap.size wr wq → Calls Tryz.prog 125 #[.pointer (some ⟨b, 0, none⟩), .slice A6 0 c6] (wq.setCell ⟨b, 4, none⟩ (.int .i64 3)) fun e w' => e = .returned (.tuple #[]) ∧ ∀ s, (mkLine 3 []).Wf → (mkLine 3 []).txt = s → HeadGot base b w m part true s (.returned (.bool true)) w') := hid fun wq hq => acc_room (N := 0) hf1 H.out (HBW.out.trans (hq.mono HBW.out.size)) rfl
                  have HYES := hid (head_yes (i := 3) HCUT.out (by decide) HNS.out rfl)
                  clear hbw
                  go_upto_region 6 with fail
                  go_quiet (fail)
                  go_wp2_with (go_at_call 125; refine (HACC.out _ (below_drawn ((Below.refl _ _).alloc (Nat.le_refl _) _) _)).mono ?_; rintro e w9 ⟨rfl, hg⟩; have HG := hid (hg s.data.toList HYES.out.1 HYES.out.2); clear hg)
                  go_ret
                  exact HG.out
              · exact absurd h3 hp
            · have hli : ((m6 : Int) != 0) = true := by simp; omega
              clear hbw
              go_upto_region 6 with fail
              go_quiet (fail)
              go_wp2_with fail
              go_ret
              exact head_false H.out (below_drawn (HBW.out.alloc HBW.out.size _) _) (HNOT.out fun hn => hl (HM6.out.symm.trans hn.1))
          · have hne : (S3.toList == w0.toList) = false := by
              rw [Lib.toList_data, Lib.toList_data, HS3.out, HW0.out]
              exact beq_eq_false_iff_ne.2 hw
            have HWN := hid hw
            clear hbw hw
            go_upto_region 6 with fail
            go_quiet (fail)
            go_wp2_with fail
            go_roundw
            case rel =>
              refine ⟨4, by omega, by go_num, fun j hj => ?_, below_drawn (HBR.out.alloc HBR.out.size _) _⟩
              by_cases hjk : j = 3
              · rw [hjk]; exact HWN.out
              · exact HNO.out j (by omega)
            case measure => simp [intOf]
        · obtain ⟨hbw, _, _, _, _, _, _⟩ := HWR.out wr HBR.out
          have HBW := hid hbw
          clear hbw
          go_wp2_with fail
          go_ret
          exact head_false H.out HBW.out fun l hl hh e => absurd e (head_none HCUT.out (fun i hi => HNO.out i hi) l hl hh)
    · have HBAD := hid hbad
      clear hbad
      go_wp2_with fail
      go_loopw [19] (fun v19 wr => ∃ i : Nat, i ≤ 4 ∧ v19 = .int .i64 i ∧ (∀ j, j < i → partWord j ≠ v0) ∧ Below w3.heap.size w3 wr) (fun v19 _ => 4 - (intOf v19).toNat)
      case atStart => exact ⟨0, by omega, rfl, fun j hj => absurd hj (by omega), Below.refl _ _⟩
      case round =>
        obtain ⟨i, hi, rfl, hno, hb⟩ := hrel
        have HNO := hid hno
        have HBR := hid hb
        clear hno hb p0 p1 p2 p3 p4 p5 p6 p7 hpl hc3
        rcases (show i = 0 ∨ i = 1 ∨ i = 2 ∨ i = 3 ∨ i = 4 by omega) with rfl | rfl | rfl | rfl | rfl
        · obtain ⟨hbw, y0, y4, y5, hl0, hlb, yf⟩ := HWR.out wr HBR.out
          have HBW := hid hbw
          by_cases hw : partWord 0 = v0
          · obtain rfl : S0 = w0 := by
              apply ByteArray.ext
              apply Array.ext'
              rw [HS0.out, HW0.out, hw]
            subst hw
            clear hbw
            go_upto_region 6 with fail
            go_quiet (fail)
            go_wp2_with fail
            go_ret
            exact head_false H.out (below_drawn (HBW.out.alloc HBW.out.size _) _) fun l hl hh e => absurd e (head_nonum HCUT.out HBAD.out l hl hh)
          · have hne : (S0.toList == w0.toList) = false := by
              rw [Lib.toList_data, Lib.toList_data, HS0.out, HW0.out]
              exact beq_eq_false_iff_ne.2 hw
            have HWN := hid hw
            clear hbw hw
            go_upto_region 6 with fail
            go_quiet (fail)
            go_wp2_with fail
            go_roundw
            case rel =>
              refine ⟨1, by omega, by go_num, fun j hj => ?_, below_drawn (HBR.out.alloc HBR.out.size _) _⟩
              by_cases hjk : j = 0
              · rw [hjk]; exact HWN.out
              · exact HNO.out j (by omega)
            case measure => simp [intOf]
        · obtain ⟨hbw, y0, y4, y5, hl0, hlb, yf⟩ := HWR.out wr HBR.out
          have HBW := hid hbw
          by_cases hw : partWord 1 = v0
          · obtain rfl : S1 = w0 := by
              apply ByteArray.ext
              apply Array.ext'
              rw [HS1.out, HW0.out, hw]
            subst hw
            clear hbw
            go_upto_region 6 with fail
            go_quiet (fail)
            go_wp2_with fail
            go_ret
            exact head_false H.out (below_drawn (HBW.out.alloc HBW.out.size _) _) fun l hl hh e => absurd e (head_nonum HCUT.out HBAD.out l hl hh)
          · have hne : (S1.toList == w0.toList) = false := by
              rw [Lib.toList_data, Lib.toList_data, HS1.out, HW0.out]
              exact beq_eq_false_iff_ne.2 hw
            have HWN := hid hw
            clear hbw hw
            go_upto_region 6 with fail
            go_quiet (fail)
            go_wp2_with fail
            go_roundw
            case rel =>
              refine ⟨2, by omega, by go_num, fun j hj => ?_, below_drawn (HBR.out.alloc HBR.out.size _) _⟩
              by_cases hjk : j = 1
              · rw [hjk]; exact HWN.out
              · exact HNO.out j (by omega)
            case measure => simp [intOf]
        · obtain ⟨hbw, y0, y4, y5, hl0, hlb, yf⟩ := HWR.out wr HBR.out
          have HBW := hid hbw
          by_cases hw : partWord 2 = v0
          · obtain rfl : S2 = w0 := by
              apply ByteArray.ext
              apply Array.ext'
              rw [HS2.out, HW0.out, hw]
            subst hw
            clear hbw
            go_upto_region 6 with fail
            go_quiet (fail)
            go_wp2_with fail
            go_ret
            exact head_false H.out (below_drawn (HBW.out.alloc HBW.out.size _) _) fun l hl hh e => absurd e (head_nonum HCUT.out HBAD.out l hl hh)
          · have hne : (S2.toList == w0.toList) = false := by
              rw [Lib.toList_data, Lib.toList_data, HS2.out, HW0.out]
              exact beq_eq_false_iff_ne.2 hw
            have HWN := hid hw
            clear hbw hw
            go_upto_region 6 with fail
            go_quiet (fail)
            go_wp2_with fail
            go_roundw
            case rel =>
              refine ⟨3, by omega, by go_num, fun j hj => ?_, below_drawn (HBR.out.alloc HBR.out.size _) _⟩
              by_cases hjk : j = 2
              · rw [hjk]; exact HWN.out
              · exact HNO.out j (by omega)
            case measure => simp [intOf]
        · obtain ⟨hbw, y0, y4, y5, hl0, hlb, yf⟩ := HWR.out wr HBR.out
          have HBW := hid hbw
          by_cases hw : partWord 3 = v0
          · obtain rfl : S3 = w0 := by
              apply ByteArray.ext
              apply Array.ext'
              rw [HS3.out, HW0.out, hw]
            subst hw
            clear hbw
            go_upto_region 6 with fail
            go_quiet (fail)
            go_wp2_with fail
            go_ret
            exact head_false H.out (below_drawn (HBW.out.alloc HBW.out.size _) _) fun l hl hh e => absurd e (head_nonum HCUT.out HBAD.out l hl hh)
          · have hne : (S3.toList == w0.toList) = false := by
              rw [Lib.toList_data, Lib.toList_data, HS3.out, HW0.out]
              exact beq_eq_false_iff_ne.2 hw
            have HWN := hid hw
            clear hbw hw
            go_upto_region 6 with fail
            go_quiet (fail)
            go_wp2_with fail
            go_roundw
            case rel =>
              refine ⟨4, by omega, by go_num, fun j hj => ?_, below_drawn (HBR.out.alloc HBR.out.size _) _⟩
              by_cases hjk : j = 3
              · rw [hjk]; exact HWN.out
              · exact HNO.out j (by omega)
            case measure => simp [intOf]
        · obtain ⟨hbw, _, _, _, _, _, _⟩ := HWR.out wr HBR.out
          have HBW := hid hbw
          clear hbw
          go_wp2_with fail
          go_ret
          exact head_false H.out HBW.out fun l hl hh e => absurd e (head_none HCUT.out (fun i hi => HNO.out i hi) l hl hh)
end Go.Proofs.YtldllmhgofacbaaGreatDoor

/- Package plan: the contract of Parse, for every text. Conditions: 'Desk', the table of forms with its names, the table of parts, which the row lists; no text is longer than 2^30 bytes. -/
namespace Go.Proofs.YtldllmhgofacbaaGreatDoor
open Go.RowKit Go.Shelf
set_option maxRecDepth 100000
attribute [local go_sem] Oper.semAt_some

def zeroPl : Array Value := #[.slice none 0 0, .int .i64 0, .slice none 0 0, .slice none 0 0]
/-- What Parse hands back. -/
def PlanParsed (t : ByteArray) (w : World) (e : Ending) (w' : World) : Prop :=
  Below w.heap.size w w' ∧
  ((∃ m : PM, WfPl m.pl ∧ planText m.pl = t.data.toList ∧ planChk m.pl = 0 ∧ e = .returned (.tuple #[.agg #[.slice m.A m.ros.length m.c, .int .i64 m.ticks, .slice m.sA m.spans.length m.sc, .slice m.wA m.wires.length m.wc], .nilIface]) ∧ PlanAt w' m ∧ ∀ j, planF m j → w.heap.size ≤ j) ∨
   (∃ p : Pl, WfPl p ∧ planText p = t.data.toList ∧ planChk p ≠ 0 ∧ e = .returned (.tuple #[.agg zeroPl, errV (planChk p)])) ∨
   ((∀ p : Pl, WfPl p → planText p ≠ t.data.toList) ∧ e = .returned (.tuple #[.agg zeroPl, errV 2])))

theorem RdAt.turned {base b part : Nat} {w w' : World} {m : PM} {bg : Bool} {row : Option Nat} (h : RdAt base w b m part bg) (hg : w.grownBy w' row) (hr : ∀ r, row = some r → ∃ o : Obj, w.heap[r]? = some o ∧ o.isCells = false) : RdAt base w' b m part bg :=
  ⟨(grownBy_keeps_cells hg hr h.blk rfl).trans h.blk, h.rows.turned hg hr, fun r hr' => (h.codes r hr').turned hg hr, h.apart, h.spans.turned hg hr, h.wires.turned hg hr, h.fresh, h.freshC, h.low, Nat.le_trans h.big hg.size⟩
theorem RdAt.cell {base b part t : Nat} {w : World} {m : PM} {bg : Bool} (h : RdAt base w b m part bg) (h1 : t ≠ b) (h2 : t < base) (u : Value) : RdAt base (w.setCell ⟨t, 0, none⟩ u) b m part bg :=
  h.keep (G := fun j => j = t) ((Keep.refl (fun j => j = t) w).setCell (.inl rfl) _) fun j hj => by subst hj; exact ⟨h1, .inl h2⟩

/-- Midway: so many lines are read. -/
structure PPAt (w : World) (pre : List ByteArray) (W : World) : Prop where
  res : W.heap[w.heap.size]? = some (.cells zeroPl 26 (0, 0))
  err : Boxed W (w.heap.size + 1) 30 .nilIface
  ptr : Boxed W (w.heap.size + 1 + 1 + 1) 134 (.pointer (some ⟨w.heap.size + 1 + 1, 0, none⟩))
  out : ∃ (ls : List PLine) (m : PM) (part : Nat) (bg : Bool), (∀ l ∈ ls, l.Wf) ∧ pre.map (fun s => s.data.toList) = ls.map plineText ∧ PS.start.run ls = some ⟨m.pl, part, bg⟩ ∧ RdAt (w.heap.size + 5) W (w.heap.size + 1 + 1) m part bg
  big : w.heap.size + 5 ≤ W.heap.size
  below : Below w.heap.size w W
theorem PPAt.abide (w : World) : Abide (w.heap.size + 5) (w.heap.size + 1 + 1 + 1 + 1) (PPAt w) := by
  refine ⟨fun s W W' row h hg hr => ?_, fun s W u h => ?_⟩
  · have hr2 : ∀ r, row = some r → ∃ o : Obj, W.heap[r]? = some o ∧ o.isCells = false := fun r e => (hr r e).2
    obtain ⟨ls, m, part, bg, h1, h2, h3, h4⟩ := h.out
    exact ⟨(grownBy_keeps_cells hg hr2 h.res rfl).trans h.res, boxed_turned h.err hg hr2, boxed_turned h.ptr hg hr2, ⟨ls, m, part, bg, h1, h2, h3, h4.turned hg hr2⟩, Nat.le_trans h.big hg.size, h.below.grown hg h.below.size (fun k e => by have := (hr k e).1; omega)⟩
  · obtain ⟨ls, m, part, bg, h1, h2, h3, h4⟩ := h.out
    exact ⟨(blk_far (p := ⟨w.heap.size + 1 + 1 + 1 + 1, 0, none⟩) (by simp; omega) u).trans h.res, h.err.other (by omega) _, h.ptr.other (by omega) _, ⟨ls, m, part, bg, h1, h2, h3, h4.cell (by omega) (by omega) u⟩, by rw [sz_set]; exact h.big, h.below.setCell (p := ⟨w.heap.size + 1 + 1 + 1 + 1, 0, none⟩) (by simp; omega) _⟩
/-- It has stopped: a line is no plan's. -/
structure PPStop (t : ByteArray) (w : World) (c : Code) (W : World) : Prop where
  ret : c = .ret
  no : ∀ p : Pl, WfPl p → planText p ≠ t.data.toList
  res : W.heap[w.heap.size]? = some (.cells zeroPl 26 (0, 0))
  err : Boxed W (w.heap.size + 1) 30 (errV 2)
  below : Below w.heap.size w W
theorem PPStop.abide (t : ByteArray) (w : World) (c : Code) : Abide (w.heap.size + 5) (w.heap.size + 1 + 1 + 1 + 1) (fun (_ : List ByteArray) W => PPStop t w c W) := by
  refine ⟨fun s W W' row h hg hr => ?_, fun s W u h => ?_⟩
  · have hr2 : ∀ r, row = some r → ∃ o : Obj, W.heap[r]? = some o ∧ o.isCells = false := fun r e => (hr r e).2
    exact ⟨h.ret, h.no, (grownBy_keeps_cells hg hr2 h.res rfl).trans h.res, boxed_turned h.err hg hr2, h.below.grown hg h.below.size (fun k e => by have := (hr k e).1; omega)⟩
  · exact ⟨h.ret, h.no, (blk_far (p := ⟨w.heap.size + 1 + 1 + 1 + 1, 0, none⟩) (by simp; omega) u).trans h.res, h.err.other (by omega) _, h.below.setCell (p := ⟨w.heap.size + 1 + 1 + 1 + 1, 0, none⟩) (by simp; omega) _⟩

def pparseW (w : World) (t : ByteArray) : World := ((((w.alloc (.cells zeroPl 26)).alloc (.cells #[.nilIface] 30)).alloc (.cells #[.slice none 0 0, .int .i64 0, .slice none 0 0, .slice none 0 0, .int .i64 0, .bool false] 136)).alloc (.cells #[.pointer (some ⟨w.heap.size + 1 + 1, 0, none⟩)] 134)).alloc (.cells #[.string t] 9)
theorem pparse_start {w : World} {t : ByteArray} : PPAt w [] (pparseW w t) := by
  have b0 := heap_alloc_new w (.cells zeroPl 26)
  have b1 := heap_alloc_new (w.alloc (.cells zeroPl 26)) (.cells #[.nilIface] 30)
  have b2 := heap_alloc_new ((w.alloc (.cells zeroPl 26)).alloc (.cells #[.nilIface] 30)) (.cells #[.slice none 0 0, .int .i64 0, .slice none 0 0, .slice none 0 0, .int .i64 0, .bool false] 136)
  have b3 := heap_alloc_new (((w.alloc (.cells zeroPl 26)).alloc (.cells #[.nilIface] 30)).alloc (.cells #[.slice none 0 0, .int .i64 0, .slice none 0 0, .slice none 0 0, .int .i64 0, .bool false] 136)) (.cells #[.pointer (some ⟨w.heap.size + 1 + 1, 0, none⟩)] 134)
  simp only [sz_alloc] at b1 b2 b3
  have up : ∀ {W : World} {k : Nat} {o : Obj} (o2 : Obj), W.heap[k]? = some o → (W.alloc o2).heap[k]? = some o := fun o2 h => (blk_alloc (blk_lt h) o2).trans h
  have hb : Below w.heap.size w (pparseW w t) := ((((((Below.refl _ w).alloc (Nat.le_refl _) _).alloc (by simp) _).alloc (by simp; omega) _).alloc (by simp; omega) _).alloc (by simp; omega) _)
  refine ⟨up _ (up _ (up _ (up _ b0))), up _ (up _ (up _ b1)), up _ b3, ⟨[], ⟨none, 0, [], 0, none, 0, [], none, 0, []⟩, 0, false, (fun l hl => by cases hl), rfl, rfl, ⟨up _ (up _ b2), Row.nil _ _ _, (fun r hr => by cases hr), (fun i r last hi => by simp at hi), Row.nil _ _ _, Row.nil _ _ _, (fun j hj => by simp [InA] at hj), (fun r hr => by cases hr), by omega, by unfold pparseW; simp⟩⟩, by unfold pparseW; simp, hb⟩

theorem codeLines_few : ∀ (c : List (List Op)), c.length ≤ (codeLines c).length ∧ ∀ l ∈ c, l.length ≤ (codeLines c).length
  | [] => ⟨Nat.le_refl _, fun l hl => by cases hl⟩
  | d :: c => by
    obtain ⟨h1, h2⟩ := codeLines_few c
    have e : codeLines (d :: c) = .room :: (d.map PLine.op ++ codeLines c) := by unfold codeLines; rw [List.flatMap_cons]; rfl
    have hl : (codeLines (d :: c)).length = d.length + (codeLines c).length + 1 := by rw [e]; simp
    refine ⟨by rw [List.length_cons, hl]; omega, fun l hx => ?_⟩
    rw [hl]
    rcases List.mem_cons.1 hx with rfl | hx
    · omega
    · have := h2 l hx; omega
theorem psok_few {s : PS} {ls : List PLine} (h : PSOk s ls) : s.p.code.length ≤ ls.length ∧ s.p.spans.length ≤ ls.length ∧ s.p.wires.length ≤ ls.length ∧ ∀ l ∈ s.p.code, l.length ≤ ls.length := by
  cases hb : s.begun with
  | true =>
    have e := h.lines hb
    obtain ⟨h1, h2⟩ := codeLines_few s.p.code
    have hl : ls.length = s.p.spans.length + (s.p.wires.length + (codeLines s.p.code).length) + 1 := by rw [← e]; unfold linesP; simp
    refine ⟨by omega, by omega, by omega, fun l hx => ?_⟩
    have := h2 l hx; omega
  | false =>
    obtain ⟨rfl, hp, _⟩ := h.nob hb
    rw [hp]
    exact ⟨Nat.zero_le _, Nat.zero_le _, Nat.zero_le _, fun l hl => by cases hl⟩
theorem plineText_10 (l : PLine) : (10 : UInt8) ∈ plineText l := by unfold plineText; simp
theorem keepF_from {B : Nat} {F : Nat → Prop} {W W' : World} (hk : Keep F W W') (hc : ∀ j, F j → j < W.heap.size → ∃ o : Obj, W.heap[j]? = some o ∧ o.isCells = true) : KeepsFrom B W W' := by
  refine ⟨hk.size, fun k o _ ho hn => ?_⟩
  by_cases hA : F k
  · obtain ⟨o', h1, h2⟩ := hc k hA (blk_lt ho)
    rw [ho] at h1
    injection h1 with h1
    rw [h1, h2] at hn; cases hn
  · exact (hk.block k (blk_lt ho) hA).trans ho
theorem rd_cells {base b part : Nat} {w : World} {m : PM} {bg : Bool} (h : RdAt base w b m part bg) {j : Nat} (hj : rdF m b j) : ∃ o : Obj, w.heap[j]? = some o ∧ o.isCells = true := by
  rcases hj with rfl | hj | hj | hj
  · exact ⟨_, h.blk, rfl⟩
  · exact h.rows.cellsAt hj
  · exact h.spans.cellsAt hj
  · exact h.wires.cellsAt hj
theorem rd_far {base b part : Nat} {w : World} {m : PM} {bg : Bool} (h : RdAt base w b m part bg) {j : Nat} (hj : rdF m b j) : j = b ∨ base ≤ j := by
  rcases hj with rfl | hj | hj | hj
  · exact .inl rfl
  · exact .inr (h.fresh j (.inl hj))
  · exact .inr (h.fresh j (.inr (.inl hj)))
  · exact .inr (h.fresh j (.inr (.inr hj)))
/-- No plan has this line here. -/
theorem pp_no {t x : ByteArray} {pre : List ByteArray} {ls : List PLine} {S : PS} (hpre : pre ++ [x] <+: linesB t) (hx : x.data.toList ∈ linesOf t.data.toList) (hmap : pre.map (fun s => s.data.toList) = ls.map plineText) (hwf : ∀ l ∈ ls, l.Wf) (hrun : PS.start.run ls = some S) (H : ∀ l : PLine, l.Wf → plineText l = x.data.toList → S.step l = none) : ∀ p : Pl, WfPl p → planText p ≠ t.data.toList := by
  by_cases hl : ∃ l : PLine, l.Wf ∧ plineText l = x.data.toList
  · obtain ⟨l, hw, he⟩ := hl
    obtain ⟨rest, hr⟩ := hpre
    have hlin : linesOf t.data.toList = ls.map plineText ++ plineText l :: rest.map (fun s => s.data.toList) := by
      have h1 : linesOf t.data.toList = (linesB t).map (fun s => s.data.toList) := by unfold linesB; rw [List.map_map]; exact (List.map_id' _).symm
      rw [h1, ← hr, List.map_append, List.map_append, hmap, he]
      simp
    exact fun p hp => plan_stuck hlin hrun hwf hw (H l hw he) p hp
  · exact fun p hp => plan_not hx (fun l hw he => hl ⟨l, hw, he⟩) p hp
def ppStopW (h : Nat) (W : World) : World := ((((W.setCell ⟨h, 0, none⟩ (.slice none 0 0)).setCell ⟨h, 1, none⟩ (.int .i64 0)).setCell ⟨h, 2, none⟩ (.slice none 0 0)).setCell ⟨h, 3, none⟩ (.slice none 0 0)).setCell ⟨h + 1, 0, none⟩ (.iface 118 (.int .i64 2))
theorem pp_left {B T : Nat} {t x : ByteArray} {w W W' : World} {pre : List ByteArray} (hno : ∀ p : Pl, WfPl p → planText p ≠ t.data.toList) (hk : KeepsFrom B W W') (hres : W'.heap[w.heap.size]? = some (.cells zeroPl 26 (0, 0))) (herr : Boxed W' (w.heap.size + 1) 30 .nilIface) (hb : Below w.heap.size w W') (a : Act) :
    RoundLeft B T (PPAt w) (fun c _ W => PPStop t w c W) (pre ++ [x]) W .ret a (ppStopW w.heap.size W') := by
  unfold ppStopW
  have f4 : ((((W'.setCell ⟨w.heap.size, 0, none⟩ (.slice none 0 0)).setCell ⟨w.heap.size, 1, none⟩ (.int .i64 0)).setCell ⟨w.heap.size, 2, none⟩ (.slice none 0 0)).setCell ⟨w.heap.size, 3, none⟩ (.slice none 0 0)).heap[w.heap.size + 1]? = W'.heap[w.heap.size + 1]? :=
    (blk_far (p := ⟨w.heap.size, 3, none⟩) (by simp) _).trans ((blk_far (p := ⟨w.heap.size, 2, none⟩) (by simp) _).trans ((blk_far (p := ⟨w.heap.size, 1, none⟩) (by simp) _).trans (blk_far (p := ⟨w.heap.size, 0, none⟩) (by simp) _)))
  refine ⟨(((((hk.trans (keeps_set _ _)).trans (keeps_set _ _)).trans (keeps_set _ _)).trans (keeps_set _ _)).trans (keeps_set _ _)), ⟨rfl, hno, ?_, ?_, ?_⟩⟩
  · exact (blk_far (p := ⟨w.heap.size + 1, 0, none⟩) (by simp) _).trans (blk_set (blk_set (blk_set (blk_set hres 0 _) 1 _) 2 _) 3 _)
  · exact Boxed.set _ (show Boxed _ (w.heap.size + 1) 30 .nilIface from f4.trans herr)
  · exact ((((hb.setCell (p := ⟨w.heap.size, 0, none⟩) (Nat.le_refl _) _).setCell (p := ⟨w.heap.size, 1, none⟩) (Nat.le_refl _) _).setCell (p := ⟨w.heap.size, 2, none⟩) (Nat.le_refl _) _).setCell (p := ⟨w.heap.size, 3, none⟩) (Nat.le_refl _) _).setCell (p := ⟨w.heap.size + 1, 0, none⟩) (by simp) _
theorem pp_left_new {B T : Nat} {t x : ByteArray} {w W V : World} {pre : List ByteArray} {a : Act} (h : RoundLeft B T (PPAt w) (fun c _ W => PPStop t w c W) (pre ++ [x]) W .ret a V) (obj : Obj) : RoundLeft B T (PPAt w) (fun c _ W => PPStop t w c W) (pre ++ [x]) W .ret a (V.alloc obj) :=
  ⟨h.1.trans (keeps_below ((Below.refl _ _).alloc (Nat.le_refl _) obj)), ⟨rfl, h.2.no, (blk_alloc (blk_lt h.2.res) obj).trans h.2.res, Boxed.alloc h.2.err obj, h.2.below.alloc h.2.below.size obj⟩⟩
theorem pp_next {B : Nat} {Ix : Code → List ByteArray → World → Prop} {w W W' : World} {pre : List ByteArray} {x : ByteArray} {ls : List PLine} {l : PLine} {m m' : PM} {part : Nat} {bg : Bool} {S' : PS} (hI : PPAt w pre W) (hx : plineText l = x.data.toList) (hl : l.Wf) (hwf : ∀ l ∈ ls, l.Wf)
    (hmap : pre.map (fun s => s.data.toList) = ls.map plineText) (hrun : PS.start.run ls = some ⟨m.pl, part, bg⟩) (hst : (PS.mk m.pl part bg).step l = some S') (hm : m'.pl = S'.p) (hrd' : RdAt (w.heap.size + 5) W' (w.heap.size + 1 + 1) m' S'.part S'.begun)
    {F : Nat → Prop} (hk : Keep F W W') (hF : ∀ j, F j → j = w.heap.size + 1 + 1 ∨ w.heap.size + 5 ≤ j) (hc : ∀ j, F j → j < W.heap.size → ∃ o : Obj, W.heap[j]? = some o ∧ o.isCells = true) (a : Act) :
    RoundLeft B (w.heap.size + 1 + 1 + 1 + 1) (PPAt w) Ix (pre ++ [x]) W .normal a W' := by
  have hbig := hI.big
  have bl : ∀ k, k < w.heap.size + 5 → k ≠ w.heap.size + 1 + 1 → W'.heap[k]? = W.heap[k]? := fun k h1 h2 => hk.block k (by omega) fun hj => by rcases hF k hj with e | e <;> omega
  refine ⟨keepF_from hk hc, bl _ (by omega) (by omega), ⟨(bl _ (by omega) (by omega)).trans hI.res, (bl _ (by omega) (by omega)).trans hI.err, (bl _ (by omega) (by omega)).trans hI.ptr, ⟨ls ++ [l], m', S'.part, S'.begun, fun y hy => ?_, ?_, ?_, hrd'⟩, Nat.le_trans hbig hk.size, hI.below.trans (hk.below (by omega) fun j hj => by rcases hF j hj with e | e <;> omega)⟩⟩
  · rcases List.mem_append.1 hy with hy | hy
    · exact hwf y hy
    · rw [List.mem_singleton] at hy; rw [hy]; exact hl
  · rw [List.map_append, List.map_append, hmap, List.map_cons, List.map_nil, List.map_cons, List.map_nil, hx]
  · rw [run_snoc hrun, hst, hm]
theorem fits_small {n : Int} (h : 0 ≤ n ∧ n < 10 ^ 4) : Fits n := by
  have h1 := h.1
  have h2 : n < 10000 := h.2
  unfold Fits; omega
theorem wfop_fits {o : Op} (h : WfOp o) : o.Ok := ⟨by have := h.what; unfold Fits; omega, fits_small h.a, fits_small h.b⟩
theorem rd_fresh {base b part : Nat} {w : World} {m : PM} {bg : Bool} (h : RdAt base w b m part bg) : ∀ j, planF m j → base ≤ j := by
  rintro j (⟨_, hj⟩ | ⟨r, hr, _, hj⟩ | ⟨_, hj⟩ | ⟨_, hj⟩)
  · exact h.fresh j (.inl hj)
  · exact h.freshC r hr j hj
  · exact h.fresh j (.inr (.inl hj))
  · exact h.fresh j (.inr (.inr hj))
theorem rd_plan {base b part : Nat} {w : World} {m : PM} {bg : Bool} (h : RdAt base w b m part bg) (hw : WfPl m.pl) : PlanAt w m := by
  have hop : ∀ r ∈ m.ros, ∀ o ∈ r.ops, o.Ok := fun r hr o ho => by
    have hl : PLine.op o ∈ linesP m.pl := by
      unfold linesP codeLines PM.pl
      simp only [List.mem_cons, List.mem_append, List.mem_flatMap, List.mem_map]
      exact .inr (.inr (.inr ⟨r.ops, ⟨r, hr, rfl⟩, .inr ⟨o, ho, rfl⟩⟩))
    exact wfop_fits (hw _ hl).2
  have hfr : PLine.frame m.ticks ∈ linesP m.pl := by unfold linesP PM.pl; simp
  refine ⟨h.rows.sl, h.rows.slW, fun r hr => ⟨(h.codes r hr).sl, (h.codes r hr).slW, hop r hr⟩, fits_small ((hw _ hfr).1 _ (by simp [PLine.nums])), h.spans.sl, h.spans.slW, fun y hy => ?_, h.wires.sl, h.wires.slW, fun y hy => ?_⟩
  · have hl : PLine.span y ∈ linesP m.pl := by unfold linesP PM.pl; simp [hy]
    have hn := (hw _ hl).1
    exact ⟨fits_small (hn _ (by simp [PLine.nums])), fits_small (hn _ (by simp [PLine.nums])), fits_small (hn _ (by simp [PLine.nums]))⟩
  · have hl : PLine.wire y ∈ linesP m.pl := by unfold linesP PM.pl; simp [hy]
    have hn := (hw _ hl).1
    exact ⟨fits_small (hn _ (by simp [PLine.nums])), fits_small (hn _ (by simp [PLine.nums])), fits_small (hn _ (by simp [PLine.nums])), fits_small (hn _ (by simp [PLine.nums]))⟩
theorem pparse_ret {W9 : World} {D b0 b1 : Nat} {c0 c1 c2 c3 v1 : Value} {a : Act} {T1 : Nat} {R : Ending → World → Prop} (h0 : W9.heap[b0]? = some (.cells #[c0, c1, c2, c3] 26 (0, 0))) (h1 : Boxed W9 b1 T1 v1) (hD0 : b0 ≠ D) (hD1 : b1 ≠ D) (hK : W9.heap[D]? = some (.deferred (some [])))
    (h2 : a.tmps[2]? = some (.pointer (some ⟨b0, 0, none⟩))) (h3 : a.tmps[3]? = some (.pointer (some ⟨b1, 0, none⟩))) (hd : a.defers = [{ target := .collected D, args := #[] }]) (h : R (.returned (.tuple #[.agg #[c0, c1, c2, c3], v1])) (W9.putObj D (.deferred none))) :
    bodyPostM Fence.wide 3 Tryz.prog Tryz.f18 R .ret a W9 := by
  obtain ⟨tmps, defers⟩ := a
  simp only at h2 h3 hd
  subst hd
  refine ⟨by simp, .inl ⟨_, _, rfl, run_takeDeferred hK, ?_⟩⟩
  have k0 := ((grownBy_putObj' W9 D (.deferred none)).block b0 (blk_lt h0) (by simp; omega)).trans h0
  have e0 := blk_cell k0 0
  have e1 := blk_cell k0 1
  have e2 := blk_cell k0 2
  have e3 := blk_cell k0 3
  simp at e0 e1 e2 e3
  have e4 := (h1.kept (grownBy_putObj' W9 D (.deferred none)) (by simp; omega)).cell
  refine ⟨.tuple #[.agg #[c0, c1, c2, c3], v1], ?_, h⟩
  simp [results, Tryz.f18, go_sem, h2, h3, e0, e1, e2, e3, e4]

set_option maxHeartbeats 8000000 in
theorem pparse_any (t : ByteArray) (ht : t.size ≤ 1073741824) (w : World) (hf : Forms w) (hnm : Names w) (hd : Desk w) (hp : Parts w) : Calls Tryz.prog 18 #[.string t] w (PlanParsed t w) := by
  obtain ⟨i0, hi0, hz0, hz1, hz2⟩ := info_parts Tryz.infoOpR
  have HF : Hid (∀ w', Below w.heap.size w w' → Forms w' ∧ Names w' ∧ Desk w' ∧ Parts w') := hid fun w' hb => ⟨hf.new hb, hnm.new hf hb, hd.new hb, hp.new hb⟩
  clear hf hnm hd hp
  refine (callsIn_wide (n := 3)).1 ?_
  refine callsIn_of_wp_marks Tryz.func18 rfl trivial ?_ rfl
  simp only [Tryz.ntmps18, List.size_toArray, List.length_cons, List.length_nil, Nat.reduceAdd, Nat.reduceSub, Array.replicate_succ, Array.replicate_zero, List.push_toArray, List.append_toArray, List.nil_append, List.cons_append]
  gi_wp2_with (refine ⟨trivial, ?_⟩; gi_at_call 75; refine (callsIn_wide.2 (lines_made _ _)).mono ?_; rintro e w2 ⟨rfl, rfl⟩)
  have HR := hid (pparse_start (w := w) (t := t))
  have hT := heap_alloc_new ((((w.alloc (.cells zeroPl 26)).alloc (.cells #[.nilIface] 30)).alloc (.cells #[.slice none 0 0, .int .i64 0, .slice none 0 0, .slice none 0 0, .int .i64 0, .bool false] 136)).alloc (.cells #[.pointer (some ⟨w.heap.size + 1 + 1, 0, none⟩)] 134)) (.cells #[.string t] 9)
  simp only [sz_alloc] at hT
  have HT := hid hT
  have hsz : (pparseW w t).heap.size = w.heap.size + 5 := by unfold pparseW; simp
  refine Eq.mp (congrArg (fun V => Code.wpIn _ _ _ _ _ _ V) (show pparseW w t = _ from rfl)) ?_
  replace HT : Hid ((pparseW w t).heap[w.heap.size + 1 + 1 + 1 + 1]? = some (.cells #[.string t] 9 (0, 0))) := HT
  obtain ⟨W0, hW0⟩ : ∃ W0, pparseW w t = W0 := ⟨_, rfl⟩
  rw [hW0] at HR HT hsz ⊢
  clear hW0 hT
  refine range_cell (α := ByteArray) (all := linesB t) (t := w.heap.size + 1 + 1 + 1 + 1) rfl (by decide) (gf := 120) (lb := #[.pointer (some ⟨w.heap.size + 1 + 1 + 1 + 1, 0, none⟩)]) rfl trivial (enters_of Tryz.func120 (by kernel_rfl) rfl)
    (encs := fun x => #[.string x]) (by omega) (lines_gives _ _ 9 t (by omega) W0 HT.out) (fun _ => rfl)
    (PPAt w) (fun c _ W => PPStop t w c W)
    (by rw [hsz]; exact PPAt.abide w) (fun c => by rw [hsz]; exact PPStop.abide t w c) HR.out
    (fun x => { tmps := #[.string t, undef, .pointer (some ⟨w.heap.size, 0, none⟩), .pointer (some ⟨w.heap.size + 1, 0, none⟩), .pointer (some ⟨w.heap.size + 1 + 1 + 1, 0, none⟩), .string x, undef, undef, undef, undef, undef, undef, .agg #[.slice none 0 0, .int .i64 0, .slice none 0 0, .slice none 0 0, .int .i64 0, .bool false], .pointer (some ⟨w.heap.size + 1 + 1, 0, none⟩), .string t, .func (.func 120) #[] #[.pointer (some ⟨w.heap.size + 1 + 1 + 1 + 1, 0, none⟩)], .string x, undef, undef, undef, undef, undef, undef, undef, undef, undef, undef, undef, undef, undef, undef, undef, undef, undef, undef, undef, undef, undef, undef, undef, undef, undef, undef, undef, undef, undef, undef, undef, undef, undef, undef, undef, undef, undef, undef, undef, undef, undef, undef, undef, undef, undef, undef, undef, undef, undef, undef, undef, undef, undef, undef, undef, undef, undef, undef, undef, undef, undef, undef, undef, undef, undef, undef, undef, undef, undef, undef], defers := [] }) ?assign ?body ?done ?stop
  case assign =>
    intro l x W K hK
    gi_wp2
    exact hK
  case body =>
    rintro l0 pre x W hI hpre
    obtain ⟨y, b, hy1, hy2, hys, hxs, hxm, hcase⟩ := line_cut (t := t) (x := x) (hpre.subset (by simp))
    have HCS : Hid (∀ w', Calls Tryz.prog 76 #[.string x, .string ⟨#[10]⟩] w' fun e w'' => e = .returned (.tuple #[.string y, .bool b]) ∧ w' = w'') := hid (cutsuf_any hy1 hy2 (by omega))
    have hyl : y.size ≤ 1073741824 := by omega
    obtain ⟨ls, m, part, bg, hwf, hmap, hrun, hrd⟩ := hI.out
    have hok := psok_run hrun
    have hlen : ls.length + 1 ≤ 1073741824 := by
      have h2 : pre.length = ls.length := by
        have := congrArg List.length hmap
        rw [List.length_map, List.length_map] at this; exact this
      have h3 := hpre.length_le
      have h4 : (linesB t).length ≤ t.size := by
        unfold linesB; rw [List.length_map, Lib.size_eq]; exact lines_few _
      rw [List.length_append, List.length_singleton] at h3
      omega
    obtain ⟨hf1, hf2, hf3, hf4⟩ := psok_few hok
    have hf1' : m.ros.length ≤ ls.length := by have : m.pl.code.length = m.ros.length := by unfold PM.pl; rw [List.length_map]
                                               rw [← this]; exact hf1
    have HHD := hid (head_any y hyl (HF.out W hI.below).2.2.1 (HF.out W hI.below).2.2.2 hrd hok.p3 (fun h => (hok.nob h).2.2) (by omega) (Nat.le_trans hf2 (by omega)) (Nat.le_trans hf3 (by omega)))
    have HI := hid hI
    have HXM := hid hxm
    have HBIG := hid hI.big
    have q4 : W.cell? ⟨w.heap.size + 1 + 1 + 1, 0, none⟩ = some (.pointer (some ⟨w.heap.size + 1 + 1, 0, none⟩)) := Boxed.cell hI.ptr
    have r2 : W.heap[w.heap.size]? = _ := hI.res
    unfold zeroPl at r2
    have q20 := blk_cell r2 0
    have q21 := blk_cell r2 1
    have q22 := blk_cell r2 2
    have q23 := blk_cell r2 3
    have f2 := fun o => blk_free r2 o
    have q3 : W.cell? ⟨w.heap.size + 1, 0, none⟩ = some .nilIface := Boxed.cell hI.err
    have f3 := fun o => blk_free (show W.heap[w.heap.size + 1]? = _ from hI.err) o
    have hlt := blk_lt r2
    have hlt3 := blk_lt (show W.heap[w.heap.size + 1]? = _ from hI.err)
    simp at q20 q21 q22 q23
    have hne : w.heap.size + 1 ≠ w.heap.size := by omega
    have HWF := hid hwf
    have HMAP := hid hmap
    have HRUN := hid hrun
    have HRD := hid hrd
    have HOK := hid hok
    have HLEN := hid hlen
    have HF1 := hid hf1'
    have HF4 := hid hf4
    clear hI hy1 hy2 hys hxs hxm hwf hmap hrun hrd hok hlen hf1 hf1' hf2 hf3 hf4 r2
    dsimp only
    rcases hcase with ⟨rfl, hxy⟩ | ⟨rfl, hx10⟩
    rotate_left
    · have hstop := pp_no hpre HXM.out HMAP.out HWF.out HRUN.out fun l _ he => absurd (by rw [← he]; exact plineText_10 l) hx10
      have HST := hid hstop
      clear hstop hx10 hpre
      gi_wp2_with (first
        | (refine ⟨trivial, ?_⟩; gi_at_call 76; refine (CallsIn.inRound l0 (callsIn_wide.2 (HCS.out _))).mono ?_; rintro e w2 ⟨rfl, rfl⟩))
      exact pp_left HST.out (keeps_below (Below.refl _ _)) HI.out.res HI.out.err HI.out.below _
    have HXY := hid hxy
    have HPRE := hid hpre
    clear hxy hpre
    gi_wp2_with (first
      | (refine ⟨trivial, ?_⟩; gi_at_call 76; refine (CallsIn.inRound l0 (callsIn_wide.2 (HCS.out _))).mono ?_; rintro e w2 ⟨rfl, rfl⟩))
    refine ⟨trivial, (CallsIn.inRound l0 (callsIn_wide.2 HHD.out)).mono ?_⟩
    rintro e w2 ⟨hk2, hor⟩
    have HFA1 : Hid (∀ j, rdF m (w.heap.size + 1 + 1) j → j = w.heap.size + 1 + 1 ∨ w.heap.size + 5 ≤ j) := hid fun j hj => rd_far HRD.out hj
    rcases hor with ⟨l, S', m', hlw, hlh, hlt', hst, hmp, rfl, hrd2⟩ | ⟨hno, rfl, hrd2⟩
    · have hfin := fun a => pp_next (B := W0.heap.size) (Ix := fun c _ W => PPStop t w c W) (a := a) HI.out (show plineText l = x.data.toList by rw [HXY.out, ← hlt']; rfl) hlw HWF.out HMAP.out HRUN.out hst hmp hrd2 hk2 HFA1.out (fun j hj _ => rd_cells HRD.out hj)
      have HFIN := hid hfin
      clear hfin hk2 hlw hlh hlt' hst hmp hrd2
      gi_wp2
      exact HFIN.out _
    have hb2 : Below w.heap.size w w2 := HI.out.below.trans (hk2.below (by have := HBIG.out; omega) fun j hj => by have := HFA1.out j hj; omega)
    have HREAD := hid (read_any y hyl w2 (HF.out w2 hb2).1 (HF.out w2 hb2).2.1 (HF.out w2 hb2).2.2.1)
    have HNOH := hid hno
    have HK2 := hid hk2
    have HB2 := hid hb2
    have HRD2 := hid hrd2
    have HN1 : Hid (m.ros.length ≤ 1073741824) := hid (Nat.le_trans HF1.out (Nat.le_of_succ_le HLEN.out))
    clear hno hk2 hb2 hrd2 q4 q20 q21 q22 q23 f2 q3 f3 hlt hlt3
    gi_wp2
    refine ⟨trivial, (CallsIn.inRound l0 (callsIn_wide.2 HREAD.out)).mono ?_⟩
    rintro e w3 ⟨hb3, hor⟩
    have HB3 := hid hb3
    have hkw3 : Keep (rdF m (w.heap.size + 1 + 1)) W w3 := HK2.out.then (Keep.of_below (rdF m (w.heap.size + 1 + 1)) hb3) fun _ _ h => h
    have HKW3 := hid hkw3
    have hrd3 := HRD2.out.new hb3
    have bl3 : ∀ k, k < w.heap.size + 5 → k ≠ w.heap.size + 1 + 1 → w3.heap[k]? = W.heap[k]? := fun k h1 h2 => hkw3.block k (by have := HBIG.out; omega) fun hj => by have := HFA1.out k hj; omega
    have r3 : w3.heap[w.heap.size]? = some (.cells zeroPl 26 (0, 0)) := (bl3 _ (by omega) (by omega)).trans HI.out.res
    have e3 : Boxed w3 (w.heap.size + 1) 30 .nilIface := (bl3 _ (by omega) (by omega)).trans HI.out.err
    have p3 : Boxed w3 (w.heap.size + 1 + 1 + 1) 134 (.pointer (some ⟨w.heap.size + 1 + 1, 0, none⟩)) := (bl3 _ (by omega) (by omega)).trans HI.out.ptr
    have hbw3 : Below w.heap.size w w3 := HB2.out.trans (hb3.mono HB2.out.size)
    have hs3 : w.heap.size + 5 ≤ w3.heap.size := Nat.le_trans HBIG.out hkw3.size
    have hblk := hrd3.blk
    unfold rdCells at hblk
    unfold zeroPl at r3
    have u20 := fun obj => (World.cell?_alloc_lt w3 obj ⟨w.heap.size, 0, none⟩ (blk_lt r3)).trans (blk_cell r3 0)
    have u21 := fun obj => (World.cell?_alloc_lt w3 obj ⟨w.heap.size, 1, none⟩ (blk_lt r3)).trans (blk_cell r3 1)
    have u22 := fun obj => (World.cell?_alloc_lt w3 obj ⟨w.heap.size, 2, none⟩ (blk_lt r3)).trans (blk_cell r3 2)
    have u23 := fun obj => (World.cell?_alloc_lt w3 obj ⟨w.heap.size, 3, none⟩ (blk_lt r3)).trans (blk_cell r3 3)
    have uf2 : ∀ obj o, (w3.alloc obj).frozen? ⟨w.heap.size, o, none⟩ = false := fun obj o => blk_free ((blk_alloc (blk_lt r3) obj).trans r3) o
    have u3 : ∀ obj, (w3.alloc obj).cell? ⟨w.heap.size + 1, 0, none⟩ = some .nilIface := fun obj => (e3.alloc obj).cell
    have uf3 : ∀ obj o, (w3.alloc obj).frozen? ⟨w.heap.size + 1, o, none⟩ = false := fun obj o => blk_free ((e3.alloc obj : Boxed _ _ _ _) : _ = _) o
    have u4 : ∀ obj, (w3.alloc obj).cell? ⟨w.heap.size + 1 + 1 + 1, 0, none⟩ = some (.pointer (some ⟨w.heap.size + 1 + 1, 0, none⟩)) := fun obj => (p3.alloc obj).cell
    have u5 : ∀ obj, (w3.alloc obj).cell? ⟨w.heap.size + 1 + 1, 0, none⟩ = some (.slice m.A m.ros.length m.c) := fun obj => (World.cell?_alloc_lt w3 obj ⟨w.heap.size + 1 + 1, 0, none⟩ (blk_lt hblk)).trans (blk_cell hblk 0)
    have ul0 : w.heap.size < w3.heap.size := by omega
    have ul1 : w.heap.size + 1 < w3.heap.size := by omega
    have ul2 : w.heap.size + 1 + 1 < w3.heap.size := by omega
    have ul3 : w.heap.size + 1 + 1 + 1 < w3.heap.size := by omega
    simp at u20 u21 u22 u23
    have q20 := blk_cell r3 0
    have q21 := blk_cell r3 1
    have q22 := blk_cell r3 2
    have q23 := blk_cell r3 3
    simp at q20 q21 q22 q23
    have q3 := e3.cell
    have ff : ∀ {V : World} {o : Nat} {T : Nat} {cs : Array Value} (obj : Obj) (k : Nat), V.heap[k]? = some (.cells cs T (0, 0)) → (V.alloc obj).frozen? ⟨k, o, none⟩ = false := fun obj k h => blk_free ((blk_alloc (blk_lt h) obj).trans h) _
    have g1 : ∀ v obj, ((w3.setCell ⟨w.heap.size, 0, none⟩ v).alloc obj).frozen? ⟨w.heap.size, 1, none⟩ = false := fun v obj => ff obj _ (blk_set r3 0 v)
    have g2 : ∀ v v' obj, (((w3.setCell ⟨w.heap.size, 0, none⟩ v).setCell ⟨w.heap.size, 1, none⟩ v').alloc obj).frozen? ⟨w.heap.size, 2, none⟩ = false := fun v v' obj => ff obj _ (blk_set (blk_set r3 0 v) 1 v')
    have g3 : ∀ v v' v'' obj, ((((w3.setCell ⟨w.heap.size, 0, none⟩ v).setCell ⟨w.heap.size, 1, none⟩ v').setCell ⟨w.heap.size, 2, none⟩ v'').alloc obj).frozen? ⟨w.heap.size, 3, none⟩ = false := fun v v' v'' obj => ff obj _ (blk_set (blk_set (blk_set r3 0 v) 1 v') 2 v'')
    have g4 : ∀ v v' v'' v3 obj, (((((w3.setCell ⟨w.heap.size, 0, none⟩ v).setCell ⟨w.heap.size, 1, none⟩ v').setCell ⟨w.heap.size, 2, none⟩ v'').setCell ⟨w.heap.size, 3, none⟩ v3).alloc obj).frozen? ⟨w.heap.size + 1, 0, none⟩ = false := fun v v' v'' v3 obj => ff obj _ ((blk_far (p := ⟨w.heap.size, 3, none⟩) (by simp) _).trans ((blk_far (p := ⟨w.heap.size, 2, none⟩) (by simp) _).trans ((blk_far (p := ⟨w.heap.size, 1, none⟩) (by simp) _).trans ((blk_far (p := ⟨w.heap.size, 0, none⟩) (by simp) _).trans e3))))
    clear ff
    have HSTOP : Hid ((∀ p : Pl, WfPl p → planText p ≠ t.data.toList) → ∀ (obj : Obj) (a : Act), RoundLeft W0.heap.size (w.heap.size + 1 + 1 + 1 + 1) (PPAt w) (fun c _ W => PPStop t w c W) (pre ++ [x]) W .ret a ((ppStopW w.heap.size w3).alloc obj)) := hid fun hno obj a =>
      pp_left_new (pp_left hno (keepF_from HKW3.out fun j hj _ => rd_cells HRD.out hj) r3 e3 hbw3 a) obj
    have HTXT : Hid (∀ l : PLine, plineText l = x.data.toList → l.txt = y.data.toList) := hid fun l he => List.append_cancel_right (he.trans HXY.out)
    have HS3 := hid hs3
    have HRD3 := hid hrd3
    have HP3 := hid p3
    clear hb3 hkw3 hrd3 bl3 r3 e3 p3 hbw3 hs3 hblk
    obtain ⟨nr, hnr⟩ : ∃ nr, nr = m.ros.length := ⟨_, rfl⟩
    rw [← hnr] at u5 HN1
    rcases hor with ⟨⟨what, oa, ob⟩, ho, hol, rfl⟩ | ⟨hnoo, rfl⟩
    rotate_left
    · have hst := HSTOP.out (pp_no HPRE.out HXM.out HMAP.out HWF.out HRUN.out fun l hw he => by
        cases hh : l.isHead with
        | true => exact HNOH.out l hw hh (HTXT.out l he)
        | false =>
          cases l with
          | op o => exact absurd (HTXT.out _ he) (hnoo o hw.2)
          | _ => cases hh)
      have HST := hid hst
      clear hst hnoo
      gi_wp2
      exact HST.out _ _
    have HO := hid ho
    have HOL := hid hol
    clear ho hol
    rcases List.eq_nil_or_concat m.ros with hros | ⟨init, r, hros⟩
    · obtain rfl : nr = 0 := by rw [hnr, hros]; rfl
      have hst := HSTOP.out (pp_no HPRE.out HXM.out HMAP.out HWF.out HRUN.out fun l hw he => by
        cases hh : l.isHead with
        | true => exact HNOH.out l hw hh (HTXT.out l he)
        | false =>
          cases l with
          | op o => rw [step_op, if_pos (by show m.ros.map Ro.ops = []; rw [hros]; rfl)]
          | _ => cases hh)
      have HST := hid hst
      clear hst hros hnr
      gi_wp2
      exact HST.out _ _
    · rw [List.concat_eq_append] at hros
      obtain ⟨q, hq⟩ : ∃ q, init.length = q := ⟨_, rfl⟩
      obtain rfl : nr = q + 1 := by rw [hnr, hros, ← hq]; simp
      have HQ := hid hq
      have hn1 := HN1.out
      have HNR := hid hnr
      have HROS := hid hros
      obtain ⟨ab, off, hA, hcell, habl, habb⟩ := rd_last HRD3.out hros
      rw [hq] at hcell
      obtain ⟨rn, hrn⟩ : ∃ rn, r.ops.length = rn := ⟨_, rfl⟩
      rw [hrn] at hcell
      have hrm : r ∈ m.ros := by rw [hros]; simp
      have hrowr := HRD3.out.codes r hrm
      have hrn1 : rn ≤ 1073741824 := by
        rw [← hrn]; exact Nat.le_trans (HF4.out r.ops (List.mem_map.2 ⟨r, hrm, rfl⟩)) (Nat.le_of_succ_le HLEN.out)
      rw [hrn] at hrowr
      obtain ⟨wd, hwd⟩ : ∃ wd, wd = ((w3.alloc (.cells #[.int .i64 what, .int .i64 oa, .int .i64 ob] 42)).alloc (.cells #[.int .i64 what, .int .i64 oa, .int .i64 ob] 42)).drew := ⟨_, rfl⟩
      have HRW : Hid (Row wd 42 3 r.A rn r.c (r.ops.flatMap Op.cells)) := hid (by rw [hwd]; exact (hrowr.alloc _).alloc _)
      have HSD : Hid (Sl wd (some ⟨w3.heap.size + 1, 0, none⟩) 3 1 [.int .i64 what, .int .i64 oa, .int .i64 ob]) := hid (by rw [hwd]; exact one_op3 w3 _)
      have hkd : Keep NoF w3 wd := by rw [hwd]; exact (((Keep.refl _ _).alloc _).alloc _).drew
      have hS3 := HS3.out
      have hfrr : ∀ j, InA r.A j → w.heap.size + 5 ≤ j ∧ j < w3.heap.size := fun j hj => ⟨HRD3.out.freshC r hrm j hj, hrowr.lt j hj⟩
      have hop := heap_alloc_new w3 (.cells #[.int .i64 what, .int .i64 oa, .int .i64 ob] 42)
      have hptr := HP3.out
      have hhd := HRD3.out.blk
      unfold rdCells at hhd
      rw [← HNR.out, hA] at hhd
      have hwsz : wd.heap.size = w3.heap.size + 1 + 1 := by rw [hwd]; exact (sz_alloc _ _).trans (by rw [sz_alloc])
      have HS0 : Hid ((w3.alloc (.cells #[.int .i64 what, .int .i64 oa, .int .i64 ob] 42)).cell? ⟨w.heap.size + 1 + 1 + 1, 0, none⟩ = some (.pointer (some ⟨w.heap.size + 1 + 1, 0, none⟩)) ∧ (w3.alloc (.cells #[.int .i64 what, .int .i64 oa, .int .i64 ob] 42)).cell? ⟨w.heap.size + 1 + 1, 0, none⟩ = some (.slice (some ⟨ab, off, none⟩) (q + 1) m.c) ∧ (w3.alloc (.cells #[.int .i64 what, .int .i64 oa, .int .i64 ob] 42)).cell? ⟨w3.heap.size, 0, none⟩ = some (.int .i64 what) ∧ (w3.alloc (.cells #[.int .i64 what, .int .i64 oa, .int .i64 ob] 42)).cell? ⟨w3.heap.size, 1, none⟩ = some (.int .i64 oa) ∧ (w3.alloc (.cells #[.int .i64 what, .int .i64 oa, .int .i64 ob] 42)).cell? ⟨w3.heap.size, 2, none⟩ = some (.int .i64 ob)) :=
        hid ⟨(hptr.alloc _).cell, (World.cell?_alloc_lt w3 _ ⟨w.heap.size + 1 + 1, 0, none⟩ (blk_lt hhd)).trans (blk_cell hhd 0), blk_cell hop 0, blk_cell hop 1, blk_cell hop 2⟩
      have HSK : Hid (∀ w4 : World, (∀ k, k < w3.heap.size + 1 → k < w.heap.size + 5 ∨ k = w3.heap.size → w4.heap[k]? = (w3.alloc (.cells #[.int .i64 what, .int .i64 oa, .int .i64 ob] 42)).heap[k]?) → w4.cell? ⟨w.heap.size + 1 + 1 + 1, 0, none⟩ = some (.pointer (some ⟨w.heap.size + 1 + 1, 0, none⟩)) ∧ w4.cell? ⟨w.heap.size + 1 + 1, 0, none⟩ = some (.slice (some ⟨ab, off, none⟩) (q + 1) m.c) ∧ w4.cell? ⟨w3.heap.size, 0, none⟩ = some (.int .i64 what) ∧ w4.cell? ⟨w3.heap.size, 1, none⟩ = some (.int .i64 oa) ∧ w4.cell? ⟨w3.heap.size, 2, none⟩ = some (.int .i64 ob)) := hid fun w4 hb =>
        ⟨(World.cell?_of_block (hb (w.heap.size + 1 + 1 + 1) (by omega) (.inl (by omega)))).trans HS0.out.1, (World.cell?_of_block (hb (w.heap.size + 1 + 1) (by omega) (.inl (by omega)))).trans HS0.out.2.1, (World.cell?_of_block (hb w3.heap.size (by omega) (.inr rfl))).trans HS0.out.2.2.1, (World.cell?_of_block (hb w3.heap.size (by omega) (.inr rfl))).trans HS0.out.2.2.2.1, (World.cell?_of_block (hb w3.heap.size (by omega) (.inr rfl))).trans HS0.out.2.2.2.2⟩
      have HSA := hid (HSK.out wd fun k hk _ => by rw [hwd]; exact blk_alloc (by rw [sz_alloc]; exact hk) _)
      have HSW : Hid (∀ w4, Keep (InA r.A) wd w4 → w4.cell? ⟨w.heap.size + 1 + 1 + 1, 0, none⟩ = some (.pointer (some ⟨w.heap.size + 1 + 1, 0, none⟩)) ∧ w4.cell? ⟨w.heap.size + 1 + 1, 0, none⟩ = some (.slice (some ⟨ab, off, none⟩) (q + 1) m.c) ∧ w4.cell? ⟨w3.heap.size, 0, none⟩ = some (.int .i64 what) ∧ w4.cell? ⟨w3.heap.size, 1, none⟩ = some (.int .i64 oa) ∧ w4.cell? ⟨w3.heap.size, 2, none⟩ = some (.int .i64 ob)) := hid fun w4 hk4 =>
        HSK.out w4 fun k hk hor => (hk4.block k (by omega) fun hj => by have := hfrr k hj; omega).trans (by rw [hwd]; exact blk_alloc (by rw [sz_alloc]; exact hk) _)
      have HSS : Hid (∀ (w4 : World) (v : Value), (w4.cell? ⟨w.heap.size + 1 + 1 + 1, 0, none⟩ = some (.pointer (some ⟨w.heap.size + 1 + 1, 0, none⟩)) ∧ w4.cell? ⟨w.heap.size + 1 + 1, 0, none⟩ = some (.slice (some ⟨ab, off, none⟩) (q + 1) m.c) ∧ w4.cell? ⟨w3.heap.size, 0, none⟩ = some (.int .i64 what) ∧ w4.cell? ⟨w3.heap.size, 1, none⟩ = some (.int .i64 oa) ∧ w4.cell? ⟨w3.heap.size, 2, none⟩ = some (.int .i64 ob)) → (w4.setCell ⟨ab, off + q, none⟩ v).cell? ⟨w.heap.size + 1 + 1 + 1, 0, none⟩ = some (.pointer (some ⟨w.heap.size + 1 + 1, 0, none⟩)) ∧ (w4.setCell ⟨ab, off + q, none⟩ v).cell? ⟨w.heap.size + 1 + 1, 0, none⟩ = some (.slice (some ⟨ab, off, none⟩) (q + 1) m.c) ∧ (w4.setCell ⟨ab, off + q, none⟩ v).cell? ⟨w3.heap.size, 0, none⟩ = some (.int .i64 what) ∧ (w4.setCell ⟨ab, off + q, none⟩ v).cell? ⟨w3.heap.size, 1, none⟩ = some (.int .i64 oa) ∧ (w4.setCell ⟨ab, off + q, none⟩ v).cell? ⟨w3.heap.size, 2, none⟩ = some (.int .i64 ob)) := hid fun w4 v h => by
        have z : ∀ k o, k ≠ ab → (w4.setCell ⟨ab, off + q, none⟩ v).cell? ⟨k, o, none⟩ = w4.cell? ⟨k, o, none⟩ := fun k o hk => World.cell?_of_block (blk_far (p := ⟨ab, off + q, none⟩) (fun e => hk (by simpa using e)) v)
        exact ⟨(z _ _ (by omega)).trans h.1, (z _ _ (by omega)).trans h.2.1, (z _ _ (by omega)).trans h.2.2.1, (z _ _ (by omega)).trans h.2.2.2.1, (z _ _ (by omega)).trans h.2.2.2.2⟩
      have FIN : Hid (∀ A' c' w4, Row w4 42 3 A' (rn + 1) c' (r.ops.flatMap Op.cells ++ [.int .i64 what, .int .i64 oa, .int .i64 ob]) → Keep (InA r.A) wd w4 → (∀ j, InA A' j → InA r.A j ∨ wd.heap.size ≤ j) →
          w4.frozen? ⟨ab, off + q, none⟩ = false ∧ ab < w4.heap.size ∧ w4.cell? ⟨ab, off + q, none⟩ = some (.slice r.A rn r.c) ∧ ∃ m' : PM, m'.pl = (⟨addOp m.pl.code ⟨what, oa, ob⟩, m.pl.ticks, m.pl.spans, m.pl.wires⟩ : Pl) ∧ RdAt (w.heap.size + 5) (w4.setCell ⟨ab, off + q, none⟩ (.slice A' (rn + 1) c')) (w.heap.size + 1 + 1) m' part bg ∧ Keep (fun j => rdF m (w.heap.size + 1 + 1) j ∨ InA r.A j) W (w4.setCell ⟨ab, off + q, none⟩ (.slice A' (rn + 1) c'))) := hid fun A' c' w4 hr4 hk4 hn4 => by
        obtain ⟨y1, y2, y3, m', y4, y5, y6⟩ := rd_op (o := ⟨what, oa, ob⟩) HRD3.out hkd hros hrn hr4 hk4 hn4 hA
        rw [hq] at y1 y3 y5 y6
        exact ⟨y1, y2, y3, m', y4, y5, (HKW3.out.mono (G := fun j => rdF m (w.heap.size + 1 + 1) j ∨ InA r.A j) fun j _ hj => .inl hj).then y6 fun _ _ hj => hj⟩
      have HST : Hid ((PS.mk m.pl part bg).step (.op ⟨what, oa, ob⟩) = some ⟨⟨addOp m.pl.code ⟨what, oa, ob⟩, m.pl.ticks, m.pl.spans, m.pl.wires⟩, part, bg⟩) := hid ((step_op _ _).trans (if_neg (show ¬ m.ros.map Ro.ops = [] by rw [hros]; simp)))
      have HPX : Hid (plineText (.op ⟨what, oa, ob⟩) = x.data.toList) := hid (by rw [HXY.out, ← HOL.out]; rfl)
      have HPW : Hid (PLine.Wf (.op ⟨what, oa, ob⟩)) := hid ⟨(op_wf HO.out).2.2, HO.out⟩
      have HFA : Hid (∀ j, (rdF m (w.heap.size + 1 + 1) j ∨ InA r.A j) → j = w.heap.size + 1 + 1 ∨ w.heap.size + 5 ≤ j) := hid fun j hj => hj.elim (HFA1.out j) fun hj => .inr (hfrr j hj).1
      have HCE : Hid (∀ j, (rdF m (w.heap.size + 1 + 1) j ∨ InA r.A j) → j < W.heap.size → ∃ o : Obj, W.heap[j]? = some o ∧ o.isCells = true) := hid fun j hj _ => hj.elim (fun hj => rd_cells HRD.out hj) fun hj => (HRD.out.codes r hrm).cellsAt hj
      have c0 : ∀ o, (w3.alloc o).cell? ⟨ab, off + q, none⟩ = some (.slice r.A rn r.c) := fun o => (World.cell?_alloc_lt w3 o ⟨ab, off + q, none⟩ habl).trans hcell
      have c1 : ∀ o o', ((w3.alloc o).alloc o').cell? ⟨ab, off + q, none⟩ = some (.slice r.A rn r.c) := fun o o' => (World.cell?_alloc_lt (w3.alloc o) o' ⟨ab, off + q, none⟩ (by rw [sz_alloc]; exact Nat.lt_succ_of_lt habl)).trans (c0 o)
      rw [hA] at u5
      try rw [hA]
      have HHW := hid hkd
      have HRN := hid hrn
      clear hkd hrn hA hrm hrowr hS3 hfrr hop hptr hhd hwsz hcell habb hq hnr hros u20 u21 u22 u23 q20 q21 q22 q23 g1 g2 g3 g4 uf2 u3 uf3 q3 hne HSTOP
      have hw64 : wrap64 (q : Int) = (q : Int) := IntWalk.wrap64_in _ ⟨Int.le_trans (by decide) (Int.natCast_nonneg q), Int.le_trans (Int.ofNat_le.2 (Nat.le_of_succ_le hn1)) (by decide)⟩
      have hqq : (q : Int) < (q : Int) + 1 := Int.lt_add_one_iff.2 (Int.le_refl _)
      have hneg : ¬ ((q : Int) < 0) := Int.not_lt.2 (Int.natCast_nonneg q)
      gi_wp2
      refine wpIn_round_held (S := (fun w' => w'.cell? ⟨w.heap.size + 1 + 1 + 1, 0, none⟩ = some (.pointer (some ⟨w.heap.size + 1 + 1, 0, none⟩)) ∧ w'.cell? ⟨w.heap.size + 1 + 1, 0, none⟩ = some (.slice (some ⟨ab, off, none⟩) (q + 1 : Nat) m.c) ∧ w'.cell? ⟨w3.heap.size, 0, none⟩ = some (.int .i64 what) ∧ w'.cell? ⟨w3.heap.size, 1, none⟩ = some (.int .i64 oa) ∧ w'.cell? ⟨w3.heap.size, 2, none⟩ = some (.int .i64 ob))) (by kernel_rfl) (by kernel_rfl) ?_ (fun hHeld => ?_)
      · exact HS0.out
      refine wpAnyH_take (i := 0) (v := ?v1) rfl (by kernel_rfl) (by kernel_rfl) (by kernel_rfl) (fun _ _ _ h => h) (Or.inl ⟨by rfl, ?hy1⟩) (by assumption) ?rest1
      case hy1 => (intro w hSw; (try dsimp only at hSw); (try simp only [List.getElem_toArray, List.getElem_cons_zero]); go_simp; (try with_reducible rfl))
      (try simp only [Act.put, List.getElem_toArray, List.getElem_cons_zero, List.setIfInBounds_toArray, List.set_cons_zero, List.set_cons_succ])
      refine wpAnyH_take (i := 1) (v := ?v2) rfl (by kernel_rfl) (by kernel_rfl) (by kernel_rfl) (fun _ _ _ h => h) (Or.inl ⟨by rfl, ?hy2⟩) (by assumption) ?rest2
      case hy2 => (intro w hSw; (try dsimp only at hSw); (try simp only [List.getElem_toArray, List.getElem_cons_zero, List.getElem_cons_succ]); go_simp; (try with_reducible rfl))
      (try simp only [Act.put, List.getElem_toArray, List.getElem_cons_zero, List.getElem_cons_succ, List.setIfInBounds_toArray, List.set_cons_zero, List.set_cons_succ])
      refine wpAnyH_take (i := 2) (v := ?v3) rfl (by kernel_rfl) (by kernel_rfl) (by kernel_rfl) (fun _ _ _ h => h) (Or.inl ⟨by rfl, ?hy3⟩) (by assumption) ?rest3
      case hy3 => (intro w hSw; (try dsimp only at hSw); (try simp only [List.getElem_toArray, List.getElem_cons_zero, List.getElem_cons_succ]); go_simp; (try with_reducible rfl))
      (try simp only [Act.put, List.getElem_toArray, List.getElem_cons_zero, List.getElem_cons_succ, List.setIfInBounds_toArray, List.set_cons_zero, List.set_cons_succ])
      refine wpAnyH_take (i := 3) (v := ?v4) rfl (by kernel_rfl) (by kernel_rfl) (by kernel_rfl) (fun _ _ _ h => h) (Or.inl ⟨by rfl, ?hy4⟩) (by assumption) ?rest4
      case hy4 => (intro w hSw; (try dsimp only at hSw); (try simp only [List.getElem_toArray, List.getElem_cons_zero, List.getElem_cons_succ]); go_simp; (try with_reducible rfl))
      (try simp only [Act.put, List.getElem_toArray, List.getElem_cons_zero, List.getElem_cons_succ, List.setIfInBounds_toArray, List.set_cons_zero, List.set_cons_succ])
      refine wpAnyH_take (i := 4) (v := ?v5) rfl (by kernel_rfl) (by kernel_rfl) (by kernel_rfl) (fun _ _ _ h => h) (Or.inl ⟨by rfl, ?hy5⟩) (by assumption) ?rest5
      case hy5 => (intro w hSw; (try dsimp only at hSw); (try simp only [List.getElem_toArray, List.getElem_cons_zero, List.getElem_cons_succ]); go_simp; (try with_reducible rfl))
      (try simp only [Act.put, List.getElem_toArray, List.getElem_cons_zero, List.getElem_cons_succ, List.setIfInBounds_toArray, List.set_cons_zero, List.set_cons_succ])
      refine wpAnyH_take (i := 5) (v := ?v6) rfl (by kernel_rfl) (by kernel_rfl) (by kernel_rfl) (fun _ _ _ h => h) (Or.inl ⟨by rfl, ?hy6⟩) (by assumption) ?rest6
      case hy6 => (intro w hSw; (try dsimp only at hSw); (try simp only [List.getElem_toArray, List.getElem_cons_zero, List.getElem_cons_succ]); go_simp; (try with_reducible rfl))
      (try simp only [Act.put, List.getElem_toArray, List.getElem_cons_zero, List.getElem_cons_succ, List.setIfInBounds_toArray, List.set_cons_zero, List.set_cons_succ])
      refine wpAnyH_take (i := 6) (v := ?v7) rfl (by kernel_rfl) (by kernel_rfl) (by kernel_rfl) (fun _ _ _ h => h) (Or.inl ⟨by rfl, ?hy7⟩) (by assumption) ?rest7
      case hy7 => (intro w hSw; (try dsimp only at hSw); (try simp only [List.getElem_toArray, List.getElem_cons_zero, List.getElem_cons_succ]); go_simp; (try with_reducible rfl))
      (try simp only [Act.put, List.getElem_toArray, List.getElem_cons_zero, List.getElem_cons_succ, List.setIfInBounds_toArray, List.set_cons_zero, List.set_cons_succ])
      refine wpAnyH_take (i := 7) (v := ?v8) rfl (by kernel_rfl) (by kernel_rfl) (by kernel_rfl) (fun _ _ _ h => h) (Or.inl ⟨by rfl, ?hy8⟩) (by assumption) ?rest8
      case hy8 => (intro w hSw; (try dsimp only at hSw); (try simp only [List.getElem_toArray, List.getElem_cons_zero, List.getElem_cons_succ]); go_simp; (try with_reducible rfl))
      (try simp only [Act.put, List.getElem_toArray, List.getElem_cons_zero, List.getElem_cons_succ, List.setIfInBounds_toArray, List.set_cons_zero, List.set_cons_succ])
      refine wpAnyH_take (i := 8) (v := ?v9) rfl (by kernel_rfl) (by kernel_rfl) (by kernel_rfl) (fun _ _ _ h => h) (Or.inl ⟨by rfl, ?hy9⟩) (by assumption) ?rest9
      case hy9 => (intro w hSw; (try dsimp only at hSw); (try simp only [List.getElem_toArray, List.getElem_cons_zero, List.getElem_cons_succ]); go_simp; (try with_reducible rfl))
      (try simp only [Act.put, List.getElem_toArray, List.getElem_cons_zero, List.getElem_cons_succ, List.setIfInBounds_toArray, List.set_cons_zero, List.set_cons_succ])
      refine wpAnyH_take (i := 9) (v := ?v10) rfl (by kernel_rfl) (by kernel_rfl) (by kernel_rfl) (fun _ _ _ h => h) (Or.inl ⟨by rfl, ?hy10⟩) (by assumption) ?rest10
      case hy10 => (intro w hSw; (try dsimp only at hSw); (try simp only [List.getElem_toArray, List.getElem_cons_zero, List.getElem_cons_succ]); go_simp; (try with_reducible rfl))
      (try simp only [Act.put, List.getElem_toArray, List.getElem_cons_zero, List.getElem_cons_succ, List.setIfInBounds_toArray, List.set_cons_zero, List.set_cons_succ])
      refine wpAnyH_take (i := 10) (v := ?v11) rfl (by kernel_rfl) (by kernel_rfl) (by kernel_rfl) (fun _ _ _ h => h) (Or.inl ⟨by rfl, ?hy11⟩) (by assumption) ?rest11
      case hy11 => (intro w hSw; (try dsimp only at hSw); (try simp only [List.getElem_toArray, List.getElem_cons_zero, List.getElem_cons_succ]); go_simp; (try with_reducible rfl))
      (try simp only [Act.put, List.getElem_toArray, List.getElem_cons_zero, List.getElem_cons_succ, List.setIfInBounds_toArray, List.set_cons_zero, List.set_cons_succ])
      refine wpAnyH_take (i := 11) (v := ?v12) rfl (by kernel_rfl) (by kernel_rfl) (by kernel_rfl) (fun _ _ _ h => h) (Or.inl ⟨by rfl, ?hy12⟩) (by assumption) ?rest12
      case hy12 => (intro w hSw; (try dsimp only at hSw); (try simp only [List.getElem_toArray, List.getElem_cons_zero, List.getElem_cons_succ]); go_simp; (try with_reducible rfl))
      (try simp only [Act.put, List.getElem_toArray, List.getElem_cons_zero, List.getElem_cons_succ, List.setIfInBounds_toArray, List.set_cons_zero, List.set_cons_succ])
      refine wpAnyH_take (i := 12) (v := ?v13) rfl (by kernel_rfl) (by kernel_rfl) (by kernel_rfl) (fun _ _ _ h => h) (Or.inl ⟨by rfl, ?hy13⟩) (by assumption) ?rest13
      case hy13 => (intro w hSw; (try dsimp only at hSw); (try simp only [List.getElem_toArray, List.getElem_cons_zero, List.getElem_cons_succ]); go_simp; (try with_reducible rfl))
      (try simp only [Act.put, List.getElem_toArray, List.getElem_cons_zero, List.getElem_cons_succ, List.setIfInBounds_toArray, List.set_cons_zero, List.set_cons_succ])
      refine wpAnyH_take (i := 14) (v := ?v14) rfl (by kernel_rfl) (by kernel_rfl) (by kernel_rfl) (fun _ _ _ h => h) (Or.inl ⟨by rfl, ?hy14⟩) (by assumption) ?rest14
      case hy14 => (intro w hSw; (try dsimp only at hSw); (try simp only [List.getElem_toArray, List.getElem_cons_zero, List.getElem_cons_succ]); go_simp; (try with_reducible rfl))
      (try simp only [Act.put, List.getElem_toArray, List.getElem_cons_zero, List.getElem_cons_succ, List.setIfInBounds_toArray, List.set_cons_zero, List.set_cons_succ])
      have HW64 := hid hw64
      clear hw64 hneg
      refine wpAnyH_ready (rs := [13, 15]) (by kernel_rfl) (by simp) ?_
      refine AllReadyH.cons rfl (fun K hK => ?_) (AllReadyH.cons rfl (fun K hK => ?_) AllReadyH.nil)
      · go_simp
        refine hK.out _ _ ?_ (fun hHeld => ?_)
        · exact HS0.out
        clear hK K
        (try simp only [Act.put, List.getElem_toArray, List.getElem_cons_zero, List.getElem_cons_succ, List.setIfInBounds_toArray, List.set_cons_zero, List.set_cons_succ])
        refine wpAnyH_ready (rs := [15]) (by kernel_rfl) (by simp) ?_
        refine AllReadyH.cons rfl (fun K hK => ?_) AllReadyH.nil
        go_simp
        refine hK.out _ _ ?_ (fun hHeld => ?_)
        · exact hwd ▸ HSA.out
        clear hK K
        (try simp only [Act.put, List.getElem_toArray, List.getElem_cons_zero, List.getElem_cons_succ, List.setIfInBounds_toArray, List.set_cons_zero, List.set_cons_succ])
        refine wpAnyH_ready (rs := [16]) (by kernel_rfl) (by simp) ?_
        refine AllReadyH.cons rfl (fun K hK => ?_) AllReadyH.nil
        refine step_append_row _ rfl _ _ 43 rfl 42 i0 _ 3 24 Tryz.underlying43 hi0 hz0 hz1 hz2 rfl (by decide) r.A rn r.c (r.ops.flatMap Op.cells) rfl (by rw [← hwd]; exact HRW.out) (some ⟨w3.heap.size + 1, 0, none⟩) 1 1 [.int .i64 what, .int .i64 oa, .int .i64 ob] rfl (by rw [← hwd]; exact HSD.out) (by intro u hu; simp at hu; rcases hu with rfl | rfl | rfl <;> rfl) (by unfold maxLen; omega) (by omega) ?_
        intro A' c' w4 hr4 hk4 hn4
        have hk4 := hwd ▸ hk4
        have hn4 := hwd ▸ hn4
        obtain ⟨d0, d1, dc, m9, d2, d3, d4⟩ := FIN.out _ _ _ hr4 hk4 hn4
        have HS4 := hid (HSW.out w4 hk4)
        have HM9 := hid d2
        have HR9 := hid d3
        have HK9 := hid d4
        clear hr4 hk4 hn4 d2 d3 d4
        refine hK.out _ _ ?_ (fun hHeld => ?_)
        · exact HS4.out
        clear hK K
        (try simp only [Act.put, List.getElem_toArray, List.getElem_cons_zero, List.getElem_cons_succ, List.setIfInBounds_toArray, List.set_cons_zero, List.set_cons_succ])
        have hw64 := HW64.out
        refine wpAnyH_take (i := 17) (v := ?v15) rfl (by kernel_rfl) (by kernel_rfl) (by kernel_rfl) (fun _ _ _ h => h) (Or.inl ⟨by rfl, ?hy15⟩) (by assumption) ?rest15
        case hy15 => (intro w hSw; (try dsimp only at hSw); (try simp only [List.getElem_toArray, List.getElem_cons_zero, List.getElem_cons_succ]); go_simp; (try with_reducible rfl))
        (try simp only [Act.put, List.getElem_toArray, List.getElem_cons_zero, List.getElem_cons_succ, List.setIfInBounds_toArray, List.set_cons_zero, List.set_cons_succ])
        clear hw64
        refine wpAnyH_ready (rs := [18]) (by kernel_rfl) (by simp) ?_
        refine AllReadyH.cons rfl (fun K hK => ?_) AllReadyH.nil
        go_simp
        refine hK.out _ _ ?_ (fun hHeld => ?_)
        · exact HSS.out w4 _ HS4.out
        clear hK K
        (try simp only [Act.put, List.getElem_toArray, List.getElem_cons_zero, List.getElem_cons_succ, List.setIfInBounds_toArray, List.set_cons_zero, List.set_cons_succ])
        refine wpAnyH_done (by kernel_rfl) ?_ _
        refine strict_normal ?_
        gi_wp2
        exact pp_next HI.out (show plineText (.op ⟨what, oa, ob⟩) = x.data.toList from HPX.out) HPW.out HWF.out HMAP.out HRUN.out HST.out HM9.out HR9.out HK9.out HFA.out HCE.out _
      · go_simp
        refine hK.out _ _ ?_ (fun hHeld => ?_)
        · exact hwd ▸ HSA.out
        clear hK K
        (try simp only [Act.put, List.getElem_toArray, List.getElem_cons_zero, List.getElem_cons_succ, List.setIfInBounds_toArray, List.set_cons_zero, List.set_cons_succ])
        refine wpAnyH_ready (rs := [13]) (by kernel_rfl) (by simp) ?_
        refine AllReadyH.cons rfl (fun K hK => ?_) AllReadyH.nil
        go_simp
        refine hK.out _ _ ?_ (fun hHeld => ?_)
        · exact hwd ▸ HSA.out
        clear hK K
        (try simp only [Act.put, List.getElem_toArray, List.getElem_cons_zero, List.getElem_cons_succ, List.setIfInBounds_toArray, List.set_cons_zero, List.set_cons_succ])
        refine wpAnyH_ready (rs := [16]) (by kernel_rfl) (by simp) ?_
        refine AllReadyH.cons rfl (fun K hK => ?_) AllReadyH.nil
        refine step_append_row _ rfl _ _ 43 rfl 42 i0 _ 3 24 Tryz.underlying43 hi0 hz0 hz1 hz2 rfl (by decide) r.A rn r.c (r.ops.flatMap Op.cells) rfl (by rw [← hwd]; exact HRW.out) (some ⟨w3.heap.size + 1, 0, none⟩) 1 1 [.int .i64 what, .int .i64 oa, .int .i64 ob] rfl (by rw [← hwd]; exact HSD.out) (by intro u hu; simp at hu; rcases hu with rfl | rfl | rfl <;> rfl) (by unfold maxLen; omega) (by omega) ?_
        intro A' c' w4 hr4 hk4 hn4
        have hk4 := hwd ▸ hk4
        have hn4 := hwd ▸ hn4
        obtain ⟨d0, d1, dc, m9, d2, d3, d4⟩ := FIN.out _ _ _ hr4 hk4 hn4
        have HS4 := hid (HSW.out w4 hk4)
        have HM9 := hid d2
        have HR9 := hid d3
        have HK9 := hid d4
        clear hr4 hk4 hn4 d2 d3 d4
        refine hK.out _ _ ?_ (fun hHeld => ?_)
        · exact HS4.out
        clear hK K
        (try simp only [Act.put, List.getElem_toArray, List.getElem_cons_zero, List.getElem_cons_succ, List.setIfInBounds_toArray, List.set_cons_zero, List.set_cons_succ])
        have hw64 := HW64.out
        refine wpAnyH_take (i := 17) (v := ?v16) rfl (by kernel_rfl) (by kernel_rfl) (by kernel_rfl) (fun _ _ _ h => h) (Or.inl ⟨by rfl, ?hy16⟩) (by assumption) ?rest16
        case hy16 => (intro w hSw; (try dsimp only at hSw); (try simp only [List.getElem_toArray, List.getElem_cons_zero, List.getElem_cons_succ]); go_simp; (try with_reducible rfl))
        (try simp only [Act.put, List.getElem_toArray, List.getElem_cons_zero, List.getElem_cons_succ, List.setIfInBounds_toArray, List.set_cons_zero, List.set_cons_succ])
        clear hw64
        refine wpAnyH_ready (rs := [18]) (by kernel_rfl) (by simp) ?_
        refine AllReadyH.cons rfl (fun K hK => ?_) AllReadyH.nil
        go_simp
        refine hK.out _ _ ?_ (fun hHeld => ?_)
        · exact HSS.out w4 _ HS4.out
        clear hK K
        (try simp only [Act.put, List.getElem_toArray, List.getElem_cons_zero, List.getElem_cons_succ, List.setIfInBounds_toArray, List.set_cons_zero, List.set_cons_succ])
        refine wpAnyH_done (by kernel_rfl) ?_ _
        refine strict_normal ?_
        gi_wp2
        exact pp_next HI.out (show plineText (.op ⟨what, oa, ob⟩) = x.data.toList from HPX.out) HPW.out HWF.out HMAP.out HRUN.out HST.out HM9.out HR9.out HK9.out HFA.out HCE.out _
  case done =>
    rintro D W hD hI hK
    obtain ⟨ls, m, part, bg, hwf, hmap, hrun, hrd⟩ := hI.out
    have hlin : linesOf t.data.toList = ls.map plineText := by
      rw [← hmap]; unfold linesB; rw [List.map_map]
      exact (List.map_id' _).symm
    have hb := hI.below
    have hbig := hI.big
    have r2 : W.heap[w.heap.size]? = _ := hI.res
    unfold zeroPl at r2
    have e2 := hI.err
    have p2 := hI.ptr
    have HK := hid hK
    have HLIN := hid hlin
    have HRUN := hid hrun
    have HRD := hid hrd
    have HWF := hid hwf
    have HR2 := hid r2
    have HE2 := hid e2
    have HP2 := hid p2
    have HB := hid hb
    have hblk := hrd.blk
    unfold rdCells at hblk
    have HBLK := hid hblk
    have HFW := hid (HF.out W hb).1
    have q4 := p2.cell
    have x0 := blk_cell hblk 0
    have x1 := blk_cell hblk 1
    have x2 := blk_cell hblk 2
    have x3 := blk_cell hblk 3
    have x5 := blk_cell hblk 5
    simp at x0 x1 x2 x3 x5
    have q20 := blk_cell r2 0
    have q21 := blk_cell r2 1
    have q22 := blk_cell r2 2
    have q23 := blk_cell r2 3
    simp at q20 q21 q22 q23
    have f2 := fun o => blk_free r2 o
    have q3 := e2.cell
    have f3 := fun o => blk_free (show W.heap[w.heap.size + 1]? = _ from e2) o
    have hlt := blk_lt r2
    have hlt3 := blk_lt (show W.heap[w.heap.size + 1]? = _ from e2)
    have hne : w.heap.size + 1 ≠ w.heap.size := by omega
    have hD1 : w.heap.size + 5 ≤ D := by rw [← hsz]; exact hD
    have HD1 := hid hD1
    have HZ : Hid (∀ (V : World) (a : Act), Keep NoF W V → (∀ e, (∃ p : Pl, WfPl p ∧ planText p = t.data.toList ∧ planChk p = e ∧ e ≠ 0) ∨ (e = 2 ∧ ∀ p : Pl, WfPl p → planText p ≠ t.data.toList) → a.tmps[2]? = some (.pointer (some ⟨w.heap.size, 0, none⟩)) → a.tmps[3]? = some (.pointer (some ⟨w.heap.size + 1, 0, none⟩)) → a.defers = [{ target := .collected D, args := #[] }] →
        bodyPostM Fence.wide 3 Tryz.prog Tryz.f18 (PlanParsed t w) .ret a (((((V.setCell ⟨w.heap.size, 0, none⟩ (.slice none 0 0)).setCell ⟨w.heap.size, 1, none⟩ (.int .i64 0)).setCell ⟨w.heap.size, 2, none⟩ (.slice none 0 0)).setCell ⟨w.heap.size, 3, none⟩ (.slice none 0 0)).setCell ⟨w.heap.size + 1, 0, none⟩ (errV e)))) := hid fun V a hkV e he h2 h3 hd => by
      have rV : V.heap[w.heap.size]? = some (.cells #[.slice none 0 0, .int .i64 0, .slice none 0 0, .slice none 0 0] 26 (0, 0)) := (hkV.block _ hlt fun h => h.elim).trans r2
      have eV : V.heap[w.heap.size + 1]? = some (.cells #[.nilIface] 30 (0, 0)) := (hkV.block _ hlt3 fun h => h.elim).trans e2
      have kV : V.heap[D]? = some (.deferred (some [])) := (hkV.block _ (blk_lt hK) fun h => h.elim).trans hK
      have z : ∀ k, k ≠ w.heap.size → k ≠ w.heap.size + 1 → (((((V.setCell ⟨w.heap.size, 0, none⟩ (.slice none 0 0)).setCell ⟨w.heap.size, 1, none⟩ (.int .i64 0)).setCell ⟨w.heap.size, 2, none⟩ (.slice none 0 0)).setCell ⟨w.heap.size, 3, none⟩ (.slice none 0 0)).setCell ⟨w.heap.size + 1, 0, none⟩ (errV e)).heap[k]? = V.heap[k]? := fun k h1 h2 =>
        (blk_far (p := ⟨w.heap.size + 1, 0, none⟩) (by simpa using h2) _).trans ((blk_far (p := ⟨w.heap.size, 3, none⟩) (by simpa using h1) _).trans ((blk_far (p := ⟨w.heap.size, 2, none⟩) (by simpa using h1) _).trans ((blk_far (p := ⟨w.heap.size, 1, none⟩) (by simpa using h1) _).trans (blk_far (p := ⟨w.heap.size, 0, none⟩) (by simpa using h1) _))))
      have k9 := (z D (by omega) (by omega)).trans kV
      have r9 := (blk_far (p := ⟨w.heap.size + 1, 0, none⟩) (b := w.heap.size) (by simp) (errV e)).trans (blk_set (blk_set (blk_set (blk_set rV 0 (.slice none 0 0)) 1 (.int .i64 0)) 2 (.slice none 0 0)) 3 (.slice none 0 0))
      have e9 := blk_set ((blk_far (p := ⟨w.heap.size, 3, none⟩) (b := w.heap.size + 1) (by simp) (.slice none 0 0)).trans ((blk_far (p := ⟨w.heap.size, 2, none⟩) (by simp) (.slice none 0 0)).trans ((blk_far (p := ⟨w.heap.size, 1, none⟩) (by simp) (.int .i64 0)).trans ((blk_far (p := ⟨w.heap.size, 0, none⟩) (by simp) (.slice none 0 0)).trans eV)))) 0 (errV e)
      have hb9 : Below w.heap.size w (((((V.setCell ⟨w.heap.size, 0, none⟩ (.slice none 0 0)).setCell ⟨w.heap.size, 1, none⟩ (.int .i64 0)).setCell ⟨w.heap.size, 2, none⟩ (.slice none 0 0)).setCell ⟨w.heap.size, 3, none⟩ (.slice none 0 0)).setCell ⟨w.heap.size + 1, 0, none⟩ (errV e)) :=
        (((((hb.trans (hkV.below hb.size fun _ h => h.elim)).setCell (p := ⟨w.heap.size, 0, none⟩) (Nat.le_refl _) _).setCell (p := ⟨w.heap.size, 1, none⟩) (Nat.le_refl _) _).setCell (p := ⟨w.heap.size, 2, none⟩) (Nat.le_refl _) _).setCell (p := ⟨w.heap.size, 3, none⟩) (Nat.le_refl _) _).setCell (p := ⟨w.heap.size + 1, 0, none⟩) (by simp) _
      refine pparse_ret (D := D) (c0 := .slice none 0 0) (c1 := .int .i64 0) (c2 := .slice none 0 0) (c3 := .slice none 0 0) r9 (show Boxed _ _ 30 (errV e) from e9) (by omega) (by omega) k9 h2 h3 hd ⟨hb9.trans (belowK_b (w := w) (Nat.le_refl _) _ D _ _ (by omega) k9 rfl rfl), ?_⟩
      rcases he with ⟨p, y1, y2, y3, y4⟩ | ⟨rfl, hno⟩
      · exact .inr (.inl ⟨p, y1, y2, by rw [y3]; exact y4, by rw [y3]; rfl⟩)
      · exact .inr (.inr ⟨hno, rfl⟩)
    have HG : Hid (planChk m.pl = 0 → WfPl m.pl → planText m.pl = t.data.toList → ∀ (V : World) (a : Act), Keep NoF W V → a.tmps[2]? = some (.pointer (some ⟨w.heap.size, 0, none⟩)) → a.tmps[3]? = some (.pointer (some ⟨w.heap.size + 1, 0, none⟩)) → a.defers = [{ target := .collected D, args := #[] }] →
        bodyPostM Fence.wide 3 Tryz.prog Tryz.f18 (PlanParsed t w) .ret a (((((V.setCell ⟨w.heap.size, 0, none⟩ (.slice m.A m.ros.length m.c)).setCell ⟨w.heap.size, 1, none⟩ (.int .i64 m.ticks)).setCell ⟨w.heap.size, 2, none⟩ (.slice m.sA m.spans.length m.sc)).setCell ⟨w.heap.size, 3, none⟩ (.slice m.wA m.wires.length m.wc)).setCell ⟨w.heap.size + 1, 0, none⟩ .nilIface)) := hid fun he hpw hpt V a hkV h2 h3 hd => by
      have rV : V.heap[w.heap.size]? = some (.cells #[.slice none 0 0, .int .i64 0, .slice none 0 0, .slice none 0 0] 26 (0, 0)) := (hkV.block _ hlt fun h => h.elim).trans r2
      have eV : V.heap[w.heap.size + 1]? = some (.cells #[.nilIface] 30 (0, 0)) := (hkV.block _ hlt3 fun h => h.elim).trans e2
      have kV : V.heap[D]? = some (.deferred (some [])) := (hkV.block _ (blk_lt hK) fun h => h.elim).trans hK
      have z : ∀ k, k ≠ w.heap.size → k ≠ w.heap.size + 1 → (((((V.setCell ⟨w.heap.size, 0, none⟩ (.slice m.A m.ros.length m.c)).setCell ⟨w.heap.size, 1, none⟩ (.int .i64 m.ticks)).setCell ⟨w.heap.size, 2, none⟩ (.slice m.sA m.spans.length m.sc)).setCell ⟨w.heap.size, 3, none⟩ (.slice m.wA m.wires.length m.wc)).setCell ⟨w.heap.size + 1, 0, none⟩ .nilIface).heap[k]? = V.heap[k]? := fun k h1 h2 =>
        (blk_far (p := ⟨w.heap.size + 1, 0, none⟩) (by simpa using h2) _).trans ((blk_far (p := ⟨w.heap.size, 3, none⟩) (by simpa using h1) _).trans ((blk_far (p := ⟨w.heap.size, 2, none⟩) (by simpa using h1) _).trans ((blk_far (p := ⟨w.heap.size, 1, none⟩) (by simpa using h1) _).trans (blk_far (p := ⟨w.heap.size, 0, none⟩) (by simpa using h1) _))))
      have k9 := (z D (by omega) (by omega)).trans kV
      have r9 := (blk_far (p := ⟨w.heap.size + 1, 0, none⟩) (b := w.heap.size) (by simp) .nilIface).trans (blk_set (blk_set (blk_set (blk_set rV 0 (.slice m.A m.ros.length m.c)) 1 (.int .i64 m.ticks)) 2 (.slice m.sA m.spans.length m.sc)) 3 (.slice m.wA m.wires.length m.wc))
      have e9 := blk_set ((blk_far (p := ⟨w.heap.size, 3, none⟩) (b := w.heap.size + 1) (by simp) (.slice m.wA m.wires.length m.wc)).trans ((blk_far (p := ⟨w.heap.size, 2, none⟩) (by simp) (.slice m.sA m.spans.length m.sc)).trans ((blk_far (p := ⟨w.heap.size, 1, none⟩) (by simp) (.int .i64 m.ticks)).trans ((blk_far (p := ⟨w.heap.size, 0, none⟩) (by simp) (.slice m.A m.ros.length m.c)).trans eV)))) 0 .nilIface
      have hb9 : Below w.heap.size w (((((V.setCell ⟨w.heap.size, 0, none⟩ (.slice m.A m.ros.length m.c)).setCell ⟨w.heap.size, 1, none⟩ (.int .i64 m.ticks)).setCell ⟨w.heap.size, 2, none⟩ (.slice m.sA m.spans.length m.sc)).setCell ⟨w.heap.size, 3, none⟩ (.slice m.wA m.wires.length m.wc)).setCell ⟨w.heap.size + 1, 0, none⟩ .nilIface) :=
        (((((hb.trans (hkV.below hb.size fun _ h => h.elim)).setCell (p := ⟨w.heap.size, 0, none⟩) (Nat.le_refl _) _).setCell (p := ⟨w.heap.size, 1, none⟩) (Nat.le_refl _) _).setCell (p := ⟨w.heap.size, 2, none⟩) (Nat.le_refl _) _).setCell (p := ⟨w.heap.size, 3, none⟩) (Nat.le_refl _) _).setCell (p := ⟨w.heap.size + 1, 0, none⟩) (by simp) _
      have hk9 : Keep (fun j => j = w.heap.size ∨ j = w.heap.size + 1) W (((((V.setCell ⟨w.heap.size, 0, none⟩ (.slice m.A m.ros.length m.c)).setCell ⟨w.heap.size, 1, none⟩ (.int .i64 m.ticks)).setCell ⟨w.heap.size, 2, none⟩ (.slice m.sA m.spans.length m.sc)).setCell ⟨w.heap.size, 3, none⟩ (.slice m.wA m.wires.length m.wc)).setCell ⟨w.heap.size + 1, 0, none⟩ .nilIface) :=
        (((((hkV.mono (G := fun j => j = w.heap.size ∨ j = w.heap.size + 1) fun j _ hj => hj.elim).setCell (.inl (.inl rfl)) _).setCell (.inl (.inl rfl)) _).setCell (.inl (.inl rfl)) _).setCell (.inl (.inl rfl)) _).setCell (.inl (.inr rfl)) _
      have hrd9 := (HRD.out.keep hk9 fun j hj => ⟨by omega, .inl (by omega)⟩).turned (grownBy_putObj' _ D (.deferred none)) (fun r e => by cases e; exact ⟨_, k9, rfl⟩)
      exact pparse_ret (D := D) r9 (show Boxed _ _ 30 .nilIface from e9) (by omega) (by omega) k9 h2 h3 hd ⟨hb9.trans (belowK_b (w := w) (Nat.le_refl _) _ D _ _ (by omega) k9 rfl rfl), .inl ⟨m, hpw, hpt, he, rfl, rd_plan hrd9 hpw, fun j hj => by have := rd_fresh hrd9 j hj; omega⟩⟩
    have HW3 : Hid (∀ w3, Below W.heap.size W w3 → Keep NoF W w3 ∧ w3.cell? ⟨w.heap.size + 1 + 1 + 1, 0, none⟩ = some (.pointer (some ⟨w.heap.size + 1 + 1, 0, none⟩)) ∧ w3.cell? ⟨w.heap.size + 1 + 1, 0, none⟩ = some (.slice m.A m.ros.length m.c) ∧ w3.cell? ⟨w.heap.size + 1 + 1, 1, none⟩ = some (.int .i64 m.ticks) ∧ w3.cell? ⟨w.heap.size + 1 + 1, 2, none⟩ = some (.slice m.sA m.spans.length m.sc) ∧ w3.cell? ⟨w.heap.size + 1 + 1, 3, none⟩ = some (.slice m.wA m.wires.length m.wc) ∧
        w3.cell? ⟨w.heap.size, 0, none⟩ = some (.slice none 0 0) ∧ w3.cell? ⟨w.heap.size, 1, none⟩ = some (.int .i64 0) ∧ w3.cell? ⟨w.heap.size, 2, none⟩ = some (.slice none 0 0) ∧ w3.cell? ⟨w.heap.size, 3, none⟩ = some (.slice none 0 0) ∧ (∀ o, w3.frozen? ⟨w.heap.size, o, none⟩ = false) ∧ w3.cell? ⟨w.heap.size + 1, 0, none⟩ = some .nilIface ∧ (∀ o, w3.frozen? ⟨w.heap.size + 1, o, none⟩ = false) ∧ w.heap.size < w3.heap.size ∧ w.heap.size + 1 < w3.heap.size) := hid fun w3 h3 => by
      have c : ∀ k o, k < W.heap.size → w3.cell? ⟨k, o, none⟩ = W.cell? ⟨k, o, none⟩ := fun k o hk => h3.cell (p := ⟨k, o, none⟩) hk
      have hs := h3.size
      exact ⟨Keep.of_below _ h3, (c _ _ (by omega)).trans q4, (c _ _ (by omega)).trans x0, (c _ _ (by omega)).trans x1, (c _ _ (by omega)).trans x2, (c _ _ (by omega)).trans x3, (c _ _ hlt).trans q20, (c _ _ hlt).trans q21, (c _ _ hlt).trans q22, (c _ _ hlt).trans q23, fun o => blk_free ((h3.block _ hlt).trans r2) o, (c _ _ hlt3).trans q3, fun o => blk_free ((h3.block _ hlt3).trans e2) o, by omega, by omega⟩
    clear hI hmap hwf hrun hrd hlin hb r2 e2 p2 hblk hK hD1 hbig
    dsimp only
    cases bg with
    | false =>
      gi_wp2
      exact HZ.out W _ (Keep.refl _ _) 2 (.inr ⟨rfl, fun p _ => plan_unbegun HLIN.out HRUN.out rfl p⟩) rfl rfl rfl
    | true =>
      have hpt : planText m.pl = t.data.toList := plan_of HLIN.out HRUN.out rfl
      have hpw : WfPl m.pl := plan_wf HRUN.out rfl HWF.out
      have HPT := hid hpt
      have HPW := hid hpw
      have HCK := hid (plan_check m W HFW.out (rd_plan HRD.out hpw))
      by_cases he : planChk m.pl = 0
      · have hg := HG.out he hpw hpt
        have HGG := hid hg
        rw [he, errV_zero] at HCK
        clear hpt hpw he hg q20 q21 q22 q23 f2 q3 f3 hlt hlt3
        gi_wp2_with (refine ⟨trivial, ?_⟩; gi_at_call 14; refine (callsIn_wide.2 HCK.out).mono ?_; rintro e w3 ⟨rfl, hb3⟩; obtain ⟨hk3, y4, y0, y1, y2, y3, z0, z1, z2, z3, zf, z5, zf5, zl, zl3⟩ := HW3.out w3 hb3; have HK3 := hid hk3; clear hb3 hk3 q4 x0 x1 x2 x3 x5 HCK)
        exact HGG.out _ _ HK3.out rfl rfl rfl
      · have hz := fun V a hk => HZ.out V a hk (planChk m.pl) (.inl ⟨m.pl, hpw, hpt, rfl, he⟩)
        have HTryz := hid hz
        rw [errV_pos he] at HCK HTryz
        clear hpt hpw he hz q20 q21 q22 q23 f2 q3 f3 hlt hlt3
        gi_wp2_with (refine ⟨trivial, ?_⟩; gi_at_call 14; refine (callsIn_wide.2 HCK.out).mono ?_; rintro e w3 ⟨rfl, hb3⟩; obtain ⟨hk3, y4, y0, y1, y2, y3, z0, z1, z2, z3, zf, z5, zf5, zl, zl3⟩ := HW3.out w3 hb3; have HK3 := hid hk3; clear hb3 hk3 q4 x0 x1 x2 x3 x5 HCK)
        exact HTryz.out _ _ HK3.out rfl rfl rfl
  case stop =>
    rintro D c pre W hD hpre hS hK
    obtain ⟨rfl, hno, hres, herr, hb⟩ := hS
    have HRES := hid hres
    have HERR := hid herr
    have HNO := hid hno
    have HB := hid hb
    have HK := hid hK
    clear hno hres herr hb hK
    dsimp only
    gi_wp2
    refine pparse_ret (D := D) HRES.out HERR.out (by omega) (by omega) HK.out rfl rfl rfl ?_
    exact ⟨HB.out.trans (belowK_b (w := w) (Nat.le_refl _) _ D _ _ (by omega) HK.out rfl rfl), .inr (.inr ⟨HNO.out, rfl⟩)⟩

end Go.Proofs.YtldllmhgofacbaaGreatDoor
