/- Package plan: the contract of head, for every line and every reader. Conditions: 'Desk' and the table of parts, which the row lists. -/
import Derived.Test.YtldllmhgofacbaaDoorPlanTake
import Derived.Test.YtldllmhgofacbaaDoorHeadLaw
import Derived.Test.YtldllmhgofacbaaDoorDeskU
import Derived.BigQuiet
import Derived.Deep.DeepCutAuto
namespace Go.Proofs.YtldllmhgofacbaaDoor
open Go.RowKit
set_option maxRecDepth 100000

/-- The table of parts. -/
structure Parts (w : World) : Prop where
  lt : 0 < w.heap.size
  w0 : w.cell? ⟨0, 0, none⟩ = some (.string ⟨#[102, 114, 97, 109, 101]⟩)
  m0 : w.cell? ⟨0, 1, none⟩ = some (.int .i64 1)
  w1 : w.cell? ⟨0, 2, none⟩ = some (.string ⟨#[115, 112, 97, 110]⟩)
  m1 : w.cell? ⟨0, 3, none⟩ = some (.int .i64 3)
  w2 : w.cell? ⟨0, 4, none⟩ = some (.string ⟨#[119, 105, 114, 101]⟩)
  m2 : w.cell? ⟨0, 5, none⟩ = some (.int .i64 4)
  w3 : w.cell? ⟨0, 6, none⟩ = some (.string ⟨#[114, 111, 111, 109]⟩)
  m3 : w.cell? ⟨0, 7, none⟩ = some (.int .i64 0)
theorem Parts.new {w w' : World} (h : Parts w) (hb : Below w.heap.size w w') : Parts w' :=
  have c : ∀ o, w'.cell? ⟨0, o, none⟩ = w.cell? ⟨0, o, none⟩ := fun o => hb.cell (p := ⟨0, o, none⟩) h.lt
  ⟨Nat.lt_of_lt_of_le h.lt hb.size, (c 0).trans h.w0, (c 1).trans h.m0, (c 2).trans h.w1, (c 3).trans h.m1, (c 4).trans h.w2, (c 5).trans h.m2, (c 6).trans h.w3, (c 7).trans h.m3⟩
/-- What head hands back. -/
def HeadGot (base b : Nat) (w : World) (m : PM) (part : Nat) (bg : Bool) (s : List UInt8) (e : Ending) (w' : World) : Prop :=
  Keep (rdF m b) w w' ∧
  ((∃ (l : PLine) (S' : PS) (m' : PM), l.Wf ∧ l.isHead = true ∧ l.txt = s ∧ (PS.mk m.pl part bg).step l = some S' ∧ m'.pl = S'.p ∧ e = .returned (.bool true) ∧ RdAt base w' b m' S'.part S'.begun) ∨
   ((∀ l : PLine, l.Wf → l.isHead = true → l.txt = s → (PS.mk m.pl part bg).step l = none) ∧ e = .returned (.bool false) ∧ RdAt base w' b m part bg))
theorem keep_new {m : PM} {b : Nat} {w w' : World} (hb : Below w.heap.size w w') : Keep (rdF m b) w w' := Keep.of_below _ hb
theorem head_false {base b part : Nat} {w w' : World} {m : PM} {bg : Bool} {s : List UInt8} (h : RdAt base w b m part bg) (hb : Below w.heap.size w w') (hno : ∀ l : PLine, l.Wf → l.isHead = true → l.txt = s → (PS.mk m.pl part bg).step l = none) : HeadGot base b w m part bg s (.returned (.bool false)) w' :=
  ⟨keep_new hb, .inr ⟨hno, rfl, h.new hb⟩⟩
theorem head_true {base b part : Nat} {w w4 w' : World} {m m' : PM} {bg : Bool} {s : List UInt8} {l : PLine} {S' : PS} (hb : Keep (rdF m b) w w4) (hk : Keep (rdF m b) w4 w') (hl : l.Wf) (hh : l.isHead = true) (ht : l.txt = s) (hst : (PS.mk m.pl part bg).step l = some S') (hm : m'.pl = S'.p) (h : RdAt base w' b m' S'.part S'.begun) : HeadGot base b w m part bg s (.returned (.bool true)) w' :=
  ⟨hb.then hk fun _ _ hj => hj, .inl ⟨l, S', m', hl, hh, ht, hst, hm, rfl, h⟩⟩
section
variable {base b part : Nat} {w wq : World} {m : PM} {A : Option Addr} {c : Nat}
theorem nums_past {n : Nat} {xs : List Value} {bg : Bool} (h : RdAt base wq b m part bg) (hn : Row wq 3 1 A n c xs) (v : Value) : Row (wq.setCell ⟨b, 4, none⟩ v) 3 1 A n c xs := hn.setCell (hn.apart h.blk (by decide)) v
theorem acc_frame {N0 : Nat} (h : RdAt base w b m 0 false) (hb : Below w.heap.size w wq) (hn : Row wq 3 1 A 1 c (ints ([N0].map Int.ofNat))) :
    Calls Tryd.prog 28 #[.pointer (some ⟨b, 0, none⟩), .slice A 1 c] (wq.setCell ⟨b, 4, none⟩ (.int .i64 0)) fun e w' => e = .returned (.tuple #[]) ∧ ∀ s, (mkLine 0 [N0]).Wf → (mkLine 0 [N0]).txt = s → HeadGot base b w m 0 false s (.returned (.bool true)) w' := by
  have h1 := h.new hb
  obtain ⟨h2, hk2⟩ := rd_part h1 0
  have h3 := nums_past h1 hn (.int .i64 0)
  refine (take_frame h2 h3.sl).mono ?_
  rintro e w' ⟨m', hpl, rfl, hrd, hk⟩
  exact ⟨rfl, fun s hw ht => head_true (S' := ⟨_, 0, true⟩) ((keep_new hb).then hk2 fun _ _ hj => hj) hk hw (mk_head _ (by decide)) ht (by rw [show mkLine 0 [N0] = PLine.frame N0 from rfl, step_frame, if_neg Bool.false_ne_true]; rfl) hpl hrd⟩
theorem acc_span {N0 N1 N2 : Nat} (hfew : m.spans.length ≤ 1073741824) (hp : part ≤ 1) (h : RdAt base w b m part true) (hb : Below w.heap.size w wq) (hn : Row wq 3 1 A 3 c (ints ([N0, N1, N2].map Int.ofNat))) :
    Calls Tryd.prog 28 #[.pointer (some ⟨b, 0, none⟩), .slice A 3 c] (wq.setCell ⟨b, 4, none⟩ (.int .i64 1)) fun e w' => e = .returned (.tuple #[]) ∧ ∀ s, (mkLine 1 [N0, N1, N2]).Wf → (mkLine 1 [N0, N1, N2]).txt = s → HeadGot base b w m part true s (.returned (.bool true)) w' := by
  have h1 := h.new hb
  obtain ⟨h2, hk2⟩ := rd_part h1 1
  have h3 := nums_past h1 hn (.int .i64 1)
  refine (take_span h2 hfew h3).mono ?_
  rintro e w' ⟨m', hpl, rfl, hrd, hk⟩
  exact ⟨rfl, fun s hw ht => head_true (S' := ⟨_, 1, true⟩) ((keep_new hb).then hk2 fun _ _ hj => hj) hk hw (mk_head _ (by decide)) ht (by rw [show mkLine 1 [N0, N1, N2] = PLine.span ⟨N0, N1, N2⟩ from rfl, step_span, if_pos ⟨rfl, hp⟩]) hpl hrd⟩
theorem acc_wire {N0 N1 N2 N3 : Nat} (hfew : m.wires.length ≤ 1073741824) (hp : part ≤ 2) (h : RdAt base w b m part true) (hb : Below w.heap.size w wq) (hn : Row wq 3 1 A 4 c (ints ([N0, N1, N2, N3].map Int.ofNat))) :
    Calls Tryd.prog 28 #[.pointer (some ⟨b, 0, none⟩), .slice A 4 c] (wq.setCell ⟨b, 4, none⟩ (.int .i64 2)) fun e w' => e = .returned (.tuple #[]) ∧ ∀ s, (mkLine 2 [N0, N1, N2, N3]).Wf → (mkLine 2 [N0, N1, N2, N3]).txt = s → HeadGot base b w m part true s (.returned (.bool true)) w' := by
  have h1 := h.new hb
  obtain ⟨h2, hk2⟩ := rd_part h1 2
  have h3 := nums_past h1 hn (.int .i64 2)
  refine (take_wire h2 hfew h3).mono ?_
  rintro e w' ⟨m', hpl, rfl, hrd, hk⟩
  exact ⟨rfl, fun s hw ht => head_true (S' := ⟨_, 2, true⟩) ((keep_new hb).then hk2 fun _ _ hj => hj) hk hw (mk_head _ (by decide)) ht (by rw [show mkLine 2 [N0, N1, N2, N3] = PLine.wire ⟨N0, N1, N2, N3⟩ from rfl, step_wire, if_pos ⟨rfl, hp⟩]) hpl hrd⟩
theorem acc_room {N : Nat} (hfew : m.ros.length ≤ 1073741824) (h : RdAt base w b m part true) (hb : Below w.heap.size w wq) (_ : N = 0) :
    Calls Tryd.prog 28 #[.pointer (some ⟨b, 0, none⟩), .slice A 0 c] (wq.setCell ⟨b, 4, none⟩ (.int .i64 3)) fun e w' => e = .returned (.tuple #[]) ∧ ∀ s, (mkLine 3 []).Wf → (mkLine 3 []).txt = s → HeadGot base b w m part true s (.returned (.bool true)) w' := by
  have h1 := h.new hb
  obtain ⟨h2, hk2⟩ := rd_part h1 3

  refine (take_room h2 hfew A c).mono ?_
  rintro e w' ⟨m', hpl, rfl, hrd, hk⟩
  exact ⟨rfl, fun s hw ht => head_true (S' := ⟨_, 3, true⟩) ((keep_new hb).then hk2 fun _ _ hj => hj) hk hw (mk_head _ (by decide)) ht (by rw [show mkLine 3 [] = PLine.room from rfl, step_room, if_pos rfl]) hpl hrd⟩
end

set_option maxHeartbeats 16000000 in
theorem head_any {base b part : Nat} {w : World} {m : PM} {bg : Bool} (s : ByteArray) (hs : s.size ≤ 1073741824) (hd : Desk w) (hp : Parts w) (h : RdAt base w b m part bg) (h3 : part ≤ 3) (h0 : bg = false → part = 0) (hf1 : m.ros.length ≤ 1073741824) (hf2 : m.spans.length ≤ 1073741824) (hf3 : m.wires.length ≤ 1073741824) :
    Calls Tryd.prog 10 #[.pointer (some ⟨b, 0, none⟩), .string s] w (HeadGot base b w m part bg s.data.toList) := by
  have HSPLIT := hid (split_any s hs w hd)
  have HD := hid hd
  have HP := hid hp
  have H := hid h
  have H0 := hid h0
  have HL := hid h.blk
  clear hd hp h h0
  go_enter Tryd.func10, Tryd.ntmps10
  go_upto_region 2 with (go_at_call 26; refine HSPLIT.out.mono ?_; rintro e w2 ⟨ws, n, hn, hws, hle, hns, rfl, rfl⟩; have HN := hid hn; have HWS := hid hws; have HLE := hid hle; clear hn hws hle HSPLIT)
  obtain ⟨v0, vs, hcut⟩ := cutA_cons 32 s.data.toList []
  have HCUT := hid hcut
  have hws0 := HWS.out
  rw [hcut] at hws0
  obtain ⟨w0, rest, hwr, hw0, hrest⟩ : ∃ w0 rest, ws = w0 :: rest ∧ w0.data.toList = v0 ∧ rest.map (fun s : ByteArray => s.data.toList) = vs := by
    cases ws with
    | nil => simp at hws0
    | cons w0 rest =>
      rw [List.map_cons] at hws0
      injection hws0 with h1 h2
      exact ⟨w0, rest, rfl, h1, h2⟩
  have hn := HN.out
  rw [hwr, List.length_cons] at hn
  have hsl := split_sl (w := w) HN.out
  have hrl : ∀ x ∈ rest, x.size ≤ 1073741824 := fun x hx => Nat.le_trans (HLE.out x (by rw [hwr]; simp [hx])) hs
  obtain ⟨W2, hW2⟩ : ∃ W2, w.alloc (.cells (ws.map Value.string).toArray 9) = W2 := ⟨_, rfl⟩
  have hb2 : Below w.heap.size w W2 := by rw [← hW2]; exact (Below.refl _ _).alloc (Nat.le_refl _) _
  have hsz2 : W2.heap.size = w.heap.size + 1 := by rw [← hW2]; exact sz_alloc _ _
  rw [hW2] at hsl ⊢
  have hw0c : W2.cell? ⟨w.heap.size, 0, none⟩ = some (.string w0) := by
    obtain ⟨bb, off, e, _, hx⟩ := hsl.2 (by omega)
    injection e with e
    injection e with e1 e2
    subst e1 e2
    exact hx 0 _ (by rw [hwr]; rfl)
  have hsl1 : Sl W2 (some ⟨w.heap.size, 1, none⟩) 1 (n - 1) (rest.map Value.string) := by
    refine ⟨by rw [List.length_map]; omega, fun _ => ⟨w.heap.size, 1, rfl, by omega, fun j u hu => ?_⟩⟩
    obtain ⟨bb, off, e, _, hx⟩ := hsl.2 (by omega)
    injection e with e
    injection e with e1 e2
    subst e1 e2
    have := hx (j + 1) u (by rw [hwr, List.map_cons]; exact hu)
    rw [show 1 + j = 0 + (j + 1) by omega]; exact this
  have HB2 := hid hb2
  have HNUM : Hid (if n = 1 then Calls Tryd.prog 27 #[.slice (some ⟨w.heap.size, 0, none⟩) 0 0, .int .i64 4] W2 (NumsGot 4 rest W2) else Calls Tryd.prog 27 #[.slice (some ⟨w.heap.size, 1, none⟩) (n - 1) (n - 1), .int .i64 4] W2 (NumsGot 4 rest W2)) := hid (by
    split
    · rename_i h1
      refine numbers_any rest _ 0 0 4 (by omega) (by omega) hrl W2 (HD.out.new HB2.out) ?_
      have : rest = [] := List.eq_nil_of_length_eq_zero (by omega)
      rw [this]; exact Sl.nil _ _ _
    · exact numbers_any rest _ (n - 1) (n - 1) 4 (by omega) (by omega) hrl W2 (HD.out.new HB2.out) hsl1)
  have HREST := hid hrest
  have HW0 := hid hw0
  have HW0C := hid hw0c
  have hn1 : 1 ≤ n := by omega
  clear hW2 hws0 hsl hsl1 hw0c hb2 hwr hrl hrest hcut HN HWS HLE hw0 hn
  have HN3 : Hid (∀ (w3 : World), Below W2.heap.size W2 w3 → Below w.heap.size w w3 ∧ w3.cell? ⟨w.heap.size, 0, none⟩ = some (.string w0)) := hid fun w3 hb => ⟨HB2.out.trans (hb.mono HB2.out.size), (hb.cell (p := ⟨w.heap.size, 0, none⟩) (by rw [hsz2]; exact Nat.lt_succ_self _)).trans HW0C.out⟩
  by_cases hn2 : n = 1
  all_goals
    first | rw [if_pos hn2] at HNUM | rw [if_neg hn2] at HNUM
    go_wp2_with fail
    refine HNUM.out.mono ?_
    rintro e w3 ⟨hb3, hor⟩
    rw [HREST.out] at hor
    obtain ⟨hbw3, hc3⟩ := HN3.out w3 hb3
    have HB3 := hid hbw3
    have hp3 := HP.out.new hbw3
    have p0 := hp3.w0
    have p1 := hp3.m0
    have p2 := hp3.w1
    have p3 := hp3.m1
    have p4 := hp3.w2
    have p5 := hp3.m2
    have p6 := hp3.w3
    have p7 := hp3.m3
    have hpl := hp3.lt
    obtain ⟨S0, hS0⟩ : ∃ S : ByteArray, S = ⟨#[102, 114, 97, 109, 101]⟩ := ⟨_, rfl⟩
    obtain ⟨S1, hS1⟩ : ∃ S : ByteArray, S = ⟨#[115, 112, 97, 110]⟩ := ⟨_, rfl⟩
    obtain ⟨S2, hS2⟩ : ∃ S : ByteArray, S = ⟨#[119, 105, 114, 101]⟩ := ⟨_, rfl⟩
    obtain ⟨S3, hS3⟩ : ∃ S : ByteArray, S = ⟨#[114, 111, 111, 109]⟩ := ⟨_, rfl⟩
    rw [← hS0] at p0
    rw [← hS1] at p2
    rw [← hS2] at p4
    rw [← hS3] at p6
    have HS0 : Hid (S0.data.toList = partWord 0) := hid (by rw [hS0]; rfl)
    have HS1 : Hid (S1.data.toList = partWord 1) := hid (by rw [hS1]; rfl)
    have HS2 : Hid (S2.data.toList = partWord 2) := hid (by rw [hS2]; rfl)
    have HS3 : Hid (S3.data.toList = partWord 3) := hid (by rw [hS3]; rfl)
    have HWR : Hid (∀ wr, Below w3.heap.size w3 wr → Below w.heap.size w wr ∧ (∀ o, (wr.alloc o).cell? ⟨w.heap.size, 0, none⟩ = some (.string w0)) ∧ (∀ o, (wr.alloc o).cell? ⟨b, 4, none⟩ = some (.int .i64 part)) ∧ (∀ o, (wr.alloc o).cell? ⟨b, 5, none⟩ = some (.bool bg)) ∧ w.heap.size < wr.heap.size ∧ b < wr.heap.size ∧ (∀ o j, (wr.alloc o).frozen? ⟨b, j, none⟩ = false)) := hid fun wr hb => by
      have hbw := hbw3.trans (hb.mono hbw3.size)
      have hl := cell_lt hc3
      have hbk := (hbw.block b (blk_lt HL.out)).trans HL.out
      unfold rdCells at hbk
      have hlr := blk_lt hbk
      have hl2 : w.heap.size < wr.heap.size := Nat.lt_of_lt_of_le hl hb.size
      refine ⟨hbw, fun o => (World.cell?_alloc_lt wr o ⟨w.heap.size, 0, none⟩ hl2).trans ((hb.cell (p := ⟨w.heap.size, 0, none⟩) hl).trans hc3), fun o => (World.cell?_alloc_lt wr o ⟨b, 4, none⟩ hlr).trans ((blk_cell hbk 4).trans rfl), fun o => (World.cell?_alloc_lt wr o ⟨b, 5, none⟩ hlr).trans ((blk_cell hbk 5).trans rfl), hl2, hlr, fun o j => ?_⟩
      exact blk_free ((blk_alloc hlr o).trans hbk) j
    clear hp3 hb3 hbw3 HNUM hS0 hS1 hS2 hS3
    have hix0 : ∀ w, (Instr.index 73 (.agg #[.string S0, .int .i64 1, .string S1, .int .i64 3, .string S2, .int .i64 4, .string S3, .int .i64 0]) (.int .i64 0)).run Tryd.prog w = .ok (.agg #[.string S0, .int .i64 1]) w := fun w => by kernel_rfl
    have hix1 : ∀ w, (Instr.index 73 (.agg #[.string S0, .int .i64 1, .string S1, .int .i64 3, .string S2, .int .i64 4, .string S3, .int .i64 0]) (.int .i64 1)).run Tryd.prog w = .ok (.agg #[.string S1, .int .i64 3]) w := fun w => by kernel_rfl
    have hix2 : ∀ w, (Instr.index 73 (.agg #[.string S0, .int .i64 1, .string S1, .int .i64 3, .string S2, .int .i64 4, .string S3, .int .i64 0]) (.int .i64 2)).run Tryd.prog w = .ok (.agg #[.string S2, .int .i64 4]) w := fun w => by kernel_rfl
    have hix3 : ∀ w, (Instr.index 73 (.agg #[.string S0, .int .i64 1, .string S1, .int .i64 3, .string S2, .int .i64 4, .string S3, .int .i64 0]) (.int .i64 3)).run Tryd.prog w = .ok (.agg #[.string S3, .int .i64 0]) w := fun w => by kernel_rfl
    rcases hor with ⟨ns, A6, m6, c6, hns6, hm6, rfl, hrow6, hnew6⟩ | ⟨hbad, rfl⟩
    · have HNS := hid hns6
      have HM6 := hid hm6
      have HR6 := hid hrow6
      have HB3N : Hid (∀ wr, Below w3.heap.size w3 wr → Below w3.heap.size w3 wr) := hid fun _ h => h
      clear hns6 hm6 hrow6 hnew6
      go_wp2_with fail
      go_loopw [19] (fun v19 wr => ∃ i : Nat, i ≤ 4 ∧ v19 = .int .i64 i ∧ (∀ j, j < i → partWord j ≠ v0) ∧ Below w3.heap.size w3 wr) (fun v19 _ => 4 - (intOf v19).toNat)
      case atStart => exact ⟨0, by omega, rfl, fun j hj => absurd hj (by omega), Below.refl _ _⟩
      case round =>
        obtain ⟨i, hi, rfl, hno, hb⟩ := hrel
        have HNO := hid hno
        have HBR := hid hb
        clear hno hb p0 p1 p2 p3 p4 p5 p6 p7 hpl hc3
        rcases (show i = 0 ∨ i = 1 ∨ i = 2 ∨ i = 3 ∨ i = 4 by omega) with rfl | rfl | rfl | rfl | rfl
        · obtain ⟨hbw, y0, y4, y5, hl0, hlb, yf⟩ := HWR.out wr HBR.out
          have HBW := hid hbw
          by_cases hw : partWord 0 = v0
          · obtain rfl : S0 = w0 := by
              apply ByteArray.ext
              apply Array.ext'
              rw [HS0.out, HW0.out, hw]
            subst hw
            have HNOT : Hid (¬ (ns.length = partMany 0 ∧ (PS.mk m.pl part bg).may 0) → ∀ l : PLine, l.Wf → l.isHead = true → l.txt = s.data.toList → (PS.mk m.pl part bg).step l = none) := hid fun hn l hl hh e => head_not HCUT.out (by decide) HNS.out H0.out h3 hn l hl hh e
            by_cases hl : m6 = 1
            · subst hl
              by_cases hp : part ≤ 0
              · obtain rfl : part = 0 := by omega
                cases bg with
                | true =>
                  clear hbw
                  go_upto_region 6 with fail
                  go_quiet (fail)
                  go_wp2_with fail
                  go_ret
                  exact head_false H.out (below_drawn (HBW.out.alloc HBW.out.size _) _) (HNOT.out fun hn => by have := hn.2.2; simp at this)
                | false =>
                  obtain ⟨N0, rfl⟩ : ∃ N0 : Nat, ns = [N0] := by
                    match ns, HM6.out with
                    | [x0], _ => exact ⟨x0, rfl⟩
                  have HACC : Hid (∀ wq, Below wr.heap.size wr wq → Calls Tryd.prog 28 #[.pointer (some ⟨b, 0, none⟩), .slice A6 1 c6] (wq.setCell ⟨b, 4, none⟩ (.int .i64 0)) fun e w' => e = .returned (.tuple #[]) ∧ ∀ s, (mkLine 0 [N0]).Wf → (mkLine 0 [N0]).txt = s → HeadGot base b w m 0 false s (.returned (.bool true)) w') := hid fun wq hq => acc_frame H.out (HBW.out.trans (hq.mono HBW.out.size)) (HR6.out.new ((HB3N.out wr HBR.out).trans (hq.mono (HB3N.out wr HBR.out).size)))
                  have HYES := hid (head_yes (i := 0) HCUT.out (by decide) HNS.out rfl)
                  clear hbw
                  go_upto_region 6 with fail
                  go_quiet (fail)
                  go_wp2_with (go_at_call 28; refine (HACC.out _ (below_drawn ((Below.refl _ _).alloc (Nat.le_refl _) _) _)).mono ?_; rintro e w9 ⟨rfl, hg⟩; have HG := hid (hg s.data.toList HYES.out.1 HYES.out.2); clear hg)
                  go_ret
                  exact HG.out
              · have hpi : (0 : Int) < (part : Int) := by omega
                clear hbw
                go_upto_region 6 with fail
                go_quiet (fail)
                go_wp2_with fail
                go_ret
                exact head_false H.out (below_drawn (HBW.out.alloc HBW.out.size _) _) (HNOT.out fun hn => hp hn.2.1)
            · have hli : ((m6 : Int) != 1) = true := by simp; omega
              clear hbw
              go_upto_region 6 with fail
              go_quiet (fail)
              go_wp2_with fail
              go_ret
              exact head_false H.out (below_drawn (HBW.out.alloc HBW.out.size _) _) (HNOT.out fun hn => hl (HM6.out.symm.trans hn.1))
          · have hne : (S0.toList == w0.toList) = false := by
              rw [Lib.toList_data, Lib.toList_data, HS0.out, HW0.out]
              exact beq_eq_false_iff_ne.2 hw
            have HWN := hid hw
            clear hbw hw
            go_upto_region 6 with fail
            go_quiet (fail)
            go_wp2_with fail
            go_roundw
            case rel =>
              refine ⟨1, by omega, by go_num, fun j hj => ?_, below_drawn (HBR.out.alloc HBR.out.size _) _⟩
              by_cases hjk : j = 0
              · rw [hjk]; exact HWN.out
              · exact HNO.out j (by omega)
            case measure => simp [intOf]
        · obtain ⟨hbw, y0, y4, y5, hl0, hlb, yf⟩ := HWR.out wr HBR.out
          have HBW := hid hbw
          by_cases hw : partWord 1 = v0
          · obtain rfl : S1 = w0 := by
              apply ByteArray.ext
              apply Array.ext'
              rw [HS1.out, HW0.out, hw]
            subst hw
            have HNOT : Hid (¬ (ns.length = partMany 1 ∧ (PS.mk m.pl part bg).may 1) → ∀ l : PLine, l.Wf → l.isHead = true → l.txt = s.data.toList → (PS.mk m.pl part bg).step l = none) := hid fun hn l hl hh e => head_not HCUT.out (by decide) HNS.out H0.out h3 hn l hl hh e
            by_cases hl : m6 = 3
            · subst hl
              by_cases hp : part ≤ 1
              · have hpi : ¬ (1 : Int) < (part : Int) := by omega
                cases bg with
                | false =>
                  clear hbw
                  go_upto_region 6 with fail
                  go_quiet (fail)
                  go_wp2_with fail
                  go_ret
                  exact head_false H.out (below_drawn (HBW.out.alloc HBW.out.size _) _) (HNOT.out fun hn => by have := hn.2.2; simp at this)
                | true =>
                  obtain ⟨N0, N1, N2, rfl⟩ : ∃ N0 N1 N2 : Nat, ns = [N0, N1, N2] := by
                    match ns, HM6.out with
                    | [x0, x1, x2], _ => exact ⟨x0, x1, x2, rfl⟩
                  have HACC : Hid (∀ wq, Below wr.heap.size wr wq → Calls Tryd.prog 28 #[.pointer (some ⟨b, 0, none⟩), .slice A6 3 c6] (wq.setCell ⟨b, 4, none⟩ (.int .i64 1)) fun e w' => e = .returned (.tuple #[]) ∧ ∀ s, (mkLine 1 [N0, N1, N2]).Wf → (mkLine 1 [N0, N1, N2]).txt = s → HeadGot base b w m part true s (.returned (.bool true)) w') := hid fun wq hq => acc_span hf2 hp H.out (HBW.out.trans (hq.mono HBW.out.size)) (HR6.out.new ((HB3N.out wr HBR.out).trans (hq.mono (HB3N.out wr HBR.out).size)))
                  have HYES := hid (head_yes (i := 1) HCUT.out (by decide) HNS.out rfl)
                  clear hbw
                  go_upto_region 6 with fail
                  go_quiet (fail)
                  go_wp2_with (go_at_call 28; refine (HACC.out _ (below_drawn ((Below.refl _ _).alloc (Nat.le_refl _) _) _)).mono ?_; rintro e w9 ⟨rfl, hg⟩; have HG := hid (hg s.data.toList HYES.out.1 HYES.out.2); clear hg)
                  go_ret
                  exact HG.out
              · have hpi : (1 : Int) < (part : Int) := by omega
                clear hbw
                go_upto_region 6 with fail
                go_quiet (fail)
                go_wp2_with fail
                go_ret
                exact head_false H.out (below_drawn (HBW.out.alloc HBW.out.size _) _) (HNOT.out fun hn => hp hn.2.1)
            · have hli : ((m6 : Int) != 3) = true := by simp; omega
              clear hbw
              go_upto_region 6 with fail
              go_quiet (fail)
              go_wp2_with fail
              go_ret
              exact head_false H.out (below_drawn (HBW.out.alloc HBW.out.size _) _) (HNOT.out fun hn => hl (HM6.out.symm.trans hn.1))
          · have hne : (S1.toList == w0.toList) = false := by
              rw [Lib.toList_data, Lib.toList_data, HS1.out, HW0.out]
              exact beq_eq_false_iff_ne.2 hw
            have HWN := hid hw
            clear hbw hw
            go_upto_region 6 with fail
            go_quiet (fail)
            go_wp2_with fail
            go_roundw
            case rel =>
              refine ⟨2, by omega, by go_num, fun j hj => ?_, below_drawn (HBR.out.alloc HBR.out.size _) _⟩
              by_cases hjk : j = 1
              · rw [hjk]; exact HWN.out
              · exact HNO.out j (by omega)
            case measure => simp [intOf]
        · obtain ⟨hbw, y0, y4, y5, hl0, hlb, yf⟩ := HWR.out wr HBR.out
          have HBW := hid hbw
          by_cases hw : partWord 2 = v0
          · obtain rfl : S2 = w0 := by
              apply ByteArray.ext
              apply Array.ext'
              rw [HS2.out, HW0.out, hw]
            subst hw
            have HNOT : Hid (¬ (ns.length = partMany 2 ∧ (PS.mk m.pl part bg).may 2) → ∀ l : PLine, l.Wf → l.isHead = true → l.txt = s.data.toList → (PS.mk m.pl part bg).step l = none) := hid fun hn l hl hh e => head_not HCUT.out (by decide) HNS.out H0.out h3 hn l hl hh e
            by_cases hl : m6 = 4
            · subst hl
              by_cases hp : part ≤ 2
              · have hpi : ¬ (2 : Int) < (part : Int) := by omega
                cases bg with
                | false =>
                  clear hbw
                  go_upto_region 6 with fail
                  go_quiet (fail)
                  go_wp2_with fail
                  go_ret
                  exact head_false H.out (below_drawn (HBW.out.alloc HBW.out.size _) _) (HNOT.out fun hn => by have := hn.2.2; simp at this)
                | true =>
                  obtain ⟨N0, N1, N2, N3, rfl⟩ : ∃ N0 N1 N2 N3 : Nat, ns = [N0, N1, N2, N3] := by
                    match ns, HM6.out with
                    | [x0, x1, x2, x3], _ => exact ⟨x0, x1, x2, x3, rfl⟩
                  have HACC : Hid (∀ wq, Below wr.heap.size wr wq → Calls Tryd.prog 28 #[.pointer (some ⟨b, 0, none⟩), .slice A6 4 c6] (wq.setCell ⟨b, 4, none⟩ (.int .i64 2)) fun e w' => e = .returned (.tuple #[]) ∧ ∀ s, (mkLine 2 [N0, N1, N2, N3]).Wf → (mkLine 2 [N0, N1, N2, N3]).txt = s → HeadGot base b w m part true s (.returned (.bool true)) w') := hid fun wq hq => acc_wire hf3 hp H.out (HBW.out.trans (hq.mono HBW.out.size)) (HR6.out.new ((HB3N.out wr HBR.out).trans (hq.mono (HB3N.out wr HBR.out).size)))
                  have HYES := hid (head_yes (i := 2) HCUT.out (by decide) HNS.out rfl)
                  clear hbw
                  go_upto_region 6 with fail
                  go_quiet (fail)
                  go_wp2_with (go_at_call 28; refine (HACC.out _ (below_drawn ((Below.refl _ _).alloc (Nat.le_refl _) _) _)).mono ?_; rintro e w9 ⟨rfl, hg⟩; have HG := hid (hg s.data.toList HYES.out.1 HYES.out.2); clear hg)
                  go_ret
                  exact HG.out
              · have hpi : (2 : Int) < (part : Int) := by omega
                clear hbw
                go_upto_region 6 with fail
                go_quiet (fail)
                go_wp2_with fail
                go_ret
                exact head_false H.out (below_drawn (HBW.out.alloc HBW.out.size _) _) (HNOT.out fun hn => hp hn.2.1)
            · have hli : ((m6 : Int) != 4) = true := by simp; omega
              clear hbw
              go_upto_region 6 with fail
              go_quiet (fail)
              go_wp2_with fail
              go_ret
              exact head_false H.out (below_drawn (HBW.out.alloc HBW.out.size _) _) (HNOT.out fun hn => hl (HM6.out.symm.trans hn.1))
          · have hne : (S2.toList == w0.toList) = false := by
              rw [Lib.toList_data, Lib.toList_data, HS2.out, HW0.out]
              exact beq_eq_false_iff_ne.2 hw
            have HWN := hid hw
            clear hbw hw
            go_upto_region 6 with fail
            go_quiet (fail)
            go_wp2_with fail
            go_roundw
            case rel =>
              refine ⟨3, by omega, by go_num, fun j hj => ?_, below_drawn (HBR.out.alloc HBR.out.size _) _⟩
              by_cases hjk : j = 2
              · rw [hjk]; exact HWN.out
              · exact HNO.out j (by omega)
            case measure => simp [intOf]
        · obtain ⟨hbw, y0, y4, y5, hl0, hlb, yf⟩ := HWR.out wr HBR.out
          have HBW := hid hbw
          by_cases hw : partWord 3 = v0
          · obtain rfl : S3 = w0 := by
              apply ByteArray.ext
              apply Array.ext'
              rw [HS3.out, HW0.out, hw]
            subst hw
            have HNOT : Hid (¬ (ns.length = partMany 3 ∧ (PS.mk m.pl part bg).may 3) → ∀ l : PLine, l.Wf → l.isHead = true → l.txt = s.data.toList → (PS.mk m.pl part bg).step l = none) := hid fun hn l hl hh e => head_not HCUT.out (by decide) HNS.out H0.out h3 hn l hl hh e
            by_cases hl : m6 = 0
            · subst hl
              by_cases hp : part ≤ 3
              · have hpi : ¬ (3 : Int) < (part : Int) := by omega
                cases bg with
                | false =>
                  clear hbw
                  go_upto_region 6 with fail
                  go_quiet (fail)
                  go_wp2_with fail
                  go_ret
                  exact head_false H.out (below_drawn (HBW.out.alloc HBW.out.size _) _) (HNOT.out fun hn => by have := hn.2.2; simp at this)
                | true =>
                  obtain rfl : ns = [] := List.eq_nil_of_length_eq_zero HM6.out
                  have HACC : Hid (∀ wq, Below wr.heap.size wr wq → Calls Tryd.prog 28 #[.pointer (some ⟨b, 0, none⟩), .slice A6 0 c6] (wq.setCell ⟨b, 4, none⟩ (.int .i64 3)) fun e w' => e = .returned (.tuple #[]) ∧ ∀ s, (mkLine 3 []).Wf → (mkLine 3 []).txt = s → HeadGot base b w m part true s (.returned (.bool true)) w') := hid fun wq hq => acc_room (N := 0) hf1 H.out (HBW.out.trans (hq.mono HBW.out.size)) rfl
                  have HYES := hid (head_yes (i := 3) HCUT.out (by decide) HNS.out rfl)
                  clear hbw
                  go_upto_region 6 with fail
                  go_quiet (fail)
                  go_wp2_with (go_at_call 28; refine (HACC.out _ (below_drawn ((Below.refl _ _).alloc (Nat.le_refl _) _) _)).mono ?_; rintro e w9 ⟨rfl, hg⟩; have HG := hid (hg s.data.toList HYES.out.1 HYES.out.2); clear hg)
                  go_ret
                  exact HG.out
              · exact absurd h3 hp
            · have hli : ((m6 : Int) != 0) = true := by simp; omega
              clear hbw
              go_upto_region 6 with fail
              go_quiet (fail)
              go_wp2_with fail
              go_ret
              exact head_false H.out (below_drawn (HBW.out.alloc HBW.out.size _) _) (HNOT.out fun hn => hl (HM6.out.symm.trans hn.1))
          · have hne : (S3.toList == w0.toList) = false := by
              rw [Lib.toList_data, Lib.toList_data, HS3.out, HW0.out]
              exact beq_eq_false_iff_ne.2 hw
            have HWN := hid hw
            clear hbw hw
            go_upto_region 6 with fail
            go_quiet (fail)
            go_wp2_with fail
            go_roundw
            case rel =>
              refine ⟨4, by omega, by go_num, fun j hj => ?_, below_drawn (HBR.out.alloc HBR.out.size _) _⟩
              by_cases hjk : j = 3
              · rw [hjk]; exact HWN.out
              · exact HNO.out j (by omega)
            case measure => simp [intOf]
        · obtain ⟨hbw, _, _, _, _, _, _⟩ := HWR.out wr HBR.out
          have HBW := hid hbw
          clear hbw
          go_wp2_with fail
          go_ret
          exact head_false H.out HBW.out fun l hl hh e => absurd e (head_none HCUT.out (fun i hi => HNO.out i hi) l hl hh)
    · have HBAD := hid hbad
      clear hbad
      go_wp2_with fail
      go_loopw [19] (fun v19 wr => ∃ i : Nat, i ≤ 4 ∧ v19 = .int .i64 i ∧ (∀ j, j < i → partWord j ≠ v0) ∧ Below w3.heap.size w3 wr) (fun v19 _ => 4 - (intOf v19).toNat)
      case atStart => exact ⟨0, by omega, rfl, fun j hj => absurd hj (by omega), Below.refl _ _⟩
      case round =>
        obtain ⟨i, hi, rfl, hno, hb⟩ := hrel
        have HNO := hid hno
        have HBR := hid hb
        clear hno hb p0 p1 p2 p3 p4 p5 p6 p7 hpl hc3
        rcases (show i = 0 ∨ i = 1 ∨ i = 2 ∨ i = 3 ∨ i = 4 by omega) with rfl | rfl | rfl | rfl | rfl
        · obtain ⟨hbw, y0, y4, y5, hl0, hlb, yf⟩ := HWR.out wr HBR.out
          have HBW := hid hbw
          by_cases hw : partWord 0 = v0
          · obtain rfl : S0 = w0 := by
              apply ByteArray.ext
              apply Array.ext'
              rw [HS0.out, HW0.out, hw]
            subst hw
            clear hbw
            go_upto_region 6 with fail
            go_quiet (fail)
            go_wp2_with fail
            go_ret
            exact head_false H.out (below_drawn (HBW.out.alloc HBW.out.size _) _) fun l hl hh e => absurd e (head_nonum HCUT.out HBAD.out l hl hh)
          · have hne : (S0.toList == w0.toList) = false := by
              rw [Lib.toList_data, Lib.toList_data, HS0.out, HW0.out]
              exact beq_eq_false_iff_ne.2 hw
            have HWN := hid hw
            clear hbw hw
            go_upto_region 6 with fail
            go_quiet (fail)
            go_wp2_with fail
            go_roundw
            case rel =>
              refine ⟨1, by omega, by go_num, fun j hj => ?_, below_drawn (HBR.out.alloc HBR.out.size _) _⟩
              by_cases hjk : j = 0
              · rw [hjk]; exact HWN.out
              · exact HNO.out j (by omega)
            case measure => simp [intOf]
        · obtain ⟨hbw, y0, y4, y5, hl0, hlb, yf⟩ := HWR.out wr HBR.out
          have HBW := hid hbw
          by_cases hw : partWord 1 = v0
          · obtain rfl : S1 = w0 := by
              apply ByteArray.ext
              apply Array.ext'
              rw [HS1.out, HW0.out, hw]
            subst hw
            clear hbw
            go_upto_region 6 with fail
            go_quiet (fail)
            go_wp2_with fail
            go_ret
            exact head_false H.out (below_drawn (HBW.out.alloc HBW.out.size _) _) fun l hl hh e => absurd e (head_nonum HCUT.out HBAD.out l hl hh)
          · have hne : (S1.toList == w0.toList) = false := by
              rw [Lib.toList_data, Lib.toList_data, HS1.out, HW0.out]
              exact beq_eq_false_iff_ne.2 hw
            have HWN := hid hw
            clear hbw hw
            go_upto_region 6 with fail
            go_quiet (fail)
            go_wp2_with fail
            go_roundw
            case rel =>
              refine ⟨2, by omega, by go_num, fun j hj => ?_, below_drawn (HBR.out.alloc HBR.out.size _) _⟩
              by_cases hjk : j = 1
              · rw [hjk]; exact HWN.out
              · exact HNO.out j (by omega)
            case measure => simp [intOf]
        · obtain ⟨hbw, y0, y4, y5, hl0, hlb, yf⟩ := HWR.out wr HBR.out
          have HBW := hid hbw
          by_cases hw : partWord 2 = v0
          · obtain rfl : S2 = w0 := by
              apply ByteArray.ext
              apply Array.ext'
              rw [HS2.out, HW0.out, hw]
            subst hw
            clear hbw
            go_upto_region 6 with fail
            go_quiet (fail)
            go_wp2_with fail
            go_ret
            exact head_false H.out (below_drawn (HBW.out.alloc HBW.out.size _) _) fun l hl hh e => absurd e (head_nonum HCUT.out HBAD.out l hl hh)
          · have hne : (S2.toList == w0.toList) = false := by
              rw [Lib.toList_data, Lib.toList_data, HS2.out, HW0.out]
              exact beq_eq_false_iff_ne.2 hw
            have HWN := hid hw
            clear hbw hw
            go_upto_region 6 with fail
            go_quiet (fail)
            go_wp2_with fail
            go_roundw
            case rel =>
              refine ⟨3, by omega, by go_num, fun j hj => ?_, below_drawn (HBR.out.alloc HBR.out.size _) _⟩
              by_cases hjk : j = 2
              · rw [hjk]; exact HWN.out
              · exact HNO.out j (by omega)
            case measure => simp [intOf]
        · obtain ⟨hbw, y0, y4, y5, hl0, hlb, yf⟩ := HWR.out wr HBR.out
          have HBW := hid hbw
          by_cases hw : partWord 3 = v0
          · obtain rfl : S3 = w0 := by
              apply ByteArray.ext
              apply Array.ext'
              rw [HS3.out, HW0.out, hw]
            subst hw
            clear hbw
            go_upto_region 6 with fail
            go_quiet (fail)
            go_wp2_with fail
            go_ret
            exact head_false H.out (below_drawn (HBW.out.alloc HBW.out.size _) _) fun l hl hh e => absurd e (head_nonum HCUT.out HBAD.out l hl hh)
          · have hne : (S3.toList == w0.toList) = false := by
              rw [Lib.toList_data, Lib.toList_data, HS3.out, HW0.out]
              exact beq_eq_false_iff_ne.2 hw
            have HWN := hid hw
            clear hbw hw
            go_upto_region 6 with fail
            go_quiet (fail)
            go_wp2_with fail
            go_roundw
            case rel =>
              refine ⟨4, by omega, by go_num, fun j hj => ?_, below_drawn (HBR.out.alloc HBR.out.size _) _⟩
              by_cases hjk : j = 3
              · rw [hjk]; exact HWN.out
              · exact HNO.out j (by omega)
            case measure => simp [intOf]
        · obtain ⟨hbw, _, _, _, _, _, _⟩ := HWR.out wr HBR.out
          have HBW := hid hbw
          clear hbw
          go_wp2_with fail
          go_ret
          exact head_false H.out HBW.out fun l hl hh e => absurd e (head_none HCUT.out (fun i hi => HNO.out i hi) l hl hh)
end Go.Proofs.YtldllmhgofacbaaDoor
