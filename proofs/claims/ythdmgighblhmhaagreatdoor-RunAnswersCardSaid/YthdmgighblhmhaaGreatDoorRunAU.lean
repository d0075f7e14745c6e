/- Several parts: each begins with what it says. -/
import Derived.Test.YthdmgighblhmhaaGreatDoorSnapSvU
import Derived.Test.YthdmgighblhmhaaGreatDoorEvU
import Derived.Test.YthdmgighblhmhaaGreatDoorLogLawU
import Derived.Test.YthdmgighblhmhaaGreatDoorRunU
import Derived.Lib.Join
import Derived.Test.YthdmgighblhmhaaGreatDoorDeskU
import Derived.Test.YthdmgighblhmhaaGreatDoorShelf
import Derived.Test.YthdmgighblhmhaaGreatDoorStandU
import Derived.Maps.OwnSet
import Derived.Maps.Own
/- Plain: what the lines of a session are answered. No program is walked. Conditions: none. -/
namespace Go.Proofs.YthdmgighblhmhaaGreatDoor

def runPl : Pl := ⟨[[⟨1, 1, 1⟩, ⟨3, 0, 1⟩, ⟨8, 0, 0⟩, ⟨9, 2, 1⟩, ⟨7, 0, 1⟩], [⟨9, 0, 0⟩, ⟨5, 0, 0⟩, ⟨8, 0, 1⟩]], 4, [⟨0, 2, 0⟩, ⟨2, 3, 1⟩], [⟨0, 1, 2, 2⟩, ⟨1, 0, 1, 1⟩]⟩
def goW : List UInt8 := [103, 111]
def tickW : List UInt8 := [116, 105, 99, 107]
def showW : List UInt8 := [115, 104, 111, 119]
def pokeW : List UInt8 := [112, 111, 107, 101]
def okA : List UInt8 := [111, 107]
def badA : List UInt8 := [98, 97, 100]
def rangeA : List UInt8 := [69, 114, 114, 82, 97, 110, 103, 101]
def rowA (l : List Int) : List UInt8 := Lib.join (l.map Lib.itoa) [32]
/-- A line's answer, the kernel then. -/
def wordA (k : Kst) (v0 : List UInt8) (ns : List Nat) : List UInt8 × Kst :=
  if v0 = goW ∧ ns.length = 1 then (if 100 < ns.getD 0 0 then (rangeA, k) else (okA, goK runPl k (ns.getD 0 0)))
  else if v0 = tickW ∧ ns.length = 0 then (evLine (tick runPl k).1, (tick runPl k).2)
  else if v0 = showW ∧ ns.length = 1 then (if ns.getD 0 0 < 2 then rowA (roomNums (k.rooms.getD (ns.getD 0 0) St.zero)) else rangeA, k)
  else if v0 = wireW ∧ ns.length = 1 then ((match k.lines[ns.getD 0 0]? with | some x => rowA (x.lost :: x.items) | none => rangeA), k)
  else if v0 = pokeW ∧ ns.length = 3 then (if pokeOk 2 (ns.getD 0 0 : Nat) (ns.getD 1 0 : Nat) (ns.getD 2 0 : Nat) = true then (okA, pokeK k (ns.getD 0 0 : Nat) (ns.getD 1 0 : Nat) (ns.getD 2 0 : Nat)) else (rangeA, k))
  else (badA, k)
def lineA (k : Kst) (s : List UInt8) : List UInt8 × Kst :=
  match cutA 32 [] s with
  | [] => (badA, k)
  | v0 :: vs => match numsOf 4 vs with
    | none => (badA, k)
    | some ns => wordA k v0 ns
/-- The answers to lines. -/
def sessA (k : Kst) : List (List UInt8) → List UInt8
  | [] => []
  | s :: l => (lineA k s).1 ++ [10] ++ sessA (lineA k s).2 l
def sessK (k : Kst) : List (List UInt8) → Kst
  | [] => k
  | s :: l => sessK (lineA k s).2 l
theorem sessA_append : ∀ (l r : List (List UInt8)) (k : Kst), sessA k (l ++ r) = sessA k l ++ sessA (sessK k l) r
  | [], _, _ => rfl
  | s :: l, r, k => by
    show _ ++ sessA _ (l ++ r) = _
    rw [sessA_append l r]
    show _ = (_ ++ sessA _ l) ++ sessA (sessK (lineA k s).2 l) r
    simp only [List.append_assoc]
theorem sessK_append : ∀ (l r : List (List UInt8)) (k : Kst), sessK k (l ++ r) = sessK (sessK k l) r
  | [], _, _ => rfl
  | _ :: l, r, _ => sessK_append l r _
/-- A line without its end. -/
def bare (s : List UInt8) : List UInt8 := if s.getLast? = some 10 then s.dropLast else s
def runA (t : List UInt8) : List UInt8 := sessA (kNew runPl) ((linesOf t).map bare)
end Go.Proofs.YthdmgighblhmhaaGreatDoor

/- run.row: a row of numbers as a text. Conditions: the library's table of powers, which the row lists. -/
namespace Go.Proofs.YthdmgighblhmhaaGreatDoor
open Go.RowKit
set_option maxRecDepth 100000

/-- A number as a text. -/
def digR (n : Int) : Value := .string ⟨(Lib.itoa n).toArray⟩
theorem lens_leR : ∀ (xs : List (List UInt8)) (n : Nat), (∀ x ∈ xs, x.length ≤ n) → Lib.lens xs ≤ xs.length * n
  | [], _, _ => by simp [Lib.lens]
  | x :: xs, n, h => by
    have h1 := h x (by simp)
    have h2 := lens_leR xs n fun y hy => h y (by simp [hy])
    simp only [Lib.lens, List.map_cons, List.sum_cons, List.length_cons, Nat.succ_mul] at h2 ⊢
    omega
theorem join_lenR (xs : List (List UInt8)) (n : Nat) (h : ∀ x ∈ xs, x.length ≤ n) : (Lib.join xs [32]).length ≤ xs.length * n + xs.length := by
  cases xs with
  | nil => simp [Lib.join_nil]
  | cons x r =>
    have h2 := lens_leR (x :: r) n h
    rw [Lib.join_length]
    simp only [List.length_cons, List.length_nil] at h2 ⊢
    omega
theorem rowA_len {l : List Int} (hfit : ∀ n ∈ l, -1000000000 ≤ n ∧ n ≤ 1000000000) (hl : l.length ≤ 40) : (rowA l).length ≤ 900 := by
  have h1 := join_lenR (l.map Lib.itoa) 21 (fun x hx => by
    obtain ⟨n, hn, rfl⟩ := List.mem_map.1 hx
    have := hfit n hn
    exact Lib.itoa_length_le n (by omega) (by omega))
  rw [List.length_map] at h1
  unfold rowA
  omega
set_option maxHeartbeats 4000000 in
theorem runrow_any (w : World) (A : Option Addr) (c : Nat) (l : List Int) (hd : Desk w) (hs : Sl w A 1 l.length (ints l)) (hfit : ∀ n ∈ l, -1000000000 ≤ n ∧ n ≤ 1000000000) (h1 : 1 ≤ l.length) (h40 : l.length ≤ 40) :
    Calls Tryz.prog 83 #[.slice A l.length c] w fun e w' => e = .returned (.string ⟨(rowA l).toArray⟩) ∧ Below w.heap.size w w' := by
  obtain ⟨i0, hi0, hz0, hz1, hz2⟩ := info_parts Tryz.infoStr
  obtain ⟨b0, o0, rfl, hb0, hx0⟩ := hs.2 h1
  have HFIT := hid hfit
  have HPW : Hid (∀ w', Below w.heap.size w w' → Pows w') := fun w' hb => (hd.new hb).pows
  have HC : Hid (∀ w', Below w.heap.size w w' → ∀ j x, l[j]? = some x → w'.cell? ⟨b0, o0 + j, none⟩ = some (.int .i64 x) ∧ b0 < w'.heap.size) := fun w' hb j x hj => ⟨by
    rw [hb.cell hb0]
    exact hx0 j _ (by unfold ints; rw [List.getElem?_map, hj]; rfl), Nat.lt_of_lt_of_le hb0 hb.size⟩
  have HRL := hid (rowA_len hfit h40)
  obtain ⟨n, hn⟩ : ∃ n, n = l.length := ⟨_, rfl⟩
  have HN := hid hn
  rw [← hn] at h1 h40 ⊢
  have hlt0 := hb0
  clear hfit hd hn hs hx0 hb0
  go_enter Tryz.func83, Tryz.ntmps83
  go_wp2_with fail
  go_loopw [3, 8] (fun v3 v8 wr => ∃ (j : Nat) (A : Option Addr) (cap : Nat), j ≤ n ∧ v3 = .slice A j cap ∧ v8 = .int .i64 j ∧
    Stand w wr [rowT 9 1 A j cap ((l.map digR).take j)]) (fun _ v8 _ => n - (intOf v8).toNat)
  case atStart => exact ⟨0, none, 0, by omega, rfl, rfl, stand_nil (Stand.start (Below.refl _ _)) _ _⟩
  case round =>
    obtain ⟨j, A, cap, hj, rfl, rfl, hst⟩ := hrel
    have HS := hid hst
    clear hst
    by_cases hjn : j < n
    · have hjl : j < l.length := by rw [← HN.out]; exact hjn
      have hget := List.getElem?_eq_getElem hjl
      have hk := HC.out wr HS.out.below j _ hget
      have hfx := HFIT.out l[j] (List.getElem_mem hjl)
      have hnext : (l.map digR).take (j + 1) = (l.map digR).take j ++ [digR l[j]] := by rw [List.take_succ_eq_append_getElem (by rw [List.length_map]; exact hjl), List.getElem_map]
      generalize l[j] = x at hget hk hfx hnext
      obtain ⟨hk, hkl⟩ := hk
      obtain ⟨S2, hS2⟩ : ∃ S2 : ByteArray, S2 = ⟨(Lib.itoa x).toArray⟩ := ⟨_, rfl⟩
      have HIT : Hid (Calls Tryz.prog 80 #[.int .i64 x] wr fun e w'' => e = .returned (.string S2) ∧ Below wr.heap.size wr w'') := by
        rw [hS2]; exact itoaS_any x (by omega) (by omega) wr (HPW.out _ HS.out.below)
      have HNX : Hid ((l.map digR).take (j + 1) = (l.map digR).take j ++ [.string S2]) := by rw [hnext, hS2]; rfl
      clear hget hfx hnext hS2
      go_wp2_with (first
        | (go_at_call 80; refine HIT.out.mono ?_; rintro e w5 ⟨rfl, hb5⟩; have HS5 := hid (HS.out.new hb5); clear hb5 HIT)
        | (at_builtin; refine wpList_append_row _ rfl _ _ 23 rfl 9 i0 (.string ⟨#[]⟩) 1 16 Tryz.underlying23 hi0 hz0 hz1 hz2 rfl (by decide) A j cap ((l.map digR).take j) rfl ?c0 (some ⟨w5.heap.size, 0, none⟩) 1 1 [.string S2] rfl ?c1 ?c2 ?c3 ?c4 ?_))
      case c0 => exact Row.alloc (HS5.out.get (i := 0) rfl).here _
      case c1 => exact one_sl w5 _ _
      case c2 => intro u hu; simp at hu; subst hu; rfl
      case c3 => unfold maxLen; omega
      case c4 => omega
      intro A' cap' w6 hrow6 hkeep6 hin6
      rw [← HNX.out] at hrow6
      have hst6 := (HS5.out.new ((Below.refl _ w5).alloc (Nat.le_refl _) (.cells #[.string S2] 9))).go 0 rfl (row_went hrow6 hkeep6 (fun i hi => by rw [sz_alloc]; exact hin6 i hi))
      have HS6 : Hid (Stand w w6 [rowT 9 1 A' (j + 1) cap' ((l.map digR).take (j + 1))]) := hst6
      clear hrow6 hkeep6 hin6 hst6
      go_wp2_with fail
      go_roundw
      case rel => exact ⟨j + 1, A', cap', by omega, by go_num, by go_num, HS6.out⟩
      case measure => simp [intOf]; omega
    · obtain rfl : j = n := by omega
      have htk : (l.map digR).take j = l.map digR := by rw [List.take_of_length_le (by rw [List.length_map]; have := HN.out; omega)]
      rw [htk] at HS
      clear htk
      obtain ⟨bk, o, rfl, hbk, hx⟩ := (show Row wr 9 1 A j cap (l.map digR) from (HS.out.get (i := 0) rfl).here).sl.2 (by omega)
      have hcap : j ≤ cap := (show Row wr 9 1 (some ⟨bk, o, none⟩) j cap (l.map digR) from (HS.out.get (i := 0) rfl).here).le.1
      have hjj : (l.map fun n => (⟨(Lib.itoa n).toArray⟩ : ByteArray)).map (·.data.toList) = l.map Lib.itoa := by simp [List.map_map, Function.comp_def]
      have HJ : Hid (Calls Tryz.prog 98 #[.slice (some ⟨bk, o, none⟩) j cap, .string ⟨#[32]⟩] wr fun e w' => e = .returned (.string ⟨(rowA l).toArray⟩) ∧ Below wr.heap.size wr w') := by
        have h := Tryz.strings_Join bk o cap (l.map fun n => (⟨(Lib.itoa n).toArray⟩ : ByteArray)) ⟨#[32]⟩ wr (fun i x hi => hx i _ (by
          rw [List.getElem?_map] at hi ⊢
          cases hg : l[i]? with
          | none => rw [hg] at hi; simp at hi
          | some n => rw [hg] at hi; simp at hi; subst hi; rfl)) hbk (by rw [List.length_map]; have := HN.out; omega) (by rw [List.length_map, ← HN.out]; exact hcap) (by
          rw [hjj]
          exact Nat.le_trans HRL.out (by decide))
        rw [List.length_map, ← HN.out, hjj] at h
        exact h
      clear hx hjj
      go_wp2_with (go_at_call 98; refine HJ.out.mono ?_; rintro e w7 ⟨rfl, hb7⟩; have HB7 := hid (HS.out.below.trans (hb7.mono HS.out.below.size)); clear hb7 HJ)
      go_ret
      exact ⟨rfl, HB7.out⟩
end Go.Proofs.YthdmgighblhmhaaGreatDoor

/- Plain: a session's kernel stays right; how long its answers are. No program is walked. Conditions: none. -/
namespace Go.Proofs.YthdmgighblhmhaaGreatDoor

theorem runPl_chk : planChk runPl = 0 := by kernel_rfl
theorem runPl_ok : PlOk runPl := planChk_ok runPl_chk
theorem krDo_what (n : Int) (r : Nat) (o : Op) (s : St) (k : Kst) : 0 ≤ (kDo n r o s k).1 ∧ (kDo n r o s k).1 ≤ 5 := by
  unfold kDo
  repeat' split
  all_goals (simp only []; try split)
  all_goals omega
theorem evr_turn {p : Pl} (hp : PlOk p) {k : Kst} {B : Int} (hk : KOk p k B) : (tick p k).1.tick = k.time := by
  unfold tick
  rcases tick_meets hp hk (spans_ok hp) with h0 | ⟨r, ops, s, o, h0, hc, hs, ho⟩
  · rw [tick_none h0]
  · rw [tick_room h0 hc hs ho]
/-- A tick's event may stand in a line. -/
theorem evr_right {p : Pl} (hp : PlOk p) {k : Kst} {B : Int} (hk : KOk p k B) (ht : k.time ≤ 1000000) : WfEv (tick p k).1 := by
  have h0 := hk.time0
  have h1 := evr_turn hp hk
  have h5 := hp.most5
  have key : -1 ≤ (tick p k).1.room ∧ (tick p k).1.room ≤ 4 ∧ 0 ≤ (tick p k).1.pc ∧ (tick p k).1.pc ≤ 19 ∧ 0 ≤ (tick p k).1.what ∧ (tick p k).1.what ≤ 5 := by
    unfold tick
    rcases tick_meets hp hk (spans_ok hp) with h0 | ⟨r, ops, s, o, h0, hc, hs, ho⟩
    · rw [tick_none h0]
      simp only []
      omega
    · rw [tick_room h0 hc hs ho]
      have hr := (List.getElem?_eq_some_iff.1 hc).1
      have hcode := codeChk_ok (hp.codes ops (List.mem_of_getElem? hc))
      have hst := (stOk_iff.1 (hk.states r ops s hc hs)).1
      have hw := krDo_what ops.length r o s k
      exact ⟨by simp only []; omega, by simp only []; omega, hst.1, by simp only []; omega, hw.1, hw.2⟩
  exact ⟨by omega, by omega, by omega, by omega⟩

section
variable {k : Kst} {B : Int}
theorem run_rooms (hk : KOk runPl k B) : k.rooms.length = 2 := hk.rooms
theorem run_lines (hk : KOk runPl k B) : k.lines.length = 2 := by
  have h := hk.lines
  have h2 := congrArg List.length h
  rw [List.length_map] at h2
  exact h2
theorem wordA_ok (hk : KOk runPl k B) (v0 : List UInt8) (ns : List Nat) : KOk runPl (wordA k v0 ns).2 (B + 100) := by
  have h0 := kok_mono hk (show B ≤ B + 100 by omega)
  unfold wordA
  by_cases c1 : v0 = goW ∧ ns.length = 1
  · rw [if_pos c1]
    by_cases c2 : 100 < ns.getD 0 0
    · rw [if_pos c2]; exact h0
    · rw [if_neg c2]; exact kok_mono (goK_ok runPl_ok hk _) (by omega)
  rw [if_neg c1]
  by_cases c3 : v0 = tickW ∧ ns.length = 0
  · rw [if_pos c3]; exact kok_mono (tick_ok runPl_ok hk (spans_ok runPl_ok)) (by omega)
  rw [if_neg c3]
  by_cases c4 : v0 = showW ∧ ns.length = 1
  · rw [if_pos c4]; exact h0
  rw [if_neg c4]
  by_cases c5 : v0 = wireW ∧ ns.length = 1
  · rw [if_pos c5]; exact h0
  rw [if_neg c5]
  by_cases c6 : v0 = pokeW ∧ ns.length = 3
  · rw [if_pos c6]
    by_cases c7 : pokeOk 2 (ns.getD 0 0 : Nat) (ns.getD 1 0 : Nat) (ns.getD 2 0 : Nat) = true
    · rw [if_pos c7]; exact poke_right h0 (by rw [run_rooms hk]; exact c7)
    · rw [if_neg c7]; exact h0
  · rw [if_neg c6]; exact h0
theorem lineA_ok (hk : KOk runPl k B) (s : List UInt8) : KOk runPl (lineA k s).2 (B + 100) := by
  have h0 := kok_mono hk (show B ≤ B + 100 by omega)
  unfold lineA
  split
  · exact h0
  · split
    · exact h0
    · exact wordA_ok hk _ _
theorem room_fit (hk : KOk runPl k B) (r : Nat) : ∀ n ∈ roomNums (k.rooms.getD r St.zero), 0 ≤ n ∧ n ≤ 1000 := by
  rw [List.getD_eq_getElem?_getD]
  cases h : k.rooms[r]? with
  | none =>
    intro n hn
    rw [Option.getD_none] at hn
    have h2 : n = 0 := by simpa [roomNums, St.zero] using hn
    omega
  | some s => exact roomNums_le runPl_ok hk (List.mem_of_getElem? h)
theorem wire_fit (hk : KOk runPl k B) (hB : B ≤ 1000000) {x : Ln} (hx : x ∈ k.lines) : (∀ n ∈ x.lost :: x.items, 0 ≤ n ∧ n ≤ 1000000) ∧ x.items.length ≤ 6 := by
  have h := hk.lns x hx
  refine ⟨fun n hn => ?_, h.six⟩
  have h0 := h.lost0
  have h1 := h.lostB
  rcases List.mem_cons.1 hn with rfl | hn
  · omega
  · have := h.nums n hn; omega
theorem wordA_len (hk : KOk runPl k B) (hB : B ≤ 1000000) (v0 : List UInt8) (ns : List Nat) : (wordA k v0 ns).1.length ≤ 900 := by
  unfold wordA
  by_cases c1 : v0 = goW ∧ ns.length = 1
  · rw [if_pos c1]
    by_cases c2 : 100 < ns.getD 0 0
    · rw [if_pos c2]; exact (by decide : rangeA.length ≤ 900)
    · rw [if_neg c2]; exact (by decide : okA.length ≤ 900)
  rw [if_neg c1]
  by_cases c3 : v0 = tickW ∧ ns.length = 0
  · rw [if_pos c3]
    have h1 := ev_le (evr_right runPl_ok hk (by have := hk.timeB; omega))
    unfold evText at h1
    rw [List.length_append] at h1
    simp only []
    omega
  rw [if_neg c3]
  by_cases c4 : v0 = showW ∧ ns.length = 1
  · rw [if_pos c4]
    simp only []
    by_cases c8 : ns.getD 0 0 < 2
    · rw [if_pos c8]
      exact rowA_len (fun n hn => by have := room_fit hk (ns.getD 0 0) n hn; omega) (by simp [roomNums])
    · rw [if_neg c8]; decide
  rw [if_neg c4]
  by_cases c5 : v0 = wireW ∧ ns.length = 1
  · rw [if_pos c5]
    simp only []
    cases h : k.lines[ns.getD 0 0]? with
    | none => decide
    | some x =>
      have h1 := wire_fit hk hB (List.mem_of_getElem? h)
      exact rowA_len (fun n hn => by have := h1.1 n hn; omega) (by have := h1.2; simp only [List.length_cons]; omega)
  rw [if_neg c5]
  by_cases c6 : v0 = pokeW ∧ ns.length = 3
  · rw [if_pos c6]
    by_cases c7 : pokeOk 2 (ns.getD 0 0 : Nat) (ns.getD 1 0 : Nat) (ns.getD 2 0 : Nat) = true
    · rw [if_pos c7]; exact (by decide : okA.length ≤ 900)
    · rw [if_neg c7]; exact (by decide : rangeA.length ≤ 900)
  · rw [if_neg c6]; exact (by decide : badA.length ≤ 900)
theorem lineA_len (hk : KOk runPl k B) (hB : B ≤ 1000000) (s : List UInt8) : (lineA k s).1.length ≤ 900 := by
  unfold lineA
  split
  · exact (by decide : badA.length ≤ 900)
  · split
    · exact (by decide : badA.length ≤ 900)
    · exact wordA_len hk hB _ _
end
theorem sessK_ok : ∀ (l : List (List UInt8)) {k : Kst} {B : Int}, KOk runPl k B → KOk runPl (sessK k l) (B + 100 * l.length)
  | [], _, _, h => kok_mono h (by simp)
  | s :: l, k, B, h => kok_mono (sessK_ok l (lineA_ok h s)) (by simp only [List.length_cons]; omega)
theorem sessA_len : ∀ (l : List (List UInt8)) {k : Kst} {B : Int}, KOk runPl k B → B + 100 * l.length ≤ 1000000 → (sessA k l).length ≤ 901 * l.length
  | [], _, _, _, _ => by simp [sessA]
  | s :: l, k, B, h, hB => by
    simp only [List.length_cons] at hB ⊢
    have h1 := lineA_len h (by omega) s
    have h2 := sessA_len l (lineA_ok h s) (by omega)
    show (((lineA k s).1 ++ [10]) ++ sessA (lineA k s).2 l).length ≤ _
    rw [List.length_append, List.length_append, List.length_singleton]
    omega
theorem sessA_snoc (k : Kst) (l : List (List UInt8)) (s : List UInt8) : sessA k (l ++ [s]) = sessA k l ++ ((lineA (sessK k l) s).1 ++ [10]) := by
  rw [sessA_append]
  show _ ++ ((_ ++ [10]) ++ []) = _
  rw [List.append_nil]
theorem sessK_snoc (k : Kst) (l : List (List UInt8)) (s : List UInt8) : sessK k (l ++ [s]) = (lineA (sessK k l) s).2 := sessK_append l [s] k
/-- A text has no more lines than bytes. -/
theorem linesA_few : ∀ (t acc : List UInt8), (linesA acc t).length ≤ t.length + acc.length
  | [], acc => by
    unfold linesA
    split
    · simp
    · rename_i h
      have := List.length_pos_iff.2 h
      simp; omega
  | x :: r, acc => by
    unfold linesA
    split
    · have := linesA_few r []
      simp only [List.length_cons, List.length_nil] at this ⊢; omega
    · have := linesA_few r (acc ++ [x])
      simp only [List.length_append, List.length_cons, List.length_nil] at this ⊢; omega
theorem linesOf_few (t : List UInt8) : (linesOf t).length ≤ t.length := by have := linesA_few t []; simpa [linesOf] using this
end Go.Proofs.YthdmgighblhmhaaGreatDoor

/- run.wants: how many numbers stand behind a word. Conditions: none. -/
namespace Go.Proofs.YthdmgighblhmhaaGreatDoor
open Go.RowKit Go.Maps Go.WideMaps Go.WideShapes Go.ChangeShapes
set_option maxRecDepth 100000

/-- A store into a map's literal. -/
theorem wpList_insert_own {H : Type} {P : Program} (w : World) {ops : Array Oper} {rest : List Oper} {o : Oper} {a : Act} {Q : Exit → Act → World → Prop}
    (hg : o.guard = none) (m x v : Operand) (t : TypeId) (hop : o.op = Op.insert t m x v)
    (k e : TypeId) (K : Keyed P k) (ht : P.underlying t = some (.map k e)) (R : Value → Option (DataW H × List MemPlace)) (b n : Nat) (D : DataW H)
    (hm : a.eval m = .map (some b)) (hown : w.ownsMap P k R b n D) (hn : n < maxLen) (key val : Value) (kl : Lit) (hx : a.eval x = key) (hv : a.eval v = val) (hkey : keyOf P k key = some kl)
    (d : DataW H) (ps : List MemPlace) (hval : R val = some (d, ps))
    (hK : ∀ w', w'.ownsMap P k R b (n + 1) (D.put kl d) → w.grownBy w' (some b) → wpList P ops Q rest (a.put o.dst undef) w') :
    wpList P ops Q (o :: rest) a w := by
  refine wpList_plain hg fun K' hK' => ?_
  obtain ⟨w', hrun, r1, r2⟩ := hown.update K ht hn hkey hval
  unfold Oper.wp
  simp [execOp, hop, hm, hx, hv, hrun, Result.andThen]
  exact hK' _ _ (hK w' r1 r2)

theorem Tryz.strKeyed : Keyed Tryz.prog 9 := string_keyed Tryz.underlying9
theorem Tryz.zeroInt (w : World) : (zeroValue 3).run Tryz.prog w = .ok (.int .i64 0) w := by kernel_rfl
/-- The words and their numbers. -/
def wantsD : DataW Unit := (((((DataW.map []).put (.string goW) (.lit (.int .i64 1))).put (.string tickW) (.lit (.int .i64 0))).put (.string showW) (.lit (.int .i64 1))).put (.string wireW) (.lit (.int .i64 1))).put (.string pokeW) (.lit (.int .i64 3))
def wantOf (v : List UInt8) : Option Nat := if v = pokeW then some 3 else if v = wireW then some 1 else if v = showW then some 1 else if v = tickW then some 0 else if v = goW then some 1 else none
theorem put_isMap {H : Type} {D : DataW H} (h : IsMap D) (k : Lit) (d : DataW H) : IsMap (D.put k d) := by
  obtain ⟨es, rfl⟩ := h
  exact ⟨_, rfl⟩
theorem wants_at (v : List UInt8) : wantsD.atKey (.string v) (.lit (.int .i64 0)) = .lit (.int .i64 ((wantOf v).getD 0 : Nat)) ∧ Maps.has wantsD (.string v) = (wantOf v).isSome := by
  have m0 : IsMap (DataW.map [] : DataW Unit) := ⟨[], rfl⟩
  have m1 := put_isMap m0 (.string goW) (.lit (.int .i64 1))
  have m2 := put_isMap m1 (.string tickW) (.lit (.int .i64 0))
  have m3 := put_isMap m2 (.string showW) (.lit (.int .i64 1))
  have m4 := put_isMap m3 (.string wireW) (.lit (.int .i64 1))
  have ne : ∀ {u : List UInt8}, v ≠ u → (Lit.string v) ≠ Lit.string u := fun h e => h (Lit.string.inj e)
  unfold wantsD wantOf
  by_cases h5 : v = pokeW
  · subst h5
    rw [if_pos rfl]
    exact ⟨atKey_put_same m4 (k := .string _) trivial _ _, has_put_same m4 (k := .string _) trivial _⟩
  rw [if_neg h5, atKey_put_other (ne h5), has_put_other (ne h5)]
  by_cases h4 : v = wireW
  · subst h4
    rw [if_pos rfl]
    exact ⟨atKey_put_same m3 (k := .string _) trivial _ _, has_put_same m3 (k := .string _) trivial _⟩
  rw [if_neg h4, atKey_put_other (ne h4), has_put_other (ne h4)]
  by_cases h3 : v = showW
  · subst h3
    rw [if_pos rfl]
    exact ⟨atKey_put_same m2 (k := .string _) trivial _ _, has_put_same m2 (k := .string _) trivial _⟩
  rw [if_neg h3, atKey_put_other (ne h3), has_put_other (ne h3)]
  by_cases h2 : v = tickW
  · subst h2
    rw [if_pos rfl]
    exact ⟨atKey_put_same m1 (k := .string _) trivial _ _, has_put_same m1 (k := .string _) trivial _⟩
  rw [if_neg h2, atKey_put_other (ne h2), has_put_other (ne h2)]
  by_cases h1 : v = goW
  · subst h1
    rw [if_pos rfl]
    exact ⟨atKey_put_same m0 (k := .string _) trivial _ _, has_put_same m0 (k := .string _) trivial _⟩
  rw [if_neg h1, atKey_put_other (ne h1), has_put_other (ne h1)]
  exact ⟨rfl, rfl⟩
/-- What wants hands back: a map of its own. -/
def WantsGot (w : World) (e : Ending) (w' : World) : Prop := ∃ b, e = .returned (.map (some b)) ∧ w'.ownsMap Tryz.prog 9 (plainElem Tryz.prog 3) b 5 wantsD ∧ Below w.heap.size w w'
/-- The look-up, as a run. -/
theorem wants_look {w : World} {b : Nat} (h : w.ownsMap Tryz.prog 9 (plainElem Tryz.prog 3) b 5 wantsD) (s : ByteArray) (hs : s.size ≤ 1099511627776) :
    (Instr.lookup 124 (.map (some b)) (.string s) true).run Tryz.prog w = .ok (.tuple #[.int .i64 ((wantOf s.data.toList).getD 0 : Nat), .bool (wantOf s.data.toList).isSome]) w := by
  have hk : keyOf Tryz.prog 9 (.string s) = some (.string s.data.toList) := keyOf_string_mk Tryz.underlying9 (Nat.le_trans hs (by decide))
  obtain ⟨v, ps, hrun, hv⟩ := h.look_ok Tryz.strKeyed Tryz.underlying124 (Tryz.zeroInt w) (plainElem_int Tryz.underlying3 (by decide)) hk
  obtain ⟨h1, h2⟩ := wants_at s.data.toList
  rw [h1] at hv
  rw [h2] at hrun
  obtain ⟨a, rfl, h3, _⟩ := plainElem_int_inv Tryz.underlying3 hv
  simp only [Prod.mk.injEq, DataW.lit.injEq, Lit.int.injEq, true_and] at h3
  rw [← h3.1] at hrun
  exact hrun
set_option maxHeartbeats 4000000 in
theorem wants_any (w : World) : Calls Tryz.prog 54 #[] w (WantsGot w) := by
  have hmm := @run_makeMap Tryz.prog
  have hi : ∀ (a : Int), 0 ≤ a → a ≤ 3 → plainElem (H := Unit) Tryz.prog 3 (.int .i64 a) = some (.lit (.int .i64 a), []) := fun a h1 h2 => plainElem_int Tryz.underlying3 (by
    have : a = 0 ∨ a = 1 ∨ a = 2 ∨ a = 3 := by omega
    rcases this with rfl | rfl | rfl | rfl <;> decide)
  have hk : ∀ (s : ByteArray), s.size ≤ 10 → keyOf Tryz.prog 9 (.string s) = some (.string s.data.toList) := fun s hs => keyOf_string_mk Tryz.underlying9 (Nat.le_trans hs (by decide))
  have HM := hid (World.ownsMap_made (H := Unit) w Tryz.prog 9 (plainElem Tryz.prog 3))
  have HB := hid ((Below.refl w.heap.size w).alloc (Nat.le_refl _) (.map #[] 0))
  go_enter Tryz.func54, Tryz.ntmps54
  go_wp2_with (refine wpList_insert_own _ rfl _ _ _ 124 rfl 9 3 Tryz.strKeyed Tryz.underlying124 _ _ _ _ rfl HM.out (by decide) _ _ _ rfl rfl (hk _ (by decide)) _ [] (hi _ (by decide) (by decide)) ?_; intro w1 hown1 hgrow1; replace HM := hid hown1; replace HB := hid (HB.out.grown hgrow1 HB.out.size (fun j hj => by cases hj; exact Nat.le_refl _)); clear hown1 hgrow1)
  go_ret
  exact ⟨_, rfl, HM.out, HB.out⟩
end Go.Proofs.YthdmgighblhmhaaGreatDoor

/- Plain: which words want how many numbers, and what they are answered. No program is walked. Conditions: none. -/
namespace Go.Proofs.YthdmgighblhmhaaGreatDoor

theorem want_cases {v : List UInt8} {j : Nat} (h : wantOf v = some j) : (v = goW ∧ j = 1) ∨ (v = tickW ∧ j = 0) ∨ (v = showW ∧ j = 1) ∨ (v = wireW ∧ j = 1) ∨ (v = pokeW ∧ j = 3) := by
  unfold wantOf at h
  by_cases h5 : v = pokeW
  · rw [if_pos h5] at h; injection h with h; exact .inr (.inr (.inr (.inr ⟨h5, h.symm⟩)))
  rw [if_neg h5] at h
  by_cases h4 : v = wireW
  · rw [if_pos h4] at h; injection h with h; exact .inr (.inr (.inr (.inl ⟨h4, h.symm⟩)))
  rw [if_neg h4] at h
  by_cases h3 : v = showW
  · rw [if_pos h3] at h; injection h with h; exact .inr (.inr (.inl ⟨h3, h.symm⟩))
  rw [if_neg h3] at h
  by_cases h2 : v = tickW
  · rw [if_pos h2] at h; injection h with h; exact .inr (.inl ⟨h2, h.symm⟩)
  rw [if_neg h2] at h
  by_cases h1 : v = goW
  · rw [if_pos h1] at h; injection h with h; exact .inl ⟨h1, h.symm⟩
  rw [if_neg h1] at h; cases h
theorem want_go : wantOf goW = some 1 := by decide
theorem want_tick : wantOf tickW = some 0 := by decide
theorem want_show : wantOf showW = some 1 := by decide
theorem want_wire : wantOf wireW = some 1 := by decide
theorem want_poke : wantOf pokeW = some 3 := by decide
theorem wordA_bad {v : List UInt8} {ns : List Nat} (k : Kst) (h : wantOf v ≠ some ns.length) : wordA k v ns = (badA, k) := by
  unfold wordA
  rw [if_neg (fun e => h (by rw [e.1, e.2]; exact want_go)), if_neg (fun e => h (by rw [e.1, e.2]; exact want_tick)), if_neg (fun e => h (by rw [e.1, e.2]; exact want_show)), if_neg (fun e => h (by rw [e.1, e.2]; exact want_wire)), if_neg (fun e => h (by rw [e.1, e.2]; exact want_poke))]
theorem wordA_go (k : Kst) (a : Nat) : wordA k goW [a] = if 100 < a then (rangeA, k) else (okA, goK runPl k a) := by
  unfold wordA
  rw [if_pos ⟨rfl, rfl⟩]; rfl
theorem wordA_tick (k : Kst) : wordA k tickW [] = (evLine (tick runPl k).1, (tick runPl k).2) := by
  unfold wordA
  rw [if_neg (fun e => absurd e.1 (by decide)), if_pos ⟨rfl, rfl⟩]
theorem wordA_show (k : Kst) (a : Nat) : wordA k showW [a] = (if a < 2 then rowA (roomNums (k.rooms.getD a St.zero)) else rangeA, k) := by
  unfold wordA
  rw [if_neg (fun e => absurd e.1 (by decide)), if_neg (fun e => absurd e.1 (by decide)), if_pos ⟨rfl, rfl⟩]; rfl
theorem wordA_wire (k : Kst) (a : Nat) : wordA k wireW [a] = ((match k.lines[a]? with | some x => rowA (x.lost :: x.items) | none => rangeA), k) := by
  unfold wordA
  rw [if_neg (fun e => absurd e.1 (by decide)), if_neg (fun e => absurd e.1 (by decide)), if_neg (fun e => absurd e.1 (by decide)), if_pos ⟨rfl, rfl⟩]; rfl
theorem wordA_poke (k : Kst) (a b c : Nat) : wordA k pokeW [a, b, c] = if pokeOk 2 a b c = true then (okA, pokeK k a b c) else (rangeA, k) := by
  unfold wordA
  rw [if_neg (fun e => absurd e.1 (by decide)), if_neg (fun e => absurd e.1 (by decide)), if_neg (fun e => absurd e.1 (by decide)), if_neg (fun e => absurd e.1 (by decide)), if_pos ⟨rfl, rfl⟩]; rfl
theorem lineA_word {k : Kst} {s v0 : List UInt8} {vs : List (List UInt8)} {ns : List Nat} (h : cutA 32 [] s = v0 :: vs) (hn : numsOf 4 vs = some ns) : lineA k s = wordA k v0 ns := by
  unfold lineA
  rw [h]
  simp only [hn]
theorem lineA_none {k : Kst} {s v0 : List UInt8} {vs : List (List UInt8)} (h : cutA 32 [] s = v0 :: vs) (hn : numsOf 4 vs = none) : lineA k s = (badA, k) := by
  unfold lineA
  rw [h]
  simp only [hn]
theorem nums_lt4 : ∀ {l : List (List UInt8)} {ns : List Nat}, numsOf 4 l = some ns → ∀ n ∈ ns, n < 10000
  | [], ns, h, n, hn => by
    unfold numsOf at h
    injection h with h
    subst h; cases hn
  | s :: l, ns, h, n, hn => by
    unfold numsOf at h
    cases hs : numOf 4 s with
    | none => rw [hs] at h; cases h
    | some a =>
      rw [hs] at h
      obtain ⟨ms, h1, rfl⟩ := Option.map_eq_some_iff.1 h
      rcases List.mem_cons.1 hn with rfl | hn
      · exact numOf_lt (by decide) hs
      · exact nums_lt4 h1 n hn
end Go.Proofs.YthdmgighblhmhaaGreatDoor
