/- Package supply: contracts of few, turns, least, ready, Turns, Least, for every frame. -/
import Derived.Test.YthafahnlfpkkbaaGreatDoorFrameU
import Derived.Test.YthafahnlfpkkbaaGreatDoorSupplyLaw
import Derived.IntWalk
namespace Go.Proofs.YthafahnlfpkkbaaGreatDoor
open Go.RowKit
set_option maxRecDepth 100000

/-- Whose a tick is, again and again. -/
def hitB (l : List Span) (T : Nat) (room : Int) : Nat → Bool := fun t => decide (turnAt l ((t : Int) % (T : Int)) = room)
theorem hitB_again (l : List Span) (T : Nat) (room : Int) (t : Nat) : hitB l T room (t + T) = hitB l T room t := by
  unfold hitB
  have : ((t + T : Nat) : Int) % (T : Int) = (t : Int) % (T : Int) := by rw [Int.natCast_add]; exact Int.add_emod_right _ _
  rw [this]

def readyOf (ticks : Int) (l : List Span) (room : Int) : Int := if (frameChk ticks l).2 ≠ 0 then (frameChk ticks l).2 else if roomB room = false then 1 else 0
theorem readyOf_ok {ticks : Int} {l : List Span} {room : Int} (h : readyOf ticks l room = 0) : (frameChk ticks l).2 = 0 ∧ roomB room = true := by
  unfold readyOf at h
  split at h
  · rename_i h1; exact absurd h h1
  · rename_i h1
    split at h
    · simp at h
    · rename_i h2; exact ⟨by simpa using h1, by simpa using h2⟩

theorem ready_any (ticks room : Int) (A : Option Addr) (n c : Nat) (l : List Span) (w : World) (hn : l.length = n) (hs : Sl w A 3 n (l.flatMap Span.cells)) (hsw : SlW A c n) :
    Calls Tryz.prog 91 #[.int .i64 ticks, .slice A n c, .int .i64 room] w fun e w' => e = .returned (errV (readyOf ticks l room)) ∧ Below w.heap.size w w' := by
  subst hn
  have HS := hid hs
  have HW := hid hsw
  clear hs hsw
  by_cases he : (frameChk ticks l).2 = 0
  · have HE := hid he
    cases hr : roomB room with
    | false =>
      rw [show readyOf ticks l room = 1 by simp [readyOf, he, hr]]
      clear he
      go_enter Tryz.func91, Tryz.ntmps91
      go_wp2_with (first
        | (go_at_call 116; refine (frame_right ticks A c l _ HS.out HW.out).mono ?_; rw [HE.out]; rintro e w1 ⟨rfl, hb1⟩; rw [errV_zero])
        | (go_at_call 136; refine (room_any _ _).mono ?_; rw [hr]; rintro e w2 ⟨rfl, rfl⟩))
      go_ret
      exact ⟨rfl, hb1⟩
    | true =>
      rw [show readyOf ticks l room = 0 by simp [readyOf, he, hr]]
      clear he
      go_enter Tryz.func91, Tryz.ntmps91
      go_wp2_with (first
        | (go_at_call 116; refine (frame_right ticks A c l _ HS.out HW.out).mono ?_; rw [HE.out]; rintro e w1 ⟨rfl, hb1⟩; rw [errV_zero])
        | (go_at_call 136; refine (room_any _ _).mono ?_; rw [hr]; rintro e w2 ⟨rfl, rfl⟩))
      go_ret
      exact ⟨rfl, hb1⟩
  · rw [show readyOf ticks l room = (frameChk ticks l).2 by simp [readyOf, he]]
    have hv := errV_pos he
    have HV := hid hv
    clear he hv
    go_enter Tryz.func91, Tryz.ntmps91
    go_wp2_with (go_at_call 116; refine (frame_right ticks A c l _ HS.out HW.out).mono ?_; rw [HV.out]; rintro e w1 ⟨rfl, hb1⟩)
    go_ret
    exact ⟨by rw [HV.out]; rfl, hb1⟩

def TellI (w : World) (v : Int) (e : Ending) (w' : World) : Prop := e = .returned (.int .i64 v) ∧ Below w.heap.size w w'

set_option maxHeartbeats 1000000 in
theorem few_any (T f m : Nat) (room : Int) (A : Option Addr) (n c : Nat) (l : List Span) (w : World) (hn : l.length = n) (hs : Sl w A 3 n (l.flatMap Span.cells)) (hsw : SlW A c n) (h1 : 1 ≤ T) (h2 : T ≤ 40) (hf : f ≤ 100000) (hm : m ≤ 100000) :
    Calls Tryz.prog 137 #[.int .i64 T, .slice A n c, .int .i64 room, .int .i64 f, .int .i64 m] w (TellI w (cntH (hitB l T room) f m)) := by
  subst hn
  have HS := hid hs
  have HW := hid hsw
  clear hs hsw
  go_enter Tryz.func137, Tryz.ntmps137
  go_wp2_with fail
  go_loopw [11, 12] (fun v1 v2 wr => ∃ k : Nat, k ≤ m ∧ v2 = .int .i64 ((f : Int) + k) ∧ v1 = .int .i64 (cntH (hitB l T room) f k) ∧ Below w.heap.size w wr) (fun _ v2 _ => f + m - (intOf v2).toNat)
  case atStart => exact ⟨0, by omega, by go_num, rfl, Below.refl _ _⟩
  case round =>
    obtain ⟨k, hk, rfl, rfl, hb⟩ := hrel
    have HB := hid hb
    clear hb
    have hcs := cntH_succ (hitB l T room) f k
    have hle := cntH_le (hitB l T room) f k
    generalize hq : cntH (hitB l T room) f k = q at hcs hle ⊢
    have HQ := hid hq
    clear hq
    have HCS := hid hcs
    clear hcs
    by_cases hlt : k < m
    · have hlt2 : (f : Int) + k < (f : Int) + m := by omega
      have hu : hitB l T room (f + k) = decide (turnAt l (((f : Int) + k) % (T : Int)) = room) := by unfold hitB; rw [Int.natCast_add]
      by_cases hh : turnAt l (((f : Int) + k) % (T : Int)) = room
      · rw [decide_eq_true hh] at hu
        have HU := hid hu
        have HH := hid hh
        clear hu hh
        go_wp2_with (go_at_call 138; refine (turn_any T _ A c l _ (HS.out.new HB.out) HW.out (by omega) (by omega) (by omega) (by omega)).mono ?_; rw [HH.out]; rintro e w2 ⟨rfl, hb2⟩; have HB2 := hid hb2; clear hb2)
        go_roundw
        case rel => exact ⟨k + 1, by omega, by go_num, by rw [HCS.out, HU.out]; go_num, HB.out.trans (HB2.out.mono HB.out.size)⟩
        case measure => simp [intOf]; omega
      · rw [decide_eq_false hh] at hu
        have HU := hid hu
        obtain ⟨u, hu2⟩ : ∃ u, turnAt l (((f : Int) + k) % (T : Int)) = u := ⟨_, rfl⟩
        rw [hu2] at hh
        have hb : (u == room) = false := by simpa using hh
        have HU2 := hid hu2
        clear hu hh hu2
        go_wp2_with (go_at_call 138; refine (turn_any T _ A c l _ (HS.out.new HB.out) HW.out (by omega) (by omega) (by omega) (by omega)).mono ?_; rw [HU2.out]; rintro e w2 ⟨rfl, hb2⟩; have HB2 := hid hb2; clear hb2)
        go_roundw
        case rel => exact ⟨k + 1, by omega, by go_num, by rw [HCS.out, HU.out]; rfl, HB.out.trans (HB2.out.mono HB.out.size)⟩
        case measure => simp [intOf]; omega
    · obtain rfl : k = m := by omega
      have hge : ¬ (f : Int) + k < (f : Int) + k := by omega
      go_wp2_with fail
      go_ret
      exact ⟨ret_i (by rw [HQ.out]), HB.out⟩

theorem Below.next {w a b : World} (h : Below w.heap.size w a) (k : Below a.heap.size a b) : Below w.heap.size w b := h.trans (k.mono h.size)
theorem Below.drawn {w a : World} {B : Nat} (h : Below B w a) : Below B w a.drew := ⟨h.os, h.tape, h.output, h.size, h.block⟩

/-- Few turns, by a letter. -/
theorem few_letter (T : Nat) (room : Int) (A : Option Addr) (n c : Nat) (l : List Span) (hn : l.length = n) (hsw : SlW A c n) (h1 : 1 ≤ T) (h2 : T ≤ 40) :
    ∃ F : Int → Int → Int, (∀ f m : Nat, F f m = cntH (hitB l T room) f m) ∧
      ∀ (f m : Int) (w : World), Sl w A 3 n (l.flatMap Span.cells) → 0 ≤ f → f ≤ 100000 → 0 ≤ m → m ≤ 100000 → Calls Tryz.prog 137 #[.int .i64 T, .slice A n c, .int .i64 room, .int .i64 f, .int .i64 m] w (TellI w (F f m)) := by
  refine ⟨fun f m => (cntH (hitB l T room) f.toNat m.toNat : Nat), fun f m => by simp, fun f m w hs f0 f1 m0 m1 => ?_⟩
  obtain ⟨f, rfl⟩ : ∃ k : Nat, f = k := ⟨f.toNat, by omega⟩
  obtain ⟨m, rfl⟩ : ∃ k : Nat, m = k := ⟨m.toNat, by omega⟩
  exact few_any T f m room A n c l w hn hs hsw h1 h2 (by omega) (by omega)

set_option maxHeartbeats 400000 in
theorem turns_any (T f m : Nat) (room : Int) (A : Option Addr) (n c : Nat) (l : List Span) (w : World) (hn : l.length = n) (hs : Sl w A 3 n (l.flatMap Span.cells)) (hsw : SlW A c n) (h1 : 1 ≤ T) (h2 : T ≤ 40) (hf : f ≤ 100000) (hm : m ≤ 100000) :
    Calls Tryz.prog 92 #[.int .i64 T, .slice A n c, .int .i64 room, .int .i64 f, .int .i64 m] w (TellI w (cntH (hitB l T room) f m)) := by
  have hdiv := cntH_div (hitB_again l T room) f m
  have hle1 := cntH_le (hitB l T room) 0 T
  have hle2 := cntH_le (hitB l T room) f (m % T)
  have hmT : m % T < T := Nat.mod_lt _ (by omega)
  have hdT : m / T ≤ m := Nat.div_le_self _ _
  have e1 : (m : Int).tdiv (T : Int) = ((m / T : Nat) : Int) := by rw [Int.tdiv_eq_ediv_of_nonneg (by omega)]; rfl
  have e2 : (m : Int).tmod (T : Int) = ((m % T : Nat) : Int) := by rw [Int.tmod_eq_emod_of_nonneg (by omega)]; rfl
  obtain ⟨F, hF, HF⟩ := few_letter T room A n c l hn hsw h1 h2
  have f1 := hF 0 T
  have f2 := hF f (m % T)
  rw [Int.natCast_zero] at f1
  have HS := hid hs
  clear hs hsw hn hF
  generalize cntH (hitB l T room) 0 T = x at hdiv hle1 f1
  generalize cntH (hitB l T room) f (m % T) = y at hdiv hle2 f2
  generalize m / T = q at hdiv hdT e1
  generalize m % T = r at hmT hle2 e2 f2
  have hqx : q * x ≤ 100000 * 40 := Nat.mul_le_mul (by omega) (by omega)
  have p0 : (0 : Int) ≤ (q : Int) * (x : Int) := by rw [← Int.natCast_mul]; omega
  have p1 : (q : Int) * (x : Int) ≤ 4000000 := by rw [← Int.natCast_mul]; omega
  rw [← hdiv, Int.natCast_add, Int.natCast_mul]
  have b1 : (1 : Int) ≤ T := by omega
  have b2 : (T : Int) ≤ 40 := by omega
  have b3 : (0 : Int) ≤ m := by omega
  have b4 : (m : Int) ≤ 100000 := by omega
  have b5 : (0 : Int) ≤ q := by omega
  have b6 : (q : Int) ≤ 100000 := by omega
  have b7 : (0 : Int) ≤ x := by omega
  have b8 : (x : Int) ≤ 40 := by omega
  have b9 : (0 : Int) ≤ y := by omega
  have b10 : (y : Int) ≤ 40 := by omega
  have b11 : (0 : Int) ≤ f := by omega
  have b12 : (f : Int) ≤ 100000 := by omega
  have b13 : (0 : Int) ≤ r := by omega
  have b14 : (r : Int) ≤ 40 := by omega
  clear hdiv hle1 hle2 hmT hdT hqx h1 h2 hf hm
  generalize (T : Int) = T at *
  generalize (m : Int) = m at *
  generalize (f : Int) = f at *
  generalize (q : Int) = q at *
  generalize (x : Int) = x at *
  generalize (y : Int) = y at *
  generalize (r : Int) = r at *
  have HF := hid HF
  have ht0 : ¬ (T = 0) := by omega
  have e3 : IntKind.i64.wrap (q * x) = q * x := IntWalk.i64_in _ (by omega)
  have e4 : IntKind.i64.wrap (q * x + y) = q * x + y := IntWalk.i64_in _ (by omega)
  have e5 : IntKind.i64.wrap q = q := IntWalk.i64_in _ (by omega)
  have HF1 := hid f1
  have HF2 := hid f2
  clear f1 f2
  go_enter Tryz.func92, Tryz.ntmps92
  go_wp2_with fail
  go_region_held3 (fun w' => Below w.heap.size w w')
    (first | exact Below.drawn (Below.refl _ _) | exact Below.next (by assumption) (by assumption))
    (first | (go_at_call 137; refine (HF.out _ _ _ (HS.out.new (by assumption)) (by omega) (by omega) (by omega) (by omega)).mono ?_; (first | rw [HF1.out] | rw [HF2.out]); rintro e w1 ⟨rfl, hb1⟩))
  all_goals
    go_wp2_with fail
    go_ret
    exact ⟨rfl, by assumption⟩

set_option maxHeartbeats 1000000 in
theorem least_any (T m : Nat) (room : Int) (A : Option Addr) (n c : Nat) (l : List Span) (w : World) (hn : l.length = n) (hs : Sl w A 3 n (l.flatMap Span.cells)) (hsw : SlW A c n) (h1 : 1 ≤ T) (h2 : T ≤ 40) (hm : m ≤ 100000) :
    Calls Tryz.prog 93 #[.int .i64 T, .slice A n c, .int .i64 room, .int .i64 m] w (TellI w (leastH (hitB l T room) T m)) := by
  have HN := hid hn
  have HS := hid hs
  have HW := hid hsw
  clear hs hsw hn
  go_enter Tryz.func93, Tryz.ntmps93
  go_wp2_with fail
  go_loopw [9, 10, 13] (fun v9 v10 v13 wr => ∃ k : Nat, k ≤ T ∧ v13 = .int .i64 k ∧ v9 = .int .i64 (leastTo (hitB l T room) m k) ∧ Below w.heap.size w wr) (fun _ _ v13 _ => T - (intOf v13).toNat)
  case atStart => exact ⟨0, by omega, rfl, rfl, Below.refl _ _⟩
  case round =>
    obtain ⟨k, hk, rfl, rfl, hb⟩ := hrel
    have HB := hid hb
    clear hb
    have hsu := leastTo_succ (hitB l T room) m k
    have hle := leastTo_m (hitB l T room) m k
    have hle2 := cntH_le (hitB l T room) k m
    generalize hq : leastTo (hitB l T room) m k = q at hsu hle ⊢
    have HQ := hid hq
    clear hq
    by_cases hlt : k < T
    · have HT := fun w hs => turns_any T k m room A n c l w HN.out hs HW.out h1 h2 (by omega) hm
      generalize hy : cntH (hitB l T room) k m = y at hsu hle2 HT
      have HT := hid HT
      have HSU := hid hsu
      have hmin : ((min q y : Nat) : Int) = min (q : Int) (y : Int) := by omega
      have HMIN := hid hmin
      clear hsu hmin hy
      go_wp2_with (go_at_call 92; refine (HT.out _ (HS.out.new HB.out)).mono ?_; rintro e w2 ⟨rfl, hb2⟩; have HB2 := hid hb2; clear hb2)
      all_goals
        go_roundw
        case rel => exact ⟨k + 1, by omega, by go_num, by rw [HSU.out, HMIN.out]; first | rfl | (congr 1; omega), HB.out.trans (HB2.out.mono HB.out.size)⟩
        case measure => simp [intOf]; omega
    · obtain rfl : k = T := by omega
      clear hsu hle2
      go_wp2_with fail
      go_ret
      exact ⟨ret_i (by rw [← HQ.out]; rfl), HB.out⟩

def supTurnsOf (ticks : Int) (l : List Span) (room f m : Int) : Int × Int :=
  if readyOf ticks l room ≠ 0 then (0, readyOf ticks l room) else if 0 ≤ f ∧ f ≤ 2000 ∧ 0 ≤ m ∧ m ≤ 2000 then ((cntH (hitB l ticks.toNat room) f.toNat m.toNat : Nat), 0) else (0, 1)
def supLeastOf (ticks : Int) (l : List Span) (room m : Int) : Int × Int :=
  if readyOf ticks l room ≠ 0 then (0, readyOf ticks l room) else if 0 ≤ m ∧ m ≤ 2000 then ((leastH (hitB l ticks.toNat room) ticks.toNat m.toNat : Nat), 0) else (0, 1)

end Go.Proofs.YthafahnlfpkkbaaGreatDoor
