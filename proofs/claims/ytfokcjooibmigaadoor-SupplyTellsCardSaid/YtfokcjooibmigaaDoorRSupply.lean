/- The reference of chapter 14: contracts of its Turns, Least and Wait, for frames that are right. -/
import Derived.Test.YtfokcjooibmigaaDoorRFrame
import Derived.Test.YtfokcjooibmigaaDoorSupply2
namespace Go.Proofs.YtfokcjooibmigaaDoor
open Go.RowKit
set_option maxRecDepth 100000

set_option maxHeartbeats 1000000 in
theorem rturns_any (T f m : Nat) (room : Int) (A : Option Addr) (n c : Nat) (l : List Span) (w : World) (hn : l.length = n) (hs : Sl w A 3 n (l.flatMap Span.cells)) (hsw : SlW A c n) (h1 : 1 ≤ T) (h2 : T ≤ 40) (hf : f ≤ 100000) (hm : m ≤ 100000) :
    Calls Tryd.prog 43 #[.int .i64 T, .slice A n c, .int .i64 room, .int .i64 f, .int .i64 m] w (TellI w (cntH (hitB l T room) f m)) := by
  have HN := hid hn
  have HS := hid hs
  have HW := hid hsw
  clear hs hsw hn
  go_enter Tryd.func43, Tryd.ntmps43
  go_wp2_with fail
  go_loopw [11, 12] (fun v1 v2 wr => ∃ k : Nat, k ≤ m ∧ v2 = .int .i64 ((f : Int) + k) ∧ v1 = .int .i64 (cntH (hitB l T room) f k) ∧ Below w.heap.size w wr) (fun _ v2 _ => f + m - (intOf v2).toNat)
  case atStart => exact ⟨0, by omega, by go_num, rfl, Below.refl _ _⟩
  case round =>
    obtain ⟨k, hk, rfl, rfl, hb⟩ := hrel
    have HB := hid hb
    clear hb
    have hcs := cntH_succ (hitB l T room) f k
    have hle := cntH_le (hitB l T room) f k
    generalize hq : cntH (hitB l T room) f k = q at hcs hle ⊢
    have HQ := hid hq
    clear hq
    have HCS := hid hcs
    clear hcs
    by_cases hlt : k < m
    · have hlt2 : (f : Int) + k < (f : Int) + m := by omega
      have hu : hitB l T room (f + k) = decide (turnAt l (((f : Int) + k) % (T : Int)) = room) := by unfold hitB; rw [Int.natCast_add]
      by_cases hh : turnAt l (((f : Int) + k) % (T : Int)) = room
      · rw [decide_eq_true hh] at hu
        have HU := hid hu
        have HH := hid hh
        clear hu hh
        go_wp2_with (go_at_call 31; refine (rwho_any T _ A n c l _ HN.out (HS.out.new HB.out) HW.out (by omega) (by omega) (by omega) (by omega)).mono ?_; rw [HH.out]; rintro e w2 ⟨rfl, hb2⟩; have HB2 := hid hb2; clear hb2)
        go_roundw
        case rel => exact ⟨k + 1, by omega, by go_num, by rw [HCS.out, HU.out]; go_num, HB.out.trans (HB2.out.mono HB.out.size)⟩
        case measure => simp [intOf]; omega
      · rw [decide_eq_false hh] at hu
        have HU := hid hu
        obtain ⟨u, hu2⟩ : ∃ u, turnAt l (((f : Int) + k) % (T : Int)) = u := ⟨_, rfl⟩
        rw [hu2] at hh
        have hb : (u == room) = false := by simpa using hh
        have HU2 := hid hu2
        clear hu hh hu2
        go_wp2_with (go_at_call 31; refine (rwho_any T _ A n c l _ HN.out (HS.out.new HB.out) HW.out (by omega) (by omega) (by omega) (by omega)).mono ?_; rw [HU2.out]; rintro e w2 ⟨rfl, hb2⟩; have HB2 := hid hb2; clear hb2)
        go_roundw
        case rel => exact ⟨k + 1, by omega, by go_num, by rw [HCS.out, HU.out]; rfl, HB.out.trans (HB2.out.mono HB.out.size)⟩
        case measure => simp [intOf]; omega
    · obtain rfl : k = m := by omega
      have hge : ¬ (f : Int) + k < (f : Int) + k := by omega
      go_wp2_with fail
      go_ret
      exact ⟨ret_i (by rw [HQ.out]), HB.out⟩

def leastPart (h : Nat → Bool) (m r k : Nat) : Nat := (List.range k).foldl (fun n f => min n (cntH h f r)) m
theorem leastPart_succ (h : Nat → Bool) (m r k : Nat) : leastPart h m r (k + 1) = min (leastPart h m r k) (cntH h k r) := by
  unfold leastPart; rw [List.range_succ, List.foldl_append]; rfl
theorem leastPart_le (h : Nat → Bool) (m r : Nat) : ∀ k, leastPart h m r k ≤ m
  | 0 => Nat.le_refl _
  | k + 1 => by rw [leastPart_succ]; have := leastPart_le h m r k; omega
theorem leastPart_each (h : Nat → Bool) (m r : Nat) : ∀ k f, f < k → leastPart h m r k ≤ cntH h f r
  | k + 1, f, hf => by
    rw [leastPart_succ]
    by_cases e : f = k
    · subst e; omega
    · have := leastPart_each h m r k f (by omega); omega
theorem leastPart_ex (h : Nat → Bool) (m r : Nat) : ∀ k, leastPart h m r k = m ∨ ∃ f, f < k ∧ leastPart h m r k = cntH h f r
  | 0 => .inl rfl
  | k + 1 => by
    rw [leastPart_succ]
    by_cases e : cntH h k r ≤ leastPart h m r k
    · exact .inr ⟨k, by omega, by omega⟩
    · rcases leastPart_ex h m r k with h1 | ⟨f, h1, h2⟩
      · exact .inl (by omega)
      · exact .inr ⟨f, by omega, by omega⟩
theorem leastPart_all {h : Nat → Bool} {T : Nat} (hp : ∀ t, h (t + T) = h t) (hT : 0 < T) (m : Nat) : leastPart h m (m % T) T + m / T * cntH h 0 T = leastH h T m := by
  obtain ⟨f, hf, h1⟩ := leastH_ex (h := h) hT m
  have h2 := cntH_div hp f m
  have h3 := leastPart_each h m (m % T) T f hf
  rcases leastPart_ex h m (m % T) T with h4 | ⟨g, hg, h4⟩
  · have h5 := cntH_le h f (m % T)
    have h6 := Nat.mod_le m T
    have h7 : m ≤ cntH h f (m % T) := by omega
    rw [h1]
    omega
  · have h5 := cntH_div hp g m
    have h6 := leastTo_le h m T g hg
    unfold leastH at h1 ⊢
    omega

/-- Turns, by a letter. -/
theorem rturns_letter (T : Nat) (room : Int) (A : Option Addr) (n c : Nat) (l : List Span) (hn : l.length = n) (hsw : SlW A c n) (h1 : 1 ≤ T) (h2 : T ≤ 40) :
    ∃ F : Int → Int → Int, (∀ f m : Nat, F f m = cntH (hitB l T room) f m) ∧
      ∀ (f m : Int) (w : World), Sl w A 3 n (l.flatMap Span.cells) → 0 ≤ f → f ≤ 100000 → 0 ≤ m → m ≤ 100000 → Calls Tryd.prog 43 #[.int .i64 T, .slice A n c, .int .i64 room, .int .i64 f, .int .i64 m] w (TellI w (F f m)) := by
  refine ⟨fun f m => (cntH (hitB l T room) f.toNat m.toNat : Nat), fun f m => by simp, fun f m w hs f0 f1 m0 m1 => ?_⟩
  obtain ⟨f, rfl⟩ : ∃ k : Nat, f = k := ⟨f.toNat, by omega⟩
  obtain ⟨m, rfl⟩ : ∃ k : Nat, m = k := ⟨m.toNat, by omega⟩
  exact rturns_any T f m room A n c l w hn hs hsw h1 h2 (by omega) (by omega)

set_option maxHeartbeats 1000000 in
theorem rleast_any (T m : Nat) (room : Int) (A : Option Addr) (n c : Nat) (l : List Span) (w : World) (hn : l.length = n) (hs : Sl w A 3 n (l.flatMap Span.cells)) (hsw : SlW A c n) (h1 : 1 ≤ T) (h2 : T ≤ 40) (hm : m ≤ 100000) :
    Calls Tryd.prog 45 #[.int .i64 T, .slice A n c, .int .i64 room, .int .i64 m] w (TellI w (leastH (hitB l T room) T m)) := by
  have HN := hid hn
  have HS := hid hs
  have HW := hid hsw
  have hall := leastPart_all (hitB_again l T room) (show 0 < T by omega) m
  rw [← hall]
  have e1 : (m : Int).tdiv (T : Int) = ((m / T : Nat) : Int) := by rw [Int.tdiv_eq_ediv_of_nonneg (by omega)]; rfl
  have e2 : (m : Int).tmod (T : Int) = ((m % T : Nat) : Int) := by rw [Int.tmod_eq_emod_of_nonneg (by omega)]; rfl
  have hmT : m % T < T := Nat.mod_lt _ (by omega)
  have hdT : m / T ≤ m := Nat.div_le_self _ _
  have ht0 : ¬ ((T : Int) = 0) := by omega
  have ht1 : ¬ (T = 0) := by omega
  clear hs hsw hn hall
  generalize hr : m % T = r at e2 hmT ⊢
  generalize hq : m / T = q at e1 hdT ⊢
  have e5 : IntKind.i64.wrap (q : Int) = q := IntWalk.i64_in _ (by omega)
  clear hr hq
  go_enter Tryd.func45, Tryd.ntmps45
  go_wp2_with fail
  go_loopw [9, 10, 11] (fun v9 v10 v11 wr => ∃ k : Nat, k ≤ T ∧ v10 = .int .i64 k ∧ v9 = .int .i64 (leastPart (hitB l T room) m r k) ∧ Below w.heap.size w wr) (fun _ v10 _ _ => T - (intOf v10).toNat)
  case atStart => exact ⟨0, by omega, rfl, rfl, Below.refl _ _⟩
  case round =>
    obtain ⟨k, hk, rfl, rfl, hb⟩ := hrel
    have HB := hid hb
    clear hb
    have hsu := leastPart_succ (hitB l T room) m r k
    have hle := leastPart_le (hitB l T room) m r k
    have hle2 := cntH_le (hitB l T room) k r
    by_cases hlt : k < T
    · generalize hqq : leastPart (hitB l T room) m r k = x at hsu hle ⊢
      have HT := fun w hs => rturns_any T k r room A n c l w HN.out hs HW.out h1 h2 (by omega) (by omega)
      generalize hy : cntH (hitB l T room) k r = y at hsu hle2 HT
      have HT := hid HT
      have HSU := hid hsu
      clear hsu hy hqq
      by_cases hxy : y < x
      · have hmin : min x y = y := by omega
        have HMIN := hid hmin
        clear hmin
        go_wp2_with (go_at_call 43; refine (HT.out _ (HS.out.new HB.out)).mono ?_; rintro e w2 ⟨rfl, hb2⟩; have HB2 := hid hb2; clear hb2)
        go_roundw
        case rel => exact ⟨k + 1, by omega, by go_num, by rw [HSU.out, HMIN.out], HB.out.trans (HB2.out.mono HB.out.size)⟩
        case measure => simp [intOf]; omega
      · have hmin : min x y = x := by omega
        have HMIN := hid hmin
        clear hmin
        go_wp2_with (go_at_call 43; refine (HT.out _ (HS.out.new HB.out)).mono ?_; rintro e w2 ⟨rfl, hb2⟩; have HB2 := hid hb2; clear hb2)
        go_roundw
        case rel => exact ⟨k + 1, by omega, by go_num, by rw [HSU.out, HMIN.out], HB.out.trans (HB2.out.mono HB.out.size)⟩
        case measure => simp [intOf]; omega
    · obtain rfl : k = T := by omega
      have hc := cntH_le (hitB l k room) 0 k
      obtain ⟨F, hF, HF⟩ := rturns_letter k room A n c l HN.out HW.out h1 h2
      have f1 := hF 0 k
      rw [Int.natCast_zero] at f1
      have HF := hid HF
      clear hsu hle2 hF
      generalize hqq : leastPart (hitB l k room) m r k = x at hle ⊢
      generalize hyy : cntH (hitB l k room) 0 k = y at hc f1 ⊢
      have HQQ := hid hqq
      have HYY := hid hyy
      have HF1 := hid f1
      have hqy : q * y ≤ 100000 * 40 := Nat.mul_le_mul (by omega) (by omega)
      have p0 : (0 : Int) ≤ (q : Int) * (y : Int) := by rw [← Int.natCast_mul]; omega
      have p1 : (q : Int) * (y : Int) ≤ 4000000 := by rw [← Int.natCast_mul]; omega
      have e3 : IntKind.i64.wrap ((q : Int) * (y : Int)) = (q : Int) * (y : Int) := IntWalk.i64_in _ (by omega)
      have e4 : IntKind.i64.wrap ((x : Int) + (q : Int) * (y : Int)) = (x : Int) + (q : Int) * (y : Int) := IntWalk.i64_in _ (by omega)
      have hk0 : (0 : Int) ≤ (k : Int) := by omega
      have hk1 : (k : Int) ≤ 40 := by omega
      clear hqq hyy f1 hqy
      go_wp2_with fail
      go_region_held3 (fun w' => Below w.heap.size w w')
        (first | exact Below.drawn HB.out | exact Below.next (by assumption) (by assumption))
        (first | (go_at_call 43; refine (HF.out _ _ _ (HS.out.new (by assumption)) (by omega) (by omega) (by omega) (by omega)).mono ?_; rw [HF1.out]; rintro e w1 ⟨rfl, hb1⟩))
      all_goals
        go_wp2_with fail
        go_ret
        exact ⟨ret_i (by rw [HQQ.out, HYY.out]; simp [Int.natCast_add, Int.natCast_mul]), by assumption⟩
end Go.Proofs.YtfokcjooibmigaaDoor
