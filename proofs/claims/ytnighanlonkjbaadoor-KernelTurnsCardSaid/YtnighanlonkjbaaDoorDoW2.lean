/- Package room: the contracts of Do, for any op, and of Step. -/
import Derived.Test.YtnighanlonkjbaaDoorDoW
namespace Go.Proofs.YtnighanlonkjbaaDoor
open Go.RowKit
set_option maxRecDepth 100000

set_option maxHeartbeats 1000000 in
theorem do_failed (A : Option Addr) (n c : Nat) (pc c0 c1 c2 c3 c4 c5 : Int) (got : Int) (is : Bool) (w : World) :
    Calls Tryd.prog 57 #[.slice A n c, .agg #[.int .i64 pc, .int .i64 c0, .int .i64 c1, .int .i64 c2, .int .i64 c3, .int .i64 c4, .int .i64 c5, .bool true], .int .i64 got, .bool is] w
      (DoneV w ⟨pc, c0, c1, c2, c3, c4, c5, true⟩ (-1)) := by
  go_enter Tryd.func57, Tryd.ntmps57
  go_wp2_with fail
  refine bodyPost_ret (v := .tuple #[.agg (stV ⟨pc, c0, c1, c2, c3, c4, c5, true⟩), .int .i64 (-1)]) (by simp [results, Tryd.results57, go_sem, stV]) rfl ?_
  exact ⟨rfl, by repeat (first | exact Below.refl _ _ | refine Below.setCell ?_ (by simp) _ | refine Below.alloc ?_ (by simp) _)⟩

theorem do_any (ob off n c k : Nat) (s : St) (o : Op) (got : Int) (is : Bool) (w : World) (hk : s.pc = k) (hst : stOk s n = true) (hop : opOk o n = true) (hh : DoHyp w ob off n k o.what o.a o.b) :
    Calls Tryd.prog 57 #[.slice (some ⟨ob, off, none⟩) n c, .agg #[.int .i64 s.pc, .int .i64 s.c0, .int .i64 s.c1, .int .i64 s.c2, .int .i64 s.c3, .int .i64 s.c4, .int .i64 s.c5, .bool s.failed], .int .i64 got, .bool is] w
      (DoneV w (stepDo n o s got is).1 (stepDo n o s got is).2) := by
  obtain ⟨pc, c0, c1, c2, c3, c4, c5, f⟩ := s
  simp only [] at hk
  subst hk
  have hcell := (stOk_iff.1 hst).2
  cases f with
  | true => exact do_failed _ n c k c0 c1 c2 c3 c4 c5 got is w
  | false =>
    obtain ⟨what, a, b⟩ := o
    have ha := opOk_a hop
    have hwh := opOk_iff.1 hop
    have hb6 := opOk_b6 hop
    simp only [] at hh ha hb6 hwh
    obtain ⟨ha0, ha6⟩ := ha
    obtain ⟨h1, h2, _⟩ := hwh
    have h11 : what = 1 ∨ what = 2 ∨ what = 3 ∨ what = 4 ∨ what = 5 ∨ what = 6 ∨ what = 7 ∨ what = 8 ∨ what = 9 ∨ what = 10 ∨ what = 11 := by omega
    obtain ⟨a', rfl⟩ : ∃ a' : Nat, a = a' := ⟨a.toNat, by omega⟩
    have ha6' : a' < 6 := by omega
    have hca := hcell a' ha6'
    unfold stepDo
    simp only [Int.toNat_natCast]
    rcases h11 with rfl | rfl | rfl | rfl | rfl | rfl | rfl | rfl | rfl | rfl | rfl
    · exact do_set ob off n c k c0 c1 c2 c3 c4 c5 got a' b is w ha6' hh
    · obtain ⟨hb0, hb6⟩ := hb6 (by omega)
      obtain ⟨b', rfl⟩ : ∃ b' : Nat, b = b' := ⟨b.toNat, by omega⟩
      exact do_copy ob off n c k c0 c1 c2 c3 c4 c5 got a' b' _ is w ha6' (by omega) rfl hh
    · obtain ⟨hb0, hb6⟩ := hb6 (by omega)
      obtain ⟨b', rfl⟩ : ∃ b' : Nat, b = b' := ⟨b.toNat, by omega⟩
      exact do_add ob off n c k c0 c1 c2 c3 c4 c5 got a' b' _ _ _ is w ha6' (by omega) rfl rfl hca (hcell b' (by omega)) rfl hh
    · obtain ⟨hb0, hb6⟩ := hb6 (by omega)
      obtain ⟨b', rfl⟩ : ∃ b' : Nat, b = b' := ⟨b.toNat, by omega⟩
      exact do_sub ob off n c k c0 c1 c2 c3 c4 c5 got a' b' _ _ _ is w ha6' (by omega) rfl rfl hca (hcell b' (by omega)) rfl hh
    · obtain ⟨hb0, hb6⟩ := hb6 (by omega)
      obtain ⟨b', rfl⟩ : ∃ b' : Nat, b = b' := ⟨b.toNat, by omega⟩
      exact do_mul ob off n c k c0 c1 c2 c3 c4 c5 got a' b' _ _ _ is w ha6' (by omega) rfl rfl hca (hcell b' (by omega)) rfl hh
    · by_cases h0 : (⟨k, c0, c1, c2, c3, c4, c5, false⟩ : St).get a' = 0
      · simp only [h0]
        exact do_zero ob off n c k c0 c1 c2 c3 c4 c5 got a' b is w ha6' h0 hh
      · simp only [if_neg h0]
        exact do_nonzero ob off n c k c0 c1 c2 c3 c4 c5 got a' b _ is w ha6' rfl (by simpa using h0) hh
    · exact do_jump ob off n c k c0 c1 c2 c3 c4 c5 got a' b is w hh
    · exact do_send ob off n c k c0 c1 c2 c3 c4 c5 got a' b _ is w ha6' rfl hh
    · cases is with
      | true => exact do_take ob off n c k c0 c1 c2 c3 c4 c5 got a' b w ha6' hh
      | false => exact do_wait ob off n c k c0 c1 c2 c3 c4 c5 got a' b w hh
    · exact do_rest ob off n c k c0 c1 c2 c3 c4 c5 got a' b is w hh
    · exact do_fail ob off n c k c0 c1 c2 c3 c4 c5 got a' b is w hh

/-- A step of a room: the state, what is sent, the fault. -/
def stepOf (l : List Op) (s : St) (got : Int) (is : Bool) : (St × Int) × Int :=
  if roomChk l s ≠ 0 then ((St.zero, 0), roomChk l s) else if is = true ∧ cellB got = false then ((St.zero, 0), 1)
  else match l[s.pc.toNat]? with
    | some o => (stepDo l.length o s got is, 0)
    | none => ((St.zero, 0), 0)
def StepV (w : World) (r : (St × Int) × Int) (e : Ending) (w' : World) : Prop := e = .returned (.tuple #[.agg (stV r.1.1), .int .i64 r.1.2, errV r.2]) ∧ Below w.heap.size w w'

theorem two_at (w : World) (pc c0 c1 c2 c3 c4 c5 : Int) (f : Bool) :
    ((w.alloc (.cells #[.int .i64 pc, .int .i64 c0, .int .i64 c1, .int .i64 c2, .int .i64 c3, .int .i64 c4, .int .i64 c5, .bool f] 25)).alloc (.cells #[.int .i64 0, .int .i64 0, .int .i64 0, .int .i64 0, .int .i64 0, .int .i64 0, .int .i64 0, .bool false] 25)).heap.size = w.heap.size + 2 ∧
    DoEnd w ((w.alloc (.cells #[.int .i64 pc, .int .i64 c0, .int .i64 c1, .int .i64 c2, .int .i64 c3, .int .i64 c4, .int .i64 c5, .bool f] 25)).alloc (.cells #[.int .i64 0, .int .i64 0, .int .i64 0, .int .i64 0, .int .i64 0, .int .i64 0, .int .i64 0, .bool false] 25)) ⟨pc, c0, c1, c2, c3, c4, c5, f⟩ := by
  refine ⟨by simp, ?_, ?_, ((Below.refl _ _).alloc (by simp) _).alloc (by simp) _⟩
  · rw [hp_alloc, if_neg (by simp), hp_alloc, if_pos rfl]; rfl
  · rw [hp_alloc, if_pos (by simp)]; rfl
theorem DoEnd.new {w wy wz : World} {t : St} (h : DoEnd w wy t) (hb : Below wy.heap.size wy wz) : DoEnd w wz t := ⟨(hb.block _ (blk_lt h.b0)).trans h.b0, (hb.block _ (blk_lt h.b1)).trans h.b1, h.below.trans (hb.mono h.below.size)⟩
theorem DoEnd.set {w wy : World} {s : St} (h : DoEnd w wy s) (t : St) : DoEnd w (put8 wy w.heap.size t) t := by
  refine ⟨put8_heap h.b0, ?_, (put8_keep (Keep.of_below NoF h.below) (.inr (Nat.le_refl _)) _).below (Nat.le_refl _) (fun _ h => h.elim)⟩
  unfold put8
  simp only [hp_set]
  rw [if_neg (by omega), if_neg (by omega), if_neg (by omega), if_neg (by omega), if_neg (by omega), if_neg (by omega), if_neg (by omega), if_neg (by omega)]
  exact h.b1
theorem DoEnd.ret {w wy : World} {s : St} (h : DoEnd w wy s) (t : St) : StAt (put8 wy (w.heap.size + 1) t) (w.heap.size + 1) t ∧ Below w.heap.size w (put8 wy (w.heap.size + 1) t) :=
  ⟨stAt (put8_heap h.b1), (put8_keep (Keep.of_below NoF h.below) (.inr (by omega)) _).below (Nat.le_refl _) (fun _ h => h.elim)⟩

set_option maxHeartbeats 2000000 in
theorem room_step (A : Option Addr) (c : Nat) (l : List Op) (s : St) (got : Int) (is : Bool) (w : World) (hf : Forms w) (hs : Sl w A 3 l.length (l.flatMap Op.cells)) (hsw : SlW A c l.length) :
    Calls Tryd.prog 15 #[.slice A l.length c, .agg #[.int .i64 s.pc, .int .i64 s.c0, .int .i64 s.c1, .int .i64 s.c2, .int .i64 s.c3, .int .i64 s.c4, .int .i64 s.c5, .bool s.failed], .int .i64 got, .bool is] w
      (StepV w (stepOf l s got is)) := by
  have HCK : Hid (∀ w', Below w.heap.size w w' → Calls Tryd.prog 16 #[.slice A l.length c, .agg #[.int .i64 s.pc, .int .i64 s.c0, .int .i64 s.c1, .int .i64 s.c2, .int .i64 s.c3, .int .i64 s.c4, .int .i64 s.c5, .bool s.failed]] w' fun e w'' => e = .returned (errV (roomChk l s)) ∧ Below w'.heap.size w' w'') :=
    fun w' hb => room_check A c l s w' (hf.new hb) (hs.new hb) hsw
  unfold stepOf
  by_cases he : roomChk l s = 0
  · rw [if_neg (by simpa using he)]
    rw [he, errV_zero] at HCK
    by_cases hg : is = true ∧ cellB got = false
    · rw [if_pos hg]
      obtain ⟨rfl, hg⟩ := hg
      obtain ⟨pc, c0, c1, c2, c3, c4, c5, f⟩ := s
      simp only [] at HCK ⊢
      obtain ⟨hsz, hx⟩ := two_at w pc c0 c1 c2 c3 c4 c5 f
      have HG : Hid (cellB got = false) := hg
      obtain ⟨n, hn⟩ : ∃ n, n = l.length := ⟨_, rfl⟩
      rw [← hn] at HCK ⊢
      clear hs hsw he hg hf hn
      go_enter Tryd.func15, Tryd.ntmps15
      go_upto_region 1 with fail
      obtain ⟨w0, hw0⟩ : ∃ w0, w0 = ((w.alloc (.cells #[.int .i64 pc, .int .i64 c0, .int .i64 c1, .int .i64 c2, .int .i64 c3, .int .i64 c4, .int .i64 c5, .bool f] 25)).alloc (.cells #[.int .i64 0, .int .i64 0, .int .i64 0, .int .i64 0, .int .i64 0, .int .i64 0, .int .i64 0, .bool false] 25)) := ⟨_, rfl⟩
      rw [← hw0] at hx hsz ⊢
      have HX := hid hx
      obtain ⟨⟨p0, p1, p2, p3, p4, p5, p6, p7⟩, p8, ⟨r0, r1, r2, r3, r4, r5, r6, r7⟩, p10⟩ := hx.facts
      clear hw0 hsz hx
      go_upto_region 4 with (go_at_call 16; refine (HCK.out _ HX.out.below).mono ?_; rintro e w1 ⟨rfl, hb1⟩; have HY := hid (HX.out.new hb1); clear hb1)
      obtain ⟨_, _, ⟨s0, s1, s2, s3, s4, s5, s6, s7⟩, s10⟩ := HY.out.facts
      go_wp2_with (go_at_call 56; refine (rright_any got _).mono ?_; rw [HG.out]; rintro e w1 ⟨rfl, rfl⟩)
      have hz := HY.out.ret St.zero
      obtain ⟨wz, hwz⟩ : ∃ wz, wz = put8 w1 (w.heap.size + 1) St.zero := ⟨_, rfl⟩
      rw [← hwz] at hz
      unfold put8 St.zero at hwz
      simp only [] at hwz
      rw [← hwz]
      obtain ⟨⟨z0, z1, z2, z3, z4, z5, z6, z7⟩, zb⟩ := hz
      simp only [St.zero] at z0 z1 z2 z3 z4 z5 z6 z7
      refine bodyPost_ret (v := .tuple #[.agg (stV St.zero), .int .i64 0, errV 1]) (by simp [results, Tryd.results15, go_sem, stV, St.zero, errV, z0, z1, z2, z3, z4, z5, z6, z7]) rfl ?_
      exact ⟨rfl, zb⟩
    · rw [if_neg hg]
      have hgc : is = true → cellB got = true := fun h => by cases hc : cellB got with | true => rfl | false => exact absurd ⟨h, hc⟩ hg
      have hchk : (codeChk l).2 = 0 ∧ stOk s l.length = true := by
        unfold roomChk at he
        by_cases h1 : (codeChk l).2 = 0
        · rw [if_neg (by simpa using h1)] at he
          refine ⟨h1, ?_⟩
          cases h2 : stOk s l.length with
          | true => rfl
          | false => rw [h2] at he; simp at he
        · rw [if_pos h1] at he; exact absurd he h1
      obtain ⟨hcode, hst⟩ := hchk
      obtain ⟨hl1, hl20, hops⟩ := codeChk_ok hcode
      have hpc := (stOk_iff.1 hst).1
      obtain ⟨k, hk⟩ : ∃ k : Nat, s.pc = k := ⟨s.pc.toNat, by omega⟩
      have hkl : k < l.length := by omega
      have hget := List.getElem?_eq_getElem hkl
      have hop := hops _ (List.getElem_mem hkl)
      obtain ⟨ob, off, rfl, hlb, g0, g1, g2⟩ := hs.op (Below.refl _ _) hkl hkl
      generalize l[k] = o at hget hop g0 g1 g2
      rw [hk, Int.toNat_natCast, hget]
      simp only []
      have HDO : Hid (∀ w', Below w.heap.size w w' → Calls Tryd.prog 57 #[.slice (some ⟨ob, off, none⟩) l.length c, .agg #[.int .i64 k, .int .i64 s.c0, .int .i64 s.c1, .int .i64 s.c2, .int .i64 s.c3, .int .i64 s.c4, .int .i64 s.c5, .bool s.failed], .int .i64 got, .bool is] w'
          (DoneV w' (stepDo l.length o s got is).1 (stepDo l.length o s got is).2)) := fun w' hb => by
        have hkc := fun x => hb.cell (p := ⟨ob, x, none⟩) hlb
        have h := do_any ob off l.length c k s o got is w' hk hst hop ⟨hkl, hl20, by rw [hkc]; exact g0, by rw [hkc]; exact g1, by rw [hkc]; exact g2⟩
        rw [hk] at h
        exact h
      rw [hk] at HCK
      have HG := hid hgc
      generalize stepDo l.length o s got is = q at HDO ⊢
      obtain ⟨t, out⟩ := q
      obtain ⟨n, hn⟩ : ∃ n, n = l.length := ⟨_, rfl⟩
      rw [← hn] at HCK HDO ⊢
      simp only [] at HDO
      obtain ⟨pc, c0, c1, c2, c3, c4, c5, f⟩ := s
      simp only [] at HCK HDO hk ⊢
      subst hk
      have HTW := two_at w k c0 c1 c2 c3 c4 c5 f
      clear hs hsw he hg hf hn hcode hst hl1 hl20 hops hpc hkl hget hop hlb g0 g1 g2 hgc
      cases is with
      | true =>
        have hgt : cellB got = true := HG.out rfl
        have HGT := hid hgt
        clear hgt HG
        obtain ⟨hsz, hx⟩ := HTW
        go_enter Tryd.func15, Tryd.ntmps15
        go_upto_region 1 with fail
        obtain ⟨w0, hw0⟩ : ∃ w0, w0 = ((w.alloc (.cells #[.int .i64 k, .int .i64 c0, .int .i64 c1, .int .i64 c2, .int .i64 c3, .int .i64 c4, .int .i64 c5, .bool f] 25)).alloc (.cells #[.int .i64 0, .int .i64 0, .int .i64 0, .int .i64 0, .int .i64 0, .int .i64 0, .int .i64 0, .bool false] 25)) := ⟨_, rfl⟩
        rw [← hw0] at hx hsz ⊢
        have HX := hid hx
        obtain ⟨⟨p0, p1, p2, p3, p4, p5, p6, p7⟩, p8, ⟨r0, r1, r2, r3, r4, r5, r6, r7⟩, p10⟩ := hx.facts
        clear hw0 hsz hx
        go_upto_region 4 with (go_at_call 16; refine (HCK.out _ HX.out.below).mono ?_; rintro e w1 ⟨rfl, hb1⟩; have HY := hid (HX.out.new hb1); clear hb1)
        clear p0 p1 p2 p3 p4 p5 p6 p7 p8 r0 r1 r2 r3 r4 r5 r6 r7 p10
        obtain ⟨⟨p0, p1, p2, p3, p4, p5, p6, p7⟩, p8, ⟨r0, r1, r2, r3, r4, r5, r6, r7⟩, p10⟩ := HY.out.facts
        go_upto_region 6 with (go_at_call 56; refine (rright_any got _).mono ?_; rw [HGT.out]; rintro e w2 ⟨rfl, rfl⟩)
        go_wp2_with fail
        refine (HDO.out _ HY.out.below).mono ?_
        rintro e w2 ⟨rfl, hb2⟩
        have HV := hid (HY.out.new hb2)
        clear hb2 p0 p1 p2 p3 p4 p5 p6 p7 p8 r0 r1 r2 r3 r4 r5 r6 r7 p10
        obtain ⟨⟨p0, p1, p2, p3, p4, p5, p6, p7⟩, p8, ⟨r0, r1, r2, r3, r4, r5, r6, r7⟩, p10⟩ := HV.out.facts
        unfold stV
        go_upto_region 7 with fail
        have hy := HV.out.set t
        obtain ⟨wy, hwy⟩ : ∃ wy, wy = put8 w2 w.heap.size t := ⟨_, rfl⟩
        rw [← hwy] at hy
        unfold put8 at hwy
        rw [← hwy]
        have HYY := hid hy
        clear hwy p0 p1 p2 p3 p4 p5 p6 p7 p8 r0 r1 r2 r3 r4 r5 r6 r7 p10
        obtain ⟨⟨p0, p1, p2, p3, p4, p5, p6, p7⟩, p8, ⟨r0, r1, r2, r3, r4, r5, r6, r7⟩, p10⟩ := hy.facts
        clear hy
        go_wp2_with fail
        have hz := HYY.out.ret t
        obtain ⟨wz, hwz⟩ : ∃ wz, wz = put8 wy (w.heap.size + 1) t := ⟨_, rfl⟩
        rw [← hwz] at hz
        unfold put8 at hwz
        rw [← hwz]
        obtain ⟨⟨z0, z1, z2, z3, z4, z5, z6, z7⟩, zb⟩ := hz
        refine bodyPost_ret (v := .tuple #[.agg (stV t), .int .i64 out, .nilIface]) (by simp [results, Tryd.results15, go_sem, stV, z0, z1, z2, z3, z4, z5, z6, z7]) rfl ?_
        exact ⟨rfl, zb⟩
      | false =>
        clear HG
        obtain ⟨hsz, hx⟩ := HTW
        go_enter Tryd.func15, Tryd.ntmps15
        go_upto_region 1 with fail
        obtain ⟨w0, hw0⟩ : ∃ w0, w0 = ((w.alloc (.cells #[.int .i64 k, .int .i64 c0, .int .i64 c1, .int .i64 c2, .int .i64 c3, .int .i64 c4, .int .i64 c5, .bool f] 25)).alloc (.cells #[.int .i64 0, .int .i64 0, .int .i64 0, .int .i64 0, .int .i64 0, .int .i64 0, .int .i64 0, .bool false] 25)) := ⟨_, rfl⟩
        rw [← hw0] at hx hsz ⊢
        have HX := hid hx
        obtain ⟨⟨p0, p1, p2, p3, p4, p5, p6, p7⟩, p8, ⟨r0, r1, r2, r3, r4, r5, r6, r7⟩, p10⟩ := hx.facts
        clear hw0 hsz hx
        go_upto_region 4 with (go_at_call 16; refine (HCK.out _ HX.out.below).mono ?_; rintro e w1 ⟨rfl, hb1⟩; have HY := hid (HX.out.new hb1); clear hb1)
        clear p0 p1 p2 p3 p4 p5 p6 p7 p8 r0 r1 r2 r3 r4 r5 r6 r7 p10
        obtain ⟨⟨p0, p1, p2, p3, p4, p5, p6, p7⟩, p8, ⟨r0, r1, r2, r3, r4, r5, r6, r7⟩, p10⟩ := HY.out.facts
        go_upto_region 6 with fail
        go_wp2_with fail
        refine (HDO.out _ HY.out.below).mono ?_
        rintro e w2 ⟨rfl, hb2⟩
        have HV := hid (HY.out.new hb2)
        clear hb2 p0 p1 p2 p3 p4 p5 p6 p7 p8 r0 r1 r2 r3 r4 r5 r6 r7 p10
        obtain ⟨⟨p0, p1, p2, p3, p4, p5, p6, p7⟩, p8, ⟨r0, r1, r2, r3, r4, r5, r6, r7⟩, p10⟩ := HV.out.facts
        unfold stV
        go_upto_region 7 with fail
        have hy := HV.out.set t
        obtain ⟨wy, hwy⟩ : ∃ wy, wy = put8 w2 w.heap.size t := ⟨_, rfl⟩
        rw [← hwy] at hy
        unfold put8 at hwy
        rw [← hwy]
        have HYY := hid hy
        clear hwy p0 p1 p2 p3 p4 p5 p6 p7 p8 r0 r1 r2 r3 r4 r5 r6 r7 p10
        obtain ⟨⟨p0, p1, p2, p3, p4, p5, p6, p7⟩, p8, ⟨r0, r1, r2, r3, r4, r5, r6, r7⟩, p10⟩ := hy.facts
        clear hy
        go_wp2_with fail
        have hz := HYY.out.ret t
        obtain ⟨wz, hwz⟩ : ∃ wz, wz = put8 wy (w.heap.size + 1) t := ⟨_, rfl⟩
        rw [← hwz] at hz
        unfold put8 at hwz
        rw [← hwz]
        obtain ⟨⟨z0, z1, z2, z3, z4, z5, z6, z7⟩, zb⟩ := hz
        refine bodyPost_ret (v := .tuple #[.agg (stV t), .int .i64 out, .nilIface]) (by simp [results, Tryd.results15, go_sem, stV, z0, z1, z2, z3, z4, z5, z6, z7]) rfl ?_
        exact ⟨rfl, zb⟩
  · rw [if_pos he]
    have hv := errV_pos he
    rw [hv] at HCK
    obtain ⟨E, hE⟩ : ∃ E, E = roomChk l s := ⟨_, rfl⟩
    rw [← hE] at HCK ⊢
    have HE := hid (show errV E = _ from hE ▸ hv)
    obtain ⟨pc, c0, c1, c2, c3, c4, c5, f⟩ := s
    simp only [] at HCK ⊢
    obtain ⟨hsz, hx⟩ := two_at w pc c0 c1 c2 c3 c4 c5 f
    obtain ⟨n, hn⟩ : ∃ n, n = l.length := ⟨_, rfl⟩
    rw [← hn] at HCK ⊢
    clear hs hsw he hf hn hv hE
    go_enter Tryd.func15, Tryd.ntmps15
    go_upto_region 1 with fail
    obtain ⟨w0, hw0⟩ : ∃ w0, w0 = ((w.alloc (.cells #[.int .i64 pc, .int .i64 c0, .int .i64 c1, .int .i64 c2, .int .i64 c3, .int .i64 c4, .int .i64 c5, .bool f] 25)).alloc (.cells #[.int .i64 0, .int .i64 0, .int .i64 0, .int .i64 0, .int .i64 0, .int .i64 0, .int .i64 0, .bool false] 25)) := ⟨_, rfl⟩
    rw [← hw0] at hx hsz ⊢
    have HX := hid hx
    obtain ⟨⟨p0, p1, p2, p3, p4, p5, p6, p7⟩, p8, ⟨r0, r1, r2, r3, r4, r5, r6, r7⟩, p10⟩ := hx.facts
    clear hw0 hsz hx
    go_wp2_with (go_at_call 16; refine (HCK.out _ HX.out.below).mono ?_; rintro e w1 ⟨rfl, hb1⟩; have HY := hid (HX.out.new hb1); clear hb1; obtain ⟨_, _, ⟨s0, s1, s2, s3, s4, s5, s6, s7⟩, s10⟩ := HY.out.facts)
    have hz := HY.out.ret St.zero
    obtain ⟨wz, hwz⟩ : ∃ wz, wz = put8 w1 (w.heap.size + 1) St.zero := ⟨_, rfl⟩
    rw [← hwz] at hz
    unfold put8 St.zero at hwz
    simp only [] at hwz
    rw [← hwz]
    obtain ⟨⟨z0, z1, z2, z3, z4, z5, z6, z7⟩, zb⟩ := hz
    simp only [St.zero] at z0 z1 z2 z3 z4 z5 z6 z7
    refine bodyPost_ret (v := .tuple #[.agg (stV St.zero), .int .i64 0, errV E]) (by rw [HE.out]; simp [results, Tryd.results15, go_sem, stV, St.zero, z0, z1, z2, z3, z4, z5, z6, z7]) rfl ?_
    exact ⟨rfl, zb⟩
end Go.Proofs.YtnighanlonkjbaaDoor
