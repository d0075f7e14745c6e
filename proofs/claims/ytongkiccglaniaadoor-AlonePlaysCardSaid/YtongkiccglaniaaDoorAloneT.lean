/- Package alone: the contract of Step, where a number is handed in; and both. -/
import Derived.Test.YtongkiccglaniaaDoorAloneW
import Derived.Deep.DeepCutAuto
import Derived.Deep.DrawnRows
import Derived.StillTailTactics
namespace Go.Proofs.YtongkiccglaniaaDoor
open Go.RowKit
set_option maxRecDepth 100000
attribute [local go_sem ↓] Go.wp_at_zero Go.wp_at_succ

section
variable {w w' w3 : World} {ab c : Nat} {A : Option Addr} {l : List Op} {r : Int} {a a' : Ast}
set_option maxHeartbeats 4000000 in
theorem astep_true (h : AloneAt w ab A c l r a) (hf : Forms w) {B : Int} (hok : AOk l a B) (hB : B < 4611686018427387904) {o : Op} (ho : l[a.st.pc.toNat]? = some o) (got : Int) (is : Bool) (his : is = true) (hg : is = true → cellB got = true) :
    Calls Tryd.prog 19 #[.pointer (some ⟨ab, 0, none⟩), .int .i64 got, .bool is] w fun e w' =>
      e = .returned (.tuple #[.agg #[.int .i64 (aEv r a o is).tick, .int .i64 (aEv r a o is).room, .int .i64 (aEv r a o is).pc, .int .i64 (aEv r a o is).what], .int .i64 (stepDo l.length o a.st got is).2, .nilIface]) ∧ Went w w' (aloneT ab A c l r a) (aloneT ab A c l r (aGo l.length a o got is)) := by
  subst his
  have HNX : Hid (∀ w', Below w.heap.size w w' → Calls Tryd.prog 63 #[.pointer (some ⟨ab, 0, none⟩)] w' fun e w'' => e = .returned (.agg #[.int .i64 o.what, .int .i64 o.a, .int .i64 o.b]) ∧ Below w'.heap.size w' w'') := fun w' hb => anext_any (h.new hb) hok ho
  have hst : stepOf l a.st got true = (stepDo l.length o a.st got true, 0) := by
    unfold stepOf
    rw [roomChk_ok hok, if_neg (by decide), if_neg (fun h1 => by rw [hg h1.1] at h1; cases h1.2), ho]
  have HSTEP : Hid (∀ w', Below w.heap.size w w' → Calls Tryd.prog 64 #[.slice A l.length c, .agg #[.int .i64 a.st.pc, .int .i64 a.st.c0, .int .i64 a.st.c1, .int .i64 a.st.c2, .int .i64 a.st.c3, .int .i64 a.st.c4, .int .i64 a.st.c5, .bool a.st.failed], .int .i64 got, .bool true] w' fun e w'' => e = .returned (.tuple #[.agg (stV (stepDo l.length o a.st got true).1), .int .i64 (stepDo l.length o a.st got true).2, .nilIface]) ∧ Below w'.heap.size w' w'') := fun w' hb => by
    have := room_step A c l a.st got true w' (hf.new hb) (h.code.new hb) h.cap
    unfold StepV at this
    rw [hst, errV_zero] at this
    exact this
  have HWH : Hid (∀ (d : Bool) (w' : World), Calls Tryd.prog 65 #[.agg #[.int .i64 o.what, .int .i64 o.a, .int .i64 o.b], .agg #[.int .i64 a.st.pc, .int .i64 a.st.c0, .int .i64 a.st.c1, .int .i64 a.st.c2, .int .i64 a.st.c3, .int .i64 a.st.c4, .int .i64 a.st.c5, .bool a.st.failed], .bool d] w' fun e w'' => e = .returned (.int .i64 (whatOf o.what a.st.failed d)) ∧ Below w'.heap.size w' w'') := fun d w' => what_any o a.st d w'
  have HCE : Hid (∀ w', Below w.heap.size w w' → AloneAt w' ab A c l r a) := fun w' hb => h.new hb
  obtain ⟨t, ht⟩ : ∃ t, t = (stepDo l.length o a.st got true).1 := ⟨_, rfl⟩
  obtain ⟨out, hout⟩ : ∃ out, out = (stepDo l.length o a.st got true).2 := ⟨_, rfl⟩
  rw [← ht, ← hout] at HSTEP
  rw [← hout]
  unfold aEv
  have hfin : ∀ wz : World, Keep (fun j => j = ab) w wz → wz.heap[ab]? = some (aloneObj A c l.length r ⟨t, a.turns + 1⟩) → Went w wz (aloneT ab A c l r a) (aloneT ab A c l r (aGo l.length a o got true)) := fun wz hk hb => by
    have : aGo l.length a o got true = ⟨t, a.turns + 1⟩ := by rw [ht]; rfl
    rw [this]; exact h.put hk hb
  have HFIN := hid hfin
  have ht0 := hok.t0
  have htB := hok.tB
  have HAB := hid h.blk
  obtain ⟨n, hn⟩ : ∃ n, n = l.length := ⟨_, rfl⟩
  rw [← hn] at HSTEP HAB
  have HN := hid hn
  obtain ⟨⟨pc, c0, c1, c2, c3, c4, c5, f⟩, tn⟩ := a
  obtain ⟨what, oa, ob⟩ := o
  simp only [] at HNX HSTEP HWH HFIN ht0 htB HAB ⊢
  unfold aloneObj at HAB
  simp only [] at HAB
  obtain ⟨Q, hQ⟩ : ∃ Q : Ending → World → Prop, Q = fun e w' => e = .returned (.tuple #[.agg #[.int .i64 tn, .int .i64 r, .int .i64 pc, .int .i64 (whatOf what f (true || what == 8))], .int .i64 out, .nilIface]) ∧ Went w w' (aloneT ab A c l r ⟨⟨pc, c0, c1, c2, c3, c4, c5, f⟩, tn⟩) (aloneT ab A c l r (aGo l.length ⟨⟨pc, c0, c1, c2, c3, c4, c5, f⟩, tn⟩ ⟨what, oa, ob⟩ got true)) := ⟨_, rfl⟩
  have HQ := hid hQ
  rw [← hQ]
  clear h hf hok hg ho hst ht hout hfin hn hQ
  go_enter Tryd.func19, Tryd.ntmps19
  go_upto_region 1 with fail
  obtain ⟨wa, hwa⟩ : ∃ wa, wa = w.alloc (.cells #[.int .i64 0, .int .i64 0, .int .i64 0, .int .i64 0] 34) := ⟨_, rfl⟩
  have hab : Below w.heap.size w wa := by rw [hwa]; exact (Below.refl _ _).alloc (Nat.le_refl _) _
  have haw : wa.heap[w.heap.size]? = some (.cells #[.int .i64 0, .int .i64 0, .int .i64 0, .int .i64 0] 34 (0, 0)) := by rw [hwa]; exact heap_alloc_new w _
  rw [← hwa]
  have HAW := hid haw
  have HBA := hid hab
  have HS : Hid (∀ w', Below wa.heap.size wa w' → (w'.cell? ⟨ab, 2, none⟩ = some (.int .i64 pc) ∧ w'.cell? ⟨ab, 3, none⟩ = some (.int .i64 c0) ∧ w'.cell? ⟨ab, 4, none⟩ = some (.int .i64 c1) ∧ w'.cell? ⟨ab, 5, none⟩ = some (.int .i64 c2) ∧ w'.cell? ⟨ab, 6, none⟩ = some (.int .i64 c3) ∧ w'.cell? ⟨ab, 7, none⟩ = some (.int .i64 c4) ∧ w'.cell? ⟨ab, 8, none⟩ = some (.int .i64 c5) ∧ w'.cell? ⟨ab, 9, none⟩ = some (.bool f))) := fun w' hb => by
    have hx := ((hab.trans (hb.mono hab.size)).block _ (blk_lt HAB.out)).trans HAB.out
    exact ⟨blk_cell hx 2, blk_cell hx 3, blk_cell hx 4, blk_cell hx 5, blk_cell hx 6, blk_cell hx 7, blk_cell hx 8, blk_cell hx 9⟩
  clear hwa hab haw
  go_cut [9, 10] (fun v9 v10 wx => ∃ b9 b10, v9 = .pointer (some ⟨b9, 0, none⟩) ∧ v10 = .pointer (some ⟨b10, 0, none⟩) ∧ wx.heap[b9]? = some (.cells #[.int .i64 pc, .int .i64 c0, .int .i64 c1, .int .i64 c2, .int .i64 c3, .int .i64 c4, .int .i64 c5, .bool f] 40 (0, 0)) ∧ wx.heap[b10]? = some (.cells #[.int .i64 what, .int .i64 oa, .int .i64 ob] 45 (0, 0)) ∧ w.heap.size < b9 ∧ w.heap.size < b10 ∧ b9 ≠ b10 ∧ Below wa.heap.size wa wx)
  case first =>
    clear HCE HSTEP HWH HFIN HAB HN HQ ht0 htB hB
    have hn2 : ∀ (v : World) (o1 o2 : Obj), ((v.alloc o1).alloc o2).heap[v.heap.size]? = some o1 := fun v o1 o2 => by rw [blk_alloc (by simp)]; exact heap_alloc_new v o1
    have n0 := fun (v : World) (o : Obj) => blk_cell (hn2 v (.cells #[.int .i64 0, .int .i64 0, .int .i64 0, .int .i64 0, .int .i64 0, .int .i64 0, .int .i64 0, .bool false] 40) o) 0
    have n1 := fun (v : World) (o : Obj) => blk_cell (hn2 v (.cells #[.int .i64 0, .int .i64 0, .int .i64 0, .int .i64 0, .int .i64 0, .int .i64 0, .int .i64 0, .bool false] 40) o) 1
    have n2 := fun (v : World) (o : Obj) => blk_cell (hn2 v (.cells #[.int .i64 0, .int .i64 0, .int .i64 0, .int .i64 0, .int .i64 0, .int .i64 0, .int .i64 0, .bool false] 40) o) 2
    have n3 := fun (v : World) (o : Obj) => blk_cell (hn2 v (.cells #[.int .i64 0, .int .i64 0, .int .i64 0, .int .i64 0, .int .i64 0, .int .i64 0, .int .i64 0, .bool false] 40) o) 3
    have n4 := fun (v : World) (o : Obj) => blk_cell (hn2 v (.cells #[.int .i64 0, .int .i64 0, .int .i64 0, .int .i64 0, .int .i64 0, .int .i64 0, .int .i64 0, .bool false] 40) o) 4
    have n5 := fun (v : World) (o : Obj) => blk_cell (hn2 v (.cells #[.int .i64 0, .int .i64 0, .int .i64 0, .int .i64 0, .int .i64 0, .int .i64 0, .int .i64 0, .bool false] 40) o) 5
    have n6 := fun (v : World) (o : Obj) => blk_cell (hn2 v (.cells #[.int .i64 0, .int .i64 0, .int .i64 0, .int .i64 0, .int .i64 0, .int .i64 0, .int .i64 0, .bool false] 40) o) 6
    have n7 := fun (v : World) (o : Obj) => blk_cell (hn2 v (.cells #[.int .i64 0, .int .i64 0, .int .i64 0, .int .i64 0, .int .i64 0, .int .i64 0, .int .i64 0, .bool false] 40) o) 7
    have m0 := fun (v : World) (o : Obj) => blk_cell (hn2 v (.cells #[.int .i64 0, .int .i64 0, .int .i64 0] 45) o) 0
    have m1 := fun (v : World) (o : Obj) => blk_cell (hn2 v (.cells #[.int .i64 0, .int .i64 0, .int .i64 0] 45) o) 1
    have m2 := fun (v : World) (o : Obj) => blk_cell (hn2 v (.cells #[.int .i64 0, .int .i64 0, .int .i64 0] 45) o) 2
    have nf := fun (v : World) (o : Obj) (j : Nat) => blk_free (hn2 v (.cells #[.int .i64 0, .int .i64 0, .int .i64 0, .int .i64 0, .int .i64 0, .int .i64 0, .int .i64 0, .bool false] 40) o) j
    have mf := fun (v : World) (o : Obj) (j : Nat) => blk_free (hn2 v (.cells #[.int .i64 0, .int .i64 0, .int .i64 0] 45) o) j
    simp at n0 n1 n2 n3 n4 n5 n6 n7 m0 m1 m2
    clear hn2
    go_region_held3 (fun w' => (w'.cell? ⟨ab, 2, none⟩ = some (.int .i64 pc) ∧ w'.cell? ⟨ab, 3, none⟩ = some (.int .i64 c0) ∧ w'.cell? ⟨ab, 4, none⟩ = some (.int .i64 c1) ∧ w'.cell? ⟨ab, 5, none⟩ = some (.int .i64 c2) ∧ w'.cell? ⟨ab, 6, none⟩ = some (.int .i64 c3) ∧ w'.cell? ⟨ab, 7, none⟩ = some (.int .i64 c4) ∧ w'.cell? ⟨ab, 8, none⟩ = some (.int .i64 c5) ∧ w'.cell? ⟨ab, 9, none⟩ = some (.bool f)))
      ((refine HS.out _ ?_; (repeat (with_reducible first | exact HB2.out | exact Below.refl _ _ | refine Below.drew ?_ | refine Below.alloc ?_ (by ((try dsimp only); (try simp only [sz_set]); (try simp only [sz_alloc])); first | exact Nat.le_refl _ | exact HB2.out.size | exact Nat.le_succ _ | exact Nat.le_succ_of_le HB2.out.size) _ | refine Below.setCell ?_ (by ((try dsimp only); (try simp only [sz_set]); (try simp only [sz_alloc])); first | exact Nat.le_refl _ | exact HB2.out.size | exact Nat.le_succ _ | exact Nat.le_succ_of_le HB2.out.size) _))))
      (first | (go_at_call 63; refine (HNX.out (wa.drew) (HBA.out.trans (Below.mono (w := wa) ((Below.refl wa.heap.size wa).drew) HBA.out.size))).mono ?_; rintro e w2 ⟨rfl, hb2⟩; have HB2 : Hid (Below wa.heap.size wa w2) := hid (Below.trans (show Below wa.heap.size wa (wa.drew) from (Below.refl wa.heap.size wa).drew) (hb2.mono (by simp; try omega))); clear hb2) | (go_at_call 63; refine (HNX.out ((wa.alloc (.cells #[.int .i64 0, .int .i64 0, .int .i64 0, .int .i64 0, .int .i64 0, .int .i64 0, .int .i64 0, .bool false] 40)).drew) (HBA.out.trans (Below.mono (w := wa) (((Below.refl wa.heap.size wa).alloc (Nat.le_refl _) _).drew) HBA.out.size))).mono ?_; rintro e w2 ⟨rfl, hb2⟩; have HB2 : Hid (Below wa.heap.size wa w2) := hid (Below.trans (show Below wa.heap.size wa ((wa.alloc (.cells #[.int .i64 0, .int .i64 0, .int .i64 0, .int .i64 0, .int .i64 0, .int .i64 0, .int .i64 0, .bool false] 40)).drew) from ((Below.refl wa.heap.size wa).alloc (Nat.le_refl _) _).drew) (hb2.mono (by simp; try omega))); have hzp : w2.heap[wa.heap.size]? = some (.cells #[.int .i64 0, .int .i64 0, .int .i64 0, .int .i64 0, .int .i64 0, .int .i64 0, .int .i64 0, .bool false] 40 (0, 0)) := (hb2.block _ (by simp; try omega)).trans (by simp only [hp_drew, hp_alloc]; (try simp only [sz_alloc]); repeat (first | rw [if_pos True.intro] | rw [if_pos rfl] | rw [if_neg (by omega)])); have zpf := fun j => blk_free hzp j; have zpl := blk_lt hzp; have zp0 := blk_cell hzp 0; have zp1 := blk_cell hzp 1; have zp2 := blk_cell hzp 2; have zp3 := blk_cell hzp 3; have zp4 := blk_cell hzp 4; have zp5 := blk_cell hzp 5; have zp6 := blk_cell hzp 6; have zp7 := blk_cell hzp 7; have HZP := hid hzp; simp at zp0 zp1 zp2 zp3 zp4 zp5 zp6 zp7; clear hzp; clear hb2) | (go_at_call 63; refine (HNX.out ((wa.alloc (.cells #[.int .i64 0, .int .i64 0, .int .i64 0] 45)).drew) (HBA.out.trans (Below.mono (w := wa) (((Below.refl wa.heap.size wa).alloc (Nat.le_refl _) _).drew) HBA.out.size))).mono ?_; rintro e w2 ⟨rfl, hb2⟩; have HB2 : Hid (Below wa.heap.size wa w2) := hid (Below.trans (show Below wa.heap.size wa ((wa.alloc (.cells #[.int .i64 0, .int .i64 0, .int .i64 0] 45)).drew) from ((Below.refl wa.heap.size wa).alloc (Nat.le_refl _) _).drew) (hb2.mono (by simp; try omega))); have hzq : w2.heap[wa.heap.size]? = some (.cells #[.int .i64 0, .int .i64 0, .int .i64 0] 45 (0, 0)) := (hb2.block _ (by simp; try omega)).trans (by simp only [hp_drew, hp_alloc]; (try simp only [sz_alloc]); repeat (first | rw [if_pos True.intro] | rw [if_pos rfl] | rw [if_neg (by omega)])); have zqf := fun j => blk_free hzq j; have zql := blk_lt hzq; have zq0 := blk_cell hzq 0; have zq1 := blk_cell hzq 1; have zq2 := blk_cell hzq 2; have HZQ := hid hzq; simp at zq0 zq1 zq2; clear hzq; clear hb2) | (go_at_call 63; refine (HNX.out (((wa.alloc (.cells #[.int .i64 0, .int .i64 0, .int .i64 0, .int .i64 0, .int .i64 0, .int .i64 0, .int .i64 0, .bool false] 40)).alloc (.cells #[.int .i64 0, .int .i64 0, .int .i64 0] 45)).drew) (HBA.out.trans (Below.mono (w := wa) ((((Below.refl wa.heap.size wa).alloc (Nat.le_refl _) _).alloc (by simp) _).drew) HBA.out.size))).mono ?_; rintro e w2 ⟨rfl, hb2⟩; have HB2 : Hid (Below wa.heap.size wa w2) := hid (Below.trans (show Below wa.heap.size wa (((wa.alloc (.cells #[.int .i64 0, .int .i64 0, .int .i64 0, .int .i64 0, .int .i64 0, .int .i64 0, .int .i64 0, .bool false] 40)).alloc (.cells #[.int .i64 0, .int .i64 0, .int .i64 0] 45)).drew) from (((Below.refl wa.heap.size wa).alloc (Nat.le_refl _) _).alloc (by simp) _).drew) (hb2.mono (by simp; try omega))); have hzp : w2.heap[wa.heap.size]? = some (.cells #[.int .i64 0, .int .i64 0, .int .i64 0, .int .i64 0, .int .i64 0, .int .i64 0, .int .i64 0, .bool false] 40 (0, 0)) := (hb2.block _ (by simp; try omega)).trans (by simp only [hp_drew, hp_alloc]; (try simp only [sz_alloc]); repeat (first | rw [if_pos True.intro] | rw [if_pos rfl] | rw [if_neg (by omega)])); have zpf := fun j => blk_free hzp j; have zpl := blk_lt hzp; have zp0 := blk_cell hzp 0; have zp1 := blk_cell hzp 1; have zp2 := blk_cell hzp 2; have zp3 := blk_cell hzp 3; have zp4 := blk_cell hzp 4; have zp5 := blk_cell hzp 5; have zp6 := blk_cell hzp 6; have zp7 := blk_cell hzp 7; have HZP := hid hzp; simp at zp0 zp1 zp2 zp3 zp4 zp5 zp6 zp7; clear hzp; have hzq : w2.heap[wa.heap.size + 1]? = some (.cells #[.int .i64 0, .int .i64 0, .int .i64 0] 45 (0, 0)) := (hb2.block _ (by simp; try omega)).trans (by simp only [hp_drew, hp_alloc]; (try simp only [sz_alloc]); repeat (first | rw [if_pos True.intro] | rw [if_pos rfl] | rw [if_neg (by omega)])); have zqf := fun j => blk_free hzq j; have zql := blk_lt hzq; have zq0 := blk_cell hzq 0; have zq1 := blk_cell hzq 1; have zq2 := blk_cell hzq 2; have HZQ := hid hzq; simp at zq0 zq1 zq2; clear hzq; clear hb2) | (go_at_call 63; refine (HNX.out (((wa.alloc (.cells #[.int .i64 0, .int .i64 0, .int .i64 0] 45)).alloc (.cells #[.int .i64 0, .int .i64 0, .int .i64 0, .int .i64 0, .int .i64 0, .int .i64 0, .int .i64 0, .bool false] 40)).drew) (HBA.out.trans (Below.mono (w := wa) ((((Below.refl wa.heap.size wa).alloc (Nat.le_refl _) _).alloc (by simp) _).drew) HBA.out.size))).mono ?_; rintro e w2 ⟨rfl, hb2⟩; have HB2 : Hid (Below wa.heap.size wa w2) := hid (Below.trans (show Below wa.heap.size wa (((wa.alloc (.cells #[.int .i64 0, .int .i64 0, .int .i64 0] 45)).alloc (.cells #[.int .i64 0, .int .i64 0, .int .i64 0, .int .i64 0, .int .i64 0, .int .i64 0, .int .i64 0, .bool false] 40)).drew) from (((Below.refl wa.heap.size wa).alloc (Nat.le_refl _) _).alloc (by simp) _).drew) (hb2.mono (by simp; try omega))); have hzq : w2.heap[wa.heap.size]? = some (.cells #[.int .i64 0, .int .i64 0, .int .i64 0] 45 (0, 0)) := (hb2.block _ (by simp; try omega)).trans (by simp only [hp_drew, hp_alloc]; (try simp only [sz_alloc]); repeat (first | rw [if_pos True.intro] | rw [if_pos rfl] | rw [if_neg (by omega)])); have zqf := fun j => blk_free hzq j; have zql := blk_lt hzq; have zq0 := blk_cell hzq 0; have zq1 := blk_cell hzq 1; have zq2 := blk_cell hzq 2; have HZQ := hid hzq; simp at zq0 zq1 zq2; clear hzq; have hzp : w2.heap[wa.heap.size + 1]? = some (.cells #[.int .i64 0, .int .i64 0, .int .i64 0, .int .i64 0, .int .i64 0, .int .i64 0, .int .i64 0, .bool false] 40 (0, 0)) := (hb2.block _ (by simp; try omega)).trans (by simp only [hp_drew, hp_alloc]; (try simp only [sz_alloc]); repeat (first | rw [if_pos True.intro] | rw [if_pos rfl] | rw [if_neg (by omega)])); have zpf := fun j => blk_free hzp j; have zpl := blk_lt hzp; have zp0 := blk_cell hzp 0; have zp1 := blk_cell hzp 1; have zp2 := blk_cell hzp 2; have zp3 := blk_cell hzp 3; have zp4 := blk_cell hzp 4; have zp5 := blk_cell hzp 5; have zp6 := blk_cell hzp 6; have zp7 := blk_cell hzp 7; have HZP := hid hzp; simp at zp0 zp1 zp2 zp3 zp4 zp5 zp6 zp7; clear hzp; clear hb2))
    all_goals
      go_wp2_with fail
      go_meet
      have hwl := blk_lt HAW.out
      have h2s := HB2.out.size
      refine ⟨_, _, rfl, rfl, ?_, ?_, ?_, ?_, ?_, ?_⟩
      · ((try simp only [hp_set]); (try simp only [hp_alloc]); (try simp only [sz_set]); (try simp only [sz_alloc]); (try simp only [sz_set]); (repeat (first | rw [if_pos True.intro] | rw [if_pos rfl] | rw [if_neg (by omega)])); (try simp only [hp_set]); (repeat (first | rw [if_pos True.intro] | rw [if_pos rfl] | rw [if_neg (by omega)])); (first | done | (rw [HZP.out]; rfl) | (rw [HZQ.out]; rfl)))
      · ((try simp only [hp_set]); (try simp only [hp_alloc]); (try simp only [sz_set]); (try simp only [sz_alloc]); (try simp only [sz_set]); (repeat (first | rw [if_pos True.intro] | rw [if_pos rfl] | rw [if_neg (by omega)])); (try simp only [hp_set]); (repeat (first | rw [if_pos True.intro] | rw [if_pos rfl] | rw [if_neg (by omega)])); (first | done | (rw [HZP.out]; rfl) | (rw [HZQ.out]; rfl)))
      · ((try dsimp only); (try simp only [sz_set]); (try simp only [sz_alloc])); omega
      · ((try dsimp only); (try simp only [sz_set]); (try simp only [sz_alloc])); omega
      · ((try dsimp only); (try simp only [sz_set]); (try simp only [sz_alloc])); omega
      · repeat (with_reducible first | exact HB2.out | exact Below.refl _ _ | refine Below.drew ?_ | refine Below.alloc ?_ (by ((try dsimp only); (try simp only [sz_set]); (try simp only [sz_alloc])); first | exact Nat.le_refl _ | exact HB2.out.size | exact Nat.le_succ _ | exact Nat.le_succ_of_le HB2.out.size) _ | refine Below.setCell ?_ (by ((try dsimp only); (try simp only [sz_set]); (try simp only [sz_alloc])); first | exact Nat.le_refl _ | exact HB2.out.size | exact Nat.le_succ _ | exact Nat.le_succ_of_le HB2.out.size) _)
  case rest =>
    obtain ⟨b9, b10, rfl, rfl, h9, h10, hl9, hl10, hne, hb⟩ := hcut
    have hmid : AlMid w wc ab b9 b10 (.cells #[.slice A n c, .int .i64 r, .int .i64 pc, .int .i64 c0, .int .i64 c1, .int .i64 c2, .int .i64 c3, .int .i64 c4, .int .i64 c5, .bool f, .int .i64 tn] 128 (0, 0)) ⟨pc, c0, c1, c2, c3, c4, c5, f⟩ ⟨what, oa, ob⟩ :=
      ⟨((HBA.out.trans (hb.mono HBA.out.size)).block _ (blk_lt HAB.out)).trans HAB.out, h9, h10, (hb.block _ (blk_lt HAW.out)).trans HAW.out, Keep.of_below _ (HBA.out.trans (hb.mono HBA.out.size)), blk_lt HAB.out, hl9, hl10⟩
    have HMD := hid hmid
    have HBW : Hid (Below w.heap.size w wc) := HBA.out.trans (hb.mono HBA.out.size)
    have HS2 : Hid (∀ w', Below wc.heap.size wc w' → w'.cell? ⟨ab, 0, none⟩ = some (.slice A n c) ∧ (w'.cell? ⟨b9, 0, none⟩ = some (.int .i64 pc) ∧ w'.cell? ⟨b9, 1, none⟩ = some (.int .i64 c0) ∧ w'.cell? ⟨b9, 2, none⟩ = some (.int .i64 c1) ∧ w'.cell? ⟨b9, 3, none⟩ = some (.int .i64 c2) ∧ w'.cell? ⟨b9, 4, none⟩ = some (.int .i64 c3) ∧ w'.cell? ⟨b9, 5, none⟩ = some (.int .i64 c4) ∧ w'.cell? ⟨b9, 6, none⟩ = some (.int .i64 c5) ∧ w'.cell? ⟨b9, 7, none⟩ = some (.bool f))) := fun w' hb' => by
      have hx := hmid.new hb'
      exact ⟨blk_cell hx.obj 0, blk_cell hx.was 0, blk_cell hx.was 1, blk_cell hx.was 2, blk_cell hx.was 3, blk_cell hx.was 4, blk_cell hx.was 5, blk_cell hx.was 6, blk_cell hx.was 7⟩
    obtain ⟨y0, z0, z1, z2, z3, z4, z5, z6, z7⟩ := HS2.out _ (Below.refl _ _)
    clear h9 h10 hl9 hl10 hne hb hmid HS HBA HAW HNX
    go_upto_region 2 with fail
    go_cut [11, 12, 13] (fun v11 v12 v13 wx => ∃ b11, v11 = .pointer (some ⟨b11, 0, none⟩) ∧ v12 = .int .i64 out ∧ v13 = .nilIface ∧ wx.heap[b11]? = some (.cells (stV t) 40 (0, 0)) ∧ w.heap.size < b11 ∧ Below wc.heap.size wc wx)
    case first =>
      clear HCE HWH HFIN HAB HN HQ ht0 htB hB
      go_region_held3 (fun w' => w'.cell? ⟨ab, 0, none⟩ = some (.slice A n c) ∧ (w'.cell? ⟨b9, 0, none⟩ = some (.int .i64 pc) ∧ w'.cell? ⟨b9, 1, none⟩ = some (.int .i64 c0) ∧ w'.cell? ⟨b9, 2, none⟩ = some (.int .i64 c1) ∧ w'.cell? ⟨b9, 3, none⟩ = some (.int .i64 c2) ∧ w'.cell? ⟨b9, 4, none⟩ = some (.int .i64 c3) ∧ w'.cell? ⟨b9, 5, none⟩ = some (.int .i64 c4) ∧ w'.cell? ⟨b9, 6, none⟩ = some (.int .i64 c5) ∧ w'.cell? ⟨b9, 7, none⟩ = some (.bool f)))
        ((refine HS2.out _ ?_; (repeat (with_reducible first | exact HB2.out | exact Below.refl _ _ | refine Below.drew ?_ | refine Below.alloc ?_ (Nat.le_refl _) _ | refine Below.alloc ?_ HB2.out.size _ | exact below_put0 HB2.out (Nat.le_refl _) _ _ _ _ _ _ _ _))))
        (first | (go_at_call 64; refine (HSTEP.out _ HBW.out.drew).mono ?_; rintro e w2' ⟨rfl, hb2⟩; unfold stV; have HB2 := hid ((Below.refl wc.heap.size wc).drew.trans hb2); clear hb2) | (go_at_call 64; refine (HSTEP.out _ (HBW.out.alloc HBW.out.size _).drew).mono ?_; rintro e w2' ⟨rfl, hb2⟩; unfold stV; have HB2 := hid (((Below.refl wc.heap.size wc).alloc (Nat.le_refl _) _).drew.trans (hb2.mono (by simp))); have hz : w2'.heap[wc.heap.size]? = some (.cells (stV St.zero) 40 (0, 0)) := (hb2.block wc.heap.size (by simp)).trans (heap_alloc_new wc _); have q0 := blk_cell hz 0; have q1 := blk_cell hz 1; have q2 := blk_cell hz 2; have q3 := blk_cell hz 3; have q4 := blk_cell hz 4; have q5 := blk_cell hz 5; have q6 := blk_cell hz 6; have q7 := blk_cell hz 7; have qf := fun j => blk_free hz j; have HZ := hid hz; unfold stV at q0 q1 q2 q3 q4 q5 q6 q7; simp at q0 q1 q2 q3 q4 q5 q6 q7; clear hz hb2))
      all_goals
        go_wp2_with fail
        go_meet
        have hwl := blk_lt HMD.out.res
        have h2s := HB2.out.size
      · exact ⟨_, rfl, rfl, rfl, heap_alloc_new w2' _, by omega, HB2.out.alloc HB2.out.size _⟩
      · exact ⟨_, rfl, rfl, rfl, put8_heap HZ.out, hwl, below_put0 HB2.out (Nat.le_refl _) _ _ _ _ _ _ _ _⟩
    case rest =>
      obtain ⟨b11, rfl, rfl, rfl, hb11, hl11, hbw⟩ := hcut
      replace HMD := hid (HMD.out.new hbw)
      have hob := HMD.out.obj
      have t0 := blk_cell hb11 0
      have t1 := blk_cell hb11 1
      have t2 := blk_cell hb11 2
      have t3 := blk_cell hb11 3
      have t4 := blk_cell hb11 4
      have t5 := blk_cell hb11 5
      have t6 := blk_cell hb11 6
      have t7 := blk_cell hb11 7
      unfold stV at t0 t1 t2 t3 t4 t5 t6 t7
      have k2 := blk_cell hob 2
      have k3 := blk_cell hob 3
      have k4 := blk_cell hob 4
      have k5 := blk_cell hob 5
      have k6 := blk_cell hob 6
      have k7 := blk_cell hob 7
      have k8 := blk_cell hob 8
      have k9 := blk_cell hob 9
      have kf := fun j => blk_free hob j
      simp at t0 t1 t2 t3 t4 t5 t6 t7 k2 k3 k4 k5 k6 k7 k8 k9
      have HM2 := hid (HMD.out.write (putAt_keep wc ab 2 t) (put2_heap hob t))
      clear hob hbw y0 z0 z1 z2 z3 z4 z5 z6 z7 hb11 HS2 HBW
      go_upto_region 6 with fail
      obtain ⟨wb, hwb⟩ : ∃ wb, wb = putAt wc ab 2 t := ⟨_, rfl⟩
      have hm2 := HM2.out
      rw [← hwb] at hm2
      unfold putAt at hwb
      simp only [Nat.reduceAdd] at hwb
      rw [← hwb]
      have HM3 := hid hm2
      clear hwb HM2 HMD t0 t1 t2 t3 t4 t5 t6 t7 k2 k3 k4 k5 k6 k7 k8 k9 kf hl11 hm2
      obtain ⟨D, hD⟩ : ∃ D, D = (true || what == 8) := ⟨_, rfl⟩
      rw [← hD] at HQ
      have HS3 : Hid (∀ w', Below wb.heap.size wb w' → (w'.cell? ⟨ab, 10, none⟩ = some (.int .i64 tn) ∧ w'.cell? ⟨ab, 1, none⟩ = some (.int .i64 r)) ∧ (w'.cell? ⟨b9, 0, none⟩ = some (.int .i64 pc) ∧ w'.cell? ⟨b9, 1, none⟩ = some (.int .i64 c0) ∧ w'.cell? ⟨b9, 2, none⟩ = some (.int .i64 c1) ∧ w'.cell? ⟨b9, 3, none⟩ = some (.int .i64 c2) ∧ w'.cell? ⟨b9, 4, none⟩ = some (.int .i64 c3) ∧ w'.cell? ⟨b9, 5, none⟩ = some (.int .i64 c4) ∧ w'.cell? ⟨b9, 6, none⟩ = some (.int .i64 c5) ∧ w'.cell? ⟨b9, 7, none⟩ = some (.bool f)) ∧ w'.cell? ⟨b10, 0, none⟩ = some (.int .i64 what) ∧ w'.cell? ⟨b10, 1, none⟩ = some (.int .i64 oa) ∧ w'.cell? ⟨b10, 2, none⟩ = some (.int .i64 ob)) := fun w' hb' => by
        have hx := HM3.out.new hb'
        exact ⟨⟨blk_cell hx.obj 10, blk_cell hx.obj 1⟩, ⟨blk_cell hx.was 0, blk_cell hx.was 1, blk_cell hx.was 2, blk_cell hx.was 3, blk_cell hx.was 4, blk_cell hx.was 5, blk_cell hx.was 6, blk_cell hx.was 7⟩, blk_cell hx.op 0, blk_cell hx.op 1, blk_cell hx.op 2⟩
      obtain ⟨⟨k10, k1⟩, ⟨z0, z1, z2, z3, z4, z5, z6, z7⟩, o0, o1, o2⟩ := HS3.out _ (Below.refl _ _)
      have HBB : Hid (Below wb.heap.size wb wb) := Below.refl _ _
      go_cut [14] (fun v14 wx => ∃ b14, v14 = .pointer (some ⟨b14, 0, none⟩) ∧ wx.heap[b14]? = some (.cells #[.int .i64 tn, .int .i64 r, .int .i64 pc, .int .i64 (whatOf what f D)] 34 (0, 0)) ∧ w.heap.size < b14 ∧ Below wb.heap.size wb wx)
      case first =>
        clear HCE HFIN HAB HN HQ ht0 htB hB HSTEP
        have hDt : D = true := by rw [hD]; rfl
        subst hDt
        clear hD
        refine wp_region_held_drew (S := (fun w' => (w'.cell? ⟨ab, 10, none⟩ = some (.int .i64 tn) ∧ w'.cell? ⟨ab, 1, none⟩ = some (.int .i64 r)) ∧ (w'.cell? ⟨b9, 0, none⟩ = some (.int .i64 pc) ∧ w'.cell? ⟨b9, 1, none⟩ = some (.int .i64 c0) ∧ w'.cell? ⟨b9, 2, none⟩ = some (.int .i64 c1) ∧ w'.cell? ⟨b9, 3, none⟩ = some (.int .i64 c2) ∧ w'.cell? ⟨b9, 4, none⟩ = some (.int .i64 c3) ∧ w'.cell? ⟨b9, 5, none⟩ = some (.int .i64 c4) ∧ w'.cell? ⟨b9, 6, none⟩ = some (.int .i64 c5) ∧ w'.cell? ⟨b9, 7, none⟩ = some (.bool f)) ∧ w'.cell? ⟨b10, 0, none⟩ = some (.int .i64 what) ∧ w'.cell? ⟨b10, 1, none⟩ = some (.int .i64 oa) ∧ w'.cell? ⟨b10, 2, none⟩ = some (.int .i64 ob))) (by kernel_rfl) ?_ (fun hHeld => ?_)
        · exact HS3.out _ (Below.refl _ _).drew
        refine wpAnyH_take (i := 0) (v := ?v1) rfl (by kernel_rfl) (by kernel_rfl) (by kernel_rfl) (fun _ _ _ h => h) (Or.inl ⟨by rfl, ?hy1⟩) (by assumption) ?rest1
        case hy1 => (intro w hSw; (try dsimp only at hSw); (try simp only [List.getElem_toArray, List.getElem_cons_zero]); go_simp; (try with_reducible rfl))
        (try simp only [Act.put, List.getElem_toArray, List.getElem_cons_zero, List.setIfInBounds_toArray, List.set_cons_zero, List.set_cons_succ])
        refine wpAnyH_take (i := 1) (v := ?v2) rfl (by kernel_rfl) (by kernel_rfl) (by kernel_rfl) (fun _ _ _ h => h) (Or.inl ⟨by rfl, ?hy2⟩) (by assumption) ?rest2
        case hy2 => (intro w hSw; (try dsimp only at hSw); (try simp only [List.getElem_toArray, List.getElem_cons_zero, List.getElem_cons_succ]); go_simp; (try with_reducible rfl))
        (try simp only [Act.put, List.getElem_toArray, List.getElem_cons_zero, List.getElem_cons_succ, List.setIfInBounds_toArray, List.set_cons_zero, List.set_cons_succ])
        refine wpAnyH_take (i := 2) (v := ?v3) rfl (by kernel_rfl) (by kernel_rfl) (by kernel_rfl) (fun _ _ _ h => h) (Or.inl ⟨by rfl, ?hy3⟩) (by assumption) ?rest3
        case hy3 => (intro w hSw; (try dsimp only at hSw); (try simp only [List.getElem_toArray, List.getElem_cons_zero, List.getElem_cons_succ]); go_simp; (try with_reducible rfl))
        (try simp only [Act.put, List.getElem_toArray, List.getElem_cons_zero, List.getElem_cons_succ, List.setIfInBounds_toArray, List.set_cons_zero, List.set_cons_succ])
        refine wpAnyH_take (i := 3) (v := ?v4) rfl (by kernel_rfl) (by kernel_rfl) (by kernel_rfl) (fun _ _ _ h => h) (Or.inl ⟨by rfl, ?hy4⟩) (by assumption) ?rest4
        case hy4 => (intro w hSw; (try dsimp only at hSw); (try simp only [List.getElem_toArray, List.getElem_cons_zero, List.getElem_cons_succ]); go_simp; (try with_reducible rfl))
        (try simp only [Act.put, List.getElem_toArray, List.getElem_cons_zero, List.getElem_cons_succ, List.setIfInBounds_toArray, List.set_cons_zero, List.set_cons_succ])
        refine wpAnyH_take (i := 4) (v := ?v5) rfl (by kernel_rfl) (by kernel_rfl) (by kernel_rfl) (fun _ _ _ h => h) (Or.inl ⟨by rfl, ?hy5⟩) (by assumption) ?rest5
        case hy5 => (intro w hSw; (try dsimp only at hSw); (try simp only [List.getElem_toArray, List.getElem_cons_zero, List.getElem_cons_succ]); go_simp; (try with_reducible rfl))
        (try simp only [Act.put, List.getElem_toArray, List.getElem_cons_zero, List.getElem_cons_succ, List.setIfInBounds_toArray, List.set_cons_zero, List.set_cons_succ])
        refine wpAnyH_take (i := 5) (v := ?v6) rfl (by kernel_rfl) (by kernel_rfl) (by kernel_rfl) (fun _ _ _ h => h) (Or.inl ⟨by rfl, ?hy6⟩) (by assumption) ?rest6
        case hy6 => (intro w hSw; (try dsimp only at hSw); (try simp only [List.getElem_toArray, List.getElem_cons_zero, List.getElem_cons_succ]); go_simp; (try with_reducible rfl))
        (try simp only [Act.put, List.getElem_toArray, List.getElem_cons_zero, List.getElem_cons_succ, List.setIfInBounds_toArray, List.set_cons_zero, List.set_cons_succ])
        refine wpAnyH_take (i := 6) (v := ?v7) rfl (by kernel_rfl) (by kernel_rfl) (by kernel_rfl) (fun _ _ _ h => h) (Or.inl ⟨by rfl, ?hy7⟩) (by assumption) ?rest7
        case hy7 => (intro w hSw; (try dsimp only at hSw); (try simp only [List.getElem_toArray, List.getElem_cons_zero, List.getElem_cons_succ]); go_simp; (try with_reducible rfl))
        (try simp only [Act.put, List.getElem_toArray, List.getElem_cons_zero, List.getElem_cons_succ, List.setIfInBounds_toArray, List.set_cons_zero, List.set_cons_succ])
        refine wpAnyH_take (i := 7) (v := ?v8) rfl (by kernel_rfl) (by kernel_rfl) (by kernel_rfl) (fun _ _ _ h => h) (Or.inl ⟨by rfl, ?hy8⟩) (by assumption) ?rest8
        case hy8 => (intro w hSw; (try dsimp only at hSw); (try simp only [List.getElem_toArray, List.getElem_cons_zero, List.getElem_cons_succ]); go_simp; (try with_reducible rfl))
        (try simp only [Act.put, List.getElem_toArray, List.getElem_cons_zero, List.getElem_cons_succ, List.setIfInBounds_toArray, List.set_cons_zero, List.set_cons_succ])
        refine wpAnyH_take (i := 8) (v := ?v9) rfl (by kernel_rfl) (by kernel_rfl) (by kernel_rfl) (fun _ _ _ h => h) (Or.inl ⟨by rfl, ?hy9⟩) (by assumption) ?rest9
        case hy9 => (intro w hSw; (try dsimp only at hSw); (try simp only [List.getElem_toArray, List.getElem_cons_zero, List.getElem_cons_succ]); go_simp; (try with_reducible rfl))
        (try simp only [Act.put, List.getElem_toArray, List.getElem_cons_zero, List.getElem_cons_succ, List.setIfInBounds_toArray, List.set_cons_zero, List.set_cons_succ])
        refine wpAnyH_take (i := 9) (v := ?v10) rfl (by kernel_rfl) (by kernel_rfl) (by kernel_rfl) (fun _ _ _ h => h) (Or.inl ⟨by rfl, ?hy10⟩) (by assumption) ?rest10
        case hy10 => (intro w hSw; (try dsimp only at hSw); (try simp only [List.getElem_toArray, List.getElem_cons_zero, List.getElem_cons_succ]); go_simp; (try with_reducible rfl))
        (try simp only [Act.put, List.getElem_toArray, List.getElem_cons_zero, List.getElem_cons_succ, List.setIfInBounds_toArray, List.set_cons_zero, List.set_cons_succ])
        refine wpAnyH_take (i := 10) (v := ?v11) rfl (by kernel_rfl) (by kernel_rfl) (by kernel_rfl) (fun _ _ _ h => h) (Or.inl ⟨by rfl, ?hy11⟩) (by assumption) ?rest11
        case hy11 => (intro w hSw; (try dsimp only at hSw); (try simp only [List.getElem_toArray, List.getElem_cons_zero, List.getElem_cons_succ]); go_simp; (try with_reducible rfl))
        (try simp only [Act.put, List.getElem_toArray, List.getElem_cons_zero, List.getElem_cons_succ, List.setIfInBounds_toArray, List.set_cons_zero, List.set_cons_succ])
        refine wpAnyH_take (i := 11) (v := ?v12) rfl (by kernel_rfl) (by kernel_rfl) (by kernel_rfl) (fun _ _ _ h => h) (Or.inl ⟨by rfl, ?hy12⟩) (by assumption) ?rest12
        case hy12 => (intro w hSw; (try dsimp only at hSw); (try simp only [List.getElem_toArray, List.getElem_cons_zero, List.getElem_cons_succ]); go_simp; (try with_reducible rfl))
        (try simp only [Act.put, List.getElem_toArray, List.getElem_cons_zero, List.getElem_cons_succ, List.setIfInBounds_toArray, List.set_cons_zero, List.set_cons_succ])
        refine wpAnyH_take (i := 12) (v := ?v13) rfl (by kernel_rfl) (by kernel_rfl) (by kernel_rfl) (fun _ _ _ h => h) (Or.inl ⟨by rfl, ?hy13⟩) (by assumption) ?rest13
        case hy13 => (intro w hSw; (try dsimp only at hSw); (try simp only [List.getElem_toArray, List.getElem_cons_zero, List.getElem_cons_succ]); go_simp; (try with_reducible rfl))
        (try simp only [Act.put, List.getElem_toArray, List.getElem_cons_zero, List.getElem_cons_succ, List.setIfInBounds_toArray, List.set_cons_zero, List.set_cons_succ])
        refine wpAnyH_take (i := 13) (v := ?v14) rfl (by kernel_rfl) (by kernel_rfl) (by kernel_rfl) (fun _ _ _ h => h) (Or.inl ⟨by rfl, ?hy14⟩) (by assumption) ?rest14
        case hy14 => (intro w hSw; (try dsimp only at hSw); (try simp only [List.getElem_toArray, List.getElem_cons_zero, List.getElem_cons_succ]); go_simp; (try with_reducible rfl))
        (try simp only [Act.put, List.getElem_toArray, List.getElem_cons_zero, List.getElem_cons_succ, List.setIfInBounds_toArray, List.set_cons_zero, List.set_cons_succ])
        refine wpAnyH_take (i := 14) (v := undef) rfl (by kernel_rfl) (by kernel_rfl) (by kernel_rfl) (fun _ _ _ h => h) (Or.inr ⟨by rfl, rfl⟩) (by assumption) ?_
        (try simp only [Act.put, List.getElem_toArray, List.getElem_cons_zero, List.getElem_cons_succ, List.setIfInBounds_toArray, List.set_cons_zero, List.set_cons_succ])
        refine wpAnyH_take (i := 15) (v := undef) rfl (by kernel_rfl) (by kernel_rfl) (by kernel_rfl) (fun _ _ _ h => h) (Or.inr ⟨by rfl, rfl⟩) (by assumption) ?_
        (try simp only [Act.put, List.getElem_toArray, List.getElem_cons_zero, List.getElem_cons_succ, List.setIfInBounds_toArray, List.set_cons_zero, List.set_cons_succ])
        refine wpAnyH_take (i := 16) (v := undef) rfl (by kernel_rfl) (by kernel_rfl) (by kernel_rfl) (fun _ _ _ h => h) (Or.inr ⟨by rfl, rfl⟩) (by assumption) ?_
        (try simp only [Act.put, List.getElem_toArray, List.getElem_cons_zero, List.getElem_cons_succ, List.setIfInBounds_toArray, List.set_cons_zero, List.set_cons_succ])
        refine wpAnyH_take (i := 17) (v := ?v15) rfl (by kernel_rfl) (by kernel_rfl) (by kernel_rfl) (fun _ _ _ h => h) (Or.inl ⟨by rfl, ?hy15⟩) (by assumption) ?rest15
        case hy15 => (intro w hSw; (try dsimp only at hSw); (try simp only [List.getElem_toArray, List.getElem_cons_zero, List.getElem_cons_succ]); go_simp; (try with_reducible rfl))
        (try simp only [Act.put, List.getElem_toArray, List.getElem_cons_zero, List.getElem_cons_succ, List.setIfInBounds_toArray, List.set_cons_zero, List.set_cons_succ])
        refine wpAnyH_ready (rs := [18, 20]) (by kernel_rfl) (by simp) ?_
        refine AllReadyH.cons rfl (fun K hK => ?_) (AllReadyH.cons rfl (fun K hK => ?_) AllReadyH.nil)
        · go_simp
          go_at_call 65; refine (HWH.out _ wb.drew).mono ?_; rintro e w2' ⟨rfl, hb2⟩; have HB2 := hid ((Below.refl wb.heap.size wb).drew.trans hb2); clear hb2
          refine hK.out _ _ ?_ (fun hHeld => ?_)
          · ((refine HS3.out _ ?_; (repeat (with_reducible first | exact HB2.out | exact Below.refl _ _ | refine Below.drew ?_ | refine Below.alloc ?_ (Nat.le_refl _) _ | refine Below.alloc ?_ HB2.out.size _ | exact below_put4 HB2.out (Nat.le_refl _) _ _ _ _))))
          clear hK K
          (try simp only [Act.put, List.getElem_toArray, List.getElem_cons_zero, List.getElem_cons_succ, List.setIfInBounds_toArray, List.set_cons_zero, List.set_cons_succ])
          refine wpAnyH_take (i := 19) (v := ?v16) rfl (by kernel_rfl) (by kernel_rfl) (by kernel_rfl) (fun _ _ _ h => h) (Or.inl ⟨by rfl, ?hy16⟩) (by assumption) ?rest16
          case hy16 => (intro w hSw; (try dsimp only at hSw); (try simp only [List.getElem_toArray, List.getElem_cons_zero, List.getElem_cons_succ]); go_simp; (try with_reducible rfl))
          (try simp only [Act.put, List.getElem_toArray, List.getElem_cons_zero, List.getElem_cons_succ, List.setIfInBounds_toArray, List.set_cons_zero, List.set_cons_succ])
          refine wpAnyH_ready (rs := [20]) (by kernel_rfl) (by simp) ?_
          refine AllReadyH.cons rfl (fun K hK => ?_) AllReadyH.nil
          go_simp
          refine hK.out _ _ ?_ (fun hHeld => ?_)
          · ((refine HS3.out _ ?_; (repeat (with_reducible first | exact HB2.out | exact Below.refl _ _ | refine Below.drew ?_ | refine Below.alloc ?_ (Nat.le_refl _) _ | refine Below.alloc ?_ HB2.out.size _ | exact below_put4 HB2.out (Nat.le_refl _) _ _ _ _))))
          clear hK K
          (try simp only [Act.put, List.getElem_toArray, List.getElem_cons_zero, List.getElem_cons_succ, List.setIfInBounds_toArray, List.set_cons_zero, List.set_cons_succ])
          refine wpAnyH_ready (rs := [21]) (by kernel_rfl) (by simp) ?_
          refine AllReadyH.cons rfl (fun K hK => ?_) AllReadyH.nil
          go_simp
          refine hK.out _ _ ?_ (fun hHeld => ?_)
          · ((refine HS3.out _ ?_; (repeat (with_reducible first | exact HB2.out | exact Below.refl _ _ | refine Below.drew ?_ | refine Below.alloc ?_ (Nat.le_refl _) _ | refine Below.alloc ?_ HB2.out.size _ | exact below_put4 HB2.out (Nat.le_refl _) _ _ _ _))))
          clear hK K
          (try simp only [Act.put, List.getElem_toArray, List.getElem_cons_zero, List.getElem_cons_succ, List.setIfInBounds_toArray, List.set_cons_zero, List.set_cons_succ])
          refine wpAnyH_done (by kernel_rfl) ?_ _
          go_wp2_with fail
          go_meet
          have hwl := blk_lt HM3.out.res
          have h2s := HB2.out.size
          exact ⟨_, rfl, heap_alloc_new w2' _, by omega, HB2.out.alloc HB2.out.size _⟩
        · go_simp
          refine hK.out _ _ ?_ (fun hHeld => ?_)
          · ((refine HS3.out _ ?_; (repeat (with_reducible first | exact HB2.out | exact Below.refl _ _ | refine Below.drew ?_ | refine Below.alloc ?_ (Nat.le_refl _) _ | refine Below.alloc ?_ HB2.out.size _ | exact below_put4 HB2.out (Nat.le_refl _) _ _ _ _))))
          clear hK K
          (try simp only [Act.put, List.getElem_toArray, List.getElem_cons_zero, List.getElem_cons_succ, List.setIfInBounds_toArray, List.set_cons_zero, List.set_cons_succ])
          refine wpAnyH_ready (rs := [18]) (by kernel_rfl) (by simp) ?_
          refine AllReadyH.cons rfl (fun K hK => ?_) AllReadyH.nil
          go_simp
          go_at_call 65; refine (HWH.out _ (wb.alloc (.cells #[.int .i64 0, .int .i64 0, .int .i64 0, .int .i64 0] 34)).drew).mono ?_; rintro e w2' ⟨rfl, hb2⟩; have HB2 := hid (((Below.refl wb.heap.size wb).alloc (Nat.le_refl _) _).drew.trans (hb2.mono (by simp))); have hz : w2'.heap[wb.heap.size]? = some (.cells #[.int .i64 0, .int .i64 0, .int .i64 0, .int .i64 0] 34 (0, 0)) := (hb2.block wb.heap.size (by simp)).trans (heap_alloc_new wb _); have q0 := blk_cell hz 0; have q1 := blk_cell hz 1; have q2 := blk_cell hz 2; have q3 := blk_cell hz 3; have qf := fun j => blk_free hz j; have ql := blk_lt hz; have HZ : Hid (w2'.heap[wb.heap.size]? = some (.cells (evV 0 0 0 0) 34 (0, 0))) := hid hz; simp at q0 q1 q2 q3; clear hz hb2
          refine hK.out _ _ ?_ (fun hHeld => ?_)
          · ((refine HS3.out _ ?_; (repeat (with_reducible first | exact HB2.out | exact Below.refl _ _ | refine Below.drew ?_ | refine Below.alloc ?_ (Nat.le_refl _) _ | refine Below.alloc ?_ HB2.out.size _ | exact below_put4 HB2.out (Nat.le_refl _) _ _ _ _))))
          clear hK K
          (try simp only [Act.put, List.getElem_toArray, List.getElem_cons_zero, List.getElem_cons_succ, List.setIfInBounds_toArray, List.set_cons_zero, List.set_cons_succ])
          refine wpAnyH_take (i := 19) (v := ?v17) rfl (by kernel_rfl) (by kernel_rfl) (by kernel_rfl) (fun _ _ _ h => h) (Or.inl ⟨by rfl, ?hy17⟩) (by assumption) ?rest17
          case hy17 => (intro w hSw; (try dsimp only at hSw); (try simp only [List.getElem_toArray, List.getElem_cons_zero, List.getElem_cons_succ]); go_simp; (try with_reducible rfl))
          (try simp only [Act.put, List.getElem_toArray, List.getElem_cons_zero, List.getElem_cons_succ, List.setIfInBounds_toArray, List.set_cons_zero, List.set_cons_succ])
          refine wpAnyH_ready (rs := [21]) (by kernel_rfl) (by simp) ?_
          refine AllReadyH.cons rfl (fun K hK => ?_) AllReadyH.nil
          go_simp
          refine hK.out _ _ ?_ (fun hHeld => ?_)
          · ((refine HS3.out _ ?_; (repeat (with_reducible first | exact HB2.out | exact Below.refl _ _ | refine Below.drew ?_ | refine Below.alloc ?_ (Nat.le_refl _) _ | refine Below.alloc ?_ HB2.out.size _ | exact below_put4 HB2.out (Nat.le_refl _) _ _ _ _))))
          clear hK K
          (try simp only [Act.put, List.getElem_toArray, List.getElem_cons_zero, List.getElem_cons_succ, List.setIfInBounds_toArray, List.set_cons_zero, List.set_cons_succ])
          refine wpAnyH_done (by kernel_rfl) ?_ _
          go_wp2_with fail
          go_meet
          have hwl := blk_lt HM3.out.res
          have h2s := HB2.out.size
          refine ⟨wb.heap.size, rfl, ?_, hwl, ?_⟩
          · exact put4_heap HZ.out _ _ _ _
          · exact below_put4 HB2.out (Nat.le_refl _) _ _ _ _
      case rest =>
        obtain ⟨b14, rfl, hb14, hl14, hbw⟩ := hcut
        have hm3 := HM3.out.new hbw
        have hob := hm3.obj
        have kf := fun j => blk_free hob j
        have kl := blk_lt hob
        clear k10 k1 z0 z1 z2 z3 z4 z5 z6 z7 o0 o1 o2 HS3 HBB hD
        have k10 := blk_cell hob 10
        simp at k10
        have hset : (wc.setCell ⟨ab, 10, none⟩ (.int .i64 (tn + 1))).heap[ab]? = some (.cells #[.slice A n c, .int .i64 r, .int .i64 t.pc, .int .i64 t.c0, .int .i64 t.c1, .int .i64 t.c2, .int .i64 t.c3, .int .i64 t.c4, .int .i64 t.c5, .bool t.failed, .int .i64 (tn + 1)] 128 (0, 0)) := by
          rw [hp_set, if_pos rfl, hob]; rfl
        have HM4 := hid (hm3.write ((Keep.refl (fun j => j = ab) wc).setCell (.inl rfl) _) hset)
        have hne : b14 ≠ ab := by have := HM4.out.lt; omega
        have HEV := hid ((blk_far (p := ⟨ab, 10, none⟩) hne (.int .i64 (tn + 1))).trans hb14)
        clear hob hset hm3 hb14 hbw
        go_upto_region 8 with fail
        obtain ⟨wd, hwd⟩ : ∃ wd, wd = wc.setCell ⟨ab, 10, none⟩ (.int .i64 (tn + 1)) := ⟨_, rfl⟩
        have hm4 := HM4.out
        have hev := HEV.out
        rw [← hwd] at hm4 hev ⊢
        have x0 := blk_cell hev 0
        have x1 := blk_cell hev 1
        have x2 := blk_cell hev 2
        have x3 := blk_cell hev 3
        have y0 := blk_cell hm4.res 0
        have y1 := blk_cell hm4.res 1
        have y2 := blk_cell hm4.res 2
        have y3 := blk_cell hm4.res 3
        have yf := fun j => blk_free hm4.res j
        simp at x0 x1 x2 x3 y0 y1 y2 y3
        have HMZ := hid hm4
        clear hm4 hev hwd HM4 HEV HM3 k10 kf kl
        go_wp2_with fail
        obtain ⟨wz, hwz⟩ : ∃ wz, wz = put4 wd w.heap.size (.int .i64 tn) (.int .i64 r) (.int .i64 pc) (.int .i64 (whatOf what f D)) := ⟨_, rfl⟩
        have hblk : wz.heap[w.heap.size]? = some (.cells #[.int .i64 tn, .int .i64 r, .int .i64 pc, .int .i64 (whatOf what f D)] 34 (0, 0)) := by rw [hwz]; exact put4_heap HMZ.out.res _ _ _ _
        have hkz := put4_keep wd w.heap.size (.int .i64 tn) (.int .i64 r) (.int .i64 pc) (.int .i64 (whatOf what f D))
        rw [← hwz] at hkz
        unfold put4 at hwz
        rw [← hwz]
        have q0 := blk_cell hblk 0
        have q1 := blk_cell hblk 1
        have q2 := blk_cell hblk 2
        have q3 := blk_cell hblk 3
        simp at q0 q1 q2 q3
        refine bodyPost_ret (v := .tuple #[.agg #[.int .i64 tn, .int .i64 r, .int .i64 pc, .int .i64 (whatOf what f D)], .int .i64 out, .nilIface]) (by simp [results, Tryd.results19, go_sem, q0, q1, q2, q3]) rfl ?_
        rw [HQ.out]
        refine ⟨rfl, HFIN.out wz (HMZ.out.keep.then hkz fun j hj e => ?_) ?_⟩
        · omega
        · have h1 := HMZ.out.lt
          rw [hkz.block ab (blk_lt HMZ.out.obj) (by omega), ← HN.out]
          exact HMZ.out.obj
theorem astep_ok (h : AloneAt w ab A c l r a) (hf : Forms w) {B : Int} (hok : AOk l a B) (hB : B < 4611686018427387904) {o : Op} (ho : l[a.st.pc.toNat]? = some o) (got : Int) (is : Bool) (hg : is = true → cellB got = true) :
    Calls Tryd.prog 19 #[.pointer (some ⟨ab, 0, none⟩), .int .i64 got, .bool is] w fun e w' =>
      e = .returned (.tuple #[.agg #[.int .i64 (aEv r a o is).tick, .int .i64 (aEv r a o is).room, .int .i64 (aEv r a o is).pc, .int .i64 (aEv r a o is).what], .int .i64 (stepDo l.length o a.st got is).2, .nilIface]) ∧ Went w w' (aloneT ab A c l r a) (aloneT ab A c l r (aGo l.length a o got is)) := by
  cases is with
  | true => exact astep_true h hf hok hB ho got true rfl hg
  | false => exact astep_false h hf hok hB ho got false rfl hg
end
end Go.Proofs.YtongkiccglaniaaDoor
