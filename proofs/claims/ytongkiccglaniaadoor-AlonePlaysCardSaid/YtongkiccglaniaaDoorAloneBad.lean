/- Package alone: the contract of Step, of a number that is handed in and is none. -/
import Derived.Test.YtongkiccglaniaaDoorAloneT
namespace Go.Proofs.YtongkiccglaniaaDoor
open Go.RowKit
set_option maxRecDepth 100000
attribute [local go_sem ↓] Go.wp_at_zero Go.wp_at_succ

section
variable {w : World} {ab c : Nat} {A : Option Addr} {l : List Op} {r : Int} {a : Ast}
set_option maxHeartbeats 4000000 in
theorem astep_bad (h : AloneAt w ab A c l r a) (hf : Forms w) {B : Int} (hok : AOk l a B) (got : Int) (hg : cellB got = false) :
    Calls Tryd.prog 19 #[.pointer (some ⟨ab, 0, none⟩), .int .i64 got, .bool true] w fun e w' =>
      e = .returned (.tuple #[.agg #[.int .i64 0, .int .i64 0, .int .i64 0, .int .i64 0], .int .i64 0, errV 1]) ∧ Below w.heap.size w w' := by
  obtain ⟨o, ho, _⟩ := hok.op
  have HNX : Hid (∀ w', Below w.heap.size w w' → Calls Tryd.prog 63 #[.pointer (some ⟨ab, 0, none⟩)] w' fun e w'' => e = .returned (.agg #[.int .i64 o.what, .int .i64 o.a, .int .i64 o.b]) ∧ Below w'.heap.size w' w'') := fun w' hb => anext_any (h.new hb) hok ho
  have hst : stepOf l a.st got true = ((St.zero, 0), 1) := by
    unfold stepOf
    rw [roomChk_ok hok, if_neg (by decide), if_pos ⟨rfl, hg⟩]
  have HSTEP : Hid (∀ w', Below w.heap.size w w' → Calls Tryd.prog 64 #[.slice A l.length c, .agg #[.int .i64 a.st.pc, .int .i64 a.st.c0, .int .i64 a.st.c1, .int .i64 a.st.c2, .int .i64 a.st.c3, .int .i64 a.st.c4, .int .i64 a.st.c5, .bool a.st.failed], .int .i64 got, .bool true] w' fun e w'' => e = .returned (.tuple #[.agg (stV St.zero), .int .i64 0, .iface 125 (.int .i64 1)]) ∧ Below w'.heap.size w' w'') := fun w' hb => by
    have := room_step A c l a.st got true w' (hf.new hb) (h.code.new hb) h.cap
    unfold StepV at this
    rw [hst, errV_pos (by decide)] at this
    exact this
  have HAB := hid h.blk
  obtain ⟨n, hn⟩ : ∃ n, n = l.length := ⟨_, rfl⟩
  rw [← hn] at HSTEP HAB
  obtain ⟨⟨pc, c0, c1, c2, c3, c4, c5, f⟩, tn⟩ := a
  obtain ⟨what, oa, ob⟩ := o
  simp only [] at HNX HSTEP HAB
  unfold aloneObj at HAB
  simp only [] at HAB
  rw [errV_pos (by decide)]
  clear h hf hok hg ho hst hn
  go_enter Tryd.func19, Tryd.ntmps19
  go_upto_region 1 with fail
  obtain ⟨wa, hwa⟩ : ∃ wa, wa = w.alloc (.cells #[.int .i64 0, .int .i64 0, .int .i64 0, .int .i64 0] 34) := ⟨_, rfl⟩
  have hab : Below w.heap.size w wa := by rw [hwa]; exact (Below.refl _ _).alloc (Nat.le_refl _) _
  have haw : wa.heap[w.heap.size]? = some (.cells #[.int .i64 0, .int .i64 0, .int .i64 0, .int .i64 0] 34 (0, 0)) := by rw [hwa]; exact heap_alloc_new w _
  rw [← hwa]
  have HAW := hid haw
  have HBA := hid hab
  have HS : Hid (∀ w', Below wa.heap.size wa w' → (w'.cell? ⟨ab, 2, none⟩ = some (.int .i64 pc) ∧ w'.cell? ⟨ab, 3, none⟩ = some (.int .i64 c0) ∧ w'.cell? ⟨ab, 4, none⟩ = some (.int .i64 c1) ∧ w'.cell? ⟨ab, 5, none⟩ = some (.int .i64 c2) ∧ w'.cell? ⟨ab, 6, none⟩ = some (.int .i64 c3) ∧ w'.cell? ⟨ab, 7, none⟩ = some (.int .i64 c4) ∧ w'.cell? ⟨ab, 8, none⟩ = some (.int .i64 c5) ∧ w'.cell? ⟨ab, 9, none⟩ = some (.bool f))) := fun w' hb => by
    have hx := ((hab.trans (hb.mono hab.size)).block _ (blk_lt HAB.out)).trans HAB.out
    exact ⟨blk_cell hx 2, blk_cell hx 3, blk_cell hx 4, blk_cell hx 5, blk_cell hx 6, blk_cell hx 7, blk_cell hx 8, blk_cell hx 9⟩
  clear hwa hab haw
  go_cut [9, 10] (fun v9 v10 wx => ∃ b9 b10, v9 = .pointer (some ⟨b9, 0, none⟩) ∧ v10 = .pointer (some ⟨b10, 0, none⟩) ∧ wx.heap[b9]? = some (.cells #[.int .i64 pc, .int .i64 c0, .int .i64 c1, .int .i64 c2, .int .i64 c3, .int .i64 c4, .int .i64 c5, .bool f] 40 (0, 0)) ∧ wx.heap[b10]? = some (.cells #[.int .i64 what, .int .i64 oa, .int .i64 ob] 45 (0, 0)) ∧ w.heap.size < b9 ∧ w.heap.size < b10 ∧ b9 ≠ b10 ∧ Below wa.heap.size wa wx)
  case first =>
    clear HSTEP HAB
    have hn2 : ∀ (v : World) (o1 o2 : Obj), ((v.alloc o1).alloc o2).heap[v.heap.size]? = some o1 := fun v o1 o2 => by rw [blk_alloc (by simp)]; exact heap_alloc_new v o1
    have n0 := fun (v : World) (o : Obj) => blk_cell (hn2 v (.cells #[.int .i64 0, .int .i64 0, .int .i64 0, .int .i64 0, .int .i64 0, .int .i64 0, .int .i64 0, .bool false] 40) o) 0
    have n1 := fun (v : World) (o : Obj) => blk_cell (hn2 v (.cells #[.int .i64 0, .int .i64 0, .int .i64 0, .int .i64 0, .int .i64 0, .int .i64 0, .int .i64 0, .bool false] 40) o) 1
    have n2 := fun (v : World) (o : Obj) => blk_cell (hn2 v (.cells #[.int .i64 0, .int .i64 0, .int .i64 0, .int .i64 0, .int .i64 0, .int .i64 0, .int .i64 0, .bool false] 40) o) 2
    have n3 := fun (v : World) (o : Obj) => blk_cell (hn2 v (.cells #[.int .i64 0, .int .i64 0, .int .i64 0, .int .i64 0, .int .i64 0, .int .i64 0, .int .i64 0, .bool false] 40) o) 3
    have n4 := fun (v : World) (o : Obj) => blk_cell (hn2 v (.cells #[.int .i64 0, .int .i64 0, .int .i64 0, .int .i64 0, .int .i64 0, .int .i64 0, .int .i64 0, .bool false] 40) o) 4
    have n5 := fun (v : World) (o : Obj) => blk_cell (hn2 v (.cells #[.int .i64 0, .int .i64 0, .int .i64 0, .int .i64 0, .int .i64 0, .int .i64 0, .int .i64 0, .bool false] 40) o) 5
    have n6 := fun (v : World) (o : Obj) => blk_cell (hn2 v (.cells #[.int .i64 0, .int .i64 0, .int .i64 0, .int .i64 0, .int .i64 0, .int .i64 0, .int .i64 0, .bool false] 40) o) 6
    have n7 := fun (v : World) (o : Obj) => blk_cell (hn2 v (.cells #[.int .i64 0, .int .i64 0, .int .i64 0, .int .i64 0, .int .i64 0, .int .i64 0, .int .i64 0, .bool false] 40) o) 7
    have m0 := fun (v : World) (o : Obj) => blk_cell (hn2 v (.cells #[.int .i64 0, .int .i64 0, .int .i64 0] 45) o) 0
    have m1 := fun (v : World) (o : Obj) => blk_cell (hn2 v (.cells #[.int .i64 0, .int .i64 0, .int .i64 0] 45) o) 1
    have m2 := fun (v : World) (o : Obj) => blk_cell (hn2 v (.cells #[.int .i64 0, .int .i64 0, .int .i64 0] 45) o) 2
    have nf := fun (v : World) (o : Obj) (j : Nat) => blk_free (hn2 v (.cells #[.int .i64 0, .int .i64 0, .int .i64 0, .int .i64 0, .int .i64 0, .int .i64 0, .int .i64 0, .bool false] 40) o) j
    have mf := fun (v : World) (o : Obj) (j : Nat) => blk_free (hn2 v (.cells #[.int .i64 0, .int .i64 0, .int .i64 0] 45) o) j
    simp at n0 n1 n2 n3 n4 n5 n6 n7 m0 m1 m2
    clear hn2
    go_region_held3 (fun w' => (w'.cell? ⟨ab, 2, none⟩ = some (.int .i64 pc) ∧ w'.cell? ⟨ab, 3, none⟩ = some (.int .i64 c0) ∧ w'.cell? ⟨ab, 4, none⟩ = some (.int .i64 c1) ∧ w'.cell? ⟨ab, 5, none⟩ = some (.int .i64 c2) ∧ w'.cell? ⟨ab, 6, none⟩ = some (.int .i64 c3) ∧ w'.cell? ⟨ab, 7, none⟩ = some (.int .i64 c4) ∧ w'.cell? ⟨ab, 8, none⟩ = some (.int .i64 c5) ∧ w'.cell? ⟨ab, 9, none⟩ = some (.bool f)))
      ((refine HS.out _ ?_; (repeat (with_reducible first | exact HB2.out | exact Below.refl _ _ | refine Below.drew ?_ | refine Below.alloc ?_ (by ((try dsimp only); (try simp only [sz_set]); (try simp only [sz_alloc])); first | exact Nat.le_refl _ | exact HB2.out.size | exact Nat.le_succ _ | exact Nat.le_succ_of_le HB2.out.size) _ | refine Below.setCell ?_ (by ((try dsimp only); (try simp only [sz_set]); (try simp only [sz_alloc])); first | exact Nat.le_refl _ | exact HB2.out.size | exact Nat.le_succ _ | exact Nat.le_succ_of_le HB2.out.size) _))))
      (first | (go_at_call 63; refine (HNX.out (wa.drew) (HBA.out.trans (Below.mono (w := wa) ((Below.refl wa.heap.size wa).drew) HBA.out.size))).mono ?_; rintro e w2 ⟨rfl, hb2⟩; have HB2 : Hid (Below wa.heap.size wa w2) := hid (Below.trans (show Below wa.heap.size wa (wa.drew) from (Below.refl wa.heap.size wa).drew) (hb2.mono (by simp; try omega))); clear hb2) | (go_at_call 63; refine (HNX.out ((wa.alloc (.cells #[.int .i64 0, .int .i64 0, .int .i64 0, .int .i64 0, .int .i64 0, .int .i64 0, .int .i64 0, .bool false] 40)).drew) (HBA.out.trans (Below.mono (w := wa) (((Below.refl wa.heap.size wa).alloc (Nat.le_refl _) _).drew) HBA.out.size))).mono ?_; rintro e w2 ⟨rfl, hb2⟩; have HB2 : Hid (Below wa.heap.size wa w2) := hid (Below.trans (show Below wa.heap.size wa ((wa.alloc (.cells #[.int .i64 0, .int .i64 0, .int .i64 0, .int .i64 0, .int .i64 0, .int .i64 0, .int .i64 0, .bool false] 40)).drew) from ((Below.refl wa.heap.size wa).alloc (Nat.le_refl _) _).drew) (hb2.mono (by simp; try omega))); have hzp : w2.heap[wa.heap.size]? = some (.cells #[.int .i64 0, .int .i64 0, .int .i64 0, .int .i64 0, .int .i64 0, .int .i64 0, .int .i64 0, .bool false] 40 (0, 0)) := (hb2.block _ (by simp; try omega)).trans (by simp only [hp_drew, hp_alloc]; (try simp only [sz_alloc]); repeat (first | rw [if_pos True.intro] | rw [if_pos rfl] | rw [if_neg (by omega)])); have zpf := fun j => blk_free hzp j; have zpl := blk_lt hzp; have zp0 := blk_cell hzp 0; have zp1 := blk_cell hzp 1; have zp2 := blk_cell hzp 2; have zp3 := blk_cell hzp 3; have zp4 := blk_cell hzp 4; have zp5 := blk_cell hzp 5; have zp6 := blk_cell hzp 6; have zp7 := blk_cell hzp 7; have HZP := hid hzp; simp at zp0 zp1 zp2 zp3 zp4 zp5 zp6 zp7; clear hzp; clear hb2) | (go_at_call 63; refine (HNX.out ((wa.alloc (.cells #[.int .i64 0, .int .i64 0, .int .i64 0] 45)).drew) (HBA.out.trans (Below.mono (w := wa) (((Below.refl wa.heap.size wa).alloc (Nat.le_refl _) _).drew) HBA.out.size))).mono ?_; rintro e w2 ⟨rfl, hb2⟩; have HB2 : Hid (Below wa.heap.size wa w2) := hid (Below.trans (show Below wa.heap.size wa ((wa.alloc (.cells #[.int .i64 0, .int .i64 0, .int .i64 0] 45)).drew) from ((Below.refl wa.heap.size wa).alloc (Nat.le_refl _) _).drew) (hb2.mono (by simp; try omega))); have hzq : w2.heap[wa.heap.size]? = some (.cells #[.int .i64 0, .int .i64 0, .int .i64 0] 45 (0, 0)) := (hb2.block _ (by simp; try omega)).trans (by simp only [hp_drew, hp_alloc]; (try simp only [sz_alloc]); repeat (first | rw [if_pos True.intro] | rw [if_pos rfl] | rw [if_neg (by omega)])); have zqf := fun j => blk_free hzq j; have zql := blk_lt hzq; have zq0 := blk_cell hzq 0; have zq1 := blk_cell hzq 1; have zq2 := blk_cell hzq 2; have HZQ := hid hzq; simp at zq0 zq1 zq2; clear hzq; clear hb2) | (go_at_call 63; refine (HNX.out (((wa.alloc (.cells #[.int .i64 0, .int .i64 0, .int .i64 0, .int .i64 0, .int .i64 0, .int .i64 0, .int .i64 0, .bool false] 40)).alloc (.cells #[.int .i64 0, .int .i64 0, .int .i64 0] 45)).drew) (HBA.out.trans (Below.mono (w := wa) ((((Below.refl wa.heap.size wa).alloc (Nat.le_refl _) _).alloc (by simp) _).drew) HBA.out.size))).mono ?_; rintro e w2 ⟨rfl, hb2⟩; have HB2 : Hid (Below wa.heap.size wa w2) := hid (Below.trans (show Below wa.heap.size wa (((wa.alloc (.cells #[.int .i64 0, .int .i64 0, .int .i64 0, .int .i64 0, .int .i64 0, .int .i64 0, .int .i64 0, .bool false] 40)).alloc (.cells #[.int .i64 0, .int .i64 0, .int .i64 0] 45)).drew) from (((Below.refl wa.heap.size wa).alloc (Nat.le_refl _) _).alloc (by simp) _).drew) (hb2.mono (by simp; try omega))); have hzp : w2.heap[wa.heap.size]? = some (.cells #[.int .i64 0, .int .i64 0, .int .i64 0, .int .i64 0, .int .i64 0, .int .i64 0, .int .i64 0, .bool false] 40 (0, 0)) := (hb2.block _ (by simp; try omega)).trans (by simp only [hp_drew, hp_alloc]; (try simp only [sz_alloc]); repeat (first | rw [if_pos True.intro] | rw [if_pos rfl] | rw [if_neg (by omega)])); have zpf := fun j => blk_free hzp j; have zpl := blk_lt hzp; have zp0 := blk_cell hzp 0; have zp1 := blk_cell hzp 1; have zp2 := blk_cell hzp 2; have zp3 := blk_cell hzp 3; have zp4 := blk_cell hzp 4; have zp5 := blk_cell hzp 5; have zp6 := blk_cell hzp 6; have zp7 := blk_cell hzp 7; have HZP := hid hzp; simp at zp0 zp1 zp2 zp3 zp4 zp5 zp6 zp7; clear hzp; have hzq : w2.heap[wa.heap.size + 1]? = some (.cells #[.int .i64 0, .int .i64 0, .int .i64 0] 45 (0, 0)) := (hb2.block _ (by simp; try omega)).trans (by simp only [hp_drew, hp_alloc]; (try simp only [sz_alloc]); repeat (first | rw [if_pos True.intro] | rw [if_pos rfl] | rw [if_neg (by omega)])); have zqf := fun j => blk_free hzq j; have zql := blk_lt hzq; have zq0 := blk_cell hzq 0; have zq1 := blk_cell hzq 1; have zq2 := blk_cell hzq 2; have HZQ := hid hzq; simp at zq0 zq1 zq2; clear hzq; clear hb2) | (go_at_call 63; refine (HNX.out (((wa.alloc (.cells #[.int .i64 0, .int .i64 0, .int .i64 0] 45)).alloc (.cells #[.int .i64 0, .int .i64 0, .int .i64 0, .int .i64 0, .int .i64 0, .int .i64 0, .int .i64 0, .bool false] 40)).drew) (HBA.out.trans (Below.mono (w := wa) ((((Below.refl wa.heap.size wa).alloc (Nat.le_refl _) _).alloc (by simp) _).drew) HBA.out.size))).mono ?_; rintro e w2 ⟨rfl, hb2⟩; have HB2 : Hid (Below wa.heap.size wa w2) := hid (Below.trans (show Below wa.heap.size wa (((wa.alloc (.cells #[.int .i64 0, .int .i64 0, .int .i64 0] 45)).alloc (.cells #[.int .i64 0, .int .i64 0, .int .i64 0, .int .i64 0, .int .i64 0, .int .i64 0, .int .i64 0, .bool false] 40)).drew) from (((Below.refl wa.heap.size wa).alloc (Nat.le_refl _) _).alloc (by simp) _).drew) (hb2.mono (by simp; try omega))); have hzq : w2.heap[wa.heap.size]? = some (.cells #[.int .i64 0, .int .i64 0, .int .i64 0] 45 (0, 0)) := (hb2.block _ (by simp; try omega)).trans (by simp only [hp_drew, hp_alloc]; (try simp only [sz_alloc]); repeat (first | rw [if_pos True.intro] | rw [if_pos rfl] | rw [if_neg (by omega)])); have zqf := fun j => blk_free hzq j; have zql := blk_lt hzq; have zq0 := blk_cell hzq 0; have zq1 := blk_cell hzq 1; have zq2 := blk_cell hzq 2; have HZQ := hid hzq; simp at zq0 zq1 zq2; clear hzq; have hzp : w2.heap[wa.heap.size + 1]? = some (.cells #[.int .i64 0, .int .i64 0, .int .i64 0, .int .i64 0, .int .i64 0, .int .i64 0, .int .i64 0, .bool false] 40 (0, 0)) := (hb2.block _ (by simp; try omega)).trans (by simp only [hp_drew, hp_alloc]; (try simp only [sz_alloc]); repeat (first | rw [if_pos True.intro] | rw [if_pos rfl] | rw [if_neg (by omega)])); have zpf := fun j => blk_free hzp j; have zpl := blk_lt hzp; have zp0 := blk_cell hzp 0; have zp1 := blk_cell hzp 1; have zp2 := blk_cell hzp 2; have zp3 := blk_cell hzp 3; have zp4 := blk_cell hzp 4; have zp5 := blk_cell hzp 5; have zp6 := blk_cell hzp 6; have zp7 := blk_cell hzp 7; have HZP := hid hzp; simp at zp0 zp1 zp2 zp3 zp4 zp5 zp6 zp7; clear hzp; clear hb2))
    all_goals
      go_wp2_with fail
      go_meet
      have hwl := blk_lt HAW.out
      have h2s := HB2.out.size
      refine ⟨_, _, rfl, rfl, ?_, ?_, ?_, ?_, ?_, ?_⟩
      · ((try simp only [hp_set]); (try simp only [hp_alloc]); (try simp only [sz_set]); (try simp only [sz_alloc]); (try simp only [sz_set]); (repeat (first | rw [if_pos True.intro] | rw [if_pos rfl] | rw [if_neg (by omega)])); (try simp only [hp_set]); (repeat (first | rw [if_pos True.intro] | rw [if_pos rfl] | rw [if_neg (by omega)])); (first | done | (rw [HZP.out]; rfl) | (rw [HZQ.out]; rfl)))
      · ((try simp only [hp_set]); (try simp only [hp_alloc]); (try simp only [sz_set]); (try simp only [sz_alloc]); (try simp only [sz_set]); (repeat (first | rw [if_pos True.intro] | rw [if_pos rfl] | rw [if_neg (by omega)])); (try simp only [hp_set]); (repeat (first | rw [if_pos True.intro] | rw [if_pos rfl] | rw [if_neg (by omega)])); (first | done | (rw [HZP.out]; rfl) | (rw [HZQ.out]; rfl)))
      · ((try dsimp only); (try simp only [sz_set]); (try simp only [sz_alloc])); omega
      · ((try dsimp only); (try simp only [sz_set]); (try simp only [sz_alloc])); omega
      · ((try dsimp only); (try simp only [sz_set]); (try simp only [sz_alloc])); omega
      · repeat (with_reducible first | exact HB2.out | exact Below.refl _ _ | refine Below.drew ?_ | refine Below.alloc ?_ (by ((try dsimp only); (try simp only [sz_set]); (try simp only [sz_alloc])); first | exact Nat.le_refl _ | exact HB2.out.size | exact Nat.le_succ _ | exact Nat.le_succ_of_le HB2.out.size) _ | refine Below.setCell ?_ (by ((try dsimp only); (try simp only [sz_set]); (try simp only [sz_alloc])); first | exact Nat.le_refl _ | exact HB2.out.size | exact Nat.le_succ _ | exact Nat.le_succ_of_le HB2.out.size) _)
  case rest =>
    obtain ⟨b9, b10, rfl, rfl, h9, h10, hl9, hl10, hne, hb⟩ := hcut
    have hmid : AlMid w wc ab b9 b10 (.cells #[.slice A n c, .int .i64 r, .int .i64 pc, .int .i64 c0, .int .i64 c1, .int .i64 c2, .int .i64 c3, .int .i64 c4, .int .i64 c5, .bool f, .int .i64 tn] 128 (0, 0)) ⟨pc, c0, c1, c2, c3, c4, c5, f⟩ ⟨what, oa, ob⟩ :=
      ⟨((HBA.out.trans (hb.mono HBA.out.size)).block _ (blk_lt HAB.out)).trans HAB.out, h9, h10, (hb.block _ (blk_lt HAW.out)).trans HAW.out, Keep.of_below _ (HBA.out.trans (hb.mono HBA.out.size)), blk_lt HAB.out, hl9, hl10⟩
    have HMD := hid hmid
    have HBW : Hid (Below w.heap.size w wc) := HBA.out.trans (hb.mono HBA.out.size)
    have HS2 : Hid (∀ w', Below wc.heap.size wc w' → w'.cell? ⟨ab, 0, none⟩ = some (.slice A n c) ∧ (w'.cell? ⟨b9, 0, none⟩ = some (.int .i64 pc) ∧ w'.cell? ⟨b9, 1, none⟩ = some (.int .i64 c0) ∧ w'.cell? ⟨b9, 2, none⟩ = some (.int .i64 c1) ∧ w'.cell? ⟨b9, 3, none⟩ = some (.int .i64 c2) ∧ w'.cell? ⟨b9, 4, none⟩ = some (.int .i64 c3) ∧ w'.cell? ⟨b9, 5, none⟩ = some (.int .i64 c4) ∧ w'.cell? ⟨b9, 6, none⟩ = some (.int .i64 c5) ∧ w'.cell? ⟨b9, 7, none⟩ = some (.bool f))) := fun w' hb' => by
      have hx := hmid.new hb'
      exact ⟨blk_cell hx.obj 0, blk_cell hx.was 0, blk_cell hx.was 1, blk_cell hx.was 2, blk_cell hx.was 3, blk_cell hx.was 4, blk_cell hx.was 5, blk_cell hx.was 6, blk_cell hx.was 7⟩
    obtain ⟨y0, z0, z1, z2, z3, z4, z5, z6, z7⟩ := HS2.out _ (Below.refl _ _)
    clear h9 h10 hl9 hl10 hne hb hmid HS HBA HAW HNX
    go_upto_region 2 with fail
    go_cut [11, 12, 13] (fun v11 v12 v13 wx => ∃ b11, v11 = .pointer (some ⟨b11, 0, none⟩) ∧ v12 = .int .i64 0 ∧ v13 = .iface 125 (.int .i64 1) ∧ wx.heap[b11]? = some (.cells (stV St.zero) 40 (0, 0)) ∧ w.heap.size < b11 ∧ Below wc.heap.size wc wx)
    case first =>
      clear HAB
      go_region_held3 (fun w' => w'.cell? ⟨ab, 0, none⟩ = some (.slice A n c) ∧ (w'.cell? ⟨b9, 0, none⟩ = some (.int .i64 pc) ∧ w'.cell? ⟨b9, 1, none⟩ = some (.int .i64 c0) ∧ w'.cell? ⟨b9, 2, none⟩ = some (.int .i64 c1) ∧ w'.cell? ⟨b9, 3, none⟩ = some (.int .i64 c2) ∧ w'.cell? ⟨b9, 4, none⟩ = some (.int .i64 c3) ∧ w'.cell? ⟨b9, 5, none⟩ = some (.int .i64 c4) ∧ w'.cell? ⟨b9, 6, none⟩ = some (.int .i64 c5) ∧ w'.cell? ⟨b9, 7, none⟩ = some (.bool f)))
        ((refine HS2.out _ ?_; (repeat (with_reducible first | exact HB2.out | exact Below.refl _ _ | refine Below.drew ?_ | refine Below.alloc ?_ (Nat.le_refl _) _ | refine Below.alloc ?_ HB2.out.size _ | exact below_put0 HB2.out (Nat.le_refl _) _ _ _ _ _ _ _ _))))
        (first | (go_at_call 64; refine (HSTEP.out _ HBW.out.drew).mono ?_; rintro e w2' ⟨rfl, hb2⟩; unfold stV; have HB2 := hid ((Below.refl wc.heap.size wc).drew.trans hb2); clear hb2) | (go_at_call 64; refine (HSTEP.out _ (HBW.out.alloc HBW.out.size _).drew).mono ?_; rintro e w2' ⟨rfl, hb2⟩; unfold stV; have HB2 := hid (((Below.refl wc.heap.size wc).alloc (Nat.le_refl _) _).drew.trans (hb2.mono (by simp))); have hz : w2'.heap[wc.heap.size]? = some (.cells (stV St.zero) 40 (0, 0)) := (hb2.block wc.heap.size (by simp)).trans (heap_alloc_new wc _); have q0 := blk_cell hz 0; have q1 := blk_cell hz 1; have q2 := blk_cell hz 2; have q3 := blk_cell hz 3; have q4 := blk_cell hz 4; have q5 := blk_cell hz 5; have q6 := blk_cell hz 6; have q7 := blk_cell hz 7; have qf := fun j => blk_free hz j; have HZ := hid hz; unfold stV at q0 q1 q2 q3 q4 q5 q6 q7; simp at q0 q1 q2 q3 q4 q5 q6 q7; clear hz hb2))
      all_goals
        go_wp2_with fail
        go_meet
        have hwl := blk_lt HMD.out.res
        have h2s := HB2.out.size
      · exact ⟨_, rfl, rfl, rfl, heap_alloc_new w2' _, by omega, HB2.out.alloc HB2.out.size _⟩
      · exact ⟨_, rfl, rfl, rfl, put8_heap HZ.out, hwl, below_put0 HB2.out (Nat.le_refl _) _ _ _ _ _ _ _ _⟩
    case rest =>
      obtain ⟨b11, rfl, rfl, rfl, hb11, hl11, hbw⟩ := hcut
      replace HMD := hid (HMD.out.new hbw)
      have hob := HMD.out.res
      have y0 := blk_cell hob 0
      have y1 := blk_cell hob 1
      have y2 := blk_cell hob 2
      have y3 := blk_cell hob 3
      have yf := fun j => blk_free hob j
      simp at y0 y1 y2 y3
      have HBZ := hid (HBW.out.trans (hbw.mono HBW.out.size))
      clear hob hbw hb11 hl11 HS2 HBW z0 z1 z2 z3 z4 z5 z6 z7
      go_wp2_with fail
      have hz : ((((wc.setCell ⟨w.heap.size, 0, none⟩ (.int .i64 0)).setCell ⟨w.heap.size, 1, none⟩ (.int .i64 0)).setCell ⟨w.heap.size, 2, none⟩ (.int .i64 0)).setCell ⟨w.heap.size, 3, none⟩ (.int .i64 0)).heap[w.heap.size]? = some (.cells #[.int .i64 0, .int .i64 0, .int .i64 0, .int .i64 0] 34 (0, 0)) := put4_heap HMD.out.res _ _ _ _
      obtain ⟨wz, hwz⟩ : ∃ wz, wz = ((((wc.setCell ⟨w.heap.size, 0, none⟩ (.int .i64 0)).setCell ⟨w.heap.size, 1, none⟩ (.int .i64 0)).setCell ⟨w.heap.size, 2, none⟩ (.int .i64 0)).setCell ⟨w.heap.size, 3, none⟩ (.int .i64 0)) := ⟨_, rfl⟩
      have hbz : Below w.heap.size w wz := by rw [hwz]; exact below_put4 HBZ.out (Nat.le_refl _) _ _ _ _
      rw [← hwz] at hz ⊢
      have q0 := blk_cell hz 0
      have q1 := blk_cell hz 1
      have q2 := blk_cell hz 2
      have q3 := blk_cell hz 3
      simp at q0 q1 q2 q3
      refine bodyPost_ret (v := .tuple #[.agg #[.int .i64 0, .int .i64 0, .int .i64 0, .int .i64 0], .int .i64 0, .iface 125 (.int .i64 1)]) (by simp [results, Tryd.results19, go_sem, q0, q1, q2, q3]) rfl ?_
      exact ⟨rfl, hbz⟩
end
end Go.Proofs.YtongkiccglaniaaDoor
