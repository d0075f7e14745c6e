/- Package flow: the contract of Ways, for every list of wires that is right: who reaches whom. -/
import Derived.Test.YtfokcjooibmigaaDoorWays
import Derived.StillTailTactics
namespace Go.Proofs.YtfokcjooibmigaaDoor
open Go.RowKit
set_option maxRecDepth 100000

def isT : Option Value → Nat
  | some (.bool true) => 1
  | _ => 0
def cntW (w : World) (b a : Nat) : Nat := isT (w.cell? ⟨b, a * 5, none⟩) + isT (w.cell? ⟨b, a * 5 + 1, none⟩) + isT (w.cell? ⟨b, a * 5 + 2, none⟩) + isT (w.cell? ⟨b, a * 5 + 3, none⟩) + isT (w.cell? ⟨b, a * 5 + 4, none⟩)
theorem cntW_eq {w : World} {b t a : Nat} {M : Nat → Bool} (h : w.heap[b]? = some (.cells (bitsA M) t (0, 0))) (ha : a < 5) : cntW w b a = cnt M a := by
  have g := fun i (hi : i < 25) => (blk_cell h i).trans (bitsA_get M hi)
  unfold cntW cnt
  rw [g (a * 5) (by omega), g (a * 5 + 1) (by omega), g (a * 5 + 2) (by omega), g (a * 5 + 3) (by omega), g (a * 5 + 4) (by omega)]
  have : ∀ x, isT (some (.bool x)) = x.toNat := fun x => by cases x <;> rfl
  simp only [this]
theorem cell_alloc_at {w : World} {b i t : Nat} {cs : Array Value} {v : Value} (h : b = w.heap.size) (hv : cs[i]? = some v) : (w.alloc (.cells cs t)).cell? ⟨b, i, none⟩ = some v := by subst h; exact (blk_cell (heap_alloc_new w _) i).trans hv
def lenOf : Value → Nat
  | .slice _ n _ => n
  | _ => 0
def nats (Q : List Nat) : List Int := Q.map (fun (v : Nat) => (v : Int))

/-- Who reaches whom, as a value. -/
noncomputable def waysV (l : List Wire) : Array Value := bitsA fun i => reachB l (i / 5) (i % 5)
def IsWays (w : World) (l : List Wire) (e : Ending) (w' : World) : Prop := e = .returned (.agg (waysV l)) ∧ Below w.heap.size w w'

set_option maxHeartbeats 8000000 in
set_option maxRecDepth 100000 in
theorem ways_any (A0 : Option Addr) (c0 : Nat) (l : List Wire) (w : World) (hs : Sl w A0 4 l.length (l.flatMap Wire.cells)) (hl : l.length ≤ 12) (hr : InRooms l) :
    Calls Tryd.prog 51 #[.slice A0 l.length c0] w (IsWays w l) := by
  obtain ⟨i0, hi0, hz0, hz1, hz2⟩ := info_parts Tryd.infoInt
  have HS := hid hs
  have HR := hid hr
  clear hs hr
  go_enter Tryd.func51, Tryd.ntmps51
  go_wp2_with fail
  go_loopw [4, 5, 7, 8] (fun v4 v5 v7 v8 wr => ∃ (a : Nat) (M : Nat → Bool), a ≤ 5 ∧ v8 = .int .i64 a ∧ wr.heap[w.heap.size]? = some (.cells (bitsA fun _ => false) 53 (0, 0)) ∧ wr.heap[w.heap.size + 1]? = some (.cells (bitsA M) 53 (0, 0)) ∧
      (∀ u v, u < a → v < 5 → M (u * 5 + v) = reachB l u v) ∧ (∀ u v, a ≤ u → u < 5 → v < 5 → M (u * 5 + v) = false) ∧ Below w.heap.size w wr) (fun _ _ _ v8 _ => 5 - (intOf v8).toNat)
  case atStart =>
    refine ⟨0, fun _ => false, by omega, rfl, ?_, ?_, fun u v hu => absurd hu (by omega), fun _ _ _ _ _ => rfl, ((Below.refl _ _).alloc (Nat.le_refl _) _).alloc (by simp) _⟩
    · rw [hp_alloc, if_neg (by simp), hp_alloc, if_pos rfl]; rfl
    · rw [hp_alloc, if_pos (by simp)]; rfl
  case round =>
    obtain ⟨a, M, ha, rfl, hb0, hb1, hd, hf, hb⟩ := hrel
    have HB0 := hid hb0
    have HB1 := hid hb1
    have HD := hid hd
    have HF := hid hf
    have HB := hid hb
    have hlt1 := blk_lt hb1
    clear hb0 hb1 hd hf hb
    by_cases hlt : a < 5
    · have hlti : (a : Int) < 5 := by omega
      have k1 := (blk_cell HB1.out (a * 5 + a)).trans (bitsA_get M (by omega))
      have f1 := blk_free HB1.out (a * 5 + a)
      go_wp2_with fail
      go_loopw [5, 7] (fun v5 v7 wq => ∃ (M2 : Nat → Bool) (Q : List Nat) (A : Option Addr) (n cap : Nat), v5 = .slice A n cap ∧ Q.length = n ∧ Row wq 3 1 A n cap (ints (nats Q)) ∧ (∀ k, InA A k → w.heap.size + 2 ≤ k) ∧
          wq.heap[w.heap.size]? = some (.cells (bitsA fun _ => false) 53 (0, 0)) ∧ wq.heap[w.heap.size + 1]? = some (.cells (bitsA M2) 53 (0, 0)) ∧ Bfs l a M2 Q ∧ 2 * (5 - cnt M2 a) + Q.length ≤ 9 ∧ Below w.heap.size w wq)
        (fun v5 _ wq => 2 * (5 - cntW wq (w.heap.size + 1) a) + lenOf v5)
      case atStart =>
        refine ⟨upd M (a * 5 + a), [a], some ⟨wr.heap.size, 0, none⟩, 1, 1, rfl, rfl, ⟨rfl, .inr ⟨wr.heap.size, 0, #[.int .i64 a], rfl, ?_, by simp, by simp [maxLen], by simp, ?_⟩⟩, fun k hk => by simp [InA] at hk; omega, ?_, ?_, Bfs.start hlt HD.out HF.out, (by have := cnt_upd (a := a) hlt (HF.out a a (Nat.le_refl _) hlt hlt); simp only [List.length_cons, List.length_nil]; omega), ?_⟩
        · rw [hp_alloc, sz_set, if_pos rfl]
        · intro j u hu
          match j, hu with
          | 0, hu => simpa [ints, nats] using hu
        · rw [hp_alloc, sz_set, if_neg (by omega), hp_set, if_neg (by omega)]; exact HB0.out
        · rw [hp_alloc, sz_set, if_neg (by omega), hp_set, if_pos rfl, HB1.out]
          simp only [Option.map_some, setObj]
          rw [bitsA_set _ (by omega)]
        · exact (HB.out.setCell (by simp) _).alloc (by rw [sz_set]; exact HB.out.size) _
      case round =>
        obtain ⟨M2, Q, A, n, cap, rfl, hqn, hrow, hnew, hc0, hc1, hbfs, hpot2, hbel⟩ := hrel
        obtain ⟨wq, hwq⟩ : ∃ wq : World, wq = wr := ⟨_, rfl⟩
        subst hwq
        have HROW := hid hrow
        have HNEW := hid hnew
        have HC0 := hid hc0
        have HC1 := hid hc1
        have HBFS := hid hbfs
        have HPOT2 := hid hpot2
        have HBEL := hid hbel
        have hlt2 := blk_lt hc1
        clear hrow hnew hc0 hc1 hbfs hpot2 hbel
        cases Q with
        | nil =>
          simp only [List.length_nil] at hqn
          subst hqn
          go_wp2_with fail
          go_roundw
          case rel => exact ⟨a + 1, M2, by omega, by go_num, HC0.out, HC1.out, HBFS.out.finish HR.out hlt, fun u v hu h5 hv => HBFS.out.fresh u v (by omega) h5 hv, HBEL.out⟩
          case measure => simp [intOf]; omega
        | cons u Q =>
          simp only [List.length_cons] at hqn
          have hn1 : 1 ≤ n := by omega
          have hn0 : 0 < n := by omega
          have hn63 := HROW.out.le
          unfold maxLen at hn63
          have HQN := hid hqn
          clear hqn
          go_wp2_with fail
          go_loopw [5, 7, 24] (fun v5 v7 v24 wi => ∃ (k : Nat) (M3 : Nat → Bool) (Q3 : List Nat) (A3 : Option Addr) (n3 cap3 : Nat), k ≤ l.length ∧ v24 = .int .i64 k ∧ v5 = .slice A3 n3 cap3 ∧ Q3.length + 1 = n3 ∧ Row wi 3 1 A3 n3 cap3 (ints (nats (u :: Q3))) ∧ (∀ k, InA A3 k → w.heap.size + 2 ≤ k) ∧
              wi.heap[w.heap.size]? = some (.cells (bitsA fun _ => false) 53 (0, 0)) ∧ wi.heap[w.heap.size + 1]? = some (.cells (bitsA M3) 53 (0, 0)) ∧ Mid l a M3 u Q3 k ∧
              2 * (5 - cnt M3 a) + (Q3.length + 1) ≤ 2 * (5 - cnt M2 a) + (Q.length + 1) ∧ Below w.heap.size w wi) (fun _ _ v24 _ => l.length - (intOf v24).toNat)
          case atStart => exact ⟨0, M2, Q, A, n, cap, by omega, rfl, rfl, HQN.out, HROW.out, HNEW.out, HC0.out, HC1.out, Mid.start HBFS.out, Nat.le_refl _, HBEL.out⟩
          case round =>
            obtain ⟨k, M3, Q3, A3, n3, cap3, hk, rfl, rfl, hqn3, hrow3, hnew3, hd0, hd1, hmid, hpot, hbel3⟩ := hrel
            obtain ⟨wi, hwi⟩ : ∃ wi : World, wi = wr := ⟨_, rfl⟩
            subst hwi
            have HROW3 := hid hrow3
            have HNEW3 := hid hnew3
            have HD0 := hid hd0
            have HD1 := hid hd1
            have HMID := hid hmid
            have HPOT := hid hpot
            have HBEL3 := hid hbel3
            have hlt3 := blk_lt hd1
            have hle3 := hrow3.le
            have hq3l : Q3.length ≤ 8 := by have := HPOT2.out; simp only [List.length_cons] at this; omega
            have hq := hmid.bfs.queue u (by simp)
            have hu5 := hq.1
            have hsl := hrow3.sl.2 (by omega)
            have hn31 : 1 ≤ n3 := by omega
            have hn38 : n3 ≤ 9 := by omega
            have HQN3 := hid hqn3
            clear hrow3 hnew3 hd0 hd1 hmid hpot hbel3 hq hqn3
            unfold maxLen at hle3
            by_cases hkl : k < l.length
            · obtain ⟨b, off, rfl, hlb, g0, g1, g2, g3⟩ := HS.out.wire HBEL3.out hkl hkl
              have hget := List.getElem?_eq_getElem hkl
              have hin := HR.out l[k] (List.getElem_mem hkl)
              have hltb : b < wi.heap.size := cell_lt g0
              generalize l[k] = x at g0 g1 g2 g3 hget hin
              obtain ⟨f, t, kk, dd⟩ := x
              obtain ⟨⟨hf0, hf5⟩, ht0, ht5⟩ := hin
              simp only [] at g0 g1 g2 g3 hf0 hf5 ht0 ht5
              obtain ⟨t, rfl⟩ : ∃ n : Nat, t = n := ⟨t.toNat, by omega⟩
              have ht5' : t < 5 := by omega
              have HG := hid hget
              clear hget
              obtain ⟨qb, qo, rfl, hqb, hqx⟩ := hsl
              have qc : wi.cell? ⟨qb, qo, none⟩ = some (.int .i64 u) := hqx 0 _ rfl
              clear hqx
              have oc := (blk_cell HD1.out (a * 5 + t)).trans (bitsA_get M3 (by omega))
              have of := blk_free HD1.out (a * 5 + t)
              generalize hm : M3 (a * 5 + t) = m at oc
              have HM := hid hm
              clear hm
              by_cases hfu : f = (u : Int)
              · subst hfu
                cases m with
                | true =>
                  go_wp2_with fail
                  go_quiet (fail)
                  go_wp2_with fail
                  go_roundw
                  case rel =>
                    have hkp : ∀ o : Obj, Keep (fun _ => False) wi ((wi.alloc o).drewN nq) := fun o => ((Keep.refl _ wi).alloc o).drewN nq
                    exact ⟨k + 1, M3, Q3, _, n3, cap3, by omega, by go_num, rfl, HQN3.out, HROW3.out.through (hkp _) (fun _ _ h => h), HNEW3.out, ((hkp _).block _ (by omega) (fun h => h)).trans HD0.out, ((hkp _).block _ hlt3 (fun h => h)).trans HD1.out, HMID.out.skip HG.out (fun _ => by simpa using HM.out), HPOT.out, HBEL3.out.trans ((hkp _).below HBEL3.out.size (fun _ h => h.elim))⟩
                  case measure => simp [intOf]; omega
                | false =>
                  have HAP : Hid (¬ InA (some ⟨qb, qo, none⟩) (w.heap.size + 1)) := HROW3.out.apart HD1.out (by decide)
                  go_wp2_with fail
                  go_quiet (fail)
                  go_wp2_with fail
                  have x1 : ((wi.alloc (Obj.cells #[.int .i64 u, .int .i64 t, .int .i64 kk, .int .i64 dd] 23)).drewN nq).cell? ⟨wi.heap.size, 1, none⟩ = some (.int .i64 t) := blk_cell (heap_alloc_new wi _) 1
                  have x2 : ((wi.alloc (Obj.cells #[.int .i64 u, .int .i64 t, .int .i64 kk, .int .i64 dd] 23)).drewN nq).cell? ⟨w.heap.size + 1, a * 5 + t, none⟩ = some (.bool false) := (World.cell?_alloc_lt wi _ ⟨w.heap.size + 1, a * 5 + t, none⟩ hlt3).trans oc
                  have x3 : ((wi.alloc (Obj.cells #[.int .i64 u, .int .i64 t, .int .i64 kk, .int .i64 dd] 23)).drewN nq).frozen? ⟨w.heap.size + 1, a * 5 + t, none⟩ = false := (World.frozen?_of_block (w := wi) (a := ⟨w.heap.size + 1, a * 5 + t, none⟩) (blk_alloc hlt3 _)).trans of
                  have x4 : wi.heap.size < ((wi.alloc (Obj.cells #[.int .i64 u, .int .i64 t, .int .i64 kk, .int .i64 dd] 23)).drewN nq).heap.size := by simp
                  have xk : ∀ F, Keep F wi ((wi.alloc (Obj.cells #[.int .i64 u, .int .i64 t, .int .i64 kk, .int .i64 dd] 23)).drewN nq) := fun F => ((Keep.refl _ wi).alloc _).drewN nq
                  generalize ((wi.alloc (Obj.cells #[.int .i64 u, .int .i64 t, .int .i64 kk, .int .i64 dd] 23)).drewN nq) = wx at *
                  have XK := hid xk
                  have hxn : wi.heap.size ≠ w.heap.size + 1 := by omega
                  have hxm : w.heap.size + 1 ≠ wi.heap.size := by omega
                  clear xk oc of qc
                  go_region
                  all_goals go_wp2_with (first
                    | (at_builtin
                       refine wpList_append_row _ rfl (.tmp 48) (.tmp 51) 24 rfl 3 i0 (.int .i64 0) 1 8 Tryd.underlying24 hi0 hz0 hz1 hz2 rfl (by decide) (some ⟨qb, qo, none⟩) n3 cap3 (ints (nats (u :: Q3))) rfl
                         (by exact (HROW3.out.through (XK.out (fun _ => False)) (fun _ _ h => h)).through (F := fun i => i = w.heap.size + 1) (by repeat (first | exact Keep.refl _ _ | refine Keep.drewN ?_ _ | refine Keep.drew ?_ | refine Keep.alloc ?_ _ | refine Keep.setCell ?_ (by exact Or.inl rfl) _)) (fun i hi h => HAP.out (by subst h; exact hi)))
                         (some ⟨wx.heap.size, 0, none⟩) 1 1 (ints [(t : Int)]) rfl
                         (by exact ⟨rfl, fun _ => ⟨wx.heap.size, 0, rfl, by simp, fun j v hv => by
                               match j, hv with
                               | 0, hv => (simp [ints] at hv; subst hv; exact cell_alloc_at (by simp) rfl)⟩⟩)
                         (ints_one _) (by unfold maxLen; omega) (by omega) ?_
                       intro A4 cap4 w4 hr4 hk4 hi4))
                  all_goals
                    have hK : Keep (fun i => i = w.heap.size + 1 ∨ InA (some ⟨qb, qo, none⟩) i) wi w4 := Keep.then (by repeat (first | exact XK.out _ | refine Keep.drewN ?_ _ | refine Keep.drew ?_ | refine Keep.alloc ?_ _ | refine Keep.setCell ?_ (by exact Or.inl (Or.inl rfl)) _)) hk4 (fun i _ h => .inr h)
                    have e4 := hk4.block (w.heap.size + 1) (by simp; omega) HAP.out
                    simp only [hp_alloc, hp_drew, hp_set, sz_set, if_true] at e4
                    rw [if_neg (by omega), (XK.out (fun _ => False)).block _ hlt3 (fun h => h), HD1.out] at e4
                    simp only [Option.map_some, setObj] at e4
                    rw [bitsA_set _ (by omega)] at e4
                    have hz4 := hk4.size
                    have E4 := hid e4
                    have HK4 := hid hK
                    have HR4 := hid hr4
                    have HI4 := hid hi4
                    clear e4 hK hr4 hi4 hk4
                    go_wp2_with fail
                    go_roundw
                    case rel =>
                      have hK := HK4.out
                      have hbs := HBEL3.out.size
                      have hml := HMID.out.hit HR.out hlt HG.out rfl (by simpa using HM.out)
                      refine ⟨k + 1, upd M3 (a * 5 + t), Q3 ++ [t], A4, n3 + 1, cap4, by omega, by go_num, rfl, by have := HQN3.out; simp; omega, by simpa [ints, nats] using HR4.out, ?_, ?_, E4.out, by simpa using hml, ?_, HBEL3.out.trans (hK.below hbs ?_)⟩
                      · intro i hi
                        rcases HI4.out i hi with h | h
                        · exact HNEW3.out i h
                        · have := (XK.out (fun _ => False)).size; simp at h; omega
                      · refine (hK.block _ (by omega) ?_).trans HD0.out
                        rintro (h | h)
                        · omega
                        · have := HNEW3.out _ h; omega
                      · have := HPOT.out
                        have := cnt_upd (a := a) ht5' HM.out
                        have := cnt_le (upd M3 (a * 5 + t)) a
                        simp only [List.length_append, List.length_cons, List.length_nil]
                        omega
                      · rintro i (h | h)
                        · omega
                        · have := HNEW3.out _ h; omega
                    case measure => simp [intOf]; omega
              · have hbf : (f == (u : Int)) = false := by simpa using hfu
                have HFU := hid hfu
                clear hfu
                go_wp2_with fail
                go_quiet (fail)
                go_wp2_with fail
                go_roundw
                case rel =>
                  have hkp : ∀ o : Obj, Keep (fun _ => False) wi ((wi.alloc o).drewN nq) := fun o => ((Keep.refl _ wi).alloc o).drewN nq
                  exact ⟨k + 1, M3, Q3, _, n3, cap3, by omega, by go_num, rfl, HQN3.out, HROW3.out.through (hkp _) (fun _ _ h => h), HNEW3.out, ((hkp _).block _ (by omega) (fun h => h)).trans HD0.out, ((hkp _).block _ hlt3 (fun h => h)).trans HD1.out, HMID.out.skip HG.out (fun h => absurd h HFU.out), HPOT.out, HBEL3.out.trans ((hkp _).below HBEL3.out.size (fun _ h => h.elim))⟩
                case measure => simp [intOf]; omega
            · obtain rfl : k = l.length := by omega
              have hpop := HMID.out.pop HR.out
              have HPOP := hid hpop
              clear hpop
              have htail := HROW3.out.tail (k := 1) hn31
              have HT := hid htail
              clear htail
              by_cases hcap : cap3 = 1
              · subst hcap
                obtain rfl : n3 = 1 := by omega
                go_wp2_with fail
                go_roundw
                case rel =>
                  have hlen : Q3.length = 0 := by have := HQN3.out; omega
                  refine ⟨M3, Q3, _, 0, 0, rfl, hlen, ?_, ?_, HD0.out, HD1.out, HPOP.out, ?_, HBEL3.out⟩
                  · have h := HT.out
                    rw [if_pos rfl] at h
                    simpa [ints, nats, Addr.add] using h
                  · intro i hi
                    exact HNEW3.out i (by simpa [InA] using hi)
                  · have := HPOT.out
                    have := HPOT2.out
                    have := HQN.out
                    simp only [List.length_cons] at *
                    omega
                case measure =>
                  simp only [lenOf]
                  rw [cntW_eq HD1.out hlt, cntW_eq HC1.out hlt]
                  have := HPOT.out
                  have := HQN.out
                  have := HQN3.out
                  omega

              · go_wp2_with fail
                go_roundw
                case rel =>
                  have hlen : Q3.length = (n3 - 1) := by have := HQN3.out; omega
                  refine ⟨M3, Q3, _, (n3 - 1), (cap3 - 1), rfl, hlen, ?_, ?_, HD0.out, HD1.out, HPOP.out, ?_, HBEL3.out⟩
                  · have h := HT.out
                    rw [if_neg hcap] at h
                    simpa [ints, nats, Addr.add] using h
                  · intro i hi
                    exact HNEW3.out i (by simpa [InA] using hi)
                  · have := HPOT.out
                    have := HPOT2.out
                    have := HQN.out
                    simp only [List.length_cons] at *
                    omega
                case measure =>
                  simp only [lenOf]
                  rw [cntW_eq HD1.out hlt, cntW_eq HC1.out hlt]
                  have := HPOT.out
                  have := HQN.out
                  have := HQN3.out
                  omega

    · obtain rfl : a = 5 := by omega
      have hM : bitsA M = waysV l := bitsA_congr fun i hi => by
        have h1 := HD.out (i / 5) (i % 5) (by omega) (by omega)
        rw [show i / 5 * 5 + i % 5 = i by omega] at h1
        exact h1
      have HM := hid hM
      clear hM
      have hi75 : (Tryd.prog.info? 53).map (·.size) = some (bitsA M).size := by rw [bitsA_size]; kernel_rfl
      have hne : w.heap.size ≠ w.heap.size + 1 := by omega
      go_wp2_with (first
        | (refine wpList_load_row rfl 53 _ rfl (w.heap.size + 1) rfl _ (bitsA M) _ _ HB1.out Tryd.underlying53 rfl hi75 ?_)
        | (refine wpList_store_row rfl 53 _ _ rfl w.heap.size (bitsA M) rfl rfl _ _ HB0.out hi75 (by simp [bitsA_size]) (bitsA_one M) ?_))
      refine bodyPost_ret (results_cell_row rfl _ _ w.heap.size _ (bitsA M) _ _ rfl (setRow_heap wr w.heap.size _ _ _ _ HB0.out) Tryd.underlying53 rfl hi75) rfl ?_
      refine ⟨by rw [HM.out], HB.out.trans ⟨rfl, rfl, rfl, by simp [World.setRow], fun k hk => setRow_other _ _ _ _ (by omega)⟩⟩

/-- A row of the matrix, and a cell of it. -/
theorem ways_row (l : List Wire) (a : Nat) (ha : a < 5) (w : World) : (Instr.index 53 (.agg (waysV l)) (.int .i64 a)).run Tryd.prog w = .ok (.agg ((waysV l).extract (a * 5) (a * 5 + 5))) w := by
  rcases (show a = 0 ∨ a = 1 ∨ a = 2 ∨ a = 3 ∨ a = 4 by omega) with rfl | rfl | rfl | rfl | rfl <;> kernel_rfl
theorem ways_cell (l : List Wire) (a b : Nat) (ha : a < 5) (hb : b < 5) (w : World) : (Instr.index 52 (.agg ((waysV l).extract (a * 5) (a * 5 + 5))) (.int .i64 b)).run Tryd.prog w = .ok (.bool (reachB l a b)) w := by
  rcases (show a = 0 ∨ a = 1 ∨ a = 2 ∨ a = 3 ∨ a = 4 by omega) with rfl | rfl | rfl | rfl | rfl <;> rcases (show b = 0 ∨ b = 1 ∨ b = 2 ∨ b = 3 ∨ b = 4 by omega) with rfl | rfl | rfl | rfl | rfl <;> kernel_rfl
end Go.Proofs.YtfokcjooibmigaaDoor
