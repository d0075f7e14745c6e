/- The reference of chapter 13: the contract of its Level, for wires that are right: a function that calls itself. -/
import Derived.Test.YtfokcjooibmigaaDoorRWays
import Derived.Test.YtfokcjooibmigaaDoorLeast
import Derived.Test.YtfokcjooibmigaaDoorRRingsLaw
namespace Go.Proofs.YtfokcjooibmigaaDoor
open Go.RowKit
set_option maxRecDepth 100000

def TellLv (w : World) (v : Nat) (e : Ending) (w' : World) : Prop := e = .returned (.int .i64 v) ∧ Below w.heap.size w w'

set_option maxHeartbeats 4000000 in
theorem rlevel_any (A : Option Addr) (c : Nat) (l : List Wire) (h12 : l.length ≤ 12) (hin : InRooms l) :
    ∀ (N r : Nat) (w : World), r < 5 → rnd l 5 r < N → Sl w A 4 l.length (l.flatMap Wire.cells) → Calls Tryd.prog 39 #[.slice A l.length c, .int .i64 r] w (TellLv w (rnd l 5 r)) := by
  have HIN := hid hin
  clear hin
  have HI75 : Hid ((Tryd.prog.info? 53).map (·.size) = some (waysV l).size) := by rw [waysV, bitsA_size]; show _ = _; kernel_rfl
  have HONE : Hid ((waysV l).all (·.oneCell') = true) := bitsA_one _
  intro N
  induction N with
  | zero => intro r w _ h; exact absurd h (by omega)
  | succ N ih =>
    intro r w hr5 hrN hs
    have HS := hid hs
    have IH := hid ih
    have hbnd := rnd_bound l 5 r
    have hr60 : rnd l 5 r ≤ 60 := by have : 5 * l.length ≤ 5 * 12 := Nat.mul_le_mul (Nat.le_refl _) h12; omega
    clear hs ih hbnd
    have HLE := hid (fun k => bestTo_le HIN.out (r := r) k)
    have HALL := hid (bestTo_all HIN.out hr5)
    go_enter Tryd.func39, Tryd.ntmps39
    go_wp2_with (first
      | (go_at_call 24; refine (rways_any A c l _ HS.out h12 HIN.out).mono ?_; rintro e w3 ⟨rfl, hb3⟩; have HB3 := hid hb3; clear hb3)
      | (refine wpList_store_rowK rfl 53 _ _ rfl w3.heap.size (waysV l) rfl rfl _ _ (heap_alloc_new w3 _) HI75.out (by rw [waysV, bitsA_size]; rfl) HONE.out ?_
         intro w4 hr4 hk4 hz4
         have hb4 : Below w.heap.size w w4 := (HB3.out.alloc HB3.out.size _).trans (hk4.below (by have := HB3.out.size; simp; omega) (fun i h => by have := HB3.out.size; omega))
         have HR4 := hid hr4
         have HB4 := hid hb4
         clear hr4 hb4 hk4 hz4))
    have hbw := HB3.out.size
    generalize w3.heap.size = bw at *
    clear HB3
    go_loopw [6, 7, 8] (fun v6 v7 v8 wr => ∃ k : Nat, k ≤ l.length ∧ v7 = .int .i64 k ∧ v6 = .int .i64 (bestTo l r k) ∧ wr.heap[bw]? = some (.cells (waysV l) 53 (0, 0)) ∧ Below w.heap.size w wr) (fun _ v7 _ _ => l.length - (intOf v7).toNat)
    case atStart => exact ⟨0, by omega, rfl, rfl, HR4.out, HB4.out⟩
    case round =>
      obtain ⟨k, hk, rfl, rfl, hrow, hbel⟩ := hrel
      have HROW := hid hrow
      have HBEL := hid hbel
      have hltw := blk_lt hrow
      clear hrow hbel
      by_cases hkl : k < l.length
      · obtain ⟨b, off, rfl, hlb, g0, g1, g2, g3⟩ := HS.out.wire HBEL.out hkl hkl
        have hget := List.getElem?_eq_getElem hkl
        have hin := HIN.out l[k] (List.getElem_mem hkl)
        have hmem := List.getElem_mem hkl
        generalize l[k] = x at g0 g1 g2 g3 hget hin hmem
        obtain ⟨f, t, kk, dd⟩ := x
        obtain ⟨⟨hf0, hf5⟩, ht0, ht5⟩ := hin
        simp only [] at g0 g1 hf0 hf5 ht0 ht5
        obtain ⟨f, rfl⟩ : ∃ n : Nat, f = n := ⟨f.toNat, by omega⟩
        obtain ⟨t, rfl⟩ : ∃ n : Nat, t = n := ⟨t.toNat, by omega⟩
        have hf5' : f < 5 := by omega
        have ht5' : t < 5 := by omega
        have hri : (r : Int) < 5 := by omega
        have hsucc := bestTo_succ (r := r) hget
        have hup : upInto l r ⟨f, t, kk, dd⟩ = (reachB l t r && reachB l r t && !reachB l t f) := rfl
        have hlt := upInto_lt HIN.out (r := r) hmem
        have hble := HLE.out k
        have hb60 : bestTo l r k ≤ 60 := by omega
        generalize hbt : bestTo l r k = bt at hsucc hb60
        have u1 := (blk_cell HROW.out (t * 5 + r)).trans (waysV_get l ht5' hr5)
        have u2 := (blk_cell HROW.out (r * 5 + t)).trans (waysV_get l hr5 ht5')
        have u3 := (blk_cell HROW.out (t * 5 + f)).trans (waysV_get l ht5' hf5')
        rw [hup] at hsucc hlt
        have HSUCC := hid hsucc
        have HLT := hid hlt
        have HBT := hid hbt
        clear g2 g3 hget hmem hsucc hup hlt hble hbt
        cases h1 : reachB l t r with
        | false =>
          rw [h1] at u1 HSUCC
          have HS1 : Hid (bestTo l r (k + 1) = bt) := by rw [HSUCC.out]; rfl
          clear h1 HSUCC HLT
          go_wp2_with fail
          go_quiet (fail)
          go_wp2_with fail
          go_roundw
          case rel => exact ⟨k + 1, by omega, by go_num, by rw [HS1.out], HROW.out, ⟨HBEL.out.os, HBEL.out.tape, HBEL.out.output, HBEL.out.size, HBEL.out.block⟩⟩
          case measure => simp [intOf]; omega
        | true =>
          rw [h1] at u1 HSUCC HLT
          cases h2 : reachB l r t with
          | false =>
            rw [h2] at u2 HSUCC
            have HS1 : Hid (bestTo l r (k + 1) = bt) := by rw [HSUCC.out]; rfl
            clear h1 h2 HSUCC HLT
            go_wp2_with fail
            go_quiet (fail)
            go_wp2_with fail
            go_roundw
            case rel => exact ⟨k + 1, by omega, by go_num, by rw [HS1.out], HROW.out, ⟨HBEL.out.os, HBEL.out.tape, HBEL.out.output, HBEL.out.size, HBEL.out.block⟩⟩
            case measure => simp [intOf]; omega
          | true =>
            rw [h2] at u2 HSUCC HLT
            cases h3 : reachB l t f with
            | true =>
              rw [h3] at u3 HSUCC
              have HS1 : Hid (bestTo l r (k + 1) = bt) := by rw [HSUCC.out]; rfl
              clear h1 h2 h3 HSUCC HLT
              go_wp2_with fail
              go_quiet (fail)
              go_wp2_with fail
              go_roundw
              case rel => exact ⟨k + 1, by omega, by go_num, by rw [HS1.out], HROW.out, ⟨HBEL.out.os, HBEL.out.tape, HBEL.out.output, HBEL.out.size, HBEL.out.block⟩⟩
              case measure => simp [intOf]; omega
            | false =>
              rw [h3] at u3 HSUCC HLT
              have hlt := HLT.out rfl
              simp only [Int.toNat_natCast] at hlt
              have hsu := HSUCC.out
              simp only [Int.toNat_natCast] at hsu
              have hfN : rnd l 5 f < N := by omega
              have hf60 : rnd l 5 f ≤ 60 := by omega
              have HC := fun w hs => IH.out f w hf5' hfN hs
              generalize rnd l 5 f = vf at HC hsu hf60
              have HC := hid HC
              have HSU := hid hsu
              clear h1 h2 h3 HSUCC HLT hlt hsu hfN
              have HQ : Hid (∀ n, Below w.heap.size w (wr.drewN n)) := fun n => ⟨HBEL.out.os, HBEL.out.tape, HBEL.out.output, HBEL.out.size, HBEL.out.block⟩
              by_cases hgt : bt < vf + 1
              · have hgi : (bt : Int) < (vf : Int) + 1 := by omega
                go_wp2_with fail
                go_quiet (fail)
                go_wp2_with (go_at_call 39; refine (HC.out _ (HS.out.new (HQ.out _))).mono ?_; rintro e w5 ⟨rfl, hb5⟩; have HB5 := hid hb5; clear hb5)
                go_roundw
                case rel =>
                  have hb5 : Below wr.heap.size wr w5 := ⟨HB5.out.os, HB5.out.tape, HB5.out.output, HB5.out.size, HB5.out.block⟩
                  refine ⟨k + 1, by omega, by go_num, ?_, (hb5.block _ hltw).trans HROW.out, HBEL.out.trans (hb5.mono HBEL.out.size)⟩
                  rw [HSU.out, show (true && true && !false) = true from rfl, if_pos rfl, Nat.max_eq_right (by omega)]; go_num
                case measure => simp [intOf]; omega
              · have hgi : ¬ (bt : Int) < (vf : Int) + 1 := by omega
                go_wp2_with fail
                go_quiet (fail)
                go_wp2_with (go_at_call 39; refine (HC.out _ (HS.out.new (HQ.out _))).mono ?_; rintro e w5 ⟨rfl, hb5⟩; have HB5 := hid hb5; clear hb5)
                go_roundw
                case rel =>
                  have hb5 : Below wr.heap.size wr w5 := ⟨HB5.out.os, HB5.out.tape, HB5.out.output, HB5.out.size, HB5.out.block⟩
                  refine ⟨k + 1, by omega, by go_num, ?_, (hb5.block _ hltw).trans HROW.out, HBEL.out.trans (hb5.mono HBEL.out.size)⟩
                  rw [HSU.out, show (true && true && !false) = true from rfl, if_pos rfl, Nat.max_eq_left (by omega)]
                case measure => simp [intOf]; omega
      · obtain rfl : k = l.length := by omega
        have hall := HALL.out
        generalize hv : bestTo l r l.length = v at hall
        have HV := hid hv
        have HALL2 := hid hall
        clear hall
        go_wp2_with fail
        go_ret
        exact ⟨ret_i (by rw [← HALL2.out]), HBEL.out⟩
end Go.Proofs.YtfokcjooibmigaaDoor
