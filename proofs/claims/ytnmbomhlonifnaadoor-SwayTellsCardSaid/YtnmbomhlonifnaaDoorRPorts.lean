/- frameref1.Ports: on which wires does code do such? -/
import Derived.Test.YtnmbomhlonifnaaDoorRPut
import Derived.Test.YtnmbomhlonifnaaDoorPlanU
namespace Go.Proofs.YtnmbomhlonifnaaDoor
open Go.RowKit
set_option maxRecDepth 100000

def portsL : List Op → Int → List Int → List Int
  | [], _, acc => acc
  | o :: l, k, acc => portsL l k (if o.what = k then putL acc o.b else acc)
theorem portsL_app (k : Int) : ∀ (l r : List Op) (acc : List Int), portsL (l ++ r) k acc = portsL r k (portsL l k acc)
  | [], _, _ => rfl
  | _ :: l, r, _ => portsL_app k l r _
theorem portsL_mem (k : Int) (u : Int) : ∀ (l : List Op) (acc : List Int), u ∈ portsL l k acc ↔ u ∈ acc ∨ ∃ o ∈ l, o.what = k ∧ o.b = u
  | [], acc => by simp [portsL]
  | o :: l, acc => by
    have h := portsL_mem k u l (if o.what = k then putL acc o.b else acc)
    unfold portsL
    rw [h]
    by_cases e : o.what = k
    · rw [if_pos e, putL_mem]
      constructor
      · rintro ((h | h) | ⟨x, hx, h⟩)
        · exact .inr ⟨o, by simp, e, h.symm⟩
        · exact .inl h
        · exact .inr ⟨x, by simp [hx], h⟩
      · rintro (h | ⟨x, hx, h1, h2⟩)
        · exact .inl (.inr h)
        · rcases List.mem_cons.1 hx with rfl | hx
          · exact .inl (.inl h2.symm)
          · exact .inr ⟨x, hx, h1, h2⟩
    · rw [if_neg e]
      constructor
      · rintro (h | ⟨x, hx, h⟩)
        · exact .inl h
        · exact .inr ⟨x, by simp [hx], h⟩
      · rintro (h | ⟨x, hx, h1, h2⟩)
        · exact .inl h
        · rcases List.mem_cons.1 hx with rfl | hx
          · exact absurd h1 e
          · exact .inr ⟨x, hx, h1, h2⟩
theorem portsL_len (k : Int) : ∀ (l : List Op) (acc : List Int), (portsL l k acc).length ≤ acc.length + l.length
  | [], acc => by simp [portsL]
  | o :: l, acc => by
    have h := portsL_len k l (if o.what = k then putL acc o.b else acc)
    have h2 := putL_len acc o.b
    unfold portsL
    simp only [List.length_cons]
    split at h <;> split <;> first | omega | (rename_i a b; exact absurd a b) | (rename_i a b; exact absurd b a)

/-- What holds as the ops are walked. -/
structure PortsMid (w : World) (n : Nat) (l : List Op) (k : Int) (v5 v6 : Value) (wr : World) (i : Nat) (A : Option Addr) (q c : Nat) (ys : List Int) : Prop where
  ile : i ≤ n
  e5 : v5 = .slice A q c
  e6 : v6 = .int .i64 i
  len : q = ys.length
  most : q ≤ i
  row : Row wr 3 1 A q c (ints ys)
  fresh : ∀ j, InA A j → w.heap.size ≤ j
  below : Below w.heap.size w wr
  is : ys = portsL (l.take i) k []

set_option maxHeartbeats 4000000 in
theorem rports_any (A0 : Option Addr) (n c0 : Nat) (l : List Op) (v : Int) (w : World) (hA : Sl w A0 3 n (l.flatMap Op.cells)) (hn : n ≤ 900) (_hc : n ≤ c0) :
    Calls Tryd.prog 59 #[.slice A0 n c0, .int .i64 v] w (Drawn w (portsL l v [])) := by
  have HA := hid hA
  have hlen : l.length = n := by have := hA.1; rw [flatMap_len Op.cells 3 Op.len] at this; omega
  have HL := hid hlen
  clear hA hlen
  go_enter Tryd.func59, Tryd.ntmps59
  go_wp2_with fail
  go_loopw [5, 6] (fun v5 v6 wr => ∃ i A q c ys, PortsMid w n l v v5 v6 wr i A q c ys) (fun _ v6 _ => n - (intOf v6).toNat)
  case atStart => exact ⟨0, none, 0, 0, [], by omega, rfl, rfl, rfl, by omega, Row.nil _ _ _, fun j hj => by simp [InA] at hj, Below.refl _ _, rfl⟩
  case round =>
    obtain ⟨i, A, q, c, ys, hile, rfl, rfl, hlen, hmost, hrow, hfresh, hbelow, his⟩ := hrel
    have HLEN := hid hlen
    have HROW := hid hrow
    have HFR := hid hfresh
    have HB := hid hbelow
    have HIS := hid his
    have hqc := hrow.le.1
    clear hlen hrow hfresh hbelow his
    by_cases hin : i < n
    · have hil : i < l.length := by rw [HL.out]; exact hin
      obtain ⟨b, off, rfl, hlb, g0, g1, g2⟩ := HA.out.op HB.out hil hin
      have htake : l.take (i + 1) = l.take i ++ [l[i]] := List.take_succ_eq_append_getElem hil
      generalize l[i] = x at g0 g1 g2 htake
      have HT := hid htake
      clear htake hil
      by_cases hxv : x.what = v
      · have hnx : portsL (l.take (i + 1)) v [] = putL ys x.b := by
          rw [HT.out, portsL_app, ← HIS.out]; show portsL [] v (if x.what = v then _ else _) = _; rw [if_pos hxv]; rfl
        have HNX := hid hnx
        have HPUT : Hid (Calls Tryd.prog 97 #[.slice A q c, .int .i64 x.b] wr (Drawn wr (putL ys x.b))) := rput_any A q c ys x.b wr HROW.out.sl (by omega) hqc
        rw [hxv] at g0
        clear hnx hxv
        go_wp2_with (go_at_call 97; refine HPUT.out.mono ?_; rintro e w2 ⟨A2, n2, c2, rfl, hn2, hr2, hf2, hb2⟩; have HN2 := hid hn2; have HR2 := hid hr2; have HF2 := hid hf2; have HB2 := hid hb2; clear hn2 hr2 hf2 hb2)
        go_roundw
        case rel =>
          have h1 := putL_len ys x.b
          have h2 := HLEN.out
          have h3 := HN2.out
          exact ⟨i + 1, A2, n2, c2, putL ys x.b, by omega, rfl, by go_num, h3, by omega, HR2.out, fun j hj => Nat.le_trans HB.out.size (HF2.out j hj), HB.out.trans (HB2.out.mono HB.out.size), HNX.out.symm⟩
        case measure => simp [intOf]; omega
      · have hnx : portsL (l.take (i + 1)) v [] = ys := by
          rw [HT.out, portsL_app, ← HIS.out]; show portsL [] v (if x.what = v then _ else _) = _; rw [if_neg hxv]; rfl
        have HNX := hid hnx
        have e1 : (x.what == v) = false := by simpa using hxv
        clear hnx hxv
        go_wp2_with fail
        go_roundw
        case rel => exact ⟨i + 1, A, q, c, ys, by omega, rfl, by go_num, HLEN.out, by omega, HROW.out, HFR.out, HB.out, HNX.out.symm⟩
        case measure => simp [intOf]; omega
    · obtain rfl : n = i := by omega
      go_wp2_with fail
      go_ret
      have h := HIS.out
      rw [List.take_of_length_le (by rw [HL.out]; exact Nat.le_refl _)] at h
      exact ⟨A, q, c, rfl, by rw [← h]; exact HLEN.out, by rw [← h]; exact HROW.out, HFR.out, HB.out⟩
end Go.Proofs.YtnmbomhlonifnaaDoor
