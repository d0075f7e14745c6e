/- Package snap: the contract of line, for every word and numbers. Conditions: the library's table of powers, which the row lists. -/
import Derived.Test.YtikadpfchchbpaaGreatDoorItoaW
import Derived.Test.YtikadpfchchbpaaGreatDoorTextLaw
import Derived.Test.YtikadpfchchbpaaGreatDoorCutW
import Derived.Deep.DeepCutAuto
namespace Go.Proofs.YtikadpfchchbpaaGreatDoor
open Go.RowKit
set_option maxRecDepth 100000

/-- A line of a word and numbers. -/
def lineT (w : List UInt8) (l : List Int) : List UInt8 := w ++ l.flatMap numT ++ [10]
theorem lineT_10 {w : List UInt8} (h : (10 : UInt8) ∉ w) (l : List Int) : (lineT w l).count 10 = 1 := by
  unfold lineT
  rw [List.count_append, List.count_append, List.count_eq_zero.2 h, List.count_eq_zero.2 (nums_no10 l)]
  rfl
theorem numT_le {n : Int} (h0 : 0 ≤ n) (h1 : n ≤ 1000000) : (numT n).length ≤ 22 := by
  have := Lib.itoa_length_le n (by omega) (by omega)
  unfold numT; simp; omega
theorem nums_le : ∀ (l : List Int), (∀ n ∈ l, 0 ≤ n ∧ n ≤ 1000000) → (l.flatMap numT).length ≤ 22 * l.length
  | [], _ => by simp
  | n :: l, h => by
    have h1 := numT_le (h n (by simp)).1 (h n (by simp)).2
    have h2 := nums_le l (fun m hm => h m (by simp [hm]))
    rw [List.flatMap_cons, List.length_append, List.length_cons]; omega
theorem take_nums {l : List Int} {j : Nat} {n : Int} (h : l[j]? = some n) : (l.take (j + 1)).flatMap numT = (l.take j).flatMap numT ++ numT n := by
  obtain ⟨h1, h2⟩ := List.getElem?_eq_some_iff.1 h
  rw [List.take_succ_eq_append_getElem h1, List.flatMap_append, h2]; simp

set_option maxHeartbeats 2000000 in
theorem sline_any (w : World) (word : ByteArray) (A : Option Addr) (c : Nat) (l : List Int) (hp : Pows w) (hs : Sl w A 1 l.length (ints l)) (hfit : ∀ n ∈ l, 0 ≤ n ∧ n ≤ 1000000) (hw : word.size ≤ 100) (hl : l.length ≤ 20) :
    Calls Tryz.prog 30 #[.string word, .slice A l.length c] w fun e w' => ∃ T : ByteArray, e = .returned (.string T) ∧ T.data.toList = lineT word.data.toList l ∧ Below w.heap.size w w' := by
  have HS := hid hs
  have HP := hid hp
  have HPL := hid (pows_lt hp)
  have HFIT := hid hfit
  have HLEN := hid (nums_le l hfit)
  obtain ⟨n, hn⟩ : ∃ n, n = l.length := ⟨_, rfl⟩
  rw [← hn] at hl HS HLEN ⊢
  have HN := hid hn
  obtain ⟨W0, hW0⟩ : ∃ W0, W0 = word.data.toList := ⟨_, rfl⟩
  have hwl : W0.length ≤ 100 := by rw [hW0, ← Lib.size_eq]; exact hw
  rw [← hW0]
  have HW0 := hid hW0
  clear hs hp hfit hn hW0 hw
  go_enter Tryz.func30, Tryz.ntmps30
  go_wp2_with fail
  go_loopw [0, 9] (fun v0 v9 wr => ∃ (j : Nat) (S : ByteArray), j ≤ n ∧ v0 = .string S ∧ v9 = .int .i64 j ∧ S.data.toList = W0 ++ (l.take j).flatMap numT ∧ Below w.heap.size w wr) (fun _ v9 _ => n - (intOf v9).toNat)
  case atStart => exact ⟨0, word, by omega, rfl, rfl, by rw [← HW0.out]; simp, Below.refl _ _⟩
  case round =>
    obtain ⟨j, S, hj, rfl, rfl, hSd, hb⟩ := hrel
    have hSl : S.size ≤ 100 + 22 * j := by
      rw [Lib.size_eq, hSd, List.length_append]
      have h1 := nums_le (l.take j) (fun x hx => HFIT.out x (List.mem_of_mem_take hx))
      rw [List.length_take] at h1
      have := Nat.min_le_left j l.length
      omega
    have HB := hid hb
    have HSD := hid hSd
    clear hb hSd
    by_cases hjn : j < n
    · have hjl : j < l.length := by rw [← HN.out]; exact hjn
      obtain ⟨b, off, rfl, hlb, hx⟩ := HS.out.2 (by omega)
      have hget := List.getElem?_eq_getElem hjl
      have hk : wr.cell? ⟨b, off + j, none⟩ = some (.int .i64 l[j]) := (HB.out.cell (p := ⟨b, off + j, none⟩) hlb).trans (hx j _ (by unfold ints; rw [List.getElem?_map, hget]; rfl))
      have hfx := HFIT.out l[j] (List.getElem_mem hjl)
      generalize l[j] = x at hget hk hfx
      have HNX := hid (take_nums hget)
      obtain ⟨S2, hS2⟩ : ∃ S2 : ByteArray, S2 = ⟨(Lib.itoa x).toArray⟩ := ⟨_, rfl⟩
      have HIT : Hid (Calls Tryz.prog 60 #[.int .i64 x] wr fun e w'' => e = .returned (.string S2) ∧ Below wr.heap.size wr w'') := by
        rw [hS2]; exact itoaS_any x (by omega) (by omega) wr (HP.out.new HPL.out HB.out)
      have hS2l : S2.size ≤ 21 := by rw [hS2, Lib.size_eq]; exact Lib.itoa_length_le x (by omega) (by omega)
      have HS2 := hid hS2
      clear hget hx hfx hS2
      go_wp2_with (go_at_call 60; refine HIT.out.mono ?_; rintro e w5 ⟨rfl, hb5⟩; have HB5 := hid hb5; clear hb5 HIT)
      go_roundw
      case rel =>
        refine ⟨j + 1, _, by omega, rfl, by go_num, ?_, HB.out.trans (HB5.out.mono HB.out.size)⟩
        rw [ByteArray.data_append, ByteArray.data_append, Array.toList_append, Array.toList_append, HSD.out, HNX.out, HS2.out, List.append_assoc]
        rfl
      case measure => simp [intOf]; omega
    · obtain rfl : j = n := by omega
      have htk : l.take j = l := by rw [HN.out, List.take_length]
      rw [htk] at HSD
      clear htk
      go_wp2_with fail
      go_ret
      refine ⟨_, rfl, ?_, HB.out⟩
      rw [ByteArray.data_append, Array.toList_append, HSD.out]
      rfl
end Go.Proofs.YtikadpfchchbpaaGreatDoor
