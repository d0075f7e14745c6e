/- The walk of framelaw1.WireOrders: it returns true at every input. -/
import Derived.Test.YtfokcjooibmigaaLine2
import Derived.Test.YtfokcjooibmigaaOpen
namespace Go.Proofs.Ytfokcjooibmigaa
open Go.RowKit

theorem Sl.one {w : World} {A : Option Addr} {n : Nat} {l : List Int} (h : Sl w A 1 n (l.flatMap fun a => [.int .i64 a])) {B : Nat} {W wr : World} (hW : Below w.heap.size w W) (hb : Below B W wr) (hB : w.heap.size ≤ B) {i : Nat} (hi : i < l.length) (hn : i < n) :
    ∃ b off, A = some ⟨b, off, none⟩ ∧ wr.cell? ⟨b, off + i, none⟩ = some (.int .i64 l[i]) := by
  obtain ⟨b, off, rfl, hlt, hx⟩ := h.2 (by omega)
  refine ⟨b, off, rfl, ?_⟩
  rw [hb.cell (p := ⟨b, off + i, none⟩) (by simp; omega), hW.cell (p := ⟨b, off + i, none⟩) hlt]
  exact hx i _ (by rw [ints_flat]; simp [hi])

/-- The state of the law's loop. -/
def WoRel (x : Wire) (items : List Int) (lost n next last : Int) (i : Nat) : Prop :=
  0 ≤ n ∧ n ≤ i ∧ 0 ≤ lost ∧ lost ≤ i ∧ 0 ≤ next ∧ next ≤ n ∧ -1 ≤ last ∧ last < n + 1 ∧ items.length ≤ 6 ∧
  ((x.kind = 1 ∧ x.deep = 1 ∧ items = (if last < 0 then [] else [last])) ∨
   (x.kind = 2 ∧ (items.length : Int) ≤ x.deep ∧ x.deep ≤ 6 ∧ (items.length : Int) = n - next ∧ (∀ j : Nat, j < items.length → items[j]? = some (next + j)) ∧ (last < 0 → n = 0)))

theorem wireOk {x : Wire} (h : wireChk x = 0) : (x.kind = 1 ∧ x.deep = 1) ∨ (x.kind = 2 ∧ 1 ≤ x.deep ∧ x.deep ≤ 6) := by
  unfold wireChk at h
  split at h
  · omega
  · rename_i h1; omega

theorem wo_skip {x : Wire} {items : List Int} {lost n next last : Int} {i : Nat} (h : WoRel x items lost n next last i) : WoRel x items lost n next last (i + 1) := by
  obtain ⟨a1, a2, a3, a4, a5, a6, a7, a8, a9, a10⟩ := h
  exact ⟨a1, by omega, a3, by omega, a5, a6, a7, a8, a9, a10⟩
theorem wo_takeQ {x : Wire} {a : Int} {r : List Int} {lost n next last : Int} {i : Nat} (h : WoRel x (a :: r) lost n next last i) (hk : x.kind = 2) : a = next ∧ WoRel x r lost n (next + 1) last (i + 1) := by
  obtain ⟨a1, a2, a3, a4, a5, a6, a7, a8, a9, a10⟩ := h
  rcases a10 with ⟨b1, _⟩ | ⟨b1, b2, b3, b4, b5, b6⟩
  · omega
  · have h0 := b5 0 (by simp)
    simp only [List.length_cons] at b2 b4 a9
    have e0 : a = next := by simpa using h0
    refine ⟨e0, a1, by omega, a3, by omega, by omega, by omega, a7, a8, by omega, .inr ⟨b1, by omega, b3, by omega, fun j hj => ?_, b6⟩⟩
    have := b5 (j + 1) (by simp; omega)
    simp at this
    rw [this]
    congr 1
    omega
theorem wo_takeS {x : Wire} {a : Int} {r : List Int} {lost n next last : Int} {i : Nat} (h : WoRel x (a :: r) lost n next last i) (hk : x.kind = 1) : a = last := by
  obtain ⟨a1, a2, a3, a4, a5, a6, a7, a8, a9, a10⟩ := h
  rcases a10 with ⟨b1, b2, b3⟩ | ⟨b1, _⟩
  · split at b3 <;> simp_all
  · omega
theorem wo_sendS {x : Wire} {items : List Int} {lost n next last : Int} {i : Nat} (h : WoRel x items lost n next last i) (hk : x.kind = 1) : WoRel x [n] lost (n + 1) next n (i + 1) := by
  obtain ⟨a1, a2, a3, a4, a5, a6, a7, a8, a9, a10⟩ := h
  rcases a10 with ⟨b1, b2, b3⟩ | ⟨b1, _⟩
  · exact ⟨by omega, by omega, a3, by omega, a5, by omega, by omega, by omega, by simp, .inl ⟨b1, b2, by rw [if_neg (by omega)]⟩⟩
  · omega
theorem wo_sendF {x : Wire} {items : List Int} {lost n next last : Int} {i : Nat} (h : WoRel x items lost n next last i) : WoRel x items (lost + 1) n next last (i + 1) := by
  obtain ⟨a1, a2, a3, a4, a5, a6, a7, a8, a9, a10⟩ := h
  exact ⟨a1, by omega, by omega, by omega, a5, a6, a7, a8, a9, a10⟩
theorem wo_sendR {x : Wire} {items : List Int} {lost n next last : Int} {i : Nat} (h : WoRel x items lost n next last i) (hk : x.kind = 2) (hd : (items.length : Int) ≠ x.deep) : WoRel x (items ++ [n]) lost (n + 1) next n (i + 1) := by
  obtain ⟨a1, a2, a3, a4, a5, a6, a7, a8, a9, a10⟩ := h
  rcases a10 with ⟨b1, _⟩ | ⟨b1, b2, b3, b4, b5, b6⟩
  · omega
  · refine ⟨by omega, by omega, a3, by omega, a5, by omega, by omega, by omega, by simp; omega, .inr ⟨b1, by simp; omega, b3, by simp; omega, fun j hj => ?_, fun h => by omega⟩⟩
    simp at hj
    by_cases hj' : j < items.length
    · rw [List.getElem?_append_left hj']; exact b5 j hj'
    · rw [List.getElem?_append_right (by omega), show j - items.length = 0 by omega]
      simp; omega

set_option maxHeartbeats 8000000 in
set_option maxRecDepth 100000 in
theorem wireOrders_walk (x : Wire) (_hx : x.Ok) (A0 : Option Addr) (c0 : Nat) (l : List Int) (w : World) (hs : Sl w A0 1 l.length (l.flatMap fun a => [.int .i64 a])) (hsw : SlW A0 c0 l.length) (_ok : ∀ y ∈ l, Fits y) :
    Calls Try.prog 5 #[.agg #[.int .i64 x.fr, .int .i64 x.to, .int .i64 x.kind, .int .i64 x.deep], .slice A0 l.length c0] w fun e w' => e = .returned (.bool true) ∧ Below w.heap.size w w' := by
  obtain ⟨hs1, hs2, hs3⟩ := hsw
  unfold maxLen at hs2
  have HS := hid hs
  clear hs hs3
  obtain ⟨W1, hW1⟩ : ∃ W1, W1 = w.alloc (.cells #[.int .i64 x.fr, .int .i64 x.to, .int .i64 x.kind, .int .i64 x.deep] 32) := ⟨_, rfl⟩
  have hz1 : W1.heap.size = w.heap.size + 1 := by rw [hW1]; simp
  have hbel1 : Below w.heap.size w W1 := by rw [hW1]; exact (Below.refl _ _).alloc (Nat.le_refl _) _
  have hbox : W1.heap[w.heap.size]? = some (.cells #[.int .i64 x.fr, .int .i64 x.to, .int .i64 x.kind, .int .i64 x.deep] 32 (0, 0)) := by rw [hW1]; exact heap_alloc_new w _
  have HZ1 := hid hz1
  have HBEL1 := hid hbel1
  have HBOX := hid hbox
  have HW1 := hid hW1
  clear hz1 hbel1 hbox
  go_enter Try.func5, Try.ntmps5
  go_wp2_with fail
  rw [← hW1]
  clear hW1
  refine (new_ok ⟨0, 1, 2, 1⟩ W1 (by decide)).mono ?_
  rintro e w1 ⟨b, rfl, hb1, hl1, hw1⟩
  have HL1 := hid hl1
  have HX1 := hid hw1
  have HB1 := hid hb1
  clear hl1 hw1 hb1
  go_wp2_with fail
  refine (send_room b 5 _ none ⟨0, 1, 2, 1⟩ [] 0 (by omega) (by omega) rfl (by decide) (by decide) HL1.out).mono ?_
  rintro e w2 ⟨A2, rfl, hl2, hk2, hi2⟩
  have HL2 := hid hl2
  have HX2 := hid (HX1.out.trans (hk2.below HX1.out.size (by rintro i (rfl | h); exact HB1.out; simp [InA] at h)))
  have HF2 : Hid (∀ i, LF b A2 i → W1.heap.size ≤ i) := by
    rintro i (rfl | h)
    · exact HB1.out
    · rcases hi2 i h with h | h
      · simp [InA] at h
      · have := HX1.out.size; omega
  clear hl2 hk2 hi2
  go_wp2_with fail
  refine (send_full b 6 _ A2 ⟨0, 1, 2, 1⟩ [5] 0 (by omega) (by omega) rfl (by decide) (by decide) (by decide) (by decide) HL2.out).mono ?_
  rintro e w3 ⟨A3, rfl, hl3, hk3, hi3⟩
  have HL3 := hid hl3
  have HX3 := hid (HX2.out.trans (hk3.below HX2.out.size HF2.out))
  have HF3 : Hid (∀ i, LF b A3 i → W1.heap.size ≤ i) := by
    rintro i (rfl | h)
    · exact HB1.out
    · rcases hi3 i h with h | h
      · exact HF2.out i (.inr h)
      · have := HX2.out.size; omega
  clear hl3 hk3 hi3
  go_wp2_with fail
  refine (take_any b _ A3 ⟨0, 1, 2, 1⟩ [5] 1 (by decide) (.inr rfl) HL3.out).mono ?_
  rintro e w4 ⟨A4, rfl, hl4, hk4, hi4⟩
  have HX4 := hid (HX3.out.trans (hk4.below HX3.out.size HF3.out))
  clear hl4 hk4 hi4
  rw [if_neg (by decide), errV_zero]
  have k0 : w4.cell? ⟨w.heap.size, 0, none⟩ = some (.int .i64 x.fr) := (HX4.out.cell (p := ⟨w.heap.size, 0, none⟩) (by rw [HZ1.out]; simp)).trans (blk_cell HBOX.out 0)
  have k1 : w4.cell? ⟨w.heap.size, 1, none⟩ = some (.int .i64 x.to) := (HX4.out.cell (p := ⟨w.heap.size, 1, none⟩) (by rw [HZ1.out]; simp)).trans (blk_cell HBOX.out 1)
  have k2 : w4.cell? ⟨w.heap.size, 2, none⟩ = some (.int .i64 x.kind) := (HX4.out.cell (p := ⟨w.heap.size, 2, none⟩) (by rw [HZ1.out]; simp)).trans (blk_cell HBOX.out 2)
  have k3 : w4.cell? ⟨w.heap.size, 3, none⟩ = some (.int .i64 x.deep) := (HX4.out.cell (p := ⟨w.heap.size, 3, none⟩) (by rw [HZ1.out]; simp)).trans (blk_cell HBOX.out 3)
  go_wp2_with fail
  by_cases hc : wireChk x = 0
  · refine (new_ok x w4 hc).mono ?_
    rintro e w5 ⟨b5, rfl, hb5, hl5, hw5⟩
    have hok := wireOk hc
    have HL := hid hl5
    have HX5 := hid (HX4.out.trans (hw5.mono HX4.out.size))
    have HB5 : Hid (W1.heap.size ≤ b5) := Nat.le_trans HX4.out.size hb5
    have HOK := hid hok
    clear hl5 hw5 hb5 hok hc k0 k1 k2 k3
    go_wp2_with fail
    go_loopw [15, 16, 17, 18, 19] (fun v15 v16 v17 v18 v19 wr => ∃ (i : Nat) (n lost next last : Int), v15 = .int .i64 n ∧ v16 = .int .i64 lost ∧ v17 = .int .i64 next ∧ v18 = .int .i64 last ∧ v19 = .int .i64 i ∧ i ≤ l.length ∧ i ≤ 200 ∧
        ∃ A items, LineAt wr b5 A x items lost ∧ (∀ k, LF b5 A k → W1.heap.size ≤ k) ∧ WoRel x items lost n next last i ∧ Below W1.heap.size W1 wr) (fun _ _ _ _ v19 _ => 200 - (intOf v19).toNat)
    case atStart =>
      refine ⟨0, 0, 0, 0, -1, rfl, rfl, rfl, rfl, rfl, by omega, by omega, none, [], HL.out, by rintro k (rfl | h); exact HB5.out; simp [InA] at h, ?_, HX5.out⟩
      rcases HOK.out with ⟨h1, h2⟩ | ⟨h1, h2, h3⟩
      · exact ⟨by omega, by omega, by omega, by omega, by omega, by omega, by omega, by omega, by simp, .inl ⟨h1, h2, by simp⟩⟩
      · exact ⟨by omega, by omega, by omega, by omega, by omega, by omega, by omega, by omega, by simp, .inr ⟨h1, by simp; omega, h3, by simp, fun j hj => by simp at hj, fun _ => rfl⟩⟩
    case round =>
      obtain ⟨i, n, lost, next, last, rfl, rfl, rfl, rfl, rfl, hil, hi2, A, items, hl, hlf, hrel, hbw⟩ := hrel
      have HL := hid hl
      have HLF := hid hlf
      have HR := hid hrel
      have HBW := hid hbw
      obtain ⟨n0, n1, lo0, lo1, x0, x1, la0, la1, h6, hkd⟩ := hrel
      have k2 : wr.cell? ⟨w.heap.size, 2, none⟩ = some (.int .i64 x.kind) := (hbw.cell (p := ⟨w.heap.size, 2, none⟩) (by rw [HZ1.out]; simp)).trans (blk_cell HBOX.out 2)
      have k3 : wr.cell? ⟨w.heap.size, 3, none⟩ = some (.int .i64 x.deep) := (hbw.cell (p := ⟨w.heap.size, 3, none⟩) (by rw [HZ1.out]; simp)).trans (blk_cell HBOX.out 3)
      have hwsz : w.heap.size < wr.heap.size := by have := hbw.size; have := HZ1.out; omega
      clear hl hlf hbw
      by_cases hex : i < l.length ∧ i < 200
      · obtain ⟨hi1, hi3⟩ := hex
        obtain ⟨ab, ao, rfl, hcell⟩ := HS.out.one HBEL1.out HBW.out (by have := HZ1.out; omega) hi1 hi1
        generalize l[i] = st at hcell
        by_cases hst : st < 0
        · cases items with
          | nil =>
            rcases hkd with ⟨d1, d2, d3⟩ | ⟨d1, d2, d3, d4, d5, d6⟩
            · have hla : last < 0 := by
                by_cases h : last < 0
                · exact h
                · rw [if_neg h] at d3; cases d3
              clear d1 d2 d3 n0 n1 x0 x1
              go_wp2_with (go_at_call 15; refine (takeV_none b5 _ A x lost HL.out).mono ?_; rintro e w2 ⟨A2, rfl, hl2, hk2, hi2⟩)
              go_roundw
              case rel => exact ⟨i + 1, n, lost, next, last, rfl, rfl, rfl, rfl, by go_num, by omega, by omega, A2, _, hl2, (by rintro k (rfl | h); exact HLF.out _ (.inl rfl); exact HLF.out _ (.inr (hi2 k h))), wo_skip HR.out, HBW.out.trans (hk2.below HBW.out.size HLF.out)⟩
              case measure => simp [intOf]; omega
            · have hnn : ¬ next < n := by simp at d4; omega
              rw [d1] at k2
              clear d1 d2 d3 d4 d5 d6
              by_cases hl0 : 0 ≤ last
              · go_wp2_with (go_at_call 15; refine (takeV_none b5 _ A x lost HL.out).mono ?_; rintro e w2 ⟨A2, rfl, hl2, hk2, hi2⟩; have k2' : w2.cell? ⟨w.heap.size, 2, none⟩ = some (.int .i64 2) := (hk2.cell (o := 2) hwsz (fun h => by have := HLF.out _ h; have := HZ1.out; omega)).trans k2)
                go_roundw
                case rel => exact ⟨i + 1, n, lost, next, last, rfl, rfl, rfl, rfl, by go_num, by omega, by omega, A2, _, hl2, (by rintro k (rfl | h); exact HLF.out _ (.inl rfl); exact HLF.out _ (.inr (hi2 k h))), wo_skip HR.out, HBW.out.trans (hk2.below HBW.out.size HLF.out)⟩
                case measure => simp [intOf]; omega
              · go_wp2_with (go_at_call 15; refine (takeV_none b5 _ A x lost HL.out).mono ?_; rintro e w2 ⟨A2, rfl, hl2, hk2, hi2⟩)
                go_roundw
                case rel => exact ⟨i + 1, n, lost, next, last, rfl, rfl, rfl, rfl, by go_num, by omega, by omega, A2, _, hl2, (by rintro k (rfl | h); exact HLF.out _ (.inl rfl); exact HLF.out _ (.inr (hi2 k h))), wo_skip HR.out, HBW.out.trans (hk2.below HBW.out.size HLF.out)⟩
                case measure => simp [intOf]; omega
          | cons a r =>
            rcases hkd with ⟨d1, d2, d3⟩ | ⟨d1, d2, d3, d4, d5, d6⟩
            · have ha := wo_takeS HR.out d1
              rw [d1] at k2
              have H1 := hid d1
              clear d1 d2 d3
              subst ha
              go_wp2_with (go_at_call 15; refine (takeV_sample b5 _ A x a r lost h6 H1.out HL.out).mono ?_; rintro e w2 ⟨A2, rfl, hl2, hk2, hi2⟩; have k2' : w2.cell? ⟨w.heap.size, 2, none⟩ = some (.int .i64 1) := (hk2.cell (o := 2) hwsz (fun h => by have := HLF.out _ h; have := HZ1.out; omega)).trans k2)
              go_roundw
              case rel => exact ⟨i + 1, n, lost, next, a, rfl, rfl, rfl, rfl, by go_num, by omega, by omega, A2, _, hl2, (by rintro k (rfl | h); exact HLF.out _ (.inl rfl); exact HLF.out _ (.inr (hi2 k h))), (wo_skip HR.out), HBW.out.trans (hk2.below HBW.out.size HLF.out)⟩
              case measure => simp [intOf]; omega
            · obtain ⟨ha, hwo⟩ := wo_takeQ HR.out d1
              rw [d1] at k2
              have H1 := hid d1
              have HWO := hid hwo
              clear d1 d2 d3 d4 d5 d6 hwo
              subst ha
              go_wp2_with (go_at_call 15; refine (takeV_queue b5 _ A x a r lost h6 H1.out HL.out).mono ?_; rintro e w2 ⟨A2, rfl, hl2, hk2, hi2⟩; have k2' : w2.cell? ⟨w.heap.size, 2, none⟩ = some (.int .i64 2) := (hk2.cell (o := 2) hwsz (fun h => by have := HLF.out _ h; have := HZ1.out; omega)).trans k2)
              go_roundw
              case rel => exact ⟨i + 1, n, lost, a + 1, last, rfl, rfl, by go_num, rfl, by go_num, by omega, by omega, A2, _, hl2, (by rintro k (rfl | h); exact HLF.out _ (.inl rfl); exact HLF.out _ (.inr (hi2 k h))), HWO.out, HBW.out.trans (hk2.below HBW.out.size HLF.out)⟩
              case measure => simp [intOf]; omega
        · rcases hkd with ⟨d1, d2, d3⟩ | ⟨d1, d2, d3, d4, d5, d6⟩
          · rw [d1] at k2
            rw [d2] at k3
            have H1 := hid d1
            clear d1 d2 d3
            go_wp2_with (first
              | (go_at_call 13; refine (send_sample b5 n _ A x items lost n0 (by omega) H1.out HL.out).mono ?_; rintro e w2 ⟨A2, rfl, hl2, hk2, hi2⟩; have k2' : w2.cell? ⟨w.heap.size, 2, none⟩ = some (.int .i64 1) := (hk2.cell (o := 2) hwsz (fun h => by have := HLF.out _ h; have := HZ1.out; omega)).trans k2; have k3' : w2.cell? ⟨w.heap.size, 3, none⟩ = some (.int .i64 1) := (hk2.cell (o := 3) hwsz (fun h => by have := HLF.out _ h; have := HZ1.out; omega)).trans k3; have hws2 : w.heap.size < w2.heap.size := Nat.lt_of_lt_of_le hwsz hk2.size; have HL2 := hid hl2; have HI2 := hid hi2; have HK2 := hid hk2; clear hl2 hi2 hk2)
              | (go_at_call 14; refine (held_any b5 _ A2 x [n] lost (by simp) HL2.out).mono ?_; rintro e w3 ⟨A3, cap3, rfl, hr3, hn3, hb3⟩; have k2'' : w3.cell? ⟨w.heap.size, 2, none⟩ = some (.int .i64 1) := (hb3.cell (p := ⟨w.heap.size, 2, none⟩) hws2).trans k2'; have k3'' : w3.cell? ⟨w.heap.size, 3, none⟩ = some (.int .i64 1) := (hb3.cell (p := ⟨w.heap.size, 3, none⟩) hws2).trans k3'; have hws3 : w.heap.size < w3.heap.size := Nat.lt_of_lt_of_le hws2 hb3.size; have HB3 := hid hb3; clear hr3 hn3 hb3))
            have hl2 := HL2.out
            have hk2 := HK2.out
            have hi2 := HI2.out
            have hb3 := HB3.out
            go_roundw
            case rel => exact ⟨i + 1, (n + 1), lost, next, n, by go_num, rfl, rfl, rfl, by go_num, by omega, by omega, A2, _, (hl2.new hb3).new ((Below.refl _ _).alloc (Nat.le_refl _) _), (by rintro k (rfl | h); exact HLF.out _ (.inl rfl); rcases hi2 k h with h | h; exact HLF.out _ (.inr h); have := HBW.out.size; omega), wo_sendS HR.out H1.out, ((HBW.out.trans (hk2.below HBW.out.size HLF.out)).trans (hb3.mono (Nat.le_trans HBW.out.size hk2.size))).alloc (Nat.le_trans HBW.out.size (Nat.le_trans hk2.size hb3.size)) _⟩
            case measure => simp [intOf]; omega
          · rw [d1] at k2
            have H1 := hid d1
            clear d5 d6 d1
            by_cases hfull : (items.length : Int) = x.deep
            · have HFU := hid hfull
              have q1 : ((items.length : Int) != n - next) = false := by simp [d4]
              have q2 : (items.length : Int) ≤ x.deep := d2
              clear hfull d4
              go_wp2_with (first
                | (go_at_call 13; refine (send_full b5 n _ A x items lost n0 (by omega) H1.out HFU.out h6 lo0 (by omega) HL.out).mono ?_; rintro e w2 ⟨A2, rfl, hl2, hk2, hi2⟩; have k2' : w2.cell? ⟨w.heap.size, 2, none⟩ = some (.int .i64 2) := (hk2.cell (o := 2) hwsz (fun h => by have := HLF.out _ h; have := HZ1.out; omega)).trans k2; have k3' : w2.cell? ⟨w.heap.size, 3, none⟩ = some (.int .i64 x.deep) := (hk2.cell (o := 3) hwsz (fun h => by have := HLF.out _ h; have := HZ1.out; omega)).trans k3; have hws2 : w.heap.size < w2.heap.size := Nat.lt_of_lt_of_le hwsz hk2.size; have HL2 := hid hl2; have HI2 := hid hi2; have HK2 := hid hk2; clear hl2 hi2 hk2)
                | (go_at_call 14; refine (held_any b5 _ A2 x items (lost + 1) h6 HL2.out).mono ?_; rintro e w3 ⟨A3, cap3, rfl, hr3, hn3, hb3⟩; have k2'' : w3.cell? ⟨w.heap.size, 2, none⟩ = some (.int .i64 2) := (hb3.cell (p := ⟨w.heap.size, 2, none⟩) hws2).trans k2'; have k3'' : w3.cell? ⟨w.heap.size, 3, none⟩ = some (.int .i64 x.deep) := (hb3.cell (p := ⟨w.heap.size, 3, none⟩) hws2).trans k3'; have hws3 : w.heap.size < w3.heap.size := Nat.lt_of_lt_of_le hws2 hb3.size; have HB3 := hid hb3; clear hr3 hn3 hb3))
              have hl2 := HL2.out
              have hk2 := HK2.out
              have hi2 := HI2.out
              have hb3 := HB3.out
              go_roundw
              case rel => exact ⟨i + 1, n, (lost + 1), next, last, rfl, by go_num, rfl, rfl, by go_num, by omega, by omega, A2, _, (hl2.new hb3).new ((Below.refl _ _).alloc (Nat.le_refl _) _), (by rintro k (rfl | h); exact HLF.out _ (.inl rfl); rcases hi2 k h with h | h; exact HLF.out _ (.inr h); have := HBW.out.size; omega), wo_sendF HR.out, ((HBW.out.trans (hk2.below HBW.out.size HLF.out)).trans (hb3.mono (Nat.le_trans HBW.out.size hk2.size))).alloc (Nat.le_trans HBW.out.size (Nat.le_trans hk2.size hb3.size)) _⟩
              case measure => simp [intOf]; omega
            · have HFU := hid hfull
              have q1 : ((items.length : Int) + 1 != n + 1 - next) = false := by simp; omega
              have q2 : (items.length : Int) + 1 ≤ x.deep := by omega
              clear hfull d4
              go_wp2_with (first
                | (go_at_call 13; refine (send_room b5 n _ A x items lost n0 (by omega) H1.out HFU.out h6 HL.out).mono ?_; rintro e w2 ⟨A2, rfl, hl2, hk2, hi2⟩; have k2' : w2.cell? ⟨w.heap.size, 2, none⟩ = some (.int .i64 2) := (hk2.cell (o := 2) hwsz (fun h => by have := HLF.out _ h; have := HZ1.out; omega)).trans k2; have k3' : w2.cell? ⟨w.heap.size, 3, none⟩ = some (.int .i64 x.deep) := (hk2.cell (o := 3) hwsz (fun h => by have := HLF.out _ h; have := HZ1.out; omega)).trans k3; have hws2 : w.heap.size < w2.heap.size := Nat.lt_of_lt_of_le hwsz hk2.size; have HL2 := hid hl2; have HI2 := hid hi2; have HK2 := hid hk2; clear hl2 hi2 hk2)
                | (go_at_call 14; refine (held_any b5 _ A2 x (items ++ [n]) lost (by simp; omega) HL2.out).mono ?_; rintro e w3 ⟨A3, cap3, rfl, hr3, hn3, hb3⟩; have k2'' : w3.cell? ⟨w.heap.size, 2, none⟩ = some (.int .i64 2) := (hb3.cell (p := ⟨w.heap.size, 2, none⟩) hws2).trans k2'; have k3'' : w3.cell? ⟨w.heap.size, 3, none⟩ = some (.int .i64 x.deep) := (hb3.cell (p := ⟨w.heap.size, 3, none⟩) hws2).trans k3'; have hws3 : w.heap.size < w3.heap.size := Nat.lt_of_lt_of_le hws2 hb3.size; have HB3 := hid hb3; clear hr3 hn3 hb3))
              have hl2 := HL2.out
              have hk2 := HK2.out
              have hi2 := HI2.out
              have hb3 := HB3.out
              go_roundw
              case rel => exact ⟨i + 1, (n + 1), lost, next, n, by go_num, rfl, rfl, rfl, by go_num, by omega, by omega, A2, _, (hl2.new hb3).new ((Below.refl _ _).alloc (Nat.le_refl _) _), (by rintro k (rfl | h); exact HLF.out _ (.inl rfl); rcases hi2 k h with h | h; exact HLF.out _ (.inr h); have := HBW.out.size; omega), wo_sendR HR.out H1.out HFU.out, ((HBW.out.trans (hk2.below HBW.out.size HLF.out)).trans (hb3.mono (Nat.le_trans HBW.out.size hk2.size))).alloc (Nat.le_trans HBW.out.size (Nat.le_trans hk2.size hb3.size)) _⟩
              case measure => simp [intOf]; omega
      · by_cases hi1 : i < l.length
        · have hi4 : ¬ i < 200 := by omega
          go_wp2_with fail
          go_ret
          exact ⟨rfl, HBEL1.out.trans (HBW.out.mono (by have := HZ1.out; omega))⟩
        · go_wp2_with fail
          go_ret
          exact ⟨rfl, HBEL1.out.trans (HBW.out.mono (by have := HZ1.out; omega))⟩
  · have he := errV_pos hc
    refine (new_bad x w4 hc).mono ?_
    rintro e w5 ⟨rfl, hw5⟩
    rw [he]
    have q0 : w5.cell? ⟨w.heap.size, 0, none⟩ = some (.int .i64 x.fr) := (hw5.cell (p := ⟨w.heap.size, 0, none⟩) (cell_lt k0)).trans k0
    have q1 : w5.cell? ⟨w.heap.size, 1, none⟩ = some (.int .i64 x.to) := (hw5.cell (p := ⟨w.heap.size, 1, none⟩) (cell_lt k0)).trans k1
    have q2 : w5.cell? ⟨w.heap.size, 2, none⟩ = some (.int .i64 x.kind) := (hw5.cell (p := ⟨w.heap.size, 2, none⟩) (cell_lt k0)).trans k2
    have q3 : w5.cell? ⟨w.heap.size, 3, none⟩ = some (.int .i64 x.deep) := (hw5.cell (p := ⟨w.heap.size, 3, none⟩) (cell_lt k0)).trans k3
    have HE := hid he
    have HX5 := hid (HX4.out.trans (hw5.mono HX4.out.size))
    clear hw5 he k0 k1 k2 k3
    go_wp2_with fail
    refine (wire_check x.fr x.to x.kind x.deep w5).mono ?_
    rintro e w6 ⟨rfl, hw6⟩
    have hev : errV (wireChk ⟨x.fr, x.to, x.kind, x.deep⟩) = .iface 23 (.int .i64 (wireChk x)) := HE.out
    rw [hev]
    have HX6 := hid (HX5.out.trans (hw6.mono HX5.out.size))
    clear hw6 hev
    go_wp2_with fail
    go_ret
    exact ⟨rfl, HBEL1.out.trans (HX6.out.mono (by have := HZ1.out; omega))⟩
end Go.Proofs.Ytfokcjooibmigaa
