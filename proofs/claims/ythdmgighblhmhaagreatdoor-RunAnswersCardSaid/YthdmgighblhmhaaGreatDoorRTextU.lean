/- Several parts: each begins with what it says. -/
import Derived.Test.YthdmgighblhmhaaGreatDoorDeskU
/- Plain: what the reference reads as a number is what the program reads as one. No program is walked. Conditions: none. -/
namespace Go.Proofs.YthdmgighblhmhaaGreatDoor
open Go.Lib

/-- The number that digits say. -/
def digsVal (s : List UInt8) : Nat := s.foldl (fun n c => n * 10 + (c.toNat - 48)) 0
def digB (c : UInt8) : Bool := decide (48 ≤ c.toNat) && decide (c.toNat ≤ 57)
theorem digs_snoc (s : List UInt8) (c : UInt8) : digsVal (s ++ [c]) = digsVal s * 10 + (c.toNat - 48) := by unfold digsVal; rw [List.foldl_append]; rfl
/-- No needless zero stands ahead. -/
def headOk (s : List UInt8) : Prop := s ≠ [] ∧ (s.head? = some 48 → s.length = 1)
theorem head_snoc {s : List UInt8} {c : UInt8} (hs : s ≠ []) (h : headOk (s ++ [c])) : s.head? ≠ some 48 := fun e => by
  have h1 : (s ++ [c]).head? = some 48 := by
    cases s with
    | nil => exact absurd rfl hs
    | cons x s => simpa using e
  have h2 := h.2 h1
  have h3 := List.length_pos_iff.2 hs
  simp at h2
  exact hs h2
theorem digs_pos : ∀ (n : Nat) (s : List UInt8), s.length = n → s ≠ [] → s.head? ≠ some 48 → (∀ c ∈ s, digB c = true) → 0 < digsVal s := by
  intro n
  induction n with
  | zero => intro s hn hs; exact absurd (List.eq_nil_of_length_eq_zero hn) hs
  | succ n ih =>
    intro s hn hs hh hd
    rcases List.eq_nil_or_concat s with rfl | ⟨t, c, rfl⟩
    · exact absurd rfl hs
    · rw [List.concat_eq_append] at *
      rw [digs_snoc]
      by_cases ht : t = []
      · subst ht
        have hc := hd c (by simp)
        unfold digB at hc
        simp only [Bool.and_eq_true, decide_eq_true_eq] at hc
        have : c.toNat ≠ 48 := fun e => hh (by simp only [List.nil_append, List.head?_cons]; congr 1; exact UInt8.toNat_inj.1 (by simpa using e))
        omega
      · have := ih t (by simp at hn; omega) ht (fun e => hh (by
          cases t with
          | nil => exact absurd rfl ht
          | cons x t => simpa using e)) (fun c hc => hd c (by simp [hc]))
        omega
theorem digs_dec : ∀ (n : Nat) (s : List UInt8), s.length = n → headOk s → (∀ c ∈ s, digB c = true) → decDigits (digsVal s) = s := by
  intro n
  induction n with
  | zero => intro s hn hs; exact absurd (List.eq_nil_of_length_eq_zero hn) hs.1
  | succ n ih =>
    intro s hn hs hd
    rcases List.eq_nil_or_concat s with rfl | ⟨t, c, rfl⟩
    · exact absurd rfl hs.1
    · rw [List.concat_eq_append] at *
      have hc := hd c (by simp)
      unfold digB at hc
      simp only [Bool.and_eq_true, decide_eq_true_eq] at hc
      have hcv : UInt8.ofNat (48 + (c.toNat - 48)) = c := by rw [show 48 + (c.toNat - 48) = c.toNat by omega]; simp
      rw [digs_snoc]
      by_cases ht : t = []
      · subst ht
        have h0 : digsVal [] = 0 := rfl
        rw [h0, Nat.zero_mul, Nat.zero_add, decDigits_one (by omega), hcv]; rfl
      · have hh := head_snoc ht hs
        have hp := digs_pos _ t rfl ht hh (fun c hc => hd c (by simp [hc]))
        have he := ih t (by simp at hn; omega) ⟨ht, fun e => absurd e hh⟩ (fun c hc => hd c (by simp [hc]))
        rw [decDigits, dif_neg (by omega)]
        rw [show (digsVal t * 10 + (c.toNat - 48)) / 10 = digsVal t by omega, show (digsVal t * 10 + (c.toNat - 48)) % 10 = c.toNat - 48 by omega, he, hcv]
theorem dec_head : ∀ (n : Nat), (decDigits n).head? = some 48 → n = 0 := by
  intro n
  induction n using Nat.strongRecOn with
  | _ n ih =>
    intro h
    by_cases hn : n < 10
    · rw [decDigits_one hn] at h
      simp only [List.head?_cons, Option.some.injEq] at h
      have := congrArg UInt8.toNat h
      simp at this
      omega
    · rw [decDigits, dif_neg hn] at h
      have h1 : (decDigits (n / 10)).head? = some 48 := by
        have hne := dec_ne (n / 10)
        cases hx : decDigits (n / 10) with
        | nil => exact absurd hx hne
        | cons x s => rw [hx] at h; simpa using h
      have := ih (n / 10) (by omega) h1
      omega
theorem dec_headOk (n : Nat) : headOk (decDigits n) := ⟨dec_ne n, fun h => by
  have := dec_head n h
  subst this
  rw [decDigits_one (by decide)]; rfl⟩
theorem dec_digB (n : Nat) : ∀ c ∈ decDigits n, digB c = true := fun c hc => by
  have := dec_digit n c hc
  unfold digB
  rw [decide_eq_true this.1, decide_eq_true this.2]; rfl
/-- What is no number. -/
theorem numOf_no {most : Int} (hm : most ≤ 18) {s : List UInt8} (h : s = [] ∨ most < s.length ∨ (s.head? = some 48 ∧ 1 < s.length) ∨ ∃ c ∈ s, digB c = false) : numOf most s = none := by
  cases hn : numOf most s with
  | none => rfl
  | some n =>
    obtain ⟨h1, h2⟩ := (numOf_some hm).1 hn
    rw [itoa_nat] at h1
    have h3 := dec_headOk n
    have h4 := dec_digB n
    rw [h1] at h3 h4
    rcases h with h | h | ⟨h, h'⟩ | ⟨c, hc, h⟩
    · exact absurd h h3.1
    · omega
    · have := h3.2 h; omega
    · rw [h4 c hc] at h; cases h
theorem numOf_yes {most : Int} (hm : most ≤ 18) {s : List UInt8} (h0 : s ≠ []) (h1 : (s.length : Int) ≤ most) (h2 : ¬ (s.head? = some 48 ∧ 1 < s.length)) (h3 : ∀ c ∈ s, digB c = true) : numOf most s = some (digsVal s) := by
  refine (numOf_some hm).2 ⟨?_, h1⟩
  rw [itoa_nat]
  exact digs_dec _ s rfl ⟨h0, fun e => by
    have := List.length_pos_iff.2 h0
    by_cases h5 : s.length = 1
    · exact h5
    · exact absurd ⟨e, by omega⟩ h2⟩ h3
theorem digs_lt (s : List UInt8) (h : ∀ c ∈ s, digB c = true) : digsVal s < 10 ^ s.length := by
  have H : ∀ (n : Nat) (s : List UInt8), s.length = n → (∀ c ∈ s, digB c = true) → digsVal s < 10 ^ s.length := by
    intro n
    induction n with
    | zero => intro s hn _; rw [List.eq_nil_of_length_eq_zero hn]; decide
    | succ n ih =>
      intro s hn hd
      rcases List.eq_nil_or_concat s with rfl | ⟨t, c, rfl⟩
      · decide
      · rw [List.concat_eq_append] at *
        have hc := hd c (by simp)
        unfold digB at hc
        simp only [Bool.and_eq_true, decide_eq_true_eq] at hc
        have := ih t (by simp at hn; omega) (fun c hc => hd c (by simp [hc]))
        rw [digs_snoc, List.length_append, List.length_singleton, Nat.pow_succ]
        omega
  exact H _ s rfl h
end Go.Proofs.YthdmgighblhmhaaGreatDoor

/- The reference (package frameref1): the contracts of Digits, Row and Number. Conditions: none. -/
namespace Go.Proofs.YthdmgighblhmhaaGreatDoor
open Go.RowKit
set_option maxRecDepth 100000

def tenDigits : ByteArray := ⟨#[48, 49, 50, 51, 52, 53, 54, 55, 56, 57]⟩
theorem dig_cut {k : Nat} (h : k < 10) : tenDigits.extract k (k + 1) = ⟨#[UInt8.ofNat (48 + k)]⟩ := by
  have hc : k = 0 ∨ k = 1 ∨ k = 2 ∨ k = 3 ∨ k = 4 ∨ k = 5 ∨ k = 6 ∨ k = 7 ∨ k = 8 ∨ k = 9 := by omega
  rcases hc with rfl | rfl | rfl | rfl | rfl | rfl | rfl | rfl | rfl | rfl <;> rfl
theorem dec_len21 {n : Nat} (h : n ≤ 9223372036854775806) : (Lib.decDigits n).length ≤ 21 := by
  have := Lib.itoa_length_le (n : Int) (by omega) (by omega)
  rwa [itoa_nat] at this
set_option maxHeartbeats 1000000 in
theorem rdigits_any : ∀ n : Nat, n ≤ 9223372036854775806 → ∀ w : World, Calls Tryz.prog 11 #[.int .i64 n] w fun e w' => e = .returned (.string ⟨(Lib.decDigits n).toArray⟩) ∧ Below w.heap.size w w' := by
  intro n
  induction n using Nat.strongRecOn with
  | _ n ih =>
    intro hn w
    by_cases h : n < 10
    · have q := dig_cut h
      unfold tenDigits at q
      have hd := Lib.decDigits_one h
      rw [hd]
      have q2 : (⟨#[48, 49, 50, 51, 52, 53, 54, 55, 56, 57]⟩ : ByteArray).size = 10 := rfl
      go_enter Tryz.func11, Tryz.ntmps11
      go_wp2_with fail
      go_ret
      exact ⟨by simp, Below.refl _ _⟩
    · have q := dig_cut (show n % 10 < 10 by omega)
      unfold tenDigits at q
      have hd : Lib.decDigits n = Lib.decDigits (n / 10) ++ [UInt8.ofNat (48 + n % 10)] := by conv => lhs; rw [Lib.decDigits, dif_neg h]
      obtain ⟨S1, hS1⟩ : ∃ S1 : ByteArray, S1 = ⟨(Lib.decDigits (n / 10)).toArray⟩ := ⟨_, rfl⟩
      have hs1 : S1.size ≤ 21 := by
        rw [hS1, Lib.size_eq]
        exact dec_len21 (by omega)
      have hs2 : ((⟨#[48, 49, 50, 51, 52, 53, 54, 55, 56, 57]⟩ : ByteArray).extract (n % 10) (n % 10 + 1)).size = 1 := by rw [q]; rfl
      have HFIN : Hid (S1 ++ (⟨#[48, 49, 50, 51, 52, 53, 54, 55, 56, 57]⟩ : ByteArray).extract (n % 10) (n % 10 + 1) = ⟨(Lib.decDigits n).toArray⟩) := hid (by
        rw [q, hd, hS1]
        apply ByteArray.ext
        rw [ByteArray.data_append]
        simp)
      have HIH : Hid (∀ w' : World, Calls Tryz.prog 11 #[.int .i64 ((n : Int) / 10)] w' fun e w'' => e = .returned (.string S1) ∧ Below w'.heap.size w' w'') := hid fun w' => by
        have h := ih (n / 10) (by omega) (by omega) w'
        rw [← hS1] at h
        have m2 : ((n : Int) / 10) = ((n / 10 : Nat) : Int) := by omega
        rw [m2]; exact h
      have q0 : (0 : Int) ≤ (n : Int) := by omega
      have q2 : (⟨#[48, 49, 50, 51, 52, 53, 54, 55, 56, 57]⟩ : ByteArray).size = 10 := rfl
      have q3 : n % 10 < 10 := by omega
      have q4 : IntKind.i64.wrap ((n : Int) / 10) = (n : Int) / 10 := IntWalk.i64_in _ (by omega)
      clear hd q ih hS1
      go_enter Tryz.func11, Tryz.ntmps11
      go_wp2_with (go_at_call 11; refine (HIH.out _).mono ?_; rintro e w1 ⟨rfl, hb1⟩; have HB1 := hid hb1; clear hb1)
      go_ret
      rw [← HFIN.out]
      exact ⟨rfl, HB1.out⟩
/-- Row: a word, and numbers. -/
theorem rrow_any (word : ByteArray) (A : Option Addr) (c : Nat) (l : List Int) (w : World) (hs : Sl w A 1 l.length (ints l)) (hfit : ∀ n ∈ l, 0 ≤ n ∧ n ≤ 9223372036854775806) (hw : word.size ≤ 100000) (hl : l.length ≤ 100) :
    Calls Tryz.prog 23 #[.string word, .slice A l.length c] w fun e w' => ∃ T : ByteArray, e = .returned (.string T) ∧ T.data.toList = word.data.toList ++ l.flatMap numT ∧ Below w.heap.size w w' := by
  have HS := hid hs
  have HFIT := hid hfit
  obtain ⟨n, hn⟩ : ∃ n, n = l.length := ⟨_, rfl⟩
  rw [← hn] at HS hl ⊢
  have HN := hid hn
  obtain ⟨W0, hW0⟩ : ∃ W0, W0 = word.data.toList := ⟨_, rfl⟩
  have HW0 := hid hW0
  rw [← hW0]
  clear hs hfit hn hW0
  go_enter Tryz.func23, Tryz.ntmps23
  go_wp2_with fail
  go_loopw [0, 5] (fun v0 v5 wr => ∃ (j : Nat) (S : ByteArray), j ≤ n ∧ v0 = .string S ∧ v5 = .int .i64 j ∧ S.data.toList = W0 ++ (l.take j).flatMap numT ∧ S.size ≤ 100000 + 22 * j ∧ Below w.heap.size w wr) (fun _ v5 _ => n - (intOf v5).toNat)
  case atStart => exact ⟨0, word, by omega, rfl, rfl, by rw [HW0.out]; simp, by omega, Below.refl _ _⟩
  case round =>
    obtain ⟨j, S, hj, rfl, rfl, hsd, hsz, hb⟩ := hrel
    have HSD := hid hsd
    have HB := hid hb
    clear hsd hb
    by_cases hjn : j < n
    · have hjl : j < l.length := by rw [← HN.out]; exact hjn
      obtain ⟨b, off, rfl, hlb, hx⟩ := HS.out.2 (by omega)
      have hget := List.getElem?_eq_getElem hjl
      have hk : wr.cell? ⟨b, off + j, none⟩ = some (.int .i64 l[j]) := (HB.out.cell (p := ⟨b, off + j, none⟩) hlb).trans (hx j _ (by unfold ints; rw [List.getElem?_map, hget]; rfl))
      have hfx := HFIT.out l[j] (List.getElem_mem hjl)
      have hnext : (l.take (j + 1)).flatMap numT = (l.take j).flatMap numT ++ numT l[j] := by rw [List.take_succ_eq_append_getElem hjl, List.flatMap_append]; simp
      generalize l[j] = x at hget hk hfx hnext
      obtain ⟨N, rfl⟩ : ∃ N : Nat, x = N := ⟨x.toNat, by omega⟩
      obtain ⟨S2, hS2⟩ : ∃ S2 : ByteArray, S2 = ⟨(Lib.decDigits N).toArray⟩ := ⟨_, rfl⟩
      have hs2 : S2.size ≤ 21 := by
        rw [hS2, Lib.size_eq]
        exact dec_len21 (by omega)
      have HIT : Hid (∀ w' : World, Calls Tryz.prog 11 #[.int .i64 N] w' fun e w'' => e = .returned (.string S2) ∧ Below w'.heap.size w' w'') := hid fun w' => by rw [hS2]; exact rdigits_any N (by omega) w'
      have HNX : Hid (numT N = 32 :: S2.data.toList) := hid (by rw [hS2]; unfold numT; rw [itoa_nat])
      have HNE := hid hnext
      have hlw : b < wr.heap.size := Nat.lt_of_lt_of_le hlb HB.out.size
      have h0 : (ByteArray.mk #[32]).size = 1 := rfl
      clear hget hfx hnext hS2 hx hlb
      go_wp2_with (go_at_call 11; refine (HIT.out _).mono ?_; rintro e w5 ⟨rfl, hb5⟩; have HB5 := hid (HB.out.trans (hb5.mono HB.out.size)); clear hb5 HIT)
      go_roundw
      case rel =>
        refine ⟨j + 1, _, by omega, rfl, by go_num, ?_, ?_, HB5.out⟩
        · rw [HNE.out, HNX.out]
          have e := HSD.out
          rw [ByteArray.data_append, ByteArray.data_append, Array.toList_append, Array.toList_append, e]
          simp
        · rw [ByteArray.size_append, ByteArray.size_append, h0]; omega
      case measure => simp [intOf]; omega
    · obtain rfl : j = n := by omega
      go_wp2_with fail
      go_ret
      refine ⟨S, rfl, ?_, HB.out⟩
      rw [HSD.out, HN.out, List.take_length]
end Go.Proofs.YthdmgighblhmhaaGreatDoor

/- The reference (package frameref1): the contracts of Number and Numbers. Conditions: none. -/
namespace Go.Proofs.YthdmgighblhmhaaGreatDoor
open Go.RowKit
set_option maxRecDepth 100000

/-- What the reference reads as a number. -/
def RNumGot (most : Int) (s : ByteArray) (w : World) (e : Ending) (w' : World) : Prop :=
  ∃ (v : Nat) (b : Bool), e = .returned (.tuple #[.int .i64 v, .bool b]) ∧ w = w' ∧ ((b = true ∧ numOf most s.data.toList = some v) ∨ (b = false ∧ v = 0 ∧ numOf most s.data.toList = none))
theorem head_byte {s : ByteArray} (h : 0 < s.size) : s.data.toList.head? = some (s[0]'h) := by
  have hl : 0 < s.data.toList.length := by rw [← Lib.size_eq]; exact h
  rw [List.head?_eq_getElem?, List.getElem?_eq_getElem hl]
  rw [Array.getElem_toList]; rfl
theorem pow_le7 {a b : Nat} (h : a ≤ b) (hb : b ≤ 7) : 10 ^ a ≤ 10000000 := Nat.le_trans (Nat.pow_le_pow_right (by decide) (Nat.le_trans h hb)) (by decide)
set_option maxHeartbeats 4000000 in
theorem rnumber_any (s : ByteArray) (most : Int) (hm : most ≤ 7) (w : World) (hs : s.size ≤ 1099511627776) : Calls Tryz.prog 36 #[.string s, .int .i64 most] w (RNumGot most s w) := by
  have hsz := Lib.size_eq s
  by_cases h0 : s.size = 0
  · have hs0 : s = ⟨#[]⟩ := by
      apply ByteArray.ext
      apply Array.eq_empty_of_size_eq_zero
      exact h0
    subst hs0
    have hno : numOf most (⟨#[]⟩ : ByteArray).data.toList = none := numOf_no (by omega) (.inl rfl)
    have HNO := hid hno
    clear hno hsz
    go_enter Tryz.func36, Tryz.ntmps36
    go_wp2_with fail
    go_ret2
    exact ⟨0, false, rfl, rfl, .inr ⟨rfl, rfl, HNO.out⟩⟩
  have hne : (s.toList == ([] : List UInt8)) = false := by
    rw [Lib.toList_data]
    cases hx : s.data.toList with
    | nil => rw [hsz, hx] at h0; simp at h0
    | cons a b => rfl
  have hpos : 0 < s.size := by omega
  by_cases h1 : most < (s.size : Int)
  · have HNO := hid (numOf_no (most := most) (s := s.data.toList) (by omega) (.inr (.inl (by rw [← hsz]; exact h1))))
    clear hsz
    go_enter Tryz.func36, Tryz.ntmps36
    go_wp2_with fail
    go_ret2
    exact ⟨0, false, rfl, rfl, .inr ⟨rfl, rfl, HNO.out⟩⟩
  have hhd := head_byte hpos
  by_cases h2 : (s[0]'hpos).toNat = 48 ∧ 1 < s.size
  · obtain ⟨h2a, h2b⟩ := h2
    have h48 : s[0]'hpos = 48 := UInt8.toNat_inj.1 (by rw [h2a]; rfl)
    have HNO := hid (numOf_no (most := most) (s := s.data.toList) (by omega) (.inr (.inr (.inl ⟨by rw [hhd, h48], by rw [← hsz]; exact h2b⟩))))
    have c0 : (((s[0]'hpos).toNat : Int) == 48) = true := by rw [h2a]; rfl
    clear hsz hhd
    go_enter Tryz.func36, Tryz.ntmps36
    go_wp2_with fail
    go_ret2
    exact ⟨0, false, rfl, rfl, .inr ⟨rfl, rfl, HNO.out⟩⟩
  have HH2 : Hid (¬ (s.data.toList.head? = some 48 ∧ 1 < s.data.toList.length)) := hid fun ⟨e1, e2⟩ => by
    rw [hhd] at e1
    refine h2 ⟨?_, by rw [hsz]; exact e2⟩
    have := Option.some.inj e1
    rw [this]; rfl
  have hle : (s.size : Int) ≤ most := by omega
  obtain ⟨L, hL⟩ : ∃ L, L = s.data.toList := ⟨_, rfl⟩
  have HL := hid hL
  have hLs : s.size = L.length := by rw [hL]; exact hsz
  have HLS := hid hLs
  have HYES : Hid ((∀ c ∈ L, digB c = true) → numOf most s.data.toList = some (digsVal L)) := hid fun hall => by
    rw [hL] at hall ⊢
    exact numOf_yes (by omega) (fun e => by rw [hsz, e] at h0; exact h0 rfl) (by rw [← hsz]; exact hle) HH2.out hall
  have HNOD : Hid (∀ c ∈ L, digB c = false → numOf most s.data.toList = none) := hid fun c hc hb => by
    rw [hL] at hc
    exact numOf_no (by omega) (.inr (.inr (.inr ⟨c, hc, hb⟩)))
  have hsz7 : s.size ≤ 7 := by omega
  rcases (show ((s[0]'hpos).toNat ≠ 48) ∨ (s[0]'hpos).toNat = 48 ∧ s.size = 1 by
    by_cases e : (s[0]'hpos).toNat = 48
    · exact .inr ⟨e, by omega⟩
    · exact .inl e) with hz | ⟨hz, hz1⟩
  all_goals
    try have c0 : (((s[0]'hpos).toNat : Int) == 48) = false := by rw [beq_eq_false_iff_ne]; omega
    try have c0 : (((s[0]'hpos).toNat : Int) == 48) = true := by rw [hz]; rfl
    clear hhd h2 hsz hL hLs HH2
    go_enter Tryz.func36, Tryz.ntmps36
    go_wp2_with fail
    go_loopw [6, 7] (fun v6 v7 wr => ∃ k : Nat, k ≤ s.size ∧ v6 = .int .i64 (digsVal (L.take k) : Nat) ∧ v7 = .int .i64 k ∧ (∀ c ∈ L.take k, digB c = true) ∧ w = wr) (fun _ v7 _ => s.size - (intOf v7).toNat)
    case atStart => exact ⟨0, by omega, rfl, rfl, fun c hc => by simp at hc, rfl⟩
    case round =>
      obtain ⟨k, hk, rfl, rfl, hall, rfl⟩ := hrel
      have HALL := hid hall
      have hlt := digs_lt _ hall
      rw [List.length_take, Nat.min_eq_left (by rw [← HLS.out]; exact hk)] at hlt
      by_cases hks : k < s.size
      · have hkl : k < L.length := by rw [← HLS.out]; exact hks
        have h7 := pow_le7 (show k ≤ 6 by omega) (by omega)
        have hb7 : 10 ^ k ≤ 1000000 := Nat.le_trans (Nat.pow_le_pow_right (by decide) (show k ≤ 6 by omega)) (by decide)
        have hbyte : s[k]'hks = L[k] := by
          have e : L[k] = s.data.toList[k]'(by rw [← HL.out]; exact hkl) := by simp only [HL.out]
          rw [e, Array.getElem_toList]; rfl
        have htk : L.take (k + 1) = L.take k ++ [L[k]] := List.take_succ_eq_append_getElem hkl
        have hmem := List.getElem_mem hkl
        obtain ⟨V, hV⟩ : ∃ V, V = digsVal (L.take k) := ⟨_, rfl⟩
        rw [← hV] at hlt ⊢
        have hnx : digsVal (L.take (k + 1)) = V * 10 + (L[k].toNat - 48) := by rw [htk, digs_snoc, hV]
        rw [← hbyte] at hnx htk hmem
        have HNX := hid hnx
        have HTK := hid htk
        have HMEM := hid hmem
        have hu : (s[k]'hks).toNat < 256 := (s[k]'hks).toNat_lt
        obtain ⟨B, hB⟩ : ∃ B, B = (s[k]'hks).toNat := ⟨_, rfl⟩
        clear hall hbyte htk hmem hnx hV
        by_cases hlo : (s[k]'hks).toNat < 48
        · have HBAD := hid (HNOD.out _ HMEM.out (by unfold digB; rw [decide_eq_false (by omega)]; rfl))
          have d1 : decide (((s[k]'hks).toNat : Int) < 48) = true := decide_eq_true (by omega)
          go_wp2_with fail
          go_ret2
          exact ⟨0, false, rfl, rfl, .inr ⟨rfl, rfl, HBAD.out⟩⟩
        · by_cases hhi : 57 < (s[k]'hks).toNat
          · have HBAD := hid (HNOD.out _ HMEM.out (by unfold digB; rw [decide_eq_false (show ¬ (s[k]'hks).toNat ≤ 57 by omega), Bool.and_false]))
            have d1 : decide (((s[k]'hks).toNat : Int) < 48) = false := decide_eq_false (by omega)
            have d2 : decide (57 < ((s[k]'hks).toNat : Int)) = true := decide_eq_true (by omega)
            go_wp2_with fail
            go_ret2
            exact ⟨0, false, rfl, rfl, .inr ⟨rfl, rfl, HBAD.out⟩⟩
          · have hdig : digB (s[k]'hks) = true := by unfold digB; rw [decide_eq_true (by omega), decide_eq_true (by omega)]; rfl
            have d1 : decide (((s[k]'hks).toNat : Int) < 48) = false := decide_eq_false (by omega)
            have d2 : decide (57 < ((s[k]'hks).toNat : Int)) = false := decide_eq_false (by omega)
            go_wp2_with fail
            go_roundw
            case rel =>
              refine ⟨k + 1, by omega, ?_, by go_num, ?_, by first | rfl | trivial⟩
              · rw [HNX.out]; go_num
              · rw [HTK.out]
                intro c hc
                rcases List.mem_append.1 hc with hc | hc
                · exact HALL.out c hc
                · rw [List.mem_singleton] at hc; rw [hc]; exact hdig
            case measure => simp [intOf]; omega
      · obtain rfl : k = s.size := by omega
        have htk : L.take s.size = L := by rw [HLS.out, List.take_length]
        rw [htk] at HALL hlt ⊢
        have HOK := hid (HYES.out HALL.out)
        obtain ⟨V, hV⟩ : ∃ V, V = digsVal L := ⟨_, rfl⟩
        rw [← hV] at HOK ⊢
        clear htk hV hall hlt
        go_wp2_with fail
        go_ret2
        exact ⟨V, true, rfl, rfl, .inl ⟨rfl, HOK.out⟩⟩
end Go.Proofs.YthdmgighblhmhaaGreatDoor
