/- Several parts: each begins with what it says. -/
import Derived.Test.YthdmgighblhmhaaGreatDoorTurnU
import Derived.Test.YthdmgighblhmhaaGreatDoorRunU
import Derived.Test.YthdmgighblhmhaaGreatDoorSameU
import Derived.Test.YthdmgighblhmhaaGreatDoorEvU
import Derived.Lib.LastIndexByte
import Derived.Lib.Join
/- Plain: who does not reach a room does not matter to it: plans that are purged, cells that are poked; and the first tick at which something is so. No program in sight. -/
namespace Go.Proofs.YthdmgighblhmhaaGreatDoor

/-- Those that reach a room. -/
def Ahd (ws : List Wire) (room : Nat) (i : Int) : Prop := 0 ≤ i ∧ Reach ws i.toNat room
theorem ahd_edge {ws : List Wire} (hr : InRooms ws) (room : Nat) : ∀ x ∈ ws, Ahd ws room x.to → Ahd ws room x.fr := fun x hx h => by
  have h1 := hr x hx
  refine ⟨h1.1.1, Reach.trans ?_ h.2⟩
  exact Reach.step .refl ⟨x, hx, by omega, by omega⟩
theorem ahd_self (ws : List Wire) (room : Nat) : Ahd ws room room := ⟨by omega, by rw [Int.toNat_natCast]; exact .refl⟩

theorem purge_alike {p : Pl} (hp : PlOk p) (room : Nat) : ∀ t : Nat, AlikeOn (Ahd p.wires room) p (runK p t) (runK (purgePl p room) t)
  | 0 => ⟨rfl, fun r _ => by simp only [runK, kNew, List.getElem?_map, purge_get, Option.map_map]; rfl, fun i x _ _ => rfl⟩
  | t + 1 => (tick_alike hp (purge_ok hp room) (runK_ok hp t) (runK_ok (purge_ok hp room) t) rfl rfl (purge_len p room).symm (spans_ok hp) (fun r hr => by
      rw [purge_get]
      cases p.code[r]? with
      | none => rfl
      | some c =>
        have h2 : reachB p.wires r room = true := reachB_iff.2 (by have := hr.2; rwa [Int.toNat_natCast] at this)
        simp only [Option.map_some, purgeRow, h2, if_true]) (ahd_edge (flowChk_ok hp.flow).2.2 room) (purge_alike hp room t)).1
theorem purge_same {p : Pl} (hp : PlOk p) (room : Nat) (t : Nat) : (runK p t).rooms[room]? = (runK (purgePl p room) t).rooms[room]? := (purge_alike hp room t).rooms room (ahd_self _ _)

/-- So many ticks on. -/
def goK (p : Pl) (k : Kst) : Nat → Kst
  | 0 => k
  | t + 1 => (tick p (goK p k t)).2
theorem goK_new (p : Pl) : ∀ t : Nat, goK p (kNew p) t = runK p t
  | 0 => rfl
  | t + 1 => by show (tick p (goK p (kNew p) t)).2 = _; rw [goK_new p t]; rfl
theorem goK_ok {p : Pl} (hp : PlOk p) {k : Kst} {B : Int} (hk : KOk p k B) : ∀ t : Nat, KOk p (goK p k t) (B + t)
  | 0 => by rw [show B + ((0 : Nat) : Int) = B by omega]; exact hk
  | t + 1 => by
    have h := tick_ok hp (goK_ok hp hk t) (spans_ok hp)
    rw [show B + ((t + 1 : Nat) : Int) = B + t + 1 by omega]; exact h
theorem goK_alike {p : Pl} (hp : PlOk p) {S : Int → Prop} (hS : ∀ x ∈ p.wires, S x.to → S x.fr) {k m : Kst} {B C : Int} (hk : KOk p k B) (hm : KOk p m C) (h : AlikeOn S p k m) : ∀ t : Nat, AlikeOn S p (goK p k t) (goK p m t)
  | 0 => h
  | t + 1 => (tick_alike hp hp (goK_ok hp hk t) (goK_ok hp hm t) rfl rfl rfl (spans_ok hp) (fun _ _ => rfl) hS (goK_alike hp hS hk hm h t)).1
/-- Where a room does not reach another one, that one is alike whatever the first one is. -/
theorem poke_alike {p : Pl} (hp : PlOk p) {k : Kst} {B : Int} (hk : KOk p k B) {a c v : Int} (ho : pokeOk k.rooms.length a c v = true) {b : Nat} (hn : ¬ Reach p.wires a.toNat b) (t : Nat) : (goK p k t).rooms[b]? = (goK p (pokeK k a c v) t).rooms[b]? := by
  have h : AlikeOn (Ahd p.wires b) p k (pokeK k a c v) := ⟨rfl, fun r hr => by
    refine (poke_far fun e => hn ?_).symm
    have := hr.2
    rw [Int.toNat_natCast] at this
    rw [e]; exact this, fun _ _ _ _ => rfl⟩
  exact (goK_alike hp (ahd_edge (flowChk_ok hp.flow).2.2 b) hk (poke_right hk ho) h t).rooms b (ahd_self _ _)

/-- The first of so many at which something is so (-1: none). -/
def firstOf (f : Nat → Bool) : Nat → Int
  | 0 => -1
  | n + 1 => if 0 ≤ firstOf f n then firstOf f n else if f n = true then (n : Int) else -1
theorem firstOf_none {f : Nat → Bool} : ∀ {n : Nat}, (∀ j, j < n → f j = false) → firstOf f n = -1
  | 0, _ => rfl
  | n + 1, h => by
    unfold firstOf
    rw [firstOf_none (n := n) fun j hj => h j (by omega), if_neg (by omega), h n (by omega), if_neg (by decide)]
theorem firstOf_hit {f : Nat → Bool} {t : Nat} (ht : f t = true) (hn : ∀ j, j < t → f j = false) : ∀ {n : Nat}, t < n → firstOf f n = t
  | 0, h => by omega
  | n + 1, h => by
    unfold firstOf
    by_cases e : t = n
    · subst e; rw [firstOf_none hn, if_neg (by omega), if_pos ht]
    · rw [firstOf_hit ht hn (n := n) (by omega), if_pos (by omega)]
/-- Which it is. -/
theorem firstOf_cases (f : Nat → Bool) : ∀ n : Nat, (firstOf f n = -1 ∧ ∀ j, j < n → f j = false) ∨ ∃ t : Nat, t < n ∧ firstOf f n = t ∧ f t = true ∧ ∀ j, j < t → f j = false
  | 0 => .inl ⟨rfl, fun j h => by omega⟩
  | n + 1 => by
    rcases firstOf_cases f n with ⟨h1, h2⟩ | ⟨t, h1, h2, h3, h4⟩
    · cases hf : f n with
      | true => exact .inr ⟨n, by omega, by unfold firstOf; rw [h1, if_neg (by omega), if_pos hf], hf, h2⟩
      | false =>
        refine .inl ⟨by unfold firstOf; rw [h1, if_neg (by omega), hf, if_neg (by decide)], fun j hj => ?_⟩
        by_cases e : j = n
        · subst e; exact hf
        · exact h2 j (by omega)
    · exact .inr ⟨t, by omega, by unfold firstOf; rw [h2, if_pos (by omega)], h3, h4⟩
theorem firstOf_ge (f : Nat → Bool) (n : Nat) : -1 ≤ firstOf f n ∧ firstOf f n < n := by
  rcases firstOf_cases f n with ⟨h1, _⟩ | ⟨t, h1, h2, _⟩ <;> omega
theorem firstOf_pos {f : Nat → Bool} {n : Nat} (h : 0 ≤ firstOf f n) : ∃ t : Nat, t < n ∧ firstOf f n = t ∧ f t = true ∧ ∀ j, j < t → f j = false := by
  rcases firstOf_cases f n with ⟨h1, _⟩ | h
  · omega
  · exact h
/-- More of them have the same first one. -/
theorem firstOf_more {f : Nat → Bool} {n m : Nat} (h : 0 ≤ firstOf f n) (hm : n ≤ m) : firstOf f m = firstOf f n := by
  obtain ⟨t, h1, h2, h3, h4⟩ := firstOf_pos h
  rw [h2, firstOf_hit h3 h4 (by omega)]
theorem firstOf_congr {f g : Nat → Bool} : ∀ {n : Nat}, (∀ j, j < n → f j = g j) → firstOf f n = firstOf g n
  | 0, _ => rfl
  | n + 1, h => by unfold firstOf; rw [firstOf_congr (n := n) fun j hj => h j (by omega), h n (by omega)]

/-- Is a room unlike in two kernels, so many ticks on? -/
noncomputable def unlikeK (p : Pl) (k m : Kst) (b t : Nat) : Bool := !stEq ((goK p k t).rooms.getD b St.zero) ((goK p m t).rooms.getD b St.zero)
theorem unlikeK_false {p : Pl} {k m : Kst} {b t : Nat} (h : (goK p k t).rooms[b]? = (goK p m t).rooms[b]?) : unlikeK p k m b t = false := by
  unfold unlikeK
  rw [List.getD_eq_getElem?_getD, List.getD_eq_getElem?_getD, h, stEq_refl]; rfl
/-- Since which tick a room is unlikeK, if a cell was another number. -/
noncomputable def sinceOf (p : Pl) (a c v : Int) (b ticks : Nat) : Int := firstOf (unlikeK p (kNew p) (pokeK (kNew p) a c v) b) (ticks + 1)
theorem since_flows {p : Pl} (hp : PlOk p) {a c v : Int} (ho : pokeOk p.code.length a c v = true) {b ticks : Nat} (h : 0 ≤ sinceOf p a c v b ticks) : Reach p.wires a.toNat b := by
  obtain ⟨t, _, _, h3, _⟩ := firstOf_pos h
  refine Classical.byContradiction fun hn => ?_
  have := unlikeK_false (poke_alike hp (kNew_ok hp) (a := a) (c := c) (v := v) (by rw [(kNew_ok hp).rooms]; exact ho) hn t)
  rw [this] at h3
  cases h3
end Go.Proofs.YthdmgighblhmhaaGreatDoor

/- Plain: a log: its records as text, what is left of a text that lost its end, and the kernel of its records. No program is walked. Conditions: none. -/
namespace Go.Proofs.YthdmgighblhmhaaGreatDoor

/-- A record: so many ticks, or a cell that is poked. -/
inductive Lrec where
  | go (n : Nat)
  | poke (r c v : Nat)
def Lrec.nums : Lrec → List Nat
  | .go n => [n]
  | .poke r c v => [r, c, v]
def Lrec.ok (rooms : Nat) : Lrec → Prop
  | .go n => n ≤ 100
  | .poke r c v => r < rooms ∧ c < 6 ∧ v < 1000
def recLine (x : Lrec) : List UInt8 := Lib.join (x.nums.map fun n : Nat => Lib.itoa n) [32]
def recText (x : Lrec) : List UInt8 := recLine x ++ [10]
def recsText (l : List Lrec) : List UInt8 := l.flatMap recText
theorem rec_line (x : Lrec) : recLine x = match x with
    | .go n => Lib.itoa (n : Int)
    | .poke r c v => Lib.itoa (r : Int) ++ [(c : Int), (v : Int)].flatMap numT := by
  cases x with
  | go n => exact Lib.join_one _ _
  | poke r c v =>
    unfold recLine Lrec.nums
    simp only [List.map_cons, List.map_nil]
    rw [Lib.join_cons]
    simp [Lib.joinTail, numT]
theorem rec_cut (x : Lrec) : cutA 32 [] (recLine x) = x.nums.map fun n : Nat => Lib.itoa n := by
  rw [rec_line]
  cases x with
  | go n =>
    have := cutA_words (itoa_no32 n) []
    simpa [Lrec.nums] using this
  | poke r c v =>
    simp only []
    rw [cutA_words (itoa_no32 r)]; rfl
theorem rec_no10 (x : Lrec) : (10 : UInt8) ∉ recLine x := by
  have hn : ∀ n : Int, (10 : UInt8) ∉ Lib.itoa n := fun n => itoa_no n (.inr rfl)
  rw [rec_line]
  cases x with
  | go n => exact hn n
  | poke r c v =>
    simp only [List.flatMap_cons, List.flatMap_nil, numT, List.mem_append, List.mem_cons, List.append_nil]
    rintro (h | (h | h) | h | h)
    · exact hn _ h
    · exact absurd h (by decide)
    · exact hn _ h
    · exact absurd h (by decide)
    · exact hn _ h
theorem rec_ne (x : Lrec) : recLine x ≠ [] := by
  have hn : ∀ n : Nat, Lib.itoa (n : Int) ≠ [] := fun n => by rw [itoa_nat]; exact dec_ne n
  rw [rec_line]
  cases x with
  | go n => exact hn n
  | poke r c v => intro h; exact hn r (List.append_eq_nil_iff.1 h).1
theorem lines_recs (l : List Lrec) : linesOf (recsText l) = l.map recText := linesG_of recLine l fun x _ => rec_no10 x
/-- What a record's line is read as. -/
theorem rec_nums {R : Nat} {x : Lrec} (hR : R ≤ 5) (h : x.ok R) : numsOf 4 (cutA 32 [] (recLine x)) = some x.nums := by
  rw [rec_cut]
  have hall : ∀ n ∈ x.nums.map Int.ofNat, 0 ≤ n ∧ n < 10 ^ (3 + 1) := fun n hn => by
    obtain ⟨m, hm, rfl⟩ := List.mem_map.1 hn
    cases x with
    | go n =>
      simp only [Lrec.nums, List.mem_singleton] at hm
      have h' : n ≤ 100 := h
      subst hm
      simp; omega
    | poke r c v =>
      obtain ⟨h1, h2, h3⟩ := h
      simp only [Lrec.nums, List.mem_cons, List.mem_nil_iff, or_false] at hm
      rcases hm with rfl | rfl | rfl <;> simp <;> omega
  have h2 := numsOf_itoa (k := 3) (by decide) hall
  rw [List.map_map, List.map_map] at h2
  refine h2.trans ?_
  congr 1
  exact (List.map_congr_left fun n _ => by simp).trans (List.map_id' _)
theorem rec_le {R : Nat} {x : Lrec} (hR : R ≤ 5) (h : x.ok R) : (recText x).length ≤ 12 := by
  have h10 : (10 : Int) ^ (2 + 1) = 1000 := by decide
  have hi : ∀ n : Nat, n < 1000 → (Lib.itoa (n : Int)).length ≤ 3 := fun n hn => itoa_le (k := 2) (by omega) (by rw [h10]; omega)
  unfold recText
  rw [rec_line, List.length_append]
  cases x with
  | go n =>
    have h' : n ≤ 100 := h
    have := hi n (by omega)
    simp only [List.length_cons, List.length_nil]; omega
  | poke r c v =>
    obtain ⟨h1, h2, h3⟩ := h
    have := hi r (by omega)
    have := hi c (by omega)
    have := hi v (by omega)
    simp only [List.flatMap_cons, List.flatMap_nil, numT, List.length_append, List.length_cons, List.length_nil]; omega
theorem recs_le {R : Nat} (hR : R ≤ 5) : ∀ {l : List Lrec}, (∀ x ∈ l, x.ok R) → (recsText l).length ≤ 12 * l.length
  | [], _ => by simp [recsText]
  | x :: l, h => by
    have h1 := recs_le hR fun y hy => h y (List.mem_cons_of_mem _ hy)
    have h2 := rec_le hR (h x (by simp))
    unfold recsText at h1 ⊢
    rw [List.flatMap_cons, List.length_append, List.length_cons]; omega

/-! The kernel of records -/
def doRec (p : Pl) (k : Kst) : Lrec → Kst
  | .go n => goK p k n
  | .poke r c v => pokeK k r c v
def runRecs (p : Pl) (l : List Lrec) : Kst := l.foldl (doRec p) (kNew p)
theorem runRecs_snoc (p : Pl) (l : List Lrec) (x : Lrec) : runRecs p (l ++ [x]) = doRec p (runRecs p l) x := by
  unfold runRecs; rw [List.foldl_append]; rfl
theorem lrec_poke {R r c v : Nat} (h : (Lrec.poke r c v).ok R) : pokeOk R r c v = true := by
  obtain ⟨h1, h2, h3⟩ := h
  unfold pokeOk; exact decide_eq_true ⟨by omega, by omega, by omega, by omega, by omega, by omega⟩
theorem kok_mono {p : Pl} {k : Kst} {B C : Int} (h : KOk p k B) (hc : B ≤ C) : KOk p k C :=
  ⟨h.rooms, h.lines, h.time0, by have := h.timeB; omega, h.states, fun x hx => (h.lns x hx).mono hc⟩
theorem doRec_ok {p : Pl} (hp : PlOk p) {k : Kst} {B : Int} (hk : KOk p k B) {x : Lrec} (hx : x.ok p.code.length) : KOk p (doRec p k x) (B + 100) := by
  cases x with
  | go n =>
    have h' : n ≤ 100 := hx
    exact kok_mono (goK_ok hp hk n) (by omega)
  | poke r c v => exact kok_mono (poke_right hk (by rw [hk.rooms]; exact lrec_poke hx)) (by omega)
theorem runRecs_ok {p : Pl} (hp : PlOk p) {l : List Lrec} (h : ∀ x ∈ l, x.ok p.code.length) : KOk p (runRecs p l) (100 * (l.length : Int)) := by
  have H : ∀ (l : List Lrec) (k : Kst) (B : Int), KOk p k B → (∀ x ∈ l, x.ok p.code.length) → KOk p (l.foldl (doRec p) k) (B + 100 * (l.length : Int)) := by
    intro l
    induction l with
    | nil => intro k B hk _; exact kok_mono hk (by simp)
    | cons x l ih =>
      intro k B hk hl
      have := ih (doRec p k x) (B + 100) (doRec_ok hp hk (hl x (by simp))) fun y hy => hl y (by simp [hy])
      exact kok_mono this (by rw [List.length_cons]; omega)
  exact kok_mono (H l (kNew p) 0 (kNew_ok hp) h) (by omega)

/-! What is left of a text that lost its end -/
def wholeIn : List Lrec → Nat → Nat
  | [], _ => 0
  | x :: l, n => if (recText x).length ≤ n then wholeIn l (n - (recText x).length) + 1 else 0
theorem wholeIn_le : ∀ (l : List Lrec) (n : Nat), wholeIn l n ≤ l.length
  | [], _ => Nat.le_refl _
  | x :: l, n => by
    unfold wholeIn
    split
    · have := wholeIn_le l (n - (recText x).length)
      simp; omega
    · simp
theorem whole_split : ∀ (l : List Lrec) (part : List UInt8) (n : Nat), (10 : UInt8) ∉ part → ∃ R, (recsText l ++ part).take n = recsText (l.take (wholeIn l n)) ++ R ∧ (10 : UInt8) ∉ R
  | [], part, n, h => ⟨part.take n, by simp [recsText], fun e => h (List.mem_of_mem_take e)⟩
  | x :: l, part, n, h => by
    have e1 : recsText (x :: l) ++ part = recText x ++ (recsText l ++ part) := by unfold recsText; rw [List.flatMap_cons, List.append_assoc]
    rw [e1]
    unfold wholeIn
    split
    · rename_i hn
      obtain ⟨R, hR, hno⟩ := whole_split l part (n - (recText x).length) h
      refine ⟨R, ?_, hno⟩
      rw [List.take_append, List.take_of_length_le hn, hR, List.take_succ_cons]
      unfold recsText
      rw [List.flatMap_cons, List.append_assoc]
    · rename_i hn
      have hl : (recText x).length = (recLine x).length + 1 := by unfold recText; simp
      refine ⟨(recLine x).take n, ?_, fun e => rec_no10 x (List.mem_of_mem_take e)⟩
      rw [List.take_zero]
      unfold recText
      rw [List.append_assoc, List.take_append, show n - (recLine x).length = 0 by omega]
      simp [recsText]
theorem recs_end (l : List Lrec) : recsText l = [] ∨ ∃ B, recsText l = B ++ [10] := by
  rcases List.eq_nil_or_concat l with rfl | ⟨l', x, rfl⟩
  · exact .inl rfl
  · refine .inr ⟨recsText l' ++ recLine x, ?_⟩
    unfold recsText recText
    rw [List.concat_eq_append, List.flatMap_append]
    simp
theorem byte_list (l : List UInt8) (j : Nat) : ((⟨l.toArray⟩ : ByteArray).data[j]!) = l.getD j 0 := by
  rw [List.getD_eq_getElem?_getD]
  simp [Array.getElem!_eq_getD, Array.getD_eq_getD_getElem?]
  rfl
/-- The last line's end. -/
theorem last_nl {B R : List UInt8} (hB : B = [] ∨ ∃ B', B = B' ++ [10]) (hR : (10 : UInt8) ∉ R) : Lib.lastIndexByte ⟨(B ++ R).toArray⟩ 10 = (B.length : Int) - 1 := by
  have hsz : (⟨(B ++ R).toArray⟩ : ByteArray).size = B.length + R.length := by rw [Lib.size_eq]; simp
  have hat : ∀ j, ((⟨(B ++ R).toArray⟩ : ByteArray).data[j]!) = (B ++ R).getD j 0 := byte_list _
  have hin : ∀ j, B.length ≤ j → j < B.length + R.length → (((⟨(B ++ R).toArray⟩ : ByteArray).data[j]!).toNat : Int) ≠ 10 := fun j h1 h2 e => by
    rw [hat, List.getD_eq_getElem?_getD, List.getElem?_append_right h1, List.getElem?_eq_getElem (by omega)] at e
    have hm := List.getElem_mem (l := R) (n := j - B.length) (by omega)
    refine hR ?_
    have : R[j - B.length] = 10 := UInt8.toNat_inj.1 (by simp at e ⊢; omega)
    rw [← this]; exact hm
  rcases Lib.lastIndexByte_spec ⟨(B ++ R).toArray⟩ 10 with ⟨e, hn⟩ | ⟨i, hi, e, hc, hn⟩
  · rw [e]
    rcases hB with rfl | ⟨B', rfl⟩
    · rfl
    · refine absurd ?_ (hn B'.length (by rw [hsz]; simp; omega))
      rw [hat, List.getD_eq_getElem?_getD, List.getElem?_append_left (by simp), List.getElem?_append_right (Nat.le_refl _)]
      simp
  · rw [e]
    rw [hsz] at hi
    have h1 : i < B.length := by
      by_cases h : i < B.length
      · exact h
      · exact absurd hc (hin i (by omega) hi)
    rcases hB with rfl | ⟨B', rfl⟩
    · simp at h1
    · by_cases h2 : i = B'.length
      · rw [h2]; simp
      · refine absurd ?_ (hn B'.length (by simp at h1; omega) (by rw [hsz]; simp; omega))
        rw [hat, List.getD_eq_getElem?_getD, List.getElem?_append_left (by simp), List.getElem?_append_right (Nat.le_refl _)]
        simp

/-! A log -/
structure Lg where
  done : List Lrec
  part : List UInt8
  safe : Nat
  left : Int
  stopped : Bool
def Lg.text (L : Lg) : List UInt8 := recsText L.done ++ L.part
def Lg.new : Lg := ⟨[], [], 0, -1, false⟩
def Lg.left' (L : Lg) : Int := if L.left ≤ 0 then -1 else L.left - 1
/-- What a record comes to: is it kept? -/
def Lg.put (L : Lg) (x : Lrec) : Int × Lg :=
  if L.left = 0 then (6, ⟨L.done, (recText x).take ((recText x).length / 2), L.safe, -1, true⟩)
  else (0, ⟨L.done ++ [x], [], L.safe, L.left', false⟩)
def Lg.goE (p : Pl) (L : Lg) (n : Int) : Int × Lg :=
  if L.stopped = true then (6, L) else if n < 0 ∨ 100 < n then (1, L) else if 2000 < (runRecs p L.done).time + n then (4, L) else L.put (.go n.toNat)
def Lg.pokeE (p : Pl) (L : Lg) (r c v : Int) : Int × Lg :=
  if L.stopped = true then (6, L) else if pokeOk p.code.length r c v = false then (1, L) else L.put (.poke r.toNat c.toNat v.toNat)
def Lg.syncE (L : Lg) : Int × Lg :=
  if L.stopped = true then (6, L) else if L.left = 0 then (6, ⟨L.done, L.part, L.safe, -1, true⟩) else (0, ⟨L.done, L.part, L.text.length, L.left', false⟩)
def Lg.fail (L : Lg) (n : Int) : Lg := ⟨L.done, L.part, L.safe, if n < 0 then -1 else n, L.stopped⟩
/-- So many bytes are left behind a crash, ahead of the cut at a line's end. -/
def Lg.keepN (L : Lg) (keep : Int) : Nat := if keep ≤ 0 then L.safe else if keep < (L.text.length : Int) - L.safe then L.safe + keep.toNat else L.text.length
def Lg.crash (L : Lg) (keep : Int) : Lg :=
  ⟨L.done.take (wholeIn L.done (L.keepN keep)), [], (recsText (L.done.take (wholeIn L.done (L.keepN keep)))).length, -1, false⟩
structure LgOk (p : Pl) (L : Lg) : Prop where
  recs : ∀ x ∈ L.done, x.ok p.code.length
  part : (10 : UInt8) ∉ L.part
  pmost : L.part.length ≤ 12
  whole : L.stopped = false → L.part = []
  safe : L.safe ≤ L.text.length
  left : -1 ≤ L.left
  leftB : L.left ≤ 9223372036854775807
theorem Lg.new_ok (p : Pl) : LgOk p Lg.new := ⟨(fun x hx => by cases hx), (by simp [Lg.new]), (by simp [Lg.new]), (fun _ => rfl), (by simp [Lg.new]), (by simp [Lg.new]), (by simp [Lg.new])⟩
theorem Lg.left_ok {L : Lg} (_h : -1 ≤ L.left) : -1 ≤ L.left' := by unfold Lg.left'; split <;> omega
theorem Lg.left_most {L : Lg} (h : L.left ≤ 9223372036854775807) : L.left' ≤ 9223372036854775807 := by unfold Lg.left'; split <;> omega
theorem recs_snoc (l : List Lrec) (x : Lrec) : recsText (l ++ [x]) = recsText l ++ recText x := by unfold recsText; rw [List.flatMap_append]; simp
theorem half_no10 (x : Lrec) : (10 : UInt8) ∉ (recText x).take ((recText x).length / 2) := by
  have hl : (recText x).length = (recLine x).length + 1 := by unfold recText; simp
  have h0 := List.length_pos_iff.2 (rec_ne x)
  obtain ⟨n, hn⟩ : ∃ n, n = (recText x).length / 2 := ⟨_, rfl⟩
  have hn2 : n ≤ (recLine x).length := by omega
  rw [← hn]
  have : (recText x).take n = (recLine x).take n := by
    unfold recText
    rw [List.take_append_of_le_length hn2]
  rw [this]
  exact fun e => rec_no10 x (List.mem_of_mem_take e)
theorem Lg.put_ok {p : Pl} (hR : p.code.length ≤ 5) {L : Lg} (h : LgOk p L) (hs : L.stopped = false) {x : Lrec} (hx : x.ok p.code.length) : LgOk p (L.put x).2 := by
  have hp := h.whole hs
  have h1 := h.safe
  unfold Lg.text at h1
  rw [hp, List.append_nil] at h1
  unfold Lg.put
  split
  · refine ⟨h.recs, half_no10 x, ?_, (fun e => by cases e), ?_, by simp, by simp⟩
    · rw [List.length_take]
      have := rec_le hR hx
      omega
    · unfold Lg.text; simp only [List.length_append]; omega
  · refine ⟨fun y hy => ?_, by simp, by simp, fun _ => rfl, ?_, Lg.left_ok h.left, Lg.left_most h.leftB⟩
    · rcases List.mem_append.1 hy with hy | hy
      · exact h.recs y hy
      · rw [List.mem_singleton] at hy; rw [hy]; exact hx
    · unfold Lg.text
      simp only [recs_snoc, List.length_append]; omega
theorem Lg.go_ok {p : Pl} (hR : p.code.length ≤ 5) {L : Lg} (h : LgOk p L) (n : Int) : LgOk p (L.goE p n).2 := by
  unfold Lg.goE
  split
  · exact h
  · rename_i h1
    split
    · exact h
    · rename_i h2
      split
      · exact h
      · exact Lg.put_ok hR h (by simpa using h1) (show n.toNat ≤ 100 by omega)
theorem Lg.poke_ok {p : Pl} (hR : p.code.length ≤ 5) {L : Lg} (h : LgOk p L) (r c v : Int) : LgOk p (L.pokeE p r c v).2 := by
  unfold Lg.pokeE
  split
  · exact h
  · rename_i h1
    split
    · exact h
    · rename_i h2
      have h3 : 0 ≤ r ∧ r < p.code.length ∧ 0 ≤ c ∧ c < 6 ∧ 0 ≤ v ∧ v < 1000 := by simpa [pokeOk] using h2
      exact Lg.put_ok hR h (by simpa using h1) ⟨by omega, by omega, by omega⟩
theorem Lg.sync_ok {p : Pl} {L : Lg} (h : LgOk p L) : LgOk p L.syncE.2 := by
  unfold Lg.syncE
  split
  · exact h
  · rename_i h1
    have h2 := h.whole (by simpa using h1)
    split
    · exact ⟨h.recs, h.part, h.pmost, (fun e => by cases e), h.safe, by simp, by simp⟩
    · exact ⟨h.recs, h.part, h.pmost, fun _ => h2, Nat.le_refl _, Lg.left_ok h.left, Lg.left_most h.leftB⟩
theorem Lg.fail_ok {p : Pl} {L : Lg} (h : LgOk p L) (n : Int) (hn : n ≤ 9223372036854775807) : LgOk p (L.fail n) := ⟨h.recs, h.part, h.pmost, h.whole, h.safe, (by unfold Lg.fail; simp only []; split <;> omega), (by unfold Lg.fail; simp only []; split <;> omega)⟩
theorem Lg.crash_ok {p : Pl} {L : Lg} (h : LgOk p L) (keep : Int) : LgOk p (L.crash keep) := by
  refine ⟨fun x hx => h.recs x (List.mem_of_mem_take hx), by simp [Lg.crash], by simp [Lg.crash], fun _ => rfl, ?_, by simp [Lg.crash], by simp [Lg.crash]⟩
  unfold Lg.crash Lg.text
  simp
theorem Lg.text_le {p : Pl} (hR : p.code.length ≤ 5) {L : Lg} (h : LgOk p L) : L.text.length ≤ 12 * L.done.length + 12 := by
  have h1 := recs_le hR h.recs
  have h2 := h.pmost
  unfold Lg.text
  rw [List.length_append]; omega
end Go.Proofs.YthdmgighblhmhaaGreatDoor

/- Plain: the time of a log's kernel is the sum of its ticks. No program is walked. Conditions: none. -/
namespace Go.Proofs.YthdmgighblhmhaaGreatDoor

def Lrec.ticks : Lrec → Nat
  | .go n => n
  | .poke _ _ _ => 0
def recsTime (l : List Lrec) : Nat := (l.map Lrec.ticks).sum
theorem recsTime_snoc (l : List Lrec) (x : Lrec) : recsTime (l ++ [x]) = recsTime l + x.ticks := by unfold recsTime; simp
theorem goK_time {p : Pl} (hp : PlOk p) {k : Kst} {B : Int} (hk : KOk p k B) : ∀ n : Nat, (goK p k n).time = k.time + n
  | 0 => by show k.time = _; omega
  | n + 1 => by
    show (tick p (goK p k n)).2.time = _
    rw [tick_room_time p hp _ (goK_ok hp hk n), goK_time hp hk n]; omega
theorem doRec_time {p : Pl} (hp : PlOk p) {k : Kst} {B : Int} (hk : KOk p k B) (x : Lrec) : (doRec p k x).time = k.time + x.ticks := by
  cases x with
  | go n => exact goK_time hp hk n
  | poke r c v => show k.time = k.time + ((0 : Nat) : Int); omega
theorem runRecs_time {p : Pl} (hp : PlOk p) {l : List Lrec} (h : ∀ x ∈ l, x.ok p.code.length) : (runRecs p l).time = (recsTime l : Int) := by
  have H : ∀ (n : Nat) (l : List Lrec), l.length = n → (∀ x ∈ l, x.ok p.code.length) → (runRecs p l).time = (recsTime l : Int) := by
    intro n
    induction n with
    | zero => intro l hn _; rw [List.eq_nil_of_length_eq_zero hn]; rfl
    | succ n ih =>
      intro l hn hl
      rcases List.eq_nil_or_concat l with rfl | ⟨t, x, rfl⟩
      · rfl
      · rw [List.concat_eq_append] at *
        have ht : ∀ y ∈ t, y.ok p.code.length := fun y hy => hl y (by simp [hy])
        rw [runRecs_snoc, doRec_time hp (runRecs_ok hp ht), ih t (by simp at hn; omega) ht, recsTime_snoc]; omega
  exact H _ l rfl h
theorem recsTime_take (l : List Lrec) (n : Nat) : recsTime (l.take n) ≤ recsTime l := by
  conv => rhs; rw [← List.take_append_drop n l]
  unfold recsTime
  rw [List.map_append, List.sum_append]; omega
end Go.Proofs.YthdmgighblhmhaaGreatDoor
