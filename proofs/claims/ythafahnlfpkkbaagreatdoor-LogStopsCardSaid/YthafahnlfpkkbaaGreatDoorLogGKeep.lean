/- Package log: the contract of keep, for every record and every log that has not stopped. Conditions: the library's table of powers, which the row lists. -/
import Derived.Test.YthafahnlfpkkbaaGreatDoorLogGAct
import Derived.Test.YthafahnlfpkkbaaGreatDoorLogKeep
namespace Go.Proofs.YthafahnlfpkkbaaGreatDoor
open Go.RowKit
set_option maxRecDepth 100000

theorem bytes_app (a b : List UInt8) : (⟨a.toArray⟩ : ByteArray) ++ ⟨b.toArray⟩ = ⟨(a ++ b).toArray⟩ := by
  apply ByteArray.ext
  rw [ByteArray.data_append]
  simp
theorem bytes_of {a : ByteArray} {l : List UInt8} (h : a.data.toList = l) : a = ⟨l.toArray⟩ := by
  apply ByteArray.ext
  rw [← h]
theorem Lg.put_kept {L : Lg} {x : Lrec} (h : L.left ≠ 0) : L.put x = (0, ⟨L.done ++ [x], [], L.safe, L.left', false⟩) := by unfold Lg.put; rw [if_neg h]
theorem Lg.put_stop {L : Lg} {x : Lrec} (h : L.left = 0) : L.put x = (6, ⟨L.done, (recText x).take ((recText x).length / 2), L.safe, -1, true⟩) := by unfold Lg.put; rw [if_pos h]
/-- What keep leaves. -/
def LKept (w0 : World) (lb kb nb : Nat) (m : PM) (L : Lg) (x : Lrec) (e : Ending) (w' : World) : Prop :=
  e = .returned (errV (L.put x).1) ∧ ∃ M', Stand w0 w' [kTh kb m.pl M' (runRecs m.pl (L.put x).2.done), lgT lb m kb (L.put x).2, planT m, conT nb (.cells (ints (x.nums.map Int.ofNat)).toArray 3 (0, 0))]

set_option maxHeartbeats 8000000 in
theorem lgkeep_any {w0 w : World} {lb kb nb : Nat} {m : PM} {M : KM} {L : Lg} (hpl : PlOk m.pl) (hL : LgOk m.pl L) (hst : L.stopped = false) (hfew : L.done.length ≤ 1000) {x : Lrec} (hx : x.ok m.pl.code.length)
    (hp : Pows w0) (hpow : 3 < w0.heap.size)
    (h : Stand w0 w [kTh kb m.pl M (runRecs m.pl L.done), lgT lb m kb L, planT m, conT nb (.cells (ints (x.nums.map Int.ofNat)).toArray 3 (0, 0))]) :
    Calls Tryz.prog 96 #[.pointer (some ⟨lb, 0, none⟩), .slice (some ⟨nb, 0, none⟩) x.nums.length x.nums.length] w (LKept w0 lb kb nb m L x) := by
  obtain ⟨i0, hi0, hz0, hz1, hz2⟩ := info_parts Tryz.infoStr
  obtain ⟨l, hl⟩ : ∃ l, l = x.nums.map Int.ofNat := ⟨_, rfl⟩
  obtain ⟨k, hk⟩ : ∃ k, k = runRecs m.pl L.done := ⟨_, rfl⟩
  have hKOK : KOk m.pl k (100 * (L.done.length : Int)) := by rw [hk]; exact runRecs_ok hpl hL.recs
  have HFIN : Hid (∀ e w', (∀ (_ : e = .returned (errV (L.put x).1)) M', Stand w0 w' [kTh kb m.pl M' (runRecs m.pl (L.put x).2.done), lgT lb m kb (L.put x).2, planT m, conT nb (.cells (ints l).toArray 3 (0, 0))] → LKept w0 lb kb nb m L x e w')) := hid fun e w' he M' hs => ⟨he, M', by rw [← hl]; exact hs⟩
  have hfit : ∀ n ∈ l, 0 ≤ n ∧ n ≤ 1000 := fun n hn => by
    rw [hl] at hn
    obtain ⟨u, hu, rfl⟩ := List.mem_map.1 hn
    have h5 := hpl.most5
    cases x with
    | go n =>
      simp only [Lrec.nums, List.mem_singleton] at hu
      have h' : n ≤ 100 := hx
      subst hu
      simp; omega
    | poke r c v =>
      obtain ⟨h1, h2, h3⟩ := hx
      simp only [Lrec.nums, List.mem_cons, List.mem_nil_iff, or_false] at hu
      rcases hu with rfl | rfl | rfl <;> simp <;> omega
  have hlen : x.nums.length = l.length := by rw [hl, List.length_map]
  have hl1 : 1 ≤ l.length := by rw [← hlen]; cases x <;> simp [Lrec.nums]
  have hl3 : l.length ≤ 3 := by rw [← hlen]; cases x <;> simp [Lrec.nums]
  have hln : recLine x = Lib.join (l.map Lib.itoa) [32] := by unfold recLine; rw [hl, List.map_map]; rfl
  have hact : ∀ w' (L' : Lg), Stand w0 w' [kTh kb m.pl M k, lgT lb m kb L', planT m, conT nb (.cells (ints l).toArray 3 (0, 0))] →
      Calls Tryz.prog 140 #[.pointer (some ⟨kb, 0, none⟩), .slice (some ⟨nb, 0, none⟩) l.length l.length] w' fun e w'' => e = .returned .nilIface ∧ ∃ M', Stand w0 w'' [kTh kb m.pl M' (doRec m.pl k x), lgT lb m kb L', planT m, conT nb (.cells (ints l).toArray 3 (0, 0))] := fun w' L' hs => by
    have hcon : w'.heap[nb]? = some (.cells (ints l).toArray 3 (0, 0)) := (hs.get (i := 3) rfl).here
    have := lact_rec hpl hKOK (by omega) hx nb 0 l.length (fun j u hu => by
      rw [Nat.zero_add, blk_cell hcon]
      rw [← hl] at hu
      simpa using hu) hs
    rw [hlen] at this
    exact this
  rw [← hl, ← hk] at h
  rw [hlen]
  have HST := hid h
  have HACT := hid hact
  have HFIT := hid hfit
  have HLN := hid hln
  have HK := hid hk
  have HL := hid hL
  have hleft := hL.left
  have hleftB := hL.leftB
  have hsz0 := Lg.text_le hpl.most5 hL
  have hwh := hL.whole hst
  have HWH := hid hwh
  have HPW : Hid (∀ w', Below w0.heap.size w0 w' → Pows w') := hid fun w' hb => hp.new hpow hb
  obtain ⟨n, hn⟩ : ∃ n, n = l.length := ⟨_, rfl⟩
  rw [← hn] at hl1 hl3 HACT ⊢
  have HN := hid hn
  obtain ⟨TX, hTX⟩ : ∃ TX : ByteArray, TX = ⟨L.text.toArray⟩ := ⟨_, rfl⟩
  have hTXs : TX.size ≤ 12012 := by rw [hTX, Lib.size_eq]; simp; omega
  have HTX := hid hTX
  clear h hact hfit hln hp hpow hn hpl hL hx hKOK hl hlen hk hwh hTX hst hsz0 hfew
  go_enter Tryz.func96, Tryz.ntmps96
  go_wp2_with fail
  go_loopw [5, 11] (fun v5 v11 wr => ∃ (j : Nat) (A : Option Addr) (cap : Nat), j ≤ n ∧ v5 = .slice A j cap ∧ v11 = .int .i64 j ∧
    Stand w0 wr [kTh kb m.pl M k, lgT lb m kb L, planT m, conT nb (.cells (ints l).toArray 3 (0, 0)), rowT 9 1 A j cap ((l.map digV).take j)]) (fun _ v11 _ => n - (intOf v11).toNat)
  case atStart => exact ⟨0, none, 0, by omega, rfl, rfl, stand_nil HST.out _ _⟩
  case round =>
    obtain ⟨j, A, cap, hj, rfl, rfl, hst⟩ := hrel
    have HS := hid hst
    have hnb : wr.heap[nb]? = some (.cells (ints l).toArray 3 (0, 0)) := (hst.get (i := 3) rfl).here
    have hnl := blk_lt hnb
    clear hst
    by_cases hjn : j < n
    · have hjl : j < l.length := by rw [← HN.out]; exact hjn
      have hget := List.getElem?_eq_getElem hjl
      have hk : wr.cell? ⟨nb, j, none⟩ = some (.int .i64 l[j]) := by
        rw [blk_cell hnb]; unfold ints; rw [List.getElem?_toArray, List.getElem?_map, hget]; rfl
      have hfx := HFIT.out l[j] (List.getElem_mem hjl)
      have hnext : (l.map digV).take (j + 1) = (l.map digV).take j ++ [digV l[j]] := by rw [List.take_succ_eq_append_getElem (by rw [List.length_map]; exact hjl), List.getElem_map]
      generalize l[j] = y at hget hk hfx hnext
      obtain ⟨S2, hS2⟩ : ∃ S2 : ByteArray, S2 = ⟨(Lib.itoa y).toArray⟩ := ⟨_, rfl⟩
      have HIT : Hid (Calls Tryz.prog 109 #[.int .i64 y] wr fun e w'' => e = .returned (.string S2) ∧ Below wr.heap.size wr w'') := by
        rw [hS2]; exact itoaS_any y (by omega) (by omega) wr (HPW.out _ HS.out.below)
      have HNX : Hid ((l.map digV).take (j + 1) = (l.map digV).take j ++ [.string S2]) := by rw [hnext, hS2]; rfl
      clear hget hfx hnext hS2 hnb
      go_wp2_with (first
        | (go_at_call 109; refine HIT.out.mono ?_; rintro e w5 ⟨rfl, hb5⟩; have HS5 := hid (HS.out.new hb5); clear hb5 HIT)
        | (at_builtin; refine wpList_append_row _ rfl _ _ 130 rfl 9 i0 (.string ⟨#[]⟩) 1 16 Tryz.underlying130 hi0 hz0 hz1 hz2 rfl (by decide) A j cap ((l.map digV).take j) rfl ?c0 (some ⟨w5.heap.size, 0, none⟩) 1 1 [.string S2] rfl ?c1 ?c2 ?c3 ?c4 ?_))
      case c0 => exact Row.alloc (HS5.out.get (i := 4) rfl).here _
      case c1 => exact one_sl w5 _ _
      case c2 => intro u hu; simp at hu; subst hu; rfl
      case c3 => unfold maxLen; omega
      case c4 => omega
      intro A' cap' w6 hrow6 hkeep6 hin6
      rw [← HNX.out] at hrow6
      have hst6 := (HS5.out.new ((Below.refl _ w5).alloc (Nat.le_refl _) (.cells #[.string S2] 9))).go 4 rfl (row_went hrow6 hkeep6 (fun i hi => by rw [sz_alloc]; exact hin6 i hi))
      have HS6 : Hid (Stand w0 w6 [kTh kb m.pl M k, lgT lb m kb L, planT m, conT nb (.cells (ints l).toArray 3 (0, 0)), rowT 9 1 A' (j + 1) cap' ((l.map digV).take (j + 1))]) := hst6
      clear hrow6 hkeep6 hin6 hst6
      go_wp2_with fail
      go_roundw
      case rel => exact ⟨j + 1, A', cap', by omega, by go_num, by go_num, HS6.out⟩
      case measure => simp [intOf]; omega
    · obtain rfl : j = n := by omega
      have htk : (l.map digV).take j = l.map digV := by rw [List.take_of_length_le (by rw [List.length_map]; have := HN.out; omega)]
      rw [htk] at HS
      clear htk hnb hnl
      obtain ⟨bk, o, rfl, hbk, hx⟩ := (show Row wr 9 1 A j cap (l.map digV) from (HS.out.get (i := 4) rfl).here).sl.2 (by omega)
      have hcap : j ≤ cap := (show Row wr 9 1 (some ⟨bk, o, none⟩) j cap (l.map digV) from (HS.out.get (i := 4) rfl).here).le.1
      have hmm : (l.map fun n => (⟨(Lib.itoa n).toArray⟩ : ByteArray)).map (fun s => s.data.toList) = l.map Lib.itoa := by rw [List.map_map]; rfl
      obtain ⟨J, hJ⟩ : ∃ J : ByteArray, J = ⟨(recLine x).toArray⟩ := ⟨_, rfl⟩
      have hjl : (recLine x).length ≤ 70 := by
        rw [HLN.out]
        have h1 := join_len (l.map Lib.itoa) 21 (fun x hx => by
          obtain ⟨n, hn, rfl⟩ := List.mem_map.1 hx
          have := HFIT.out n hn
          exact Lib.itoa_length_le n (by omega) (by omega))
        simp only [List.length_map] at h1
        have := HN.out; omega
      have hJl : J.size ≤ 70 := by rw [hJ, Lib.size_eq]; exact hjl
      have HJ : Hid (Calls Tryz.prog 139 #[.slice (some ⟨bk, o, none⟩) j cap, .string ⟨#[32]⟩] wr fun e w' => e = .returned (.string J) ∧ Below wr.heap.size wr w') := by
        have h := Tryz.strings_Join bk o cap (l.map fun n => (⟨(Lib.itoa n).toArray⟩ : ByteArray)) ⟨#[32]⟩ wr (fun i x hi => hx i _ (by
          rw [List.getElem?_map] at hi ⊢
          cases hg : l[i]? with
          | none => rw [hg] at hi; simp at hi
          | some n => rw [hg] at hi; simp at hi; subst hi; rfl)) hbk (by rw [List.length_map]; have := HN.out; omega) (by rw [List.length_map, ← HN.out]; exact hcap) (by
          rw [hmm]
          show (Lib.join (l.map Lib.itoa) [32]).length ≤ _
          rw [← HLN.out]
          omega)
        rw [List.length_map, ← HN.out, hmm] at h
        have e : (Lib.join (l.map Lib.itoa) (⟨#[32]⟩ : ByteArray).data.toList) = recLine x := HLN.out.symm
        rw [e] at h
        rw [hJ]; exact hid h
      have HJE := hid hJ
      clear hx hJ hjl hmm
      by_cases hz : L.left = 0
      · have e0 : decide (L.left = 0) = true := decide_eq_true hz
        have e1 : (if L.left ≤ 0 then (-1 : Int) else L.left - 1) = -1 := if_pos (by omega)
        have HSTEP : Hid (∀ w', Stand w0 w' [kTh kb m.pl M k, lgT lb m kb L, planT m, conT nb (.cells (ints l).toArray 3 (0, 0))] → Calls Tryz.prog 97 #[.pointer (some ⟨lb, 0, none⟩)] w' fun e w'' => e = .returned (.bool true) ∧ Keep (fun j => j = lb) w' w'' ∧
            w''.heap[lb]? = some (.cells #[.slice m.A m.ros.length m.c, .int .i64 m.ticks, .slice m.sA m.spans.length m.sc, .slice m.wA m.wires.length m.wc, .pointer (some ⟨kb, 0, none⟩), .string TX, .int .i64 L.safe, .int .i64 (-1), .bool true] 174 (0, 0))) := hid fun w' hs => by
          have := lgstep_any hleft hleftB (hs.get (i := 1) rfl).here
          rw [e0, e1] at this
          unfold txt at this
          rw [← HTX.out] at this
          exact this
        clear e0 e1
        go_wp2_with (first
          | (go_at_call 139; refine HJ.out.mono ?_; rintro e w7 ⟨rfl, hb7⟩; have HS7 := hid ((HS.out.new hb7).few (ts := [kTh kb m.pl M k, lgT lb m kb L, planT m, conT nb (.cells (ints l).toArray 3 (0, 0))])); clear hb7 HJ)
          | (go_at_call 97; refine (HSTEP.out _ HS7.out).mono ?_; rintro e w8 ⟨rfl, hk8, hx8⟩; have HK8 := hid hk8; have HX8 := hid hx8; have c5 := blk_cell hx8 5; have c4 := blk_cell hx8 4; have f5 := blk_free hx8 5; have hl8 := blk_lt hx8; simp at c5 c4; clear hk8 hx8 HSTEP))
        obtain ⟨S, hS⟩ : ∃ S : ByteArray, S = J ++ ⟨#[10]⟩ := ⟨_, rfl⟩
        rw [← hS]
        have HSE := hid hS
        have q0 : (0 : Int) ≤ (S.size : Int) := by omega
        have q1 : (0 : Int) ≤ (S.size : Int) / 2 := by omega
        have q2 : (S.size : Int) / 2 ≤ (S.size : Int) := by omega
        have q3 : S.size ≤ 71 := by rw [hS, ByteArray.size_append]; have : (⟨#[10]⟩ : ByteArray).size = 1 := rfl; omega
        have q4 : IntKind.i64.wrap ((S.size : Int) / 2) = (S.size : Int) / 2 := IntWalk.i64_in _ (by omega)
        clear hS
        go_region
        obtain ⟨L2, hL2⟩ : ∃ L2 : Lg, L2 = ⟨L.done, (recText x).take ((recText x).length / 2), L.safe, -1, true⟩ := ⟨_, rfl⟩
        have hSx : S = ⟨(recText x).toArray⟩ := by
          rw [HSE.out, HJE.out]
          exact bytes_app (recLine x) [10]
        have htx : txt L2.text = .string (TX ++ S.extract 0 (S.size / 2)) := by
          have e2 : L2.text = L.text ++ (recText x).take ((recText x).length / 2) := by
            rw [hL2]; unfold Lg.text
            rw [HWH.out]; simp
          have e3 : S.size = (recText x).length := by rw [hSx, Lib.size_eq]
          rw [e2, HTX.out, e3, Lib.extract_eq, hSx]
          show txt _ = .string (⟨L.text.toArray⟩ ++ _)
          rw [bytes_app]
          simp [txt]
        obtain ⟨w9, hw9⟩ : ∃ w9, w9 = w8.setCell ⟨lb, 5, none⟩ (.string (TX ++ S.extract 0 (S.size / 2))) := ⟨_, rfl⟩
        have hx9 : w9.heap[lb]? = some (.cells (lgCells m kb L2) 174 (0, 0)) := by
          rw [hw9]
          refine (blk_set HX8.out 5 _).trans ?_
          unfold lgCells
          rw [htx, hL2]; rfl
        have hk9 : Keep (fun j => j = lb) w7 w9 := by rw [hw9]; exact HK8.out.setCell (.inl rfl) _
        have HS9 : Hid (Stand w0 w9.drew [kTh kb m.pl M k, lgT lb m kb L2, planT m, conT nb (.cells (ints l).toArray 3 (0, 0))]) := (HS7.out.go 1 rfl (lg_went hk9 hx9)).new (Below.refl _ _).drew
        rw [← hw9]
        clear hw9 hx9 hk9 htx c5 c4 f5 hl8 hSx
        go_wp2_with fail
        go_ret
        refine HFIN.out _ _ (by rw [Lg.put_stop hz]; show _ = Ending.returned (errV 6); rw [errV_pos (by decide)]; rfl) M ?_
        rw [Lg.put_stop hz]
        simp only []
        rw [← HK.out, ← hL2]
        exact HS9.out
      · have e0 : decide (L.left = 0) = false := decide_eq_false hz
        have e1 : (if L.left ≤ 0 then (-1 : Int) else L.left - 1) = L.left' := rfl
        have HSTEP : Hid (∀ w', Stand w0 w' [kTh kb m.pl M k, lgT lb m kb L, planT m, conT nb (.cells (ints l).toArray 3 (0, 0))] → Calls Tryz.prog 97 #[.pointer (some ⟨lb, 0, none⟩)] w' fun e w'' => e = .returned (.bool false) ∧ Keep (fun j => j = lb) w' w'' ∧
            w''.heap[lb]? = some (.cells #[.slice m.A m.ros.length m.c, .int .i64 m.ticks, .slice m.sA m.spans.length m.sc, .slice m.wA m.wires.length m.wc, .pointer (some ⟨kb, 0, none⟩), .string TX, .int .i64 L.safe, .int .i64 L.left', .bool false] 174 (0, 0))) := hid fun w' hs => by
          have := lgstep_any hleft hleftB (hs.get (i := 1) rfl).here
          rw [e0, e1] at this
          unfold txt at this
          rw [← HTX.out] at this
          exact this
        clear e0 e1
        go_wp2_with (first
          | (go_at_call 139; refine HJ.out.mono ?_; rintro e w7 ⟨rfl, hb7⟩; have HS7 := hid ((HS.out.new hb7).few (ts := [kTh kb m.pl M k, lgT lb m kb L, planT m, conT nb (.cells (ints l).toArray 3 (0, 0))])); clear hb7 HJ)
          | (go_at_call 97; refine (HSTEP.out _ HS7.out).mono ?_; rintro e w8 ⟨rfl, hk8, hx8⟩; have HK8 := hid hk8; have HX8 := hid hx8; have c5 := blk_cell hx8 5; have c4 := blk_cell hx8 4; have f5 := blk_free hx8 5; have hl8 := blk_lt hx8; simp at c5 c4; clear hk8 hx8 HSTEP))
        obtain ⟨L2, hL2⟩ : ∃ L2 : Lg, L2 = ⟨L.done ++ [x], [], L.safe, L.left', false⟩ := ⟨_, rfl⟩
        have htx : txt L2.text = .string (TX ++ (J ++ ⟨#[10]⟩)) := by
          have e2 : L2.text = L.text ++ (recLine x ++ [10]) := by
            rw [hL2]; unfold Lg.text
            rw [recs_snoc, HWH.out]
            simp [recText]
          rw [e2, HTX.out, HJE.out]
          show txt _ = .string (⟨L.text.toArray⟩ ++ (⟨(recLine x).toArray⟩ ++ ⟨[10].toArray⟩))
          rw [bytes_app, bytes_app]; rfl
        obtain ⟨w9, hw9⟩ : ∃ w9, w9 = w8.setCell ⟨lb, 5, none⟩ (.string (TX ++ (J ++ ⟨#[10]⟩))) := ⟨_, rfl⟩
        have hx9 : w9.heap[lb]? = some (.cells (lgCells m kb L2) 174 (0, 0)) := by
          rw [hw9]
          refine (blk_set HX8.out 5 _).trans ?_
          unfold lgCells
          rw [htx, hL2]; rfl
        have hk9 : Keep (fun j => j = lb) w7 w9 := by rw [hw9]; exact HK8.out.setCell (.inl rfl) _
        have HS9 : Hid (Stand w0 w9 [kTh kb m.pl M k, lgT lb m kb L2, planT m, conT nb (.cells (ints l).toArray 3 (0, 0))]) := HS7.out.go 1 rfl (lg_went hk9 hx9)
        rw [← hw9]
        clear hw9 hx9 hk9 htx c5 c4 f5 hl8
        refine (HACT.out w9 L2 HS9.out).mono ?_
        rintro e w10 ⟨rfl, M', hst⟩
        have HS10 := hid hst
        clear hst
        go_wp2_with fail
        go_ret
        refine HFIN.out _ _ (by rw [Lg.put_kept hz, errV_zero]; rfl) M' ?_
        rw [Lg.put_kept hz]
        simp only []
        rw [runRecs_snoc, ← HK.out, ← hL2]
        exact HS10.out
end Go.Proofs.YthafahnlfpkkbaaGreatDoor
