/- For framelaw2.CarePlays: the reference's care out of its parts, and the steps of the error. -/
import Derived.Test.YtongkiccglaniaaDoorRCare
import Derived.Test.YtongkiccglaniaaDoorCareGet
import Derived.Test.YtongkiccglaniaaDoorRPlanU
import Derived.Test.YtongkiccglaniaaDoorAloneMem
import Derived.Test.YtongkiccglaniaaDoorSameU
import Derived.Test.YtongkiccglaniaaDoorDoorU
import Derived.IntWalk
import Derived.StillTailTactics
import Derived.Deep.DeepCutAuto
import Derived.Deep.CutBlock
namespace Go.Proofs.YtongkiccglaniaaDoor
open Go.RowKit
set_option maxRecDepth 100000

theorem Beside.sub {w : World} {ts us : List Tg} (h : Beside w ts) (f : Nat → Nat) (hf : ∀ i u, us[i]? = some u → ts[f i]? = some u) (hne : ∀ i j, i < us.length → j < us.length → i ≠ j → f i ≠ f j) : Beside w us :=
  ⟨fun t ht => by obtain ⟨i, hi⟩ := List.mem_iff_getElem?.1 ht; exact h.get (hf i t hi),
   fun i j s t hs ht hn => h.apart (f i) (f j) s t (hf i s hs) (hf j t ht) (hne i j (List.getElem?_eq_some_iff.1 hs).1 (List.getElem?_eq_some_iff.1 ht).1 hn)⟩
/-- The reference's care out of its parts. -/
theorem rc_join {w0 wz : World} {ts : List Tg} {t0 : Tg} {cb : Nat} {p : Pl} {what : List Int} {most : Int} {C : RCM} {c : Cst} (h : Stand w0 wz ts) (f : Nat → Nat) (h0 : ts[0]? = some t0) (hf : ∀ i u, (rcareL cb p what most C c)[i]? = some u → ts[f i]? = some u)
    (hne : ∀ i j, i < 4 → j < 4 → i ≠ j → f i ≠ f j) (hz : ∀ i, i < 4 → f i ≠ 0) (hcap : what.length ≤ C.wc ∧ C.wc ≤ maxLen) : Stand w0 wz [t0, rcT cb p what most C c] := by
  have hl : (rcareL cb p what most C c).length = 4 := rfl
  have hL : Lie wz (rcT cb p what most C c) := RCareAt.lie ⟨h.all.sub f hf (by rw [hl]; exact hne), hcap⟩
  have key : ∀ u ∈ rcareL cb p what most C c, ∃ i, f i ≠ 0 ∧ ts[f i]? = some u := fun u hu => by
    obtain ⟨i, hi⟩ := List.mem_iff_getElem?.1 hu
    exact ⟨i, hz i (by rw [← hl]; exact (List.getElem?_eq_some_iff.1 hi).1), hf i u hi⟩
  refine ⟨⟨fun u hu => ?_, fun i j s u hs hu hn b hW hF => ?_⟩, fun u hu j hj => ?_, h.below⟩
  · simp at hu
    rcases hu with rfl | rfl
    · exact h.get h0
    · exact hL
  · have h1 := (List.getElem?_eq_some_iff.1 hs).1
    have h2 := (List.getElem?_eq_some_iff.1 hu).1
    simp at h1 h2
    have hij : (i = 0 ∧ j = 1) ∨ (i = 1 ∧ j = 0) := by omega
    rcases hij with ⟨rfl, rfl⟩ | ⟨rfl, rfl⟩
    · simp at hs hu
      subst hs hu
      obtain ⟨v, hv, hF⟩ := hF
      obtain ⟨q, hq0, hq⟩ := key v hv
      exact h.all.apart 0 (f q) _ _ h0 hq (fun e => hq0 e.symm) b hW hF
    · simp at hs hu
      subst hs hu
      obtain ⟨v, hv, hW⟩ := hW
      obtain ⟨q, hq0, hq⟩ := key v hv
      exact h.all.apart (f q) 0 _ _ hq h0 hq0 b hW hF
  · simp at hu
    rcases hu with rfl | rfl
    · exact h.fresh _ (List.mem_of_getElem? h0) j hj
    · obtain ⟨v, hv, hj⟩ := hj
      obtain ⟨q, _, hq⟩ := key v hv
      exact h.fresh _ (List.mem_of_getElem? hq) j hj
/-- A block of the walk's own, that may be written. -/
theorem Stand.lab {w wr : World} {ts : List Tg} (h : Stand w wr ts) (cs : Array Value) (T : Nat) : Stand w (wr.alloc (.cells cs T)) (ts ++ [blkT wr.heap.size (.cells cs T (0, 0))]) := by
  refine h.add ((Below.refl _ _).alloc (Nat.le_refl _) _) (blk_lie (heap_alloc_new wr _)) (fun j hj => ?_) (fun j hj => .inl ?_)
  · have e : j = wr.heap.size := hj
    omega
  · have e : j = wr.heap.size := hj
    omega

theorem care_steps {E0 E1 E2 most : Int} {nl nn : Nat} {b : Bool} (h1 : E1 = if E0 ≠ 0 then E0 else if nl ≠ nn then 3 else 0) (h2 : E2 = if E1 ≠ 0 then E1 else if b = true then 1 else 0) :
    (if E0 ≠ 0 then E0 else if nl ≠ nn then 3 else if b = true ∨ most < 0 ∨ 100 < most then 1 else 0) = if E2 ≠ 0 then E2 else if most < 0 ∨ 100 < most then (1 : Int) else 0 := by
  by_cases e0 : E0 = 0
  · by_cases el : nl = nn
    · rw [if_neg (by simpa using e0), if_neg (by simpa using el)] at h1
      subst h1
      rw [if_neg (by decide)] at h2
      rw [if_neg (by simpa using e0), if_neg (by simpa using el)]
      cases b with
      | true => rw [if_pos rfl] at h2; subst h2; simp
      | false => rw [if_neg (by decide)] at h2; subst h2; simp
    · rw [if_neg (by simpa using e0), if_pos el] at h1
      subst h1
      rw [if_pos (by decide)] at h2
      subst h2
      rw [if_neg (by simpa using e0), if_pos el, if_pos (by decide)]
  · rw [if_pos e0] at h1
    subst h1
    rw [if_pos e0] at h2
    subst h2
    rw [if_pos e0, if_pos e0]
/-- What a Poke answers, and what it leaves. -/
def pkE (p : Pl) (r c v : Int) : Int := if pokeOk p.code.length r c v = true then 0 else 1
def pkC (p : Pl) (k : Cst) (r c v : Int) : Cst := if pokeOk p.code.length r c v = true then pokeC k r c v else k
theorem pkC_ok {p : Pl} {what : List Int} {most : Int} {k : Cst} {B : Int} (hk : COk p what most k B) (r c v : Int) : COk p what most (pkC p k r c v) B := by
  unfold pkC
  cases hb : pokeOk p.code.length r c v with
  | false => rw [if_neg (by decide)]; exact hk
  | true => rw [if_pos rfl]; exact pokeC_ok hk hb
theorem RCareAt.kcell {w : World} {cb : Nat} {p : Pl} {what : List Int} {most : Int} {C : RCM} {c : Cst} (h : RCareAt w cb p what most C c) : w.cell? ⟨cb, 0, none⟩ = some (.pointer (some ⟨C.kb, 0, none⟩)) := blk_cell h.obj 0
theorem RCareAt.tcell {w : World} {cb : Nat} {p : Pl} {what : List Int} {most : Int} {C : RCM} {c : Cst} (h : RCareAt w cb p what most C c) : w.cell? ⟨cb, 3, none⟩ = some (.slice C.tA what.length C.tc) := blk_cell h.obj 3
theorem cpoke_stand {w2 w : World} {cb : Nat} {p : Pl} {what : List Int} {most : Int} {C : CM} {k : Cst} {B : Int} {t : Tg} (hp : PlOk p) (hk : COk p what most k B) (h : Stand w2 w [careT cb p what most C k, t]) (r c v : Int) :
    Calls Tryd.prog 52 #[.pointer (some ⟨cb, 0, none⟩), .int .i64 r, .int .i64 c, .int .i64 v] w fun e w' => e = .returned (errV (pkE p r c v)) ∧ Stand w2 w' [careT cb p what most C (pkC p k r c v), t] := by
  unfold pkE pkC
  cases hb : pokeOk p.code.length r c v with
  | false =>
    rw [if_neg (by decide), if_neg (by decide)]
    refine (cpoke_bad hp hk (h.get (i := 0) rfl).here r c v hb).mono ?_
    rintro e w' ⟨rfl, rfl⟩
    exact ⟨rfl, h⟩
  | true =>
    rw [if_pos rfl, if_pos rfl, errV_zero]
    refine (cpoke_ok hp hk (h.get (i := 0) rfl).here r c v hb).mono ?_
    rintro e w' ⟨rfl, hw⟩
    exact ⟨rfl, h.go 0 rfl hw⟩
theorem rpoke_stand {w2 w : World} {db : Nat} {p : Pl} {what : List Int} {most : Int} {D : RCM} {k : Cst} {B : Int} {t : Tg} (hp : PlOk p) (hk : COk p what most k B) (h : Stand w2 w [t, rcT db p what most D k]) (r c v : Int) :
    Calls Tryd.prog 53 #[.pointer (some ⟨D.kb, 0, none⟩), .int .i64 r, .int .i64 c, .int .i64 v] w fun e w' => e = .returned (.int .i64 (pkE p r c v)) ∧ Stand w2 w' [t, rcT db p what most D (pkC p k r c v)] := by
  have hl : k.k.rooms.length = p.code.length := hk.k.rooms
  have hR := (h.get (i := 1) rfl).here
  unfold pkE pkC
  cases hb : pokeOk p.code.length r c v with
  | false =>
    rw [if_neg (by decide), if_neg (by decide)]
    refine (rpoke_bad r c v (by rw [hl]; exact hp.most5) hR.kat (by rw [hl]; exact hb)).mono ?_
    rintro e w' ⟨rfl, rfl⟩
    exact ⟨rfl, h⟩
  | true =>
    rw [if_pos rfl, if_pos rfl]
    refine (rpoke_ok r c v (by rw [hl]; exact hp.most5) hR.kat (by rw [hl]; exact hb)).mono ?_
    rintro e w' ⟨rfl, h1, h2, _⟩
    exact ⟨rfl, h.go 1 rfl (hR.goK h1 ⟨rfl, rfl⟩ h2 fun _ hj => .inl hj)⟩
end Go.Proofs.YtongkiccglaniaaDoor
