/-
  UPDATE and DELETE, plain: all the changes; what a passed check tells.
-/
import Derived.Test.Qxb6500564aGreatQzQ
namespace Go.Proofs.Qxb6500564aGreat
open Go.Den Go.Zip
set_option linter.unusedVariables false
set_option linter.unusedSimpArgs false
variable {i j k n a b pk : Nat} {x nm : ByteArray} {cs : List Cl} {row vs : List Vl} {T : Smt} {rows hr left : List (List Vl)} {U : Mu} {t q tq t' : Tb} {db : Db} {s : Int} {key : Vl}

def chOp (cs : List Cl) (pk : Nat) (T : Smt) (row : List Vl) (db : Db) : Int × Db := if T.kind = 10 then mdDel T.table (row.getD pk v0) db else mdUpd T.table (stRow cs T.sets row) db
def ch1 (cs : List Cl) (pk : Nat) (T : Smt) (k i : Nat) (U : Mu) (row : List Vl) : Mu := UP (tkU k i 2 U) k (chOp cs pk T row ((tkU k i 2 U).db (k + 1))).2
def chU (cs : List Cl) (pk : Nat) (T : Smt) (k i : Nat) (rows : List (List Vl)) (U : Mu) : Mu := rows.foldl (ch1 cs pk T k i) U
theorem CS.one (h : CS U k i T.table t (row :: left)) (hs : ∀ c ∈ T.sets, StOk t.cols t.pk c) (hnd : row ∉ left) :
    (chOp t.cols t.pk T row ((tkU k i 2 U).db (k + 1))).1 = 0 ∧ CS (ch1 t.cols t.pk T k i U row) k i T.table t left := by
  obtain ⟨q, _, hq, okq, hsq, hl, hd, hsh⟩ := h.own
  have ec : q.cols = t.cols := sch_c hsq
  have ep : q.pk = t.pk := sch_p hsq
  have hrq : row ∈ q.rows := hl row (List.mem_cons_self ..)
  have hne : ∀ x ∈ left, x ≠ row := fun x hx e => hnd (e ▸ hx)
  unfold ch1 chOp
  by_cases hk : T.kind = 10
  · rw [if_pos hk, ← ep]
    have m := mdDel_hit hd hq hrq
    have mo := mdDel_ok (nm := T.table) (key := row.getD q.pk v0) hd
    refine ⟨by rw [m.1], ?_⟩
    refine h.step hq _ _ (by rw [m.1]) mo.1 mo.2 fun x hx => m.2 x (hl x (List.mem_cons_of_mem _ hx)) (hne x hx)
  · rw [if_neg hk]
    have hrw := row_ok okq hrq
    rw [ec] at hrw
    have so := stRow_ok (pk := t.pk) hs hrw
    have m := mdUpd_hit (vs := stRow t.cols T.sets row) hd hq hrq (by rw [ec]; exact so.1) (by rw [ep]; exact so.2)
    have mo := mdUpd_ok (nm := T.table) (vs := stRow t.cols T.sets row) hd fun v hv => ⟨fun e => ((so.1.2 v hv).1 e).1, fun e => (so.1.2 v hv).2 e⟩
    refine ⟨by rw [m.1], ?_⟩
    refine h.step hq _ _ (by rw [m.1]) mo.1 mo.2 fun x hx => m.2 x (hl x (List.mem_cons_of_mem _ hx)) (hne x hx)
theorem ch1_keep (h : tkE s nm 2 U = 0) (hs : s = (k : Nat)) (hfi : fI nm (U.db 0) = some i) : tkE s nm 2 (ch1 cs pk T k i U row) = 0 := tkE_keep h hs hfi
theorem ch1_db0 : (ch1 cs pk T k i U row).db 0 = U.db 0 := by
  unfold ch1 UP
  dsimp only
  rw [fset_ne (by omega), tkU_db0]
theorem chk_all (h : chkP cs pk T = 0) : noC cs T = false ∧ T.sets.any (pkG cs pk) = false ∧ T.sets.any (tyG cs) = false ∧ T.wh.any (tyG cs) = false ∧ T.sets.any (lgG cs) = false := by
  unfold chkP at h
  cases h1 : noC cs T
  · rw [h1, if_neg (by simp)] at h
    cases h2 : T.sets.any (pkG cs pk)
    · rw [h2, if_neg (by simp)] at h
      cases h3 : T.sets.any (tyG cs)
      · cases h4 : T.wh.any (tyG cs)
        · rw [h3, h4, if_neg (by simp)] at h
          cases h5 : T.sets.any (lgG cs)
          · exact ⟨rfl, rfl, rfl, rfl, rfl⟩
          · rw [h5, if_pos rfl] at h; cases h
        · rw [h3, h4, if_pos (by rfl)] at h; cases h
      · rw [h3, if_pos (by rfl)] at h; cases h
    · rw [h2, if_pos rfl] at h; cases h
  · rw [h1, if_pos rfl] at h; cases h
theorem any_no {α : Type} {f : α → Bool} {l : List α} (h : l.any f = false) {x : α} (hx : x ∈ l) : f x = false := by
  cases e : f x
  · rfl
  · rw [List.any_eq_true.2 ⟨x, hx, e⟩] at h; cases h
theorem nCo_no (h : nCo cs nm = false) : coN cs nm ≠ none := fun e => by unfold nCo at h; rw [e] at h; cases h
theorem noC_all (h : noC cs T = false) : (T.order ≠ ⟨#[]⟩ → coN cs T.order ≠ none) ∧ (∀ n ∈ T.list, coN cs n ≠ none) ∧ (∀ c ∈ T.sets, coN cs c.col ≠ none) ∧ (∀ c ∈ T.wh, coN cs c.col ≠ none) := by
  unfold noC at h
  rw [Bool.or_eq_false_iff, Bool.or_eq_false_iff, Bool.or_eq_false_iff] at h
  obtain ⟨⟨⟨h1, h2⟩, h3⟩, h4⟩ := h
  refine ⟨fun ho => ?_, fun n hn => nCo_no (any_no h2 hn), fun c hc => nCo_no (any_no h3 hc), fun c hc => nCo_no (any_no h4 hc)⟩
  rw [decide_eq_false ho] at h1
  exact nCo_no h1
theorem chk_wh (h : chkP cs pk T = 0) : (∀ c ∈ T.wh, tyG cs c = false) ∧ ∀ c ∈ T.wh, coN cs c.col ≠ none := ⟨fun c hc => any_no (chk_all h).2.2.2.1 hc, (noC_all (chk_all h).1).2.2.2⟩
theorem coN_name (h : x ∈ cs.map (·.name)) : coN cs x ≠ none := fun e => by
  unfold coN at e
  obtain ⟨c, hc, rfl⟩ := List.mem_map.1 h
  have := List.findIdx?_eq_none_iff.1 e c hc
  simp at this
theorem chk_names (h : chkP cs pk T = 0) : ∀ n ∈ prC cs T, coN cs n ≠ none := fun n hn => by
  unfold prC at hn
  rcases List.mem_append.1 hn with hn | hn
  · exact (noC_all (chk_all h).1).2.1 n hn
  · cases hs : T.star
    · rw [hs, if_neg (by simp)] at hn; cases hn
    · rw [hs, if_pos rfl] at hn; exact coN_name hn
theorem chk_sets (h : chkP cs pk T = 0) (hT : SmOk T) : ∀ c ∈ T.sets, StOk cs pk c := fun c hc => by
  obtain ⟨h1, h2, h3, h4, h5⟩ := chk_all h
  obtain ⟨ci, hci⟩ := Option.ne_none_iff_exists'.1 ((noC_all h1).2.2.1 c hc)
  have e2 := any_no h2 hc
  have e3 := any_no h3 hc
  have e5 := any_no h5 hc
  unfold pkG at e2
  unfold tyG at e3
  unfold lgG at e5
  rw [coI_some hci] at e2 e3
  rw [hci, Option.isSome_some, Bool.true_and] at e3 e5
  rw [Int.toNat_natCast] at e3
  refine ⟨⟨ci, hci, fun e => ?_, ?_⟩, ?_, hT.sl c hc⟩
  · subst e; simp at e2
  · simpa using e3
  · have := of_decide_eq_false e5; omega
/-- How UPDATE and DELETE end. -/
def chA (cs : List Cl) (pk : Nat) (T : Smt) (s : Int) (k i : Nat) (hr : List (List Vl)) (U : Mu) : Int × Int × Mu := if hr = [] then (0, 0, U) else if tkE s T.table 2 U = 0 then (0, (hr.length : Nat), chU cs pk T k i hr U) else (21, 0, U)
end Go.Proofs.Qxb6500564aGreat
