/-
  UPDATE and DELETE, plain: a change on a row that is there.
-/
import Derived.Test.Qxb6500564aGreatQzP
namespace Go.Proofs.Qxb6500564aGreat
open Go.Den Go.Zip
set_option linter.unusedVariables false
set_option linter.unusedSimpArgs false
variable {i j k n a b : Nat} {x nm : ByteArray} {cs : List Cl} {row vs : List Vl} {T : Smt} {rows hr left : List (List Vl)} {U : Mu} {t q tq t' : Tb} {db : Db} {s : Int} {key : Vl}

def stRow (cs : List Cl) (sets : List Cp) (row : List Vl) : List Vl := sets.foldl (fun r c => r.set (coI cs c.col).toNat c.lit) row
/-- What a setting that check has passed tells. -/
structure StOk (cs : List Cl) (pk : Nat) (c : Cp) : Prop where
  ci : ∃ ci, coN cs c.col = some ci ∧ ci ≠ pk ∧ c.lit.st = (cs.getD ci c0).st
  sz : c.lit.s.size ≤ 7
  md : VMade c.lit
theorem made7 {v : Vl} (h : VMade v) (hs : v.s.size ≤ 7) : VOk v := ⟨fun e => ⟨h.1 e, hs⟩, fun e => h.2 e⟩
def RwOk (cs : List Cl) (vs : List Vl) : Prop := RowTy cs vs ∧ ∀ v ∈ vs, VOk v
theorem RwOk.set (h : RwOk cs vs) (hi : i < cs.length) (hv : VOk key) (ht : key.st = (cs.getD i c0).st) : RwOk cs (vs.set i key) := by
  refine ⟨⟨by rw [List.length_set]; exact h.1.1, fun j v c h1 h2 => ?_⟩, fun v hv' => ?_⟩
  · by_cases e : j = i
    · subst e
      rw [List.getElem?_set_self (by rw [h.1.1]; exact hi)] at h1
      cases h1
      rw [ht, getD_of h2]
    · rw [List.getElem?_set_ne (fun h => e h.symm)] at h1
      exact h.1.2 j v c h1 h2
  · rcases List.mem_or_eq_of_mem_set hv' with h' | rfl
    · exact h.2 v h'
    · exact hv
theorem stRow_ok {sets : List Cp} {pk : Nat} : ∀ {row : List Vl}, (∀ c ∈ sets, StOk cs pk c) → RwOk cs row → RwOk cs (stRow cs sets row) ∧ (stRow cs sets row).getD pk v0 = row.getD pk v0 := by
  induction sets with
  | nil => exact fun _ h => ⟨h, rfl⟩
  | cons c l ih =>
    intro row hs h
    have hc := hs c (by simp)
    obtain ⟨ci, h1, h2, h3⟩ := hc.ci
    have hcl := coN_lt h1
    have e : (coI cs c.col).toNat = ci := by rw [coI_some h1, Int.toNat_natCast]
    have h' : RwOk cs (row.set ci c.lit) := h.set hcl (made7 hc.md hc.sz) h3
    have := ih (row := row.set ci c.lit) (fun c' hc' => hs c' (by simp [hc'])) h'
    have e2 : stRow cs (c :: l) row = stRow cs l (row.set ci c.lit) := by
      unfold stRow
      rw [List.foldl_cons, e]
    rw [e2]
    refine ⟨this.1, this.2.trans ?_⟩
    rw [List.getD_eq_getElem?_getD, List.getElem?_set_ne h2, ← List.getD_eq_getElem?_getD]
theorem chkRow_ok (h : RwOk cs vs) : chkRow cs vs = 0 := by
  unfold chkRow
  rw [if_neg (by rw [h.1.1]; simp), if_pos, if_pos]
  · intro i hi
    have := h.2 (vs.getD i v0) (by rw [List.getD_eq_getElem?_getD, List.getElem?_eq_getElem hi]; exact List.getElem_mem hi)
    cases e : (vs.getD i v0).st with
    | true => exact (this.1 e).2
    | false => rw [(this.2 e).1]; exact Nat.zero_le _
  · intro i hi
    have h1 : vs[i]? = some (vs.getD i v0) := by rw [List.getD_eq_getElem?_getD, List.getElem?_eq_getElem hi]; rfl
    exact h.1.2 i _ _ h1 (getC_some (by rw [← h.1.1]; exact hi))
theorem row_ok (ok : TbOk q) (hr : row ∈ q.rows) : RwOk q.cols row := by
  unfold TbOk at ok
  exact ok.2.2.2.2.2.2.1 row hr
theorem code_ne (ok : TbOk q) (ha : row ∈ q.rows) (hb : vs ∈ q.rows) (hne : vs ≠ row) : codeV (vs.getD q.pk v0) ≠ codeV (row.getD q.pk v0) := fun e => by
  have ok' := ok
  unfold TbOk at ok'
  have h1 := ok'.2.2.2.2.2.2.1 row ha
  have h2 := ok'.2.2.2.2.2.2.1 vs hb
  refine key_ne ok hb ha hne (codeV_inj (getD_ok h2.2 _) (getD_ok h1.2 _) ?_ e)
  rw [ty_get h1.1 ok'.2.2.2.1, ty_get h2.1 ok'.2.2.2.1]
/-- DELETE of a row that is there. -/
theorem mdDel_hit (hd : DbOk db) (hf : fnB nm db = some q) (hr : row ∈ q.rows) : mdDel nm (row.getD q.pk v0) db = (0, putTb nm { q with rows := delR q.pk (codeV (row.getD q.pk v0)) q.rows } db) ∧ ∀ x ∈ q.rows, x ≠ row → x ∈ delR q.pk (codeV (row.getD q.pk v0)) q.rows := by
  have ok := hd.ok q (fnB_mem hf).1
  have ok' := ok
  unfold TbOk at ok'
  have h1 := ok'.2.2.2.2.2.2.1 row hr
  have hvk := getD_ok h1.2 q.pk
  constructor
  · unfold mdDel
    rw [hf]
    dsimp only
    have hc : chkVal q.cols q.pk (row.getD q.pk v0) = 0 := by
      unfold chkVal
      rw [if_neg (by rw [ty_get h1.1 ok'.2.2.2.1]; simp), if_neg]
      cases e : (row.getD q.pk v0).st with
      | true => have := (hvk.1 e).2; omega
      | false =>
        rw [(hvk.2 e).1]
        show ¬ 0 > 7
        omega
    rw [hc, if_neg (by simp), rowBy_self (pk := q.pk) ok hr |> fun h => (show rowBy q (codeV (row.getD q.pk v0)) = some row from h), if_neg (by simp)]
  · intro x hx hne
    unfold delR
    rw [List.mem_filter]
    exact ⟨hx, decide_eq_true (code_ne ok hr hx hne)⟩
/-- UPDATE of a row that is there. -/
theorem mdUpd_hit (hd : DbOk db) (hf : fnB nm db = some q) (hr : row ∈ q.rows) (hv : RwOk q.cols vs) (hk : vs.getD q.pk v0 = row.getD q.pk v0) : mdUpd nm vs db = (0, putTb nm { q with rows := setR q.pk vs q.rows } db) ∧ ∀ x ∈ q.rows, x ≠ row → x ∈ setR q.pk vs q.rows := by
  have ok := hd.ok q (fnB_mem hf).1
  have er : rk q.pk vs = codeV (row.getD q.pk v0) := by unfold rk; rw [hk]
  constructor
  · unfold mdUpd
    rw [hf]
    dsimp only
    rw [chkRow_ok hv, if_neg (by simp), er, rowBy_self (pk := q.pk) ok hr |> fun h => (show rowBy q (codeV (row.getD q.pk v0)) = some row from h), if_neg (by simp)]
  · intro x hx hne
    unfold setR
    rw [List.mem_map]
    refine ⟨x, hx, ?_⟩
    rw [er, if_neg (show ¬ rk q.pk x = _ from code_ne ok hr hx hne)]
end Go.Proofs.Qxb6500564aGreat
