/-
  UPDATE and DELETE, plain: the changes one by one; behind the first none fails.
-/
import Derived.Test.Qxb6500564aGreatQzO
namespace Go.Proofs.Qxb6500564aGreat
open Go.Den Go.Zip
set_option linter.unusedVariables false
set_option linter.unusedSimpArgs false
variable {i j k n a b : Nat} {x nm : ByteArray} {cs : List Cl} {row vs : List Vl} {T : Smt} {rows hr left : List (List Vl)} {U : Mu} {t q tq t' : Tb} {db : Db} {s : Int} {key : Vl}

theorem fnB_putTb (h : fnB nm db = some q) (hn : t'.name = nm) : fnB nm (putTb nm t' db) = some t' := by
  unfold fnB putTb at *
  induction db with
  | nil => cases h
  | cons a l ih =>
    rw [List.map_cons, List.find?_cons]
    by_cases e : a.name = nm
    · rw [if_pos e, decide_eq_true hn]
    · rw [if_neg e, decide_eq_false e]
      rw [List.find?_cons, decide_eq_false e] at h
      exact ih h
/-- Where a change finds its table: the session's own copy, with the rows seen. -/
structure CS (U : Mu) (k i : Nat) (nm : ByteArray) (t : Tb) (left : List (List Vl)) : Prop where
  ok : UOk U
  hk : k < 4
  ac : U.act k = true
  fi : fI nm (U.db 0) = some i
  ft : fnB nm (U.db 0) = some t
  tp : ∃ q, fnB nm (U.db (seenD k i U)) = some q ∧ ∀ h ∈ left, h ∈ q.rows
theorem CS.own (h : CS U k i nm t left) : ∃ q, fnB nm (U.db (seenD k i U)) = some q ∧ fnB nm ((tkU k i 2 U).db (k + 1)) = some q ∧ TbOk q ∧ sch q = sch t ∧ (∀ x ∈ left, x ∈ q.rows) ∧ DbOk ((tkU k i 2 U).db (k + 1)) ∧ Shape ((tkU k i 2 U).db (k + 1)) (U.db 0) := by
  obtain ⟨q, hq, hl⟩ := h.tp
  have ok2 := h.ok.tk (mode := 2) h.hk h.ac h.fi (Nat.le_refl _)
  have hk := h.hk
  have hd := ok2.d (k + 1) (by omega)
  have hsh := ok2.sh k h.hk (by
    have : (tkU k i 2 U).act = U.act := rfl
    rw [this]; exact h.ac)
  rw [tkU_db0] at hsh
  have own : fnB nm ((tkU k i 2 U).db (k + 1)) = some q := by
    unfold seenD at hq
    by_cases e : U.lk k i = 2
    · rw [if_pos e] at hq
      have : (tkU k i 2 U).db = U.db := by
        unfold tkU
        dsimp only
        rw [if_neg (fun h => h.2 e)]
      rw [this]
      exact hq
    · rw [if_neg e] at hq
      obtain ⟨t0, h1, h2, h3⟩ := fI_get h.fi
      rw [hq] at h3
      cases h3
      have e2 : (tkU k i 2 U).db (k + 1) = (U.db (k + 1)).set i q := by
        unfold tkU
        dsimp only
        rw [if_pos ⟨rfl, e⟩, fset_eq, getD_of h1]
      rw [e2] at hd ⊢
      have hlen := (h.ok.sh k h.hk h.ac).len
      have hil := (List.getElem?_eq_some_iff.1 h1).1
      have hi : ((U.db (k + 1)).set i q)[i]? = some q := by rw [List.getElem?_set_self (by omega)]
      have := DbOk.fnB_at hd hi
      rw [h2] at this
      exact this
  have hsq : sch q = sch t := by
    have := fnB_shape (nm := nm) hsh
    rw [own, h.ft] at this
    exact Option.some.inj this
  exact ⟨q, hq, own, hd.ok q (fnB_mem own).1, hsq, hl, hd, hsh⟩
theorem tkE_keep {db : Db} (h : tkE s nm 2 U = 0) (hs : s = (k : Nat)) (hfi : fI nm (U.db 0) = some i) : tkE s nm 2 (UP (tkU k i 2 U) k db) = 0 := by
  unfold tkE at h ⊢
  have e0 : (UP (tkU k i 2 U) k db).db 0 = U.db 0 := by
    unfold UP
    dsimp only
    rw [fset_ne (by omega), tkU_db0]
  have ea : (UP (tkU k i 2 U) k db).act = U.act := rfl
  rw [ea, e0]
  by_cases hg : gs s = false
  · rw [if_pos hg] at h; cases h
  rw [if_neg hg] at h ⊢
  by_cases ha : U.act s.toNat = false
  · rw [if_pos ha] at h; cases h
  rw [if_neg ha] at h ⊢
  rw [hfi] at h ⊢
  dsimp only at h ⊢
  have : busyB s.toNat i 2 (UP (tkU k i 2 U) k db) = busyB s.toNat i 2 U := by
    unfold busyB
    have el : (UP (tkU k i 2 U) k db).lk = (tkU k i 2 U).lk := rfl
    rw [el, hs, Int.toNat_natCast]
    congr 1
    funext o
    rw [tkU_lk]
    by_cases ho : o = k
    · subst ho; simp
    · rw [if_neg (fun h => ho h.1)]
  rw [this]
  exact h
/-- A change is done. -/
theorem CS.step (h : CS U k i nm t (row :: left)) (hq : fnB nm ((tkU k i 2 U).db (k + 1)) = some q) (rows' : List (List Vl)) (db' : Db) (hdb : db' = putTb nm { q with rows := rows' } ((tkU k i 2 U).db (k + 1))) (hok : DbOk db') (hsh : Shape db' ((tkU k i 2 U).db (k + 1))) (hl : ∀ x ∈ left, x ∈ rows') :
    CS (UP (tkU k i 2 U) k db') k i nm t left := by
  obtain ⟨q2, _, hq2, _, _, _, hd, hs⟩ := h.own
  have ok2 := h.ok.tk (mode := 2) h.hk h.ac h.fi (Nat.le_refl _)
  have e0 : (UP (tkU k i 2 U) k db').db 0 = U.db 0 := by
    unfold UP
    dsimp only
    rw [fset_ne (by omega), tkU_db0]
  refine ⟨ok2.priv h.hk h.ac hok (by rw [tkU_db0]; exact hsh.trans hs), h.hk, h.ac, by rw [e0]; exact h.fi, by rw [e0]; exact h.ft, ⟨{ q with rows := rows' }, ?_, hl⟩⟩
  have hlk : (UP (tkU k i 2 U) k db').lk k i = 2 := by
    show (tkU k i 2 U).lk k i = 2
    rw [tkU_lk]
    have := h.ok.l2 k i h.hk
    by_cases e : 2 > U.lk k i
    · rw [if_pos ⟨rfl, rfl, e⟩]
    · rw [if_neg (fun h => e h.2.2)]; omega
  unfold seenD
  rw [if_pos hlk]
  unfold UP
  dsimp only
  rw [fset_eq, hdb]
  exact fnB_putTb hq (fnB_mem hq).2
end Go.Proofs.Qxb6500564aGreat
