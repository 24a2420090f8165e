/-
  A whole statement, plain: Exec.
-/
import Derived.Test.Qxb6500564aGreatQzZ
namespace Go.Proofs.Qxb6500564aGreat
open Go.Den Go.Zip
set_option linter.unusedVariables false
set_option linter.unusedSimpArgs false
variable {i j k n a b pk : Nat} {x nm text : ByteArray} {cs : List Cl} {row vs : List Vl} {T : Smt} {rows hr left : List (List Vl)} {U : Mu} {t q tq t' : Tb} {db : Db} {s : Int} {key : Vl}

theorem chU_cs : ∀ {hr : List (List Vl)} {U : Mu}, CS U k i T.table t hr → hr.Nodup → (∀ c ∈ T.sets, StOk t.cols t.pk c) → CS (chU t.cols t.pk T k i hr U) k i T.table t [] ∧ (chU t.cols t.pk T k i hr U).act = U.act
  | [], U, h, _, _ => ⟨h, rfl⟩
  | row :: left, U, h, hn, hs => by
    have h1 := (h.one hs (List.nodup_cons.1 hn).1).2
    have := chU_cs h1 (List.nodup_cons.1 hn).2 hs
    exact ⟨this.1, this.2⟩
theorem runP_ok (ok : UOk U) (hT : SmOk T) (hk : k < 4) (ha : U.act k = true) : UOk (runP (k : Nat) T U).2 ∧ (runP (k : Nat) T U).2.act = U.act := by
  by_cases h7 : T.kind = 7
  · by_cases h0 : tkE (k : Nat) T.table 2 U = 0
    · rw [runP_ins h7 h0]
      obtain ⟨k', hk', hs', ha', i, hfi, _⟩ := tk0 h0
      have : k' = k := by omega
      subst this
      dsimp only
      rw [plc_of hfi, Int.toNat_natCast]
      have ok2 : UOk (tkU k' i 2 U) := ok.tk hk ha hfi (by omega)
      have ei : insA (k' : Nat) T U = mdIns T.table T.lits ((tkU k' i 2 U).db (k' + 1)) := by unfold insA; rw [plc_of hfi, Int.toNat_natCast]
      rw [ei]
      have hsh := ok2.sh k' hk ha
      have md := mdIns_ok (nm := T.table) (ok2.d (k' + 1) (by omega)) hT.ll
      exact ⟨ok2.priv hk ha md.1 (md.2.trans hsh), rfl⟩
    · rw [runP_no h7 h0]
      exact ⟨ok, rfl⟩
  · cases hf : fnB T.table (U.db 0) with
    | none => rw [runP_none h7 hf]; exact ⟨ok, rfl⟩
    | some t =>
      by_cases hc : chkP t.cols t.pk T = 0
      · by_cases h0 : tkE (k : Nat) T.table 1 U = 0
        · rw [runP_go h7 hf hc h0]
          obtain ⟨i, hfi⟩ := fI_fnB hf
          obtain ⟨tq, hq, _⟩ := fnB_of_seen (i := i) (nm := T.table) (ok.tk (mode := 1) hk ha hfi (by omega)) hk (by rw [tkU1_db]; exact hfi)
          rw [tkU1_db] at hq
          have ok2 : UOk (tkU k i 1 U) := ok.tk hk ha hfi (by omega)
          have st := seen_tab (s := (k : Nat)) ok hk hf hq ok2
          unfold selP'
          rw [hit_of rfl hfi hq, plc_of hfi, Int.toNat_natCast]
          by_cases h8 : T.kind = 8
          · rw [if_pos h8]
            exact ⟨ok2, rfl⟩
          · rw [if_neg h8]
            dsimp only
            unfold chA
            by_cases he : tq.rows.filter (mtP t.cols T.wh) = []
            · rw [if_pos he]; exact ⟨ok2, rfl⟩
            · rw [if_neg he]
              by_cases h2 : tkE (k : Nat) T.table 2 (tkU k i 1 U) = 0
              · rw [if_pos h2]
                have := chU_cs (cs_of (cs := t.cols) ok hk ha hfi hf hq) ((nodup_rows st.1).sublist List.filter_sublist) (chk_sets hc hT)
                exact ⟨this.1.ok, this.2⟩
              · rw [if_neg h2]; exact ⟨ok2, rfl⟩
        · rw [runP_busy h7 hf hc h0]; exact ⟨ok, rfl⟩
      · rw [runP_chk h7 hf hc]; exact ⟨ok, rfl⟩
def ixC (T : Smt) (U : Mu) : Int := match fnB T.table (U.db 0) with
  | none => -1
  | some t => coI t.cols (T.list.headD ⟨#[]⟩)
def ddl (s : Int) (U : Mu) (r : Int × Db) : Rz × Mu := if alE s U ≠ 0 then (errZ (alE s U), U) else (errZ r.1, U0 U r.2)
/-- A statement of its own: begun, and ended by what it answers. -/
def ownP (s : Int) (T : Smt) (U : Mu) : Rz × Mu := ((runP s T (muBegin s.toNat U)).1, if (runP s T (muBegin s.toNat U)).1.e = 0 then muCommit s.toNat (runP s T (muBegin s.toNat U)).2 else muEnd s.toNat (runP s T (muBegin s.toNat U)).2)
def stP (s : Int) (T : Smt) (U : Mu) : Rz × Mu :=
  if T.kind = 1 then (if askB s U ≠ 0 then (errZ (askB s U), U) else (errZ 0, muBegin s.toNat U))
  else if T.kind = 2 then (if askA s U ≠ 0 then (errZ (askA s U), U) else (errZ 0, muCommit s.toNat U))
  else if T.kind = 3 then (if askA s U ≠ 0 then (errZ (askA s U), U) else (errZ 0, muEnd s.toNat U))
  else if T.kind = 4 then ddl s U (mdCreate T.table T.defs (T.pk : Nat) (U.db 0))
  else if T.kind = 5 then ddl s U (mdDrop T.table (U.db 0))
  else if T.kind = 6 then ddl s U (mdIndex T.table (ixC T U) (U.db 0))
  else if U.act s.toNat = true then runP s T U
  else ownP s T U
def exP (s : Int) (text : ByteArray) (U : Mu) : Rz × Mu :=
  if text.size > 256 then (errZ 24, U) else if gs s = false then (errZ 20, U) else match prsP text with
  | none => (errZ 22, U)
  | some T => stP s T U
theorem exP_long (h : text.size > 256) : exP s text U = (errZ 24, U) := by unfold exP; rw [if_pos h]
theorem exP_sess (h : ¬ text.size > 256) (hs : gs s = false) : exP s text U = (errZ 20, U) := by unfold exP; rw [if_neg h, if_pos hs]
theorem exP_bad (h : ¬ text.size > 256) (hs : gs s = true) (hp : prsP text = none) : exP s text U = (errZ 22, U) := by unfold exP; rw [if_neg h, if_neg (by rw [hs]; simp), hp]
theorem exP_st (h : ¬ text.size > 256) (hs : gs s = true) (hp : prsP text = some T) : exP s text U = stP s T U := by unfold exP; rw [if_neg h, if_neg (by rw [hs]; simp), hp]
theorem ask_of (hs : s = (k : Nat)) (hk : k < 4) : gs s = true ∧ (U.act k = true → askA s U = 0) ∧ (U.act k = false → askB s U = 0) := by
  have hg : gs s = true := by unfold gs; rw [hs]; exact decide_eq_true (by omega)
  refine ⟨hg, fun h => ?_, fun h => ?_⟩
  · unfold askA; rw [hg, if_neg (by simp), hs, Int.toNat_natCast, h, if_neg (by simp)]
  · unfold askB; rw [hg, if_neg (by simp), hs, Int.toNat_natCast, h, if_neg (by simp)]
end Go.Proofs.Qxb6500564aGreat
