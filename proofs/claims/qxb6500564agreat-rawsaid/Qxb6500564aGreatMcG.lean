/-
  The plain database's calls; where a key stands.
-/
import Derived.Test.Qxb6500564aGreatMcF
namespace Go.Proofs.Qxb6500564aGreat
open Go.Den Go.Zip
set_option linter.unusedVariables false
set_option linter.unusedSimpArgs false
variable {w w' u v : World} {i j n q g b pk : Nat} {s r x : Sl} {row : List Vl} {rows : List (List Vl)} {ss : List Sl} {key : Vl} {tb : Tb} {nm : ByteArray} {xs : List Th}

def mdIns (nm : ByteArray) (vs : List Vl) (db : Db) : Int × Db := match fnB nm db with
  | none => (10, db)
  | some t => if chkRow t.cols vs ≠ 0 then (chkRow t.cols vs, db) else if (rowBy t (rk t.pk vs)).isSome then (17, db) else if t.rows.length ≥ 8 then (6, db)
      else (0, putTb nm { t with rows := insR t.pk vs t.rows } db)
def mdUpd (nm : ByteArray) (vs : List Vl) (db : Db) : Int × Db := match fnB nm db with
  | none => (10, db)
  | some t => if chkRow t.cols vs ≠ 0 then (chkRow t.cols vs, db) else if (rowBy t (rk t.pk vs)).isNone then (9, db)
      else (0, putTb nm { t with rows := setR t.pk vs t.rows } db)
def mdDel (nm : ByteArray) (key : Vl) (db : Db) : Int × Db := match fnB nm db with
  | none => (10, db)
  | some t => if chkVal t.cols t.pk key ≠ 0 then (chkVal t.cols t.pk key, db) else if (rowBy t (codeV key)).isNone then (9, db)
      else (0, putTb nm { t with rows := delR t.pk (codeV key) t.rows } db)
def mdLook (nm : ByteArray) (key : Vl) (db : Db) : Int × List Vl := match fnB nm db with
  | none => (10, [])
  | some t => if chkVal t.cols t.pk key ≠ 0 then (chkVal t.cols t.pk key, []) else match rowBy t (codeV key) with
      | none => (9, [])
      | some r => (0, r)
theorem db_ins (vs : List Vl) : (dbIns nm vs xs).1 = (mdIns nm vs (tbs xs)).1 ∧ tbs (dbIns nm vs xs).2 = (mdIns nm vs (tbs xs)).2 := by
  unfold dbIns mdIns
  rw [tbs_fnd]
  cases fnd nm xs with
  | none => exact ⟨rfl, rfl⟩
  | some x =>
    dsimp only [Option.map_some]
    repeat' split
    all_goals first | exact ⟨rfl, rfl⟩ | exact ⟨rfl, tbs_set _ _ _⟩
theorem db_upd (vs : List Vl) : (dbUpd nm vs xs).1 = (mdUpd nm vs (tbs xs)).1 ∧ tbs (dbUpd nm vs xs).2 = (mdUpd nm vs (tbs xs)).2 := by
  unfold dbUpd mdUpd
  rw [tbs_fnd]
  cases fnd nm xs with
  | none => exact ⟨rfl, rfl⟩
  | some x =>
    dsimp only [Option.map_some]
    repeat' split
    all_goals first | exact ⟨rfl, rfl⟩ | exact ⟨rfl, tbs_set _ _ _⟩
theorem db_del : (dbDel nm key xs).1 = (mdDel nm key (tbs xs)).1 ∧ tbs (dbDel nm key xs).2 = (mdDel nm key (tbs xs)).2 := by
  unfold dbDel mdDel
  rw [tbs_fnd]
  cases fnd nm xs with
  | none => exact ⟨rfl, rfl⟩
  | some x =>
    dsimp only [Option.map_some]
    repeat' split
    all_goals first | exact ⟨rfl, rfl⟩ | exact ⟨rfl, tbs_set _ _ _⟩
theorem db_look : dbLook nm key xs = mdLook nm key (tbs xs) := by
  unfold dbLook mdLook
  rw [tbs_fnd]
  cases fnd nm xs with
  | none => rfl
  | some x => rfl
/-- The comparison of a key with a row's key is the comparison of their codes. -/
def KeyAt (key : Vl) (pk : Nat) (r : List Vl) : Prop := (cmpV key (r.getD pk v0) < 0 ↔ sl (codeV key) (rk pk r) = true) ∧ (cmpV key (r.getD pk v0) = 0 ↔ codeV key = rk pk r) ∧ (0 < cmpV key (r.getD pk v0) ↔ sl (rk pk r) (codeV key) = true)
theorem keyAt {key v : Vl} (h1 : VOk key) (h2 : VOk v) (e : key.st = v.st) : (cmpV key v < 0 ↔ sl (codeV key) (codeV v) = true) ∧ (cmpV key v = 0 ↔ codeV key = codeV v) ∧ (0 < cmpV key v ↔ sl (codeV v) (codeV key) = true) := by
  have a : sl (codeV key) (codeV v) = vl key v := by rw [codeV_sl h1 h2 e, vl_same e]
  have b : sl (codeV v) (codeV key) = vl v key := by rw [codeV_sl h2 h1 e.symm, vl_same e.symm]
  refine ⟨?_, ?_, ?_⟩
  · rw [a]; unfold vl; rw [decide_eq_true_eq]
  · constructor
    · exact fun h => by rw [cmp_eq (ok_made h1) (ok_made h2) h]
    · exact fun h => by rw [codeV_inj h1 h2 e h, cmp_self]
  · rw [b]; unfold vl; rw [decide_eq_true_eq, cmp_swap key v]; omega
theorem keyAt_row {cs : List Cl} {r : List Vl} (hp : pk < cs.length) (hr : RowTy cs r ∧ ∀ v ∈ r, VOk v) (hk : VOk key) (e : key.st = (cs.getD pk c0).st) : KeyAt key pk r := by
  unfold KeyAt rk
  exact keyAt hk (getD_ok hr.2 pk) (by rw [e, ty_get hr.1 hp])
theorem plc_no {rows : List (List Vl)} (hs : RSrt pk rows) (H : ∀ r ∈ rows, KeyAt key pk r) (h : (plc pk key rows).2 = false) (hk : rk pk row = codeV key) :
    insR pk row rows = rows.take (plc pk key rows).1 ++ row :: rows.drop (plc pk key rows).1 ∧ ∀ r ∈ rows, rk pk r ≠ codeV key := by
  induction rows with
  | nil => exact ⟨rfl, fun r hr => by cases hr⟩
  | cons r rs ih =>
    have hc := List.pairwise_cons.1 hs
    have hr := H r (by simp)
    unfold plc at h ⊢
    by_cases h0 : cmpV key (r.getD pk v0) ≤ 0
    · rw [if_pos h0] at h
      rw [if_pos h0]
      have hne : cmpV key (r.getD pk v0) ≠ 0 := by simpa using h
      have hlt := hr.1.1 (by omega)
      refine ⟨?_, fun z hz e => ?_⟩
      · unfold insR
        rw [hk, sl_asym hlt, if_neg (by simp)]; rfl
      · rcases List.mem_cons.1 hz with rfl | hz
        · rw [e, sl_irrefl] at hlt; cases hlt
        · have := sl_trans hlt (hc.1 z hz)
          rw [e, sl_irrefl] at this; cases this
    · rw [if_neg h0] at h
      rw [if_neg h0]
      have hgt := hr.2.2.1 (by omega)
      obtain ⟨a, b⟩ := ih hc.2 (fun z hz => H z (by simp [hz])) h
      refine ⟨?_, fun z hz e => ?_⟩
      · unfold insR
        rw [hk, if_pos hgt, a]; rfl
      · rcases List.mem_cons.1 hz with rfl | hz
        · rw [e, sl_irrefl] at hgt; cases hgt
        · exact b z hz e
theorem plc_hit {rows : List (List Vl)} (hs : RSrt pk rows) (H : ∀ r ∈ rows, KeyAt key pk r) (h : (plc pk key rows).2 = true) :
    ∃ r, rows[(plc pk key rows).1]? = some r ∧ rk pk r = codeV key ∧ rows.find? (fun r => decide (rk pk r = codeV key)) = some r ∧ (rk pk row = codeV key → setR pk row rows = rows.set (plc pk key rows).1 row) ∧ delR pk (codeV key) rows = rows.take (plc pk key rows).1 ++ rows.drop ((plc pk key rows).1 + 1) := by
  induction rows with
  | nil => cases h
  | cons r rs ih =>
    have hc := List.pairwise_cons.1 hs
    have hr := H r (by simp)
    unfold plc at h ⊢
    by_cases h0 : cmpV key (r.getD pk v0) ≤ 0
    · rw [if_pos h0] at h
      rw [if_pos h0]
      have he : cmpV key (r.getD pk v0) = 0 := by simpa using h
      have hek := hr.2.1.1 he
      have far : ∀ z ∈ rs, rk pk z ≠ codeV key := fun z hz e => by
        have := hc.1 z hz
        rw [← hek, e, sl_irrefl] at this; cases this
      refine ⟨r, rfl, hek.symm, ?_, fun hk => ?_, ?_⟩
      · rw [List.find?_cons_of_pos (by simpa using hek.symm)]
      · show setR pk row (r :: rs) = row :: rs
        unfold setR
        rw [List.map_cons, if_pos (by rw [hk, hek])]
        congr 1
        have := List.map_congr_left (g := id) (l := rs) (f := fun r => if rk pk r = rk pk row then row else r) fun z hz => by
          rw [if_neg (by rw [hk]; exact far z hz)]; rfl
        rw [this, List.map_id]
      · show delR pk (codeV key) (r :: rs) = rs
        unfold delR
        rw [List.filter_cons_of_neg (by simp [hek]), List.filter_eq_self.2 fun z hz => by simpa using far z hz]
    · rw [if_neg h0] at h
      rw [if_neg h0]
      have hgt := hr.2.2.1 (by omega)
      have hne : rk pk r ≠ codeV key := fun e => by rw [e, sl_irrefl] at hgt; cases hgt
      obtain ⟨y, a, b, c, d, e⟩ := ih hc.2 (fun z hz => H z (by simp [hz])) h
      refine ⟨y, a, b, ?_, fun hk => ?_, ?_⟩
      · rw [List.find?_cons_of_neg (by simpa using hne)]; exact c
      · show setR pk row (r :: rs) = r :: rs.set _ row
        rw [← d hk]
        unfold setR
        rw [List.map_cons, if_neg (by rw [hk]; exact hne)]
      · show delR pk (codeV key) (r :: rs) = r :: (rs.take _ ++ rs.drop _)
        rw [← e]
        unfold delR
        rw [List.filter_cons_of_pos (by simpa using hne)]
theorem chkVal0 {cs : List Cl} (hm : VMade key) (h : chkVal cs pk key = 0) : VOk key ∧ key.st = (cs.getD pk c0).st := by
  unfold chkVal at h
  by_cases h1 : key.st ≠ (cs.getD pk c0).st
  · rw [if_pos h1] at h; cases h
  · rw [if_neg h1] at h
    by_cases h2 : key.s.size > 7
    · rw [if_pos h2] at h; cases h
    · exact ⟨made_vok hm (by omega), by simpa using h1⟩
theorem TbOk.keys (ok : TbOk tb) (hk : VOk key) (e : key.st = (tb.cols.getD tb.pk c0).st) : ∀ r ∈ tb.rows, KeyAt key tb.pk r := fun r hr => by
  unfold TbOk at ok
  exact keyAt_row ok.2.2.2.1 (ok.2.2.2.2.2.2.1 r hr) hk e
theorem rowBy_no (h : ∀ r ∈ tb.rows, rk tb.pk r ≠ codeV key) : rowBy tb (codeV key) = none := by
  unfold rowBy
  rw [List.find?_eq_none]
  exact fun r hr => by simpa [rk] using h r hr
theorem TbOk.sm (ok : TbOk tb) : TbSm tb := by
  unfold TbOk at ok
  have h1 := ok.2.1.2
  have h2 := ok.2.2.2.2.2.1
  refine ⟨by omega, by omega, fun r hr => ?_⟩
  have := (ok.2.2.2.2.2.2.1 r hr).1.1
  omega
/-- A place opens in a list of slices: what stands from p on moves up by one. -/
theorem shift_up {α : Type} {L : List α} {z y : α} (hj : j < L.length) (hy : L[j]? = some y) : (L.take (j + 1) ++ z :: L.drop (j + 1)).set (j + 1) y = L.take j ++ y :: y :: L.drop (j + 1) ∧ (L.take (j + 1) ++ z :: L.drop (j + 1))[j]? = some y ∧ L.take j ++ y :: y :: L.drop (j + 1) = L.take j ++ y :: L.drop j := by
  have ht : (L.take (j + 1)).length = j + 1 := by rw [List.length_take]; omega
  have hyj : L[j] = y := by rw [List.getElem?_eq_getElem hj] at hy; exact Option.some.inj hy
  refine ⟨?_, ?_, ?_⟩
  · have := List.set_append_right (s := L.take (j + 1)) (t := z :: L.drop (j + 1)) (j + 1) y (by omega)
    rw [this, ht, Nat.sub_self, List.set_cons_zero, List.take_add_one, hy]
    simp
  · rw [List.getElem?_append_left (by omega), List.getElem?_take_of_lt (by omega), hy]
  · rw [List.drop_eq_getElem_cons hj, hyj]
end Go.Proofs.Qxb6500564aGreat
