/-
  The plain calls keep what is sound.
-/
import Derived.Test.Qxb6500564aGreatMcQ
namespace Go.Proofs.Qxb6500564aGreat
open Go.Den Go.Zip
set_option linter.unusedVariables false
set_option linter.unusedSimpArgs false
variable {i j k n : Nat} {nm : ByteArray} {U : Mu} {vs : List Vl} {key : Vl} {cs : List Cl} {db a b : Db} {t t' : Tb}

theorem names_sch (db : Db) : db.map (·.name) = (db.map sch).map (·.name) := by rw [List.map_map]; rfl
theorem DbOk.ofSh (h : DbOk b) (hs : Shape a b) (hok : ∀ t ∈ a, TbOk t) : DbOk a := by
  refine ⟨hok, ?_, by rw [hs.len]; exact h.len⟩
  have h1 : (b.map (·.name)).Pairwise fun a b => sl a b = true := by rw [List.pairwise_map]; exact h.srt
  rw [names_sch, ← show a.map sch = b.map sch from hs, ← names_sch, List.pairwise_map] at h1
  exact h1
theorem Shape.refl (a : Db) : Shape a a := rfl
theorem Shape.trans {c : Db} (h1 : Shape a b) (h2 : Shape b c) : Shape a c := Eq.trans h1 h2
theorem Shape.symm (h1 : Shape a b) : Shape b a := Eq.symm h1
theorem fnB_mem (h : fnB nm db = some t) : t ∈ db ∧ t.name = nm := ⟨List.mem_of_find?_eq_some h, by simpa using List.find?_some h⟩
theorem DbOk.inj (h : DbOk db) {x y : Tb} (hx : x ∈ db) (hy : y ∈ db) (e : x.name = y.name) : x = y := by
  obtain ⟨i, hi⟩ := List.mem_iff_getElem?.1 hx
  obtain ⟨j, hj⟩ := List.mem_iff_getElem?.1 hy
  by_cases hij : i = j
  · subst hij
    rw [hi] at hj
    exact Option.some.inj hj
  · have := pw_get (R := fun a b : Tb => a.name ≠ b.name) (fun a b h => h.symm) (h.srt.imp_of_mem fun {a b} _ _ h => sl_ne h) hij hi hj
    exact absurd e this
theorem DbOk.put (h : DbOk db) (hf : fnB nm db = some t) (ok : TbOk t') (e : sch t' = sch t) : DbOk (putTb nm t' db) ∧ Shape (putTb nm t' db) db := by
  obtain ⟨ht, hn⟩ := fnB_mem hf
  have hs : Shape (putTb nm t' db) db := by
    unfold Shape putTb
    rw [List.map_map]
    refine List.map_congr_left fun y hy => ?_
    show sch (if _ then _ else _) = _
    by_cases ey : y.name = nm
    · rw [if_pos ey, e, h.inj ht hy (hn.trans ey.symm)]
    · rw [if_neg ey]
  refine ⟨h.ofSh hs fun y hy => ?_, hs⟩
  obtain ⟨z, hz, rfl⟩ := List.mem_map.1 hy
  split
  · exact ok
  · exact h.ok z hz
theorem set_ok (ok : TbOk t) (ty : RowTy t.cols vs) (hv : ∀ v ∈ vs, VOk v) : TbOk { t with rows := setR t.pk vs t.rows } := by
  have hs := setR_srt (row := vs) (RSrt_tb ok)
  unfold TbOk at ok ⊢
  have hm : ∀ r ∈ setR t.pk vs t.rows, RowTy t.cols r ∧ ∀ v ∈ r, VOk v := fun r hr => by
    rcases setR_mem.1 hr with ⟨rfl, _⟩ | ⟨hr, _⟩
    · exact ⟨ty, hv⟩
    · exact ok.2.2.2.2.2.2.1 r hr
  refine ⟨ok.1, ok.2.1, ok.2.2.1, ok.2.2.2.1, ok.2.2.2.2.1, ?_, hm, RSrt_vlt ok.2.2.2.1 hm hs⟩
  show (setR t.pk vs t.rows).length ≤ 8
  unfold setR
  rw [List.length_map]
  exact ok.2.2.2.2.2.1
theorem mdIns_ok (h : DbOk db) (hm : ∀ v ∈ vs, VMade v) : DbOk (mdIns nm vs db).2 ∧ Shape (mdIns nm vs db).2 db := by
  unfold mdIns
  cases hf : fnB nm db with
  | none => exact ⟨h, rfl⟩
  | some t =>
    dsimp only
    by_cases h1 : chkRow t.cols vs ≠ 0
    · rw [if_pos h1]; exact ⟨h, rfl⟩
    rw [if_neg h1]
    by_cases h2 : (rowBy t (rk t.pk vs)).isSome = true
    · rw [if_pos h2]; exact ⟨h, rfl⟩
    rw [if_neg h2]
    by_cases h3 : t.rows.length ≥ 8
    · rw [if_pos h3]; exact ⟨h, rfl⟩
    rw [if_neg h3]
    obtain ⟨-, ty, hs⟩ := chk0 (by simpa using h1)
    exact h.put hf (ins_ok (h.ok t (fnB_mem hf).1) ty (made_ok hm hs) (by omega) (by simpa using h2)) rfl
theorem mdUpd_ok (h : DbOk db) (hm : ∀ v ∈ vs, VMade v) : DbOk (mdUpd nm vs db).2 ∧ Shape (mdUpd nm vs db).2 db := by
  unfold mdUpd
  cases hf : fnB nm db with
  | none => exact ⟨h, rfl⟩
  | some t =>
    dsimp only
    by_cases h1 : chkRow t.cols vs ≠ 0
    · rw [if_pos h1]; exact ⟨h, rfl⟩
    rw [if_neg h1]
    by_cases h2 : (rowBy t (rk t.pk vs)).isNone = true
    · rw [if_pos h2]; exact ⟨h, rfl⟩
    rw [if_neg h2]
    obtain ⟨-, ty, hs⟩ := chk0 (by simpa using h1)
    exact h.put hf (set_ok (h.ok t (fnB_mem hf).1) ty (made_ok hm hs)) rfl
theorem mdDel_ok (h : DbOk db) : DbOk (mdDel nm key db).2 ∧ Shape (mdDel nm key db).2 db := by
  unfold mdDel
  cases hf : fnB nm db with
  | none => exact ⟨h, rfl⟩
  | some t =>
    dsimp only
    by_cases h1 : chkVal t.cols t.pk key ≠ 0
    · rw [if_pos h1]; exact ⟨h, rfl⟩
    rw [if_neg h1]
    by_cases h2 : (rowBy t (codeV key)).isNone = true
    · rw [if_pos h2]; exact ⟨h, rfl⟩
    rw [if_neg h2]
    exact h.put hf (del_ok (h.ok t (fnB_mem hf).1)) rfl
theorem DbOk.nil : DbOk [] := ⟨fun t ht => (by cases ht), List.Pairwise.nil, by simp⟩
theorem DbOk.set (ha : DbOk a) (hb : DbOk b) (hs : Shape a b) (hi : b[i]? = some t) : DbOk (a.set i t) ∧ Shape (a.set i t) b := by
  have hs' : Shape (a.set i t) b := by
    unfold Shape at hs ⊢
    rw [List.map_set, hs, ← List.map_set]
    congr 1
    obtain ⟨hil, e⟩ := List.getElem?_eq_some_iff.1 hi
    rw [← e, List.set_getElem_self]
  refine ⟨hb.ofSh hs' fun y hy => ?_, hs'⟩
  rcases List.mem_or_eq_of_mem_set hy with hy | rfl
  · exact ha.ok y hy
  · exact hb.ok y (List.mem_of_getElem? hi)
theorem UOk.begin (ok : UOk U) (hk : k < 4) (ha : U.act k = false) : UOk (muBegin k U) := by
  refine ⟨fun l hl => ?_, fun l hl hact => ?_, fun l i hl hlk => ?_, ok.l2, fun l hl hact => ?_⟩
  · show DbOk (fset U.db (k + 1) (U.db 0) l)
    by_cases e : l = k + 1
    · rw [e, fset_eq]; exact ok.d 0 (by omega)
    · rw [fset_ne e]; exact ok.d l hl
  · show Shape (fset U.db (k + 1) (U.db 0) (l + 1)) (fset U.db (k + 1) (U.db 0) 0)
    rw [fset_ne (show 0 ≠ k + 1 by omega)]
    by_cases e : l = k
    · rw [e, fset_eq]; exact rfl
    · rw [fset_ne (by omega)]
      have hact : fset U.act k true l = true := hact
      rw [fset_ne e] at hact
      exact ok.sh l hl hact
  · have := ok.la l i hl hlk
    refine ⟨?_, ?_⟩
    · show fset U.act k true l = true
      by_cases e : l = k
      · rw [e, fset_eq]
      · rw [fset_ne e]; exact this.1
    · show i < (fset U.db (k + 1) (U.db 0) 0).length
      rw [fset_ne (by omega)]; exact this.2
  · have hact : fset U.act k true l = false := hact
    show fset U.db (k + 1) (U.db 0) (l + 1) = []
    by_cases e : l = k
    · rw [e, fset_eq] at hact; cases hact
    · rw [fset_ne e] at hact
      rw [fset_ne (by omega)]
      exact ok.na l hl hact
theorem UOk.end_ (ok : UOk U) (hk : k < 4) : UOk (muEnd k U) := by
  refine ⟨fun l hl => ?_, fun l hl hact => ?_, fun l i hl hlk => ?_, fun l i hl => ?_, fun l hl hact => ?_⟩
  · show DbOk (fset U.db (k + 1) [] l)
    by_cases e : l = k + 1
    · rw [e, fset_eq]; exact DbOk.nil
    · rw [fset_ne e]; exact ok.d l hl
  · have hact : fset U.act k false l = true := hact
    show Shape (fset U.db (k + 1) [] (l + 1)) (fset U.db (k + 1) [] 0)
    rw [fset_ne (show 0 ≠ k + 1 by omega)]
    by_cases e : l = k
    · rw [e, fset_eq] at hact; cases hact
    · rw [fset_ne e] at hact
      rw [fset_ne (by omega)]
      exact ok.sh l hl hact
  · have hlk : fset U.lk k (fun _ => 0) l i ≠ 0 := hlk
    by_cases e : l = k
    · rw [e, fset_eq] at hlk; exact absurd rfl hlk
    · rw [fset_ne e] at hlk
      have := ok.la l i hl hlk
      refine ⟨?_, ?_⟩
      · show fset U.act k false l = true
        rw [fset_ne e]; exact this.1
      · show i < (fset U.db (k + 1) [] 0).length
        rw [fset_ne (by omega)]; exact this.2
  · show fset U.lk k (fun _ => 0) l i ≤ 2
    by_cases e : l = k
    · rw [e, fset_eq]; omega
    · rw [fset_ne e]; exact ok.l2 l i hl
  · show fset U.db (k + 1) [] (l + 1) = []
    by_cases e : l = k
    · rw [e, fset_eq]
    · rw [fset_ne (by omega)]
      have hact : fset U.act k false l = false := hact
      rw [fset_ne e] at hact
      exact ok.na l hl hact
theorem UOk.com (ok : UOk U) (hdb : DbOk db) (hs : Shape db (U.db 0)) : UOk { U with db := fset U.db 0 db } := by
  refine ⟨fun l hl => ?_, fun l hl hact => ?_, fun l i hl hlk => ?_, ok.l2, fun l hl hact => ?_⟩
  · show DbOk (fset U.db 0 db l)
    by_cases e : l = 0
    · rw [e, fset_eq]; exact hdb
    · rw [fset_ne e]; exact ok.d l hl
  · show Shape (fset U.db 0 db (l + 1)) (fset U.db 0 db 0)
    rw [fset_eq, fset_ne (by omega)]
    exact (ok.sh l hl hact).trans hs.symm
  · have := ok.la l i hl hlk
    refine ⟨this.1, ?_⟩
    show i < (fset U.db 0 db 0).length
    rw [fset_eq, hs.len]; exact this.2
  · show fset U.db 0 db (l + 1) = []
    rw [fset_ne (by omega)]
    exact ok.na l hl hact
theorem UOk.priv (ok : UOk U) (hk : k < 4) (ha : U.act k = true) (hdb : DbOk db) (hs : Shape db (U.db 0)) : UOk { U with db := fset U.db (k + 1) db } := by
  refine ⟨fun l hl => ?_, fun l hl hact => ?_, fun l i hl hlk => ?_, ok.l2, fun l hl hact => ?_⟩
  · show DbOk (fset U.db (k + 1) db l)
    by_cases e : l = k + 1
    · rw [e, fset_eq]; exact hdb
    · rw [fset_ne e]; exact ok.d l hl
  · show Shape (fset U.db (k + 1) db (l + 1)) (fset U.db (k + 1) db 0)
    rw [fset_ne (show 0 ≠ k + 1 by omega)]
    by_cases e : l = k
    · rw [e, fset_eq]; exact hs
    · rw [fset_ne (by omega)]; exact ok.sh l hl hact
  · have := ok.la l i hl hlk
    refine ⟨this.1, ?_⟩
    show i < (fset U.db (k + 1) db 0).length
    rw [fset_ne (by omega)]; exact this.2
  · show fset U.db (k + 1) db (l + 1) = []
    by_cases e : l = k
    · have hact : U.act l = false := hact
      rw [e, ha] at hact; cases hact
    · rw [fset_ne (by omega)]
      exact ok.na l hl hact
theorem UOk.lock {mode : Nat} (ok : UOk U) (hk : k < 4) (ha : U.act k = true) (hi : i < (U.db 0).length) (hm : mode ≤ 2) : UOk { U with lk := setL U.lk k i mode } := by
  have hl : ∀ l j, setL U.lk k i mode l j = if l = k ∧ j = i then mode else U.lk l j := fun l j => by
    unfold setL
    by_cases e : l = k
    · subst e
      rw [fset_eq]
      by_cases e2 : j = i
      · rw [e2, fset_eq, if_pos ⟨rfl, rfl⟩]
      · rw [fset_ne e2, if_neg fun h => e2 h.2]
    · rw [fset_ne e, if_neg fun h => e h.1]
  refine ⟨ok.d, ok.sh, fun l j hl' hlk => ?_, fun l j hl' => ?_, ok.na⟩
  · have hlk : setL U.lk k i mode l j ≠ 0 := hlk
    rw [hl] at hlk
    by_cases e : l = k ∧ j = i
    · rw [e.1, e.2]; exact ⟨ha, hi⟩
    · rw [if_neg e] at hlk; exact ok.la l j hl' hlk
  · show setL U.lk k i mode l j ≤ 2
    rw [hl]
    split
    · exact hm
    · exact ok.l2 l j hl'
theorem UOk.tk {mode : Nat} (ok : UOk U) (hk : k < 4) (ha : U.act k = true) (hf : fI nm (U.db 0) = some i) (hm : mode ≤ 2) : UOk (tkU k i mode U) := by
  obtain ⟨t, hi, hn, hfb⟩ := fI_get hf
  have hil := (List.getElem?_eq_some_iff.1 hi).1
  have h1 : UOk { U with db := if mode = 2 ∧ U.lk k i ≠ 2 then fset U.db (k + 1) ((U.db (k + 1)).set i ((U.db 0).getD i ⟨⟨#[]⟩, [], 0, 0, []⟩)) else U.db } := by
    by_cases h : mode = 2 ∧ U.lk k i ≠ 2
    · rw [if_pos h]
      have e : (U.db 0).getD i ⟨⟨#[]⟩, [], 0, 0, []⟩ = t := by rw [List.getD_eq_getElem?_getD, hi]; rfl
      rw [e]
      obtain ⟨a, b⟩ := (ok.d (k + 1) (by omega)).set (ok.d 0 (by omega)) (ok.sh k hk ha) hi
      exact ok.priv hk ha a b
    · rw [if_neg h]; exact ok
  unfold tkU
  by_cases h : mode > U.lk k i
  · rw [if_pos h]
    refine h1.lock hk ha ?_ hm
    show i < ((if mode = 2 ∧ U.lk k i ≠ 2 then fset U.db (k + 1) ((U.db (k + 1)).set i ((U.db 0).getD i ⟨⟨#[]⟩, [], 0, 0, []⟩)) else U.db) 0).length
    split
    · rw [fset_ne (by omega)]; exact hil
    · exact hil
  · rw [if_neg h]; exact h1
end Go.Proofs.Qxb6500564aGreat
