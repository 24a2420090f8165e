/-
  The manager: a write set is played on the store: plain.
-/
import Derived.Test.Qxb6500564aGreatTxO
namespace Go.Proofs.Qxb6500564aGreat
open Go.Den Go.Zip
set_option linter.unusedVariables false
set_option linter.unusedSimpArgs false
variable {i j k n p : Nat} {db db' : Db} {nm : ByteArray} {key : Vl} {U : Mu} {r : Rs} {l l' : List Ch} {c : Ch} {t q tp : Tb}

/-- The database db stands for the committed one c0 with the words l played on it. -/
structure Pl (d0 db : Db) (l : List Ch) : Prop where
  ok : DbOk db
  sh : Shape db d0
  se : ∀ (i : Nat) (t t' : Tb), d0[i]? = some t → db[i]? = some t' → Sees t.name t.pk t.rows l t'.rows
theorem Sees.congr {rows q : List (List Vl)} {pk : Nat} (h : Sees nm pk rows l q) (e : ∀ c, c ∈ l ↔ c ∈ l') : Sees nm pk rows l' q := fun y => by
  rw [h y]
  constructor
  · rintro (⟨h1, h2⟩ | ⟨c, hc, h1⟩)
    · exact .inl ⟨h1, fun c hc => h2 c ((e c).2 hc)⟩
    · exact .inr ⟨c, (e c).1 hc, h1⟩
  · rintro (⟨h1, h2⟩ | ⟨c, hc, h1⟩)
    · exact .inl ⟨h1, fun c hc => h2 c ((e c).1 hc)⟩
    · exact .inr ⟨c, (e c).2 hc, h1⟩
theorem Pl.zero (h : DbOk db) : Pl db db [] := ⟨h, rfl, fun i t t' h1 h2 y => by
  rw [h1] at h2
  cases h2
  constructor
  · exact fun hy => .inl ⟨hy, fun c hc => by cases hc⟩
  · rintro (hy | ⟨c, hc, _⟩)
    · exact hy.1
    · cases hc⟩
theorem Shape.get {a b : Db} (h : Shape a b) (hi : b[i]? = some t) : ∃ t', a[i]? = some t' ∧ sch t' = sch t := by
  have hil := (List.getElem?_eq_some_iff.1 hi).1
  obtain ⟨t', ht'⟩ : ∃ t', a[i]? = some t' := ⟨_, List.getElem?_eq_getElem (by have := h.len; omega)⟩
  have := congrArg (fun l => l[i]?) (show a.map sch = b.map sch from h)
  simp only [List.getElem?_map, ht', hi, Option.map_some] at this
  exact ⟨t', ht', Option.some.inj this⟩
theorem DbOk.fnB_at (ok : DbOk db) (hi : db[i]? = some t) : fnB t.name db = some t := by
  unfold fnB
  cases h : db.find? (fun x => decide (x.name = t.name)) with
  | none =>
    have := List.find?_eq_none.1 h t (List.mem_of_getElem? hi)
    simp at this
  | some z =>
    have hz := List.mem_of_find?_eq_some h
    have hn := List.find?_some h
    rw [ok.inj hz (List.mem_of_getElem? hi) (of_decide_eq_true hn)]
/-- One table's rows turn. -/
theorem Pl.put {d0 : Db} {rows' : List (List Vl)} (h : Pl d0 db l) (ok0 : DbOk d0) (hi : d0[i]? = some t) (hp : db[i]? = some tp) (hok : DbOk (putTb t.name { tp with rows := rows' } db)) (hoth : ∀ x, x.tab ≠ t.name → (x ∈ l' ↔ x ∈ l)) (hs : Sees t.name t.pk t.rows l' rows') : Pl d0 (putTb t.name { tp with rows := rows' } db) l' := by
  obtain ⟨tp', htp', hsch⟩ := h.sh.get hi
  rw [hp] at htp'
  cases htp'
  have hn : tp.name = t.name := sch_name hsch
  have hsh : Shape (putTb t.name { tp with rows := rows' } db) db := by
    unfold Shape putTb
    rw [List.map_map]
    refine List.map_congr_left fun y hy => ?_
    show sch (if _ then _ else _) = _
    by_cases ey : y.name = t.name
    · rw [if_pos ey, h.ok.inj hy (List.mem_of_getElem? hp) (ey.trans hn.symm)]; rfl
    · rw [if_neg ey]
  refine ⟨hok, hsh.trans h.sh, fun j a b ha hb => ?_⟩
  unfold putTb at hb
  rw [List.getElem?_map, Option.map_eq_some_iff] at hb
  obtain ⟨b0, hb0, hb⟩ := hb
  by_cases e : b0.name = t.name
  · rw [if_pos e] at hb
    subst hb
    obtain ⟨b1, hb1, hs1⟩ := h.sh.get ha
    rw [hb0] at hb1
    cases hb1
    have : j = i := names_inj ok0 ha hi ((sch_name hs1).symm.trans e)
    subst this
    rw [hi] at ha
    cases ha
    exact hs
  · rw [if_neg e] at hb
    subst hb
    obtain ⟨b1, hb1, hs1⟩ := h.sh.get ha
    rw [hb0] at hb1
    cases hb1
    have hne : a.name ≠ t.name := fun e' => e ((sch_name hs1).trans e')
    have := h.se j a b0 ha hb0
    intro y
    rw [this y]
    constructor
    · rintro (⟨h1, h2⟩ | ⟨c, hc, h1, h2⟩)
      · exact .inl ⟨h1, fun c hc htc => h2 c ((hoth c (by rw [htc]; exact hne)).1 hc) htc⟩
      · exact .inr ⟨c, (hoth c (by rw [h1]; exact hne)).2 hc, h1, h2⟩
    · rintro (⟨h1, h2⟩ | ⟨c, hc, h1, h2⟩)
      · exact .inl ⟨h1, fun c hc htc => h2 c ((hoth c (by rw [htc]; exact hne)).2 hc) htc⟩
      · exact .inr ⟨c, (hoth c (by rw [h1]; exact hne)).1 hc, h1, h2⟩
/-- Words apart from the next one: playing it is putting it. -/
theorem put_apart (hm : ∀ x ∈ l, VMade x.key) (hs : Sr l) (hc : VMade c.key) (hne : ∀ x ∈ l, ¬ (x.tab = c.tab ∧ x.key = c.key)) (e : ∀ x, x ∈ l' ↔ x ∈ l ∨ x = c) : ∀ x, x ∈ putC c l ↔ x ∈ l' := fun x => by
  rw [putC_mem hm hs hc, e]
  constructor
  · rintro (h | h)
    · exact .inr h
    · exact .inl h.1
  · rintro (h | h)
    · exact .inr ⟨h, hne x h⟩
    · exact .inl h
section
variable {d0 : Db} {full : List Ch}
theorem ChAt.chk (h : ChAt t c) : chkVal t.cols t.pk c.key = 0 := by
  unfold chkVal
  rw [if_neg (by simpa using h.kt)]
  cases hst : c.key.st with
  | true => rw [if_neg (by have := (h.ko.1 hst).2; omega)]
  | false => rw [if_neg (by rw [(h.ko.2 hst).1]; show ¬ (0 > 7); omega)]
/-- A word 'gone' is played. -/
theorem Pl.gone (h : Pl d0 db l) (ok0 : DbOk d0) (hw : WOk d0 full) (hsub : l.Sublist full) (hc : c ∈ full) (hcl : ∀ x ∈ l, ¬ (x.tab = c.tab ∧ x.key = c.key)) (hg : c.gone = true) (e : ∀ x, x ∈ l' ↔ x ∈ l ∨ x = c) : (mdDel c.tab c.key db).1 = 0 ∧ Pl d0 (mdDel c.tab c.key db).2 l' := by
  obtain ⟨t, hf, hat⟩ := hw.ch c hc
  obtain ⟨htm, htn⟩ := fnB_mem hf
  obtain ⟨i, hi⟩ := List.mem_iff_getElem?.1 htm
  obtain ⟨tp, hp, hsch⟩ := h.sh.get hi
  have hfp : fnB c.tab db = some tp := by
    have := h.ok.fnB_at hp
    rw [sch_name hsch, htn] at this
    exact this
  have okt := ok0.ok t htm
  have okp := h.ok.ok tp (List.mem_of_getElem? hp)
  have hckt := hat.chk
  have hckp : chkVal tp.cols tp.pk c.key = 0 := by rw [sch_cols hsch, sch_pk hsch]; exact hckt
  have hwl : WOk d0 l := ⟨fun x hx => hw.ch x (hsub.subset hx), hw.srt.sublist hsub⟩
  have hsee := h.se i t tp hi hp
  have hex : (rowBy tp (codeV c.key)).isSome = true := by
    rw [rowBy_isSome okp hat.ko (by rw [sch_cols hsch, sch_pk hsch]; exact hat.kt), sch_pk hsch]
    obtain ⟨y, hy, hyk⟩ := (rowBy_isSome okt hat.ko hat.kt).1 (hat.gn hg).2
    refine ⟨y, (hsee y).2 (.inl ⟨hy, fun x hx ht => ?_⟩), hyk⟩
    rw [hyk]
    exact fun e' => hcl x hx ⟨ht.trans htn, e'⟩
  have hmd : mdDel c.tab c.key db = (0, putTb c.tab { tp with rows := delR tp.pk (codeV c.key) tp.rows } db) := by
    unfold mdDel
    rw [hfp]
    dsimp only
    rw [if_neg (by simp [hckp]), if_neg (by rw [← Option.not_isSome, hex]; simp)]
  have hok := (mdDel_ok (nm := c.tab) (key := c.key) h.ok).1
  rw [hmd] at hok ⊢
  refine ⟨rfl, ?_⟩
  rw [← htn] at hok ⊢
  refine h.put ok0 hi hp hok (fun x hx => ?_) ?_
  · rw [e]
    constructor
    · rintro (h' | rfl)
      · exact h'
      · exact absurd htn.symm hx
    · exact .inl
  · have hcc : c = ⟨c.tab, c.key, true, []⟩ := by
      have := (hat.gn hg).1
      cases c
      simp only at hg this ⊢
      rw [hg, this]
    rw [htn] at hsee ⊢
    have hs2 := sees_gone (key := c.key) hwl hf hsee (ok_made hat.ko) (rows' := delR tp.pk (codeV c.key) tp.rows) fun y => by
      have := delR_or okp hat.ko (by rw [sch_cols hsch, sch_pk hsch]; exact hat.kt) y
      rw [sch_pk hsch] at this
      rw [sch_pk hsch]
      exact this
    rw [← hcc] at hs2
    exact hs2.congr (put_apart hwl.made hwl.srt (ok_made hat.ko) hcl e)
/-- A word with a row is played: an update where the key is there, else an insertion. -/
theorem Pl.row (h : Pl d0 db l) (ok0 : DbOk d0) (hw : WOk d0 full) (hsub : l.Sublist full) (hc : c ∈ full) (hcl : ∀ x ∈ l, ¬ (x.tab = c.tab ∧ x.key = c.key)) (hg : c.gone = false) (e : ∀ x, x ∈ l' ↔ x ∈ l ∨ x = c) (hall : ∀ x ∈ full, x.gone = true → x ∈ l) (hq : ∀ (i : Nat) (t : Tb), d0[i]? = some t → t.name = c.tab → ∃ q, TbOk q ∧ sch q = sch t ∧ Sees t.name t.pk t.rows full q.rows) :
    (mdW (!blP c.tab c.key db) c.tab c.row db).1 = 0 ∧ Pl d0 (mdW (!blP c.tab c.key db) c.tab c.row db).2 l' := by
  obtain ⟨t, hf, hat⟩ := hw.ch c hc
  obtain ⟨htm, htn⟩ := fnB_mem hf
  obtain ⟨i, hi⟩ := List.mem_iff_getElem?.1 htm
  obtain ⟨tp, hp, hsch⟩ := h.sh.get hi
  obtain ⟨q, okq, hqs, hqsee⟩ := hq i t hi htn
  have hfp : fnB c.tab db = some tp := by
    have := h.ok.fnB_at hp
    rw [sch_name hsch, htn] at this
    exact this
  have okt := ok0.ok t htm
  have okp := h.ok.ok tp (List.mem_of_getElem? hp)
  have hckt := hat.chk
  have hckp : chkVal tp.cols tp.pk c.key = 0 := by rw [sch_cols hsch, sch_pk hsch]; exact hckt
  have hwl : WOk d0 l := ⟨fun x hx => hw.ch x (hsub.subset hx), hw.srt.sublist hsub⟩
  have hsee := h.se i t tp hi hp
  obtain ⟨hty, hv, hkey⟩ := hat.rw hg
  have htyp : RowTy tp.cols c.row := by rw [sch_cols hsch]; exact hty
  have hck : chkRow tp.cols c.row = 0 := by
    unfold chkRow
    rw [if_neg (by simpa using htyp.1), if_pos (fun m hm => ?_), if_pos (fun m hm => ?_)]
    · have := getD_ok hv m
      cases hst : (c.row.getD m v0).st with
      | true => exact (this.1 hst).2
      | false => rw [(this.2 hst).1]; show 0 ≤ 7; omega
    · exact ty_get htyp (by rw [← htyp.1]; exact hm)
  have hrk : rk tp.pk c.row = codeV c.key := by unfold rk; rw [sch_pk hsch, hkey]
  have hbl : blP c.tab c.key db = (rowBy tp (codeV c.key)).isSome := bl_eq hfp hckp
  have mads : ∀ v ∈ c.row, VMade v := fun v hv' => ok_made (hv v hv')
  have hfin : ∀ {rows' : List (List Vl)}, DbOk (putTb c.tab { tp with rows := rows' } db) → (∀ y, y ∈ rows' ↔ y = c.row ∨ (y ∈ tp.rows ∧ y.getD t.pk v0 ≠ c.row.getD t.pk v0)) → Pl d0 (putTb c.tab { tp with rows := rows' } db) l' := fun {rows'} hok hrows => by
    rw [← htn] at hok ⊢
    refine h.put ok0 hi hp hok (fun x hx => ?_) ?_
    · rw [e]
      constructor
      · rintro (h' | rfl)
        · exact h'
        · exact absurd htn.symm hx
      · exact .inl
    · have hcc : c = ⟨c.tab, c.row.getD t.pk v0, false, c.row⟩ := by
        cases c
        simp only at hg hkey ⊢
        rw [hg, hkey]
      rw [htn] at hsee ⊢
      have hs2 := sees_put (vs := c.row) hwl hf hsee (by rw [hkey]; exact ok_made hat.ko) hrows
      rw [← hcc] at hs2
      exact hs2.congr (put_apart hwl.made hwl.srt (ok_made hat.ko) hcl e)
  cases hb : (rowBy tp (codeV c.key)).isSome with
  | true =>
    rw [hb] at hbl
    rw [hbl]
    have hmd : mdW (!true) c.tab c.row db = (0, putTb c.tab { tp with rows := setR tp.pk c.row tp.rows } db) := by
      unfold mdW mdUpd
      rw [if_neg (by simp), hfp]
      dsimp only
      rw [if_neg (by simp [hck]), hrk, if_neg (by rw [← Option.not_isSome, hb]; simp)]
    have hok := (mdUpd_ok (nm := c.tab) h.ok mads).1
    have hmd' : mdUpd c.tab c.row db = (0, putTb c.tab { tp with rows := setR tp.pk c.row tp.rows } db) := hmd
    rw [hmd'] at hok
    rw [hmd]
    refine ⟨rfl, hfin hok fun y => ?_⟩
    have := setR_or okp hv htyp (by rw [hrk]; exact hb) y
    rw [sch_pk hsch] at this
    rw [sch_pk hsch]
    exact this
  | false =>
    rw [hb] at hbl
    rw [hbl]
    have hno : rowBy tp (rk tp.pk c.row) = none := by
      rw [hrk]
      cases hrb : rowBy tp (codeV c.key) with
      | none => rfl
      | some z => rw [hrb] at hb; cases hb
    -- room for one row more
    have hroom : tp.rows.length < 8 := by
      have hqn : q.rows.length ≤ 8 := by have := okq; unfold TbOk at this; exact this.2.2.2.2.2.1
      have hnd : ((c.row :: tp.rows).map fun y => rk t.pk y).Nodup := by
        rw [List.map_cons, List.nodup_cons]
        refine ⟨fun hm => ?_, ?_⟩
        · obtain ⟨y, hy, hye⟩ := List.mem_map.1 hm
          have := List.find?_eq_none.1 hno y hy
          have hye : rk t.pk y = rk t.pk c.row := hye
          rw [sch_pk hsch] at this
          exact this (decide_eq_true hye)
        · have := RSrt_tb okp
          rw [sch_pk hsch] at this
          rw [List.nodup_iff_pairwise_ne, List.pairwise_map]
          exact List.Pairwise.imp_of_mem (fun _ _ h => sl_ne h) this
      have hle := nodup_len (m := q.rows.map fun y => rk t.pk y) hnd fun z hz => by
        obtain ⟨y, hy, rfl⟩ := List.mem_map.1 hz
        rcases List.mem_cons.1 hy with rfl | hy
        · exact List.mem_map.2 ⟨c.row, (hqsee _).2 (.inr ⟨c, hc, htn.symm, hg, rfl⟩), rfl⟩
        · rcases (hsee y).1 hy with ⟨h1, h2⟩ | ⟨x, hx, h1, h2, h3⟩
          · by_cases hch : ∃ x ∈ full, x.tab = t.name ∧ x.key = y.getD t.pk v0
            · obtain ⟨x, hx, hxt, hxk⟩ := hch
              have hxg : x.gone = false := by
                cases hxg : x.gone with
                | false => rfl
                | true => exact absurd hxk (h2 x (hall x hx hxg) hxt)
              obtain ⟨t', ht', hat'⟩ := hw.ch x hx
              rw [hxt, htn, hf] at ht'
              cases ht'
              refine List.mem_map.2 ⟨x.row, (hqsee _).2 (.inr ⟨x, hx, hxt, hxg, rfl⟩), ?_⟩
              unfold rk
              rw [(hat'.rw hxg).2.2, hxk]
            · exact List.mem_map.2 ⟨y, (hqsee y).2 (.inl ⟨h1, fun x hx hxt hxk => hch ⟨x, hx, hxt, hxk⟩⟩), rfl⟩
          · exact List.mem_map.2 ⟨y, (hqsee y).2 (.inr ⟨x, hsub.subset hx, h1, h2, h3⟩), rfl⟩
      rw [List.length_map, List.length_map, List.length_cons] at hle
      omega
    have hmd : mdW (!false) c.tab c.row db = (0, putTb c.tab { tp with rows := insR tp.pk c.row tp.rows } db) := by
      unfold mdW mdIns
      rw [if_pos (by rfl), hfp]
      dsimp only
      rw [if_neg (by simp [hck]), hno, if_neg (by simp), if_neg (by omega)]
    have hok := (mdIns_ok (nm := c.tab) h.ok mads).1
    have hmd' : mdIns c.tab c.row db = (0, putTb c.tab { tp with rows := insR tp.pk c.row tp.rows } db) := hmd
    rw [hmd'] at hok
    rw [hmd]
    refine ⟨rfl, hfin hok fun y => ?_⟩
    have := insR_or okp hv htyp hno y
    rw [sch_pk hsch] at this
    rw [sch_pk hsch]
    exact this
end
theorem tb_ext {a b : Tb} (h : sch a = sch b) (hr : a.rows = b.rows) : a = b := by
  cases a
  cases b
  unfold sch at h
  simp only at hr
  subst hr
  simpa using h
/-- The whole write set played: the committed database that the model answers. -/
theorem Pl.com (h : RelU U r) (ok : UOk U) (hk : k < 4) (ha : U.act k = true) (hp : Pl (U.db 0) db (r.ws k)) : db = comU k U (U.db 0).length := by
  refine List.ext_getElem? fun i => ?_
  unfold comU
  rw [List.getElem?_mapIdx]
  cases hi : (U.db 0)[i]? with
  | none =>
    have := List.getElem?_eq_none_iff.1 hi
    have hl := hp.sh.len
    rw [List.getElem?_eq_none_iff.2 (by omega)]; rfl
  | some t =>
    have hil := (List.getElem?_eq_some_iff.1 hi).1
    obtain ⟨tp, htp, hsch⟩ := hp.sh.get hi
    rw [htp]
    show some tp = some (if _ then _ else _)
    congr 1
    obtain ⟨q, hq, hqs⟩ := (ok.seen (i := i) hk).get hi
    have hsq := h.sees k hk i t q hi hq
    have hstp := hp.se i t tp hi htp
    have okp := hp.ok.ok tp (List.mem_of_getElem? htp)
    have okq := (ok.d _ (seenD_lt hk)).ok q (List.mem_of_getElem? hq)
    have hrows : tp.rows = q.rows := by
      have a1 := (scan_all okp).1
      have a2 := (scan_all okq).1
      rw [sch_pk hsch] at a1
      rw [sch_pk hqs] at a2
      exact pw_ext (fun _ => rl_irrefl) (fun _ _ => rl_asym) a1 a2 fun y => by rw [hstp y, hsq y]
    have hpq : tp = q := tb_ext (hsch.trans hqs.symm) hrows
    by_cases h2 : U.lk k i = 2
    · rw [if_pos ⟨hil, h2⟩]
      have hse : seenD k i U = k + 1 := by unfold seenD; rw [if_pos h2]
      rw [hse] at hq
      rw [hq, hpq]; rfl
    · rw [if_neg fun h' => h2 h'.2]
      have hse : seenD k i U = 0 := by unfold seenD; rw [if_neg h2]
      rw [hse, hi] at hq
      cases hq
      exact hpq
end Go.Proofs.Qxb6500564aGreat
