/-
  The manager: Commit, the calls on tables.
-/
import Derived.Test.Qxb6500564aGreatTxQ
namespace Go.Proofs.Qxb6500564aGreat
open Go.Den Go.Zip
set_option linter.unusedVariables false
set_option linter.unusedSimpArgs false
variable {dq : Nat}
variable {w w' u v : World} {i j k n t g b : Nat} {D : List Bk} {R R' : List Wr} {cur cur' : Nat → Bk} {op : Bool} {O Os P : Nat → Prop} {db : Db} {s x : Sl} {nm : ByteArray} {key : Vl} {U : Mu} {r : Rs} {sw : Nat → Sl} {cw : Nat → List CR} {cs : List Cl}

/-- The committed database turns where nobody holds a lock. -/
theorem RelU.com (h : RelU U r) (ok : UOk U) (hdb : DbOk db) (hs : Shape db (U.db 0)) (hl : ∀ o, o < 4 → ∀ i : Nat, U.lk o i ≠ 0 → db[i]? = (U.db 0)[i]?) : RelU (U0 U db) r := by
  have e0 : (U0 U db).db 0 = db := by unfold U0; dsimp only; rw [fset_eq]
  have nam : ∀ (i : Nat) (t' : Tb), db[i]? = some t' → ∃ t, (U.db 0)[i]? = some t ∧ sch t' = sch t := fun i t' hi => by
    obtain ⟨t, ht, hst⟩ := hs.symm.get hi
    exact ⟨t, ht, hst.symm⟩
  refine ⟨h.act, fun o ho i t' hi => ?_, fun a ha hu => ?_, h.fr, h.un, h.md, fun o ho => ⟨fun c hc => ?_, (h.wo o ho).srt⟩, h.wl, h.wa, fun o ho i t' q hi hq => ?_, h.ex, h.uo⟩
  · rw [e0] at hi
    obtain ⟨t, ht, hst⟩ := nam i t' hi
    rw [sch_name hst]
    exact h.lk o ho i t ht
  · rw [e0]
    obtain ⟨t, ht⟩ := h.us a ha hu
    have := fnB_shape (nm := (r.lks a).name) hs
    rw [ht] at this
    cases hf : fnB (r.lks a).name db with
    | none => rw [hf] at this; cases this
    | some z => exact ⟨z, rfl⟩
  · rw [e0]
    obtain ⟨t, hf, hat⟩ := (h.wo o ho).ch c hc
    obtain ⟨htm, htn⟩ := fnB_mem hf
    obtain ⟨i, hi⟩ := List.mem_iff_getElem?.1 htm
    have hl2 := h.wl o ho c hc
    have hlk := h.lk o ho i t hi
    rw [htn, hl2] at hlk
    have hi' := hl o ho i (by omega)
    rw [hi] at hi'
    refine ⟨t, ?_, hat⟩
    have := hdb.fnB_at hi'
    rw [htn] at this
    exact this
  · rw [e0] at hi
    have hse : seenD o i (U0 U db) = seenD o i U := rfl
    rw [hse] at hq
    obtain ⟨t, ht, hst⟩ := nam i t' hi
    by_cases h2 : U.lk o i = 2
    · have hi' := hl o ho i (by omega)
      rw [hi, ht] at hi'
      cases hi'
      have hsd : seenD o i U = o + 1 := by unfold seenD; rw [if_pos h2]
      rw [hsd] at hq
      refine h.sees o ho i _ q ht ?_
      rw [hsd]
      unfold U0 at hq
      dsimp only at hq
      rw [fset_ne (by omega)] at hq
      exact hq
    · have hsd : seenD o i U = 0 := by unfold seenD; rw [if_neg h2]
      rw [hsd, e0, hi] at hq
      cases hq
      have hno : ∀ c ∈ r.ws o, c.tab ≠ t'.name := fun c hc e => by
        have := h.wl o ho c hc
        rw [e, sch_name hst, ← h.lk o ho i t ht] at this
        exact h2 this
      intro y
      constructor
      · exact fun hy => .inl ⟨hy, fun c hc e => absurd e (hno c hc)⟩
      · rintro (hy | ⟨c, hc, e, _⟩)
        · exact hy.1
        · exact absurd e (hno c hc)
/-- Nobody is in a transaction. -/
theorem RelU.ddl (h : RelU U r) (ok : UOk U) (hna : anyA U = false) (hdb : DbOk db) : RelU (U0 U db) r ∧ UOk (U0 U db) := by
  have e0 : (U0 U db).db 0 = db := by unfold U0; dsimp only; rw [fset_eq]
  have na := fun {k} (hk : k < 4) => anyA_no hna hk
  have lk0 : ∀ o, o < 4 → ∀ i, U.lk o i = 0 := fun o ho i => by
    rcases Nat.eq_zero_or_pos (U.lk o i) with h0 | h0
    · exact h0
    · have := (ok.la o i ho (by omega)).1
      rw [na ho] at this; cases this
  have ws0 : ∀ o, o < 4 → r.ws o = [] := fun o ho => h.wa o ho (na ho)
  have nou : ∀ a, a < 3 → (r.lks a).used = false := fun a ha => by
    cases hu : (r.lks a).used with
    | false => rfl
    | true =>
      obtain ⟨k, hk, hm⟩ := h.uo a ha hu
      have := h.md a ha k hk hm
      rw [na hk] at this; cases this
  have lkr : ∀ o nm, lkR o nm r.lks = 0 := fun o nm => lkR_none (sOf_none.2 fun a ha hu => by rw [nou a ha] at hu; cases hu)
  refine ⟨⟨h.act, fun o ho i t' hi => ?_, fun a ha hu => ?_, h.fr, h.un, h.md, fun o ho => ?_, h.wl, h.wa, fun o ho i t' q hi hq => ?_, h.ex, h.uo⟩, fun l hl => ?_, fun l hl hact => ?_, fun l i hl hlk => ?_, ok.l2, fun l hl hact => ?_⟩
  · rw [lkr]; exact lk0 o ho i
  · rw [nou a ha] at hu; cases hu
  · rw [ws0 o ho]; exact ⟨fun c hc => (by cases hc), List.Pairwise.nil⟩
  · have hsd : seenD o i (U0 U db) = 0 := by
      unfold seenD
      rw [if_neg (by show ¬ U.lk o i = 2; rw [lk0 o ho i]; omega)]
    rw [hsd, hi] at hq
    cases hq
    rw [ws0 o ho]
    intro y
    constructor
    · exact fun hy => .inl ⟨hy, fun c hc => by cases hc⟩
    · rintro (hy | ⟨c, hc, _⟩)
      · exact hy.1
      · cases hc
  · show DbOk (fset U.db 0 db l)
    by_cases e : l = 0
    · rw [e, fset_eq]; exact hdb
    · rw [fset_ne e]; exact ok.d l hl
  · have hact : U.act l = true := hact
    rw [na hl] at hact; cases hact
  · have hlk : U.lk l i ≠ 0 := hlk
    exact absurd (lk0 l hl i) hlk
  · show fset U.db 0 db (l + 1) = []
    rw [fset_ne (by omega)]
    exact ok.na l hl (na hl)
/-- How the disk's record grows: by at most one commit. -/
def RStep (R R' : List Wr) : Prop := R' = R ∨ ∃ ws, WsF ws ∧ R' = comR R ws
def Cm (D : List Bk) (R : List Wr) (cur : Nat → Bk) : Prop := ∀ n, n < 72 → cmt D R n = cur n
theorem end_com (k : Nat) (U : Mu) (db : Db) : muEnd k (U0 U db) = U0 (muEnd k U) db := by
  unfold muEnd U0
  congr 1
  funext l
  dsimp only
  by_cases e : l = 0
  · subst e
    rw [fset_ne (by omega), fset_eq, fset_eq]
  · by_cases e2 : l = k + 1
    · rw [e2, fset_eq, fset_ne (by omega), fset_eq]
    · rw [fset_ne e2, fset_ne e, fset_ne e, fset_ne e2]
set_option maxHeartbeats 4000000 in
theorem xcommit_spec {s : Int} {K : Int → World → Prop} (h : XV dq w g D R cur U O) (hR : R.length ≤ 100000) (hc : Cm D R cur) (h1 : askA s U ≠ 0 → K (askA s U) w)
    (h2 : askA s U = 0 → ∀ w' O' R' cur', RStep R R' → Cm D R' cur' → XV dq w' g D R' cur' (muCommit s.toNat U) O' → Gw O w O' w' → K 0 w') : S.txn_Mgr_Commit g s w K := by
  unfold S.txn_Mgr_Commit
  obtain ⟨r, hg, hr, ok⟩ := h
  have hgv := hg
  obtain ⟨t, Os, sw, cw, hgm, hO⟩ := hg
  refine inTxn_spec hgm ?_
  rw [in_ask hr]
  by_cases he : askA s U = 0
  · obtain ⟨k, hk, hsk, ha⟩ : ∃ k : Nat, k < 4 ∧ s = (k : Int) ∧ U.act k = true := by
      have he' := he
      unfold askA at he'
      cases hgs : gs s with
      | false => rw [hgs, if_pos rfl] at he'; cases he'
      | true =>
        obtain ⟨k, hk, rfl⟩ := gs_nat hgs
        rw [hgs, if_neg (by simp), Int.toNat_natCast] at he'
        cases ha : U.act k with
        | false => rw [ha, if_pos rfl] at he'; cases he'
        | true => exact ⟨k, hk, rfl, ha⟩
    subst hsk
    have h2 := h2 he
    rw [Int.toNat_natCast] at h2
    rw [he]
    have ok0 := ok.d 0 (by omega)
    -- the end
    have fin : ∀ {v : World} {R' : List Wr} {cv : Nat → Bk} {dbv : Db} {Ov : Nat → Prop}, RStep R R' → Cm D R' cv → GV dq v g D R' cv false dbv r Ov → Pl (U.db 0) dbv (r.ws k) → Gw O w Ov v → S.txn_Mgr_end g (k : Int) v fun w => K 0 w := fun {v R' cv dbv Ov} hrs hcm gv plv Gv => by
      have hcom := Pl.com hr ok hk ha plv
      have ok1 := ok.end_ (k := k) hk
      have hr1 := hr.end_ ok hk
      have e0' : (muEnd k U).db 0 = U.db 0 := by unfold muEnd; dsimp only; rw [fset_ne (by omega)]
      have hlk : ∀ o, o < 4 → ∀ i : Nat, (muEnd k U).lk o i ≠ 0 → dbv[i]? = ((muEnd k U).db 0)[i]? := fun o ho i hne => by
        rw [e0', hcom]
        have hne : fset U.lk k (fun _ => 0) o i ≠ 0 := hne
        by_cases e : o = k
        · rw [e, fset_eq] at hne; exact absurd rfl hne
        · rw [fset_ne e] at hne
          have h2' : U.lk k i ≠ 2 := fun h2' => hne (hr.ex k hk o ho (fun e' => e e'.symm) i h2')
          unfold comU
          rw [List.getElem?_mapIdx]
          cases (U.db 0)[i]? with
          | none => rfl
          | some t =>
            show some (if _ then _ else _) = _
            rw [if_neg fun h' => h2' h'.2]
      refine gend_spec gv hk fun v1 O1 g1 G1 => h2 v1 O1 R' cv hrs hcm ?_ (Gv.trans G1)
      have hmu : muCommit k U = U0 (muEnd k U) dbv := by
        unfold muCommit
        rw [← hcom]
        exact end_com k U dbv
      rw [hmu]
      have hd0 : (U0 (muEnd k U) dbv).db 0 = dbv := by unfold U0; dsimp only; rw [fset_eq]
      refine ⟨_, by rw [hd0]; exact g1, hr1.com ok1 plv.ok (by rw [e0']; exact plv.sh) hlk, ?_⟩
      exact ok1.com plv.ok (by rw [e0']; exact plv.sh)
    refine join_P (fun e v => e = 0 ∧ ∃ R' cv dbv Ov, RStep R R' ∧ Cm D R' cv ∧ GV dq v g D R' cv false dbv r Ov ∧ Pl (U.db 0) dbv (r.ws k) ∧ Gw O w Ov v) ?_ ?_
    · rintro _ v ⟨rfl, R', cv, dbv, Ov, a1, a2, a3, a4, a5⟩
      rw [if_pos (by rfl)]
      exact fin a1 a2 a3 a4 a5
    · intro J hJ
      rw [if_pos (by rfl)]
      have hsl := (hgm.wm k hk).ln
      have ek := hgm.eq k hk
      have hlen : (cw k).length = (r.ws k).length := by rw [← ek, List.length_map]
      refine ⟨by omega, by omega, hgm.ws hk (ifd (fun hgt => ?_) fun hgt => ?_)⟩
      · unfold S.txn_Mgr_bracket
        refine hgm.ld (sbegin_spec hgm.sv fun w1 sv1 F1 => ?_)
        rw [if_neg (by simp)]
        dsimp only
        rw [if_pos (by rfl)]
        have g1 := (hgm.sto sv1 ⟨F1, fun b hb => .inl hb⟩).1
        refine apply_spec g1 hr ok hk fun w2 cur2 db2 g2 pl2 F2 => ?_
        unfold S.txn_Mgr_seal
        rw [if_neg (by simp)]
        refine g2.ld (scommit_spec g2.sv hR fun w3 Os3 ws hws sv3 G3 hcm3 => ?_)
        rw [if_neg (by simp)]
        obtain ⟨g3, GG3⟩ := g2.sto sv3 G3
        refine hJ _ _ ⟨rfl, comR R ws, cur2, db2, _, .inr ⟨ws, hws, rfl⟩, hcm3, ⟨t, Os3, sw, cw, g3, fun b => Iff.rfl⟩, pl2, ?_⟩
        have F12 : FrP O w w2 := (F1.trans F2).mono fun b hb => (hO b).2 (.inr (.inl hb))
        have := F12.1.1
        exact ⟨F12.trans (GG3.1.mono fun b hb => (hO b).2 hb), fun b hb => (GG3.2 b hb).elim (fun h' => .inl ((hO b).2 h')) fun h' => .inr (by omega)⟩
      · have hz : r.ws k = [] := List.length_eq_zero_iff.1 (by omega)
        refine hJ _ _ ⟨rfl, R, cur, U.db 0, O, .inl rfl, hc, hgv, ?_, Gw.refl _ _⟩
        rw [hz]
        exact Pl.zero ok0
  · rw [join_eq, if_neg (by simpa using he)]
    dsimp only
    rw [if_neg (by simpa using he)]
    exact h1 he
/-- A call on tables, within its bracket. -/
theorem alone_spec {s : Int} {K : Int → World → Prop} (h : XV dq w g D R cur U O) (h1 : alE s U ≠ 0 → K (alE s U) w)
    (h2 : alE s U = 0 → ∀ w' r t Os sw cw, GM dq w' g t D R cur true Os (U.db 0) r sw cw → RelU U r → (∀ b, O b ↔ gw g Os sw cw b) → FrP O w w' → K 0 w') : S.txn_Mgr_alone g s w K := by
  unfold S.txn_Mgr_alone
  unfold alE at h1 h2
  obtain ⟨r, hg, hr, ok⟩ := h
  obtain ⟨t, Os, sw, cw, hgm, hO⟩ := hg
  refine goodSess_spec ?_
  cases hgs : gs s with
  | false =>
    rw [hgs, if_pos rfl] at h1
    rw [if_pos (by rfl)]
    exact h1 (by simp)
  | true =>
    rw [hgs, if_neg (by simp)] at h1 h2
    rw [if_neg (by simp)]
    obtain ⟨k, hk, rfl⟩ := gs_nat hgs
    rw [Int.toNat_natCast] at h1 h2
    refine ⟨by omega, by omega, hgm.ac hk ?_⟩
    rw [hr.act k hk]
    refine ifb (fun ha => ?_) fun ha => ?_
    · rw [if_pos ha] at h1; exact h1 (by simp)
    · rw [if_neg (by simp [ha])] at h1 h2
      rw [join_eq]
      refine loopN (fun n st u => ∃ o : Nat, st = ((o : Int), ()) ∧ o + n = 4 ∧ w = u ∧ ∀ o', o' < o → U.act o' = false) 4 ⟨0, rfl, by omega, rfl, fun o' h => by omega⟩ ?_
      rintro n _ _ ⟨o, rfl, ho, rfl, hno⟩ Q hQ
      dsimp only
      refine ifd (fun ho4 => ⟨by omega, by omega, hgm.ac (show o < 4 by omega) ?_⟩) fun ho4 => ?_
      · rw [hr.act o (by omega)]
        refine ifb (fun h1' => ?_) fun h1' => ?_
        · rw [if_pos (anyA_of (show o < 4 by omega) h1')] at h1; exact h1 (by simp)
        · refine let_ ?_
          rw [W_succ (by omega)]
          refine hQ (n - 1) _ _ (by omega) ⟨o + 1, rfl, by omega, rfl, fun o' ho' => ?_⟩
          by_cases e : o' = o
          · rw [e]; exact h1'
          · exact hno o' (by omega)
      · have : anyA U = false := by
          unfold anyA
          rw [hno 0 (by omega), hno 1 (by omega), hno 2 (by omega), hno 3 (by omega)]; rfl
        rw [this, if_neg (by simp)] at h2
        unfold S.txn_Mgr_bracket
        refine hgm.ld (sbegin_spec hgm.sv fun w1 sv1 F1 => ?_)
        rw [if_neg (by simp)]
        exact h2 rfl w1 r t Os sw cw (hgm.sto sv1 ⟨F1, fun b hb => .inl hb⟩).1 hr hO (F1.mono fun b hb => (hO b).2 (.inr (.inl hb)))
theorem al_any {s : Int} (h : alE s U = 0) : anyA U = false := by
  unfold alE at h
  cases hgs : gs s with
  | false => rw [hgs, if_pos rfl] at h; cases h
  | true =>
    rw [hgs, if_neg (by simp)] at h
    cases ha : U.act s.toNat with
    | true => rw [ha, if_pos rfl] at h; cases h
    | false =>
      rw [ha, if_neg (by simp)] at h
      cases hn : anyA U with
      | false => rfl
      | true => rw [hn, if_pos rfl] at h; cases h
/-- The bracket is sealed. -/
theorem seal_spec {e : Int} {db' : Db} {K : Int → World → Prop} (h : GM dq w g t D R cur' true Os db' r sw cw) (hr : RelU U r) (ok : UOk U) (hna : anyA U = false) (hR : R.length ≤ 100000) (hc : Cm D R cur) (hcu : Hld cur (U.db 0)) (he : e ≠ 0 → db' = U.db 0)
    (hK : ∀ w' O' R' cur'', RStep R R' → Cm D R' cur'' → XV dq w' g D R' cur'' (U0 U db') O' → Gw (gw g Os sw cw) w O' w' → K e w') : S.txn_Mgr_seal g e w K := by
  unfold S.txn_Mgr_seal
  have hd0 : ∀ d, (U0 U d).db 0 = d := fun d => by unfold U0; dsimp only; rw [fset_eq]
  by_cases h0 : e = 0
  · subst h0
    rw [if_neg (by simp)]
    obtain ⟨a1, a2⟩ := hr.ddl ok hna h.sv.ok
    refine h.ld (scommit_spec h.sv hR fun w1 Os1 ws hws sv1 G1 hcm1 => ?_)
    rw [if_neg (by simp)]
    obtain ⟨g1, GG1⟩ := h.sto sv1 G1
    exact hK w1 _ _ _ (.inr ⟨ws, hws, rfl⟩) hcm1 ⟨r, ⟨t, Os1, sw, cw, by rw [hd0]; exact g1, fun b => Iff.rfl⟩, a1, a2⟩ GG1
  · rw [if_pos (by simp only [bne_iff_ne, ne_eq]; exact h0)]
    have hdb := he h0
    subst hdb
    have hU : U0 U (U.db 0) = U := by unfold U0; rw [fset_same]
    refine h.ld (sabort_spec (db0 := U.db 0) h.sv (hcu.ext hc) fun w1 sv1 F1 => ?_)
    obtain ⟨g1, GG1⟩ := h.sto sv1 ⟨F1, fun b hb => .inl hb⟩
    refine hK w1 _ R _ (.inl rfl) (fun n hn => rfl) ?_ GG1
    rw [hU]
    exact ⟨r, ⟨t, Os, sw, cw, g1, fun b => Iff.rfl⟩, hr, ok⟩
theorem XV.hld (h : XV dq w g D R cur U O) : Hld cur (U.db 0) := by
  obtain ⟨r, ⟨t, Os, sw, cw, hgm, hO⟩, _⟩ := h
  exact hgm.sv.1
theorem mdCreate_err {pk : Int} (h : (mdCreate nm cs pk db).1 ≠ 0) : (mdCreate nm cs pk db).2 = db := by
  unfold mdCreate at h ⊢
  repeat' split at h
  all_goals first | (exact absurd rfl h) | skip
  all_goals (repeat' split)
  all_goals first | rfl | (rename_i h1 h2; simp_all)
theorem mdDrop_err (h : (mdDrop nm db).1 ≠ 0) : (mdDrop nm db).2 = db := by
  unfold mdDrop at h ⊢
  cases hf : fnB nm db with
  | none => rfl
  | some t => rw [hf] at h; exact absurd rfl h
theorem mdIndex_err {col : Int} (h : (mdIndex nm col db).1 ≠ 0) : (mdIndex nm col db).2 = db := by
  unfold mdIndex at h ⊢
  cases hf : fnB nm db with
  | none => rfl
  | some t =>
    rw [hf] at h
    dsimp only at h ⊢
    by_cases h1 : col < 0 ∨ col ≥ t.cols.length
    · rw [if_pos h1]
    rw [if_neg h1] at h ⊢
    by_cases h2 : col = t.pk
    · rw [if_pos h2]
    rw [if_neg h2] at h ⊢
    by_cases h3 : t.ix ≥ 0
    · rw [if_pos h3]
    rw [if_neg h3] at h
    exact absurd rfl h
theorem xcreate_spec {s pk : Int} {rc : Sl} {K : Int → World → Prop} (h : XV dq w g D R cur U O) (hR : R.length ≤ 100000) (hc : Cm D R cur) (oc : OS w rc (colC cs) 2) (hro : ∀ b, owns rc b → ¬ O b) (h1 : alE s U ≠ 0 → K (alE s U) w)
    (h2 : alE s U = 0 → ∀ w' O' R' cur', RStep R R' → Cm D R' cur' → XV dq w' g D R' cur' (U0 U (mdCreate nm cs pk (U.db 0)).2) O' → Gw O w O' w' → K (mdCreate nm cs pk (U.db 0)).1 w') : S.txn_Mgr_CreateTable g s nm rc pk w K := by
  unfold S.txn_Mgr_CreateTable
  have hcu := h.hld
  have ok := h.ok
  refine alone_spec h (fun hne => ?_) fun he w1 r t Os sw cw g1 hr hO F1 => ?_
  · rw [if_pos (by simp only [bne_iff_ne, ne_eq]; exact hne)]
    exact h1 hne
  · rw [if_neg (by simp)]
    have nOs : ∀ b, owns rc b → ¬ Os b := fun b hb hb' => hro b hb ((hO b).2 (.inr (.inl hb')))
    refine g1.ld (screate_spec g1.sv (oc.frp F1 hro) nOs fun cur2 w2 sv2 F2 => ?_)
    have g2 := (g1.sto sv2 ⟨F2, fun b hb => .inl hb⟩).1
    refine seal_spec g2 hr ok (al_any he) hR hc hcu mdCreate_err fun w3 O3 R3 cur3 hrs hcm x3 G3 => h2 he w3 O3 R3 cur3 hrs hcm x3 ?_
    have F12 : FrP O w w2 := F1.trans (F2.mono fun b hb => (hO b).2 (.inr (.inl hb)))
    have := F12.1.1
    exact ⟨F12.trans (G3.1.mono fun b hb => (hO b).2 hb), fun b hb => (G3.2 b hb).elim (fun h' => .inl ((hO b).2 h')) fun h' => .inr (by omega)⟩
theorem xdrop_spec {s : Int} {K : Int → World → Prop} (h : XV dq w g D R cur U O) (hR : R.length ≤ 100000) (hc : Cm D R cur) (h1 : alE s U ≠ 0 → K (alE s U) w)
    (h2 : alE s U = 0 → ∀ w' O' R' cur', RStep R R' → Cm D R' cur' → XV dq w' g D R' cur' (U0 U (mdDrop nm (U.db 0)).2) O' → Gw O w O' w' → K (mdDrop nm (U.db 0)).1 w') : S.txn_Mgr_DropTable g s nm w K := by
  unfold S.txn_Mgr_DropTable
  have hcu := h.hld
  have ok := h.ok
  refine alone_spec h (fun hne => ?_) fun he w1 r t Os sw cw g1 hr hO F1 => ?_
  · rw [if_pos (by simp only [bne_iff_ne, ne_eq]; exact hne)]
    exact h1 hne
  · rw [if_neg (by simp)]
    refine g1.ld (sdrop_spec g1.sv fun cur2 w2 sv2 F2 => ?_)
    have g2 := (g1.sto sv2 ⟨F2, fun b hb => .inl hb⟩).1
    refine seal_spec g2 hr ok (al_any he) hR hc hcu mdDrop_err fun w3 O3 R3 cur3 hrs hcm x3 G3 => h2 he w3 O3 R3 cur3 hrs hcm x3 ?_
    have F12 : FrP O w w2 := F1.trans (F2.mono fun b hb => (hO b).2 (.inr (.inl hb)))
    have := F12.1.1
    exact ⟨F12.trans (G3.1.mono fun b hb => (hO b).2 hb), fun b hb => (G3.2 b hb).elim (fun h' => .inl ((hO b).2 h')) fun h' => .inr (by omega)⟩
theorem xindex_spec {s col : Int} {K : Int → World → Prop} (h : XV dq w g D R cur U O) (hR : R.length ≤ 100000) (hc : Cm D R cur) (h1 : alE s U ≠ 0 → K (alE s U) w)
    (h2 : alE s U = 0 → ∀ w' O' R' cur', RStep R R' → Cm D R' cur' → XV dq w' g D R' cur' (U0 U (mdIndex nm col (U.db 0)).2) O' → Gw O w O' w' → K (mdIndex nm col (U.db 0)).1 w') : S.txn_Mgr_CreateIndex g s nm col w K := by
  unfold S.txn_Mgr_CreateIndex
  have hcu := h.hld
  have ok := h.ok
  refine alone_spec h (fun hne => ?_) fun he w1 r t Os sw cw g1 hr hO F1 => ?_
  · rw [if_pos (by simp only [bne_iff_ne, ne_eq]; exact hne)]
    exact h1 hne
  · rw [if_neg (by simp)]
    refine g1.ld (sindex_spec g1.sv fun cur2 w2 sv2 F2 => ?_)
    have g2 := (g1.sto sv2 ⟨F2, fun b hb => .inl hb⟩).1
    refine seal_spec g2 hr ok (al_any he) hR hc hcu mdIndex_err fun w3 O3 R3 cur3 hrs hcm x3 G3 => h2 he w3 O3 R3 cur3 hrs hcm x3 ?_
    have F12 : FrP O w w2 := F1.trans (F2.mono fun b hb => (hO b).2 (.inr (.inl hb)))
    have := F12.1.1
    exact ⟨F12.trans (G3.1.mono fun b hb => (hO b).2 hb), fun b hb => (G3.2 b hb).elim (fun h' => .inl ((hO b).2 h')) fun h' => .inr (by omega)⟩
end Go.Proofs.Qxb6500564aGreat
