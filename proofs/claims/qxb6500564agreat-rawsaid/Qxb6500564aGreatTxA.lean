/-
  The real store behind one word: its calls answer the plain database's.
-/
import Derived.Test.Qxb6500564aGreatMcK
namespace Go.Proofs.Qxb6500564aGreat
open Go.Den Go.Zip
set_option linter.unusedVariables false
set_option linter.unusedSimpArgs false
variable {dq : Nat}
variable {w w' u v : World} {i j n t f p : Nat} {D : List Bk} {R : List Wr} {cur cur' : Nat → Bk} {op : Bool} {O Os P : Nat → Prop} {db : Db} {s r : Sl} {k nm : ByteArray} {vs : List Vl} {cs : List Cl} {key : Vl}

/-- The pages cur hold the database db. -/
def Hld (cur : Nat → Bk) (db : Db) : Prop := ∃ T pg xs, FCp cur T pg ∧ DBT T xs ∧ tbs xs = db
/-- The store at t, over pages cur that hold db. -/
def SV (dq : Nat) (w : World) (t : Nat) (D : List Bk) (R : List Wr) (cur : Nat → Bk) (op : Bool) (Os : Nat → Prop) (db : Db) : Prop :=
  Hld cur db ∧ ∃ f p O, TW dq w t f p D R cur op O ∧ ∀ b, Os b ↔ (b = t ∨ b = f ∨ O b)
theorem Hld.ok (h : Hld cur db) : DbOk db := by
  obtain ⟨T, pg, xs, _, d, rfl⟩ := h
  refine ⟨fun x hx => ?_, ?_, by rw [tbs_len]; exact d.len⟩
  · obtain ⟨y, hy, rfl⟩ := List.mem_map.1 hx
    exact (d.ok y hy).1
  · unfold tbs
    rw [List.pairwise_map]
    exact d.srt
theorem Hld.ext (h : Hld cur db) (e : ∀ n, n < 72 → cur' n = cur n) : Hld cur' db := by
  obtain ⟨T, pg, xs, c, d, e'⟩ := h
  exact ⟨T, pg, xs, c.ext e, d, e'⟩
theorem TW.ltf (s : TW dq w t f p D R cur op O) : t < w.heap.size ∧ f < w.heap.size ∧ ∀ b, O b → b < w.heap.size := ⟨s.1.lt, s.2.1.1.lt, fun b hb => s.2.1.2.1.lt hb⟩
theorem SV.lt (h : SV dq w t D R cur op Os db) {b : Nat} (hb : Os b) : b < w.heap.size := by
  obtain ⟨_, f, p, O, s, hO⟩ := h
  rcases (hO b).1 hb with rfl | rfl | hb
  · exact s.ltf.1
  · exact s.ltf.2.1
  · exact s.ltf.2.2 b hb
theorem TW.frp' {P : Nat → Prop} (s : TW dq w t f p D R cur op O) (F : FrP P w w') (h : ∀ b, (b = t ∨ b = f ∨ O b) → ¬ P b) : TW dq w' t f p D R cur op O :=
  ⟨s.1.frp F (h t (.inl rfl)), ⟨s.2.1.1.frp F (h f (.inr (.inl rfl))), s.2.1.2.1.frp F fun b hb => h b (.inr (.inr hb)), s.2.1.2.2⟩, s.2.2⟩
theorem SV.frp (h : SV dq w t D R cur op Os db) (F : FrP P w w') (hn : ∀ b, Os b → ¬ P b) : SV dq w' t D R cur op Os db := by
  obtain ⟨hd, f, p, O, s, hO⟩ := h
  exact ⟨hd, f, p, O, s.frp' F fun b hb => hn b ((hO b).2 hb), hO⟩
theorem SV.fr0 (h : SV dq w t D R cur op Os db) (F : Fr 0 0 w w') : SV dq w' t D R cur op Os db := h.frp (FrP.of0 (P := fun _ => False) F) fun _ _ h => h
theorem SV.dr (h : SV dq w t D R cur op Os db) : SV dq w.drew t D R cur op Os db := h.frp (FrP.refl (fun _ => False) w).drew fun _ _ h => h
theorem SV.ok (h : SV dq w t D R cur op Os db) : DbOk db := h.1.ok
theorem wid (hO : ∀ b, Os b ↔ (b = t ∨ b = f ∨ O b)) (F : FrP O w w') : FrP Os w w' := F.mono fun b hb => (hO b).2 (.inr (.inr hb))
theorem nOs (hO : ∀ b, Os b ↔ (b = t ∨ b = f ∨ O b)) {b : Nat} (h : ¬ Os b) : ¬ O b := fun hb => h ((hO b).2 (.inr (.inr hb)))
theorem sbegin_spec {K : Int → World → Prop} (h : SV dq w t D R cur false Os db) (hK : ∀ w', SV dq w' t D R cur true Os db → FrP Os w w' → K 0 w') : S.table_Store_Begin t w K := by
  obtain ⟨hd, f, p, O, s, hO⟩ := h
  unfold S.table_Store_Begin
  exact s.ft (fbegin_spec s.2.1 fun w1 s1 F1 => hK w1 ⟨hd, f, p, O, ⟨s.1.frp F1 s.2.2, s1, s.2.2⟩, hO⟩ (wid hO F1))
theorem scommit_spec {K : Int → World → Prop} (h : SV dq w t D R cur true Os db) (hR : R.length ≤ 100000)
    (hK : ∀ w' Os' ws, WsF ws → SV dq w' t D (comR R ws) cur false Os' db → Gw Os w Os' w' → (∀ n, n < 72 → cmt D (comR R ws) n = cur n) → K 0 w') : S.table_Store_Commit t w K := by
  obtain ⟨hd, f, p, O, s, hO⟩ := h
  unfold S.table_Store_Commit
  refine s.ft (fcommit_spec s.2.1 hR fun w1 O1 ws hw s1 G1 hc => hK w1 (fun b => b = t ∨ b = f ∨ O1 b) ws hw ⟨hd, f, p, O1, ⟨s.1.frp G1.1 s.2.2, s1, fun h => ?_⟩, fun b => Iff.rfl⟩ ⟨wid hO G1.1, fun b hb => ?_⟩ hc)
  · rcases G1.2 t h with h' | h'
    · exact s.2.2 h'
    · have := s.ltf.1; omega
  · rcases hb with hb | hb | hb
    · exact .inl ((hO b).2 (.inl hb))
    · exact .inl ((hO b).2 (.inr (.inl hb)))
    · exact (G1.2 b hb).elim (fun h => .inl ((hO b).2 (.inr (.inr h)))) .inr
theorem sabort_spec {K : Int → World → Prop} {db0 : Db} (h : SV dq w t D R cur true Os db) (h0 : Hld (cmt D R) db0)
    (hK : ∀ w', SV dq w' t D R (cmt D R) false Os db0 → FrP Os w w' → K 0 w') : S.table_Store_Abort t w K := by
  obtain ⟨hd, f, p, O, s, hO⟩ := h
  unfold S.table_Store_Abort
  exact s.ft (fabort_spec s.2.1 fun w1 s1 F1 => hK w1 ⟨h0, f, p, O, ⟨s.1.frp F1 s.2.2, s1, s.2.2⟩, hO⟩ (wid hO F1))
theorem sins_spec {K : Int → World → Prop} (h : SV dq w t D R cur true Os db) (o : OS w r (rowC vs) 3) (hro : ∀ b, owns r b → ¬ Os b) (hm : ∀ v ∈ vs, VMade v) (hvl : vs.length < 1000000)
    (hK : ∀ cur' w', SV dq w' t D R cur' true Os (mdIns nm vs db).2 → FrP Os w w' → K (mdIns nm vs db).1 w') : S.table_Store_Insert t nm r w K := by
  obtain ⟨⟨T, pg, xs, c, d, rfl⟩, f, p, O, s, hO⟩ := h
  refine tinsert_spec s c d o (fun b hb => nOs hO (hro b hb)) hm hvl fun cur1 T1 pg1 w1 s1 c1 d1 F1 => ?_
  rw [(db_ins vs).1]
  exact hK cur1 w1 ⟨⟨T1, pg1, _, c1, d1, (db_ins vs).2⟩, f, p, O, s1, hO⟩ (wid hO F1)
theorem supd_spec {K : Int → World → Prop} (h : SV dq w t D R cur true Os db) (o : OS w r (rowC vs) 3) (hro : ∀ b, owns r b → ¬ Os b) (hm : ∀ v ∈ vs, VMade v) (hvl : vs.length < 1000000)
    (hK : ∀ cur' w', SV dq w' t D R cur' true Os (mdUpd nm vs db).2 → FrP Os w w' → K (mdUpd nm vs db).1 w') : S.table_Store_Update t nm r w K := by
  obtain ⟨⟨T, pg, xs, c, d, rfl⟩, f, p, O, s, hO⟩ := h
  refine tupdate_spec s c d o (fun b hb => nOs hO (hro b hb)) hm hvl fun cur1 T1 pg1 w1 s1 c1 d1 F1 => ?_
  rw [(db_upd vs).1]
  exact hK cur1 w1 ⟨⟨T1, pg1, _, c1, d1, (db_upd vs).2⟩, f, p, O, s1, hO⟩ (wid hO F1)
theorem sdel_spec {K : Int → World → Prop} (h : SV dq w t D R cur true Os db) (hm : VMade key)
    (hK : ∀ cur' w', SV dq w' t D R cur' true Os (mdDel nm key db).2 → FrP Os w w' → K (mdDel nm key db).1 w') : S.table_Store_Delete t nm key.st key.i key.s w K := by
  obtain ⟨⟨T, pg, xs, c, d, rfl⟩, f, p, O, s, hO⟩ := h
  refine tdelete_spec s c d hm fun cur1 T1 pg1 w1 s1 c1 d1 F1 => ?_
  rw [db_del.1]
  exact hK cur1 w1 ⟨⟨T1, pg1, _, c1, d1, db_del.2⟩, f, p, O, s1, hO⟩ (wid hO F1)
theorem screate_spec {pk : Int} {K : Int → World → Prop} (h : SV dq w t D R cur true Os db) (o : OS w s (colC cs) 2) (hso : ∀ b, owns s b → ¬ Os b)
    (hK : ∀ cur' w', SV dq w' t D R cur' true Os (mdCreate nm cs pk db).2 → FrP Os w w' → K (mdCreate nm cs pk db).1 w') : S.table_Store_CreateTable t nm s pk w K := by
  obtain ⟨⟨T, pg, xs, c, d, rfl⟩, f, p, O, st, hO⟩ := h
  exact tcreate_spec st c d o (fun b hb => nOs hO (hso b hb)) fun cur1 T1 pg1 xs1 w1 s1 c1 d1 e1 F1 => hK cur1 w1 ⟨⟨T1, pg1, xs1, c1, d1, e1⟩, f, p, O, s1, hO⟩ (wid hO F1)
theorem sdrop_spec {K : Int → World → Prop} (h : SV dq w t D R cur true Os db)
    (hK : ∀ cur' w', SV dq w' t D R cur' true Os (mdDrop nm db).2 → FrP Os w w' → K (mdDrop nm db).1 w') : S.table_Store_DropTable t nm w K := by
  obtain ⟨⟨T, pg, xs, c, d, rfl⟩, f, p, O, st, hO⟩ := h
  exact tdrop_spec st c d fun cur1 T1 pg1 xs1 w1 s1 c1 d1 e1 F1 => hK cur1 w1 ⟨⟨T1, pg1, xs1, c1, d1, e1⟩, f, p, O, s1, hO⟩ (wid hO F1)
theorem sindex_spec {col : Int} {K : Int → World → Prop} (h : SV dq w t D R cur true Os db)
    (hK : ∀ cur' w', SV dq w' t D R cur' true Os (mdIndex nm col db).2 → FrP Os w w' → K (mdIndex nm col db).1 w') : S.table_Store_CreateIndex t nm col w K := by
  obtain ⟨⟨T, pg, xs, c, d, rfl⟩, f, p, O, st, hO⟩ := h
  exact tindex_spec st c d fun cur1 T1 pg1 xs1 w1 s1 c1 d1 e1 F1 => hK cur1 w1 ⟨⟨T1, pg1, xs1, c1, d1, e1⟩, f, p, O, s1, hO⟩ (wid hO F1)
theorem slook_spec {K : Sl → Int → World → Prop} (h : SV dq w t D R cur op Os db) (hm : VMade key)
    (h1 : (mdLook nm key db).1 ≠ 0 → ∀ w', SV dq w' t D R cur op Os db → FrP Os w w' → K ⟨none, 0, 0⟩ (mdLook nm key db).1 w')
    (h2 : (mdLook nm key db).1 = 0 → ∀ w' q, SV dq w' t D R cur op Os db → FrP Os w w' → w.heap.size ≤ q → Blk w' q (rowC (mdLook nm key db).2) → K (fullS q (mdLook nm key db).2.length) 0 w') : S.table_Store_Lookup t nm key.st key.i key.s w K := by
  obtain ⟨⟨T, pg, xs, c, d, rfl⟩, f, p, O, s, hO⟩ := h
  rw [← db_look] at h1 h2
  exact tlookup_spec s c d hm (fun hne w1 s1 F1 => h1 hne w1 ⟨⟨T, pg, xs, c, d, rfl⟩, f, p, O, s1, hO⟩ (wid hO F1)) fun he w1 q s1 F1 hq b1 => h2 he w1 q ⟨⟨T, pg, xs, c, d, rfl⟩, f, p, O, s1, hO⟩ (wid hO F1) hq b1
theorem sschema_spec {K : ByteArray → Sl → Int → Int → Int → World → Prop} (h : SV dq w t D R cur op Os db)
    (h1 : fnB nm db = none → ∀ w', SV dq w' t D R cur op Os db → FrP Os w w' → K ⟨#[]⟩ ⟨none, 0, 0⟩ 0 (-1) 10 w')
    (h2 : ∀ x, fnB nm db = some x → ∀ w' q, SV dq w' t D R cur op Os db → FrP Os w w' → w.heap.size ≤ q → Blk w' q (colC x.cols) → K nm (fullS q x.cols.length) x.pk x.ix 0 w') : S.table_Store_SchemaOf t nm w K := by
  obtain ⟨⟨T, pg, xs, c, d, rfl⟩, f, p, O, s, hO⟩ := h
  refine tschema_spec s c d (fun hf w1 s1 F1 => h1 (by rw [tbs_fnd, hf]; rfl) w1 ⟨⟨T, pg, xs, c, d, rfl⟩, f, p, O, s1, hO⟩ (wid hO F1)) fun x hf w1 q s1 F1 hq b1 => h2 x.tb (by rw [tbs_fnd, hf]; rfl) w1 q ⟨⟨T, pg, xs, c, d, rfl⟩, f, p, O, s1, hO⟩ (wid hO F1) hq b1
theorem stables_spec {K : Sl → World → Prop} (h : SV dq w t D R cur op Os db)
    (hK : ∀ w' r, SV dq w' t D R cur op Os db → FrP Os w w' → OS w' r (strs (db.map (·.name))) 1 → (∀ b, owns r b → w.heap.size ≤ b) → K r w') : S.table_Store_Tables t w K := by
  obtain ⟨⟨T, pg, xs, c, d, rfl⟩, f, p, O, s, hO⟩ := h
  refine ttables_spec s c d fun w1 r s1 F1 o1 ge => hK w1 r ⟨⟨T, pg, xs, c, d, rfl⟩, f, p, O, s1, hO⟩ (wid hO F1) ?_ ge
  unfold tbs
  rw [List.map_map]
  exact o1
theorem rows_ne {b0 q : Nat} {qs : List Nat} {rows : List (List Vl)} (h : RowsIn b0 u qs rows) (hb : Blk u q (rowsC qs rows)) (hr : ∀ r ∈ rows, r ≠ []) : q ∉ qs := fun hq => by
  obtain ⟨i, hi, e⟩ := List.getElem_of_mem hq
  have hil : i < rows.length := by rw [← h.1]; exact hi
  have b1 := (h.2.1 i q rows[i] (by rw [List.getElem?_eq_getElem hi, e]) (List.getElem?_eq_getElem hil)).1
  have e1 : rowsC qs rows = rowC rows[i] := Blk.eq hb b1
  have hne := hr rows[i] (List.getElem_mem hil)
  cases hrow : rows[i] with
  | nil => exact hne hrow
  | cons v vs =>
    rw [hrow] at e1
    cases hqs : qs with
    | nil => rw [hqs] at hi; cases hi
    | cons q0 qs' =>
      cases hrs : rows with
      | nil => rw [hrs] at hil; cases hil
      | cons r0 rs' =>
        rw [hqs, hrs] at e1
        have := congrArg List.head? e1
        cases this
theorem sscan_spec {col : Int} {lo hi : Bd} {K : Sl → Int → World → Prop} (h : SV dq w t D R cur op Os db) (hml : VMade lo.v) (hmh : VMade hi.v)
    (h0 : fnB nm db = none → ∀ w', SV dq w' t D R cur op Os db → FrP Os w w' → K ⟨none, 0, 0⟩ 10 w')
    (h1 : ∀ x, fnB nm db = some x → scanE x col lo hi ≠ 0 → ∀ w', SV dq w' t D R cur op Os db → FrP Os w w' → K ⟨none, 0, 0⟩ (scanE x col lo hi) w')
    (h2 : ∀ x, fnB nm db = some x → scanE x col lo hi = 0 → ∀ w' r ss out, ScanR x.rows col.toNat x.pk lo hi out → FR w.heap.size w' r ss out → SV dq w' t D R cur op Os db → FrP Os w w' → K r 0 w') :
    S.table_Store_Scan t nm col lo.has lo.v.st lo.v.i lo.v.s hi.has hi.v.st hi.v.i hi.v.s w K := by
  obtain ⟨⟨T, pg, xs, c, d, rfl⟩, f, p, O, s, hO⟩ := h
  refine tscan_spec s c d hml hmh (fun hf w1 s1 F1 => h0 (by rw [tbs_fnd, hf]; rfl) w1 ⟨⟨T, pg, xs, c, d, rfl⟩, f, p, O, s1, hO⟩ (wid hO F1)) (fun x hf hne w1 s1 F1 => h1 x.tb (by rw [tbs_fnd, hf]; rfl) hne w1 ⟨⟨T, pg, xs, c, d, rfl⟩, f, p, O, s1, hO⟩ (wid hO F1)) fun x hf he es hes w1 q qs s1 F1 hq hri hb => ?_
  obtain ⟨hx, hxn⟩ := fnd_mem hf
  have okx := d.ok x hx
  obtain ⟨hcl, hci, -, -⟩ := scan0 he
  have hsc : ScanR x.tb.rows col.toNat x.tb.pk lo hi ((spanP es (bdC lo) hi.has (bdC hi)).map (hitR x.tb)) := by
    by_cases e : col.toNat = x.tb.pk
    · rw [if_pos e, d.rws x hx] at hes
      cases hes
      have ec : col = (x.tb.pk : Int) := by omega
      rw [ec] at he ⊢
      rw [Int.toNat_natCast]
      exact scan_rows okx.1 hml hmh he
    · rw [if_neg e] at hes
      have ec : col = x.tb.ix := hci.resolve_left (by omega)
      have okh := okx.2
      unfold HdOk at okh
      have hi0 : 0 < x.hi := by
        rcases okh.2.2.2.2.2.2.2.2 with ⟨g1, _⟩ | ⟨_, g2, _, _⟩
        · have g1 : x.tb.ix = -1 := g1
          omega
        · exact g2
      obtain ⟨es', a1, a2⟩ := d.idx x hx (by omega)
      rw [a1] at hes
      cases hes
      rw [ec] at he ⊢
      exact scan_idx okx.1 a2 hml hmh (by omega) he
  have hnil : ∀ r ∈ (spanP es (bdC lo) hi.has (bdC hi)).map (hitR x.tb), r ≠ [] := fun r hr e => by
    have hm := ((hsc.2 r).1 hr).1
    have := okx.1.pkr r hm
    rw [e] at this
    cases this
  have fr := hri.fr hb hq (rows_ne hri hb hnil)
  have el : (spanP es (bdC lo) hi.has (bdC hi)).length = ((spanP es (bdC lo) hi.has (bdC hi)).map (hitR x.tb)).length := (List.length_map _).symm
  rw [el]
  exact h2 x.tb (by rw [tbs_fnd, hf]; rfl) he w1 _ _ _ hsc fr ⟨⟨T, pg, xs, c, d, rfl⟩, f, p, O, s1, hO⟩ (wid hO F1)
end Go.Proofs.Qxb6500564aGreat
