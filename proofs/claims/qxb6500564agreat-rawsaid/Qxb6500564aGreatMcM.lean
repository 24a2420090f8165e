/-
  The model: DropTable, CreateIndex, Names, SchemaOf.
-/
import Derived.Test.Qxb6500564aGreatMcL
namespace Go.Proofs.Qxb6500564aGreat
open Go.Den Go.Zip
set_option linter.unusedVariables false
set_option linter.unusedSimpArgs false
variable {w w' u v : World} {i j n q g b pk d o b0 : Nat} {s r x : Sl} {row vs : List Vl} {rows : List (List Vl)} {ss : List Sl} {key : Vl} {tb : Tb} {nm : ByteArray} {ms L : List MR} {m m' y : MR} {P Q : Nat → Prop} {cells : List Value} {cs : List Cl}

theorem MT.sub {s' : Sl} {ms' : List MR} (h : MT w s ms) (F : FrP Q w w') (hQ : ∀ b, Q b → owns s b ∨ ¬ mo s ms b) (hs : ∀ b, owns s' b → owns s b) (ha : OS w' s' (msC ms') 5) (hsub : ms'.Sublist ms) :
    MT w' s' ms' ∧ ∀ b, mo s' ms' b → mo s ms b := by
  have im : ∀ {b}, imm ms' b → imm ms b := fun {b} ⟨z, hz, hb⟩ => ⟨z, hsub.subset hz, hb⟩
  refine ⟨⟨ha, fun z hz => ?_, fun b hb => ⟨fun hi => (h.sI b (hs b hb)).1 (im hi), fun z hz => (h.sI b (hs b hb)).2 z (hsub.subset hz)⟩, fun z hz b hb hi => h.rI z (hsub.subset hz) b hb (im hi), h.dis.sublist hsub⟩, fun b hb => ?_⟩
  · have hz := hsub.subset hz
    refine (h.ok z hz).frp F (fun b hb hq => ?_) (fun r hr b hb hq => ?_) fun b hb hq => ?_
    · have hI : imm ms b := ⟨z, hz, .inl hb⟩
      rcases hQ b hq with h1 | h1
      · exact (h.sI b h1).1 hI
      · exact h1 (.inr (.inl hI))
    · have hI : imm ms b := ⟨z, hz, .inr ⟨r, hr, hb⟩⟩
      rcases hQ b hq with h1 | h1
      · exact (h.sI b h1).1 hI
      · exact h1 (.inr (.inl hI))
    · rcases hQ b hq with h1 | h1
      · exact (h.sI b h1).2 z hz hb
      · exact h1 (.inr (.inr ⟨z, hz, hb⟩))
  · rcases hb with hb | hb | ⟨z, hz, hb⟩
    · exact .inl (hs b hb)
    · exact .inr (.inl (im hb))
    · exact .inr (.inr ⟨z, hsub.subset hz, hb⟩)
theorem del_at {p : Nat} (hi : ms[p]? = some m) (hn : m.t.name = nm) (hu : ∀ j m', j ≠ p → ms[j]? = some m' → m'.t.name ≠ nm) : dbOf (ms.take p ++ ms.drop (p + 1)) = delTb nm (dbOf ms) := by
  obtain ⟨hp, em⟩ := List.getElem?_eq_some_iff.1 hi
  have e : ms = ms.take p ++ m :: ms.drop (p + 1) := by rw [← em, ← List.drop_eq_getElem_cons hp, List.take_append_drop]
  unfold dbOf delTb
  have : (ms.map (·.t)).filter (fun x => decide (x.name ≠ nm)) = (ms.filter fun x => decide (x.t.name ≠ nm)).map (·.t) := by rw [List.filter_map]; rfl
  rw [this]
  congr 1
  have h1 : ∀ z ∈ ms.take p, z.t.name ≠ nm := fun z hz => by
    obtain ⟨j, hj, ez⟩ := List.getElem_of_mem hz
    rw [List.length_take] at hj
    rw [List.getElem_take] at ez
    exact hu j z (by omega) (by rw [List.getElem?_eq_getElem (by omega), ez])
  have h2 : ∀ z ∈ ms.drop (p + 1), z.t.name ≠ nm := fun z hz => by
    obtain ⟨j, hj, ez⟩ := List.getElem_of_mem hz
    rw [List.length_drop] at hj
    rw [List.getElem_drop] at ez
    exact hu (p + 1 + j) z (by omega) (by rw [List.getElem?_eq_getElem (by omega), ez])
  conv => rhs; rw [e]
  rw [List.filter_append, List.filter_cons_of_neg (by simp [hn]), List.filter_eq_self.2 fun z hz => by simpa using h1 z hz, List.filter_eq_self.2 fun z hz => by simpa using h2 z hz]
set_option maxHeartbeats 8000000 in
theorem mdrop_spec {K : Int → World → Prop} (bd : Blk w d cells) (hcell : cells[0]? = some (slV s)) (h : MT w s ms) (nd : ¬ mo s ms d) (ok : DbOk (dbOf ms))
    (hK : ∀ w' s' ms', Blk w' d (cells.set 0 (slV s')) → MT w' s' ms' → dbOf ms' = (mdDrop nm (dbOf ms)).2 → (∀ b, mo s' ms' b → mo s ms b) → FrP (fun b => mo s ms b ∨ b = d) w w' → K (mdDrop nm (dbOf ms)).1 w') : S.api_DB_DropTable d nm w K := by
  unfold S.api_DB_DropTable
  have hl3 := ok.mlen
  have md : MD w d 0 s ms := ⟨⟨cells, bd, hcell⟩, h, nd⟩
  refine mfind_spec md (by omega) (fun hf => ?_) fun p m hi hn _ hf => ?_
  · have e : mdDrop nm (dbOf ms) = (10, dbOf ms) := by unfold mdDrop; rw [hf]
    rw [e] at hK
    rw [if_pos (by simp)]
    refine hK w s ms ?_ h rfl (fun b hb => hb) (FrP.refl _ _)
    obtain ⟨h0, e⟩ := List.getElem?_eq_some_iff.1 hcell
    rw [← e, List.set_getElem_self]
    exact bd
  · have e : mdDrop nm (dbOf ms) = (0, delTb nm (dbOf ms)) := by unfold mdDrop; rw [hf]
    rw [e] at hK
    rw [if_neg (by simp)]
    obtain ⟨hpl, em⟩ := List.getElem?_eq_some_iff.1 hi
    have nds : ∀ b, owns s b → b ≠ d := fun b hb e => nd (.inl (by rw [← e]; exact hb))
    rw [join_eq]
    have hdel := del_at hi hn (ok.uq hi hn)
    have hsub : (ms.take p ++ ms.drop (p + 1)).Sublist ms := by
      have e : ms = ms.take p ++ m :: ms.drop (p + 1) := by rw [← em, ← List.drop_eq_getElem_cons hpl, List.take_append_drop]
      conv => rhs; rw [e]
      exact List.Sublist.append (List.Sublist.refl _) (List.sublist_cons_self _ _)
    have hM : (ms.take p ++ ms.drop (p + 1)).length = ms.length - 1 := by rw [List.length_append, List.length_take, List.length_drop]; omega
    have hst : ∀ z, (ms.take p ++ ms.drop (p + 1)).take p ++ z :: (ms.take p ++ ms.drop (p + 1)).drop p = ms.take p ++ z :: ms.drop (p + 1) := fun z => by
      have : (ms.take p).length = p := by rw [List.length_take]; omega
      rw [List.take_append_of_le_length (by omega), List.take_of_length_le (by omega), List.drop_append_of_le_length (by omega), List.drop_of_length_le (by omega)]
      rfl
    generalize hMe : ms.take p ++ ms.drop (p + 1) = M at *
    have o2 : OS w s (msC (M.take p ++ ms[p] :: M.drop p)) 5 := by
      rw [hst, ← List.drop_eq_getElem_cons hpl, List.take_append_drop]
      exact h.arr
    refine loopN (fun k st u => ∃ (j : Nat) (z : MR), st = ((j : Int), ()) ∧ j + k = M.length ∧ Blk u d cells ∧ OS u s (msC (M.take j ++ z :: M.drop j)) 5 ∧ FrP (owns s) w u) (M.length - p)
      ⟨p, ms[p], rfl, by omega, bd, o2, FrP.refl _ _⟩ ?_
    rintro k _ u ⟨j, z, rfl, hj, bu, ou, Fu⟩ Q hQ
    dsimp only
    rw [W_succ (by omega)]
    have hsl : s.l = ms.length := h.l
    refine rd_cell bu hcell (ifd (fun hjp => ?_) fun hjp => ?_)
    · have hjl : j < M.length := by omega
      obtain ⟨y, hy⟩ : ∃ y, M[j]? = some y := ⟨_, List.getElem?_eq_getElem hjl⟩
      have hyj : M[j] = y := by rw [List.getElem?_eq_getElem hjl] at hy; exact Option.some.inj hy
      have htl : (M.take j).length = j := by rw [List.length_take]; omega
      have e2 : (M.take j ++ z :: M.drop j)[j + 1]? = some y := by
        rw [List.getElem?_append_right (by omega), htl, show j + 1 - j = 0 + 1 by omega, List.getElem?_cons_succ, List.getElem?_drop, Nat.add_zero]
        exact hy
      have e1 : (M.take j ++ z :: M.drop j).set j y = M.take (j + 1) ++ y :: M.drop (j + 1) := by
        have := List.set_append_right (s := M.take j) (t := z :: M.drop j) j y (by omega)
        rw [this, htl, Nat.sub_self, List.set_cons_zero, List.take_add_one, hy, List.drop_eq_getElem_cons hjl, hyj]
        simp
      refine drew_ (rd_cell bu.drew hcell (rd_cell bu.drew hcell (arr_move (OS.dr ou) e2 (by rw [List.length_append, List.length_cons, List.length_drop, htl]; omega) fun u2 o2 F2 => let_ ?_)))
      rw [e1] at o2
      exact hQ (k - 1) _ _ (by omega) ⟨j + 1, y, rfl, by omega, bu.drew.frp F2 fun hb => nds d hb rfl, o2, Fu.drew.trans F2⟩
    · have hjl : j = M.length := by omega
      subst hjl
      rw [List.take_length, List.drop_length] at ou
      refine drew_ (rd_cell bu.drew hcell (rd_cell bu.drew hcell ?_))
      have ew : W ((s.l : Int) - 1) = (M.length : Int) := by rw [W_id (by omega) (by omega)]; omega
      rw [ew]
      have oud := OS.dr ou
      rcases oud with ⟨er, _⟩ | ⟨gr, ga, ge, gc, junk, gd, ge2⟩
      · rw [er] at hsl
        have : (0 : Nat) = ms.length := hsl
        omega
      · refine cutS (lo := 0) (hi := M.length) (mx := s.c) ga (by omega) (by omega) (Nat.le_refl _) (.inr rfl) ?_
        rw [Nat.zero_mul, Nat.sub_zero, Nat.sub_zero]
        refine st1 bu.drew (by have := (List.getElem?_eq_some_iff.1 hcell).1; exact this) fun u3 bd3 f3 _ => ?_
        have G3 : FrP (fun b => b = d) u.drew u3 := FrP.of f3 fun b h1 h2 => by omega
        have hgr : owns s gr := ga
        have o3 : OS u3 ⟨some ⟨gr, 0, none⟩, M.length, s.c⟩ (msC M) 5 := by
          refine .inr ⟨gr, rfl, msC_len M, ?_, mrC z ++ junk, ?_, ?_⟩
          · show M.length ≤ s.c
            omega
          · rw [← List.append_assoc, ← msC_snoc]
            exact gd.frp G3 fun e => nds gr hgr e
          · rw [← List.append_assoc, ← msC_snoc]
            exact ge2
        have FT : FrP (fun b => owns s b ∨ b = d) w u3 := (Fu.drew.mono fun b hb => .inl hb).trans (G3.mono fun b hb => .inr hb)
        obtain ⟨M1, M2⟩ := h.sub (s' := ⟨some ⟨gr, 0, none⟩, M.length, s.c⟩) FT (fun b hb => hb.elim .inl fun e => .inr (by rw [e]; exact nd)) (fun b hb => by
          have hb : (some ⟨gr, 0, none⟩ : Option Addr) = some ⟨b, 0, none⟩ := hb
          have : gr = b := by simpa using hb
          rw [← this]; exact ga) o3 hsub
        exact hK u3 ⟨some ⟨gr, 0, none⟩, M.length, s.c⟩ M bd3 M1 hdel M2 (FT.mono fun b hb => hb.elim (fun h => .inl (.inl h)) .inr)
set_option maxHeartbeats 4000000 in
theorem mindex_spec {col : Int} {K : Int → World → Prop} (h : MD w d 0 s ms) (ok : DbOk (dbOf ms))
    (hK : ∀ w' ms', MD w' d 0 s ms' → dbOf ms' = (mdIndex nm col (dbOf ms)).2 → Gw (mo s ms) w (mo s ms') w' → K (mdIndex nm col (dbOf ms)).1 w') : S.api_DB_CreateIndex d nm col w K := by
  unfold S.api_DB_CreateIndex
  have hl3 := ok.mlen
  have hsame : ∀ {e : Int}, mdIndex nm col (dbOf ms) = (e, dbOf ms) → K e w := fun {e} he => by
    have := hK w ms h (by rw [he]) (Gw.refl _ _)
    rw [he] at this
    exact this
  refine mfind_spec h (by omega) (fun hf => ?_) fun i m hi hn _ hf => ?_
  · rw [if_pos (by simp)]
    exact hsame (by unfold mdIndex; rw [hf])
  rw [if_neg (by simp)]
  have hmm := List.mem_of_getElem? hi
  have mm := h.mt.ok m hmm
  have hcl := col_l mm.cs
  refine ifd (fun h1 => hsame (by unfold mdIndex; rw [hf]; dsimp only; rw [if_pos (.inl h1)])) fun h1 => ?_
  refine h.lds (h.mt.at hi fun g hg => h.mt.cl hg hi (ifd (fun h2 => hsame (by unfold mdIndex; rw [hf]; dsimp only; rw [if_pos (.inr (by omega))])) fun h2 => ?_))
  have hno : ¬ (col < 0 ∨ col ≥ m.t.cols.length) := by omega
  refine h.lds (h.mt.at hi fun g hg => h.mt.pk hg hi ?_)
  by_cases h3 : col = (m.t.pk : Int)
  · rw [if_pos (by simpa using h3)]
    exact hsame (by unfold mdIndex; rw [hf]; dsimp only; rw [if_neg hno, if_pos h3])
  rw [if_neg (by simpa using h3)]
  refine h.lds (h.mt.at hi fun g hg => h.mt.ix hg hi (ifd (fun h4 => hsame (by unfold mdIndex; rw [hf]; dsimp only; rw [if_neg hno, if_neg h3, if_pos h4])) fun h4 => ?_))
  have e : mdIndex nm col (dbOf ms) = (0, putTb nm { m.t with ix := col } (dbOf ms)) := by unfold mdIndex; rw [hf]; dsimp only; rw [if_neg hno, if_neg h3, if_neg h4]
  rw [e] at hK
  let m1 : MR := ⟨{ m.t with ix := col }, m.cs, m.rs, m.ss⟩
  refine h.lds (h.mt.at hi fun g hg => arr_set1 (k := 3) (m' := m1) h.mt.arr hg hi (by omega) rfl fun w1 o1 f1 => ?_)
  have G : FrP (owns s) w w1 := FrP.of f1 fun b h1 h2 => by rw [show b = g by omega]; exact hg
  have mm1 : MOk w1 m := mm.frp G (fun b hb hs => (h.mt.sI b hs).1 ⟨m, hmm, .inl hb⟩) (fun r hr b hb hs => (h.mt.sI b hs).1 ⟨m, hmm, .inr ⟨r, hr, hb⟩⟩) fun b hb hs => (h.mt.sI b hs).2 m hmm hb
  obtain ⟨M1, G1⟩ := h.turn (m' := m1) hi G (fun b hb => .inl hb) o1 rfl ⟨mm1.cs, mm1.rs, mm1.rows⟩ (fun b hb => .inl hb) fun r hr => .inl hr
  refine hK w1 _ M1 ?_ G1
  rw [dbOf_set, ← putTb_set hi hn (ok.uq hi hn)]
/-- A list of strings that is handed out. -/
theorem mnames_spec {K : Sl → World → Prop} (h : MD w d 0 s ms) (hl : ms.length ≤ 1000)
    (hK : ∀ w' r, OS w' r (strs ((dbOf ms).map (·.name))) 1 → (∀ b, owns r b → w.heap.size ≤ b) → Fr 0 0 w w' → K r w') : S.api_DB_Names d w K := by
  unfold S.api_DB_Names
  have hsl := h.mt.l
  refine loopN (fun n st u => ∃ (k : Nat) (out : Sl), st = (out, (k : Int), ()) ∧ k + n = ms.length ∧ OS u out (strs (((dbOf ms).map (·.name)).take k)) 1 ∧ (∀ b, owns out b → w.heap.size ≤ b) ∧ Fr 0 0 w u) ms.length
    ⟨0, ⟨none, 0, 0⟩, rfl, by omega, OS.nil _ _, fun b hb => (by unfold owns at hb; cases hb), Fr.refl _ _ _⟩ ?_
  rintro n _ u ⟨k, out, rfl, hk, ou, hown, Fu⟩ Q hQ
  dsimp only
  have hu := h.fr0 Fu
  refine hu.lds (ifd (fun hkl => ?_) fun hkl => ?_)
  · have hk' : k < ms.length := by omega
    obtain ⟨m, hm⟩ : ∃ m, ms[k]? = some m := ⟨_, List.getElem?_eq_getElem hk'⟩
    refine hu.lds (hu.mt.at hm fun g hg => hu.mt.nam hg hm (newB fun u1 b1 g1 z1 => ?_))
    have b1 : Blk u1 u.heap.size (strs [m.t.name]) := b1
    have hol : out.l ≤ k := by
      have := ou.len
      rw [strs_length, List.length_take, Nat.mul_one] at this
      omega
    have lu := Fu.1.1
    have lg := g1.1.1
    refine app1 (OS.fr0 ou g1) b1 rfl rfl rfl (by omega) fun out' u2 o2 l2 own2 F2 => let_ ?_
    rw [W_succ (by omega)]
    refine hQ (n - 1) _ _ (by omega) ⟨k + 1, out', rfl, by omega, ?_, fun b hb => ?_, ?_⟩
    · have : ((dbOf ms).map (·.name)).take (k + 1) = ((dbOf ms).map (·.name)).take k ++ [m.t.name] := by
        unfold dbOf
        rw [List.take_add_one, List.getElem?_map, List.getElem?_map, hm]; rfl
      rw [this, strs_app]
      exact o2
    · exact (own2 b hb).elim (hown b) fun h => by omega
    · have F1 := Fu.then0 g1
      exact ⟨F1.1.trans F2.1, fun b hb hn => by rw [F2.2 b (by have := F1.1.1; omega) fun ho => by have := hown b ho; omega]; exact F1.2 b hb hn⟩
  · have hk' : k = ms.length := by omega
    subst hk'
    rw [List.take_of_length_le (by unfold dbOf; rw [List.length_map, List.length_map]; exact Nat.le_refl _)] at ou
    exact hK u out ou hown Fu
/-- SchemaOf, of the model. -/
theorem mschema_spec {K : ByteArray → Sl → Int → Int → Int → World → Prop} (h : MD w d 0 s ms) (ok : DbOk (dbOf ms))
    (h1 : fnB nm (dbOf ms) = none → ∀ w', Fr 0 0 w w' → K ⟨#[]⟩ ⟨none, 0, 0⟩ 0 (-1) 10 w')
    (h2 : ∀ t, fnB nm (dbOf ms) = some t → ∀ w' q, w.heap.size ≤ q → Blk w' q (colC t.cols) → Fr 0 0 w w' → K nm (fullS q t.cols.length) t.pk t.ix 0 w') : S.api_DB_SchemaOf d nm w K := by
  unfold S.api_DB_SchemaOf
  have hl3 := ok.mlen
  refine newB fun w1 c1 f1 s1 => ?_
  have m1 := h.fr0 f1
  refine mfind_spec m1 (by omega) (fun hf => ?_) fun i m hi hn _ hf => ?_
  · rw [if_pos (by simp)]
    exact st4 (s := ⟨none, 0, 0⟩) c1 rfl fun w2 b2 f2 => rd4 b2 (h1 hf w2 (f1.thenNew f2 (Nat.le_refl _)))
  · rw [if_neg (by simp)]
    have hmm := List.mem_of_getElem? hi
    have okm := ok.mok hi
    refine m1.lds (m1.mt.at hi fun g hg => m1.mt.nam hg hi (m1.mt.cl hg hi (m1.mt.pk hg hi (m1.mt.ix hg hi (cloneSchema_spec (m1.mt.ok m hmm).cs (by have := okm.sm.1; omega) fun w2 q hq bq f2 => ?_)))))
    have bql := bq.lt
    have lc := c1.lt
    refine st4 (s := fullS q m.t.cols.length) (c1.fr f2 (by omega)) rfl fun w3 b3 f3 => rd4 b3 ?_
    rw [hn]
    exact h2 m.t hf w3 q (by omega) (bq.fr f3 (by omega)) ((f1.then0 f2).thenNew f3 (Nat.le_refl _))
end Go.Proofs.Qxb6500564aGreat
