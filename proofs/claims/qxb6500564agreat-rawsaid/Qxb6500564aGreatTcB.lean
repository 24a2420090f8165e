/-
  The plain database; the store: CreateTable.
-/
import Derived.Test.Qxb6500564aGreatTcA
namespace Go.Proofs.Qxb6500564aGreat
open Go.Den Go.Zip
set_option linter.unusedVariables false
set_option linter.unusedSimpArgs false
variable {dq : Nat}
variable {w w' u v : World} {i j n t f p : Nat} {D : List Bk} {R : List Wr} {cur cur' : Nat → Bk} {op : Bool} {O : Nat → Prop} {T : Nat → Option Es} {pg : Nat → List Nat} {xs : List Th} {s r : Sl} {tb : Tb} {k nm : ByteArray} {vs : List Vl} {cs : List Cl}

/-- The plain database: its tables, by name. -/
abbrev Db := List Tb
def fnB (nm : ByteArray) (db : Db) : Option Tb := db.find? fun x => decide (x.name = nm)
def insTb (y : Tb) : Db → Db
  | [] => [y]
  | z :: r => if sl z.name y.name then z :: insTb y r else y :: z :: r
def delTb (nm : ByteArray) (db : Db) : Db := db.filter fun x => decide (x.name ≠ nm)
def putTb (nm : ByteArray) (tb' : Tb) (db : Db) : Db := db.map fun y => if y.name = nm then tb' else y
def tbs (xs : List Th) : Db := xs.map (·.tb)
theorem tbs_fnd (nm : ByteArray) : ∀ xs : List Th, fnB nm (tbs xs) = (fnd nm xs).map (·.tb)
  | [] => rfl
  | x :: r => by
    show fnB nm (x.tb :: tbs r) = _
    unfold fnB fnd
    by_cases h : x.tb.name = nm
    · rw [List.find?_cons_of_pos (by simpa using h), List.find?_cons_of_pos (by simpa using h)]; rfl
    · rw [List.find?_cons_of_neg (by simpa using h), List.find?_cons_of_neg (by simpa using h)]
      exact tbs_fnd nm r
theorem tbs_ins (y : Th) : ∀ xs : List Th, tbs (insTh y xs) = insTb y.tb (tbs xs)
  | [] => rfl
  | x :: r => by
    show tbs (if _ then _ else _) = if _ then _ else _
    by_cases h : sl x.tb.name y.tb.name = true
    · rw [if_pos h, if_pos h]
      show x.tb :: tbs (insTh y r) = x.tb :: insTb y.tb (tbs r)
      rw [tbs_ins y r]
    · rw [if_neg h, if_neg h]; rfl
theorem tbs_del (nm : ByteArray) (xs : List Th) : tbs (delTh nm xs) = delTb nm (tbs xs) := by
  unfold tbs delTh delTb
  rw [List.filter_map]
  rfl
theorem tbs_set (nm : ByteArray) (tb' : Tb) (xs : List Th) : tbs (setT nm tb' xs) = putTb nm tb' (tbs xs) := by
  unfold tbs setT putTb
  rw [List.map_map, List.map_map]
  refine List.map_congr_left fun x hx => ?_
  show (if _ then _ else _ : Th).tb = if _ then _ else _
  split <;> rfl
theorem tbs_len (xs : List Th) : (tbs xs).length = xs.length := List.length_map _
def goodN (nm : ByteArray) : Bool := decide (1 ≤ nm.size ∧ nm.size ≤ 6)
def mdCreate (nm : ByteArray) (cs : List Cl) (pk : Int) (db : Db) : Int × Db :=
  if goodN nm = false then (12, db) else if gdCols cs pk = false then (13, db) else if (fnB nm db).isSome then (11, db) else if db.length ≥ 3 then (6, db)
  else (0, insTb ⟨nm, cs, pk.toNat, -1, []⟩ db)
theorem fold_spec {a b : Int} {K : Int → World → Prop} (ha : a = 0) (hb : b = 0) (hK : K 0 w) : S.table_fold a b w K := by
  subst ha; subst hb
  exact fold00_spec hK
theorem colGet {K : ByteArray → Bool → Prop} (o : OS w s (colC cs) 2) (hi : i < cs.length) (hk : K (cs.getD i c0).name (cs.getD i c0).st) : Ix s.a s.l (i : Int) fun b o => LdStr w ⟨b, o + Int.toNat (i : Int) * 2, none⟩ fun x => LdB w ⟨b, o + Int.toNat (i : Int) * 2 + 1, none⟩ fun y => K x y := by
  refine OS.get o (by rw [col_l o]; exact hi) fun g us b hu _ => ?_
  exact ldStr b (cell2 (g := g) (k := 0) hu (getC_some hi) (by omega)) (ldB b (cell2 (g := g) (k := 1) hu (getC_some hi) (by omega)) hk)
theorem fset_fset {α : Type} (g : Nat → α) (i : Nat) (a b : α) : fset (fset g i a) i b = fset g i b := by
  funext j
  by_cases h : j = i
  · subst h; rw [fset_eq, fset_eq]
  · rw [fset_ne h, fset_ne h, fset_ne h]
theorem gdCols_len {pk : Int} (h : gdCols cs pk = true) : (1 ≤ cs.length ∧ cs.length ≤ 3) ∧ (0 ≤ pk ∧ pk < cs.length) ∧ ∀ c ∈ cs, 1 ≤ c.name.size ∧ c.name.size ≤ 6 := by
  have h := of_decide_eq_true h
  refine ⟨⟨h.1.1, h.1.2.1⟩, h.1.2.2, fun c hc => ?_⟩
  obtain ⟨i, hi, e⟩ := List.getElem_of_mem hc
  have := (h.2 i hi).1
  unfold colN at this
  rw [List.getD_eq_getElem?_getD, List.getElem?_eq_getElem hi, e] at this
  exact this
set_option maxHeartbeats 4000000 in
theorem tcreate_spec {pk : Int} {K : Int → World → Prop} (st : TW dq w t f p D R cur true O) (c : FCp cur T pg) (d : DBT T xs) (o : OS w s (colC cs) 2) (hso : ∀ b, owns s b → ¬ O b)
    (hK : ∀ cur' T' pg' xs' w', TW dq w' t f p D R cur' true O → FCp cur' T' pg' → DBT T' xs' → tbs xs' = (mdCreate nm cs pk (tbs xs)).2 → FrP O w w' → K (mdCreate nm cs pk (tbs xs)).1 w') : S.table_Store_CreateTable t nm s pk w K := by
  unfold S.table_Store_CreateTable
  refine st.ft (fintxn_spec st.2.1 ?_)
  rw [if_neg (by simp)]
  refine goodName_spec ?_
  by_cases hgn : goodN nm = false
  · have e : mdCreate nm cs pk (tbs xs) = (12, tbs xs) := by unfold mdCreate; rw [if_pos hgn]
    rw [e] at hK
    unfold goodN at hgn
    rw [hgn, if_pos (by rfl)]
    exact hK cur T pg xs w st c d rfl (FrP.refl _ _)
  have hgn' : goodN nm = true := by simpa using hgn
  have hnm := of_decide_eq_true hgn'
  rw [show decide (1 ≤ nm.size ∧ nm.size ≤ 6) = true from hgn', if_neg (by simp)]
  refine goodCols_spec o fun w1 f1 => ?_
  have S1 := st.fr0 f1
  have o1 : OS w1 s (colC cs) 2 := o.frp (FrP.of0 (P := fun _ => False) f1) fun _ _ h => h
  by_cases hgc : gdCols cs pk = false
  · have e : mdCreate nm cs pk (tbs xs) = (13, tbs xs) := by unfold mdCreate; rw [if_neg hgn, if_pos hgc]
    rw [e] at hK
    rw [hgc, if_pos (by rfl)]
    exact hK cur T pg xs w1 S1 c d rfl (FrP.of0 f1)
  have hgc' : gdCols cs pk = true := by simpa using hgc
  obtain ⟨⟨hc1, hc3⟩, ⟨hp0, hpl⟩, hcn⟩ := gdCols_len hgc'
  rw [hgc', if_neg (by simp)]
  have l1 := f1.1.1
  refine load_store S1 c d (fun hf w2 S2 F2 => ?_) fun x hf w2 q S2 F2 hq b2 => ?_
  · have hfn := fnd_none hf
    have hfb : fnB nm (tbs xs) = none := by rw [tbs_fnd, hf]; rfl
    refine newB fun w3 a3 f3 s3 => newB fun w4 b4 f4 s4 => st5 (a3.fr f4 (by omega)) rfl fun w5 a5 f5 => st4 (s := ⟨none, 0, 0⟩) (b4.fr f5 (by omega)) rfl fun w6 b6 f6 => ?_
    have l2 := F2.1.1
    have G : FrP (fun b => b = w2.heap.size ∨ b = w3.heap.size) w4 w6 := (FrP.of f5 fun b h1 h2 => .inl (by omega)).trans (FrP.of f6 fun b h1 h2 => .inr (by omega))
    have S6 : TW dq w6 t f p D R cur true O := ((S2.fr0 f3).fr0 f4).new G st fun b hb => by omega
    have F6 : FrP O w w6 := ((((FrP.of0 f1).trans F2).trans (FrP.of0 f3)).trans (FrP.of0 f4)).trans' G fun b hb => .inr (by omega)
    have o6 : OS w6 s (colC cs) 2 := ((((o1.frp F2 hso).frp (FrP.of0 (P := fun _ => False) f3) fun _ _ h => h).frp (FrP.of0 (P := fun _ => False) f4) fun _ _ h => h)).frp G fun b hb h => by have := o.lt hb; omega
    rw [if_neg (by simp), if_neg (by simp)]
    refine ttables_spec S6 c d fun w7 r7 S7 F7 o7 own7 => ?_
    have o7' := o6.frp F7 hso
    have hr7 : r7.l = xs.length := by
      have := o7.len
      rw [strs_length, List.length_map] at this
      omega
    by_cases h3 : xs.length ≥ 3
    · rw [if_pos (by simp; omega)]
      have e : mdCreate nm cs pk (tbs xs) = (6, tbs xs) := by unfold mdCreate; rw [if_neg hgn, if_neg hgc, hfb, if_neg (by simp), if_pos (by rw [tbs_len]; exact h3)]
      rw [e] at hK
      exact hK cur T pg xs w7 S7 c d rfl (F6.trans F7)
    · rw [if_neg (by simp; omega)]
      have e : mdCreate nm cs pk (tbs xs) = (0, insTb ⟨nm, cs, pk.toNat, -1, []⟩ (tbs xs)) := by unfold mdCreate; rw [if_neg hgn, if_neg hgc, hfb, if_neg (by simp), if_neg (by rw [tbs_len]; exact h3)]
      rw [e] at hK
      obtain ⟨h, h0, h8, hT, hlow⟩ := d.low
      have htot := d.total
      refine S7.ft (fcreate_spec S7.2.1 c h8 hT hlow (by omega) fun cur8 pg8 w8 s8 c8 F8 => ?_)
      have S8 := S7.ofO F8 s8
      have o8 := o7'.frp F8 hso
      refine catKey_spec (i := 0) hnm.2 (by omega) fun w9 f9 => ?_
      have S9 := S8.fr0 f9
      have o9 : OS w9 s (colC cs) 2 := o8.frp (FrP.of0 (P := fun _ => False) f9) fun _ _ h => h
      have hsl := col_l o9
      let y : Th := ⟨⟨nm, cs, pk.toNat, -1, []⟩, h, -1⟩
      have okh : HdOk y.hd := by
        unfold HdOk
        refine ⟨hc1, hc3, ?_, ?_, ?_, ?_, h0, h8, .inl ⟨rfl, rfl⟩⟩
        · show pk.toNat < cs.length; omega
        · show (-1 : Int) ≤ -1; omega
        · show (-1 : Int) < cs.length; omega
        · show (-1 : Int) ≠ (pk.toNat : Int); omega
      have okt : TbOk y.tb := by
        unfold TbOk
        refine ⟨hnm, ⟨hc1, hc3⟩, hcn, ?_, ⟨?_, ?_, ?_⟩, by show 0 ≤ 8; omega, fun r hr => (by cases hr), List.Pairwise.nil⟩
        · show pk.toNat < cs.length; omega
        · show (-1 : Int) ≤ -1; omega
        · show (-1 : Int) < cs.length; omega
        · show (-1 : Int) ≠ (pk.toNat : Int); omega
      have ht : S.table_headText y.hd.nc y.hd.pk y.hd.ix y.hd.rows y.hd.idx w9 = S.table_headText (s.l : Int) pk (-1) (h : Int) (-1) w9 := by
        show S.table_headText (cs.length : Int) (pk.toNat : Int) (-1) (h : Int) (-1) w9 = _
        rw [hsl, show ((pk.toNat : Nat) : Int) = pk by omega]
      rw [← ht]
      refine headText_spec okh fun w10 f10 => ?_
      have S10 := S9.fr0 f10
      have o10 : OS w10 s (colC cs) 2 := o9.frp (FrP.of0 (P := fun _ => False) f10) fun _ _ h => h
      have hT0 : fset T h (some []) 0 = some (cat xs) := by rw [fset_ne (by omega)]; exact d.cat0
      have ks : ∀ j, j ≤ 3 → (catK nm j).size ≤ 16 := fun j hj => by rw [catK_size hnm.2 (by omega)]; omega
      have hs1 := sumT T (some []) (i := h) h8
      rw [hT] at hs1
      have hs1 : (sumTo 8 fun j => eLen (fset T h (some []) j)) + 0 = (sumTo 8 fun j => eLen (T j)) + 0 := hs1
      have hhs : (headT y.hd).size ≤ 16 := by
        unfold headT
        rw [strOf_size]
        show 5 ≤ 16; omega
      refine S10.ft (finsert_spec (i := 0) S10.2.1 c8 (by omega) hT0 (ks 0 (by omega)) hhs (fun _ => by omega) fun cur11 pg11 w11 s11 c11 F11 => ?_)
      have S11 := S10.ofO F11 s11
      have o11 := o10.frp F11 hso
      refine fold00_spec ?_
      have Fw11 : FrP O w w11 := ((((F6.trans F7).trans F8).trans (FrP.of0 f9)).trans (FrP.of0 f10)).trans F11
      have hcs := d.csrt
      have cl : (cat xs).length ≤ 4 * xs.length := cat_len fun x hx => (d.small x hx).2
      have hcatk : ∀ e ∈ cat xs, ∀ j, j ≤ 3 → e.1 ≠ catK nm j := fun e he j hj hk => by
        obtain ⟨z, hz, hez⟩ := mem_cat.1 he
        obtain ⟨j', hj', ek⟩ := catE_key hez
        have sz := d.small z hz
        rw [ek] at hk
        exact hfn z hz (catK_inj sz.1 hnm.2 (by omega) (by omega) hk).1
      refine loopN (fun m st u => ∃ (k : Nat) (ce : Es) (cu : Nat → Bk) (pu : Nat → List Nat), st = ((0 : Int), (k : Int), ()) ∧ k + m = cs.length ∧ TW dq u t f p D R cu true O ∧ FCp cu (fset (fset T h (some [])) 0 (some ce)) pu ∧ Srt ce ∧ ce.length ≤ (cat xs).length + 1 + k ∧ (∀ e, e ∈ ce ↔ e ∈ cat xs ∨ e ∈ (catK nm 0, headT y.hd) :: colE nm 1 (cs.take k)) ∧ OS u s (colC cs) 2 ∧ FrP O w u) cs.length
        ⟨0, _, cur11, pg11, rfl, by omega, S11, c11, ins_srt hcs, ?_, fun e => ?_, o11, Fw11⟩ ?_
      · rw [ins_len hcs]
        split <;> omega
      · rw [ins_mem_iff hcs]
        show _ ↔ _ ∨ e ∈ [(catK nm 0, headT y.hd)]
        rw [List.mem_singleton]
        constructor
        · rintro (h | h)
          · exact .inr h
          · exact .inl h.1
        · rintro (h | h)
          · exact .inr ⟨h, hcatk e h 0 (by omega)⟩
          · exact .inl h
      rintro m _ u ⟨k, ce, cu, pu, rfl, hm, Su, cu', hsc, hlc, hmem, ou, Fu⟩ Q hQ
      dsimp only
      refine ifd (fun h1 => ?_) fun h1 => ?_
      · have hk : k < cs.length := by omega
        have e1k : W (1 + (k : Int)) = ((1 + k : Nat) : Int) := by rw [W_id (by omega) (by omega)]; omega
        rw [e1k]
        refine catKey_spec (i := 1 + k) hnm.2 (by omega) fun u1 g1 => ?_
        have T1 := Su.fr0 g1
        have p1 : OS u1 s (colC cs) 2 := ou.frp (FrP.of0 (P := fun _ => False) g1) fun _ _ h => h
        have hcm : cs.getD k c0 ∈ cs := List.mem_of_getElem? (getC_some hk)
        have hcs' := hcn _ hcm
        refine colGet p1 hk (colText_spec (c := cs.getD k c0) hcs'.2 fun u2 g2 => ?_)
        have T2 := T1.fr0 g2
        have p2 : OS u2 s (colC cs) 2 := p1.frp (FrP.of0 (P := fun _ => False) g2) fun _ _ h => h
        have hs2 := sumT (fset T h (some [])) (some ce) (i := 0) (by omega)
        rw [hT0, eLen_some, eLen_some] at hs2
        refine T2.ft (finsert_spec (i := 0) T2.2.1 cu' (by omega) (fset_eq _ _ _) (ks (1 + k) (by omega)) (by rw [colT_size]; omega) (fun _ => by omega) fun cur3 pg3 u3 s3 c3 G3 => ?_)
        have T3 := T2.ofO G3 s3
        rw [fset_fset] at c3
        refine fold00_spec (let_ ?_)
        rw [W_succ (by omega)]
        have htk : cs.take (k + 1) = cs.take k ++ [cs.getD k c0] := by rw [List.take_add_one, getC_some hk]; rfl
        have hcol : colE nm 1 (cs.take (k + 1)) = colE nm 1 (cs.take k) ++ [(catK nm (1 + k), colT (cs.getD k c0))] := by
          rw [htk, colE_app, List.length_take, Nat.min_eq_left (by omega)]; rfl
        refine hQ (m - 1) _ _ (by omega) ⟨k + 1, _, cur3, pg3, rfl, by omega, T3, c3, ins_srt hsc, ?_, fun e => ?_, p2.frp G3 hso, ((Fu.trans (FrP.of0 g1)).trans (FrP.of0 g2)).trans G3⟩
        · rw [ins_len hsc]
          split <;> omega
        · rw [ins_mem_iff hsc, hmem, hcol, List.mem_cons, List.mem_cons, List.mem_append, List.mem_singleton]
          constructor
          · rintro (h | ⟨h | h | h, _⟩)
            · exact .inr (.inr (.inr h))
            · exact .inl h
            · exact .inr (.inl h)
            · exact .inr (.inr (.inl h))
          · rintro (h | h | h | h)
            · exact .inr ⟨.inl h, hcatk e h _ (by omega)⟩
            · refine .inr ⟨.inr (.inl h), fun e' => ?_⟩
              rw [h] at e'
              have := (catK_inj hnm.2 hnm.2 (by omega) (by omega) e').2
              omega
            · refine .inr ⟨.inr (.inr h), fun e' => ?_⟩
              obtain ⟨j, j1, j2, j3⟩ := colE_key h
              rw [List.length_take] at j2
              rw [j3] at e'
              have := (catK_inj hnm.2 hnm.2 (by omega) (by omega) e').2
              omega
            · exact .inl h
      · have ek : k = cs.length := by omega
        rw [ek, List.take_of_length_le (Nat.le_refl _)] at hmem
        have := d.add (y := y) (by omega) hfn okt okh rfl rfl hT h8 hsc hmem
        exact hK cu _ pu _ u Su cu' this (tbs_ins y xs) Fu
  · have hfb : fnB nm (tbs xs) = some x.tb := by rw [tbs_fnd, hf]; rfl
    have e : mdCreate nm cs pk (tbs xs) = (11, tbs xs) := by unfold mdCreate; rw [if_neg hgn, if_neg hgc, hfb, if_pos (by rfl)]
    rw [e] at hK
    refine newB fun w3 a3 f3 s3 => newB fun w4 b4 f4 s4 => st5 (a3.fr f4 (by omega)) rfl fun w5 a5 f5 => st4 (s := fullS q x.tb.cols.length) (b4.fr f5 (by omega)) rfl fun w6 b6 f6 => ?_
    have l2 := F2.1.1
    have G : FrP (fun b => b = w2.heap.size ∨ b = w3.heap.size) w4 w6 := (FrP.of f5 fun b h1 h2 => .inl (by omega)).trans (FrP.of f6 fun b h1 h2 => .inr (by omega))
    have S6 : TW dq w6 t f p D R cur true O := ((S2.fr0 f3).fr0 f4).new G st fun b hb => by omega
    have F6 : FrP O w w6 := ((((FrP.of0 f1).trans F2).trans (FrP.of0 f3)).trans (FrP.of0 f4)).trans' G fun b hb => .inr (by omega)
    rw [if_pos (by simp)]
    exact hK cur T pg xs w6 S6 c d rfl F6
end Go.Proofs.Qxb6500564aGreat
