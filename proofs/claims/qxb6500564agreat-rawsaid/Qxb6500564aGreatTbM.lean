/-
  The store: Insert.
-/
import Derived.Test.Qxb6500564aGreatTbL
namespace Go.Proofs.Qxb6500564aGreat
open Go.Den Go.Zip
set_option linter.unusedVariables false
set_option linter.unusedSimpArgs false
variable {dq : Nat}
variable {w w' u v : World} {i j n t f p : Nat} {D : List Bk} {R : List Wr} {cur cur' : Nat → Bk} {op : Bool} {O : Nat → Prop} {T : Nat → Option Es} {pg : Nat → List Nat} {xs : List Th} {s r : Sl} {tb : Tb} {k nm : ByteArray} {vs : List Vl}

/-- A changing call's own blocks: the head, the schema, the row and the columns. -/
structure IB (dq : Nat) (w u : World) (t f p : Nat) (D : List Bk) (R : List Wr) (cur : Nat → Bk) (O : Nat → Prop) (p1 p2 : Nat) (x : Th) (nm : ByteArray) (q : Nat) (r : Sl) (vs : List Vl) : Prop where
  tw : TW dq u t f p D R cur true O
  F : FrP O w u
  hd : Blk u p1 x.hd.cells
  sc : Blk u p2 (schC nm (fullS q x.tb.cols.length) x.tb.pk x.tb.ix)
  cl : Blk u q (colC x.tb.cols)
  ro : OS u r (rowC vs) 3
theorem IB.o {p1 p2 q : Nat} {x : Th} (b : IB dq w u t f p D R cur O p1 p2 x nm q r vs) (F : FrP O u v) (s : TW dq v t f p D R cur' true O) (n1 : ¬ O p1) (n2 : ¬ O p2) (n3 : ¬ O q) (n4 : ∀ b, owns r b → ¬ O b) : IB dq w v t f p D R cur' O p1 p2 x nm q r vs :=
  ⟨s, b.F.trans F, b.hd.frp F n1, b.sc.frp F n2, b.cl.frp F n3, b.ro.frp F n4⟩
theorem IB.nw {p1 p2 q : Nat} {x : Th} (b : IB dq w u t f p D R cur O p1 p2 x nm q r vs) (F : Fr 0 0 u v) : IB dq w v t f p D R cur O p1 p2 x nm q r vs :=
  ⟨b.tw.fr0 F, b.F.trans (FrP.of0 F), b.hd.fr F (by omega), b.sc.fr F (by omega), b.cl.fr F (by omega), b.ro.frp (FrP.of0 (P := fun _ => False) F) fun _ _ h => h⟩
theorem IB.d {p1 p2 q : Nat} {x : Th} (b : IB dq w u t f p D R cur O p1 p2 x nm q r vs) : IB dq w u.drew t f p D R cur O p1 p2 x nm q r vs :=
  ⟨⟨b.tw.1.drew, ⟨b.tw.2.1.1.drew, b.tw.2.1.2.1.frp (FrP.refl (fun _ => False) u).drew (fun _ _ h => h), b.tw.2.1.2.2⟩, b.tw.2.2⟩, b.F.drew, b.hd.drew, b.sc.drew, b.cl.drew, OS.frp (w := u) b.ro (FrP.refl (fun _ => False) u).drew fun _ _ h => h⟩
theorem fullOS {q : Nat} {cs : List Cl} (b : Blk u q (colC cs)) : OS u (fullS q cs.length) (colC cs) 2 := .inr ⟨q, rfl, colC_len cs, Nat.le_refl _, [], by rw [List.append_nil]; exact b, by rw [List.append_nil]; exact colC_len cs⟩
theorem full_owns {q l b : Nat} (h : owns (fullS q l) b) : b = q := by
  unfold owns at h
  simpa using h.symm
theorem rk_size {pk : Nat} (hv : ∀ v ∈ vs, VOk v) : (rk pk vs).size = 8 := codeV_size (getD_ok hv pk)
theorem fold00_spec {K : Int → World → Prop} (hK : K 0 w) : S.table_fold 0 0 w K := by
  unfold S.table_fold
  rw [if_neg (by simp), if_neg (by simp)]
  exact hK
theorem gt_ne_rows (h : rowBy tb k = none) : gt k (rowsE tb) = none := by rw [gt_rows, h]; rfl
set_option maxHeartbeats 4000000 in
theorem tinsert_spec {K : Int → World → Prop} (s : TW dq w t f p D R cur true O) (c : FCp cur T pg) (d : DBT T xs) (o : OS w r (rowC vs) 3) (hro : ∀ b, owns r b → ¬ O b) (hm : ∀ v ∈ vs, VMade v) (hvl : vs.length < 1000000)
    (hK : ∀ cur' T' pg' w', TW dq w' t f p D R cur' true O → FCp cur' T' pg' → DBT T' (dbIns nm vs xs).2 → FrP O w w' → K (dbIns nm vs xs).1 w') : S.table_Store_Insert t nm r w K := by
  unfold S.table_Store_Insert
  refine loadTxn_spec s c d (fun hf w1 S1 F1 => ?_) fun x hf w1 q S1 F1 hq b1 => ?_
  · have e : dbIns nm vs xs = (10, xs) := by unfold dbIns; rw [hf]
    rw [e] at hK
    refine newB fun w2 a2 f2 s2 => newB fun w3 b3 f3 s3 => st5 (a2.fr f3 (by omega)) rfl fun w4 a4 f4 => st4 (s := ⟨none, 0, 0⟩) (b3.fr f4 (by omega)) rfl fun w5 b5 f5 => ?_
    rw [if_pos (by simp)]
    have l1 := F1.1.1
    have G : FrP (fun b => b = w1.heap.size ∨ b = w2.heap.size) w3 w5 := (FrP.of f4 fun b h1 h2 => .inl (by omega)).trans (FrP.of f5 fun b h1 h2 => .inr (by omega))
    exact hK cur T pg w5 (((S1.fr0 f2).fr0 f3).new G s fun b hb => by omega) c d (((F1.trans (FrP.of0 f2)).trans (FrP.of0 f3)).trans' G fun b hb => .inr (by omega))
  · obtain ⟨hx, hxn⟩ := fnd_mem hf
    have okx := d.ok x hx
    have okt := okx.1
    have okh := okx.2
    unfold TbOk at okt
    unfold HdOk at okh
    have l1 := F1.1.1
    have nq : ¬ O q := fun h => by have := s.2.1.2.1.lt h; omega
    refine newB fun w2 a2 f2 s2 => newB fun w3 b3 f3 s3 => st5 (a2.fr f3 (by omega)) rfl fun w4 a4 f4 => st4 (s := fullS q x.tb.cols.length) (b3.fr f4 (by omega)) rfl fun w5 b5 f5 => ?_
    rw [if_neg (by simp)]
    have G : FrP (fun b => b = w1.heap.size ∨ b = w2.heap.size) w3 w5 := (FrP.of f4 fun b h1 h2 => .inl (by omega)).trans (FrP.of f5 fun b h1 h2 => .inr (by omega))
    have F5 : FrP O w w5 := ((F1.trans (FrP.of0 f2)).trans (FrP.of0 f3)).trans' G fun b hb => .inr (by omega)
    have n1 : ¬ O w1.heap.size := fun h => by have := s.2.1.2.1.lt h; omega
    have n2 : ¬ O w2.heap.size := fun h => by have := s.2.1.2.1.lt h; omega
    have o5 : OS w5 r (rowC vs) 3 := by
      have o1 : OS w3 r (rowC vs) 3 := ((o.frp F1 hro).frp (FrP.of0 (P := fun _ => False) f2) fun _ _ h => h).frp (FrP.of0 (P := fun _ => False) f3) fun _ _ h => h
      exact o1.frp G fun b hb h => by have := o.lt hb; omega
    have qlt := b1.lt
    have B5 : IB dq w w5 t f p D R cur O w1.heap.size w2.heap.size x nm q r vs := ⟨((S1.fr0 f2).fr0 f3).new G s fun b hb => by omega, F5, a4.fr f5 (by omega), b5, ((b1.fr f2 (by omega)).fr f3 (by omega)).frp G fun h => by omega, o5⟩
    refine rd4 B5.sc (checkRow_spec (fullOS B5.cl) B5.ro hvl fun w6 f6 => ?_)
    have B6 := B5.nw f6
    by_cases hck : chkRow x.tb.cols vs = 0
    · rw [if_neg (by simp [hck])]
      obtain ⟨hlen, hty, hsz⟩ := chk0 hck
      have hv := made_ok hm hsz
      have hpk : x.tb.pk < vs.length := by rw [hlen]; exact okt.2.2.2.1
      refine ldI B6.hd rfl (rowGet B6.ro (getD_some hpk) (codeVal_spec (getD_ok hv x.tb.pk) fun w7 f7 => ?_))
      have B7 := B6.nw f7
      refine rd5 B7.hd (rd4 B7.sc (fetch_spec B7.tw c d hx (fullOS B7.cl) (fun b hb => by rw [full_owns hb]; exact nq) (fun hr w8 S8 F8 => ?_) fun r' hr w8 q8 S8 F8 _ _ => ?_))
      · have B8 := B7.o F8 S8 n1 n2 nq hro
        rw [if_neg (by simp), if_neg (by simp)]
        refine ldI B8.hd rfl (all_spec (i := x.hr) B8.tw c okh.2.2.2.2.2.2.2.1 (d.rws x hx) fun w9 ra S9 F9 oa _ => ?_)
        have B9 := B8.o F9 S9 n1 n2 nq hro
        have hal : ra.l = x.tb.rows.length := by
          rw [kv_l oa]
          show (x.tb.rows.map _).length = _
          rw [List.length_map]
        by_cases hfull : x.tb.rows.length ≥ 8
        · rw [if_pos (by simp; omega)]
          have e : dbIns nm vs xs = (6, xs) := by
            unfold dbIns
            rw [hf]
            dsimp only
            have hr' : rowBy x.tb (rk x.tb.pk vs) = none := hr
            rw [if_neg (by simp [hck]), hr', if_neg (by simp), if_pos hfull]
          rw [e] at hK
          exact hK cur T pg w9 B9.tw c d B9.F
        · rw [if_neg (by simp; omega)]
          have e : dbIns nm vs xs = (0, setT nm { x.tb with rows := insR x.tb.pk vs x.tb.rows } xs) := by
            unfold dbIns
            rw [hf]
            dsimp only
            have hr' : rowBy x.tb (rk x.tb.pk vs) = none := hr
            rw [if_neg (by simp [hck]), hr', if_neg (by simp), if_neg hfull]
          rw [e] at hK
          have htot := d.total
          have hxl := d.len
          have hne : ∀ y ∈ x.tb.rows, rk x.tb.pk y ≠ rk x.tb.pk vs := fun y hy e => by
            have := List.find?_eq_none.1 hr y hy
            exact this (decide_eq_true e)
          refine ldI B9.hd rfl (restOf_spec (pk := x.tb.pk) B9.ro hv (by rw [hlen]; exact okt.2.1.2) fun w10 f10 => ?_)
          have B10 := (B9.nw f10).d
          have hrs : (restP vs x.tb.pk).size ≤ 16 := by
            rw [← bt_len, restP_bt, restL_len hv, if_pos hpk]
            have := okt.2.1.2
            omega
          refine drew_ (B10.tw.ft (ldI B10.hd rfl (finsert_spec (i := x.hr) B10.tw.2.1 c okh.2.2.2.2.2.2.2.1 (d.rws x hx) (by have := rk_size (pk := x.tb.pk) hv; show (rk x.tb.pk vs).size ≤ 16; omega) hrs (fun _ => by omega) fun cur1 pg1 w11 s11 c11 F11 => ?_)))
          have B11 := B10.o F11 (B10.tw.ofO F11 s11) n1 n2 nq hro
          refine fold00_spec (ldI B11.hd rfl ?_)
          have eR : ins (rk x.tb.pk vs) (restP vs x.tb.pk) (rowsE x.tb) = rowsE { x.tb with rows := insR x.tb.pk vs x.tb.rows } := (ent_ins hne).symm
          have c11 : FCp cur1 (fset T x.hr (some (rowsE { x.tb with rows := insR x.tb.pk vs x.tb.rows }))) pg1 := by rw [← eR]; exact c11
          have okn := ins_ok okx.1 hty hv (by omega) hr
          rcases okh.2.2.2.2.2.2.2.2 with ⟨hi1, hi2⟩ | ⟨hi1, hi2, hi3, hi4⟩
          · have hi2 : x.hi = -1 := hi2
            rw [if_neg (by show ¬ decide (x.hi ≥ 0) = true; rw [hi2]; simp)]
            refine hK cur1 _ pg1 w11 B11.tw c11 ?_ B11.F
            rw [← hxn]
            exact d.turn hx rfl rfl rfl rfl okn (by rw [fset_eq]) (fun h => by omega) fun j h1 h2 => by rw [fset_ne h1]
          · have hi2 : 0 < x.hi := hi2
            have hi3 : x.hi < 8 := hi3
            have hi4 : x.hi ≠ x.hr := hi4
            rw [if_pos (by show decide (x.hi ≥ 0) = true; simp; omega)]
            obtain ⟨es, hes, hidx⟩ := d.idx x hx (by omega)
            have hixc : x.tb.ix.toNat < vs.length := by
              have h1 : 0 ≤ x.tb.ix := hi1
              have h2 := okt.2.2.2.2.1.2.1
              omega
            have eix : x.hd.ix = ((x.tb.ix.toNat : Nat) : Int) := by
              have h1 : 0 ≤ x.tb.ix := hi1
              show x.tb.ix = _
              omega
            have eidx : x.hd.idx = ((x.hi.toNat : Nat) : Int) := by show x.hi = _; omega
            refine ldI B11.hd rfl (ldI B11.hd rfl ?_)
            rw [eix]
            refine idxKey_spec (col := x.tb.ix.toNat) (pk := x.tb.pk) B11.ro hv hixc hpk fun w12 f12 => ?_
            have B12 := (B11.nw f12).d
            refine drew_ (B12.tw.ft (ldI B12.hd rfl ?_))
            rw [eidx]
            have hT1 : fset T x.hr (some (rowsE { x.tb with rows := insR x.tb.pk vs x.tb.rows })) x.hi.toNat = some es := by rw [fset_ne (by omega)]; exact hes
            have hk16 : (idxP vs x.tb.ix.toNat x.tb.pk).size ≤ 16 := by
              unfold idxP
              rw [ByteArray.size_append, codeV_size (getD_ok hv _), codeV_size (getD_ok hv _)]
              omega
            have hs1 := sumT T (some (rowsE { x.tb with rows := insR x.tb.pk vs x.tb.rows })) (i := x.hr) okh.2.2.2.2.2.2.2.1
            rw [d.rws x hx, eLen_some, eLen_some] at hs1
            have hl1 : (rowsE { x.tb with rows := insR x.tb.pk vs x.tb.rows }).length = (rowsE x.tb).length + 1 := by
              show ((insR x.tb.pk vs x.tb.rows).map _).length = (x.tb.rows.map _).length + 1
              rw [List.length_map, List.length_map, insR_len]
            refine finsert_spec (i := x.hi.toNat) (v := ⟨#[]⟩) B12.tw.2.1 c11 (by omega) hT1 hk16 (by show 0 ≤ 16; omega) (fun _ => by omega) fun cur2 pg2 w13 s13 c13 F13 => ?_
            have B13 := B12.o F13 (B12.tw.ofO F13 s13) n1 n2 nq hro
            refine fold00_spec (hK cur2 _ pg2 w13 B13.tw c13 ?_ B13.F)
            rw [← hxn]
            refine d.turn hx rfl rfl rfl rfl okn (by rw [fset_ne (by omega), fset_eq]) (fun _ => ⟨_, fset_eq _ _ _, ins_srt hidx.1, fun e => ?_⟩) fun j h1 h2 => by rw [fset_ne (by omega), fset_ne h1]
            rw [ins_mem_iff hidx.1]
            show _ ↔ ∃ r ∈ insR x.tb.pk vs x.tb.rows, e = (idxP r x.tb.ix.toNat x.tb.pk, ⟨#[]⟩)
            constructor
            · rintro (h | ⟨h, _⟩)
              · exact ⟨vs, insR_mem.2 (.inl rfl), h⟩
              · obtain ⟨r1, hr1, he⟩ := (hidx.2 e).1 h
                exact ⟨r1, insR_mem.2 (.inr hr1), he⟩
            · rintro ⟨r1, hr1, rfl⟩
              rcases insR_mem.1 hr1 with rfl | hr1
              · exact .inl rfl
              · refine .inr ⟨(hidx.2 _).2 ⟨r1, hr1, rfl⟩, fun e => hne r1 hr1 ?_⟩
                have ra := okt.2.2.2.2.2.2.1 r1 hr1
                have e' := congrArg bt e
                unfold idxP at e'
                rw [bt_append, bt_append] at e'
                have hl : (bt (codeV (r1.getD x.tb.ix.toNat v0))).length = (bt (codeV (vs.getD x.tb.ix.toNat v0))).length := by rw [bt_len, bt_len, codeV_size (getD_ok ra.2 _), codeV_size (getD_ok hv _)]
                exact bt_inj (List.append_inj e' hl).2
      · rw [if_pos (by simp)]
        have e : dbIns nm vs xs = (17, xs) := by
          unfold dbIns
          rw [hf]
          dsimp only
          have hr' : rowBy x.tb (rk x.tb.pk vs) = some r' := hr
          rw [if_neg (by simp [hck]), hr', if_pos (by rfl)]
        rw [e] at hK
        exact hK cur T pg w8 S8 c d (B7.F.trans F8)
    · rw [if_pos (by simp only [bne_iff_ne, ne_eq]; exact hck)]
      have e : dbIns nm vs xs = (chkRow x.tb.cols vs, xs) := by
        unfold dbIns
        rw [hf]
        dsimp only
        rw [if_pos hck]
      rw [e] at hK
      exact hK cur T pg w6 B6.tw c d B6.F
end Go.Proofs.Qxb6500564aGreat
