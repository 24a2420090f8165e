/-
  The store: Update.
-/
import Derived.Test.Qxb6500564aGreatTbN
namespace Go.Proofs.Qxb6500564aGreat
open Go.Den Go.Zip
set_option linter.unusedVariables false
set_option linter.unusedSimpArgs false
variable {dq : Nat}
variable {w w' u v : World} {i j n t f p : Nat} {D : List Bk} {R : List Wr} {cur cur' : Nat → Bk} {op : Bool} {O : Nat → Prop} {T : Nat → Option Es} {pg : Nat → List Nat} {xs : List Th} {s r : Sl} {tb : Tb} {k nm : ByteArray} {vs : List Vl}

/-- Update, plain. -/
def dbUpd (nm : ByteArray) (vs : List Vl) (xs : List Th) : Int × List Th := match fnd nm xs with
  | none => (10, xs)
  | some x => if chkRow x.tb.cols vs ≠ 0 then (chkRow x.tb.cols vs, xs) else if (rowBy x.tb (rk x.tb.pk vs)).isNone then (9, xs)
      else (0, setT nm { x.tb with rows := setR x.tb.pk vs x.tb.rows } xs)
theorem setR_mem {pk : Nat} {row : List Vl} {rs : List (List Vl)} {y : List Vl} : y ∈ setR pk row rs ↔ (y = row ∧ ∃ z ∈ rs, rk pk z = rk pk row) ∨ (y ∈ rs ∧ rk pk y ≠ rk pk row) := by
  unfold setR
  rw [List.mem_map]
  constructor
  · rintro ⟨z, hz, rfl⟩
    split
    · rename_i h; exact .inl ⟨rfl, z, hz, h⟩
    · rename_i h; exact .inr ⟨hz, h⟩
  · rintro (⟨rfl, z, hz, h⟩ | ⟨hy, h⟩)
    · exact ⟨z, hz, by rw [if_pos h]⟩
    · exact ⟨y, hy, by rw [if_neg h]⟩
theorem upd_ok (ok : TbOk tb) (ty : RowTy tb.cols vs) (hv : ∀ v ∈ vs, VOk v) : TbOk { tb with rows := setR tb.pk vs tb.rows } := by
  have hs := RSrt_tb ok
  unfold TbOk at ok ⊢
  have hall : ∀ y ∈ setR tb.pk vs tb.rows, RowTy tb.cols y ∧ ∀ v ∈ y, VOk v := fun y hy => by
    rcases setR_mem.1 hy with ⟨rfl, _⟩ | ⟨hy, _⟩
    · exact ⟨ty, hv⟩
    · exact ok.2.2.2.2.2.2.1 y hy
  have hl : (setR tb.pk vs tb.rows).length = tb.rows.length := by unfold setR; rw [List.length_map]
  exact ⟨ok.1, ok.2.1, ok.2.2.1, ok.2.2.2.1, ok.2.2.2.2.1, by show (setR tb.pk vs tb.rows).length ≤ 8; rw [hl]; exact ok.2.2.2.2.2.1, hall, RSrt_vlt ok.2.2.2.1 hall (setR_srt hs)⟩
set_option maxHeartbeats 4000000 in
theorem tupdate_spec {K : Int → World → Prop} (s : TW dq w t f p D R cur true O) (c : FCp cur T pg) (d : DBT T xs) (o : OS w r (rowC vs) 3) (hro : ∀ b, owns r b → ¬ O b) (hm : ∀ v ∈ vs, VMade v) (hvl : vs.length < 1000000)
    (hK : ∀ cur' T' pg' w', TW dq w' t f p D R cur' true O → FCp cur' T' pg' → DBT T' (dbUpd nm vs xs).2 → FrP O w w' → K (dbUpd nm vs xs).1 w') : S.table_Store_Update t nm r w K := by
  unfold S.table_Store_Update
  refine loadTxn_spec s c d (fun hf w1 S1 F1 => ?_) fun x hf w1 q S1 F1 hq b1 => ?_
  · have e : dbUpd nm vs xs = (10, xs) := by unfold dbUpd; rw [hf]
    rw [e] at hK
    refine newB fun w2 a2 f2 s2 => newB fun w3 b3 f3 s3 => st5 (a2.fr f3 (by omega)) rfl fun w4 a4 f4 => st4 (s := ⟨none, 0, 0⟩) (b3.fr f4 (by omega)) rfl fun w5 b5 f5 => ?_
    rw [if_pos (by simp)]
    have l1 := F1.1.1
    have G : FrP (fun b => b = w1.heap.size ∨ b = w2.heap.size) w3 w5 := (FrP.of f4 fun b h1 h2 => .inl (by omega)).trans (FrP.of f5 fun b h1 h2 => .inr (by omega))
    exact hK cur T pg w5 (((S1.fr0 f2).fr0 f3).new G s fun b hb => by omega) c d (((F1.trans (FrP.of0 f2)).trans (FrP.of0 f3)).trans' G fun b hb => .inr (by omega))
  · obtain ⟨hx, hxn⟩ := fnd_mem hf
    have okx := d.ok x hx
    have okt := okx.1
    have okh := okx.2
    unfold TbOk at okt
    unfold HdOk at okh
    have l1 := F1.1.1
    have nq : ¬ O q := fun h => by have := s.2.1.2.1.lt h; omega
    refine newB fun w2 a2 f2 s2 => newB fun w3 b3 f3 s3 => st5 (a2.fr f3 (by omega)) rfl fun w4 a4 f4 => st4 (s := fullS q x.tb.cols.length) (b3.fr f4 (by omega)) rfl fun w5 b5 f5 => ?_
    rw [if_neg (by simp)]
    have G : FrP (fun b => b = w1.heap.size ∨ b = w2.heap.size) w3 w5 := (FrP.of f4 fun b h1 h2 => .inl (by omega)).trans (FrP.of f5 fun b h1 h2 => .inr (by omega))
    have F5 : FrP O w w5 := ((F1.trans (FrP.of0 f2)).trans (FrP.of0 f3)).trans' G fun b hb => .inr (by omega)
    have n1 : ¬ O w1.heap.size := fun h => by have := s.2.1.2.1.lt h; omega
    have n2 : ¬ O w2.heap.size := fun h => by have := s.2.1.2.1.lt h; omega
    have o5 : OS w5 r (rowC vs) 3 := by
      have o1 : OS w3 r (rowC vs) 3 := ((o.frp F1 hro).frp (FrP.of0 (P := fun _ => False) f2) fun _ _ h => h).frp (FrP.of0 (P := fun _ => False) f3) fun _ _ h => h
      exact o1.frp G fun b hb h => by have := o.lt hb; omega
    have qlt := b1.lt
    have B5 : IB dq w w5 t f p D R cur O w1.heap.size w2.heap.size x nm q r vs := ⟨((S1.fr0 f2).fr0 f3).new G s fun b hb => by omega, F5, a4.fr f5 (by omega), b5, ((b1.fr f2 (by omega)).fr f3 (by omega)).frp G fun h => by omega, o5⟩
    refine rd4 B5.sc (checkRow_spec (fullOS B5.cl) B5.ro hvl fun w6 f6 => ?_)
    have B6 := B5.nw f6
    by_cases hck : chkRow x.tb.cols vs = 0
    · rw [if_neg (by simp [hck])]
      obtain ⟨hlen, hty, hsz⟩ := chk0 hck
      have hv := made_ok hm hsz
      have hpk : x.tb.pk < vs.length := by rw [hlen]; exact okt.2.2.2.1
      refine ldI B6.hd rfl (rowGet B6.ro (getD_some hpk) (codeVal_spec (getD_ok hv x.tb.pk) fun w7 f7 => ?_))
      have B7 := B6.nw f7
      refine rd5 B7.hd (rd4 B7.sc (fetch_spec B7.tw c d hx (fullOS B7.cl) (fun b hb => by rw [full_owns hb]; exact nq) (fun hr w8 S8 F8 => ?_) fun r' hr w8 q8 S8 F8 hq8 rb => ?_))
      · rw [if_pos (by simp)]
        have e : dbUpd nm vs xs = (9, xs) := by
          unfold dbUpd
          rw [hf]
          dsimp only
          have hr' : rowBy x.tb (rk x.tb.pk vs) = none := hr
          rw [if_neg (by simp [hck]), hr', if_pos (by rfl)]
        rw [e] at hK
        exact hK cur T pg w8 S8 c d (B7.F.trans F8)
      · rw [if_neg (by simp)]
        have hr : rowBy x.tb (rk x.tb.pk vs) = some r' := hr
        have e : dbUpd nm vs xs = (0, setT nm { x.tb with rows := setR x.tb.pk vs x.tb.rows } xs) := by
          unfold dbUpd
          rw [hf]
          dsimp only
          rw [if_neg (by simp [hck]), hr, if_neg (by simp)]
        rw [e] at hK
        have B8 := B7.o F8 S8 n1 n2 nq hro
        obtain ⟨hrm, hrk⟩ := rowBy_mem hr
        have hrk : rk x.tb.pk r' = rk x.tb.pk vs := hrk
        have ra := okt.2.2.2.2.2.2.1 r' hrm
        have hpk' : x.tb.pk < r'.length := by rw [ra.1.1]; exact okt.2.2.2.1
        have l7 := B7.F.1.1
        have n8 : ¬ O q8 := fun h => by have := s.2.1.2.1.lt h; omega
        have htot := d.total
        have hxl := d.len
        refine ldI B8.hd rfl (restOf_spec (pk := x.tb.pk) B8.ro hv (by rw [hlen]; exact okt.2.1.2) fun w10 f10 => ?_)
        have B10 := (B8.nw f10).d
        have rb10 := (rb.fr f10 (by omega)).drew
        have hrs : (restP vs x.tb.pk).size ≤ 16 := by
          rw [← bt_len, restP_bt, restL_len hv, if_pos hpk]
          have := okt.2.1.2
          omega
        refine drew_ (B10.tw.ft (ldI B10.hd rfl (finsert_spec (i := x.hr) B10.tw.2.1 c okh.2.2.2.2.2.2.2.1 (d.rws x hx) (by have := rk_size (pk := x.tb.pk) hv; show (rk x.tb.pk vs).size ≤ 16; omega) hrs (fun _ => by omega) fun cur1 pg1 w11 s11 c11 F11 => ?_)))
        have B11 := B10.o F11 (B10.tw.ofO F11 s11) n1 n2 nq hro
        have rb11 := rb10.frp F11 n8
        refine fold00_spec (ldI B11.hd rfl ?_)
        have eR : ins (rk x.tb.pk vs) (restP vs x.tb.pk) (rowsE x.tb) = rowsE { x.tb with rows := setR x.tb.pk vs x.tb.rows } := (ent_set (RSrt_tb okx.1) ⟨r', hrm, hrk⟩).symm
        have c11 : FCp cur1 (fset T x.hr (some (rowsE { x.tb with rows := setR x.tb.pk vs x.tb.rows }))) pg1 := by rw [← eR]; exact c11
        have okn := upd_ok okx.1 hty hv
        rcases okh.2.2.2.2.2.2.2.2 with ⟨hi1, hi2⟩ | ⟨hi1, hi2, hi3, hi4⟩
        · have hi2 : x.hi = -1 := hi2
          rw [if_neg (by show ¬ decide (x.hi ≥ 0) = true; rw [hi2]; simp)]
          refine hK cur1 _ pg1 w11 B11.tw c11 ?_ B11.F
          rw [← hxn]
          exact d.turn hx rfl rfl rfl rfl okn (by rw [fset_eq]) (fun h => by omega) fun j h1 h2 => by rw [fset_ne h1]
        · have hi2 : 0 < x.hi := hi2
          have hi3 : x.hi < 8 := hi3
          have hi4 : x.hi ≠ x.hr := hi4
          rw [if_pos (by show decide (x.hi ≥ 0) = true; simp; omega)]
          obtain ⟨es, hes, hidx⟩ := d.idx x hx (by omega)
          have hixc : x.tb.ix.toNat < vs.length ∧ x.tb.ix.toNat < r'.length := by
            have h1 : 0 ≤ x.tb.ix := hi1
            have h2 := okt.2.2.2.2.1.2.1
            rw [ra.1.1]
            omega
          have eix : x.hd.ix = ((x.tb.ix.toNat : Nat) : Int) := by
            have h1 : 0 ≤ x.tb.ix := hi1
            show x.tb.ix = _
            omega
          have eidx : x.hd.idx = ((x.hi.toNat : Nat) : Int) := by show x.hi = _; omega
          have memb : ∀ e, (∃ y ∈ setR x.tb.pk vs x.tb.rows, e = (idxP y x.tb.ix.toNat x.tb.pk, (⟨#[]⟩ : ByteArray))) ↔ e = (idxP vs x.tb.ix.toNat x.tb.pk, (⟨#[]⟩ : ByteArray)) ∨ (e ∈ es ∧ e.1 ≠ idxP r' x.tb.ix.toNat x.tb.pk) := fun e => by
            constructor
            · rintro ⟨y, hy, rfl⟩
              rcases setR_mem.1 hy with ⟨rfl, _⟩ | ⟨hy1, hy2⟩
              · exact .inl rfl
              · exact .inr ⟨(hidx.2 _).2 ⟨y, hy1, rfl⟩, fun e => hy2 ((idx_key (okt.2.2.2.2.2.2.1 y hy1).2 ra.2 e).trans hrk)⟩
            · rintro (rfl | ⟨h, hne⟩)
              · exact ⟨vs, setR_mem.2 (.inl ⟨rfl, r', hrm, hrk⟩), rfl⟩
              · obtain ⟨y, hy, rfl⟩ := (hidx.2 e).1 h
                refine ⟨y, setR_mem.2 (.inr ⟨hy, fun e => hne ?_⟩), rfl⟩
                have : y = r' := rk_inj (RSrt_tb okx.1) hy hrm (e.trans hrk.symm)
                rw [this]
          refine ldI B11.hd rfl (ldI B11.hd rfl ?_)
          rw [eix]
          refine idxKey_spec (col := x.tb.ix.toNat) (pk := x.tb.pk) (fullOSr rb11) ra.2 hixc.2 hpk' fun w12 f12 => ?_
          have B12 := B11.nw f12
          refine ldI B12.hd rfl (ldI B12.hd rfl ?_)
          rw [eix]
          refine idxKey_spec (col := x.tb.ix.toNat) (pk := x.tb.pk) B12.ro hv hixc.1 hpk fun w13 f13 => ?_
          have B13 := B12.nw f13
          have hT1 : fset T x.hr (some (rowsE { x.tb with rows := setR x.tb.pk vs x.tb.rows })) x.hi.toNat = some es := by rw [fset_ne (by omega)]; exact hes
          rw [strEq]
          refine ifn (fun hne => ?_) fun heq => ?_
          · have hne : idxP r' x.tb.ix.toNat x.tb.pk ≠ idxP vs x.tb.ix.toNat x.tb.pk := fun e => by rw [e] at hne; simp at hne
            have B13 := B13.d
            refine drew_ (B13.tw.ft (ldI B13.hd rfl ?_))
            rw [eidx]
            have hin : gt (idxP r' x.tb.ix.toNat x.tb.pk) es ≠ none := gt_mem ((hidx.2 _).2 ⟨r', hrm, rfl⟩)
            refine fdelete_spec (i := x.hi.toNat) B13.tw.2.1 c11 (by omega) hT1 hin fun cur2 pg2 w14 s14 c14 F14 => ?_
            have B14 := (B13.o F14 (B13.tw.ofO F14 s14) n1 n2 nq hro).d
            refine fold00_spec (drew_ (B14.tw.ft (ldI B14.hd rfl ?_)))
            rw [eidx]
            have hk16 : (idxP vs x.tb.ix.toNat x.tb.pk).size ≤ 16 := by
              unfold idxP
              rw [ByteArray.size_append, codeV_size (getD_ok hv _), codeV_size (getD_ok hv _)]
              omega
            have hs1 := sumT T (some (rowsE { x.tb with rows := setR x.tb.pk vs x.tb.rows })) (i := x.hr) okh.2.2.2.2.2.2.2.1
            rw [d.rws x hx, eLen_some, eLen_some] at hs1
            have hl1 : (rowsE { x.tb with rows := setR x.tb.pk vs x.tb.rows }).length = (rowsE x.tb).length := by
              show ((setR x.tb.pk vs x.tb.rows).map _).length = (x.tb.rows.map _).length
              unfold setR
              rw [List.length_map, List.length_map, List.length_map]
            have hs2 := sumT (fset T x.hr (some (rowsE { x.tb with rows := setR x.tb.pk vs x.tb.rows }))) (some (cut (idxP r' x.tb.ix.toNat x.tb.pk) es)) (i := x.hi.toNat) (by omega)
            rw [hT1, eLen_some, eLen_some] at hs2
            have hl2 : (cut (idxP r' x.tb.ix.toNat x.tb.pk) es).length ≤ es.length := List.length_filter_le ..
            refine finsert_spec (i := x.hi.toNat) (v := ⟨#[]⟩) B14.tw.2.1 c14 (by omega) (fset_eq _ _ _) hk16 (by show 0 ≤ 16; omega) (fun _ => by omega) fun cur3 pg3 w15 s15 c15 F15 => ?_
            have B15 := B14.o F15 (B14.tw.ofO F15 s15) n1 n2 nq hro
            refine fold00_spec (hK cur3 _ pg3 w15 B15.tw c15 ?_ B15.F)
            rw [← hxn]
            refine d.turn hx rfl rfl rfl rfl okn (by rw [fset_ne (by omega), fset_ne (by omega), fset_eq]) (fun _ => ⟨_, fset_eq _ _ _, ins_srt (cut_srt hidx.1), fun e => ?_⟩) fun j h1 h2 => by rw [fset_ne (by omega), fset_ne (by omega), fset_ne h1]
            rw [ins_mem_iff (cut_srt hidx.1), cut_mem_iff]
            refine Iff.trans ?_ (memb e).symm
            constructor
            · rintro (h | ⟨h, _⟩)
              · exact .inl h
              · exact .inr h
            · rintro (h | h)
              · exact .inl h
              · refine .inr ⟨h, fun e1 => h.2 ?_⟩
                obtain ⟨y, hy, rfl⟩ := (hidx.2 e).1 h.1
                have : y = r' := rk_inj (RSrt_tb okx.1) hy hrm ((idx_key (okt.2.2.2.2.2.2.1 y hy).2 hv e1).trans hrk.symm)
                rw [this]
          · have heq : idxP r' x.tb.ix.toNat x.tb.pk = idxP vs x.tb.ix.toNat x.tb.pk := bt_inj (by simpa using heq)
            refine hK cur1 _ pg1 w13 B13.tw c11 ?_ B13.F
            rw [← hxn]
            refine d.turn hx rfl rfl rfl rfl okn (by rw [fset_eq]) (fun _ => ⟨es, hT1, hidx.1, fun e => ?_⟩) fun j h1 h2 => by rw [fset_ne h1]
            refine Iff.trans ?_ (memb e).symm
            rw [heq]
            constructor
            · intro h
              by_cases e1 : e.1 = idxP vs x.tb.ix.toNat x.tb.pk
              · obtain ⟨y, hy, rfl⟩ := (hidx.2 e).1 h
                have e1 : idxP y x.tb.ix.toNat x.tb.pk = idxP vs x.tb.ix.toNat x.tb.pk := e1
                exact .inl (by rw [e1])
              · exact .inr ⟨h, e1⟩
            · rintro (rfl | h)
              · exact (hidx.2 _).2 ⟨r', hrm, by rw [heq]⟩
              · exact h.1
    · rw [if_pos (by simp only [bne_iff_ne, ne_eq]; exact hck)]
      have e : dbUpd nm vs xs = (chkRow x.tb.cols vs, xs) := by
        unfold dbUpd
        rw [hf]
        dsimp only
        rw [if_pos hck]
      rw [e] at hK
      exact hK cur T pg w6 B6.tw c d B6.F
end Go.Proofs.Qxb6500564aGreat
