/-
  The store: loadTxn, Insert.
-/
import Derived.Test.Qxb6500564aGreatTbK
namespace Go.Proofs.Qxb6500564aGreat
open Go.Den Go.Zip
set_option linter.unusedVariables false
set_option linter.unusedSimpArgs false
variable {dq : Nat}
variable {w w' : World} {i j n t f p : Nat} {D : List Bk} {R : List Wr} {cur cur' : Nat → Bk} {op : Bool} {O : Nat → Prop} {T : Nat → Option Es} {pg : Nat → List Nat} {xs : List Th} {s r : Sl} {tb : Tb} {k nm : ByteArray} {vs : List Vl}

theorem all_spec {es : Es} {K : Sl → World → Prop} (s : TW dq w t f p D R cur op O) (c : FCp cur T pg) (hi : i < 8) (hT : T i = some es)
    (hK : ∀ w' r, TW dq w' t f p D R cur op O → FrP O w w' → OS w' r (kvC es) 2 → (∀ b, owns r b → w.heap.size ≤ b) → K r w') : S.table_Store_all t (i : Int) w K := by
  unfold S.table_Store_all
  refine span_spec s c hi hT fun w1 r1 s1 F1 o1 h1 => hK w1 r1 s1 F1 ?_ h1
  have e : spanP es ⟨#[]⟩ false ⟨#[]⟩ = es := by
    unfold spanP
    have e1 : es.dropWhile (fun e => sl e.1 ⟨#[]⟩) = es := by
      cases es with
      | nil => rfl
      | cons y l =>
        rw [List.dropWhile_cons_of_neg]
        rw [sl_bt]
        show ¬ lexN (bt y.1) [] = true
        cases bt y.1 <;> simp [lexN]
    rw [e1]
    have := span_done (q := fun _ => true) (a := es) (b := []) (fun e he => rfl) (fun e he => by cases he)
    rw [List.append_nil] at this
    exact this
  rw [e] at o1
  exact o1
set_option maxHeartbeats 2000000 in
theorem loadTxn_spec {K : Int → Int → Int → Int → Int → ByteArray → Sl → Int → Int → Int → World → Prop} (s : TW dq w t f p D R cur true O) (c : FCp cur T pg) (d : DBT T xs)
    (h1 : fnd nm xs = none → ∀ w', TW dq w' t f p D R cur true O → FrP O w w' → K 0 0 0 0 0 ⟨#[]⟩ ⟨none, 0, 0⟩ 0 (-1) 10 w')
    (h2 : ∀ x, fnd nm xs = some x → ∀ w' q, TW dq w' t f p D R cur true O → FrP O w w' → w.heap.size ≤ q → Blk w' q (colC x.tb.cols) → K x.hd.nc x.hd.pk x.hd.ix x.hd.rows x.hd.idx nm (fullS q x.tb.cols.length) x.tb.pk x.tb.ix 0 w') : S.table_Store_loadTxn t nm w K := by
  unfold S.table_Store_loadTxn
  refine newB fun w1 a1 f1 s1 => newB fun w2 b2 f2 s2 => ?_
  have a1 : Blk w1 w.heap.size [.int .i64 0, .int .i64 0, .int .i64 0, .int .i64 0, .int .i64 0] := a1
  have b2 : Blk w2 w1.heap.size (schC ⟨#[]⟩ ⟨none, 0, 0⟩ 0 0) := b2
  have a2 := a1.fr f2 (by omega)
  have S2 := (s.fr0 f1).fr0 f2
  have F2 : Fr 0 0 w w2 := f1.then0 f2
  have nw : ∀ b, (b = w.heap.size ∨ b = w1.heap.size) → ¬ O b := fun b hb h => by have := s.2.1.2.1.lt h; omega
  refine S2.ft (fintxn_spec S2.2.1 ?_)
  rw [if_neg (by simp)]
  refine load_store S2 c d (fun hf w3 S3 F3 => ?_) fun x hf w3 q S3 F3 hq b3 => ?_
  · refine out9 (s := ⟨none, 0, 0⟩) (a2.frp F3 (nw _ (.inl rfl))) rfl (b2.frp F3 (nw _ (.inr rfl))) rfl (by omega) fun w4 F4 => ?_
    exact h1 hf w4 (S3.new F4 s fun b hb => by omega) (((FrP.of0 F2).trans F3).trans' F4 fun b hb => .inr (by omega))
  · refine out9 (s := fullS q x.tb.cols.length) (a2.frp F3 (nw _ (.inl rfl))) rfl (b2.frp F3 (nw _ (.inr rfl))) rfl (by omega) fun w4 F4 => ?_
    exact h2 x hf w4 q (S3.new F4 s fun b hb => by omega) (((FrP.of0 F2).trans F3).trans' F4 fun b hb => .inr (by omega)) (by omega) (b3.frp F4 fun h => by omega)
/-- A value as Int or Str make it. -/
def VMade (v : Vl) : Prop := (v.st = true → v.i = 0) ∧ (v.st = false → v.s = ⟨#[]⟩ ∧ I64 v.i)
theorem made_ok (hm : ∀ v ∈ vs, VMade v) (hs : ∀ i, i < vs.length → (vs.getD i v0).s.size ≤ 7) : ∀ v ∈ vs, VOk v := fun v hv => by
  obtain ⟨i, hi, he⟩ := List.mem_iff_getElem.1 hv
  have h1 := hs i hi
  have e : vs.getD i v0 = v := by rw [List.getD_eq_getElem?_getD, List.getElem?_eq_getElem hi, he]; rfl
  rw [e] at h1
  exact ⟨fun h => ⟨(hm v hv).1 h, h1⟩, (hm v hv).2⟩
theorem chk0 {cs : List Cl} (h : chkRow cs vs = 0) : vs.length = cs.length ∧ RowTy cs vs ∧ ∀ i, i < vs.length → (vs.getD i v0).s.size ≤ 7 := by
  unfold chkRow at h
  split at h
  · cases h
  · rename_i h1
    have h1 : vs.length = cs.length := Classical.not_not.1 h1
    split at h
    · rename_i h2
      split at h
      · rename_i h3
        refine ⟨h1, ⟨h1, fun i v c hv hc => ?_⟩, h3⟩
        have hi : i < vs.length := (List.getElem?_eq_some_iff.1 hv).1
        have e1 := getD_some hi
        have e2 := getC_some (cs := cs) (m := i) (by omega)
        rw [hv] at e1
        rw [hc] at e2
        have := h2 i hi
        rw [← Option.some.inj e1, ← Option.some.inj e2] at this
        exact this
      · cases h
    · cases h
/-- Insert, plain. -/
def dbIns (nm : ByteArray) (vs : List Vl) (xs : List Th) : Int × List Th := match fnd nm xs with
  | none => (10, xs)
  | some x => if chkRow x.tb.cols vs ≠ 0 then (chkRow x.tb.cols vs, xs) else if (rowBy x.tb (rk x.tb.pk vs)).isSome then (17, xs) else if x.tb.rows.length ≥ 8 then (6, xs)
      else (0, setT nm { x.tb with rows := insR x.tb.pk vs x.tb.rows } xs)
theorem RSrt_tb (ok : TbOk tb) : RSrt tb.pk tb.rows := by
  unfold TbOk at ok
  have h := ok.2.2.2.2.2.2
  unfold RSrt
  refine List.Pairwise.imp_of_mem (fun {a b} ha hb hab => ?_) h.2
  have ra := h.1 a ha
  have rb := h.1 b hb
  have la : tb.pk < a.length := by rw [ra.1.1]; exact ok.2.2.2.1
  have lb : tb.pk < b.length := by rw [rb.1.1]; exact ok.2.2.2.1
  have cl := getC_some (cs := tb.cols) ok.2.2.2.1
  have t1 := ra.1.2 _ _ _ (getD_some la) cl
  have t2 := rb.1.2 _ _ _ (getD_some lb) cl
  unfold rk
  rw [codeV_sl (getD_ok ra.2 _) (getD_ok rb.2 _) (t1.trans t2.symm)]
  exact hab
theorem RSrt_vlt {cs : List Cl} {pk : Nat} {rs : List (List Vl)} (hp : pk < cs.length) (ho : ∀ r ∈ rs, RowTy cs r ∧ ∀ v ∈ r, VOk v) (h : RSrt pk rs) : rs.Pairwise fun a b => vlt (a.getD pk v0) (b.getD pk v0) = true := by
  refine List.Pairwise.imp_of_mem (fun {a b} ha hb hab => ?_) h
  have ra := ho a ha
  have rb := ho b hb
  have la : pk < a.length := by rw [ra.1.1]; exact hp
  have lb : pk < b.length := by rw [rb.1.1]; exact hp
  have cl := getC_some (cs := cs) hp
  have t1 := ra.1.2 _ _ _ (getD_some la) cl
  have t2 := rb.1.2 _ _ _ (getD_some lb) cl
  unfold rk at hab
  rw [codeV_sl (getD_ok ra.2 _) (getD_ok rb.2 _) (t1.trans t2.symm)] at hab
  exact hab
theorem ins_ok (ok : TbOk tb) (ty : RowTy tb.cols vs) (hv : ∀ v ∈ vs, VOk v) (hl : tb.rows.length < 8) (hn : rowBy tb (rk tb.pk vs) = none) : TbOk { tb with rows := insR tb.pk vs tb.rows } := by
  have hs := RSrt_tb ok
  unfold TbOk at ok ⊢
  have hne : ∀ r ∈ tb.rows, rk tb.pk r ≠ rk tb.pk vs := fun r hr e => by
    have := List.find?_eq_none.1 hn r hr
    exact this (decide_eq_true e)
  have hall : ∀ r ∈ insR tb.pk vs tb.rows, RowTy tb.cols r ∧ ∀ v ∈ r, VOk v := fun r hr => by
    rcases insR_mem.1 hr with rfl | hr
    · exact ⟨ty, hv⟩
    · exact ok.2.2.2.2.2.2.1 r hr
  exact ⟨ok.1, ok.2.1, ok.2.2.1, ok.2.2.2.1, ok.2.2.2.2.1, by show (insR tb.pk vs tb.rows).length ≤ 8; rw [insR_len]; omega, hall, RSrt_vlt ok.2.2.2.1 hall (insR_srt hs hne)⟩
end Go.Proofs.Qxb6500564aGreat
