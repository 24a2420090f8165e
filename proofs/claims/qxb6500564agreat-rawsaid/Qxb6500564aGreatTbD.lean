/-
  Rows and their entries: restOf, idxKey, rowOf.
-/
import Derived.Test.Qxb6500564aGreatTbC
namespace Go.Proofs.Qxb6500564aGreat
open Go.Den Go.Zip
set_option linter.unusedVariables false
set_option linter.unusedSimpArgs false
variable {w w' : World} {i j n pk : Nat} {v : Vl} {vs : List Vl} {s : Sl}

def v0 : Vl := ⟨false, 0, ⟨#[]⟩⟩
def cod1 (pk : Nat) (vs : List Vl) (t : Nat) : List Nat := if t = pk then [] else bt (codeV (vs.getD t v0))
def restL (pk : Nat) (vs : List Vl) : Nat → List Nat
  | 0 => []
  | t + 1 => restL pk vs t ++ cod1 pk vs t
/-- A row's value in the rows' tree. -/
def restP (vs : List Vl) (pk : Nat) : ByteArray := strOf (restL pk vs vs.length)
theorem cod1_lt {t : Nat} : ∀ x ∈ cod1 pk vs t, x < 256 := by
  unfold cod1
  split
  · intro x h; cases h
  · intro x h; exact bt_lt h
theorem restL_lt : ∀ t, ∀ x ∈ restL pk vs t, x < 256
  | 0, x, h => by cases h
  | t + 1, x, h => (List.mem_append.1 h).elim (restL_lt t x) (cod1_lt x)
theorem restP_bt : bt (restP vs pk) = restL pk vs vs.length := bt_strOf (restL_lt _)
theorem getD_ok (h : ∀ v ∈ vs, VOk v) (t : Nat) : VOk (vs.getD t v0) := by
  rw [List.getD_eq_getElem?_getD]
  cases ht : vs[t]? with
  | none => exact ⟨fun h => (by cases h), fun _ => ⟨rfl, by unfold I64; show _ ≤ (0 : Int) ∧ (0 : Int) < _; omega⟩⟩
  | some v => exact h v (List.mem_of_getElem? ht)
theorem cod1_len (h : ∀ v ∈ vs, VOk v) (t : Nat) : (cod1 pk vs t).length = if t = pk then 0 else 8 := by
  unfold cod1
  split
  · rfl
  · rw [bt_len, codeV_size (getD_ok h t)]
theorem restL_len (h : ∀ v ∈ vs, VOk v) : ∀ t, (restL pk vs t).length = 8 * (t - if pk < t then 1 else 0)
  | 0 => by simp [restL]
  | t + 1 => by
    show (restL pk vs t ++ cod1 pk vs t).length = _
    rw [List.length_append, restL_len h t, cod1_len h t]
    by_cases h1 : t = pk
    · subst h1; simp
    · by_cases h2 : pk < t
      · rw [if_pos h2, if_neg h1, if_pos (by omega)]; omega
      · rw [if_neg h2, if_neg h1, if_neg (by omega)]; omega
theorem restL_pre {c : Nat} : ∀ t, c ≤ t → ∃ r, restL pk vs t = restL pk vs c ++ r
  | 0, h => ⟨[], by rw [show c = 0 by omega]; rfl⟩
  | t + 1, h => by
    rcases (by omega : c = t + 1 ∨ c ≤ t) with rfl | h'
    · exact ⟨[], by simp⟩
    · obtain ⟨r, e⟩ := restL_pre t h'
      exact ⟨r ++ cod1 pk vs t, by show restL pk vs t ++ _ = _; rw [e, List.append_assoc]⟩
theorem restL_at {c : Nat} (hc : c < n) : ∃ r, restL pk vs n = restL pk vs c ++ (cod1 pk vs c ++ r) := by
  obtain ⟨r, e⟩ := restL_pre (pk := pk) (vs := vs) (c := c + 1) n hc
  exact ⟨r, by rw [e]; show (restL pk vs c ++ cod1 pk vs c) ++ r = _; rw [List.append_assoc]⟩
theorem getD_some {t : Nat} (h : t < vs.length) : vs[t]? = some (vs.getD t v0) := by
  rw [List.getD_eq_getElem?_getD, List.getElem?_eq_getElem h]; rfl
theorem catLe {a b : ByteArray} {K : Prop} (h : a.size + b.size ≤ 1000) (hk : K) : CatOk a b K := ⟨by omega, hk⟩
theorem strOf_app {a b : List Nat} (ha : ∀ x ∈ a, x < 256) (hb : ∀ x ∈ b, x < 256) : strOf (a ++ b) = strOf a ++ strOf b := bt_inj (by
  rw [bt_append, bt_strOf ha, bt_strOf hb, bt_strOf fun x hx => (List.mem_append.1 hx).elim (ha x) (hb x)])
set_option maxHeartbeats 1000000 in
theorem restOf_spec {K : ByteArray → World → Prop} (o : OS w s (rowC vs) 3) (h : ∀ v ∈ vs, VOk v) (hl : vs.length ≤ 3) (hK : ∀ w', Fr 0 0 w w' → K (restP vs pk) w') : S.table_restOf s (pk : Int) w K := by
  unfold S.table_restOf
  have sl' := row_l o
  refine let_ ?_
  refine loopN (fun m st u => ∃ t : Nat, st = (strOf (restL pk vs t), (t : Int), ()) ∧ t + m = vs.length ∧ Fr 0 0 w u) vs.length ⟨0, rfl, by omega, Fr.refl _ _ _⟩ ?_
  rintro m _ u ⟨t, rfl, hm, fu⟩ Q hQ
  dsimp only
  refine ifd (fun h1 => ?_) fun h1 => by
    have e : t = vs.length := by omega
    subst e
    exact hK u fu
  have ht : t < vs.length := by omega
  refine join_P (fun x u => x = strOf (restL pk vs (t + 1)) ∧ Fr 0 0 w u) ?_ ?_
  · rintro _ u ⟨rfl, fu⟩
    refine let_ ?_
    rw [W_succ (by omega)]
    exact hQ (m - 1) _ _ (by omega) ⟨t + 1, rfl, by omega, fu⟩
  · intro J hJ
    by_cases hp : t = pk
    · rw [if_neg (by simp [hp])]
      exact hJ _ _ ⟨by show _ = strOf (restL pk vs t ++ cod1 pk vs t); unfold cod1; rw [if_pos hp, List.append_nil], fu⟩
    · rw [if_pos (by simp only [bne_iff_ne, ne_eq]; omega)]
      have ou : OS u s (rowC vs) 3 := o.frp (FrP.of0 (P := fun _ => False) fu) fun _ _ h => h
      refine rowGet ou (getD_some ht) (codeVal_spec (getD_ok h t) fun u1 f1 => catLe ?_ (let_ (hJ _ _ ⟨?_, fu.then0 f1⟩)))
      · rw [strOf_size, codeV_size (getD_ok h t), restL_len h t]; omega
      · show _ = strOf (restL pk vs t ++ cod1 pk vs t)
        unfold cod1
        rw [if_neg hp, strOf_app (restL_lt t) (fun x hx => bt_lt hx), strOf_bt]
/-- A row's key in the index's tree. -/
def idxP (vs : List Vl) (col pk : Nat) : ByteArray := codeV (vs.getD col v0) ++ codeV (vs.getD pk v0)
theorem idxKey_spec {col : Nat} {K : ByteArray → World → Prop} (o : OS w s (rowC vs) 3) (h : ∀ v ∈ vs, VOk v) (hc : col < vs.length) (hp : pk < vs.length) (hK : ∀ w', Fr 0 0 w w' → K (idxP vs col pk) w') : S.table_idxKey s (col : Int) (pk : Int) w K := by
  unfold S.table_idxKey
  refine rowGet o (getD_some hc) (codeVal_spec (getD_ok h col) fun u f => ?_)
  have ou : OS u s (rowC vs) 3 := o.frp (FrP.of0 (P := fun _ => False) f) fun _ _ h => h
  refine rowGet ou (getD_some hp) (codeVal_spec (getD_ok h pk) fun u1 f1 => catLe ?_ (hK u1 (f.then0 f1)))
  rw [codeV_size (getD_ok h col), codeV_size (getD_ok h pk)]; omega
/-- A column. -/
structure Cl where
  name : ByteArray
  st : Bool
def colC1 (c : Cl) : List Value := [.string c.name, .bool c.st]
def colC (cs : List Cl) : List Value := cs.flatMap colC1
variable {cs : List Cl} {c : Cl}
theorem colC1_len (c : Cl) : (colC1 c).length = 2 := rfl
theorem colC_len (cs : List Cl) : (colC cs).length = cs.length * 2 := flat_length (f := colC1) (c := 2) colC1_len cs
theorem colC_get {k : Nat} (hk : k < 2) (h : cs[i]? = some c) : (colC cs)[i * 2 + k]? = (colC1 c)[k]? := by
  unfold colC
  rw [flat_get (f := colC1) (c := 2) colC1_len cs i k hk, h]
  rfl
theorem col_l (h : OS w s (colC cs) 2) : s.l = cs.length := by
  have := h.len
  rw [colC_len] at this
  omega
theorem cell2 {g k : Nat} {us : List Value} (hu : ∀ m, m < (colC cs).length → us[m]? = (colC cs)[m]?) (h : cs[i]? = some c) (hk : k < 2) : us[0 + Int.toNat (i : Int) * 2 + k]? = (colC1 c)[k]? := by
  have hi : i < cs.length := (List.getElem?_eq_some_iff.1 h).1
  rw [Int.toNat_natCast, Nat.zero_add, hu _ (by rw [colC_len]; omega), colC_get hk h]
theorem colSt {K : Bool → Prop} (o : OS w s (colC cs) 2) (h : cs[i]? = some c) (hk : K c.st) : Ix s.a s.l (i : Int) fun b o => LdB w ⟨b, o + Int.toNat (i : Int) * 2 + 1, none⟩ K := by
  have hi : i < cs.length := (List.getElem?_eq_some_iff.1 h).1
  refine OS.get o (by rw [col_l o]; exact hi) fun g us b hu _ => ?_
  exact ldB b (cell2 (g := g) (k := 1) hu h (by omega)) hk
/-- A row of the columns' types. -/
def RowTy (cs : List Cl) (vs : List Vl) : Prop := vs.length = cs.length ∧ ∀ (i : Nat) (v : Vl) (c : Cl), vs[i]? = some v → cs[i]? = some c → v.st = c.st
/-- The first t values of a row, then zeros. -/
def fillR (vs : List Vl) (t : Nat) : List Vl := vs.take t ++ List.replicate (vs.length - t) v0
theorem fillR_len {t : Nat} (h : t ≤ vs.length) : (fillR vs t).length = vs.length := by unfold fillR; simp; omega
theorem fillR_step {t : Nat} (ht : t < vs.length) : (fillR vs t).set t (vs.getD t v0) = fillR vs (t + 1) := by
  unfold fillR
  rw [List.set_append, if_neg (by rw [List.length_take]; omega), List.length_take, Nat.min_eq_left (by omega), Nat.sub_self, show vs.length - t = (vs.length - (t + 1)) + 1 by omega, List.replicate_succ, List.set_cons_zero, List.take_add_one, getD_some ht, Option.toList_some, List.append_assoc]
  rfl
/-- A value is laid into a row. -/
theorem rowSet {q : Nat} {x : Vl} {K : World → Prop} (b : Blk w q (rowC vs)) (hi : i < vs.length) (hk : ∀ w', Blk w' q (rowC (vs.set i x)) → Fr q 1 w w' → K w') :
    St1 w ⟨q, 0 + Int.toNat (i : Int) * 3, none⟩ (.bool x.st) fun w => St1 w ⟨q, 0 + Int.toNat (i : Int) * 3 + 1, none⟩ (.int .i64 x.i) fun w => St1 w ⟨q, 0 + Int.toNat (i : Int) * 3 + 2, none⟩ (.string x.s) fun w => K w := by
  have hl := rowC_len vs
  rw [Int.toNat_natCast, Nat.zero_add]
  refine st1 b (by omega) fun w1 c1 f1 _ => st1 c1 (by rw [List.length_set]; omega) fun w2 c2 f2 _ => st1 c2 (by rw [List.length_set, List.length_set]; omega) fun w3 c3 f3 _ => hk w3 ?_ ((f1.trans f2).trans f3)
  have e : (((rowC vs).set (i * 3) (.bool x.st)).set (i * 3 + 1) (.int .i64 x.i)).set (i * 3 + 2) (.string x.s) = rowC (vs.set i x) := by
    refine List.ext_getElem? fun m => ?_
    rcases Nat.lt_or_ge m (vs.length * 3) with hm | hm
    · obtain ⟨r, k, hk3, rfl⟩ : ∃ r k, k < 3 ∧ m = r * 3 + k := ⟨m / 3, m % 3, Nat.mod_lt _ (by omega), by omega⟩
      have hr : r < vs.length := by omega
      rw [List.getElem?_set, List.getElem?_set, List.getElem?_set]
      by_cases e : r = i
      · subst e
        rw [rowC_get (vs := vs.set r x) hk3 (List.getElem?_set_self hr)]
        simp only [List.length_set]
        rcases (by omega : k = 0 ∨ k = 1 ∨ k = 2) with rfl | rfl | rfl
        · rw [if_neg (by omega), if_neg (by omega), if_pos (by omega), if_pos (by omega)]; rfl
        · rw [if_neg (by omega), if_pos rfl, if_pos (by omega)]; rfl
        · rw [if_pos rfl, if_pos (by omega)]; rfl
      · rw [if_neg (by omega), if_neg (by omega), if_neg (by omega)]
        rw [rowC_get hk3 (getD_some hr), rowC_get (vs := vs.set i x) hk3 (by rw [List.getElem?_set_ne (fun h => e h.symm)]; exact getD_some hr)]
    · rw [List.getElem?_eq_none (by simp; omega), List.getElem?_eq_none (by rw [rowC_len, List.length_set]; omega)]
  rw [← e]
  exact c3
theorem rowC_rep (m : Nat) : reps [.bool false, .int .i64 0, .string ⟨#[]⟩] m = rowC (List.replicate m v0) := by
  induction m with
  | zero => rfl
  | succ m ih => show _ ++ reps _ m = _; rw [ih, List.replicate_succ]; rfl
set_option maxHeartbeats 2000000 in
theorem rowOf_spec {name : ByteArray} {ix : Int} {K : Sl → Bool → World → Prop} (o : OS w s (colC cs) 2) (hcl : cs.length ≤ 3) (ty : RowTy cs vs) (h : ∀ v ∈ vs, VOk v) (hp : pk < vs.length)
    (hK : ∀ w' q, w.heap.size ≤ q → Blk w' q (rowC vs) → Fr 0 0 w w' → K (fullS q vs.length) true w') : S.table_rowOf name s (pk : Int) ix (codeV (vs.getD pk v0)) (restP vs pk) w K := by
  unfold S.table_rowOf
  have hsl := col_l o
  have hn := ty.1
  refine newB fun w1 c1 f1 s1 => ?_
  have c1 : Blk w1 w.heap.size [.string name, .slice s.a s.l s.c, .int .i64 (pk : Int), .int .i64 ix] := c1
  have o1 : OS w1 s (colC cs) 2 := o.frp (FrP.of0 (P := fun _ => False) f1) fun _ _ h => h
  refine ldS c1 rfl (let_ (ldI c1 rfl ?_))
  dsimp only
  rw [if_neg (by simp)]
  refine ldI c1 rfl ?_
  rw [if_neg (by simp; omega)]
  have hrs : (restP vs pk).size = 8 * (vs.length - 1) := by
    rw [← bt_len, restP_bt, restL_len h, if_pos hp]
  have e8 : W (8 * W ((s.l : Int) - 1)) = ((8 * (vs.length - 1) : Nat) : Int) := by
    rw [W_id (x := (s.l : Int) - 1) (by omega) (by omega), W_id (by omega) (by omega)]
    omega
  rw [e8, hrs, if_neg (by simp)]
  refine mkS (by omega) (by omega) (by omega) (by omega) fun w2 c2 f2 s2 => ?_
  rw [Int.toNat_natCast, rowC_rep] at c2
  rw [Int.toNat_natCast]
  have c12 := c1.fr f2 (by omega)
  refine join_W (fun u => Blk u w1.heap.size (rowC vs) ∧ Fr 0 0 w u) ?_ ?_
  · rintro u ⟨cu, fu⟩
    have := hK u w1.heap.size (by omega) cu fu
    rw [hsl, ← hn]
    exact this
  · intro J hJ
    refine loopN (fun m st u => ∃ t : Nat, st = ((((restL pk vs t).length : Nat) : Int), (t : Int), ()) ∧ t + m = vs.length ∧ Blk u w1.heap.size (rowC (fillR vs t)) ∧ Blk u w.heap.size [.string name, .slice s.a s.l s.c, .int .i64 (pk : Int), .int .i64 ix] ∧ Fr 0 0 w u) vs.length
      ⟨0, rfl, by omega, by rw [hsl, ← hn] at c2; exact c2, c12, f1.then0 f2⟩ ?_
    rintro m _ u ⟨t, rfl, hm, cu, ru, fu⟩ Q hQ
    dsimp only
    refine ifd (fun h1 => ?_) fun h1 => hJ _ ⟨by
      have e : t = vs.length := by omega
      have : fillR vs t = vs := by unfold fillR; rw [e, Nat.sub_self]; simp
      rw [this] at cu; exact cu, fu⟩
    have ht : t < vs.length := by omega
    have ou : OS u s (colC cs) 2 := o.frp (FrP.of0 (P := fun _ => False) fu) fun _ _ h => h
    obtain ⟨cl, hcl'⟩ : ∃ cl, cs[t]? = some cl := ⟨_, List.getElem?_eq_getElem (by omega)⟩
    have hst : cl.st = (vs.getD t v0).st := (ty.2 t _ _ (getD_some ht) hcl').symm
    have hok := getD_ok h t
    refine ldI ru rfl ?_
    refine join_PP (fun x y u => x = (((restL pk vs (t + 1)).length : Nat) : Int) ∧ y = true ∧ Blk u w1.heap.size (rowC (fillR vs (t + 1))) ∧ Blk u w.heap.size [.string name, .slice s.a s.l s.c, .int .i64 (pk : Int), .int .i64 ix] ∧ Fr 0 0 w u) ?_ ?_
    · rintro _ _ u ⟨rfl, rfl, cu, ru, fu⟩
      rw [if_neg (by simp)]
      refine let_ ?_
      rw [W_succ (by omega)]
      exact hQ (m - 1) _ _ (by omega) ⟨t + 1, rfl, by omega, cu, ru, fu⟩
    · intro J2 hJ2
      have lay : ∀ (u1 : World), Blk u1 w1.heap.size (rowC (fillR vs t)) → Blk u1 w.heap.size [.string name, .slice s.a s.l s.c, .int .i64 (pk : Int), .int .i64 ix] → Fr 0 0 w u1 → ∀ (G : World → Prop), (∀ u2, Blk u2 w1.heap.size (rowC (fillR vs (t + 1))) → Blk u2 w.heap.size [.string name, .slice s.a s.l s.c, .int .i64 (pk : Int), .int .i64 ix] → Fr 0 0 w u2 → G u2) →
          Ix (some ⟨w1.heap.size, 0, none⟩) s.l (t : Int) fun b23 o24 => St1 u1 ⟨b23, o24 + Int.toNat (t : Int) * 3, none⟩ (.bool (vs.getD t v0).st) fun w => St1 w ⟨b23, o24 + Int.toNat (t : Int) * 3 + 1, none⟩ (.int .i64 (vs.getD t v0).i) fun w => St1 w ⟨b23, o24 + Int.toNat (t : Int) * 3 + 2, none⟩ (.string (vs.getD t v0).s) fun w => G w := fun u1 d1 d2 g1 G hG => by
        refine ixF (by omega) (rowSet d1 (by rw [fillR_len (by omega)]; exact ht) fun u2 d3 g2 => ?_)
        rw [fillR_step ht] at d3
        exact hG u2 d3 (d2.fr g2 (by omega)) (g1.thenNew g2 (by omega))
      by_cases hpk : t = pk
      · rw [if_pos (by simp [hpk])]
        refine ldS ru rfl (colSt ou hcl' ?_)
        rw [hst]
        have e : codeV (vs.getD pk v0) = codeV (vs.getD t v0) := by rw [hpk]
        rw [e]
        refine valOf_spec hok fun u1 g1 => lay u1 (cu.fr g1 (by omega)) (ru.fr g1 (by omega)) (fu.then0 g1) _ fun u2 d3 d4 g3 => hJ2 _ _ _ ⟨?_, rfl, d3, d4, g3⟩
        show _ = ((((restL pk vs t ++ cod1 pk vs t).length : Nat)) : Int)
        rw [List.length_append, cod1_len h t, if_pos hpk, Nat.add_zero]
      · rw [if_neg (by simp only [beq_iff_eq]; omega)]
        have hl8 : (restL pk vs (t + 1)).length = (restL pk vs t).length + 8 := by
          show (restL pk vs t ++ cod1 pk vs t).length = _
          rw [List.length_append, cod1_len h t, if_neg hpk]
        obtain ⟨r, hr⟩ := restL_at (pk := pk) (vs := vs) (c := t) (n := vs.length) ht
        have hle : (restL pk vs t).length + 8 ≤ (restP vs pk).size := by
          rw [← bt_len, restP_bt, hr, List.length_append, List.length_append, cod1_len h t, if_neg hpk]; omega
        have hb := restL_len (pk := pk) h t
        refine drew_ ?_
        rw [show W ((((restL pk vs t).length : Nat) : Int) + 8) = (((restL pk vs t).length + 8 : Nat) : Int) by rw [W_id (by omega) (by omega)]; omega]
        refine cutStr (by omega) hle ?_
        have ec : (restP vs pk).extract (restL pk vs t).length ((restL pk vs t).length + 8) = codeV (vs.getD t v0) := by
          apply bt_inj
          rw [bt_extract, restP_bt, hr, List.drop_left, Nat.add_sub_cancel_left]
          have e : cod1 pk vs t = bt (codeV (vs.getD t v0)) := by unfold cod1; rw [if_neg hpk]
          rw [e, List.take_append_of_le_length (by rw [bt_len, codeV_size hok]; omega), List.take_of_length_le (by rw [bt_len, codeV_size hok]; omega)]
        rw [ec]
        refine ldS ru.drew rfl (colSt (w := u.drew) ou hcl' ?_)
        rw [hst]
        refine valOf_spec (w := u.drew) hok fun u1 g1 => lay u1 (cu.drew.fr g1 (by omega)) (ru.drew.fr g1 (by omega)) (fu.drew.then0 g1) _ fun u2 d3 d4 g3 => let_ (hJ2 _ _ _ ⟨?_, rfl, d3, d4, g3⟩)
        rw [hl8]
end Go.Proofs.Qxb6500564aGreat
