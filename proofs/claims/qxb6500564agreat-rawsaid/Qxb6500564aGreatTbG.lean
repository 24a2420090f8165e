/-
  The database in trees, plain: the catalog.
-/
import Derived.Test.Qxb6500564aGreatTbF
namespace Go.Proofs.Qxb6500564aGreat
open Go.Den Go.Zip
set_option linter.unusedVariables false
set_option linter.unusedSimpArgs false

/-- A table. -/
structure Tb where
  name : ByteArray
  cols : List Cl
  pk : Nat
  ix : Int
  rows : List (List Vl)
/-- A table with its trees. -/
structure Th where
  tb : Tb
  hr : Nat
  hi : Int
def Th.hd (x : Th) : Hd := ⟨x.tb.cols.length, x.tb.pk, x.tb.ix, x.hr, x.hi⟩
def colE (name : ByteArray) : Nat → List Cl → Es
  | _, [] => []
  | i, c :: r => (catK name i, colT c) :: colE name (i + 1) r
def catE (x : Th) : Es := (catK x.tb.name 0, headT x.hd) :: colE x.tb.name 1 x.tb.cols
def cat (xs : List Th) : Es := xs.flatMap catE
/-- The rows' tree. -/
def rowsE (t : Tb) : Es := t.rows.map fun r => (codeV (r.getD t.pk v0), restP r t.pk)
/-- The index's tree: an entry for every row. -/
def IdxOf (t : Tb) (es : Es) : Prop := Srt es ∧ ∀ e, e ∈ es ↔ ∃ r ∈ t.rows, e = (idxP r t.ix.toNat t.pk, ⟨#[]⟩)
def TbOk (t : Tb) : Prop := (1 ≤ t.name.size ∧ t.name.size ≤ 6) ∧ (1 ≤ t.cols.length ∧ t.cols.length ≤ 3) ∧ (∀ c ∈ t.cols, 1 ≤ c.name.size ∧ c.name.size ≤ 6) ∧ t.pk < t.cols.length ∧ (-1 ≤ t.ix ∧ t.ix < t.cols.length ∧ t.ix ≠ t.pk) ∧ t.rows.length ≤ 8 ∧
  (∀ r ∈ t.rows, RowTy t.cols r ∧ ∀ v ∈ r, VOk v) ∧ t.rows.Pairwise fun a b => vlt (a.getD t.pk v0) (b.getD t.pk v0) = true
/-- The trees T hold the tables xs. -/
structure DBT (T : Nat → Option Es) (xs : List Th) : Prop where
  cat0 : T 0 = some (cat xs)
  srt : xs.Pairwise fun a b => sl a.tb.name b.tb.name = true
  len : xs.length ≤ 3
  ok : ∀ x ∈ xs, TbOk x.tb ∧ HdOk x.hd
  rws : ∀ x ∈ xs, T x.hr = some (rowsE x.tb)
  idx : ∀ x ∈ xs, 0 ≤ x.hi → ∃ es, T x.hi.toNat = some es ∧ IdxOf x.tb es
  dis : ∀ x ∈ xs, ∀ y ∈ xs, x.tb.name ≠ y.tb.name → x.hr ≠ y.hr ∧ (x.hr : Int) ≠ y.hi ∧ (0 ≤ x.hi → x.hi ≠ y.hi)
  non : ∀ i, 0 < i → i < 8 → (∀ x ∈ xs, i ≠ x.hr ∧ (i : Int) ≠ x.hi) → T i = none
theorem catK_bt {name : ByteArray} {i : Nat} (hn : name.size ≤ 6) (hi : i < 256) : bt (catK name i) = padL (bt name) 6 ++ [i] := by
  unfold catK
  rw [bt_append, padB_bt hn (by omega), bt_strOf (one_lt hi)]
theorem catK_inj {a b : ByteArray} {i j : Nat} (ha : a.size ≤ 6) (hb : b.size ≤ 6) (hi : i < 256) (hj : j < 256) (h : catK a i = catK b j) : a = b ∧ i = j := by
  have e := congrArg bt h
  rw [catK_bt ha hi, catK_bt hb hj] at e
  have hl : (padL (bt a) 6).length = (padL (bt b) 6).length := by rw [padL_len (by rw [bt_len]; exact ha), padL_len (by rw [bt_len]; exact hb)]
  obtain ⟨e1, e2⟩ := List.append_inj e hl
  refine ⟨padB_inj ha hb (by omega : 6 < 256) ?_, by simpa using e2⟩
  exact bt_inj (by rw [padB_bt ha (by omega), padB_bt hb (by omega)]; exact e1)
theorem catK_sl {a b : ByteArray} {i j : Nat} (ha : a.size ≤ 6) (hb : b.size ≤ 6) (hi : i < 256) (hj : j < 256) : sl (catK a i) (catK b j) = (sl a b || (decide (a = b) && decide (i < j))) := by
  have hl : (padL (bt a) 6).length = (padL (bt b) 6).length := by rw [padL_len (by rw [bt_len]; exact ha), padL_len (by rw [bt_len]; exact hb)]
  rw [sl_bt, catK_bt ha hi, catK_bt hb hj, lex_app _ _ hl, ← padB_bt ha (by omega : 6 < 256), ← padB_bt hb (by omega : 6 < 256), ← sl_bt, padB_sl ha hb (by omega)]
  congr 1
  congr 1
  · rw [decide_eq_decide]
    exact ⟨fun h => padB_inj ha hb (by omega) (bt_inj h), fun h => by rw [h]⟩
  · simp [lexN]
theorem catK_size {a : ByteArray} {i : Nat} (ha : a.size ≤ 6) (hi : i < 256) : (catK a i).size = 8 := by
  rw [← bt_len, catK_bt ha hi, List.length_append, padL_len (by rw [bt_len]; exact ha)]; rfl
theorem colE_key {name : ByteArray} : ∀ {cs : List Cl} {i : Nat} {e : ByteArray × ByteArray}, e ∈ colE name i cs → ∃ j, i ≤ j ∧ j < i + cs.length ∧ e.1 = catK name j
  | [], i, e, h => by cases h
  | c :: r, i, e, h => by
    rcases List.mem_cons.1 h with rfl | h
    · exact ⟨i, by omega, by simp, rfl⟩
    · obtain ⟨j, h1, h2, h3⟩ := colE_key h
      exact ⟨j, by omega, by rw [List.length_cons]; omega, h3⟩
theorem catE_key {x : Th} {e : ByteArray × ByteArray} (h : e ∈ catE x) : ∃ j, j ≤ x.tb.cols.length ∧ e.1 = catK x.tb.name j := by
  rcases List.mem_cons.1 h with rfl | h
  · exact ⟨0, by omega, rfl⟩
  · obtain ⟨j, h1, h2, h3⟩ := colE_key h
    exact ⟨j, by omega, h3⟩
/-- The table of that name. -/
def fnd (nm : ByteArray) (xs : List Th) : Option Th := xs.find? fun x => decide (x.tb.name = nm)
theorem gt_colE {name : ByteArray} (hn : name.size ≤ 6) : ∀ {cs : List Cl} {i m : Nat} {c : Cl}, i + cs.length < 256 → cs[m]? = some c → gt (catK name (i + m)) (colE name i cs) = some (colT c)
  | [], i, m, c, _, h => by cases h
  | x :: r, i, 0, c, hl, h => by
    cases h
    unfold gt colE
    rw [Nat.add_zero, List.find?_cons_of_pos (by simp)]
    rfl
  | x :: r, i, m + 1, c, hl, h => by
    rw [List.length_cons] at hl
    have hm : m < r.length := (List.getElem?_eq_some_iff.1 (by simpa using h : r[m]? = some c)).1
    have ih := gt_colE (i := i + 1) (m := m) hn (cs := r) (by omega) (by simpa using h)
    unfold gt colE
    rw [List.find?_cons_of_neg (by
      simp only [decide_eq_true_eq]
      intro e
      have := (catK_inj hn hn (by omega) (by omega) e).2
      omega)]
    rw [show i + 1 + m = i + (m + 1) by omega] at ih
    exact ih
theorem gt_cat {nm : ByteArray} {j : Nat} (hn : nm.size ≤ 6) (hj : j < 256) : ∀ {xs : List Th}, (∀ x ∈ xs, x.tb.name.size ≤ 6 ∧ x.tb.cols.length ≤ 3) → xs.Pairwise (fun a b => sl a.tb.name b.tb.name = true) → gt (catK nm j) (cat xs) = match fnd nm xs with | some x => gt (catK nm j) (catE x) | none => none
  | [], _, _ => rfl
  | x :: r, h, hs => by
    have hc := List.pairwise_cons.1 hs
    have hx := h x (by simp)
    have ih := gt_cat hn hj (xs := r) (fun y hy => h y (by simp [hy])) hc.2
    have far : ∀ y ∈ x :: r, y.tb.name ≠ nm → ∀ e ∈ catE y, e.1 ≠ catK nm j := fun y hy hne e he e' => by
      obtain ⟨j', hj', hk⟩ := catE_key he
      have hy' := h y hy
      rw [hk] at e'
      exact hne (catK_inj hy'.1 hn (by omega) hj e').1
    show gt (catK nm j) (catE x ++ cat r) = _
    by_cases hnm : x.tb.name = nm
    · have e1 : fnd nm (x :: r) = some x := by unfold fnd; rw [List.find?_cons_of_pos (by simpa using hnm)]
      rw [e1]
      refine gt_app_r fun e he => ?_
      obtain ⟨y, hy, hey⟩ := List.mem_flatMap.1 he
      refine far y (by simp [hy]) (fun e' => ?_) e hey
      have := hc.1 y hy
      rw [hnm, e'] at this
      rw [sl_irrefl] at this; cases this
    · have e1 : fnd nm (x :: r) = fnd nm r := by unfold fnd; rw [List.find?_cons_of_neg (by simpa using hnm)]
      rw [e1, ← ih]
      exact gt_app_l fun e he => far x (by simp) hnm e he
theorem gt_head {x : Th} : gt (catK x.tb.name 0) (catE x) = some (headT x.hd) := by
  unfold gt catE
  rw [List.find?_cons_of_pos (by simp)]
  rfl
theorem gt_col {x : Th} {m : Nat} {c : Cl} (hn : x.tb.name.size ≤ 6) (hl : x.tb.cols.length ≤ 3) (h : x.tb.cols[m]? = some c) : gt (catK x.tb.name (1 + m)) (catE x) = some (colT c) := by
  have hm : m < x.tb.cols.length := (List.getElem?_eq_some_iff.1 h).1
  have := gt_colE (i := 1) hn (by omega) h
  unfold gt catE
  rw [List.find?_cons_of_neg (by
    simp only [decide_eq_true_eq]
    intro e
    have := (catK_inj hn hn (by omega) (by omega) e).2
    omega)]
  exact this
variable {T : Nat → Option Es} {xs : List Th}
theorem DBT.small (d : DBT T xs) : ∀ x ∈ xs, x.tb.name.size ≤ 6 ∧ x.tb.cols.length ≤ 3 := fun x hx => by
  have := (d.ok x hx).1
  exact ⟨this.1.2, this.2.1.2⟩
theorem fnd_mem {nm : ByteArray} {x : Th} (h : fnd nm xs = some x) : x ∈ xs ∧ x.tb.name = nm := ⟨List.mem_of_find?_eq_some h, by simpa using List.find?_some h⟩
/-- The table of that name turns; its trees stay. -/
def setT (nm : ByteArray) (tb' : Tb) (xs : List Th) : List Th := xs.map fun y => if y.tb.name = nm then ⟨tb', y.hr, y.hi⟩ else y
theorem setT_mem {nm : ByteArray} {tb' : Tb} {y : Th} (h : y ∈ setT nm tb' xs) : (y ∈ xs ∧ y.tb.name ≠ nm) ∨ ∃ z ∈ xs, z.tb.name = nm ∧ y = ⟨tb', z.hr, z.hi⟩ := by
  obtain ⟨z, hz, rfl⟩ := List.mem_map.1 h
  by_cases e : z.tb.name = nm
  · rw [if_pos e]; exact .inr ⟨z, hz, e, rfl⟩
  · rw [if_neg e]; exact .inl ⟨hz, e⟩
theorem uniq_name (h : xs.Pairwise fun a b => sl a.tb.name b.tb.name = true) {x y : Th} (hx : x ∈ xs) (hy : y ∈ xs) (e : x.tb.name = y.tb.name) : x = y := by
  induction xs with
  | nil => cases hx
  | cons z r ih =>
    have hc := List.pairwise_cons.1 h
    rcases List.mem_cons.1 hx with e1 | hx'
    · rcases List.mem_cons.1 hy with e2 | hy'
      · rw [e1, e2]
      · have := hc.1 y hy'
        rw [← e1, e, sl_irrefl] at this; cases this
    · rcases List.mem_cons.1 hy with e2 | hy'
      · have := hc.1 x hx'
        rw [← e2, ← e, sl_irrefl] at this; cases this
      · exact ih hc.2 hx' hy'
theorem fm_congr {α β : Type} {l : List α} {f g : α → List β} (h : ∀ y ∈ l, f y = g y) : l.flatMap f = l.flatMap g := by
  induction l with
  | nil => rfl
  | cons y r ih => rw [List.flatMap_cons, List.flatMap_cons, h y (by simp), ih fun z hz => h z (by simp [hz])]
theorem DBT.turn {T' : Nat → Option Es} {x : Th} {tb' : Tb} (d : DBT T xs) (hx : x ∈ xs) (e1 : tb'.name = x.tb.name) (e2 : tb'.cols = x.tb.cols) (e3 : tb'.pk = x.tb.pk) (e4 : tb'.ix = x.tb.ix) (ok : TbOk tb')
    (r1 : T' x.hr = some (rowsE tb')) (r2 : 0 ≤ x.hi → ∃ es, T' x.hi.toNat = some es ∧ IdxOf tb' es) (r3 : ∀ j, j ≠ x.hr → (j : Int) ≠ x.hi → T' j = T j) : DBT T' (setT x.tb.name tb' xs) := by
  have hdx : ∀ z, z ∈ xs → z.tb.name = x.tb.name → z = x := fun z hz e => uniq_name d.srt hz hx e
  have okx := (d.ok x hx).2
  unfold HdOk at okx
  have h0r : 0 < x.hr ∧ x.hr < 8 := ⟨okx.2.2.2.2.2.2.1, okx.2.2.2.2.2.2.2.1⟩
  have h0i : x.hi = -1 ∨ (0 < x.hi ∧ x.hi ≠ x.hr) := by
    rcases okx.2.2.2.2.2.2.2.2 with ⟨_, h⟩ | ⟨_, h1, _, h2⟩
    · exact .inl h
    · exact .inr ⟨h1, h2⟩
  have nmS : ∀ y : Th, (if y.tb.name = x.tb.name then (⟨tb', y.hr, y.hi⟩ : Th) else y).tb.name = y.tb.name := fun y => by
    split
    · rename_i h; rw [h]; exact e1
    · rfl
  refine ⟨?_, ?_, ?_, ?_, ?_, ?_, ?_, ?_⟩
  · rw [r3 0 (by omega) (by omega), d.cat0]
    congr 1
    unfold cat setT
    rw [List.flatMap_map]
    refine fm_congr fun y hy => ?_
    by_cases e : y.tb.name = x.tb.name
    · rw [if_pos e]
      have := hdx y hy e
      subst this
      unfold catE Th.hd
      rw [e1, e2, e3, e4]
    · rw [if_neg e]
  · unfold setT
    rw [List.pairwise_map]
    refine d.srt.imp_of_mem ?_
    intro a b _ _ h
    rw [nmS, nmS]; exact h
  · unfold setT
    rw [List.length_map]; exact d.len
  · intro y hy
    rcases setT_mem hy with ⟨hy, _⟩ | ⟨z, hz, hn, rfl⟩
    · exact d.ok y hy
    · have := hdx z hz hn
      subst this
      refine ⟨ok, ?_⟩
      have h := (d.ok z hz).2
      unfold Th.hd at h ⊢
      rw [e2, e3, e4]
      exact h
  · intro y hy
    rcases setT_mem hy with ⟨hy, hne⟩ | ⟨z, hz, hn, rfl⟩
    · have := d.dis y hy x hx hne
      rw [r3 y.hr this.1 this.2.1]
      exact d.rws y hy
    · have := hdx z hz hn
      subst this
      exact r1
  · intro y hy h0
    rcases setT_mem hy with ⟨hy, hne⟩ | ⟨z, hz, hn, rfl⟩
    · have a1 := d.dis y hy x hx hne
      have a2 := d.dis x hx y hy fun e => hne e.symm
      rw [r3 y.hi.toNat (by omega) (by have := a1.2.2 h0; omega)]
      exact d.idx y hy h0
    · have := hdx z hz hn
      subst this
      exact r2 h0
  · intro y hy z hz hne
    have g : ∀ u, u ∈ setT x.tb.name tb' xs → ∃ v ∈ xs, v.hr = u.hr ∧ v.hi = u.hi ∧ v.tb.name = u.tb.name := fun u hu => by
      rcases setT_mem hu with ⟨hu, _⟩ | ⟨z, hz, hn, rfl⟩
      · exact ⟨u, hu, rfl, rfl, rfl⟩
      · exact ⟨z, hz, rfl, rfl, by rw [hn]; exact e1.symm⟩
    obtain ⟨y', hy', b1, b2, b3⟩ := g y hy
    obtain ⟨z', hz', c1, c2, c3⟩ := g z hz
    have := d.dis y' hy' z' hz' (by rw [b3, c3]; exact hne)
    rw [b1, b2, c1, c2] at this
    exact this
  · intro i h1 h2 h3
    have g : ∀ v ∈ xs, i ≠ v.hr ∧ (i : Int) ≠ v.hi := fun v hv => by
      have := h3 (if v.tb.name = x.tb.name then ⟨tb', v.hr, v.hi⟩ else v) (List.mem_map.2 ⟨v, hv, rfl⟩)
      split at this
      · exact this
      · exact this
    rw [r3 i (g x hx).1 (g x hx).2]
    exact d.non i h1 h2 g
end Go.Proofs.Qxb6500564aGreat
