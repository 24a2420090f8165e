/-
  The store: CreateIndex.
-/
import Derived.Test.Qxb6500564aGreatTcC
namespace Go.Proofs.Qxb6500564aGreat
open Go.Den Go.Zip
set_option linter.unusedVariables false
set_option linter.unusedSimpArgs false
variable {w w' u v : World} {i j n t f p : Nat} {D : List Bk} {R : List Wr} {cur cur' : Nat → Bk} {op : Bool} {O : Nat → Prop} {T : Nat → Option Es} {pg : Nat → List Nat} {xs : List Th} {s r : Sl} {tb : Tb} {k nm : ByteArray} {vs : List Vl} {cs : List Cl}

theorem hands_sum' (d : DBT T xs) : ∀ {ys : List Th}, (∀ y ∈ ys, y ∈ xs) → sumL (fun i => if i = 0 then 0 else eLen (T i)) (handsOf ys) + 8 * (ys.filter fun y => decide (y.hi < 0)).length ≤ 16 * ys.length
  | [], _ => Nat.le_refl _
  | y :: r, h => by
    have ih := hands_sum' d (ys := r) fun z hz => h z (by simp [hz])
    have hy := h y (by simp)
    have ok := (d.ok y hy).1
    unfold TbOk at ok
    have e1 : eLen (T y.hr) ≤ 8 := by
      rw [d.rws y hy, eLen_some]
      show (y.tb.rows.map _).length ≤ 8
      rw [List.length_map]; exact ok.2.2.2.2.2.1
    have e2 : (if y.hi.toNat = 0 then 0 else eLen (T y.hi.toNat)) ≤ 8 := by
      split
      · omega
      · obtain ⟨es, h1, h2⟩ := d.idx y hy (by omega)
        rw [h1, eLen_some]
        have := idx_len h2
        omega
    have e3 : handsOf (y :: r) = y.hr :: y.hi.toNat :: handsOf r := rfl
    rw [e3]
    unfold sumL at ih ⊢
    rw [List.map_cons, List.map_cons, List.sum_cons, List.sum_cons, List.length_cons]
    have e4 : (if y.hr = 0 then 0 else eLen (T y.hr)) ≤ 8 := by split <;> omega
    by_cases hn : y.hi < 0
    · rw [List.filter_cons_of_pos (by simpa using hn), List.length_cons]
      rw [if_pos (by omega : y.hi.toNat = 0)]
      omega
    · rw [List.filter_cons_of_neg (by simpa using hn)]
      omega
theorem DBT.total' (d : DBT T xs) {x : Th} (hx : x ∈ xs) (hi : x.hi < 0) : (sumTo 8 fun i => eLen (T i)) + 8 ≤ 20 * xs.length := by
  have h0 : eLen (T 0) ≤ 4 * xs.length := by
    rw [d.cat0, eLen_some]
    exact cat_len fun x hx => (d.small x hx).2
  have h1 := sumTo_set (fun i => eLen (T i)) 0 0 (n := 8) (by omega)
  have h2 : sumTo 8 (fset (fun i => eLen (T i)) 0 0) ≤ sumL (fset (fun i => eLen (T i)) 0 0) (handsOf xs) := sum_cover _ _ fun i hi => by
    by_cases e : i = 0
    · exact .inl (by rw [e, fset_eq])
    · rw [fset_ne e]
      by_cases hh : ∃ x ∈ xs, i = x.hr ∨ (i : Int) = x.hi
      · obtain ⟨x, hx, hx'⟩ := hh
        refine .inr (List.mem_flatMap.2 ⟨x, hx, ?_⟩)
        rcases hx' with rfl | hx'
        · simp
        · have : i = x.hi.toNat := by omega
          simp [this]
      · refine .inl ?_
        rw [d.non i (by omega) hi fun x hx => ⟨fun e => hh ⟨x, hx, .inl e⟩, fun e => hh ⟨x, hx, .inr e⟩⟩]
        rfl
  have h3 := hands_sum' d (ys := xs) fun y hy => hy
  have h4 : 0 < (xs.filter fun y => decide (y.hi < 0)).length := List.length_pos_of_mem (List.mem_filter.2 ⟨hx, by simpa using hi⟩)
  have e : (fset (fun i => eLen (T i)) 0 0) = fun i => if i = 0 then 0 else eLen (T i) := by
    funext i
    unfold fset
    rfl
  rw [e] at h1 h2
  omega
def mdIndex (nm : ByteArray) (col : Int) (db : Db) : Int × Db := match fnB nm db with
  | none => (10, db)
  | some tb => if col < 0 ∨ col ≥ tb.cols.length then (14, db) else if col = tb.pk then (18, db) else if tb.ix ≥ 0 then (11, db) else (0, putTb nm { tb with ix := col } db)
def ixTh (nm : ByteArray) (col h : Nat) (xs : List Th) : List Th := xs.map fun y => if y.tb.name = nm then ⟨{ y.tb with ix := col }, y.hr, h⟩ else y
theorem tbs_ix {x : Th} {col h : Nat} (d : DBT T xs) (hx : x ∈ xs) : tbs (ixTh x.tb.name col h xs) = putTb x.tb.name { x.tb with ix := col } (tbs xs) := by
  unfold tbs ixTh putTb
  rw [List.map_map, List.map_map]
  refine List.map_congr_left fun y hy => ?_
  show (if _ then _ else _ : Th).tb = if _ then _ else _
  by_cases e : y.tb.name = x.tb.name
  · rw [if_pos e, if_pos e, uniq_name d.srt hy hx e]
  · rw [if_neg e, if_neg e]
theorem mem_ixTh {col h : Nat} {y : Th} (hm : y ∈ ixTh nm col h xs) : (y ∈ xs ∧ y.tb.name ≠ nm) ∨ ∃ z ∈ xs, z.tb.name = nm ∧ y = ⟨{ z.tb with ix := col }, z.hr, h⟩ := by
  obtain ⟨z, hz, rfl⟩ := List.mem_map.1 hm
  by_cases e : z.tb.name = nm
  · rw [if_pos e]; exact .inr ⟨z, hz, e, rfl⟩
  · rw [if_neg e]; exact .inl ⟨hz, e⟩
theorem ixTh_mem {col h : Nat} {y : Th} (hy : y ∈ xs) : (if y.tb.name = nm then (⟨{ y.tb with ix := col }, y.hr, h⟩ : Th) else y) ∈ ixTh nm col h xs := List.mem_map.2 ⟨y, hy, rfl⟩
/-- A table gets its index. -/
theorem DBT.index {x : Th} {col h : Nat} {ce ie : Es} (d : DBT T xs) (hx : x ∈ xs) (hi : x.hi = -1) (hcol : col < x.tb.cols.length) (hpk : col ≠ x.tb.pk) (hT : T h = none) (h0 : 0 < h) (h8 : h < 8)
    (hie : IdxOf { x.tb with ix := col } ie) (hs : Srt ce) (hce : ∀ e, e ∈ ce ↔ e = (catK x.tb.name 0, headT ⟨x.tb.cols.length, x.tb.pk, col, x.hr, h⟩) ∨ (e ∈ cat xs ∧ e.1 ≠ catK x.tb.name 0)) :
    DBT (fset (fset T h (some ie)) 0 (some ce)) (ixTh x.tb.name col h xs) := by
  have fr := d.free hT
  have ux : ∀ {z}, z ∈ xs → z.tb.name = x.tb.name → z = x := fun hz e => uniq_name d.srt hz hx e
  have sx := d.small x hx
  have okx := d.ok x hx
  have nmS : ∀ y : Th, (if y.tb.name = x.tb.name then (⟨{ y.tb with ix := col }, y.hr, h⟩ : Th) else y).tb.name = y.tb.name := fun y => by split <;> rfl
  have hsrt : (ixTh x.tb.name col h xs).Pairwise (fun a b => sl a.tb.name b.tb.name = true) := by
    unfold ixTh
    rw [List.pairwise_map]
    refine d.srt.imp_of_mem ?_
    intro a b _ _ h
    rw [nmS, nmS]; exact h
  have small' : ∀ y ∈ ixTh x.tb.name col h xs, y.tb.name.size ≤ 6 ∧ y.tb.cols.length ≤ 3 := fun y hy => by
    rcases mem_ixTh hy with ⟨hy, _⟩ | ⟨z, hz, _, rfl⟩
    · exact d.small y hy
    · exact d.small z hz
  have hrx : ∀ z ∈ xs, 0 < z.hr ∧ z.hr < 8 ∧ (z.hi = -1 ∨ 0 < z.hi) := fun z hz => by
    have h := (d.ok z hz).2
    unfold HdOk at h
    refine ⟨h.2.2.2.2.2.2.1, h.2.2.2.2.2.2.2.1, ?_⟩
    rcases h.2.2.2.2.2.2.2.2 with ⟨_, h⟩ | ⟨_, h1, _, h2⟩
    · exact .inl h
    · exact .inr h1
  have ece : ce = cat (ixTh x.tb.name col h xs) := by
    refine srt_ext hs (cat_srt small' hsrt) fun e => ?_
    rw [hce, mem_cat, mem_cat]
    constructor
    · rintro (rfl | ⟨⟨z, hz, he⟩, hne⟩)
      · refine ⟨_, ixTh_mem (nm := x.tb.name) hx, ?_⟩
        rw [if_pos rfl]
        exact List.mem_cons.2 (.inl rfl)
      · refine ⟨_, ixTh_mem (nm := x.tb.name) hz, ?_⟩
        by_cases en : z.tb.name = x.tb.name
        · rw [if_pos en]
          have := ux hz en
          subst this
          rcases List.mem_cons.1 he with rfl | he
          · exact absurd rfl hne
          · exact List.mem_cons.2 (.inr he)
        · rw [if_neg en]; exact he
    · rintro ⟨z', hz', he⟩
      rcases mem_ixTh hz' with ⟨hz, hn⟩ | ⟨z, hz, hn, rfl⟩
      · refine .inr ⟨⟨z', hz, he⟩, fun e' => ?_⟩
        obtain ⟨j, hj, ek⟩ := catE_key he
        have sz := d.small z' hz
        rw [ek] at e'
        exact hn (catK_inj sz.1 sx.1 (by omega) (by omega) e').1
      · have := ux hz hn
        subst this
        rcases List.mem_cons.1 he with rfl | he
        · exact .inl rfl
        · refine .inr ⟨⟨z, hz, List.mem_cons.2 (.inr he)⟩, fun e' => ?_⟩
          obtain ⟨j, j1, j2, j3⟩ := colE_key he
          rw [j3] at e'
          have hn1 : z.tb.name.size ≤ 6 := sx.1
          have hl1 : z.tb.cols.length ≤ 3 := sx.2
          have j2 : j < 1 + z.tb.cols.length := j2
          have := (catK_inj (a := z.tb.name) (b := z.tb.name) hn1 hn1 (by omega) (by omega) e').2
          omega
  refine ⟨by rw [fset_eq, ece], hsrt, by unfold ixTh; rw [List.length_map]; exact d.len, fun y hy => ?_, fun y hy => ?_, fun y hy h' => ?_, fun y hy z hz hne => ?_, fun i h1 h2 h3 => ?_⟩
  · rcases mem_ixTh hy with ⟨hy, _⟩ | ⟨z, hz, hn, rfl⟩
    · exact d.ok y hy
    · have := ux hz hn
      subst this
      have a := okx.1
      have b := okx.2
      unfold TbOk at a
      unfold HdOk at b
      refine ⟨?_, ?_⟩
      · unfold TbOk
        refine ⟨a.1, a.2.1, a.2.2.1, a.2.2.2.1, ⟨?_, ?_, ?_⟩, a.2.2.2.2.2.1, a.2.2.2.2.2.2.1, a.2.2.2.2.2.2.2⟩
        · show (-1 : Int) ≤ (col : Int); omega
        · show (col : Int) < (z.tb.cols.length : Int); omega
        · show (col : Int) ≠ (z.tb.pk : Int); omega
      · unfold HdOk
        have := fr z hz
        refine ⟨b.1, b.2.1, b.2.2.1, ?_, ?_, ?_, b.2.2.2.2.2.2.1, b.2.2.2.2.2.2.2.1, .inr ⟨?_, ?_, ?_, ?_⟩⟩
        · show (-1 : Int) ≤ (col : Int); omega
        · show (col : Int) < (z.tb.cols.length : Int); omega
        · show (col : Int) ≠ (z.tb.pk : Int); omega
        · show (0 : Int) ≤ (col : Int); omega
        · show (0 : Int) < (h : Int); omega
        · show (h : Int) < 8; omega
        · show (h : Int) ≠ (z.hr : Int); omega
  · rcases mem_ixTh hy with ⟨hy, _⟩ | ⟨z, hz, hn, rfl⟩
    · have := hrx y hy
      rw [fset_ne (by omega), fset_ne (by have := (fr y hy).1; omega)]
      exact d.rws y hy
    · have := hrx z hz
      show fset _ _ _ z.hr = _
      rw [fset_ne (by omega), fset_ne (by have := (fr z hz).1; omega)]
      exact d.rws z hz
  · rcases mem_ixTh hy with ⟨hy, _⟩ | ⟨z, hz, hn, rfl⟩
    · have := hrx y hy
      rw [fset_ne (by omega), fset_ne (by have := (fr y hy).2; omega)]
      exact d.idx y hy h'
    · have := ux hz hn
      subst this
      refine ⟨ie, ?_, hie⟩
      show fset _ _ _ ((h : Int).toNat) = _
      rw [Int.toNat_natCast, fset_ne (by omega), fset_eq]
  · rcases mem_ixTh hy with ⟨hy, hny⟩ | ⟨y', hy', hny, rfl⟩
    · rcases mem_ixTh hz with ⟨hz, hnz⟩ | ⟨z', hz', hnz, rfl⟩
      · exact d.dis y hy z hz hne
      · have a := d.dis y hy z' hz' (by rw [hnz]; exact hny)
        have b := fr y hy
        refine ⟨a.1, ?_, ?_⟩
        · show (y.hr : Int) ≠ (h : Int); omega
        · intro _
          show y.hi ≠ (h : Int); omega
    · rcases mem_ixTh hz with ⟨hz, hnz⟩ | ⟨z', hz', hnz, rfl⟩
      · have a := d.dis y' hy' z hz (by rw [hny]; exact fun e => hnz e.symm)
        have b := fr z hz
        refine ⟨a.1, a.2.1, ?_⟩
        intro _
        show (h : Int) ≠ z.hi; omega
      · exact absurd (show y'.tb.name = z'.tb.name by rw [hny, hnz]) hne
  · have g : ∀ z ∈ xs, i ≠ z.hr ∧ (i : Int) ≠ z.hi := fun z hz => by
      have a := h3 _ (ixTh_mem (nm := x.tb.name) hz)
      by_cases en : z.tb.name = x.tb.name
      · rw [if_pos en] at a
        have := ux hz en
        subst this
        exact ⟨a.1, by omega⟩
      · rw [if_neg en] at a; exact a
    have a := h3 _ (ixTh_mem (nm := x.tb.name) hx)
    rw [if_pos rfl] at a
    have a2 : (i : Int) ≠ (h : Int) := a.2
    rw [fset_ne (by omega), fset_ne (by omega)]
    exact d.non i h1 h2 g
theorem kvVal {es : Es} {e : ByteArray × ByteArray} {K : ByteArray → Prop} (o : OS w s (kvC es) 2) (h : es[i]? = some e) (hk : K e.2) : Ix s.a s.l (i : Int) fun b o => LdStr w ⟨b, o + Int.toNat (i : Int) * 2 + 1, none⟩ K := by
  have hi : i < es.length := (List.getElem?_eq_some_iff.1 h).1
  refine OS.get o (by rw [kv_l o]; exact hi) fun g us b hu _ => ?_
  refine ldStr b ?_ hk
  rw [Int.toNat_natCast, Nat.add_assoc, Nat.zero_add, hu _ (by rw [kvC_len]; omega)]
  have := flat_get (f := kvC1) (c := 2) kvC1_len es i 1 (by omega)
  rw [h] at this
  exact this
end Go.Proofs.Qxb6500564aGreat
