/-
  The catalog, plain: a new table, a table gone, a head turned.
-/
import Derived.Test.Qxb6500564aGreatTbZ
namespace Go.Proofs.Qxb6500564aGreat
open Go.Den Go.Zip
set_option linter.unusedVariables false
set_option linter.unusedSimpArgs false
variable {T : Nat → Option Es} {xs : List Th} {nm : ByteArray}

theorem srt_ext : ∀ {a b : Es}, Srt a → Srt b → (∀ e, e ∈ a ↔ e ∈ b) → a = b
  | [], [], _, _, _ => rfl
  | [], y :: s, _, _, h => absurd ((h y).2 (by simp)) (by simp)
  | x :: r, [], _, _, h => absurd ((h x).1 (by simp)) (by simp)
  | x :: r, y :: s, ha, hb, h => by
    have a := List.pairwise_cons.1 ha
    have b := List.pairwise_cons.1 hb
    have e : x = y := by
      rcases List.mem_cons.1 ((h x).1 (by simp)) with e | h1
      · exact e
      · rcases List.mem_cons.1 ((h y).2 (by simp)) with e | h2
        · exact e.symm
        · have c1 := b.1 x h1
          have c2 := sl_asym (a.1 y h2)
          rw [c1] at c2; cases c2
    subst e
    congr 1
    refine srt_ext a.2 b.2 fun e => ⟨fun he => ?_, fun he => ?_⟩
    · rcases List.mem_cons.1 ((h e).1 (by simp [he])) with rfl | h1
      · have := a.1 e he
        rw [sl_irrefl] at this; cases this
      · exact h1
    · rcases List.mem_cons.1 ((h e).2 (by simp [he])) with rfl | h1
      · have := b.1 e he
        rw [sl_irrefl] at this; cases this
      · exact h1
theorem colE_srt {name : ByteArray} (hn : name.size ≤ 6) : ∀ {cs : List Cl} {i : Nat}, i + cs.length < 256 → Srt (colE name i cs)
  | [], _, _ => List.Pairwise.nil
  | c :: r, i, h => by
    rw [List.length_cons] at h
    refine List.pairwise_cons.2 ⟨fun e he => ?_, colE_srt hn (by omega)⟩
    obtain ⟨j, h1, h2, h3⟩ := colE_key he
    rw [h3, catK_sl hn hn (by omega) (by omega)]
    simp
    omega
theorem catE_srt {x : Th} (hn : x.tb.name.size ≤ 6) (hl : x.tb.cols.length ≤ 3) : Srt (catE x) := by
  refine List.pairwise_cons.2 ⟨fun e he => ?_, colE_srt hn (by omega)⟩
  obtain ⟨j, h1, h2, h3⟩ := colE_key he
  rw [h3]
  show sl (catK _ _) (catK _ _) = true
  rw [catK_sl hn hn (by omega) (by omega)]
  simp
  omega
theorem cat_srt : ∀ {xs : List Th}, (∀ x ∈ xs, x.tb.name.size ≤ 6 ∧ x.tb.cols.length ≤ 3) → xs.Pairwise (fun a b => sl a.tb.name b.tb.name = true) → Srt (cat xs)
  | [], _, _ => List.Pairwise.nil
  | x :: r, h, hs => by
    have hc := List.pairwise_cons.1 hs
    have hx := h x (by simp)
    refine srt_app.2 ⟨catE_srt hx.1 hx.2, cat_srt (fun y hy => h y (by simp [hy])) hc.2, fun a ha b hb => ?_⟩
    obtain ⟨y, hy, hb⟩ := List.mem_flatMap.1 hb
    have hy' := h y (by simp [hy])
    obtain ⟨i, hi, ea⟩ := catE_key ha
    obtain ⟨j, hj, eb⟩ := catE_key hb
    rw [ea, eb, catK_sl hx.1 hy'.1 (by omega) (by omega), hc.1 y hy]
    rfl
theorem DBT.csrt (d : DBT T xs) : Srt (cat xs) := cat_srt d.small d.srt
theorem colE_app (name : ByteArray) : ∀ (a b : List Cl) (i : Nat), colE name i (a ++ b) = colE name i a ++ colE name (i + a.length) b
  | [], b, i => rfl
  | c :: r, b, i => by
    show (catK name i, colT c) :: colE name (i + 1) (r ++ b) = (catK name i, colT c) :: (colE name (i + 1) r ++ colE name (i + (r.length + 1)) b)
    rw [colE_app name r b (i + 1), show i + (r.length + 1) = i + 1 + r.length by omega]
/-- A new table at its place. -/
def insTh (y : Th) : List Th → List Th
  | [] => [y]
  | z :: r => if sl z.tb.name y.tb.name then z :: insTh y r else y :: z :: r
theorem mem_insTh {y z : Th} : ∀ {xs : List Th}, z ∈ insTh y xs ↔ z = y ∨ z ∈ xs
  | [] => by simp [insTh]
  | x :: r => by
    unfold insTh
    split
    · rw [List.mem_cons, mem_insTh, List.mem_cons]
      constructor
      · rintro (h | h | h)
        · exact .inr (.inl h)
        · exact .inl h
        · exact .inr (.inr h)
      · rintro (h | h | h)
        · exact .inr (.inl h)
        · exact .inl h
        · exact .inr (.inr h)
    · rw [List.mem_cons]
theorem insTh_len (y : Th) : ∀ xs : List Th, (insTh y xs).length = xs.length + 1
  | [] => rfl
  | x :: r => by
    unfold insTh
    split
    · rw [List.length_cons, insTh_len y r, List.length_cons]
    · rfl
theorem insTh_srt {y : Th} : ∀ {xs : List Th}, xs.Pairwise (fun a b => sl a.tb.name b.tb.name = true) → (∀ x ∈ xs, x.tb.name ≠ y.tb.name) → (insTh y xs).Pairwise (fun a b => sl a.tb.name b.tb.name = true)
  | [], _, _ => by simp [insTh]
  | x :: r, h, hn => by
    have hc := List.pairwise_cons.1 h
    unfold insTh
    split
    · rename_i hlt
      refine List.pairwise_cons.2 ⟨fun z hz => ?_, insTh_srt hc.2 fun z hz => hn z (by simp [hz])⟩
      rcases mem_insTh.1 hz with rfl | hz
      · exact hlt
      · exact hc.1 z hz
    · rename_i hlt
      have hlt : sl x.tb.name y.tb.name = false := by simpa using hlt
      have hxy : sl y.tb.name x.tb.name = true := by
        cases hh : sl y.tb.name x.tb.name with
        | true => rfl
        | false => exact absurd (sl_total hlt hh) (hn x (by simp))
      refine List.pairwise_cons.2 ⟨fun z hz => ?_, h⟩
      rcases List.mem_cons.1 hz with rfl | hz
      · exact hxy
      · exact sl_trans hxy (hc.1 z hz)
theorem mem_cat {e : ByteArray × ByteArray} : e ∈ cat xs ↔ ∃ x ∈ xs, e ∈ catE x := List.mem_flatMap
theorem fnd_none (h : fnd nm xs = none) : ∀ x ∈ xs, x.tb.name ≠ nm := fun x hx e => by
  have := List.find?_eq_none.1 h x hx
  simp [e] at this
/-- The lowest free handle. -/
theorem DBT.low (d : DBT T xs) : ∃ i, 0 < i ∧ i < 8 ∧ T i = none ∧ ∀ j, j < i → T j ≠ none := by
  have h1 : ∃ i, i < 8 ∧ T i = none := by
    by_cases h : ∃ i, i < 8 ∧ T i = none
    · exact h
    · exfalso
      have hall : ∀ i ∈ List.range 8, i ∈ 0 :: handsOf xs := fun i hi => by
        have hi8 := List.mem_range.1 hi
        by_cases h0 : i = 0
        · simp [h0]
        · by_cases hm : ∀ x ∈ xs, i ≠ x.hr ∧ (i : Int) ≠ x.hi
          · exact absurd ⟨i, hi8, d.non i (by omega) hi8 hm⟩ h
          · rw [Classical.not_forall] at hm
            obtain ⟨x, hm⟩ := hm
            rw [Classical.not_imp] at hm
            obtain ⟨hx, hm⟩ := hm
            refine List.mem_cons.2 (.inr (List.mem_flatMap.2 ⟨x, hx, ?_⟩))
            rw [List.mem_cons, List.mem_singleton]
            omega
      have hlen := nodup_len (List.nodup_range (n := 8)) hall
      have hl : (handsOf xs).length = xs.length * 2 := flat_length (f := fun x : Th => [x.hr, x.hi.toNat]) (c := 2) (fun _ => rfl) xs
      rw [List.length_range, List.length_cons, hl] at hlen
      have := d.len
      omega
  obtain ⟨i, hi⟩ := h1
  have least : ∀ n, ∀ i, i ≤ n → i < 8 ∧ T i = none → ∃ i, i < 8 ∧ T i = none ∧ ∀ j, j < i → T j ≠ none := by
    intro n
    induction n with
    | zero => exact fun i hi h => ⟨i, h.1, h.2, fun j hj => by omega⟩
    | succ n ih =>
      intro i hi h
      by_cases hh : ∃ j, j < i ∧ T j = none
      · obtain ⟨j, hj, hT⟩ := hh
        exact ih j (by omega) ⟨by omega, hT⟩
      · exact ⟨i, h.1, h.2, fun j hj e => hh ⟨j, hj, e⟩⟩
  obtain ⟨i, h1, h2, h3⟩ := least i i (Nat.le_refl _) hi
  refine ⟨i, ?_, h1, h2, h3⟩
  rcases Nat.eq_zero_or_pos i with rfl | h
  · rw [d.cat0] at h2; cases h2
  · exact h
theorem DBT.free (d : DBT T xs) {i : Nat} (hi : T i = none) : ∀ x ∈ xs, i ≠ x.hr ∧ (i : Int) ≠ x.hi := fun x hx => by
  refine ⟨fun e => ?_, fun e => ?_⟩
  · rw [e, d.rws x hx] at hi; cases hi
  · obtain ⟨es, h1, _⟩ := d.idx x hx (by omega)
    rw [← e, Int.toNat_natCast, hi] at h1; cases h1
/-- A table comes in. -/
theorem DBT.add {y : Th} {ce : Es} (d : DBT T xs) (hl : xs.length < 3) (hn : ∀ x ∈ xs, x.tb.name ≠ y.tb.name) (ok : TbOk y.tb) (okh : HdOk y.hd) (hr : y.tb.rows = []) (hi : y.hi = -1) (hT : T y.hr = none) (h8 : y.hr < 8)
    (hs : Srt ce) (hce : ∀ e, e ∈ ce ↔ e ∈ cat xs ∨ e ∈ catE y) : DBT (fset (fset T y.hr (some [])) 0 (some ce)) (insTh y xs) := by
  have h0 : 0 < y.hr := by
    rcases Nat.eq_zero_or_pos y.hr with h | h
    · rw [h, d.cat0] at hT; cases hT
    · exact h
  have fr := d.free hT
  have hsrt := insTh_srt d.srt hn
  have oky : y.tb.name.size ≤ 6 ∧ y.tb.cols.length ≤ 3 := by
    have := ok
    unfold TbOk at this
    exact ⟨this.1.2, this.2.1.2⟩
  have ece : ce = cat (insTh y xs) := by
    refine srt_ext hs (cat_srt (fun x hx => ?_) hsrt) fun e => ?_
    · rcases mem_insTh.1 hx with rfl | hx
      · exact oky
      · exact d.small x hx
    · rw [hce, mem_cat, mem_cat]
      constructor
      · rintro (⟨x, hx, h⟩ | h)
        · exact ⟨x, mem_insTh.2 (.inr hx), h⟩
        · exact ⟨y, mem_insTh.2 (.inl rfl), h⟩
      · rintro ⟨x, hx, h⟩
        rcases mem_insTh.1 hx with rfl | hx
        · exact .inr h
        · exact .inl ⟨x, hx, h⟩
  have hrx : ∀ x ∈ xs, 0 < x.hr ∧ x.hr < 8 ∧ (x.hi = -1 ∨ 0 < x.hi) := fun x hx => by
    have h := (d.ok x hx).2
    unfold HdOk at h
    refine ⟨h.2.2.2.2.2.2.1, h.2.2.2.2.2.2.2.1, ?_⟩
    rcases h.2.2.2.2.2.2.2.2 with ⟨_, h⟩ | ⟨_, h1, _, h2⟩
    · exact .inl h
    · exact .inr h1
  refine ⟨by rw [fset_eq, ece], hsrt, by rw [insTh_len]; omega, fun x hx => ?_, fun x hx => ?_, fun x hx h => ?_, fun x hx z hz hne => ?_, fun i h1 h2 h3 => ?_⟩
  · rcases mem_insTh.1 hx with rfl | hx
    · exact ⟨ok, okh⟩
    · exact d.ok x hx
  · rcases mem_insTh.1 hx with rfl | hx
    · rw [fset_ne (by omega), fset_eq]
      unfold rowsE
      rw [hr]; rfl
    · have := hrx x hx
      rw [fset_ne (by omega), fset_ne (by have := (fr x hx).1; omega)]
      exact d.rws x hx
  · rcases mem_insTh.1 hx with rfl | hx
    · omega
    · have := hrx x hx
      rw [fset_ne (by omega), fset_ne (by have := (fr x hx).2; omega)]
      exact d.idx x hx h
  · rcases mem_insTh.1 hx with e1 | hx'
    · rcases mem_insTh.1 hz with e2 | hz'
      · exact absurd (by rw [e1, e2]) hne
      · have := fr z hz'
        rw [e1]
        exact ⟨this.1, this.2, fun h => by omega⟩
    · rcases mem_insTh.1 hz with e2 | hz'
      · have := fr x hx'
        rw [e2]
        exact ⟨fun e => this.1 e.symm, by omega, fun h => by omega⟩
      · exact d.dis x hx' z hz' hne
  · have a := h3 y (mem_insTh.2 (.inl rfl))
    rw [fset_ne (by omega), fset_ne a.1]
    exact d.non i h1 h2 fun x hx => h3 x (mem_insTh.2 (.inr hx))
def delTh (nm : ByteArray) (xs : List Th) : List Th := xs.filter fun x => decide (x.tb.name ≠ nm)
theorem mem_delTh {z : Th} : z ∈ delTh nm xs ↔ z ∈ xs ∧ z.tb.name ≠ nm := by simp [delTh]
/-- A table goes. -/
theorem DBT.del {T' : Nat → Option Es} {x : Th} {ce : Es} (d : DBT T xs) (hx : x ∈ xs) (hs : Srt ce) (hce : ∀ e, e ∈ ce ↔ e ∈ cat xs ∧ ∀ j, j ≤ x.tb.cols.length → e.1 ≠ catK x.tb.name j)
    (h0 : T' 0 = some ce) (h1 : T' x.hr = none) (h2 : 0 ≤ x.hi → T' x.hi.toNat = none) (h3 : ∀ j, 0 < j → j ≠ x.hr → (j : Int) ≠ x.hi → T' j = T j) : DBT T' (delTh x.tb.name xs) := by
  have sub : ∀ {z}, z ∈ delTh x.tb.name xs → z ∈ xs := fun h => (mem_delTh.1 h).1
  have hsrt : (delTh x.tb.name xs).Pairwise (fun a b => sl a.tb.name b.tb.name = true) := List.Pairwise.sublist List.filter_sublist d.srt
  have ece : ce = cat (delTh x.tb.name xs) := by
    refine srt_ext hs (cat_srt (fun z hz => d.small z (sub hz)) hsrt) fun e => ?_
    rw [hce, mem_cat, mem_cat]
    constructor
    · rintro ⟨⟨z, hz, h⟩, hne⟩
      refine ⟨z, mem_delTh.2 ⟨hz, fun en => ?_⟩, h⟩
      obtain ⟨j, hj, ek⟩ := catE_key h
      have := uniq_name d.srt hz hx en
      subst this
      exact hne j hj ek
    · rintro ⟨z, hz, h⟩
      have hz' := mem_delTh.1 hz
      refine ⟨⟨z, hz'.1, h⟩, fun j hj e => ?_⟩
      obtain ⟨j', hj', ek⟩ := catE_key h
      have s1 := d.small z hz'.1
      have s2 := d.small x hx
      rw [ek] at e
      exact hz'.2 (catK_inj s1.1 s2.1 (by omega) (by omega) e).1
  refine ⟨by rw [h0, ece], hsrt, Nat.le_trans (List.length_filter_le _ _) d.len, fun z hz => d.ok z (sub hz), fun z hz => ?_, fun z hz h => ?_, fun y hy z hz hne => d.dis y (sub hy) z (sub hz) hne, fun i i1 i2 i3 => ?_⟩
  · have hz' := mem_delTh.1 hz
    have a := d.dis z hz'.1 x hx hz'.2
    have b := (d.ok z hz'.1).2
    unfold HdOk at b
    rw [h3 z.hr b.2.2.2.2.2.2.1 a.1 a.2.1]
    exact d.rws z hz'.1
  · have hz' := mem_delTh.1 hz
    have a := d.dis z hz'.1 x hx hz'.2
    have a2 := d.dis x hx z hz'.1 fun e => hz'.2 e.symm
    have b := (d.ok z hz'.1).2
    unfold HdOk at b
    have hp : 0 < z.hi := by
      rcases b.2.2.2.2.2.2.2.2 with ⟨_, h⟩ | ⟨_, h1, _, h2⟩
      · have h : z.hi = -1 := h
        omega
      · exact h1
    rw [h3 z.hi.toNat (by omega) (by have := a2.2.1; omega) (by have := a.2.2 h; omega)]
    exact d.idx z hz'.1 h
  · by_cases e1 : i = x.hr
    · rw [e1]; exact h1
    · by_cases e2 : (i : Int) = x.hi
      · have := h2 (by omega)
        rw [← e2] at this
        exact this
      · rw [h3 i i1 e1 e2]
        refine d.non i i1 i2 fun z hz => ?_
        by_cases en : z.tb.name = x.tb.name
        · rw [uniq_name d.srt hz hx en]
          exact ⟨e1, e2⟩
        · exact i3 z (mem_delTh.2 ⟨hz, en⟩)
end Go.Proofs.Qxb6500564aGreat
