/-
  The law spoils what it was handed.
-/
import Derived.Test.Qxb6500564aGreatRbA
namespace Go.Proofs.Qxb6500564aGreat
open Go.Den Go.Zip
set_option linter.unusedVariables false
set_option linter.unusedSimpArgs false
variable {w w' w3 u v : World} {i j k n a b b0 q g d p : Nat} {nm n0 : ByteArray} {cs cs2 : List Cl} {s1 s2 sa sb r x : Sl} {row row2 : List Vl} {ss sr : List Sl} {rows rows2 : List (List Vl)} {xs ys : List ByteArray} {vs : List Value}

theorem strC_map (l : List ByteArray) : strC l = strs l := by
  unfold strC strs
  induction l with
  | nil => rfl
  | cons a l ih => rw [List.flatMap_cons, ih]; rfl
theorem spoil_spec {K : World → Prop} (o : OS w x (rowC row) 3) (hl : row.length < 1000000000000) (hK : ∀ w', FrP (owns x) w w' → K w') : S.towerlaw_Spoil x w K := by
  unfold S.towerlaw_Spoil
  have la : x.l = row.length := lenAt (c := 3) (f := valC) (fun _ => rfl) o (by omega)
  refine loopN (fun m sv u => ∃ (p : Nat) (row' : List Vl), sv = ((p : Int), ()) ∧ p + m = row.length ∧ row'.length = row.length ∧ OS u x (rowC row') 3 ∧ FrP (owns x) w u) row.length ⟨0, row, rfl, by omega, rfl, o, FrP.refl _ _⟩ ?_
  rintro m _ u ⟨p, row', rfl, hm, hrl, ou, F⟩ Q hQ
  dsimp only
  refine ifd (fun hlt => ?_) fun hlt => hK u F
  have hlt : p < row'.length := by omega
  obtain ⟨e, he⟩ : ∃ e, row'[p]? = some e := ⟨_, List.getElem?_eq_getElem hlt⟩
  refine join_W (fun u2 => ∃ row2, row2.length = row.length ∧ OS u2 x (rowC row2) 3 ∧ FrP (owns x) w u2) ?_ fun J hJ => ?_
  · rintro u2 ⟨row2, h1, h2, h3⟩
    refine let_ ?_
    rw [W_succ (by omega)]
    exact hQ (m - 1) _ _ (by omega) ⟨p + 1, row2, rfl, by omega, h1, h2, h3⟩
  · refine cellAt (c := 3) (f := valC) (fun _ => rfl) ou (by omega) he fun g1 us1 hb1 e01 ek1 _ => ldB hb1 e01 (ifb (fun hs => ?_) fun hs => ?_)
    · refine apiInt_spec fun u1 g => osSet (val := ⟨false, 1, ⟨#[]⟩⟩) (OS.fr0 ou g) hlt fun u2 o2 F2 => hJ u2 ⟨_, by rw [List.length_set]; exact hrl, o2, (F.trans (FrP.of0 g)).trans F2⟩
    · refine apiStr_spec fun u1 g => osSet (val := ⟨true, 0, ⟨#[33]⟩⟩) (OS.fr0 ou g) hlt fun u2 o2 F2 => hJ u2 ⟨_, by rw [List.length_set]; exact hrl, o2, (F.trans (FrP.of0 g)).trans F2⟩
theorem spoilAll_spec {K : World → Prop} (fr : FR b0 w r ss rows) (hl : rows.length < 1000000000000) (hrl : ∀ t ∈ rows, t.length < 1000000000000) (hK : ∀ w', FrP (fun b => owns r b ∨ ∃ t ∈ ss, owns t b) w w' → K w') : S.towerlaw_SpoilAll r w K := by
  unfold S.towerlaw_SpoilAll
  have la := fr.len
  refine loopN (fun m sv u => ∃ (p : Nat) (ss' : List Sl), sv = ((p : Int), ()) ∧ p + m = rows.length ∧ ss'.length = ss.length ∧ OS u r (ss'.map slV) 1 ∧ (∀ j, p ≤ j → ss'[j]? = ss[j]?) ∧ (∀ j t row, p ≤ j → ss[j]? = some t → rows[j]? = some row → OS u t (rowC row) 3) ∧ FrP (fun b => owns r b ∨ ∃ t ∈ ss, owns t b) w u) rows.length ⟨0, ss, rfl, by omega, rfl, fr.arr, fun j _ => rfl, fun j t row _ h1 h2 => fr.row.2 j t row h1 h2, FrP.refl _ _⟩ ?_
  rintro m _ u ⟨p, ss', rfl, hm, hsl, oa, hss, hro, F⟩ Q hQ
  dsimp only
  refine ifd (fun hlt => ?_) fun hlt => hK u F
  have hlt : p < rows.length := by omega
  have hps : p < ss.length := by rw [fr.row.1]; exact hlt
  obtain ⟨row, hrow⟩ : ∃ row, rows[p]? = some row := ⟨_, List.getElem?_eq_getElem hlt⟩
  obtain ⟨t, ht⟩ : ∃ t, ss[p]? = some t := ⟨_, List.getElem?_eq_getElem hps⟩
  have ht' : ss'[p]? = some t := by rw [hss p (Nat.le_refl _)]; exact ht
  have htm := List.mem_of_getElem? ht
  refine ss_get ht' (o := oa) (spoil_spec (hro p t row (Nat.le_refl _) ht hrow) (hrl row (List.mem_of_getElem? hrow)) fun u2 F2 => ?_)
  refine ssSet (t := nilS) (oa.frp F2 fun b hb h => (fr.rb t htm b h).2 hb) (by rw [hsl]; exact hps) fun u3 o3 F3 => let_ ?_
  rw [W_succ (by omega)]
  refine hQ (m - 1) _ _ (by omega) ⟨p + 1, ss'.set p nilS, rfl, by omega, by rw [List.length_set]; exact hsl, o3, fun j hj => by rw [List.getElem?_set_ne (by omega)]; exact hss j (by omega), fun j t' row' hj h1 h2 => ?_, (F.trans (F2.mono fun b hb => .inr ⟨t, htm, hb⟩)).trans (F3.mono fun b hb => .inl hb)⟩
  have := hro j t' row' (by omega) h1 h2
  refine (this.frp F2 fun b hb h => ?_).frp F3 fun b hb h => (fr.rb t' (List.mem_of_getElem? h1) b hb).2 h
  exact pw_get (fun a c h b hb hb' => h b hb' hb) fr.dis (by omega) h1 ht b hb h
theorem spoilNames_spec {K : World → Prop} (o : OS w x (strC xs) 1) (hl : xs.length < 1000000000000) (hK : ∀ w', FrP (owns x) w w' → K w') : S.towerlaw_SpoilNames x w K := by
  unfold S.towerlaw_SpoilNames
  have la : x.l = xs.length := lenAt (c := 1) (f := fun x : ByteArray => [Value.string x]) (fun _ => rfl) o (by omega)
  refine loopN (fun m sv u => ∃ (p : Nat) (xs' : List ByteArray), sv = ((p : Int), ()) ∧ p + m = xs.length ∧ xs'.length = xs.length ∧ OS u x (strC xs') 1 ∧ FrP (owns x) w u) xs.length ⟨0, xs, rfl, by omega, rfl, o, FrP.refl _ _⟩ ?_
  rintro m _ u ⟨p, xs', rfl, hm, hxl, ou, F⟩ Q hQ
  dsimp only
  refine ifd (fun hlt => ?_) fun hlt => hK u F
  have hlt : p < xs'.length := by omega
  have eC : ∀ l : List ByteArray, strC l = l.map Value.string := fun l => by
    unfold strC
    induction l with
    | nil => rfl
    | cons a l ih => rw [List.flatMap_cons, ih]; rfl
  rcases ou with ⟨_, e⟩ | ⟨g, hg, hll, hc, junk, hb, hbl⟩
  · rw [eC] at e
    have := congrArg List.length e
    rw [List.length_map] at this
    exact absurd this (by show ¬ _ = 0; omega)
  · refine ix hg (by omega) (by omega) ?_
    rw [show 0 + Int.toNat (p : Int) * 1 = p by rw [Int.toNat_natCast]; omega]
    refine st1 hb (by rw [List.length_append, eC, List.length_map]; omega) fun u2 b2 f2 _ => let_ ?_
    rw [W_succ (by omega)]
    have e2 : (strC xs' ++ junk).set p (.string ⟨#[33]⟩) = strC (xs'.set p ⟨#[33]⟩) ++ junk := by
      rw [List.set_append_left _ _ (by rw [eC, List.length_map]; exact hlt), eC, eC, List.map_set]
    rw [e2] at b2
    have hL : (strC (xs'.set p ⟨#[33]⟩)).length = (strC xs').length := by rw [eC, eC, List.length_map, List.length_map, List.length_set]
    refine hQ (m - 1) _ _ (by omega) ⟨p + 1, xs'.set p ⟨#[33]⟩, rfl, by omega, by rw [List.length_set]; exact hxl, .inr ⟨g, hg, by rw [hL]; exact hll, hc, junk, b2, by rw [List.length_append, hL, ← List.length_append]; exact hbl⟩, F.trans (FrP.of f2 fun b h1 h2 => ?_)⟩
    have : b = g := by omega
    subst this
    exact hg
theorem spoilCols_spec {K : World → Prop} (o : OS w x (colC cs) 2) (hl : cs.length < 1000000) (hK : ∀ w', FrP (owns x) w w' → K w') : S.towerlaw_SpoilCols x w K := by
  unfold S.towerlaw_SpoilCols
  have la : x.l = cs.length := lenAt (c := 2) (f := colC1) (fun _ => rfl) o (by omega)
  rcases o with ⟨_, e⟩ | ⟨g, hg, hll, hc, junk, hb, hbl⟩
  · have := colC_len cs
    rw [e] at this
    have h0 : cs.length = 0 := by
      have : 0 = cs.length * 2 := this
      omega
    refine loopN (fun m sv u => sv = (0, ()) ∧ u = w) 0 ⟨rfl, rfl⟩ ?_
    rintro m _ _ ⟨rfl, rfl⟩ Q hQ
    dsimp only
    exact ifd (fun h => absurd h (by omega)) fun _ => hK _ (FrP.refl _ _)
  · have hcl := colC_len cs
    refine loopN (fun m sv u => ∃ (p : Nat) (vs : List Value), sv = ((p : Int), ()) ∧ p + m = cs.length ∧ vs.length = (colC cs ++ junk).length ∧ Blk u g vs ∧ (∀ j, p * 2 ≤ j → vs[j]? = (colC cs ++ junk)[j]?) ∧ FrP (owns x) w u) cs.length ⟨0, _, rfl, by omega, rfl, hb, fun j _ => rfl, FrP.refl _ _⟩ ?_
    rintro m _ u ⟨p, vs, rfl, hm, hvl, bu, hvs, F⟩ Q hQ
    dsimp only
    refine ifd (fun hlt => ?_) fun hlt => hK u F
    have hlt : p < cs.length := by omega
    obtain ⟨c, hcp⟩ : ∃ c, cs[p]? = some c := ⟨_, List.getElem?_eq_getElem hlt⟩
    have hcell : vs[p * 2 + 1]? = some (.bool c.st) := by
      rw [hvs _ (by omega), List.getElem?_append_left (by rw [hcl]; omega)]
      have := flat_get (f := colC1) (c := 2) colC1_len cs p 1 (by omega)
      rw [hcp] at this
      exact this
    have e0 : 0 + Int.toNat (p : Int) * 2 = p * 2 := by rw [Int.toNat_natCast]; omega
    rw [List.length_append, hcl] at hvl
    refine ix hg (by omega) (by omega) ?_
    rw [e0]
    refine ldB bu hcell (ix hg (by omega) (by omega) ?_)
    rw [e0]
    refine st1 bu (by omega) fun u2 b2 f2 _ => st1 b2 (by rw [List.length_set]; omega) fun u3 b3 f3 _ => let_ ?_
    rw [W_succ (by omega)]
    refine hQ (m - 1) _ _ (by omega) ⟨p + 1, _, rfl, by omega, by rw [List.length_set, List.length_set, List.length_append, hcl]; exact hvl, b3, fun j hj => by rw [List.getElem?_set_ne (by omega), List.getElem?_set_ne (by omega)]; exact hvs j (by omega), F.trans (FrP.of (f2.trans f3) fun b h1 h2 => ?_)⟩
    have : b = g := by omega
    subst this
    exact hg
end Go.Proofs.Qxb6500564aGreat
