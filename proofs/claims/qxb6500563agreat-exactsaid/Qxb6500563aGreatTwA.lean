/-
  towerexact's small helpers: few, pick, sameEntries, sameInfos, copyEntries.
-/
import Derived.Test.Qxb6500563aGreatRtR
import Derived.Test.Qxb6500563aGreatKeepT
namespace Go.Proofs.Qxb6500563aGreat
open Go.Den Go.Zip
set_option linter.unusedVariables false
set_option linter.unusedSimpArgs false
variable {w w' : World}

theorem cell_fr {b o : Nat} (f : Fr 0 0 w w') (hb : b < w.heap.size) : w'.cell? ⟨b, o, none⟩ = w.cell? ⟨b, o, none⟩ := by
  unfold World.cell?
  show (match w'.heap[b]? with | some (.cells c _ _) => _ | _ => _) = (match w.heap[b]? with | some (.cells c _ _) => _ | _ => _)
  rw [f.2 b hb (by omega)]
/-- A slice of strings that is only read. -/
structure StrS (w : World) (s : Sl) (ss : List ByteArray) : Prop where
  len : s.l = ss.length
  ex : ss = [] ∨ ∃ b o, s.a = some ⟨b, o, none⟩ ∧ b < w.heap.size ∧ ∀ i x, ss[i]? = some x → w.cell? ⟨b, o + i, none⟩ = some (.string x)
theorem StrS.fr {s : Sl} {ss : List ByteArray} (h : StrS w s ss) (f : Fr 0 0 w w') : StrS w' s ss := by
  refine ⟨h.len, ?_⟩
  rcases h.ex with e | ⟨b, o, h1, h2, h3⟩
  · exact .inl e
  · exact .inr ⟨b, o, h1, Nat.lt_of_lt_of_le h2 f.1, fun i x hx => by rw [cell_fr f h2]; exact h3 i x hx⟩
theorem StrS.get {s : Sl} {ss : List ByteArray} {i : Nat} {x : ByteArray} {K : ByteArray → Prop} (h : StrS w s ss) (hx : ss[i]? = some x) (hk : K x) : Ix s.a s.l (i : Int) fun b o => LdStr w ⟨b, o + Int.toNat (i : Int) * 1, none⟩ K := by
  obtain ⟨hi, _⟩ := List.getElem?_eq_some_iff.1 hx
  rcases h.ex with e | ⟨b, o, h1, h2, h3⟩
  · rw [e] at hi; simp at hi
  · exact ix h1 (by omega) (by have := h.len; omega) ⟨x, by rw [Int.toNat_natCast, Nat.mul_one]; exact h3 i x hx, hk⟩
theorem few_spec {s : Sl} {ss : List ByteArray} {K : Bool → World → Prop} (h : StrS w s ss) (hK : ∀ r, (r = true → ss.length ≤ 1073741824) → K r w) : S.towerexact_few s w K := by
  unfold S.towerexact_few
  have hlen := h.len
  by_cases hb : 1073741824 < ss.length
  · rw [if_pos (by simp only [decide_eq_true_eq]; omega)]
    exact hK false (fun h => by cases h)
  rw [if_neg (by simp only [decide_eq_true_eq]; omega)]
  refine let_ ?_
  refine loopN (fun m st v => ∃ (n : Int) (i : Nat), st = (n, (i : Int), ()) ∧ m + i = ss.length ∧ v = w) ss.length ⟨_, 0, rfl, rfl, rfl⟩ ?_
  rintro m _ v ⟨n, i, rfl, hm, rfl⟩ Q hQ
  dsimp only
  by_cases hi : i < ss.length
  · rw [if_pos (by simp only [decide_eq_true_eq]; omega)]
    refine h.get (List.getElem?_eq_getElem hi) ?_
    refine let_ ?_
    split
    · exact hK false (fun h => by cases h)
    · rw [W_succ (by omega)]
      exact let_ (hQ (m - 1) _ _ (by omega) ⟨_, i + 1, rfl, by omega, rfl⟩)
  · rw [if_neg (by simp only [decide_eq_true_eq]; omega)]
    exact hK true fun _ => by omega
theorem pick_spec {c : Int} {n : Nat} {K : Int → World → Prop} (h0 : -9223372036854775808 ≤ c) (h1 : c < 9223372036854775808) (hn : 0 < n) (hK : ∀ r : Nat, r < n → K (r : Int) w) : S.towerexact_pick c n w K := by
  unfold S.towerexact_pick
  have fin : ∀ x : Int, 0 ≤ x → NonZ (n : Int) (K (Int.tmod x n) w) := fun x hx => by
    refine ⟨by omega, ?_⟩
    have e : Int.tmod x n = ((x.toNat % n : Nat) : Int) := by
      have : x = (x.toNat : Int) := by omega
      rw [this]; exact tmod_nat _ _
    rw [e]
    exact hK _ (Nat.mod_lt _ hn)
  refine join_ ?_
  dsimp only
  by_cases hc : c < 0
  · rw [if_pos (by simp only [decide_eq_true_eq]; omega)]
    rw [W_id (x := c + 1) (by omega) (by omega), W_id (by omega) (by omega)]
    exact let_ (fin _ (by omega))
  · rw [if_neg (by simp only [decide_eq_true_eq]; omega)]
    exact fin _ (by omega)
theorem eq_ents (e : Ent) : eqL [.string e.1, .string e.2] [.string e.1, .string e.2] = true := by simp [eqL, eqV]
theorem sameEntries_spec {a b : Sl} {x y : Nat} {es : List Ent} {K : Bool → World → Prop} (ha : EntS w a x es) (hb : EntS w b y es) (hl : es.length < 4611686018427387904) (hK : ∀ w', w'.heap = w.heap → K true w') : S.towerexact_sameEntries a b w K := by
  unfold S.towerexact_sameEntries
  have h1 := ha.len
  have h2 := hb.len
  rw [if_neg (by simp only [bne_iff_ne, ne_eq]; omega)]
  refine loopN (fun m st v => ∃ i : Nat, st = ((i : Int), ()) ∧ m + i = es.length ∧ v.heap = w.heap) es.length ⟨0, rfl, rfl, rfl⟩ ?_
  rintro m _ v ⟨i, rfl, hm, hv⟩ Q hQ
  dsimp only
  by_cases hi : i < es.length
  · rw [if_pos (by simp only [decide_eq_true_eq]; omega)]
    have he : es[i]? = some es[i] := List.getElem?_eq_getElem hi
    refine drew_ ?_
    refine (ha.heq (w' := v.drew) hv).get he fun o vs g1 g2 g3 => ?_
    refine ldStr g1 (by rw [Int.toNat_natCast]; exact g2) (ldStr g1 (by rw [Int.toNat_natCast]; exact g3) ?_)
    refine (hb.heq (w' := v.drew) hv).get he fun o vs g1 g2 g3 => ?_
    refine ldStr g1 (by rw [Int.toNat_natCast]; exact g2) (ldStr g1 (by rw [Int.toNat_natCast]; exact g3) ?_)
    rw [if_neg (by rw [eq_ents]; simp), W_succ (by omega)]
    exact let_ (hQ (m - 1) _ _ (by omega) ⟨i + 1, rfl, by omega, hv⟩)
  · rw [if_neg (by simp only [decide_eq_true_eq]; omega)]
    exact hK v hv
/-- A slice of infos that is only read. -/
structure InfS (w : World) (sl : Sl) (b : Nat) (xs : List Inf) : Prop where
  len : sl.l = xs.length
  ex : xs = [] ∨ (sl.a = some ⟨b, 0, none⟩ ∧ Blk w b (xs.flatMap infV))
theorem InfS.fr {sl : Sl} {b p n : Nat} {xs : List Inf} (h : InfS w sl b xs) (f : Fr p n w w') (hb : xs = [] ∨ b < p ∨ p + n ≤ b) : InfS w' sl b xs := by
  refine ⟨h.len, ?_⟩
  rcases h.ex with e | ⟨h1, h2⟩
  · exact .inl e
  · rcases hb with e | hb
    · exact .inl e
    · exact .inr ⟨h1, h2.fr f hb⟩
theorem InfS.heq {sl : Sl} {b : Nat} {xs : List Inf} (h : InfS w sl b xs) (e : w'.heap = w.heap) : InfS w' sl b xs := h.fr (Fr.heq (Fr.refl 0 0 w) e) (by omega)
theorem InfS.get {sl : Sl} {b i : Nat} {xs : List Inf} {e : Inf} {K : ByteArray → Int → Int → Prop} (h : InfS w sl b xs) (he : xs[i]? = some e) (hk : K e.1 e.2.1 e.2.2) :
    Ix sl.a sl.l (i : Int) fun b o => LdStr w ⟨b, o + Int.toNat (i : Int) * 3, none⟩ fun n => LdI .i64 w ⟨b, o + Int.toNat (i : Int) * 3 + 1, none⟩ fun s => LdI .i64 w ⟨b, o + Int.toNat (i : Int) * 3 + 2, none⟩ fun r => K n s r := by
  obtain ⟨hi, _⟩ := List.getElem?_eq_some_iff.1 he
  rcases h.ex with e0 | ⟨h1, h2⟩
  · rw [e0] at hi; simp at hi
  · refine ix h1 (by omega) (by have := h.len; omega) ?_
    rw [Int.toNat_natCast, Nat.zero_add]
    refine ldStr h2 ?_ (ldI h2 ?_ (ldI h2 ?_ hk))
    · rw [show i * 3 = i * 3 + 0 from rfl, flat_get (c := 3) (fun _ => rfl) _ _ _ (by omega), he]; rfl
    · rw [flat_get (c := 3) (fun _ => rfl) _ _ _ (by omega), he]; rfl
    · rw [flat_get (c := 3) (fun _ => rfl) _ _ _ (by omega), he]; rfl
theorem eq_infs (n : ByteArray) (s r : Int) : eqL [.string n, .int .i64 s, .int .i64 r] [.string n, .int .i64 s, .int .i64 r] = true := by simp [eqL, eqV]
theorem sameInfos_spec {a b : Sl} {x y : Nat} {xs : List Inf} {K : Bool → World → Prop} (ha : InfS w a x xs) (hb : InfS w b y xs) (hl : xs.length < 4611686018427387904) (hK : ∀ w', w'.heap = w.heap → K true w') : S.towerexact_sameInfos a b w K := by
  unfold S.towerexact_sameInfos
  have h1 := ha.len
  have h2 := hb.len
  rw [if_neg (by simp only [bne_iff_ne, ne_eq]; omega)]
  refine loopN (fun m st v => ∃ i : Nat, st = ((i : Int), ()) ∧ m + i = xs.length ∧ v.heap = w.heap) xs.length ⟨0, rfl, rfl, rfl⟩ ?_
  rintro m _ v ⟨i, rfl, hm, hv⟩ Q hQ
  dsimp only
  by_cases hi : i < xs.length
  · rw [if_pos (by simp only [decide_eq_true_eq]; omega)]
    have he : xs[i]? = some xs[i] := List.getElem?_eq_getElem hi
    refine drew_ ?_
    refine (ha.heq (w' := v.drew) hv).get he ?_
    refine (hb.heq (w' := v.drew) hv).get he ?_
    rw [if_neg (by rw [eq_infs]; simp), W_succ (by omega)]
    exact let_ (hQ (m - 1) _ _ (by omega) ⟨i + 1, rfl, by omega, hv⟩)
  · rw [if_neg (by simp only [decide_eq_true_eq]; omega)]
    exact hK v hv
theorem ent_cells {vs : List Value} {o : Nat} {es : List Ent} (h : ∀ i e, es[i]? = some e → vs[o + i * 2]? = some (.string e.1) ∧ vs[o + i * 2 + 1]? = some (.string e.2)) : (vs.drop o).take (es.length * 2) = es.flatMap entV := by
  refine List.ext_getElem? fun j => ?_
  by_cases hj : j < es.length * 2
  · rw [List.getElem?_take, if_pos hj, List.getElem?_drop]
    have hi : j / 2 < es.length := by omega
    have he : es[j / 2]? = some es[j / 2] := List.getElem?_eq_getElem hi
    obtain ⟨h1, h2⟩ := h _ _ he
    rcases Nat.mod_two_eq_zero_or_one j with hm | hm
    · rw [show o + j = o + j / 2 * 2 by omega, h1]
      conv => rhs; rw [show j = j / 2 * 2 + 0 by omega]
      rw [flat_get (c := 2) (fun _ => rfl) _ _ _ (by omega), he]; rfl
    · rw [show o + j = o + j / 2 * 2 + 1 by omega, h2]
      conv => rhs; rw [show j = j / 2 * 2 + 1 by omega]
      rw [flat_get (c := 2) (fun _ => rfl) _ _ _ (by omega), he]; rfl
  · rw [List.getElem?_eq_none (by simp; omega), List.getElem?_eq_none (by rw [flat_length (c := 2) (fun _ => rfl)]; omega)]
theorem EntS.ofBlk {b o : Nat} {sl : Sl} {es : List Ent} {junk pre : List Value} (h : Blk w b (pre ++ es.flatMap entV ++ junk)) (hp : pre.length = o) (ha : sl.a = some ⟨b, o, none⟩) (hl : sl.l = es.length) : EntS w sl b es := by
  refine ⟨hl, .inr ⟨o, _, ha, h, fun i e he => ?_⟩⟩
  obtain ⟨hi, _⟩ := List.getElem?_eq_some_iff.1 he
  have hfl : (es.flatMap entV).length = es.length * 2 := flat_length (c := 2) (fun _ => rfl) _
  constructor
  · rw [List.append_assoc, List.getElem?_append_right (by omega), List.getElem?_append_left (by omega), show o + i * 2 - pre.length = i * 2 + 0 by omega, flat_get (c := 2) (fun _ => rfl) _ _ _ (by omega), he]; rfl
  · rw [List.append_assoc, List.getElem?_append_right (by omega), List.getElem?_append_left (by omega), show o + i * 2 + 1 - pre.length = i * 2 + 1 by omega, flat_get (c := 2) (fun _ => rfl) _ _ _ (by omega), he]; rfl
theorem ents_ok (es : List Ent) : (es.flatMap entV).all okV = true := by
  rw [List.all_eq_true]
  intro v hv
  simp only [List.mem_flatMap, entV, List.mem_cons, List.not_mem_nil, or_false] at hv
  obtain ⟨e, _, rfl | rfl⟩ := hv <;> rfl
theorem copyEntries_spec {a : Sl} {x : Nat} {es : List Ent} {K : Sl → World → Prop} (ha : EntS w a x es) (hl : es.length ≤ 1099511627776)
    (hK : ∀ sl w', EntS w' sl w.heap.size es → Fr 0 0 w w' → w'.heap.size = w.heap.size + 1 → sl.l = es.length → sl.c = es.length → K sl w') : S.towerexact_copyEntries a w K := by
  unfold S.towerexact_copyEntries
  have h1 := ha.len
  refine mkS (by omega) (by omega) (by omega) (by omega) fun w1 b1 f1 s1 => ?_
  simp only [Int.toNat_natCast] at b1 ⊢
  have hfl : (es.flatMap entV).length = es.length * 2 := flat_length (c := 2) (fun _ => rfl) _
  rcases ha.ex with e | ⟨o, vs, g1, g2, g3⟩
  · subst e
    refine copyS_nil (by simp [h1]) ?_
    exact hK _ w1 ⟨by simpa using h1, .inl rfl⟩ f1 s1 (by simpa using h1) (by simpa using h1)
  · have hrl : (reps [Value.string ⟨#[]⟩, .string ⟨#[]⟩] a.l).length = a.l * 2 := by rw [reps_length]; rfl
    refine copyS (n := es.length) (g2.fr f1 (by omega)) g1 b1 rfl (by simp [h1]) (ent_cells g3) hfl (ents_ok es) (by simp only [hrl, hfl]; omega) fun w2 b2 f2 s2 => ?_
    simp only [List.take_zero, List.nil_append] at b2
    refine hK _ w2 (EntS.ofBlk (pre := []) b2 rfl rfl h1) (((f1.any _ 1).trans f2).fresh (Nat.le_refl _) 0 0) (by omega) h1 h1
end Go.Proofs.Qxb6500563aGreat
