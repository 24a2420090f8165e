/-
  towerexact.Exact: reading and copying what the script has made.
-/
import Derived.Test.Qxb6500563aGreatTwD
namespace Go.Proofs.Qxb6500563aGreat
open Go.Den Go.Zip
set_option linter.unusedVariables false
set_option linter.unusedSimpArgs false
section
variable {W0 w w' : World} {p B : Nat} {T T' : Nat → Tag} {d d' : Gh} {s : Sl} {vs : List Value} {sz : Nat}
theorem OS.get {i : Nat} {K : Nat → Nat → Prop} (h : OS w s vs sz) (hi : i < s.l) (hk : ∀ g us, Blk w g us → (∀ m, m < vs.length → us[m]? = vs[m]?) → owns s g → K g 0) : Ix s.a s.l (i : Int) K := by
  rcases h with ⟨rfl, rfl⟩ | ⟨g, a, b, c, junk, d, e⟩
  · exact absurd hi (by simp)
  · exact ix a (by omega) (by omega) (hk g _ d (fun m hm => List.getElem?_append_left hm) a)
theorem OS.lS {Ls : List Sl} {i : Nat} {q : Sl} {K : Sl → Prop} (h : OS w s (Ls.map slV) 1) (hi : Ls[i]? = some q) (hk : K q) : Ix s.a s.l (i : Int) fun b o => LdS w ⟨b, o + Int.toNat (i : Int) * 1, none⟩ K := by
  have hl := h.len
  obtain ⟨h1, _⟩ := List.getElem?_eq_some_iff.1 hi
  simp only [List.length_map, Nat.mul_one] at hl
  refine OS.get h (by omega) fun g us hb hu _ => ldS (a := q.a) (l := q.l) (c := q.c) hb ?_ hk
  rw [Int.toNat_natCast, Nat.mul_one, Nat.zero_add, hu i (by simpa using h1), List.getElem?_map, hi]; rfl
theorem OS.lP {ns : List Nat} {f : Nat → Nat} {i q : Nat} {K : Nat → Prop} (h : OS w s (ns.map fun x => ptrV (f x)) 1) (hi : ns[i]? = some q) (hk : K (f q)) : Ix s.a s.l (i : Int) fun b o => LdP w ⟨b, o + Int.toNat (i : Int) * 1, none⟩ K := by
  have hl := h.len
  obtain ⟨h1, _⟩ := List.getElem?_eq_some_iff.1 hi
  simp only [List.length_map, Nat.mul_one] at hl
  refine OS.get h (by omega) fun g us hb hu _ => ldP (m := f q) hb ?_ hk
  rw [Int.toNat_natCast, Nat.mul_one, Nat.zero_add, hu i (by simpa using h1), List.getElem?_map, hi]; rfl
theorem OS.lT {ts : List ByteArray} {i : Nat} {q : ByteArray} {K : ByteArray → Prop} (h : OS w s (ts.map Value.string) 1) (hi : ts[i]? = some q) (hk : K q) : Ix s.a s.l (i : Int) fun b o => LdStr w ⟨b, o + Int.toNat (i : Int) * 1, none⟩ K := by
  have hl := h.len
  obtain ⟨h1, _⟩ := List.getElem?_eq_some_iff.1 hi
  simp only [List.length_map, Nat.mul_one] at hl
  refine OS.get h (by omega) fun g us hb hu _ => ldStr (m := q) hb ?_ hk
  rw [Int.toNat_natCast, Nat.mul_one, Nat.zero_add, hu i (by simpa using h1), List.getElem?_map, hi]; rfl
/-- Both cells of a pair of lists. -/
theorem OS.pair {Is : List (Sl × Sl)} {i : Nat} {q : Sl × Sl} {K : Nat → Nat → Prop} (h : OS w s (Is.flatMap isV) 2) (hi : Is[i]? = some q) (hk : ∀ g us, Blk w g us → us[0 + Int.toNat (i : Int) * 2]? = some (slV q.1) → us[0 + Int.toNat (i : Int) * 2 + 1]? = some (slV q.2) → owns s g → K g 0) : Ix s.a s.l (i : Int) K := by
  have hl := h.len
  obtain ⟨h1, _⟩ := List.getElem?_eq_some_iff.1 hi
  have hfl : (Is.flatMap isV).length = Is.length * 2 := flat_length (c := 2) (fun _ => rfl) _
  refine OS.get h (by omega) fun g us hb hu ho => hk g us hb ?_ ?_ ho
  · rw [Int.toNat_natCast, Nat.zero_add, hu _ (by omega), show i * 2 = i * 2 + 0 from rfl, flat_get (c := 2) (fun _ => rfl) _ _ _ (by omega), hi]; rfl
  · rw [Int.toNat_natCast, Nat.zero_add, hu _ (by omega), flat_get (c := 2) (fun _ => rfl) _ _ _ (by omega), hi]; rfl
/-- 'make' and 'copy' in one. -/
theorem mkcopy {α : Type} {V : α → List Value} {e : TypeId} {z : List Value} {bytes : Nat} {a : Sl} {es : List α} {K : Sl → World → Prop} (hV : ∀ x, (V x).length = sz) (hz : z.length = sz) (hok : (es.flatMap V).all okV = true)
    (src : es = [] ∨ ∃ b us, a.a = some ⟨b, 0, none⟩ ∧ Blk w b us ∧ us.take (es.length * sz) = es.flatMap V) (hl : a.l = es.length) (hsm : bytes * es.length ≤ 2 ^ 48) (hle : es.length < 2 ^ 62)
    (hK : ∀ w', Blk w' w.heap.size (es.flatMap V) → Fr 0 0 w w' → w'.heap.size = w.heap.size + 1 → K ⟨some ⟨w.heap.size, 0, none⟩, es.length, es.length⟩ w') :
    MkS e z bytes w (a.l : Int) (a.l : Int) fun l1 w => CopyS sz w l1 a fun n2 w => K l1 w := by
  have hfl : (es.flatMap V).length = es.length * sz := flat_length (c := sz) hV _
  rw [hl]
  refine mkS (by omega) (by omega) (by rw [← Int.natCast_mul]; omega) (by omega) fun w1 b1 f1 s1 => ?_
  simp only [Int.toNat_natCast] at b1 ⊢
  rcases src with rfl | ⟨b, us, g1, g2, g3⟩
  · refine copyS_nil (by simp [hl]) ?_
    exact hK w1 (by simpa [reps] using b1) f1 s1
  · have hrl : (reps z es.length).length = es.length * sz := by rw [reps_length, hz]
    refine copyS (n := es.length) (g2.fr f1 (by omega)) g1 b1 rfl (by simp [hl]) (by simpa using g3) hfl hok (by simp only [hrl, hfl]; omega) fun w2 b2 f2 s2 => ?_
    simp only [List.take_zero, List.nil_append] at b2
    rw [List.drop_of_length_le (by simp only [hrl, hfl]; omega), List.append_nil] at b2
    exact hK w2 b2 (((f1.any _ 1).trans f2).fresh (Nat.le_refl _) 0 0) (by omega)
theorem infs_ok (es : List InfZ) : (es.flatMap infZ).all okV = true := by
  rw [List.all_eq_true]
  intro v hv
  simp only [List.mem_flatMap, infZ, List.mem_cons, List.not_mem_nil, or_false] at hv
  obtain ⟨e, _, rfl | rfl | rfl⟩ := hv <;> rfl
theorem EL.src {α : Type} {V : α → List Value} {t : Tag} {es : List α} (h : EL w T t s (es.flatMap V) es.length) (hV : ∀ x, (V x).length = sz) : (es = [] ∨ ∃ b us, s.a = some ⟨b, 0, none⟩ ∧ Blk w b us ∧ us.take (es.length * sz) = es.flatMap V) ∧ s.l = es.length := by
  rcases h with ⟨rfl, h2, h3⟩ | ⟨b, rfl, h2, h3⟩
  · exact ⟨.inl (List.length_eq_zero_iff.1 h3), h3.symm⟩
  · exact ⟨.inr ⟨b, _, rfl, h2, List.take_of_length_le (by rw [flat_length (c := sz) hV]; omega)⟩, rfl⟩
theorem OS.src {α : Type} {V : α → List Value} {es : List α} (h : OS w s (es.flatMap V) sz) (hV : ∀ x, (V x).length = sz) (hs : 0 < sz) : (es = [] ∨ ∃ b us, s.a = some ⟨b, 0, none⟩ ∧ Blk w b us ∧ us.take (es.length * sz) = es.flatMap V) ∧ s.l = es.length := by
  have hfl : (es.flatMap V).length = es.length * sz := flat_length (c := sz) hV _
  have hl := h.len
  have e : s.l = es.length := Nat.eq_of_mul_eq_mul_right hs (by omega)
  refine ⟨?_, e⟩
  rcases h with ⟨rfl, h2⟩ | ⟨g, a, b, c, junk, d, e'⟩
  · left; exact List.length_eq_zero_iff.1 e.symm
  · exact .inr ⟨g, _, a, d, by rw [← hfl]; simp⟩
theorem copyE_spec {a : Sl} {es : List Ent} {K : Sl → World → Prop} (src : (es = [] ∨ ∃ b us, a.a = some ⟨b, 0, none⟩ ∧ Blk w b us ∧ us.take (es.length * 2) = es.flatMap entV) ∧ a.l = es.length) (hl : es.length ≤ 1073741824)
    (hK : ∀ w', Blk w' w.heap.size (es.flatMap entV) → Fr 0 0 w w' → w'.heap.size = w.heap.size + 1 → K ⟨some ⟨w.heap.size, 0, none⟩, es.length, es.length⟩ w') : S.towerexact_copyEntries a w K := by
  unfold S.towerexact_copyEntries
  exact mkcopy (fun _ => rfl) rfl (ents_ok es) src.1 src.2 (by omega) (by omega) hK
theorem copyI_spec {a : Sl} {es : List InfZ} {K : Sl → World → Prop} (src : (es = [] ∨ ∃ b us, a.a = some ⟨b, 0, none⟩ ∧ Blk w b us ∧ us.take (es.length * 3) = es.flatMap infZ) ∧ a.l = es.length) (hl : es.length ≤ 1073741824)
    (hK : ∀ w', Blk w' w.heap.size (es.flatMap infZ) → Fr 0 0 w w' → w'.heap.size = w.heap.size + 1 → K ⟨some ⟨w.heap.size, 0, none⟩, es.length, es.length⟩ w') : S.towerexact_copyInfos a w K := by
  unfold S.towerexact_copyInfos
  exact mkcopy (fun _ => rfl) rfl (infs_ok es) src.1 src.2 (by omega) (by omega) hK
theorem EL.ent {t : Tag} {es : List Ent} (h : EL w T t s (es.flatMap entV) es.length) : ∃ g, EntS w s g es ∧ (es = [] ∨ T g = t) ∧ s.c = es.length := by
  rcases h with ⟨rfl, h2, h3⟩ | ⟨b, rfl, h2, h3⟩
  · have : es = [] := List.length_eq_zero_iff.1 h3
    subst this
    exact ⟨0, ⟨rfl, .inl rfl⟩, .inl rfl, rfl⟩
  · exact ⟨b, EntS.ofBlk (pre := []) (junk := []) (by simpa using h2) rfl rfl rfl, .inr h3, rfl⟩
theorem sameI_spec {a b : Sl} {t u : Tag} {xs : List InfZ} {K : Bool → World → Prop} (ha : EL w T t a (xs.flatMap infZ) xs.length) (hb : EL w T u b (xs.flatMap infZ) xs.length) (hl : xs.length < 4611686018427387904) (hK : ∀ w', w'.heap = w.heap → K true w') : S.towerexact_sameInfos a b w K := by
  unfold S.towerexact_sameInfos
  have get : ∀ {v : World} {q : Sl} {g : Tag} {i : Nat} {e : InfZ} {K : ByteArray → Int → Int → Prop}, v.heap = w.heap → EL w T g q (xs.flatMap infZ) xs.length → xs[i]? = some e → K e.1 e.2.1 e.2.2 →
      Ix q.a q.l (i : Int) fun b o => LdStr v ⟨b, o + Int.toNat (i : Int) * 3, none⟩ fun n => LdI .i64 v ⟨b, o + Int.toNat (i : Int) * 3 + 1, none⟩ fun s => LdI .i64 v ⟨b, o + Int.toNat (i : Int) * 3 + 2, none⟩ fun r => K n s r := by
    intro v q g i e K hv hq he hk
    obtain ⟨hi, _⟩ := List.getElem?_eq_some_iff.1 he
    rcases hq with ⟨rfl, h2, h3⟩ | ⟨b, rfl, h2, h3⟩
    · omega
    · have h2' : Blk v b (xs.flatMap infZ) := h2.fr (Fr.heq (Fr.refl 0 0 w) hv) (by omega)
      refine ix rfl (by omega) (by simp only; omega) ?_
      rw [Int.toNat_natCast, Nat.zero_add]
      refine ldStr h2' ?_ (ldI h2' ?_ (ldI h2' ?_ hk))
      · rw [show i * 3 = i * 3 + 0 from rfl, flat_get (c := 3) (fun _ => rfl) _ _ _ (by omega), he]; rfl
      · rw [flat_get (c := 3) (fun _ => rfl) _ _ _ (by omega), he]; rfl
      · rw [flat_get (c := 3) (fun _ => rfl) _ _ _ (by omega), he]; rfl
  have h1 : a.l = xs.length := by rcases ha with ⟨rfl, h2, h3⟩ | ⟨b, rfl, h2, h3⟩ <;> simp [*]
  have h2 : b.l = xs.length := by rcases hb with ⟨rfl, h2, h3⟩ | ⟨b, rfl, h2, h3⟩ <;> simp [*]
  rw [if_neg (by simp only [bne_iff_ne, ne_eq]; omega)]
  refine loopN (fun m st v => ∃ i : Nat, st = ((i : Int), ()) ∧ m + i = xs.length ∧ v.heap = w.heap) xs.length ⟨0, rfl, rfl, rfl⟩ ?_
  rintro m _ v ⟨i, rfl, hm, hv⟩ Q hQ
  dsimp only
  by_cases hi : i < xs.length
  · rw [if_pos (by simp only [decide_eq_true_eq]; omega)]
    have he : xs[i]? = some xs[i] := List.getElem?_eq_getElem hi
    refine drew_ ?_
    refine get (v := v.drew) hv ha he ?_
    refine get (v := v.drew) hv hb he ?_
    rw [if_neg (by rw [eq_infs]; simp), W_succ (by omega)]
    exact let_ (hQ (m - 1) _ _ (by omega) ⟨i + 1, rfl, by omega, hv⟩)
  · rw [if_neg (by simp only [decide_eq_true_eq]; omega)]
    exact hK v hv
theorem after1 {w1 : World} {i : Nat} {us us' : List Value} {K : Prop} (h : Blk w p us) (h1 : Blk w1 p us') (e : us'[i]? = us[i]?) (hk : K) : After (fun w' => ∀ j, j < 1 → w'.cell? ((⟨p, i, none⟩ : Addr).add j) = w.cell? ((⟨p, i, none⟩ : Addr).add j)) w1 K :=
  ⟨fun j hj => by
    have : j = 0 := by omega
    subst this
    rw [add_mk, h1.cell, h.cell, Nat.add_zero, e], hk⟩
/-- A model's archive, all its blocks new. -/
theorem archm_New' {K : Nat → World → Prop} (hK : ∀ w' a, (∀ T : Nat → Tag, (∀ b, w.heap.size ≤ b → T b = (10, 0)) → MAt w' T a) → Fr 0 0 w w' → K a w') : S.archm_New w K := by
  unfold S.archm_New S.blockm_New S.lzm_New
  refine newB fun w1 b1 f1 s1 => ?_
  refine newB fun w2 b2 f2 s2 => ?_
  have c1 := b1.fr f2 (by omega)
  refine st1 c1 (by simp) fun w3 b3 f3 s3 => ?_
  refine huffm_New_spec fun w4 b4 f4 s4 => ?_
  refine st1 (b3.fr f4 (by omega)) (by simp) fun w5 b5 f5 s5 => ?_
  refine newB fun w6 b6 f6 s6 => ?_
  have f02 : Fr 0 0 w w2 := f1.trans f2
  refine hK w6 w5.heap.size (fun T hT => ⟨_, _, _, b6, b5.fr f6 (by omega), by omega, hT _ (by omega), hT _ (by omega)⟩) ?_
  exact ((((f02.thenNew f3 (by omega)).trans f4).thenNew f5 (by omega)).trans f6)
theorem set2 : ∀ (es : List Ent) (i : Nat) (e : Ent), ((es.flatMap entV).set (i * 2) (.string e.1)).set (i * 2 + 1) (.string e.2) = (es.set i e).flatMap entV
  | [], i, e => by simp
  | x :: es, 0, e => by simp [entV]
  | x :: es, i + 1, e => by
    have ih := set2 es i e
    rw [show (i + 1) * 2 = i * 2 + 1 + 1 by omega]
    simp only [List.flatMap_cons, List.set_cons_succ, entV, List.cons_append, List.nil_append] at ih ⊢
    rw [ih]
theorem set3 : ∀ (es : List InfZ) (i : Nat) (e : InfZ), (((es.flatMap infZ).set (i * 3) (.string e.1)).set (i * 3 + 1) (.int .i64 e.2.1)).set (i * 3 + 2) (.int .i64 e.2.2) = (es.set i e).flatMap infZ
  | [], i, e => by simp
  | x :: es, 0, e => by simp [infZ]
  | x :: es, i + 1, e => by
    have ih := set3 es i e
    rw [show (i + 1) * 3 = i * 3 + 1 + 1 + 1 by omega]
    simp only [List.flatMap_cons, List.set_cons_succ, infZ, List.cons_append, List.nil_append] at ih ⊢
    rw [ih]
/-- An entry is written into a list. -/
theorem putE {q : Sl} {t : Tag} {es : List Ent} {i : Nat} {e : Ent} {K : World → Prop} (h : EL w T t q (es.flatMap entV) es.length) (hi : i < es.length)
    (hK : ∀ w', EL w' T t q ((es.set i e).flatMap entV) (es.set i e).length → FrP (fun b => T b = t) w w' → w'.heap.size = w.heap.size → K w') :
    Ix q.a q.l (i : Int) fun b o => St1 w ⟨b, o + Int.toNat (i : Int) * 2, none⟩ (.string e.1) fun w => St1 w ⟨b, o + Int.toNat (i : Int) * 2 + 1, none⟩ (.string e.2) K := by
  rcases h with ⟨rfl, h2, h3⟩ | ⟨b, rfl, h2, h3⟩
  · omega
  have hfl : (es.flatMap entV).length = es.length * 2 := flat_length (c := 2) (fun _ => rfl) _
  refine ix rfl (by omega) (by simp only; omega) ?_
  rw [Int.toNat_natCast, Nat.zero_add]
  refine st1 h2 (by omega) fun w1 b1 f1 s1 => ?_
  refine st1 b1 (by simp only [List.length_set]; omega) fun w2 b2 f2 s2 => ?_
  rw [set2] at b2
  refine hK w2 (.inr ⟨b, by simp, b2, h3⟩) (FrP.of (f1.trans f2) fun x h1 h2 => by rw [show x = b by omega]; exact h3) (by omega)
theorem putI {q : Sl} {t : Tag} {es : List InfZ} {i : Nat} {e : InfZ} {K : World → Prop} (h : EL w T t q (es.flatMap infZ) es.length) (hi : i < es.length)
    (hK : ∀ w', EL w' T t q ((es.set i e).flatMap infZ) (es.set i e).length → FrP (fun b => T b = t) w w' → w'.heap.size = w.heap.size → K w') :
    Ix q.a q.l (i : Int) fun b o => St1 w ⟨b, o + Int.toNat (i : Int) * 3, none⟩ (.string e.1) fun w => St1 w ⟨b, o + Int.toNat (i : Int) * 3 + 1, none⟩ (.int .i64 e.2.1) fun w => St1 w ⟨b, o + Int.toNat (i : Int) * 3 + 2, none⟩ (.int .i64 e.2.2) K := by
  rcases h with ⟨rfl, h2, h3⟩ | ⟨b, rfl, h2, h3⟩
  · omega
  have hfl : (es.flatMap infZ).length = es.length * 3 := flat_length (c := 3) (fun _ => rfl) _
  refine ix rfl (by omega) (by simp only; omega) ?_
  rw [Int.toNat_natCast, Nat.zero_add]
  refine st1 h2 (by omega) fun w1 b1 f1 s1 => ?_
  refine st1 b1 (by simp only [List.length_set]; omega) fun w2 b2 f2 s2 => ?_
  refine st1 b2 (by simp only [List.length_set]; omega) fun w3 b3 f3 s3 => ?_
  rw [set3] at b3
  refine hK w3 (.inr ⟨b, by simp, b3, h3⟩) (FrP.of ((f1.trans f2).trans f3) fun x h1 h2 => by rw [show x = b by omega]; exact h3) (by omega)
end
end Go.Proofs.Qxb6500563aGreat
