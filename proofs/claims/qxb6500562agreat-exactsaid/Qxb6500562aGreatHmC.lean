/-
  The model's heap: calls on fields.
-/
import Derived.Test.Qxb6500562aGreatHmB
namespace Go.Proofs.Qxb6500562aGreat
open Go.Den Go.Zip
set_option linter.unusedVariables false
set_option linter.unusedSimpArgs false
variable {w w' w0 : World} {h : Nat} {es : List OE} {roots : List Int} {so sr : Sl} {M : SH} {O O' P : Nat → Prop}

theorem HM.dup {i : Int} {K : Int → World → Prop} (m : HM w h M O) (hK : ∀ w' O', HM w' h (hDup M i).2 O' → Gw O w O' w' → K (hDup M i).1 w') : S.heapm_Heap_Dup h i w K := by
  unfold S.heapm_Heap_Dup
  have m0 := m
  obtain ⟨es, so, sr, m, e, rfl⟩ := m
  have hrl := m.rl
  have bad : (i < 0 ∨ (M.roots.length : Int) ≤ i) → K 2 w := fun hc => by
    have hp : hDup M i = (2, M) := by unfold hDup; rw [if_pos hc]
    rw [hp] at hK
    exact hK w _ m0 (Gw.refl _ _)
  by_cases h1 : i < 0
  · rw [if_pos (by simpa using h1)]
    exact bad (.inl h1)
  rw [if_neg (by simpa using h1)]
  refine ldS m.rc rfl ?_
  dsimp only
  by_cases h2 : (M.roots.length : Int) ≤ i
  · rw [if_pos (by simp only [decide_eq_true_eq]; omega)]
    exact bad (.inr h2)
  rw [if_neg (by simp only [decide_eq_true_eq]; omega)]
  refine ldS m.rc rfl ?_
  dsimp only
  by_cases h3 : 24 ≤ M.roots.length
  · rw [if_pos (by simp only [decide_eq_true_eq]; omega)]
    have hp : hDup M i = (3, M) := by unfold hDup; rw [if_neg (by omega), if_pos h3]
    rw [hp] at hK
    exact hK w _ m0 (Gw.refl _ _)
  rw [if_neg (by simp only [decide_eq_true_eq]; omega)]
  have hp : hDup M i = (0, ⟨M.objs, M.roots ++ [rtAt M i]⟩) := by unfold hDup; rw [if_neg (by omega), if_neg h3]
  rw [hp] at hK
  refine drew_ ?_
  have m := m.frp (P := fun _ => False) (FrP.of0 (Fr.refl 0 0 w).drew) fun _ _ h => h
  have hK : ∀ w' O', HM w' h ⟨M.objs, M.roots ++ [rtAt M i]⟩ O' → Gw (hmo h es so sr) w.drew O' w' → K 0 w' := fun w' O' a b => hK w' O' a ⟨b.1, b.2⟩
  generalize w.drew = w at *
  refine ldS m.rc rfl (ldS m.rc rfl ?_)
  refine osRd m.rt (by omega) (by omega) ?_
  refine newB fun w1 b1 f1 s1 => ?_
  have m1 := m.frp (P := fun _ => False) (FrP.of0 f1) fun _ _ h => h
  refine ⟨held m.rc m1.rc, ?_⟩
  have hx := m.wm.rr (rtAt M i) (getD_in (by dsimp only; omega))
  refine mroot (x := rtAt M i) m1 (by omega) ⟨hx.1, by have := hx.2; rw [List.length_map] at this; exact this⟩ b1 fun w2 sr' m2 g2 => ?_
  exact hK w2 _ ⟨es, so, sr', m2, e, rfl⟩ (Gw.trans ⟨FrP.of0 f1, fun b hb => .inl hb⟩ g2)
theorem HM.set {i : Int} {K : Int → World → Prop} (m : HM w h M O) (hK : ∀ w' O', HM w' h (hSet M i).2 O' → Gw O w O' w' → K (hSet M i).1 w') : S.heapm_Heap_Set h i w K := by
  unfold S.heapm_Heap_Set
  have m0 := m
  obtain ⟨es, so, sr, m, e, rfl⟩ := m
  have hrl := m.rl
  have h24 := m.wm.rl
  dsimp only at h24
  have bad : (i < 0 ∨ (M.roots.length : Int) - 1 ≤ i) → K 2 w := fun hc => by
    have hp : hSet M i = (2, M) := by unfold hSet; rw [if_pos hc]
    rw [hp] at hK
    exact hK w _ m0 (Gw.refl _ _)
  by_cases h1 : i < 0
  · rw [if_pos (by simpa using h1)]
    exact bad (.inl h1)
  rw [if_neg (by simpa using h1)]
  refine ldS m.rc rfl ?_
  dsimp only
  rw [W_id (x := (sr.l : Int) - 1) (by omega) (by omega)]
  by_cases h2 : (M.roots.length : Int) - 1 ≤ i
  · rw [if_pos (by simp only [decide_eq_true_eq]; omega)]
    exact bad (.inr h2)
  rw [if_neg (by simp only [decide_eq_true_eq]; omega)]
  have hp : hSet M i = (0, ⟨M.objs, (M.roots.set i.toNat (M.roots.getD (M.roots.length - 1) (-1))).take (M.roots.length - 1)⟩) := by unfold hSet; rw [if_neg (by omega)]
  rw [hp] at hK
  refine drew_ ?_
  have m := m.frp (P := fun _ => False) (FrP.of0 (Fr.refl 0 0 w).drew) fun _ _ h => h
  have hK : ∀ w' O', HM w' h ⟨M.objs, (M.roots.set i.toNat (M.roots.getD (M.roots.length - 1) (-1))).take (M.roots.length - 1)⟩ O' → Gw (hmo h es so sr) w.drew O' w' → K 0 w' := fun w' O' a b => hK w' O' a ⟨b.1, b.2⟩
  generalize w.drew = w at *
  refine ldS m.rc rfl (ldS m.rc rfl (ldS m.rc rfl ?_))
  dsimp only
  have e1 : W ((sr.l : Int) - 1) = ((M.roots.length - 1 : Nat) : Int) := by rw [W_id (by omega) (by omega)]; omega
  rw [e1]
  refine osRd m.rt (by omega) (by omega) ?_
  rw [Int.toNat_natCast]
  refine osSt m.rt (by omega) (by omega) fun u o1 f1 => ?_
  have hsh := m.d1.2.1
  have b1 := m.rc.frp f1 hsh
  refine drew_ ?_
  have o1 : OS u.drew sr _ 1 := o1.frp (P := fun _ => False) (FrP.of0 (Fr.refl 0 0 u).drew) fun _ _ h => h
  have f1 : FrP (owns sr) w u.drew := f1
  have b1 := b1.drew
  generalize u.drew = u at *
  refine ldS b1 rfl (ldS b1 rfl ?_)
  dsimp only
  rw [e1]
  refine cutO o1 (by simp) fun s' o' l' ow' => ?_
  refine st1 b1 (by simp) fun u3 b3 f3 _ => ?_
  have hw : WM ⟨es.map OE.ob, (M.roots.set i.toNat (M.roots.getD (M.roots.length - 1) (-1))).take (M.roots.length - 1)⟩ := m.wm.turn (by simp; omega) fun y hy => by
    rcases List.mem_or_eq_of_mem_set (List.mem_of_mem_take hy) with hy | hy
    · exact .inr (.inl hy)
    · subst hy; exact .inr (.inl (getD_in (by omega)))
  obtain ⟨k1, k2, k3⟩ := m.turn (i := 0) f1 o' (fun b hb => .inl (ow' b hb)) hw f3 b3
  exact hK u3 _ ⟨es, so, s', k1, e, rfl⟩ ⟨k2, k3⟩
theorem HM.at_ {i : Int} {K : Int → Int → World → Prop} (m : HM w h M O) (hK1 : hErr M i ≠ 0 → K (-1) (hErr M i) w) (hK2 : hErr M i = 0 → K (rtAt M i) 0 w) : S.heapm_Heap_at h i w K := by
  unfold S.heapm_Heap_at
  obtain ⟨es, so, sr, m, e, rfl⟩ := m
  have hrl := m.rl
  have bad : (i < 0 ∨ (M.roots.length : Int) ≤ i) → K (-1) 2 w := fun hc => by
    have hp : hErr M i = 2 := by unfold hErr; rw [if_pos hc]
    rw [hp] at hK1
    exact hK1 (by decide)
  by_cases h1 : i < 0
  · rw [if_pos (by simpa using h1)]
    exact bad (.inl h1)
  rw [if_neg (by simpa using h1)]
  refine ldS m.rc rfl ?_
  dsimp only
  by_cases h2 : (M.roots.length : Int) ≤ i
  · rw [if_pos (by simp only [decide_eq_true_eq]; omega)]
    exact bad (.inr h2)
  rw [if_neg (by simp only [decide_eq_true_eq]; omega)]
  refine ldS m.rc rfl (osRd m.rt (by omega) (by omega) ?_)
  show if (decide (rtAt M i < 0)) = true then _ else _
  by_cases h3 : rtAt M i < 0
  · rw [if_pos (by simpa using h3)]
    have hp : hErr M i = 4 := by unfold hErr; rw [if_neg (by omega), if_pos h3]
    rw [hp] at hK1
    exact hK1 (by decide)
  · rw [if_neg (by simpa using h3)]
    refine ldS m.rc rfl (osRd m.rt (by omega) (by omega) ?_)
    exact hK2 (by unfold hErr; rw [if_neg (by omega), if_neg h3])
theorem hErr_ok {i : Int} (hw : WM M) (he : hErr M i = 0) : 0 ≤ rtAt M i ∧ rtAt M i < M.objs.length ∧ 0 ≤ i ∧ i < M.roots.length := by
  unfold hErr at he
  split at he
  · cases he
  split at he
  · cases he
  · have := hw.rr (rtAt M i) (getD_in (by omega))
    omega
theorem es_at {x : Int} (e : M.objs = es.map OE.ob) (h0 : 0 ≤ x) (h1 : x < M.objs.length) : ∃ q, es[x.toNat]? = some q ∧ obAt M x = q.ob ∧ q ∈ es := by
  have hl : M.objs.length = es.length := by rw [e]; simp
  refine ⟨es[x.toNat]'(by omega), List.getElem?_eq_getElem (by omega), ?_, List.getElem_mem _⟩
  unfold obAt
  rw [e, List.getD_eq_getElem?_getD, List.getElem?_map, List.getElem?_eq_getElem (by omega)]
  rfl
theorem HM.len {i : Int} {K : Int → Int → Int → World → Prop} (m : HM w h M O) (hK : ∀ w', HM w' h M O → Gw O w O w' → K (hLen M i).1 (hLen M i).2.1 (hLen M i).2.2 w') : S.heapm_Heap_Len h i w K := by
  unfold S.heapm_Heap_Len
  refine m.at_ (fun he => ?_) fun he => ?_
  · rw [if_pos (by simpa using he)]
    unfold hLen at hK
    rw [if_pos he] at hK
    exact hK w m (Gw.refl _ _)
  · rw [if_neg (by simp)]
    have hp : hLen M i = (((obAt M (rtAt M i)).refs.length : Int), ((obAt M (rtAt M i)).ints.length : Int), 0) := by unfold hLen; rw [if_neg (by simpa using he)]
    rw [hp] at hK
    obtain ⟨q1, q2, _⟩ := hErr_ok m.wm he
    refine drew_ ?_
    have m := m.drew
    have hK := hK w.drew m ⟨FrP.drew (FrP.refl _ _), fun b hb => .inl hb⟩
    generalize w.drew = w at *
    obtain ⟨es, so, sr, m2, e, _⟩ := m
    obtain ⟨q, he1, he2, _⟩ := es_at e q1 q2
    rw [he2] at hK
    exact m2.refs q1 he1 (m2.intsS q1 he1 hK)
theorem HM.loadI {i f : Int} {K : Int → Int → World → Prop} (m : HM w h M O) (hK : K (hLoadI M i f).1 (hLoadI M i f).2 w) : S.heapm_Heap_LoadInt h i f w K := by
  unfold S.heapm_Heap_LoadInt
  refine m.at_ (fun he => ?_) fun he => ?_
  · rw [if_pos (by simpa using he)]
    unfold hLoadI at hK
    rw [if_pos he] at hK
    exact hK
  · rw [if_neg (by simp)]
    obtain ⟨q1, q2, _⟩ := hErr_ok m.wm he
    obtain ⟨es, so, sr, m, e, rfl⟩ := m
    obtain ⟨q, he1, he2, hm⟩ := es_at e q1 q2
    unfold hLoadI at hK
    rw [if_neg (by simpa using he), he2] at hK
    by_cases h1 : f < 0
    · rw [if_pos (by simpa using h1)]
      rw [if_pos (.inl h1)] at hK
      exact hK
    rw [if_neg (by simpa using h1)]
    refine m.intsS q1 he1 ?_
    dsimp only
    by_cases h2 : (q.ob.ints.length : Int) ≤ f
    · rw [if_pos (by simpa using h2)]
      rw [if_pos (.inr h2)] at hK
      exact hK
    rw [if_neg (by simpa using h2)]
    rw [if_neg (by omega)] at hK
    refine m.intsS q1 he1 (ix rfl (by omega) (by dsimp only; omega) ?_)
    refine ldA (m.bk q hm).2 (m := q.ob.ints.getD f.toNat 0) ?_ hK
    rw [List.getD_eq_getElem?_getD, List.getElem?_eq_getElem (by omega)]; rfl
/-- An object's fields turn in place. -/
theorem HMm.fields {k : Nat} {q : OE} {o : Ob} (m : HMm w h es roots so sr) (hq : es[k]? = some q) (h1 : o.refs.length = q.ob.refs.length) (h2 : o.ints.length = q.ob.ints.length) (hr : ∀ y ∈ o.refs, -1 ≤ y ∧ y < es.length)
    (f : FrP (fun b => b = q.rb ∨ b = q.ib) w w') (b1 : Blk w' q.rb (ints o.refs)) (b2 : Blk w' q.ib (ints o.ints)) :
    HMm w' h (es.set k ⟨q.rb, q.ib, o⟩) roots so sr ∧ (es.set k ⟨q.rb, q.ib, o⟩).map OE.ob = (es.map OE.ob).set k o ∧ (hmo h (es.set k ⟨q.rb, q.ib, o⟩) so sr = hmo h es so sr) := by
  have hqm : q ∈ es := List.mem_of_getElem? hq
  have hkl : k < es.length := by
    rcases Nat.lt_or_ge k es.length with h | h
    · exact h
    · rw [List.getElem?_eq_none h] at hq; cases hq
  have hqe : es[k] = q := by rw [List.getElem?_eq_getElem hkl] at hq; exact Option.some.inj hq
  have d1 := m.d2 q hqm q.rb (.inl rfl)
  have d2 := m.d2 q hqm q.ib (.inr rfl)
  have hnP : ∀ b, b = h ∨ owns so b ∨ owns sr b → ¬ (b = q.rb ∨ b = q.ib) := by
    rintro b hb (rfl | rfl)
    · rcases hb with hb | hb | hb
      · exact d1.1 hb
      · exact d1.2.1 hb
      · exact d1.2.2 hb
    · rcases hb with hb | hb | hb
      · exact d2.1 hb
      · exact d2.2.1 hb
      · exact d2.2.2 hb
  have hset : ∀ e, e ∈ es.set k ⟨q.rb, q.ib, o⟩ → e = ⟨q.rb, q.ib, o⟩ ∨ ∃ (j : Nat) (hj : j < es.length), j ≠ k ∧ e = es[j] := by
    intro e he
    obtain ⟨j, hj⟩ := List.mem_iff_getElem?.1 he
    rw [List.getElem?_set] at hj
    by_cases e2 : k = j
    · subst e2
      rw [if_pos rfl, if_pos hkl] at hj
      exact .inl (Option.some.inj hj).symm
    · rw [if_neg e2] at hj
      have hjl : j < es.length := by
        rcases Nat.lt_or_ge j es.length with h | h
        · exact h
        · rw [List.getElem?_eq_none h] at hj; cases hj
      rw [List.getElem?_eq_getElem hjl] at hj
      exact .inr ⟨j, hjl, fun e => e2 e.symm, (Option.some.inj hj).symm⟩
  have hdis : ∀ (j : Nat) (hj : j < es.length), j ≠ k → es[j].rb ≠ q.rb ∧ es[j].rb ≠ q.ib ∧ es[j].ib ≠ q.rb ∧ es[j].ib ≠ q.ib := by
    intro j hj hne
    have hp := List.pairwise_iff_getElem.1 m.nd.1
    rcases Nat.lt_or_ge j k with hlt | hge
    · have := hp j k hj hkl hlt
      rw [hqe] at this
      exact ⟨this.1, this.2.1, this.2.2.1, this.2.2.2⟩
    · have := hp k j hkl hj (by omega)
      rw [hqe] at this
      exact ⟨this.1.symm, this.2.2.1.symm, this.2.1.symm, this.2.2.2.symm⟩
  have hcell : (es.set k ⟨q.rb, q.ib, o⟩).flatMap obC = es.flatMap obC := by
    rw [List.flatMap_def, List.flatMap_def, List.map_set]
    have : (es.map obC).set k (obC ⟨q.rb, q.ib, o⟩) = es.map obC := by
      apply List.ext_getElem?
      intro j
      rw [List.getElem?_set]
      by_cases e2 : k = j
      · subst e2
        rw [if_pos rfl, if_pos (by simpa using hkl), List.getElem?_map, hq]
        simp [obC, h1, h2]
      · rw [if_neg e2]
    rw [this]
  have hmap : (es.set k ⟨q.rb, q.ib, o⟩).map OE.ob = (es.map OE.ob).set k o := List.map_set ..
  have hblk : ∀ b, (∃ e ∈ es.set k ⟨q.rb, q.ib, o⟩, b = e.rb ∨ b = e.ib) ↔ ∃ e ∈ es, b = e.rb ∨ b = e.ib := by
    intro b
    constructor
    · rintro ⟨e, he, hb⟩
      rcases hset e he with rfl | ⟨j, hj, _, rfl⟩
      · exact ⟨q, hqm, hb⟩
      · exact ⟨_, List.getElem_mem hj, hb⟩
    · rintro ⟨e, he, hb⟩
      obtain ⟨j, hj⟩ := List.mem_iff_getElem?.1 he
      by_cases e2 : k = j
      · subst e2
        rw [hq] at hj
        have : q = e := Option.some.inj hj
        subst this
        exact ⟨⟨q.rb, q.ib, o⟩, List.mem_iff_getElem?.2 ⟨k, by rw [List.getElem?_set, if_pos rfl, if_pos hkl]⟩, hb⟩
      · exact ⟨e, List.mem_iff_getElem?.2 ⟨j, by rw [List.getElem?_set, if_neg e2]; exact hj⟩, hb⟩
  refine ⟨⟨m.rc.frp f (hnP h (.inl rfl)), ?_, m.rt.frp f fun b hb => hnP b (.inr (.inr hb)), fun e he => ?_, ⟨?_, fun e he => ?_⟩, m.d1, fun e he b hb => ?_, ?_⟩, hmap, ?_⟩
  · rw [hcell]; exact m.oo.frp f fun b hb => hnP b (.inr (.inl hb))
  · rcases hset e he with rfl | ⟨j, hj, hne, rfl⟩
    · exact ⟨b1, b2⟩
    · have hd := hdis j hj hne
      have := m.bk _ (List.getElem_mem hj)
      exact ⟨this.1.frp f fun hh => by rcases hh with h | h; exact hd.1 h; exact hd.2.1 h, this.2.frp f fun hh => by rcases hh with h | h; exact hd.2.2.1 h; exact hd.2.2.2 h⟩
  · rw [List.pairwise_iff_getElem]
    have hp := List.pairwise_iff_getElem.1 m.nd.1
    intro i j hi hj hij
    rw [List.length_set] at hi hj
    have g : ∀ (t : Nat) (ht : t < es.length), ((es.set k ⟨q.rb, q.ib, o⟩)[t]'(by simpa using ht)).rb = es[t].rb ∧ ((es.set k ⟨q.rb, q.ib, o⟩)[t]'(by simpa using ht)).ib = es[t].ib := by
      intro t ht
      rw [List.getElem_set]
      split
      · rename_i e2; subst e2; rw [hqe]; exact ⟨rfl, rfl⟩
      · exact ⟨rfl, rfl⟩
    have := hp i j hi hj hij
    rw [(g i hi).1, (g i hi).2, (g j hj).1, (g j hj).2]
    exact this
  · rcases hset e he with rfl | ⟨j, hj, hne, rfl⟩
    · exact m.nd.2 q hqm
    · exact m.nd.2 _ (List.getElem_mem hj)
  · rcases hset e he with rfl | ⟨j, hj, hne, rfl⟩
    · exact m.d2 q hqm b hb
    · exact m.d2 _ (List.getElem_mem hj) b hb
  · rw [hmap]
    have hw := m.wm
    have hmo : ∀ x ∈ (es.map OE.ob).set k o, x ∈ es.map OE.ob ∨ x = o := fun x hx => List.mem_or_eq_of_mem_set hx
    have hqo : q.ob ∈ es.map OE.ob := List.mem_map.2 ⟨q, hqm, rfl⟩
    refine ⟨hw.rl, by simpa using hw.ol, fun x hx => ?_, fun x hx => by simpa using hw.rr x hx, fun x hx y hy => ?_⟩
    · rcases hmo x hx with h | rfl
      · exact hw.fl x h
      · rw [h1, h2]; exact hw.fl _ hqo
    · rcases hmo x hx with h | rfl
      · simpa using hw.fr x h y hy
      · simpa using hr y hy
  · funext b
    unfold hmo
    rw [hblk b]
theorem HM.storeI {i f v : Int} {K : Int → World → Prop} (m : HM w h M O) (hK : ∀ w', HM w' h (hStoreI M i f v).2 O → Gw O w O w' → K (hStoreI M i f v).1 w') : S.heapm_Heap_StoreInt h i f v w K := by
  unfold S.heapm_Heap_StoreInt
  refine m.at_ (fun he => ?_) fun he => ?_
  · rw [if_pos (by simpa using he)]
    have hp : hStoreI M i f v = (hErr M i, M) := by unfold hStoreI; rw [if_pos he]
    rw [hp] at hK
    exact hK w m (Gw.refl _ _)
  · rw [if_neg (by simp)]
    obtain ⟨q1, q2, _⟩ := hErr_ok m.wm he
    have m0 := m
    obtain ⟨es, so, sr, m, e, rfl⟩ := m
    obtain ⟨q, he1, he2, hm⟩ := es_at e q1 q2
    have bad : (f < 0 ∨ (q.ob.ints.length : Int) ≤ f) → K 5 w := fun hc => by
      have hp : hStoreI M i f v = (5, M) := by unfold hStoreI; rw [if_neg (by simpa using he), he2, if_pos hc]
      rw [hp] at hK
      exact hK w m0 (Gw.refl _ _)
    by_cases h1 : f < 0
    · rw [if_pos (by simpa using h1)]
      exact bad (.inl h1)
    rw [if_neg (by simpa using h1)]
    refine m.intsS q1 he1 ?_
    dsimp only
    by_cases h2 : (q.ob.ints.length : Int) ≤ f
    · rw [if_pos (by simpa using h2)]
      exact bad (.inr h2)
    rw [if_neg (by simpa using h2)]
    have hp : hStoreI M i f v = (0, setOb M (rtAt M i) ⟨q.ob.refs, q.ob.ints.set f.toNat v⟩) := by unfold hStoreI; rw [if_neg (by simpa using he), he2, if_neg (by omega)]
    rw [hp] at hK
    refine m.intsS q1 he1 (ix rfl (by omega) (by dsimp only; omega) ?_)
    have hne := m.nd.2 q hm
    refine stA (m.bk q hm).2 (by omega) fun w1 b1 f1 _ => ?_
    have hfr := m.wm.fr q.ob (List.mem_map.2 ⟨q, hm, rfl⟩)
    have F1 : FrP (fun b => b = q.rb ∨ b = q.ib) w w1 := FrP.of f1 fun b h1 h2 => .inr (by omega)
    obtain ⟨k1, k2, k3⟩ := m.fields (o := ⟨q.ob.refs, q.ob.ints.set f.toNat v⟩) he1 rfl (by simp) (by simpa using hfr) F1 ((m.bk q hm).1.fr f1 (by omega)) b1
    refine hK w1 ⟨_, so, sr, k1, by rw [k2, ← e]; rfl, k3.symm⟩ ⟨F1.mono fun b hb => .inr (.inr (.inr ⟨q, hm, hb⟩)), fun b hb => .inl hb⟩
theorem HM.storeR {i f j : Int} {K : Int → World → Prop} (m : HM w h M O) (hK : ∀ w', HM w' h (hStoreR M i f j).2 O → Gw O w O w' → K (hStoreR M i f j).1 w') : S.heapm_Heap_StoreRef h i f j w K := by
  unfold S.heapm_Heap_StoreRef
  refine m.at_ (fun he => ?_) fun he => ?_
  · rw [if_pos (by simpa using he)]
    have hp : hStoreR M i f j = (hErr M i, M) := by unfold hStoreR; rw [if_pos he]
    rw [hp] at hK
    exact hK w m (Gw.refl _ _)
  · rw [if_neg (by simp)]
    obtain ⟨q1, q2, _⟩ := hErr_ok m.wm he
    have m0 := m
    obtain ⟨es, so, sr, m, e, rfl⟩ := m
    have hrl := m.rl
    obtain ⟨q, he1, he2, hm⟩ := es_at e q1 q2
    have bad : (f < 0 ∨ (q.ob.refs.length : Int) ≤ f) → K 5 w := fun hc => by
      have hp : hStoreR M i f j = (5, M) := by unfold hStoreR; rw [if_neg (by simpa using he), he2, if_pos hc]
      rw [hp] at hK
      exact hK w m0 (Gw.refl _ _)
    by_cases h1 : f < 0
    · rw [if_pos (by simpa using h1)]
      exact bad (.inl h1)
    rw [if_neg (by simpa using h1)]
    refine m.refs q1 he1 ?_
    dsimp only
    by_cases h2 : (q.ob.refs.length : Int) ≤ f
    · rw [if_pos (by simpa using h2)]
      exact bad (.inr h2)
    rw [if_neg (by simpa using h2)]
    have bad2 : (j < 0 ∨ (M.roots.length : Int) ≤ j) → K 2 w := fun hc => by
      have hp : hStoreR M i f j = (2, M) := by unfold hStoreR; rw [if_neg (by simpa using he), he2, if_neg (by omega), if_pos hc]
      rw [hp] at hK
      exact hK w m0 (Gw.refl _ _)
    by_cases h3 : j < 0
    · rw [if_pos (by simpa using h3)]
      exact bad2 (.inl h3)
    rw [if_neg (by simpa using h3)]
    refine ldS m.rc rfl ?_
    dsimp only
    by_cases h4 : (M.roots.length : Int) ≤ j
    · rw [if_pos (by simp only [decide_eq_true_eq]; omega)]
      exact bad2 (.inr h4)
    rw [if_neg (by simp only [decide_eq_true_eq]; omega)]
    have hp : hStoreR M i f j = (0, setOb M (rtAt M i) ⟨q.ob.refs.set f.toNat (rtAt M j), q.ob.ints⟩) := by unfold hStoreR; rw [if_neg (by simpa using he), he2, if_neg (by omega), if_neg (by omega)]
    rw [hp] at hK
    refine drew_ ?_
    have m := m.frp (P := fun _ => False) (FrP.of0 (Fr.refl 0 0 w).drew) fun _ _ h => h
    have hK : ∀ w', HM w' h (setOb M (rtAt M i) ⟨q.ob.refs.set f.toNat (rtAt M j), q.ob.ints⟩) (hmo h es so sr) → Gw (hmo h es so sr) w.drew (hmo h es so sr) w' → K 0 w' := fun w' a b => hK w' a ⟨b.1, b.2⟩
    generalize w.drew = w at *
    refine m.refs q1 he1 (ldS m.rc rfl (osRd m.rt (by omega) (by omega) ?_))
    refine ix rfl (by omega) (by dsimp only; omega) ?_
    have hne := m.nd.2 q hm
    refine stA (m.bk q hm).1 (by omega) fun w1 b1 f1 _ => ?_
    have hfr := m.wm.fr q.ob (List.mem_map.2 ⟨q, hm, rfl⟩)
    have hrj := m.wm.rr (rtAt M j) (getD_in (by dsimp only; omega))
    have F1 : FrP (fun b => b = q.rb ∨ b = q.ib) w w1 := FrP.of f1 fun b h1 h2 => .inl (by omega)
    obtain ⟨k1, k2, k3⟩ := m.fields (o := ⟨q.ob.refs.set f.toNat (rtAt M j), q.ob.ints⟩) he1 (by simp) rfl (fun y hy => by
      rcases List.mem_or_eq_of_mem_set hy with hy | hy
      · simpa using hfr y hy
      · subst hy; simpa using hrj) F1 b1 ((m.bk q hm).2.fr f1 (by omega))
    refine hK w1 ⟨_, so, sr, k1, by rw [k2, ← e]; rfl, k3.symm⟩ ⟨F1.mono fun b hb => .inr (.inr (.inr ⟨q, hm, hb⟩)), fun b hb => .inl hb⟩
theorem HM.loadR {i f j : Int} {K : Int → World → Prop} (m : HM w h M O) (hK : ∀ w', HM w' h (hLoadR M i f j).2 O → Gw O w O w' → K (hLoadR M i f j).1 w') : S.heapm_Heap_LoadRef h i f j w K := by
  unfold S.heapm_Heap_LoadRef
  refine m.at_ (fun he => ?_) fun he => ?_
  · rw [if_pos (by simpa using he)]
    have hp : hLoadR M i f j = (hErr M i, M) := by unfold hLoadR; rw [if_pos he]
    rw [hp] at hK
    exact hK w m (Gw.refl _ _)
  · rw [if_neg (by simp)]
    obtain ⟨q1, q2, _⟩ := hErr_ok m.wm he
    have m0 := m
    obtain ⟨es, so, sr, m, e, rfl⟩ := m
    have hrl := m.rl
    obtain ⟨q, he1, he2, hm⟩ := es_at e q1 q2
    have bad : (f < 0 ∨ (q.ob.refs.length : Int) ≤ f) → K 5 w := fun hc => by
      have hp : hLoadR M i f j = (5, M) := by unfold hLoadR; rw [if_neg (by simpa using he), he2, if_pos hc]
      rw [hp] at hK
      exact hK w m0 (Gw.refl _ _)
    by_cases h1 : f < 0
    · rw [if_pos (by simpa using h1)]
      exact bad (.inl h1)
    rw [if_neg (by simpa using h1)]
    refine m.refs q1 he1 ?_
    dsimp only
    by_cases h2 : (q.ob.refs.length : Int) ≤ f
    · rw [if_pos (by simpa using h2)]
      exact bad (.inr h2)
    rw [if_neg (by simpa using h2)]
    have bad2 : (j < 0 ∨ (M.roots.length : Int) ≤ j) → K 2 w := fun hc => by
      have hp : hLoadR M i f j = (2, M) := by unfold hLoadR; rw [if_neg (by simpa using he), he2, if_neg (by omega), if_pos hc]
      rw [hp] at hK
      exact hK w m0 (Gw.refl _ _)
    by_cases h3 : j < 0
    · rw [if_pos (by simpa using h3)]
      exact bad2 (.inl h3)
    rw [if_neg (by simpa using h3)]
    refine ldS m.rc rfl ?_
    dsimp only
    by_cases h4 : (M.roots.length : Int) ≤ j
    · rw [if_pos (by simp only [decide_eq_true_eq]; omega)]
      exact bad2 (.inr h4)
    rw [if_neg (by simp only [decide_eq_true_eq]; omega)]
    have hp : hLoadR M i f j = (0, ⟨M.objs, M.roots.set j.toNat (q.ob.refs.getD f.toNat (-1))⟩) := by unfold hLoadR; rw [if_neg (by simpa using he), he2, if_neg (by omega), if_neg (by omega)]
    rw [hp] at hK
    refine drew_ ?_
    have m := m.frp (P := fun _ => False) (FrP.of0 (Fr.refl 0 0 w).drew) fun _ _ h => h
    have hK : ∀ w', HM w' h ⟨M.objs, M.roots.set j.toNat (q.ob.refs.getD f.toNat (-1))⟩ (hmo h es so sr) → Gw (hmo h es so sr) w.drew (hmo h es so sr) w' → K 0 w' := fun w' a b => hK w' a ⟨b.1, b.2⟩
    generalize w.drew = w at *
    refine ldS m.rc rfl ?_
    refine m.refs q1 he1 (ix rfl (by omega) (by dsimp only; omega) ?_)
    refine ldA (m.bk q hm).1 (m := q.ob.refs.getD f.toNat (-1)) ?_ ?_
    · rw [List.getD_eq_getElem?_getD, List.getElem?_eq_getElem (by omega)]; rfl
    refine osSt m.rt (by omega) (by omega) fun w1 o1 f1 => ?_
    have hfr := m.wm.fr q.ob (List.mem_map.2 ⟨q, hm, rfl⟩)
    have hin := getD_in (l := q.ob.refs) (k := f.toNat) (by omega)
    have hw : WM ⟨es.map OE.ob, M.roots.set j.toNat (q.ob.refs.getD f.toNat (-1))⟩ := m.wm.turn (by simpa using m.wm.rl) fun y hy => by
      rcases List.mem_or_eq_of_mem_set hy with hy | hy
      · exact .inr (.inl hy)
      · subst hy; exact .inr (.inr (hfr _ hin))
    have hsh := m.d1.2.1
    have m1 : HMm w1 h es (M.roots.set j.toNat (q.ob.refs.getD f.toNat (-1))) so sr :=
      ⟨m.rc.frp f1 hsh, m.oo.frp f1 fun b hb => m.d1.2.2 b hb, o1, fun e he => ⟨(m.bk e he).1.frp f1 (m.d2 e he _ (.inl rfl)).2.2, (m.bk e he).2.frp f1 (m.d2 e he _ (.inr rfl)).2.2⟩, m.nd, m.d1, m.d2, hw⟩
    exact hK w1 ⟨es, so, sr, m1, e, rfl⟩ ⟨f1.mono fun b hb => .inr (.inr (.inl hb)), fun b hb => .inl hb⟩
end Go.Proofs.Qxb6500562aGreat
