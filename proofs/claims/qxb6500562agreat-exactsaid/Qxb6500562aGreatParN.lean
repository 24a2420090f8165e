/-
  The model's parser: tokens wanted, nodes added, types.
-/
import Derived.Test.Qxb6500562aGreatParM
namespace Go.Proofs.Qxb6500562aGreat
open Go.Den Go.Zip
set_option linter.unusedVariables false
set_option linter.unusedSimpArgs false
variable {α β : Type} {T : List Tok} {w0 w w' : World} {s tb p : Nat} {o : PR α} {L : List (Nat × List Value)} {vs : List Value}

theorem held {b o n : Nat} {vs : List Value} (h : Blk w b vs) (h' : Blk w' b vs) : ∀ i, i < n → w'.cell? (Addr.add ⟨b, o, none⟩ i) = w.cell? (Addr.add ⟨b, o, none⟩ i) := fun i _ => by rw [add_mk, h'.cell, h.cell]
theorem PM.okv {x : α} {y : β} {st : PS} (h : PM T w0 s tb (.ok (x, st) : PR α) L w) : PM T w0 s tb (.ok (y, st) : PR β) L w := ⟨h.tok, h.ex⟩
theorem PM.errv {q : Int × Int} (h : PM T w0 s tb (.error q : PR α) L w) : PM T w0 s tb (.error q : PR β) L w := ⟨h.tok, h.ex⟩
theorem PM.val {f : α → β} (h : PM T w0 s tb o L w) : PM T w0 s tb (bnd o fun x s => .ok (f x, s)) L w := by
  rcases o with q | ⟨x, st⟩
  · exact h.errv
  · exact h.okv
theorem PM.lt {x : α} {st : PS} (h : PM T w0 s tb (.ok (x, st) : PR α) L w) : st.1 < T.length ∧ st.2.length ≤ 200 := by
  obtain ⟨sl, _, _, h3⟩ := h.ex
  exact ⟨h3.1, h3.2.1⟩
theorem mwant_spec {k : Int} {K : Int → World → Prop} (h : PM T w0 s tb o L w) (hk : k ≠ 0) (hK : ∀ r w', PM T w0 s tb (bnd o fun _ s => pTake T k s) L w' → (∀ x st, o = .ok (x, st) → r = psn T st.1) → K r w') : S.parsem_st_want s k w K := by
  unfold S.parsem_st_want
  refine mat_spec h fun r w1 h hr => ?_
  refine h.err (fun e q he hne => ?_) (fun x st he => ?_)
  · subst he
    rw [if_pos (by simpa using hne)]
    exact hK r w1 h.errv (fun _ _ h => by cases h)
  · subst he
    rw [if_neg (by simp)]
    refine mkind_spec h fun r3 w2 h hr3 => ?_
    rw [hr3 _ _ rfl]
    by_cases hkk : knd T st.1 = k
    · rw [if_neg (by simp [hkk])]
      refine mnext_spec h (fun x' st' he => by cases he; rw [hkk]; exact hk) fun w3 h => ?_
      refine hK r w3 ?_ hr
      simp only [bnd_ok, pTake, if_pos hkk] at h ⊢
      exact h.okv
    · rw [if_pos (by simpa using hkk)]
      refine mfail_spec (β := Unit) h (by omega) fun w3 h => ?_
      refine hK r w3 ?_ hr
      simp only [bnd_ok, pTake, if_neg hkk] at h ⊢
      rw [hr _ _ rfl] at h
      exact h
theorem mname_spec {K : ByteArray → Int → World → Prop} (h : PM T w0 s tb o L w) (hK : ∀ t r w', PM T w0 s tb (bnd o fun _ s => pTake T 1 s) L w' → (∀ x st, o = .ok (x, st) → t = txt T st.1 ∧ r = psn T st.1) → K t r w') : S.parsem_st_name s w K := by
  unfold S.parsem_st_name
  refine drew_ ?_
  have h := h.drew
  generalize w.drew = w1 at *
  obtain ⟨sl, i, e, q, b1, hi, b2, hst⟩ := h.rd
  refine ldS b1 rfl (ldI b1 rfl (ix rfl (by omega) (by dsimp only; omega) ?_))
  refine ldI b2 (m := knd T i) ((tokCell (k := 0) hi (by omega)).trans rfl) ?_
  refine ldI b2 (m := psn T i) ((tokCell (k := 1) hi (by omega)).trans rfl) ?_
  refine ldI b2 (m := (tk T i).val) ((tokCell (k := 2) hi (by omega)).trans rfl) ?_
  refine ldStr b2 (m := txt T i) ((tokCell (k := 3) hi (by omega)).trans rfl) ?_
  refine newB fun w2 c2 f2 s2 => ?_
  have h2 := h.new f2 (Nat.le_refl _) c2
  have d1 := b1.fr f2 (by omega)
  have d2 := b2.fr f2 (by omega)
  refine ⟨held b2 d2, held b1 d1, held b1 d1, ?_⟩
  refine h2.st (by simp) fun w3 h3 => h3.st (by simp) fun w4 h4 => h4.st (by simp) fun w5 h5 => h5.st (by simp) fun w6 h6 => ?_
  refine mwant_spec h6 (by omega) fun r w7 h7 _ => ?_
  refine drew_ ?_
  have h8 := h7.drew
  refine ldStr h8.loc rfl (ldI h8.loc rfl ?_)
  exact hK _ _ _ h8.tail fun x st e => by rw [hst x st e]; exact ⟨rfl, rfl⟩
theorem madd_spec {n : Nd} {K : Int → World → Prop} (h : PM T w0 s tb o L w) (hK : ∀ r w', PM T w0 s tb (bnd o fun _ s => pAdd n s) L w' → (∀ x st, (bnd o fun _ s => pAdd n s) = .ok (x, st) → r = x) → K r w') :
    S.parsem_st_add s n.kind n.a n.b n.c n.next n.val n.pos n.name w K := by
  unfold S.parsem_st_add
  refine newB fun w1 b1 f1 s1 => ?_
  have h1 := h.new f1 (Nat.le_refl _) (cs := ndV n) b1
  refine h1.err (fun e q he hne => ?_) (fun x st he => ?_)
  · subst he
    rw [if_pos (by simpa using hne)]
    exact hK _ w1 h1.tail.errv (fun _ _ h => by cases h)
  · subst he
    rw [if_neg (by simp)]
    obtain ⟨i, ns⟩ := st
    obtain ⟨sl, hs, hns, a1, a2, a3, a4⟩ := h1.ex
    refine ldS a3 rfl ?_
    have hl := a4.len
    rw [nds_len] at hl
    have hll : sl.l = ns.length := by omega
    by_cases hbig : 200 ≤ ns.length
    · rw [if_pos (by simp only [decide_eq_true_eq]; omega)]
      refine ldI h1.loc rfl ?_
      refine mfail_spec (β := Int) h1 (by omega) fun w3 h3 => ?_
      refine hK _ w3 ?_ ?_
      · simp only [bnd_ok, pAdd, if_pos hbig] at h3 ⊢
        exact h3.tail
      · intro x st h
        simp only [bnd_ok, pAdd, if_pos hbig] at h
        cases h
    · rw [if_neg (by simp only [decide_eq_true_eq]; omega)]
      refine drew_ ?_
      have hsd := hs.drew
      have a3d := a3.drew
      have a4d : OS w1.drew sl (ns.flatMap ndV) 8 := a4.frp (FrP.of0 (P := fun _ => False) (Fr.refl 0 0 w1).drew) fun _ _ h => h
      generalize w1.drew = w2 at *
      have b2 : Blk w2 w.heap.size (ndV n) := hsd.blk
      refine ldS a3d rfl (ldNode b2 ?_)
      refine newB fun w3 b3 f3 s3 => ?_
      have a3e := a3d.fr f3 (by omega)
      refine ⟨held a3d a3e, ?_⟩
      have hs3 := hsd.ext f3
      have a4e := a4d.frp (FrP.of0 (P := fun _ => False) f3) fun _ _ h => h
      refine appO a4e b3 (by rfl) (by omega) rfl rfl (by show (sl.l + 1) * 72 ≤ 2 ^ 46; omega) fun sl' w4 o4 hl4 hg4 f4 => ?_
      have hsow := hs3.ow s (.inl rfl)
      have hns' : ¬ owns sl' s := fun ho => by
        rcases hg4.owns ho with h | h
        · exact hns h
        · omega
      have a3f := a3e.frp f4 hns
      refine st1 a3f (by simp [mRec]) fun w5 b5 f5 s5 => ?_
      refine ldS b5 rfl ?_
      have hs4 : Sep w0 (fun _ => False) w4 (fun b => b = s ∨ owns sl' b) _ := hs3.step (f4.mono fun b hb => .inr hb) (own' := fun b => b = s ∨ owns sl' b) fun b hb => by
        have hle := f4.1.1
        rcases hb with rfl | hb
        · exact ⟨.inl (.inl rfl), by omega⟩
        · refine ⟨?_, o4.lt hb⟩
          rcases hg4.owns hb with h | h
          · exact .inl (.inr h)
          · exact .inr h
      have hs5 := hs4.step0 (FrP.of (P := fun b => b = s ∨ owns sl' b) f5 fun b h1 h2 => .inl (by omega))
      have o5 := o4.frp (FrP.of (P := fun b => b = s) f5 fun b h1 h2 => by omega) fun b hb e => hns' (by rw [← e]; exact hb)
      dsimp only
      refine hK _ w5 ?_ ?_
      · simp only [bnd_ok, pAdd, if_neg hbig]
        refine ⟨h.tok, sl', hs5.tail, hns', a1, by simp; omega, b5, ?_⟩
        rw [List.flatMap_append]
        simpa [ndV] using o5
      · intro x st h
        simp only [bnd_ok, pAdd, if_neg hbig] at h
        cases h
        rw [hl4, hll, W_id (by omega) (by omega)]
        omega
theorem mlink_spec {first last x : Int} {K : Int → World → Prop} (h : PM T w0 s tb o L w) (hp : ∀ y st, o = .ok (y, st) → (first < 0 ↔ last < 0) ∧ last < st.2.length)
    (hK : ∀ r w', PM T w0 s tb (bnd o fun y s => .ok (y, pHang last x s)) L w' → (∀ y st, o = .ok (y, st) → r = if first < 0 then x else first) → K r w') : S.parsem_st_link s first last x w K := by
  unfold S.parsem_st_link
  refine h.err (fun e q he hne => ?_) (fun y st he => ?_)
  · subst he
    rw [if_pos (by simpa using hne)]
    exact hK _ w h.errv (fun _ _ h => by cases h)
  · subst he
    rw [if_neg (by simp)]
    obtain ⟨hp1, hp2⟩ := hp _ _ rfl
    by_cases hf : first < 0
    · rw [if_pos (by simpa using hf)]
      refine hK _ w ?_ (fun _ _ _ => by rw [if_pos hf])
      simp only [bnd_ok, pHang, if_pos (hp1.1 hf)]
      exact h.okv
    · rw [if_neg (by simpa using hf)]
      have hl : ¬ last < 0 := fun h => hf (hp1.2 h)
      obtain ⟨i, ns⟩ := st
      obtain ⟨sl, hs, hns, a1, a2, a3, a4⟩ := h.ex
      refine ldS a3 rfl ?_
      dsimp only at hp2 ⊢
      obtain ⟨m, rfl⟩ : ∃ m : Nat, last = m := ⟨last.toNat, by omega⟩
      have hm : m < ns.length := by omega
      have hlen := a4.len
      rw [nds_len] at hlen
      rcases a4 with ⟨e1, e2⟩ | ⟨g, c1, c2, c3, junk, c4, c5⟩
      · have := congrArg List.length e2
        rw [nds_len] at this
        simp at this
        omega
      refine ix c1 (by omega) (by omega) ?_
      rw [Nat.zero_add, Int.toNat_natCast]
      have hnl := nds_len ns
      have hin : m * 8 + 4 < (ns.flatMap ndV).length := by omega
      refine st1 c4 (by rw [List.length_append]; omega) fun w' b' f' s' => ?_
      rw [List.set_append_left _ _ hin, nds_next ns m x hm] at b'
      have hgs : g ≠ s := fun e => hns (by rw [← e]; exact c1)
      refine hK _ w' ?_ (fun _ _ _ => by rw [if_neg hf])
      simp only [bnd_ok, pHang, if_neg hl, Int.toNat_natCast]
      refine ⟨h.tok, sl, hs.step0 (FrP.of f' fun b h1 h2 => .inr (by have : b = g := by omega
                                                                     rw [this]; exact c1)), hns, a1, by simpa using a2, a3.fr f' (by omega), .inr ⟨g, c1, ?_, c3, junk, b', ?_⟩⟩
      · rw [nds_len, setNext_length, ← nds_len]; exact c2
      · rw [List.length_append, nds_len, setNext_length, ← nds_len, ← List.length_append]; exact c5
theorem menter_spec {d : Int} {K : Bool → World → Prop} (h : PM T w0 s tb o L w) (h1 : ∀ w', PM T w0 s tb o L w' → (∃ x st, o = .ok (x, st)) → d < 8 → K true w')
    (h2 : ∀ w', PM T w0 s tb (bnd o fun _ s => (.error (11, psn T s.1) : PR β)) L w' → ((∃ q, o = .error q) ∨ 8 ≤ d) → K false w') : S.parsem_st_enter s d w K := by
  unfold S.parsem_st_enter
  refine h.err (fun e q he hne => ?_) (fun y st he => ?_)
  · subst he
    rw [if_pos (by simpa using hne)]
    exact h2 w h.errv (.inl ⟨_, rfl⟩)
  · subst he
    rw [if_neg (by simp)]
    by_cases hd : 8 ≤ d
    · rw [if_pos (by simpa using hd)]
      refine mat_spec h fun r w1 h hr => ?_
      refine mfail_spec (β := β) h (by omega) fun w2 h => ?_
      rw [hr _ _ rfl] at h
      exact h2 w2 h (.inr hd)
    · rw [if_neg (by simpa using hd)]
      exact h1 w h ⟨_, _, rfl⟩ (by omega)
theorem tyOpen_le (T : List Tok) : ∀ (k : Nat) (st : PS) (d : Nat) (st' : PS), tyOpen T k st = .ok (d, st') → d ≤ k
  | 0, st, d, st', h => by
    unfold tyOpen at h
    split at h <;> cases h
    exact Nat.le_refl _
  | k + 1, st, d, st', h => by
    unfold tyOpen at h
    split at h
    · obtain ⟨d', s', h1, h2⟩ := bnd_inv h
      cases h2
      have := tyOpen_le T k _ _ _ h1
      omega
    · cases h; omega
theorem mtyp_spec {K : Int → World → Prop} (h : PM T w0 s tb o L w) (hK : ∀ r w', PM T w0 s tb (bnd o fun _ s => pTyp T s) L w' → (∀ x st, (bnd o fun _ s => pTyp T s) = .ok (x, st) → r = x) → K r w') : S.parsem_st_typ s w K := by
  unfold S.parsem_st_typ
  refine join_P (fun (dims : Int) u => ∃ d : Nat, dims = d ∧ d ≤ 3 ∧ PM T w0 s tb (bnd o fun _ s => tyOpen T 3 s) L u ∧ ∀ x st, (bnd o fun _ s => tyOpen T 3 s) = .ok (x, st) → x = d) ?_ ?_
  · rintro _ u ⟨d, rfl, hd, h, hv⟩
    generalize ho1 : (bnd o fun _ s => tyOpen T 3 s) = o1 at *
    refine mkind_spec h fun r2 w2 h hr2 => ?_
    refine join_P (fun (t : Int) u => 0 ≤ t ∧ t ≤ 1 ∧ PM T w0 s tb (bnd o1 fun _ s => tyBase T s) L u ∧ ∀ x st, (bnd o1 fun _ s => tyBase T s) = .ok (x, st) → x = t) ?_ ?_
    · rintro t u ⟨ht0, ht1, h, hvt⟩
      generalize ho2 : (bnd o1 fun _ s => tyBase T s) = o2 at *
      refine join_W (fun u => PM T w0 s tb (bnd o2 fun _ s => tyClose T d s) L u) ?_ ?_
      · intro u h
        refine hK _ u ?_ ?_
        · have e : (bnd o fun _ s => pTyp T s) = bnd (bnd o2 fun _ s => tyClose T d s) fun _ s => .ok (t + 2 * d, s) := by
            unfold pTyp
            rw [← ho2, ← ho1]
            rcases o with q | ⟨y, st⟩
            · rfl
            · simp only [bnd_ok] at ho1 ⊢
              rw [ho1]
              rcases o1 with q | ⟨z, st1⟩
              · rfl
              · simp only [bnd_ok] at ho2 ⊢
                have := hv _ _ rfl
                subst this
                rw [ho2]
                rcases o2 with q | ⟨t', st2⟩
                · rfl
                · have := hvt _ _ rfl
                  subst this
                  simp only [bnd_ok]
          rw [e]
          exact h.val (f := fun _ => t + 2 * (d : Int))
        · intro x st hx
          have e : x = t + 2 * d := by
            rcases o with q | ⟨y, s0⟩
            · cases hx
            simp only [bnd_ok] at hx ho1
            unfold pTyp at hx
            obtain ⟨d', s1, e1, hx⟩ := bnd_inv hx
            rw [e1] at ho1
            subst ho1
            obtain ⟨t', s2, e2, hx⟩ := bnd_inv hx
            simp only [bnd_ok] at ho2
            rw [e2] at ho2
            subst ho2
            obtain ⟨_, s3, e3, hx⟩ := bnd_inv hx
            cases hx
            rw [hv _ _ rfl, hvt _ _ rfl]
          rw [e, W_id (x := 2 * (d : Int)) (by omega) (by omega), W_id (by omega) (by omega)]
      · intro J4 hJ4
        refine loopN (fun m st u => ∃ (k : Nat) (o3 : PR Unit), st = ((k : Int), ()) ∧ k ≤ d ∧ m = d - k ∧ PM T w0 s tb o3 L u ∧ (bnd o3 fun _ s => tyClose T (d - k) s) = bnd o2 fun _ s => tyClose T d s) d
          ⟨0, bnd o2 fun _ s => .ok ((), s), rfl, by omega, by omega, h.val (f := fun _ => ()), by rw [bnd_assoc]; rfl⟩ ?_
        rintro m _ u ⟨k, o3, rfl, hk, rfl, h3, he⟩ Q hQ
        dsimp only
        by_cases hkd : k < d
        · rw [if_pos (by simp only [decide_eq_true_eq]; omega)]
          refine mwant_spec h3 (by omega) fun r7 w7 h7 _ => ?_
          refine let_ ?_
          rw [W_succ (by omega)]
          refine hQ _ _ w7 (by omega) ⟨k + 1, _, rfl, by omega, rfl, h7, ?_⟩
          rw [← he, bnd_assoc]
          congr 1
          funext x s
          rw [show d - k = (d - (k + 1)) + 1 by omega]
          rfl
        · rw [if_neg (by simp only [decide_eq_true_eq]; omega)]
          have hkd' : d - k = 0 := by omega
          rw [hkd'] at he
          refine hJ4 u ?_
          rw [← he]
          exact h3.val (f := fun _ => ())
    · intro J9 hJ9
      by_cases h16 : r2 = 16
      · rw [if_pos (by simp [h16])]
        refine mnext_spec h (fun x st e => by rw [← hr2 x st e, h16]; decide) fun w3 h3 => ?_
        refine hJ9 1 w3 ⟨by omega, by omega, ?_, ?_⟩
        · have e : (bnd o1 fun _ s => tyBase T s) = bnd (bnd o1 fun x s => .ok (x, s.1 + 1, s.2)) fun _ s => .ok (1, s) := by
            rcases o1 with q | ⟨x, st⟩
            · rfl
            · simp only [bnd_ok, tyBase]
              rw [if_pos (by rw [← hr2 _ _ rfl, h16])]
          rw [e]
          exact h3.val (f := fun _ => (1 : Int))
        · intro x st hx
          rcases o1 with q | ⟨y, s0⟩
          · cases hx
          simp only [bnd_ok] at hx
          unfold tyBase at hx
          rw [if_pos (by rw [← hr2 _ _ rfl, h16])] at hx
          cases hx; rfl
      · rw [if_neg (by simpa using h16)]
        refine mwant_spec h (by omega) fun r10 w3 h3 _ => ?_
        refine hJ9 0 w3 ⟨by omega, by omega, ?_, ?_⟩
        · have e : (bnd o1 fun _ s => tyBase T s) = bnd (bnd o1 fun _ s => pTake T 15 s) fun _ s => .ok (0, s) := by
            rcases o1 with q | ⟨x, st⟩
            · rfl
            · simp only [bnd_ok, tyBase]
              rw [if_neg (by rw [← hr2 _ _ rfl]; exact h16)]
          rw [e]
          exact h3.val (f := fun _ => (0 : Int))
        · intro x st hx
          rcases o1 with q | ⟨y, s0⟩
          · cases hx
          simp only [bnd_ok] at hx
          unfold tyBase at hx
          rw [if_neg (by rw [← hr2 _ _ rfl]; exact h16)] at hx
          obtain ⟨_, s1, e1, hx⟩ := bnd_inv hx
          cases hx; rfl
  · intro J11 hJ11
    refine loopN (fun m st u => ∃ (d : Nat) (o1 : PR Unit), st = ((d : Int), ()) ∧ d ≤ 3 ∧ m = 3 - d ∧ PM T w0 s tb o1 L u ∧ (bnd o1 fun _ s => bnd (tyOpen T (3 - d) s) fun k s => .ok (d + k, s)) = bnd o fun _ s => tyOpen T 3 s) 3
      ⟨0, bnd o fun _ s => .ok ((), s), rfl, by omega, by omega, h.val (f := fun _ => ()), ?_⟩ ?_
    · rw [bnd_assoc]
      congr 1
      funext x s
      simp only [bnd_ok, Nat.zero_add, Nat.sub_zero]
      rcases tyOpen T 3 s with q | ⟨y, st⟩ <;> rfl
    rintro m _ u ⟨d, o1, rfl, hd, rfl, h1, he⟩ Q hQ
    dsimp only
    refine h1.err (fun e q he1 hne => ?_) (fun y st he1 => ?_)
    · subst he1
      rw [if_neg (by simpa using hne)]
      refine hJ11 _ u ⟨d, rfl, hd, ?_, ?_⟩
      · rw [← he]; exact h1.errv
      · intro x st hx; rw [← he] at hx; cases hx
    · subst he1
      rw [if_pos (by rfl)]
      refine mkind_spec h1 fun r w2 h2 hr => ?_
      rw [hr _ _ rfl]
      simp only [bnd_ok] at he
      by_cases hk : knd T st.1 = 21
      · rw [if_pos (by simp [hk])]
        by_cases hd3 : d = 3
        · rw [if_pos (by simp only [decide_eq_true_eq]; omega)]
          have he' : (bnd o fun _ s => tyOpen T 3 s) = .error (11, psn T st.1) := by
            rw [← he, hd3]
            show bnd (tyOpen T 0 st) _ = _
            unfold tyOpen
            rw [if_pos hk]; rfl
          have hpt : (bnd o fun _ s => pTyp T s) = .error (11, psn T st.1) := by
            rcases o with q | ⟨y, st0⟩
            · simp only [bnd_error, Except.error.injEq] at he' ⊢
              exact he'
            · simp only [bnd_ok] at he' ⊢
              unfold pTyp
              rw [he']; rfl
          refine mat_spec h2 fun r16 w3 h3 hr16 => ?_
          refine mfail_spec (β := Int) h3 (by omega) fun w4 h4 => ?_
          refine hK _ w4 ?_ ?_
          · rw [hpt]
            rw [hr16 _ _ rfl] at h4
            exact h4
          · intro x st' hx
            rw [hpt] at hx
            cases hx
        · rw [if_neg (by simp only [decide_eq_true_eq]; omega)]
          refine let_ ?_
          refine mnext_spec h2 (fun x' st' e => by cases e; rw [hk]; decide) fun w3 h3 => ?_
          rw [W_succ (by omega)]
          refine hQ _ _ w3 (by omega) ⟨d + 1, _, rfl, by omega, rfl, h3, ?_⟩
          rw [← he]
          simp only [bnd_ok]
          rw [show 3 - d = (3 - (d + 1)) + 1 by omega]
          conv => rhs; unfold tyOpen
          rw [if_pos hk, bnd_assoc]
          congr 1
          funext x s
          simp only [bnd_ok]
          rw [Nat.add_assoc, Nat.add_comm 1 x]
      · rw [if_neg (by simpa using hk)]
        have he' : (bnd o fun _ s => tyOpen T 3 s) = .ok (d, st) := by
          rw [← he]
          have : tyOpen T (3 - d) st = .ok (0, st) := by
            cases h3 : 3 - d with
            | zero => unfold tyOpen; rw [if_neg hk]
            | succ n => unfold tyOpen; rw [if_neg hk]
          rw [this]; rfl
        refine hJ11 _ w2 ⟨d, rfl, hd, ?_, ?_⟩
        · rw [he']; exact h2.okv
        · intro x st' hx
          rw [he'] at hx; cases hx; rfl
end Go.Proofs.Qxb6500562aGreat
