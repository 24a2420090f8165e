/-
  The real heap: Alloc, New; it answers the spec's.
-/
import Derived.Test.Qxb6500562aGreatHrE
namespace Go.Proofs.Qxb6500562aGreat
open Go.Den Go.Zip
set_option linter.unusedVariables false
set_option linter.unusedSimpArgs false
variable {w w' : World} {h : Nat} {f : Nat → Int} {M H : SH} {b t : Nat} {l : List Int}

theorem len_tot (M : SH) : M.objs.length ≤ tot M := by
  unfold tot ofs ofsL
  rw [List.take_length]
  have : ∀ os : List Ob, os.length ≤ (os.map osz).sum := by
    intro os
    induction os with
    | nil => simp
    | cons x l ih =>
      simp only [List.length_cons, List.map_cons, List.sum_cons]
      have : 1 ≤ osz x := by unfold osz; omega
      omega
  exact this _
theorem live_tot (wm : WM M) : live M ≤ tot M := sum_ofs M (Nat.le_refl _) (order_nodup M) (order_in wm)
/-- A birth, in the record. -/
theorem RL.born {f' : Nat → Int} {A B : Nat} (r : RL f M b) (wm : WM M) (h24 : M.roots.length < 24) (hl : tot M + (1 + A + B) ≤ 48) (e1 : f' 97 = (b + tot M + (1 + A + B) : Nat)) (e2 : f' 122 = ((M.roots.length + 1 : Nat) : Int)) (e3 : f' (98 + M.roots.length) = ((b + tot M : Nat) : Int))
    (e4 : f' (b + tot M) = ((A * 49 + B : Nat) : Int)) (e5 : ∀ j, j < A → f' (b + tot M + 1 + j) = -1) (e6 : ∀ j, j < B → f' (b + tot M + 1 + A + j) = 0)
    (e7 : ∀ j, j ≠ 97 → j ≠ 122 → j ≠ 98 + M.roots.length → (j < b + tot M ∨ b + tot M + (1 + A + B) ≤ j) → f' j = f j) : RL f' (born M A B) b ∧ WM (born M A B) := by
  have hlen := len_tot M
  have hbb := r.bb
  have eo : ∀ k, k ≤ M.objs.length → ofs (Go.Proofs.Qxb6500562aGreat.born M A B) k = ofs M k := fun k hk => by
    unfold ofs ofsL Go.Proofs.Qxb6500562aGreat.born
    dsimp only
    rw [List.take_append_of_le_length hk]
  have enew : obN (Go.Proofs.Qxb6500562aGreat.born M A B) M.objs.length = ⟨List.replicate A (-1), List.replicate B 0⟩ := by
    unfold obN Go.Proofs.Qxb6500562aGreat.born; simp
  have eold : ∀ k, k < M.objs.length → obN (Go.Proofs.Qxb6500562aGreat.born M A B) k = obN M k := fun k hk => by
    unfold obN Go.Proofs.Qxb6500562aGreat.born
    dsimp only
    rw [List.getD_eq_getElem?_getD, List.getElem?_append_left hk, ← List.getD_eq_getElem?_getD]
  have elen : (Go.Proofs.Qxb6500562aGreat.born M A B).objs.length = M.objs.length + 1 := by simp [Go.Proofs.Qxb6500562aGreat.born]
  have ert : (Go.Proofs.Qxb6500562aGreat.born M A B).roots = M.roots ++ [(M.objs.length : Int)] := rfl
  have etot : tot (Go.Proofs.Qxb6500562aGreat.born M A B) = tot M + (1 + A + B) := by
    unfold tot
    rw [elen]
    have : ofs (Go.Proofs.Qxb6500562aGreat.born M A B) (M.objs.length + 1) = ofs (Go.Proofs.Qxb6500562aGreat.born M A B) M.objs.length + osz (obN (Go.Proofs.Qxb6500562aGreat.born M A B) M.objs.length) := ofsL_succ _ _ (by rw [elen]; omega)
    rw [this, enew, eo _ (Nat.le_refl _), osz_eq]
    simp
  have ea : ∀ x : Int, -1 ≤ x ∧ x < M.objs.length → adr (Go.Proofs.Qxb6500562aGreat.born M A B) b x = adr M b x := fun x hx => by
    unfold adr
    rw [eo _ (by omega)]
  have htt : ofs M M.objs.length = tot M := rfl
  refine ⟨⟨r.bb, ?_, ?_, by rw [etot]; omega, ?_, fun k hk => ?_, fun k hk => ?_, fun k j hk hj => ?_, fun k j hk hj => ?_⟩, ?_⟩
  · rw [e7 _ (by omega) (by omega) (by omega) (by omega)]; exact r.bs
  · rw [e1, etot]; omega
  · rw [e2, ert]; simp
  · rw [ert, List.length_append, List.length_singleton] at hk
    rw [ert]
    by_cases e : k = M.roots.length
    · subst e
      rw [e3, getD_end]
      unfold adr
      rw [if_neg (by omega), Int.toNat_natCast, eo _ (Nat.le_refl _), htt]
    · rw [e7 _ (by omega) (by omega) (by omega) (by omega), getD_snoc _ _ _ (by omega), r.rt k (by omega), ea _ (wm.rr _ (getD_in (by omega)))]
  · rw [elen] at hk
    by_cases e : k = M.objs.length
    · subst e
      rw [eo _ (Nat.le_refl _), enew, htt, e4]
      unfold hdr; simp
    · have := ofs_tot (M := M) (k := k) (by omega)
      have ho := osz_eq (obN M k)
      rw [eo _ (by omega), eold k (by omega), e7 _ (by omega) (by omega) (by omega) (by omega)]
      exact r.hd k (by omega)
  · rw [elen] at hk
    by_cases e : k = M.objs.length
    · subst e
      rw [enew] at hj ⊢
      have hj : j < A := by simpa using hj
      rw [eo _ (Nat.le_refl _), htt, e5 j hj]
      simp [adr, List.getElem?_replicate, hj]
    · have := ofs_tot (M := M) (k := k) (by omega)
      have ho := osz_eq (obN M k)
      rw [eold k (by omega)] at hj ⊢
      have hin : obN M k ∈ M.objs := by unfold obN; rw [List.getD_eq_getElem?_getD, List.getElem?_eq_getElem (by omega)]; exact List.getElem_mem _
      rw [eo _ (by omega), e7 _ (by omega) (by omega) (by omega) (by omega), r.rf k j (by omega) hj, ea _ (wm.fr _ hin _ (getD_in hj))]
  · rw [elen] at hk
    by_cases e : k = M.objs.length
    · subst e
      rw [enew] at hj ⊢
      have hj : j < B := by simpa using hj
      dsimp only
      rw [List.length_replicate, eo _ (Nat.le_refl _), htt, e6 j hj]
      simp [List.getElem?_replicate, hj]
    · have := ofs_tot (M := M) (k := k) (by omega)
      have ho := osz_eq (obN M k)
      rw [eold k (by omega)] at hj ⊢
      rw [eo _ (by omega), e7 _ (by omega) (by omega) (by omega) (by omega)]
      exact r.it k j (by omega) hj
  · refine ⟨by rw [ert]; simp; omega, by rw [elen]; omega, fun o ho => ?_, fun x hx => ?_, fun o ho y hy => ?_⟩
    · rcases List.mem_append.1 ho with ho | ho
      · exact wm.fl o ho
      · have : o = ⟨List.replicate A (-1), List.replicate B 0⟩ := by simpa using ho
        subst this
        simp; omega
    · rw [elen]
      rcases List.mem_append.1 hx with hx | hx
      · have := wm.rr x hx; omega
      · simp only [List.mem_singleton] at hx; omega
    · rw [elen]
      rcases List.mem_append.1 ho with ho | ho
      · have := wm.fr o ho y hy; omega
      · have : o = ⟨List.replicate A (-1), List.replicate B 0⟩ := by simpa using ho
        subst this
        have := List.eq_of_mem_replicate hy
        omega
theorem rfree {K : Int → World → Prop} (m : HR w h M) (hK : ∀ w', HR w' h M → Fr h 1 w w' → K ((48 - tot M : Nat) : Int) w') : S.heap_Heap_Free h w K := by
  unfold S.heap_Heap_Free
  refine drew_ ?_
  have m1 := m.drew
  have F0 : Fr h 1 w w.drew := (Fr.refl _ _ _).drew
  generalize w.drew = v at *
  have m2 := m1
  obtain ⟨wm, f, b, hb, r⟩ := m1
  have := r.le
  have := r.bb
  refine ldH hb (by omega) (ldH hb (by omega) ?_)
  rw [r.bs, r.fr, W_id (x := (b : Int) + 48) (by omega) (by omega), W_id (by omega) (by omega), show (b : Int) + 48 - ((b + tot M : Nat) : Int) = ((48 - tot M : Nat) : Int) by omega]
  exact hK v m2 F0
set_option maxHeartbeats 1000000 in
theorem ralloc {a b : Int} {K : Int → World → Prop} (m : HR w h M) (hK : ∀ w' M', HR w' h M' → (∀ H, Rel H M → Rel (hAlloc H a b).2 M') → Fr h 1 w w' → K (hAlloc M a b).1 w') : S.heap_Heap_Alloc h a b w K := by
  unfold S.heap_Heap_Alloc
  have wm := m.1
  have codes : ∀ (c : Int) (u : World) (M' : SH), hAlloc M a b = (c, M) → c ≠ 0 → HR u h M' → (M' = M ∨ M' = tidy M) → Fr h 1 w u → K c u := fun c u M' hp hc hm hor F => by
    rw [hp] at hK
    refine hK u M' hm (fun H hr => ?_) F
    have h1 := (hr.alloc a b).1
    have h2 := (hr.alloc a b).2
    rw [hp] at h1 h2
    rcases hor with rfl | rfl
    · exact h2
    · exact h2.tidy
  by_cases h1 : a < 0
  · rw [if_pos (by simpa using h1)]
    exact codes 1 w M (by unfold hAlloc; rw [if_pos (.inl h1)]) (by decide) m (.inl rfl) (Fr.refl _ _ _)
  rw [if_neg (by simpa using h1)]
  by_cases h2 : b < 0
  · rw [if_pos (by simpa using h2)]
    exact codes 1 w M (by unfold hAlloc; rw [if_pos (.inr h2)]) (by decide) m (.inl rfl) (Fr.refl _ _ _)
  rw [if_neg (by simpa using h2)]
  refine rdepth (K := fun top_1 w => if (decide (top_1 ≥ 24)) = true then _ else _) m ?_
  by_cases h3 : 24 ≤ M.roots.length
  · rw [if_pos (by simp only [decide_eq_true_eq]; omega)]
    exact codes 3 w M (by unfold hAlloc; rw [if_neg (by omega), if_pos h3]) (by decide) m (.inl rfl) (Fr.refl _ _ _)
  rw [if_neg (by simp only [decide_eq_true_eq]; omega)]
  by_cases h4 : 48 < a
  · rw [if_pos (by simpa using h4)]
    exact codes 6 w M (by unfold hAlloc; rw [if_neg (by omega), if_neg h3, if_pos (.inl h4)]) (by decide) m (.inl rfl) (Fr.refl _ _ _)
  rw [if_neg (by simpa using h4)]
  by_cases h5 : 48 < b
  · rw [if_pos (by simpa using h5)]
    exact codes 6 w M (by unfold hAlloc; rw [if_neg (by omega), if_neg h3, if_pos (.inr (.inl h5))]) (by decide) m (.inl rfl) (Fr.refl _ _ _)
  rw [if_neg (by simpa using h5)]
  refine let_ ?_
  obtain ⟨A, rfl⟩ : ∃ A : Nat, a = A := ⟨a.toNat, by omega⟩
  obtain ⟨B, rfl⟩ : ∃ B : Nat, b = B := ⟨b.toNat, by omega⟩
  have en : W (W (1 + (A : Int)) + (B : Int)) = ((1 + A + B : Nat) : Int) := by
    rw [W_id (x := 1 + (A : Int)) (by omega) (by omega), W_id (by omega) (by omega)]; omega
  rw [en]
  refine rfree m fun u1 m1 F1 => ?_
  have hlt := live_tot wm
  refine join_W (fun u => ∃ M1, HR u h M1 ∧ (M1 = M ∨ M1 = tidy M) ∧ tot M1 + (1 + A + B) ≤ 48 ∧ (live M : Int) + 1 + A + B ≤ 48 ∧ Fr h 1 w u) ?_ ?_
  · rintro u ⟨M1, hm1, hor, hfit, hfit2, FM⟩
    have hp : hAlloc M (A : Int) (B : Int) = (0, born M A B) := by unfold hAlloc; rw [if_neg (by omega), if_neg h3, if_neg (by omega)]
    rw [hp] at hK
    have hrl : M1.roots.length = M.roots.length := by
      rcases hor with rfl | rfl
      · rfl
      · simp [tidy]
    have fin : ∀ u', HR u' h (born M1 A B) → Fr h 1 w u' → K 0 u' := fun u' hu F => hK u' _ hu (fun H hr => by
      have h1 := (hr.alloc A B).1
      rw [hp] at h1
      have e : (hAlloc H (A : Int) (B : Int)).2 = born H A B := by
        unfold hAlloc at h1 ⊢
        split at h1
        · cases h1
        split at h1
        · cases h1
        split at h1
        · cases h1
        · rename_i q1 q2 q3
          rw [if_neg q1, if_neg q2, if_neg q3]
      rw [e]
      rcases hor with rfl | rfl
      · exact hr.born A B
      · exact hr.tidy.born A B) F
    obtain ⟨wm1, f, b, hb, r⟩ := hm1
    have hbb := r.bb
    refine ldH hb (by omega) ?_
    rw [r.fr]
    refine drew_ ?_
    have hb := hb.drew
    have FM := FM.drew
    generalize u.drew = u at *
    unfold S.heap_headerOf
    rw [W_id (x := (A : Int) * 49) (by omega) (by omega), W_id (x := (A : Int) * 49 + (B : Int)) (by omega) (by omega), show (A : Int) * 49 + (B : Int) = ((A * 49 + B : Nat) : Int) by omega]
    generalize hF : b + tot M1 = F at *
    refine ⟨by omega, by omega, ?_⟩
    rw [Int.toNat_natCast, Nat.mul_one, Nat.zero_add]
    refine stH hb (by omega) fun u2 b2 f2 => ?_
    refine join_W (fun u => ∃ g : Nat → Int, Blk u h (memB g) ∧ Fr h 1 w u ∧ g F = ((A * 49 + B : Nat) : Int) ∧ (∀ j, j < A → g (F + 1 + j) = -1) ∧ ∀ j, j < F ∨ F + 1 + A ≤ j → g j = f j) ?_ ?_
    · rintro u3 ⟨g, bg, Fg, g0, g1, g2⟩
      refine join_W (fun u => ∃ g : Nat → Int, Blk u h (memB g) ∧ Fr h 1 w u ∧ g F = ((A * 49 + B : Nat) : Int) ∧ (∀ j, j < A → g (F + 1 + j) = -1) ∧ (∀ j, j < B → g (F + 1 + A + j) = 0) ∧ ∀ j, j < F ∨ F + 1 + A + B ≤ j → g j = f j) ?_ ?_
      · rintro u4 ⟨g, bg, Fg, g0, g1, g3, g2⟩
        rw [W_id (x := (F : Int) + ((1 + A + B : Nat) : Int)) (by omega) (by omega)]
        refine stH bg (by omega) fun u5 b5 f5 => drew_ ?_
        have b5 := b5.drew
        have F5 := (Fg.trans f5).drew
        generalize u5.drew = u5 at *
        refine ldH b5 (by omega) ?_
        rw [fset_ne (by omega), g2 _ (by omega), r.tp]
        refine ⟨by omega, by omega, ?_⟩
        rw [Int.toNat_natCast, Nat.mul_one]
        refine stH b5 (by omega) fun u6 b6 f6 => ldH b6 (by omega) ?_
        rw [fset_ne (by omega), fset_ne (by omega), g2 _ (by omega), r.tp, W_succ (by omega)]
        refine stH b6 (by omega) fun u7 b7 f7 => ?_
        obtain ⟨k1, k2⟩ := r.born (A := A) (B := B) (f' := fset (fset (fset g 97 ((F : Int) + ((1 + A + B : Nat) : Int))) (98 + M1.roots.length) (F : Int)) 122 ((M1.roots.length + 1 : Nat) : Int)) wm1 (by omega) hfit
          (by rw [fset_ne (by omega), fset_ne (by omega), fset_eq, hF]; omega) (by rw [fset_eq]) (by rw [fset_ne (by omega), fset_eq, hF])
          (by rw [hF, fset_ne (by omega), fset_ne (by omega), fset_ne (by omega)]; exact g0)
          (fun j hj => by rw [hF, fset_ne (by omega), fset_ne (by omega), fset_ne (by omega)]; exact g1 j hj)
          (fun j hj => by rw [hF, fset_ne (by omega), fset_ne (by omega), fset_ne (by omega)]; exact g3 j hj)
          (fun j j1 j2 j3 j4 => by rw [fset_ne j2, fset_ne j3, fset_ne j1]; exact g2 j (by omega))
        exact fin u7 ⟨k2, _, b, b7, k1⟩ ((F5.trans f6).trans f7)
      · intro J8 hJ8
        refine loopN (fun n v u => ∃ (q : Nat) (g : Nat → Int), v = (((q + 1 : Nat) : Int), ()) ∧ q + n = B ∧ Blk u h (memB g) ∧ Fr h 1 w u ∧ g F = ((A * 49 + B : Nat) : Int) ∧ (∀ j, j < A → g (F + 1 + j) = -1) ∧ (∀ j, j < q → g (F + 1 + A + j) = 0) ∧ ∀ j, j < F ∨ F + 1 + A + q ≤ j → g j = f j) B ⟨0, g, rfl, by omega, bg, Fg, g0, g1, fun j hj => by omega, fun j hj => g2 j (by omega)⟩ ?_
        rintro n _ u ⟨q, g, rfl, hq, bg, Fg, g0, g1, g3, g2⟩ Q hQ
        dsimp only
        cases n with
        | zero =>
          rw [if_neg (by simp only [decide_eq_true_eq]; omega)]
          have : q = B := by omega
          subst this
          exact hJ8 u ⟨g, bg, Fg, g0, g1, g3, g2⟩
        | succ n =>
          rw [if_pos (by simp only [decide_eq_true_eq]; omega)]
          rw [W_id (x := (F : Int) + (A : Int)) (by omega) (by omega), W_id (x := (F : Int) + (A : Int) + ((q + 1 : Nat) : Int)) (by omega) (by omega), show (F : Int) + (A : Int) + ((q + 1 : Nat) : Int) = ((F + 1 + A + q : Nat) : Int) by omega]
          refine ⟨by omega, by omega, ?_⟩
          rw [Int.toNat_natCast, Nat.mul_one, Nat.zero_add]
          refine stH bg (by omega) fun u5 b5 f5 => let_ ?_
          rw [W_succ (by omega)]
          refine hQ n _ u5 (by omega) ⟨q + 1, _, rfl, by omega, b5, Fg.trans f5, by rw [fset_ne (by omega)]; exact g0, fun j hj => by rw [fset_ne (by omega)]; exact g1 j hj, fun j hj => ?_, fun j hj => by rw [fset_ne (by omega)]; exact g2 j (by omega)⟩
          by_cases e : j = q
          · subst e; rw [fset_eq]
          · rw [fset_ne (by omega)]; exact g3 j (by omega)
    · intro J12 hJ12
      refine loopN (fun n v u => ∃ (q : Nat) (g : Nat → Int), v = (((q + 1 : Nat) : Int), ()) ∧ q + n = A ∧ Blk u h (memB g) ∧ Fr h 1 w u ∧ g F = ((A * 49 + B : Nat) : Int) ∧ (∀ j, j < q → g (F + 1 + j) = -1) ∧ ∀ j, j < F ∨ F + 1 + q ≤ j → g j = f j) A ⟨0, _, rfl, by omega, b2, FM.trans f2, by rw [fset_eq], fun j hj => by omega, fun j hj => by rw [fset_ne (by omega)]⟩ ?_
      rintro n _ u ⟨q, g, rfl, hq, bg, Fg, g0, g1, g2⟩ Q hQ
      dsimp only
      cases n with
      | zero =>
        rw [if_neg (by simp only [decide_eq_true_eq]; omega)]
        have : q = A := by omega
        subst this
        exact hJ12 u ⟨g, bg, Fg, g0, g1, g2⟩
      | succ n =>
        rw [if_pos (by simp only [decide_eq_true_eq]; omega)]
        rw [W_id (x := (F : Int) + ((q + 1 : Nat) : Int)) (by omega) (by omega), show (F : Int) + ((q + 1 : Nat) : Int) = ((F + 1 + q : Nat) : Int) by omega]
        refine ⟨by omega, by omega, ?_⟩
        rw [Int.toNat_natCast, Nat.mul_one, Nat.zero_add]
        refine stH bg (by omega) fun u5 b5 f5 => let_ ?_
        rw [W_succ (by omega)]
        refine hQ n _ u5 (by omega) ⟨q + 1, _, rfl, by omega, b5, Fg.trans f5, by rw [fset_ne (by omega)]; exact g0, fun j hj => ?_, fun j hj => by rw [fset_ne (by omega)]; exact g2 j (by omega)⟩
        by_cases e : j = q
        · subst e; rw [fset_eq]
        · rw [fset_ne (by omega)]; exact g1 j (by omega)
  · intro J16 hJ16
    have htl : tot M ≤ 48 := by obtain ⟨_, f, b, _, r⟩ := m; exact r.le
    by_cases hn : 48 - tot M < 1 + A + B
    · rw [if_pos (by simp only [decide_eq_true_eq]; omega)]
      refine rcollect m1 fun u2 m2 F2 => ?_
      refine rfree m2 fun u3 m3 F3 => ?_
      rw [tot_tidy]
      by_cases hn2 : 48 - live M < 1 + A + B
      · rw [if_pos (by simp only [decide_eq_true_eq]; omega)]
        exact codes 6 u3 (tidy M) (by unfold hAlloc; rw [if_neg (by omega), if_neg h3, if_pos (.inr (.inr (by omega)))]) (by decide) m3 (.inr rfl) ((F1.trans F2).trans F3)
      · rw [if_neg (by simp only [decide_eq_true_eq]; omega)]
        exact hJ16 u3 ⟨tidy M, m3, .inr rfl, by rw [tot_tidy]; omega, by omega, (F1.trans F2).trans F3⟩
    · rw [if_neg (by simp only [decide_eq_true_eq]; omega)]
      exact hJ16 u1 ⟨M, m1, .inl rfl, by omega, by omega, F1⟩
end Go.Proofs.Qxb6500562aGreat
