/-
  The real heap: move.
-/
import Derived.Test.Qxb6500562aGreatHrC
namespace Go.Proofs.Qxb6500562aGreat
open Go.Den Go.Zip
set_option linter.unusedVariables false
set_option linter.unusedSimpArgs false
variable {w w' : World} {h : Nat} {f : Nat → Int} {M H : SH} {b t : Nat} {l : List Int}

/-- One object more has moved. -/
theorem CL.snoc {f' : Nat → Int} {i jj ri x : Nat} (c : CL f M b t l i jj ri) (hx : x < M.objs.length) (hm : (x : Int) ∉ l) (hi : i < l.length ∨ (i ≤ l.length ∧ jj = 0))
    (e1 : f' 97 = (t + nofs M l l.length + osz (obN M x) : Nat)) (e2 : f' (b + ofs M x) = -1 - ((t + nofs M l l.length : Nat) : Int))
    (e3 : ∀ q, q < osz (obN M x) → f' (t + nofs M l l.length + q) = f (b + ofs M x + q))
    (e4 : ∀ j, j ≠ 97 → j ≠ b + ofs M x → (j < t + nofs M l l.length ∨ t + nofs M l l.length + osz (obN M x) ≤ j) → f' j = f j) :
    CL f' M b t (l ++ [(x : Int)]) i jj ri ∧ nadr M t (l ++ [(x : Int)]) x = ((t + nofs M l l.length : Nat) : Int) := by
  have hnd : (l ++ [(x : Int)]).Nodup := by
    rw [List.nodup_append]
    refine ⟨c.nd, by simp, fun a ha y hy e => ?_⟩
    simp only [List.mem_singleton] at hy
    subst hy; subst e; exact hm ha
  have hlr : ∀ y ∈ l ++ [(x : Int)], 0 ≤ y ∧ y < M.objs.length := fun y hy => by
    rcases List.mem_append.1 hy with hy | hy
    · exact c.lr y hy
    · simp only [List.mem_singleton] at hy; omega
  have hget : (l ++ [(x : Int)])[l.length]? = some (x : Int) := by simp
  have hsum : nofs M (l ++ [(x : Int)]) (l.length + 1) = nofs M l l.length + osz (obN M x) := by
    rw [nofs_succ M _ l.length hget, nofs_app M l _ (Nat.le_refl _)]; rfl
  have hle : nofs M l l.length + osz (obN M x) ≤ 48 := by
    have h1 := sum_ofs M (Nat.le_refl _) hnd hlr
    have h2 : nofs M (l ++ [(x : Int)]) (l.length + 1) = ((l ++ [(x : Int)]).map fun x => osz (obAt M x)).sum := by unfold nofs; rw [List.take_of_length_le (by simp)]
    have h3 : ofs M M.objs.length = tot M := rfl
    have := c.tl
    omega
  have hnx : nadr M t (l ++ [(x : Int)]) x = ((t + nofs M l l.length : Nat) : Int) := by
    unfold nadr
    rw [if_neg (by omega), ixOf_at hnd hget, Int.toNat_natCast, nofs_app M l _ (Nat.le_refl _)]
  have hxt := ofs_tot hx
  have htl := c.tl
  have hbt := c.bt
  have hosz := osz_eq (obN M x)
  have dis : ∀ y, y < M.objs.length → y ≠ x → ofs M y + osz (obN M y) ≤ ofs M x ∨ ofs M x + osz (obN M x) ≤ ofs M y := fun j hj hne => by
    rcases Nat.lt_or_ge j x with h | h
    · exact .inl (ofs_lt h (by omega))
    · exact .inr (ofs_lt (by omega) (by omega))
  have getl : ∀ p y, (l ++ [(x : Int)])[p]? = some y → (p < l.length ∧ l[p]? = some y) ∨ (p = l.length ∧ y = x) := fun p y hp => by
    by_cases hpl : p < l.length
    · rw [List.getElem?_append_left hpl] at hp
      exact .inl ⟨hpl, hp⟩
    · have h1 := lt_of_get hp
      simp at h1
      have : p = l.length := by omega
      subst this
      rw [hget] at hp
      exact .inr ⟨rfl, (Option.some.inj hp).symm⟩
  refine ⟨⟨c.bt, c.tl, hnd, hlr, ?_, ?_, ?_, fun k hk => ?_, fun k hk hr => ?_, fun y hy => ?_, fun y j hy hj => ?_, fun p y hp => ?_, fun p y j hp hj => ?_, fun p y j hp hj hc => ?_⟩, hnx⟩
  · rw [e4 _ (by omega) (by omega) (by omega)]; exact c.bs
  · rw [e1, List.length_append]
    show _ = ((t + nofs M (l ++ [(x : Int)]) (l.length + 1) : Nat) : Int)
    rw [hsum]; omega
  · rw [e4 _ (by omega) (by omega) (by omega)]; exact c.tp
  · rw [e4 _ (by omega) (by omega) (by omega), c.rt k hk]
    by_cases hr : k < ri
    · rw [if_pos hr, if_pos hr, nadr_app c.nd (c.rd k hk hr)]
    · rw [if_neg hr, if_neg hr]
  · rcases c.rd k hk hr with h1 | h1
    · exact .inl h1
    · exact .inr (List.mem_append_left _ h1)
  · by_cases e : y = x
    · subst e
      rw [e2, if_pos (by simp), hnx]
    · have hd := dis y hy e
      have hoy := osz_eq (obN M y)
      have := ofs_tot hy
      rw [e4 _ (by omega) (by omega) (by omega), c.hd y hy]
      by_cases hyl : (y : Int) ∈ l
      · rw [if_pos hyl, if_pos (List.mem_append_left _ hyl), nadr_app c.nd (.inr hyl)]
      · rw [if_neg hyl, if_neg (fun hh => by
          rcases List.mem_append.1 hh with hh | hh
          · exact hyl hh
          · simp only [List.mem_singleton] at hh; omega)]
  · have := ofs_tot hy
    have hoy := osz_eq (obN M y)
    have hne : b + ofs M y + 1 + j ≠ b + ofs M x := by
      by_cases e : y = x
      · subst e; omega
      · have := dis y hy e; omega
    rw [e4 _ (by omega) hne (by omega)]
    exact c.fl y j hy hj
  · rcases getl p y hp with ⟨hpl, hp⟩ | ⟨rfl, rfl⟩
    · have := c.at_ hp
      have hoy := osz_eq (obAt M y)
      rw [nofs_app M l _ (by omega), e4 _ (by omega) (by omega) (by omega)]
      exact c.ch p y hp
    · have h3 := e3 0 (by omega)
      rw [nofs_app M l _ (Nat.le_refl _)]
      rw [Nat.add_zero, Nat.add_zero] at h3
      rw [h3, c.hd x hx, if_neg hm]; rfl
  · rcases getl p y hp with ⟨hpl, hp⟩ | ⟨rfl, rfl⟩
    · have := c.at_ hp
      have hoy := osz_eq (obAt M y)
      rw [nofs_app M l _ (by omega), e4 _ (by omega) (by omega) (by omega), c.cf p y j hp hj]
      by_cases hc : (p < i ∨ p = i ∧ j < jj) ∧ j < (obAt M y).refs.length
      · rw [if_pos hc, if_pos hc, nadr_app c.nd (c.cd p y j hp hc.2 hc.1)]
      · rw [if_neg hc, if_neg hc]
    · have hj : j < (obN M x).refs.length + (obN M x).ints.length := hj
      have h3 := e3 (1 + j) (by omega)
      rw [nofs_app M l _ (Nat.le_refl _), if_neg (by omega)]
      rw [← Nat.add_assoc, ← Nat.add_assoc] at h3
      rw [h3]
      exact c.fl x j hx hj
  · rcases getl p y hp with ⟨hpl, hp⟩ | ⟨rfl, rfl⟩
    · rcases c.cd p y j hp hj hc with h1 | h1
      · exact .inl h1
      · exact .inr (List.mem_append_left _ h1)
    · exfalso; omega
theorem rmove {x : Int} {i jj ri : Nat} {K : Int → World → Prop} (c : CL f M b t l i jj ri) (hb : Blk w h (memB f)) (hx : x = -1 ∨ (0 ≤ x ∧ x < M.objs.length)) (hi : i < l.length ∨ (i ≤ l.length ∧ jj = 0))
    (hK : ∀ w' f', Blk w' h (memB f') → Fr h 1 w w' → CL f' M b t (add1 l x) i jj ri → (x = -1 ∨ x ∈ add1 l x) → (∀ j, 96 ≤ j → j ≠ 97 → f' j = f j) → K (nadr M t (add1 l x) x) w') : S.heap_Heap_move h (adr M b x) w K := by
  unfold S.heap_Heap_move
  have hbt := c.bt
  have htl := c.tl
  rcases hx with rfl | ⟨h0, h1⟩
  · have e : adr M b (-1) = -1 := rfl
    rw [e, if_pos (by decide)]
    have ea : add1 l (-1) = l := by unfold add1; rw [if_neg (by omega)]
    rw [ea] at hK
    exact hK w f hb (Fr.refl _ _ _) c (.inl rfl) fun _ _ _ => rfl
  obtain ⟨k, rfl⟩ : ∃ k : Nat, x = k := ⟨x.toNat, by omega⟩
  have hk : k < M.objs.length := by omega
  have ea : adr M b (k : Int) = ((b + ofs M k : Nat) : Int) := by unfold adr; rw [if_neg (by omega), Int.toNat_natCast]
  have hkt := ofs_tot hk
  have hosz := osz_eq (obN M k)
  rw [ea, if_neg (by simp only [decide_eq_true_eq]; omega)]
  refine ⟨by omega, by omega, ?_⟩
  rw [Int.toNat_natCast, Nat.mul_one, Nat.zero_add]
  refine ldH hb (by omega) ?_
  rw [c.hd k hk]
  by_cases hm : (k : Int) ∈ l
  · rw [if_pos hm]
    have eadd : add1 l (k : Int) = l := by unfold add1; rw [if_neg (fun hh => hh.2 hm)]
    rw [eadd] at hK
    have hnn : 0 ≤ nadr M t l (k : Int) ∧ nadr M t l (k : Int) ≤ 96 := by
      obtain ⟨p, hp⟩ := List.mem_iff_getElem?.1 hm
      have := c.at_ hp
      have := c.sum
      unfold nadr
      rw [if_neg (by omega), ixOf_at c.nd hp, Int.toNat_natCast]
      omega
    rw [if_pos (by simp only [decide_eq_true_eq]; omega), W_id (by omega) (by omega), show (-1 : Int) - (-1 - nadr M t l (k : Int)) = nadr M t l (k : Int) by omega]
    exact hK w f hb (Fr.refl _ _ _) c (.inr hm) fun _ _ _ => rfl
  · rw [if_neg hm]
    have eadd : add1 l (k : Int) = l ++ [(k : Int)] := by unfold add1; rw [if_pos ⟨by omega, hm⟩]
    rw [eadd] at hK
    have hpos : 0 ≤ hdr (obN M k) := by unfold hdr; omega
    rw [if_neg (by simp only [decide_eq_true_eq]; omega)]
    have hs : (obN M k).refs.length + (obN M k).ints.length ≤ 47 := by omega
    refine wordsOf_spec (by omega) (by omega) ?_
    refine ldH hb (by omega) ?_
    rw [c.fr]
    have hsum := c.sum
    -- the new list fits
    have hle : nofs M l l.length + osz (obN M k) ≤ 48 := by
      have hnd : (l ++ [(k : Int)]).Nodup := by
        rw [List.nodup_append]
        refine ⟨c.nd, by simp, fun a ha y hy e => ?_⟩
        simp only [List.mem_singleton] at hy
        subst hy; subst e; exact hm ha
      have hlr : ∀ y ∈ l ++ [(k : Int)], 0 ≤ y ∧ y < M.objs.length := fun y hy => by
        rcases List.mem_append.1 hy with hy | hy
        · exact c.lr y hy
        · simp only [List.mem_singleton] at hy; omega
      have h1 := sum_ofs M (Nat.le_refl _) hnd hlr
      rw [List.map_append, List.sum_append] at h1
      have h2 : nofs M l l.length = (l.map fun x => osz (obAt M x)).sum := by unfold nofs; rw [List.take_length]
      have h3 : ofs M M.objs.length = tot M := rfl
      have h4 : (List.map (fun x => osz (obAt M x)) [(k : Int)]).sum = osz (obN M k) := by simp [obAt_N]
      omega
    rw [← hosz]
    generalize hF : t + nofs M l l.length = F at *
    refine join_W (fun u => ∃ g : Nat → Int, Blk u h (memB g) ∧ Fr h 1 w u ∧ (∀ q, q < osz (obN M k) → g (F + q) = f (b + ofs M k + q)) ∧ ∀ j, j < F ∨ F + osz (obN M k) ≤ j → g j = f j) ?_ ?_
    · rintro u ⟨g, bg, Fg, g1, g2⟩
      refine ⟨by omega, by omega, ?_⟩
      refine stH bg (by omega) fun u1 b1 f1 => ?_
      rw [W_id (x := (-1 : Int) - (F : Int)) (by omega) (by omega)] at b1
      rw [W_id (by omega) (by omega)]
      refine stH b1 (by omega) fun u2 b2 f2 => ?_
      obtain ⟨c2, en⟩ := c.snoc (f' := fset (fset g (b + ofs M k) (-1 - (F : Int))) 97 ((F : Int) + (osz (obN M k) : Int))) hk hm hi (by rw [fset_eq, hF]; omega) (by rw [fset_ne (by omega), fset_eq, hF])
        (fun q hq => by rw [hF, fset_ne (by omega), fset_ne (by omega)]; exact g1 q hq) (fun j j1 j2 j3 => by rw [fset_ne j1, fset_ne j2]; rw [hF] at j3; exact g2 j j3)
      rw [hF] at en
      rw [← en]
      refine hK u2 _ b2 ((Fg.trans f1).trans f2) c2 (.inr (by simp)) fun j j1 j2 => ?_
      rw [fset_ne j2, fset_ne (by omega)]
      exact g2 j (by omega)
    · intro J4 hJ4
      refine loopN (fun n v u => ∃ (q : Nat) (g : Nat → Int), v = ((q : Int), ()) ∧ q + n = osz (obN M k) ∧ Blk u h (memB g) ∧ Fr h 1 w u ∧ (∀ r, r < q → g (F + r) = f (b + ofs M k + r)) ∧ ∀ j, j < F ∨ F + q ≤ j → g j = f j) (osz (obN M k)) ⟨0, f, rfl, by omega, hb, Fr.refl _ _ _, fun r hr => by omega, fun _ _ => rfl⟩ ?_
      rintro n _ u ⟨q, g, rfl, hq, bg, Fg, g1, g2⟩ Q hQ
      dsimp only
      cases n with
      | zero =>
        rw [if_neg (by simp only [decide_eq_true_eq]; omega)]
        have : q = osz (obN M k) := by omega
        subst this
        exact hJ4 u ⟨g, bg, Fg, g1, g2⟩
      | succ n =>
        rw [if_pos (by simp only [decide_eq_true_eq]; omega)]
        refine drew_ ?_
        have bg := bg.drew
        have Fg := Fg.drew
        generalize u.drew = u at *
        rw [W_id (x := ((b + ofs M k : Nat) : Int) + (q : Int)) (by omega) (by omega), show ((b + ofs M k : Nat) : Int) + (q : Int) = ((b + ofs M k + q : Nat) : Int) by omega]
        refine ⟨by omega, by omega, ?_⟩
        rw [Int.toNat_natCast, Nat.mul_one, Nat.zero_add]
        refine ldH bg (by omega) ?_
        rw [W_id (x := (F : Int) + (q : Int)) (by omega) (by omega), show (F : Int) + (q : Int) = ((F + q : Nat) : Int) by omega]
        refine ⟨by omega, by omega, ?_⟩
        rw [Int.toNat_natCast, Nat.mul_one, Nat.zero_add]
        refine stH bg (by omega) fun u1 b1 f1 => ?_
        refine let_ ?_
        rw [W_succ (by omega)]
        refine hQ n _ u1 (by omega) ⟨q + 1, _, rfl, by omega, b1, Fg.trans f1, fun r hr => ?_, fun j hj => by rw [fset_ne (by omega)]; exact g2 j (by omega)⟩
        by_cases e : r = q
        · subst e; rw [fset_eq]; exact g2 _ (by omega)
        · rw [fset_ne (by omega)]; exact g1 r (by omega)
end Go.Proofs.Qxb6500562aGreat
