/-
  The real heap: collect.
-/
import Derived.Test.Qxb6500562aGreatHrD
namespace Go.Proofs.Qxb6500562aGreat
open Go.Den Go.Zip
set_option linter.unusedVariables false
set_option linter.unusedSimpArgs false
variable {w w' : World} {h : Nat} {f : Nat → Int} {M H : SH} {b t : Nat} {l : List Int}

theorem CL.root {i jj ri : Nat} (c : CL f M b t l i jj ri) (h24 : M.roots.length ≤ 24) (hri : ri < M.roots.length) (hin : M.roots.getD ri (-1) = -1 ∨ M.roots.getD ri (-1) ∈ l) : CL (fset f (98 + ri) (nadr M t l (M.roots.getD ri (-1)))) M b t l i jj (ri + 1) := by
  have hsum := c.sum
  have hbt := c.bt
  have htl := c.tl
  have e : ∀ j, j ≠ 98 + ri → fset f (98 + ri) (nadr M t l (M.roots.getD ri (-1))) j = f j := fun j hj => fset_ne hj
  refine ⟨c.bt, c.tl, c.nd, c.lr, by rw [e _ (by omega)]; exact c.bs, by rw [e _ (by omega)]; exact c.fr, by rw [e _ (by omega)]; exact c.tp, fun k hk => ?_, fun k hk hr => ?_, fun x hx => ?_, fun x j hx hj => ?_, fun p x hp => ?_, fun p x j hp hj => ?_, c.cd⟩
  · by_cases ek : k = ri
    · subst ek; rw [fset_eq, if_pos (by omega)]
    · rw [e _ (by omega), c.rt k hk]
      by_cases hr : k < ri
      · rw [if_pos hr, if_pos (by omega)]
      · rw [if_neg hr, if_neg (by omega)]
  · by_cases ek : k = ri
    · subst ek; exact hin
    · exact c.rd k hk (by omega)
  · have := ofs_tot hx
    have ho := osz_eq (obN M x)
    rw [e _ (by omega)]; exact c.hd x hx
  · have := ofs_tot hx
    have ho := osz_eq (obN M x)
    rw [e _ (by omega)]; exact c.fl x j hx hj
  · have := c.at_ hp
    have ho := osz_eq (obAt M x)
    rw [e _ (by omega)]; exact c.ch p x hp
  · have := c.at_ hp
    have ho := osz_eq (obAt M x)
    rw [e _ (by omega)]; exact c.cf p x j hp hj
theorem CL.cell {i jj ri : Nat} {x : Int} (c : CL f M b t l i jj ri) (hx : l[i]? = some x) (hj : jj < (obAt M x).refs.length) (hin : (obAt M x).refs.getD jj (-1) = -1 ∨ (obAt M x).refs.getD jj (-1) ∈ l) :
    CL (fset f (t + nofs M l i + 1 + jj) (nadr M t l ((obAt M x).refs.getD jj (-1)))) M b t l i (jj + 1) ri := by
  have hsum := c.sum
  have hbt := c.bt
  have htl := c.tl
  have hat := c.at_ hx
  have hox := osz_eq (obAt M x)
  have e : ∀ j, j ≠ t + nofs M l i + 1 + jj → fset f (t + nofs M l i + 1 + jj) (nadr M t l ((obAt M x).refs.getD jj (-1))) j = f j := fun j hj => fset_ne hj
  have dis : ∀ p y, l[p]? = some y → p ≠ i → nofs M l p + osz (obAt M y) ≤ nofs M l i ∨ nofs M l i + osz (obAt M x) ≤ nofs M l p := fun p y hp hne => by
    rcases Nat.lt_or_ge p i with h | h
    · have := nofs_mono M l (p := p + 1) (q := i) h
      rw [nofs_succ M l p hp] at this
      exact .inl this
    · have := nofs_mono M l (p := i + 1) (q := p) (by omega)
      rw [nofs_succ M l i hx] at this
      exact .inr this
  refine ⟨c.bt, c.tl, c.nd, c.lr, by rw [e _ (by omega)]; exact c.bs, by rw [e _ (by omega)]; exact c.fr, by rw [e _ (by omega)]; exact c.tp, fun k hk => by rw [e _ (by omega)]; exact c.rt k hk, c.rd, fun y hy => ?_, fun y j hy hj' => ?_, fun p y hp => ?_, fun p y j hp hj' => ?_, fun p y j hp hj' hc => ?_⟩
  · have := ofs_tot hy
    have ho := osz_eq (obN M y)
    rw [e _ (by omega)]; exact c.hd y hy
  · have := ofs_tot hy
    have ho := osz_eq (obN M y)
    rw [e _ (by omega)]; exact c.fl y j hy hj'
  · have ho := osz_eq (obAt M y)
    have hne : t + nofs M l p ≠ t + nofs M l i + 1 + jj := by
      by_cases ep : p = i
      · subst ep; omega
      · have := dis p y hp ep; omega
    rw [e _ hne]; exact c.ch p y hp
  · have ho := osz_eq (obAt M y)
    by_cases ep : p = i
    · subst ep
      rw [hx] at hp
      have : x = y := Option.some.inj hp
      subst this
      by_cases ej : j = jj
      · subst ej; rw [fset_eq, if_pos ⟨.inr ⟨rfl, by omega⟩, hj⟩]
      · rw [e _ (by omega), c.cf p x j hx hj']
        by_cases hc : (p < p ∨ p = p ∧ j < jj) ∧ j < (obAt M x).refs.length
        · rw [if_pos hc, if_pos (by omega)]
        · rw [if_neg hc, if_neg (by omega)]
    · have := dis p y hp ep
      rw [e _ (by omega), c.cf p y j hp hj']
      by_cases hc : (p < i ∨ p = i ∧ j < jj) ∧ j < (obAt M y).refs.length
      · rw [if_pos hc, if_pos (by omega)]
      · rw [if_neg hc, if_neg (by omega)]
  · by_cases ep : p = i
    · subst ep
      rw [hx] at hp
      have : x = y := Option.some.inj hp
      subst this
      by_cases ej : j = jj
      · subst ej; exact hin
      · exact c.cd p x j hx hj' (by omega)
    · exact c.cd p y j hp hj' (by omega)
theorem CL.next {i jj ri : Nat} {x : Int} (c : CL f M b t l i jj ri) (hx : l[i]? = some x) (hj : (obAt M x).refs.length ≤ jj) : CL f M b t l (i + 1) 0 ri := by
  refine ⟨c.bt, c.tl, c.nd, c.lr, c.bs, c.fr, c.tp, c.rt, c.rd, c.hd, c.fl, c.ch, fun p y j hp hj' => ?_, fun p y j hp hj' hc => ?_⟩
  · rw [c.cf p y j hp hj']
    by_cases ep : p = i
    · subst ep
      rw [hx] at hp
      have : x = y := Option.some.inj hp
      subst this
      by_cases hc : j < (obAt M x).refs.length
      · rw [if_pos ⟨.inr ⟨rfl, by omega⟩, hc⟩, if_pos ⟨.inl (by omega), hc⟩]
      · rw [if_neg (fun h => hc h.2), if_neg (fun h => hc h.2)]
    · by_cases hc : (p < i ∨ p = i ∧ j < jj) ∧ j < (obAt M y).refs.length
      · rw [if_pos hc, if_pos (by omega)]
      · rw [if_neg hc, if_neg (by omega)]
  · by_cases ep : p = i
    · subst ep
      rw [hx] at hp
      have : x = y := Option.some.inj hp
      subst this
      exact c.cd p x j hx hj' (.inr ⟨rfl, by omega⟩)
    · exact c.cd p y j hp hj' (by omega)
theorem ofs_tidy (M : SH) (p : Nat) : ofs (tidy M) p = nofs M (order M) p := by
  unfold ofs ofsL nofs tidy
  dsimp only
  rw [← List.map_take, List.map_map]
  congr 1
  refine List.map_congr_left fun x hx => ?_
  simp [osz]
theorem tot_tidy (M : SH) : tot (tidy M) = live M := by
  unfold tot
  rw [ofs_tidy]
  unfold nofs live
  rw [List.take_of_length_le (by simp [tidy])]
/-- All has moved. -/
theorem CL.done {g : Nat → Int} (c : CL f M b t (order M) (order M).length 0 M.roots.length) (h24 : M.roots.length ≤ 24) (h1 : g 96 = t) (h2 : ∀ j, j ≠ 96 → j ≠ 123 → g j = f j) : RL g (tidy M) t := by
  have hsum := c.sum
  have hbt := c.bt
  have hnd := c.nd
  have hno : (-1 : Int) ∉ order M := fun hm => by have := (c.lr _ hm).1; omega
  have ea : ∀ y, y = -1 ∨ y ∈ order M → adr (tidy M) t (ixOf (order M) y) = nadr M t (order M) y := by
    intro y hy
    rcases hy with rfl | hy
    · rw [ixOf_neg hno]; rfl
    · obtain ⟨k, hk⟩ := List.mem_iff_getElem?.1 hy
      have := c.lr y hy
      unfold adr nadr
      rw [ixOf_at hnd hk, if_neg (by omega), if_neg (by omega), Int.toNat_natCast, ofs_tidy]
  have hob : ∀ k x, (order M)[k]? = some x → obN (tidy M) k = ⟨(obAt M x).refs.map (ixOf (order M)), (obAt M x).ints⟩ := fun k x hk => by
    unfold obN
    show (List.map _ (order M)).getD k ob0 = _
    rw [List.getD_eq_getElem?_getD, List.getElem?_map, hk]; rfl
  have hget : ∀ k, k < (tidy M).objs.length → ∃ x, (order M)[k]? = some x := fun k hk => by
    have : k < (order M).length := by simpa [tidy] using hk
    exact ⟨_, List.getElem?_eq_getElem this⟩
  have htot : tot (tidy M) = nofs M (order M) (order M).length := by
    unfold tot; rw [ofs_tidy]; simp [tidy]
  refine ⟨by omega, h1, by rw [h2 _ (by omega) (by omega), c.fr, htot], by rw [htot]; exact hsum, by rw [h2 _ (by omega) (by omega), c.tp]; simp [tidy], fun k hk => ?_, fun k hk => ?_, fun k j hk hj => ?_, fun k j hk hj => ?_⟩
  · have hk : k < M.roots.length := by simpa [tidy] using hk
    rw [h2 _ (by omega) (by omega), c.rt k hk, if_pos hk, ← ea _ (c.rd k hk hk)]
    congr 1
    show ixOf (order M) (M.roots.getD k (-1)) = (M.roots.map (ixOf (order M))).getD k (-1)
    rw [List.getD_eq_getElem?_getD, List.getD_eq_getElem?_getD, List.getElem?_map, List.getElem?_eq_getElem hk]; rfl
  · obtain ⟨x, hx⟩ := hget k hk
    have := c.at_ hx
    have ho := osz_eq (obAt M x)
    rw [ofs_tidy, hob k x hx, h2 _ (by omega) (by omega), c.ch k x hx]
    unfold hdr; simp
  · obtain ⟨x, hx⟩ := hget k hk
    have := c.at_ hx
    have ho := osz_eq (obAt M x)
    rw [hob k x hx] at hj ⊢
    have hj : j < (obAt M x).refs.length := by simpa using hj
    have hkl := lt_of_get hx
    rw [ofs_tidy, h2 _ (by omega) (by omega), c.cf k x j hx (by omega), if_pos ⟨.inl hkl, hj⟩, ← ea _ (c.cd k x j hx hj (.inl hkl))]
    congr 1
    show ixOf (order M) ((obAt M x).refs.getD j (-1)) = ((obAt M x).refs.map (ixOf (order M))).getD j (-1)
    rw [List.getD_eq_getElem?_getD, List.getD_eq_getElem?_getD, List.getElem?_map, List.getElem?_eq_getElem hj]; rfl
  · obtain ⟨x, hx⟩ := hget k hk
    have := c.at_ hx
    have ho := osz_eq (obAt M x)
    rw [hob k x hx] at hj ⊢
    have hj : j < (obAt M x).ints.length := hj
    dsimp only
    rw [List.length_map, ofs_tidy, h2 _ (by omega) (by omega), Nat.add_assoc _ (obAt M x).refs.length j, c.cf k x _ hx (by omega), if_neg (by omega)]
    unfold word
    rw [if_neg (by omega), Nat.add_sub_cancel_left]
set_option maxHeartbeats 1000000 in
theorem rcollect {K : World → Prop} (m : HR w h M) (hK : ∀ w', HR w' h (tidy M) → Fr h 1 w w' → K w') : S.heap_Heap_collect h w K := by
  unfold S.heap_Heap_collect
  obtain ⟨wm, f, b, hb, r⟩ := m
  have h24 := wm.rl
  have hbb := r.bb
  have htl := r.le
  have hwt := wm.tidy
  refine ldH hb (by omega) ?_
  rw [r.bs]
  refine let_ ?_
  obtain ⟨t, ht, hbt⟩ : ∃ t : Nat, W (48 - (b : Int)) = t ∧ ((b = 0 ∧ t = 48) ∨ (b = 48 ∧ t = 0)) := by
    refine ⟨48 - b, ?_, by omega⟩
    rw [W_id (by omega) (by omega)]; omega
  rw [ht]
  refine stH hb (by omega) fun u1 b1 f1 => ?_
  have c0 : CL (fset f 97 (t : Int)) M b t [] 0 0 0 := by
    have e : ∀ j, j ≠ 97 → fset f 97 (t : Int) j = f j := fun j hj => fset_ne hj
    refine ⟨hbt, r.le, by simp, by simp, by rw [e _ (by omega)]; exact r.bs, by rw [fset_eq]; simp [nofs], by rw [e _ (by omega)]; exact r.tp, fun k hk => ?_, fun k hk hr => by omega, fun x hx => ?_, fun x j hx hj => ?_, fun p x hp => (by simp at hp), fun p x j hp => (by simp at hp), fun p x j hp => (by simp at hp)⟩
    · rw [e _ (by omega), if_neg (by omega)]; exact r.rt k hk
    · have := ofs_tot hx
      have ho := osz_eq (obN M x)
      rw [e _ (by omega), if_neg (by simp)]; exact r.hd x hx
    · have := ofs_tot hx
      have ho := osz_eq (obN M x)
      rw [e _ (by omega)]
      unfold word
      rw [obAt_N, Int.toNat_natCast]
      by_cases hr : j < (obN M x).refs.length
      · rw [if_pos hr]; exact r.rf x j hx hr
      · rw [if_neg hr]
        have := r.it x (j - (obN M x).refs.length) hx (by omega)
        rw [← this]
        congr 1; omega
  have hroot : ∀ k, k < M.roots.length → M.roots.getD k (-1) = -1 ∨ (0 ≤ M.roots.getD k (-1) ∧ M.roots.getD k (-1) < M.objs.length) := fun k hk => by
    have := wm.rr _ (getD_in hk); omega
  refine join_W (fun u => ∃ g, Blk u h (memB g) ∧ Fr h 1 w u ∧ CL g M b t (addA [] M.roots) 0 0 M.roots.length) ?_ ?_
  · rintro u ⟨g, bg, Fg, c⟩
    refine join_W (fun u => ∃ g, Blk u h (memB g) ∧ Fr h 1 w u ∧ CL g M b t (order M) (order M).length 0 M.roots.length) ?_ ?_
    · rintro u ⟨g, bg, Fg, c⟩
      refine stH bg (by omega) fun u2 b2 f2 => ldH b2 (by omega) ?_
      refine stH b2 (by omega) fun u3 b3 f3 => ?_
      refine hK u3 ⟨hwt, _, t, b3, c.done h24 (by rw [fset_ne (by omega), fset_eq]) fun j j1 j2 => by rw [fset_ne (by omega), fset_ne (by omega)]⟩ ((Fg.trans f2).trans f3)
    · intro J4 hJ4
      have hmem0 : ∀ x ∈ addA [] M.roots, 0 ≤ x ∧ x < M.objs.length := c.lr
      refine loopN (fun n v u => ∃ (i : Nat) (l : List Int) (g : Nat → Int), v = (((t + nofs M l i : Nat) : Int), ()) ∧ i + n = M.objs.length ∧ i ≤ l.length ∧ Blk u h (memB g) ∧ Fr h 1 w u ∧ CL g M b t l i 0 M.roots.length ∧ order M = tr (fun x => (obAt M x).refs) n l i) M.objs.length
        ⟨0, _, g, by simp [nofs], by omega, by omega, bg, Fg, c, rfl⟩ ?_
      rintro n _ u ⟨i, l, g, rfl, hin, hil, bg, Fg, c, hor⟩ Q hQ
      dsimp only
      refine ldH bg (by omega) ?_
      rw [c.fr]
      have hbd := nodup_bound c.nd c.lr
      have hsum := c.sum
      by_cases hlt : i < l.length
      · obtain ⟨x, hx⟩ : ∃ x, l[i]? = some x := ⟨_, List.getElem?_eq_getElem hlt⟩
        have hat := c.at_ hx
        have hox := osz_eq (obAt M x)
        rw [if_pos (by simp only [decide_eq_true_eq]; omega)]
        obtain ⟨n, rfl⟩ : ∃ n', n = n' + 1 := ⟨n - 1, by omega⟩
        have hor2 : order M = tr (fun x => (obAt M x).refs) n (addA l (obAt M x).refs) (i + 1) := by
          rw [hor]
          show (match l[i]? with | none => l | some x => tr _ n (addA l ((obAt M x).refs)) (i + 1)) = _
          rw [hx]
        have hxr := c.lr x (List.mem_of_getElem? hx)
        have hrr : ∀ j, j < (obAt M x).refs.length → (obAt M x).refs.getD j (-1) = -1 ∨ (0 ≤ (obAt M x).refs.getD j (-1) ∧ (obAt M x).refs.getD j (-1) < M.objs.length) := fun j hj => by
          have hobm : obAt M x ∈ M.objs := by unfold obAt; rw [List.getD_eq_getElem?_getD, List.getElem?_eq_getElem (by omega)]; exact List.getElem_mem _
          have := wm.fr _ hobm _ (getD_in hj); omega
        refine ⟨by omega, by omega, ?_⟩
        rw [Int.toNat_natCast, Nat.mul_one, Nat.zero_add]
        refine ldH bg (by omega) ?_
        rw [c.ch i x hx]
        refine refsOf_spec (by omega) (by omega) ?_
        refine join_W (fun u => ∃ g, Blk u h (memB g) ∧ Fr h 1 w u ∧ CL g M b t (addA l (obAt M x).refs) (i + 1) 0 M.roots.length) ?_ ?_
        · rintro u2 ⟨g2, bg2, Fg2, c2⟩
          refine wordsOf_spec (by omega) (by omega) ?_
          refine let_ ?_
          rw [W_id (by omega) (by omega)]
          obtain ⟨q, hq⟩ := addA_pre (xs := (obAt M x).refs) (l := l)
          have hl2 : i + 1 ≤ (addA l (obAt M x).refs).length := by rw [hq, List.length_append]; omega
          refine hQ n _ u2 (by omega) ⟨i + 1, _, g2, ?_, by omega, hl2, bg2, Fg2, c2, hor2⟩
          have e1 : nofs M (addA l (obAt M x).refs) (i + 1) = nofs M l i + osz (obAt M x) := by
            rw [hq, nofs_app M l q (by omega), nofs_succ M l i hx]
          rw [e1]
          simp only [Prod.mk.injEq, and_true]
          omega
        · intro J12 hJ12
          refine loopN (fun n2 v u => ∃ (jj : Nat) (lc : List Int) (g : Nat → Int), v = (((jj + 1 : Nat) : Int), ()) ∧ jj + n2 = (obAt M x).refs.length ∧ Blk u h (memB g) ∧ Fr h 1 w u ∧ CL g M b t lc i jj M.roots.length ∧ (∃ q, lc = l ++ q) ∧ addA l (obAt M x).refs = addA lc ((obAt M x).refs.drop jj)) (obAt M x).refs.length
            ⟨0, l, g, rfl, by omega, bg, Fg, c, ⟨[], by simp⟩, rfl⟩ ?_
          rintro n2 _ u2 ⟨jj, lc, g2, rfl, hjn, bg2, Fg2, c2, ⟨q, hq⟩, hadd⟩ Q2 hQ2
          dsimp only
          have hxc : lc[i]? = some x := by rw [hq, List.getElem?_append_left hlt]; exact hx
          have hni : nofs M lc i = nofs M l i := by rw [hq, nofs_app M l q (by omega)]
          have hat2 := c2.at_ hxc
          have hsum2 := c2.sum
          cases n2 with
          | zero =>
            rw [if_neg (by simp only [decide_eq_true_eq]; omega)]
            rw [List.drop_of_length_le (by omega)] at hadd
            have hadd : addA l (obAt M x).refs = lc := hadd
            refine hJ12 u2 ⟨g2, bg2, Fg2, ?_⟩
            rw [hadd]
            exact c2.next hxc (by omega)
          | succ n2 =>
            rw [if_pos (by simp only [decide_eq_true_eq]; omega)]
            refine drew_ ?_
            have bg2 := bg2.drew
            have Fg2 := Fg2.drew
            generalize u2.drew = u2 at *
            rw [W_id (x := ((t + nofs M l i : Nat) : Int) + ((jj + 1 : Nat) : Int)) (by omega) (by omega), show ((t + nofs M l i : Nat) : Int) + ((jj + 1 : Nat) : Int) = ((t + nofs M lc i + 1 + jj : Nat) : Int) by omega]
            refine ⟨by omega, by omega, ?_⟩
            rw [Int.toNat_natCast, Nat.mul_one, Nat.zero_add]
            refine ldH bg2 (by omega) ?_
            rw [c2.cf i x jj hxc (by omega), if_neg (by omega)]
            have ew : word M b x jj = adr M b ((obAt M x).refs.getD jj (-1)) := by unfold word; rw [if_pos (by omega)]
            rw [ew]
            have hil2 := lt_of_get hxc
            refine rmove c2 bg2 (hrr jj (by omega)) (.inl hil2) fun u3 g3 bg3 Fg3 c3 hin3 _ => ?_
            obtain ⟨q3, hq3⟩ := add1_pre (l := lc) (x := (obAt M x).refs.getD jj (-1))
            have hn3 : nofs M (add1 lc ((obAt M x).refs.getD jj (-1))) i = nofs M lc i := by rw [hq3, nofs_app M lc q3 (by omega)]
            have hx3 : (add1 lc ((obAt M x).refs.getD jj (-1)))[i]? = some x := by rw [hq3, List.getElem?_append_left hil2]; exact hxc
            refine ⟨by omega, by omega, ?_⟩
            refine stH bg3 (by omega) fun u4 b4 f4 => ?_
            refine let_ ?_
            rw [W_succ (by omega)]
            have c4 := c3.cell hx3 (by omega) hin3
            rw [hn3] at c4
            refine hQ2 n2 _ u4 (by omega) ⟨jj + 1, _, _, rfl, by omega, b4, (Fg2.trans Fg3).trans f4, c4, ⟨q ++ q3, by rw [hq3, hq, List.append_assoc]⟩, ?_⟩
            rw [hadd, List.drop_eq_getElem_cons (by omega)]
            have : (obAt M x).refs.getD jj (-1) = (obAt M x).refs[jj] := by rw [List.getD_eq_getElem?_getD, List.getElem?_eq_getElem (by omega)]; rfl
            rw [this]; rfl
      · have hi : i = l.length := by omega
        rw [if_neg (by simp only [decide_eq_true_eq]; rw [hi]; omega)]
        have : order M = l := by
          rw [hor]
          cases n with
          | zero => rfl
          | succ n =>
            show (match l[i]? with | none => l | some x => tr _ n (addA l ((obAt M x).refs)) (i + 1)) = _
            rw [List.getElem?_eq_none (by omega)]
        refine hJ4 u ⟨g, bg, Fg, ?_⟩
        rw [this, ← hi]; exact c
  · intro J18 hJ18
    refine loopN (fun n v u => ∃ (ri : Nat) (g : Nat → Int), v = ((ri : Int), ()) ∧ ri + n = M.roots.length ∧ Blk u h (memB g) ∧ Fr h 1 w u ∧ CL g M b t (addA [] (M.roots.take ri)) 0 0 ri) M.roots.length ⟨0, _, rfl, by omega, b1, f1, c0⟩ ?_
    rintro n _ u ⟨ri, g, rfl, hrn, bg, Fg, c⟩ Q hQ
    dsimp only
    refine ldH bg (by omega) ?_
    rw [c.tp]
    cases n with
    | zero =>
      rw [if_neg (by simp only [decide_eq_true_eq]; omega)]
      have : ri = M.roots.length := by omega
      subst this
      rw [List.take_length] at c
      exact hJ18 u ⟨g, bg, Fg, c⟩
    | succ n =>
      rw [if_pos (by simp only [decide_eq_true_eq]; omega)]
      refine drew_ ?_
      have bg := bg.drew
      have Fg := Fg.drew
      generalize u.drew = u at *
      refine ⟨by omega, by omega, ?_⟩
      rw [Int.toNat_natCast, Nat.mul_one]
      refine ldH bg (by omega) ?_
      rw [c.rt ri (by omega), if_neg (by omega)]
      refine rmove c bg (hroot ri (by omega)) (.inr ⟨by omega, rfl⟩) fun u3 g3 bg3 Fg3 c3 hin3 _ => ?_
      refine ⟨by omega, by omega, ?_⟩
      refine stH bg3 (by omega) fun u4 b4 f4 => ?_
      refine let_ ?_
      rw [W_succ (by omega)]
      have e : add1 (addA [] (M.roots.take ri)) (M.roots.getD ri (-1)) = addA [] (M.roots.take (ri + 1)) := by
        rw [List.take_add_one, List.getElem?_eq_getElem (by omega)]
        have : M.roots.getD ri (-1) = M.roots[ri] := by rw [List.getD_eq_getElem?_getD, List.getElem?_eq_getElem (by omega)]; rfl
        rw [this]
        unfold addA
        rw [List.foldl_append]; rfl
      have c4 := c3.root h24 (by omega) hin3
      rw [e] at c4 b4
      exact hQ n _ u4 (by omega) ⟨ri + 1, _, rfl, by omega, b4, (Fg.trans Fg3).trans f4, c4⟩
end Go.Proofs.Qxb6500562aGreat
