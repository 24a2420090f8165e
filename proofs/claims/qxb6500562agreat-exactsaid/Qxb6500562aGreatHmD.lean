/-
  The model's heap: what can be reached.
-/
import Derived.Test.Qxb6500562aGreatHmC
import Derived.Test.Qxb6500562aGreatCkO
namespace Go.Proofs.Qxb6500562aGreat
open Go.Den Go.Zip
set_option linter.unusedVariables false
set_option linter.unusedSimpArgs false
variable {w w' w0 u : World} {h : Nat} {es : List OE} {roots : List Int} {so sr s : Sl} {M : SH} {O O' P : Nat → Prop}

theorem mfind_spec {l : Sl} {zs : List Int} {x : Int} {K : Int → World → Prop} (hs : OS w l (ints zs) 1) (hl : zs.length < 1000) (hK : K (ixOf zs x) w) : S.heapm_find l x w K := by
  unfold S.heapm_find
  have hll : l.l = zs.length := by have := hs.len; simpa [ints] using this.symm
  refine loopN (fun m v u => u = w ∧ ∃ i : Nat, v = ((i : Int), ()) ∧ i + m = zs.length ∧ ixOf zs x = fnd (zs.drop i) x i) zs.length ⟨rfl, 0, rfl, by omega, rfl⟩ ?_
  rintro m _ u ⟨rfl, i, rfl, him, hix⟩ Q hQ
  dsimp only
  cases m with
  | zero =>
    rw [if_neg (by simp only [decide_eq_true_eq]; omega)]
    rw [List.drop_of_length_le (by omega)] at hix
    have : ixOf zs x = -1 := hix
    rw [← this]; exact hK
  | succ m =>
    rw [if_pos (by simp only [decide_eq_true_eq]; omega)]
    refine osRd hs (by omega) (by omega) ?_
    rw [Int.toNat_natCast]
    have hd : zs.drop i = zs.getD i (-1) :: zs.drop (i + 1) := by
      rw [List.drop_eq_getElem_cons (by omega), List.getD_eq_getElem?_getD, List.getElem?_eq_getElem (by omega)]; rfl
    rw [hd] at hix
    unfold fnd at hix
    refine if_k (fun e => ?_) fun e => ?_
    · rw [if_pos e] at hix
      rw [← hix]; exact hK
    · rw [if_neg e] at hix
      rw [W_succ (by omega)]
      exact hQ m _ u (by omega) ⟨rfl, i + 1, rfl, by omega, hix⟩
/-- A list of its own, since w. -/
def Lw (w u : World) (s : Sl) (zs : List Int) : Prop := FrP (fun _ => False) w u ∧ OS u s (ints zs) 1 ∧ ∀ b, owns s b → w.heap.size ≤ b
theorem Lw.nil (w : World) : Lw w w ⟨none, 0, 0⟩ [] := ⟨FrP.refl _ _, by simpa [ints] using OS.nil w 1, fun b hb => by simp [owns] at hb⟩
theorem Lw.drew {zs : List Int} (h : Lw w u s zs) : Lw w u.drew s zs := ⟨h.1.drew, h.2.1.frp (P := fun _ => False) (FrP.of0 (Fr.refl 0 0 u).drew) fun _ _ h => h, h.2.2⟩
theorem Lw.step {zs : List Int} (h : Lw w u s zs) (f : FrP (fun b => w.heap.size ≤ b ∧ ¬ owns s b) u w') : Lw w w' s zs := ⟨FrP.trans' h.1 f fun b hb => .inr hb.1, h.2.1.frp f fun b hb hn => hn.2 hb, h.2.2⟩
theorem madd {zs : List Int} {x : Int} {next : Sl → World → Prop} (hL : Lw w u s zs) (hl : zs.length < 500) (hn : ∀ s' u', Lw w u' s' (add1 zs x) → next s' u') :
    if (decide (x ≥ 0)) = true then
      S.heapm_find s x u (fun r20 w =>
        if (decide (r20 < 0)) = true then
          New w (.cells #[.int .i64 x] 3) fun p21 w =>
          AppS 3 [.int .i64 0] 8 1 w s ⟨some ⟨p21, 0, none⟩, 1, 1⟩ fun l22 w => next l22 w
        else next s w)
    else next s u := by
  have hll : s.l = zs.length := by have := hL.2.1.len; simpa [ints] using this.symm
  unfold add1 at hn
  by_cases h0 : 0 ≤ x
  · rw [if_pos (by simpa using h0)]
    refine mfind_spec hL.2.1 (by omega) ?_
    by_cases hm : x ∈ zs
    · have hp : 0 ≤ ixOf zs x := by
        -- the first place
        have : ∀ (l : List Int) (i : Nat), x ∈ l → 0 ≤ fnd l x i := by
          intro l
          induction l with
          | nil => intro i h; cases h
          | cons y l ih =>
            intro i h
            unfold fnd
            split
            · omega
            · rename_i hne
              rcases List.mem_cons.1 h with h | h
              · exact absurd h.symm hne
              · exact ih _ h
        exact this zs 0 hm
      rw [if_neg (by simpa using hp)]
      rw [if_neg (fun h => h.2 hm)] at hn
      exact hn s u hL
    · rw [if_pos (by rw [ixOf_neg hm]; decide)]
      rw [if_pos ⟨h0, hm⟩] at hn
      refine newB fun u1 b1 f1 s1 => ?_
      have hL1 : Lw w u1 s zs := ⟨FrP.trans' hL.1 (FrP.of0 (P := fun _ => False) f1) fun b hb => hb.elim, hL.2.1.frp (P := fun _ => False) (FrP.of0 f1) fun _ _ h => h, hL.2.2⟩
      refine appO hL1.2.1 b1 (by rfl) (by omega) rfl rfl (by show (s.l + 1) * 8 ≤ 2 ^ 46; omega) fun s' u2 o2 hl2 hg2 f2 => ?_
      have hle := hL1.1.1.1
      refine hn s' u2 ⟨FrP.trans' hL1.1 f2 fun b hb => .inr (hL1.2.2 b hb), by simpa [ints] using o2, fun b hb => ?_⟩
      rcases hg2.owns hb with h1 | h1
      · exact hL1.2.2 b h1
      · omega
  · rw [if_neg (by simpa using h0)]
    rw [if_neg (fun h => h0 h.1)] at hn
    exact hn s u hL
/-- All that stands in a row of ints joins the list. -/
theorem maddA {zs ys : List Int} {bs : Sl} {next : Sl → World → Prop} (hL : Lw w u s zs) (hys : ∀ u', FrP (fun b => w.heap.size ≤ b) w u' → OS u' bs (ints ys) 1) (hl : zs.length + ys.length < 500) (hn : ∀ s' u', Lw w u' s' (addA zs ys) → next s' u') :
    LoopP (σ := Sl × Int × Unit) (fun st15 w next16 =>
          if (decide (st15.2.1 < (bs.l : Int))) = true then
            Ix bs.a bs.l st15.2.1 fun b17 o18 =>
            LdI .i64 w ⟨b17, o18 + Int.toNat st15.2.1 * 1, none⟩ fun x_19 =>
            if (decide (x_19 ≥ 0)) = true then
              S.heapm_find st15.1 x_19 w (fun r20 w =>
              if (decide (r20 < 0)) = true then
                New w (.cells #[.int .i64 x_19] 3) fun p21 w =>
                AppS 3 [.int .i64 0] 8 1 w st15.1 ⟨some ⟨p21, 0, none⟩, 1, 1⟩ fun l22 w =>
                next16 (l22, W (st15.2.1 + 1), ()) w
              else
                next16 (st15.1, W (st15.2.1 + 1), ()) w)
            else
              next16 (st15.1, W (st15.2.1 + 1), ()) w
          else
            next st15.1 w) (s, 0, ()) u := by
  have hbl : bs.l = ys.length := by have := (hys w (FrP.refl _ _)).len; simpa [ints] using this.symm
  refine loopN (fun m v u => ∃ (i : Nat) (s' : Sl) (z : List Int), v = (s', (i : Int), ()) ∧ i + m = ys.length ∧ Lw w u s' z ∧ z.length ≤ zs.length + i ∧ addA zs ys = addA z (ys.drop i)) ys.length ⟨0, s, zs, rfl, by omega, hL, by omega, rfl⟩ ?_
  rintro m _ u ⟨i, s', z, rfl, him, hz, hzl, he⟩ Q hQ
  dsimp only
  cases m with
  | zero =>
    rw [if_neg (by simp only [decide_eq_true_eq]; omega)]
    rw [List.drop_of_length_le (by omega)] at he
    exact hn s' u (by rw [he]; exact hz)
  | succ m =>
    rw [if_pos (by simp only [decide_eq_true_eq]; omega)]
    refine osRd (hys u (hz.1.mono fun b hb => hb.elim)) (by omega) (by omega) ?_
    rw [Int.toNat_natCast]
    have hd : ys.drop i = ys.getD i (-1) :: ys.drop (i + 1) := by
      rw [List.drop_eq_getElem_cons (by omega), List.getD_eq_getElem?_getD, List.getElem?_eq_getElem (by omega)]; rfl
    rw [hd] at he
    rw [W_succ (by omega)]
    refine madd (next := fun s' w => Q (s', ((i + 1 : Nat) : Int), ()) w) hz (by omega) fun s2 u2 h2 => ?_
    refine hQ m _ u2 (by omega) ⟨i + 1, s2, _, rfl, by omega, h2, ?_, he⟩
    have : (add1 z (ys.getD i (-1))).length ≤ z.length + 1 := by
      unfold add1; split <;> simp
    omega
theorem morder_spec {K : Sl → World → Prop} (m : HM w h M O) (hK : ∀ s u, Lw w u s (order M) → K s u) : S.heapm_Heap_order h w K := by
  unfold S.heapm_Heap_order
  have hwm := m.wm
  have hlt := m.lt
  obtain ⟨es, so, sr, m, e, rfl⟩ := m
  have hel : M.objs.length = es.length := by rw [e]; simp
  have hmm : ∀ u', FrP (fun b => w.heap.size ≤ b) w u' → HMm u' h es M.roots so sr := fun u' f => m.frp f fun b hb h2 => by have := m.lt b hb; omega
  refine ldS m.rc rfl ?_
  refine join_P (fun (l : Sl) u => Lw w u l (addA [] M.roots)) ?_ ?_
  · intro l0 u0 h0
    have hrl := hwm.rl
    have hol := hwm.ol
    -- members are objects
    have hmem0 : ∀ x ∈ addA [] M.roots, 0 ≤ x ∧ x < M.objs.length := fun x hx => by
      rcases addA_mem hx with hx | ⟨hx, hx0⟩
      · cases hx
      · exact ⟨hx0, (hwm.rr x hx).2⟩
    refine loopN (fun n v u => ∃ (i : Nat) (s : Sl) (z : List Int), v = (s, (i : Int), ()) ∧ i + n = M.objs.length ∧ Lw w u s z ∧ z.Nodup ∧ (∀ x ∈ z, 0 ≤ x ∧ x < M.objs.length) ∧ order M = tr (fun x => (obAt M x).refs) n z i) M.objs.length
      ⟨0, l0, _, rfl, by omega, h0, addA_nodup (by simp), hmem0, rfl⟩ ?_
    rintro n _ u ⟨i, s, z, rfl, hin, hz, hnd, hmem, hor⟩ Q hQ
    dsimp only
    have hzl : s.l = z.length := by have := hz.2.1.len; simpa [ints] using this.symm
    have hbd := nodup_bound hnd hmem
    by_cases hlt2 : i < z.length
    · rw [if_pos (by simp only [decide_eq_true_eq]; omega)]
      obtain ⟨n, rfl⟩ : ∃ n', n = n' + 1 := ⟨n - 1, by omega⟩
      refine drew_ ?_
      have hz := hz.drew
      generalize u.drew = u at *
      have mu := hmm u (hz.1.mono fun b hb => hb.elim)
      refine ldS mu.rc rfl ?_
      refine osRd hz.2.1 (by omega) (by omega) ?_
      rw [Int.toNat_natCast]
      have hzi : z[i]? = some (z.getD i (-1)) := by rw [List.getD_eq_getElem?_getD, List.getElem?_eq_getElem hlt2]; rfl
      have hx := hmem _ (List.mem_of_getElem? hzi)
      generalize z.getD i (-1) = x at *
      obtain ⟨q, he1, he2, hqm⟩ := es_at e hx.1 hx.2
      have hrefs := mu.refs (K := fun refs_11 => Join (fun (l_12 : Sl) (w : World) =>
          Let (W ((i : Int) + 1)) fun i_13 =>
          Q (l_12, i_13, ()) w) fun J14 =>
        LoopP (σ := Sl × Int × Unit) (fun st15 w next16 =>
          if (decide (st15.2.1 < (refs_11.l : Int))) = true then
            Ix refs_11.a refs_11.l st15.2.1 fun b17 o18 =>
            LdI .i64 w ⟨b17, o18 + Int.toNat st15.2.1 * 1, none⟩ fun x_19 =>
            if (decide (x_19 ≥ 0)) = true then
              S.heapm_find st15.1 x_19 w (fun r20 w =>
              if (decide (r20 < 0)) = true then
                New w (.cells #[.int .i64 x_19] 3) fun p21 w =>
                AppS 3 [.int .i64 0] 8 1 w st15.1 ⟨some ⟨p21, 0, none⟩, 1, 1⟩ fun l22 w =>
                next16 (l22, W (st15.2.1 + 1), ()) w
              else
                next16 (st15.1, W (st15.2.1 + 1), ()) w)
            else
              next16 (st15.1, W (st15.2.1 + 1), ()) w
          else
            J14 st15.1 w) (s, 0, ()) u) hx.1 he1 ?_
      · obtain ⟨sl, k1, k2⟩ := hrefs
        rw [mu.rc.cell] at k1
        obtain ⟨sa, sll, sc⟩ := sl
        injection (Option.some.inj k1) with i1 i2 i3
        subst i1 i2 i3
        exact k2
      · have hqb := m.bk q hqm
        have hfl := m.wm.fl q.ob (List.mem_map.2 ⟨q, hqm, rfl⟩)
        refine join_P (fun (l : Sl) u => Lw w u l (addA z q.ob.refs)) ?_ ?_
        · intro l u2 h2
          refine let_ ?_
          rw [W_succ (by omega)]
          refine hQ n _ u2 (by omega) ⟨i + 1, l, _, rfl, by omega, h2, addA_nodup hnd, fun y hy => ?_, ?_⟩
          · rcases addA_mem hy with hy | ⟨hy, hy0⟩
            · exact hmem y hy
            · have := m.wm.fr q.ob (List.mem_map.2 ⟨q, hqm, rfl⟩) y hy
              exact ⟨hy0, by rw [hel]; simpa using this.2⟩
          · rw [hor]
            show (match z[i]? with | none => z | some x => tr _ n (addA z ((obAt M x).refs)) (i + 1)) = _
            rw [hzi]
            dsimp only
            rw [he2]
        · intro J14 hJ14
          refine maddA (bs := ⟨some ⟨q.rb, 0, none⟩, q.ob.refs.length, q.ob.refs.length⟩) (ys := q.ob.refs) (next := J14) hz (fun u' f => ?_) (by omega) fun s' u' h' => hJ14 s' u' h'
          have hb := ((hmm u' f).bk q hqm).1
          exact .inr ⟨q.rb, rfl, by simp [ints], Nat.le_refl _, [], by simpa using hb, by simp [ints]⟩
    · rw [if_neg (by simp only [decide_eq_true_eq]; omega)]
      refine hK s u ?_
      have : order M = z := by
        rw [hor]
        cases n with
        | zero => rfl
        | succ n =>
          show (match z[i]? with | none => z | some x => tr _ n (addA z ((obAt M x).refs)) (i + 1)) = _
          rw [List.getElem?_eq_none (by omega)]
      rw [this]; exact hz
  · intro J23 hJ23
    have hrl := hwm.rl
    exact maddA (bs := sr) (ys := M.roots) (next := J23) (Lw.nil w) (fun u' f => (hmm u' f).rt) (by simp; omega) fun s' u' h' => hJ23 s' u' h'
end Go.Proofs.Qxb6500562aGreat
