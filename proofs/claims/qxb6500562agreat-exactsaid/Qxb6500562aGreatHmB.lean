/-
  The model's heap: calls on roots and fields.
-/
import Derived.Test.Qxb6500562aGreatHmA
import Derived.Test.Qxb6500562aGreatParN
namespace Go.Proofs.Qxb6500562aGreat
open Go.Den Go.Zip
set_option linter.unusedVariables false
set_option linter.unusedSimpArgs false
variable {w w' w0 : World} {h : Nat} {es : List OE} {roots : List Int} {so sr : Sl} {M : SH} {O O' P : Nat → Prop}

/-- Only own blocks turn; what is owned anew is new. -/
def Gw (O : Nat → Prop) (w : World) (O' : Nat → Prop) (w' : World) : Prop := FrP O w w' ∧ ∀ b, O' b → O b ∨ w.heap.size ≤ b
theorem Gw.refl (O : Nat → Prop) (w : World) : Gw O w O w := ⟨FrP.refl _ _, fun b hb => .inl hb⟩
theorem Gw.trans {w1 w2 : World} {O1 O2 : Nat → Prop} (a : Gw O w O1 w1) (b : Gw O1 w1 O2 w2) : Gw O w O2 w2 := by
  have := a.1.1.1
  refine ⟨FrP.trans' a.1 b.1 a.2, fun x hx => ?_⟩
  rcases b.2 x hx with h1 | h1
  · exact a.2 x h1
  · exact .inr (by omega)
theorem Gw.drew (a : Gw O w O' w') : Gw O w O' w'.drew := ⟨a.1.drew, a.2⟩
theorem WM.turn {os : List Ob} {r r' : List Int} (m : WM ⟨os, r⟩) (hl : r'.length ≤ 24) (hr : ∀ x ∈ r', x = -1 ∨ x ∈ r ∨ (-1 ≤ x ∧ x < os.length)) : WM ⟨os, r'⟩ :=
  ⟨hl, m.ol, m.fl, fun x hx => by
    rcases hr x hx with h1 | h1 | h1
    · rw [h1]; exact ⟨by omega, by have : (0 : Int) ≤ (os.length : Int) := by omega
                                   show (-1 : Int) < (os.length : Int); omega⟩
    · exact m.rr x h1
    · exact h1, m.fr⟩
theorem HM.depth {K : Int → World → Prop} (m : HM w h M O) (hK : K M.roots.length w) : S.heapm_Heap_Depth h w K := by
  unfold S.heapm_Heap_Depth
  obtain ⟨es, so, sr, m, _, _⟩ := m
  refine ldS m.rc rfl ?_
  dsimp only
  rw [m.rl]; exact hK
theorem getD_in {l : List Int} {k : Nat} (h : k < l.length) : l.getD k (-1) ∈ l := by
  rw [List.getD_eq_getElem?_getD, List.getElem?_eq_getElem h]; exact List.getElem_mem h
/-- A root comes on top. -/
theorem mroot {x : Int} {K : Int → World → Prop} {p : Nat} (m : HMm w h es roots so sr) (hl : roots.length < 24) (hx : -1 ≤ x ∧ x < es.length) (hb : Blk w p [.int .i64 x])
    (hK : ∀ w' sr', HMm w' h es (roots ++ [x]) so sr' → Gw (hmo h es so sr) w (hmo h es so sr') w' → K 0 w') :
    AppS 3 [.int .i64 0] 8 1 w sr ⟨some ⟨p, 0, none⟩, 1, 1⟩ fun l4 w => St1 w ⟨h, 1, none⟩ (.slice l4.a l4.l l4.c) fun w => K 0 w := by
  have hrl := m.rl
  refine appO m.rt hb (by rfl) (by omega) rfl rfl (by show (sr.l + 1) * 8 ≤ 2 ^ 46; omega) fun s' u o2 hl2 hg2 f2 => ?_
  have hh : ¬ owns sr h := m.d1.2.1
  refine st1 (m.rc.frp f2 hh) (by simp) fun u3 b3 f3 _ => ?_
  have hw : WM ⟨es.map OE.ob, roots ++ [x]⟩ := m.wm.turn (by simp; omega) fun y hy => by
    rcases List.mem_append.1 hy with hy | hy
    · exact .inr (.inl hy)
    · simp only [List.mem_singleton] at hy; subst hy; exact .inr (.inr (by simpa using hx))
  obtain ⟨k1, k2, k3⟩ := m.turn (i := 0) f2 (by simpa [ints] using o2) (fun b hb => hg2.owns hb) hw f3 b3
  exact hK u3 s' k1 ⟨k2, k3⟩
theorem HM.push {K : Int → World → Prop} (m : HM w h M O) (hK : ∀ w' O', HM w' h (hPush M).2 O' → Gw O w O' w' → K (hPush M).1 w') : S.heapm_Heap_PushNil h w K := by
  unfold S.heapm_Heap_PushNil
  have m0 := m
  obtain ⟨es, so, sr, m, e, rfl⟩ := m
  refine ldS m.rc rfl ?_
  have hrl := m.rl
  unfold hPush at hK
  dsimp only
  by_cases h24 : 24 ≤ M.roots.length
  · rw [if_pos (by simp only [decide_eq_true_eq]; omega)]
    rw [if_pos h24] at hK
    exact hK w _ m0 (Gw.refl _ _)
  · rw [if_neg (by simp only [decide_eq_true_eq]; omega)]
    rw [if_neg h24] at hK
    refine ldS m.rc rfl (newB fun w1 b1 f1 s1 => ?_)
    have m1 := m.frp (P := fun _ => False) (FrP.of0 f1) fun _ _ h => h
    refine mroot m1 (by omega) ⟨by omega, by omega⟩ b1 fun w2 sr' m2 g2 => ?_
    exact hK w2 _ ⟨es, so, sr', m2, e, rfl⟩ (Gw.trans ⟨FrP.of0 f1, fun b hb => .inl hb⟩ g2)
theorem HM.pop {n : Int} {K : Int → World → Prop} (m : HM w h M O) (hK : ∀ w' O', HM w' h (if (hPop M n).2.roots = [] ∧ (hPop M n).1 = 0 then ⟨[], []⟩ else (hPop M n).2) O' → Gw O w O' w' → K (hPop M n).1 w') : S.heapm_Heap_Pop h n w K := by
  unfold S.heapm_Heap_Pop
  have m0 := m
  obtain ⟨es, so, sr, m, e, rfl⟩ := m
  have hrl := m.rl
  have h24 := m.wm.rl
  dsimp only at h24
  have bad : (n < 0 ∨ (M.roots.length : Int) < n) → K 1 w := fun hc => by
    have hp : hPop M n = (1, M) := by unfold hPop; rw [if_pos hc]
    rw [hp, if_neg (by simp)] at hK
    exact hK w _ m0 (Gw.refl _ _)
  by_cases h1 : n < 0
  · rw [if_pos (by simpa using h1)]
    exact bad (.inl h1)
  rw [if_neg (by simpa using h1)]
  refine ldS m.rc rfl ?_
  dsimp only
  by_cases h2 : (M.roots.length : Int) < n
  · rw [if_pos (by simp only [decide_eq_true_eq]; omega)]
    exact bad (.inr h2)
  rw [if_neg (by simp only [decide_eq_true_eq]; omega)]
  have hp : hPop M n = (0, ⟨M.objs, M.roots.take (M.roots.length - n.toNat)⟩) := by unfold hPop; rw [if_neg (by omega)]
  rw [hp] at hK
  refine drew_ ?_
  have m := m.frp (P := fun _ => False) (FrP.of0 (Fr.refl 0 0 w).drew) fun _ _ h => h
  have hK : ∀ w' O', HM w' h (if M.roots.take (M.roots.length - n.toNat) = [] ∧ (0 : Int) = 0 then ⟨[], []⟩ else ⟨M.objs, M.roots.take (M.roots.length - n.toNat)⟩) O' → Gw (hmo h es so sr) w.drew O' w' → K 0 w' := fun w' O' a b => hK w' O' a ⟨b.1, b.2⟩
  generalize w.drew = w at *
  refine ldS m.rc rfl (ldS m.rc rfl ?_)
  dsimp only
  rw [W_id (by omega) (by omega), show (sr.l : Int) - n = ((M.roots.length - n.toNat : Nat) : Int) by omega]
  refine cutO m.rt (by omega) fun s' o' l' ow' => ?_
  refine st1 m.rc (by simp) fun u3 b3 f3 _ => ?_
  have hw : WM ⟨es.map OE.ob, M.roots.take (M.roots.length - n.toNat)⟩ := m.wm.turn (by simp; omega) fun y hy => .inr (.inl (List.mem_of_mem_take hy))
  obtain ⟨k1, k2, k3⟩ := m.turn (i := 0) (FrP.refl _ w) o' (fun b hb => .inl (ow' b hb)) hw f3 b3
  refine ldS b3 rfl ?_
  dsimp only
  rw [l']
  have hlen : (M.roots.take (M.roots.length - n.toNat)).length = M.roots.length - n.toNat := by simp
  by_cases h0 : M.roots.length - n.toNat = 0
  · rw [if_pos (by rw [h0]; rfl)]
    have hnil : M.roots.take (M.roots.length - n.toNat) = [] := by rw [h0]; rfl
    rw [if_pos ⟨hnil, rfl⟩] at hK
    refine st1 b3 (by simp) fun u4 b4 f4 _ => st1 b4 (by simp) fun u5 b5 f5 _ => ?_
    have F := (f3.trans f4).trans f5
    refine hK u5 (hmo h [] ⟨none, 0, 0⟩ ⟨none, 0, 0⟩) ⟨[], ⟨none, 0, 0⟩, ⟨none, 0, 0⟩, ⟨b5, OS.nil _ _, OS.nil _ _, fun e he => (by cases he), ⟨.nil, fun e he => (by cases he)⟩, ⟨by simp [owns], by simp [owns], by simp [owns]⟩, fun e he => (by cases he), ⟨by simp, by simp, by simp, by simp, by simp⟩⟩, rfl, rfl⟩ ⟨FrP.of F fun b h1 h2 => .inl (by omega), ?_⟩
    rintro b (hb | hb | hb | ⟨e, he, _⟩)
    · exact .inl (.inl hb)
    · simp [owns] at hb
    · simp [owns] at hb
    · cases he
  · rw [if_neg (by simp; omega)]
    rw [if_neg (fun hh => h0 (by rw [← hlen, hh.1]; rfl))] at hK
    exact hK u3 _ ⟨es, so, s', k1, e, rfl⟩ ⟨k2, k3⟩
theorem HM.slide {n : Int} {K : Int → World → Prop} (m : HM w h M O) (hK : ∀ w' O', HM w' h (hSlide M n).2 O' → Gw O w O' w' → K (hSlide M n).1 w') : S.heapm_Heap_Slide h n w K := by
  unfold S.heapm_Heap_Slide
  have m0 := m
  obtain ⟨es, so, sr, m, e, rfl⟩ := m
  have hrl := m.rl
  have h24 := m.wm.rl
  dsimp only at h24
  unfold hSlide at hK
  have bad : (n < 0 ∨ (M.roots.length : Int) ≤ n) → K 1 w := fun hc => by
    rw [if_pos hc] at hK
    exact hK w _ m0 (Gw.refl _ _)
  by_cases h1 : n < 0
  · rw [if_pos (by simpa using h1)]
    exact bad (.inl h1)
  rw [if_neg (by simpa using h1)]
  refine ldS m.rc rfl ?_
  dsimp only
  by_cases h2 : (M.roots.length : Int) ≤ n
  · rw [if_pos (by simp only [decide_eq_true_eq]; omega)]
    exact bad (.inr h2)
  rw [if_neg (by simp only [decide_eq_true_eq]; omega)]
  rw [if_neg (by omega)] at hK
  refine drew_ ?_
  have m := m.frp (P := fun _ => False) (FrP.of0 (Fr.refl 0 0 w).drew) fun _ _ h => h
  have hK : ∀ w' O', HM w' h ⟨M.objs, M.roots.take (M.roots.length - 1 - n.toNat) ++ [M.roots.getD (M.roots.length - 1) (-1)]⟩ O' → Gw (hmo h es so sr) w.drew O' w' → K 0 w' := fun w' O' a b => hK w' O' a ⟨b.1, b.2⟩
  generalize w.drew = w at *
  refine ldS m.rc rfl (ldS m.rc rfl ?_)
  dsimp only
  have e1 : W ((sr.l : Int) - 1) = ((M.roots.length - 1 : Nat) : Int) := by rw [W_id (by omega) (by omega)]; omega
  rw [e1]
  refine osRd m.rt (by omega) (by omega) ?_
  rw [Int.toNat_natCast]
  refine drew_ ?_
  have m := m.frp (P := fun _ => False) (FrP.of0 (Fr.refl 0 0 w).drew) fun _ _ h => h
  have hK : ∀ w' O', HM w' h ⟨M.objs, M.roots.take (M.roots.length - 1 - n.toNat) ++ [M.roots.getD (M.roots.length - 1) (-1)]⟩ O' → Gw (hmo h es so sr) w.drew O' w' → K 0 w' := fun w' O' a b => hK w' O' a ⟨b.1, b.2⟩
  generalize w.drew = w at *
  refine ldS m.rc rfl (ldS m.rc rfl ?_)
  dsimp only
  rw [W_id (by omega) (by omega), show (sr.l : Int) - n = ((M.roots.length - n.toNat : Nat) : Int) by omega]
  refine cutO m.rt (by omega) fun s' o' l' ow' => ?_
  refine st1 m.rc (by simp) fun u3 b3 f3 _ => drew_ ?_
  have f3 : Fr h 1 w u3.drew := f3.drew
  have b3 := b3.drew
  generalize u3.drew = u3 at *
  refine ldS b3 rfl (ldS b3 rfl ?_)
  dsimp only
  rw [l']
  have e2 : W (((M.roots.length - n.toNat : Nat) : Int) - 1) = ((M.roots.length - 1 - n.toNat : Nat) : Int) := by rw [W_id (by omega) (by omega)]; omega
  rw [e2, ← l']
  have hsh : ¬ owns s' h := fun ho => m.d1.2.1 (ow' h ho)
  have o3 : OS u3 s' (ints (M.roots.take (M.roots.length - n.toNat))) 1 := o'.frp (FrP.of (P := fun b => b = h) f3 fun b h1 h2 => by omega) fun b hb e => hsh (by rw [← e]; exact hb)
  refine osSt o3 (by omega) (by simp; omega) fun u4 o4 f4 => ?_
  have hroots : (M.roots.take (M.roots.length - n.toNat)).set (Int.toNat ((M.roots.length - 1 - n.toNat : Nat) : Int)) (M.roots.getD (M.roots.length - 1) (-1)) = M.roots.take (M.roots.length - 1 - n.toNat) ++ [M.roots.getD (M.roots.length - 1) (-1)] := by
    rw [Int.toNat_natCast, show M.roots.length - n.toNat = (M.roots.length - 1 - n.toNat) + 1 by omega, List.take_add_one, List.set_append_right _ _ (by simp; omega)]
    rw [List.getElem?_eq_getElem (by omega)]
    have : M.roots.length - 1 - n.toNat - (M.roots.take (M.roots.length - 1 - n.toNat)).length = 0 := by simp; omega
    rw [this]; rfl
  rw [hroots] at o4
  have hw : WM ⟨es.map OE.ob, M.roots.take (M.roots.length - 1 - n.toNat) ++ [M.roots.getD (M.roots.length - 1) (-1)]⟩ := m.wm.turn (by simp; omega) fun y hy => by
    rcases List.mem_append.1 hy with hy | hy
    · exact .inr (.inl (List.mem_of_mem_take hy))
    · simp only [List.mem_singleton] at hy; subst hy; exact .inr (.inl (getD_in (by omega)))
  -- both writes in one frame: first the record, then the cell
  have hlt := m.lt
  have F : FrP (hmo h es so sr) w u4 := FrP.trans (FrP.of f3 fun b h1 h2 => .inl (by omega)) (f4.mono fun b hb => .inr (.inr (.inl (ow' b hb))))
  have m4 : HMm u4 h es (M.roots.take (M.roots.length - 1 - n.toNat) ++ [M.roots.getD (M.roots.length - 1) (-1)]) so s' := by
    refine ⟨b3.frp f4 hsh, ?_, o4, fun e he => ?_, m.nd, ⟨m.d1.1, hsh, fun b hb ho => m.d1.2.2 b hb (ow' b ho)⟩, fun e he b hbb => ?_, hw⟩
    · exact (m.oo.frp (FrP.of (P := fun b => b = h) f3 fun b h1 h2 => by omega) fun b hb e => m.d1.1 (by rw [← e]; exact hb)).frp f4 fun b hb ho => m.d1.2.2 b hb (ow' b ho)
    · have d1 := m.d2 e he e.rb (.inl rfl)
      have d2 := m.d2 e he e.ib (.inr rfl)
      exact ⟨((m.bk e he).1.fr f3 (by omega)).frp f4 fun ho => d1.2.2 (ow' _ ho), ((m.bk e he).2.fr f3 (by omega)).frp f4 fun ho => d2.2.2 (ow' _ ho)⟩
    · have d := m.d2 e he b hbb
      exact ⟨d.1, d.2.1, fun ho => d.2.2 (ow' b ho)⟩
  refine hK u4 _ ⟨es, so, s', m4, e, rfl⟩ ⟨F, ?_⟩
  rintro b (hb | hb | hb | hb)
  · exact .inl (.inl hb)
  · exact .inl (.inr (.inl hb))
  · exact .inl (.inr (.inr (.inl (ow' b hb))))
  · exact .inl (.inr (.inr (.inr hb)))
end Go.Proofs.Qxb6500562aGreat
