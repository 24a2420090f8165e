/-
  towerexact.Exact: a step.
-/
import Derived.Test.Qxb6500563aGreatTwF
namespace Go.Proofs.Qxb6500563aGreat
open Go.Den Go.Zip
set_option linter.unusedVariables false
set_option linter.unusedSimpArgs false
section
variable {W0 w w' : World} {p B : Nat} {T T' : Nat → Tag} {d d' : Gh} {c : Nat}
theorem arch_Check_spec {K : Bool → World → Prop} (h : RAI w B) (hK : ∀ w', w'.heap = w.heap → K true w') : S.arch_Archive_Check (B + 61) w K := by
  obtain ⟨ps, rs, L, J, of_, tb, gn, hA⟩ := h.ex
  have hl := hA.pl
  rw [List.length_append] at hl
  unfold S.arch_Archive_Check
  refine ldP hA.rc rfl (ldP hA.rc rfl (ldS hA.rc rfl ?_))
  rw [if_neg (by simp)]
  refine ldS hA.rc rfl ?_
  rw [if_neg (by simp)]
  refine ldS hA.rc rfl ?_
  rw [if_neg (by simp)]
  refine ldS hA.rc rfl ?_
  rw [if_neg (by simp)]
  refine drew_ (ldI hA.rc.drew rfl ?_)
  rw [if_pos (by simp only [decide_eq_true_eq]; omega)]
  refine ldI hA.rc.drew rfl (ldS hA.rc.drew rfl ?_)
  rw [show decide ((L.length : Int) ≤ ((1200 : Nat) : Int)) = true from by simp only [decide_eq_true_eq]; omega]
  exact hK _ rfl
theorem cut_self {b n sz : Nat} {K : Sl → Prop} (hk : K ⟨some ⟨b, 0, none⟩, n, n⟩) : CutS sz ⟨some ⟨b, 0, none⟩, n, n⟩ 0 ((n : Nat) : Int) ((n : Nat) : Int) K := by
  refine ⟨by omega, by omega, by omega, by simp, ?_⟩
  simp only [Int.toNat_natCast, Int.toNat_zero, Nat.sub_zero, Nat.zero_mul, Option.map_some, add_mk, Nat.add_zero, ite_self]
  exact hk
theorem keepE_spec {sl : Sl} {es : List Ent} {K : World → Prop} (h : Inv W0 w p T d (c + 1)) (n0 : Nums d c) (hF : Full d) (hs : (sl = ⟨none, 0, 0⟩ ∧ es = []) ∨ ∃ b, sl = ⟨some ⟨b, 0, none⟩, es.length, es.length⟩ ∧ Blk w b (es.flatMap entV) ∧ T b = (20, d.Es.length)) (hes : es.length ≤ 1073741824)
    (hK : ∀ w' T' d', Inv W0 w' p T' d' (c + 1) → Full d' → K w') : S.towerexact_World_keepE p sl w K := by
  unfold S.towerexact_World_keepE
  have e4 := n0.lE
  rcases hs with ⟨rfl, rfl⟩ | ⟨q2, rfl, b2, t2⟩
  · rw [if_neg (by simp)]
    exact hK w T d h hF
  rw [if_pos (by simp)]
  refine cut_self ?_
  refine ldS h.rcd rfl ?_
  refine newB fun w3 b3 f3 s3 => ?_
  have h3 := h.ext f3 (T' := T) (fun _ _ => rfl)
  have b2' := b2.fr f3 (by omega)
  refine Inv.addL (q := ⟨some ⟨q2, 0, none⟩, es.length, es.length⟩) (es := es) h3 n0 hF b3 (.inr ⟨q2, rfl, b2', t2⟩) hes fun s' w4 T4 h4 hT4 f4 => ?_
  have b4 := b2'.frp f4 (by rw [t2]; simp)
  refine drew_ ?_
  have h5 := h4.heq (w' := w4.drew) rfl
  unfold Hold
  refine ldS h5.rcd rfl ?_
  refine copyE_spec (es := es) ⟨.inr ⟨q2, _, rfl, b4.drew, List.take_of_length_le (by rw [flat_length (f := entV) (c := 2) (fun _ => rfl)]; omega)⟩, rfl⟩ hes fun w6 b6 f6 s6 => ?_
  have h6 := h5.ext f6 (tagN_old T4 w4.drew (21, d.Es.length))
  have t6 := tagN_new T4 w4.drew (21, d.Es.length) (Nat.le_refl _)
  generalize tagN T4 w4.drew (21, d.Es.length) = T6 at *
  generalize w4.drew.heap.size = q6 at *
  refine after1 h5.rcd h6.rcd rfl ?_
  refine newB fun w7 b7 f7 s7 => ?_
  have h7 := h6.ext f7 (T' := T6) (fun _ _ => rfl)
  refine after1 h5.rcd h7.rcd rfl ?_
  refine Inv.addW (d := { d with ls := s', Ls := d.Ls ++ [⟨some ⟨q2, 0, none⟩, es.length, es.length⟩], Es := d.Es ++ [es] }) (q := ⟨some ⟨q6, 0, none⟩, es.length, es.length⟩) (es := es) (Es0 := d.Es) h7 hF.w rfl e4 b7 (.inr ⟨q6, rfl, b6.fr f7 (by omega), t6⟩) fun s'' w8 T8 h8 => ?_
  exact hK w8 T8 _ h8 ⟨hF.m, by simp [hF.l], by simp [hF.w], hF.s⟩
theorem keepI_spec {sl : Sl} {xs : List InfZ} {K : World → Prop} (h : Inv W0 w p T d (c + 1)) (n0 : Nums d c) (hF : Full d) (hs : (sl = ⟨none, 0, 0⟩ ∧ xs = []) ∨ ∃ b, sl = ⟨some ⟨b, 0, none⟩, xs.length, xs.length⟩ ∧ Blk w b (xs.flatMap infZ) ∧ T b = (22, d.Xs.length)) (hes : xs.length ≤ 1073741824)
    (hK : ∀ w' T' d', Inv W0 w' p T' d' (c + 1) → Full d' → K w') : S.towerexact_World_keepI p sl w K := by
  unfold S.towerexact_World_keepI
  have e4 := n0.lX
  have e5 := n0.lS
  have e6 := n0.le
  rcases hs with ⟨rfl, rfl⟩ | ⟨q2, rfl, b2, t2⟩
  · rw [if_neg (by simp)]
    exact hK w T d h hF
  rw [if_pos (by simp)]
  refine cut_self ?_
  refine drew_ ?_
  have h5 := h.heq (w' := w.drew) rfl
  unfold Hold
  refine ldS h5.rcd rfl ?_
  refine copyI_spec (es := xs) ⟨.inr ⟨q2, _, rfl, b2.drew, List.take_of_length_le (by rw [flat_length (f := infZ) (c := 3) (fun _ => rfl)]; omega)⟩, rfl⟩ hes fun w6 b6 f6 s6 => ?_
  have h6 := h5.ext f6 (tagN_old T w.drew (23, d.Xs.length))
  have t6 := tagN_new T w.drew (23, d.Xs.length) (Nat.le_refl _)
  have t26 : tagN T w.drew (23, d.Xs.length) q2 = (22, d.Xs.length) := by rw [tagN_old T w.drew _ q2 b2.lt]; exact t2
  have b26 := b2.drew.fr f6 (by omega)
  generalize tagN T w.drew (23, d.Xs.length) = T6 at *
  generalize w.drew.heap.size = q6 at *
  refine after1 h5.rcd h6.rcd rfl ?_
  refine newB fun w7 b7 f7 s7 => ?_
  have h7 := h6.ext f7 (T' := T6) (fun _ _ => rfl)
  refine after1 h5.rcd h7.rcd rfl ?_
  have n1 := h7.nums
  have e7 := h7.isl
  have b67 := b6.fr f7 (by omega)
  have b267 := b26.fr f7 (by omega)
  refine Inv.app (j := 8) (i := 11) (c' := c + 1) (D := fun s' => { d with is_ := s', Is := d.Is ++ [(⟨some ⟨q2, 0, none⟩, xs.length, xs.length⟩, ⟨some ⟨q6, 0, none⟩, xs.length, xs.length⟩)], Xs := d.Xs ++ [xs] }) h7 (by omega) (by omega) rfl b7 rfl rfl rfl (by show (d.is_.l + 1) * 48 ≤ _; omega) (by omega)
    (fun s' => by simp [outer, isV, slV]) (fun s' k h2 h8 hk => by rcases kc h2 h8 with rfl | rfl | rfl | rfl | rfl | rfl | rfl <;> first | rfl | exact absurd rfl hk) (fun s' => rfl) (fun s' => rfl) (fun s' => rfl)
    (fun s' w1 T1 hl f hT => ⟨hl.l20, hl.l21, ?_, ?_⟩)
    (fun s' => { n1 with lX := by simp; omega, lS := by simp; omega, xs := fun e he => ?_ }) fun s' w2 T2 h2 _ _ => hK w2 T2 _ h2 ⟨hF.m, hF.l, hF.w, by simp [hF.s]⟩
  · simp only [List.map_append, List.map_cons, List.map_nil]
    exact (hl.l22.more xs).app (by simpa using hF.s) (EL.fr (.inr ⟨q2, rfl, b267, t26⟩) f hT (by simp))
  · simp only [List.map_append, List.map_cons, List.map_nil]
    exact (hl.l23.more xs).app (by simpa using hF.s) (EL.fr (.inr ⟨q6, rfl, b67, t6⟩) f hT (by simp))
  · rcases List.mem_append.1 he with he | he
    · exact n1.xs e he
    · rw [List.mem_singleton.1 he]; exact hes
set_option maxHeartbeats 2000000 in
theorem step_spec {k a b cc : Int} {S_ T_ : ByteArray} {K : Bool → World → Prop} (h : Inv W0 w p T d c) (hF : Full d) (hc : c + 1 ≤ 1073741824) (ra : rng a) (rb : rng b) (rc : rng cc)
    (hK : ∀ w' T' d', Inv W0 w' p T' d' (c + 1) → Full d' → K true w') : S.towerexact_World_step p k a b cc S_ T_ w K := by
  unfold S.towerexact_World_step
  have n0 := h.nums
  refine newB fun w1 b1 f1 s1 => ?_
  have hq := tagN_new T w (50, 0) (Nat.le_refl _)
  have h1 := h.ext f1 (tagN_old T w (50, 0))
  generalize tagN T w (50, 0) = T1 at *
  generalize w.heap.size = q at *
  refine ldI b1 rfl (ldI b1 rfl (ldI b1 rfl (ldI b1 rfl (ldStr b1 rfl (ldStr b1 rfl ?_)))))
  refine lists_spec h1 hF hc ra rb rc (fun w' T' d' h' hF' => by rw [if_pos rfl]; exact hK w' T' d' h' hF') fun w2 f2 => ?_
  rw [if_neg (by simp)]
  have h2 := (h1.ext f2 (T' := T1) (fun _ _ => rfl)).up hc
  have b2 := b1.fr f2 (by omega)
  have e4 := n0.lE
  have e5 := h2.xl
  have e6 := n0.le
  refine ldS h2.rcd rfl ?_
  by_cases hl : d.x.l = 0
  · rw [if_pos (by simp [hl])]; exact hK w2 T1 d h2 hF
  rw [if_neg (by simpa using hl)]
  refine drew_ ?_
  have h3 := h2.heq (w' := w2.drew) rfl
  have b3 := b2.drew
  generalize w2.drew = w3 at *
  refine ldI b3 rfl (ldS h3.rcd rfl ?_)
  refine pick_spec ra.1 ra.2 (Nat.pos_of_ne_zero hl) fun r (hr : r < d.x.l) => ?_
  refine ldS h3.rcd rfl ?_
  have hBr : d.Bs[r]? = some (d.Bs[r]'(by omega)) := List.getElem?_eq_getElem (by omega)
  have hm0 := hF.m
  have hMr : d.Ms[r]? = some (d.Ms[r]'(by omega)) := List.getElem?_eq_getElem (by omega)
  generalize (d.Bs[r]'(by omega)) = B at *
  generalize (d.Ms[r]'(by omega)) = m at *
  refine OS.lP (f := fun x => x + 61) h3.x.1 hBr ?_
  refine ldS h3.rcd rfl ?_
  refine OS.lP (f := fun x => x) h3.m.1 hMr ?_
  refine ldStr b3 rfl ?_
  have hBk : B ∈ d.Ak := h3.nums.sB B (List.mem_of_getElem? hBr)
  have hMk : m ∈ d.Mk := h3.nums.sM m (List.mem_of_getElem? hMr)
  refine join_P (fun _ v => v.heap = w3.heap) ?_ ?_
  · intro raw v hv
    have h4 := h3.heq (w' := v) hv
    have b4 : Blk v q _ := b3.fr (Fr.heq (Fr.refl 0 0 w3) hv) (by omega)
    clear h3 b3 hv
    refine ldI b4 rfl ?_
    by_cases k7 : k = 7
    · rw [if_pos (by simpa using k7)]
      refine ldS h4.rcd rfl ?_
      have ell := h4.lsl
      have f1 := hF.l
      by_cases hl7 : d.ls.l = 0
      · rw [if_pos (by simp [hl7])]; exact hK v T1 d h4 hF
      rw [if_neg (by simpa using hl7)]
      refine drew_ ?_
      have h5 := h4.heq (w' := v.drew) rfl
      have b5 := b4.drew
      generalize v.drew = v5 at *
      unfold Hold
      refine ldS h5.rcd rfl (ldI b5 rfl (ldS h5.rcd rfl ?_))
      refine pick_spec rb.1 rb.2 (Nat.pos_of_ne_zero hl7) fun i (hi : i < d.ls.l) => ?_
      refine afterN h5.rcd h5.rcd ?_
      have hLi : d.Ls[i]? = some (d.Ls[i]'(by omega)) := List.getElem?_eq_getElem (by omega)
      generalize (d.Ls[i]'(by omega)) = x at *
      refine OS.lS h5.ls.1 hLi ?_
      obtain ⟨es, hE, hEL⟩ := h5.ll.l20 i x hLi
      obtain ⟨g, hent, hg, hcap⟩ := EL.ent hEL
      have hlen := hent.len
      have hesl := h5.nums.es es (List.mem_of_getElem? hE)
      refine ldI h5.rcd rfl ?_
      rw [show W ((x.l : Int) + 1) = ((x.l + 1 : Nat) : Int) from W_succ (by omega)]
      refine pick_spec h5.nums.ra.1 h5.nums.ra.2 (by omega) fun at_ (hat : at_ < x.l + 1) => ?_
      refine ldI h5.rcd rfl ?_
      rw [show W ((x.l : Int) - (at_ : Int)) = ((x.l - at_ : Nat) : Int) by rw [W_id (by omega) (by omega)]; omega, show W (((x.l - at_ : Nat) : Int) + 1) = ((x.l - at_ + 1 : Nat) : Int) from W_succ (by omega)]
      refine pick_spec h5.nums.rn.1 h5.nums.rn.2 (by omega) fun n (hn : n < x.l - at_ + 1) => ?_
      refine drew_ ?_
      have h6 := h5.heq (w' := v5.drew) rfl
      have b6 := b5.drew
      have hEL6 : EL v5.drew T1 (20, i) x (es.flatMap entV) es.length := hEL
      have hent6 : EntS v5.drew x g es := hent.heq rfl
      generalize v5.drew = v6 at *
      refine ldI h6.rcd rfl (ldI b6 rfl ?_)
      rw [show W (((x.l - at_ : Nat) : Int) - (n : Int)) = ((x.l - at_ - n : Nat) : Int) by rw [W_id (by omega) (by omega)]; omega, show W (((x.l - at_ - n : Nat) : Int) + 1) = ((x.l - at_ - n + 1 : Nat) : Int) from W_succ (by omega)]
      refine pick_spec h6.nums.rx.1 h6.nums.rx.2 (by omega) fun ex (hex : ex < x.l - at_ - n + 1) => ?_
      refine afterN b6 b6 ?_
      have hA := h6.core.arch B hBk
      have hgB : es = [] ∨ g < B ∨ B + 66 ≤ g := by
        rcases hg with hg | hg
        · exact .inl hg
        · right
          rcases Nat.lt_or_ge g B with h' | h'
          · exact .inl h'
          · rcases Nat.lt_or_ge g (B + 66) with h'' | h''
            · have := hA.2 (g - B) (by omega)
              rw [show B + (g - B) = g by omega, hg] at this
              simp at this
            · exact .inr h''
      have hMA : ∀ w', Fr B 66 v6 w' → MA w' m := fun w' f => by
        have f' : FrP (fun b => T1 b = (9, B)) v6 w' := FrP.of f fun b h1 h2 => by
          have := hA.2 (b - B) (by omega)
          rw [show B + (b - B) = b by omega] at this
          exact this
        exact ((h6.core.mod_ m hMk).fr (T' := T1) f' (fun _ _ => rfl) (by simp)).ma
      refine packed_spec hA.1 hMA hent6 hgB (by omega) (by omega) (by omega) (by omega) (by omega) (fun hne w7 a7 f7 => ?_) (fun hz w7 a7 f7 => ?_)
      · rw [if_neg (by simp), if_neg (by simp)]
        exact hK w7 T1 d (h6.arch hBk f7 a7).1 hF
      · rw [if_neg (by simp), if_pos rfl]
        have h7 := (h6.arch hBk f7 a7).1
        refine ldS h7.rcd rfl ?_
        refine newB fun w8 b8 f8 s8 => ?_
        have h8 := h7.ext f8 (T' := T1) (fun _ _ => rfl)
        have n1 := h8.nums
        have e7 := h8.tl
        have e8 := n0.lT
        generalize strOf (archB cc.toNat ((es.drop at_).take n)) = txt at *
        refine Inv.app (j := 7) (i := 10) (c' := c + 1) (D := fun s' => { d with t := s', ts := d.ts ++ [txt] }) h8 (by omega) (by omega) rfl b8 rfl rfl rfl (by show (d.t.l + 1) * 16 ≤ _; omega) (by omega)
          (fun s' => by simp [outer]) (fun s' k h2 h8 hk => by rcases kc h2 h8 with rfl | rfl | rfl | rfl | rfl | rfl | rfl <;> first | rfl | exact absurd rfl hk) (fun s' => rfl) (fun s' => rfl) (fun s' => rfl)
          (fun s' w1 T1 hl f hT => ⟨hl.l20, hl.l21, hl.l22, hl.l23⟩)
          (fun s' => { n1 with lT := by simp; omega }) fun s' w9 T9 h9 _ _ => hK w9 T9 _ h9 ⟨hF.m, hF.l, hF.w, hF.s⟩
    rw [if_neg (by simpa using k7)]
    refine join_P (fun _ u => u.heap = v.heap) ?_ ?_
    · intro j u hu
      have h5 := h4.heq (w' := u) hu
      cases j
      · rw [if_neg (by simp)]
        refine join_P (fun _ u => u.heap = v.heap) ?_ ?_
        · intro j2 u2 hu2
          have h6 := h4.heq (w' := u2) hu2
          cases j2
          · rw [if_neg (by simp)]
            by_cases k14 : k = 14
            · rw [if_pos (by simpa using k14)]
              exact arch_Check_spec (h6.core.arch B hBk).1 fun u3 hu3 => hK u3 T1 d (h6.heq hu3) hF
            · rw [if_neg (by simpa using k14)]
              exact hK u2 T1 d h6 hF
          · rw [if_pos rfl]
            have h7 := h6.ext (Fr.refl 0 0 u2) (tagN_old T1 u2 (20, d.Es.length))
            refine unpacked_spec (h7.core.arch B hBk).1 fun sl u3 a3 hs f3 => ?_
            rw [if_neg (by simp)]
            refine keepE_spec (es := unpX raw) (h7.arch hBk f3 a3).1 n0 hF ?_ (by have := unpX_len raw; omega) fun u4 T4 d4 h8 hF4 => hK u4 T4 d4 h8 hF4
            rcases hs with hs | ⟨b, hs1, hs2, hs3⟩
            · exact .inl hs
            · exact .inr ⟨b, hs1, hs2, tagN_new T1 u2 _ hs3⟩
        · intro J hJ
          split
          · exact hJ _ u hu
          · exact hJ _ u hu
      · rw [if_pos rfl]
        have h7 := h5.ext (Fr.refl 0 0 u) (tagN_old T1 u (22, d.Xs.length))
        refine listed_spec (h7.core.arch B hBk).1 fun sl u3 a3 hs f3 => ?_
        rw [if_neg (by simp)]
        refine keepI_spec (xs := (listX raw).map fun e => ((e.1, (e.2.1 : Int), (e.2.2 : Int)) : InfZ)) (h7.arch hBk f3 a3).1 n0 hF ?_ (by have := listX_len raw; simp; omega) fun u4 T4 d4 h8 hF4 => hK u4 T4 d4 h8 hF4
        rcases hs with ⟨hs1, hs2⟩ | ⟨b, hs1, hs2, hs3⟩
        · exact .inl ⟨hs1, by rw [hs2]; rfl⟩
        · exact .inr ⟨b, by rw [List.length_map]; exact hs1, by rw [← infZ_of]; exact hs2, tagN_new T1 u _ hs3⟩
    · intro J hJ
      split
      · exact hJ _ v rfl
      · exact hJ _ v rfl
  · intro J hJ
    refine join_W (fun v => v.heap = w3.heap) ?_ ?_
    · intro v hv
      have h4 := h3.heq (w' := v) hv
      have b4 : Blk v q _ := b3.fr (Fr.heq (Fr.refl 0 0 w3) hv) (by omega)
      refine ldS h4.rcd rfl ?_
      by_cases ht : d.t.l = 0
      · rw [if_pos (by simp [ht])]; exact hK v T1 d h4 hF
      rw [if_neg (by simpa using ht)]
      refine drew_ ?_
      have h5 := h4.heq (w' := v.drew) rfl
      have b5 := b4.drew
      have hv5 : v.drew.heap = w3.heap := hv
      generalize v.drew = v5 at *
      unfold Hold
      refine ldS h5.rcd rfl (ldI b5 rfl (ldS h5.rcd rfl ?_))
      refine pick_spec rb.1 rb.2 (Nat.pos_of_ne_zero ht) fun i (hi : i < d.t.l) => ?_
      refine afterN h5.rcd h5.rcd ?_
      have e7 := h5.tl
      exact OS.lT h5.t.1 (List.getElem?_eq_getElem (by omega)) (hJ _ v5 hv5)
    · intro J2 hJ2
      refine ldI b3 rfl ?_
      split
      · exact hJ2 w3 rfl
      · refine ldI b3 rfl ?_
        split
        · exact hJ2 w3 rfl
        · exact hJ _ w3 rfl
theorem looks_spec {K : Bool → World → Prop} (h : Inv W0 w p T d c) (hF : Full d) (hK : ∀ w', w'.heap = w.heap → K true w') : S.towerexact_World_looks p w K := by
  unfold S.towerexact_World_looks
  have n0 := h.nums
  have e1 := h.isl; have e2 := h.lsl; have e3 := h.lwl; have e4 := hF.l; have e5 := hF.w; have e6 := n0.lE; have e7 := n0.le; have e8 := n0.lS; have e9 := hF.s
  refine join_W (fun v => v.heap = w.heap) ?_ ?_
  · intro v hv
    refine loopN (fun m st u => ∃ i : Nat, st = ((i : Int), ()) ∧ m + i = d.Ls.length ∧ u.heap = w.heap) d.Ls.length ⟨0, rfl, rfl, hv⟩ ?_
    rintro m _ u ⟨i, rfl, hm, hu⟩ Q hQ
    dsimp only
    have h2 := h.heq (w' := u) hu
    refine ldS h2.rcd rfl ?_
    by_cases hi : i < d.Ls.length
    · rw [if_pos (by simp only [decide_eq_true_eq]; omega)]
      refine drew_ ?_
      have h3 := h2.heq (w' := u.drew) rfl
      have hu3 : u.drew.heap = w.heap := hu
      generalize u.drew = u3 at *
      have hLi : d.Ls[i]? = some d.Ls[i] := List.getElem?_eq_getElem hi
      have hWi : d.Lw[i]? = some (d.Lw[i]'(by omega)) := List.getElem?_eq_getElem (by omega)
      generalize (d.Lw[i]'(by omega)) = y at *
      generalize d.Ls[i] = x at *
      refine ldS h3.rcd rfl (OS.lS h3.ls.1 hLi (ldS h3.rcd rfl (OS.lS h3.lw.1 hWi ?_)))
      obtain ⟨es, hE, hEL⟩ := h3.ll.l20 i x hLi
      obtain ⟨es', hE', hEL'⟩ := h3.ll.l21 i y hWi
      have : es' = es := by rw [hE] at hE'; exact (Option.some.inj hE').symm
      subst this
      obtain ⟨g, hg, _, _⟩ := EL.ent hEL
      obtain ⟨g', hg', _, _⟩ := EL.ent hEL'
      have hb := h3.nums.es es' (List.mem_of_getElem? hE)
      refine sameEntries_spec hg hg' (by omega) fun u4 hu4 => ?_
      rw [if_neg (by simp), W_succ (by omega)]
      exact let_ (hQ (m - 1) _ _ (by omega) ⟨i + 1, rfl, by omega, hu4.trans hu3⟩)
    · rw [if_neg (by simp only [decide_eq_true_eq]; omega)]
      exact hK u hu
  · intro J hJ
    refine loopN (fun m st u => ∃ i : Nat, st = ((i : Int), ()) ∧ m + i = d.Is.length ∧ u.heap = w.heap) d.Is.length ⟨0, rfl, rfl, rfl⟩ ?_
    rintro m _ u ⟨i, rfl, hm, hu⟩ Q hQ
    dsimp only
    have h2 := h.heq (w' := u) hu
    refine ldS h2.rcd rfl ?_
    by_cases hi : i < d.Is.length
    · rw [if_pos (by simp only [decide_eq_true_eq]; omega)]
      refine drew_ ?_
      have h3 := h2.heq (w' := u.drew) rfl
      have hu3 : u.drew.heap = w.heap := hu
      generalize u.drew = u3 at *
      have hz : d.Is[i]? = some d.Is[i] := List.getElem?_eq_getElem hi
      generalize d.Is[i] = z at *
      refine ldS h3.rcd rfl (OS.pair h3.is.1 hz fun g gs hb c1 c2 ho => ldS (a := z.1.a) (l := z.1.l) (c := z.1.c) hb c1 ?_)
      refine ldS h3.rcd rfl (OS.pair h3.is.1 hz fun g gs hb c1 c2 ho => ldS (a := z.2.a) (l := z.2.l) (c := z.2.c) hb c2 ?_)
      obtain ⟨xs, hX, hEL⟩ := h3.ll.l22 i z.1 (by rw [List.getElem?_map, hz]; rfl)
      obtain ⟨xs', hX', hEL'⟩ := h3.ll.l23 i z.2 (by rw [List.getElem?_map, hz]; rfl)
      have : xs' = xs := by rw [hX] at hX'; exact (Option.some.inj hX').symm
      subst this
      have hb := h3.nums.xs xs' (List.mem_of_getElem? hX)
      refine sameI_spec hEL hEL' (by omega) fun u4 hu4 => ?_
      rw [if_neg (by simp), W_succ (by omega)]
      exact let_ (hQ (m - 1) _ _ (by omega) ⟨i + 1, rfl, by omega, hu4.trans hu3⟩)
    · rw [if_neg (by simp only [decide_eq_true_eq]; omega)]
      exact hJ u hu
end
end Go.Proofs.Qxb6500563aGreat
