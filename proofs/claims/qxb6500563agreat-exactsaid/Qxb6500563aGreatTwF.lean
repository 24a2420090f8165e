/-
  towerexact.Exact: the steps on the caller's own lists.
-/
import Derived.Test.Qxb6500563aGreatTwE
namespace Go.Proofs.Qxb6500563aGreat
open Go.Den Go.Zip
set_option linter.unusedVariables false
set_option linter.unusedSimpArgs false
section
variable {W0 w w' : World} {p B : Nat} {T T' : Nat → Tag} {d d' : Gh} {c : Nat}
theorem Nums.up (h : Nums d c) (hc : c + 1 ≤ 1073741824) : Nums d (c + 1) :=
  ⟨hc, Nat.le_succ_of_le h.lB, Nat.le_succ_of_le h.lM, Nat.le_succ_of_le h.lI, Nat.le_succ_of_le h.lE, Nat.le_succ_of_le h.lL, Nat.le_succ_of_le h.lW, Nat.le_succ_of_le h.lT, Nat.le_succ_of_le h.lX, Nat.le_succ_of_le h.lS, h.es, h.xs, h.ra, h.rn, h.rx, h.sB, h.sM⟩
theorem Inv.up (h : Inv W0 w p T d c) (hc : c + 1 ≤ 1073741824) : Inv W0 w p T d (c + 1) := ⟨h.core, h.ll, h.nums.up hc, h.rcd⟩
theorem Inv.addA (h : Inv W0 w p T d c) (f : Fr 0 0 w w') (hA : RAI w' w.heap.size) : Inv W0 w' p (tagN T w (9, w.heap.size)) { d with Ak := w.heap.size :: d.Ak } c := by
  have h1 := h.ext f (tagN_old T w (9, w.heap.size))
  refine ⟨⟨h1.core.old, h1.core.low, h1.core.tp, h1.core.wo, fun B hB => ?_, h1.core.mod_⟩, ⟨h1.ll.l20, h1.ll.l21, h1.ll.l22, h1.ll.l23⟩, { h1.nums with sB := fun B hB => List.mem_cons_of_mem _ (h1.nums.sB B hB) }, h1.rcd⟩
  rcases List.mem_cons.1 hB with rfl | hB
  · exact ⟨hA, fun j hj => tagN_new T w _ (by omega)⟩
  · exact h1.core.arch B hB
theorem Inv.addM {a : Nat} (h : Inv W0 w p T d c) (f : Fr 0 0 w w') (hM : ∀ T : Nat → Tag, (∀ b, w.heap.size ≤ b → T b = (10, 0)) → MAt w' T a) : Inv W0 w' p (tagN T w (10, 0)) { d with Mk := a :: d.Mk } c := by
  have h1 := h.ext f (tagN_old T w (10, 0))
  refine ⟨⟨h1.core.old, h1.core.low, h1.core.tp, h1.core.wo, h1.core.arch, fun a' ha => ?_⟩, ⟨h1.ll.l20, h1.ll.l21, h1.ll.l22, h1.ll.l23⟩, { h1.nums with sM := fun B hB => List.mem_cons_of_mem _ (h1.nums.sM B hB) }, h1.rcd⟩
  rcases List.mem_cons.1 ha with rfl | ha
  · exact hM _ fun b hb => tagN_new T w _ hb
  · exact h1.core.mod_ a' ha
theorem Inv.x (h : Inv W0 w p T d c) : OT w T (2, 0) d.x (d.Bs.map fun B => ptrV (B + 61)) 1 := h.core.wo 2 (by omega) (by omega)
theorem Inv.m (h : Inv W0 w p T d c) : OT w T (3, 0) d.m (d.Ms.map ptrV) 1 := h.core.wo 3 (by omega) (by omega)
theorem Inv.inn (h : Inv W0 w p T d c) : OT w T (4, 0) d.inn (d.ins.flatMap entV) 2 := h.core.wo 4 (by omega) (by omega)
theorem Inv.ls (h : Inv W0 w p T d c) : OT w T (5, 0) d.ls (d.Ls.map slV) 1 := h.core.wo 5 (by omega) (by omega)
theorem Inv.lw (h : Inv W0 w p T d c) : OT w T (6, 0) d.lw (d.Lw.map slV) 1 := h.core.wo 6 (by omega) (by omega)
theorem Inv.t (h : Inv W0 w p T d c) : OT w T (7, 0) d.t (d.ts.map Value.string) 1 := h.core.wo 7 (by omega) (by omega)
theorem Inv.is (h : Inv W0 w p T d c) : OT w T (8, 0) d.is_ (d.Is.flatMap isV) 2 := h.core.wo 8 (by omega) (by omega)
theorem Inv.xl (h : Inv W0 w p T d c) : d.x.l = d.Bs.length := by have := h.x.1.len; simp at this; omega
theorem Inv.ml (h : Inv W0 w p T d c) : d.m.l = d.Ms.length := by have := h.m.1.len; simp at this; omega
theorem Inv.il (h : Inv W0 w p T d c) : d.inn.l = d.ins.length := (OS.src h.inn.1 (fun _ => rfl) (by omega)).2
theorem Inv.lsl (h : Inv W0 w p T d c) : d.ls.l = d.Ls.length := by have := h.ls.1.len; simp at this; omega
theorem Inv.lwl (h : Inv W0 w p T d c) : d.lw.l = d.Lw.length := by have := h.lw.1.len; simp at this; omega
theorem Inv.tl (h : Inv W0 w p T d c) : d.t.l = d.ts.length := by have := h.t.1.len; simp at this; omega
theorem Inv.isl (h : Inv W0 w p T d c) : d.is_.l = d.Is.length := (OS.src h.is.1 (fun _ => rfl) (by omega)).2
/-- One list of the caller's more. -/
theorem Inv.addL {x : Nat} {q : Sl} {es : List Ent} {K : World → Prop} (h : Inv W0 w p T d (c + 1)) (n0 : Nums d c) (hF : Full d) (hx : Blk w x [slV q]) (hq : EL w T (20, d.Es.length) q (es.flatMap entV) es.length) (hes : es.length ≤ 1073741824)
    (hK : ∀ s' w2 T2, Inv W0 w2 p T2 { d with ls := s', Ls := d.Ls ++ [q], Es := d.Es ++ [es] } (c + 1) → (∀ b, b < w.heap.size → T2 b = T b) → FrP (fun b => T b = (5, 0) ∨ T b = (1, 0)) w w2 → K w2) :
    AppS 24 [.slice none 0 0] 24 1 w d.ls ⟨some ⟨x, 0, none⟩, 1, 1⟩ fun l w => St1 w ⟨p, 3, none⟩ (.slice l.a l.l l.c) K := by
  have n1 := h.nums
  have e1 := n0.lL; have e2 := n0.lE; have e3 := n0.le; have e4 := h.lsl
  refine Inv.app (j := 5) (i := 3) (c' := c + 1) (D := fun s' => { d with ls := s', Ls := d.Ls ++ [q], Es := d.Es ++ [es] }) h (by omega) (by omega) rfl hx rfl rfl rfl (by omega) (by omega)
    (fun s' => by simp [outer]) (fun s' k h2 h8 hk => by rcases kc h2 h8 with rfl | rfl | rfl | rfl | rfl | rfl | rfl <;> first | rfl | exact absurd rfl hk) (fun s' => rfl) (fun s' => rfl) (fun s' => rfl)
    (fun s' w1 T1 hl f hT => ⟨(hl.l20.more es).app hF.l (hq.fr f hT (by simp)), hl.l21.more es, hl.l22, hl.l23⟩)
    (fun s' => { n1 with lE := by simp; omega, lL := by simp; omega, es := fun e he => ?_ }) hK
  rcases List.mem_append.1 he with he | he
  · exact n1.es e he
  · rw [List.mem_singleton.1 he]; exact hes
/-- And what it must read as. -/
theorem Inv.addW {x : Nat} {q : Sl} {es : List Ent} {Es0 : List (List Ent)} {K : World → Prop} (h : Inv W0 w p T d (c + 1)) (hl0 : d.Lw.length = Es0.length) (hEs : d.Es = Es0 ++ [es]) (hc : Es0.length ≤ c) (hx : Blk w x [slV q]) (hq : EL w T (21, Es0.length) q (es.flatMap entV) es.length)
    (hK : ∀ s' w2 T2, Inv W0 w2 p T2 { d with lw := s', Lw := d.Lw ++ [q] } (c + 1) → K w2) :
    AppS 24 [.slice none 0 0] 24 1 w d.lw ⟨some ⟨x, 0, none⟩, 1, 1⟩ fun l w => St1 w ⟨p, 4, none⟩ (.slice l.a l.l l.c) K := by
  have n1 := h.nums
  have e3 := n1.le; have e4 := h.lwl
  refine Inv.app (j := 6) (i := 4) (c' := c + 1) (D := fun s' => { d with lw := s', Lw := d.Lw ++ [q] }) h (by omega) (by omega) rfl hx rfl rfl rfl (by omega) (by omega)
    (fun s' => by simp [outer]) (fun s' k h2 h8 hk => by rcases kc h2 h8 with rfl | rfl | rfl | rfl | rfl | rfl | rfl <;> first | rfl | exact absurd rfl hk) (fun s' => rfl) (fun s' => rfl) (fun s' => rfl)
    (fun s' w1 T1 hl f hT => ⟨hl.l20, ?_, hl.l22, hl.l23⟩)
    (fun s' => { n1 with lW := by simp; omega }) fun s' w2 T2 h2 _ _ => hK s' w2 T2 h2
  have := hl.l21
  rw [hEs] at this
  show L1 entV w1 T1 21 (d.Lw ++ [q]) d.Es
  rw [hEs]
  exact this.app hl0 (hq.fr f hT (by simp))
theorem afterN {w1 : World} {g i n : Nat} {us : List Value} {K : Prop} (h : Blk w g us) (h1 : Blk w1 g us) (hk : K) : After (fun w' => ∀ j, j < n → w'.cell? ((⟨g, i, none⟩ : Addr).add j) = w.cell? ((⟨g, i, none⟩ : Addr).add j)) w1 K :=
  ⟨fun j hj => by rw [add_mk, h1.cell, h.cell], hk⟩
/-- The caller writes into a list of his. -/
theorem kput_spec {q : Nat} {us : List Value} {a b : Int} {S_ T_ : ByteArray} {K : Bool → World → Prop} (h1 : Inv W0 w p T d c) (hF : Full d) (b1 : Blk w q us) (u1 : us[1]? = some (.int .i64 a)) (u2 : us[2]? = some (.int .i64 b)) (u4 : us[4]? = some (.string S_)) (u5 : us[5]? = some (.string T_))
    (hq : T q = (50, 0)) (ra : rng a) (rb : rng b) (hK : ∀ w' T' d', Inv W0 w' p T' d' c → Full d' → K true w') :
    LdS w ⟨p, 3, none⟩ fun ls_38 =>
      if (decide ((ls_38.l : Int) > 0)) = true then
        Drew w fun w =>
        LdI .i64 w ⟨q, 1, none⟩ fun A_39 =>
        LdS w ⟨p, 3, none⟩ fun ls_40 =>
        S.towerexact_pick A_39 (ls_40.l : Int) w (fun r41 w =>
        LdS w ⟨p, 3, none⟩ fun ls_42 =>
        Ix ls_42.a ls_42.l r41 fun b43 o44 =>
        LdS w ⟨b43, o44 + Int.toNat r41 * 1, none⟩ fun x_45 =>
        if (decide ((x_45.l : Int) > 0)) = true then
          LdI .i64 w ⟨q, 2, none⟩ fun B_46 =>
          S.towerexact_pick B_46 (x_45.l : Int) w (fun r47 w =>
          LdStr w ⟨q, 4, none⟩ fun S_48 =>
          LdStr w ⟨q, 5, none⟩ fun T_49 =>
          Ix x_45.a x_45.l r47 fun b50 o51 =>
          St1 w ⟨b50, o51 + Int.toNat r47 * 2, none⟩ (.string S_48) fun w =>
          St1 w ⟨b50, o51 + Int.toNat r47 * 2 + 1, none⟩ (.string T_49) fun w =>
          Drew w fun w =>
          LdS w ⟨p, 4, none⟩ fun lw_52 =>
          Ix lw_52.a lw_52.l r41 fun b53 o54 =>
          LdS w ⟨b53, o54 + Int.toNat r41 * 1, none⟩ fun x_55 =>
          LdStr w ⟨q, 4, none⟩ fun S_56 =>
          LdStr w ⟨q, 5, none⟩ fun T_57 =>
          Ix x_55.a x_55.l r47 fun b58 o59 =>
          St1 w ⟨b58, o59 + Int.toNat r47 * 2, none⟩ (.string S_56) fun w =>
          St1 w ⟨b58, o59 + Int.toNat r47 * 2 + 1, none⟩ (.string T_57) fun w =>
          K true w)
        else
          K true w)
      else
        K true w := by
  refine ldS h1.rcd rfl ?_
  have ell := h1.lsl
  have ewl := h1.lwl
  have f1 := hF.l
  have f2 := hF.w
  by_cases hl : 0 < d.ls.l
  · rw [if_pos (by simp only [decide_eq_true_eq]; omega)]
    refine drew_ ?_
    have h2 := h1.heq (w' := w.drew) rfl
    refine ldI b1.drew u1 (ldS h2.rcd rfl ?_)
    refine pick_spec ra.1 ra.2 hl fun r (hr : r < d.ls.l) => ?_
    refine ldS h2.rcd rfl ?_
    have hLr : d.Ls[r]? = some (d.Ls[r]'(by omega)) := List.getElem?_eq_getElem (by omega)
    refine OS.lS h2.ls.1 hLr ?_
    obtain ⟨es, hE, hEL⟩ := h2.ll.l20 r _ hLr
    generalize (d.Ls[r]'(by omega)) = x at *
    have hsl : x.l = es.length := (EL.src (sz := 2) hEL (fun _ => rfl)).2
    by_cases hx : 0 < x.l
    · rw [if_pos (by simp only [decide_eq_true_eq]; omega)]
      refine ldI b1.drew u2 ?_
      refine pick_spec rb.1 rb.2 hx fun i hi => ?_
      refine ldStr b1.drew u4 (ldStr b1.drew u5 ?_)
      refine putE (e := (S_, T_)) hEL (by omega) fun w3 el3 f3 s3 => ?_
      refine drew_ ?_
      have hT : ∀ b, b < w.drew.heap.size → T b = T b := fun _ _ => rfl
      have core3 := h2.core.fr (d' := d) h2.rcd.lt f3.drew hT (by simp) (by simp) (fun B _ e => by simp at e) (h2.core.wo.fr f3.drew hT (by simp)) rfl rfl
      have rcd3 := h2.rcd.frp f3.drew (by rw [h2.core.tp]; simp)
      have b3 := b1.drew.frp f3.drew (by rw [hq]; simp)
      have l21 := h2.ll.l21.fr f3.drew hT (by simp)
      refine ldS rcd3 rfl ?_
      have hWr : d.Lw[r]? = some (d.Lw[r]'(by omega)) := List.getElem?_eq_getElem (by omega)
      have olw : OT w3.drew T (6, 0) d.lw (d.Lw.map slV) 1 := core3.wo 6 (by omega) (by omega)
      refine OS.lS olw.1 hWr ?_
      obtain ⟨es', hE', hEL'⟩ := l21 r _ hWr
      have : es' = es := by rw [hE] at hE'; exact (Option.some.inj hE').symm
      subst this
      refine ldStr b3 u4 (ldStr b3 u5 ?_)
      refine putE (e := (S_, T_)) hEL' (by omega) fun w4 el4 f4 s4 => ?_
      have hT4 : ∀ b, b < w3.drew.heap.size → T b = T b := fun _ _ => rfl
      refine hK w4 T { d with Es := d.Es.set r (es'.set i (S_, T_)) } ⟨core3.fr rcd3.lt f4 hT4 (by simp) (by simp) (fun B _ e => by simp at e) (core3.wo.fr f4 hT4 (by simp)) rfl rfl, ⟨?_, ?_, ?_, ?_⟩, { h1.nums with lE := by simp; exact h1.nums.lE, es := fun e he => ?_ }, rcd3.frp f4 (by rw [h2.core.tp]; simp)⟩ ⟨hF.m, by simp [hF.l], by simp [hF.w], hF.s⟩
      · exact (h2.ll.l20.put hLr hE f3.drew el3).fr f4 hT4 (by simp)
      · exact l21.put hWr hE f4 el4
      · exact (h2.ll.l22.fr f3.drew hT (by simp)).fr f4 hT4 (by simp)
      · exact (h2.ll.l23.fr f3.drew hT (by simp)).fr f4 hT4 (by simp)
      · rcases List.mem_or_eq_of_mem_set he with he | he
        · exact h1.nums.es e he
        · rw [he, List.length_set]; exact h1.nums.es es' (List.mem_of_getElem? hE)
    · rw [if_neg (by simp only [decide_eq_true_eq]; omega)]
      exact hK _ T d h2 hF
  · rw [if_neg (by simp only [decide_eq_true_eq]; omega)]
    exact hK _ T d h1 hF
/-- The caller writes into a list of rows that was handed out. -/
theorem kmark_spec {q : Nat} {us : List Value} {a b : Int} {S_ : ByteArray} {K : Bool → World → Prop} (h1 : Inv W0 w p T d c) (hF : Full d) (b1 : Blk w q us) (u1 : us[1]? = some (.int .i64 a)) (u2 : us[2]? = some (.int .i64 b)) (u4 : us[4]? = some (.string S_))
    (hq : T q = (50, 0)) (ra : rng a) (rb : rng b) (hK : ∀ w' T' d', Inv W0 w' p T' d' c → Full d' → K true w') :
    LdS w ⟨p, 11, none⟩ fun is_60 =>
      if (decide ((is_60.l : Int) > 0)) = true then
        Join (fun (l_61 : Nat) (w : World) =>
          LdS w ⟨l_61, 0, none⟩ fun real_62 =>
          if (decide ((real_62.l : Int) > 0)) = true then
            LdI .i64 w ⟨q, 2, none⟩ fun B_63 =>
            LdS w ⟨l_61, 0, none⟩ fun real_64 =>
            S.towerexact_pick B_63 (real_64.l : Int) w (fun r65 w =>
            Drew w fun w =>
            LdS w ⟨l_61, 0, none⟩ fun real_66 =>
            LdStr w ⟨q, 4, none⟩ fun S_67 =>
            LdI .i64 w ⟨p, 8, none⟩ fun ra_68 =>
            LdI .i64 w ⟨p, 9, none⟩ fun rb_69 =>
            Ix real_66.a real_66.l r65 fun b70 o71 =>
            St1 w ⟨b70, o71 + Int.toNat r65 * 3, none⟩ (.string S_67) fun w =>
            St1 w ⟨b70, o71 + Int.toNat r65 * 3 + 1, none⟩ (.int .i64 ra_68) fun w =>
            St1 w ⟨b70, o71 + Int.toNat r65 * 3 + 2, none⟩ (.int .i64 rb_69) fun w =>
            Drew w fun w =>
            LdS w ⟨l_61, 1, none⟩ fun want_72 =>
            LdStr w ⟨q, 4, none⟩ fun S_73 =>
            LdI .i64 w ⟨p, 8, none⟩ fun ra_74 =>
            LdI .i64 w ⟨p, 9, none⟩ fun rb_75 =>
            Ix want_72.a want_72.l r65 fun b76 o77 =>
            St1 w ⟨b76, o77 + Int.toNat r65 * 3, none⟩ (.string S_73) fun w =>
            St1 w ⟨b76, o77 + Int.toNat r65 * 3 + 1, none⟩ (.int .i64 ra_74) fun w =>
            St1 w ⟨b76, o77 + Int.toNat r65 * 3 + 2, none⟩ (.int .i64 rb_75) fun w =>
            K true w)
          else
            K true w) fun J78 =>
        Drew w fun w =>
        Hold w ⟨p, 11, none⟩ 1 fun R79 =>
        LdS w ⟨p, 11, none⟩ fun is_80 =>
        Hold w ⟨q, 1, none⟩ 1 fun R81 =>
        LdI .i64 w ⟨q, 1, none⟩ fun A_82 =>
        Hold w ⟨p, 11, none⟩ 1 fun R83 =>
        LdS w ⟨p, 11, none⟩ fun is_84 =>
        (S.towerexact_pick A_82 (is_84.l : Int) w (fun r85 w =>
        After R79 w <|
        Ix is_80.a is_80.l r85 fun b86 o87 =>
        Hold w ⟨b86, o87 + Int.toNat r85 * 2, none⟩ 2 fun R88 =>
        LdS w ⟨b86, o87 + Int.toNat r85 * 2, none⟩ fun real_89 =>
        LdS w ⟨b86, o87 + Int.toNat r85 * 2 + 1, none⟩ fun want_90 =>
        New w (.cells #[.slice none 0 0, .slice none 0 0] 126) fun p91 w =>
        After R88 w <|
        After R83 w <|
        After R81 w <|
        After R79 w <|
        St1 w ⟨p91, 0, none⟩ (.slice real_89.a real_89.l real_89.c) fun w =>
        St1 w ⟨p91, 1, none⟩ (.slice want_90.a want_90.l want_90.c) fun w =>
        J78 p91 w)) ∧
        (New w (.cells #[.slice none 0 0, .slice none 0 0] 126) fun p92 w =>
        After R83 w <|
        After R81 w <|
        After R79 w <|
        S.towerexact_pick A_82 (is_84.l : Int) w (fun r93 w =>
        After R79 w <|
        Ix is_80.a is_80.l r93 fun b94 o95 =>
        LdS w ⟨b94, o95 + Int.toNat r93 * 2, none⟩ fun real_96 =>
        LdS w ⟨b94, o95 + Int.toNat r93 * 2 + 1, none⟩ fun want_97 =>
        St1 w ⟨p92, 0, none⟩ (.slice real_96.a real_96.l real_96.c) fun w =>
        St1 w ⟨p92, 1, none⟩ (.slice want_97.a want_97.l want_97.c) fun w =>
        J78 p92 w))
      else
        K true w := by
  refine ldS h1.rcd rfl ?_
  have ell := h1.isl
  have f1 := hF.s
  by_cases hl : 0 < d.is_.l
  · rw [if_pos (by simp only [decide_eq_true_eq]; omega)]
    refine join_P (fun l v => ∃ (r : Nat) (z : Sl × Sl) (T2 : Nat → Tag), d.Is[r]? = some z ∧ Inv W0 v p T2 d c ∧ Blk v l [slV z.1, slV z.2] ∧ T2 l = (51, 0) ∧ Blk v q us ∧ T2 q = (50, 0)) ?_ ?_
    · rintro l v ⟨r, z, T2, hz, h2, bl, tl, bq, tq⟩
      obtain ⟨xs, hX, hEL⟩ := h2.ll.l22 r z.1 (by rw [List.getElem?_map, hz]; rfl)
      refine ldS (a := z.1.a) (l := z.1.l) (c := z.1.c) bl rfl ?_
      have hsl : z.1.l = xs.length := (EL.src (sz := 3) hEL (fun _ => rfl)).2
      by_cases hx : 0 < z.1.l
      · rw [if_pos (by simp only [decide_eq_true_eq]; omega)]
        refine ldI bq u2 (ldS (a := z.1.a) (l := z.1.l) (c := z.1.c) bl rfl ?_)
        refine pick_spec rb.1 rb.2 hx fun i (hi : i < z.1.l) => ?_
        refine drew_ ?_
        refine ldS (a := z.1.a) (l := z.1.l) (c := z.1.c) bl.drew rfl (ldStr bq.drew u4 (ldI h2.rcd.drew rfl (ldI h2.rcd.drew rfl ?_)))
        have h3 := h2.heq (w' := v.drew) rfl
        have hEL3 : EL v.drew T2 (22, r) z.1 (xs.flatMap infZ) xs.length := hEL
        refine putI (e := (S_, d.ra, d.rb)) hEL3 (by omega) fun w3 el3 f3 s3 => ?_
        refine drew_ ?_
        have hT : ∀ b, b < v.drew.heap.size → T2 b = T2 b := fun _ _ => rfl
        have core3 := h3.core.fr (d' := d) h3.rcd.lt f3.drew hT (by simp) (by simp) (fun B _ e => by simp at e) (h3.core.wo.fr f3.drew hT (by simp)) rfl rfl
        have rcd3 := h3.rcd.frp f3.drew (by rw [h3.core.tp]; simp)
        have bq3 := bq.drew.frp f3.drew (by rw [tq]; simp)
        have bl3 := bl.drew.frp f3.drew (by rw [tl]; simp)
        have l23 := h3.ll.l23.fr f3.drew hT (by simp)
        refine ldS (a := z.2.a) (l := z.2.l) (c := z.2.c) bl3 rfl (ldStr bq3 u4 (ldI rcd3 rfl (ldI rcd3 rfl ?_)))
        have hz2 : (d.Is.map (·.2))[r]? = some z.2 := by rw [List.getElem?_map, hz]; rfl
        have hz1 : (d.Is.map (·.1))[r]? = some z.1 := by rw [List.getElem?_map, hz]; rfl
        obtain ⟨xs', hX', hEL'⟩ := l23 r z.2 hz2
        have : xs' = xs := by rw [hX] at hX'; exact (Option.some.inj hX').symm
        subst this
        refine putI (e := (S_, d.ra, d.rb)) hEL' (by omega) fun w4 el4 f4 s4 => ?_
        have hT4 : ∀ b, b < w3.drew.heap.size → T2 b = T2 b := fun _ _ => rfl
        refine hK w4 T2 { d with Xs := d.Xs.set r (xs'.set i (S_, d.ra, d.rb)) } ⟨core3.fr rcd3.lt f4 hT4 (by simp) (by simp) (fun B _ e => by simp at e) (core3.wo.fr f4 hT4 (by simp)) rfl rfl, ⟨?_, ?_, ?_, ?_⟩, { h3.nums with lX := by simp; exact h3.nums.lX, xs := fun e he => ?_ }, rcd3.frp f4 (by rw [h3.core.tp]; simp)⟩ ⟨hF.m, hF.l, hF.w, by simp [hF.s]⟩
        · exact (h3.ll.l20.fr f3.drew hT (by simp)).fr f4 hT4 (by simp)
        · exact (h3.ll.l21.fr f3.drew hT (by simp)).fr f4 hT4 (by simp)
        · exact (h3.ll.l22.put hz1 hX f3.drew el3).fr f4 hT4 (by simp)
        · exact l23.put hz2 hX f4 el4
        · rcases List.mem_or_eq_of_mem_set he with he | he
          · exact h3.nums.xs e he
          · rw [he, List.length_set]; exact h3.nums.xs xs' (List.mem_of_getElem? hX)
      · rw [if_neg (by simp only [decide_eq_true_eq]; omega)]
        exact hK _ T2 d h2 hF
    · intro J hJ
      refine drew_ ?_
      have h2 := h1.heq (w' := w.drew) rfl
      unfold Hold
      refine ldS h2.rcd rfl (ldI b1.drew u1 (ldS h2.rcd rfl ?_))
      constructor
      · refine pick_spec ra.1 ra.2 hl fun r (hr : r < d.is_.l) => ?_
        refine afterN h2.rcd h2.rcd ?_
        have hz : d.Is[r]? = some (d.Is[r]'(by omega)) := List.getElem?_eq_getElem (by omega)
        generalize (d.Is[r]'(by omega)) = z at *
        refine OS.pair h2.is.1 hz fun g gs hb c1 c2 ho => ?_
        refine ldS (a := z.1.a) (l := z.1.l) (c := z.1.c) hb c1 (ldS (a := z.2.a) (l := z.2.l) (c := z.2.c) hb c2 ?_)
        refine newB fun w3 b3 f3 s3 => ?_
        have h3 := h2.ext f3 (tagN_old T w.drew (51, 0))
        have t3 := tagN_new T w.drew (51, 0) (Nat.le_refl _)
        have tq3 : tagN T w.drew (51, 0) q = (50, 0) := by rw [tagN_old T w.drew (51, 0) q b1.lt]; exact hq
        have bq3 := b1.drew.fr f3 (by omega)
        generalize tagN T w.drew (51, 0) = T3 at *
        generalize w.drew.heap.size = l at *
        refine afterN hb (hb.fr f3 (by omega)) (afterN h2.rcd h3.rcd (afterN b1.drew bq3 (afterN h2.rcd h3.rcd ?_)))
        refine st1 b3 (by simp) fun w4 b4 f4 s4 => ?_
        refine st1 b4 (by simp) fun w5 b5 f5 s5 => ?_
        have f45 : FrP (fun b => T3 b = (51, 0)) w3 w5 := FrP.of (f4.trans f5) fun x h1 h2 => by rw [show x = l by omega]; exact t3
        have hT : ∀ b, b < w3.heap.size → T3 b = T3 b := fun _ _ => rfl
        refine hJ l w5 ⟨r, z, T3, hz, ⟨h3.core.fr h3.rcd.lt f45 hT (by simp) (by simp) (fun B _ e => by simp at e) (h3.core.wo.fr f45 hT (by simp)) rfl rfl, h3.ll.fr f45 hT (by simp), h3.nums, h3.rcd.frp f45 (by rw [h3.core.tp]; simp)⟩, b5, t3, bq3.frp f45 (by rw [tq3]; simp), tq3⟩
      · refine newB fun w3 b3 f3 s3 => ?_
        have h3 := h2.ext f3 (tagN_old T w.drew (51, 0))
        have t3 := tagN_new T w.drew (51, 0) (Nat.le_refl _)
        have tq3 : tagN T w.drew (51, 0) q = (50, 0) := by rw [tagN_old T w.drew (51, 0) q b1.lt]; exact hq
        have bq3 := b1.drew.fr f3 (by omega)
        generalize tagN T w.drew (51, 0) = T3 at *
        generalize w.drew.heap.size = l at *
        refine afterN h2.rcd h3.rcd (afterN b1.drew bq3 (afterN h2.rcd h3.rcd ?_))
        refine pick_spec ra.1 ra.2 hl fun r (hr : r < d.is_.l) => ?_
        refine afterN h2.rcd h3.rcd ?_
        have hz : d.Is[r]? = some (d.Is[r]'(by omega)) := List.getElem?_eq_getElem (by omega)
        generalize (d.Is[r]'(by omega)) = z at *
        refine OS.pair h3.is.1 hz fun g gs hb c1 c2 ho => ?_
        refine ldS (a := z.1.a) (l := z.1.l) (c := z.1.c) hb c1 (ldS (a := z.2.a) (l := z.2.l) (c := z.2.c) hb c2 ?_)
        refine st1 b3 (by simp) fun w4 b4 f4 s4 => ?_
        refine st1 b4 (by simp) fun w5 b5 f5 s5 => ?_
        have f45 : FrP (fun b => T3 b = (51, 0)) w3 w5 := FrP.of (f4.trans f5) fun x h1 h2 => by rw [show x = l by omega]; exact t3
        have hT : ∀ b, b < w3.heap.size → T3 b = T3 b := fun _ _ => rfl
        refine hJ l w5 ⟨r, z, T3, hz, ⟨h3.core.fr h3.rcd.lt f45 hT (by simp) (by simp) (fun B _ e => by simp at e) (h3.core.wo.fr f45 hT (by simp)) rfl rfl, h3.ll.fr f45 hT (by simp), h3.nums, h3.rcd.frp f45 (by rw [h3.core.tp]; simp)⟩, b5, t3, bq3.frp f45 (by rw [tq3]; simp), tq3⟩
  · rw [if_neg (by simp only [decide_eq_true_eq]; omega)]
    exact hK _ T d h1 hF
set_option maxHeartbeats 1000000 in
theorem lists_spec {k a b cc : Int} {S_ T_ : ByteArray} {K : Bool → World → Prop} (h : Inv W0 w p T d c) (hF : Full d) (hc : c + 1 ≤ 1073741824) (ra : rng a) (rb : rng b) (rc : rng cc)
    (hK : ∀ w' T' d', Inv W0 w' p T' d' (c + 1) → Full d' → K true w') (hN : ∀ w', Fr 0 0 w w' → K false w') : S.towerexact_World_lists p k a b cc S_ T_ w K := by
  unfold S.towerexact_World_lists
  have n0 := h.nums
  refine newB fun w1 b1 f1 s1 => ?_
  have hq := tagN_new T w (50, 0) (Nat.le_refl _)
  have h1 := (h.ext f1 (tagN_old T w (50, 0))).up hc
  have n1 := h1.nums
  generalize tagN T w (50, 0) = T1 at *
  generalize w.heap.size = q at *
  refine ldI b1 rfl ?_
  have e1 := n0.lB; have e2 := n0.lM; have e3 := n0.lI; have e4 := n0.lE
  by_cases k1 : k = 1
  · rw [if_pos (by simpa using k1)]
    refine tower_New_spec fun w2 hA f2 s2 => ?_
    refine archm_New' fun w3 a hM f3 => ?_
    have h2 := h1.addA f2 hA
    have h3 := h2.addM f3 hM
    generalize tagN (tagN T1 w1 (9, w1.heap.size)) w2 (10, 0) = T3 at *
    refine ldS h3.rcd rfl ?_
    refine newB fun w4 b4 f4 s4 => ?_
    have h4 := h3.ext f4 (T' := T3) (fun _ _ => rfl)
    have e5 := h4.xl
    have n4 := h4.nums
    refine Inv.app (j := 2) (i := 0) (c' := c + 1) (D := fun s' => { d with Ak := w1.heap.size :: d.Ak, Mk := a :: d.Mk, x := s', Bs := d.Bs ++ [w1.heap.size] }) h4 (by omega) (by omega) rfl b4 rfl rfl rfl (by have : d.x.l = d.Bs.length := e5; show (d.x.l + 1) * 8 ≤ _; omega) (by omega)
      (fun s' => by simp [outer, ptrV]) (fun s' k h2 h8 hk => by rcases kc h2 h8 with rfl | rfl | rfl | rfl | rfl | rfl | rfl <;> first | rfl | exact absurd rfl hk) (fun s' => rfl) (fun s' => rfl) (fun s' => rfl)
      (fun s' w1 T1 hl f hT => ⟨hl.l20, hl.l21, hl.l22, hl.l23⟩)
      (fun s' => { n4 with lB := by simp; omega, sB := fun B hB => ?_ }) fun s' w5 T5 h5 hT5 f5 => ?_
    · rcases List.mem_append.1 hB with hB | hB
      · exact n4.sB B hB
      · rw [List.mem_singleton.1 hB]; exact List.mem_cons_self
    refine ldS h5.rcd rfl ?_
    refine newB fun w6 b6 f6 s6 => ?_
    have h6 := h5.ext f6 (T' := T5) (fun _ _ => rfl)
    have e6 := h6.ml
    have n6 := h6.nums
    refine Inv.app (j := 3) (i := 1) (c' := c + 1) (D := fun s'' => { d with Ak := w1.heap.size :: d.Ak, Mk := a :: d.Mk, x := s', Bs := d.Bs ++ [w1.heap.size], m := s'', Ms := d.Ms ++ [a] }) h6 (by omega) (by omega) rfl b6 rfl rfl rfl (by have : d.m.l = d.Ms.length := e6; show (d.m.l + 1) * 8 ≤ _; omega) (by omega)
      (fun s' => by simp [outer, ptrV]) (fun s' k h2 h8 hk => by rcases kc h2 h8 with rfl | rfl | rfl | rfl | rfl | rfl | rfl <;> first | rfl | exact absurd rfl hk) (fun s' => rfl) (fun s' => rfl) (fun s' => rfl)
      (fun s' w1 T1 hl f hT => ⟨hl.l20, hl.l21, hl.l22, hl.l23⟩)
      (fun s' => { n6 with lM := by simp; omega, sM := fun B hB => ?_ }) fun s'' w7 T7 h7 hT7 f7 => ?_
    · rcases List.mem_append.1 hB with hB | hB
      · exact n6.sM B hB
      · rw [List.mem_singleton.1 hB]; exact List.mem_cons_self
    exact hK w7 T7 _ h7 ⟨by simp [hF.m], hF.l, hF.w, hF.s⟩
  rw [if_neg (by simpa using k1)]
  by_cases k2 : k = 2
  · rw [if_pos (by simpa using k2)]
    refine drew_ ?_
    have h2 := h1.heq (w' := w1.drew) rfl
    unfold Hold
    refine ldS h2.rcd rfl (ldStr b1.drew rfl (ldStr b1.drew rfl ?_))
    refine newB fun w3 b3 f3 s3 => ?_
    have h3 := h2.ext f3 (T' := T1) (fun _ _ => rfl)
    refine after1 h2.rcd h3.rcd rfl ?_
    have e5 := h3.il
    refine Inv.app (j := 4) (i := 2) (c' := c + 1) (D := fun s' => { d with inn := s', ins := d.ins ++ [(S_, T_)] }) h3 (by omega) (by omega) rfl b3 rfl rfl rfl (by show (d.inn.l + 1) * 32 ≤ _; omega) (by omega)
      (fun s' => by simp [outer, entV]) (fun s' k h2 h8 hk => by rcases kc h2 h8 with rfl | rfl | rfl | rfl | rfl | rfl | rfl <;> first | rfl | exact absurd rfl hk) (fun s' => rfl) (fun s' => rfl) (fun s' => rfl)
      (fun s' w1 T1 hl f hT => ⟨hl.l20, hl.l21, hl.l22, hl.l23⟩)
      (fun s' => { n1 with lI := by simp; omega }) fun s' w5 T5 h5 hT5 f5 => ?_
    exact hK w5 T5 _ h5 ⟨hF.m, hF.l, hF.w, hF.s⟩
  rw [if_neg (by simpa using k2)]
  by_cases k3 : k = 3
  · rw [if_pos (by simpa using k3)]
    refine Inv.st (c' := c + 1) (d' := { d with inn := ⟨none, 0, 0⟩, ins := [] }) h1 (by omega) rfl (fun w' ho k h2 h8 => ?_) rfl rfl (fun w' hl => ⟨hl.l20, hl.l21, hl.l22, hl.l23⟩) { n1 with lI := by simp } fun w5 h5 _ _ => hK w5 T1 _ h5 ⟨hF.m, hF.l, hF.w, hF.s⟩
    rcases kc h2 h8 with rfl | rfl | rfl | rfl | rfl | rfl | rfl
    all_goals first | exact ho _ h2 h8 | exact ⟨OS.nil w' 2, fun b hb => by simp [outer, owns] at hb⟩
  rw [if_neg (by simpa using k3)]
  by_cases k4 : k = 4
  · rw [if_pos (by simpa using k4)]
    refine ldS h1.rcd rfl ?_
    refine copyE_spec (OS.src h1.inn.1 (fun _ => rfl) (by omega)) (by omega) fun w2 b2 f2 s2 => ?_
    have h2 := h1.ext f2 (tagN_old T1 w1 (20, d.Es.length))
    have t2 := tagN_new T1 w1 (20, d.Es.length) (Nat.le_refl _)
    generalize tagN T1 w1 (20, d.Es.length) = T2 at *
    generalize w1.heap.size = q2 at *
    refine ldS h2.rcd rfl ?_
    refine newB fun w3 b3 f3 s3 => ?_
    have h3 := h2.ext f3 (T' := T2) (fun _ _ => rfl)
    have b2' := b2.fr f3 (by omega)
    refine Inv.addL (q := ⟨some ⟨q2, 0, none⟩, d.ins.length, d.ins.length⟩) h3 n0 hF b3 (.inr ⟨q2, rfl, b2', t2⟩) (by omega) fun s' w4 T4 h4 hT4 f4 => ?_
    have b4 := b2'.frp f4 (by rw [t2]; simp)
    refine drew_ ?_
    have h5 := h4.heq (w' := w4.drew) rfl
    unfold Hold
    refine ldS h5.rcd rfl ?_
    refine copyE_spec (es := d.ins) ⟨.inr ⟨q2, _, rfl, b4.drew, List.take_of_length_le (by rw [flat_length (f := entV) (c := 2) (fun _ => rfl)]; omega)⟩, rfl⟩ (by omega) fun w6 b6 f6 s6 => ?_
    have h6 := h5.ext f6 (tagN_old T4 w4.drew (21, d.Es.length))
    have t6 := tagN_new T4 w4.drew (21, d.Es.length) (Nat.le_refl _)
    generalize tagN T4 w4.drew (21, d.Es.length) = T6 at *
    generalize w4.drew.heap.size = q6 at *
    refine after1 h5.rcd h6.rcd rfl ?_
    refine newB fun w7 b7 f7 s7 => ?_
    have h7 := h6.ext f7 (T' := T6) (fun _ _ => rfl)
    refine after1 h5.rcd h7.rcd rfl ?_
    refine Inv.addW (d := { d with ls := s', Ls := d.Ls ++ [⟨some ⟨q2, 0, none⟩, d.ins.length, d.ins.length⟩], Es := d.Es ++ [d.ins] }) (q := ⟨some ⟨q6, 0, none⟩, d.ins.length, d.ins.length⟩) (es := d.ins) (Es0 := d.Es) h7 hF.w rfl e4 b7 (.inr ⟨q6, rfl, b6.fr f7 (by omega), t6⟩) fun s'' w8 T8 h8 => ?_
    exact hK w8 T8 _ h8 ⟨hF.m, by simp [hF.l], by simp [hF.w], hF.s⟩
  rw [if_neg (by simpa using k4)]
  by_cases k16 : k = 16
  · rw [if_pos (by simpa using k16)]
    refine ldI b1 rfl ?_
    refine Inv.st (c' := c + 1) (d' := { d with ra := a }) h1 (by omega) rfl (fun w' ho => ho) rfl rfl (fun w' hl => ⟨hl.l20, hl.l21, hl.l22, hl.l23⟩) { n1 with } fun w2 h2 s2 f2 => ?_
    have b2 := b1.frp f2 (by rw [hq]; simp)
    refine ldI b2 rfl ?_
    refine Inv.st (c' := c + 1) (d' := { d with ra := a, rb := b }) h2 (by omega) rfl (fun w' ho => ho) rfl rfl (fun w' hl => ⟨hl.l20, hl.l21, hl.l22, hl.l23⟩) { n1 with } fun w3 h3 s3 f3 => ?_
    exact hK w3 T1 _ h3 ⟨hF.m, hF.l, hF.w, hF.s⟩
  rw [if_neg (by simpa using k16)]
  by_cases k15 : k = 15
  · rw [if_pos (by simpa using k15)]
    refine ldS h1.rcd rfl ?_
    refine newB fun w2 b2 f2 s2 => ?_
    have h2 := h1.ext f2 (T' := T1) (fun _ _ => rfl)
    refine Inv.addL (q := ⟨none, 0, 0⟩) (es := []) h2 n0 hF b2 (.inl ⟨rfl, rfl, rfl⟩) (by simp) fun s' w3 T3 h3 hT3 f3 => ?_
    refine ldS h3.rcd rfl ?_
    refine newB fun w4 b4 f4 s4 => ?_
    have h4 := h3.ext f4 (T' := T3) (fun _ _ => rfl)
    refine Inv.addW (d := { d with ls := s', Ls := d.Ls ++ [⟨none, 0, 0⟩], Es := d.Es ++ [[]] }) (q := ⟨none, 0, 0⟩) (es := []) (Es0 := d.Es) h4 hF.w rfl e4 b4 (.inl ⟨rfl, rfl, rfl⟩) fun s'' w8 T8 h8 => ?_
    exact hK w8 T8 _ h8 ⟨hF.m, by simp [hF.l], by simp [hF.w], hF.s⟩
  rw [if_neg (by simpa using k15)]
  by_cases k6 : k = 6
  · rw [if_pos (by simpa using k6)]
    refine ldI b1 rfl ?_
    refine Inv.st (c' := c + 1) (d' := { d with at_ := a }) h1 (by omega) rfl (fun w' ho => ho) rfl rfl (fun w' hl => ⟨hl.l20, hl.l21, hl.l22, hl.l23⟩) { n1 with ra := ra } fun w2 h2 s2 f2 => ?_
    have b2 := b1.frp f2 (by rw [hq]; simp)
    refine ldI b2 rfl ?_
    refine Inv.st (c' := c + 1) (d' := { d with at_ := a, n := b }) h2 (by omega) rfl (fun w' ho => ho) rfl rfl (fun w' hl => ⟨hl.l20, hl.l21, hl.l22, hl.l23⟩) { n1 with ra := ra, rn := rb } fun w3 h3 s3 f3 => ?_
    have b3 := b2.frp f3 (by rw [hq]; simp)
    refine ldI b3 rfl ?_
    refine Inv.st (c' := c + 1) (d' := { d with at_ := a, n := b, ex := cc }) h3 (by omega) rfl (fun w' ho => ho) rfl rfl (fun w' hl => ⟨hl.l20, hl.l21, hl.l22, hl.l23⟩) { n1 with ra := ra, rn := rb, rx := rc } fun w4 h4 s4 f4 => ?_
    exact hK w4 T1 _ h4 ⟨hF.m, hF.l, hF.w, hF.s⟩
  rw [if_neg (by simpa using k6)]
  by_cases k5 : k = 5
  · rw [if_pos (by simpa using k5)]
    exact kput_spec h1 hF b1 rfl rfl rfl rfl hq ra rb hK
  rw [if_neg (by simpa using k5)]
  by_cases k13 : k = 13
  · rw [if_pos (by simpa using k13)]
    exact kmark_spec h1 hF b1 rfl rfl rfl hq ra rb hK
  rw [if_neg (by simpa using k13)]
  exact hN w1 f1
end
end Go.Proofs.Qxb6500563aGreat
