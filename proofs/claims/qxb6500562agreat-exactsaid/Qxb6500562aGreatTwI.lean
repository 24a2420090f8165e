/-
  towerexact.Exact: Drop; a step; the looks.
-/
import Derived.Test.Qxb6500562aGreatTwH
namespace Go.Proofs.Qxb6500562aGreat
open Go.Den Go.Zip
set_option linter.unusedVariables false
set_option linter.unusedSimpArgs false
section
variable {W0 w w' : World} {p q : Nat} {T T' : Nat → Tag} {d d' : Gh} {c : Nat} {s : Sl} {vs us : List Value} {sz : Nat} {t : Tag} {X : Tag → Prop}
theorem set4 : ∀ (Cs : List Cd) (i : Nat) (cd : Cd) (junk : List Value), Cs[i]? = some cd → (Cs.flatMap cdV ++ junk).set (i * 4 + 3) (.bool true) = (Cs.set i { cd with gone := true }).flatMap cdV ++ junk
  | [], i, cd, junk, h => by simp at h
  | x :: Cs, 0, cd, junk, h => by
    simp only [List.getElem?_cons_zero, Option.some.injEq] at h
    subst h
    simp [cdV]
  | x :: Cs, i + 1, cd, junk, h => by
    simp only [List.getElem?_cons_succ] at h
    have ih := set4 Cs i cd junk h
    rw [show (i + 1) * 4 + 3 = (i * 4 + 3) + 1 + 1 + 1 + 1 by omega]
    simp only [List.flatMap_cons, cdV, List.cons_append, List.nil_append, List.set_cons_succ]
    rw [ih]
set_option maxHeartbeats 1000000 in
theorem drop_spec {a b e : Int} {K : Bool → World → Prop} (h : Inv W0 w p T d c) (hF : Full d) (hc : c + 1 ≤ 1073741824) (o : Op w T q us) (u1 : us[1]? = some (.int .i64 a)) (u2 : us[2]? = some (.int .i64 b)) (u3 : us[3]? = some (.int .i64 e)) (ra : rng a) (rb : rng b) (hK : Done W0 p (c + 1) K) : XX.drop p q w K := by
  unfold XX.drop
  have h1 := h.up hc
  have ecl := h1.cl
  have fc := hF.c
  refine ldS h1.rcd rfl ?_
  by_cases hl : d.cods.l = 0
  · rw [if_pos (by simp only [beq_iff_eq]; omega)]
    exact hK w T d h1 hF
  rw [if_neg (by simp only [beq_iff_eq]; omega)]
  refine drew_ ?_
  have h2 := h1.ext (Fr.refl 0 0 w).drew
  have o2 := o.ext (Fr.refl 0 0 w).drew
  generalize w.drew = v2 at *
  refine ldI o2.b u1 (ldS h2.rcd rfl ?_)
  refine pick_spec ra.1 ra.2 (by show 0 < d.cods.l; omega) fun r (hr : r < d.cods.l) => ?_
  have hCr : d.Cs[r]? = some (d.Cs[r]'(by omega)) := List.getElem?_eq_getElem (by omega)
  obtain ⟨es, hB, el⟩ := h2.ll.c1 r (d.Cs[r]'(by omega)).re (by rw [List.getElem?_map, hCr]; rfl)
  generalize (d.Cs[r]'(by omega)) = cd at *
  have hrl := el.len
  refine ldS h2.rcd rfl (OS.lC h2.cods.1 hCr fun bc uc hbc q0 q1 q2 q3 oc => ldS (a := cd.re.a) (l := cd.re.l) (c := cd.re.c) hbc q0 ?_)
  by_cases hx : 0 < cd.re.l
  · rw [if_pos (by simp only [decide_eq_true_eq]; omega)]
    refine drew_ ?_
    have h3 := h2.ext (Fr.refl 0 0 v2).drew
    have o3 := o2.ext (Fr.refl 0 0 v2).drew
    have el3 := el.mv (X := fun _ => False) (Mv.new0 (Fr.refl 0 0 v2).drew) fun h => h
    generalize v2.drew = v3 at *
    refine ldI o3.b u2 (ldS h3.rcd rfl (OS.lC h3.cods.1 hCr fun bc uc hbc q0 q1 q2 q3 oc => ldS (a := cd.re.a) (l := cd.re.l) (c := cd.re.c) hbc q0 ?_))
    refine pick_spec rb.1 rb.2 hx fun k (hk : k < cd.re.l) => ?_
    refine drew_ ?_
    have h4 := h3.ext (Fr.refl 0 0 v3).drew
    have o4 := o3.ext (Fr.refl 0 0 v3).drew
    have el4 := el3.mv (X := fun _ => False) (Mv.new0 (Fr.refl 0 0 v3).drew) fun h => h
    generalize v3.drew = v4 at *
    refine ldS h4.rcd rfl (OS.lC h4.cods.1 hCr fun bc uc hbc q0 q1 q2 q3 oc => ldS (a := cd.re.a) (l := cd.re.l) (c := cd.re.c) hbc q0 (ldI o4.b u3 ?_))
    rw [b8_cast e]
    refine putB (v := b8 e) el4 (by omega) fun v5 el5 M5 => drew_ ?_
    have M5 : Mv (fun u => u = (25, r)) T v4 T v5.drew := ⟨M5.f.drew, M5.t⟩
    have el5 : EL v5.drew T (25, r) cd.re (byts (es.set k (b8 e))) (es.set k (b8 e)).length := el5
    generalize v5.drew = v5 at *
    have wo5 := h4.wo.mv M5 fun k h1 h2 => by simp; omega
    have rcd5 := M5.blk h4.rcd (by rw [h4.tp]; simp)
    have o5 := o4.mv M5 (by simp)
    have ocd : OT v5 T (10, 0) d.cods (d.Cs.flatMap cdV) 4 := wo5 10 (by omega) (by omega)
    have c2 := h4.ll.c2.mv M5 (fun i => by simp)
    obtain ⟨es', hB', el'⟩ := c2 r cd.wa (by rw [List.getElem?_map, hCr]; rfl)
    have : es' = es := by rw [hB] at hB'; exact (Option.some.inj hB').symm
    subst this
    have hwl := el'.len
    refine ldS rcd5 rfl (OS.lC ocd.1 hCr fun bc uc hbc q0 q1 q2 q3 oc => ldS (a := cd.wa.a) (l := cd.wa.l) (c := cd.wa.c) hbc q1 (ldI o5.b u3 ?_))
    rw [b8_cast e]
    refine putB (v := b8 e) el' (by omega) fun v6 el6 M6 => ?_
    have wo6 := wo5.mv M6 fun k h1 h2 => by simp; omega
    have rcd6 := M6.blk rcd5 (by rw [h4.tp]; simp)
    have Mo : Mv (fun u => u = (25, r) ∨ u = (26, r)) T v4 T v6 := (M5.mono fun t h => .inl h).trans (M6.mono fun t h => .inr h)
    have ll6 : LL v6 T { d with Bs := d.Bs.set r (es'.set k (b8 e)) } := {
      xs := h4.ll.xs.mv kdR Mo (fun i => by simp)
      ms := h4.ll.ms.mv kdM Mo (fun i => by simp)
      vs := h4.ll.vs.mv kdV Mo (fun i => by simp)
      l1 := h4.ll.l1.mv Mo (fun i => by simp)
      l2 := h4.ll.l2.mv Mo (fun i => by simp)
      c1 := h4.ll.c1.put (s := cd.re) (by rw [List.getElem?_map, hCr]; rfl) hB Mo (fun i hi => by simp; exact hi) (el5.mv M6 (by simp))
      c2 := h4.ll.c2.put (s := cd.wa) (by rw [List.getElem?_map, hCr]; rfl) hB Mo (fun i hi => by simp; exact hi) el6 }
    have oc6 : OT v6 T (10, 0) d.cods (d.Cs.flatMap cdV) 4 := wo6 10 (by omega) (by omega)
    refine ldS rcd6 rfl ?_
    obtain ⟨oo, ot⟩ := oc6
    have hfl : (d.Cs.flatMap cdV).length = d.Cs.length * 4 := flat_length (c := 4) (fun _ => rfl) _
    rcases oo with ⟨e1, e2⟩ | ⟨g, a1, a2, a3, junk, a4, a5⟩
    · rw [e1] at hl; simp at hl
    refine ix a1 (by omega) (by show ((r : Nat) : Int) < (d.cods.l : Nat); omega) ?_
    rw [Int.toNat_natCast, Nat.zero_add]
    refine st1 a4 (by rw [List.length_append, hfl]; omega) fun v7 b7 f7 s7 => ?_
    rw [set4 d.Cs r cd junk hCr] at b7
    have M7 : Mv (fun u => u = (10, 0)) T v6 T v7 := Mv.same (FrP.of f7 fun x h1 h2 => by rw [show x = g by omega]; exact ot g a1)
    have hfl' : ((d.Cs.set r { cd with gone := true }).flatMap cdV).length = d.Cs.length * 4 := by rw [flat_length (c := 4) (fun _ => rfl), List.length_set]
    have oc7 : OT v7 T (10, 0) d.cods ((d.Cs.set r { cd with gone := true }).flatMap cdV) 4 := ⟨.inr ⟨g, a1, by rw [hfl', ← hfl]; exact a2, a3, junk, b7, by rw [List.length_append, hfl', ← hfl, ← List.length_append]; exact a5⟩, ot⟩
    have M47 : Mv (fun u => (u = (25, r) ∨ u = (26, r)) ∨ u = (10, 0)) T v4 T v7 := (Mo.mono fun t h => .inl h).trans (M7.mono fun t h => .inr h)
    have ll7 := ll6.mv M7 fun k i h1 h2 => by simp; omega
    have mre : (d.Cs.set r { cd with gone := true }).map (·.re) = d.Cs.map (·.re) := by
      rw [List.map_set]
      apply List.ext_getElem?
      intro j
      rw [List.getElem?_set]
      split
      · rename_i e'; subst e'; simp [hCr]
        omega
      · rfl
    have mwa : (d.Cs.set r { cd with gone := true }).map (·.wa) = d.Cs.map (·.wa) := by
      rw [List.map_set]
      apply List.ext_getElem?
      intro j
      rw [List.getElem?_set]
      split
      · rename_i e'; subst e'; simp [hCr]
        omega
      · rfl
    refine hK v7 T { d with Cs := d.Cs.set r { cd with gone := true }, Bs := d.Bs.set r (es'.set k (b8 e)) } (h4.mk_ (c' := c + 1) M47 (by simp) (by simp) ?_ { ll7 with c1 := by show L1 byts v7 T 25 ((d.Cs.set r { cd with gone := true }).map (·.re)) _; rw [mre]; exact ll7.c1, c2 := by show L1 byts v7 T 26 ((d.Cs.set r { cd with gone := true }).map (·.wa)) _; rw [mwa]; exact ll7.c2 } { h4.nums with lC := by simp; exact h4.nums.lC, lB := by simp; exact h4.nums.lB, bs := fun e' he => ?_, ok := fun j cd' hj hg => ?_ } rfl) { hF with c := by simp [hF.c] }
    · intro k' k1 k2
      by_cases e10 : k' = 10
      · subst e10; exact oc7
      · have := (wo6 k' k1 k2).mv M7 (by simp; omega)
        rcases kc k1 k2 with rfl | rfl | rfl | rfl | rfl | rfl | rfl | rfl | rfl <;> first | exact this | exact absurd rfl e10
    · rcases List.mem_or_eq_of_mem_set he with he | he
      · exact h1.nums.bs e' he
      · rw [he, List.length_set]; exact h1.nums.bs es' (List.mem_of_getElem? hB)
    · by_cases ej : r = j
      · subst ej
        rw [List.getElem?_set_self (by omega)] at hj
        cases hj
        cases hg
      · rw [List.getElem?_set_ne ej] at hj
        obtain ⟨P, z1, z2, z3⟩ := h1.nums.ok j cd' hj hg
        exact ⟨P, z1, z2, by rw [List.getElem?_set_ne ej]; exact z3⟩
  · rw [if_neg (by simp only [decide_eq_true_eq]; omega)]
    exact hK _ T d h2 hF
theorem ifk {k j : Int} {A B : Prop} (h1 : k = j → A) (h2 : k ≠ j → B) : if (k == j) = true then A else B := by
  by_cases h : k = j
  · rw [if_pos (by simp [h])]; exact h1 h
  · rw [if_neg (by simpa using h)]; exact h2 h
/-- A step. -/
theorem step_spec {k a b e : Int} {S_ T_ : ByteArray} {K : Bool → World → Prop} (h : Inv W0 w p T d c) (hF : Full d) (hc : c + 1 ≤ 1073741824) (ra : rng a) (rb : rng b) (re : rng e) (hs : S_.size < 9223372036854775808) (hK : Done W0 p (c + 1) K) : S.towerexact_World_step p k a b e S_ T_ w K := by
  unfold S.towerexact_World_step
  refine newB fun w1 b1 f1 s1 => ?_
  have h1 := h.extT f1 (50, 0)
  have o1 : Op w1 (tagN T w (50, 0)) w.heap.size [.int .i64 k, .int .i64 a, .int .i64 b, .int .i64 e, .string S_, .string T_] := ⟨b1, tagN_new _ _ _ (Nat.le_refl _)⟩
  generalize tagN T w (50, 0) = T1 at *
  generalize w.heap.size = q at *
  refine ldI b1 rfl ?_
  refine ifk (fun _ => eng_spec (q := q) h1 hF hc hK) fun _ => ?_
  refine ifk (fun _ => mach_spec (q := q) h1 hF hc hK) fun _ => ?_
  refine ifk (fun _ => inn_spec h1 hF hc o1 rfl hK) fun _ => ?_
  refine ifk (fun _ => clear_spec (q := q) h1 hF hc hK) fun _ => ?_
  refine ifk (fun _ => list_spec (q := q) h1 hF hc hK) fun _ => ?_
  refine ifk (fun _ => nil_spec (q := q) h1 hF hc hK) fun _ => ?_
  refine ifk (fun _ => name_spec h1 hF hc o1 rfl ra hK) fun _ => ?_
  refine ifk (fun _ => len_spec h1 hF hc o1 rfl rfl rfl ra rb re hK) fun _ => ?_
  refine ifk (fun _ => put_spec h1 hF hc o1 rfl rfl rfl ra rb hK) fun _ => ?_
  refine ifk (fun _ => run_spec h1 hF hc o1 rfl rfl rfl rfl ra rb re hs hK) fun _ => ?_
  refine ifk (fun _ => check_spec h1 hF hc o1 rfl ra hK) fun _ => ?_
  refine ifk (fun _ => comp_spec h1 hF hc o1 rfl rfl ra hs hK) fun _ => ?_
  refine ifk (fun _ => exec_spec h1 hF hc o1 rfl rfl rfl ra rb re hK) fun _ => ?_
  refine ifk (fun _ => drop_spec h1 hF hc o1 rfl rfl rfl ra rb hK) fun _ => ?_
  exact hK w1 T1 d (h1.up hc) hF
theorem looks_spec {K : Bool → World → Prop} (h : Inv W0 w p T d c) (hF : Full d) (hK : ∀ w', w'.heap = w.heap → Fr 0 0 w w' → K true w') : S.towerexact_World_looks p w K := by
  unfold S.towerexact_World_looks
  have n0 := h.nums
  have a0 := n0.le; have a1 := n0.lC; have a2 := n0.lE; have a3 := n0.lR; have a4 := n0.lL
  have fr : ∀ {u : World}, u.heap = w.heap → Fr 0 0 w u → Inv W0 u p T d c := fun _ f => h.ext f
  refine join_W (fun u => u.heap = w.heap ∧ Fr 0 0 w u) ?_ ?_
  · rintro u ⟨hu, fu⟩
    refine join_W (fun u => u.heap = w.heap ∧ Fr 0 0 w u) ?_ ?_
    · rintro u ⟨hu, fu⟩
      refine drew_ ?_
      have h2 := h.ext fu.drew
      refine ldS h2.rcd rfl (ldS h2.rcd rfl ?_)
      have r1 := OS.rdB h2.room.1
      have r2 := OS.rdB h2.rw_.1
      rw [hF.r] at r2
      exact sameBytes_spec r1 r2 (by simp; omega) fun u2 hu2 f2 => hK u2 (hu2.trans hu) (fu.drew.trans f2)
    · intro J hJ
      refine loopN (fun n st v => ∃ i : Nat, st = ((i : Int), ()) ∧ i + n = d.Ls.length ∧ v.heap = w.heap ∧ Fr 0 0 w v) d.Ls.length ⟨0, rfl, by omega, hu, fu⟩ ?_
      rintro n _ v ⟨i, rfl, hn, hv, fv⟩ Q hQ
      dsimp only
      have h1 := h.ext fv
      have lsl := h1.lsl; have lwl := h1.lwl; have f1 := hF.l; have f2 := hF.w
      refine ldS h1.rcd rfl ?_
      by_cases hi : i < d.Ls.length
      · rw [if_pos (by simp only [decide_eq_true_eq]; omega)]
        refine drew_ ?_
        have h2 := h1.ext (Fr.refl 0 0 v).drew
        have hL : d.Ls[i]? = some d.Ls[i] := List.getElem?_eq_getElem hi
        have hW : d.Lw[i]? = some (d.Lw[i]'(by omega)) := List.getElem?_eq_getElem (by omega)
        refine ldS h2.rcd rfl (OS.lS h2.ls.1 hL (ldS h2.rcd rfl (OS.lS h2.lw.1 hW ?_)))
        obtain ⟨es, hE, el⟩ := h2.ll.l1 i _ hL
        obtain ⟨es', hE', el'⟩ := h2.ll.l2 i _ hW
        have : es' = es := by rw [hE] at hE'; exact (Option.some.inj hE').symm
        subst this
        have hb := n0.es es' (List.mem_of_getElem? hE)
        refine sameInts_spec el.rd el'.rd (by omega) fun v4 hv4 f4 => ?_
        rw [if_neg (by simp), W_succ (by omega)]
        exact let_ (hQ (n - 1) _ _ (by omega) ⟨i + 1, rfl, by omega, hv4.trans hv, fv.drew.trans f4⟩)
      · rw [if_neg (by simp only [decide_eq_true_eq]; omega)]
        exact hJ v ⟨hv, fv⟩
  · intro J hJ
    refine loopN (fun n st v => ∃ i : Nat, st = ((i : Int), ()) ∧ i + n = d.Cs.length ∧ v.heap = w.heap ∧ Fr 0 0 w v) d.Cs.length ⟨0, rfl, by omega, rfl, Fr.refl _ _ _⟩ ?_
    rintro n _ v ⟨i, rfl, hn, hv, fv⟩ Q hQ
    dsimp only
    have h1 := h.ext fv
    have cl := h1.cl
    refine ldS h1.rcd rfl ?_
    by_cases hi : i < d.Cs.length
    · rw [if_pos (by simp only [decide_eq_true_eq]; omega)]
      refine drew_ ?_
      have h2 := h1.ext (Fr.refl 0 0 v).drew
      have hC : d.Cs[i]? = some d.Cs[i] := List.getElem?_eq_getElem hi
      obtain ⟨es, hE, el⟩ := h2.ll.c1 i (d.Cs[i]).re (by rw [List.getElem?_map, hC]; rfl)
      obtain ⟨es', hE', el'⟩ := h2.ll.c2 i (d.Cs[i]).wa (by rw [List.getElem?_map, hC]; rfl)
      generalize d.Cs[i] = cd at *
      refine ldS h2.rcd rfl (OS.lC h2.cods.1 hC fun bc uc hbc q0 q1 q2 q3 oc => ldS (a := cd.re.a) (l := cd.re.l) (c := cd.re.c) hbc q0 ?_)
      refine ldS h2.rcd rfl (OS.lC h2.cods.1 hC fun bc uc hbc q0 q1 q2 q3 oc => ldS (a := cd.wa.a) (l := cd.wa.l) (c := cd.wa.c) hbc q1 ?_)
      have : es' = es := by rw [hE] at hE'; exact (Option.some.inj hE').symm
      subst this
      have hb := n0.bs es' (List.mem_of_getElem? hE)
      refine sameBytes_spec el.rdB el'.rdB (by simp; omega) fun v4 hv4 f4 => ?_
      rw [if_neg (by simp), W_succ (by omega)]
      exact let_ (hQ (n - 1) _ _ (by omega) ⟨i + 1, rfl, by omega, hv4.trans hv, fv.drew.trans f4⟩)
    · rw [if_neg (by simp only [decide_eq_true_eq]; omega)]
      exact hJ v ⟨hv, fv⟩
/-- A step of the script. -/
def OpAt (w : World) (b o : Nat) : Prop := ∃ (k x y z : Int) (S_ T_ : ByteArray), w.cell? ⟨b, o, none⟩ = some (.int .i64 k) ∧ w.cell? ⟨b, o + 1, none⟩ = some (.int .i64 x) ∧ w.cell? ⟨b, o + 2, none⟩ = some (.int .i64 y) ∧ w.cell? ⟨b, o + 3, none⟩ = some (.int .i64 z) ∧
  w.cell? ⟨b, o + 4, none⟩ = some (.string S_) ∧ w.cell? ⟨b, o + 5, none⟩ = some (.string T_) ∧ rng x ∧ rng y ∧ rng z ∧ S_.size < 9223372036854775808
structure ScS (w : World) (s : Sl) : Prop where
  ex : s.l = 0 ∨ ∃ b o, s.a = some ⟨b, o, none⟩ ∧ b < w.heap.size ∧ ∀ i, i < s.l → OpAt w b (o + i * 6)
theorem ScS.fr {s : Sl} (h : ScS w s) (f : Fr 0 0 w w') : ScS w' s := by
  refine ⟨?_⟩
  rcases h.ex with e | ⟨b, o, h1, h2, h3⟩
  · exact .inl e
  · refine .inr ⟨b, o, h1, Nat.lt_of_lt_of_le h2 f.1.1, fun i hi => ?_⟩
    obtain ⟨k, x, y, z, S_, T_, c0, c1, c2, c3, c4, c5, r⟩ := h3 i hi
    exact ⟨k, x, y, z, S_, T_, by rw [cell_fr f h2]; exact c0, by rw [cell_fr f h2]; exact c1, by rw [cell_fr f h2]; exact c2, by rw [cell_fr f h2]; exact c3, by rw [cell_fr f h2]; exact c4, by rw [cell_fr f h2]; exact c5, r⟩
theorem small_spec {s : Sl} {K : Bool → World → Prop} (h : ScS w s) (hK : ∀ r w', Fr 0 0 w w' → (r = true → s.l ≤ 1073741824) → K r w') : S.towerexact_small s w K := by
  unfold S.towerexact_small
  by_cases hb : 1073741824 < s.l
  · rw [if_pos (by simp only [decide_eq_true_eq]; omega)]
    exact hK false w (Fr.refl _ _ _) (fun h => by cases h)
  rw [if_neg (by simp only [decide_eq_true_eq]; omega)]
  refine let_ ?_
  refine loopN (fun m st v => ∃ (n : Int) (i : Nat), st = (n, (i : Int), ()) ∧ m + i = s.l ∧ Fr 0 0 w v) s.l ⟨_, 0, rfl, rfl, Fr.refl _ _ _⟩ ?_
  rintro m _ v ⟨n, i, rfl, hm, hv⟩ Q hQ
  dsimp only
  by_cases hi : i < s.l
  · rw [if_pos (by simp only [decide_eq_true_eq]; omega)]
    refine drew_ ?_
    have h2 : ScS v.drew s := h.fr hv.drew
    rcases h2.ex with e | ⟨b, o, h1, _, h3⟩
    · omega
    obtain ⟨k, x, y, z, S_, T_, c0, c1, c2, c3, c4, c5, r⟩ := h3 i hi
    refine ix h1 (by omega) (by omega) ⟨S_, by rw [Int.toNat_natCast]; exact c4, ix h1 (by omega) (by omega) ⟨T_, by rw [Int.toNat_natCast]; exact c5, ?_⟩⟩
    refine let_ ?_
    split
    · exact hK false _ hv.drew (fun h => by cases h)
    · rw [W_succ (by omega)]
      exact let_ (hQ (m - 1) _ _ (by omega) ⟨_, i + 1, rfl, by omega, hv.drew⟩)
  · rw [if_neg (by simp only [decide_eq_true_eq]; omega)]
    exact hK true v hv fun _ => by omega
def gh0 : Gh := ⟨⟨none, 0, 0⟩, ⟨none, 0, 0⟩, ⟨none, 0, 0⟩, ⟨none, 0, 0⟩, ⟨none, 0, 0⟩, ⟨none, 0, 0⟩, ⟨none, 0, 0⟩, ⟨none, 0, 0⟩, 0, 0, 0, 0, ⟨none, 0, 0⟩, [], [], [], [], [], [], [], [], [], [], []⟩
theorem inv0 (f : Fr 0 0 w w') (hb : Blk w' w.heap.size (recW gh0)) : Inv w w' w.heap.size (tagN (fun _ => (0, 0)) w (1, 0)) gh0 0 := by
  have hr : rng 0 := ⟨by omega, by omega⟩
  refine ⟨f, fun b hb => tagN_old (fun _ => (0, 0)) w (1, 0) b hb, tagN_new _ _ _ (Nat.le_refl _), fun k h2 h8 => ?_, ⟨?_, ?_, ?_, ?_, ?_, ?_, ?_⟩, ?_, hb⟩
  · rcases kc h2 h8 with rfl | rfl | rfl | rfl | rfl | rfl | rfl | rfl | rfl <;> exact ⟨OS.nil _ _, fun b hb => by simp [outer, gh0, owns] at hb⟩
  · intro i s hs; simp [gh0] at hs
  · intro i s hs; simp [gh0] at hs
  · intro i s hs; simp [gh0] at hs
  · intro i s hs; simp [gh0] at hs
  · intro i s hs; simp [gh0] at hs
  · intro i s hs; simp [gh0] at hs
  · intro i s hs; simp [gh0] at hs
  · exact ⟨by omega, by simp [gh0], by simp [gh0], by simp [gh0], by simp [gh0], by simp [gh0], by simp [gh0], by simp [gh0], by simp [gh0], by simp [gh0], fun e he => by simp [gh0] at he, fun e he => by simp [gh0] at he, by simp [gh0], by simp [gh0], hr, hr, hr, hr, fun i c hi => by simp [gh0] at hi⟩
theorem upTo_spec {s : Sl} {K : Int → World → Prop} (h : ScS w s) (hl : s.l ≤ 1073741824) (hK : ∀ w', Fr 0 0 w w' → K (-1) w') : S.towerexact_ExactUpTo s w K := by
  unfold S.towerexact_ExactUpTo
  refine newB fun w1 b1 f1 s1 => ?_
  have h1 := inv0 f1 b1
  generalize tagN (fun _ => (0, 0)) w (1, 0) = T1 at *
  generalize hp : w.heap.size = p at *
  refine loopN (fun m st v => ∃ (i : Nat) (T : Nat → Tag) (d : Gh), st = ((i : Int), ()) ∧ m + i = s.l ∧ Inv w v p T d i ∧ Full d) s.l ⟨0, T1, gh0, rfl, rfl, h1, ⟨rfl, rfl, rfl, rfl, rfl⟩⟩ ?_
  rintro m _ v ⟨i, T, d, rfl, hm, hv, hF⟩ Q hQ
  dsimp only
  by_cases hi : i < s.l
  · rw [if_pos (by simp only [decide_eq_true_eq]; omega)]
    have h2 : ScS v s := h.fr hv.old
    rcases h2.ex with e | ⟨b, o, g1, _, h3⟩
    · omega
    obtain ⟨k, x, y, z, S_, T_, c0, c1, c2, c3, c4, c5, rx, ry, rz, rs⟩ := h3 i hi
    refine ix g1 (by omega) (by omega) ?_
    rw [Int.toNat_natCast]
    refine ⟨k, c0, x, c1, y, c2, z, c3, S_, c4, T_, c5, ?_⟩
    refine step_spec hv hF (by omega) rx ry rz rs fun v1 T1 d1 h4 hF1 => ?_
    rw [if_neg (by simp)]
    refine looks_spec h4 hF1 fun v2 _ f2 => ?_
    rw [if_neg (by simp), W_succ (by omega)]
    exact let_ (hQ (m - 1) _ _ (by omega) ⟨i + 1, T1, d1, rfl, by omega, h4.ext f2, hF1⟩)
  · rw [if_neg (by simp only [decide_eq_true_eq]; omega)]
    exact hK v hv.old
theorem Exact_spec {s : Sl} {K : Bool → World → Prop} (h : ScS w s) (hK : ∀ w', Fr 0 0 w w' → K true w') : S.towerexact_Exact s w K := by
  unfold S.towerexact_Exact
  refine small_spec h fun r v fv hl => ?_
  cases r
  · rw [if_pos (by simp)]
    exact hK v fv
  rw [if_neg (by simp)]
  refine upTo_spec (h.fr fv) (hl rfl) fun w' f => ?_
  exact hK w' (fv.trans f)
end
end Go.Proofs.Qxb6500562aGreat
