/-
  The model's encoder: Counts, Items, Bits, Choose.
-/
import Derived.Test.Qxb6500563aGreatEncP
namespace Go.Proofs.Qxb6500563aGreat
open Go.Den Go.Zip
set_option linter.unusedVariables false
set_option linter.unusedSimpArgs false
variable {w w' : World}

theorem api_DistCode_spec {d : Nat} {K : Int → World → Prop} (h1 : 1 ≤ d) (h2 : d ≤ 16) (hK : K (dCode d : Int) w) : S.api_DistCode (d : Int) w K := by
  have : d = 1 ∨ d = 2 ∨ d = 3 ∨ d = 4 ∨ d = 5 ∨ d = 6 ∨ d = 7 ∨ d = 8 ∨ d = 9 ∨ d = 10 ∨ d = 11 ∨ d = 12 ∨ d = 13 ∨ d = 14 ∨ d = 15 ∨ d = 16 := by omega
  rcases this with e | e | e | e | e | e | e | e | e | e | e | e | e | e | e | e <;> subst e <;> exact hK
/-- A token's fields. -/
theorem tok_get {toks : List Tok} {k : Nat} {t : Tok} (h : toks[k]? = some t) : (toks.flatMap tokv)[k * 3]? = some (.int .i64 t.1) ∧ (toks.flatMap tokv)[k * 3 + 1]? = some (.int .i64 t.2.1) ∧ (toks.flatMap tokv)[k * 3 + 2]? = some (.int .i64 t.2.2) := by
  have h0 := flat_get (f := tokv) (c := 3) (fun _ => rfl) toks k 0 (by omega)
  have h1 := flat_get (f := tokv) (c := 3) (fun _ => rfl) toks k 1 (by omega)
  have h2 := flat_get (f := tokv) (c := 3) (fun _ => rfl) toks k 2 (by omega)
  rw [h] at h0 h1 h2
  exact ⟨h0, h1, h2⟩
section
variable {tb k : Nat} {toks : List Tok} {t : Tok} {K : Int → Prop}
theorem rdTok0 (h : Blk w tb (toks.flatMap tokv)) (ht : toks[k]? = some t) (hk : K (t.1 : Int)) : Ix (some ⟨tb, 0, none⟩) toks.length (k : Int) fun b o => LdI .i64 w ⟨b, o + Int.toNat (k : Int) * 3, none⟩ K := by
  have hlt : k < toks.length := (List.getElem?_eq_some_iff.1 ht).1
  exact ix rfl (by omega) (by omega) (ldI h (by rw [Nat.zero_add, Int.toNat_natCast]; exact (tok_get ht).1) hk)
theorem rdTok1 (h : Blk w tb (toks.flatMap tokv)) (ht : toks[k]? = some t) (hk : K (t.2.1 : Int)) : Ix (some ⟨tb, 0, none⟩) toks.length (k : Int) fun b o => LdI .i64 w ⟨b, o + Int.toNat (k : Int) * 3 + 1, none⟩ K := by
  have hlt : k < toks.length := (List.getElem?_eq_some_iff.1 ht).1
  exact ix rfl (by omega) (by omega) (ldI h (by rw [Nat.zero_add, Int.toNat_natCast]; exact (tok_get ht).2.1) hk)
theorem rdTok2 (h : Blk w tb (toks.flatMap tokv)) (ht : toks[k]? = some t) (hk : K (t.2.2 : Int)) : Ix (some ⟨tb, 0, none⟩) toks.length (k : Int) fun b o => LdI .i64 w ⟨b, o + Int.toNat (k : Int) * 3 + 2, none⟩ K := by
  have hlt : k < toks.length := (List.getElem?_eq_some_iff.1 ht).1
  exact ix rfl (by omega) (by omega) (ldI h (by rw [Nat.zero_add, Int.toNat_natCast]; exact (tok_get ht).2.2) hk)
end

set_option maxRecDepth 10000 in
theorem blockm_Counts_spec {tb : Nat} {toks : List Tok} {K : Sl → World → Prop} (h : Blk w tb (toks.flatMap tokv)) (hok : ∀ t ∈ toks, TokOK t) (hl : toks.length ≤ 256)
    (hK : ∀ w', Blk w' w.heap.size (nats 273 (cntT toks)) → Fr 0 0 w w' → w'.heap.size = w.heap.size + 1 → K ⟨some ⟨w.heap.size, 0, none⟩, 273, 273⟩ w') : S.blockm_Counts ⟨some ⟨tb, 0, none⟩, toks.length, toks.length⟩ w K := by
  unfold S.blockm_Counts
  have htb := h.lt
  refine mkN (n := 273) (by omega) fun w1 b1 f1 s1 => ?_
  generalize hN : w.heap.size = N at *
  refine wrN (i := 256) (v := 1) b1 (by omega) rfl fun w2 b2 f2 s2 => ?_
  have h2 := (h.fr f1 (by omega)).fr f2 (by omega)
  refine loopN (fun m st v => ∃ k : Nat, st = ((k : Int), ()) ∧ m + k = toks.length ∧ Blk v N (nats 273 (cntT (toks.take k))) ∧ Blk v tb (toks.flatMap tokv) ∧ Fr N 1 w1 v ∧ v.heap.size = N + 1) toks.length
    ⟨0, rfl, rfl, b2, h2, f2, by omega⟩ ?_
  rintro m _ v ⟨k, rfl, hm, bv, hv, fv, sv⟩ Q hQ
  dsimp only
  by_cases hk : k < toks.length
  · rw [if_pos (by simp only [decide_eq_true_eq]; omega)]
    have ht : toks[k]? = some toks[k] := List.getElem?_eq_getElem hk
    have hto := hok _ (List.getElem_mem hk)
    have hcs := cnt_succ ht
    generalize toks[k] = t at *
    have hcl : ∀ s, cntT (toks.take k) s ≤ 513 := fun s => by
      have := cnt_le (toks.take k) s
      have : (toks.take k).length ≤ 256 := by simp; omega
      omega
    refine join_ (rdTok0 hv ht ?_)
    rcases hto with ⟨t1, t2⟩ | ⟨t1, t2, t3, t4⟩
    · rw [if_pos (by simp only [beq_iff_eq]; omega)]
      refine rdTok2 hv ht ?_
      have := hcl t.2.2
      refine rdN bv (by omega) (wrN (v := cntT (toks.take k) t.2.2 + 1) bv (by omega) (by rw [W_succ (by omega)]) fun v2 d2 f2 _ => ?_)
      rw [W_succ (by omega)]
      refine let_ (hQ (m - 1) _ _ (by omega) ⟨k + 1, rfl, by omega, ?_, hv.fr f2 (by omega), fv.trans f2, by omega⟩)
      rw [hcs]
      unfold addTok symsOf
      rw [if_pos t1]
      exact d2
    · rw [if_neg (by simp only [beq_iff_eq]; omega)]
      refine rdTok0 hv ht ?_
      rw [show W (W (257 + (t.1 : Int)) - 3) = ((254 + t.1 : Nat) : Int) from by rw [W_id (x := 257 + (t.1 : Int)) (by omega) (by omega), W_id (by omega) (by omega)]; omega]
      have := hcl (254 + t.1)
      refine rdN bv (by omega) (wrN (v := cntT (toks.take k) (254 + t.1) + 1) bv (by omega) (by rw [W_succ (by omega)]) fun v2 d2 f2 _ => ?_)
      have hv2 := hv.fr f2 (by omega)
      refine rdTok1 hv2 ht ?_
      refine api_DistCode_spec t3 t4 ?_
      have hdc := (dCode_facts t3 t4).1
      rw [show W (265 + (dCode t.2.1 : Int)) = ((265 + dCode t.2.1 : Nat) : Int) from by rw [W_id (by omega) (by omega)]; omega]
      have := hcl (265 + dCode t.2.1)
      have he : fset (cntT (toks.take k)) (254 + t.1) (cntT (toks.take k) (254 + t.1) + 1) (265 + dCode t.2.1) = cntT (toks.take k) (265 + dCode t.2.1) := fset_ne (by omega)
      refine rdN d2 (by omega) (wrN (v := fset (cntT (toks.take k)) (254 + t.1) (cntT (toks.take k) (254 + t.1) + 1) (265 + dCode t.2.1) + 1) d2 (by omega) (by rw [W_succ (by omega)]) fun v3 d3 f3 _ => ?_)
      rw [W_succ (by omega)]
      refine let_ (hQ (m - 1) _ _ (by omega) ⟨k + 1, rfl, by omega, ?_, hv2.fr f3 (by omega), (fv.trans f2).trans f3, by omega⟩)
      rw [hcs]
      unfold addTok symsOf
      rw [if_neg (by omega)]
      exact d3
  · rw [if_neg (by simp only [decide_eq_true_eq]; omega)]
    have : k = toks.length := by omega
    subst this
    rw [List.take_length] at bv
    exact hK v bv (f1.thenNew fv (by omega)) sv

def itemV (t : Item) : List Value := [.int .i64 t.1, .int .i64 t.2.1, .int .i64 t.2.2]
theorem itemsV_len (l : List Item) : (l.flatMap itemV).length = l.length * 3 := flat_length (f := itemV) (c := 3) (fun _ => rfl) l

/-- One item more. -/
theorem addItem {o : Sl} {vs : List Item} {t : Item} {x y z : Int} {K : Sl → World → Prop} {w0 : World} (h : OS w o (vs.flatMap itemV) 1) (ho : ∀ b, owns o b → w0.heap.size ≤ b) (f : Fr 0 0 w0 w) (hl : vs.length ≤ 273) (hx : x = (t.1 : Int)) (hy : y = (t.2.1 : Int)) (hz : z = (t.2.2 : Int))
    (hK : ∀ o' w', OS w' o' ((vs ++ [t]).flatMap itemV) 1 → (∀ b, owns o' b → w0.heap.size ≤ b) → Fr 0 0 w0 w' → K o' w') :
    New w (.cells #[.int .i64 x, .int .i64 y, .int .i64 z] 3) fun p w => AppS 3 [.int .i64 0] 8 1 w o ⟨some ⟨p, 0, none⟩, 3, 3⟩ K := by
  refine newB fun w1 b1 f1 s1 => ?_
  have hlen := h.len
  rw [itemsV_len, Nat.mul_one] at hlen
  have h1 := h.frp (P := fun _ => False) (FrP.of0 f1) (fun _ _ => id)
  refine appO (new := itemV t) h1 (by rw [hx, hy, hz] at b1; exact b1) rfl (by omega) rfl rfl (by show (o.l + 3) * 8 ≤ _; omega) fun o' w2 o2 l2 gr f2 => ?_
  refine hK o' w2 (by rw [List.flatMap_append]; simpa using o2) (fun b hb => ?_) ⟨by have := f.1; have := f1.1; have := f2.1; omega, fun b hb _ => ?_⟩
  · rcases gr.owns hb with h3 | h3
    · exact ho b h3
    · have := f.1; omega
  · have := f.1
    have := f1.1
    rw [f2.2 b (by omega) (fun h3 => by have := ho b h3; omega), f1.2 b (by omega) (by omega), f.2 b hb (by omega)]

set_option maxRecDepth 10000 in
theorem blockm_Items_spec {sl : Sl} {cb : Nat} {l : Nat → Nat} {K : Sl → World → Prop} (h : IS w sl cb 273 l) (hle : ∀ i, i < 273 → l i ≤ 10)
    (hK : ∀ o w', OS w' o ((itemsL l).flatMap itemV) 1 → (∀ b, owns o b → w.heap.size ≤ b) → Fr 0 0 w w' → K o w') : S.blockm_Items sl w K := by
  unfold S.blockm_Items
  have hlen := h.len
  have hcl := h.lt
  refine loopN (fun m st v => ∃ (k : Nat) (o : Sl), st = (o, ((ist l k).1 : Int), ()) ∧ m + (ist l k).1 = 273 ∧ OS v o ((ist l k).2.flatMap itemV) 1 ∧ (∀ b, owns o b → w.heap.size ≤ b) ∧ Fr 0 0 w v) 273
    ⟨0, ⟨none, 0, 0⟩, rfl, rfl, OS.nil _ _, fun b hb => by simp [owns] at hb, Fr.refl _ _ _⟩ ?_
  rintro m _ v ⟨k, o, rfl, hm, hv, ho, fv⟩ Q hQ
  dsimp only
  have hil := ist_le l k
  by_cases hi : (ist l k).1 < 273
  · rw [if_pos (by simp only [decide_eq_true_eq]; omega)]
    have hst : ist l (k + 1) = ((ist l k).1 + (itemAt l (ist l k).1).2, (ist l k).2 ++ [(itemAt l (ist l k).1).1]) := by simp only [ist]; rw [if_pos hi]
    have had := item_adv l hi
    generalize hii : (ist l k).1 = i at *
    have hIv := h.fr fv (by omega)
    obtain ⟨ra, rb, rc, rd⟩ := run_facts l hi
    have l10 := hle i hi
    -- the item is laid
    have go : ∀ (v2 : World) (x y z ad : Int), v2.heap = v.heap → x = ((itemAt l i).1.1 : Int) → y = ((itemAt l i).1.2.1 : Int) → z = ((itemAt l i).1.2.2 : Int) → ad = ((i + (itemAt l i).2 : Nat) : Int) →
        (New v2 (.cells #[.int .i64 x, .int .i64 y, .int .i64 z] 3) fun p w => AppS 3 [.int .i64 0] 8 1 w o ⟨some ⟨p, 0, none⟩, 3, 3⟩ fun l28 w => Let ad fun i_29 => Q (l28, i_29, ()) w) := by
      intro v2 x y z ad e2 hx hy hz had'
      have hv2 : OS v2 o ((ist l k).2.flatMap itemV) 1 := hv.frp (P := fun _ => False) ⟨by rw [e2]; exact Nat.le_refl _, fun b _ _ => by rw [e2]⟩ (fun _ _ => id)
      refine addItem (w0 := w) hv2 ho (Fr.heq fv e2) (by omega) hx hy hz fun o' v3 h3 ho3 f3 => ?_
      refine let_ (hQ (m - (itemAt l i).2) _ _ (by omega) ⟨k + 1, o', ?_, ?_, ?_, ho3, f3⟩)
      · rw [hst, had']
      · rw [hst]; show m - (itemAt l i).2 + (i + (itemAt l i).2) = 273; omega
      · rw [hst]; exact h3
    refine join_ ?_
    refine loopN (fun m' st u => ∃ r : Nat, st = ((r : Int), ()) ∧ m' + r = runAt l i ∧ 1 ≤ r ∧ u.heap = v.heap) (runAt l i - 1) ⟨1, rfl, by omega, by omega, rfl⟩ ?_
    rintro m' _ u ⟨r, rfl, hm', hr1, hu⟩ Q' hQ'
    dsimp only
    refine drew_ ?_
    have hIu := hIv.heq (show u.drew.heap = v.heap from hu)
    rw [W_add (by omega)]
    by_cases hrun : r < runAt l i
    · rw [if_pos (by simp only [decide_eq_true_eq]; omega)]
      refine rdS hIu (by omega) (rdS hIu (by omega) ?_)
      rw [rc r hrun, if_pos (by simp), W_succ (by omega)]
      exact let_ (hQ' (m' - 1) _ _ (by omega) ⟨r + 1, rfl, by omega, by omega, hu⟩)
    have hre : r = runAt l i := by omega
    -- behind the inner loop
    have after : (Join (fun (w : World) =>
          Join (fun (w : World) =>
            Ix sl.a sl.l (i : Int) fun b4 o5 =>
            LdI .i64 w ⟨b4, o5 + Int.toNat (i : Int) * 1, none⟩ fun x_6 =>
            New w (.cells #[.int .i64 x_6, .int .i64 0, .int .i64 0] 3) fun p7 w =>
            AppS 3 [.int .i64 0] 8 1 w o ⟨some ⟨p7, 0, none⟩, 3, 3⟩ fun l8 w =>
            Let (W ((i : Int) + 1)) fun i_9 =>
            Q (l8, i_9, ()) w) fun J10 =>
          Drew w fun w =>
          if (decide ((i : Int) > 0)) = true then
            Ix sl.a sl.l (i : Int) fun b11 o12 =>
            LdI .i64 w ⟨b11, o12 + Int.toNat (i : Int) * 1, none⟩ fun x_13 =>
            Ix sl.a sl.l (W ((i : Int) - 1)) fun b14 o15 =>
            LdI .i64 w ⟨b14, o15 + Int.toNat (W ((i : Int) - 1)) * 1, none⟩ fun x_16 =>
            if (x_13 == x_16) = true then
              if (decide ((r : Int) ≥ 3)) = true then
                Join (fun (run_17 : Int) (w : World) =>
                  New w (.cells #[.int .i64 12, .int .i64 (W (run_17 - 3)), .int .i64 2] 3) fun p18 w =>
                  AppS 3 [.int .i64 0] 8 1 w o ⟨some ⟨p18, 0, none⟩, 3, 3⟩ fun l19 w =>
                  Let (W ((i : Int) + run_17)) fun i_20 =>
                  Q (l19, i_20, ()) w) fun J21 =>
                if (decide ((r : Int) > 6)) = true then
                  J21 6 w
                else
                  J21 (r : Int) w
              else
                J10 w
            else
              J10 w
          else
            J10 w) fun J22 =>
        Ix sl.a sl.l (i : Int) fun b23 o24 =>
        LdI .i64 u.drew ⟨b23, o24 + Int.toNat (i : Int) * 1, none⟩ fun x_25 =>
        if (x_25 == 0) = true then
          if (decide ((r : Int) ≥ 3)) = true then
            Join (fun (run_26 : Int) (w : World) =>
              New w (.cells #[.int .i64 11, .int .i64 (W (run_26 - 3)), .int .i64 7] 3) fun p27 w =>
              AppS 3 [.int .i64 0] 8 1 w o ⟨some ⟨p27, 0, none⟩, 3, 3⟩ fun l28 w =>
              Let (W ((i : Int) + run_26)) fun i_29 =>
              Q (l28, i_29, ()) w) fun J30 =>
            if (decide ((r : Int) > 130)) = true then
              J30 130 u.drew
            else
              J30 (r : Int) u.drew
          else
            J22 u.drew
        else
          J22 u.drew) := by
      refine join_ (rdS hIu (by omega) ?_)
      have rest : ¬ (l i = 0 ∧ 3 ≤ runAt l i) → (Join (fun (w : World) =>
            Ix sl.a sl.l (i : Int) fun b4 o5 =>
            LdI .i64 w ⟨b4, o5 + Int.toNat (i : Int) * 1, none⟩ fun x_6 =>
            New w (.cells #[.int .i64 x_6, .int .i64 0, .int .i64 0] 3) fun p7 w =>
            AppS 3 [.int .i64 0] 8 1 w o ⟨some ⟨p7, 0, none⟩, 3, 3⟩ fun l8 w =>
            Let (W ((i : Int) + 1)) fun i_9 =>
            Q (l8, i_9, ()) w) fun J10 =>
          Drew u.drew fun w =>
          if (decide ((i : Int) > 0)) = true then
            Ix sl.a sl.l (i : Int) fun b11 o12 =>
            LdI .i64 w ⟨b11, o12 + Int.toNat (i : Int) * 1, none⟩ fun x_13 =>
            Ix sl.a sl.l (W ((i : Int) - 1)) fun b14 o15 =>
            LdI .i64 w ⟨b14, o15 + Int.toNat (W ((i : Int) - 1)) * 1, none⟩ fun x_16 =>
            if (x_13 == x_16) = true then
              if (decide ((r : Int) ≥ 3)) = true then
                Join (fun (run_17 : Int) (w : World) =>
                  New w (.cells #[.int .i64 12, .int .i64 (W (run_17 - 3)), .int .i64 2] 3) fun p18 w =>
                  AppS 3 [.int .i64 0] 8 1 w o ⟨some ⟨p18, 0, none⟩, 3, 3⟩ fun l19 w =>
                  Let (W ((i : Int) + run_17)) fun i_20 =>
                  Q (l19, i_20, ()) w) fun J21 =>
                if (decide ((r : Int) > 6)) = true then
                  J21 6 w
                else
                  J21 (r : Int) w
              else
                J10 w
            else
              J10 w
          else
            J10 w) := by
        intro hnz
        have hIu2 := hIv.heq (show u.drew.drew.heap = v.heap from hu)
        have lit : ¬ (0 < i ∧ l i = l (i - 1) ∧ 3 ≤ runAt l i) → (Ix sl.a sl.l (i : Int) fun b4 o5 =>
            LdI .i64 u.drew.drew ⟨b4, o5 + Int.toNat (i : Int) * 1, none⟩ fun x_6 =>
            New u.drew.drew (.cells #[.int .i64 x_6, .int .i64 0, .int .i64 0] 3) fun p7 w =>
            AppS 3 [.int .i64 0] 8 1 w o ⟨some ⟨p7, 0, none⟩, 3, 3⟩ fun l8 w =>
            Let (W ((i : Int) + 1)) fun i_9 =>
            Q (l8, i_9, ()) w) := by
          intro hnr
          have e : itemAt l i = ((l i, 0, 0), 1) := by unfold itemAt; rw [if_neg hnz, if_neg hnr]
          refine rdS hIu2 (by omega) ?_
          rw [W_succ (by omega)]
          exact go u.drew.drew _ _ _ _ hu (by rw [e]) (by rw [e]; rfl) (by rw [e]; rfl) (by rw [e])
        refine join_ (drew_ ?_)
        by_cases hi0 : 0 < i
        · rw [if_pos (by simp only [decide_eq_true_eq]; omega)]
          refine rdS hIu2 (by omega) ?_
          rw [W_pred (by omega) (by omega)]
          refine rdS hIu2 (by omega) ?_
          by_cases hsame : l i = l (i - 1)
          · rw [if_pos (by simp only [beq_iff_eq]; omega)]
            by_cases h3 : 3 ≤ runAt l i
            · rw [if_pos (by simp only [decide_eq_true_eq]; omega)]
              have e : itemAt l i = ((12, min (runAt l i) 6 - 3, 2), min (runAt l i) 6) := by unfold itemAt; rw [if_neg hnz, if_pos ⟨hi0, hsame, h3⟩]
              refine join_ ?_
              by_cases h6 : 6 < runAt l i
              · rw [if_pos (by simp only [decide_eq_true_eq]; omega)]
                refine go u.drew.drew _ _ _ _ hu (by rw [e]; rfl) ?_ (by rw [e]; rfl) ?_
                · rw [e]; show W (6 - 3) = ((min (runAt l i) 6 - 3 : Nat) : Int); rw [Nat.min_eq_right (by omega)]; rfl
                · rw [e]; show W ((i : Int) + 6) = ((i + min (runAt l i) 6 : Nat) : Int); rw [Nat.min_eq_right (by omega), W_id (by omega) (by omega)]; omega
              · rw [if_neg (by simp only [decide_eq_true_eq]; omega)]
                refine go u.drew.drew _ _ _ _ hu (by rw [e]; rfl) ?_ (by rw [e]; rfl) ?_
                · rw [e]; show W ((r : Int) - 3) = ((min (runAt l i) 6 - 3 : Nat) : Int); rw [W_id (by omega) (by omega)]; omega
                · rw [e]; show W ((i : Int) + (r : Int)) = ((i + min (runAt l i) 6 : Nat) : Int); rw [W_id (by omega) (by omega)]; omega
            · rw [if_neg (by simp only [decide_eq_true_eq]; omega)]
              exact lit (by omega)
          · rw [if_neg (by simp only [beq_iff_eq]; omega)]
            exact lit (by omega)
        · rw [if_neg (by simp only [decide_eq_true_eq]; omega)]
          exact lit (by omega)
      by_cases hz : l i = 0
      · rw [if_pos (by simp only [beq_iff_eq]; omega)]
        by_cases h3 : 3 ≤ runAt l i
        · rw [if_pos (by simp only [decide_eq_true_eq]; omega)]
          have e : itemAt l i = ((11, min (runAt l i) 130 - 3, 7), min (runAt l i) 130) := by unfold itemAt; rw [if_pos ⟨hz, h3⟩]
          refine join_ ?_
          by_cases h130 : 130 < runAt l i
          · rw [if_pos (by simp only [decide_eq_true_eq]; omega)]
            refine go u.drew _ _ _ _ hu (by rw [e]; rfl) ?_ (by rw [e]; rfl) ?_
            · rw [e]; show W (130 - 3) = ((min (runAt l i) 130 - 3 : Nat) : Int); rw [Nat.min_eq_right (by omega)]; rfl
            · rw [e]; show W ((i : Int) + 130) = ((i + min (runAt l i) 130 : Nat) : Int); rw [Nat.min_eq_right (by omega), W_id (by omega) (by omega)]; omega
          · rw [if_neg (by simp only [decide_eq_true_eq]; omega)]
            refine go u.drew _ _ _ _ hu (by rw [e]; rfl) ?_ (by rw [e]; rfl) ?_
            · rw [e]; show W ((r : Int) - 3) = ((min (runAt l i) 130 - 3 : Nat) : Int); rw [W_id (by omega) (by omega)]; omega
            · rw [e]; show W ((i : Int) + (r : Int)) = ((i + min (runAt l i) 130 : Nat) : Int); rw [W_id (by omega) (by omega)]; omega
        · rw [if_neg (by simp only [decide_eq_true_eq]; omega)]
          exact rest (by omega)
      · rw [if_neg (by simp only [beq_iff_eq]; omega)]
        exact rest (by omega)
    by_cases hlt : i + r < 273
    · rw [if_pos (by simp only [decide_eq_true_eq]; omega)]
      refine rdS hIu (by omega) (rdS hIu (by omega) ?_)
      rw [if_neg (by
        simp only [beq_iff_eq]
        have := rd (by omega)
        rw [← hre] at this
        omega)]
      exact after
    · rw [if_neg (by simp only [decide_eq_true_eq]; omega)]
      exact after
  · rw [if_neg (by simp only [decide_eq_true_eq]; omega)]
    refine hK o v ?_ ho fv
    rw [items_eq (k := k) (by omega)]
    exact hv
end Go.Proofs.Qxb6500563aGreat
