/-
  The model's checker: names, scopes.
-/
import Derived.Test.Qxb6500562aGreatCkM
namespace Go.Proofs.Qxb6500562aGreat
open Go.Den Go.Zip
set_option linter.unusedVariables false
set_option linter.unusedSimpArgs false
variable {α β : Type} {ns : List Nd} {w0 w w' : World} {s tb p : Nat} {st : CS} {e q : Int} {L : List (Nat × List Value)} {vs : List Value}

theorem fnames_at (st : CS) (i : Nat) (hi : i < st.fs.length) : (fnames st).getD i ⟨#[]⟩ = (fnAt st.fs (i : Int)).name := by
  simp [fnames, fnAt, hi]
theorem vnames_at (st : CS) (i : Nat) (hi : i < st.vs.length) : (vnames st).getD i ⟨#[]⟩ = (vrAt st.vs (i : Int)).name := by
  simp [vnames, vrAt, hi]
/-- A row of cells of a block, read off and laid into a new one. -/
theorem mfn_spec {nm : ByteArray} {K : Int → World → Prop} (h : CMem ns w0 s tb st e q L w) (hK : ∀ w', CMem ns w0 s tb st e q L w' → K (nameIx (fnames st) nm) w') : S.checkm_st_fn s nm w K := by
  unfold S.checkm_st_fn
  have h' := h
  obtain ⟨bty, bre, sfs, svs, h1, h2, h3, h4, h5, h6, h7⟩ := h.ex
  refine ldS h3 rfl ?_
  have hl := h6.len
  rw [fns_len] at hl
  have hll : sfs.l = st.fs.length := by omega
  have hfl := h.inv.fl
  have hnl : (fnames st).length = st.fs.length := by simp [fnames]
  refine loopN (fun m v u => ∃ i : Nat, v = ((i : Int), ()) ∧ i ≤ st.fs.length ∧ m = st.fs.length - i ∧ Fr 0 0 w u ∧ ∀ j, j < i → bt ((fnames st).getD j ⟨#[]⟩) ≠ bt nm) st.fs.length
    ⟨0, rfl, by omega, by omega, Fr.refl _ _ _, fun j hj => by omega⟩ ?_
  rintro m _ u ⟨i, rfl, hi, rfl, fu, hall⟩ Q hQ
  dsimp only
  by_cases hlt : i < st.fs.length
  · rw [if_pos (by simp only [decide_eq_true_eq]; omega)]
    have h6u := h6.frp (FrP.of0 (P := fun _ => False) fu) fun _ _ h => h
    rcases h6u with ⟨e1, e2⟩ | ⟨g, c1, c2, c3, junk, c4, c5⟩
    · have := congrArg List.length e2
      rw [fns_len] at this
      simp at this
      omega
    refine ix c1 (by omega) (by omega) ?_
    have cell : ∀ k, k < 7 → (st.fs.flatMap fnV ++ junk)[i * 7 + k]? = (fnV (fnAt st.fs (i : Int)))[k]? := fun k hk => by
      rw [List.getElem?_append_left (by rw [fns_len]; omega), fnCell hlt hk]
    rw [Nat.zero_add, Int.toNat_natCast]
    refine ldI c4 (m := (fnAt st.fs (i : Int)).node) ((cell 0 (by omega)).trans rfl) ?_
    refine ldI c4 (m := (fnAt st.fs (i : Int)).ret) ((cell 1 (by omega)).trans rfl) ?_
    refine ldI c4 (m := (fnAt st.fs (i : Int)).pi) ((cell 2 (by omega)).trans rfl) ?_
    refine ldI c4 (m := (fnAt st.fs (i : Int)).pr) ((cell 3 (by omega)).trans rfl) ?_
    refine ldI c4 (m := (fnAt st.fs (i : Int)).li) ((cell 4 (by omega)).trans rfl) ?_
    refine ldI c4 (m := (fnAt st.fs (i : Int)).lr) ((cell 5 (by omega)).trans rfl) ?_
    refine ldStr c4 (m := (fnAt st.fs (i : Int)).name) ((cell 6 (by omega)).trans rfl) ?_
    refine newB fun u1 b1 f1 t1 => ?_
    refine Go.Den.st1 b1 (by simp) fun u2 b2 f2 t2 => ?_
    refine Go.Den.st1 b2 (by simp) fun u3 b3 f3 t3 => ?_
    refine Go.Den.st1 b3 (by simp) fun u4 b4 f4 t4 => ?_
    refine Go.Den.st1 b4 (by simp) fun u5 b5 f5 t5 => ?_
    refine Go.Den.st1 b5 (by simp) fun u6 b6 f6 t6 => ?_
    refine Go.Den.st1 b6 (by simp) fun u7 b7 f7 t7 => ?_
    refine Go.Den.st1 b7 (by simp) fun u8 b8 f8 t8 => ?_
    refine ldStr b8 rfl ?_
    have F : Fr 0 0 u u8 := (f1.any _ 1).trans ((((((f2.trans f3).trans f4).trans f5).trans f6).trans f7).trans f8) |>.fresh (Nat.le_refl _) 0 0
    rw [strEq, ← fnames_at st i hlt]
    by_cases hn : bt ((fnames st).getD i ⟨#[]⟩) = bt nm
    · rw [if_pos (by rw [decide_eq_true_eq]; exact hn)]
      have e : nameIx (fnames st) nm = (i : Int) := by
        refine lastN_eq (by omega) hn fun j j1 j2 => ?_
        have hp := h.inv.fdn
        have hne := List.pairwise_iff_getElem.1 hp i j (by omega) (by omega) j1
        rw [List.getD_eq_getElem?_getD, List.getElem?_eq_getElem (by omega)] at hn ⊢
        simp only [Option.getD_some] at hn ⊢
        rw [← hn]
        exact fun e => hne e.symm
      rw [← e]
      exact hK u8 (h'.ext (fu.trans F))
    · rw [if_neg (by rw [decide_eq_true_eq]; exact hn)]
      rw [W_succ (by omega)]
      refine hQ _ _ u8 (by omega) ⟨i + 1, rfl, by omega, rfl, fu.trans F, fun j hj => ?_⟩
      by_cases ej : j = i
      · subst ej; exact hn
      · exact hall j (by omega)
  · rw [if_neg (by simp only [decide_eq_true_eq]; omega)]
    have e : nameIx (fnames st) nm = -1 := lastN_none fun j hj => hall j (by omega)
    rw [← e]
    exact hK u (h'.ext fu)
/-- The first failure stays. -/
theorem mcfail {e1 pos : Int} {K : Int → World → Prop} (h : CMem ns w0 s tb st e q L w) (hK : ∀ w', CMem ns w0 s tb st (if e = 0 then e1 else e) (if e = 0 then pos else q) L w' → K (-1) w') : S.checkm_st_fail s e1 pos w K := by
  unfold S.checkm_st_fail
  refine h.err ?_
  by_cases he : e = 0
  · rw [if_pos (by simp [he])]
    rw [if_pos he, if_pos he] at hK
    refine h.reg (i := 9) (st' := st) (e' := e1) (q' := q) (by omega) (fun _ _ _ _ => rfl) ⟨rfl, rfl, rfl, rfl⟩ h.inv fun w1 h1 => ?_
    exact h1.reg (i := 10) (st' := st) (e' := e1) (q' := pos) (by omega) (fun _ _ _ _ => rfl) ⟨rfl, rfl, rfl, rfl⟩ h.inv fun w2 h2 => hK w2 h2
  · rw [if_neg (by simpa using he)]
    rw [if_neg he, if_neg he] at hK
    exact hK w h
theorem mfree_spec {x : Int} {K : Bool → World → Prop} (h : CMem ns w0 s tb st 0 0 L w) (h1 : ∀ w', mayD ns x st = .ok ((), st) → CMem ns w0 s tb st 0 0 L w' → K true w')
    (h2 : ∀ w' e q, mayD ns x st = .error (e, q) → e ≠ 0 → CMem ns w0 s tb st e q L w' → K false w') : S.checkm_st_free s (ndAt ns x).name (ndAt ns x).val (ndAt ns x).pos w K := by
  unfold S.checkm_st_free
  have h' := h
  obtain ⟨bty, bre, sfs, svs, g1, g2, g3, g4, g5, g6, g7⟩ := h.ex
  refine ldS g3 rfl ?_
  have hl := g7.len
  rw [vrs_len] at hl
  have hll : svs.l = st.vs.length := by omega
  have hvl := vs_le h.inv
  refine join_W (fun u => CMem ns w0 s tb st 0 0 L u ∧ st.vs.any (fun v => decide (v.level = st.lev ∧ bt v.name = bt (ndAt ns x).name)) = false) ?_ ?_
  · rintro u ⟨hu, hany⟩
    have many : ∀ u, CMem ns w0 s tb st 0 0 L u → ((2 ≤ (ndAt ns x).val ∧ 12 ≤ cntR st.vs) ∨ ((ndAt ns x).val < 2 ∧ 12 ≤ cntI st.vs)) → S.checkm_st_fail s 19 (ndAt ns x).pos u (fun r2 w => K false w) := by
      intro u hu hc
      refine mcfail hu fun w1 h1 => ?_
      refine h2 w1 19 (ndAt ns x).pos ?_ (by decide) h1
      unfold mayD
      rw [if_neg (by rw [hany]; decide), if_pos hc]; rfl
    have fine : ∀ u, CMem ns w0 s tb st 0 0 L u → ¬ ((2 ≤ (ndAt ns x).val ∧ 12 ≤ cntR st.vs) ∨ ((ndAt ns x).val < 2 ∧ 12 ≤ cntI st.vs)) → K true u := by
      intro u hu hc
      refine h1 u ?_ hu
      unfold mayD
      rw [if_neg (by rw [hany]; decide), if_neg hc]
    refine join_ ?_
    obtain ⟨_, _, _, _, b⟩ := hu.rc
    by_cases ht : 2 ≤ (ndAt ns x).val
    · rw [if_pos (by simpa using ht)]
      refine ldI b rfl ?_
      by_cases hc : 12 ≤ cntR st.vs
      · rw [if_pos (by simp only [decide_eq_true_eq]; omega)]
        exact many u hu (.inl ⟨ht, hc⟩)
      · rw [if_neg (by simp only [decide_eq_true_eq]; omega), if_neg (by simp only [decide_eq_true_eq]; omega)]
        exact fine u hu (by omega)
    · rw [if_neg (by simpa using ht), if_pos (by simp only [decide_eq_true_eq]; omega)]
      refine ldI b rfl ?_
      by_cases hc : 12 ≤ cntI st.vs
      · rw [if_pos (by simp only [decide_eq_true_eq]; omega)]
        exact many u hu (.inr ⟨by omega, hc⟩)
      · rw [if_neg (by simp only [decide_eq_true_eq]; omega)]
        exact fine u hu (by omega)
  · intro J hJ
    refine loopN (fun m v u => ∃ i : Nat, v = ((i : Int), ()) ∧ i ≤ st.vs.length ∧ m = st.vs.length - i ∧ Fr 0 0 w u ∧ (st.vs.take i).any (fun v => decide (v.level = st.lev ∧ bt v.name = bt (ndAt ns x).name)) = false) st.vs.length
      ⟨0, rfl, by omega, by omega, Fr.refl _ _ _, rfl⟩ ?_
    rintro m _ u ⟨i, rfl, hi, rfl, fu, hall⟩ Q hQ
    dsimp only
    by_cases hlt : i < st.vs.length
    · rw [if_pos (by simp only [decide_eq_true_eq]; omega)]
      have g7u := g7.frp (FrP.of0 (P := fun _ => False) fu) fun _ _ h => h
      rcases g7u with ⟨e1, e2⟩ | ⟨g, c1, c2, c3, junk, c4, c5⟩
      · have := congrArg List.length e2
        rw [vrs_len] at this
        simp at this
        omega
      refine ix c1 (by omega) (by omega) ?_
      have cell : ∀ k, k < 4 → (st.vs.flatMap vrV ++ junk)[i * 4 + k]? = (vrV (vrAt st.vs (i : Int)))[k]? := fun k hk => by
        rw [List.getElem?_append_left (by rw [vrs_len]; omega), vrCell hlt hk]
      rw [Nat.zero_add, Int.toNat_natCast]
      refine ldStr c4 (m := (vrAt st.vs (i : Int)).name) ((cell 0 (by omega)).trans rfl) ?_
      refine ldI c4 (m := (vrAt st.vs (i : Int)).ty) ((cell 1 (by omega)).trans rfl) ?_
      refine ldI c4 (m := (vrAt st.vs (i : Int)).slot) ((cell 2 (by omega)).trans rfl) ?_
      refine ldI c4 (m := (vrAt st.vs (i : Int)).level) ((cell 3 (by omega)).trans rfl) ?_
      refine newB fun u1 b1 f1 t1 => ?_
      refine Go.Den.st1 b1 (by simp) fun u2 b2 f2 t2 => ?_
      refine Go.Den.st1 b2 (by simp) fun u3 b3 f3 t3 => ?_
      refine Go.Den.st1 b3 (by simp) fun u4 b4 f4 t4 => ?_
      refine Go.Den.st1 b4 (by simp) fun u5 b5 f5 t5 => ?_
      refine drew_ ?_
      have F : Fr 0 0 u u5.drew := ((f1.any _ 1).trans (((f2.trans f3).trans f4).trans f5) |>.fresh (Nat.le_refl _) 0 0).drew
      have b5 := b5.drew
      generalize u5.drew = u5 at *
      have hu5 := h'.ext (fu.trans F)
      refine ldI b5 rfl ?_
      obtain ⟨_, _, _, _, b⟩ := hu5.rc
      refine ldI b rfl ?_
      have hat : st.vs.take (i + 1) = st.vs.take i ++ [vrAt st.vs (i : Int)] := by
        rw [List.take_succ_eq_append_getElem hlt]
        simp [vrAt, hlt]
      have next : ¬ ((vrAt st.vs (i : Int)).level = st.lev ∧ bt (vrAt st.vs (i : Int)).name = bt (ndAt ns x).name) → Q (W ((i : Int) + 1), ()) u5 := fun hn => by
        rw [W_succ (by omega)]
        refine hQ _ _ u5 (by omega) ⟨i + 1, rfl, by omega, rfl, fu.trans F, ?_⟩
        rw [hat, List.any_append, hall]
        simp only [List.any_cons, List.any_nil, decide_eq_false hn, Bool.or_false]
      by_cases hlv : (vrAt st.vs (i : Int)).level = st.lev
      · rw [if_pos (by simp [hlv])]
        refine ldStr b5 rfl ?_
        rw [strEq]
        by_cases hnm : bt (vrAt st.vs (i : Int)).name = bt (ndAt ns x).name
        · rw [if_pos (by rw [decide_eq_true_eq]; exact hnm)]
          refine mcfail hu5 fun w1 h1 => ?_
          refine h2 w1 14 (ndAt ns x).pos ?_ (by decide) h1
          unfold mayD
          rw [if_pos ?_]; rfl
          rw [List.any_eq_true]
          refine ⟨vrAt st.vs (i : Int), ?_, by rw [decide_eq_true_eq]; exact ⟨hlv, hnm⟩⟩
          simp [vrAt, hlt]
        · rw [if_neg (by rw [decide_eq_true_eq]; exact hnm)]
          exact next fun h => hnm h.2
      · rw [if_neg (by simpa using hlv)]
        exact next fun h => hlv h.1
    · rw [if_neg (by simp only [decide_eq_true_eq]; omega)]
      have : i = st.vs.length := by omega
      subst this
      rw [List.take_length] at hall
      exact hJ u ⟨h'.ext fu, hall⟩

theorem decl_fs (x : Int) (st : CS) : (decl ns x st).fs = st.fs.modify st.cur (bump (ndAt ns x).val (slotOf ns x st + 1)) := rfl
theorem bump_keep (ty : Int) (n : Nat) (f : Fn) : (bump ty n f).node = f.node ∧ (bump ty n f).ret = f.ret ∧ (bump ty n f).pi = f.pi ∧ (bump ty n f).pr = f.pr ∧ (bump ty n f).name = f.name := by
  unfold bump
  split <;> exact ⟨rfl, rfl, rfl, rfl, rfl⟩
theorem mem_modify {α : Type} {l : List α} {i : Nat} {g : α → α} {y : α} (h : y ∈ l.modify i g) : y ∈ l ∨ ∃ z ∈ l, y = g z := by
  obtain ⟨j, hj⟩ := List.mem_iff_getElem?.1 h
  rw [List.getElem?_modify] at hj
  cases e : l[j]? with
  | none => rw [e] at hj; cases hj
  | some z =>
    rw [e] at hj
    by_cases hij : i = j
    · simp [hij] at hj
      exact .inr ⟨z, List.mem_of_getElem? e, hj.symm⟩
    · simp [hij] at hj
      exact .inl (by rw [← hj]; exact List.mem_of_getElem? e)
theorem map_modify {α β : Type} (f : α → β) (g : α → α) (h : ∀ x, f (g x) = f x) (l : List α) (i : Nat) : (l.modify i g).map f = l.map f := by
  apply List.ext_getElem?
  intro j
  rw [List.getElem?_map, List.getElem?_map, List.getElem?_modify]
  cases l[j]? with
  | none => rfl
  | some z =>
    by_cases hij : i = j
    · simp [hij, h]
    · simp [hij]
theorem mayD_ok {x : Int} {s2 : CS} (h : mayD ns x st = .ok ((), s2)) : s2 = st ∧ (2 ≤ (ndAt ns x).val → cntR st.vs < 12) ∧ ((ndAt ns x).val < 2 → cntI st.vs < 12) := by
  unfold mayD at h
  split at h
  · cases h
  split at h
  · cases h
  · rename_i hc
    cases h
    exact ⟨rfl, fun h => by omega, fun h => by omega⟩
theorem cnt_snoc (vs : List Vr) (v : Vr) : cntI (vs ++ [v]) = cntI vs + (if v.ty < 2 then 1 else 0) ∧ cntR (vs ++ [v]) = cntR vs + (if 2 ≤ v.ty then 1 else 0) := by
  unfold cntI cntR
  simp [List.countP_append, List.countP_cons]
theorem CInv.decl {x : Int} (h : CInv ns st) (hm : (2 ≤ (ndAt ns x).val → cntR st.vs < 12) ∧ ((ndAt ns x).val < 2 → cntI st.vs < 12)) (ht : tyOK (ndAt ns x).val) : CInv ns (decl ns x st) := by
  have hk := fun f => bump_keep (ndAt ns x).val (slotOf ns x st + 1) f
  obtain ⟨c1, c2⟩ := cnt_snoc st.vs ⟨(ndAt ns x).name, (ndAt ns x).val, slotOf ns x st, st.lev⟩
  refine ⟨h.tl, by simpa [Go.Proofs.Qxb6500562aGreat.decl] using h.rl, ⟨fun v hv => ?_, fun f hf => ?_⟩, by simpa [Go.Proofs.Qxb6500562aGreat.decl] using h.fl, fun f hf => ?_, fun f hf => ?_, fun f hf => ?_, ?_, ?_, ?_, h.lv⟩
  · rcases List.mem_append.1 hv with hv | hv
    · exact h.ti.vs v hv
    · simp only [List.mem_singleton] at hv
      subst hv; exact ht
  · rcases mem_modify hf with hf | ⟨z, hz, rfl⟩
    · exact h.ti.fs f hf
    · rw [(hk z).2.1]; exact h.ti.fs z hz
  · rcases mem_modify hf with hf | ⟨z, hz, rfl⟩
    · exact h.fnd f hf
    · rw [(hk z).1]; exact h.fnd z hz
  · rcases mem_modify hf with hf | ⟨z, hz, rfl⟩
    · exact h.fpp f hf
    · rw [(hk z).2.2.1, (hk z).2.2.2.1]; exact h.fpp z hz
  · rcases mem_modify hf with hf | ⟨z, hz, rfl⟩
    · exact h.fpl f hf
    · rw [(hk z).1, (hk z).2.2.1, (hk z).2.2.2.1]; exact h.fpl z hz
  · show ((st.fs.modify st.cur _).map Fn.name).Pairwise _
    rw [map_modify _ _ (fun f => (hk f).2.2.2.2)]
    exact h.fdn
  · show cntI (st.vs ++ [_]) ≤ 12
    rw [c1]
    have := h.ci
    dsimp only
    split
    · have := hm.2 (by assumption); omega
    · omega
  · show cntR (st.vs ++ [_]) ≤ 12
    rw [c2]
    have := h.cr
    dsimp only
    split
    · have := hm.1 (by assumption); omega
    · omega
theorem fns_modify (l : List Fn) (i : Nat) (h : i < l.length) {g : Fn → Fn} {k : Nat} {v : Value} (hk : k < 7) (hg : fnV (g (fnAt l (i : Int))) = (fnV (fnAt l (i : Int))).set k v) : (l.flatMap fnV).set (i * 7 + k) v = (l.modify i g).flatMap fnV := by
  have key := flat_set (f := fnV) (c := 7) (fun _ => rfl) (g := fun _ => g (fnAt l (i : Int))) (k := k) (v := v) hk
  have e : l.modify i g = l.set i (g (fnAt l (i : Int))) := by
    apply List.ext_getElem?
    intro j
    rw [List.getElem?_modify, List.getElem?_set]
    by_cases hij : i = j
    · subst hij
      simp [h, fnAt]
    · simp [hij]
  rw [e]
  clear key e
  induction l generalizing i with
  | nil => simp at h
  | cons y l ih =>
    cases i with
    | zero =>
      simp only [List.flatMap_cons, Nat.zero_mul, Nat.zero_add, List.set_cons_zero]
      rw [List.set_append_left _ _ (by show k < 7; exact hk)]
      simp only [fnAt, Int.toNat_natCast, List.getD_cons_zero] at hg
      congr 1
      exact hg.symm
    | succ i =>
      simp only [List.flatMap_cons, List.set_cons_succ]
      have hy : (fnV y).length = 7 := rfl
      have e : (i + 1) * 7 + k = 7 + (i * 7 + k) := by omega
      rw [List.set_append_right _ _ (by rw [hy, e]; omega), hy, e, Nat.add_sub_cancel_left]
      congr 1
      have hat : fnAt (y :: l) ((i + 1 : Nat) : Int) = fnAt l (i : Int) := by simp [fnAt]
      rw [hat] at hg
      rw [hat]
      exact ih i (by simpa using h) hg
theorem mbind_spec {x : Int} {K : World → Prop} (h : CMem ns w0 s tb st 0 0 L w) (h0 : 0 ≤ x) (h1 : x < ns.length) (hm : (2 ≤ (ndAt ns x).val → cntR st.vs < 12) ∧ ((ndAt ns x).val < 2 → cntI st.vs < 12)) (ht : tyOK (ndAt ns x).val) (hc : st.cur < st.fs.length)
    (hK : ∀ w', CMem ns w0 s tb (decl ns x st) 0 0 L w' → K w') : S.checkm_st_bind s x w K := by
  unfold S.checkm_st_bind
  refine h.nd (k := 5) h0 h1 (by omega) rfl ?_
  have hinv := h.inv.decl hm ht
  have hvl := vs_le h.inv
  have hci := h.inv.ci
  have hcr := h.inv.cr
  obtain ⟨bty, bre, sfs, svs, g1, g2, g3, g4, g5, g6, g7⟩ := h.ex
  have g2c := g2
  obtain ⟨n1, n2, n3, n4, n5, n6, n7, n8, n9, n10⟩ := g2
  obtain ⟨cn1, cn2⟩ := cnt_snoc st.vs ⟨(ndAt ns x).name, (ndAt ns x).val, slotOf ns x st, st.lev⟩
  generalize hst' : decl ns x st = st' at *
  have hvs' : st'.vs = st.vs ++ [⟨(ndAt ns x).name, (ndAt ns x).val, slotOf ns x st, st.lev⟩] := by rw [← hst']; rfl
  -- the rest behind the counting
  refine join_P (fun (slot : Int) u => slot = slotOf ns x st ∧ ∃ vI vR : Int, vI = cntI st'.vs ∧ vR = cntR st'.vs ∧ Sep w0 (fun _ => False) u (cown s bty bre sfs svs) (L ++ tloc ns tb) ∧
      Blk u s [.slice (tsl ns tb).a (tsl ns tb).l (tsl ns tb).c, .slice (some ⟨bty, 0, none⟩) ns.length ns.length, .slice (some ⟨bre, 0, none⟩) ns.length ns.length, .slice sfs.a sfs.l sfs.c, .slice svs.a svs.l svs.c, .int .i64 vI, .int .i64 vR, .int .i64 st.cur, .int .i64 st.lev, .int .i64 0, .int .i64 0] ∧
      Blk u bty (ints st.ty) ∧ Blk u bre (ints st.ref) ∧ OS u sfs (st'.fs.flatMap fnV) 7 ∧ OS u svs (st.vs.flatMap vrV) 4) ?_ ?_
  · rintro slot u ⟨rfl, vI, vR, hvI, hvR, k1, k3, k4, k5, k6, k7⟩
    refine ldS k3 rfl (ix rfl h0 (by dsimp only; omega) ?_)
    have hrl := h.inv.rl
    refine stA k5 (by omega) fun u1 b1 f1 t1 => ?_
    have fp1 : FrP (fun b => b = bre) u u1 := FrP.of f1 fun b h1 h2 => by omega
    refine drew_ ?_
    have k1 := (k1.step0 (fp1.mono fun b hb => .inr (.inr (.inl hb)))).drew
    have k3 := (k3.fr f1 (by omega)).drew
    have k4 := (k4.fr f1 (by omega)).drew
    have b1 := b1.drew
    have k6 : OS u1.drew sfs (st'.fs.flatMap fnV) 7 := (k6.frp fp1 fun b hb e => n7 (by rw [← e]; exact hb)).frp (FrP.of0 (P := fun _ => False) (Fr.refl 0 0 u1).drew) fun _ _ h => h
    have k7 : OS u1.drew svs (st.vs.flatMap vrV) 4 := (k7.frp fp1 fun b hb e => n9 (by rw [← e]; exact hb)).frp (FrP.of0 (P := fun _ => False) (Fr.refl 0 0 u1).drew) fun _ _ h => h
    generalize u1.drew = u2 at *
    refine ldS k3 rfl (ldS k3 rfl ?_)
    have hne : ns.length ≠ 0 := by omega
    have kt : Blk u2 tb (ns.flatMap ndV) := (k1.lc (tb, ns.flatMap ndV) (by simp [tloc, hne])).1
    simp only [tsl, if_neg hne]
    obtain ⟨m', hm'⟩ : ∃ q : Nat, x = q := ⟨x.toNat, by omega⟩
    refine ix rfl h0 (by omega) ?_
    refine ldStr kt (m := (ndAt ns x).name) ?_ ?_
    · rw [Nat.zero_add, hm', Int.toNat_natCast, ndCell (by omega) (by omega)]; rfl
    refine ldI k3 rfl ?_
    refine newB fun u3 b3 f3 t3 => ?_
    have k3' := k3.fr f3 (by omega)
    refine ⟨held k3 k3', ?_⟩
    have k7' := k7.frp (FrP.of0 (P := fun _ => False) f3) fun _ _ h => h
    have hl7 := k7.len
    rw [vrs_len] at hl7
    refine appO k7' b3 (by rfl) (by omega) rfl rfl (by show (svs.l + 1) * 40 ≤ 2 ^ 46; omega) fun svs' u4 o4 hl4 hg4 f4 => ?_
    have k1' := k1.ext f3
    have hsow := (k1'.ow s (.inl rfl)).1
    have htow := (k1'.ow bty (.inr (.inl rfl))).1
    have hrow := (k1'.ow bre (.inr (.inr (.inl rfl)))).1
    have own' : ∀ b, owns svs' b → owns svs b ∨ u3.heap.size ≤ b := fun b hb => hg4.owns hb
    have nsv : ∀ b, b < u3.heap.size → ¬ owns svs b → ¬ owns svs' b := fun b hb hn ho => by
      rcases own' b ho with h | h
      · exact hn h
      · omega
    refine Go.Den.st1 (k3'.frp f4 n5) (by simp) fun u5 b5 f5 t5 => ?_
    have fp5 : FrP (fun b => b = s) u4 u5 := FrP.of f5 fun b h1 h2 => by omega
    have hs4 : Sep w0 (fun _ => False) u4 (cown s bty bre sfs svs') (L ++ tloc ns tb) := k1'.step (f4.mono fun b hb => .inr (.inr (.inr (.inr hb)))) fun b hb => by
      have hle := f4.1.1
      rcases hb with rfl | rfl | rfl | hb | hb
      · exact ⟨.inl (.inl rfl), by omega⟩
      · exact ⟨.inl (.inr (.inl rfl)), by omega⟩
      · exact ⟨.inl (.inr (.inr (.inl rfl))), by omega⟩
      · exact ⟨.inl (.inr (.inr (.inr (.inl hb)))), by have := (k1'.ow b (.inr (.inr (.inr (.inl hb))))).1; omega⟩
      · refine ⟨?_, o4.lt hb⟩
        rcases own' b hb with h | h
        · exact .inl (.inr (.inr (.inr (.inr h))))
        · exact .inr h
    have hs5 := hs4.step0 (fp5.mono fun b hb => .inl hb)
    refine hK u5 ⟨h.good, h.le, hinv, bty, bre, sfs, svs', hs5, ⟨n1, n2, n3, n4, nsv s hsow n5, n6, n7, nsv bty htow n8, nsv bre hrow n9, fun b hb => nsv b ((k1'.ow b (.inr (.inr (.inr (.inl hb))))).1) (n10 b hb)⟩, ?_, ?_, ?_, ?_, ?_⟩
    · have : cRec ns tb bty bre sfs svs' st' 0 0 = [.slice (tsl ns tb).a (tsl ns tb).l (tsl ns tb).c, .slice (some ⟨bty, 0, none⟩) ns.length ns.length, .slice (some ⟨bre, 0, none⟩) ns.length ns.length, .slice sfs.a sfs.l sfs.c, .slice svs'.a svs'.l svs'.c, .int .i64 vI, .int .i64 vR, .int .i64 st.cur, .int .i64 st.lev, .int .i64 0, .int .i64 0] := by
        unfold cRec
        rw [hvI, hvR, ← hst']
        rfl
      rw [this]
      simpa [tsl, hne] using b5
    · have : st'.ty = st.ty := by rw [← hst']; rfl
      rw [this]
      exact ((k4.fr f3 (by omega)).frp f4 n8).fr f5 (by omega)
    · have : st'.ref = st.ref.set x.toNat (slotOf ns x st) := by rw [← hst']; rfl
      rw [this]
      exact ((b1.fr f3 (by omega)).frp f4 n9).fr f5 (by omega)
    · exact (((k6.frp (FrP.of0 (P := fun _ => False) f3) fun _ _ h => h).frp f4 fun b hb => n10 b hb).frp fp5 fun b hb e => n4 (by rw [← e]; exact hb))
    · rw [hvs', List.flatMap_append]
      have := o4.frp fp5 fun b hb e => nsv s hsow n5 (by rw [← e]; exact hb)
      simpa [vrV] using this
  · intro J hJ
    have hfl := h.inv.fl
    have hl6 := g6.len
    rw [fns_len] at hl6
    -- the count of one kind and the most of it
    have most : ∀ (k c : Nat) (fld : Fn → Int), (k = 4 ∨ k = 5) → (∀ f, (fnV f)[k]? = some (.int .i64 (fld f))) → ∀ (u : World) (vs5 : List Value), Sep w0 (fun _ => False) u (cown s bty bre sfs svs) (L ++ tloc ns tb) → OS u sfs (st.fs.flatMap fnV) 7 → vs5[3]? = some (.slice sfs.a sfs.l sfs.c) → vs5[7]? = some (.int .i64 st.cur) → vs5[k + 1]? = some (.int .i64 c) → Blk u s vs5 → 
        (∀ f : Fn, fnV ((bump (ndAt ns x).val (slotOf ns x st + 1)) f) = if fld f < c then (fnV f).set k (.int .i64 c) else fnV f) →
        ∀ K2 : World → Prop, (∀ u', Fr 0 0 u u' ∨ (∃ g, owns sfs g ∧ Fr g 1 u u') → OS u' sfs (st'.fs.flatMap fnV) 7 → K2 u') →
        (LdI .i64 u ⟨s, k + 1, none⟩ fun nr_21 => LdS u ⟨s, 3, none⟩ fun funcs_22 => LdI .i64 u ⟨s, 7, none⟩ fun cur_23 => Ix funcs_22.a funcs_22.l cur_23 fun b24 o25 =>
          LdI .i64 u ⟨b24, o25 + Int.toNat cur_23 * 7 + k, none⟩ fun LR_26 =>
          if (decide (nr_21 > LR_26)) = true then
            Drew u fun w => LdS w ⟨s, 3, none⟩ fun funcs_27 => LdI .i64 w ⟨s, 7, none⟩ fun cur_28 => LdI .i64 w ⟨s, k + 1, none⟩ fun nr_29 => Ix funcs_27.a funcs_27.l cur_28 fun b30 o31 => St1 w ⟨b30, o31 + Int.toNat cur_28 * 7 + k, none⟩ (.int .i64 nr_29) K2
          else K2 u) := by
      intro k c fld hk hfld u vs5 k1 k6 v3 v7 vk kb hbump K2 hK2
      refine ldI kb vk (ldS kb v3 (ldI kb v7 ?_))
      have hfs' : st'.fs = st.fs.modify st.cur (bump (ndAt ns x).val (slotOf ns x st + 1)) := by rw [← hst']; rfl
      rcases k6 with ⟨e1, e2⟩ | ⟨g, c1, c2, c3, junk, c4, c5⟩
      · have := congrArg List.length e2
        rw [fns_len] at this
        simp at this
        omega
      dsimp only
      refine ix c1 (by omega) (by omega) ?_
      have hflen := fns_len st.fs
      refine ldI c4 (m := fld (fnAt st.fs (st.cur : Int))) ?_ ?_
      · rw [Nat.zero_add, Int.toNat_natCast, List.getElem?_append_left (by omega), fnCell hc (by omega)]
        exact hfld _
      by_cases hgt : fld (fnAt st.fs (st.cur : Int)) < c
      · rw [if_pos (by simp only [decide_eq_true_eq]; omega)]
        refine drew_ ?_
        have kb := kb.drew
        have c4 := c4.drew
        have F0 : Fr 0 0 u u.drew := (Fr.refl 0 0 u).drew
        generalize u.drew = u at *
        refine ldS kb v3 (ldI kb v7 (ldI kb vk ?_))
        refine ix c1 (by omega) (by dsimp only; omega) ?_
        rw [Nat.zero_add, Int.toNat_natCast]
        refine Go.Den.st1 c4 (by rw [List.length_append]; omega) fun u1 d1 f1 t1 => ?_
        refine hK2 u1 (.inr ⟨g, c1, ?_⟩) ?_
        · exact (F0.any g 1).trans f1
        · rw [List.set_append_left _ _ (by omega), fns_modify st.fs st.cur hc (g := bump (ndAt ns x).val (slotOf ns x st + 1)) (by omega) (by rw [hbump, if_pos hgt]), ← hfs'] at d1
          have hlen' : (st'.fs.flatMap fnV).length = (st.fs.flatMap fnV).length := by rw [fns_len, fns_len, hfs', List.length_modify]
          exact .inr ⟨g, c1, by rw [hlen']; exact c2, c3, junk, d1, by rw [List.length_append, hlen', ← List.length_append]; exact c5⟩
      · rw [if_neg (by simp only [decide_eq_true_eq]; omega)]
        have hsame : st'.fs.flatMap fnV = st.fs.flatMap fnV := by
          rw [hfs']
          have hb := hbump (fnAt st.fs (st.cur : Int))
          rw [if_neg hgt] at hb
          have e : (fnV (fnAt st.fs (st.cur : Int))) = (fnV (fnAt st.fs (st.cur : Int))).set 0 (.int .i64 (fnAt st.fs (st.cur : Int)).node) := rfl
          have key := fns_modify st.fs st.cur hc (g := bump (ndAt ns x).val (slotOf ns x st + 1)) (k := 0) (v := .int .i64 (fnAt st.fs (st.cur : Int)).node) (by omega) (by rw [hb]; exact e)
          rw [← key]
          have hcell := fnCell (l := st.fs) (i := st.cur) (k := 0) hc (by omega)
          apply List.ext_getElem?
          intro j
          rw [List.getElem?_set]
          by_cases hj : st.cur * 7 + 0 = j
          · have hflen := fns_len st.fs
            rw [if_pos hj, if_pos (by rw [hflen]; omega), ← hj, hcell]; rfl
          · rw [if_neg hj]
        refine hK2 u (.inl (Fr.refl 0 0 u)) ?_
        rw [hsame]
        exact .inr ⟨g, c1, c2, c3, junk, c4, c5⟩
    have after : ∀ (u u' : World) (vs5 : List Value), Fr 0 0 u u' ∨ (∃ g, owns sfs g ∧ Fr g 1 u u') → Sep w0 (fun _ => False) u (cown s bty bre sfs svs) (L ++ tloc ns tb) → Blk u s vs5 → Blk u bty (ints st.ty) → Blk u bre (ints st.ref) → OS u svs (st.vs.flatMap vrV) 4 →
        Sep w0 (fun _ => False) u' (cown s bty bre sfs svs) (L ++ tloc ns tb) ∧ Blk u' s vs5 ∧ Blk u' bty (ints st.ty) ∧ Blk u' bre (ints st.ref) ∧ OS u' svs (st.vs.flatMap vrV) 4 := by
      intro u u' vs5 hf k1 k3 k4 k5 k7
      have hfp : FrP (owns sfs) u u' := by
        rcases hf with hf | ⟨g, hg, hf⟩
        · exact FrP.of0 hf
        · exact FrP.of hf fun b h1 h2 => by
            have : b = g := by omega
            rw [this]; exact hg
      exact ⟨k1.step0 (hfp.mono fun b hb => .inr (.inr (.inr (.inl hb)))), k3.frp hfp n4, k4.frp hfp n6, k5.frp hfp n7, k7.frp hfp fun b hb ho => n10 b ho hb⟩
    by_cases hv : 2 ≤ (ndAt ns x).val
    · rw [if_pos (by simpa using hv)]
      have hslot : slotOf ns x st = cntR st.vs := by unfold slotOf; rw [if_pos hv]
      refine ldI g3 rfl (ldI g3 rfl ?_)
      rw [W_succ (by omega)]
      refine Go.Den.st1 g3 (by simp [cRec]) fun u1 b1 f1 t1 => ?_
      have fp : FrP (fun b => b = s) w u1 := FrP.of f1 fun b h1 h2 => by omega
      refine drew_ ?_
      have k1 := (g1.step0 (fp.mono fun b hb => .inl hb)).drew
      have b1 := b1.drew
      have k4 := (g4.fr f1 (by omega)).drew
      have k5 := (g5.fr f1 (by omega)).drew
      have k6 : OS u1.drew sfs (st.fs.flatMap fnV) 7 := (g6.frp fp fun b hb e => n4 (by rw [← e]; exact hb)).frp (FrP.of0 (P := fun _ => False) (Fr.refl 0 0 u1).drew) fun _ _ h => h
      have k7 : OS u1.drew svs (st.vs.flatMap vrV) 4 := (g7.frp fp fun b hb e => n5 (by rw [← e]; exact hb)).frp (FrP.of0 (P := fun _ => False) (Fr.refl 0 0 u1).drew) fun _ _ h => h
      generalize u1.drew = u2 at *
      refine most 5 (cntR st.vs + 1) Fn.lr (.inr rfl) (fun f => rfl) u2 _ k1 k6 rfl rfl rfl b1 ?_ _ fun u3 hf3 o3 => ?_
      · intro f
        unfold bump
        rw [if_pos hv, hslot]
        by_cases hh : f.lr < ((cntR st.vs + 1 : Nat) : Int)
        · rw [if_pos hh, if_pos hh]; rfl
        · rw [if_neg hh, if_neg hh]
      · obtain ⟨a1, a2, a3, a4, a5⟩ := after u2 u3 _ hf3 k1 b1 k4 k5 k7
        refine hJ _ u3 ⟨by rw [hslot], cntI st.vs, ((cntR st.vs + 1 : Nat) : Int), ?_, ?_, a1, a2, a3, a4, o3, a5⟩
        · rw [hvs', cn1, if_neg (by dsimp only; omega)]; rfl
        · rw [hvs', cn2, if_pos (by dsimp only; omega)]
    · rw [if_neg (by simpa using hv)]
      have hslot : slotOf ns x st = cntI st.vs := by unfold slotOf; rw [if_neg hv]
      refine ldI g3 rfl (ldI g3 rfl ?_)
      rw [W_succ (by omega)]
      refine Go.Den.st1 g3 (by simp [cRec]) fun u1 b1 f1 t1 => ?_
      have fp : FrP (fun b => b = s) w u1 := FrP.of f1 fun b h1 h2 => by omega
      refine drew_ ?_
      have k1 := (g1.step0 (fp.mono fun b hb => .inl hb)).drew
      have b1 := b1.drew
      have k4 := (g4.fr f1 (by omega)).drew
      have k5 := (g5.fr f1 (by omega)).drew
      have k6 : OS u1.drew sfs (st.fs.flatMap fnV) 7 := (g6.frp fp fun b hb e => n4 (by rw [← e]; exact hb)).frp (FrP.of0 (P := fun _ => False) (Fr.refl 0 0 u1).drew) fun _ _ h => h
      have k7 : OS u1.drew svs (st.vs.flatMap vrV) 4 := (g7.frp fp fun b hb e => n5 (by rw [← e]; exact hb)).frp (FrP.of0 (P := fun _ => False) (Fr.refl 0 0 u1).drew) fun _ _ h => h
      generalize u1.drew = u2 at *
      refine most 4 (cntI st.vs + 1) Fn.li (.inl rfl) (fun f => rfl) u2 _ k1 k6 rfl rfl rfl b1 ?_ _ fun u3 hf3 o3 => ?_
      · intro f
        unfold bump
        rw [if_neg hv, hslot]
        by_cases hh : f.li < ((cntI st.vs + 1 : Nat) : Int)
        · rw [if_pos hh, if_pos hh]; rfl
        · rw [if_neg hh, if_neg hh]
      · obtain ⟨a1, a2, a3, a4, a5⟩ := after u2 u3 _ hf3 k1 b1 k4 k5 k7
        refine hJ _ u3 ⟨by rw [hslot], ((cntI st.vs + 1 : Nat) : Int), cntR st.vs, ?_, ?_, a1, a2, a3, a4, o3, a5⟩
        · rw [hvs', cn1, if_pos (by dsimp only; omega)]
        · rw [hvs', cn2, if_neg (by dsimp only; omega)]; rfl
end Go.Proofs.Qxb6500562aGreat
