/-
  The model's checker: statements, blocks.
-/
import Derived.Test.Qxb6500562aGreatCkQ
namespace Go.Proofs.Qxb6500562aGreat
open Go.Den Go.Zip
set_option linter.unusedVariables false
set_option linter.unusedSimpArgs false
variable {α β : Type} {ns : List Nd} {w0 w w' : World} {s tb p : Nat} {st : CS} {e q : Int} {L : List (Nat × List Value)} {vs : List Value} {nv : List Vr × Nat} {hds : List Int}

theorem cnt_app (a b : List Vr) : cntI (a ++ b) = cntI a + cntI b ∧ cntR (a ++ b) = cntR a + cntR b := by
  unfold cntI cntR
  simp [List.countP_append]
theorem CInv.cut {pv r : List Vr} (h : CInv ns st) (hv : st.vs = pv ++ r) : CInv ns { st with vs := pv } := by
  obtain ⟨c1, c2⟩ := cnt_app pv r
  have h1 := h.ci
  have h2 := h.cr
  rw [hv] at h1 h2
  exact ⟨h.tl, h.rl, ⟨fun v hh => h.ti.vs v (by rw [hv]; exact List.mem_append_left _ hh), h.ti.fs⟩, h.fl, h.fnd, h.fpp, h.fpl, h.fdn, by show cntI pv ≤ 12; omega, by show cntR pv ≤ 12; omega, h.lv⟩
/-- The variables behind pv go. -/
theorem CMem.cut {pv r : List Vr} {K : World → Prop} (h : CMem ns w0 s tb st e q L w) (hv : st.vs = pv ++ r) (hK : ∀ w', CMem ns w0 s tb { st with vs := pv } e q L w' → K w') :
    LdS w ⟨s, 4, none⟩ fun v => CutS 4 v 0 (pv.length : Int) (v.c : Int) fun l => St1 w ⟨s, 4, none⟩ (.slice l.a l.l l.c) fun w => St1 w ⟨s, 5, none⟩ (.int .i64 (cntI pv)) fun w => St1 w ⟨s, 6, none⟩ (.int .i64 (cntR pv)) fun w => K w := by
  have hvl := vs_le h.inv
  obtain ⟨bty, bre, sfs, svs, g1, g2, g3, g4, g5, g6, g7⟩ := h.ex
  have g2c := g2
  obtain ⟨n1, n2, n3, n4, n5, n6, n7, n8, n9, n10⟩ := g2
  refine ldS g3 rfl ?_
  have hl := g7.len
  rw [vrs_len] at hl
  have hll : svs.l = st.vs.length := by omega
  have hpl : pv.length ≤ st.vs.length := by rw [hv]; simp
  have hlc : svs.l ≤ svs.c := by
    rcases g7 with ⟨rfl, _⟩ | ⟨_, _, _, h, _⟩
    · simp
    · exact h
  refine ⟨by omega, by omega, by dsimp only; omega, by dsimp only; omega, ?_⟩
  simp only [Int.toNat_natCast, Int.toNat_zero, Nat.sub_zero, Nat.zero_mul]
  have ha : (if svs.c = 0 then svs.a else svs.a.map fun x => x.add 0) = svs.a := by
    rcases g7 with ⟨rfl, _⟩ | ⟨g, c1, _⟩
    · rfl
    · rw [c1]
      split
      · rfl
      · simp [add_mk]
  rw [ha]
  refine Go.Den.st1 g3 (by simp [cRec]) fun u1 b1 f1 t1 => ?_
  refine Go.Den.st1 b1 (by simp [cRec]) fun u2 b2 f2 t2 => ?_
  refine Go.Den.st1 b2 (by simp [cRec]) fun u3 b3 f3 t3 => ?_
  have F := (f1.trans f2).trans f3
  have fp : FrP (fun b => b = s) w u3 := FrP.of F fun b h1 h2 => by omega
  have how : ∀ b, owns ⟨svs.a, pv.length, svs.c⟩ b ↔ owns svs b := fun b => Iff.rfl
  refine hK u3 ⟨h.good, h.le, h.inv.cut hv, bty, bre, sfs, ⟨svs.a, pv.length, svs.c⟩, g1.step0 (fp.mono fun b hb => .inl hb), g2c, b3, g4.fr F (by omega), g5.fr F (by omega), g6.frp fp fun b hb e => n4 (by rw [← e]; exact hb), ?_⟩
  have g7' := g7.frp fp fun b hb e => n5 (by rw [← e]; exact hb)
  rcases g7' with ⟨e1, e2⟩ | ⟨g, c1, c2, c3, junk, c4, c5⟩
  · have : st.vs = [] := by
      have := congrArg List.length e2
      rw [vrs_len] at this
      have h0 : st.vs.length = 0 := by simp only [List.length_nil] at this; omega
      exact List.length_eq_zero_iff.1 h0
    rw [this] at hv
    have hp : pv = [] := (List.append_eq_nil_iff.1 hv.symm).1
    left
    rw [e1]
    exact ⟨by rw [hp]; rfl, by rw [hp]; rfl⟩
  · refine .inr ⟨g, c1, by rw [vrs_len], by dsimp only; omega, r.flatMap vrV ++ junk, ?_, ?_⟩
    · have : (pv.flatMap vrV ++ (r.flatMap vrV ++ junk)) = st.vs.flatMap vrV ++ junk := by rw [hv, List.flatMap_append, List.append_assoc]
      rw [this]; exact c4
    · have : (pv.flatMap vrV ++ (r.flatMap vrV ++ junk)) = st.vs.flatMap vrV ++ junk := by rw [hv, List.flatMap_append, List.append_assoc]
      rw [this]; exact c5
abbrev Q0 := Nat → Int → World → (World → Prop) → Prop
def kSt (k : Int) : Prop := 3 ≤ k ∧ k ≤ 9
/-- R serves the statements below b. -/
def SvS (ns : List Nd) (w0 : World) (s tb : Nat) (R : Q0) (n : Nat) (b : Int) : Prop :=
  ∀ (x lo : Int) st nv hds L w K, 0 ≤ lo → lo ≤ x → x < b → GI ns lo x → kSt (ndAt ns x).kind → (st.lev : Int) + x ≤ 300 → st.cur < st.fs.length → CMem ns w0 s tb st 0 0 L w → Pre nv st → st.fs.map Fn.node = hds → (∀ w', CM ns w0 s tb nv hds (ckS ns n x st) L w' → K w') → R s x w K
def SvB (ns : List Nd) (w0 : World) (s tb : Nat) (R : Q0) (n : Nat) (b : Int) : Prop :=
  ∀ (x lo : Int) st nv hds L w K, 0 ≤ lo → lo ≤ x → x < b → GI ns lo x → (ndAt ns x).kind = 2 → (st.lev : Int) + x ≤ 300 → st.cur < st.fs.length → CMem ns w0 s tb st 0 0 L w → Pre nv st → st.fs.map Fn.node = hds → (∀ w', CM ns w0 s tb nv hds (ckB ns (ckS ns n) x st) L w' → K w') → R s x w K
/-- What a statement keeps. -/
structure KpS (st st' : CS) : Prop where
  cur : st'.cur = st.cur
  lev : st'.lev = st.lev
  fl : st'.fs.length = st.fs.length
theorem KpS.refl (st : CS) : KpS st st := ⟨rfl, rfl, rfl⟩
theorem KpS.trans {a b c : CS} (h : KpS a b) (k : KpS b c) : KpS a c := ⟨k.cur.trans h.cur, k.lev.trans h.lev, k.fl.trans h.fl⟩
theorem ckL_kp {f : Int → CS → CR Unit} (hf : ∀ x st u st', f x st = .ok (u, st') → KpS st st') : ∀ (l : List Int) (st : CS) (u : Unit) (st' : CS), ckL f l st = .ok (u, st') → KpS st st'
  | [], st, u, st', h => by cases h; exact KpS.refl _
  | x :: l, st, u, st', h => by
    obtain ⟨_, s1, e1, h⟩ := cb_inv h
    exact (hf _ _ _ _ e1).trans (ckL_kp hf l _ _ _ h)
/-- An expression's check keeps all but the marks. -/
structure KpE (st st' : CS) : Prop where
  fs : st'.fs = st.fs
  vs : st'.vs = st.vs
  cur : st'.cur = st.cur
  lev : st'.lev = st.lev
theorem KpE.refl (st : CS) : KpE st st := ⟨rfl, rfl, rfl, rfl⟩
theorem KpE.trans {a b c : CS} (h : KpE a b) (k : KpE b c) : KpE a c := ⟨k.fs.trans h.fs, k.vs.trans h.vs, k.cur.trans h.cur, k.lev.trans h.lev⟩
theorem setTy_kp {x t : Int} {st st' : CS} {r : Int} (h : setTy x t st = .ok (r, st')) : KpE st st' := by cases h; exact ⟨rfl, rfl, rfl, rfl⟩
theorem ckArgs_kp {e : Int → CS → CR Int} (he : ∀ x st t st', e x st = .ok (t, st') → KpE st st') : ∀ (l : List Int) (st : CS) (ts : List Int) (st' : CS), ckArgs e l st = .ok (ts, st') → KpE st st'
  | [], st, ts, st', h => by cases h; exact KpE.refl _
  | x :: l, st, ts, st', h => by
    obtain ⟨_, s1, e1, h⟩ := cb_inv h
    obtain ⟨_, s2, e2, h⟩ := cb_inv h
    cases h
    exact (he _ _ _ _ e1).trans (ckArgs_kp he l _ _ _ e2)
theorem is_kp {e : Int → CS → CR Int} (he : ∀ x st t st', e x st = .ok (t, st') → KpE st st') {x ty : Int} {st st' : CS} {u : Unit} (h : isTy ns e x ty st = .ok (u, st')) : KpE st st' := by
  obtain ⟨t, s1, e1, h⟩ := cb_inv h
  split at h
  · cases h; exact he _ _ _ _ e1
  · cases h
theorem ckE_kp : ∀ (n : Nat) (x : Int) (st : CS) (t : Int) (st' : CS), ckE ns n x st = .ok (t, st') → KpE st st'
  | 0, x, st, t, st', h => by cases h
  | n + 1, x, st, t, st', q => by
    have ih := ckE_kp n
    unfold ckE at q
    generalize hnd : ndAt ns x = nd at *
    by_cases k11 : nd.kind = 11
    · rw [if_pos k11] at q; exact setTy_kp q
    rw [if_neg k11] at q
    by_cases k12 : nd.kind = 12
    · rw [if_pos k12] at q
      split at q
      · cases q
      · exact KpE.trans (b := setRef x _ st) ⟨rfl, rfl, rfl, rfl⟩ (setTy_kp q)
    rw [if_neg k12] at q
    by_cases k13 : nd.kind = 13
    · rw [if_pos k13] at q
      split at q
      · cases q
      · obtain ⟨ts, s1, e1, q⟩ := cb_inv q
        split at q
        · cases q
        · split at q
          · cases q
          · exact (ckArgs_kp ih _ _ _ _ e1).trans (KpE.trans (b := setRef x _ s1) ⟨rfl, rfl, rfl, rfl⟩ (setTy_kp q))
    rw [if_neg k13] at q
    by_cases k14 : nd.kind = 14
    · rw [if_pos k14] at q
      obtain ⟨t1, s1, e1, q⟩ := cb_inv q
      split at q
      · cases q
      · obtain ⟨_, s2, e2, q⟩ := cb_inv q
        exact ((ih _ _ _ _ e1).trans (is_kp ih e2)).trans (setTy_kp q)
    rw [if_neg k14] at q
    by_cases k15 : nd.kind = 15
    · rw [if_pos k15] at q
      split at q
      · cases q
      · obtain ⟨_, s2, e2, q⟩ := cb_inv q
        exact (is_kp ih e2).trans (setTy_kp q)
    rw [if_neg k15] at q
    by_cases k16 : nd.kind = 16
    · rw [if_pos k16] at q
      obtain ⟨t1, s1, e1, q⟩ := cb_inv q
      split at q
      · cases q
      · exact (ih _ _ _ _ e1).trans (setTy_kp q)
    rw [if_neg k16] at q
    by_cases k19 : nd.kind = 19
    · rw [if_pos k19] at q
      obtain ⟨_, s2, e2, q⟩ := cb_inv q
      exact (is_kp ih e2).trans (setTy_kp q)
    rw [if_neg k19] at q
    by_cases k18 : nd.kind = 18
    · rw [if_pos k18] at q
      split at q
      · obtain ⟨_, s1, e1, q⟩ := cb_inv q
        obtain ⟨_, s2, e2, q⟩ := cb_inv q
        exact ((is_kp ih e1).trans (is_kp ih e2)).trans (setTy_kp q)
      split at q
      · obtain ⟨t1, s1, e1, q⟩ := cb_inv q
        split at q
        · cases q
        · obtain ⟨_, s2, e2, q⟩ := cb_inv q
          exact ((ih _ _ _ _ e1).trans (is_kp ih e2)).trans (setTy_kp q)
      · obtain ⟨_, s1, e1, q⟩ := cb_inv q
        obtain ⟨_, s2, e2, q⟩ := cb_inv q
        exact ((is_kp ih e1).trans (is_kp ih e2)).trans (setTy_kp q)
    · rw [if_neg k18] at q; exact setTy_kp q
theorem KpE.toS {a b : CS} (h : KpE a b) : KpS a b := ⟨h.cur, h.lev, by rw [h.fs]⟩
theorem mayD_st {x : Int} {st st' : CS} {u : Unit} (h : mayD ns x st = .ok (u, st')) : st' = st := by
  unfold mayD at h
  split at h
  · cases h
  split at h
  · cases h
  · cases h; rfl
theorem decl_kp (x : Int) (st : CS) : KpS st (decl ns x st) := ⟨rfl, rfl, by simp [decl]⟩
theorem ckB_kp {f : Int → CS → CR Unit} (hf : ∀ x st u st', f x st = .ok (u, st') → KpS st st') {b : Int} {st st' : CS} {u : Unit} (h : ckB ns f b st = .ok (u, st')) : KpS st st' := by
  obtain ⟨_, s1, e1, h⟩ := cb_inv h
  cases h
  have := ckL_kp hf _ _ _ _ e1
  exact ⟨this.cur, rfl, this.fl⟩
theorem ckS_kp : ∀ (n : Nat) (x : Int) (st : CS) (u : Unit) (st' : CS), ckS ns n x st = .ok (u, st') → KpS st st'
  | 0, x, st, u, st', h => by cases h
  | n + 1, x, st, u, st', q => by
    have ih := ckS_kp n
    have ie := ckE_kp (ns := ns) ns.length
    unfold ckS at q
    split at q
    · obtain ⟨_, s1, e1, q⟩ := cb_inv q
      obtain ⟨_, s2, e2, q⟩ := cb_inv q
      cases q
      rw [mayD_st e1] at e2
      exact (is_kp ie e2).toS.trans (decl_kp x s2)
    split at q
    · obtain ⟨_, s1, e1, q⟩ := cb_inv q
      exact (ie _ _ _ _ e1).toS.trans (is_kp ie q).toS
    split at q
    · obtain ⟨_, s1, e1, q⟩ := cb_inv q
      obtain ⟨_, s2, e2, q⟩ := cb_inv q
      have h12 := (is_kp ie e1).toS.trans (ckB_kp ih e2)
      split at q
      · cases q; exact h12
      · exact h12.trans (ckB_kp ih q)
    split at q
    · obtain ⟨_, s1, e1, q⟩ := cb_inv q
      exact (is_kp ie e1).toS.trans (ckB_kp ih q)
    split at q
    · exact (is_kp ie q).toS
    split at q
    · exact (is_kp ie q).toS
    split at q
    · obtain ⟨_, s1, e1, q⟩ := cb_inv q
      cases q
      exact (ie _ _ _ _ e1).toS
    · cases q; exact KpS.refl _
end Go.Proofs.Qxb6500562aGreat
