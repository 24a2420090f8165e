/-
  The pager: its calls.
-/
import Derived.Test.Qxb6500564aGreatPgB
namespace Go.Proofs.Qxb6500564aGreat
open Go.Den Go.Zip
set_option linter.unusedVariables false
set_option linter.unusedSimpArgs false
variable {dq : Nat}
variable {w w' : World} {p l : Nat} {op : Bool} {fs : List Frm} {ord : List Int} {B : List Bk} {R ws : List Wr} {O O' Ol : Nat → Prop} {i n : Nat} {cur : Nat → Bk}

structure PS (dq : Nat) (w : World) (p l : Nat) (Ol : Nat → Prop) (fs : List Frm) (ord : List Int) (ws : List Wr) (B : List Bk) (R : List Wr) (op : Bool) (cur : Nat → Bk) : Prop where
  rc : Blk w p (pgV l op fs ord)
  oo : OrdOk ord
  ok : FOk fs (appl B R) ws op
  li : LI dq w l B R ws op Ol
  np : ¬ Ol p
  vw : ∀ n, n < 72 → vw fs (appl B R) ws n = cur n
/-- The pager at p: the pages as they stand. -/
def PI (dq : Nat) (w : World) (p : Nat) (B : List Bk) (R : List Wr) (cur : Nat → Bk) (op : Bool) (O : Nat → Prop) : Prop := ∃ l Ol fs ord ws, PS dq w p l Ol fs ord ws B R op cur ∧ O = U (fun b => b = p) Ol
theorem PS.frp {Q : Nat → Prop} (s : PS dq w p l Ol fs ord ws B R op cur) (F : FrP Q w w') (hn : ∀ b, U (fun b => b = p) Ol b → ¬ Q b) : PS dq w' p l Ol fs ord ws B R op cur :=
  { s with rc := s.rc.frp F (hn _ (.inl rfl)), li := s.li.frp F fun b hb => hn _ (.inr hb) }
theorem PI.frp {Q : Nat → Prop} (s : PI dq w p B R cur op O) (F : FrP Q w w') (hn : ∀ b, O b → ¬ Q b) : PI dq w' p B R cur op O := by
  obtain ⟨l, Ol, fs, ord, ws, s, rfl⟩ := s
  exact ⟨l, Ol, fs, ord, ws, s.frp F hn, rfl⟩
theorem PI.fr0 (s : PI dq w p B R cur op O) (F : Fr 0 0 w w') : PI dq w' p B R cur op O := s.frp (FrP.of0 F) fun _ _ h => h
theorem PI.lt {b : Nat} (s : PI dq w p B R cur op O) (hb : O b) : b < w.heap.size := by
  obtain ⟨l, Ol, fs, ord, ws, s, rfl⟩ := s
  rcases hb with rfl | hb
  · exact s.rc.lt
  · exact s.li.lt hb
theorem lrd_size (k : LI dq w l B R ws op Ol) (hn : n < 72) : (lrd (appl B R) ws n).size = 128 := by
  have wf := k.wf
  unfold lrd
  cases h : ws.find? (fun q => decide (q.1 = n)) with
  | none =>
    show ((appl B R).getD (73 + n) blk0).size = 128
    rw [List.getD_eq_getElem?_getD, List.getElem?_eq_getElem (by rw [wf.2.2.1]; omega)]
    exact wf.2.2.2.2.2 _ (List.getElem_mem _)
  | some q => exact wf.1.siz q (List.mem_of_find?_eq_some h)
theorem PI.siz (s : PI dq w p B R cur op O) (hn : n < 72) : (cur n).size = 128 := by
  obtain ⟨l, Ol, fs, ord, ws, s, rfl⟩ := s
  rw [← s.vw n hn]
  by_cases h : ∃ (j : Nat) (x : Frm), fs[j]? = some x ∧ x.valid = true ∧ x.page = n
  · obtain ⟨j, x, hj, hv, rfl⟩ := h
    rw [vw_in s.ok hj hv]
    exact (s.ok.pg x (List.mem_of_getElem? hj) hv).2
  · rw [vw_out fun y hy hv e => ?_]
    · exact lrd_size s.li hn
    · obtain ⟨j, hj⟩ := List.getElem?_of_mem hy
      exact h ⟨j, y, hj, hv, e⟩
/-- With no transaction the pages are the committed ones. -/
theorem PI.com (s : PI dq w p B R cur false O) (hn : n < 72) : cur n = (hm (appl B R)).getD n blk0 := by
  obtain ⟨l, Ol, fs, ord, ws, s, rfl⟩ := s
  have hw := s.li.wf.2.1 rfl
  subst hw
  have hl : lrd (appl B R) [] n = (hm (appl B R)).getD n blk0 := by
    unfold lrd hm
    show (appl B R).getD (73 + n) blk0 = _
    rw [List.getD_eq_getElem?_getD, List.getD_eq_getElem?_getD, List.getElem?_drop]
  rw [← s.vw n hn]
  by_cases h : ∃ (j : Nat) (x : Frm), fs[j]? = some x ∧ x.valid = true ∧ x.page = n
  · obtain ⟨j, x, hj, hv, rfl⟩ := h
    rw [vw_in s.ok hj hv]
    cases hd : x.dirty with
    | true => have := s.ok.di x (List.mem_of_getElem? hj) hv hd; cases this
    | false => rw [s.ok.cl x (List.mem_of_getElem? hj) hv hd, hl]
  · rw [vw_out fun y hy hv e => ?_]
    · exact hl
    · obtain ⟨j, hj⟩ := List.getElem?_of_mem hy
      exact h ⟨j, y, hj, hv, e⟩
theorem PI.disk (s : PI dq w p B R cur op O) : (appl B R).length = 153 ∧ byteAt (hd0 (appl B R)) 0 = 0 ∧ B.length = 153 := by
  obtain ⟨l, Ol, fs, ord, ws, s, rfl⟩ := s
  have := s.li.wf
  exact ⟨this.2.2.1, this.2.2.2.1, this.2.2.2.2.1⟩
theorem PS.own {w1 : World} {op' : Bool} {fs' : List Frm} {ord' : List Int} (s : PS dq w p l Ol fs ord ws B R op cur) (f : Fr p 1 w w1) : LI dq w1 l B R ws op Ol ∧ FrP (U (fun b => b = p) Ol) w w1 := by
  have F : FrP (fun b => b = p) w w1 := FrP.of f fun c h1 h2 => by omega
  exact ⟨s.li.frp F fun b hb e => s.np (e ▸ hb), F.mono fun b hb => .inl hb⟩
set_option maxHeartbeats 400000 in
theorem room_spec {K : Int → Int → World → Prop} (s : PS dq w p l Ol fs ord ws B R op cur) (hK : ∀ w' g ws', g < 5 → PS dq w' p l Ol (fs.set g frm0) ord ws' B R op cur → FrP (U (fun b => b = p) Ol) w w' → K (g : Nat) 0 w') : S.pager_Pager_room p w K := by
  unfold S.pager_Pager_room
  have h5 := s.ok.len
  obtain ⟨g, g1, g2⟩ := s.oo.get (i := 4) (by omega)
  refine ⟨by omega, by omega, ?_⟩
  refine ldI s.rc (m := ((g : Nat) : Int)) (by rw [show 22 + Int.toNat 4 * 1 = 22 + 4 from rfl, pgV_ord h5 (by omega)]; exact ints_get g2) ?_
  have hg : fs[g]? = some (fs[g]'(by omega)) := List.getElem?_eq_getElem (by omega)
  generalize (fs[g]'(by omega)) = f at *
  have hf := List.mem_of_getElem? hg
  -- the frame is emptied
  have fin : ∀ {v : World} {ws' : List Wr}, Blk v p (pgV l op fs ord) → LI dq v l B R ws' op Ol → FrP (U (fun b => b = p) Ol) w v → (∀ m, m < 72 → (f.valid = true → m ≠ f.page) → lrd (appl B R) ws' m = lrd (appl B R) ws m) → (f.valid = true → lrd (appl B R) ws' f.page = f.data) →
      (IxA 5 ((g : Nat) : Int) <| St1 v ⟨p, 2 + Int.toNat ((g : Nat) : Int) * 4, none⟩ (.int .i64 0) fun w => St1 w ⟨p, 2 + Int.toNat ((g : Nat) : Int) * 4 + 1, none⟩ (.bool false) fun w => St1 w ⟨p, 2 + Int.toNat ((g : Nat) : Int) * 4 + 2, none⟩ (.bool false) fun w => St1 w ⟨p, 2 + Int.toNat ((g : Nat) : Int) * 4 + 3, none⟩ (.string ⟨#[]⟩) fun w => K ((g : Nat) : Int) 0 w) := by
    intro v ws' hb hli hF h1 h2
    refine ⟨by omega, by omega, ?_⟩
    refine stFr (g := frm0) hb h5 s.oo.1 g1 fun w2 c2 f2 => ?_
    have F2 : FrP (fun b => b = p) v w2 := FrP.of f2 fun c h1 h2 => by omega
    obtain ⟨k1, k2⟩ := vw_drop s.ok hg h1 h2
    refine hK w2 g ws' g1 ⟨c2, s.oo, k1, hli.frp F2 fun b hb e => s.np (e ▸ hb), s.np, fun n hn => by rw [k2 n hn]; exact s.vw n hn⟩ (hF.trans (F2.mono fun b hb => .inl hb))
  rw [join_eq]
  refine ⟨by omega, by omega, ?_⟩
  rw [o4]
  refine ldB s.rc (m := f.valid) (by rw [pgV_fr h5 hg (by omega)]; rfl) (ifb (fun hv => ⟨by omega, by omega, ?_⟩) fun hv => ?_)
  · refine ldB s.rc (m := f.dirty) (by rw [pgV_fr h5 hg (by omega)]; rfl) (ifb (fun hd => ?_) fun hd => ?_)
    · have ho : op = true := s.ok.di f hf hv hd
      subst ho
      have hpg := s.ok.pg f hf hv
      refine drew_ (ldP s.rc.drew rfl ⟨by omega, by omega, ?_⟩)
      have e0 := pgV_fr (l := l) (op := true) (ord := ord) (k := 0) h5 hg (by omega)
      refine ldI s.rc.drew (m := ((f.page : Nat) : Int)) e0 ⟨by omega, by omega, ?_⟩
      refine ldStr s.rc.drew (m := f.data) (by rw [pgV_fr h5 hg (by omega)]; rfl) ?_
      refine lwrite_spec (s.li.fr0 (Fr.refl 0 0 w).drew) hpg.1 fun w1 k1 F1 => ?_
      rw [if_neg (by simp)]
      rw [blockOf_id hpg.2] at k1
      have := fin (v := w1) (s.rc.frp F1 s.np) k1 (F1.mono fun b hb => .inr hb) (fun m hm hne => by rw [lrd_wput, if_neg (fun e => hne hv e.symm)]) fun _ => by rw [lrd_wput, if_pos rfl]
      rw [o4] at this
      exact this
    · have := fin (v := w) s.rc s.li (FrP.refl _ _) (fun m _ _ => rfl) fun hv => (s.ok.cl f hf hv hd).symm
      rw [o4] at this
      exact this
  · have := fin (v := w) s.rc s.li (FrP.refl _ _) (fun m _ _ => rfl) fun hv' => by rw [hv] at hv'; cases hv'
    rw [o4] at this
    exact this
theorem pread_spec {K : Bk → Int → World → Prop} (s : PI dq w p B R cur op O) (hn : n < 72) (hK : ∀ w', PI dq w' p B R cur op O → FrP O w w' → K (cur n) 0 w') : S.pager_Pager_read p (n : Nat) w K := by
  unfold S.pager_Pager_read
  obtain ⟨l, Ol, fs, ord, ws, s, rfl⟩ := s
  have h5 := s.ok.len
  -- the page lies in frame i
  have fin : ∀ {v : World} {i : Nat} {f : Frm} {fs' : List Frm} {ws' : List Wr}, PS dq v p l Ol fs' ord ws' B R op cur → fs'[i]? = some f → f.valid = true → f.page = n → FrP (U (fun b => b = p) Ol) w v →
      S.pager_Pager_touch p ((i : Nat) : Int) v (fun w => IxA 5 ((i : Nat) : Int) <| LdStr w ⟨p, 2 + Int.toNat ((i : Nat) : Int) * 4 + 3, none⟩ fun data_3 => K data_3 0 w) := by
    intro v i f fs' ws' sv hi hv hp hF
    have h5' := sv.ok.len
    have hi5 : i < 5 := by rw [← h5']; exact (List.getElem?_eq_some_iff.1 hi).1
    refine touch_spec sv.rc h5' sv.oo hi5 fun v2 ord' b2 o2 f2 => ⟨by omega, by omega, ?_⟩
    rw [o4]
    refine ldStr b2 (m := f.data) (by rw [pgV_fr h5' hi (by omega)]; rfl) ?_
    have hd : f.data = cur n := by rw [← hp, ← sv.vw f.page (by omega), vw_in sv.ok hi hv]
    rw [hd]
    obtain ⟨k1, F1⟩ := sv.own (op' := op) (fs' := fs') (ord' := ord') f2
    exact hK v2 ⟨l, Ol, fs', ord', ws', ⟨b2, o2, sv.ok, k1, sv.np, sv.vw⟩, rfl⟩ (hF.trans F1)
  refine find_spec s.rc h5 (fun i f hi hv hp => ?_) fun hne => ?_
  · rw [join_eq, if_neg (by simp only [decide_eq_true_eq]; omega)]
    exact fin s hi hv hp (FrP.refl _ _)
  · rw [join_eq, if_pos (by decide)]
    refine room_spec s fun w1 g ws1 hg s1 F1 => ?_
    rw [if_neg (by simp)]
    have h51 := s1.ok.len
    refine ldP s1.rc rfl (lread_spec s1.li (by omega) ?_)
    rw [if_neg (by simp)]
    refine ⟨by omega, by omega, ?_⟩
    refine stFr (g := ⟨n, true, false, lrd (appl B R) ws1 n⟩) s1.rc h51 s1.oo.1 hg fun w2 c2 f2 => ?_
    obtain ⟨k2, F2⟩ := s1.own (op' := op) (fs' := fs) (ord' := ord) f2
    have hgx : (fs.set g frm0)[g]? = some frm0 := List.getElem?_set_self (by omega)
    have hnone : ∀ (j : Nat) (y : Frm), j ≠ g → (fs.set g frm0)[j]? = some y → y.valid = true → y.page ≠ n := fun j y hj hy hv => by
      rw [List.getElem?_set_ne (fun e => hj e.symm)] at hy
      exact hne y (List.mem_of_getElem? hy) hv
    obtain ⟨m1, m2⟩ := vw_lay (x := ⟨n, true, false, lrd (appl B R) ws1 n⟩) s1.ok hgx (fun h => by cases h) rfl hnone ⟨hn, lrd_size s1.li hn⟩ (fun _ => rfl) (fun h => by cases h)
    have hvn : lrd (appl B R) ws1 n = cur n := by
      rw [← s1.vw n hn]
      refine (vw_out fun y hy hv e => ?_).symm
      obtain ⟨j, hj⟩ := List.getElem?_of_mem hy
      by_cases hjg : j = g
      · subst hjg; rw [hgx] at hj; cases hj; cases hv
      · exact hnone j y hjg hj hv e
    have s2 : PS dq w2 p l Ol ((fs.set g frm0).set g ⟨n, true, false, lrd (appl B R) ws1 n⟩) ord ws1 B R op cur := ⟨c2, s1.oo, m1, k2, s1.np, fun m hm => by
      rw [m2 m]
      by_cases h : m = n
      · rw [if_pos h, h]; exact hvn
      · rw [if_neg h]; exact s1.vw m hm⟩
    exact fin s2 (List.getElem?_set_self (by omega)) rfl rfl (F1.trans F2)
theorem pwrite_spec {x : Bk} {K : Int → World → Prop} (s : PI dq w p B R cur true O) (hn : n < 72) (hx : x.size = 128) (hK : ∀ w', PI dq w' p B R (fset cur n x) true O → FrP O w w' → K 0 w') : S.pager_Pager_write p (n : Nat) x w K := by
  unfold S.pager_Pager_write
  obtain ⟨l, Ol, fs, ord, ws, s, rfl⟩ := s
  have h5 := s.ok.len
  have fin : ∀ {v : World} {g : Nat} {f : Frm} {fs' : List Frm} {ws' : List Wr}, PS dq v p l Ol fs' ord ws' B R true cur → fs'[g]? = some f → (f.valid = true → f.page = n) → (∀ (j : Nat) (y : Frm), j ≠ g → fs'[j]? = some y → y.valid = true → y.page ≠ n) → FrP (U (fun b => b = p) Ol) w v →
      (IxA 5 ((g : Nat) : Int) <| St1 v ⟨p, 2 + Int.toNat ((g : Nat) : Int) * 4, none⟩ (.int .i64 ((n : Nat) : Int)) fun w => St1 w ⟨p, 2 + Int.toNat ((g : Nat) : Int) * 4 + 1, none⟩ (.bool true) fun w => St1 w ⟨p, 2 + Int.toNat ((g : Nat) : Int) * 4 + 2, none⟩ (.bool true) fun w => St1 w ⟨p, 2 + Int.toNat ((g : Nat) : Int) * 4 + 3, none⟩ (.string x) fun w =>
        S.pager_Pager_touch p ((g : Nat) : Int) w (fun w => K 0 w)) := by
    intro v g f fs' ws' sv hg hf hne hF
    have h5' := sv.ok.len
    have hg5 : g < 5 := by rw [← h5']; exact (List.getElem?_eq_some_iff.1 hg).1
    refine ⟨by omega, by omega, ?_⟩
    refine stFr (g := ⟨n, true, true, x⟩) sv.rc h5' sv.oo.1 hg5 fun w2 c2 f2 => ?_
    obtain ⟨k2, F2⟩ := sv.own (op' := true) (fs' := fs) (ord' := ord) f2
    obtain ⟨m1, m2⟩ := vw_lay (x := ⟨n, true, true, x⟩) sv.ok hg hf rfl hne ⟨hn, hx⟩ (fun h => by cases h) (fun _ => rfl)
    refine touch_spec c2 m1.len sv.oo hg5 fun w3 ord' c3 o3 f3 => ?_
    have F3 : FrP (fun b => b = p) w2 w3 := FrP.of f3 fun c h1 h2 => by omega
    refine hK w3 ⟨l, Ol, _, ord', ws', ⟨c3, o3, m1, k2.frp F3 fun b hb e => sv.np (e ▸ hb), sv.np, fun m hm => ?_⟩, rfl⟩ ((hF.trans F2).trans (F3.mono fun b hb => .inl hb))
    rw [m2 m]
    by_cases h : m = n
    · rw [if_pos h, h, fset_eq]
    · rw [if_neg h, fset_ne h]; exact sv.vw m hm
  refine find_spec s.rc h5 (fun i f hi hv hp => ?_) fun hne => ?_
  · rw [join_eq, if_neg (by simp only [decide_eq_true_eq]; omega)]
    exact fin s hi (fun _ => hp) (fun j y hj hy hv' e => hj (s.ok.un j i y f hy hi hv' hv (by rw [e, hp]))) (FrP.refl _ _)
  · rw [join_eq, if_pos (by decide)]
    refine room_spec s fun w1 g ws1 hg s1 F1 => ?_
    rw [if_neg (by simp)]
    have h51 := s1.ok.len
    refine fin s1 (List.getElem?_set_self (by omega)) (fun h => by cases h) (fun j y hj hy hv => ?_) F1
    rw [List.getElem?_set_ne (fun e => hj e.symm)] at hy
    exact hne y (List.mem_of_getElem? hy) hv
end Go.Proofs.Qxb6500564aGreat
