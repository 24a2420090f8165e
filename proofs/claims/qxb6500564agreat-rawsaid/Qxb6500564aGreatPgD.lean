/-
  The pager: allocation, transactions.
-/
import Derived.Test.Qxb6500564aGreatPgC
namespace Go.Proofs.Qxb6500564aGreat
open Go.Den Go.Zip
set_option linter.unusedVariables false
set_option linter.unusedSimpArgs false
variable {dq : Nat}
variable {w w' : World} {p l : Nat} {op : Bool} {fs : List Frm} {ord : List Int} {D B : List Bk} {R ws : List Wr} {O O' Ol : Nat → Prop} {i n : Nat} {cur : Nat → Bk}

/-- Page n is in use. -/
def us (cur : Nat → Bk) (n : Nat) : Bool := decide (1 ≤ n) && decide (n < 72) && usedB (cur 0) n
theorem us_iff : us cur n = true ↔ 1 ≤ n ∧ n < 72 ∧ usedB (cur 0) n = true := by
  unfold us
  simp only [Bool.and_eq_true, decide_eq_true_eq, and_assoc]
theorem pused_spec {K : Bool → World → Prop} (s : PI dq w p B R cur op O) (hK : ∀ w', PI dq w' p B R cur op O → FrP O w w' → K (us cur n) w') : S.pager_Pager_Used p (n : Nat) w K := by
  unfold S.pager_Pager_Used
  by_cases h1 : 1 ≤ n
  · rw [if_neg (by simp only [decide_eq_true_eq]; omega)]
    by_cases h2 : n < 72
    · rw [if_neg (by simp only [decide_eq_true_eq]; omega)]
      refine pread_spec (n := 0) s (by omega) fun w1 s1 F1 => ?_
      rw [if_pos (by decide)]
      refine bit_spec (s1.siz (by omega)) h2 ?_
      have e : us cur n = usedB (cur 0) n := by unfold us; simp [h1, h2]
      have := hK w1.drew (s1.fr0 (Fr.refl 0 0 w1).drew) F1.drew
      rw [e] at this
      exact this
    · rw [if_pos (by simp only [decide_eq_true_eq]; omega)]
      have e : us cur n = false := by unfold us; simp [h2]
      have := hK w s (FrP.refl _ _)
      rw [e] at this
      exact this
  · rw [if_pos (by simp only [decide_eq_true_eq]; omega)]
    have e : us cur n = false := by unfold us; simp [h1]
    have := hK w s (FrP.refl _ _)
    rw [e] at this
    exact this
theorem pget_spec {K : Bk → Int → World → Prop} (s : PI dq w p B R cur op O) (h1 : us cur n = true → ∀ w', PI dq w' p B R cur op O → FrP O w w' → K (cur n) 0 w') (h2 : us cur n = false → ∀ w', PI dq w' p B R cur op O → FrP O w w' → K ⟨#[]⟩ 5 w') : S.pager_Pager_Get p (n : Nat) w K := by
  unfold S.pager_Pager_Get
  refine pused_spec s fun w1 s1 F1 => ?_
  refine ifn (fun h => h2 h w1 s1 F1) fun h => ?_
  exact pread_spec s1 (us_iff.1 h).2.1 fun w2 s2 F2 => h1 h w2 s2 (F1.trans F2)
theorem PI.opn (s : PI dq w p B R cur op O) {K : Bool → Prop} (hK : K op) : LdB w ⟨p, 1, none⟩ K := by
  obtain ⟨l, Ol, fs, ord, ws, s, rfl⟩ := s
  exact ldB s.rc rfl hK
theorem pput_spec {x : Bk} {K : Int → World → Prop} (s : PI dq w p B R cur true O) (hu : us cur n = true) (hK : ∀ w', PI dq w' p B R (fset cur n (blockOf x)) true O → FrP O w w' → K 0 w') : S.pager_Pager_Put p (n : Nat) x w K := by
  unfold S.pager_Pager_Put
  refine s.opn ?_
  rw [if_neg (by simp)]
  refine pused_spec s fun w1 s1 F1 => ?_
  rw [hu, if_neg (by simp)]
  refine blockOf_spec (pwrite_spec s1 (us_iff.1 hu).2.1 (blockOf_size x) fun w2 s2 F2 => hK w2 s2 (F1.trans F2))
theorem palloc_spec {K : Int → Int → World → Prop} (s : PI dq w p B R cur true O) (h1 : ∀ r w', 1 ≤ r → r < 72 → us cur r = false → (∀ n, 1 ≤ n → n < r → us cur n = true) → PI dq w' p B R (fset (fset cur 0 (setB (cur 0) r)) r blk0) true O → Gw O w O w' → K (r : Nat) 0 w')
    (h2 : (∀ n, 1 ≤ n → n < 72 → us cur n = true) → ∀ w', PI dq w' p B R cur true O → Gw O w O w' → K 0 6 w') : S.pager_Pager_Alloc p w K := by
  unfold S.pager_Pager_Alloc
  refine s.opn ?_
  rw [if_neg (by simp)]
  refine pread_spec (n := 0) s (by omega) fun w1 s1 F1 => ?_
  rw [if_neg (by simp)]
  have hsz := s1.siz (n := 0) (by omega)
  have G1 : Gw O w O w1 := ⟨F1, fun b hb => .inl hb⟩
  refine lowest_spec hsz fun r hr => ?_
  rcases hr with ⟨rfl, hall⟩ | ⟨r1, r2, r3, r4⟩
  · rw [if_pos (by decide)]
    exact h2 (fun n a b => us_iff.2 ⟨a, b, hall n a b⟩) w1 s1 G1
  · rw [if_neg (by simp only [beq_iff_eq]; omega)]
    refine setBit_spec hsz r2 fun w2 f2 => ?_
    have s2 := s1.fr0 f2
    refine pwrite_spec (n := 0) s2 (by omega) (by rw [setB_size]; exact hsz) fun w3 s3 F3 => ?_
    rw [if_neg (by simp)]
    refine pwrite_spec s3 r2 blk0_size fun w4 s4 F4 => ?_
    rw [if_neg (by simp)]
    refine h1 r w4 r1 r2 ?_ (fun n a b => us_iff.2 ⟨a, by omega, r4 n a b⟩) s4 (((G1.trans (Gw.new f2)).trans ⟨F3, fun b hb => .inl hb⟩).trans ⟨F4, fun b hb => .inl hb⟩)
    cases h : us cur r with
    | false => rfl
    | true => have := (us_iff.1 h).2.2; rw [r3] at this; cases this
/-- Frame g is forgotten, whatever it held. -/
theorem vw_forget {g : Nat} {f : Frm} (ok : FOk fs D ws op) (hg : fs[g]? = some f) : FOk (fs.set g frm0) D ws op ∧ ∀ m, (f.valid = true → m ≠ f.page) → vw (fs.set g frm0) D ws m = vw fs D ws m := by
  have hlt : g < fs.length := (List.getElem?_eq_some_iff.1 hg).1
  have z : ∀ {k : Nat} {u : Frm}, (fs.set g frm0)[k]? = some u → u.valid = true → fs[k]? = some u ∧ k ≠ g := fun {k u} hk hu => by
    rw [List.getElem?_set] at hk
    split at hk
    · rename_i e
      subst e
      cases hk; cases hu
    · rename_i e; exact ⟨hk, fun e' => e e'.symm⟩
  have mem : ∀ x ∈ fs.set g frm0, x.valid = true → ∃ j, fs[j]? = some x ∧ j ≠ g := fun x hx hv => by
    obtain ⟨j, hj⟩ := List.getElem?_of_mem hx
    exact ⟨j, z hj hv⟩
  have ok' : FOk (fs.set g frm0) D ws op := ⟨by rw [List.length_set]; exact ok.len, fun x hx hv => by obtain ⟨j, hj, _⟩ := mem x hx hv; exact ok.pg x (List.mem_of_getElem? hj) hv,
    fun x hx hv hd => by obtain ⟨j, hj, _⟩ := mem x hx hv; exact ok.cl x (List.mem_of_getElem? hj) hv hd, fun x hx hv hd => by obtain ⟨j, hj, _⟩ := mem x hx hv; exact ok.di x (List.mem_of_getElem? hj) hv hd,
    fun i j x y hx hy hv hv' e => ok.un i j x y (z hx hv).1 (z hy hv').1 hv hv' e⟩
  refine ⟨ok', fun m hm => ?_⟩
  by_cases h : ∃ (j : Nat) (x : Frm), fs[j]? = some x ∧ x.valid = true ∧ x.page = m
  · obtain ⟨j, x, hj, hv, rfl⟩ := h
    have hjg : j ≠ g := fun e => by subst e; rw [hg] at hj; cases hj; exact hm hv rfl
    rw [vw_in ok hj hv]
    exact vw_in ok' (i := j) (by rw [List.getElem?_set_ne (fun e => hjg e.symm)]; exact hj) hv
  · have hn : ∀ y ∈ fs, y.valid = true → y.page ≠ m := fun y hy hv e => by
      obtain ⟨j, hj⟩ := List.getElem?_of_mem hy
      exact h ⟨j, y, hj, hv, e⟩
    rw [vw_out hn, vw_out fun y hy hv e => ?_]
    obtain ⟨j, hj, _⟩ := mem y hy hv
    exact hn y (List.mem_of_getElem? hj) hv e
theorem retire_spec {f : Nat} {K : World → Prop} (hb : Blk w p (pgV l op fs ord)) (h : fs.length = 5) (ho : OrdOk ord) (hf : f < 5) (hK : ∀ w' ord', Blk w' p (pgV l op (fs.set f frm0) ord') → OrdOk ord' → Fr p 1 w w' → K w') : S.pager_Pager_retire p (f : Nat) w K := by
  unfold S.pager_Pager_retire
  refine ⟨by omega, by omega, ?_⟩
  refine stFr (g := frm0) hb h ho.1 hf fun w1 c1 f1 => ?_
  have h' : (fs.set f frm0).length = 5 := by rw [List.length_set]; exact h
  refine place_spec c1 h' ho fun r hr => ?_
  refine join_W (fun v => ∃ ord', Blk v p (pgV l op (fs.set f frm0) ord') ∧ OrdOk ord' ∧ Fr p 1 w v) ?_ ?_
  · rintro v ⟨ord', b1, o1', f2⟩
    refine ⟨by omega, by omega, ?_⟩
    refine st1 b1 (by rw [pgV_len h' o1'.1]; decide) fun v2 b2 f3 s2 => ?_
    rw [show 22 + Int.toNat 4 * 1 = 22 + 4 from rfl, pgV_setO h' (by omega) o1'.1] at b2
    exact hK v2 _ b2 (o1'.set (by omega) (by omega) 4) (f2.trans f3)
  · intro J hJ
    refine loopN (fun m st v => ∃ (i : Nat) (ord' : List Int), st = (((i : Nat) : Int), ()) ∧ i + m = 4 ∧ Blk v p (pgV l op (fs.set f frm0) ord') ∧ OrdOk ord' ∧ Fr p 1 w v) (4 - r) ⟨r, ord, rfl, by omega, c1, ho, f1⟩ ?_
    rintro m _ v ⟨i, ord', rfl, hm, b1, o1', f2⟩ Q hQ
    dsimp only
    refine ifd (fun h1 => ?_) fun h1 => hJ v ⟨ord', b1, o1', f2⟩
    refine drew_ ?_
    rw [W_succ (by omega)]
    obtain ⟨g, g1, g2⟩ := o1'.get (i := i + 1) (by omega)
    refine ⟨by omega, by omega, ?_⟩
    rw [Int.toNat_natCast, Nat.mul_one]
    refine ldI b1.drew (m := ((g : Nat) : Int)) (by rw [pgV_ord h' (by omega)]; exact ints_get g2) ⟨by omega, by omega, ?_⟩
    rw [Int.toNat_natCast, Nat.mul_one]
    refine st1 b1.drew (by rw [pgV_len h' o1'.1]; omega) fun v2 b2 f3 s2 => let_ ?_
    rw [pgV_setO h' (by omega) o1'.1] at b2
    exact hQ (m - 1) _ v2 (by omega) ⟨i + 1, _, rfl, by omega, b2, o1'.set (by omega) (by omega) i, f2.drew.trans f3⟩
theorem pfree_spec {K : Int → World → Prop} (s : PI dq w p B R cur true O) (hu : us cur n = true) (hK : ∀ w' x, PI dq w' p B R (fset (fset cur 0 (clrB (cur 0) n)) n x) true O → Gw O w O w' → K 0 w') : S.pager_Pager_Free p (n : Nat) w K := by
  unfold S.pager_Pager_Free
  have hn := us_iff.1 hu
  refine s.opn ?_
  rw [if_neg (by simp)]
  refine pused_spec s fun w1 s1 F1 => ?_
  rw [hu, if_neg (by simp)]
  refine pread_spec (n := 0) s1 (by omega) fun w2 s2 F2 => ?_
  rw [if_neg (by simp)]
  have hsz := s2.siz (n := 0) (by omega)
  refine clearBit_spec hsz hn.2.1 fun w3 f3 => ?_
  refine pwrite_spec (n := 0) (s2.fr0 f3) (by omega) (by rw [clrB_size]; exact hsz) fun w4 s4 F4 => ?_
  rw [if_neg (by simp)]
  have G4 : Gw O w O w4 := Gw.trans (Gw.trans (O1 := O) (w1 := w2) ⟨F1.trans F2, fun b hb => .inl hb⟩ (Gw.new f3)) ⟨F4, fun b hb => .inl hb⟩
  have s4' := s4
  obtain ⟨l, Ol, fs, ord, ws, s4, rfl⟩ := s4
  refine find_spec s4.rc s4.ok.len (fun i f hi hv hp => ?_) fun hne => ?_
  · rw [if_pos (by simp only [decide_eq_true_eq]; omega)]
    have hi5 : i < 5 := by rw [← s4.ok.len]; exact (List.getElem?_eq_some_iff.1 hi).1
    refine retire_spec s4.rc s4.ok.len s4.oo hi5 fun w5 ord' c5 o5 f5 => ?_
    obtain ⟨k5, F5⟩ := s4.own (op' := true) (fs' := fs) (ord' := ord) f5
    obtain ⟨m1, m2⟩ := vw_forget s4.ok hi
    refine hK w5 (vw (fs.set i frm0) (appl B R) ws n) ⟨l, Ol, _, ord', ws, ⟨c5, o5, m1, k5, s4.np, fun m hm => ?_⟩, rfl⟩ (G4.trans ⟨F5, fun b hb => .inl hb⟩)
    by_cases h : m = n
    · rw [h, fset_eq]
    · rw [fset_ne h, m2 m fun _ e => h (by rw [e, hp])]
      exact s4.vw m hm
  · rw [if_neg (by decide)]
    refine hK w4 (cur n) ?_ G4
    have e : fset (fset cur 0 (clrB (cur 0) n)) n (cur n) = fset cur 0 (clrB (cur 0) n) := by
      funext m
      by_cases h : m = n
      · rw [h, fset_eq, fset_ne (by omega)]
      · rw [fset_ne h]
    rw [e]
    exact s4'
/-! ### Transactions -/
theorem pgV_op {o : Bool} : (pgV l op fs ord).set 1 (.bool o) = pgV l o fs ord := rfl
theorem FOk.open (ok : FOk fs D ws op) : FOk fs D ws true := { ok with di := fun _ _ _ _ => rfl }
theorem pbegin_spec {K : Int → World → Prop} (s : PI dq w p B R cur false O) (hK : ∀ w', PI dq w' p B R cur true O → FrP O w w' → K 0 w') : S.pager_Pager_Begin p w K := by
  unfold S.pager_Pager_Begin
  obtain ⟨l, Ol, fs, ord, ws, s, rfl⟩ := s
  have hw := s.li.wf.2.1 rfl
  subst hw
  refine ldB s.rc rfl ?_
  rw [if_neg (by simp)]
  refine ldP s.rc rfl (lbegin_spec s.li fun w1 k1 F1 => ?_)
  rw [if_neg (by simp)]
  have r1 := s.rc.frp F1 s.np
  refine st1 r1 (by rw [pgV_len s.ok.len s.oo.1]; omega) fun w2 c2 f2 s2 => ?_
  rw [pgV_op] at c2
  have F2 : FrP (fun b => b = p) w1 w2 := FrP.of f2 fun c h1 h2 => by omega
  exact hK w2 ⟨l, Ol, fs, ord, [], ⟨c2, s.oo, s.ok.open, k1.frp F2 fun b hb e => s.np (e ▸ hb), s.np, s.vw⟩, rfl⟩ ((F1.mono fun b hb => .inr hb).trans (F2.mono fun b hb => .inl hb))
/-- A dirty frame is written down. -/
theorem vw_clean {f : Frm} (ok : FOk fs D ws op) (hi : fs[i]? = some f) (hv : f.valid = true) : FOk (fs.set i { f with dirty := false }) D (wput ws f.page f.data) op ∧ ∀ m, vw (fs.set i { f with dirty := false }) D (wput ws f.page f.data) m = vw fs D ws m := by
  have hlt : i < fs.length := (List.getElem?_eq_some_iff.1 hi).1
  have at_ : ∀ {k : Nat} {u : Frm}, (fs.set i { f with dirty := false })[k]? = some u → (k = i ∧ u = { f with dirty := false }) ∨ (k ≠ i ∧ fs[k]? = some u) := fun {k u} hk => by
    rw [List.getElem?_set] at hk
    split at hk
    · rename_i e
      subst e
      cases hk; exact .inl ⟨rfl, rfl⟩
    · rename_i e; exact .inr ⟨fun e' => e e'.symm, hk⟩
  have hf := List.mem_of_getElem? hi
  have ok' : FOk (fs.set i { f with dirty := false }) D (wput ws f.page f.data) op := by
    refine ⟨by rw [List.length_set]; exact ok.len, fun y hy hvy => ?_, fun y hy hvy hd => ?_, fun y hy hvy hd => ?_, fun a b u v hu hv' uv vv e => ?_⟩
    · obtain ⟨k, hk⟩ := List.getElem?_of_mem hy
      rcases at_ hk with ⟨rfl, rfl⟩ | ⟨h1, h2⟩
      · exact ok.pg f hf hv
      · exact ok.pg y (List.mem_of_getElem? h2) hvy
    · obtain ⟨k, hk⟩ := List.getElem?_of_mem hy
      rcases at_ hk with ⟨rfl, rfl⟩ | ⟨h1, h2⟩
      · rw [lrd_wput, if_pos rfl]
      · rw [lrd_wput, if_neg fun e => h1 (ok.un k i y f h2 hi hvy hv e.symm)]
        exact ok.cl y (List.mem_of_getElem? h2) hvy hd
    · obtain ⟨k, hk⟩ := List.getElem?_of_mem hy
      rcases at_ hk with ⟨rfl, rfl⟩ | ⟨h1, h2⟩
      · cases hd
      · exact ok.di y (List.mem_of_getElem? h2) hvy hd
    · rcases at_ hu with ⟨rfl, rfl⟩ | ⟨h1, h2⟩ <;> rcases at_ hv' with ⟨rfl, rfl⟩ | ⟨h3, h4⟩
      · rfl
      · exact ok.un a b f v hi h4 hv vv e
      · exact ok.un a b u f h2 hi uv hv e
      · exact ok.un a b u v h2 h4 uv vv e
  refine ⟨ok', fun m => ?_⟩
  by_cases h : ∃ (j : Nat) (y : Frm), fs[j]? = some y ∧ y.valid = true ∧ y.page = m
  · obtain ⟨j, y, hj, hvy, rfl⟩ := h
    rw [vw_in ok hj hvy]
    by_cases hji : j = i
    · subst hji
      rw [hi] at hj
      cases hj
      exact vw_in ok' (i := j) (f := { f with dirty := false }) (List.getElem?_set_self hlt) hv
    · exact vw_in ok' (i := j) (by rw [List.getElem?_set_ne (fun e => hji e.symm)]; exact hj) hvy
  · have hn : ∀ y ∈ fs, y.valid = true → y.page ≠ m := fun y hy hvy e => by
      obtain ⟨j, hj⟩ := List.getElem?_of_mem hy
      exact h ⟨j, y, hj, hvy, e⟩
    rw [vw_out hn, vw_out fun y hy hvy e => ?_, lrd_wput, if_neg fun e => hn f hf hv e]
    obtain ⟨k, hk⟩ := List.getElem?_of_mem hy
    rcases at_ hk with ⟨rfl, rfl⟩ | ⟨h1, h2⟩
    · exact hn f hf hv e
    · exact hn y (List.mem_of_getElem? h2) hvy e
theorem mem_find : ∀ {ws : List Wr}, (ws.map (·.1)).Nodup → ∀ q ∈ ws, ws.find? (fun x => decide (x.1 = q.1)) = some q
  | [], _, q, h => by cases h
  | x :: r, nd, q, h => by
    rw [List.map_cons, List.nodup_cons] at nd
    rcases List.mem_cons.1 h with rfl | h
    · simp
    · have : x.1 ≠ q.1 := fun e => nd.1 (by rw [e]; exact List.mem_map.2 ⟨q, h, rfl⟩)
      rw [List.find?_cons_of_neg (by simpa using this)]
      exact mem_find nd.2 q h
/-- Behind a commit the homes hold what the log read. -/
theorem com_lrd (hl : D.length = 153) (h : WsF ws) (hn : n < 80) : (appl D (if ws = [] then [] else comW ws)).getD (73 + n) blk0 = lrd D ws n := by
  by_cases he : ws = []
  · rw [if_pos he, he]; rfl
  · rw [if_neg he, getD_appl (by omega)]
    unfold comW
    rw [lastW_app, lastW_app, lastW_app, lastW_none (a := [(0, blk0)]) fun q hq e => by rw [List.mem_singleton.1 hq] at e; simp at e; omega]
    rw [lastW_none (a := [(0, hdr ws)]) fun q hq e => by rw [List.mem_singleton.1 hq] at e; simp at e; omega]
    rw [lastW_none (a := slotW ws) fun q hq e => by have := (slotW_lo h.len q hq).2; omega]
    have e1 : lastW (homeW ws) (73 + n) = (ws.find? fun q => decide (q.1 = n)).map (·.2) := by
      cases hf : ws.find? (fun q => decide (q.1 = n)) with
      | none =>
        refine lastW_none fun q hq e => ?_
        unfold homeW at hq
        obtain ⟨q', hq', rfl⟩ := List.mem_map.1 hq
        have := List.find?_eq_none.1 hf q' hq'
        have e : 73 + q'.1 = 73 + n := e
        simp at this
        omega
      | some q =>
        have hq := List.mem_of_find?_eq_some hf
        have hp := List.find?_some hf
        simp only [decide_eq_true_eq] at hp
        subst hp
        refine lastW_nodup (q := (73 + q.1, q.2)) (List.mem_map.2 ⟨q, hq, rfl⟩) fun x hx e => ?_
        obtain ⟨q', hq', rfl⟩ := List.mem_map.1 hx
        have e : 73 + q'.1 = 73 + q.1 := e
        have : q' = q := by
          have f1 := mem_find h.nd q' hq'
          have f2 := mem_find h.nd q hq
          rw [show q'.1 = q.1 by omega] at f1
          rw [f1] at f2
          exact Option.some.inj f2
        rw [this]
    rw [e1]
    show ((((none : Option Bk).or ((List.find? _ ws).map (·.2))).or ((none : Option Bk).or none))).getD _ = _
    unfold lrd
    cases (ws.find? fun q => decide (q.1 = n)) <;> rfl
theorem comR_appl (B : List Bk) (R ws : List Wr) : appl B (comR R ws) = appl (appl B R) (if ws = [] then [] else comW ws) := by
  unfold comR
  split
  · rfl
  · rw [appl_app]
theorem getD73 (D : List Bk) (n : Nat) : (hm D).getD n blk0 = D.getD (73 + n) blk0 := by
  unfold hm
  rw [List.getD_eq_getElem?_getD, List.getD_eq_getElem?_getD, List.getElem?_drop]
set_option maxHeartbeats 1000000 in
theorem pcommit_spec {K : Int → World → Prop} (s : PI dq w p B R cur true O) (hR : R.length ≤ 100000) (hK : ∀ w' O' ws, WsF ws → PI dq w' p B (comR R ws) cur false O' → Gw O w O' w' → (∀ n, n < 72 → (hm (appl B (comR R ws))).getD n blk0 = cur n) → K 0 w') : S.pager_Pager_Commit p w K := by
  unfold S.pager_Pager_Commit
  obtain ⟨l, Ol, fs, ord, ws, s, rfl⟩ := s
  refine ldB s.rc rfl ?_
  rw [if_neg (by simp)]
  refine join_W (fun v => ∃ fs' ws', PS dq v p l Ol fs' ord ws' B R true cur ∧ (∀ f ∈ fs', f.valid = true → f.dirty = false) ∧ FrP (U (fun b => b = p) Ol) w v) ?_ ?_
  · rintro v ⟨fs', ws', sv, hcl, Fv⟩
    have wf := sv.li.wf
    refine ldP sv.rc rfl (lcommit_spec sv.li hR fun w1 O1 k1 G1 => ?_)
    rw [if_neg (by simp)]
    have hp1 : ¬ O1 p := fun h => (G1.2 p h).elim sv.np fun h' => by have := sv.rc.lt; omega
    have r1 := sv.rc.frp G1.1 sv.np
    refine st1 r1 (by rw [pgV_len sv.ok.len sv.oo.1]; omega) fun w2 c2 f2 s2 => ?_
    rw [pgV_op] at c2
    have F2 : FrP (fun b => b = p) w1 w2 := FrP.of f2 fun c h1 h2 => by omega
    have hh : ∀ n, n < 80 → lrd (appl B (comR R ws')) [] n = lrd (appl B R) ws' n := fun n hn => by
      have := com_lrd wf.2.2.1 wf.1 hn
      rw [← comR_appl] at this
      exact this
    have ok2 : FOk fs' (appl B (comR R ws')) [] false := ⟨sv.ok.len, sv.ok.pg, fun f hf hv hd => by rw [sv.ok.cl f hf hv hd, hh _ (by have := (sv.ok.pg f hf hv).1; omega)], fun f hf hv hd => (by rw [hcl f hf hv] at hd; cases hd), sv.ok.un⟩
    have hvw : ∀ n, n < 72 → vw fs' (appl B (comR R ws')) [] n = cur n := fun n hn => by
      rw [← sv.vw n hn]
      unfold vw
      rw [hh n (by omega)]
    have pi2 : PI dq w2 p B (comR R ws') cur false (U (fun b => b = p) O1) := ⟨l, O1, fs', ord, [], ⟨c2, sv.oo, ok2, k1.frp F2 fun b hb e => hp1 (e ▸ hb), hp1, hvw⟩, rfl⟩
    refine hK w2 _ ws' wf.1 pi2 ?_ fun n hn => (pi2.com hn).symm
    refine ⟨?_, ?_⟩
    · refine (Fv.trans (G1.1.mono fun b hb => .inr hb)).trans (F2.mono fun b hb => .inl hb)
    · rintro b (rfl | hb)
      · exact .inl (.inl rfl)
      · rcases G1.2 b hb with h | h
        · exact .inl (.inr h)
        · exact .inr (by have := Fv.1.1; omega)
  · intro J hJ
    refine loopN (fun m st v => ∃ (i : Nat) (fs' : List Frm) (ws' : List Wr), st = ((i : Int), ()) ∧ i + m = 5 ∧ PS dq v p l Ol fs' ord ws' B R true cur ∧ (∀ (j : Nat) (f : Frm), j < i → fs'[j]? = some f → f.valid = true → f.dirty = false) ∧ FrP (U (fun b => b = p) Ol) w v) 5 ⟨0, fs, ws, rfl, by omega, s, fun j f hj => by omega, FrP.refl _ _⟩ ?_
    rintro m _ v ⟨i, fs', ws', rfl, hm, sv, hcl, Fv⟩ Q hQ
    dsimp only
    have h5 := sv.ok.len
    refine ifd (fun hi => ?_) fun hi => hJ v ⟨fs', ws', sv, fun f hf hv => ?_, Fv⟩
    · have hi : i < 5 := by omega
      have hg : fs'[i]? = some (fs'[i]'(by omega)) := List.getElem?_eq_getElem (by omega)
      generalize (fs'[i]'(by omega)) = f at *
      have hf := List.mem_of_getElem? hg
      rw [join_eq]
      have nx : ∀ {u : World} {fs2 : List Frm} {ws2 : List Wr}, PS dq u p l Ol fs2 ord ws2 B R true cur → (∀ (j : Nat) (f : Frm), j < i + 1 → fs2[j]? = some f → f.valid = true → f.dirty = false) → FrP (U (fun b => b = p) Ol) w u → (fun (w : World) => Let (W (((i : Nat) : Int) + 1)) fun f_7 => Q (f_7, ()) w) u := fun su hc Fu => by
        refine let_ ?_
        rw [W_succ (by omega)]
        exact hQ (m - 1) _ _ (by omega) ⟨i + 1, _, _, rfl, by omega, su, hc, Fu⟩
      have stay : (f.valid = true → f.dirty = false) → ∀ (j : Nat) (f : Frm), j < i + 1 → fs'[j]? = some f → f.valid = true → f.dirty = false := fun hx j f' hj hf' => by
        rcases (by omega : j < i ∨ j = i) with h' | rfl
        · exact hcl j f' h' hf'
        · rw [hg] at hf'; cases hf'; exact hx
      refine ⟨by omega, by omega, ?_⟩
      rw [o4]
      refine ldB sv.rc (m := f.valid) (by rw [pgV_fr h5 hg (by omega)]; rfl) (ifb (fun hv => ⟨by omega, by omega, ?_⟩) fun hv => nx sv (stay fun h => by rw [hv] at h; cases h) Fv)
      refine ldB sv.rc (m := f.dirty) (by rw [pgV_fr h5 hg (by omega)]; rfl) (ifb (fun hd => ?_) fun hd => nx sv (stay fun _ => hd) Fv)
      have hpg := sv.ok.pg f hf hv
      refine drew_ (ldP sv.rc.drew rfl ⟨by omega, by omega, ?_⟩)
      have e0 := pgV_fr (l := l) (op := true) (ord := ord) (k := 0) h5 hg (by omega)
      refine ldI sv.rc.drew (m := ((f.page : Nat) : Int)) e0 ⟨by omega, by omega, ?_⟩
      refine ldStr sv.rc.drew (m := f.data) (by rw [pgV_fr h5 hg (by omega)]; rfl) ?_
      refine lwrite_spec (sv.li.fr0 (Fr.refl 0 0 v).drew) hpg.1 fun w1 k1 F1 => ?_
      rw [if_neg (by simp)]
      rw [blockOf_id hpg.2] at k1
      have r1 := sv.rc.frp (F1 : FrP Ol v w1) sv.np
      refine ⟨by omega, by omega, ?_⟩
      refine st1 r1 (by rw [pgV_len h5 sv.oo.1]; omega) fun w2 c2 f2 s2 => ?_
      rw [pgV_set (g := { f with dirty := false }) h5 hg (by omega) rfl] at c2
      have F2 : FrP (fun b => b = p) w1 w2 := FrP.of f2 fun c h1 h2 => by omega
      obtain ⟨m1, m2⟩ := vw_clean sv.ok hg hv
      refine nx (fs2 := fs'.set i { f with dirty := false }) (ws2 := wput ws' f.page f.data) ⟨c2, sv.oo, m1, k1.frp F2 fun b hb e => sv.np (e ▸ hb), sv.np, fun n hn => by rw [m2 n]; exact sv.vw n hn⟩ (fun j f' hj hf' hv' => ?_) ((Fv.trans ((F1 : FrP Ol v w1).mono fun b hb => .inr hb)).trans (F2.mono fun b hb => .inl hb))
      by_cases e : i = j
      · subst e
        rw [List.getElem?_set_self (by omega)] at hf'
        cases hf'; rfl
      · rw [List.getElem?_set_ne e] at hf'
        exact hcl j f' (by omega) hf' hv'
    · obtain ⟨j, hj⟩ := List.getElem?_of_mem hf
      have := (List.getElem?_eq_some_iff.1 hj).1
      exact hcl j f (by omega) hj hv
def cmt (B : List Bk) (R : List Wr) (n : Nat) : Bk := (hm (appl B R)).getD n blk0
theorem fs0_no {f : Frm} (hf : f ∈ List.replicate 5 frm0) (hv : f.valid = true) : False := by
  rw [(List.mem_replicate.1 hf).2] at hv; cases hv
theorem fs0_ok : FOk (List.replicate 5 frm0) D ws op := ⟨by simp, fun f hf hv => (fs0_no hf hv).elim, fun f hf hv => (fs0_no hf hv).elim, fun f hf hv => (fs0_no hf hv).elim, fun i j f g hf hg hv => (fs0_no (List.mem_of_getElem? hf) hv).elim⟩
theorem fs0_vw : vw (List.replicate 5 frm0) D [] n = (hm D).getD n blk0 := by
  rw [vw_out fun f hf hv => (fs0_no hf hv).elim, getD73]; rfl
theorem pabort_spec {K : Int → World → Prop} (s : PI dq w p B R cur true O) (hK : ∀ w', PI dq w' p B R (cmt B R) false O → FrP O w w' → K 0 w') : S.pager_Pager_Abort p w K := by
  unfold S.pager_Pager_Abort
  obtain ⟨l, Ol, fs, ord, ws, s, rfl⟩ := s
  refine ldB s.rc rfl ?_
  rw [if_neg (by simp)]
  have h5 := s.ok.len
  refine join_W (fun v => Blk v p (pgV l true (List.replicate 5 frm0) ord) ∧ Fr p 1 w v) ?_ ?_
  · rintro v ⟨c1, f1⟩
    obtain ⟨k1, F1⟩ := s.own (op' := true) (fs' := fs) (ord' := ord) f1
    refine ldP c1 rfl (labort_spec k1 fun w2 k2 F2 => ?_)
    rw [if_neg (by simp)]
    refine st1 (c1.frp F2 s.np) (by rw [pgV_len (by simp) s.oo.1]; omega) fun w3 c3 f3 s3 => ?_
    rw [pgV_op] at c3
    have F3 : FrP (fun b => b = p) w2 w3 := FrP.of f3 fun c h1 h2 => by omega
    exact hK w3 ⟨l, Ol, _, ord, [], ⟨c3, s.oo, fs0_ok, k2.frp F3 fun b hb e => s.np (e ▸ hb), s.np, fun n hn => fs0_vw⟩, rfl⟩ ((F1.trans (F2.mono fun b hb => .inr hb)).trans (F3.mono fun b hb => .inl hb))
  · intro J hJ
    refine loopN (fun m st v => ∃ i : Nat, st = ((i : Int), ()) ∧ i + m = 5 ∧ Blk v p (pgV l true (List.replicate i frm0 ++ fs.drop i) ord) ∧ Fr p 1 w v) 5 ⟨0, rfl, by omega, by simpa using s.rc, Fr.refl _ _ _⟩ ?_
    rintro m _ v ⟨i, rfl, hm, c1, f1⟩ Q hQ
    dsimp only
    have hl : (List.replicate i frm0 ++ fs.drop i).length = 5 := by simp; omega
    refine ifd (fun hi => ?_) fun hi => ?_
    · refine ⟨by omega, by omega, ?_⟩
      refine stFr (g := frm0) c1 hl s.oo.1 (i := i) (by omega) fun v2 c2 f2 => let_ ?_
      rw [W_succ (by omega)]
      refine hQ (m - 1) _ v2 (by omega) ⟨i + 1, rfl, by omega, ?_, f1.trans f2⟩
      have e : (List.replicate i frm0 ++ fs.drop i).set i frm0 = List.replicate (i + 1) frm0 ++ fs.drop (i + 1) := by
        rw [List.set_append_right _ _ (by simp), List.length_replicate, Nat.sub_self, List.drop_eq_getElem_cons (by omega), List.set_cons_zero, List.replicate_succ']
        simp
      rw [e] at c2
      exact c2
    · have : i = 5 := by omega
      subst this
      rw [List.drop_of_length_le (by omega), List.append_nil] at c1
      exact hJ v ⟨c1, f1⟩
theorem pempty_spec {K : Nat → World → Prop} (k : LI dq w l B R [] false Ol) (hK : ∀ w' p O', PI dq w' p B R (cmt B R) false O' → Gw Ol w O' w' → K p w') : S.pager_empty l w K := by
  unfold S.pager_empty
  refine newB fun w1 c1 f1 s1 => ?_
  have c1 : Blk w1 w.heap.size (pgV l false (List.replicate 5 frm0) [0, 0, 0, 0, 0]) := c1
  have o0 : OrdOk [0, 0, 0, 0, 0] := ⟨rfl, fun x hx => by simp at hx; omega⟩
  have hlen : (List.replicate 5 frm0).length = 5 := rfl
  refine loopN (fun m st v => ∃ (i : Nat) (ord : List Int), st = ((i : Int), ()) ∧ i + m = 5 ∧ Blk v w.heap.size (pgV l false (List.replicate 5 frm0) ord) ∧ OrdOk ord ∧ Fr 0 0 w v) 5 ⟨0, _, rfl, by omega, c1, o0, f1⟩ ?_
  rintro m _ v ⟨i, ord, rfl, hm, cv, ov, fv⟩ Q hQ
  dsimp only
  refine ifd (fun hi => ?_) fun hi => ?_
  · refine ⟨by omega, by omega, ?_⟩
    rw [Int.toNat_natCast, Nat.mul_one]
    refine st1 cv (by rw [pgV_len hlen ov.1]; omega) fun v2 c2 f2 s2 => let_ ?_
    rw [pgV_setO hlen (by omega) ov.1] at c2
    rw [W_succ (by omega)]
    exact hQ (m - 1) _ v2 (by omega) ⟨i + 1, _, rfl, by omega, c2, ov.set (by omega) (by omega) i, ((fv.any w.heap.size 1).trans f2).fresh (Nat.le_refl _) 0 0⟩
  · refine hK v w.heap.size _ ⟨l, Ol, _, ord, [], ⟨cv, ov, fs0_ok, k.fr0 fv, fun h => by have := k.lt h; omega, fun n hn => fs0_vw⟩, rfl⟩ ⟨FrP.of0 fv, ?_⟩
    rintro b (rfl | hb)
    · exact .inr (Nat.le_refl _)
    · exact .inl hb
end Go.Proofs.Qxb6500564aGreat
