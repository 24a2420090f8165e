/-
  The planner's roads lead to the same rows.
-/
import Derived.Test.Qxb6500564aGreatQzC
namespace Go.Proofs.Qxb6500564aGreat
open Go.Den Go.Zip
set_option linter.unusedVariables false
set_option linter.unusedSimpArgs false
variable {i j k n a b pk : Nat} {cs : List Cl} {wh : List Cp} {lo hi eq : Bd} {row : List Vl} {rows : List (List Vl)} {q : Tb}

/-- Rows of different keys come to stand by their keys. -/
theorem sortP_key {col : Nat} (hm : ∀ r ∈ rows, VMade (r.getD col v0)) (hp : rows.Pairwise fun a b => a.getD col v0 ≠ b.getD col v0) : (sortP col false rows).Pairwise fun a b => vl (a.getD col v0) (b.getD col v0) = true := by
  have key : ∀ (l acc : List (List Vl)), (∀ r ∈ l, VMade (r.getD col v0)) → (∀ r ∈ acc, VMade (r.getD col v0)) → l.Pairwise (fun a b => a.getD col v0 ≠ b.getD col v0) → (∀ a ∈ acc, ∀ b ∈ l, a.getD col v0 ≠ b.getD col v0) → acc.Pairwise (fun a b => vl (b.getD col v0) (a.getD col v0) = true) →
      (l.foldl (fun acc x => insRev (okS col false) x acc) acc).Pairwise (fun a b => vl (b.getD col v0) (a.getD col v0) = true) := by
    intro l
    induction l with
    | nil => exact fun acc _ _ _ _ h => h
    | cons x r ih =>
      intro acc hl ha hpl hx hac
      have hc := List.pairwise_cons.1 hpl
      have mx := hl x (by simp)
      have memI : ∀ {z}, z ∈ insRev (okS col false) x acc → z = x ∨ z ∈ acc := fun {z} hz => List.mem_cons.1 ((insRev_perm x acc).mem_iff.1 hz)
      refine ih (insRev (okS col false) x acc) (fun z hz => hl z (by simp [hz])) (fun z hz => ?_) hc.2 (fun a ha' b hb => ?_) ?_
      · rcases memI hz with rfl | hz
        · exact mx
        · exact ha z hz
      · rcases memI ha' with rfl | ha'
        · exact hc.1 b hb
        · exact hx a ha' b (by simp [hb])
      · have step : ∀ acc : List (List Vl), (∀ r ∈ acc, VMade (r.getD col v0)) → (∀ a ∈ acc, a.getD col v0 ≠ x.getD col v0) → acc.Pairwise (fun a b => vl (b.getD col v0) (a.getD col v0) = true) → (insRev (okS col false) x acc).Pairwise (fun a b => vl (b.getD col v0) (a.getD col v0) = true) := by
          intro acc
          induction acc with
          | nil => exact fun _ _ _ => List.pairwise_singleton _ _
          | cons y ys ih2 =>
            intro hm1 hk1 hp1
            have hc1 := List.pairwise_cons.1 hp1
            unfold insRev
            by_cases hok : okS col false y x = true
            · rw [if_pos hok]
              have hyx : vl (y.getD col v0) (x.getD col v0) = true := by
                unfold okS at hok
                rw [if_neg (by simp)] at hok
                have hok := of_decide_eq_true hok
                have he : cmpV (y.getD col v0) (x.getD col v0) ≠ 0 := fun he => hk1 y (by simp) (cmp_eq (hm1 y (by simp)) mx he)
                unfold vl
                rw [decide_eq_true_eq]
                omega
              refine List.pairwise_cons.2 ⟨fun z hz => ?_, hp1⟩
              rcases List.mem_cons.1 hz with rfl | hz
              · exact hyx
              · exact vl_trans (hc1.1 z hz) hyx
            · rw [if_neg hok]
              have hxy : vl (x.getD col v0) (y.getD col v0) = true := by
                unfold okS at hok
                rw [if_neg (by simp)] at hok
                have hok : ¬ cmpV (y.getD col v0) (x.getD col v0) ≤ 0 := by simpa using hok
                unfold vl
                rw [decide_eq_true_eq, cmp_swap (y.getD col v0)]
                omega
              refine List.pairwise_cons.2 ⟨fun z hz => ?_, ih2 (fun r hr => hm1 r (by simp [hr])) (fun a ha => hk1 a (by simp [ha])) hc1.2⟩
              rcases List.mem_cons.1 ((insRev_perm x ys).mem_iff.1 hz) with rfl | hz
              · exact hxy
              · exact hc1.1 z hz
        exact step acc ha (fun a ha' => hx a ha' x (by simp)) hac
  unfold sortP sortG
  rw [List.pairwise_reverse]
  exact key rows [] hm (fun r hr => by cases hr) hp (fun a ha => by cases ha) List.Pairwise.nil
/-- What a bound on column col tells. -/
def BdOk (cs : List Cl) (col : Nat) (b : Bd) : Prop := b.has = true → b.v.st = (cs.getD col c0).st ∧ b.v.s.size ≤ 7 ∧ VMade b.v
theorem BdOk.no : BdOk cs k bdN := fun h => by cases h
theorem sp_inv {P : SpR → Prop} {col : Int} (h0 : P ⟨0, bdN, bdN, bdN⟩) (hs : ∀ S c, c ∈ wh → usP c = true → coI cs c.col = col → P S → P ⟨S.n + 1, upL c S.lo, upH c S.hi, upE c S.eq⟩) : P (spQ cs col wh) := by
  unfold spQ
  have key : ∀ (l : List Cp) (S : SpR), (∀ c ∈ l, c ∈ wh) → P S → P (l.foldl (spS cs col) S) := by
    intro l
    induction l with
    | nil => exact fun S _ h => h
    | cons c l ih =>
      intro S hm h
      rw [List.foldl_cons]
      refine ih _ (fun c hc => hm c (by simp [hc])) ?_
      unfold spS
      split
      · rename_i hh
        exact hs S c (hm c (by simp)) hh.1 hh.2 h
      · exact h
  exact key wh _ (fun c hc => hc) h0
theorem sp_ty {col : Nat} (hty : ∀ c ∈ wh, tyG cs c = false) (hco : ∀ c ∈ wh, coN cs c.col ≠ none) (hmd : ∀ c ∈ wh, VMade c.lit) : BdOk cs col (spQ cs (col : Nat) wh).lo ∧ BdOk cs col (spQ cs (col : Nat) wh).hi ∧ BdOk cs col (spQ cs (col : Nat) wh).eq := by
  refine sp_inv (P := fun S => BdOk cs col S.lo ∧ BdOk cs col S.hi ∧ BdOk cs col S.eq) ⟨BdOk.no, BdOk.no, BdOk.no⟩ fun S c hc hu he h => ?_
  have lit : BdOk cs col ⟨true, c.lit⟩ := fun _ => by
    have ht := hty c hc
    obtain ⟨ci, hci⟩ := Option.ne_none_iff_exists'.1 (hco c hc)
    have e := coI_some hci
    rw [he] at e
    have e : col = ci := by omega
    unfold tyG at ht
    rw [hci, he, Int.toNat_natCast] at ht
    unfold usP at hu
    rw [Bool.and_eq_true, decide_eq_true_eq] at hu
    exact ⟨by simpa using ht, hu.2, hmd c hc⟩
  refine ⟨?_, ?_, ?_⟩
  · show BdOk cs col (upL c S.lo); unfold upL; split; exact lit; exact h.1
  · show BdOk cs col (upH c S.hi); unfold upH; split; exact lit; exact h.2.1
  · show BdOk cs col (upE c S.eq); unfold upE; split; exact lit; exact h.2.2
theorem hl_lo {c : Int} {op : Nat} (h : hlP c op = true) (h1 : op &&& 1 = 0) : ¬ c < 0 := fun hc => by
  unfold hlP at h
  have e2 : (c == 0) = false := by rw [beq_eq_false_iff_ne]; omega
  have e3 : decide (c > 0) = false := decide_eq_false (by omega)
  rw [h1, e2, e3] at h
  simp at h
theorem hl_hi {c : Int} {op : Nat} (h : hlP c op = true) (h1 : op &&& 4 = 0) : ¬ c > 0 := fun hc => by
  unfold hlP at h
  have e2 : (c == 0) = false := by rw [beq_eq_false_iff_ne]; omega
  have e3 : decide (c < 0) = false := decide_eq_false (by omega)
  rw [h1, e2, e3] at h
  simp at h
theorem sp_mt {col : Nat} (hm : mtP cs wh row = true) : ((spQ cs (col : Nat) wh).lo.has = true → vl (row.getD col v0) (spQ cs (col : Nat) wh).lo.v = false) ∧ ((spQ cs (col : Nat) wh).hi.has = true → vl (spQ cs (col : Nat) wh).hi.v (row.getD col v0) = false) ∧ ((spQ cs (col : Nat) wh).eq.has = true → cmpV (row.getD col v0) (spQ cs (col : Nat) wh).eq.v = 0) := by
  refine sp_inv (P := fun S => (S.lo.has = true → vl (row.getD col v0) S.lo.v = false) ∧ (S.hi.has = true → vl S.hi.v (row.getD col v0) = false) ∧ (S.eq.has = true → cmpV (row.getD col v0) S.eq.v = 0)) ⟨fun h => (by cases h), fun h => (by cases h), fun h => (by cases h)⟩ fun S c hc hu he h => ?_
  have hh : hlP (cmpV (row.getD col v0) c.lit) c.op = true := by
    have := List.all_eq_true.1 hm c hc
    rw [he, Int.toNat_natCast] at this
    exact this
  refine ⟨?_, ?_, ?_⟩
  · show (upL c S.lo).has = true → vl (row.getD col v0) (upL c S.lo).v = false
    unfold upL
    split
    · rename_i h1
      intro _
      unfold vl
      exact decide_eq_false (hl_lo hh h1.1)
    · exact h.1
  · show (upH c S.hi).has = true → vl (upH c S.hi).v (row.getD col v0) = false
    unfold upH
    split
    · rename_i h1
      intro _
      unfold vl
      have := hl_hi hh h1.1
      refine decide_eq_false fun h => ?_
      have h : cmpV c.lit (row.getD col v0) < 0 := h
      rw [cmp_swap (row.getD col v0)] at h
      omega
    · exact h.2.1
  · show (upE c S.eq).has = true → cmpV (row.getD col v0) (upE c S.eq).v = 0
    unfold upE
    split
    · rename_i h1
      intro _
      have g1 := hl_lo hh (by rw [h1.1]; rfl)
      have g2 := hl_hi hh (by rw [h1.1]; rfl)
      show cmpV (row.getD col v0) c.lit = 0
      omega
    · exact h.2.2
theorem rows_pw (ok : TbOk q) : q.rows.Pairwise fun a b => vl (a.getD q.pk v0) (b.getD q.pk v0) = true := by
  have ok' := ok
  unfold TbOk at ok'
  refine List.Pairwise.imp_of_mem (fun {a b} ha hb h => ?_) ok'.2.2.2.2.2.2.2
  rw [vl_same (by rw [ty_get (ok'.2.2.2.2.2.2.1 a ha).1 ok'.2.2.2.1, ty_get (ok'.2.2.2.2.2.2.1 b hb).1 ok'.2.2.2.1])]
  exact h
theorem rows_made (ok : TbOk q) {r : List Vl} (hr : r ∈ q.rows) (c : Nat) : VMade (r.getD c v0) := by
  unfold TbOk at ok
  exact ok_made (getD_ok (ok.2.2.2.2.2.2.1 r hr).2 _)
/-- The scan's road. -/
theorem road_scan {P : Pn} {out : List (List Vl)} (ok : TbOk q) (hP : P = plP q.cols q.pk q.ix wh) (h1 : P.kind ≠ 1) (hs : ScanR q.rows P.col.toNat q.pk P.lo P.hi out) :
    (if P.kind = 3 then sortP q.pk false (out.filter (mtP q.cols wh)) else out.filter (mtP q.cols wh)) = q.rows.filter (mtP q.cols wh) := by
  have hp := rows_pw ok
  have mem : ∀ col : Nat, P.col = (col : Nat) → P.lo = (spQ q.cols (col : Nat) wh).lo ∧ P.hi = (spQ q.cols (col : Nat) wh).hi ∨ (P.lo = bdN ∧ P.hi = bdN) → ∀ r, r ∈ out.filter (mtP q.cols wh) ↔ r ∈ q.rows.filter (mtP q.cols wh) := fun col hc hb r => by
    rw [List.mem_filter, List.mem_filter, hs.2]
    refine ⟨fun h => ⟨h.1.1, h.2⟩, fun h => ⟨⟨h.1, ?_⟩, h.2⟩⟩
    rw [hc, Int.toNat_natCast]
    unfold inB
    rcases hb with ⟨e1, e2⟩ | ⟨e1, e2⟩
    · obtain ⟨m1, m2, _⟩ := sp_mt (col := col) h.2
      rw [e1, e2]
      rw [Bool.and_eq_true]
      constructor
      · cases hh : (spQ q.cols (col : Nat) wh).lo.has with
        | false => rfl
        | true => rw [m1 hh]; rfl
      · cases hh : (spQ q.cols (col : Nat) wh).hi.has with
        | false => rfl
        | true => rw [m2 hh]; rfl
    · rw [e1, e2]; rfl
  have pf : (q.rows.filter (mtP q.cols wh)).Pairwise fun a b => vl (a.getD q.pk v0) (b.getD q.pk v0) = true := hp.filter _
  have irr : ∀ a : List Vl, ¬ vl (a.getD q.pk v0) (a.getD q.pk v0) = true := fun a h => by rw [vl_irrefl] at h; cases h
  have asy : ∀ a b : List Vl, vl (a.getD q.pk v0) (b.getD q.pk v0) = true → ¬ vl (b.getD q.pk v0) (a.getD q.pk v0) = true := fun a b h => by rw [vl_asym h]; simp
  have pkcol : P.col = (q.pk : Nat) → (out.filter (mtP q.cols wh)).Pairwise fun a b => vl (a.getD q.pk v0) (b.getD q.pk v0) = true := fun e => by
    have := hs.1
    rw [e, Int.toNat_natCast] at this
    refine List.Pairwise.imp_of_mem (fun _ _ h => ?_) (this.filter _)
    rcases h with h | h
    · exact h
    · exact h.2
  unfold plP at hP
  split at hP
  · exact absurd (by rw [hP]) h1
  split at hP
  · rw [if_neg (by rw [hP]; simp)]
    refine pw_ext irr asy (pkcol (by rw [hP])) pf (mem q.pk (by rw [hP]) (.inl (by rw [hP]; exact ⟨rfl, rfl⟩)))
  split at hP
  · rename_i hx
    rw [if_pos (by rw [hP])]
    obtain ⟨c, hc⟩ := Int.eq_ofNat_of_zero_le hx.1
    have hm := mem c (by rw [hP]; exact hc) (.inl (by rw [hP, ← hc]; exact ⟨rfl, rfl⟩))
    refine pw_ext irr asy (sortP_key (fun r hr => rows_made ok (List.mem_filter.1 ((hm r).1 hr)).1 _) ?_) pf fun r => by rw [sortP_mem, hm]
    -- the keys are all different
    have hnd : (out.filter (mtP q.cols wh)).Pairwise fun a b => a ≠ b := by
      refine List.Pairwise.imp_of_mem (fun _ _ h e => ?_) (hs.1.filter _)
      subst e
      exact rl_irrefl h
    refine List.Pairwise.imp_of_mem (fun {a b} ha hb hne e => ?_) hnd
    have ha' := (List.mem_filter.1 ((hm a).1 ha)).1
    have hb' := (List.mem_filter.1 ((hm b).1 hb)).1
    refine hne ?_
    obtain ⟨i, hi, ei⟩ := List.getElem_of_mem ha'
    obtain ⟨j, hj, ej⟩ := List.getElem_of_mem hb'
    rw [List.pairwise_iff_getElem] at hp
    rcases Nat.lt_trichotomy i j with h | h | h
    · have := hp i j hi hj h
      rw [ei, ej, e, vl_irrefl] at this; cases this
    · subst h
      exact ei.symm.trans ej
    · have := hp j i hj hi h
      rw [ei, ej, e, vl_irrefl] at this; cases this
  · rw [if_neg (by rw [hP]; simp)]
    refine pw_ext irr asy (pkcol (by rw [hP])) pf (mem q.pk (by rw [hP]) (.inr (by rw [hP]; exact ⟨rfl, rfl⟩)))
/-- A scan on the planner's road is not refused. -/
theorem road_ok {P : Pn} (ok : TbOk q) (hP : P = plP q.cols q.pk q.ix wh) (h1 : P.kind ≠ 1) (hty : ∀ c ∈ wh, tyG q.cols c = false) (hco : ∀ c ∈ wh, coN q.cols c.col ≠ none) (hmd : ∀ c ∈ wh, VMade c.lit) :
    scanE q P.col P.lo P.hi = 0 ∧ VMade P.lo.v ∧ VMade P.hi.v := by
  have ok' := ok
  unfold TbOk at ok'
  have hpk := ok'.2.2.2.1
  have hix := ok'.2.2.2.2.1
  have m0 : VMade v0 := ⟨fun h => (by cases h), fun _ => ⟨rfl, by show I64 0; unfold I64; omega⟩⟩
  have mkS : ∀ (col : Nat) (lo hi : Bd), col < q.cols.length → ((col : Int) = q.pk ∨ (col : Int) = q.ix) → BdOk q.cols col lo → BdOk q.cols col hi → scanE q (col : Nat) lo hi = 0 := fun col lo hi h1 h2 h3 h4 => by
    unfold scanE
    rw [if_neg (by omega), if_neg (by omega), Int.toNat_natCast, if_neg, if_neg]
    · rintro (⟨h, h'⟩ | ⟨h, h'⟩)
      · have := (h3 h).2.1; omega
      · have := (h4 h).2.1; omega
    · rintro (⟨h, h'⟩ | ⟨h, h'⟩)
      · exact h' (h3 h).1
      · exact h' (h4 h).1
  have mk : ∀ (b : Bd) (col : Nat), BdOk q.cols col b → (b.has = false → b.v = v0) → VMade b.v := fun b col h1 h2 => by
    cases h : b.has with
    | true => exact (h1 h).2.2
    | false => rw [h2 h]; exact m0
  have has0 : ∀ col : Int, ((spQ q.cols col wh).lo.has = false → (spQ q.cols col wh).lo.v = v0) ∧ ((spQ q.cols col wh).hi.has = false → (spQ q.cols col wh).hi.v = v0) := fun col => by
    refine sp_inv (P := fun S => (S.lo.has = false → S.lo.v = v0) ∧ (S.hi.has = false → S.hi.v = v0)) ⟨fun _ => rfl, fun _ => rfl⟩ fun S c hc hu he h => ⟨?_, ?_⟩
    · show (upL c S.lo).has = false → (upL c S.lo).v = v0
      unfold upL
      split
      · intro h; cases h
      · exact h.1
    · show (upH c S.hi).has = false → (upH c S.hi).v = v0
      unfold upH
      split
      · intro h; cases h
      · exact h.2
  unfold plP at hP
  split at hP
  · exact absurd (by rw [hP]) h1
  split at hP
  · obtain ⟨t1, t2, _⟩ := sp_ty (col := q.pk) hty hco hmd
    subst hP
    exact ⟨mkS q.pk _ _ hpk (.inl rfl) t1 t2, mk _ _ t1 (has0 _).1, mk _ _ t2 (has0 _).2⟩
  split at hP
  · rename_i hx
    obtain ⟨c, hc⟩ := Int.eq_ofNat_of_zero_le hx.1
    obtain ⟨t1, t2, _⟩ := sp_ty (col := c) hty hco hmd
    have hc : q.ix = (c : Nat) := hc
    rw [hc] at hP
    subst hP
    exact ⟨mkS c _ _ (by omega) (.inr hc.symm) t1 t2, mk _ _ t1 (has0 _).1, mk _ _ t2 (has0 _).2⟩
  · subst hP
    exact ⟨mkS q.pk _ _ hpk (.inl rfl) BdOk.no BdOk.no, m0, m0⟩
/-- The lookup's road. -/
theorem road_look {P : Pn} (ok : TbOk q) (hP : P = plP q.cols q.pk q.ix wh) (h1 : P.kind = 1) (hty : ∀ c ∈ wh, tyG q.cols c = false) (hco : ∀ c ∈ wh, coN q.cols c.col ≠ none) (hmd : ∀ c ∈ wh, VMade c.lit) :
    VMade P.lo.v ∧ chkVal q.cols q.pk P.lo.v = 0 ∧ (rowBy q (codeV P.lo.v) = none → q.rows.filter (mtP q.cols wh) = []) ∧ ∀ y, rowBy q (codeV P.lo.v) = some y → q.rows.filter (mtP q.cols wh) = [y].filter (mtP q.cols wh) := by
  unfold plP at hP
  split at hP
  case isFalse =>
    split at hP
    · subst hP; cases h1
    · split at hP
      · subst hP; cases h1
      · subst hP; cases h1
  rename_i he
  obtain ⟨_, _, t3⟩ := sp_ty (col := q.pk) hty hco hmd
  obtain ⟨t3, t4, t5⟩ := t3 he
  have hlo : P.lo = (spQ q.cols (q.pk : Nat) wh).eq := by rw [hP]
  have vok : VOk (spQ q.cols (q.pk : Nat) wh).eq.v := ⟨fun h => ⟨t5.1 h, t4⟩, fun h => t5.2 h⟩
  have key : ∀ r ∈ q.rows, mtP q.cols wh r = true → r.getD q.pk v0 = (spQ q.cols (q.pk : Nat) wh).eq.v := fun r hr hm =>
    cmp_eq (rows_made ok hr _) t5 ((sp_mt (col := q.pk) hm).2.2 he)
  rw [hlo]
  refine ⟨t5, ?_, fun hn => ?_, fun y hy => ?_⟩
  · unfold chkVal
    rw [if_neg (by simpa using t3), if_neg (by omega)]
  · rw [List.filter_eq_nil_iff]
    intro r hr hm
    have : (rowBy q (codeV (spQ q.cols (q.pk : Nat) wh).eq.v)) = some r := (rowBy_iff ok vok t3).2 ⟨hr, key r hr hm⟩
    rw [hn] at this; cases this
  · have hp := rows_pw ok
    have irr : ∀ a : List Vl, ¬ vl (a.getD q.pk v0) (a.getD q.pk v0) = true := fun a h => by rw [vl_irrefl] at h; cases h
    have asy : ∀ a b : List Vl, vl (a.getD q.pk v0) (b.getD q.pk v0) = true → ¬ vl (b.getD q.pk v0) (a.getD q.pk v0) = true := fun a b h => by rw [vl_asym h]; simp
    have hy' := (rowBy_iff ok vok t3).1 hy
    refine pw_ext irr asy (hp.filter _) ((List.pairwise_singleton _ _).filter _) fun r => ?_
    rw [List.mem_filter, List.mem_filter, List.mem_singleton]
    constructor
    · rintro ⟨hr, hm⟩
      have : (rowBy q (codeV (spQ q.cols (q.pk : Nat) wh).eq.v)) = some r := (rowBy_iff ok vok t3).2 ⟨hr, key r hr hm⟩
      rw [hy] at this
      exact ⟨(Option.some.inj this).symm, hm⟩
    · rintro ⟨rfl, hm⟩
      exact ⟨hy'.1, hm⟩
end Go.Proofs.Qxb6500564aGreat
