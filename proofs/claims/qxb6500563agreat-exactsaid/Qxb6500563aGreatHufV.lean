/-
  The real tree: its walk.
-/
import Derived.Test.Qxb6500563aGreatHufU
namespace Go.Zip
set_option linter.unusedVariables false
set_option linter.unusedSimpArgs false
/-- The leaves of the first j symbols. -/
structure LeavesP (c : Nat → Nat) (j m : Nat) (wt ht num : Nat → Nat) : Prop where
  cnt : m = usedN j c
  key : ∀ x, x < m → num x < j ∧ 0 < c (num x) ∧ wt x = c (num x) ∧ ht x = 0
  mono : ∀ x y, x < y → y < m → num x < num y
  onto : ∀ i, i < j → 0 < c i → ∃ x, x < m ∧ num x = i
theorem leaves_nil (c wt ht num : Nat → Nat) : LeavesP c 0 0 wt ht num := ⟨rfl, fun x hx => by omega, fun x y h hy => by omega, fun i hi => by omega⟩
theorem leaves_skip {c : Nat → Nat} {j m : Nat} {wt ht num : Nat → Nat} (l : LeavesP c j m wt ht num) (hc : c j = 0) : LeavesP c (j + 1) m wt ht num := by
  refine ⟨?_, fun x hx => ?_, l.mono, fun i hi hci => ?_⟩
  · rw [l.cnt]; unfold usedN; rw [cntTo_succ]; simp [hc]
  · have := l.key x hx; omega
  · by_cases h : i = j
    · subst h; omega
    · exact l.onto i (by omega) hci
theorem leaves_add {c : Nat → Nat} {j m : Nat} {wt ht num : Nat → Nat} (l : LeavesP c j m wt ht num) (hc : 0 < c j) : LeavesP c (j + 1) (m + 1) (fset wt m (c j)) (fset ht m 0) (fset num m j) := by
  refine ⟨?_, fun x hx => ?_, fun x y hxy hy => ?_, fun i hi hci => ?_⟩
  · rw [l.cnt]; unfold usedN; rw [cntTo_succ]; simp [hc]
  · by_cases h : x = m
    · subst h; rw [fset_eq, fset_eq, fset_eq]; exact ⟨by omega, hc, rfl, rfl⟩
    · rw [fset_ne h, fset_ne h, fset_ne h]
      have := l.key x (by omega); exact ⟨by omega, this.2⟩
  · by_cases h : y = m
    · subst h; rw [fset_eq, fset_ne (by omega)]; exact (l.key x (by omega)).1
    · rw [fset_ne h, fset_ne (by omega)]; exact l.mono x y hxy (by omega)
  · by_cases h : i = j
    · subst h; exact ⟨m, by omega, fset_eq ..⟩
    · obtain ⟨x, hx, e⟩ := l.onto i (by omega) hci
      exact ⟨x, by omega, by rw [fset_ne (by omega)]; exact e⟩
theorem leaves_inj {c : Nat → Nat} {j m : Nat} {wt ht num : Nat → Nat} (l : LeavesP c j m wt ht num) : ∀ x y, x < m → y < m → num x = num y → x = y := fun x y hx hy e => by
  rcases Nat.lt_trichotomy x y with h | h | h
  · have := l.mono x y h hy; omega
  · exact h
  · have := l.mono y x h hx; omega
theorem leaves_forest {c : Nat → Nat} {n m : Nat} {wt ht num : Nat → Nat} (l : LeavesP c n m wt ht num) (par : Nat → Nat) : Forest n c m m wt ht num par (fun v => v < m) (initS c) := by
  refine ⟨fun x hx => hx, fun x hx => ?_, leaves_inj l, l.onto, fun x hx => ?_, leaves_inj l, l.onto, fun y hy h => absurd hy h, fun D hD x hx => ⟨x, hx, rfl, by simp [initS]⟩⟩
  · have := l.key x hx
    exact ⟨this.1, this.2.2.1, this.2.2.2, this.2.1⟩
  · have := l.key x hx; exact ⟨this.1, this.2.1⟩
end Go.Zip
namespace Go.Proofs.Qxb6500563aGreat
open Go.Den Go.Zip
set_option linter.unusedVariables false
set_option linter.unusedSimpArgs false
variable {w w' : World} {C : Nat} {s : CS}
/-- The code that is held has not turned. -/
def Ext (s t : CS) : Prop := t.n = s.n ∧ t.top = s.top ∧ t.lens = s.lens ∧ t.code = s.code ∧ t.sub = s.sub ∧ t.root = s.root
theorem Ext.refl (s : CS) : Ext s s := ⟨rfl, rfl, rfl, rfl, rfl, rfl⟩

/-- The pass from the root down. -/
theorem huff_deps_spec {w0 : World} {sl : Sl} {cb ob n lv m : Nat} {c : Nat → Nat} {K : Int → World → Prop} {L : Nat → Prop} {st : HS} (hs : PW w C s) (hc : IS w sl cb n c) (hcC : cb < C ∨ C + 11 ≤ cb) (hcob : cb ≠ ob) (hn : n ≤ 265) (hm : 2 ≤ m) (hm2 : m ≤ 529) (hlv : lv ≤ m)
    (hob : Blk w ob (nats n fun _ => 0)) (hobC : ob < C ∨ C + 11 ≤ ob) (hobw : w0.heap.size ≤ ob) (hf : Fr C 11 w0 w)
    (F : Forest n c lv m s.wt s.ht s.num s.par L st) (hroot : ∀ y, L y → y = m - 1) (hLr : L (m - 1))
    (hK : ∀ w' t (deep : Nat) (o : Nat → Nat), PW w' C t → Ext s t → t.heap = s.heap → IS w' sl cb n c → Blk w' ob (nats n o) → (∀ i, i < n → 0 < c i → o i = st.lens i) → (∀ i, i < n → c i = 0 → o i = 0) → (∀ i, i < n → o i ≤ deep) → Fr C 11 w0 w' → K (deep : Int) w') :
    (LdS w ⟨C, 10, none⟩ fun dep_3 =>
      Ix dep_3.a dep_3.l (W ((m : Int) - 1)) fun b4 o5 =>
      St1 w ⟨b4, o5 + Int.toNat (W ((m : Int) - 1)) * 1, none⟩ (.int .i64 0) fun w =>
      Let (W ((m : Int) - 2)) fun x_6 =>
      LoopP (σ := Int × Int × Unit) (fun st7 w next8 =>
        if (decide (st7.2.1 ≥ 0)) = true then
          Join (fun (deep_9 : Int) (w : World) =>
            Let (W (st7.2.1 - 1)) fun x_10 =>
            next8 (deep_9, x_10, ()) w) fun J11 =>
          Drew w fun w =>
          LdS w ⟨C, 10, none⟩ fun dep_12 =>
          LdS w ⟨C, 10, none⟩ fun dep_13 =>
          LdS w ⟨C, 9, none⟩ fun par_14 =>
          Ix par_14.a par_14.l st7.2.1 fun b15 o16 =>
          LdI .i64 w ⟨b15, o16 + Int.toNat st7.2.1 * 1, none⟩ fun x_17 =>
          Ix dep_13.a dep_13.l x_17 fun b18 o19 =>
          LdI .i64 w ⟨b18, o19 + Int.toNat x_17 * 1, none⟩ fun x_20 =>
          Ix dep_12.a dep_12.l st7.2.1 fun b21 o22 =>
          St1 w ⟨b21, o22 + Int.toNat st7.2.1 * 1, none⟩ (.int .i64 (W (x_20 + 1))) fun w =>
          if (decide (st7.2.1 < (lv : Int))) = true then
            Drew w fun w =>
            LdS w ⟨C, 8, none⟩ fun num_23 =>
            Ix num_23.a num_23.l st7.2.1 fun b24 o25 =>
            LdI .i64 w ⟨b24, o25 + Int.toNat st7.2.1 * 1, none⟩ fun x_26 =>
            LdS w ⟨C, 10, none⟩ fun dep_27 =>
            Ix dep_27.a dep_27.l st7.2.1 fun b28 o29 =>
            LdI .i64 w ⟨b28, o29 + Int.toNat st7.2.1 * 1, none⟩ fun x_30 =>
            Ix (some ⟨ob, 0, none⟩) n x_26 fun b31 o32 =>
            St1 w ⟨b31, o32 + Int.toNat x_26 * 1, none⟩ (.int .i64 x_30) fun w =>
            LdS w ⟨C, 10, none⟩ fun dep_33 =>
            Ix dep_33.a dep_33.l st7.2.1 fun b34 o35 =>
            LdI .i64 w ⟨b34, o35 + Int.toNat st7.2.1 * 1, none⟩ fun x_36 =>
            if (decide (x_36 > st7.1)) = true then
              LdS w ⟨C, 10, none⟩ fun dep_37 =>
              Ix dep_37.a dep_37.l st7.2.1 fun b38 o39 =>
              LdI .i64 w ⟨b38, o39 + Int.toNat st7.2.1 * 1, none⟩ fun x_40 =>
              J11 x_40 w
            else
              J11 st7.1 w
          else
            J11 st7.1 w
        else
          K st7.1 w) (0, x_6, ()) w) := by
  rw [W_pred (by omega) (by omega)]
  refine ldS hs.rc rfl (wrN (v := 0) hs.dep (by omega) rfl fun w1 b1 f1 _ => ?_)
  have h1 := hs.setDep b1 f1
  refine let_ ?_
  refine loopN (fun k stt w2 => ∃ (t : CS) (deep : Nat) (o : Nat → Nat), stt = ((deep : Int), (k : Int) - 1, ()) ∧ k ≤ m - 1 ∧ PW w2 C t ∧ Ext s t ∧ t.heap = s.heap ∧ IS w2 sl cb n c ∧ t.par = s.par ∧ t.num = s.num ∧ t.dep (m - 1) = 0 ∧ (∀ y, k ≤ y → y < m - 1 → t.dep y = t.dep (s.par y) + 1) ∧ (∀ y, k ≤ y → y < m → t.dep y + y ≤ m - 1) ∧
      Blk w2 ob (nats n o) ∧ (∀ z, k ≤ z → z < lv → o (s.num z) = t.dep z) ∧ (∀ i, (∀ z, k ≤ z → z < lv → s.num z ≠ i) → o i = 0) ∧ (∀ i, o i ≤ deep) ∧ Fr C 11 w0 w2) (m - 1)
    ⟨{ s with dep := fset s.dep (m - 1) 0 }, 0, fun _ => 0, ?_, by omega, h1, ⟨rfl, rfl, rfl, rfl, rfl, rfl⟩, rfl, hc.fr f1 (by omega), rfl, rfl, fset_eq .., fun y h1 h2 => by omega, fun y hy1 hy2 => ?_, hob.fr f1 (by omega), fun z hz1 hz2 => ?_, fun _ _ => rfl, fun _ => Nat.le_refl _, hf.trans (f1.mono (by omega) (by omega))⟩ ?_
  · rw [W_id (by omega) (by omega)]
    congr 2
    omega
  · have : y = m - 1 := by omega
    subst this
    show fset s.dep (m - 1) 0 (m - 1) + _ ≤ _
    rw [fset_eq]; omega
  · have : z = m - 1 := by omega
    subst this
    show 0 = fset s.dep (m - 1) 0 (m - 1)
    rw [fset_eq]
  rintro k _ w2 ⟨t, deep, o, rfl, hk, h2, e2, eh, hc2, ep, en, d0, d1, d2, bo, o1, o2, o3, f2⟩ Q hQ
  dsimp only
  by_cases hk0 : 0 < k
  · rw [if_pos (by simp only [decide_eq_true_eq]; omega), show (k : Int) - 1 = ((k - 1 : Nat) : Int) from by omega]
    have hnl : ¬ L (k - 1) := fun hl => by have := hroot _ hl; omega
    have hpar := F.parLt (k - 1) (by omega) hnl
    refine join_ (drew_ (ldS h2.rc.drew rfl (ldS h2.rc.drew rfl (ldS h2.rc.drew rfl (rdN h2.par.drew (by omega) ?_)))))
    rw [ep]
    refine rdN h2.dep.drew (by omega) ?_
    have hd := d2 (s.par (k - 1)) (by omega) hpar.2
    have hwd : W ((t.dep (s.par (k - 1)) : Int) + 1) = ((t.dep (s.par (k - 1)) + 1 : Nat) : Int) := W_succ (by omega)
    refine wrN (v := t.dep (s.par (k - 1)) + 1) h2.dep.drew (by omega) hwd fun w3 b3 f3 _ => ?_
    have h3 := h2.drew.setDep b3 f3
    have f3' : Fr C 11 w0 w3 := f2.trans ((show Fr (C + 9) 1 w2 w3 from f3).mono (by omega) (by omega))
    have bo3 : Blk w3 ob (nats n o) := (show Blk w2.drew ob _ from bo).fr f3 (by omega)
    have hc3 : IS w3 sl cb n c := (hc2.heq (w' := w2.drew) rfl).fr f3 (by omega)
    generalize hdv : t.dep (s.par (k - 1)) + 1 = dv at *
    have g0 : fset t.dep (k - 1) dv (m - 1) = 0 := by rw [fset_ne (by omega)]; exact d0
    have g1 : ∀ y, k - 1 ≤ y → y < m - 1 → fset t.dep (k - 1) dv y = fset t.dep (k - 1) dv (s.par y) + 1 := fun y hy1 hy2 => by
      have hp := F.parLt y (by omega) (fun hl => by have := hroot _ hl; omega)
      rw [fset_ne (by omega : s.par y ≠ k - 1)]
      by_cases hyk : y = k - 1
      · subst hyk; rw [fset_eq]; exact hdv.symm
      · rw [fset_ne hyk]; exact d1 y (by omega) hy2
    have g2 : ∀ y, k - 1 ≤ y → y < m → fset t.dep (k - 1) dv y + y ≤ m - 1 := fun y hy1 hy2 => by
      by_cases hyk : y = k - 1
      · subst hyk; rw [fset_eq]; omega
      · rw [fset_ne hyk]; exact d2 y (by omega) hy2
    have nx : ∀ (deep' : Nat) (o' : Nat → Nat) (w4 : World), PW w4 C { t with dep := fset t.dep (k - 1) dv } → IS w4 sl cb n c → Blk w4 ob (nats n o') → (∀ z, k - 1 ≤ z → z < lv → o' (s.num z) = fset t.dep (k - 1) dv z) → (∀ i, (∀ z, k - 1 ≤ z → z < lv → s.num z ≠ i) → o' i = 0) → (∀ i, o' i ≤ deep') → Fr C 11 w0 w4 →
        (Let (W (((k - 1 : Nat) : Int) - 1)) fun x_10 => Q ((deep' : Int), x_10, ()) w4) := by
      intro deep' o' w4 h4 hc4 b4 p1 p2 p3 f4
      rw [W_id (by omega) (by omega)]
      exact let_ (hQ (k - 1) _ _ (by omega) ⟨_, deep', o', rfl, by omega, h4, e2, eh, hc4, ep, en, g0, g1, g2, b4, p1, p2, p3, f4⟩)
    by_cases hleaf : k - 1 < lv
    · rw [if_pos (by simp only [decide_eq_true_eq]; omega)]
      have hnum := (F.leaf (k - 1) hleaf).1
      refine drew_ (ldS h3.rc.drew rfl (rdN h3.num.drew (by omega) ?_))
      rw [show ({ t with dep := fset t.dep (k - 1) dv } : CS).num = s.num from en]
      refine ldS h3.rc.drew rfl (rdN h3.dep.drew (by omega) ?_)
      rw [show ({ t with dep := fset t.dep (k - 1) dv } : CS).dep (k - 1) = dv from fset_eq ..]
      refine wrN (v := dv) bo3.drew hnum rfl fun w4 b4 f4 _ => ?_
      have h4 : PW w4 C { t with dep := fset t.dep (k - 1) dv } := h3.drew.fr f4 (by omega)
      have hc4 : IS w4 sl cb n c := (hc3.heq (w' := w3.drew) rfl).fr f4 (by omega)
      have f4' : Fr C 11 w0 w4 := f3'.thenNew (show Fr ob 1 w3 w4 from f4) hobw
      have q1 : ∀ z, k - 1 ≤ z → z < lv → fset o (s.num (k - 1)) dv (s.num z) = fset t.dep (k - 1) dv z := fun z hz1 hz2 => by
        by_cases hzk : z = k - 1
        · subst hzk; rw [fset_eq, fset_eq]
        · rw [fset_ne hzk, fset_ne (fun e => hzk (F.leafInj z (k - 1) hz2 hleaf e))]
          exact o1 z (by omega) hz2
      have q2 : ∀ i, (∀ z, k - 1 ≤ z → z < lv → s.num z ≠ i) → fset o (s.num (k - 1)) dv i = 0 := fun i hi => by
        rw [fset_ne (fun e => hi (k - 1) (by omega) hleaf e.symm)]
        exact o2 i fun z hz1 hz2 => hi z (by omega) hz2
      refine ldS h4.rc rfl (rdN h4.dep (by omega) ?_)
      rw [show ({ t with dep := fset t.dep (k - 1) dv } : CS).dep (k - 1) = dv from fset_eq ..]
      by_cases hdeep : dv > deep
      · rw [if_pos (by simp only [decide_eq_true_eq]; omega)]
        refine ldS h4.rc rfl (rdN h4.dep (by omega) ?_)
        rw [show ({ t with dep := fset t.dep (k - 1) dv } : CS).dep (k - 1) = dv from fset_eq ..]
        refine nx dv _ w4 h4 hc4 b4 q1 q2 (fun i => ?_) f4'
        unfold fset; split
        · omega
        · have := o3 i; omega
      · rw [if_neg (by simp only [decide_eq_true_eq]; omega)]
        refine nx deep _ w4 h4 hc4 b4 q1 q2 (fun i => ?_) f4'
        unfold fset; split
        · omega
        · exact o3 i
    · rw [if_neg (by simp only [decide_eq_true_eq]; omega)]
      refine nx deep o w3 h3 hc3 bo3 (fun z hz1 hz2 => by omega) (fun i hi => o2 i fun z hz1 hz2 => by omega) o3 f3'
  · rw [if_neg (by simp only [decide_eq_true_eq]; omega)]
    have hk0 : k = 0 := by omega
    subst hk0
    refine hK w2 t deep o h2 e2 eh hc2 bo (fun i hi hc => ?_) (fun i hi hc => o2 i fun z _ hz2 e => ?_) (fun i _ => o3 i) f2
    · obtain ⟨x, hx, ex⟩ := F.leafOnto i hi hc
      obtain ⟨y, hy, ey, ed⟩ := F.up t.dep (fun y hy hl => d1 y (by omega) (by
        rcases Nat.lt_or_ge y (m - 1) with h | h
        · exact h
        · exact absurd (by rw [show y = m - 1 from by omega]; exact hLr) hl)) x hx
      have := hroot y hy
      subst this
      rw [← ex, o1 x (by omega) hx, ed, d0, Nat.add_zero]
    · have := (F.leaf z hz2).2
      rw [e] at this; omega

set_option maxHeartbeats 1600000 in
theorem huff_tree_spec {w0 : World} {sl : Sl} {cb ob n : Nat} {c : Nat → Nat} {K : Int → World → Prop} (hs : PW w C s) (hc : IS w sl cb n c) (hcC : cb < C ∨ C + 11 ≤ cb) (hcob : cb ≠ ob) (hn : n ≤ 265) (hcm : ∀ i, i < n → c i ≤ 1048576) (h2 : 2 ≤ usedN n c)
    (hob : Blk w ob (nats n fun _ => 0)) (hobC : ob < C ∨ C + 11 ≤ ob) (hobw : w0.heap.size ≤ ob) (hf : Fr C 11 w0 w) (hheap : ∀ t, t < 265 → s.heap t < 529)
    (hK : ∀ w' t (deep : Nat), PW w' C t → (∀ x, x < 265 → t.heap x < 529) → Ext s t → Blk w' ob (nats n (plainL n c)) → (∀ i, i < n → plainL n c i ≤ deep) → Fr C 11 w0 w' → IS w' sl cb n c → K (deep : Int) w') :
    S.huff_Coder_tree C sl ⟨some ⟨ob, 0, none⟩, n, n⟩ w K := by
  unfold S.huff_Coder_tree
  have hcl := hc.len
  refine st1 hs.rc (by simp [rcd]) fun w1 b1 f1 _ => ?_
  have h1 : PW w1 C { s with fill := 0 } := hs.setFill (v := 0) b1 f1
  refine join_ ?_
  have hused : usedN n c ≤ n := cntTo_le n fun i => decide (0 < c i)
  refine loopN (fun k stt v => ∃ (j m : Nat) (t : CS), stt = ((m : Int), (j : Int), ()) ∧ k + j = n ∧ t.fill = m ∧ m ≤ j ∧ PW v C t ∧ Ext s t ∧ LeavesP c j m t.wt t.ht t.num ∧ Hp t.wt t.ht t.num t.heap m (fun x => x < m) ∧ (∀ x, x < 265 → t.heap x < 529) ∧ IS v sl cb n c ∧ Blk v ob (nats n fun _ => 0) ∧ Fr C 11 w0 v) n
    ⟨0, 0, _, rfl, rfl, rfl, by omega, h1, ⟨rfl, rfl, rfl, rfl, rfl, rfl⟩, leaves_nil .., ⟨⟨fun v => ⟨fun h => by omega, fun ⟨i, hi, _⟩ => by omega⟩, fun i j hi => by omega⟩, fun j hj hjf => by omega⟩, hheap, hc.fr f1 (by omega), hob.fr f1 (by omega), hf.trans (f1.mono (by omega) (by omega))⟩ ?_
  rintro k _ v ⟨j, m, t, rfl, hkj, htf, hmj, hv, ev, lv, hpv, hhv, hcv, hobv, fv⟩ Q hQ
  dsimp only
  rw [hcl]
  by_cases hjn : j < n
  · rw [if_pos (by simp only [decide_eq_true_eq]; omega)]
    have hcj := hcm j hjn
    refine join_ (rdS' hcv hjn ?_)
    dsimp only
    by_cases hcp : 0 < c j
    · rw [if_pos (by simp only [decide_eq_true_eq]; omega)]
      have hcv' : IS v.drew sl cb n c := hcv.heq rfl
      refine drew_ (ldS hv.rc.drew rfl (rdS' hcv' hjn ?_))
      refine wrN (v := c j) hv.wt.drew (by omega) rfl fun v1 d1 g1 _ => ?_
      have hv1 := hv.drew.setWt d1 g1
      refine ldS hv1.rc rfl (wrN (v := 0) hv1.ht (by omega) rfl fun v2 d2 g2 _ => ?_)
      have hv2 := hv1.setHt d2 g2
      refine ldS hv2.rc rfl (wrN (v := j) hv2.num (by omega) rfl fun v3 d3 g3 _ => ?_)
      have hv3 := hv2.setNum d3 g3
      have g03 : Fr C 11 v v3 := (((show Fr (C + 5) 1 v v1 from g1).mono (by omega) (by omega)).trans (g2.mono (by omega) (by omega))).trans (g3.mono (by omega) (by omega))
      have hp3 : Hp (fset t.wt m (c j)) (fset t.ht m 0) (fset t.num m j) t.heap m (fun x => x < m) := hpv.congr fun x hx => by rw [fset_ne (by omega), fset_ne (by omega), fset_ne (by omega)]; exact ⟨rfl, rfl, rfl⟩
      refine huff_push_spec (L := fun x => x < m) hv3 (by show t.fill < 265; omega) (by omega) hhv (by show Hp _ _ _ _ t.fill _; rw [htf]; exact hp3) (by omega) fun v4 H' hv4 hH' hp4 g4 _ => ?_
      rw [W_succ (by omega), W_succ (by omega)]
      have g04 := g03.trans g4
      refine let_ (let_ (hQ (k - 1) _ _ (by omega) ⟨j + 1, m + 1, _, rfl, by omega, ?_, by omega, hv4, ev, leaves_add lv hcp, ?_, hH', hcv.fr g04 (by omega), hobv.fr g04 (by omega), fv.trans g04⟩))
      · show t.fill + 1 = m + 1; omega
      · have hp4' : Hp (fset t.wt m (c j)) (fset t.ht m 0) (fset t.num m j) H' (t.fill + 1) (fun v => v = m ∨ v < m) := hp4
        rw [htf] at hp4'
        have e : (fun v => v = m ∨ v < m) = (fun x => x < m + 1) := by funext v; exact propext (by omega)
        rw [e] at hp4'
        exact hp4'
    · rw [if_neg (by simp only [decide_eq_true_eq]; omega), W_succ (by omega)]
      exact let_ (hQ (k - 1) _ _ (by omega) ⟨j + 1, m, t, rfl, by omega, htf, by omega, hv, ev, leaves_skip lv (by omega), hpv, hhv, hcv, hobv, fv⟩)
  · rw [if_neg (by simp only [decide_eq_true_eq]; omega)]
    have : j = n := by omega
    subst this
    have hmu := lv.cnt
    have hbound := sum_bound hn hcm
    refine join_ ?_
    refine loopN (fun q stt v => ∃ (k : Nat) (t : CS) (L : Nat → Prop), stt = (((m + k : Nat) : Int), ()) ∧ q + k = m ∧ k + 1 ≤ m ∧ t.fill = m - k ∧ PW v C t ∧ Ext s t ∧ Forest j c m (m + k) t.wt t.ht t.num t.par L (hst j c k) ∧ (0 < k → L (m + k - 1)) ∧ Hp t.wt t.ht t.num t.heap (m - k) L ∧ (∀ x, x < 265 → t.heap x < 529) ∧ IS v sl cb j c ∧ Blk v ob (nats j fun _ => 0) ∧ Fr C 11 w0 v) m
      ⟨0, t, fun x => x < m, rfl, rfl, by omega, htf, hv, ev, leaves_forest lv t.par, fun h => by omega, hpv, hhv, hcv, hobv, fv⟩ ?_
    rintro q _ u ⟨k', t', L, rfl, hqk, hk', htf', hu, eu, F, hlast, hpu, hhu, hcu, hobu, fu⟩ Q' hQ'
    refine ldI hu.rc rfl ?_
    have hinv := hinv_all (n := j) (c := c) k' (by omega)
    have hcnt := hinv.cnt
    dsimp only
    by_cases hgo : 1 < m - k'
    · rw [if_pos (by rw [htf']; simp only [decide_eq_true_eq]; omega)]
      rw [← htf'] at hpu
      refine huff_pop_spec hu (by omega) (by omega) hhu hpu fun u1 H1 a hu1 hH1 ha hLa amin hp1 g1 _ => ?_
      refine huff_pop_spec hu1 (by show 0 < t'.fill - 1; omega) (by show t'.fill - 1 ≤ 265; omega) hH1 hp1 fun u2 H2 b hu2 hH2 hb hLb bmin hp2 g2 _ => ?_
      obtain ⟨hi', hsum, F'⟩ := forest_join F (by omega) hinv (by omega) hLa hLb.1 hLb.2 amin (fun v hv hne => bmin v ⟨hv, hne⟩)
      have ham := F.lt a hLa
      have hbm := F.lt b hLb.1
      have hst' : hst j c (k' + 1) = joinS j c (hst j c k') := rfl
      rw [← hst'] at hi' F'
      have hha : t'.ht a ≤ k' := by rw [(F.key a hLa).2.2.1]; exact hinv.ht _
      have hhb : t'.ht b ≤ k' := by rw [(F.key b hLb.1).2.2.1]; exact hinv.ht _
      generalize hMM : m + k' = M at *
      refine drew_ (ldS hu2.rc.drew rfl (ldS hu2.rc.drew rfl (rdN hu2.wt.drew ha (ldS hu2.rc.drew rfl (rdN hu2.wt.drew hb ?_)))))
      refine wrN (v := t'.wt a + t'.wt b) hu2.wt.drew (by omega) (W_add (by show t'.wt a + t'.wt b < _; omega)) fun u3 d3 g3 _ => ?_
      have hu3 := hu2.drew.setWt d3 g3
      refine drew_ (ldS hu3.rc.drew rfl (ldS hu3.rc.drew rfl (rdN hu3.ht.drew ha ?_)))
      refine wrN (v := t'.ht a + 1) hu3.ht.drew (by omega) (W_succ (by show t'.ht a < _; omega)) fun u4 d4 g4 _ => ?_
      have hu4 := hu3.drew.setHt d4 g4
      refine drew_ (ldS hu4.rc.drew rfl (rdN hu4.ht.drew hb (ldS hu4.rc.drew rfl (rdN hu4.ht.drew ha ?_))))
      have e4b : fset t'.ht M (t'.ht a + 1) b = t'.ht b := fset_ne (by omega)
      have e4a : fset t'.ht M (t'.ht a + 1) a = t'.ht a := fset_ne (by omega)
      have g04 : Fr C 11 u u4 := (g1.trans g2).trans (((show Fr (C + 5) 1 u2 u3 from g3).mono (by omega) (by omega)).trans ((show Fr (C + 6) 1 u3 u4 from g4).mono (by omega) (by omega)))
      refine join_ ?_
      have fin : ∀ (h5 : Nat → Nat) (u5 : World) (tt : CS), tt = { t' with fill := t'.fill - 1 - 1, heap := H2, wt := fset t'.wt M (t'.wt a + t'.wt b), ht := h5 } → PW u5 C tt → h5 M = max (t'.ht a) (t'.ht b) + 1 → (∀ x, x ≠ M → h5 x = t'.ht x) → Fr C 11 u u5 →
          (Drew u5 fun w =>
          LdS w ⟨C, 8, none⟩ fun num_73 =>
          LdS w ⟨C, 8, none⟩ fun num_74 =>
          Ix num_74.a num_74.l (a : Int) fun b75 o76 =>
          LdI .i64 w ⟨b75, o76 + Int.toNat (a : Int) * 1, none⟩ fun x_77 =>
          Ix num_73.a num_73.l (M : Int) fun b78 o79 =>
          St1 w ⟨b78, o79 + Int.toNat (M : Int) * 1, none⟩ (.int .i64 x_77) fun w =>
          LdS w ⟨C, 9, none⟩ fun par_80 =>
          Ix par_80.a par_80.l (a : Int) fun b81 o82 =>
          St1 w ⟨b81, o82 + Int.toNat (a : Int) * 1, none⟩ (.int .i64 (M : Int)) fun w =>
          LdS w ⟨C, 9, none⟩ fun par_83 =>
          Ix par_83.a par_83.l (b : Int) fun b84 o85 =>
          St1 w ⟨b84, o85 + Int.toNat (b : Int) * 1, none⟩ (.int .i64 (M : Int)) fun w =>
          S.huff_Coder_push C (M : Int) w (fun w =>
          Let (W ((M : Int) + 1)) fun m_86 =>
          Q' (m_86, ()) w)) := by
        intro h5 u5 tt htt hu5 hM hne g5
        subst htt
        refine drew_ (ldS hu5.rc.drew rfl (ldS hu5.rc.drew rfl (rdN hu5.num.drew ha ?_)))
        refine wrN (v := t'.num a) hu5.num.drew (by omega) rfl fun u6 d6 g6 _ => ?_
        have hu6 := hu5.drew.setNum d6 g6
        refine ldS hu6.rc rfl (wrN (v := M) hu6.par ha rfl fun u7 d7 g7 _ => ?_)
        have hu7 := hu6.setPar d7 g7
        refine ldS hu7.rc rfl (wrN (v := M) hu7.par hb rfl fun u8 d8 g8 _ => ?_)
        have hu8 := hu7.setPar d8 g8
        have g08 : Fr C 11 u u8 := g5.trans ((((show Fr (C + 7) 1 u5 u6 from g6).mono (by omega) (by omega)).trans (g7.mono (by omega) (by omega))).trans (g8.mono (by omega) (by omega)))
        have hh5 : h5 = fset t'.ht M (max (t'.ht a) (t'.ht b) + 1) := by
          funext x
          by_cases hx : x = M
          · subst hx; rw [fset_eq]; exact hM
          · rw [fset_ne hx]; exact hne x hx
        subst hh5
        have hp8 : Hp (fset t'.wt M (t'.wt a + t'.wt b)) (fset t'.ht M (max (t'.ht a) (t'.ht b) + 1)) (fset t'.num M (t'.num a)) H2 (t'.fill - 1 - 1) (fun v => (L v ∧ v ≠ a) ∧ v ≠ b) := hp2.congr fun x hx => by
          have := F.lt x hx.1.1
          rw [fset_ne (by omega), fset_ne (by omega), fset_ne (by omega)]; exact ⟨rfl, rfl, rfl⟩
        refine huff_push_spec (L := fun v => (L v ∧ v ≠ a) ∧ v ≠ b) hu8 (by show t'.fill - 1 - 1 < 265; omega) (by omega) hH2 hp8 (fun h => by have := F.lt M h.1.1; omega) fun u9 H9 hu9 hH9 hp9 g9 _ => ?_
        rw [W_succ (by omega), show M + 1 = m + (k' + 1) from by omega]
        have g09 := g08.trans g9
        have eL : (fun v => v = M ∨ (L v ∧ v ≠ a) ∧ v ≠ b) = (fun v => v = M ∨ (L v ∧ v ≠ a ∧ v ≠ b)) := by
          funext v
          exact propext ⟨fun h => h.onto id (fun h => ⟨h.1.1, h.1.2, h.2⟩), fun h => h.onto id (fun h => ⟨⟨h.1, h.2.1⟩, h.2.2⟩)⟩
        have hp9' : Hp (fset t'.wt M (t'.wt a + t'.wt b)) (fset t'.ht M (max (t'.ht a) (t'.ht b) + 1)) (fset t'.num M (t'.num a)) H9 (t'.fill - 1 - 1 + 1) (fun v => v = M ∨ (L v ∧ v ≠ a) ∧ v ≠ b) := hp9
        rw [eL, show t'.fill - 1 - 1 + 1 = m - (k' + 1) from by omega] at hp9'
        refine let_ (hQ' (q - 1) _ _ (by omega) ⟨k' + 1, _, _, rfl, by omega, by omega, ?_, hu9, eu, ?_, fun _ => .inl (by omega), hp9', hH9, hcu.fr g09 (by omega), hobu.fr g09 (by omega), fu.trans g09⟩)
        · show t'.fill - 1 - 1 + 1 = _; omega
        · rw [show m + (k' + 1) = M + 1 from by omega]
          exact F'
      by_cases hgt : t'.ht b > t'.ht a
      · rw [if_pos (by show decide (((fset t'.ht M (t'.ht a + 1) b : Nat) : Int) > ((fset t'.ht M (t'.ht a + 1) a : Nat) : Int)) = true; rw [e4b, e4a]; simp only [decide_eq_true_eq]; omega)]
        refine drew_ (ldS hu4.rc.drew.drew rfl (ldS hu4.rc.drew.drew rfl (rdN hu4.ht.drew.drew hb ?_)))
        rw [show (({ t' with fill := t'.fill - 1 - 1, heap := H2, wt := fset t'.wt M (t'.wt a + t'.wt b), ht := fset t'.ht M (t'.ht a + 1) } : CS).ht b) = t'.ht b from e4b]
        refine wrN (v := t'.ht b + 1) hu4.ht.drew.drew (by omega) (W_succ (by omega)) fun u5 d5 g5 _ => ?_
        have hu5 := hu4.drew.drew.setHt d5 g5
        refine fin (fset (fset t'.ht M (t'.ht a + 1)) M (t'.ht b + 1)) u5 _ rfl hu5 (by rw [fset_eq]; omega) (fun x hx => by rw [fset_ne hx, fset_ne hx]) (g04.trans ((show Fr (C + 6) 1 u4 u5 from g5).mono (by omega) (by omega)))
      · rw [if_neg (by show ¬ decide (((fset t'.ht M (t'.ht a + 1) b : Nat) : Int) > ((fset t'.ht M (t'.ht a + 1) a : Nat) : Int)) = true; rw [e4b, e4a]; simp only [decide_eq_true_eq]; omega)]
        exact fin (fset t'.ht M (t'.ht a + 1)) u4.drew _ rfl hu4.drew (by rw [fset_eq]; omega) (fun x hx => fset_ne hx) g04
    · rw [if_neg (by rw [htf']; simp only [decide_eq_true_eq]; omega)]
      have hkk : k' = m - 1 := by omega
      have hone : m - k' = 1 := by omega
      rw [hone] at hpu
      have hroot : ∀ y, L y → y = m + k' - 1 := fun y hy => by
        obtain ⟨i1, hi1, e1⟩ := (hpu.rep.mem y).1 hy
        obtain ⟨i2, hi2, e2⟩ := (hpu.rep.mem _).1 (hlast (by omega))
        rw [← e1, ← e2, show i1 = i2 from by omega]
      refine huff_deps_spec hu hcu hcC hcob hn (by omega) (by omega) (by omega) hobu hobC hobw fu F hroot (hlast (by omega)) fun u1 t1 deep o hu1 e1 eh1 hc1 bo o1 o2 o3 f1 => ?_
      have hpl : plainL j c = (hst j c k').lens := by unfold plainL; rw [hkk, hmu]
      have ho : ∀ i, i < j → o i = plainL j c i := fun i hi => by
        rw [hpl]
        rcases Nat.eq_zero_or_pos (c i) with hz | hz
        · rw [o2 i hi hz, hinv.zero i hi hz]
        · exact o1 i hi hz
      refine hK u1 t1 deep hu1 (by rw [eh1]; exact hhu) ?_ ?_ (fun i hi => by rw [← ho i hi]; exact o3 i hi) f1 hc1
      · obtain ⟨x1, x2, x3, x4, x5, x6⟩ := e1
        obtain ⟨y1, y2, y3, y4, y5, y6⟩ := eu
        exact ⟨x1.trans y1, x2.trans y2, x3.trans y3, x4.trans y4, x5.trans y5, x6.trans y6⟩
      · rw [← nats_congr ho]; exact bo
end Go.Proofs.Qxb6500563aGreat
