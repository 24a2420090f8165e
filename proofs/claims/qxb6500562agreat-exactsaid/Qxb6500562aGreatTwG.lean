/-
  towerexact.Exact: Run, Check, Compile.
-/
import Derived.Test.Qxb6500562aGreatTwF
namespace Go.Proofs.Qxb6500562aGreat
open Go.Den Go.Zip
set_option linter.unusedVariables false
set_option linter.unusedSimpArgs false
section
variable {W0 w w' : World} {p q : Nat} {T T' : Nat → Tag} {d d' : Gh} {c : Nat} {s : Sl} {vs us : List Value} {sz : Nat} {t : Tag} {X : Tag → Prop}
/-- The same but for what the things own. -/
structure Alike (d d' : Gh) : Prop where
  nums : ∀ c, Nums d c → Nums d' c
  full : Full d → Full d'
  rcd : recW d' = recW d
  es : d'.Es = d.Es
  cs : d'.Cs = d.Cs
  bs : d'.Bs = d.Bs
theorem ran_inv {i k lo n ex g m : Nat} {O Om : Nat → Prop} {l : Sl} {es : List Int} {src : ByteArray} {fuel : Int} {K : Int → Int → Int → Int → Sl → Int → Bool → World → Prop} (h : Inv W0 w p T d c) (hx : d.Xs[i]? = some (g, O)) (hm : d.Ms[i]? = some (m, Om)) (el : EL w T (23, k) l (ints es) es.length) (hes : es.length ≤ 1073741824) (hle : lo + n + ex ≤ es.length) (hsz : src.size < 9223372036854775808) (fb : rng fuel)
    (hK : ∀ w' T' d' e po en rv y fu out, Inv W0 w' p T' d' c → Alike d d' → Mv (fun u => u = (20, i) ∨ u = (21, i)) T w T' w' → EL w' T' (23, d.Es.length) y (ints out) out.length → out.length ≤ 1024 → K e po en rv y fu true w') : S.towerexact_ran g m src l (lo : Int) (n : Int) (ex : Int) fuel w K := by
  obtain ⟨e0, t0⟩ := h.ll.xs i _ hx
  obtain ⟨m0, t1⟩ := h.ll.ms i _ hm
  refine ran_spec e0 m0 (fun b hb hm => by have a := t0 b hb; have b := t1 b hm; rw [a] at b; simp at b) (el.cal fun b hb => ?_) hle (by omega) hsz fb fun w1 O1 Om1 y r e1 me1 hd G A o l1 g1 g2 => ?_
  · rcases hb with hb | hb
    · have a := t0 b hb; rw [a]; simp
    · have a := t1 b hb; rw [a]; simp
  · obtain ⟨T1, h1, M1, hn⟩ := h.turnXM hx hm e1 me1 hd G g1 g2 (23, d.Es.length)
    exact hK w1 T1 _ _ _ _ _ y _ r.out h1 ⟨fun c hc => { hc with lX := by simp; exact hc.lX, lM := by simp; exact hc.lM }, fun hF => { hF with m := by simp [hF.m] }, rfl, rfl, rfl, rfl⟩ M1 (o.el hn) l1
theorem W_nat {n : Nat} (h : n < 9223372036854775808) : W (n : Int) = n := W_id (by omega) (by omega)
set_option maxHeartbeats 2000000 in
theorem run_spec {a b e : Int} {src : ByteArray} {K : Bool → World → Prop} (h : Inv W0 w p T d c) (hF : Full d) (hc : c + 1 ≤ 1073741824) (o : Op w T q us) (u1 : us[1]? = some (.int .i64 a)) (u2 : us[2]? = some (.int .i64 b)) (u3 : us[3]? = some (.int .i64 e)) (u4 : us[4]? = some (.string src)) (ra : rng a) (rb : rng b) (re : rng e) (hsz : src.size < 9223372036854775808) (hK : Done W0 p (c + 1) K) : XX.run p q w K := by
  unfold XX.run
  have n0 := h.nums
  have h0 := h.up hc
  have exl := h0.xl
  have ell := h0.lsl
  refine ldS h0.rcd rfl ?_
  by_cases hx : d.x.l = 0
  · rw [if_pos (by simp only [beq_iff_eq]; omega)]
    exact hK w T d h0 hF
  rw [if_neg (by simp only [beq_iff_eq]; omega)]
  refine ldS h0.rcd rfl ?_
  by_cases hl : d.ls.l = 0
  · rw [if_pos (by simp only [beq_iff_eq]; omega)]
    exact hK w T d h0 hF
  rw [if_neg (by simp only [beq_iff_eq]; omega)]
  refine drew_ ?_
  have h1 := h0.ext (Fr.refl 0 0 w).drew
  have o1 := o.ext (Fr.refl 0 0 w).drew
  generalize w.drew = v at *
  refine ldI o1.b u1 (ldS h1.rcd rfl ?_)
  refine pick_spec ra.1 ra.2 (by show 0 < d.x.l; omega) fun i (hi : i < d.x.l) => ?_
  refine drew_ ?_
  unfold Hold
  have h2 := h1.ext (Fr.refl 0 0 v).drew
  have o2 := o1.ext (Fr.refl 0 0 v).drew
  generalize v.drew = v2 at *
  refine ldS h2.rcd rfl (ldI o2.b u3 (ldS h2.rcd rfl ?_))
  refine pick_spec re.1 re.2 (by show 0 < d.ls.l; omega) fun k (hk : k < d.ls.l) => ?_
  refine ⟨holdS h2.rcd h2.rcd, ?_⟩
  have hLk : d.Ls[k]? = some (d.Ls[k]'(by omega)) := List.getElem?_eq_getElem (by omega)
  refine OS.lS h2.ls.1 hLk ?_
  obtain ⟨es, hE, el⟩ := h2.ll.l1 k _ hLk
  generalize (d.Ls[k]'(by omega)) = l at *
  have hll := el.len
  have hes := n0.es es (List.mem_of_getElem? hE)
  refine ldI h2.rcd rfl ?_
  rw [hll, show W (((es.length : Nat) : Int) + 1) = ((es.length + 1 : Nat) : Int) by rw [W_id (by omega) (by omega)]; omega]
  refine pick_spec n0.rf.1 n0.rf.2 (by omega) fun lo hlo => ?_
  refine ldI h2.rcd rfl ?_
  rw [show W (W (((es.length : Nat) : Int) - (lo : Int)) + 1) = ((es.length - lo + 1 : Nat) : Int) by rw [W_id (x := ((es.length : Nat) : Int) - (lo : Int)) (by omega) (by omega), W_id (by omega) (by omega)]; omega]
  refine pick_spec n0.rn.1 n0.rn.2 (by omega) fun n hn => ?_
  refine join_PP2 (AftR W0 p c) ?_ ?_
  · rintro a' ok v3 ⟨rfl, T', d', y, out, vs', h', n', F', ba, ta, hv, el', ho⟩
    rw [if_neg (by simp)]
    exact keep_spec h' n' F' ba ta hv el' ho hK
  intro J hJ
  refine drew_ ?_
  have h3 := h2.ext (Fr.refl 0 0 v2).drew
  have o3 := o2.ext (Fr.refl 0 0 v2).drew
  have el3 := el.mv (X := fun _ => False) (Mv.new0 (Fr.refl 0 0 v2).drew) fun h => h
  generalize v2.drew = v3 at *
  have hXi : d.Xs[i]? = some (d.Xs[i]'(by omega)) := List.getElem?_eq_getElem (by omega)
  have hMi : d.Ms[i]? = some (d.Ms[i]'(by have := hF.m; omega)) := List.getElem?_eq_getElem (by have := hF.m; omega)
  generalize hgx : (d.Xs[i]'(by omega)) = gx at *
  generalize hgm : (d.Ms[i]'(by have := hF.m; omega)) = gm at *
  refine ldS h3.rcd rfl (OS.at1 h3.x.1 (v := ptrV gx.1) (by rw [List.getElem?_map, hXi]; rfl) fun bx ux hbx hux ox => ldP hbx hux ?_)
  refine ldS h3.rcd rfl (OS.at1 h3.m.1 (v := ptrV gm.1) (by rw [List.getElem?_map, hMi]; rfl) fun bm um hbm hum om => ldP hbm hum ?_)
  refine ldStr o3.b u4 (ldI h3.rcd rfl (ldI o3.b u2 ?_))
  have tx : T bx = (2, 0) := h3.x.2 bx ox
  have tm : T bm = (3, 0) := h3.m.2 bm om
  have hpk : W (W (W (((es.length : Nat) : Int) - (lo : Int)) - (n : Int)) + 1) = ((es.length - lo - n + 1 : Nat) : Int) := by
    rw [W_id (x := ((es.length : Nat) : Int) - (lo : Int)) (by omega) (by omega), W_id (x := ((es.length : Nat) : Int) - (lo : Int) - (n : Int)) (by omega) (by omega), W_id (by omega) (by omega)]; omega
  have rc3 : Blk v3 p (recW d) := h3.rcd
  have ob3 := o3.b
  -- a fresh record ahead of the run
  have B : ∀ ex : Nat, lo + n + ex ≤ es.length → ∀ v4 T4 a4 vs4, Inv W0 v4 p T4 d (c + 1) → EL v4 T4 (23, k) l (ints es) es.length → Blk v4 a4 vs4 → vs4.length = 6 → T4 a4 = (51, 0) →
      S.towerexact_ran gx.1 gm.1 src l (lo : Int) (n : Int) (ex : Int) b v4 (fun Err Pos End Ret Out Fuel r w =>
        St1 w ⟨a4, 0, none⟩ (.int .i64 Err) fun w => St1 w ⟨a4, 1, none⟩ (.int .i64 Pos) fun w => St1 w ⟨a4, 2, none⟩ (.int .i64 End) fun w => St1 w ⟨a4, 3, none⟩ (.int .i64 Ret) fun w => St1 w ⟨a4, 4, none⟩ (.slice Out.a Out.l Out.c) fun w => St1 w ⟨a4, 5, none⟩ (.int .i64 Fuel) fun w => J a4 r w) := by
    intro ex hex v4 T4 a4 vs4 h4 el4 b4 l4 t4
    refine ran_inv (O := gx.2) (Om := gm.2) h4 hXi hMi el4 hes hex hsz rb fun v5 T5 d5 e5 po5 en5 rv5 y5 fu5 out5 h5 al5 M5 el5 ho5 => ?_
    have b5 := M5.blk b4 (by rw [t4]; simp)
    have t5 : T5 a4 = (51, 0) := by rw [M5.t a4 b4.lt]; exact t4
    refine lay6' b5 l4 fun v6 b6 f6 => ?_
    have M6 : Mv (fun u => u = (51, 0)) T5 v5 T5 v6 := Mv.same (FrP.of f6 fun x h1 h2 => by rw [show x = a4 by omega]; exact t5)
    refine hJ a4 true v6 ⟨rfl, T5, d5, y5, out5, _, h5.mv M6 (loose1 (by simp)), al5.nums c n0, al5.full hF, b6, t5, rfl, ?_, ho5⟩
    rw [al5.es]
    exact el5.mv M6 (by simp)
  refine ⟨?_, ?_⟩
  · rw [hpk]
    refine pick_spec n0.rx.1 n0.rx.2 (by omega) fun ex hex => ?_
    repeat refine ⟨holdS (by assumption) (by assumption), ?_⟩
    refine ⟨?_, ?_⟩
    · refine ran_inv (O := gx.2) (Om := gm.2) h3 hXi hMi el3 hes (by omega) hsz rb fun v5 T5 d5 e5 po5 en5 rv5 y5 fu5 out5 h5 al5 M5 el5 ho5 => ?_
      refine newB fun v6 b6 f6 s6 => ?_
      have h6 := h5.extT f6 (51, 0)
      have t6 : tagN T5 v5 (51, 0) v5.heap.size = (51, 0) := tagN_new _ _ _ (Nat.le_refl _)
      have M6 : Mv (fun _ => False) T5 v5 (tagN T5 v5 (51, 0)) v6 := Mv.new f6 (51, 0)
      have el6 := el5.mv M6 fun h => h
      generalize tagN T5 v5 (51, 0) = T6 at *
      have rc6 : Blk v6 p (recW d) := by rw [← al5.rcd]; exact h6.rcd
      have ob6 : Blk v6 q us := ((o3.mv M5 (by simp)).mv M6 fun h => h).b
      have bx6 : Blk v6 bx ux := M6.blk (M5.blk hbx (by rw [tx]; simp)) fun h => h
      have bm6 : Blk v6 bm um := M6.blk (M5.blk hbm (by rw [tm]; simp)) fun h => h
      repeat refine ⟨holdS (by assumption) (by assumption), ?_⟩
      refine lay6' b6 rfl fun v7 b7 f7 => ?_
      have M7 : Mv (fun u => u = (51, 0)) T6 v6 T6 v7 := Mv.same (FrP.of f7 fun x h1 h2 => by rw [show x = v5.heap.size by omega]; exact t6)
      refine hJ _ true v7 ⟨rfl, T6, d5, y5, out5, _, h6.mv M7 (loose1 (by simp)), al5.nums c n0, al5.full hF, b7, t6, rfl, ?_, ho5⟩
      rw [al5.es]
      exact el6.mv M7 (by simp)
    · refine newB fun v4 b4 f4 s4 => ?_
      have h4 := h3.extT f4 (51, 0)
      have t4 : tagN T v3 (51, 0) v3.heap.size = (51, 0) := tagN_new _ _ _ (Nat.le_refl _)
      have M4 : Mv (fun _ => False) T v3 (tagN T v3 (51, 0)) v4 := Mv.new f4 (51, 0)
      have el4 := el3.mv M4 fun h => h
      generalize tagN T v3 (51, 0) = T4 at *
      have rc4 : Blk v4 p (recW d) := h4.rcd
      have ob4 : Blk v4 q us := (o3.mv M4 fun h => h).b
      have bx4 : Blk v4 bx ux := M4.blk hbx fun h => h
      have bm4 : Blk v4 bm um := M4.blk hbm fun h => h
      repeat refine ⟨holdS (by assumption) (by assumption), ?_⟩
      exact B ex (by omega) v4 T4 _ _ h4 el4 b4 rfl t4
  · refine newB fun v4 b4 f4 s4 => ?_
    have h4 := h3.extT f4 (51, 0)
    have t4 : tagN T v3 (51, 0) v3.heap.size = (51, 0) := tagN_new _ _ _ (Nat.le_refl _)
    have M4 : Mv (fun _ => False) T v3 (tagN T v3 (51, 0)) v4 := Mv.new f4 (51, 0)
    have el4 := el3.mv M4 fun h => h
    generalize tagN T v3 (51, 0) = T4 at *
    have rc4 : Blk v4 p (recW d) := h4.rcd
    have ob4 : Blk v4 q us := (o3.mv M4 fun h => h).b
    have bx4 : Blk v4 bx ux := M4.blk hbx fun h => h
    have bm4 : Blk v4 bm um := M4.blk hbm fun h => h
    repeat refine ⟨holdS (by assumption) (by assumption), ?_⟩
    rw [hpk]
    refine pick_spec n0.rx.1 n0.rx.2 (by omega) fun ex hex => ?_
    repeat refine ⟨holdS (by assumption) (by assumption), ?_⟩
    exact B ex (by omega) v4 T4 _ _ h4 el4 b4 rfl t4
theorem check_spec {a : Int} {K : Bool → World → Prop} (h : Inv W0 w p T d c) (hF : Full d) (hc : c + 1 ≤ 1073741824) (o : Op w T q us) (u1 : us[1]? = some (.int .i64 a)) (ra : rng a) (hK : Done W0 p (c + 1) K) : XX.check p q w K := by
  unfold XX.check
  have h0 := h.up hc
  have exl := h0.xl
  refine ldS h0.rcd rfl ?_
  by_cases hx : 0 < d.x.l
  · rw [if_pos (by simp only [decide_eq_true_eq]; omega)]
    refine drew_ ?_
    unfold Hold
    have h1 := h0.ext (Fr.refl 0 0 w).drew
    have o1 := o.ext (Fr.refl 0 0 w).drew
    generalize w.drew = v at *
    refine ldS h1.rcd rfl (ldI o1.b u1 (ldS h1.rcd rfl ?_))
    refine pick_spec ra.1 ra.2 (by show 0 < d.x.l; omega) fun i (hi : i < d.x.l) => ?_
    refine ⟨holdS h1.rcd h1.rcd, ?_⟩
    have hXi : d.Xs[i]? = some (d.Xs[i]'(by omega)) := List.getElem?_eq_getElem (by omega)
    refine OS.lP h1.x.1 hXi ?_
    obtain ⟨e0, t0⟩ := h1.ll.xs i _ hXi
    exact re_check e0 fun w2 f2 => hK w2 T d (h1.ext f2) hF
  · rw [if_neg (by simp only [decide_eq_true_eq]; omega)]
    exact hK w T d h0 hF
set_option maxHeartbeats 1000000 in
theorem comp_spec {a : Int} {src : ByteArray} {K : Bool → World → Prop} (h : Inv W0 w p T d c) (hF : Full d) (hc : c + 1 ≤ 1073741824) (o : Op w T q us) (u1 : us[1]? = some (.int .i64 a)) (u4 : us[4]? = some (.string src)) (ra : rng a) (hsz : src.size < 9223372036854775808) (hK : Done W0 p (c + 1) K) : XX.comp p q w K := by
  unfold XX.comp
  have n0 := h.nums
  have h0 := h.up hc
  have exl := h0.xl
  refine ldS h0.rcd rfl ?_
  by_cases hx : d.x.l = 0
  · rw [if_pos (by simp only [beq_iff_eq]; omega)]
    exact hK w T d h0 hF
  rw [if_neg (by simp only [beq_iff_eq]; omega)]
  refine drew_ ?_
  unfold Hold
  have h1 := h0.ext (Fr.refl 0 0 w).drew
  have o1 := o.ext (Fr.refl 0 0 w).drew
  generalize w.drew = v at *
  refine ldS h1.rcd rfl (ldI o1.b u1 (ldS h1.rcd rfl (ldStr o1.b u4 ?_)))
  refine pick_spec ra.1 ra.2 (by show 0 < d.x.l; omega) fun i (hi : i < d.x.l) => ?_
  refine ⟨holdS o1.b o1.b, ⟨holdS h1.rcd h1.rcd, ?_⟩⟩
  have hXi : d.Xs[i]? = some (d.Xs[i]'(by omega)) := List.getElem?_eq_getElem (by omega)
  refine OS.lP h1.x.1 hXi ?_
  obtain ⟨e0, t0⟩ := h1.ll.xs i _ hXi
  generalize (d.Xs[i]'(by omega)) = gx at *
  refine compiled_spec e0 hsz (fun w2 O2 qe e2 G2 A2 => ?_) fun w2 O2 P b2 e2 G2 A2 h200 hb1 hb2 hb3 => ?_
  · rw [if_neg (by simp), if_neg (by simp)]
    obtain ⟨T2, h2, M2, _⟩ := h1.turnX (O := gx.2) hXi e2 G2 (99, 0)
    exact hK w2 T2 _ h2 { hF with m := by simp [hF.m] }
  · rw [if_neg (by simp), if_pos rfl]
    obtain ⟨T2, h2, M2, hn2⟩ := h1.turnX (O := gx.2) hXi e2 G2 (25, d.Bs.length)
    have o2 := o1.mv M2 (by simp)
    have el2 : EL w2 T2 (25, d.Bs.length) ⟨some ⟨b2, 0, none⟩, (pCode P).length, (pCode P).length⟩ (byts (pCode P)) (pCode P).length := .inr ⟨b2, rfl, hb3, hn2 b2 hb1 hb2⟩
    have cl := pCode_len A2.pt h200
    refine drew_ ?_
    have h3 := h2.ext (Fr.refl 0 0 w2).drew
    have o3 := o2.ext (Fr.refl 0 0 w2).drew
    have el3 := el2.mv (X := fun _ => False) (Mv.new0 (Fr.refl 0 0 w2).drew) fun h => h
    generalize w2.drew = v3 at *
    refine ldS h3.rcd rfl (ldStr o3.b u4 ?_)
    refine copyBytes_spec el3.rdB (by simp; omega) fun v4 b4 f4 => ?_
    have h4 := h3.extT f4 (26, d.Bs.length)
    have M4 : Mv (fun _ => False) T2 v3 (tagN T2 v3 (26, d.Bs.length)) v4 := Mv.new f4 _
    have o4 := o3.mv M4 fun h => h
    have el4 := el3.mv M4 fun h => h
    have bl : ((pCode P).map Int.ofNat).length = (pCode P).length := by simp
    have ew : EL v4 (tagN T2 v3 (26, d.Bs.length)) (26, d.Bs.length) ⟨some ⟨v3.heap.size, 0, none⟩, (pCode P).length, (pCode P).length⟩ (byts (pCode P)) (pCode P).length := .inr ⟨_, rfl, by rw [byts_int]; exact b4, tagN_new _ _ _ (Nat.le_refl _)⟩
    rw [bl]
    generalize tagN T2 v3 (26, d.Bs.length) = T4 at *
    refine ⟨holdS o3.b o4.b, ⟨holdS h3.rcd h4.rcd, newB fun v5 b5 f5 s5 => ?_⟩⟩
    have h5 := h4.ext f5
    have M5 : Mv (fun _ => False) T4 v4 T4 v5 := Mv.new0 f5
    have el5 := el4.mv M5 fun h => h
    have ew5 := ew.mv M5 fun h => h
    refine ⟨holdS h3.rcd h5.rcd, ?_⟩
    have a1 := n0.lC; have a2 := n0.lB; have a3 := n0.le; have a4 := h5.cl
    have a4 : d.cods.l = d.Cs.length := a4
    refine Inv.app (j := 10) (i := 12) (c' := c + 1) (D := fun s' => { d with Xs := d.Xs.set i (gx.1, O2), cods := s', Cs := d.Cs ++ [⟨⟨some ⟨b2, 0, none⟩, (pCode P).length, (pCode P).length⟩, ⟨some ⟨v3.heap.size, 0, none⟩, (pCode P).length, (pCode P).length⟩, src, false⟩], Bs := d.Bs ++ [pCode P] }) h5 (by omega) (by omega) rfl b5 rfl rfl rfl (by show (d.cods.l + 1) * 72 ≤ _; omega) (by omega)
      (fun s' => by simp [outer, cdV, slV]) (fun s' k h2 h8 hk => by rcases kc h2 h8 with rfl | rfl | rfl | rfl | rfl | rfl | rfl | rfl | rfl <;> first | rfl | exact absurd rfl hk) (fun s' => rfl)
      (fun s' u U M hl => { hl with c1 := ?_, c2 := ?_ })
      (fun s' => { h5.nums with lC := by simp; omega, lB := by simp; omega, bs := fun e he => ?_, ok := fun j cd hj hg => ?_ }) fun s6 w6 T6 h6 M6 => hK w6 T6 _ h6 { hF with m := by simp [hF.m], c := by simp [hF.c] }
    · have := (hl.c1.more (pCode P)).app (by simp [hF.c]) (el5.mv M (by simp))
      simpa using this
    · have := (hl.c2.more (pCode P)).app (by simp [hF.c]) (ew5.mv M (by simp))
      simpa using this
    · rcases List.mem_append.1 he with he | he
      · exact n0.bs e he
      · rw [List.mem_singleton.1 he]; omega
    · have fc := hF.c
      rcases Nat.lt_or_ge j d.Cs.length with hj' | hj'
      · rw [List.getElem?_append_left hj'] at hj
        obtain ⟨P', q1, q2, q3⟩ := n0.ok j cd hj hg
        exact ⟨P', q1, q2, by rw [List.getElem?_append_left (by omega)]; exact q3⟩
      · rw [List.getElem?_append_right hj'] at hj
        have hj0 : j - d.Cs.length = 0 := by
          have := (List.getElem?_eq_some_iff.1 hj).1
          simp at this; omega
        rw [hj0] at hj
        simp only [List.getElem?_cons_zero, Option.some.injEq] at hj
        subst hj
        exact ⟨P, A2, h200, by rw [List.getElem?_append_right (by omega), show j - d.Bs.length = 0 by omega]; rfl⟩
end
end Go.Proofs.Qxb6500562aGreat
