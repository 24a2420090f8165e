/-
  towerexact.Exact: the steps that write and run.
-/
import Derived.Test.Qxb6500562aGreatTwE
namespace Go.Proofs.Qxb6500562aGreat
open Go.Den Go.Zip
set_option linter.unusedVariables false
set_option linter.unusedSimpArgs false
section
variable {W0 w w' : World} {p q : Nat} {T T' : Nat → Tag} {d d' : Gh} {c : Nat} {s : Sl} {vs us : List Value} {sz : Nat} {t : Tag} {X : Tag → Prop}
/-- A number is written into a list. -/
theorem putL {es : List Int} {i : Nat} {v : Int} {K : World → Prop} (h : EL w T t s (ints es) es.length) (hi : i < es.length)
    (hK : ∀ w', EL w' T t s (ints (es.set i v)) (es.set i v).length → Mv (fun u => u = t) T w T w' → K w') :
    Ix s.a s.l (i : Int) fun b o => St1 w ⟨b, o + Int.toNat (i : Int) * 1, none⟩ (.int .i64 v) K := by
  rcases h with ⟨rfl, h2, h3⟩ | ⟨b, rfl, h2, h3⟩
  · omega
  refine ix rfl (by omega) (by simp only; omega) ?_
  rw [Int.toNat_natCast, Nat.zero_add, Nat.mul_one]
  refine st1 h2 (by simpa [ints] using hi) fun w1 b1 f1 s1 => ?_
  rw [ints_set] at b1
  exact hK w1 (.inr ⟨b, by simp, b1, h3⟩) (Mv.same (FrP.of f1 fun x h1 h2 => by rw [show x = b by omega]; exact h3))
theorem putB {es : List Nat} {i : Nat} {v : Nat} {K : World → Prop} (h : EL w T t s (byts es) es.length) (hi : i < es.length)
    (hK : ∀ w', EL w' T t s (byts (es.set i v)) (es.set i v).length → Mv (fun u => u = t) T w T w' → K w') :
    Ix s.a s.l (i : Int) fun b o => St1 w ⟨b, o + Int.toNat (i : Int) * 1, none⟩ (.int .u8 (v : Nat)) K := by
  rcases h with ⟨rfl, h2, h3⟩ | ⟨b, rfl, h2, h3⟩
  · omega
  refine ix rfl (by omega) (by simp only; omega) ?_
  rw [Int.toNat_natCast, Nat.zero_add, Nat.mul_one]
  refine st1 h2 (by simpa [byts] using hi) fun w1 b1 f1 s1 => ?_
  rw [byts_set] at b1
  exact hK w1 (.inr ⟨b, by simp, b1, h3⟩) (Mv.same (FrP.of f1 fun x h1 h2 => by rw [show x = b by omega]; exact h3))
theorem put_spec {a b e : Int} {K : Bool → World → Prop} (h : Inv W0 w p T d c) (hF : Full d) (hc : c + 1 ≤ 1073741824) (o : Op w T q us) (u1 : us[1]? = some (.int .i64 a)) (u2 : us[2]? = some (.int .i64 b)) (u3 : us[3]? = some (.int .i64 e)) (ra : rng a) (rb : rng b) (hK : Done W0 p (c + 1) K) : XX.put p q w K := by
  unfold XX.put
  have h1 := h.up hc
  have ell := h1.lsl
  have ewl := h1.lwl
  have f1 := hF.l
  have f2 := hF.w
  refine ldS h1.rcd rfl ?_
  by_cases hl : d.ls.l = 0
  · rw [if_pos (by simp only [beq_iff_eq]; omega)]
    exact hK w T d h1 hF
  rw [if_neg (by simp only [beq_iff_eq]; omega)]
  refine drew_ ?_
  have h2 := h1.ext (Fr.refl 0 0 w).drew
  have o2 := o.ext (Fr.refl 0 0 w).drew
  refine ldI o2.b u1 (ldS h2.rcd rfl ?_)
  refine pick_spec ra.1 ra.2 (by show 0 < d.ls.l; omega) fun r (hr : r < d.ls.l) => ?_
  refine ldS h2.rcd rfl ?_
  have hLr : d.Ls[r]? = some (d.Ls[r]'(by omega)) := List.getElem?_eq_getElem (by omega)
  refine OS.lS h2.ls.1 hLr ?_
  obtain ⟨es, hE, hEL⟩ := h2.ll.l1 r _ hLr
  generalize (d.Ls[r]'(by omega)) = x at *
  have hsl := hEL.len
  by_cases hx : 0 < x.l
  · rw [if_pos (by simp only [decide_eq_true_eq]; omega)]
    refine ldI o2.b u2 ?_
    refine pick_spec rb.1 rb.2 hx fun i hi => ?_
    refine ldI o2.b u3 ?_
    refine putL (v := e) hEL (by omega) fun w3 el3 M3 => drew_ ?_
    have M3 : Mv (fun u => u = (23, r)) T w.drew T w3.drew := ⟨M3.f.drew, M3.t⟩
    have wo3 := h2.wo.mv M3 fun k h1 h2 => by simp; omega
    have rcd3 := M3.blk h2.rcd (by rw [h2.tp]; simp)
    have o3 := o2.mv M3 (by simp)
    refine ldS rcd3 rfl ?_
    have hWr : d.Lw[r]? = some (d.Lw[r]'(by omega)) := List.getElem?_eq_getElem (by omega)
    have olw : OT w3.drew T (7, 0) d.lw (d.Lw.map slV) 1 := wo3 7 (by omega) (by omega)
    refine OS.lS olw.1 hWr ?_
    have l2 := h2.ll.l2.mv M3 (fun i => by simp)
    obtain ⟨es', hE', hEL'⟩ := l2 r _ hWr
    have : es' = es := by rw [hE] at hE'; exact (Option.some.inj hE').symm
    subst this
    refine ldI o3.b u3 ?_
    refine putL (v := e) hEL' (by omega) fun w4 el4 M4 => ?_
    have Mo : Mv (fun u => u = (23, r) ∨ u = (24, r)) T w.drew T w4 := (M3.mono fun t h => .inl h).trans (M4.mono fun t h => .inr h)
    have el3' : EL w3.drew T (23, r) x (ints (es'.set i e)) (es'.set i e).length := el3
    have ll4 : LL w4 T { d with Es := d.Es.set r (es'.set i e) } := {
      xs := h2.ll.xs.mv kdR Mo (fun i => by simp)
      ms := h2.ll.ms.mv kdM Mo (fun i => by simp)
      vs := h2.ll.vs.mv kdV Mo (fun i => by simp)
      l1 := h2.ll.l1.put hLr hE Mo (fun i hi => by simp; exact hi) (el3'.mv M4 (by simp))
      l2 := h2.ll.l2.put hWr hE Mo (fun i hi => by simp; exact hi) el4
      c1 := h2.ll.c1.mv Mo (fun i => by simp)
      c2 := h2.ll.c2.mv Mo (fun i => by simp) }
    refine hK w4 T { d with Es := d.Es.set r (es'.set i e) } (h2.mk_ (c' := c + 1) Mo (by simp) (by simp) ?_ ll4 { h2.nums with lE := by simp; exact h2.nums.lE, es := fun e' he => ?_ } rfl) { hF with l := by simp [hF.l], w := by simp [hF.w] }
    · have := h2.wo.mv Mo (fun k h1 h2 => by simp; omega)
      intro k h1 h3
      have := this k h1 h3
      rcases kc h1 h3 with rfl | rfl | rfl | rfl | rfl | rfl | rfl | rfl | rfl <;> exact this
    · rcases List.mem_or_eq_of_mem_set he with he | he
      · exact h1.nums.es e' he
      · rw [he, List.length_set]; exact h1.nums.es es' (List.mem_of_getElem? hE)
  · rw [if_neg (by simp only [decide_eq_true_eq]; omega)]
    exact hK _ T d h2 hF
theorem map_set_same {qs : List Th} {i g : Nat} {O O' : Nat → Prop} (h : qs[i]? = some (g, O)) : (qs.set i (g, O')).map (fun q => ptrV q.1) = qs.map fun q => ptrV q.1 := by
  rw [List.map_set]
  apply List.ext_getElem?
  intro j
  rw [List.getElem?_set]
  split
  · rename_i e
    subst e
    obtain ⟨hi, hq⟩ := List.getElem?_eq_some_iff.1 h
    simp [hi, hq]
  · rfl
/-- New blocks: those of O take the one tag, the others the other. -/
theorem gw_tag {O O' : Nat → Prop} (t0 : Tag) (G : Gw O w O' w') (lt : ∀ b, O b → b < w.heap.size) (ht : ∀ b, O b → T b = t) : ∃ T', Mv (fun u => u = t) T w T' w' ∧ (∀ b, O' b → T' b = t) ∧ ∀ b, w.heap.size ≤ b → ¬ O' b → T' b = t0 := by
  classical
  refine ⟨fun b => if b < w.heap.size then T b else if O' b then t else t0, ⟨G.1.mono ht, fun b hb => if_pos hb⟩, fun b hb => ?_, fun b hb hn => ?_⟩
  · dsimp only
    rcases G.2 b hb with h | h
    · rw [if_pos (lt b h)]; exact ht b h
    · rw [if_neg (by omega), if_pos hb]
  · dsimp only
    rw [if_neg (by omega), if_neg hn]
/-- A tower has worked. -/
theorem Inv.turnX {i g : Nat} {O O' : Nat → Prop} (h : Inv W0 w p T d c) (hx : d.Xs[i]? = some (g, O)) (e : RE w' g O') (G : Gw O w O' w') (t0 : Tag) :
    ∃ T', Inv W0 w' p T' { d with Xs := d.Xs.set i (g, O') } c ∧ Mv (fun u => u = (20, i)) T w T' w' ∧ ∀ b, w.heap.size ≤ b → ¬ O' b → T' b = t0 := by
  obtain ⟨e0, t00⟩ := h.ll.xs i _ hx
  obtain ⟨T', M, hO, hN⟩ := gw_tag t0 G (fun b hb => e0.lt hb) t00
  refine ⟨T', ?_, M, hN⟩
  refine h.mk_ M (by simp) (by simp) ?_ { xs := h.ll.xs.turn kdR M (fun j hj => by simp; exact hj) e hO, ms := h.ll.ms.mv kdM M (fun i => by simp), vs := h.ll.vs.mv kdV M (fun i => by simp), l1 := h.ll.l1.mv M (fun i => by simp), l2 := h.ll.l2.mv M (fun i => by simp), c1 := h.ll.c1.mv M (fun i => by simp), c2 := h.ll.c2.mv M (fun i => by simp) } { h.nums with lX := by simp; exact h.nums.lX } rfl
  have := h.wo.mv M (fun k h1 h2 => by simp; omega)
  intro k h1 h3
  have := this k h1 h3
  rcases kc h1 h3 with rfl | rfl | rfl | rfl | rfl | rfl | rfl | rfl | rfl <;> first | exact this | (show OT _ _ _ _ ((d.Xs.set i (g, O')).map fun q => ptrV q.1) _; rw [map_set_same hx]; exact this)
theorem Inv.turnV {i g : Nat} {O O' : Nat → Prop} (h : Inv W0 w p T d c) (hx : d.Vs[i]? = some (g, O)) (e : VEn w' g O') (G : Gw O w O' w') (t0 : Tag) :
    ∃ T', Inv W0 w' p T' { d with Vs := d.Vs.set i (g, O') } c ∧ Mv (fun u => u = (22, i)) T w T' w' ∧ ∀ b, w.heap.size ≤ b → ¬ O' b → T' b = t0 := by
  obtain ⟨e0, t00⟩ := h.ll.vs i _ hx
  obtain ⟨T', M, hO, hN⟩ := gw_tag t0 G (fun b hb => kdV.lt e0 hb) t00
  refine ⟨T', ?_, M, hN⟩
  refine h.mk_ M (by simp) (by simp) ?_ { xs := h.ll.xs.mv kdR M (fun i => by simp), ms := h.ll.ms.mv kdM M (fun i => by simp), vs := h.ll.vs.turn kdV M (fun j hj => by simp; exact hj) e hO, l1 := h.ll.l1.mv M (fun i => by simp), l2 := h.ll.l2.mv M (fun i => by simp), c1 := h.ll.c1.mv M (fun i => by simp), c2 := h.ll.c2.mv M (fun i => by simp) } { h.nums with lV := by simp; exact h.nums.lV } rfl
  have := h.wo.mv M (fun k h1 h2 => by simp; omega)
  intro k h1 h3
  have := this k h1 h3
  rcases kc h1 h3 with rfl | rfl | rfl | rfl | rfl | rfl | rfl | rfl | rfl <;> first | exact this | (show OT _ _ _ _ ((d.Vs.set i (g, O')).map fun q => ptrV q.1) _; rw [map_set_same hx]; exact this)
theorem gw_tag2 {O1 O2 : Nat → Prop} (t1 t2 t0 : Tag) (T : Nat → Tag) (w : World) (hd : ∀ b, O1 b → ¬ O2 b) : ∃ T' : Nat → Tag, (∀ b, b < w.heap.size → T' b = T b) ∧ (∀ b, w.heap.size ≤ b → O1 b → T' b = t1) ∧ (∀ b, w.heap.size ≤ b → O2 b → T' b = t2) ∧ ∀ b, w.heap.size ≤ b → ¬ O1 b → ¬ O2 b → T' b = t0 := by
  classical
  refine ⟨fun b => if b < w.heap.size then T b else if O1 b then t1 else if O2 b then t2 else t0, fun b hb => if_pos hb, fun b hb h => ?_, fun b hb h => ?_, fun b hb h h' => ?_⟩
  · dsimp only; rw [if_neg (by omega), if_pos h]
  · dsimp only; rw [if_neg (by omega), if_neg (fun h' => hd b h' h), if_pos h]
  · dsimp only; rw [if_neg (by omega), if_neg h, if_neg h']
/-- A tower and its interpreter have worked. -/
theorem Inv.turnXM {i g m : Nat} {O O' Om Om' : Nat → Prop} (h : Inv W0 w p T d c) (hx : d.Xs[i]? = some (g, O)) (hm : d.Ms[i]? = some (m, Om)) (e : RE w' g O') (me : ME w' m Om') (hd : ∀ b, O' b → ¬ Om' b) (G : Gw (U O Om) w (U O' Om') w') (g1 : ∀ b, O' b → O b ∨ w.heap.size ≤ b) (g2 : ∀ b, Om' b → Om b ∨ w.heap.size ≤ b) (t0 : Tag) :
    ∃ T', Inv W0 w' p T' { d with Xs := d.Xs.set i (g, O'), Ms := d.Ms.set i (m, Om') } c ∧ Mv (fun u => u = (20, i) ∨ u = (21, i)) T w T' w' ∧ ∀ b, w.heap.size ≤ b → ¬ U O' Om' b → T' b = t0 := by
  obtain ⟨e0, t00⟩ := h.ll.xs i _ hx
  obtain ⟨m0, t01⟩ := h.ll.ms i _ hm
  obtain ⟨T', q0, q1, q2, q3⟩ := gw_tag2 (20, i) (21, i) t0 T w hd
  have M : Mv (fun u => u = (20, i) ∨ u = (21, i)) T w T' w' := ⟨G.1.mono fun b hb => hb.elim (fun h => .inl (t00 b h)) fun h => .inr (t01 b h), q0⟩
  have hO : ∀ b, O' b → T' b = (20, i) := fun b hb => by
    rcases g1 b hb with h' | h'
    · rw [M.t b (e0.lt h')]; exact t00 b h'
    · exact q1 b h' hb
  have hO2 : ∀ b, Om' b → T' b = (21, i) := fun b hb => by
    rcases g2 b hb with h' | h'
    · rw [M.t b (m0.lt h')]; exact t01 b h'
    · exact q2 b h' hb
  refine ⟨T', ?_, M, fun b hb hn => q3 b hb (fun h => hn (.inl h)) fun h => hn (.inr h)⟩
  refine h.mk_ M (by simp) (by simp) ?_ { xs := h.ll.xs.turn kdR M (fun j hj => by simp; exact hj) e hO, ms := h.ll.ms.turn kdM M (fun j hj => by simp; exact hj) me hO2, vs := h.ll.vs.mv kdV M (fun i => by simp), l1 := h.ll.l1.mv M (fun i => by simp), l2 := h.ll.l2.mv M (fun i => by simp), c1 := h.ll.c1.mv M (fun i => by simp), c2 := h.ll.c2.mv M (fun i => by simp) } { h.nums with lX := by simp; exact h.nums.lX, lM := by simp; exact h.nums.lM } rfl
  have := h.wo.mv M (fun k h1 h2 => by simp; omega)
  intro k h1 h3
  have := this k h1 h3
  rcases kc h1 h3 with rfl | rfl | rfl | rfl | rfl | rfl | rfl | rfl | rfl <;> first | exact this | (show OT _ _ _ _ ((d.Xs.set i (g, O')).map fun q => ptrV q.1) _; rw [map_set_same hx]; exact this) | (show OT _ _ _ _ ((d.Ms.set i (m, Om')).map fun q => ptrV q.1) _; rw [map_set_same hm]; exact this)
theorem OutS.el {n0 : Nat} {O : Nat → Prop} {y : Sl} {out : List Int} (h : OutS n0 O w y out) (ht : ∀ b, n0 ≤ b → ¬ O b → T b = t) : EL w T t y (ints out) out.length := by
  rcases h with ⟨rfl, rfl⟩ | ⟨_, b, h1, h2, rfl, h3⟩
  · exact .inl ⟨rfl, rfl, rfl⟩
  · exact .inr ⟨b, rfl, h3, ht b h1 h2⟩
/-- A list that was handed out becomes one of the caller's. -/
def XX.keep (w_ a_77 : Nat) (w : World) (K : Bool → World → Prop) : Prop :=
  LdS w ⟨a_77, 4, none⟩ fun Out_79 =>
  if (decide ((Out_79.l : Int) > 0)) = true then
    Drew w fun w =>
    Hold w ⟨w_, 4, none⟩ 1 fun R80 =>
    LdS w ⟨w_, 4, none⟩ fun ls_81 =>
    LdS w ⟨a_77, 4, none⟩ fun Out_82 =>
    New w (.cells #[.slice Out_82.a Out_82.l Out_82.c] 22) fun p83 w =>
    After R80 w <|
    AppS 22 [.slice none 0 0] 24 1 w ls_81 ⟨some ⟨p83, 0, none⟩, 1, 1⟩ fun l84 w =>
    St1 w ⟨w_, 4, none⟩ (.slice l84.a l84.l l84.c) fun w =>
    Drew w fun w =>
    Hold w ⟨w_, 5, none⟩ 1 fun R85 =>
    LdS w ⟨w_, 5, none⟩ fun lw_86 =>
    LdS w ⟨a_77, 4, none⟩ fun Out_87 =>
    S.towerexact_copyInts Out_87 w (fun r88 w =>
    After R85 w <|
    New w (.cells #[.slice r88.a r88.l r88.c] 22) fun p89 w =>
    After R85 w <|
    AppS 22 [.slice none 0 0] 24 1 w lw_86 ⟨some ⟨p89, 0, none⟩, 1, 1⟩ fun l90 w =>
    St1 w ⟨w_, 5, none⟩ (.slice l90.a l90.l l90.c) fun w =>
    K true w)
  else
    K true w
def rec6 (y : Sl) (vs : List Value) : Prop := vs[4]? = some (slV y)
theorem keep_spec {a : Nat} {y : Sl} {out : List Int} {K : Bool → World → Prop} (h : Inv W0 w p T d (c + 1)) (n0 : Nums d c) (hF : Full d) (ha : Blk w a vs) (ht : T a = (51, 0)) (hv : vs[4]? = some (slV y)) (el : EL w T (23, d.Es.length) y (ints out) out.length) (ho : out.length ≤ 1024) (hK : Done W0 p (c + 1) K) : XX.keep p a w K := by
  unfold XX.keep
  refine ldS (a := y.a) (l := y.l) (c := y.c) ha hv ?_
  have hyl := el.len
  by_cases hp : 0 < y.l
  · rw [if_pos (by simp only [decide_eq_true_eq]; omega)]
    refine drew_ ?_
    unfold Hold
    have h1 := h.ext (Fr.refl 0 0 w).drew
    refine ldS h1.rcd rfl (ldS (a := y.a) (l := y.l) (c := y.c) ha.drew hv (newB fun w2 c2 f2 s2 => ?_))
    have h2 := h1.ext f2
    have el2 := el.mv (X := fun _ => False) (Mv.new0 (f2 : Fr 0 0 w w2)) fun h => h
    have a2 := ha.fr (f2 : Fr 0 0 w w2) (by omega)
    refine ⟨holdS h1.rcd h2.rcd, ?_⟩
    refine Inv.addL h2 n0 hF c2 el2 (by omega) fun s3 w3 T3 h3 M3 => ?_
    have el3 : EL w3 T3 (23, d.Es.length) y (ints out) out.length := el2.mv M3 (by simp)
    have a3 := M3.blk a2 (by rw [ht]; simp)
    refine drew_ ?_
    have h3' := h3.ext (Fr.refl 0 0 w3).drew
    have el3' := el3.mv (X := fun _ => False) (Mv.new0 (Fr.refl 0 0 w3).drew) fun h => h
    refine ldS h3'.rcd rfl (ldS (a := y.a) (l := y.l) (c := y.c) a3.drew hv ?_)
    refine copyInts_spec el3'.rd (by omega) fun w4 b4 f4 => ?_
    have h4 := h3'.extT f4 (24, d.Es.length)
    have el4 : EL w4 (tagN T3 w3.drew (24, d.Es.length)) (24, d.Es.length) ⟨some ⟨w3.drew.heap.size, 0, none⟩, out.length, out.length⟩ (ints out) out.length := .inr ⟨_, rfl, b4, tagN_new _ _ _ (Nat.le_refl _)⟩
    generalize tagN T3 w3.drew (24, d.Es.length) = T4 at *
    refine ⟨holdS h3'.rcd h4.rcd, newB fun w5 c5 f5 s5 => ?_⟩
    have h5 := h4.ext f5
    refine ⟨holdS h3'.rcd h5.rcd, ?_⟩
    refine Inv.addW (d := { d with ls := s3, Ls := d.Ls ++ [y], Es := d.Es ++ [out] }) (Es0 := d.Es) h5 hF.w rfl n0.lE c5 (el4.mv (X := fun _ => False) (Mv.new0 f5) fun h => h) fun s6 w6 T6 h6 => hK w6 T6 _ h6 { hF with l := by simp [hF.l], w := by simp [hF.w] }
  · rw [if_neg (by simp only [decide_eq_true_eq]; omega)]
    exact hK w T d h hF
theorem join_PP2 {α β : Type} {k : α → β → World → Prop} {body : (α → β → World → Prop) → Prop} (P : α → β → World → Prop) (hk : ∀ x y w, P x y w → k x y w) (hb : ∀ J : α → β → World → Prop, (∀ x y w, P x y w → J x y w) → body J) : Join k body := hb k hk
/-- Behind a run: what is to be kept. -/
def AftR (W0 : World) (p c : Nat) (a : Nat) (ok : Bool) (v : World) : Prop := ok = true ∧ ∃ T' d' y out vs, Inv W0 v p T' d' (c + 1) ∧ Nums d' c ∧ Full d' ∧ Blk v a vs ∧ T' a = (51, 0) ∧ vs[4]? = some (slV y) ∧ EL v T' (23, d'.Es.length) y (ints out) out.length ∧ out.length ≤ 1024
theorem lay6' {a0 a1 a2 a3 a5 : Int} {a4 : Sl} {a : Nat} {vs : List Value} {K : World → Prop} (c : Blk w a vs) (hl : vs.length = 6) (hK : ∀ w', Blk w' a [.int .i64 a0, .int .i64 a1, .int .i64 a2, .int .i64 a3, slV a4, .int .i64 a5] → Fr a 1 w w' → K w') :
    St1 w ⟨a, 0, none⟩ (.int .i64 a0) fun w => St1 w ⟨a, 1, none⟩ (.int .i64 a1) fun w => St1 w ⟨a, 2, none⟩ (.int .i64 a2) fun w => St1 w ⟨a, 3, none⟩ (.int .i64 a3) fun w => St1 w ⟨a, 4, none⟩ (.slice a4.a a4.l a4.c) fun w => St1 w ⟨a, 5, none⟩ (.int .i64 a5) K :=
  lay6 (a4 := a4) c hl fun w' c' f' _ => hK w' c' f'
end
end Go.Proofs.Qxb6500562aGreat
