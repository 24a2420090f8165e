/-
  The interpreter against the machine: calls; all expressions.
-/
import Derived.Test.Qxb6500562aGreatSmF
namespace Go.Proofs.Qxb6500562aGreat
open Go.Den Go.Zip
set_option linter.unusedVariables false
set_option linter.unusedSimpArgs false
variable {w w' w1 : World} {r : Nat} {P : PrgH} {inp : List Int} {O O' : Nat → Prop} {x y rb : Int} {loc : Sl} {s s' s1 : MS} {f : Fm} {rr : List Fm} {F : Fn} {bl n : Nat}

/-- A call, its arguments evaluated: the machine is about to enter. -/
structure IvP (P : PrgH) (inp : List Int) (r : Nat) (j : Nat) (args : Sl) (w : World) (K : Int → World → Prop) (s : MS) (ret : Nat) (O : Nat → Prop) (avs : List Int) : Prop where
  jl : j < P.st.fs.length
  mt : MtG w r P inp s O
  oa : OS w args (ints avs) 1
  na : ∀ b, owns args b → ¬ O b
  al : (avs.length : Int) = (fnAt P.st.fs (j : Int)).pi
  ca : (s.fs = [] ∧ avs = [] ∧ (fnAt P.st.fs (j : Int)).ret < 2 ∧ (fnAt P.st.fs (j : Int)).pr = 0) ∨ ∃ (f : Fm) (o : List Int) (rr : List Fm), s.fs = { f with ops := o ++ avs } :: rr ∧ (f.rb : Int) + f.lr + (fnAt P.st.fs (j : Int)).pr ≤ s.H.roots.length
  gN : ∀ (f : Fm) (o : List Int) (rr : List Fm), s.fs = { f with ops := o ++ avs } :: rr → ∀ v w' O' s', MtG w' r P inp s' O' → Gw O w O' w' → RnP P inp (menter (pCode P.toPrg) (pEnt P (j : Int)) ret s) s' → s'.pc = ret → s'.fs = (if 2 ≤ (fnAt P.st.fs (j : Int)).ret then { f with ops := o } :: rr else { f with ops := o ++ [v] } :: rr) →
    (s'.H.roots.length : Int) = s.H.roots.length - (fnAt P.st.fs (j : Int)).pr + (if 2 ≤ (fnAt P.st.fs (j : Int)).ret then 1 else 0) → s'.fuel ≤ s.fuel → K v w'
  g0 : s.fs = [] → ∀ v w' O' s' H, RGo w' r P inp 1 s'.ip s'.fuel s'.out H O' → Gw O w O' w' → RnP P inp (menter (pCode P.toPrg) (pEnt P (j : Int)) ret s) s' → s'.en = 21 → s'.rv = v → K v w'
  en : ∀ v w' O' s', MtE w' r P inp s' O' → Gw O w O' w' → RnP P inp (menter (pCode P.toPrg) (pEnt P (j : Int)) ret s) s' → K v w'
def QIv (P : PrgH) (inp : List Int) (rk : Nat) (r : Nat) (fn : Int) (args : Sl) (w : World) (K : Int → World → Prop) : Prop := ∃ (j : Nat) (s : MS) (ret : Nat) (O : Nat → Prop) (avs : List Int), fn = (j : Nat) ∧ rk = s.fuel.toNat * 1000 + 2 ∧ IvP P inp r j args w K s ret O avs
theorem OS.mvG {args : Sl} {vs : List Value} {sz : Nat} (o : OS w args vs sz) (hn : ∀ b, owns args b → ¬ O b) (G : Gw O w O' w') : OS w' args vs sz ∧ ∀ b, owns args b → ¬ O' b :=
  ⟨o.frp G.1 hn, fun b hb h => (G.2 b h).elim (hn b hb) fun h' => by have := o.lt hb; omega⟩
set_option maxHeartbeats 2000000 in
theorem ev_call {K : Int → World → Prop} {p rk : Nat} (hcl : (pCode P.toPrg).length ≤ 4096) (h200 : P.ns.length ≤ 200) (hen : ∀ k : Int, 0 ≤ k → k < P.st.fs.length → pEnt P k < 65536) (h : EvP P inp r x loc rb w K (n + 1) F s f rr O bl) (good : Good 0 P.ns) (hk : (ndAt P.ns x).kind = 13) (hp : Blk w p (ndV (ndAt P.ns x))) (hpo : ¬ O p) (hrk : rk = s.fuel.toNat * 1000 + 3 * x.toNat + 5) :
    LdI .i64 w ⟨p, 1, none⟩ fun A_97 =>
      Join (fun (args_98 : Sl) (w : World) => LdI .i64 w ⟨r, 17, none⟩ fun end_99 => if (end_99 != 0) = true then K 0 w else
        LdS w ⟨r, 5, none⟩ fun Ref_100 => Ix Ref_100.a Ref_100.l x fun b101 o102 => LdI .i64 w ⟨b101, o102 + Int.toNat x * 1, none⟩ fun x_103 => ∃ m, m < rk ∧ QIv P inp m r x_103 args_98 w (fun r104 w => K r104 w)) fun J105 =>
      LoopP (σ := Sl × Int × Unit) (fun st106 w next107 =>
        if (decide (st106.2.1 ≥ 0)) = true then
          Join (fun (args_108 : Sl) (w : World) => LdS w ⟨r, 10, none⟩ fun t_109 => Ix t_109.a t_109.l st106.2.1 fun b110 o111 => LdI .i64 w ⟨b110, o111 + Int.toNat st106.2.1 * 8 + 4, none⟩ fun Next_112 => next107 (args_108, Next_112, ()) w) fun J113 =>
          ∃ m, m < rk ∧ QEv P inp m r st106.2.1 loc rb w (fun r114 w =>
          LdS w ⟨r, 4, none⟩ fun Ty_115 => Ix Ty_115.a Ty_115.l st106.2.1 fun b116 o117 => LdI .i64 w ⟨b116, o117 + Int.toNat st106.2.1 * 1, none⟩ fun x_118 =>
          if (decide (x_118 < 2)) = true then
            New w (.cells #[.int .i64 r114] 3) fun p119 w => AppS 3 [.int .i64 0] 8 1 w st106.1 ⟨some ⟨p119, 0, none⟩, 1, 1⟩ fun l120 w => J113 l120 w
          else J113 st106.1 w)
        else J105 st106.1 w) (⟨none, 0, 0⟩, A_97, ()) w := by
  obtain ⟨x0, x1, _⟩ := h.ve
  have km := kids_mem good x0 x1 hk
  have kc := chain_of good x0 x1 (.inr (.inr hk))
  obtain ⟨tk, r0, r1, ci, cr, tx⟩ := h.te.2.2.2.2.2.2.2 hk
  have ec : cE P.toPrg (n + 1) x s.pc = rowS (cE P.toPrg n) (kids P.ns (ndAt P.ns x).a) s.pc ++ [.inl 24, .inr (gI P.st.ref x, false), .inr (gI P.st.ref x, true)] := sE_13 hk
  have sa := h.sa
  have lt := h.lt
  rw [ec] at sa lt
  rw [List.length_append] at lt
  simp only [List.length_cons, List.length_nil] at lt
  have hrt := h.fc.rt
  have kl : (kids P.ns (ndAt P.ns x).a).length ≤ 200 := by
    obtain ⟨l, c1, c2, _⟩ := (good x x0 x1).2.sl (.inr (.inr hk))
    have := kc.uniq c1
    rw [this]
    have := inc_len c2.inc (lo := 0) (hi := P.ns.length) (fun y hy => by rw [← this] at hy; have := km y hy; exact ⟨this.1, by have := this.2.1; omega⟩) (by omega)
    omega
  generalize hl : kids P.ns (ndAt P.ns x).a = l at *
  refine ldI hp (m := (ndAt P.ns x).a) rfl ?_
  -- where things stand with the arguments l1 evaluated
  let St : World → Sl → List Int → Prop := fun u args l1 => ∃ avs O1, OS u args (ints avs) 1 ∧ (∀ b, owns args b → ¬ O1 b) ∧ (∀ b, owns args b → w.heap.size ≤ b) ∧ avs.length ≤ l1.length ∧ Gw O w O1 u ∧
    ((∃ s1, MtG u r P inp s1 O1 ∧ RnP P inp s s1 ∧ s1.pc = s.pc + (rowS (cE P.toPrg n) l1 s.pc).length ∧ s1.fs = { f with ops := f.ops ++ avs } :: rr ∧ s1.H.roots.length = s.H.roots.length + cntR' P.st.ty l1 ∧ avs.length = cntI' P.st.ty l1 ∧ s1.fuel ≤ s.fuel) ∨ (∃ s1, MtE u r P inp s1 O1 ∧ RnP P inp s s1))
  refine join_P (fun args u => St u args l) ?_ ?_
  · rintro args u ⟨avs, O1, oa, na, nw, ll, G1, ⟨s1, m1, r1', pc1, fs1, rt1, al1, fu1⟩ | ⟨s1, m1, r1'⟩⟩
    · refine m1.end_ ?_
      rw [if_neg (by decide)]
      refine m1.2.rb.ref x0 x1 ?_
      obtain ⟨j, hj⟩ : ∃ j : Nat, gI P.st.ref x = j := ⟨(gI P.st.ref x).toNat, by omega⟩
      rw [hj] at r0 r1 ci cr tx ec sa ⊢
      have saC := sa.right pc1
      have at_ : At (pCode P.toPrg) s1.pc (24 :: u16B (pEnt P (j : Int))) := saC
      have rn := ins (inp := inp) m1.1 fs1 at_ rfl (by omega) (by show 0 ≤ _; omega) (by show ((0 : Nat) : Int) + f.rb + f.lr ≤ _; omega)
      rw [mop_24, u16_at (hen _ r0 r1) at_.tail] at rn
      have m2 : MtG u r P inp { s1 with pc := s1.pc + 1 + nargs 24 } O1 := ⟨m1.1, m1.2⟩
      have lenx : s.pc + (cE P.toPrg (n + 1) x s.pc).length = s1.pc + 3 := by rw [ec, List.length_append]; simp only [List.length_cons, List.length_nil]; omega
      refine ⟨s1.fuel.toNat * 1000 + 2, by omega, j, { s1 with pc := s1.pc + 1 + nargs 24 }, s1.pc + 3, O1, avs, rfl, rfl, by omega, m2, oa, na, by rw [al1]; exact ci, .inr ⟨f, f.ops, rr, fs1, by show (f.rb : Int) + f.lr + _ ≤ (s1.H.roots.length : Int); rw [← cr]; omega⟩, ?_, fun he => (by have he' : s1.fs = [] := he; rw [fs1] at he'; cases he'), fun v w' O' s' e' G' r' => h.en v w' O' s' e' (G1.trans G') ((r1'.trans rn).trans r')⟩
      intro f' o' rr' he v w' O' s' m' G' r' pc' fs' rt' fu'
      have hinj : ({ f with ops := f.ops ++ avs } : Fm) = { f' with ops := o' ++ avs } ∧ rr = rr' := by
        have : { f with ops := f.ops ++ avs } :: rr = { f' with ops := o' ++ avs } :: rr' := fs1.symm.trans he
        exact ⟨List.head_eq_of_cons_eq this, List.tail_eq_of_cons_eq this⟩
      have ho : f.ops = o' := List.append_cancel_right (congrArg Fm.ops hinj.1)
      have hf : ∀ q, ({ f with ops := q } : Fm) = { f' with ops := q } := fun q => by
        have := congrArg (fun g : Fm => ({ g with ops := q } : Fm)) hinj.1
        exact this
      rw [← hinj.2, ← ho, ← hf, ← hf] at fs'
      have rts : (s1.H.roots.length : Int) = s.H.roots.length + (cntR' P.st.ty l : Nat) := by omega
      refine h.go v w' O' s' m' (G1.trans G') ((r1'.trans rn).trans r') ⟨by rw [pc', lenx], ?_, ?_, by have : s'.fuel ≤ s1.fuel := fu'; omega⟩
      · rw [fs', tx]
      · have rt'' : (s'.H.roots.length : Int) = s1.H.roots.length - (fnAt P.st.fs (j : Int)).pr + (if 2 ≤ (fnAt P.st.fs (j : Int)).ret then 1 else 0) := rt'
        rw [tx]
        split at rt'' <;> rename_i hh
        · rw [if_pos hh]; omega
        · rw [if_neg hh]; omega
    · refine m1.end_ ?_
      rw [if_pos (by simpa using m1.1)]
      exact h.en 0 u O1 s1 m1 G1 r1'
  · intro J hJ
    refine loopN (fun k v u => ∃ args a l1 l2, v = (args, a, ()) ∧ l = l1 ++ l2 ∧ k = l2.length ∧ Ch P.ns a l2 ∧ St u args l1) l.length ⟨nilS, _, [], l, rfl, rfl, rfl, kc, [], O, OS.nil _ _, fun b hb => by simp [owns] at hb, fun b hb => by simp [owns] at hb, Nat.le_refl _, Gw.refl _ _, .inl ⟨s, h.mt, Rn.refl _, by simp [rowS], by rw [List.append_nil]; exact h.fc.fs, by simp [cntR'], by simp [cntI'], Int.le_refl _⟩⟩ ?_
    rintro k _ u ⟨args, a, l1, l2, rfl, hll, rfl, hch, hst⟩ Q hQ
    dsimp only
    cases l2 with
    | nil =>
      have ha : a = -1 := hch
      rw [if_neg (by simp only [decide_eq_true_eq]; omega)]
      rw [List.append_nil] at hll
      subst hll
      exact hJ args u hst
    | cons y l2 =>
      obtain ⟨rfl, hy0, hch'⟩ := hch
      rw [if_pos (by simp only [decide_eq_true_eq]; omega)]
      have iy := km a (by rw [hll]; simp)
      have ly := iy.2.1
      have vy := iy.ve x1
      have l1l : l1.length < 200 := by have := congrArg List.length hll; simp only [List.length_append, List.length_cons] at this; omega
      refine join_P (fun args' u' => St u' args' (l1 ++ [a])) ?_ ?_
      · rintro args' u' hst'
        have any : RAny u' r P inp (Classical.choose (Classical.choose_spec hst')) := by
          obtain ⟨_, _, _, _, _, h6⟩ := Classical.choose_spec (Classical.choose_spec hst')
          rcases h6 with ⟨s1, m1, _⟩ | ⟨s1, m1, _⟩
          · exact m1.2.rb
          · exact m1.2.rb
        refine any.next vy.1 vy.2.1 ?_
        exact hQ l2.length _ u' (by simp) ⟨args', _, l1 ++ [a], l2, rfl, by rw [hll]; simp, rfl, hch', hst'⟩
      · intro J2 hJ2
        obtain ⟨avs, O1, oa, na, nw, ll, G1, hcase⟩ := hst
        have hlen := rowS_app (cE P.toPrg n) l1 (a :: l2) s.pc
        rw [← hll] at hlen
        have hrow : rowS (cE P.toPrg n) (a :: l2) (s.pc + (rowS (cE P.toPrg n) l1 s.pc).length) = cE P.toPrg n a (s.pc + (rowS (cE P.toPrg n) l1 s.pc).length) ++ rowS (cE P.toPrg n) l2 (s.pc + (rowS (cE P.toPrg n) l1 s.pc).length + (cE P.toPrg n a (s.pc + (rowS (cE P.toPrg n) l1 s.pc).length)).length) := rfl
        have row1 : rowS (cE P.toPrg n) (l1 ++ [a]) s.pc = rowS (cE P.toPrg n) l1 s.pc ++ cE P.toPrg n a (s.pc + (rowS (cE P.toPrg n) l1 s.pc).length) := by rw [rowS_app]; simp [rowS]
        have ck1 : cntR' P.st.ty (l1 ++ [a]) = cntR' P.st.ty l1 + (if 2 ≤ gI P.st.ty a then 1 else 0) := by unfold cntR'; rw [List.countP_append]; simp [List.countP_cons]
        have ck2 : cntI' P.st.ty (l1 ++ [a]) = cntI' P.st.ty l1 + (if gI P.st.ty a < 2 then 1 else 0) := by unfold cntI'; rw [List.countP_append]; simp [List.countP_cons]
        -- behind the evaluation: the append
        have app : ∀ (v : Int) (u2 : World) (O2 : Nat → Prop), Gw O1 u O2 u2 → RAny u2 r P inp O2 →
            (∀ u3, FrP (fun b => owns args b ∨ u2.heap.size ≤ b) u2 u3 → ((∃ s1, MtG u3 r P inp s1 O2 ∧ RnP P inp s s1 ∧ s1.pc = s.pc + (rowS (cE P.toPrg n) (l1 ++ [a]) s.pc).length ∧ s1.fs = { f with ops := f.ops ++ (if gI P.st.ty a < 2 then avs ++ [v] else avs) } :: rr ∧ s1.H.roots.length = s.H.roots.length + cntR' P.st.ty (l1 ++ [a]) ∧ (if gI P.st.ty a < 2 then avs ++ [v] else avs).length = cntI' P.st.ty (l1 ++ [a]) ∧ s1.fuel ≤ s.fuel) ∨ (∃ s1, MtE u3 r P inp s1 O2 ∧ RnP P inp s s1))) →
            LdS u2 ⟨r, 4, none⟩ fun Ty_115 => Ix Ty_115.a Ty_115.l a fun b116 o117 => LdI .i64 u2 ⟨b116, o117 + Int.toNat a * 1, none⟩ fun x_118 =>
            if (decide (x_118 < 2)) = true then
              New u2 (.cells #[.int .i64 v] 3) fun p119 w => AppS 3 [.int .i64 0] 8 1 w args ⟨some ⟨p119, 0, none⟩, 1, 1⟩ fun l120 w => J2 l120 w
            else J2 args u2 := by
          intro v u2 O2 G2 any hst2
          obtain ⟨oa2, na2⟩ := OS.mvG oa na G2
          have Gw2 := G1.trans G2
          refine any.ty vy.1 vy.2.1 ?_
          by_cases hT : gI P.st.ty a < 2
          · rw [if_pos (by simpa using hT)]
            refine newB fun u3 c3 f3 s3 => ?_
            have F3 : FrP (fun _ => False) u2 u3 := FrP.of0 f3
            have oa3 := oa2.frp F3 fun _ _ h => h
            have sl : args.l = avs.length := by have := oa.len; simpa [ints] using this.symm
            refine appO oa3 c3 (by simp) (by omega) (by simp [okV]) rfl (by omega) fun s4 u4 o4 l4 gr F4 => ?_
            have gw4 : ∀ b, owns s4 b → owns args b ∨ u3.heap.size ≤ b := fun b hb => gr.owns hb
            have up3 := F3.1.1
            have up2 := Gw2.1.1.1
            have fr24 : FrP (fun b => owns args b ∨ u2.heap.size ≤ b) u2 u4 := (F3.mono fun _ h => h.elim).trans (F4.mono fun b hb => .inl hb)
            have st3 := hst2 u4 fr24
            · rw [if_pos hT] at st3
              refine hJ2 s4 u4 ⟨avs ++ [v], O2, ?_, fun b hb h => ?_, fun b hb => ?_, by simp; omega, ⟨Gw2.1.trans' fr24 fun b hh => hh.elim (fun h => .inr (nw b h)) fun h => .inr (by omega), Gw2.2⟩, st3⟩
              · have : ints avs ++ [Value.int .i64 v] = ints (avs ++ [v]) := by simp [ints]
                rw [← this]; exact o4
              · exact (gw4 b hb).elim (fun h' => na2 b h' h) fun h' => by have := any.lt h; omega
              · exact (gw4 b hb).elim (nw b) fun h' => by omega
          · rw [if_neg (by simpa using hT)]
            have st3 := hst2 u2 (FrP.refl _ _)
            rw [if_neg hT] at st3
            exact hJ2 args u2 ⟨avs, O2, oa2, na2, nw, by simp; omega, Gw2, st3⟩
        have rlt : r < w.heap.size := h.mt.2.rb.lt h.mt.2.rb.own
        rcases hcase with ⟨s1, m1, r1', pc1, fs1, rt1, al1, fu1⟩ | ⟨s1, m1, r1'⟩
        · have fc1 := h.fc.gwO (O' := O1) G1 fs1 (by omega)
          have sa1 : SA (pCode P.toPrg) (pEnt P) s1.pc (cE P.toPrg n a s1.pc) := by
            have := sa.left
            rw [hlen] at this
            have := this.right pc1
            rw [hrow] at this
            have := this.left
            rw [← pc1] at this
            exact this
          have len2 := congrArg List.length hlen
          rw [List.length_append, hrow, List.length_append, ← pc1] at len2
          refine recEv vy (tk a (by rw [hll]; simp)) m1 fc1 sa1 (by omega) (by omega) (fun v u2 O2 s2 m2 G2 r2 sh2 => ?_) fun v u2 O2 s2 m2 G2 r2 => ?_
          · refine app v u2 O2 G2 m2.2.rb fun u3 F3 => .inl ⟨s2, ⟨m2.1, m2.2.frpN F3 (fun b hb hh => hh.elim (fun h' => (OS.mvG oa na G2).2 b h' hb) fun h' => by have := m2.2.rb.lt hb; omega) fun b hh => hh.elim (fun h' => by have := nw b h'; omega) fun h' => by have := G2.1.1.1; have := G1.1.1.1; omega⟩, r1'.trans r2, ?_, ?_, ?_, ?_, by have := sh2.fu; omega⟩
            · rw [row1, List.length_append, sh2.pc, ← pc1]; omega
            · rw [sh2.fs]
              by_cases hT : gI P.st.ty a < 2
              · rw [if_neg (by omega), if_pos hT]; dsimp only; rw [List.append_assoc]
              · rw [if_pos (by omega), if_neg hT]
            · rw [ck1, sh2.rt]; omega
            · rw [ck2]
              by_cases hT : gI P.st.ty a < 2
              · rw [if_pos hT, if_pos hT, List.length_append]; simp; omega
              · rw [if_neg hT, if_neg hT]; omega
          · exact app v u2 O2 G2 m2.2.rb fun u3 F3 => .inr ⟨s2, ⟨m2.1, m2.2.frpN F3 (fun b hb hh => hh.elim (fun h' => (OS.mvG oa na G2).2 b h' hb) fun h' => by have := m2.2.rb.lt hb; omega) fun b hh => hh.elim (fun h' => by have := nw b h'; omega) fun h' => by have := G2.1.1.1; have := G1.1.1.1; omega⟩, r1'.trans r2⟩
        · exact recEnd m1 (by omega) (app 0 u O1 (Gw.refl _ _) m1.2.rb fun u3 F3 => .inr ⟨s1, ⟨m1.1, m1.2.frpN F3 (fun b hb hh => hh.elim (fun h' => na b h' hb) fun h' => by have := m1.2.rb.lt hb; omega) fun b hh => hh.elim (fun h' => by have := nw b h'; omega) fun h' => by have := G1.1.1.1; omega⟩, r1'⟩)
theorem eval_sim {rk : Nat} {Rx : REx} {K : Int → World → Prop} (hcl : (pCode P.toPrg).length ≤ 4096) (h200 : P.ns.length ≤ 200) (hen : ∀ k : Int, 0 ≤ k → k < P.st.fs.length → pEnt P k < 65536) (good : Good 0 P.ns) (hq : QEv P inp rk r x loc rb w K) :
    B.genm_run_eval (fun x0 x1 x2 w K => ∃ m, m < rk ∧ QIv P inp m x0 x1 x2 w K) Rx (fun x0 x1 x2 x3 w K => ∃ m, m < rk ∧ QEv P inp m x0 x1 x2 x3 w K) (fun x0 x1 x2 x3 x4 x5 x6 x7 x8 x9 x10 w K => ∃ m, m < rk ∧ QBi P inp m x0 x1 x2 x3 x4 x5 x6 x7 x8 x9 x10 w K) r x loc rb w K := by
  unfold B.genm_run_eval
  rcases hq with ⟨s, O, m, hK⟩ | ⟨n, F, s, f, rr, O, bl, hrk, h⟩
  · refine m.end_ ?_
    rw [if_pos (by simpa using m.1)]
    exact hK
  obtain ⟨n, rfl⟩ : ∃ k, n = k + 1 := by
    cases n with
    | zero => exact h.te.elim
    | succ n => exact ⟨n, rfl⟩
  refine h.mt.end_ ?_
  rw [if_neg (by decide)]
  refine h.mt.2.rb.node h.ve.1 h.ve.2.1 fun w1 p b1 hpo F1 => ?_
  have h := h.fr0 F1
  refine ldI b1 (m := (ndAt P.ns x).kind) rfl (join_ ?_)
  have hks : (ndAt P.ns x).kind = 10 ∨ (ndAt P.ns x).kind = 11 ∨ (ndAt P.ns x).kind = 12 ∨ (ndAt P.ns x).kind = 13 ∨ (ndAt P.ns x).kind = 14 ∨ (ndAt P.ns x).kind = 15 ∨ (ndAt P.ns x).kind = 16 ∨ (ndAt P.ns x).kind = 17 ∨ (ndAt P.ns x).kind = 18 ∨ (ndAt P.ns x).kind = 19 := by have := h.ve.2.2; omega
  rcases hks with hk | hk | hk | hk | hk | hk | hk | hk | hk | hk
  · rw [hk]
    repeat (first | rw [if_pos (by decide)] | rw [if_neg (by decide)] | dsimp only)
    exact ev_num h good (.inl hk) b1 hpo
  · rw [hk]
    repeat (first | rw [if_pos (by decide)] | rw [if_neg (by decide)] | dsimp only)
    exact ev_num h good (.inr hk) b1 hpo
  · rw [hk]
    repeat (first | rw [if_pos (by decide)] | rw [if_neg (by decide)] | dsimp only)
    exact ev_var h hk
  · rw [hk]
    repeat (first | rw [if_pos (by decide)] | rw [if_neg (by decide)] | dsimp only)
    exact ev_call hcl h200 hen h good hk b1 hpo hrk
  · rw [hk]
    repeat (first | rw [if_pos (by decide)] | rw [if_neg (by decide)] | dsimp only)
    exact ldI b1 (m := (ndAt P.ns x).a) rfl (ev_index h good hk b1 hpo hrk)
  · rw [hk]
    repeat (first | rw [if_pos (by decide)] | rw [if_neg (by decide)] | dsimp only)
    exact ldI b1 (m := (ndAt P.ns x).a) rfl (ev_new h good hk b1 hpo hrk)
  · rw [hk]
    repeat (first | rw [if_pos (by decide)] | rw [if_neg (by decide)] | dsimp only)
    exact ldI b1 (m := (ndAt P.ns x).a) rfl (ev_len (p := p) h good hk hrk)
  · rw [hk]
    repeat (first | rw [if_pos (by decide)] | rw [if_neg (by decide)] | dsimp only)
    exact ev_read h hk
  · rw [hk]
    repeat (first | rw [if_pos (by decide)] | rw [if_neg (by decide)] | dsimp only)
    refine ldI b1 (m := (ndAt P.ns x).kind) rfl (ldI b1 (m := (ndAt P.ns x).a) rfl (ldI b1 (m := (ndAt P.ns x).b) rfl (ldI b1 (m := (ndAt P.ns x).c) rfl (ldI b1 (m := (ndAt P.ns x).next) rfl (ldI b1 (m := (ndAt P.ns x).val) rfl (ldI b1 (m := (ndAt P.ns x).pos) rfl (ldStr b1 (m := (ndAt P.ns x).name) rfl ?_)))))))
    exact ⟨s.fuel.toNat * 1000 + 3 * x.toNat + 4, by omega, n, x, F, s, f, rr, O, bl, rfl, hk, rfl, rfl, rfl, h⟩
  · rw [hk]
    repeat (first | rw [if_pos (by decide)] | rw [if_neg (by decide)] | dsimp only)
    exact ldI b1 (m := (ndAt P.ns x).a) rfl (ev_un h good hk b1 hpo hrk)
end Go.Proofs.Qxb6500562aGreat
