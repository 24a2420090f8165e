/-
  The model's checker: Check.
-/
import Derived.Test.Qxb6500562aGreatCkT
namespace Go.Proofs.Qxb6500562aGreat
open Go.Den Go.Zip
set_option linter.unusedVariables false
set_option linter.unusedSimpArgs false
variable {α β : Type} {ns : List Nd} {w0 w w' : World} {s tb p : Nat} {st : CS} {e q : Int} {L : List (Nat × List Value)} {vs : List Value} {nv : List Vr × Nat} {hds : List Int}

/-- A checked program. -/
structure Prg where
  ns : List Nd
  root : Int
  main : Int
  st : CS
/-- What Check answers. -/
def CkA (src : ByteArray) (res : Except (Int × Int) Prg) : Prop :=
  ∃ tr, ParA src tr ∧ (match tr with
    | .error q => res = .error q
    | .ok (root, _, ns) => res = match ckAll ns root src.size with | .error q => .error q | .ok (m, st) => .ok ⟨ns, root, m, st⟩)
theorem CkA.uniq {src : ByteArray} {r r' : Except (Int × Int) Prg} (h : CkA src r) (h' : CkA src r') : r = r' := by
  obtain ⟨t, h1, h2⟩ := h
  obtain ⟨t', h1', h2'⟩ := h'
  have := h1.uniq h1'
  subst this
  rcases t with q | ⟨root, i, ns⟩
  · rw [h2, h2']
  · rw [h2, h2']
/-- A checked program, handed out. -/
def CkOut (n0 : Nat) (w' : World) (res : Except (Int × Int) Prg) (nodes : Sl) (root terr tpos : Int) (ty ref funcs : Sl) (main e pos : Int) : Prop :=
  match res with
  | .error q => nodes = ⟨none, 0, 0⟩ ∧ root = -1 ∧ terr = 0 ∧ tpos = 0 ∧ ty = ⟨none, 0, 0⟩ ∧ ref = ⟨none, 0, 0⟩ ∧ funcs = ⟨none, 0, 0⟩ ∧ main = -1 ∧ e = q.1 ∧ pos = q.2 ∧ e ≠ 0
  | .ok P => root = P.root ∧ terr = 0 ∧ tpos = 0 ∧ main = P.main ∧ e = 0 ∧ pos = 0 ∧ CInv P.ns P.st ∧ P.ns.length ≤ 200 ∧ ∃ b1 b2 b3 b4, n0 ≤ b1 ∧ n0 ≤ b2 ∧ n0 ≤ b3 ∧ n0 ≤ b4 ∧
      nodes = ⟨some ⟨b1, 0, none⟩, P.ns.length, P.ns.length⟩ ∧ Blk w' b1 (P.ns.flatMap ndV) ∧ ty = ⟨some ⟨b2, 0, none⟩, P.ns.length, P.ns.length⟩ ∧ Blk w' b2 (ints P.st.ty) ∧
      ref = ⟨some ⟨b3, 0, none⟩, P.ns.length, P.ns.length⟩ ∧ Blk w' b3 (ints P.st.ref) ∧ funcs = ⟨some ⟨b4, 0, none⟩, P.st.fs.length, P.st.fs.length⟩ ∧ Blk w' b4 (P.st.fs.flatMap fnV)
/-- The answer's ten cells, laid and read back. -/
theorem ans10 {p : Nat} {vs : List Value} {a0 a4 a5 a6 : Sl} {a1 a2 a3 a7 a8 a9 : Int} {K : Sl → Int → Int → Int → Sl → Sl → Sl → Int → Int → Int → World → Prop} (h : Blk w p vs) (hl : vs.length = 10)
    (hK : ∀ w', Fr p 1 w w' → K a0 a1 a2 a3 a4 a5 a6 a7 a8 a9 w') : St1 w ⟨p, 0, none⟩ (.slice a0.a a0.l a0.c) fun w => St1 w ⟨p, 1, none⟩ (.int .i64 a1) fun w => St1 w ⟨p, 2, none⟩ (.int .i64 a2) fun w => St1 w ⟨p, 3, none⟩ (.int .i64 a3) fun w =>
      St1 w ⟨p, 4, none⟩ (.slice a4.a a4.l a4.c) fun w => St1 w ⟨p, 5, none⟩ (.slice a5.a a5.l a5.c) fun w => St1 w ⟨p, 6, none⟩ (.slice a6.a a6.l a6.c) fun w => St1 w ⟨p, 7, none⟩ (.int .i64 a7) fun w => St1 w ⟨p, 8, none⟩ (.int .i64 a8) fun w => St1 w ⟨p, 9, none⟩ (.int .i64 a9) fun w =>
      LdS w ⟨p, 0, none⟩ fun x0 => LdI .i64 w ⟨p, 1, none⟩ fun x1 => LdI .i64 w ⟨p, 2, none⟩ fun x2 => LdI .i64 w ⟨p, 3, none⟩ fun x3 => LdS w ⟨p, 4, none⟩ fun x4 => LdS w ⟨p, 5, none⟩ fun x5 => LdS w ⟨p, 6, none⟩ fun x6 => LdI .i64 w ⟨p, 7, none⟩ fun x7 => LdI .i64 w ⟨p, 8, none⟩ fun x8 => LdI .i64 w ⟨p, 9, none⟩ fun x9 =>
      K x0 x1 x2 x3 x4 x5 x6 x7 x8 x9 w := by
  obtain ⟨c0, c1, c2, c3, c4, c5, c6, c7, c8, c9, rfl⟩ : ∃ c0 c1 c2 c3 c4 c5 c6 c7 c8 c9, vs = [c0, c1, c2, c3, c4, c5, c6, c7, c8, c9] := by
    match vs, hl with
    | [c0, c1, c2, c3, c4, c5, c6, c7, c8, c9], _ => exact ⟨c0, c1, c2, c3, c4, c5, c6, c7, c8, c9, rfl⟩
  refine Go.Den.st1 h (by simp) fun v0 b0 f0 _ => ?_
  refine Go.Den.st1 b0 (by simp) fun v1 b1 f1 _ => ?_
  refine Go.Den.st1 b1 (by simp) fun v2 b2 f2 _ => ?_
  refine Go.Den.st1 b2 (by simp) fun v3 b3 f3 _ => ?_
  refine Go.Den.st1 b3 (by simp) fun v4 b4 f4 _ => ?_
  refine Go.Den.st1 b4 (by simp) fun v5 b5 f5 _ => ?_
  refine Go.Den.st1 b5 (by simp) fun v6 b6 f6 _ => ?_
  refine Go.Den.st1 b6 (by simp) fun v7 b7 f7 _ => ?_
  refine Go.Den.st1 b7 (by simp) fun v8 b8 f8 _ => ?_
  refine Go.Den.st1 b8 (by simp) fun v9 b9 f9 _ => ?_
  refine ldS b9 rfl (ldI b9 rfl (ldI b9 rfl (ldI b9 rfl (ldS b9 rfl (ldS b9 rfl (ldS b9 rfl (ldI b9 rfl (ldI b9 rfl (ldI b9 rfl ?_)))))))))
  exact hK v9 (((((((((f0.trans f1).trans f2).trans f3).trans f4).trans f5).trans f6).trans f7).trans f8).trans f9)
theorem mbad_spec {e pos : Int} {K : Sl → Int → Int → Int → Sl → Sl → Sl → Int → Int → Int → World → Prop} (hK : ∀ w', Fr 0 0 w w' → K ⟨none, 0, 0⟩ (-1) 0 0 ⟨none, 0, 0⟩ ⟨none, 0, 0⟩ ⟨none, 0, 0⟩ (-1) e pos w') : S.checkm_bad e pos w K := by
  unfold S.checkm_bad
  refine newB fun w1 b1 f1 s1 => ?_
  refine ans10 (a0 := ⟨none, 0, 0⟩) (a4 := ⟨none, 0, 0⟩) (a5 := ⟨none, 0, 0⟩) (a6 := ⟨none, 0, 0⟩) b1 rfl fun w' f' => ?_
  exact hK w' ((f1.any _ 1).trans f' |>.fresh (Nat.le_refl _) 0 0)
theorem cs0_inv (ns : List Nd) : CInv ns (cs0 ns) := by
  refine ⟨by simp [cs0], by simp [cs0], ⟨?_, ?_⟩, by simp [cs0], ?_, ?_, ?_, by simp [cs0, fnames], by simp [cs0, cntI], by simp [cs0, cntR], by simp [cs0]⟩ <;> intro f hf <;> cases hf
theorem ckBody_fl {i : Nat} {st st' : CS} {u : Unit} (h : ckBody ns i st = .ok (u, st')) : st'.fs.length = st.fs.length := by
  unfold ckBody at h
  obtain ⟨_, s1, e1, h⟩ := cb_inv h
  have h1 := ckL_kp (fun x st u st' h => by
    unfold ckPar at h
    obtain ⟨_, s2, e2, h⟩ := cb_inv h
    cases h
    rw [mayD_st e2]
    exact decl_kp x st) _ _ _ _ e1
  have h2 := ckB_kp (ckS_kp ns.length) h
  rw [h2.fl, h1.fl]
theorem CX.mem {o : CR α} (h : CX ns w0 s tb o L w) : ∃ st e q, CMem ns w0 s tb st e q L w ∧ ((∃ x, o = .ok (x, st) ∧ e = 0 ∧ q = 0) ∨ (o = .error (e, q) ∧ e ≠ 0)) := by
  rcases o with ⟨e, q⟩ | ⟨x, st⟩
  · obtain ⟨h1, st, h2⟩ := h
    exact ⟨st, e, q, h2, .inr ⟨rfl, h1⟩⟩
  · exact ⟨st, 0, 0, h, .inl ⟨x, rfl, rfl, rfl⟩⟩
set_option maxHeartbeats 4000000 in
theorem mcheck_spec {src : ByteArray} {c ps lx : Nat} {K : Sl → Int → Int → Int → Sl → Sl → Sl → Int → Int → Int → World → Prop} (hc : Blk w c [.pointer (some ⟨ps, 0, none⟩)]) (hps : Blk w ps [.pointer (some ⟨lx, 0, none⟩)]) (hsz : src.size < 9223372036854775808)
    (hK : ∀ nodes root terr tpos ty ref funcs main e pos w' res, Fr 0 0 w w' → CkA src res → CkOut w.heap.size w' res nodes root terr tpos ty ref funcs main e pos → K nodes root terr tpos ty ref funcs main e pos w') : S.checkm_Checker_Check c src w K := by
  unfold S.checkm_Checker_Check
  refine newB fun w1 b1 f1 s1 => ?_
  have hcl := hc.lt
  have hpl := hps.lt
  generalize hp1 : w.heap.size = p1 at *
  refine ldP (hc.fr f1 (by omega)) rfl ?_
  refine mparse_spec (hps.fr f1 (by omega)) fun sN root terr tpos w2 tr f2 hA hout => ?_
  refine newB fun w3 b3 f3 s3 => ?_
  have hw2 := f2.le
  generalize hp7 : w2.heap.size = p7 at *
  have b1' := (b1.fr f2 (by omega)).fr f3 (by omega)
  have F3 : Fr 0 0 w w3 := (f1.trans f2).trans f3
  refine Go.Den.st1 b3 (by simp) fun v4 b4 f4 s4 => ?_
  refine Go.Den.st1 b4 (by simp) fun v5 b5 f5 s5 => ?_
  refine Go.Den.st1 b5 (by simp) fun v6 b6 f6 s6 => ?_
  refine Go.Den.st1 b6 (by simp) fun v7 b7 f7 s7 => ?_
  have f47 := ((f4.trans f5).trans f6).trans f7
  have b17 := b1'.fr f47 (by omega)
  have F7 : Fr 0 0 w v7 := (F3.any _ 1).trans f47 |>.fresh (by have := F3.le; omega) 0 0
  have hle7 := F7.le
  refine ldI b7 rfl ?_
  -- a refusal, from any world
  have refuse : ∀ (u : World) (vs : List Value) (e pos : Int), Fr 0 0 w u → Blk u p1 vs → vs.length = 10 → e ≠ 0 → CkA src (.error (e, pos)) → S.checkm_bad e pos u (fun Tree_Nodes_11 Tree_Root_12 Tree_Err_13 Tree_Pos_14 Ty_15 Ref_16 Funcs_17 Main_18 Err_19 Pos_20 w =>
    St1 w ⟨p1, 0, none⟩ (.slice Tree_Nodes_11.a Tree_Nodes_11.l Tree_Nodes_11.c) fun w =>
    St1 w ⟨p1, 1, none⟩ (.int .i64 Tree_Root_12) fun w =>
    St1 w ⟨p1, 2, none⟩ (.int .i64 Tree_Err_13) fun w =>
    St1 w ⟨p1, 3, none⟩ (.int .i64 Tree_Pos_14) fun w =>
    St1 w ⟨p1, 4, none⟩ (.slice Ty_15.a Ty_15.l Ty_15.c) fun w =>
    St1 w ⟨p1, 5, none⟩ (.slice Ref_16.a Ref_16.l Ref_16.c) fun w =>
    St1 w ⟨p1, 6, none⟩ (.slice Funcs_17.a Funcs_17.l Funcs_17.c) fun w =>
    St1 w ⟨p1, 7, none⟩ (.int .i64 Main_18) fun w =>
    St1 w ⟨p1, 8, none⟩ (.int .i64 Err_19) fun w =>
    St1 w ⟨p1, 9, none⟩ (.int .i64 Pos_20) fun w =>
    LdS w ⟨p1, 0, none⟩ fun Tree_Nodes_21 =>
    LdI .i64 w ⟨p1, 1, none⟩ fun Tree_Root_22 =>
    LdI .i64 w ⟨p1, 2, none⟩ fun Tree_Err_23 =>
    LdI .i64 w ⟨p1, 3, none⟩ fun Tree_Pos_24 =>
    LdS w ⟨p1, 4, none⟩ fun Ty_25 =>
    LdS w ⟨p1, 5, none⟩ fun Ref_26 =>
    LdS w ⟨p1, 6, none⟩ fun Funcs_27 =>
    LdI .i64 w ⟨p1, 7, none⟩ fun Main_28 =>
    LdI .i64 w ⟨p1, 8, none⟩ fun Err_29 =>
    LdI .i64 w ⟨p1, 9, none⟩ fun Pos_30 =>
    K Tree_Nodes_21 Tree_Root_22 Tree_Err_23 Tree_Pos_24 Ty_25 Ref_26 Funcs_27 Main_28 Err_29 Pos_30 w) := by
    intro u vs e pos fu bu hl hne hA
    refine mbad_spec fun u1 f1' => ?_
    have := bu.lt
    refine ans10 (bu.fr f1' (by omega)) hl fun u2 f2' => ?_
    exact hK _ _ _ _ _ _ _ _ _ _ u2 (.error (e, pos)) (((fu.trans f1').any p1 1).trans f2' |>.fresh (by omega) 0 0) hA ⟨rfl, rfl, rfl, rfl, rfl, rfl, rfl, rfl, rfl, rfl, hne⟩
  rcases tr with ⟨e0, q0⟩ | ⟨x0, i0, ns⟩
  · obtain ⟨t1, t2, t3, t4, t5⟩ := hout
    subst t3 t4
    rw [if_pos (by simpa using t5)]
    refine ldI b7 rfl (ldI b7 rfl ?_)
    exact refuse v7 _ _ _ F7 b17 rfl t5 ⟨_, hA, rfl⟩
  · obtain ⟨t1, t2, t3, t4, t5⟩ := hout
    subst t1 t2 t3
    rw [if_neg (by simp)]
    obtain ⟨good, lr, chr, segr, memr⟩ := hA.tree
    dsimp only at good chr segr memr
    have hkr : kids ns root = lr := kids_of chr segr fun y hy => ⟨(memr y hy).1, (memr y hy).2.1⟩
    have hckA : ∀ res, (match ckAll ns root src.size with | .error q => .error q | .ok (m, st) => (.ok ⟨ns, root, m, st⟩ : Except (Int × Int) Prg)) = res → CkA src res := fun res h => ⟨_, hA, h.symm⟩
    -- the nodes' block
    obtain ⟨tb, hsl, htb⟩ : ∃ tb, sN = tsl ns tb ∧ (ns.length ≠ 0 → p1 < tb ∧ tb < p7 ∧ Blk w2 tb (ns.flatMap ndV)) := by
      rcases t5 with ⟨rfl, rfl⟩ | ⟨hne, b, hb, hs, hbb⟩
      · exact ⟨0, rfl, fun h => absurd rfl h⟩
      · have h0 : ns.length ≠ 0 := fun h => hne (List.length_eq_zero_iff.1 h)
        exact ⟨b, by rw [hs, tsl, if_neg h0], fun _ => ⟨by omega, by have := hbb.lt; omega, hbb⟩⟩
    subst hsl
    have hll : (tsl ns tb).l = ns.length := by unfold tsl; split <;> simp_all
    refine join_P (fun (s : Nat) u => ∃ bty bre, Fr 0 0 w u ∧ Blk u p1 [.slice none 0 0, .int .i64 0, .int .i64 0, .int .i64 0, .slice none 0 0, .slice none 0 0, .slice none 0 0, .int .i64 0, .int .i64 0, .int .i64 0] ∧ Blk u p7 [.slice (tsl ns tb).a (tsl ns tb).l (tsl ns tb).c, .int .i64 root, .int .i64 0, .int .i64 0] ∧
        (ns.length ≠ 0 → Blk u tb (ns.flatMap ndV)) ∧ p7 < bty ∧ p7 < bre ∧ p7 < s ∧ bty ≠ bre ∧ bty ≠ s ∧ bre ≠ s ∧ Blk u s (cRec ns tb bty bre ⟨none, 0, 0⟩ ⟨none, 0, 0⟩ (cs0 ns) 0 0) ∧ Blk u bty (ints (List.replicate ns.length 0)) ∧ Blk u bre (ints (List.replicate ns.length 0))) ?_ ?_
    · rintro s u ⟨bty, bre, fu, bu1, bu7, but, o1, o2, o3, o4, o5, o6, bs, bb1, bb2⟩
      refine ldS bs rfl ?_
      dsimp only
      -- the state at the start
      refine join_W (fun u => CMem ns w s tb (cs0 ns) 0 0 [(p1, [.slice none 0 0, .int .i64 0, .int .i64 0, .int .i64 0, .slice none 0 0, .slice none 0 0, .slice none 0 0, .int .i64 0, .int .i64 0, .int .i64 0]), (p7, [.slice (tsl ns tb).a (tsl ns tb).l (tsl ns tb).c, .int .i64 root, .int .i64 0, .int .i64 0])] u) ?_ ?_
      · intro u hm
        obtain ⟨bq1, bq2, sq1, sq2, gq, _⟩ := hm.ex
        refine ldI gq.blk2 rfl ?_
        refine mheads_spec hm chr segr memr fun u1 h1 => ?_
        have ehall : ckAll ns root src.size = cb (ckL (ckHead ns) lr (cs0 ns)) fun _ st => cb (ckBodies ns st.fs.length 0 st) fun _ st => ckMain ns src.size st := by unfold ckAll; rw [hkr]
        generalize ckL (ckHead ns) lr (cs0 ns) = oh at *
        generalize hob : (cb oh fun _ st => ckBodies ns st.fs.length 0 st) = ob at *
        have ehall2 : ckAll ns root src.size = cb ob fun _ st => ckMain ns src.size st := by rw [ehall, ← hob, cb_assoc]
        refine join_W (fun u => CX ns w s tb ob [(p1, [.slice none 0 0, .int .i64 0, .int .i64 0, .int .i64 0, .slice none 0 0, .slice none 0 0, .slice none 0 0, .int .i64 0, .int .i64 0, .int .i64 0]), (p7, [.slice (tsl ns tb).a (tsl ns tb).l (tsl ns tb).c, .int .i64 root, .int .i64 0, .int .i64 0])] u) ?_ ?_
        · intro u hu
          obtain ⟨st, e2, q2, hm2, hor⟩ := hu.mem
          refine hm2.err ?_
          have Fu : ∀ {v : World} {st e q}, CMem ns w s tb st e q [(p1, [.slice none 0 0, .int .i64 0, .int .i64 0, .int .i64 0, .slice none 0 0, .slice none 0 0, .slice none 0 0, .int .i64 0, .int .i64 0, .int .i64 0]), (p7, [.slice (tsl ns tb).a (tsl ns tb).l (tsl ns tb).c, .int .i64 root, .int .i64 0, .int .i64 0])] v → Fr 0 0 w v := fun h => by
            obtain ⟨_, _, _, _, g, _⟩ := h.ex
            exact g.fr.ofR fun b h => h.elim
          rcases hor with ⟨x', rfl, rfl, rfl⟩ | ⟨rfl, hne⟩
          · rw [if_neg (by simp)]
            simp only [cb_ok] at ehall2
            refine mfn_spec (nm := mainB) hm2 fun u2 hm3 => ?_
            have hnl : (fnames st).length = st.fs.length := by simp [fnames]
            have hfl := hm3.inv.fl
            rcases nameIx_range (fnames st) mainB with hneg | ⟨hp0, hp1'⟩
            · rw [if_pos (by rw [hneg]; decide)]
              refine refuse u2 _ 20 src.size (Fu hm3) hm3.loc rfl (by decide) (hckA _ ?_)
              rw [ehall2]
              unfold ckMain
              rw [if_pos (by rw [hneg]; decide)]
            · rw [if_neg (by simpa using hp0)]
              rw [hnl] at hp1'
              have emain : ckMain ns src.size st = if (fnAt st.fs (nameIx (fnames st) mainB)).pi + (fnAt st.fs (nameIx (fnames st) mainB)).pr ≠ 0 ∨ (fnAt st.fs (nameIx (fnames st) mainB)).ret ≠ 0 then .error (20, psx ns (fnAt st.fs (nameIx (fnames st) mainB)).node) else .ok (nameIx (fnames st) mainB, st) := by
                unfold ckMain; rw [if_neg (by omega)]
              generalize nameIx (fnames st) mainB = m at *
              have hfn := mem_at hp0 hp1'
              obtain ⟨fn1, fn2, fn3⟩ := hm3.inv.fnd _ hfn
              obtain ⟨fp1, fp2, fp3⟩ := hm3.inv.fpp _ hfn
              have hne0 : ns.length ≠ 0 := by omega
              refine join_W (fun u => CMem ns w s tb st 0 0 [(p1, [.slice none 0 0, .int .i64 0, .int .i64 0, .int .i64 0, .slice none 0 0, .slice none 0 0, .slice none 0 0, .int .i64 0, .int .i64 0, .int .i64 0]), (p7, [.slice (tsl ns tb).a (tsl ns tb).l (tsl ns tb).c, .int .i64 root, .int .i64 0, .int .i64 0])] u ∧ ((fnAt st.fs m).pi + (fnAt st.fs m).pr ≠ 0 ∨ (fnAt st.fs m).ret ≠ 0)) ?_ ?_
              · rintro u ⟨hu, hbad⟩
                refine drew_ ?_
                have hu := hu.drew
                generalize u.drew = u at *
                obtain ⟨bty, bre, sfs, svs, g1, g2, g3, g4, g5, g6, g7⟩ := hu.ex
                have htb' : Blk u tb (ns.flatMap ndV) := (g1.lc (tb, ns.flatMap ndV) (by simp [tloc, hne0])).1
                refine ldS g3 rfl ?_
                refine hu.fn (k := 0) hp0 hp1' (by omega) rfl ?_
                simp only [tsl, if_neg hne0]
                refine ix rfl fn1 (by omega) ?_
                refine ldI htb' (m := (ndAt ns (fnAt st.fs m).node).pos) ?_ ?_
                · obtain ⟨m', hm'⟩ : ∃ q : Nat, (fnAt st.fs m).node = q := ⟨(fnAt st.fs m).node.toNat, by omega⟩
                  rw [Nat.zero_add, hm', Int.toNat_natCast, ndCell (by omega) (by omega)]; rfl
                refine refuse u _ 20 _ (Fu hu) hu.loc rfl (by decide) (hckA _ ?_)
                rw [ehall2, emain, if_pos hbad]
                rfl
              · intro J106 hJ106
                refine drew_ ?_
                have hm3 := hm3.drew
                generalize u2.drew = u2 at *
                refine hm3.fn (k := 2) hp0 hp1' (by omega) rfl ?_
                refine hm3.fn (k := 3) hp0 hp1' (by omega) rfl ?_
                rw [W_id (by omega) (by omega)]
                by_cases hpp : (fnAt st.fs m).pi + (fnAt st.fs m).pr ≠ 0
                · rw [if_pos (by simpa using hpp)]
                  exact hJ106 u2 ⟨hm3, .inl hpp⟩
                rw [if_neg (by simpa using hpp)]
                refine hm3.fn (k := 1) hp0 hp1' (by omega) rfl ?_
                by_cases hrr : (fnAt st.fs m).ret ≠ 0
                · rw [if_pos (by simpa using hrr)]
                  exact hJ106 u2 ⟨hm3, .inr hrr⟩
                rw [if_neg (by simpa using hrr)]
                rw [if_neg (by omega)] at emain
                -- the answer
                obtain ⟨bty, bre, sfs, svs, g1, g2, g3, g4, g5, g6, g7⟩ := hm3.ex
                have hl6 := g6.len
                rw [fns_len] at hl6
                refine ldS g3 rfl ?_
                dsimp only
                refine mkS (by omega) (by omega) (by omega) (by omega) fun u3 c3 f3' t3' => ?_
                simp only [Int.toNat_natCast] at c3 ⊢
                have g33 := g3.fr f3' (by omega)
                refine ldS g33 rfl ?_
                have g63 := g6.frp (FrP.of0 (P := fun _ => False) f3') fun _ _ h => h
                have hrl : (reps [Value.int .i64 0, .int .i64 0, .int .i64 0, .int .i64 0, .int .i64 0, .int .i64 0, .string ⟨#[]⟩] sfs.l).length = sfs.l * 7 := by rw [reps_length]; rfl
                have htl := fns_len st.fs
                have hgow := g1.ow
                rcases g63 with ⟨e1, e2⟩ | ⟨gb, d1, d2, d3, junk, d4, d5⟩
                · have := congrArg List.length e2
                  rw [htl] at this
                  simp at this
                  omega
                have hgb : gb < u2.heap.size := (hgow gb (.inr (.inr (.inr (.inl d1))))).1
                refine copyS (n := sfs.l) (us := st.fs.flatMap fnV) d4 d1 c3 rfl (show sfs.l = Nat.min sfs.l sfs.l from (Nat.min_self _).symm) (by rw [List.drop_zero, List.take_append_of_le_length (by omega), List.take_of_length_le (by omega)]) (by omega) (fns_ok st.fs) (by simp only [hrl, htl]; omega) fun u4 c4 f4' t4' => ?_
                simp only [List.take_zero, List.nil_append] at c4
                rw [List.drop_of_length_le (by simp only [hrl, htl]; omega), List.append_nil] at c4
                have FF : Fr 0 0 u2 u4 := (f3'.any _ 1).trans f4' |>.fresh (Nat.le_refl _) 0 0
                refine drew_ ?_
                have FF : Fr 0 0 u2 u4.drew := FF.drew
                have c4 := c4.drew
                have hm5 := hm3.ext FF
                generalize u4.drew = u5 at *
                obtain ⟨bty', bre', sfs', svs', k1, k2, k3, k4, k5, k6, k7⟩ := hm5.ex
                have b75 := k1.blk2
                refine ldS b75 rfl (ldI b75 rfl (ldI b75 rfl (ldI b75 rfl (ldS k3 rfl (ldS k3 rfl ?_)))))
                have hFu := Fu hm5
                have htb5 : Blk u5 tb (ns.flatMap ndV) := (k1.lc (tb, ns.flatMap ndV) (by simp [tloc, hne0])).1
                have hnw := k1.nw
                have hown := k1.ow
                have hp1n : ¬ cown s bty' bre' sfs' svs' p1 := k1.nown
                have hp1l := k1.blk.lt
                have htbl := (htb hne0).1
                have hu2l := (Fu hm3).le
                have hbp : p1 < u2.heap.size := hm3.loc.lt
                refine ans10 (a0 := tsl ns tb) (a4 := ⟨some ⟨bty', 0, none⟩, ns.length, ns.length⟩) (a5 := ⟨some ⟨bre', 0, none⟩, ns.length, ns.length⟩) (a6 := ⟨some ⟨u2.heap.size, 0, none⟩, sfs.l, sfs.l⟩) k1.blk rfl fun u6 f6' => ?_
                have nty : bty' ≠ p1 := fun e => hp1n (.inr (.inl e.symm))
                have nre : bre' ≠ p1 := fun e => hp1n (.inr (.inr (.inl e.symm)))
                refine hK _ _ _ _ _ _ _ _ _ _ u6 (.ok ⟨ns, root, m, st⟩) ((hFu.any p1 1).trans f6' |>.fresh (by omega) 0 0) (hckA _ (by rw [ehall2, emain])) ⟨rfl, rfl, rfl, rfl, rfl, rfl, hm5.inv, hm5.le, tb, bty', bre', u2.heap.size, by omega, ?_, ?_, by omega, ?_, htb5.fr f6' (by omega), rfl, k4.fr f6' (by omega), rfl, k5.fr f6' (by omega), ?_, c4.fr f6' (by omega)⟩
                · have := (hown bty' (.inr (.inl rfl))).2
                  rcases this with h | h
                  · exact h.elim
                  · omega
                · have := (hown bre' (.inr (.inr (.inl rfl)))).2
                  rcases this with h | h
                  · exact h.elim
                  · omega
                · simp only [tsl, if_neg hne0]
                · rw [show sfs.l = st.fs.length by omega]
          · rw [if_pos (by simpa using hne)]
            refine drew_ ?_
            have hm2 := hm2.drew
            generalize u.drew = u at *
            obtain ⟨_, _, _, _, b⟩ := hm2.rc
            refine ldI b rfl (ldI b rfl ?_)
            refine refuse u _ e2 q2 (Fu hm2) hm2.loc rfl hne (hckA _ ?_)
            rw [ehall2]
            rfl
        · intro J139 hJ139
          refine loopN (fun m v u => ∃ (i : Nat) (o1 : CR Unit), v = ((i : Int), ()) ∧ CX ns w s tb o1 [(p1, [.slice none 0 0, .int .i64 0, .int .i64 0, .int .i64 0, .slice none 0 0, .slice none 0 0, .slice none 0 0, .int .i64 0, .int .i64 0, .int .i64 0]), (p7, [.slice (tsl ns tb).a (tsl ns tb).l (tsl ns tb).c, .int .i64 root, .int .i64 0, .int .i64 0])] u ∧
              (∀ u' st', o1 = .ok (u', st') → i ≤ st'.fs.length ∧ m = st'.fs.length - i) ∧ i ≤ 8 ∧ ob = cb o1 fun _ st => ckBodies ns (st.fs.length - i) i st) (match oh with | .ok (_, st) => st.fs.length | .error _ => 0)
            ⟨0, oh, rfl, h1, fun u' st' e => by subst e; exact ⟨by omega, rfl⟩, by omega, hob.symm⟩ ?_
          rintro m _ u ⟨i, o1, rfl, hu, hfacts, hi8, hoe⟩ Q hQ
          dsimp only
          obtain ⟨st, e2, q2, hm2, hor⟩ := hu.mem
          obtain ⟨bty, bre, sfs, svs, g1, g2, g3, g4, g5, g6, g7⟩ := hm2.ex
          have hl6 := g6.len
          rw [fns_len] at hl6
          have hfl := hm2.inv.fl
          refine ldS g3 rfl ?_
          dsimp only
          by_cases hlt : i < st.fs.length
          · rw [if_pos (by simp only [decide_eq_true_eq]; omega)]
            refine hm2.err ?_
            rcases hor with ⟨x', rfl, rfl, rfl⟩ | ⟨rfl, hne⟩
            · rw [if_pos (by rfl)]
              obtain ⟨_, rfl⟩ := hfacts _ _ rfl
              simp only [cb_ok] at hoe
              refine mbody_spec (hds := st.fs.map Fn.node) hm2 hlt rfl fun u3 h3 => ?_
              refine let_ ?_
              rw [W_succ (by omega)]
              rw [show st.fs.length - i = (st.fs.length - (i + 1)) + 1 by omega] at hoe
              have hoe : ob = cb (ckBody ns i st) fun _ st2 => ckBodies ns (st.fs.length - (i + 1)) (i + 1) st2 := hoe
              refine hQ (match ckBody ns i st with | .ok (_, st) => st.fs.length - (i + 1) | .error _ => 0) _ u3 ?_ ⟨i + 1, ckBody ns i st, rfl, h3.x, fun u' st' e => ?_, by omega, ?_⟩
              · rcases hb : ckBody ns i st with qq | ⟨u', st'⟩
                · dsimp only; omega
                · have := ckBody_fl hb; dsimp only; omega
              · have := ckBody_fl e
                exact ⟨by omega, by rw [e]⟩
              · rw [hoe]
                refine cb_congr fun u' st' e => ?_
                rw [ckBody_fl e]
            · rw [if_neg (by simpa using hne)]
              exact hJ139 u (by rw [hoe]; exact hu)
          · rw [if_neg (by simp only [decide_eq_true_eq]; omega)]
            refine hJ139 u ?_
            rw [hoe]
            rcases hor with ⟨x', rfl, rfl, rfl⟩ | ⟨rfl, hne⟩
            · simp only [cb_ok]
              rw [show st.fs.length - i = 0 by omega]
              exact hm2
            · exact ⟨hne, st, hm2⟩
      · intro J145 hJ145
        refine loopN (fun m v u' => ∃ i : Nat, v = ((i : Int), ()) ∧ i ≤ ns.length ∧ m = ns.length - i ∧ FrP (fun b => b = bty ∨ b = bre) u u' ∧ Blk u' bty (ints (List.replicate i (-1) ++ List.replicate (ns.length - i) 0)) ∧ Blk u' bre (ints (List.replicate i (-1) ++ List.replicate (ns.length - i) 0))) ns.length
          ⟨0, rfl, by omega, by omega, FrP.refl _ _, by simpa using bb1, by simpa using bb2⟩ ?_
        rintro m _ u' ⟨i, rfl, hi, rfl, fu', c1, c2⟩ Q hQ
        dsimp only
        by_cases hlt : i < ns.length
        · rw [if_pos (by simp only [decide_eq_true_eq]; omega)]
          refine drew_ ?_
          have fu' := fu'.drew
          have c1 := c1.drew
          have c2 := c2.drew
          generalize u'.drew = u' at *
          have bs' := bs.frp fu' (by omega)
          have hset : (List.replicate i (-1 : Int) ++ List.replicate (ns.length - i) 0).set i (-1) = List.replicate (i + 1) (-1) ++ List.replicate (ns.length - (i + 1)) 0 := by
            rw [List.set_append_right _ _ (by simp), List.length_replicate, Nat.sub_self, show ns.length - i = (ns.length - (i + 1)) + 1 by omega, List.replicate_succ, List.set_cons_zero, List.replicate_succ', List.append_assoc]
            rfl
          refine ldS bs' rfl (ldS bs' rfl (ix rfl (by omega) (by dsimp only; omega) ?_))
          refine stA c1 (by simp; omega) fun u3 d3 f3' t3' => ?_
          refine ix rfl (by omega) (by dsimp only; omega) ?_
          refine stA (c2.fr f3' (by omega)) (by simp; omega) fun u4 d4 f4' t4' => ?_
          simp only [Int.toNat_natCast, hset] at d3 d4
          have hle := ns.length
          have hns : ns.length ≤ 200 := t4
          rw [W_succ (by omega)]
          refine hQ _ _ u4 (by omega) ⟨i + 1, rfl, by omega, rfl, ?_, d3.fr f4' (by omega), d4⟩
          exact (fu'.trans (FrP.of f3' fun b h1 h2 => .inl (by omega))).trans (FrP.of f4' fun b h1 h2 => .inr (by omega))
        · rw [if_neg (by simp only [decide_eq_true_eq]; omega)]
          have hii : i = ns.length := by omega
          subst hii
          rw [Nat.sub_self, List.replicate_zero, List.append_nil] at c1 c2
          refine hJ145 u' ⟨good, t4, cs0_inv ns, bty, bre, ⟨none, 0, 0⟩, ⟨none, 0, 0⟩, ⟨?_, ?_, ?_, ?_, ?_⟩, ?_, bs.frp fu' (by omega), c1, c2, OS.nil _ _, OS.nil _ _⟩
          · exact FrP.trans' (FrP.of0 fu) fu' fun b hb => .inr (by have := fu.le; omega)
          · have h1 := bb1.lt
            have h2 := bb2.lt
            have h3 := bs.lt
            have h4 := fu'.1.1
            rintro b (rfl | rfl | rfl | hb | hb)
            · exact ⟨by omega, .inr (by omega)⟩
            · exact ⟨by omega, .inr (by omega)⟩
            · exact ⟨by omega, .inr (by omega)⟩
            · simp [owns] at hb
            · simp [owns] at hb
          · intro q hq
            simp only [List.cons_append, List.nil_append, List.mem_cons] at hq
            have hno : ∀ b, b ≠ s → b ≠ bty → b ≠ bre → ¬ cown s bty bre ⟨none, 0, 0⟩ ⟨none, 0, 0⟩ b := by
              rintro b h1 h2 h3 (h | h | h | h | h)
              · exact h1 h
              · exact h2 h
              · exact h3 h
              · simp [owns] at h
              · simp [owns] at h
            rcases hq with rfl | rfl | hq
            · exact ⟨bu1.frp fu' (by omega), hno _ (by dsimp only; omega) (by dsimp only; omega) (by dsimp only; omega)⟩
            · exact ⟨bu7.frp fu' (by omega), hno _ (by dsimp only; omega) (by dsimp only; omega) (by dsimp only; omega)⟩
            · unfold tloc at hq
              split at hq
              · cases hq
              · rename_i h0
                simp only [List.mem_singleton] at hq
                subst hq
                obtain ⟨t1, t2, _⟩ := htb h0
                exact ⟨(but h0).frp fu' (by omega), hno _ (by dsimp only; omega) (by dsimp only; omega) (by dsimp only; omega)⟩
          · intro q hq
            simp only [List.cons_append, List.nil_append, List.mem_cons] at hq
            rcases hq with rfl | rfl | hq
            · exact .inr (by dsimp only; omega)
            · exact .inr (by dsimp only; omega)
            · unfold tloc at hq
              split at hq
              · cases hq
              · rename_i h0
                simp only [List.mem_singleton] at hq
                subst hq
                obtain ⟨t1, t2, _⟩ := htb h0
                exact .inr (by dsimp only; omega)
          · unfold tloc
            split
            · simp only [List.append_nil, List.pairwise_cons, List.mem_cons, List.not_mem_nil, or_false, forall_eq, List.Pairwise.nil, and_true, false_implies, implies_true]
              omega
            · rename_i h0
              obtain ⟨t1, t2, _⟩ := htb h0
              simp only [List.cons_append, List.nil_append, List.pairwise_cons, List.mem_cons, List.not_mem_nil, or_false, forall_eq_or_imp, forall_eq, List.Pairwise.nil, and_true, false_implies, implies_true]
              omega
          · refine ⟨o4, o5, o6, ?_, ?_, ?_, ?_, ?_, ?_, ?_⟩ <;> simp [owns]
    · intro J154 hJ154
      refine drew_ ?_
      have b7 := b7.drew
      have b17 := b17.drew
      have F7 := F7.drew
      have btb : ns.length ≠ 0 → Blk v7.drew tb (ns.flatMap ndV) := fun h => by
        obtain ⟨h1, h2, h3⟩ := htb h
        exact ((h3.fr f3 (by omega)).fr f47 (by omega)).drew
      have hsz7 : p7 < v7.drew.heap.size := b7.lt
      generalize v7.drew = v7 at *
      refine ldS b7 rfl (ldS b7 rfl (ldS b7 rfl ?_))
      dsimp only
      rw [hll]
      refine ⟨?_, ?_⟩
      · refine mkS (by omega) (by omega) (by omega) (by omega) fun u1 c1 g1 z1 => ?_
        have b71 := b7.fr g1 (by omega)
        refine ⟨held b7 b71, held b7 b71, ?_⟩
        refine mkS (by omega) (by omega) (by omega) (by omega) fun u2 c2 g2 z2 => ?_
        have b72 := b71.fr g2 (by omega)
        refine ⟨held b7 b72, held b7 b72, ?_⟩
        refine newB fun u3 c3 g3 z3 => ?_
        simp only [Int.toNat_natCast, reps_ints] at c1 c2 c3 ⊢
        refine hJ154 _ u3 ⟨v7.heap.size, u1.heap.size, ((F7.trans g1).trans g2).trans g3, ((b17.fr g1 (by omega)).fr g2 (by omega)).fr g3 (by omega), b72.fr g3 (by omega), fun h => (((btb h).fr g1 (by omega)).fr g2 (by omega)).fr g3 (by omega), by omega, by omega, by omega, by omega, by omega, by omega, ?_, (c1.fr g2 (by omega)).fr g3 (by omega), c2.fr g3 (by omega)⟩
        unfold cRec; rw [hll]; exact c3
      · refine mkS (by omega) (by omega) (by omega) (by omega) fun u1 c1 g1 z1 => ?_
        have b71 := b7.fr g1 (by omega)
        refine ⟨held b7 b71, held b7 b71, ?_⟩
        refine mkS (by omega) (by omega) (by omega) (by omega) fun u2 c2 g2 z2 => ?_
        have b72 := b71.fr g2 (by omega)
        refine ⟨held b7 b72, held b7 b72, ?_⟩
        refine newB fun u3 c3 g3 z3 => ?_
        simp only [Int.toNat_natCast, reps_ints] at c1 c2 c3 ⊢
        refine hJ154 _ u3 ⟨u1.heap.size, v7.heap.size, ((F7.trans g1).trans g2).trans g3, ((b17.fr g1 (by omega)).fr g2 (by omega)).fr g3 (by omega), b72.fr g3 (by omega), fun h => (((btb h).fr g1 (by omega)).fr g2 (by omega)).fr g3 (by omega), by omega, by omega, by omega, by omega, by omega, by omega, ?_, c2.fr g3 (by omega), (c1.fr g2 (by omega)).fr g3 (by omega)⟩
        unfold cRec; rw [hll]; exact c3
end Go.Proofs.Qxb6500562aGreat
