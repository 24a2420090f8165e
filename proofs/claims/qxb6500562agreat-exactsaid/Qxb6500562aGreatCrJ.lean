/-
  The real checker: Check, New.
-/
import Derived.Test.Qxb6500562aGreatCrI
namespace Go.Proofs.Qxb6500562aGreat
open Go.Den Go.Zip
set_option linter.unusedVariables false
set_option linter.unusedSimpArgs false
variable {α β : Type} {ns : List Nd} {w0 w w' : World} {P : Nat → Prop} {c ps tb p ar lx g : Nat} {st : CS} {L : List (Nat × List Value)} {vs : List Value}

def outs (nodes ty ref funcs : Sl) (b : Nat) : Prop := owns nodes b ∨ owns ty b ∨ owns ref b ∨ owns funcs b
theorem owns_none (b : Nat) : ¬ owns ⟨none, 0, 0⟩ b := fun h => by simp [owns] at h
theorem owns_some {q n m b : Nat} (h : owns ⟨some ⟨q, 0, none⟩, n, m⟩ b) : b = q := by
  unfold owns at h
  injection h with h1
  injection h1 with h2
  exact h2.symm
set_option maxHeartbeats 4000000 in
theorem rcheck_spec {src : ByteArray} {K : Sl → Int → Int → Int → Sl → Sl → Sl → Int → Int → Int → World → Prop} (h : CKE w c ps ar lx g) (hsz : src.size < 9223372036854775808)
    (hK : ∀ nodes root terr tpos ty ref funcs main e pos w' g' res, CKE w' c ps ar lx g' → FrP (co c ps ar lx g) w w' → (g' = g ∨ w.heap.size ≤ g') → CkA src res → CkOut w.heap.size w' res nodes root terr tpos ty ref funcs main e pos → (∀ b, outs nodes ty ref funcs b → b ≠ g') → K nodes root terr tpos ty ref funcs main e pos w') :
    S.check_Checker_Check c src w K := by
  unfold S.check_Checker_Check
  have hlt := h.lt
  obtain ⟨f0, hc, hf0⟩ := h.rc
  have hcl := hc.lt
  have hnc := h.ne
  refine newB fun w1 b1 f1 s1 => ?_
  have b1 : Blk w1 w.heap.size z10 := b1
  have hc1 := hc.fr f1 (by omega)
  refine ldP hc1 (by rw [tab_get (by omega), hf0]) ?_
  have hpa1 : PAE w1 ps ar lx g := h.pa.frp (FrP.of0 (P := fun _ => False) f1) fun _ _ h => h
  refine rparse_spec hpa1 fun sN root terr tpos w2 g' tr hpa2 f2 hg' hA hout hog => ?_
  generalize hp1 : w.heap.size = p1 at *
  have hlt' : ∀ b, po ps ar lx g b → b < p1 := fun b hb => hlt b (.inr hb)
  have hg1 : g' = g ∨ p1 < g' := by rcases hg' with h | h; exact .inl h; exact .inr (by omega)
  have hgl : g < p1 := hlt' g (.inr (.inr (.inr rfl)))
  have hpl2 := hpa2.lt
  have hle2 := f2.1.1
  refine newB fun w3 b3 f3 s3 => ?_
  generalize hp7 : w2.heap.size = p7 at *
  have hgl7 : g' < p7 := hpl2 g' (.inr (.inr (.inr rfl)))
  refine Go.Den.st1 b3 (by simp) fun v4 b4 f4 s4 => ?_
  refine Go.Den.st1 b4 (by simp) fun v5 b5 f5 s5 => ?_
  refine Go.Den.st1 b5 (by simp) fun v6 b6 f6 s6 => ?_
  refine Go.Den.st1 b6 (by simp) fun v7 b7 f7 s7 => ?_
  have f47 := ((f4.trans f5).trans f6).trans f7
  have F37 : Fr 0 0 w2 v7 := (f3.any _ 1).trans f47 |>.fresh (by omega) 0 0
  have hv7 : v7.heap.size = p7 + 1 := by omega
  have b17 : Blk v7 p1 z10 := (b1.frp f2 (fun hb => by have := hlt' p1 hb; omega)).fr F37 (by omega)
  have hc7 : Blk v7 c (tab 420 f0) := (hc1.frp f2 hnc).fr F37 (by omega)
  have hpa7 : PAE v7 ps ar lx g' := hpa2.frp (FrP.of0 (P := fun _ => False) F37) fun _ _ h => h
  have F7 : FrP (co c ps ar lx g) w v7 := by
    refine FrP.trans' (FrP.trans' (FrP.of0 f1) f2 fun b hb => .inl (.inr hb)) (FrP.of0 (P := fun _ => False) F37) fun b hb => hb.elim
  have hne2 : ∀ b, po ps ar lx g' b → b ≠ c := by
    rintro b hb rfl
    rcases hb with h | h | h | h
    · exact hnc (.inl h)
    · exact hnc (.inr (.inl h))
    · exact hnc (.inr (.inr (.inl h)))
    · rcases hg1 with h2 | h2
      · exact hnc (.inr (.inr (.inr (by rw [h, h2]))))
      · omega
  have hpo3 : ∀ b, po ps ar lx g' b → b < p1 ∨ b = g' := by
    rintro b (rfl | rfl | rfl | rfl)
    · exact .inl (hlt' _ (.inl rfl))
    · exact .inl (hlt' _ (.inr (.inl rfl)))
    · exact .inl (hlt' _ (.inr (.inr (.inl rfl))))
    · exact .inr rfl
  -- the end
  have fin : ∀ (Q : Nat → Prop) (u : World) nodes root terr tpos ty ref funcs main e pos res, FrP Q v7 u → (∀ b, Q b → b = c ∨ (p1 ≤ b ∧ b ≠ g')) → (∃ f, Blk u c (tab 420 f) ∧ f 0 = .pointer (some ⟨ps, 0, none⟩)) → CkA src res → CkOut p1 u res nodes root terr tpos ty ref funcs main e pos → (∀ b, outs nodes ty ref funcs b → b ≠ g') → K nodes root terr tpos ty ref funcs main e pos u := by
    intro Q u nodes root terr tpos ty ref funcs main e pos res FQ hQ hcu hA hO hg
    refine hK nodes root terr tpos ty ref funcs main e pos u g' res ⟨hcu, hpa7.frp FQ fun b hb hq => ?_, fun hp => hne2 c hp rfl⟩ (FrP.trans' F7 FQ fun b hb => ?_) (by rcases hg1 with h | h; exact .inl h; exact .inr (by omega)) hA hO hg
    · rcases hQ b hq with h | ⟨h1, h2⟩
      · exact hne2 b hb h
      · rcases hpo3 b hb with h3 | h3
        · omega
        · exact h2 h3
    · rcases hQ b hb with h | ⟨h1, h2⟩
      · exact .inl (.inl h)
      · exact .inr (by omega)
  refine ldI b7 rfl ?_
  rcases tr with ⟨e0, q0⟩ | ⟨x0, i0, ns⟩
  · obtain ⟨t1, t2, t3, t4, t5⟩ := hout
    subst t3 t4
    rw [if_pos (by simpa using t5)]
    refine ldI b7 rfl (ldI b7 rfl ?_)
    refine rrefused_spec fun u1 f1' => ?_
    refine ans10 (b17.fr f1' (by omega)) rfl fun u2 f2' => ?_
    refine fin (fun b => b = p1) u2 _ _ _ _ _ _ _ _ _ _ (.error (terr, tpos)) (FrP.trans' (FrP.of0 f1') (FrP.of (P := fun b => b = p1) f2' fun b h1 h2 => by omega) fun b hb => .inl hb) (fun b hb => .inr ⟨by omega, by omega⟩) ⟨f0, (hc7.fr f1' (by omega)).fr f2' (by omega), hf0⟩ ⟨_, hA, rfl⟩ ⟨rfl, rfl, rfl, rfl, rfl, rfl, rfl, rfl, rfl, rfl, t5⟩ ?_
    rintro b (h | h | h | h) <;> exact absurd h (owns_none b)
  obtain ⟨t1, t2, t3, t4, t5⟩ := hout
  subst t1 t2 t3
  rw [if_neg (by simp)]
  obtain ⟨good, lr, chr, segr, memr⟩ := hA.tree
  dsimp only at good chr segr memr
  have hkr : kids ns root = lr := kids_of chr segr fun y hy => ⟨(memr y hy).1, (memr y hy).2.1⟩
  have hckA : ∀ res, (match ckAll ns root src.size with | .error q => .error q | .ok (m, st) => (.ok ⟨ns, root, m, st⟩ : Except (Int × Int) Prg)) = res → CkA src res := fun res h => ⟨_, hA, h.symm⟩
  -- the nodes' block
  obtain ⟨tb, hsl, htb⟩ : ∃ tb, sN = tsl ns tb ∧ (ns.length ≠ 0 → p1 < tb ∧ tb < p7 ∧ tb ≠ g' ∧ Blk w2 tb (ns.flatMap ndV)) := by
    rcases t5 with ⟨rfl, rfl⟩ | ⟨hne, b, hb, hs, hbb⟩
    · exact ⟨0, rfl, fun h => absurd rfl h⟩
    · have h0 : ns.length ≠ 0 := fun h => hne (List.length_eq_zero_iff.1 h)
      refine ⟨b, by rw [hs, tsl, if_neg h0], fun _ => ⟨by omega, by have := hbb.lt; omega, hog b (by rw [hs]; rfl), hbb⟩⟩
  subst hsl
  have hll : (tsl ns tb).l = ns.length := by unfold tsl; split <;> simp_all
  have htb7 : ns.length ≠ 0 → Blk v7 tb (ns.flatMap ndV) := fun h0 => (htb h0).2.2.2.fr F37 (by omega)
  refine rclear_spec hc7 fun w8 fA bA FA e0 tA1 tA2 eA1 eA2 eA3 eA4 => ?_
  have b78 := b7.fr FA (by omega)
  refine ldS b78 rfl ?_
  refine stF bA (by omega) fun w9 bB FB _ => ?_
  have b79 := b78.fr FB (by omega)
  refine ldS b79 rfl ?_
  dsimp only
  rw [hll]
  refine mkS (by omega) (by omega) (by omega) (by omega) fun w10 cty f10 z10' => ?_
  have b710 := b79.fr f10 (by omega)
  have hle9 := FA.le
  have hle9' := FB.le
  have hbtyge : p7 < w9.heap.size := by omega
  generalize hbty : w9.heap.size = bty at *
  refine stF (bB.fr f10 (by omega)) (by omega) fun w11 bC FC _ => ?_
  have b711 := b710.fr FC (by omega)
  refine ldS b711 rfl ?_
  dsimp only
  rw [hll]
  refine mkS (by omega) (by omega) (by omega) (by omega) fun w12 cre f12 z12' => ?_
  have b712 := b711.fr f12 (by omega)
  have hle11 := FC.le
  have hbrege : bty < w11.heap.size := by omega
  generalize hbre : w11.heap.size = bre at *
  refine stF (bC.fr f12 (by omega)) (by omega) fun w13 bD FD _ => ?_
  have b713 := b712.fr FD (by omega)
  simp only [Int.toNat_natCast, reps_ints] at cty cre
  have cty13 := ((cty.fr FC (by omega)).fr f12 (by omega)).fr FD (by omega)
  have cre13 := cre.fr FD (by omega)
  have hle13 := FD.le
  have F13 : FrP (fun b => b = c) v7 w13 := by
    have k1 : FrP (fun b => b = c) v7 w9 := FrP.of (FA.trans FB) fun b h1 h2 => by omega
    have k2 : FrP (fun b => b = c) v7 w11 := FrP.trans' (FrP.trans' k1 (FrP.of0 (P := fun _ => False) f10) fun b hb => hb.elim) (FrP.of (P := fun b => b = c) FC fun b h1 h2 => by omega) fun b hb => .inl hb
    exact FrP.trans' (FrP.trans' k2 (FrP.of0 (P := fun _ => False) f12) fun b hb => hb.elim) (FrP.of (P := fun b => b = c) FD fun b h1 h2 => by omega) fun b hb => .inl hb
  let P7 : Nat → Prop := fun b => b = c ∨ b = p1 ∨ b = p7 ∨ (ns.length ≠ 0 ∧ b = tb)
  have hP7 : ∀ b, P7 b → b = c ∨ (p1 ≤ b ∧ b ≠ g') := by
    rintro b (h | h | h | ⟨h0, h⟩)
    · exact .inl h
    · exact .inr ⟨by omega, by omega⟩
    · exact .inr ⟨by omega, by omega⟩
    · obtain ⟨q1, q2, q3, _⟩ := htb h0
      exact .inr ⟨by omega, by rw [h]; exact q3⟩
  let row4 : List Value := [.slice (tsl ns tb).a (tsl ns tb).l (tsl ns tb).c, .int .i64 root, .int .i64 0, .int .i64 0]
  have hRI : RI (fset (fset (fset fA 415 (.slice (tsl ns tb).a (tsl ns tb).l (tsl ns tb).c)) 416 (.slice (some ⟨bty, 0, none⟩) ns.length ns.length)) 417 (.slice (some ⟨bre, 0, none⟩) ns.length ns.length)) ns ps tb bty bre (cs0 ns) := by
    have e : ∀ j, j < 415 → (fset (fset (fset fA 415 (.slice (tsl ns tb).a (tsl ns tb).l (tsl ns tb).c)) 416 (.slice (some ⟨bty, 0, none⟩) ns.length ns.length)) 417 (.slice (some ⟨bre, 0, none⟩) ns.length ns.length)) j = fA j := fun j hj => by
      rw [fset_ne (by omega), fset_ne (by omega), fset_ne (by omega)]
    refine ⟨by rw [e _ (by omega), e0, hf0], tA1.congr fun j h1 h2 => e j (by omega), fun k hk => (by simp [cs0] at hk), by rw [e _ (by omega), eA1]; rfl, by rw [e _ (by omega), eA2]; rfl, by rw [e _ (by omega), eA3]; rfl, tA2.congr fun j h1 h2 => e j (by omega), fun i k hi => (by simp [cs0] at hi), fun i k t hi => (by simp [cs0] at hi),
      by rw [e _ (by omega), eA4]; rfl, by rw [fset_ne (by omega), fset_ne (by omega), fset_eq], by rw [fset_ne (by omega), fset_eq], by rw [fset_eq], ⟨by simp [cs0], fun v hv => (by simp [cs0] at hv)⟩⟩
  refine join_W (fun u => CQ ns v7 P7 c ps tb (cs0 ns) [(p1, z10), (p7, row4)] u) ?_ ?_
  · intro u hq0
    have hple : p7 < u.heap.size := (hq0.mem (q := (p7, row4)) (by simp)).lt
    refine newB fun u1 c1 g1 z1 => ?_
    have hq1 : CQ ns v7 P7 c ps tb (cs0 ns) [(u.heap.size, z10), (p1, z10), (p7, row4)] u1 := hq0.new g1 (Nat.le_refl _) c1
    generalize hp36 : u.heap.size = p36 at *
    have h36 : p7 < p36 := hple
    refine ldI (hq1.mem (q := (p7, row4)) (by simp)) rfl ?_
    have ehall : ckAll ns root src.size = cb (ckL (ckHead ns) lr (cs0 ns)) fun _ st => cb (ckBodies ns st.fs.length 0 st) fun _ st => ckMain ns src.size st := by unfold ckAll; rw [hkr]
    refine rheads_spec hq1 chr segr memr fun r38 u2 q2 r2 => ?_
    have L3 : True := trivial
    -- behind the bodies
    refine join_P (fun (fine : Bool) u => (fine = true ∧ ∃ st', ckAll ns root src.size = ckMain ns src.size st' ∧ CInv ns st' ∧ CQ ns v7 P7 c ps tb (clr st') [(p36, z10), (p1, z10), (p7, row4)] u) ∨ (fine = false ∧ ∃ e q, ckAll ns root src.size = .error (e, q) ∧ CFl ns v7 P7 c ps tb e q [(p36, z10), (p1, z10), (p7, row4)] u)) ?_ ?_
    · intro fine u3 hu3
      -- behind main
      refine join_P (fun (fine : Bool) u => (fine = true ∧ ∃ st' m, ckAll ns root src.size = .ok (m, st') ∧ m = nameIx (fnames st') mainB ∧ CInv ns st' ∧ CQ ns v7 P7 c ps tb (clr st') [(p36, z10), (p1, z10), (p7, row4)] u) ∨ (fine = false ∧ ∃ e q, ckAll ns root src.size = .error (e, q) ∧ CFl ns v7 P7 c ps tb e q [(p36, z10), (p1, z10), (p7, row4)] u)) ?_ ?_
      · intro fine u4 hu4
        refine join_W (fun u => ∃ f nodes root' terr tpos ty ref funcs main e pos res, Blk u c (tab 420 f) ∧ f 0 = .pointer (some ⟨ps, 0, none⟩) ∧ Blk u p36 (row10 nodes root' terr tpos ty ref funcs main e pos) ∧ Blk u p1 z10 ∧ FrP P7 v7 u ∧ CkA src res ∧ (∀ u', FrP (fun b => b = c ∨ b = p1) u u' → CkOut p1 u' res nodes root' terr tpos ty ref funcs main e pos) ∧ (∀ b, outs nodes ty ref funcs b → b ≠ g')) ?_ ?_
        · rintro u5 ⟨f, nodes, root', terr, tpos, ty, ref, funcs, main, e, pos, res, k1, k2, k3, k4, k5, k6, k7, k8⟩
          refine stF k1 (by omega) fun u6 d6 F6 _ => stF d6 (by omega) fun u7 d7 F7' _ => stF d7 (by omega) fun u8 d8 F8 _ => ?_
          have F68 := (F6.trans F7').trans F8
          have k38 := k3.fr F68 (by omega)
          refine ldS k38 rfl (ldI k38 rfl (ldI k38 rfl (ldI k38 rfl (ldS k38 rfl (ldS k38 rfl (ldS k38 rfl (ldI k38 rfl (ldI k38 rfl (ldI k38 rfl ?_)))))))))
          refine ans10 (k4.fr F68 (by omega)) rfl fun u9 f9 => ?_
          have G9 : FrP (fun b => b = c ∨ b = p1) u5 u9 := (FrP.of F68 fun b h1 h2 => .inl (by omega)).trans (FrP.of f9 fun b h1 h2 => .inr (by omega))
          refine fin P7 u9 _ _ _ _ _ _ _ _ _ _ res (FrP.trans' k5 G9 fun b hb => .inl ?_) hP7 ⟨_, d8.fr f9 (by omega), ?_⟩ k6 (k7 u9 G9) k8
          · rcases hb with h | h
            · exact .inl h
            · exact .inr (.inl h)
          · rw [fset_ne (by omega), fset_ne (by omega), fset_ne (by omega)]; exact k2
        · intro J61 hJ61
          rcases hu4 with ⟨rfl, st', m, hall, hm, hci, hq⟩ | ⟨rfl, e, q, hall, hq⟩
          · rw [if_pos rfl]
            refine hq.nfs ?_
            have hfl : (clr st').fs.length ≤ 8 := hq.inv.fl
            refine mkS (by omega) (by omega) (by omega) (by omega) fun u5 cf f5 z5 => ?_
            simp only [Int.toNat_natCast] at cf ⊢
            have hq5 : CQ ns v7 P7 c ps tb (clr st') [(u4.heap.size, reps z7 (clr st').fs.length), (p36, z10), (p1, z10), (p7, row4)] u5 := hq.new f5 (Nat.le_refl _) cf
            have hp36l : p36 < u4.heap.size := (hq.mem (q := (p36, z10)) (by simp)).lt
            generalize hbf : u4.heap.size = bf at *
            refine join_W (fun u => CQ ns v7 P7 c ps tb (clr st') [(bf, (clr st').fs.flatMap fnV), (p36, z10), (p1, z10), (p7, row4)] u) ?_ ?_
            · intro u6 hq6
              refine ffind (nm := mainB) hq6 (by decide) fun u7 hq7 => ?_
              refine drew_ ?_
              have hq7 := hq7.drew
              generalize u7.drew = u7 at *
              have b77 := hq7.mem (q := (p7, row4)) (by simp)
              refine ldS b77 rfl (ldI b77 rfl (ldI b77 rfl (ldI b77 rfl ?_)))
              obtain ⟨f, bty', bre', g1', ⟨n1, n2, n3⟩, g3, g4, g5, g6⟩ := hq7.ex
              refine ldFL g3 (by omega) g4.ty (ldFL g3 (by omega) g4.rf ?_)
              have hno : ∀ q, q ∈ [(bf, (clr st').fs.flatMap fnV), (p36, z10), (p1, z10), (p7, row4)] ++ tloc ns tb → ¬ cow c bty' bre' q.1 := fun q hq => (g1'.lc q hq).2
              have h36n := hno (p36, z10) (by simp)
              have h1n := hno (p1, z10) (by simp)
              have hbfn := hno (bf, (clr st').fs.flatMap fnV) (by simp)
              have own1 := g1'.ow bty' (.inr (.inl rfl))
              have own2 := g1'.ow bre' (.inr (.inr rfl))
              have e1 : p36 ≠ c ∧ p36 ≠ bty' ∧ p36 ≠ bre' := ⟨fun e => h36n (.inl e), fun e => h36n (.inr (.inl e)), fun e => h36n (.inr (.inr e))⟩
              have e2 : p1 ≠ bty' ∧ p1 ≠ bre' := ⟨fun e => h1n (.inr (.inl e)), fun e => h1n (.inr (.inr e))⟩
              have e3 : bf ≠ c := fun e => hbfn (.inl e)
              have bff := hq7.mem (q := (bf, (clr st').fs.flatMap fnV)) (by simp)
              have b36 := hq7.mem (q := (p36, z10)) (by simp)
              have b17' := hq7.mem (q := (p1, z10)) (by simp)
              have hnl : (fnames st').length = st'.fs.length := by simp [fnames]
              have hne0 : ns.length ≠ 0 := by
                intro h0
                have hmr := nameIx_range (fnames st') mainB
                rw [← hm] at hmr
                -- the main function's node
                obtain ⟨hs, hm2⟩ : True ∧ True := ⟨trivial, trivial⟩
                rcases hmr with hmr | ⟨hmr, hmr2⟩
                · have hall' : ckAll ns root src.size = .ok (m, st') := hall
                  obtain ⟨_, s1, _, hall'⟩ := cb_inv (ehall ▸ hall' : cb (ckL (ckHead ns) lr (cs0 ns)) _ = .ok (m, st'))
                  obtain ⟨_, s2, _, hall'⟩ := cb_inv hall'
                  have hs2 := (ckMain_ok hall').1
                  subst hs2
                  unfold ckMain at hall'
                  rw [← hm, if_pos (by omega)] at hall'
                  cases hall'
                · have := hci.fnd _ (mem_at hmr (by rw [hnl] at hmr2; exact hmr2))
                  omega
              obtain ⟨tb1, tb2, tb3, _⟩ := htb hne0
              have btb := (g1'.lc (tb, ns.flatMap ndV) (by simp [tloc, hne0])).1
              have hstb := hno (tb, ns.flatMap ndV) (by simp [tloc, hne0])
              have hown : ∀ b, (b = bty' ∨ b = bre') → p7 < b ∧ b ≠ g' := by
                intro b hb
                have hob : P7 b ∨ v7.heap.size ≤ b := by rcases hb with rfl | rfl; exact own1.2; exact own2.2
                have hbc : b ≠ c := by rcases hb with rfl | rfl; exact n2; exact n3
                have hb1 : b ≠ p1 := by rcases hb with rfl | rfl; exact fun e => e2.1 e.symm; exact fun e => e2.2 e.symm
                have hb7 : b ≠ p7 := fun e => hno (p7, row4) (by simp) (by rcases hb with h | h; exact .inr (.inl (by rw [← e]; exact h)); exact .inr (.inr (by rw [← e]; exact h)))
                have hbt : b ≠ tb := fun e => hstb (by rcases hb with h | h; exact .inr (.inl (by rw [← e]; exact h)); exact .inr (.inr (by rw [← e]; exact h)))
                rcases hob with (h | h | h | ⟨_, h⟩) | h
                · exact absurd h hbc
                · exact absurd h hb1
                · exact absurd h hb7
                · exact absurd h hbt
                · exact ⟨by omega, by omega⟩
              have hty := hown bty' (.inl rfl)
              have hre := hown bre' (.inr rfl)
              have hm' : nameIx (fnames (clr st')) mainB = m := hm.symm
              refine set10 (a0 := tsl ns tb) (a4 := ⟨some ⟨bty', 0, none⟩, ns.length, ns.length⟩) (a5 := ⟨some ⟨bre', 0, none⟩, ns.length, ns.length⟩) (a6 := ⟨some ⟨bf, 0, none⟩, (clr st').fs.length, (clr st').fs.length⟩) b36 rfl fun u8 c8 f8 => ?_
              refine hJ61 u8 ⟨f, tsl ns tb, root, 0, 0, _, _, _, _, 0, 0, .ok ⟨ns, root, m, st'⟩, g3.fr f8 (by omega), g4.ps, c8, b17'.fr f8 (by omega), FrP.trans' g1'.fr (FrP.of (P := fun b => b = p36) f8 fun b h1 h2 => by omega) fun b hb => .inr (by omega), hckA _ (by rw [hall]), fun u' fu' => ?_, ?_⟩
              · refine ⟨rfl, rfl, rfl, hm', rfl, rfl, hci, t4, tb, bty', bre', bf, by omega, by omega, by omega, by omega, by simp only [tsl, if_neg hne0], (btb.fr f8 (by omega)).frp fu' (by rintro (h | h); exact hstb (.inl h); omega), rfl, (g5.fr f8 (by omega)).frp fu' (by rintro (h | h); exact n2 h; omega), rfl, (g6.fr f8 (by omega)).frp fu' (by rintro (h | h); exact n3 h; omega), rfl, (bff.fr f8 (by dsimp only; omega)).frp fu' (by rintro (h | h); exact e3 h; omega)⟩
              · rintro b (h | h | h | h)
                · rw [tsl, if_neg hne0] at h
                  rw [owns_some h]; exact tb3
                · rw [owns_some h]; exact hty.2
                · rw [owns_some h]; exact hre.2
                · rw [owns_some h]; omega
            · intro J71 hJ71
              exact rcopy_spec hq5 fun u6 h6 => hJ71 u6 h6
          · rw [if_neg (by decide)]
            refine drew_ ?_
            have hb36 := (hq.mem (q := (p36, z10)) (by simp)).drew
            have hb1 := (hq.mem (q := (p1, z10)) (by simp)).drew
            obtain ⟨hne, f, bty', bre', g1', n1, g3, g4, g5, g6⟩ := hq
            have hpn := (g1'.lc (p36, z10) (by simp)).2
            have e1 : p36 ≠ c := fun e => hpn (.inl e)
            have g3 := g3.drew
            have g1' := g1'.drew
            generalize u4.drew = u4 at *
            refine ldF g3 (by omega) g5 (ldF g3 (by omega) g6 ?_)
            refine rrefused_spec fun u5 f5 => ?_
            have h36l := hb36.lt
            have h1l := hb1.lt
            have h3l := g3.lt
            dsimp only at h36l h1l
            refine set10 (a0 := ⟨none, 0, 0⟩) (a4 := ⟨none, 0, 0⟩) (a5 := ⟨none, 0, 0⟩) (a6 := ⟨none, 0, 0⟩) (hb36.fr f5 (by omega)) rfl fun u6 c6 f6' => ?_
            refine hJ61 u6 ⟨f, _, _, _, _, _, _, _, _, _, _, .error (e, q), (g3.fr f5 (by omega)).fr f6' (by omega), g4, c6, (hb1.fr f5 (by omega)).fr f6' (by dsimp only; omega), FrP.trans' (FrP.trans' g1'.fr (FrP.of0 (P := fun _ => False) f5) fun b hb => hb.elim) (FrP.of (P := fun b => b = p36) f6' fun b h1 h2 => by omega) fun b hb => .inr (by omega), hckA _ (by rw [hall]), fun u' fu' => ⟨rfl, rfl, rfl, rfl, rfl, rfl, rfl, rfl, rfl, rfl, hne⟩, ?_⟩
            rintro b (h | h | h | h) <;> exact absurd h (owns_none b)
      · intro J97 hJ97
        rcases hu3 with ⟨rfl, st', hall, hci, hq⟩ | ⟨rfl, e, q, hall, hq⟩
        · rw [if_pos rfl]
          have hclr := ckMain_clr ns src.size st'
          refine rmain_spec (len := src.size) hq (fun w' m hm h' => ?_) (fun w' e q hm h' => ?_)
          · rw [hm] at hclr
            cases hx : ckMain ns src.size st' with
            | error q => rw [hx] at hclr; cases hclr
            | ok tt =>
              obtain ⟨m', s'⟩ := tt
              obtain ⟨es, em⟩ := ckMain_ok hx
              subst es
              exact hJ97 true w' (.inl ⟨rfl, s', m', by rw [hall, hx], em, hci, h'⟩)
          · rw [hm] at hclr
            cases hx : ckMain ns src.size st' with
            | error q' =>
              rw [hx] at hclr
              injection hclr with hclr
              subst hclr
              exact hJ97 false w' (.inr ⟨rfl, e, q, by rw [hall, hx], h'⟩)
            | ok tt => rw [hx] at hclr; cases hclr
        · rw [if_neg (by decide)]
          exact hJ97 false u3 (.inr ⟨rfl, e, q, hall, hq⟩)
    · intro J99 hJ99
      cases hv : ckL (ckHead ns) lr (cs0 ns) with
      | error q =>
        rw [hv] at q2
        rw [hv] at ehall
        rw [r2.ff hv, if_neg (by decide)]
        exact hJ99 false u2 (.inr ⟨rfl, q.1, q.2, ehall, q2⟩)
      | ok tt =>
        obtain ⟨⟨⟩, s2⟩ := tt
        obtain ⟨k1, k2⟩ := heads_keep _ _ _ _ hv
        rw [hv] at q2
        rw [hv, cb_ok] at ehall
        rw [r2.tt hv, if_pos rfl]
        have q2 : CQ ns v7 P7 c ps tb s2 [(p36, z10), (p1, z10), (p7, row4)] u2 := q2
        have e2 : clr s2 = s2 := by
          unfold clr
          have k1 : s2.vs = [] := k1
          have k2 : s2.lev = 0 := k2
          rw [← k1, ← k2]
        refine rbodies_spec (st := s2) (by rw [e2]; exact q2) q2.inv (fun w' st' hb hci h' => ?_) (fun w' e q hb h' => ?_)
        · rw [hb, cb_ok] at ehall
          exact hJ99 true w' (.inl ⟨rfl, st', ehall, hci, h'⟩)
        · rw [hb] at ehall
          exact hJ99 false w' (.inr ⟨rfl, e, q, ehall, h'⟩)
  · intro J101 hJ101
    refine loopN (fun m v u' => ∃ i : Nat, v = ((i : Int), ()) ∧ i ≤ ns.length ∧ m = ns.length - i ∧ FrP (fun b => b = bty ∨ b = bre) w13 u' ∧ Blk u' bty (ints (List.replicate i (-1) ++ List.replicate (ns.length - i) 0)) ∧ Blk u' bre (ints (List.replicate i (-1) ++ List.replicate (ns.length - i) 0))) ns.length
      ⟨0, rfl, by omega, by omega, FrP.refl _ _, by simpa using cty13, by simpa using cre13⟩ ?_
    rintro m _ u' ⟨i, rfl, hi, rfl, fu', c1, c2⟩ Q hQ
    dsimp only
    have b7u : Blk u' p7 row4 := b713.frp fu' (by omega)
    have bcu := bD.frp fu' (by omega)
    refine ldS b7u rfl ?_
    dsimp only
    rw [hll]
    by_cases hlt2 : i < ns.length
    · rw [if_pos (by simp only [decide_eq_true_eq]; omega)]
      have hset : (List.replicate i (-1 : Int) ++ List.replicate (ns.length - i) 0).set i (-1) = List.replicate (i + 1) (-1) ++ List.replicate (ns.length - (i + 1)) 0 := by
        rw [List.set_append_right _ _ (by simp), List.length_replicate, Nat.sub_self, show ns.length - i = (ns.length - (i + 1)) + 1 by omega, List.replicate_succ, List.set_cons_zero, List.replicate_succ', List.append_assoc]
        rfl
      refine ldFL bcu (by omega) hRI.ty (ix rfl (by omega) (by dsimp only; omega) ?_)
      refine stA c1 (by simp; omega) fun u3 d3 f3' t3' => ?_
      refine ldFL (bcu.fr f3' (by omega)) (by omega) hRI.rf (ix rfl (by omega) (by dsimp only; omega) ?_)
      refine stA (c2.fr f3' (by omega)) (by simp; omega) fun u4 d4 f4' t4' => ?_
      simp only [Int.toNat_natCast, hset] at d3 d4
      have hns : ns.length ≤ 200 := t4
      refine let_ ?_
      rw [W_succ (by omega)]
      refine hQ _ _ u4 (by omega) ⟨i + 1, rfl, by omega, rfl, ?_, d3.fr f4' (by omega), d4⟩
      exact (fu'.trans (FrP.of f3' fun b h1 h2 => .inl (by omega))).trans (FrP.of f4' fun b h1 h2 => .inr (by omega))
    · rw [if_neg (by simp only [decide_eq_true_eq]; omega)]
      have hii : i = ns.length := by omega
      subst hii
      rw [Nat.sub_self, List.replicate_zero, List.append_nil] at c1 c2
      have l1 := c1.lt
      have l2 := c2.lt
      have l3 := bcu.lt
      have b1u : Blk u' p1 z10 := (b17.frp F13 (by omega)).frp fu' (by omega)
      have hno : ∀ b, b ≠ c → b ≠ bty → b ≠ bre → ¬ cow c bty bre b := by
        rintro b h1 h2 h3 (h | h | h)
        · exact h1 h
        · exact h2 h
        · exact h3 h
      refine hJ101 u' ⟨good, t4, cs0_inv ns, _, bty, bre, ⟨?_, ?_, ?_, ?_, ?_⟩, ⟨by omega, by omega, by omega⟩, bcu, hRI, c1, c2⟩
      · exact FrP.trans' (F13.mono fun b hb => .inl hb) fu' fun b hb => .inr (by omega)
      · rintro b (rfl | rfl | rfl)
        · exact ⟨by omega, .inl (.inl rfl)⟩
        · exact ⟨by omega, .inr (by omega)⟩
        · exact ⟨by omega, .inr (by omega)⟩
      · intro q hq
        simp only [List.cons_append, List.nil_append, List.mem_cons] at hq
        rcases hq with rfl | rfl | hq
        · exact ⟨b1u, hno _ (by dsimp only; omega) (by dsimp only; omega) (by dsimp only; omega)⟩
        · exact ⟨b7u, hno _ (by dsimp only; omega) (by dsimp only; omega) (by dsimp only; omega)⟩
        · unfold tloc at hq
          split at hq
          · cases hq
          · rename_i h0
            simp only [List.mem_singleton] at hq
            subst hq
            obtain ⟨t1, t2, _⟩ := htb h0
            exact ⟨((htb7 h0).frp F13 (by omega)).frp fu' (by omega), hno _ (by dsimp only; omega) (by dsimp only; omega) (by dsimp only; omega)⟩
      · intro q hq
        simp only [List.cons_append, List.nil_append, List.mem_cons] at hq
        rcases hq with rfl | rfl | hq
        · exact .inl (.inr (.inl rfl))
        · exact .inl (.inr (.inr (.inl rfl)))
        · unfold tloc at hq
          split at hq
          · cases hq
          · rename_i h0
            simp only [List.mem_singleton] at hq
            subst hq
            exact .inl (.inr (.inr (.inr ⟨h0, rfl⟩)))
      · unfold tloc
        split
        · simp only [List.append_nil, List.pairwise_cons, List.mem_cons, List.not_mem_nil, or_false, forall_eq, List.Pairwise.nil, and_true, false_implies, implies_true]
          omega
        · rename_i h0
          obtain ⟨t1, t2, _⟩ := htb h0
          simp only [List.cons_append, List.nil_append, List.pairwise_cons, List.mem_cons, List.not_mem_nil, or_false, forall_eq_or_imp, forall_eq, List.Pairwise.nil, and_true, false_implies, implies_true]
          omega
theorem tab_of (vs : List Value) (n : Nat) (h : vs.length = n) : vs = tab n (fun i => vs.getD i (.bool false)) := by
  apply List.ext_getElem?
  intro i
  rcases Nat.lt_or_ge i n with hi | hi
  · rw [tab_get hi, List.getD_eq_getElem?_getD, List.getElem?_eq_getElem (by omega)]; rfl
  · rw [List.getElem?_eq_none (by omega), List.getElem?_eq_none (by simp; omega)]
set_option maxRecDepth 10000 in
theorem rcheck_New {K : Nat → World → Prop} (h : PAE w ps ar lx g) (hK : ∀ w' c, CKE w' c ps ar lx g → Fr 0 0 w w' → w.heap.size ≤ c → K c w') : S.check_New ps w K := by
  unfold S.check_New
  have hl := h.lt
  refine newB fun w1 b1 f1 s1 => ?_
  obtain ⟨f, b1, hf⟩ : ∃ f, Blk w1 w.heap.size (tab 420 f) ∧ f 0 = .pointer (some ⟨ps, 0, none⟩) := by
    generalize hv : Array.toList _ = vs at b1
    have hl : vs.length = 420 := by rw [← hv]; rfl
    have h0 : vs.getD 0 (.bool false) = .pointer (some ⟨ps, 0, none⟩) := by rw [← hv]; rfl
    rw [tab_of vs 420 hl] at b1
    exact ⟨_, b1, h0⟩
  refine rclear_spec b1 fun w2 f' b2 F2 e0 _ _ _ _ _ _ => ?_
  have F : Fr 0 0 w w2 := (f1.any _ 1).trans F2 |>.fresh (Nat.le_refl _) 0 0
  refine hK w2 _ ⟨⟨f', b2, by rw [e0, hf]⟩, h.frp (FrP.of0 (P := fun _ => False) F) fun _ _ h => h, fun hp => ?_⟩ F (Nat.le_refl _)
  have := hl _ hp
  omega
end Go.Proofs.Qxb6500562aGreat
