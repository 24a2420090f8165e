/-
  The machine: calls.
-/
import Derived.Test.Qxb6500562aGreatVmC
namespace Go.Proofs.Qxb6500562aGreat
open Go.Den Go.Zip
set_option linter.unusedVariables false
set_option linter.unusedSimpArgs false
variable {w w' : World} {m h : Nat} {c : List Nat} {inp : List Int} {s : MS} {g g' : Nat → Value} {sc si so : Sl} {O O' : Nat → Prop} {H : SH} {out : List Int} {f : Fm} {r : List Fm}

theorem nils_succ : ∀ (n : Nat) (H : SH), nils (n + 1) H = (hPush (nils n H)).2
  | 0, H => rfl
  | n + 1, H => by show nils (n + 1) (hPush H).2 = _; rw [nils_succ n]; rfl
structure RA (n : Nat) (fs : List Fm) : Prop where
  wd : words (rest n fs) ++ args n fs = words fs
  al : (args n fs).length = n
  sz : wsz (rest n fs) + n = wsz fs
  tl : wsz (rest n fs).tail = wsz fs.tail
  li : topLi (rest n fs) = topLi fs
  lr : topLr (rest n fs) = topLr fs
  rb : topRb (rest n fs) = topRb fs
  ln : (rest n fs).length = fs.length
  fk : (∀ f ∈ fs, FOK f) → ∀ f ∈ rest n fs, FOK f
theorem RA.of {n : Nat} {fs : List Fm} (h0 : fs = [] → n = 0) (h1 : ∀ f r, fs = f :: r → n ≤ f.ops.length) : RA n fs := by
  cases fs with
  | nil =>
    have := h0 rfl
    subst this
    exact ⟨rfl, rfl, rfl, rfl, rfl, rfl, rfl, rfl, fun h => h⟩
  | cons f r =>
    have hn := h1 f r rfl
    have e1 : (f.ops.take (f.ops.length - n)).length = f.ops.length - n := by rw [List.length_take]; omega
    refine ⟨?_, by show (f.ops.drop _).length = n; rw [List.length_drop]; omega, ?_, rfl, rfl, rfl, rfl, rfl, ?_⟩
    · show (pre f r ++ f.ops.take (f.ops.length - n)) ++ f.ops.drop (f.ops.length - n) = words (f :: r)
      rw [List.append_assoc, List.take_append_drop]; rfl
    · show bs f r + (f.ops.take (f.ops.length - n)).length + n = bs f r + f.ops.length
      rw [e1]; omega
    · intro hf f' hf'
      rcases List.mem_cons.1 hf' with rfl | h'
      · exact hf f (List.mem_cons_self ..)
      · exact hf f' (List.mem_cons_of_mem _ h')
/-- The new frame's words. -/
theorem words_new {n li lr rb ret : Nat} {fs : List Fm} (A : RA n fs) : words (⟨ret, args n fs ++ List.replicate (li - n) 0, [], lr, rb⟩ :: rest n fs) = words fs ++ (List.replicate (li - n) 0 ++ [(ret : Int), (wsz fs.tail : Int), packW (topLi fs) (topLr fs) (topRb fs)]) := by
  show words (rest n fs) ++ (args n fs ++ List.replicate (li - n) 0) ++ [(ret : Int), (wsz (rest n fs).tail : Int), packW (topLi (rest n fs)) (topLr (rest n fs)) (topRb (rest n fs))] ++ [] = _
  rw [A.tl, A.li, A.lr, A.rb, List.append_nil, ← List.append_assoc, A.wd, List.append_assoc]
theorem wsz_new {n li lr rb ret : Nat} {fs : List Fm} (A : RA n fs) (hl : n ≤ li) : wsz (⟨ret, args n fs ++ List.replicate (li - n) 0, [], lr, rb⟩ :: rest n fs) = wsz fs - n + li + 3 := by
  have := A.sz
  have := A.al
  show wsz (rest n fs) + (args n fs ++ List.replicate (li - n) 0).length + 3 + 0 = _
  rw [List.length_append, List.length_replicate]
  omega
set_option maxHeartbeats 2000000 in
theorem venter_spec {a ret : Nat} {K : World → Prop} (q : VQ w m h c inp s sc si so) (hret : ret ≤ 70000) (ha : a < 65536) (hK : ∀ w', VQ w' m h c inp (menter c a ret s) sc si so → FrP (vmo m h sc si so) w w' → K w') : S.vm_VM_enter m (a : Nat) (ret : Nat) w K := by
  unfold S.vm_VM_enter
  have csl := q.csl
  have cl := q.cl
  have bl := q.byteLt
  refine join_ (q.ldC ?_)
  rw [csl]
  unfold menter at hK
  by_cases h1 : c.length < a + 5
  · rw [if_pos (by simp only [decide_eq_true_eq]; rw [W_id (by omega) (by omega)]; omega)]
    rw [if_pos (.inl h1)] at hK
    exact q.trap hK
  rw [if_neg (by simp only [decide_eq_true_eq]; rw [W_id (by omega) (by omega)]; omega)]
  refine q.ldC (q.byte (by omega) ?_)
  rw [W_id (x := ((c.getD a 0 : Nat) : Int)) (by have := bl a; omega) (by have := bl a; omega)]
  by_cases h2 : c.getD a 0 ≠ 25
  · rw [if_pos (by simp only [bne_iff_ne, ne_eq]; omega)]
    rw [if_pos (.inr h2)] at hK
    exact q.trap hK
  rw [if_neg (by simp only [bne_iff_ne, ne_eq]; omega)]
  rw [if_neg (by omega)] at hK
  refine drew_ ?_
  have q := q.drew
  have e : ∀ k : Nat, k < 10 → W ((a : Nat) + ((k : Nat) : Int)) = ((a + k : Nat) : Int) := fun k hk => by rw [W_id (by omega) (by omega)]; omega
  have e1 := e 1 (by omega); have e2 := e 2 (by omega); have e3 := e 3 (by omega); have e4 := e 4 (by omega); have e5 := e 5 (by omega)
  rw [show ((1 : Nat) : Int) = 1 from rfl] at e1
  rw [show ((2 : Nat) : Int) = 2 from rfl] at e2
  rw [show ((3 : Nat) : Int) = 3 from rfl] at e3
  rw [show ((4 : Nat) : Int) = 4 from rfl] at e4
  rw [show ((5 : Nat) : Int) = 5 from rfl] at e5
  rw [e1, e2, e3, e4]
  refine q.ldC (q.byte (by omega) (q.ldC (q.byte (by omega) (q.ldC (q.byte (by omega) (q.ldC (q.byte (by omega) ?_)))))))
  have b1 := bl (a + 1); have b2 := bl (a + 2); have b3 := bl (a + 3); have b4 := bl (a + 4)
  generalize hpi : c.getD (a + 1) 0 = pi at *
  generalize hpr : c.getD (a + 2) 0 = pr at *
  generalize hli : c.getD (a + 3) 0 = li at *
  generalize hlr : c.getD (a + 4) 0 = lr at *
  rw [W_id (x := ((pi : Nat) : Int)) (by omega) (by omega), W_id (x := ((pr : Nat) : Int)) (by omega) (by omega), W_id (x := ((li : Nat) : Int)) (by omega) (by omega), W_id (x := ((lr : Nat) : Int)) (by omega) (by omega)]
  refine let_ (let_ (let_ (let_ (join_ ?_))))
  by_cases h3 : li < pi
  · rw [if_pos (by simp only [decide_eq_true_eq]; omega)]
    rw [if_pos (.inl h3)] at hK
    exact q.trap hK
  rw [if_neg (by simp only [decide_eq_true_eq]; omega)]
  by_cases h4 : lr < pr
  · rw [if_pos (by simp only [decide_eq_true_eq]; omega)]
    rw [if_pos (.inr h4)] at hK
    exact q.trap hK
  rw [if_neg (by simp only [decide_eq_true_eq]; omega)]
  rw [if_neg (by omega)] at hK
  obtain ⟨g, X, v⟩ := q
  have hle := v.le
  have hlw := len_wsz s.fs
  refine X.ld (by omega) v.nf ?_
  let P : World → Prop := fun u => VQ u m h c inp s sc si so ∧ RA pi s.fs ∧ FrP (vmo m h sc si so) w u ∧ ¬ ((s.fs = [] ∧ (pi ≠ 0 ∨ pr ≠ 0)) ∨ (s.fs ≠ [] ∧ ((top s).ops.length < pi ∨ rops s < pr))) ∧ pr ≤ s.H.roots.length
  have F0 : FrP (vmo m h sc si so) w w.drew := (FrP.refl _ w).drew
  refine join_W P ?_ ?_
  · rintro u ⟨⟨g, X, v⟩, A, F, hno, hprr⟩
    rw [if_neg hno] at hK
    refine VQ.spend ⟨g, X, v⟩ (fun hf w1 q1 F1 => ?_) (fun hf w1 q1 F1 => ?_)
    · unfold mspend at hK
      rw [if_pos hf] at hK
      exact hK w1 q1 (F.trans F1)
    unfold mspend at hK
    rw [if_neg (by omega)] at hK
    obtain ⟨g1, X1, v1⟩ := q1
    have hrl := X1.hp.le
    dsimp only at hrl X1
    refine X1.ldP v1.hp (X1.hp.depth ?_)
    have sp1 := v1.sp
    dsimp only at sp1
    have hsz := A.sz
    refine join_ (X1.ld (by omega) sp1 ?_)
    rw [W_id (x := ((wsz s.fs : Nat) : Int) - (pi : Nat)) (by omega) (by omega), W_id (x := ((wsz s.fs : Nat) : Int) - (pi : Nat) + (li : Nat)) (by omega) (by omega), W_id (x := ((wsz s.fs : Nat) : Int) - (pi : Nat) + (li : Nat) + 3) (by omega) (by omega),
      W_id (x := ((s.H.roots.length : Nat) : Int) - (pr : Nat)) (by omega) (by omega), W_id (x := ((s.H.roots.length : Nat) : Int) - (pr : Nat) + (lr : Nat)) (by omega) (by omega)]
    have spe : sp s = wsz s.fs := rfl
    have spe' : sp { s with fuel := s.fuel - 1 } = wsz s.fs := rfl
    dsimp only at hK
    rw [spe'] at hK
    by_cases h5 : 48 < wsz s.fs - pi + li + 3
    · rw [if_pos (by simp only [decide_eq_true_eq]; omega)]
      rw [if_pos (.inl h5)] at hK
      exact VQ.trap (s := { s with fuel := s.fuel - 1 }) ⟨g1, X1, v1⟩ fun w2 q2 F2 => hK w2 q2 ((F.trans F1).trans F2)
    rw [if_neg (by simp only [decide_eq_true_eq]; omega)]
    by_cases h6 : 24 < s.H.roots.length - pr + lr
    · rw [if_pos (by simp only [decide_eq_true_eq]; omega)]
      rw [if_pos (.inr h6)] at hK
      exact VQ.trap (s := { s with fuel := s.fuel - 1 }) ⟨g1, X1, v1⟩ fun w2 q2 F2 => hK w2 q2 ((F.trans F1).trans F2)
    rw [if_neg (by simp only [decide_eq_true_eq]; omega)]
    rw [if_neg (by omega)] at hK
    refine X1.ld (by omega) sp1 ?_
    rw [W_id (x := ((wsz s.fs : Nat) : Int) - (pi : Nat)) (by omega) (by omega)]
    refine let_ ?_
    rw [W_id (x := ((wsz s.fs : Nat) : Int) - (pi : Nat) + (li : Nat)) (by omega) (by omega)]
    refine let_ (X1.ld (by omega) sp1 ?_)
    generalize hB : wsz s.fs - pi = B at *
    have hB' : ((wsz s.fs : Nat) : Int) - (pi : Nat) = (B : Nat) := by omega
    rw [hB']
    have hS : ((B : Nat) : Int) + (li : Nat) = ((B + li : Nat) : Int) := by omega
    rw [hS]
    have F1' := F.trans F1
    let P2 : World → Prop := fun u => ∃ g2, VX u m h c inp s.H s.out g2 sc si so ∧ (∀ j, (j < 1 + wsz s.fs ∨ 49 ≤ j) → g2 j = g1 j) ∧ (∀ j, wsz s.fs ≤ j → j < B + li → g2 (1 + j) = .int .i64 0) ∧ (∀ j, j < 48 → ∃ y, g2 (1 + j) = .int .i64 y) ∧ FrP (vmo m h sc si so) w u
    refine join_W P2 ?_ ?_
    · rintro u2 ⟨g2, X2, a1, a2, a3, F2⟩
      have ew : ∀ k : Nat, k < 4 → W (((B + li : Nat) : Int) + ((k : Nat) : Int)) = ((B + li + k : Nat) : Int) := fun k hk => by rw [W_id (by omega) (by omega)]; omega
      have w0 := ew 0 (by omega); have w1' := ew 1 (by omega); have w2' := ew 2 (by omega); have w3' := ew 3 (by omega)
      rw [show ((0 : Nat) : Int) = 0 from rfl] at w0
      rw [show ((1 : Nat) : Int) = 1 from rfl] at w1'
      rw [show ((2 : Nat) : Int) = 2 from rfl] at w2'
      rw [show ((3 : Nat) : Int) = 3 from rfl] at w3'
      rw [w0, w1', w2', w3']
      simp only [Int.toNat_natCast, Nat.mul_one]
      refine ⟨by omega, by omega, ?_⟩
      refine X2.st (by omega) fun w3 X3 F3 _ => drew_ ?_
      have X3 := X3.drew
      refine X3.ld (by omega) (by rw [fset_ne (by omega), a1 _ (by omega)]; exact v1.fp) ⟨by omega, by omega, ?_⟩
      refine X3.st (by omega) fun w4 X4 F4 _ => drew_ ?_
      have X4 := X4.drew
      refine X4.ld (by omega) (by rw [fset_ne (by omega), fset_ne (by omega), a1 _ (by omega)]; exact v1.li) ?_
      refine X4.ld (by omega) (by rw [fset_ne (by omega), fset_ne (by omega), a1 _ (by omega)]; exact v1.lr) ?_
      refine X4.ld (by omega) (by rw [fset_ne (by omega), fset_ne (by omega), a1 _ (by omega)]; exact v1.rb) ?_
      unfold S.vm_pack
      obtain ⟨k1, k2, k3⟩ := topOK v.fk
      dsimp only
      rw [pack_eq k1 k2 k3]
      refine ⟨by omega, by omega, ?_⟩
      refine X4.st (by omega) fun w5 X5 F5 _ => ?_
      have F5' : FrP (vmo m h sc si so) w w5 := ((F2.trans F3).trans F4).trans F5
      generalize hg5 : fset (fset (fset g2 (1 + (B + li + 0)) (.int .i64 (ret : Nat))) (1 + (B + li + 1)) (.int .i64 (wsz s.fs.tail : Nat))) (1 + (B + li + 2)) (.int .i64 (packW (topLi s.fs) (topLr s.fs) (topRb s.fs))) = g5 at X5
      refine join_W (fun u => VX u m h c inp (nils (lr - pr) s.H) s.out g5 sc si so ∧ FrP (vmo m h sc si so) w u) ?_ ?_
      · rintro u6 ⟨X6, F6⟩
        refine X6.st (by omega) fun w7 X7 F7 _ => ?_
        refine X7.st (by omega) fun w8 X8 F8 _ => ?_
        refine X8.st (by omega) fun w9 X9 F9 _ => ?_
        refine X9.st (by omega) fun w10 X10 F10 _ => ?_
        refine X10.st (by omega) fun w11 X11 F11 _ => drew_ ?_
        have X11 := X11.drew
        refine X11.ld (by omega) (fset_eq _ _ _) ?_
        obtain ⟨y, hy⟩ := v1.mx
        have k5 : ∀ j, 49 ≤ j → g5 j = g1 j := fun j hj => by rw [← hg5, fset_ne (by omega), fset_ne (by omega), fset_ne (by omega), a1 _ (by omega)]
        refine X11.ld (by omega) (by rw [fset_ne (by omega), fset_ne (by omega), fset_ne (by omega), fset_ne (by omega), fset_ne (by omega), k5 _ (by omega)]; exact hy) ?_
        rw [show ((s.H.roots.length : Nat) : Int) - (pr : Nat) = ((s.H.roots.length - pr : Nat) : Int) by omega] at X11
        generalize hg11 : fset (fset (fset (fset (fset g5 50 (.int .i64 (B : Nat))) 51 (.int .i64 (li : Nat))) 52 (.int .i64 (lr : Nat))) 53 (.int .i64 ((s.H.roots.length - pr : Nat) : Int))) 49 (.int .i64 ((B + li + 3 : Nat) : Int)) = g11 at X11
        have F11' : FrP (vmo m h sc si so) w w11 := ((((F6.trans F7).trans F8).trans F9).trans F10).trans F11
        have nf11 : g11 54 = .int .i64 (s.fs.length : Nat) := by rw [← hg11, fset_ne (by omega), fset_ne (by omega), fset_ne (by omega), fset_ne (by omega), fset_ne (by omega), k5 _ (by omega)]; exact v1.nf
        refine join_W (fun u => (∃ g12, VX u m h c inp (nils (lr - pr) s.H) s.out g12 sc si so ∧ (∀ j, j ≠ 64 → g12 j = g11 j) ∧ ∃ y, g12 64 = .int .i64 y) ∧ FrP (vmo m h sc si so) w u) ?_ ?_
        · rintro u12 ⟨⟨g12, X12, c1, c2⟩, F12⟩
          refine X12.ld (by omega) (by rw [c1 _ (by omega)]; exact nf11) ?_
          rw [W_succ (by omega), e5]
          refine X12.st (by omega) fun w13 X13 F13 _ => ?_
          refine X13.st (by omega) fun w14 X14 F14 _ => hK w14 ⟨_, X14, ?_⟩ ((F12.trans F13).trans F14)
          have wz := wsz_new (ret := ret) (lr := lr) (rb := s.H.roots.length - pr) A (by omega : pi ≤ li)
          have ww := words_new (ret := ret) (lr := lr) (rb := s.H.roots.length - pr) (li := li) A
          have kk : ∀ j, (j < 49 ∨ 55 < j ∧ j ≠ 64) → fset (fset g12 54 (.int .i64 ((s.fs.length + 1 : Nat) : Int))) 55 (.int .i64 ((a + 5 : Nat) : Int)) j = g5 j := fun j hj => by
            rw [fset_ne (by omega), fset_ne (by omega), c1 _ (by omega), ← hg11, fset_ne (by omega), fset_ne (by omega), fset_ne (by omega), fset_ne (by omega), fset_ne (by omega)]
          have k6 : ∀ j, 49 ≤ j → j < 54 → fset (fset g12 54 (.int .i64 ((s.fs.length + 1 : Nat) : Int))) 55 (.int .i64 ((a + 5 : Nat) : Int)) j = g11 j := fun j h1 h2 => by
            rw [fset_ne (by omega), fset_ne (by omega), c1 _ (by omega)]
          have g5int : ∀ j, j < 48 → ∃ y, g5 (1 + j) = .int .i64 y := fun j hj => by
            rw [← hg5]
            unfold fset
            split
            · exact ⟨_, rfl⟩
            · split
              · exact ⟨_, rfl⟩
              · split
                · exact ⟨_, rfl⟩
                · exact a3 j hj
          refine ⟨?_, ?_, ?_, ?_, ?_, ?_, ?_, ?_, ?_, ?_, ?_, ?_, ?_, ?_, ?_, ?_, ?_, ?_, ?_, ?_, ?_, ?_, ?_⟩
          · rw [kk _ (by omega), ← hg5, fset_ne (by omega), fset_ne (by omega), fset_ne (by omega), a1 _ (by omega)]; exact v1.hp
          · intro i hi; rw [kk _ (by omega)]; exact g5int i hi
          · intro i hi
            dsimp only at hi ⊢
            rw [wz] at hi
            rw [ww, kk _ (by omega), ← hg5]
            have wl := words_len s.fs
            rcases Nat.lt_or_ge i (wsz s.fs) with i1 | i1
            · rw [fset_ne (by omega), fset_ne (by omega), fset_ne (by omega), a1 _ (by omega), getD_app1 (by omega)]
              exact v1.st i i1
            · rcases Nat.lt_or_ge i (B + li) with i2 | i2
              · rw [fset_ne (by omega), fset_ne (by omega), fset_ne (by omega), a2 _ i1 i2, getD_app2 (j := i - wsz s.fs) (by omega), getD_app1 (by simp; omega)]
                congr 1
                rw [List.getD_eq_getElem?_getD, List.getElem?_replicate]
                split <;> rfl
              · have ez : (List.replicate (li - pi) (0 : Int)).length = li - pi := by simp
                rcases (by omega : i = B + li + 0 ∨ i = B + li + 1 ∨ i = B + li + 2) with rfl | rfl | rfl
                · rw [fset_ne (by omega), fset_ne (by omega), fset_eq, getD_app2 (j := li - pi) (by omega), getD_app2 (j := 0) (by omega)]; rfl
                · rw [fset_ne (by omega), fset_eq, getD_app2 (j := li - pi + 1) (by omega), getD_app2 (j := 1) (by omega)]; rfl
                · rw [fset_eq, getD_app2 (j := li - pi + 2) (by omega), getD_app2 (j := 2) (by omega)]; rfl
          · rw [k6 _ (by omega) (by omega), ← hg11, fset_eq]; dsimp only; rw [wz]; congr 2; omega
          · rw [k6 _ (by omega) (by omega), ← hg11, fset_ne (by omega), fset_ne (by omega), fset_ne (by omega), fset_ne (by omega), fset_eq]
            congr 2
            show B = wsz (rest pi s.fs)
            omega
          · rw [k6 _ (by omega) (by omega), ← hg11, fset_ne (by omega), fset_ne (by omega), fset_ne (by omega), fset_eq]
            congr 2
            show li = (args pi s.fs ++ List.replicate (li - pi) 0).length
            have := A.al
            rw [List.length_append, List.length_replicate]; omega
          · rw [k6 _ (by omega) (by omega), ← hg11, fset_ne (by omega), fset_ne (by omega), fset_eq]; rfl
          · rw [k6 _ (by omega) (by omega), ← hg11, fset_ne (by omega), fset_eq]; rfl
          · rw [fset_ne (by omega), fset_eq]
            congr 2
            show s.fs.length + 1 = (rest pi s.fs).length + 1
            rw [A.ln]
          · rw [fset_eq]
          · rw [kk _ (by omega), k5 _ (by omega)]; exact v1.co
          · rw [kk _ (by omega), k5 _ (by omega)]; exact v1.ii
          · rw [kk _ (by omega), k5 _ (by omega)]; exact v1.ip
          · rw [kk _ (by omega), k5 _ (by omega)]; exact v1.fu
          · rw [kk _ (by omega), k5 _ (by omega)]; exact v1.ou
          · rw [kk _ (by omega), k5 _ (by omega)]; exact v1.en
          · rw [kk _ (by omega), k5 _ (by omega)]; exact v1.rv
          · rw [kk _ (by omega), k5 _ (by omega)]; exact v1.sv
          · rw [fset_ne (by omega), fset_ne (by omega)]; exact c2
          · dsimp only; rw [wz]; omega
          · intro f' hf'
            rcases List.mem_cons.1 hf' with rfl | h'
            · refine ⟨?_, b4, by dsimp only; omega, hret⟩
              show (args pi s.fs ++ List.replicate (li - pi) 0).length < 256
              have := A.al
              rw [List.length_append, List.length_replicate]; omega
            · exact A.fk v.fk f' h'
          · dsimp only; omega
          · exact v1.fb
        · intro J hJ
          split
          · refine X11.ld (by omega) (by rw [← hg11, fset_eq]) ?_
            exact X11.st (by omega) fun w12 X12 F12 _ => hJ w12 ⟨⟨_, X12, fun j hj => fset_ne hj, _, fset_eq _ _ _⟩, F11'.trans F12⟩
          · refine hJ _ ⟨⟨_, X11, fun j hj => rfl, y, ?_⟩, F11'⟩
            rw [← hg11, fset_ne (by omega), fset_ne (by omega), fset_ne (by omega), fset_ne (by omega), fset_ne (by omega), k5 _ (by omega)]; exact hy
      · intro J hJ
        have hp5 : g5 0 = .pointer (some ⟨h, 0, none⟩) := by rw [← hg5, fset_ne (by omega), fset_ne (by omega), fset_ne (by omega), a1 _ (by omega)]; exact v1.hp
        refine loopN (fun n v u => ∃ i : Nat, v = ((i : Int), ()) ∧ n = lr - i ∧ pr ≤ i ∧ i ≤ lr ∧ VX u m h c inp (nils (i - pr) s.H) s.out g5 sc si so ∧ FrP (vmo m h sc si so) w u) (lr - pr) ⟨pr, rfl, rfl, by omega, by omega, by rw [Nat.sub_self]; exact X5, F5'⟩ ?_
        rintro n _ u ⟨i, rfl, hn, i1, i2, X6, F6⟩ Q hQ
        dsimp only
        by_cases hil : i < lr
        · rw [if_pos (by simp only [decide_eq_true_eq]; omega)]
          refine X6.ldP hp5 (X6.hp.push fun w7 r7 f7 => ?_)
          obtain ⟨X7, F7⟩ := X6.heap r7 f7
          refine let_ ?_
          rw [W_succ (by omega)]
          refine hQ (lr - (i + 1)) _ w7 (by omega) ⟨i + 1, rfl, rfl, by omega, by omega, ?_, F6.trans F7⟩
          rw [show i + 1 - pr = (i - pr) + 1 by omega, nils_succ]
          exact X7
        · rw [if_neg (by simp only [decide_eq_true_eq]; omega)]
          refine hJ u ⟨?_, F6⟩
          rw [show lr - pr = i - pr by omega]
          exact X6
    · intro J hJ
      refine loopN (fun n v u => ∃ (i : Nat) (g2 : Nat → Value), v = ((i : Int), ()) ∧ n = B + li - i ∧ wsz s.fs ≤ i ∧ i ≤ B + li ∧ VX u m h c inp s.H s.out g2 sc si so ∧ (∀ j, (j < 1 + wsz s.fs ∨ 49 ≤ j) → g2 j = g1 j) ∧ (∀ j, wsz s.fs ≤ j → j < i → g2 (1 + j) = .int .i64 0) ∧ (∀ j, j < 48 → ∃ y, g2 (1 + j) = .int .i64 y) ∧ FrP (vmo m h sc si so) w u) (B + li - wsz s.fs) ⟨wsz s.fs, g1, rfl, rfl, Nat.le_refl _, by omega, X1, fun j _ => rfl, fun j h1 h2 => by omega, v1.sk, F1'⟩ ?_
      rintro n _ u ⟨i, g2, rfl, hn, i1, i2, X2, a1, a2, a3, F2⟩ Q hQ
      dsimp only
      by_cases hil : i < B + li
      · rw [if_pos (by simp only [decide_eq_true_eq]; omega)]
        refine ⟨by omega, by omega, ?_⟩
        rw [Int.toNat_natCast, Nat.mul_one]
        refine X2.st (by omega) fun w3 X3 F3 _ => let_ ?_
        rw [W_succ (by omega)]
        refine hQ (B + li - (i + 1)) _ w3 (by omega) ⟨i + 1, _, rfl, rfl, by omega, by omega, X3, fun j hj => by rw [fset_ne (by omega)]; exact a1 j hj, fun j j1 j2 => ?_, fun j hj => ?_, F2.trans F3⟩
        · by_cases e : j = i
          · rw [e, fset_eq]
          · rw [fset_ne (by omega)]; exact a2 j j1 (by omega)
        · by_cases e : j = i
          · rw [e, fset_eq]; exact ⟨_, rfl⟩
          · rw [fset_ne (by omega)]; exact a3 j hj
      · rw [if_neg (by simp only [decide_eq_true_eq]; omega)]
        exact hJ u ⟨g2, X2, a1, fun j j1 j2 => a2 j j1 (by omega), a3, F2⟩
  · intro J hJ
    cases hfs : s.fs with
    | nil =>
      rw [if_pos (by simp)]
      have tn : top s = ⟨0, [], [], 0, 0⟩ := by unfold top; rw [hfs]; rfl
      refine join_ ?_
      by_cases p1 : pi = 0
      · rw [if_neg (by simp [p1])]
        by_cases p2 : pr = 0
        · rw [if_neg (by simp [p2])]
          refine hJ _ ⟨⟨g, X, v⟩, RA.of (fun _ => p1) (fun f r e => by rw [hfs] at e; cases e), F0, ?_, by omega⟩
          rintro (⟨_, h | h⟩ | ⟨h, _⟩)
          · exact h p1
          · exact h p2
          · exact h hfs
        · rw [if_pos (by simp [p2])]
          rw [if_pos (.inl ⟨hfs, .inr p2⟩)] at hK
          exact VQ.trap ⟨g, X, v⟩ hK
      · rw [if_pos (by simp [p1])]
        rw [if_pos (.inl ⟨hfs, .inl p1⟩)] at hK
        exact VQ.trap ⟨g, X, v⟩ hK
    | cons f r =>
      rw [if_neg (by simp only [List.length_cons, beq_iff_eq]; omega)]
      have q : VQ w.drew m h c inp s sc si so := ⟨g, X, v⟩
      refine iops_spec q hfs (rops_spec q.drew hfs ?_)
      have tn := top_eq hfs
      refine join_ ?_
      by_cases p1 : f.ops.length < pi
      · rw [if_pos (by simp only [decide_eq_true_eq]; omega)]
        rw [if_pos (.inr ⟨by rw [hfs]; simp, .inl (by rw [tn]; exact p1)⟩)] at hK
        exact VQ.trap q.drew.drew hK
      · rw [if_neg (by simp only [decide_eq_true_eq]; omega)]
        by_cases p2 : rops s < pr
        · rw [if_pos (by simp only [decide_eq_true_eq]; exact p2)]
          rw [if_pos (.inr ⟨by rw [hfs]; simp, .inr p2⟩)] at hK
          exact VQ.trap q.drew.drew hK
        · rw [if_neg (by simp only [decide_eq_true_eq]; exact p2)]
          refine hJ _ ⟨q.drew.drew, RA.of (fun e => by rw [hfs] at e; cases e) (fun f' r' e => by rw [hfs] at e; cases e; omega), F0.drew.drew, ?_, ?_⟩
          · rintro (⟨h, _⟩ | ⟨_, h | h⟩)
            · rw [hfs] at h; cases h
            · rw [tn] at h; exact p1 h
            · exact p2 h
          · unfold rops at p2
            omega
end Go.Proofs.Qxb6500562aGreat
