/-
  The machine: a step.
-/
import Derived.Test.Qxb6500562aGreatVmF
namespace Go.Proofs.Qxb6500562aGreat
open Go.Den Go.Zip
set_option linter.unusedVariables false
set_option linter.unusedSimpArgs false
variable {w w' : World} {m h : Nat} {c : List Nat} {inp : List Int} {s : MS} {g g' : Nat → Value} {sc si so : Sl} {O O' : Nat → Prop} {H : SH} {out : List Int} {f : Fm} {r : List Fm}

theorem join_eq {α : Type} {k : α} {body : α → Prop} : Join k body = body k := rfl
/-- Where the output's slice goes. -/
def SoG (w : World) (so so' : Sl) : Prop := ∀ b, owns so' b → owns so b ∨ w.heap.size ≤ b
theorem SoG.refl (w : World) (so : Sl) : SoG w so so := fun b h => .inl h
theorem vprint_spec {K : World → Prop} (q : VQ w m h c inp s sc si so) (hs : s.fs = f :: r) (h1 : 1 ≤ f.ops.length)
    (hK : ∀ w' so', VQ w' m h c inp (if 1024 ≤ s.out.length then trap 33 (cutO1 1 s) else cutO1 1 { s with out := s.out ++ [lastO s] }) sc si so' → FrP (vmo m h sc si so) w w' → SoG w so so' → K w') :
    LdI .i64 w ⟨m, 49, none⟩ fun sp_62 =>
    St1 w ⟨m, 49, none⟩ (.int .i64 (W (sp_62 - 1))) fun w =>
    LdS w ⟨m, 60, none⟩ fun out_63 =>
    if (decide ((out_63.l : Int) ≥ 1024)) = true then
      St1 w ⟨m, 61, none⟩ (.int .i64 33) fun w =>
      K w
    else
      Drew w fun w =>
      Hold w ⟨m, 60, none⟩ 1 fun R64 =>
      LdS w ⟨m, 60, none⟩ fun out_65 =>
      LdI .i64 w ⟨m, 49, none⟩ fun sp_66 =>
      IxA 48 sp_66 <|
      LdI .i64 w ⟨m, 1 + Int.toNat sp_66 * 1, none⟩ fun stack_67 =>
      New w (.cells #[.int .i64 stack_67] 3) fun p68 w =>
      After R64 w <|
      AppS 3 [.int .i64 0] 8 1 w out_65 ⟨some ⟨p68, 0, none⟩, 1, 1⟩ fun l69 w =>
      St1 w ⟨m, 60, none⟩ (.slice l69.a l69.l l69.c) fun w =>
      K w := by
  refine q.ldSp hs fun hb => ?_
  rw [Wsub1 (by omega) (by omega)]
  refine q.cut hs h1 fun w1 q1 rd sp F1 => ?_
  have eH : (cutO1 1 s).H = s.H := rfl
  have eO : (cutO1 1 s).out = s.out := rfl
  obtain ⟨g1, X1, v1⟩ := q1
  have osl := X1.osl
  rw [eO] at osl
  refine X1.ldS (by omega) v1.ou ?_
  rw [osl]
  by_cases hl : 1024 ≤ s.out.length
  · rw [if_pos hl] at hK
    rw [if_pos (by simp only [decide_eq_true_eq]; omega)]
    exact VQ.trap ⟨g1, X1, v1⟩ fun w2 q2 F2 => hK w2 so q2 (F1.trans F2) (SoG.refl _ _)
  · rw [if_neg hl] at hK
    rw [if_neg (by simp only [decide_eq_true_eq]; omega)]
    refine drew_ ?_
    have X1 := X1.drew
    refine X1.ldS (by omega) v1.ou (sp _ ⟨by omega, by omega, ?_⟩)
    rw [Int.toNat_natCast, Nat.mul_one, show bs f r + f.ops.length - 1 = bs f r + (f.ops.length - 1) by omega]
    refine rd (f.ops.length - 1) _ (by omega) ?_
    have el : f.ops.getD (f.ops.length - 1) 0 = lastO s := by unfold lastO; rw [top_eq hs]
    rw [el]
    have sz1 : w.heap.size ≤ w1.drew.heap.size := F1.1.1
    refine newB fun w2 b2 f2 s2 => ?_
    have F2 : FrP (fun _ => False) w1.drew w2 := FrP.of0 f2
    have X2 := X1.frp F2 fun _ _ h => h
    refine ⟨held X1.rc X2.rc, ?_⟩
    have hnew : ∀ b, vmo m h sc si so b → b < w1.drew.heap.size := by
      rintro b (rfl | rfl | hb | hb | hb)
      · exact X1.rc.lt
      · exact X1.hp.lt
      · exact X1.oc.lt hb
      · exact X1.oi.lt hb
      · exact X1.oo.lt hb
    refine appO X2.oo b2 (by simp) (by omega) (by simp [okV]) rfl (by rw [osl]; omega) fun s3 w3 o3 l3 gr F3 => ?_
    have hso : ∀ b, owns s3 b → owns so b ∨ w1.drew.heap.size ≤ b := fun b hb => (gr.owns hb).elim .inl fun h => .inr (by have := F2.1.1; omega)
    have X3 : VX w3 m h c inp s.H (s.out ++ [lastO s]) g1 sc si s3 := by
      refine ⟨X2.rc.frp F3 fun hb => (X2.om _ hb).1 rfl, X2.oc.frp F3 fun b hb ho => (X2.om _ ho).2.2.1 hb, X2.oi.frp F3 fun b hb ho => (X2.om _ ho).2.2.2 hb, ?_, X2.hp.frp F3 fun hb => (X2.om _ hb).2.1 rfl, X2.mh, X2.cm, X2.im, ?_, X2.cb, X2.cl, X2.il, by simp; omega⟩
      · have : ints s.out ++ [Value.int .i64 (lastO s)] = ints (s.out ++ [lastO s]) := by simp [ints]
        rw [← this]; exact o3
      · intro b hb
        rcases hso b hb with h' | h'
        · exact X2.om b h'
        · refine ⟨fun e => ?_, fun e => ?_, fun e => ?_, fun e => ?_⟩
          · have := hnew b (.inl e); omega
          · have := hnew b (.inr (.inl e)); omega
          · have := hnew b (.inr (.inr (.inl e))); omega
          · have := hnew b (.inr (.inr (.inr (.inl e)))); omega
    refine X3.st (by omega) fun w4 X4 F4 _ => hK w4 s3 ⟨_, X4, ?_⟩ ?_ ?_
    · exact v1.reg { cutO1 1 s with out := s.out ++ [lastO s] } s3 (by omega) rfl v1.pb v1.fb (by simp) (by simp) (by simp) (by simp) (by simp) (by simp)
    · have a : FrP (vmo m h sc si so) w w3 := (F1.trans (F2.mono fun _ h => h.elim)).trans (F3.mono fun b hb => .inr (.inr (.inr (.inr hb))))
      refine a.trans' F4 ?_
      rintro b (rfl | rfl | hb | hb | hb)
      · exact .inl (.inl rfl)
      · exact .inl (.inr (.inl rfl))
      · exact .inl (.inr (.inr (.inl hb)))
      · exact .inl (.inr (.inr (.inr (.inl hb))))
      · exact (hso b hb).elim (fun h => .inl (.inr (.inr (.inr (.inr h))))) fun h => .inr (by omega)
    · exact fun b hb => (hso b hb).elim .inl fun h => .inr (by omega)
theorem nargs_le (op : Nat) : nargs op ≤ 8 := by
  unfold nargs
  repeat' split
  all_goals omega
theorem VQ.pb (q : VQ w m h c inp s sc si so) : s.pc ≤ 70000 := by obtain ⟨g, X, v⟩ := q; exact v.pb
theorem VQ.ldPc {K : Int → Prop} (q : VQ w m h c inp s sc si so) (hK : K (s.pc : Nat)) : LdI .i64 w ⟨m, 55, none⟩ K := by
  obtain ⟨g, X, v⟩ := q
  exact X.ld (by omega) v.pc hK
theorem VQ.last {x : Int} {K : World → Prop} (q : VQ w m h c inp s sc si so) (hs : s.fs = f :: r) (h1 : 1 ≤ f.ops.length) (hK : ∀ w', VQ w' m h c inp (setOps ((top s).ops.take ((top s).ops.length - 1) ++ [x]) s) sc si so → FrP (vmo m h sc si so) w w' → K w') :
    St1 w ⟨m, 1 + Int.toNat ((bs f r + f.ops.length - 1 : Nat) : Int) * 1, none⟩ (.int .i64 x) K := by
  obtain ⟨g, X, v⟩ := q
  have hb := v.bnd hs
  rw [Int.toNat_natCast, Nat.mul_one, show bs f r + f.ops.length - 1 = bs f r + (f.ops.length - 1) by omega]
  rw [top_eq hs] at hK
  refine X.st (by omega) fun w2 X2 F2 _ => hK w2 ⟨_, X2, ?_⟩ F2
  have v2 := v.res (n := 1) (x := x) hs h1 (by omega)
  rw [fset_same (g := g) (j := 49) (by rw [v.spc hs]; congr 2; omega)] at v2
  exact v2
set_option maxHeartbeats 4000000 in
theorem vstep_spec {K : World → Prop} (q : VQ w m h c inp s sc si so) (hs : s.fs = f :: r) (hK : ∀ w' so', VQ w' m h c inp (mstep c inp s) sc si so' → FrP (vmo m h sc si so) w w' → SoG w so so' → K w') : S.vm_VM_step m w K := by
  unfold S.vm_VM_step
  have csl := q.csl
  have cl := q.cl
  have bl := q.byteLt
  obtain ⟨g, X, v⟩ := q
  obtain ⟨y, hy⟩ := v.sv
  refine X.ld (by omega) hy ?_
  refine X.st (by omega) fun w1 X1 F1 _ => ?_
  have q1 : VQ w1 m h c inp s sc si so := ⟨_, X1, v.free (.inl rfl)⟩
  have pb := q1.pb
  refine q1.ldPc (q1.ldC ?_)
  rw [csl]
  unfold mstep at hK
  by_cases h1 : c.length ≤ s.pc
  · rw [if_pos h1] at hK
    rw [if_pos (by simp only [decide_eq_true_eq]; omega)]
    exact q1.trap fun w2 q2 F2 => hK w2 so q2 (F1.trans F2) (SoG.refl _ _)
  rw [if_neg h1] at hK
  rw [if_neg (by simp only [decide_eq_true_eq]; omega)]
  refine q1.ldC (q1.byte (by omega) ?_)
  have hop := bl s.pc
  generalize hop' : c.getD s.pc 0 = op at *
  rw [W_id (x := ((op : Nat) : Int)) (by omega) (by omega)]
  refine let_ (opArgs_spec (join_ ?_))
  by_cases h2 : 37 ≤ op
  · rw [if_pos h2, if_pos (by decide)]
    rw [if_pos (.inl h2)] at hK
    exact q1.trap fun w2 q2 F2 => hK w2 so q2 (F1.trans F2) (SoG.refl _ _)
  rw [if_neg h2, if_neg (by simp only [decide_eq_true_eq]; omega)]
  refine q1.ldC ?_
  have hna : nargs op ≤ 8 := nargs_le op
  rw [csl, W_id (x := ((c.length : Nat) : Int) - (s.pc : Nat)) (by omega) (by omega), W_id (x := ((c.length : Nat) : Int) - (s.pc : Nat) - 1) (by omega) (by omega)]
  by_cases h3 : c.length < s.pc + 1 + nargs op
  · rw [if_pos (by simp only [decide_eq_true_eq]; omega)]
    rw [if_pos (.inr h3)] at hK
    exact q1.trap fun w2 q2 F2 => hK w2 so q2 (F1.trans F2) (SoG.refl _ _)
  rw [if_neg (by simp only [decide_eq_true_eq]; omega)]
  rw [if_neg (by omega)] at hK
  refine iops_spec q1 hs (wantI_spec (by omega) (rops_spec q1.drew hs (wantR_spec (by omega) (join_ ?_))))
  have q1 := q1.drew.drew
  have tn := top_eq hs
  by_cases h4 : f.ops.length < wI op
  · rw [if_pos (by simp only [decide_eq_true_eq]; omega)]
    rw [if_pos (.inl (by rw [tn]; exact h4))] at hK
    exact q1.trap fun w2 q2 F2 => hK w2 so q2 (F1.trans F2) (SoG.refl _ _)
  rw [if_neg (by simp only [decide_eq_true_eq]; omega)]
  by_cases h5 : rops s < wR op
  · rw [if_pos (by simp only [decide_eq_true_eq]; exact h5)]
    rw [if_pos (.inr h5)] at hK
    exact q1.trap fun w2 q2 F2 => hK w2 so q2 (F1.trans F2) (SoG.refl _ _)
  rw [if_neg (by simp only [decide_eq_true_eq]; exact h5)]
  rw [if_neg (by rw [tn]; omega)] at hK
  have epc : W (W (((s.pc : Nat) : Int) + 1) + (nargs op : Nat)) = ((s.pc + 1 + nargs op : Nat) : Int) := by
    rw [W_succ (by omega), W_id (by omega) (by omega)]; omega
  have ep1 : W (((s.pc : Nat) : Int) + 1) = ((s.pc + 1 : Nat) : Int) := W_succ (by omega)
  have ep3 : W (((s.pc : Nat) : Int) + 3) = ((s.pc + 3 : Nat) : Int) := by rw [W_id (by omega) (by omega)]; omega
  rw [epc, ep1, ep3]
  refine q1.setPc (by omega) fun w2 q2 F2 => ?_
  have F12 : FrP (vmo m h sc si so) w w2 := F1.trans F2
  generalize hp : s.pc = p at *
  have hs2 : ({ s with pc := p + 1 + nargs op } : MS).fs = f :: r := hs
  have tn2 : top { s with pc := p + 1 + nargs op } = f := tn
  have hK' : ∀ w' so', VQ w' m h c inp (mop c inp p op { s with pc := p + 1 + nargs op }) sc si so' → FrP (vmo m h sc si so) w2 w' → SoG w2 so so' → K w' := fun w' so' q' F' G' => hK w' so' q' (F12.trans F') (fun b hb => (G' b hb).elim .inl fun h => .inr (Nat.le_trans F12.1.1 h))
  have hK1 : ∀ w', VQ w' m h c inp (mop c inp p op { s with pc := p + 1 + nargs op }) sc si so → FrP (vmo m h sc si so) w2 w' → K w' := fun w' q' F' => hK' w' so q' F' (SoG.refl _ _)
  clear hK hy F1 F2 epc X v X1 q1
  have bx := bl (p + 1)
  have ub : u16At c (p + 1) < 65536 := by have := bl (p + 1); have := bl (p + 1 + 1); unfold u16At; omega
  rcases op37 (by omega : op < 37) with rfl | rfl | rfl | rfl | rfl | rfl | rfl | rfl | rfl | rfl | rfl | rfl | rfl | rfl | rfl | rfl | rfl | rfl | rfl | rfl | rfl | rfl | rfl | rfl | rfl | rfl | rfl | rfl | rfl | rfl | rfl | rfl | rfl | rfl | rfl | rfl | rfl
  -- 0: push
  · rw [mop_0] at hK1
    rw [if_pos (by decide)]
    have : nargs 0 = 8 := rfl
    exact q2.ldC (i64At_spec q2.oc bl cl (by omega) (vpush_spec q2 hs2 hK1))
  -- 1: pop
  · rw [mop_1] at hK1
    repeat (first | rw [if_pos (by decide)] | rw [if_neg (by decide)] | rw [join_eq] | dsimp only)
    have : wI 1 = 1 := rfl
    refine q2.ldSp hs2 fun hb => ?_
    rw [Wsub1 (by omega) (by omega)]
    exact q2.cut hs2 (by omega) fun w3 q3 _ _ F3 => hK1 w3 q3 F3
  -- 2, 3: int locals
  · rw [mop_2] at hK1
    repeat (first | rw [if_pos (by decide)] | rw [if_neg (by decide)] | rw [join_eq] | dsimp only)
    have : nargs 2 = 1 := rfl
    refine q2.ldC (q2.byte (by omega) ?_)
    rw [W_id (by omega) (by omega)]
    refine localI_spec q2 hs2 (.inl rfl) ?_
    intro w3 q3 F3
    refine hK1 w3 ?_ F3
    rw [← tn2] at q3
    exact q3
  · rw [mop_3] at hK1
    repeat (first | rw [if_pos (by decide)] | rw [if_neg (by decide)] | rw [join_eq] | dsimp only)
    have : nargs 3 = 1 := rfl
    have : wI 3 = 1 := rfl
    refine q2.ldC (q2.byte (by omega) ?_)
    rw [W_id (by omega) (by omega)]
    refine localI_spec q2 hs2 (.inr ⟨rfl, by omega⟩) ?_
    intro w3 q3 F3
    refine hK1 w3 ?_ F3
    rw [← tn2] at q3
    exact q3
  -- 4, 5: ref locals
  · rw [mop_4] at hK1
    repeat (first | rw [if_pos (by decide)] | rw [if_neg (by decide)] | rw [join_eq] | dsimp only)
    have : nargs 4 = 1 := rfl
    refine q2.ldC (q2.byte (by omega) ?_)
    rw [W_id (by omega) (by omega)]
    refine localR_spec q2 hs2 bx (.inl rfl) ?_
    intro w3 q3 F3
    refine hK1 w3 ?_ F3
    rw [← tn2] at q3
    exact q3
  · rw [mop_5] at hK1
    repeat (first | rw [if_pos (by decide)] | rw [if_neg (by decide)] | rw [join_eq] | dsimp only)
    have : nargs 5 = 1 := rfl
    refine q2.ldC (q2.byte (by omega) ?_)
    rw [W_id (by omega) (by omega)]
    refine localR_spec q2 hs2 bx (.inr rfl) ?_
    intro w3 q3 F3
    refine hK1 w3 ?_ F3
    rw [← tn2] at q3
    exact q3
  -- 6: popR
  · rw [mop_6] at hK1
    repeat (first | rw [if_pos (by decide)] | rw [if_neg (by decide)] | rw [join_eq] | dsimp only)
    refine q2.ldP (q2.rs.pop fun w3 r3 f3 => ?_)
    obtain ⟨q3, F3⟩ := q2.heap r3 f3
    exact hK1 w3 q3 F3
  -- 7: nilR
  · rw [mop_7] at hK1
    repeat (first | rw [if_pos (by decide)] | rw [if_neg (by decide)] | rw [join_eq] | dsimp only)
    refine q2.ldP (q2.rs.push fun w3 r3 f3 => ?_)
    obtain ⟨q3, F3⟩ := q2.heap r3 f3
    exact did_spec q3 fun w4 q4 F4 => hK1 w4 q4 (F3.trans F4)
  -- 8..12
  · rw [mop_8] at hK1
    repeat (first | rw [if_pos (by decide)] | rw [if_neg (by decide)] | rw [join_eq] | dsimp only)
    have : wI 8 = 2 := rfl
    exact arith_spec q2 hs2 (by omega) (by omega) hK1
  · rw [mop_9] at hK1
    repeat (first | rw [if_pos (by decide)] | rw [if_neg (by decide)] | rw [join_eq] | dsimp only)
    have : wI 9 = 2 := rfl
    exact arith_spec q2 hs2 (by omega) (by omega) hK1
  · rw [mop_10] at hK1
    repeat (first | rw [if_pos (by decide)] | rw [if_neg (by decide)] | rw [join_eq] | dsimp only)
    have : wI 10 = 2 := rfl
    exact arith_spec q2 hs2 (by omega) (by omega) hK1
  · rw [mop_11] at hK1
    repeat (first | rw [if_pos (by decide)] | rw [if_neg (by decide)] | rw [join_eq] | dsimp only)
    have : wI 11 = 2 := rfl
    exact arith_spec q2 hs2 (by omega) (by omega) hK1
  · rw [mop_12] at hK1
    repeat (first | rw [if_pos (by decide)] | rw [if_neg (by decide)] | rw [join_eq] | dsimp only)
    have : wI 12 = 2 := rfl
    exact arith_spec q2 hs2 (by omega) (by omega) hK1
  -- 13: neg
  · rw [mop_13] at hK1
    repeat (first | rw [if_pos (by decide)] | rw [if_neg (by decide)] | rw [join_eq] | dsimp only)
    have : wI 13 = 1 := rfl
    have q2 := q2.drew
    refine drew_ ?_
    refine q2.ldSp hs2 fun hb => ?_
    refine q2.ldSp hs2 fun _ => ?_
    rw [Wsub1 (by omega) (by omega)]
    refine ⟨by omega, by omega, q2.ldLast hs2 (by omega) ⟨by omega, by omega, ?_⟩⟩
    exact q2.last hs2 (by omega) hK1
  -- 14: not
  · rw [mop_14] at hK1
    repeat (first | rw [if_pos (by decide)] | rw [if_neg (by decide)] | rw [join_eq] | dsimp only)
    have : wI 14 = 1 := rfl
    have q2 := q2.drew
    refine drew_ ?_
    refine q2.ldSp hs2 fun hb => ?_
    refine q2.ldSp hs2 fun _ => ?_
    rw [Wsub1 (by omega) (by omega)]
    refine ⟨by omega, by omega, q2.ldLast hs2 (by omega) (flag_spec ⟨?_, by omega, by omega, ?_⟩)⟩
    · obtain ⟨g, X, v⟩ := q2
      exact held X.rc X.rc
    · refine q2.last hs2 (by omega) fun w3 q3 F3 => hK1 w3 ?_ F3
      have e : (if (lastO { s with pc := p + 1 + nargs 14 } == 0) = true then (1 : Int) else 0) = b01 (lastO { s with pc := p + 1 + nargs 14 } = 0) := by unfold b01; simp only [beq_iff_eq]
      rw [e] at q3
      exact q3
  -- 15..20
  · rw [mop_15] at hK1
    repeat (first | rw [if_pos (by decide)] | rw [if_neg (by decide)] | rw [join_eq] | dsimp only)
    have : wI 15 = 2 := rfl
    exact compare_spec q2 hs2 (by omega) (by omega) hK1
  · rw [mop_16] at hK1
    repeat (first | rw [if_pos (by decide)] | rw [if_neg (by decide)] | rw [join_eq] | dsimp only)
    have : wI 16 = 2 := rfl
    exact compare_spec q2 hs2 (by omega) (by omega) hK1
  · rw [mop_17] at hK1
    repeat (first | rw [if_pos (by decide)] | rw [if_neg (by decide)] | rw [join_eq] | dsimp only)
    have : wI 17 = 2 := rfl
    exact compare_spec q2 hs2 (by omega) (by omega) hK1
  · rw [mop_18] at hK1
    repeat (first | rw [if_pos (by decide)] | rw [if_neg (by decide)] | rw [join_eq] | dsimp only)
    have : wI 18 = 2 := rfl
    exact compare_spec q2 hs2 (by omega) (by omega) hK1
  · rw [mop_19] at hK1
    repeat (first | rw [if_pos (by decide)] | rw [if_neg (by decide)] | rw [join_eq] | dsimp only)
    have : wI 19 = 2 := rfl
    exact compare_spec q2 hs2 (by omega) (by omega) hK1
  · rw [mop_20] at hK1
    repeat (first | rw [if_pos (by decide)] | rw [if_neg (by decide)] | rw [join_eq] | dsimp only)
    have : wI 20 = 2 := rfl
    exact compare_spec q2 hs2 (by omega) (by omega) hK1
  -- 21: jmp
  · rw [mop_21] at hK1
    repeat (first | rw [if_pos (by decide)] | rw [if_neg (by decide)] | rw [join_eq] | dsimp only)
    have : nargs 21 = 2 := rfl
    exact q2.ldC (u16At_spec q2.oc bl cl (by omega) (vjump_spec q2.drew hK1))
  -- 22: jz
  · rw [mop_22] at hK1
    repeat (first | rw [if_pos (by decide)] | rw [if_neg (by decide)] | rw [join_eq] | dsimp only)
    have : nargs 22 = 2 := rfl
    have : wI 22 = 1 := rfl
    refine q2.ldSp hs2 fun hb => ?_
    rw [Wsub1 (by omega) (by omega)]
    refine q2.cut hs2 (by omega) fun w3 q3 rd sp F3 => drew_ (sp _ ⟨by omega, by omega, ?_⟩)
    have q3 := q3.drew
    rw [Int.toNat_natCast, Nat.mul_one, show bs f r + f.ops.length - 1 = bs f r + (f.ops.length - 1) by omega]
    refine rd (f.ops.length - 1) _ (by omega) ?_
    have el : f.ops.getD (f.ops.length - 1) 0 = lastO { s with pc := p + 1 + nargs 22 } := by unfold lastO; rw [tn2]
    rw [el]
    by_cases hz : lastO { s with pc := p + 1 + nargs 22 } = 0
    · rw [if_pos hz] at hK1
      rw [if_pos (by simpa using hz)]
      exact q3.ldC (u16At_spec q3.oc bl cl (by omega) (vjump_spec q3.drew fun w4 q4 F4 => hK1 w4 q4 (F3.trans F4)))
    · rw [if_neg hz] at hK1
      rw [if_neg (by simpa using hz)]
      exact hK1 _ q3 F3
  -- 23: jnz
  · rw [mop_23] at hK1
    repeat (first | rw [if_pos (by decide)] | rw [if_neg (by decide)] | rw [join_eq] | dsimp only)
    have : nargs 23 = 2 := rfl
    have : wI 23 = 1 := rfl
    refine q2.ldSp hs2 fun hb => ?_
    rw [Wsub1 (by omega) (by omega)]
    refine q2.cut hs2 (by omega) fun w3 q3 rd sp F3 => drew_ (sp _ ⟨by omega, by omega, ?_⟩)
    have q3 := q3.drew
    rw [Int.toNat_natCast, Nat.mul_one, show bs f r + f.ops.length - 1 = bs f r + (f.ops.length - 1) by omega]
    refine rd (f.ops.length - 1) _ (by omega) ?_
    have el : f.ops.getD (f.ops.length - 1) 0 = lastO { s with pc := p + 1 + nargs 23 } := by unfold lastO; rw [tn2]
    rw [el]
    by_cases hz : lastO { s with pc := p + 1 + nargs 23 } ≠ 0
    · rw [if_pos hz] at hK1
      rw [if_pos (by simpa using hz)]
      exact q3.ldC (u16At_spec q3.oc bl cl (by omega) (vjump_spec q3.drew fun w4 q4 F4 => hK1 w4 q4 (F3.trans F4)))
    · rw [if_neg hz] at hK1
      rw [if_neg (by simpa using hz)]
      exact hK1 _ q3 F3
  -- 24: call
  · rw [mop_24] at hK1
    repeat (first | rw [if_pos (by decide)] | rw [if_neg (by decide)] | rw [join_eq] | dsimp only)
    have : nargs 24 = 2 := rfl
    exact q2.ldC (u16At_spec q2.oc bl cl (by omega) (venter_spec q2.drew (by omega) ub hK1))
  -- 25: enter
  · rw [mop_25] at hK1
    repeat (first | rw [if_pos (by decide)] | rw [if_neg (by decide)] | rw [join_eq] | dsimp only)
    exact q2.trap hK1
  -- 26, 27: returns
  · rw [mop_26] at hK1
    repeat (first | rw [if_pos (by decide)] | rw [if_neg (by decide)] | rw [join_eq] | dsimp only)
    have : wI 26 = 1 := rfl
    exact retI_spec q2 hs2 (by omega) hK1
  · rw [mop_27] at hK1
    repeat (first | rw [if_pos (by decide)] | rw [if_neg (by decide)] | rw [join_eq] | dsimp only)
    exact retR_spec q2 hs2 hK1
  -- 28, 29: new
  · rw [mop_28] at hK1
    repeat (first | rw [if_pos (by decide)] | rw [if_neg (by decide)] | rw [join_eq] | dsimp only)
    have : wI 28 = 1 := rfl
    exact vborn_spec q2 hs2 (by omega) (.inl rfl) hK1
  · rw [mop_29] at hK1
    repeat (first | rw [if_pos (by decide)] | rw [if_neg (by decide)] | rw [join_eq] | dsimp only)
    have : wI 29 = 1 := rfl
    exact vborn_spec q2 hs2 (by omega) (.inr rfl) hK1
  -- 30, 31: get
  · rw [mop_30] at hK1
    repeat (first | rw [if_pos (by decide)] | rw [if_neg (by decide)] | rw [join_eq] | dsimp only)
    have : wI 30 = 1 := rfl
    exact vget_spec q2 hs2 (by omega) (.inl rfl) hK1
  · rw [mop_31] at hK1
    repeat (first | rw [if_pos (by decide)] | rw [if_neg (by decide)] | rw [join_eq] | dsimp only)
    have : wI 31 = 1 := rfl
    exact vget_spec q2 hs2 (by omega) (.inr rfl) hK1
  -- 32, 33: set
  · rw [mop_32] at hK1
    repeat (first | rw [if_pos (by decide)] | rw [if_neg (by decide)] | rw [join_eq] | dsimp only)
    have : wI 32 = 2 := rfl
    exact vset_spec q2 hs2 (.inl ⟨rfl, by omega⟩) hK1
  · rw [mop_33] at hK1
    repeat (first | rw [if_pos (by decide)] | rw [if_neg (by decide)] | rw [join_eq] | dsimp only)
    have : wI 33 = 1 := rfl
    exact vset_spec q2 hs2 (.inr ⟨rfl, by omega⟩) hK1
  -- 34: len
  · rw [mop_34] at hK1
    repeat (first | rw [if_pos (by decide)] | rw [if_neg (by decide)] | rw [join_eq] | dsimp only)
    exact vlen_spec q2 hs2 hK1
  -- 35: print
  · rw [mop_35] at hK1 hK'
    repeat (first | rw [if_pos (by decide)] | rw [if_neg (by decide)] | rw [join_eq] | dsimp only)
    have : wI 35 = 1 := rfl
    exact vprint_spec q2 hs2 (by omega) hK'
  -- 36: read
  · rw [mop_36] at hK1
    repeat (first | rw [if_pos (by decide)] | rw [if_neg (by decide)] | rw [join_eq] | dsimp only)
    exact vread_spec q2 hs2 hK1
end Go.Proofs.Qxb6500562aGreat
