/-
  The machine: pushes, counts, bytes of the code.
-/
import Derived.Test.Qxb6500562aGreatVmA
import Derived.Test.Qxb6500562aGreatCkO
namespace Go.Proofs.Qxb6500562aGreat
open Go.Den Go.Zip
set_option linter.unusedVariables false
set_option linter.unusedSimpArgs false
variable {w w' : World} {m h : Nat} {c : List Nat} {inp : List Int} {s : MS} {g g' : Nat → Value} {sc si so : Sl} {O O' : Nat → Prop} {H : SH} {out : List Int} {f : Fm} {r : List Fm}

def VQ (w : World) (m h : Nat) (c : List Nat) (inp : List Int) (s : MS) (sc si so : Sl) : Prop := ∃ g, VX w m h c inp s.H s.out g sc si so ∧ VG g h sc si so s
theorem VQ.drew (q : VQ w m h c inp s sc si so) : VQ w.drew m h c inp s sc si so := by obtain ⟨g, a, b⟩ := q; exact ⟨g, a.drew, b⟩
theorem VQ.trap {e : Int} {K : World → Prop} (q : VQ w m h c inp s sc si so) (hK : ∀ w', VQ w' m h c inp (trap e s) sc si so → FrP (vmo m h sc si so) w w' → K w') : St1 w ⟨m, 61, none⟩ (.int .i64 e) K := by
  obtain ⟨g, x, v⟩ := q
  exact x.st (by omega) fun w' x' F _ => hK w' ⟨_, x', v.trap⟩ F
theorem VQ.setPc {p : Nat} {K : World → Prop} (q : VQ w m h c inp s sc si so) (hp : p ≤ 70000) (hK : ∀ w', VQ w' m h c inp { s with pc := p } sc si so → FrP (vmo m h sc si so) w w' → K w') : St1 w ⟨m, 55, none⟩ (.int .i64 (p : Nat)) K := by
  obtain ⟨g, x, v⟩ := q
  exact x.st (by omega) fun w' x' F _ => hK w' ⟨_, x', v.setPc hp⟩ F
theorem VQ.spend {K : Bool → World → Prop} (q : VQ w m h c inp s sc si so) (h1 : s.fuel ≤ 0 → ∀ w', VQ w' m h c inp (Go.Proofs.Qxb6500562aGreat.trap 22 s) sc si so → FrP (vmo m h sc si so) w w' → K false w')
    (h2 : 0 < s.fuel → ∀ w', VQ w' m h c inp { s with fuel := s.fuel - 1 } sc si so → FrP (vmo m h sc si so) w w' → K true w') : S.vm_VM_spend m w K := by
  obtain ⟨g, x, v⟩ := q
  unfold S.vm_VM_spend
  refine x.ld (by omega) v.fu ?_
  by_cases hh : s.fuel ≤ 0
  · rw [if_pos (by simp only [decide_eq_true_eq]; exact hh)]
    exact VQ.trap ⟨g, x, v⟩ (h1 hh)
  · rw [if_neg (by simp only [decide_eq_true_eq]; exact hh)]
    refine x.ld (by omega) v.fu ?_
    have fb := v.fb
    rw [W_id (by omega) (by omega)]
    refine x.st (by omega) fun w' x' F _ => h2 (by omega) w' ⟨_, x', ?_⟩ F
    exact v.reg _ _ (by omega) rfl v.pb (by dsimp only; omega) (by simp) (by simp) (by simp) (by simp) (by simp) (by simp)
theorem take_getD {l : List Int} {n j : Nat} (hj : j < (l.take n).length) : (l.take n).getD j 0 = l.getD j 0 := by
  have : j < n := by rw [List.length_take] at hj; omega
  rw [List.getD_eq_getElem?_getD, List.getD_eq_getElem?_getD, List.getElem?_take_of_lt this]
/-- The operand's cell. -/
theorem VG.opc {j : Nat} (v : VG g h sc si so s) (hs : s.fs = f :: r) (hj : j < f.ops.length) : g (1 + (bs f r + j)) = .int .i64 (f.ops.getD j 0) := by
  rw [v.st _ (by rw [hs, wsz_cons]; omega), hs, words_op]
theorem VG.bnd (v : VG g h sc si so s) (hs : s.fs = f :: r) : bs f r + f.ops.length ≤ 48 := by have := v.le; rw [hs, wsz_cons] at this; exact this
theorem VG.spc (v : VG g h sc si so s) (hs : s.fs = f :: r) : g 49 = .int .i64 ((bs f r + f.ops.length : Nat) : Int) := by rw [v.sp, hs, wsz_cons]
/-- sp falls by n. -/
theorem VG.cut {n : Nat} (v : VG g h sc si so s) (hs : s.fs = f :: r) (hn : n ≤ f.ops.length) : VG (fset g 49 (.int .i64 ((bs f r + (f.ops.length - n) : Nat) : Int))) h sc si so (cutO1 n s) := by
  have hb := v.bnd hs
  unfold cutO1
  rw [top_eq hs]
  have hl : (f.ops.take (f.ops.length - n)).length = f.ops.length - n := by rw [List.length_take]; omega
  refine v.ops hs (fun j hj => fset_ne (by omega)) (fun j hj => ?_) (fun j hj => ?_) ?_ ?_ (by omega)
  · rw [fset_ne (by omega), take_getD hj, v.opc hs (by omega)]
  · rw [fset_ne (by omega)]; exact v.sk j hj
  · rw [fset_eq, hl]
  · rw [fset_ne (by omega)]; exact v.mx
/-- The last n operands give way to one. -/
theorem VG.res {n : Nat} {x : Int} (v : VG g h sc si so s) (hs : s.fs = f :: r) (hn : n ≤ f.ops.length) (h1 : 0 < n) : VG (fset (fset g 49 (.int .i64 ((bs f r + (f.ops.length - n) + 1 : Nat) : Int))) (1 + (bs f r + (f.ops.length - n))) (.int .i64 x)) h sc si so (setOps (f.ops.take (f.ops.length - n) ++ [x]) s) := by
  have hb := v.bnd hs
  have hl : (f.ops.take (f.ops.length - n)).length = f.ops.length - n := by rw [List.length_take]; omega
  refine v.ops hs (fun j hj => by rw [fset_ne (by omega), fset_ne (by omega)]) (fun j hj => ?_) (fun j hj => ?_) ?_ ?_ (by simp only [List.length_append, hl, List.length_singleton]; omega)
  · simp only [List.length_append, hl, List.length_singleton] at hj
    by_cases e : j = f.ops.length - n
    · subst e
      rw [fset_eq, getD_app2 (j := 0) (by rw [hl]; rfl)]; rfl
    · rw [fset_ne (by omega), fset_ne (by omega), getD_app1 (by omega), take_getD (by omega), v.opc hs (by omega)]
  · by_cases e : 1 + j = 1 + (bs f r + (f.ops.length - n))
    · rw [e, fset_eq]; exact ⟨x, rfl⟩
    · rw [fset_ne e, fset_ne (by omega)]; exact v.sk j hj
  · rw [fset_ne (by omega), fset_eq]
    simp only [List.length_append, hl, List.length_singleton]; rfl
  · rw [fset_ne (by omega), fset_ne (by omega)]; exact v.mx
theorem setTop_fs (s : MS) (f : Fm) : (setTop f s).fs = f :: s.fs.tail := rfl
theorem vpush_spec {x : Int} {K : World → Prop} (q : VQ w m h c inp s sc si so) (hs : s.fs = f :: r) (hK : ∀ w', VQ w' m h c inp (mpush x s) sc si so → FrP (vmo m h sc si so) w w' → K w') : S.vm_VM_push m x w K := by
  obtain ⟨g, X, v⟩ := q
  unfold S.vm_VM_push
  have hb := v.bnd hs
  have hsp : sp s = bs f r + f.ops.length := by unfold sp; rw [hs, wsz_cons]
  refine X.ld (by omega) (v.spc hs) ?_
  unfold mpush at hK
  rw [hsp, top_eq hs] at hK
  by_cases h48 : 48 ≤ bs f r + f.ops.length
  · rw [if_pos (by simp only [decide_eq_true_eq]; omega)]
    rw [if_pos h48] at hK
    exact VQ.trap ⟨g, X, v⟩ hK
  · rw [if_neg (by simp only [decide_eq_true_eq]; omega)]
    rw [if_neg h48] at hK
    refine drew_ ?_
    have X := X.drew
    refine X.ld (by omega) (v.spc hs) ⟨by omega, by omega, ?_⟩
    rw [Int.toNat_natCast, Nat.mul_one]
    refine X.st (by omega) fun w1 X1 F1 _ => ?_
    refine X1.ld (by omega) (by rw [fset_ne (by omega)]; exact v.spc hs) ?_
    rw [W_succ (by omega)]
    refine X1.st (by omega) fun w2 X2 F2 _ => drew_ ?_
    have X2 := X2.drew
    have F := F1.trans F2
    have V : ∀ g', (∀ j, j ≠ 64 → g' j = fset (fset g (1 + (bs f r + f.ops.length)) (.int .i64 x)) 49 (.int .i64 ((bs f r + f.ops.length + 1 : Nat) : Int)) j) → (∃ y, g' 64 = .int .i64 y) → VG g' h sc si so (setOps (f.ops ++ [x]) s) := by
      intro g' e1 e2
      refine v.ops hs (fun j hj => ?_) (fun j hj => ?_) (fun j hj => ?_) ?_ e2 (by simp; omega)
      · by_cases e : j = 64
        · omega
        · rw [e1 j e, fset_ne (by omega), fset_ne (by omega)]
      · simp only [List.length_append, List.length_singleton] at hj
        rw [e1 _ (by omega), fset_ne (by omega)]
        by_cases e : j = f.ops.length
        · subst e; rw [fset_eq, getD_app2 (j := 0) (by omega)]; rfl
        · rw [fset_ne (by omega), getD_app1 (by omega), v.opc hs (by omega)]
      · rw [e1 _ (by omega), fset_ne (by omega)]
        by_cases e : 1 + j = 1 + (bs f r + f.ops.length)
        · rw [e, fset_eq]; exact ⟨x, rfl⟩
        · rw [fset_ne e]; exact v.sk j hj
      · rw [e1 _ (by omega), fset_eq]; simp only [List.length_append, List.length_singleton]; rfl
    refine X2.ld (by omega) (fset_eq _ _ _) ?_
    obtain ⟨y, hy⟩ := v.mx
    refine X2.ld (by omega) (by rw [fset_ne (by omega), fset_ne (by omega)]; exact hy) ?_
    split
    · refine X2.ld (by omega) (fset_eq _ _ _) ?_
      refine X2.st (by omega) fun w3 X3 F3 _ => hK w3 ⟨_, X3, V _ (fun j hj => fset_ne hj) ⟨_, fset_eq _ _ _⟩⟩ (F.trans F3)
    · exact hK _ ⟨_, X2, V _ (fun j hj => rfl) ⟨y, by rw [fset_ne (by omega), fset_ne (by omega)]; exact hy⟩⟩ F
theorem iops_spec {K : Int → World → Prop} (q : VQ w m h c inp s sc si so) (hs : s.fs = f :: r) (hK : K (f.ops.length : Nat) w.drew) : S.vm_VM_iops m w K := by
  obtain ⟨g, X, v⟩ := q
  unfold S.vm_VM_iops
  have hb := v.bnd hs
  refine drew_ (X.drew.ld (by omega) (v.spc hs) (X.drew.ld (by omega) v.fp (X.drew.ld (by omega) v.li ?_)))
  rw [hs]
  have e1 : (topLi (f :: r)) = f.loc.length := rfl
  have e2 : (f :: r).tail = r := rfl
  have e3 : bs f r = wsz r + f.loc.length + 3 := rfl
  rw [e1, e2, W_id (x := ((bs f r + f.ops.length : Nat) : Int) - (wsz r : Nat)) (by omega) (by omega), W_id (x := ((bs f r + f.ops.length : Nat) : Int) - (wsz r : Nat) - (f.loc.length : Nat)) (by omega) (by omega), W_id (by omega) (by omega)]
  rw [show ((bs f r + f.ops.length : Nat) : Int) - (wsz r : Nat) - (f.loc.length : Nat) - 3 = (f.ops.length : Nat) by omega]
  exact hK
theorem rops_spec {K : Int → World → Prop} (q : VQ w m h c inp s sc si so) (hs : s.fs = f :: r) (hK : K (rops s) w.drew) : S.vm_VM_rops m w K := by
  obtain ⟨g, X, v⟩ := q
  unfold S.vm_VM_rops
  have X := X.drew
  refine drew_ (X.ldP v.hp ?_)
  refine X.ld (by omega) v.rb ?_
  refine X.ld (by omega) v.lr ?_
  have hle := X.hp.le
  refine X.hp.depth ?_
  refine ⟨held X.rc X.rc, held X.rc X.rc, ?_⟩
  have fk := v.fk f (by rw [hs]; exact List.mem_cons_self ..)
  unfold FOK at fk
  have e1 : topRb s.fs = f.rb := by rw [hs]; rfl
  have e2 : topLr s.fs = f.lr := by rw [hs]; rfl
  rw [e1, e2, W_id (x := ((s.H.roots.length : Nat) : Int) - (f.rb : Nat)) (by omega) (by omega), W_id (by omega) (by omega)]
  unfold rops at hK
  rw [top_eq hs] at hK
  exact hK
end Go.Proofs.Qxb6500562aGreat
