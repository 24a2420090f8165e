/-
  The machine: returns, arithmetic, locals.
-/
import Derived.Test.Qxb6500562aGreatVmD
import Derived.Test.Qxb6500562aGreatVmQ
namespace Go.Proofs.Qxb6500562aGreat
open Go.Den Go.Zip
set_option linter.unusedVariables false
set_option linter.unusedSimpArgs false
variable {w w' : World} {m h : Nat} {c : List Nat} {inp : List Int} {s : MS} {g g' : Nat → Value} {sc si so : Sl} {O O' : Nat → Prop} {H : SH} {out : List Int} {f : Fm} {r : List Fm}

theorem Wsub {k n : Nat} (hn : n ≤ k) (hk : k < 1000000) : W ((k : Int) - (n : Int)) = ((k - n : Nat) : Int) := by rw [W_id (by omega) (by omega)]; omega
theorem Wsub1 {k : Nat} (hn : 1 ≤ k) (hk : k < 1000000) : W ((k : Int) - 1) = ((k - 1 : Nat) : Int) := Wsub hn hk
theorem Wsub2 {k : Nat} (hn : 2 ≤ k) (hk : k < 1000000) : W ((k : Int) - 2) = ((k - 2 : Nat) : Int) := Wsub hn hk
theorem VQ.ldNf {K : Int → Prop} (q : VQ w m h c inp s sc si so) (hK : K (s.fs.length : Nat)) : LdI .i64 w ⟨m, 54, none⟩ K := by
  obtain ⟨g, X, v⟩ := q
  exact X.ld (by omega) v.nf hK
theorem VQ.ldRb {K : Int → Prop} (q : VQ w m h c inp s sc si so) (hK : K (topRb s.fs : Nat)) : LdI .i64 w ⟨m, 53, none⟩ K := by
  obtain ⟨g, X, v⟩ := q
  exact X.ld (by omega) v.rb hK
theorem VQ.setRv {x : Int} {K : World → Prop} (q : VQ w m h c inp s sc si so) (hK : ∀ w', VQ w' m h c inp { s with rv := x } sc si so → FrP (vmo m h sc si so) w w' → K w') : St1 w ⟨m, 62, none⟩ (.int .i64 x) K := by
  obtain ⟨g, X, v⟩ := q
  refine X.st (by omega) fun w' X' F _ => hK w' ⟨_, X', ?_⟩ F
  exact v.reg _ _ (by omega) rfl v.pb v.fb (by simp) (by simp) (by simp) (by simp) (by simp) (by simp)
theorem VQ.fk (q : VQ w m h c inp s sc si so) : ∀ f ∈ s.fs, FOK f := by obtain ⟨g, X, v⟩ := q; exact v.fk
theorem retI_spec {K : World → Prop} (q : VQ w m h c inp s sc si so) (hs : s.fs = f :: r) (h1 : 1 ≤ f.ops.length) (hK : ∀ w', VQ w' m h c inp (mretI s) sc si so → FrP (vmo m h sc si so) w w' → K w') : S.vm_VM_retI m w K := by
  unfold S.vm_VM_retI
  obtain ⟨g, X, v⟩ := q
  have hb := v.bnd hs
  have X := X.drew
  refine drew_ (X.ld (by omega) (v.spc hs) ?_)
  rw [Wsub1 (by omega) (by omega)]
  refine ⟨by omega, by omega, ?_⟩
  rw [Int.toNat_natCast, Nat.mul_one, show bs f r + f.ops.length - 1 = bs f r + (f.ops.length - 1) by omega]
  refine X.ld (by omega) (v.opc hs (by omega)) ?_
  have hrl := X.hp.le
  have q : VQ w.drew m h c inp s sc si so := ⟨g, X, v⟩
  refine q.ldP (q.rs.depth (drew_ ?_))
  have q := q.drew
  refine q.ldP (q.ldRb ?_)
  have ff := v.fk f (by rw [hs]; exact List.mem_cons_self ..)
  unfold FOK at ff
  have e1 : topRb s.fs = f.rb := by rw [hs]; rfl
  rw [e1, W_id (by omega) (by omega)]
  refine q.rs.pop fun w1 r1 f1 => ?_
  obtain ⟨q1, F1⟩ := q.heap r1 f1
  refine vleave_spec q1 hs fun w2 q2 F2 => q2.ldNf ?_
  have hm : mretI s = (if r = [] then { (mleave { s with H := (hPop s.H ((s.H.roots.length : Int) - f.rb)).2 }) with en := 21, rv := f.ops.getD (f.ops.length - 1) 0 } else mpush (f.ops.getD (f.ops.length - 1) 0) (mleave { s with H := (hPop s.H ((s.H.roots.length : Int) - f.rb)).2 })) := by
    unfold mretI
    dsimp only
    rw [top_eq hs]
    have : (mleave { s with H := (hPop s.H ((s.H.roots.length : Int) - f.rb)).2 }).fs = r := by show s.fs.tail = r; rw [hs]; rfl
    unfold lastO
    rw [this, top_eq hs]
  rw [hm] at hK
  have hr : (mleave { s with H := (hPop s.H ((s.H.roots.length : Int) - f.rb)).2 }).fs = r := by show s.fs.tail = r; rw [hs]; rfl
  rw [hr]
  cases r with
  | nil =>
    rw [if_pos rfl] at hK
    rw [if_pos (by simp)]
    exact q2.trap fun w3 q3 F3 => q3.setRv fun w4 q4 F4 => hK w4 q4 (((F1.trans F2).trans F3).trans F4)
  | cons f2 r2 =>
    rw [if_neg (by simp)] at hK
    rw [if_neg (by simp only [List.length_cons, beq_iff_eq]; omega)]
    exact vpush_spec q2 hr fun w3 q3 F3 => hK w3 q3 ((F1.trans F2).trans F3)
theorem retR_spec {K : World → Prop} (q : VQ w m h c inp s sc si so) (hs : s.fs = f :: r) (hK : ∀ w', VQ w' m h c inp (mretR s) sc si so → FrP (vmo m h sc si so) w w' → K w') : S.vm_VM_retR m w K := by
  unfold S.vm_VM_retR
  have ff := q.fk f (by rw [hs]; exact List.mem_cons_self ..)
  unfold FOK at ff
  refine q.ldNf ?_
  unfold mretR at hK
  by_cases h1 : s.fs.length = 1
  · rw [if_pos h1] at hK
    rw [if_pos (by rw [h1]; rfl)]
    exact q.trap hK
  · rw [if_neg h1] at hK
    rw [if_neg (by simp only [beq_iff_eq]; omega)]
    have hrl := q.rs.le
    refine q.ldP (q.rs.depth (drew_ ?_))
    have q := q.drew
    refine q.ldP (q.ldRb ?_)
    have e1 : topRb s.fs = f.rb := by rw [hs]; rfl
    rw [e1, W_id (x := ((s.H.roots.length : Nat) : Int) - (f.rb : Nat)) (by omega) (by omega), W_id (by omega) (by omega)]
    rw [top_eq hs] at hK
    refine q.rs.slide fun w1 r1 f1 => ?_
    obtain ⟨q1, F1⟩ := q.heap r1 f1
    exact vleave_spec q1 hs fun w2 q2 F2 => hK w2 q2 (F1.trans F2)
theorem quo_spec {a b : Int} {K : Int → World → Prop} (hb : b ≠ 0) (hK : K (quo a b) w) : S.api_Quo a b w K := by
  unfold S.api_Quo
  unfold quo at hK
  rw [if_neg (by simpa using hb)]
  by_cases h1 : b = -1
  · rw [if_pos h1] at hK; rw [if_pos (by simp [h1])]; exact hK
  · rw [if_neg h1] at hK; rw [if_neg (by simpa using h1)]; exact ⟨hb, hK⟩
theorem rem_spec {a b : Int} {K : Int → World → Prop} (hb : b ≠ 0) (hK : K (rem a b) w) : S.api_Rem a b w K := by
  unfold S.api_Rem
  unfold rem at hK
  rw [if_neg (by simpa using hb)]
  by_cases h1 : b = -1
  · rw [if_pos h1] at hK; rw [if_pos (by simp [h1])]; exact hK
  · rw [if_neg h1] at hK; rw [if_neg (by simpa using h1)]; exact ⟨hb, hK⟩
theorem arith_spec {op : Nat} {K : World → Prop} (q : VQ w m h c inp s sc si so) (hs : s.fs = f :: r) (h2 : 2 ≤ f.ops.length) (ho : op = 8 ∨ op = 9 ∨ op = 10 ∨ op = 11 ∨ op = 12) (hK : ∀ w', VQ w' m h c inp (marith op s) sc si so → FrP (vmo m h sc si so) w w' → K w') : S.vm_VM_arith m (op : Nat) w K := by
  unfold S.vm_VM_arith
  obtain ⟨g, X, v⟩ := q
  have hb := v.bnd hs
  refine X.ld (by omega) (v.spc hs) ?_
  rw [Wsub1 (by omega) (by omega)]
  refine X.st (by omega) fun w1 X1 F1 _ => drew_ ?_
  have X1 := X1.drew
  refine X1.ld (by omega) (fset_eq _ _ _) ?_
  rw [Wsub1 (by omega) (by omega)]
  refine ⟨by omega, by omega, ?_⟩
  rw [Int.toNat_natCast, Nat.mul_one, show bs f r + f.ops.length - 1 - 1 = bs f r + (f.ops.length - 2) by omega]
  refine X1.ld (by omega) (by rw [fset_ne (by omega)]; exact v.opc hs (by omega)) ?_
  refine X1.ld (by omega) (fset_eq _ _ _) ⟨by omega, by omega, ?_⟩
  rw [Int.toNat_natCast, Nat.mul_one, show bs f r + f.ops.length - 1 = bs f r + (f.ops.length - 1) by omega]
  rw [show bs f r + f.ops.length - 1 = bs f r + (f.ops.length - 1) by omega] at X1
  refine X1.ld (by omega) (by rw [fset_ne (by omega)]; exact v.opc hs (by omega)) ?_
  unfold marith lastO at hK
  rw [top_eq hs] at hK
  generalize ea : f.ops.getD (f.ops.length - 2) 0 = a at *
  generalize eb : f.ops.getD (f.ops.length - 1) 0 = b at *
  have F1' : FrP (vmo m h sc si so) w w1.drew := F1.drew
  refine join_P (fun y u => VX u m h c inp s.H s.out (fset g 49 (.int .i64 ((bs f r + (f.ops.length - 1) : Nat) : Int))) sc si so ∧ FrP (vmo m h sc si so) w u ∧ arith op a b = some y) ?_ ?_
  · rintro y u ⟨X2, F2, hy⟩
    rw [hy] at hK
    refine drew_ ?_
    have X2 := X2.drew
    refine X2.ld (by omega) (fset_eq _ _ _) ?_
    rw [Wsub1 (by omega) (by omega)]
    refine ⟨by omega, by omega, ?_⟩
    rw [Int.toNat_natCast, Nat.mul_one, show bs f r + (f.ops.length - 1) - 1 = bs f r + (f.ops.length - 2) by omega]
    refine X2.st (by omega) fun w3 X3 F3 _ => hK w3 ⟨_, X3, ?_⟩ (F2.trans F3)
    have := v.res (n := 2) (x := y) hs h2 (by omega)
    rw [show bs f r + (f.ops.length - 2) + 1 = bs f r + (f.ops.length - 1) by omega] at this
    exact this
  · intro J hJ
    have q1 : VQ w1.drew m h c inp (cutO1 1 s) sc si so := ⟨_, X1, v.cut (n := 1) hs (by omega)⟩
    rcases ho with rfl | rfl | rfl | rfl | rfl
    · exact hJ _ _ ⟨X1, F1', rfl⟩
    · exact hJ _ _ ⟨X1, F1', rfl⟩
    · exact hJ _ _ ⟨X1, F1', rfl⟩
    · rw [if_neg (by decide), if_neg (by decide), if_neg (by decide), if_pos (by decide)]
      by_cases hz : b = 0
      · have hn : arith 11 a b = none := by unfold arith; simp [hz]
        rw [hn] at hK
        rw [if_pos (by simp [hz])]
        exact q1.trap fun w2 q2 F2 => hK w2 q2 (F1.trans F2)
      · rw [if_neg (by simpa using hz)]
        exact quo_spec hz (hJ _ _ ⟨X1, F1', by unfold arith; simp [hz]⟩)
    · rw [if_neg (by decide), if_neg (by decide), if_neg (by decide), if_neg (by decide), if_pos (by decide)]
      by_cases hz : b = 0
      · have hn : arith 12 a b = none := by unfold arith; simp [hz]
        rw [hn] at hK
        rw [if_pos (by simp [hz])]
        exact q1.trap fun w2 q2 F2 => hK w2 q2 (F1.trans F2)
      · rw [if_neg (by simpa using hz)]
        exact rem_spec hz (hJ _ _ ⟨X1, F1', by unfold arith; simp [hz]⟩)
theorem compare_spec {op : Nat} {K : World → Prop} (q : VQ w m h c inp s sc si so) (hs : s.fs = f :: r) (h2 : 2 ≤ f.ops.length) (ho : op = 15 ∨ op = 16 ∨ op = 17 ∨ op = 18 ∨ op = 19 ∨ op = 20) (hK : ∀ w', VQ w' m h c inp (marith op s) sc si so → FrP (vmo m h sc si so) w w' → K w') : S.vm_VM_compare m (op : Nat) w K := by
  unfold S.vm_VM_compare
  obtain ⟨g, X, v⟩ := q
  have hb := v.bnd hs
  refine X.ld (by omega) (v.spc hs) ?_
  rw [Wsub1 (by omega) (by omega)]
  refine X.st (by omega) fun w1 X1 F1 _ => drew_ ?_
  have X1 := X1.drew
  refine X1.ld (by omega) (fset_eq _ _ _) ?_
  rw [Wsub1 (by omega) (by omega)]
  refine ⟨by omega, by omega, ?_⟩
  rw [Int.toNat_natCast, Nat.mul_one, show bs f r + f.ops.length - 1 - 1 = bs f r + (f.ops.length - 2) by omega]
  refine X1.ld (by omega) (by rw [fset_ne (by omega)]; exact v.opc hs (by omega)) ?_
  refine X1.ld (by omega) (fset_eq _ _ _) ⟨by omega, by omega, ?_⟩
  rw [Int.toNat_natCast, Nat.mul_one, show bs f r + f.ops.length - 1 = bs f r + (f.ops.length - 1) by omega]
  rw [show bs f r + f.ops.length - 1 = bs f r + (f.ops.length - 1) by omega] at X1
  refine X1.ld (by omega) (by rw [fset_ne (by omega)]; exact v.opc hs (by omega)) ?_
  unfold marith lastO at hK
  rw [top_eq hs] at hK
  generalize ea : f.ops.getD (f.ops.length - 2) 0 = a at *
  generalize eb : f.ops.getD (f.ops.length - 1) 0 = b at *
  have F1' : FrP (vmo m h sc si so) w w1.drew := F1.drew
  refine join_P (fun (y : Bool) u => VX u m h c inp s.H s.out (fset g 49 (.int .i64 ((bs f r + (f.ops.length - 1) : Nat) : Int))) sc si so ∧ FrP (vmo m h sc si so) w u ∧ arith op a b = some (if y = true then 1 else 0)) ?_ ?_
  · rintro y u ⟨X2, F2, hy⟩
    rw [hy] at hK
    refine drew_ ?_
    have X2 := X2.drew
    refine X2.ld (by omega) (fset_eq _ _ _) ?_
    refine flag_spec ⟨held X2.rc X2.rc, ?_⟩
    rw [Wsub1 (by omega) (by omega)]
    refine ⟨by omega, by omega, ?_⟩
    rw [Int.toNat_natCast, Nat.mul_one, show bs f r + (f.ops.length - 1) - 1 = bs f r + (f.ops.length - 2) by omega]
    refine X2.st (by omega) fun w3 X3 F3 _ => hK w3 ⟨_, X3, ?_⟩ (F2.trans F3)
    have := v.res (n := 2) (x := if y = true then 1 else 0) hs h2 (by omega)
    rw [show bs f r + (f.ops.length - 2) + 1 = bs f r + (f.ops.length - 1) by omega] at this
    exact this
  · intro J hJ
    rcases ho with rfl | rfl | rfl | rfl | rfl | rfl
    · exact hJ _ _ ⟨X1, F1', by unfold arith b01; simp⟩
    · exact hJ _ _ ⟨X1, F1', by unfold arith b01; simp⟩
    · exact hJ _ _ ⟨X1, F1', by unfold arith b01; simp⟩
    · exact hJ _ _ ⟨X1, F1', by unfold arith b01; simp⟩
    · exact hJ _ _ ⟨X1, F1', by unfold arith b01; simp⟩
    · exact hJ _ _ ⟨X1, F1', by unfold arith b01; simp⟩
theorem localI_spec {op x : Nat} {K : World → Prop} (q : VQ w m h c inp s sc si so) (hs : s.fs = f :: r) (ho : op = 2 ∨ (op = 3 ∧ 1 ≤ f.ops.length))
    (hK : ∀ w', VQ w' m h c inp (if f.loc.length ≤ x then trap 24 s else if op = 2 then mpush (f.loc.getD x 0) s else setTop { f with loc := f.loc.set x (lastO s), ops := f.ops.take (f.ops.length - 1) } s) sc si so → FrP (vmo m h sc si so) w w' → K w') : S.vm_VM_localI m (op : Nat) (x : Nat) w K := by
  unfold S.vm_VM_localI
  obtain ⟨g, X, v⟩ := q
  have hb := v.bnd hs
  have e3 : bs f r = wsz r + f.loc.length + 3 := rfl
  have g51 : g 51 = .int .i64 (f.loc.length : Nat) := by rw [v.li, hs]; rfl
  have g50 : g 50 = .int .i64 (wsz r : Nat) := by rw [v.fp, hs]; rfl
  refine X.ld (by omega) g51 ?_
  by_cases hx : f.loc.length ≤ x
  · rw [if_pos hx] at hK
    rw [if_pos (by simp only [decide_eq_true_eq]; omega)]
    exact VQ.trap ⟨g, X, v⟩ hK
  rw [if_neg hx] at hK
  rw [if_neg (by simp only [decide_eq_true_eq]; omega)]
  rcases ho with rfl | ⟨rfl, ho⟩
  · rw [if_pos rfl] at hK
    rw [if_pos (by decide)]
    have X := X.drew
    refine drew_ (X.ld (by omega) g50 ?_)
    rw [W_id (by omega) (by omega)]
    refine ⟨by omega, by omega, ?_⟩
    rw [show ((wsz r : Nat) : Int) + (x : Nat) = ((wsz r + x : Nat) : Int) by omega, Int.toNat_natCast, Nat.mul_one]
    refine X.ld (by omega) (by rw [v.st _ (by rw [hs, wsz_cons]; omega), hs, words_loc (by omega)]) ?_
    exact vpush_spec ⟨g, X, v⟩ hs hK
  · rw [if_neg (by omega)] at hK
    rw [if_neg (by decide)]
    refine X.ld (by omega) (v.spc hs) ?_
    rw [Wsub1 (by omega) (by omega), show bs f r + f.ops.length - 1 = bs f r + (f.ops.length - 1) by omega]
    refine X.st (by omega) fun w1 X1 F1 _ => drew_ ?_
    have X1 := X1.drew
    refine X1.ld (by omega) (by rw [fset_ne (by omega)]; exact g50) ?_
    refine X1.ld (by omega) (fset_eq _ _ _) ⟨by omega, by omega, ?_⟩
    rw [Int.toNat_natCast, Nat.mul_one]
    refine X1.ld (by omega) (by rw [fset_ne (by omega)]; exact v.opc hs (by omega)) ?_
    rw [W_id (by omega) (by omega)]
    refine ⟨by omega, by omega, ?_⟩
    rw [show ((wsz r : Nat) : Int) + (x : Nat) = ((wsz r + x : Nat) : Int) by omega, Int.toNat_natCast, Nat.mul_one]
    have v1 := v.cut (n := 1) hs (by omega)
    have hs1 : (cutO1 1 s).fs = { f with ops := f.ops.take (f.ops.length - 1) } :: r := by unfold cutO1; rw [top_eq hs, setOps_eq hs]
    refine X1.st (by omega) fun w2 X2 F2 _ => hK w2 ⟨_, X2, ?_⟩ (F1.trans F2)
    have v2 := v1.loc (j := x) (x := f.ops.getD (f.ops.length - 1) 0) hs1 (by dsimp only; omega)
    unfold cutO1 lastO setTop at *
    rw [top_eq hs, setOps_eq hs] at v2
    rw [top_eq hs, hs]
    exact v2
theorem localR_spec {op x : Nat} {K : World → Prop} (q : VQ w m h c inp s sc si so) (hs : s.fs = f :: r) (hx : x < 256) (ho : op = 4 ∨ op = 5)
    (hK : ∀ w', VQ w' m h c inp (if f.lr ≤ x then trap 24 s else if op = 4 then did (hDup s.H ((f.rb + x : Nat) : Int)).1 { s with H := (hDup s.H ((f.rb + x : Nat) : Int)).2 } else { s with H := (hSet s.H ((f.rb + x : Nat) : Int)).2 }) sc si so → FrP (vmo m h sc si so) w w' → K w') : S.vm_VM_localR m (op : Nat) (x : Nat) w K := by
  unfold S.vm_VM_localR
  obtain ⟨g, X, v⟩ := q
  have ff := v.fk f (by rw [hs]; exact List.mem_cons_self ..)
  unfold FOK at ff
  have g52 : g 52 = .int .i64 (f.lr : Nat) := by rw [v.lr, hs]; rfl
  have g53 : g 53 = .int .i64 (f.rb : Nat) := by rw [v.rb, hs]; rfl
  refine X.ld (by omega) g52 ?_
  by_cases hl : f.lr ≤ x
  · rw [if_pos hl] at hK
    rw [if_pos (by simp only [decide_eq_true_eq]; omega)]
    exact VQ.trap ⟨g, X, v⟩ hK
  rw [if_neg hl] at hK
  rw [if_neg (by simp only [decide_eq_true_eq]; omega)]
  have q : VQ w.drew m h c inp s sc si so := ⟨g, X.drew, v⟩
  have e : W (((f.rb : Nat) : Int) + (x : Nat)) = ((f.rb + x : Nat) : Int) := by rw [W_id (by omega) (by omega)]; omega
  rcases ho with rfl | rfl
  · rw [if_pos rfl] at hK
    rw [if_pos (by decide)]
    refine drew_ (q.ldP (X.drew.ld (by omega) g53 ?_))
    rw [e]
    refine q.rs.dup fun w1 r1 f1 => ?_
    obtain ⟨q1, F1⟩ := q.heap r1 f1
    exact did_spec q1 fun w2 q2 F2 => hK w2 q2 (F1.trans F2)
  · rw [if_neg (by omega)] at hK
    rw [if_neg (by decide)]
    refine drew_ (q.ldP (X.drew.ld (by omega) g53 ?_))
    rw [e]
    refine q.rs.set fun w1 r1 f1 => ?_
    obtain ⟨q1, F1⟩ := q.heap r1 f1
    exact hK w1 q1 F1
end Go.Proofs.Qxb6500562aGreat
