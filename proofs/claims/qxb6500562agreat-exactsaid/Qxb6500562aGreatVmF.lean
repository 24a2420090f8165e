/-
  The machine: the instructions on arrays, input.
-/
import Derived.Test.Qxb6500562aGreatVmE
namespace Go.Proofs.Qxb6500562aGreat
open Go.Den Go.Zip
set_option linter.unusedVariables false
set_option linter.unusedSimpArgs false
variable {w w' : World} {m h : Nat} {c : List Nat} {inp : List Int} {s : MS} {g g' : Nat → Value} {sc si so : Sl} {O O' : Nat → Prop} {H : SH} {out : List Int} {f : Fm} {r : List Fm}

theorem fset_same {j : Nat} {x : Value} (h : g j = x) : fset g j x = g := by
  funext t
  unfold fset
  split
  · rename_i e; rw [e, h]
  · rfl
theorem hStoreI_err {H : SH} {i f v : Int} (h : (hStoreI H i f v).1 ≠ 0) : (hStoreI H i f v).2 = H := by
  unfold hStoreI at h ⊢
  by_cases h1 : hErr H i ≠ 0
  · rw [if_pos h1]
  · rw [if_neg h1] at h ⊢
    by_cases h2 : f < 0 ∨ ((obAt H (rtAt H i)).ints.length : Int) ≤ f
    · rw [if_pos h2]
    · rw [if_neg h2] at h; exact absurd rfl h
theorem hStoreR_err {H : SH} {i f j : Int} (h : (hStoreR H i f j).1 ≠ 0) : (hStoreR H i f j).2 = H := by
  unfold hStoreR at h ⊢
  by_cases h1 : hErr H i ≠ 0
  · rw [if_pos h1]
  · rw [if_neg h1] at h ⊢
    by_cases h2 : f < 0 ∨ ((obAt H (rtAt H i)).refs.length : Int) ≤ f
    · rw [if_pos h2]
    · rw [if_neg h2] at h ⊢
      by_cases h3 : j < 0 ∨ (H.roots.length : Int) ≤ j
      · rw [if_pos h3]
      · rw [if_neg h3] at h; exact absurd rfl h
/-- The last word. -/
theorem VQ.ldLast {K : Int → Prop} (q : VQ w m h c inp s sc si so) (hs : s.fs = f :: r) (h1 : 1 ≤ f.ops.length) (hK : K (lastO s)) : LdI .i64 w ⟨m, 1 + Int.toNat ((bs f r + f.ops.length - 1 : Nat) : Int) * 1, none⟩ K := by
  obtain ⟨g, X, v⟩ := q
  have hb := v.bnd hs
  rw [Int.toNat_natCast, Nat.mul_one, show bs f r + f.ops.length - 1 = bs f r + (f.ops.length - 1) by omega]
  refine X.ld (by omega) (v.opc hs (by omega)) ?_
  unfold lastO at hK
  rw [top_eq hs] at hK
  exact hK
theorem VQ.ldSp {K : Int → Prop} (q : VQ w m h c inp s sc si so) (hs : s.fs = f :: r) (hK : bs f r + f.ops.length ≤ 48 → K ((bs f r + f.ops.length : Nat) : Int)) : LdI .i64 w ⟨m, 49, none⟩ K := by
  obtain ⟨g, X, v⟩ := q
  exact X.ld (by omega) (v.spc hs) (hK (v.bnd hs))
/-- sp falls by n; the words above still stand. -/
theorem VQ.cut {n : Nat} {K : World → Prop} (q : VQ w m h c inp s sc si so) (hs : s.fs = f :: r) (hn : n ≤ f.ops.length)
    (hK : ∀ w', VQ w' m h c inp (cutO1 n s) sc si so → (∀ j K, j < f.ops.length → K (f.ops.getD j 0) → LdI .i64 w' ⟨m, 1 + (bs f r + j), none⟩ K) → (∀ K : Int → Prop, K ((bs f r + f.ops.length - n : Nat) : Int) → LdI .i64 w' ⟨m, 49, none⟩ K) → FrP (vmo m h sc si so) w w' → K w') : St1 w ⟨m, 49, none⟩ (.int .i64 ((bs f r + f.ops.length - n : Nat) : Int)) K := by
  obtain ⟨g, X, v⟩ := q
  have hb := v.bnd hs
  have v1 := v.cut (n := n) hs hn
  rw [show bs f r + (f.ops.length - n) = bs f r + f.ops.length - n by omega] at v1
  refine X.st (by omega) fun w' X' F _ => hK w' ⟨_, X', v1⟩ (fun j K hj hK => X'.ld (by omega) (by rw [fset_ne (by omega)]; exact v.opc hs hj) hK) (fun K hK => X'.ld (by omega) (fset_eq _ _ _) hK) F
theorem cut_fs {n : Nat} (hs : s.fs = f :: r) : (cutO1 n s).fs = { f with ops := f.ops.take (f.ops.length - n) } :: r := by unfold cutO1; rw [top_eq hs, setOps_eq hs]
theorem vborn_spec {op : Nat} {K : World → Prop} (q : VQ w m h c inp s sc si so) (hs : s.fs = f :: r) (h1 : 1 ≤ f.ops.length) (ho : op = 28 ∨ op = 29)
    (hK : ∀ w', VQ w' m h c inp (if op = 28 then did (hAlloc s.H 0 (lastO s)).1 (cutO1 1 { s with H := (hAlloc s.H 0 (lastO s)).2 }) else did (hAlloc s.H (lastO s) 0).1 (cutO1 1 { s with H := (hAlloc s.H (lastO s) 0).2 })) sc si so → FrP (vmo m h sc si so) w w' → K w') : S.vm_VM_born m (op : Nat) w K := by
  unfold S.vm_VM_born
  refine q.ldSp hs fun hb => ?_
  rw [Wsub1 (by omega) (by omega)]
  refine q.cut hs h1 fun w1 q1 rd sp F1 => drew_ ?_
  refine sp _ ⟨by omega, by omega, ?_⟩
  rw [Int.toNat_natCast, Nat.mul_one, show bs f r + f.ops.length - 1 = bs f r + (f.ops.length - 1) by omega]
  refine rd (f.ops.length - 1) _ (by omega) ?_
  have el : f.ops.getD (f.ops.length - 1) 0 = lastO s := by unfold lastO; rw [top_eq hs]
  rw [el]
  have q1 := q1.drew
  rcases ho with rfl | rfl
  · rw [if_pos rfl] at hK
    rw [if_pos (by decide)]
    refine q1.ldP (q1.rs.alloc fun w2 r2 f2 => ?_)
    obtain ⟨q2, F2⟩ := q1.heap r2 f2
    exact did_spec q2 fun w3 q3 F3 => hK w3 q3 ((F1.trans F2).trans F3)
  · rw [if_neg (by omega)] at hK
    rw [if_neg (by decide)]
    refine q1.ldP (q1.rs.alloc fun w2 r2 f2 => ?_)
    obtain ⟨q2, F2⟩ := q1.heap r2 f2
    exact did_spec q2 fun w3 q3 F3 => hK w3 q3 ((F1.trans F2).trans F3)
theorem Wtop {n : Nat} (h : n ≤ 24) : W ((n : Int) - 1) = (n : Int) - 1 := W_id (by omega) (by omega)
theorem vget_spec {op : Nat} {K : World → Prop} (q : VQ w m h c inp s sc si so) (hs : s.fs = f :: r) (h1 : 1 ≤ f.ops.length) (ho : op = 30 ∨ op = 31)
    (hK : ∀ w', VQ w' m h c inp (if op = 30 then
      (if (hLoadI s.H ((s.H.roots.length : Int) - 1) (lastO s)).2 ≠ 0 then trap (endOf (hLoadI s.H ((s.H.roots.length : Int) - 1) (lastO s)).2) s
       else setOps ((top s).ops.take ((top s).ops.length - 1) ++ [(hLoadI s.H ((s.H.roots.length : Int) - 1) (lastO s)).1]) { s with H := (hPop s.H 1).2 })
      else did (hLoadR s.H ((s.H.roots.length : Int) - 1) (lastO s) ((s.H.roots.length : Int) - 1)).1 (cutO1 1 { s with H := (hLoadR s.H ((s.H.roots.length : Int) - 1) (lastO s) ((s.H.roots.length : Int) - 1)).2 })) sc si so → FrP (vmo m h sc si so) w w' → K w') : S.vm_VM_get m (op : Nat) w K := by
  unfold S.vm_VM_get
  have hrl := q.rs.le
  refine q.ldP (q.rs.depth ?_)
  rw [Wtop hrl]
  refine let_ (drew_ ?_)
  have q := q.drew
  refine q.ldSp hs fun hb => ?_
  rw [Wsub1 (by omega) (by omega)]
  refine ⟨by omega, by omega, q.ldLast hs h1 ?_⟩
  rcases ho with rfl | rfl
  · rw [if_pos rfl] at hK
    rw [if_pos (by decide)]
    refine q.ldP (q.rs.loadI ?_)
    refine heapDid_spec q (fun he w1 q1 F1 => ?_) (fun he => ?_)
    · rw [if_pos he] at hK
      refine join_ ?_
      rw [if_neg (by decide)]
      exact hK w1 q1 F1
    · rw [if_neg (by simp [he])] at hK
      refine join_ ?_
      rw [if_pos rfl]
      refine q.ldP (q.rs.pop fun w1 r1 f1 => drew_ ?_)
      obtain ⟨q1, F1⟩ := q.heap r1 f1
      obtain ⟨g, X, v⟩ := q1.drew
      have hs' : ({ s with H := (hPop s.H 1).2 } : MS).fs = f :: r := hs
      refine X.ld (by omega) (v.spc hs') ?_
      rw [Wsub1 (by omega) (by omega)]
      refine ⟨by omega, by omega, ?_⟩
      rw [Int.toNat_natCast, Nat.mul_one, show bs f r + f.ops.length - 1 = bs f r + (f.ops.length - 1) by omega]
      refine X.st (by omega) fun w2 X2 F2 _ => hK w2 ⟨_, X2, ?_⟩ (F1.trans F2)
      have v2 := v.res (n := 1) (x := (hLoadI s.H ((s.H.roots.length : Int) - 1) (lastO s)).1) hs' h1 (by omega)
      rw [fset_same (g := g) (j := 49) (by rw [v.spc hs']; congr 2; omega)] at v2
      rw [top_eq hs]
      exact v2
  · rw [if_neg (by omega)] at hK
    rw [if_neg (by decide)]
    refine q.ldSp hs fun _ => ?_
    rw [Wsub1 (by omega) (by omega)]
    refine q.cut hs h1 fun w1 q1 rd sp F1 => ?_
    refine q1.ldP (q1.rs.loadR fun w2 r2 f2 => ?_)
    obtain ⟨q2, F2⟩ := q1.heap r2 f2
    exact did_spec q2 fun w3 q3 F3 => hK w3 q3 ((F1.trans F2).trans F3)
theorem vset_spec {op : Nat} {K : World → Prop} (q : VQ w m h c inp s sc si so) (hs : s.fs = f :: r) (ho : (op = 32 ∧ 2 ≤ f.ops.length) ∨ (op = 33 ∧ 1 ≤ f.ops.length))
    (hK : ∀ w', VQ w' m h c inp (if op = 32 then
      (if (hStoreI s.H ((s.H.roots.length : Int) - 1) ((top s).ops.getD ((top s).ops.length - 2) 0) (lastO s)).1 ≠ 0 then trap (endOf (hStoreI s.H ((s.H.roots.length : Int) - 1) ((top s).ops.getD ((top s).ops.length - 2) 0) (lastO s)).1) (cutO1 2 s)
       else cutO1 2 { s with H := (hPop (hStoreI s.H ((s.H.roots.length : Int) - 1) ((top s).ops.getD ((top s).ops.length - 2) 0) (lastO s)).2 1).2 })
      else (if (hStoreR s.H ((s.H.roots.length : Int) - 1 - 1) (lastO s) ((s.H.roots.length : Int) - 1)).1 ≠ 0 then trap (endOf (hStoreR s.H ((s.H.roots.length : Int) - 1 - 1) (lastO s) ((s.H.roots.length : Int) - 1)).1) (cutO1 1 s)
       else cutO1 1 { s with H := (hPop (hStoreR s.H ((s.H.roots.length : Int) - 1 - 1) (lastO s) ((s.H.roots.length : Int) - 1)).2 2).2 })) sc si so → FrP (vmo m h sc si so) w w' → K w') : S.vm_VM_set m (op : Nat) w K := by
  unfold S.vm_VM_set
  have hrl := q.rs.le
  refine q.ldP (q.rs.depth ?_)
  rw [Wtop hrl]
  refine let_ ?_
  have el : f.ops.getD (f.ops.length - 1) 0 = lastO s := by unfold lastO; rw [top_eq hs]
  rcases ho with ⟨rfl, h2⟩ | ⟨rfl, h1⟩
  · rw [if_pos rfl] at hK
    rw [if_pos (by decide)]
    refine q.ldSp hs fun hb => ?_
    rw [Wsub2 (by omega) (by omega)]
    refine q.cut hs h2 fun w1 q1 rd sp F1 => drew_ ?_
    have q1 := q1.drew
    refine q1.ldP (sp _ ⟨by omega, by omega, ?_⟩)
    rw [Int.toNat_natCast, Nat.mul_one, show bs f r + f.ops.length - 2 = bs f r + (f.ops.length - 2) by omega]
    refine rd (f.ops.length - 2) _ (by omega) (sp _ ?_)
    rw [W_succ (by omega), show bs f r + f.ops.length - 2 + 1 = bs f r + (f.ops.length - 1) by omega]
    refine ⟨by omega, by omega, ?_⟩
    rw [Int.toNat_natCast, Nat.mul_one]
    refine rd (f.ops.length - 1) _ (by omega) ?_
    rw [el]
    rw [top_eq hs] at hK
    refine q1.rs.storeI fun w2 r2 f2 => ?_
    obtain ⟨q2, F2⟩ := q1.heap r2 f2
    refine heapDid_spec q2 (fun he w3 q3 F3 => join_ ?_) (fun he => join_ ?_)
    · rw [if_neg (by decide)]
      have he' : (hStoreI s.H ((s.H.roots.length : Int) - 1) (f.ops.getD (f.ops.length - 2) 0) (lastO s)).1 ≠ 0 := he
      rw [if_pos he'] at hK
      refine hK w3 ?_ ((F1.trans F2).trans F3)
      have e2 : (hStoreI (cutO1 2 s).H ((s.H.roots.length : Int) - 1) (f.ops.getD (f.ops.length - 2) 0) (lastO s)).2 = (cutO1 2 s).H := hStoreI_err he
      rw [e2] at q3
      exact q3
    · rw [if_pos rfl]
      have he' : (hStoreI s.H ((s.H.roots.length : Int) - 1) (f.ops.getD (f.ops.length - 2) 0) (lastO s)).1 = 0 := he
      rw [if_neg (fun e => e he')] at hK
      refine q2.ldP (q2.rs.pop fun w3 r3 f3 => ?_)
      obtain ⟨q3, F3⟩ := q2.heap r3 f3
      exact hK w3 q3 ((F1.trans F2).trans F3)
  · rw [if_neg (by omega)] at hK
    rw [if_neg (by decide)]
    refine q.ldSp hs fun hb => ?_
    rw [Wsub1 (by omega) (by omega)]
    refine q.cut hs h1 fun w1 q1 rd sp F1 => drew_ ?_
    have q1 := q1.drew
    refine q1.ldP (sp _ ⟨by omega, by omega, ?_⟩)
    rw [Int.toNat_natCast, Nat.mul_one, show bs f r + f.ops.length - 1 = bs f r + (f.ops.length - 1) by omega]
    refine rd (f.ops.length - 1) _ (by omega) ?_
    rw [el, W_id (by omega) (by omega)]
    refine q1.rs.storeR fun w2 r2 f2 => ?_
    obtain ⟨q2, F2⟩ := q1.heap r2 f2
    refine heapDid_spec q2 (fun he w3 q3 F3 => ?_) (fun he => ?_)
    · rw [if_neg (by decide)]
      have he' : (hStoreR s.H ((s.H.roots.length : Int) - 1 - 1) (lastO s) ((s.H.roots.length : Int) - 1)).1 ≠ 0 := he
      rw [if_pos he'] at hK
      refine hK w3 ?_ ((F1.trans F2).trans F3)
      have e2 : (hStoreR (cutO1 1 s).H ((s.H.roots.length : Int) - 1 - 1) (lastO s) ((s.H.roots.length : Int) - 1)).2 = (cutO1 1 s).H := hStoreR_err he
      rw [e2] at q3
      exact q3
    · rw [if_pos rfl]
      have he' : (hStoreR s.H ((s.H.roots.length : Int) - 1 - 1) (lastO s) ((s.H.roots.length : Int) - 1)).1 = 0 := he
      rw [if_neg (fun e => e he')] at hK
      refine q2.ldP (q2.rs.pop fun w3 r3 f3 => ?_)
      obtain ⟨q3, F3⟩ := q2.heap r3 f3
      exact hK w3 q3 ((F1.trans F2).trans F3)
theorem vlen_spec {K : World → Prop} (q : VQ w m h c inp s sc si so) (hs : s.fs = f :: r)
    (hK : ∀ w', VQ w' m h c inp (if (hLen s.H ((s.H.roots.length : Int) - 1)).2.2 ≠ 0 then trap (endOf (hLen s.H ((s.H.roots.length : Int) - 1)).2.2) s
     else mpush (W ((hLen s.H ((s.H.roots.length : Int) - 1)).1 + (hLen s.H ((s.H.roots.length : Int) - 1)).2.1)) { s with H := (hPop s.H 1).2 }) sc si so → FrP (vmo m h sc si so) w w' → K w') : S.vm_VM_length m w K := by
  unfold S.vm_VM_length
  have hrl := q.rs.le
  refine q.ldP (q.rs.depth (q.ldP ?_))
  rw [Wtop hrl]
  refine q.rs.len ?_
  refine heapDid_spec q (fun he w1 q1 F1 => ?_) (fun he => ?_)
  · rw [if_pos he] at hK
    rw [if_neg (by decide)]
    exact hK w1 q1 F1
  · rw [if_neg (by simp [he])] at hK
    rw [if_pos rfl]
    refine q.ldP (q.rs.pop fun w1 r1 f1 => ?_)
    obtain ⟨q1, F1⟩ := q.heap r1 f1
    exact vpush_spec q1 hs fun w2 q2 F2 => hK w2 q2 (F1.trans F2)
theorem vread_spec {K : World → Prop} (q : VQ w m h c inp s sc si so) (hs : s.fs = f :: r)
    (hK : ∀ w', VQ w' m h c inp (if inp.length ≤ s.ip then trap 30 s else { mpush (inp.getD s.ip 0) s with ip := s.ip + 1 }) sc si so → FrP (vmo m h sc si so) w w' → K w') : S.vm_VM_read m w K := by
  unfold S.vm_VM_read
  have q := q.drew
  refine drew_ ?_
  obtain ⟨g, X, v⟩ := q
  have isl := X.isl
  have il := X.il
  refine X.ld (by omega) v.ip (X.ldS (by omega) v.ii ?_)
  rw [isl]
  by_cases hi : inp.length ≤ s.ip
  · rw [if_pos hi] at hK
    rw [if_pos (by simp only [decide_eq_true_eq]; omega)]
    exact VQ.trap ⟨g, X, v⟩ hK
  · rw [if_neg hi] at hK
    rw [if_neg (by simp only [decide_eq_true_eq]; omega)]
    refine drew_ ?_
    have X := X.drew
    refine X.ldS (by omega) v.ii (X.ld (by omega) v.ip ?_)
    refine osRd X.oi (by omega) (by omega) ?_
    rw [Int.toNat_natCast]
    have e : inp.getD s.ip (-1) = inp.getD s.ip 0 := by rw [List.getD_eq_getElem?_getD, List.getD_eq_getElem?_getD, List.getElem?_eq_getElem (by omega)]; rfl
    rw [e]
    refine vpush_spec ⟨g, X, v⟩ hs fun w1 q1 F1 => ?_
    obtain ⟨g1, X1, v1⟩ := q1
    have hip : (mpush (inp.getD s.ip 0) s).ip = s.ip := by unfold mpush; split <;> rfl
    refine X1.ld (by omega) v1.ip ?_
    rw [hip, W_succ (by omega)]
    refine X1.st (by omega) fun w2 X2 F2 _ => hK w2 ⟨_, X2, ?_⟩ (F1.trans F2)
    exact v1.reg _ _ (by omega) rfl v1.pb v1.fb (by simp) (by simp) (by simp) (by simp) (by simp) (by simp)
end Go.Proofs.Qxb6500562aGreat
