/-
  The machine's record.
-/
import Derived.Test.Qxb6500562aGreatVmP
import Derived.Test.Qxb6500562aGreatHrG
import Derived.Test.Qxb6500562aGreatS4
namespace Go.Proofs.Qxb6500562aGreat
open Go.Den Go.Zip
set_option linter.unusedVariables false
set_option linter.unusedSimpArgs false
variable {w w' : World} {m h : Nat} {c : List Nat} {inp : List Int} {s : MS} {g g' : Nat → Value} {sc si so : Sl} {O O' : Nat → Prop} {H : SH} {out : List Int} {f : Fm} {r : List Fm}

def bs (f : Fm) (r : List Fm) : Nat := wsz r + f.loc.length + 3
def pre (f : Fm) (r : List Fm) : List Int := words r ++ f.loc ++ [(f.ret : Int), (wsz r.tail : Int), packW (topLi r) (topLr r) (topRb r)]
theorem pre_len (f : Fm) (r : List Fm) : (pre f r).length = bs f r := by
  unfold pre bs
  simp only [List.length_append, List.length_cons, List.length_nil, words_len r]
theorem words_cons (f : Fm) (r : List Fm) : words (f :: r) = pre f r ++ f.ops := rfl
theorem wsz_cons (f : Fm) (r : List Fm) : wsz (f :: r) = bs f r + f.ops.length := rfl
theorem getD_app1 {a b : List Int} {i : Nat} (h : i < a.length) : (a ++ b).getD i 0 = a.getD i 0 := by
  rw [List.getD_eq_getElem?_getD, List.getElem?_append_left h, ← List.getD_eq_getElem?_getD]
theorem getD_app2 {a b : List Int} {i j : Nat} (h : i = a.length + j) : (a ++ b).getD i 0 = b.getD j 0 := by
  rw [List.getD_eq_getElem?_getD, List.getElem?_append_right (by omega), ← List.getD_eq_getElem?_getD, show i - a.length = j by omega]
theorem words_op {j : Nat} : (words (f :: r)).getD (bs f r + j) 0 = f.ops.getD j 0 := by
  rw [words_cons]; exact getD_app2 (by rw [pre_len])
theorem words_loc {j : Nat} (hj : j < f.loc.length) : (words (f :: r)).getD (wsz r + j) 0 = f.loc.getD j 0 := by
  rw [words_cons, getD_app1 (by rw [pre_len]; unfold bs; omega)]
  unfold pre
  rw [getD_app1 (by rw [List.length_append, words_len]; omega)]
  exact getD_app2 (by rw [words_len])
theorem words_sv {j : Nat} (hj : j < 3) : (words (f :: r)).getD (wsz r + f.loc.length + j) 0 = [(f.ret : Int), (wsz r.tail : Int), packW (topLi r) (topLr r) (topRb r)].getD j 0 := by
  rw [words_cons, getD_app1 (by rw [pre_len]; unfold bs; omega)]
  unfold pre
  exact getD_app2 (by rw [List.length_append, words_len])
theorem words_low {i : Nat} (hi : i < wsz r) : (words (f :: r)).getD i 0 = (words r).getD i 0 := by
  rw [words_cons, getD_app1 (by rw [pre_len]; unfold bs; omega)]
  unfold pre
  rw [getD_app1 (by rw [List.length_append, words_len]; omega), getD_app1 (by rw [words_len]; omega)]

def FOK (f : Fm) : Prop := f.loc.length < 256 ∧ f.lr < 256 ∧ f.rb ≤ 24 ∧ f.ret ≤ 70000
structure VG (g : Nat → Value) (h : Nat) (sc si so : Sl) (s : MS) : Prop where
  hp : g 0 = .pointer (some ⟨h, 0, none⟩)
  sk : ∀ i, i < 48 → ∃ v, g (1 + i) = .int .i64 v
  st : ∀ i, i < wsz s.fs → g (1 + i) = .int .i64 ((words s.fs).getD i 0)
  sp : g 49 = .int .i64 (wsz s.fs : Nat)
  fp : g 50 = .int .i64 (wsz s.fs.tail : Nat)
  li : g 51 = .int .i64 (topLi s.fs : Nat)
  lr : g 52 = .int .i64 (topLr s.fs : Nat)
  rb : g 53 = .int .i64 (topRb s.fs : Nat)
  nf : g 54 = .int .i64 (s.fs.length : Nat)
  pc : g 55 = .int .i64 (s.pc : Nat)
  co : g 56 = .slice sc.a sc.l sc.c
  ii : g 57 = .slice si.a si.l si.c
  ip : g 58 = .int .i64 (s.ip : Nat)
  fu : g 59 = .int .i64 s.fuel
  ou : g 60 = .slice so.a so.l so.c
  en : g 61 = .int .i64 s.en
  rv : g 62 = .int .i64 s.rv
  sv : ∃ v, g 63 = .int .i64 v
  mx : ∃ v, g 64 = .int .i64 v
  le : wsz s.fs ≤ 48
  fk : ∀ f ∈ s.fs, FOK f
  pb : s.pc ≤ 70000
  fb : -9223372036854775808 ≤ s.fuel ∧ s.fuel < 9223372036854775808
/-- All but the record's meaning. -/
structure VX (w : World) (m h : Nat) (c : List Nat) (inp : List Int) (H : SH) (out : List Int) (g : Nat → Value) (sc si so : Sl) : Prop where
  rc : Blk w m (tab 65 g)
  oc : OS w sc (byts c) 1
  oi : OS w si (ints inp) 1
  oo : OS w so (ints out) 1
  hp : RS w h H
  mh : m ≠ h
  cm : ∀ b, owns sc b → b ≠ m ∧ b ≠ h
  im : ∀ b, owns si b → b ≠ m ∧ b ≠ h ∧ ¬ owns sc b
  om : ∀ b, owns so b → b ≠ m ∧ b ≠ h ∧ ¬ owns sc b ∧ ¬ owns si b
  cb : ∀ x ∈ c, x < 256
  cl : c.length ≤ 4096
  il : inp.length ≤ 128
  ol : out.length ≤ 1024
def vmo (m h : Nat) (sc si so : Sl) (b : Nat) : Prop := b = m ∨ b = h ∨ owns sc b ∨ owns si b ∨ owns so b
/-- The machine at m over the heap at h stands for s; it owns the blocks O. -/
def VW (w : World) (m h : Nat) (c : List Nat) (inp : List Int) (s : MS) (O : Nat → Prop) : Prop :=
  ∃ g sc si so, VX w m h c inp s.H s.out g sc si so ∧ VG g h sc si so s ∧ O = vmo m h sc si so
theorem VX.frp {P : Nat → Prop} (v : VX w m h c inp H out g sc si so) (f : FrP P w w') (hn : ∀ b, vmo m h sc si so b → ¬ P b) : VX w' m h c inp H out g sc si so :=
  { v with rc := v.rc.frp f (hn _ (.inl rfl)), oc := v.oc.frp f fun b hb => hn _ (.inr (.inr (.inl hb))), oi := v.oi.frp f fun b hb => hn _ (.inr (.inr (.inr (.inl hb)))), oo := v.oo.frp f fun b hb => hn _ (.inr (.inr (.inr (.inr hb)))), hp := v.hp.frp f (hn _ (.inr (.inl rfl))) }
theorem VX.drew (v : VX w m h c inp H out g sc si so) : VX w.drew m h c inp H out g sc si so := v.frp (P := fun _ => False) (FrP.refl _ w).drew fun _ _ h => h
theorem VX.st {j : Nat} {x : Value} {K : World → Prop} (v : VX w m h c inp H out g sc si so) (hj : j < 65) (hK : ∀ w', VX w' m h c inp H out (fset g j x) sc si so → FrP (vmo m h sc si so) w w' → w'.heap.size = w.heap.size → K w') : St1 w ⟨m, j, none⟩ x K := by
  refine st1 v.rc (by simpa using hj) fun w' b' f' hz => ?_
  rw [tab_set] at b'
  have F : FrP (fun b => b = m) w w' := FrP.of f' fun b h1 h2 => by omega
  refine hK w' { v with rc := b', oc := v.oc.frp F fun b hb => (v.cm b hb).1, oi := v.oi.frp F fun b hb => (v.im b hb).1, oo := v.oo.frp F fun b hb => (v.om b hb).1, hp := v.hp.frp F (fun e => v.mh e.symm) } (F.mono fun b hb => .inl hb) hz
theorem VX.heap {H' : SH} (v : VX w m h c inp H out g sc si so) (r : RS w' h H') (F : Fr h 1 w w') : VX w' m h c inp H' out g sc si so ∧ FrP (vmo m h sc si so) w w' := by
  have F' : FrP (fun b => b = h) w w' := FrP.of F fun b h1 h2 => by omega
  exact ⟨{ v with rc := v.rc.frp F' v.mh, oc := v.oc.frp F' fun b hb => (v.cm b hb).2, oi := v.oi.frp F' fun b hb => (v.im b hb).2.1, oo := v.oo.frp F' fun b hb => (v.om b hb).2.1, hp := r }, F'.mono fun b hb => .inr (.inl hb)⟩
theorem VX.ld {j : Nat} {x : Int} {K : Int → Prop} (v : VX w m h c inp H out g sc si so) (hj : j < 65) (hx : g j = .int .i64 x) (hK : K x) : LdI .i64 w ⟨m, j, none⟩ K := ldI v.rc (by rw [tab_get hj, hx]) hK
theorem VX.ldP {K : Nat → Prop} (v : VX w m h c inp H out g sc si so) (hx : g 0 = .pointer (some ⟨h, 0, none⟩)) (hK : K h) : LdP w ⟨m, 0, none⟩ K := Go.Den.ldP v.rc (by rw [tab_get (by omega), hx]) hK
theorem VX.ldS {j : Nat} {s : Sl} {K : Sl → Prop} (v : VX w m h c inp H out g sc si so) (hj : j < 65) (hx : g j = .slice s.a s.l s.c) (hK : K s) : LdS w ⟨m, j, none⟩ K := Go.Den.ldS v.rc (by rw [tab_get hj, hx]) hK
theorem VX.csl (v : VX w m h c inp H out g sc si so) : sc.l = c.length := by have := v.oc.len; simpa using this.symm
theorem VX.isl (v : VX w m h c inp H out g sc si so) : si.l = inp.length := by have := v.oi.len; simpa [ints] using this.symm
theorem VX.osl (v : VX w m h c inp H out g sc si so) : so.l = out.length := by have := v.oo.len; simpa [ints] using this.symm
theorem VX.byte {i : Nat} {K : Int → Prop} (v : VX w m h c inp H out g sc si so) (hi : i < c.length) (hK : K (c.getD i 0 : Nat)) : Ix sc.a sc.l (i : Int) fun b o => LdI .u8 w ⟨b, o + Int.toNat (i : Int) * 1, none⟩ K :=
  OS.rd v.oc (by rw [List.getD_eq_getElem?_getD, List.getElem?_eq_getElem hi]; rfl) hK
theorem VX.byteLt (v : VX w m h c inp H out g sc si so) (i : Nat) : c.getD i 0 < 256 := by
  rw [List.getD_eq_getElem?_getD]
  cases e : c[i]? with
  | none => exact (by decide : 0 < 256)
  | some x => exact v.cb x (List.mem_of_getElem? e)
theorem VG.heap {H' : SH} (v : VG g h sc si so s) : VG g h sc si so { s with H := H' } := ⟨v.hp, v.sk, v.st, v.sp, v.fp, v.li, v.lr, v.rb, v.nf, v.pc, v.co, v.ii, v.ip, v.fu, v.ou, v.en, v.rv, v.sv, v.mx, v.le, v.fk, v.pb, v.fb⟩
/-- Cells that do not bear on the state. -/
theorem VG.free {j : Nat} {x : Int} (v : VG g h sc si so s) (hj : j = 63 ∨ j = 64) : VG (fset g j (.int .i64 x)) h sc si so s := by
  have k : ∀ i, i < 63 → fset g j (.int .i64 x) i = g i := fun i hi => fset_ne (by omega)
  refine ⟨by rw [k _ (by omega)]; exact v.hp, fun i hi => by rw [k _ (by omega)]; exact v.sk i hi, fun i hi => by have := v.le; rw [k _ (by omega)]; exact v.st i hi, ?_, ?_, ?_, ?_, ?_, ?_, ?_, ?_, ?_, ?_, ?_, ?_, ?_, ?_, ?_, ?_, v.le, v.fk, v.pb, v.fb⟩
  · rw [k _ (by omega)]; exact v.sp
  · rw [k _ (by omega)]; exact v.fp
  · rw [k _ (by omega)]; exact v.li
  · rw [k _ (by omega)]; exact v.lr
  · rw [k _ (by omega)]; exact v.rb
  · rw [k _ (by omega)]; exact v.nf
  · rw [k _ (by omega)]; exact v.pc
  · rw [k _ (by omega)]; exact v.co
  · rw [k _ (by omega)]; exact v.ii
  · rw [k _ (by omega)]; exact v.ip
  · rw [k _ (by omega)]; exact v.fu
  · rw [k _ (by omega)]; exact v.ou
  · rw [k _ (by omega)]; exact v.en
  · rw [k _ (by omega)]; exact v.rv
  · rcases hj with rfl | rfl
    · exact ⟨x, fset_eq _ _ _⟩
    · rw [fset_ne (by omega)]; exact v.sv
  · rcases hj with rfl | rfl
    · rw [fset_ne (by omega)]; exact v.mx
    · exact ⟨x, fset_eq _ _ _⟩
/-- One of the plain registers. -/
theorem VG.reg {j : Nat} {x : Value} (v : VG g h sc si so s) (s' : MS) (so' : Sl) (hj : j = 55 ∨ j = 58 ∨ j = 59 ∨ j = 60 ∨ j = 61 ∨ j = 62) (hf : s'.fs = s.fs) (hpb : s'.pc ≤ 70000) (hfb : -9223372036854775808 ≤ s'.fuel ∧ s'.fuel < 9223372036854775808)
    (h1 : (if j = 55 then x else .int .i64 (s.pc : Nat)) = .int .i64 (s'.pc : Nat)) (h2 : (if j = 58 then x else .int .i64 (s.ip : Nat)) = .int .i64 (s'.ip : Nat)) (h3 : (if j = 59 then x else .int .i64 s.fuel) = .int .i64 s'.fuel)
    (h4 : (if j = 60 then x else .slice so.a so.l so.c) = .slice so'.a so'.l so'.c) (h5 : (if j = 61 then x else .int .i64 s.en) = .int .i64 s'.en) (h6 : (if j = 62 then x else .int .i64 s.rv) = .int .i64 s'.rv) : VG (fset g j x) h sc si so' s' := by
  have k : ∀ i, (i < 55 ∨ i = 56 ∨ i = 57 ∨ 62 < i) → fset g j x i = g i := fun i hi => fset_ne (by omega)
  have e : ∀ i y, (if j = i then x else g i) = y → fset g j x i = y := fun i y hy => by
    unfold fset
    by_cases hh : i = j
    · rw [if_pos hh]; rw [if_pos hh.symm] at hy; exact hy
    · rw [if_neg hh]; rw [if_neg (fun e => hh e.symm)] at hy; exact hy
  refine ⟨by rw [k _ (by omega)]; exact v.hp, fun i hi => by rw [k _ (by omega)]; exact v.sk i hi, fun i hi => by have := v.le; rw [hf] at hi ⊢; rw [k _ (by omega)]; exact v.st i hi, ?_, ?_, ?_, ?_, ?_, ?_, ?_, ?_, ?_, ?_, ?_, ?_, ?_, ?_, ?_, ?_, by rw [hf]; exact v.le, by rw [hf]; exact v.fk, hpb, hfb⟩
  · rw [k _ (by omega), hf]; exact v.sp
  · rw [k _ (by omega), hf]; exact v.fp
  · rw [k _ (by omega), hf]; exact v.li
  · rw [k _ (by omega), hf]; exact v.lr
  · rw [k _ (by omega), hf]; exact v.rb
  · rw [k _ (by omega), hf]; exact v.nf
  · exact e _ _ (by rw [v.pc]; exact h1)
  · rw [k _ (by omega)]; exact v.co
  · rw [k _ (by omega)]; exact v.ii
  · exact e _ _ (by rw [v.ip]; exact h2)
  · exact e _ _ (by rw [v.fu]; exact h3)
  · exact e _ _ (by rw [v.ou]; exact h4)
  · exact e _ _ (by rw [v.en]; exact h5)
  · exact e _ _ (by rw [v.rv]; exact h6)
  · rw [k _ (by omega)]; exact v.sv
  · rw [k _ (by omega)]; exact v.mx
theorem VG.trap {e : Int} (v : VG g h sc si so s) : VG (fset g 61 (.int .i64 e)) h sc si so (trap e s) :=
  v.reg _ _ (by omega) rfl v.pb v.fb (by simp [Go.Proofs.Qxb6500562aGreat.trap]) (by simp [Go.Proofs.Qxb6500562aGreat.trap]) (by simp [Go.Proofs.Qxb6500562aGreat.trap]) (by simp) (by simp [Go.Proofs.Qxb6500562aGreat.trap]) (by simp [Go.Proofs.Qxb6500562aGreat.trap])
theorem VG.setPc {p : Nat} (v : VG g h sc si so s) (hp : p ≤ 70000) : VG (fset g 55 (.int .i64 (p : Nat))) h sc si so { s with pc := p } :=
  v.reg _ _ (by omega) rfl hp v.fb (by simp) (by simp) (by simp) (by simp) (by simp) (by simp)
theorem setOps_eq {o : List Int} (hs : s.fs = f :: r) : setOps o s = { s with fs := { f with ops := o } :: r } := by
  unfold setOps setTop top; rw [hs]; rfl
theorem top_eq (hs : s.fs = f :: r) : top s = f := by unfold top; rw [hs]; rfl
/-- The operands turn. -/
theorem VG.ops {o : List Int} (v : VG g h sc si so s) (hs : s.fs = f :: r) (hg : ∀ j, (j < 1 + bs f r ∨ 49 < j ∧ j ≠ 64) → g' j = g j) (hst : ∀ j, j < o.length → g' (1 + (bs f r + j)) = .int .i64 (o.getD j 0)) (hi : ∀ j, j < 48 → ∃ v, g' (1 + j) = .int .i64 v)
    (h49 : g' 49 = .int .i64 (bs f r + o.length : Nat)) (h64 : ∃ v, g' 64 = .int .i64 v) (hle : bs f r + o.length ≤ 48) : VG g' h sc si so (setOps o s) := by
  rw [setOps_eq hs]
  have hb : bs { f with ops := o } r = bs f r := rfl
  have hl := v.le
  rw [hs, wsz_cons] at hl
  refine ⟨by rw [hg _ (by omega)]; exact v.hp, hi, fun i h' => ?_, ?_, ?_, ?_, ?_, ?_, ?_, ?_, ?_, ?_, ?_, ?_, ?_, ?_, ?_, ?_, h64, ?_, ?_, v.pb, v.fb⟩
  · dsimp only at h' ⊢
    rw [wsz_cons, hb] at h'
    rcases Nat.lt_or_ge i (bs f r) with h1 | h1
    · rw [hg _ (by omega), v.st i (by rw [hs, wsz_cons]; omega), hs, words_cons, words_cons, getD_app1 (by rw [pre_len]; exact h1), getD_app1 (by rw [pre_len]; exact h1)]
      rfl
    · obtain ⟨j, rfl⟩ : ∃ j, i = bs f r + j := ⟨i - bs f r, by omega⟩
      rw [hst j (by dsimp only at h'; omega)]
      have : (words ({ f with ops := o } :: r)).getD (bs f r + j) 0 = o.getD j 0 := words_op
      rw [this]
  · rw [h49]; rfl
  · rw [hg _ (by omega), v.fp, hs]; rfl
  · rw [hg _ (by omega), v.li, hs]; rfl
  · rw [hg _ (by omega), v.lr, hs]; rfl
  · rw [hg _ (by omega), v.rb, hs]; rfl
  · rw [hg _ (by omega), v.nf, hs]; rfl
  · rw [hg _ (by omega)]; exact v.pc
  · rw [hg _ (by omega)]; exact v.co
  · rw [hg _ (by omega)]; exact v.ii
  · rw [hg _ (by omega)]; exact v.ip
  · rw [hg _ (by omega)]; exact v.fu
  · rw [hg _ (by omega)]; exact v.ou
  · rw [hg _ (by omega)]; exact v.en
  · rw [hg _ (by omega)]; exact v.rv
  · rw [hg _ (by omega)]; exact v.sv
  · show wsz ({ f with ops := o } :: r) ≤ 48
    rw [wsz_cons]; exact hle
  · intro f' hf'
    rcases List.mem_cons.1 hf' with rfl | h'
    · exact v.fk f (by rw [hs]; exact List.mem_cons_self ..)
    · exact v.fk f' (by rw [hs]; exact List.mem_cons_of_mem _ h')
/-- A local turns. -/
theorem VG.loc {j : Nat} {x : Int} (v : VG g h sc si so s) (hs : s.fs = f :: r) (hj : j < f.loc.length) : VG (fset g (1 + (wsz r + j)) (.int .i64 x)) h sc si so { s with fs := { f with loc := f.loc.set j x } :: r } := by
  have hl := v.le
  rw [hs, wsz_cons] at hl
  have hb : bs f r = wsz r + f.loc.length + 3 := rfl
  have k : ∀ i, i ≠ 1 + (wsz r + j) → fset g (1 + (wsz r + j)) (.int .i64 x) i = g i := fun i hi => fset_ne hi
  have hz : wsz ({ f with loc := f.loc.set j x } :: r) = wsz (f :: r) := by unfold wsz; simp
  have hpre : ({ f with loc := f.loc.set j x } : Fm).loc.length = f.loc.length := by simp
  refine ⟨by rw [k _ (by omega)]; exact v.hp, fun i h' => ?_, fun i h' => ?_, ?_, ?_, ?_, ?_, ?_, ?_, ?_, ?_, ?_, ?_, ?_, ?_, ?_, ?_, ?_, ?_, ?_, ?_, v.pb, v.fb⟩
  · unfold fset
    split
    · exact ⟨_, rfl⟩
    · exact v.sk i h'
  · dsimp only at h' ⊢
    rw [hz, wsz_cons] at h'
    have old := v.st i (by rw [hs, wsz_cons]; exact h')
    rw [hs] at old
    by_cases e : i = wsz r + j
    · subst e
      rw [fset_eq, words_loc (by rw [hpre]; exact hj)]
      simp [List.getD_eq_getElem?_getD, hj]
    · rw [k _ (by omega), old]
      congr 1
      rcases Nat.lt_or_ge i (wsz r) with h1 | h1
      · rw [words_low h1, words_low h1]
      · rcases Nat.lt_or_ge i (wsz r + f.loc.length) with h2 | h2
        · obtain ⟨q, rfl⟩ : ∃ q, i = wsz r + q := ⟨i - wsz r, by omega⟩
          rw [words_loc (by omega), words_loc (by rw [hpre]; omega)]
          dsimp only
          rw [List.getD_eq_getElem?_getD, List.getD_eq_getElem?_getD, List.getElem?_set_ne (by omega)]
        · rcases Nat.lt_or_ge i (bs f r) with h3 | h3
          · obtain ⟨q, rfl⟩ : ∃ q, i = wsz r + f.loc.length + q := ⟨i - (wsz r + f.loc.length), by omega⟩
            rw [words_sv (by omega)]
            have := words_sv (f := { f with loc := f.loc.set j x }) (r := r) (j := q) (by omega)
            rw [hpre] at this
            rw [this]
          · obtain ⟨q, rfl⟩ : ∃ q, i = bs f r + q := ⟨i - bs f r, by omega⟩
            rw [words_op]
            have := words_op (f := { f with loc := f.loc.set j x }) (r := r) (j := q)
            have e2 : bs { f with loc := f.loc.set j x } r = bs f r := by unfold bs; rw [hpre]
            rw [e2] at this
            rw [this]
  · rw [k _ (by omega), v.sp, hs]; dsimp only; rw [hz]
  · rw [k _ (by omega), v.fp, hs]; rfl
  · rw [k _ (by omega), v.li, hs]; unfold topLi; dsimp only; rw [List.length_set]
  · rw [k _ (by omega), v.lr, hs]; rfl
  · rw [k _ (by omega), v.rb, hs]; rfl
  · rw [k _ (by omega), v.nf, hs]; rfl
  · rw [k _ (by omega)]; exact v.pc
  · rw [k _ (by omega)]; exact v.co
  · rw [k _ (by omega)]; exact v.ii
  · rw [k _ (by omega)]; exact v.ip
  · rw [k _ (by omega)]; exact v.fu
  · rw [k _ (by omega)]; exact v.ou
  · rw [k _ (by omega)]; exact v.en
  · rw [k _ (by omega)]; exact v.rv
  · rw [k _ (by omega)]; exact v.sv
  · rw [k _ (by omega)]; exact v.mx
  · dsimp only; rw [hz, wsz_cons]; exact hl
  · intro f' hf'
    rcases List.mem_cons.1 hf' with rfl | h'
    · have := v.fk f (by rw [hs]; exact List.mem_cons_self ..)
      unfold FOK at this ⊢
      rw [hpre]; exact this
    · exact v.fk f' (by rw [hs]; exact List.mem_cons_of_mem _ h')
theorem VX.trap {e : Int} {K : World → Prop} (x : VX w m h c inp s.H s.out g sc si so) (v : VG g h sc si so s) (hK : ∀ w', VW w' m h c inp (trap e s) (vmo m h sc si so) → Gw (vmo m h sc si so) w (vmo m h sc si so) w' → K w') : St1 w ⟨m, 61, none⟩ (.int .i64 e) K :=
  x.st (by omega) fun w' x' F _ => hK w' ⟨_, _, _, _, x', v.trap, rfl⟩ ⟨F, fun b hb => .inl hb⟩
theorem spend_spec {K : Bool → World → Prop} (x : VX w m h c inp s.H s.out g sc si so) (v : VG g h sc si so s) (h1 : s.fuel ≤ 0 → ∀ w', VW w' m h c inp (trap 22 s) (vmo m h sc si so) → Gw (vmo m h sc si so) w (vmo m h sc si so) w' → K false w')
    (h2 : 0 < s.fuel → ∀ w' g', VX w' m h c inp s.H s.out g' sc si so → VG g' h sc si so { s with fuel := s.fuel - 1 } → FrP (vmo m h sc si so) w w' → K true w') : S.vm_VM_spend m w K := by
  unfold S.vm_VM_spend
  refine x.ld (by omega) v.fu ?_
  by_cases hh : s.fuel ≤ 0
  · rw [if_pos (by simp only [decide_eq_true_eq]; exact hh)]
    exact x.trap v (h1 hh)
  · rw [if_neg (by simp only [decide_eq_true_eq]; exact hh)]
    refine x.ld (by omega) v.fu ?_
    have fb := v.fb
    rw [W_id (by omega) (by omega)]
    refine x.st (by omega) fun w' x' F _ => h2 (by omega) w' _ x' ?_ F
    exact v.reg _ _ (by omega) rfl v.pb (by dsimp only; omega) (by simp) (by simp) (by simp) (by simp) (by simp) (by simp)
end Go.Proofs.Qxb6500562aGreat
