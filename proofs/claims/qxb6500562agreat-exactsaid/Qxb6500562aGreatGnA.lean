/-
  The code generator's record; emits.
-/
import Derived.Test.Qxb6500562aGreatGnP
import Derived.Test.Qxb6500562aGreatVmJ
import Derived.Test.Qxb6500562aGreatCkU
import Derived.Test.Qxb6500562aGreatS2
namespace Go.Proofs.Qxb6500562aGreat
open Go.Den Go.Zip
set_option linter.unusedVariables false
set_option linter.unusedSimpArgs false
variable {w w' : World} {g : Nat} {f : Nat → Value} {Z : Nat → Sl} {V : Nat → List Value} {k j : Nat} {P : Prg} {b1 b2 b3 b4 : Nat} {O O' : Nat → Prop} {cs : List Nat} {hs en : List Int} {cl : List (Int × Int)}

def szG (j : Nat) : Nat := if j = 14 then 2 else 1
def prV (q : Int × Int) : List Value := [.int .i64 q.1, .int .i64 q.2]
def vG (cs : List Nat) (hs : List Int) (cl : List (Int × Int)) (en : List Int) (j : Nat) : List Value := if j = 12 then byts cs else if j = 13 then ints hs else if j = 14 then cl.flatMap prV else if j = 15 then ints en else []
/-- The record and its four buffers; cell k may be stale. -/
structure GX (w : World) (g : Nat) (f : Nat → Value) (Z : Nat → Sl) (V : Nat → List Value) (k : Nat) : Prop where
  rc : Blk w g (tab 16 f)
  sl : ∀ j, 12 ≤ j → j < 16 → j ≠ k → f j = .slice (Z j).a (Z j).l (Z j).c
  os : ∀ j, 12 ≤ j → j < 16 → OS w (Z j) (V j) (szG j)
  og : ∀ j, 12 ≤ j → j < 16 → ∀ b, owns (Z j) b → b ≠ g
  dj : ∀ i j, 12 ≤ i → i < 16 → 12 ≤ j → j < 16 → i ≠ j → ∀ b, owns (Z i) b → ¬ owns (Z j) b
def gO (g : Nat) (Z : Nat → Sl) (b : Nat) : Prop := b = g ∨ ∃ j, 12 ≤ j ∧ j < 16 ∧ owns (Z j) b
theorem GX.lt (x : GX w g f Z V k) {b : Nat} (hb : gO g Z b) : b < w.heap.size := by
  rcases hb with rfl | ⟨j, h1, h2, h3⟩
  · exact x.rc.lt
  · exact (x.os j h1 h2).lt h3
theorem GX.frp {Q : Nat → Prop} (x : GX w g f Z V k) (F : FrP Q w w') (hn : ∀ b, gO g Z b → ¬ Q b) : GX w' g f Z V k :=
  ⟨x.rc.frp F (hn _ (.inl rfl)), x.sl, fun j h1 h2 => (x.os j h1 h2).frp F fun b hb => hn _ (.inr ⟨j, h1, h2, hb⟩), x.og, x.dj⟩
/-- Buffer j turns. -/
theorem GX.turn {s' : Sl} {vs : List Value} (x : GX w g f Z V k) (h1 : 12 ≤ j) (h2 : j < 16) (hk : k = 0 ∨ k = j) (o : OS w' s' vs (szG j)) (F : FrP (owns (Z j)) w w') (hs : ∀ b, owns s' b → owns (Z j) b ∨ w.heap.size ≤ b) :
    GX w' g f (fset Z j s') (fset V j vs) j ∧ Gw (gO g Z) w (gO g (fset Z j s')) w' := by
  have e : ∀ i, i ≠ j → fset Z j s' i = Z i := fun i hi => fset_ne hi
  have new : ∀ b, owns s' b → w.heap.size ≤ b → ¬ gO g Z b := fun b _ hb hg => by have := x.lt hg; omega
  refine ⟨⟨x.rc.frp F fun hb => x.og j h1 h2 _ hb rfl, fun i i1 i2 i3 => ?_, fun i i1 i2 => ?_, fun i i1 i2 b hb => ?_, fun i l i1 i2 l1 l2 hne b hb hb' => ?_⟩, F.mono fun b hb => .inr ⟨j, h1, h2, hb⟩, ?_⟩
  · rw [e i i3]; exact x.sl i i1 i2 (by omega)
  · by_cases h : i = j
    · subst h; rw [fset_eq, fset_eq]; exact o
    · rw [fset_ne h, fset_ne h]; exact (x.os i i1 i2).frp F fun b hb hb' => x.dj i j i1 i2 h1 h2 h b hb hb'
  · by_cases h : i = j
    · subst h; rw [fset_eq] at hb
      rcases hs b hb with h' | h'
      · exact x.og i i1 i2 b h'
      · intro e; exact new b hb h' (.inl e)
    · rw [fset_ne h] at hb; exact x.og i i1 i2 b hb
  · by_cases h : i = j
    · subst h
      rw [fset_eq] at hb
      rw [fset_ne (fun e => hne e.symm)] at hb'
      rcases hs b hb with h' | h'
      · exact x.dj i l i1 i2 l1 l2 hne b h' hb'
      · exact new b hb h' (.inr ⟨l, l1, l2, hb'⟩)
    · rw [fset_ne h] at hb
      by_cases h'' : l = j
      · subst h''
        rw [fset_eq] at hb'
        rcases hs b hb' with h' | h'
        · exact x.dj i l i1 i2 l1 l2 hne b hb h'
        · exact new b hb' h' (.inr ⟨i, i1, i2, hb⟩)
      · rw [fset_ne h''] at hb'; exact x.dj i l i1 i2 l1 l2 hne b hb hb'
  · rintro b (rfl | ⟨i, i1, i2, hb⟩)
    · exact .inl (.inl rfl)
    · by_cases h : i = j
      · subst h; rw [fset_eq] at hb
        exact (hs b hb).elim (fun h' => .inl (.inr ⟨i, i1, i2, h'⟩)) .inr
      · rw [fset_ne h] at hb; exact .inl (.inr ⟨i, i1, i2, hb⟩)
/-- An append to buffer j. -/
theorem GX.app {e : TypeId} {z : List Value} {bytes m p : Nat} {new : List Value} {K : Sl → World → Prop} (x : GX w g f Z V k) (h1 : 12 ≤ j) (h2 : j < 16) (hk : k = 0 ∨ k = j) (hb : Blk w p new) (hl : new.length = m * szG j) (hm : 0 < m) (hok : new.all okV = true) (hz : z.length = szG j) (hsm : ((Z j).l + m) * bytes ≤ 2 ^ 46)
    (hK : ∀ s' w', GX w' g f (fset Z j s') (fset V j (V j ++ new)) j → Gw (gO g Z) w (gO g (fset Z j s')) w' → K s' w') : AppS e z bytes (szG j) w (Z j) ⟨some ⟨p, 0, none⟩, m, m⟩ K := by
  refine appO (x.os j h1 h2) hb hl hm hok hz hsm fun s' w' o l gr F => ?_
  obtain ⟨a, b⟩ := x.turn h1 h2 hk o F fun b hb => gr.owns hb
  exact hK s' w' a b
theorem GX.st {K : World → Prop} (x : GX w g f Z V j) (h1 : 12 ≤ j) (h2 : j < 16) (hK : ∀ w', GX w' g (fset f j (.slice (Z j).a (Z j).l (Z j).c)) Z V 0 → FrP (gO g Z) w w' → K w') : St1 w ⟨g, j, none⟩ (.slice (Z j).a (Z j).l (Z j).c) K := by
  refine st1 x.rc (by simpa using h2) fun w' b' f' _ => ?_
  rw [tab_set] at b'
  have F : FrP (fun b => b = g) w w' := FrP.of f' fun b h1 h2 => by omega
  refine hK w' ⟨b', fun i i1 i2 _ => ?_, fun i i1 i2 => (x.os i i1 i2).frp F fun b hb => x.og i i1 i2 b hb, x.og, x.dj⟩ (F.mono fun b hb => .inl hb)
  by_cases h : i = j
  · subst h; rw [fset_eq]
  · rw [fset_ne h]; exact x.sl i i1 i2 h
/-- The checked program that the record points to. -/
structure GT (w : World) (f : Nat → Value) (P : Prg) (b1 b2 b3 b4 : Nat) : Prop where
  t1 : f 2 = .slice (some ⟨b1, 0, none⟩) P.ns.length P.ns.length
  t2 : f 6 = .slice (some ⟨b2, 0, none⟩) P.ns.length P.ns.length
  t3 : f 7 = .slice (some ⟨b3, 0, none⟩) P.ns.length P.ns.length
  t4 : f 8 = .slice (some ⟨b4, 0, none⟩) P.st.fs.length P.st.fs.length
  n1 : Blk w b1 (P.ns.flatMap ndV)
  n2 : Blk w b2 (ints P.st.ty)
  n3 : Blk w b3 (ints P.st.ref)
  n4 : Blk w b4 (P.st.fs.flatMap fnV)
  l2 : P.st.ty.length = P.ns.length
  l3 : P.st.ref.length = P.ns.length
def nO (O : Nat → Prop) (b1 b2 b3 b4 : Nat) : Prop := ¬ O b1 ∧ ¬ O b2 ∧ ¬ O b3 ∧ ¬ O b4
theorem GT.frp {Q : Nat → Prop} (t : GT w f P b1 b2 b3 b4) (F : FrP Q w w') (hn : nO Q b1 b2 b3 b4) : GT w' f P b1 b2 b3 b4 := { t with n1 := t.n1.frp F hn.1, n2 := t.n2.frp F hn.2.1, n3 := t.n3.frp F hn.2.2.1, n4 := t.n4.frp F hn.2.2.2 }
theorem GT.fs {v : Value} (t : GT w f P b1 b2 b3 b4) (hj : 12 ≤ j) : GT w (fset f j v) P b1 b2 b3 b4 :=
  { t with t1 := by rw [fset_ne (by omega)]; exact t.t1, t2 := by rw [fset_ne (by omega)]; exact t.t2, t3 := by rw [fset_ne (by omega)]; exact t.t3, t4 := by rw [fset_ne (by omega)]; exact t.t4 }
theorem GT.nO (t : GT w f P b1 b2 b3 b4) (h : nO O b1 b2 b3 b4) (G : Gw O w O' w') : Go.Proofs.Qxb6500562aGreat.nO O' b1 b2 b3 b4 := by
  obtain ⟨h1, h2, h3, h4⟩ := h
  have := t.n1.lt; have := t.n2.lt; have := t.n3.lt; have := t.n4.lt
  exact ⟨fun h => (G.2 _ h).elim h1 (by omega), fun h => (G.2 _ h).elim h2 (by omega), fun h => (G.2 _ h).elim h3 (by omega), fun h => (G.2 _ h).elim h4 (by omega)⟩
/-- The two pointers of the record stand. -/
def Pt (f : Nat → Value) (ck m : Nat) : Prop := f 0 = .pointer (some ⟨ck, 0, none⟩) ∧ f 1 = .pointer (some ⟨m, 0, none⟩)
structure GE (w : World) (g : Nat) (ck m : Nat) (P : Prg) (f : Nat → Value) (Z : Nat → Sl) (V : Nat → List Value) (k b1 b2 b3 b4 : Nat) : Prop where
  x : GX w g f Z V k
  t : GT w f P b1 b2 b3 b4
  n : nO (gO g Z) b1 b2 b3 b4
  p : Pt f ck m
variable {ck m : Nat}
theorem GE.gw {Z' : Nat → Sl} {V' : Nat → List Value} (e : GE w g ck m P f Z V k b1 b2 b3 b4) (x : GX w' g f Z' V' j) (G : Gw (gO g Z) w (gO g Z') w') : GE w' g ck m P f Z' V' j b1 b2 b3 b4 := ⟨x, e.t.frp G.1 e.n, e.t.nO e.n G, e.p⟩
/-- The engine's state in a compiling; it owns O. -/
def GQ (w : World) (g ck m : Nat) (P : Prg) (cs : List Nat) (hs : List Int) (cl : List (Int × Int)) (en : List Int) (O : Nat → Prop) : Prop := ∃ f Z b1 b2 b3 b4, GE w g ck m P f Z (vG cs hs cl en) 0 b1 b2 b3 b4 ∧ O = gO g Z
theorem GQ.frp {Q : Nat → Prop} (q : GQ w g ck m P cs hs cl en O) (F : FrP Q w w') (hn : ∀ b, b < w.heap.size → ¬ Q b) : GQ w' g ck m P cs hs cl en O := by
  obtain ⟨f, Z, b1, b2, b3, b4, e, rfl⟩ := q
  refine ⟨f, Z, b1, b2, b3, b4, ⟨e.x.frp F fun b hb => hn b (e.x.lt hb), e.t.frp F ⟨hn _ e.t.n1.lt, hn _ e.t.n2.lt, hn _ e.t.n3.lt, hn _ e.t.n4.lt⟩, e.n, e.p⟩, rfl⟩
theorem GQ.lt (q : GQ w g ck m P cs hs cl en O) {b : Nat} (hb : O b) : b < w.heap.size := by
  obtain ⟨f, Z, b1, b2, b3, b4, e, rfl⟩ := q
  exact e.x.lt hb
theorem GQ.drew (q : GQ w g ck m P cs hs cl en O) : GQ w.drew g ck m P cs hs cl en O := q.frp (Q := fun _ => False) (FrP.refl _ w).drew fun _ _ h => h
theorem vG12 {l : List Nat} : fset (vG cs hs cl en) 12 (vG cs hs cl en 12 ++ byts l) = vG (cs ++ l) hs cl en := by
  funext j
  unfold fset
  split
  · rename_i h; subst h; simp [vG, byts]
  · rename_i h; simp [vG, h]
theorem vG13 {l : List Int} : fset (vG cs hs cl en) 13 (ints l) = vG cs l cl en := by
  funext j
  unfold fset
  split
  · rename_i h; subst h; simp [vG]
  · rename_i h; simp [vG, h]
theorem vG14 {q : Int × Int} : fset (vG cs hs cl en) 14 (vG cs hs cl en 14 ++ prV q) = vG cs hs (cl ++ [q]) en := by
  funext j
  unfold fset
  split
  · rename_i h; subst h; simp [vG]
  · rename_i h; simp [vG, h]
theorem vG15 {l : List Int} : fset (vG cs hs cl en) 15 (ints l) = vG cs hs cl l := by
  funext j
  unfold fset
  split
  · rename_i h; subst h; simp [vG]
  · rename_i h; simp [vG, h]
theorem GE.cln (e : GE w g ck m P f Z (vG cs hs cl en) k b1 b2 b3 b4) : (Z 12).l = cs.length := by
  have := (e.x.os 12 (by omega) (by omega)).len
  simpa [vG, szG] using this.symm
theorem GE.hln (e : GE w g ck m P f Z (vG cs hs cl en) k b1 b2 b3 b4) : (Z 13).l = hs.length := by
  have := (e.x.os 13 (by omega) (by omega)).len
  simpa [vG, szG, ints] using this.symm
/-- Bytes behind the code. -/
theorem GE.emit {l : List Nat} {p : Nat} {K : Sl → World → Prop} (e : GE w g ck m P f Z (vG cs hs cl en) k b1 b2 b3 b4) (hk : k = 0 ∨ k = 12) (hb : Blk w p (byts l)) (hl : 0 < l.length) (hc : cs.length + l.length ≤ 70000)
    (hK : ∀ s' w', GE w' g ck m P f (fset Z 12 s') (vG (cs ++ l) hs cl en) 12 b1 b2 b3 b4 → Gw (gO g Z) w (gO g (fset Z 12 s')) w' → K s' w') : AppS 5 [.int .u8 0] 1 1 w (Z 12) ⟨some ⟨p, 0, none⟩, l.length, l.length⟩ K := by
  have hcl := e.cln
  refine e.x.app (j := 12) (by omega) (by omega) hk hb (by simp [szG, byts]) hl (byts_ok _) rfl (by omega) fun s' w' x' G => ?_
  rw [vG12] at x'
  exact hK s' w' (e.gw x' G) G
theorem GE.stC {K : World → Prop} (e : GE w g ck m P f Z V 12 b1 b2 b3 b4) (hK : ∀ w', GE w' g ck m P (fset f 12 (.slice (Z 12).a (Z 12).l (Z 12).c)) Z V 0 b1 b2 b3 b4 → Gw (gO g Z) w (gO g Z) w' → K w') : St1 w ⟨g, 12, none⟩ (.slice (Z 12).a (Z 12).l (Z 12).c) K :=
  e.x.st (by omega) (by omega) fun w' x' F => hK w' ⟨x', (e.t.frp F e.n).fs (by omega), e.n, by rw [Pt, fset_ne (by omega), fset_ne (by omega)]; exact e.p⟩ ⟨F, fun b hb => .inl hb⟩
theorem GE.stJ {K : World → Prop} (e : GE w g ck m P f Z V j b1 b2 b3 b4) (h1 : 12 ≤ j) (h2 : j < 16) (hK : ∀ w', GE w' g ck m P (fset f j (.slice (Z j).a (Z j).l (Z j).c)) Z V 0 b1 b2 b3 b4 → Gw (gO g Z) w (gO g Z) w' → K w') : St1 w ⟨g, j, none⟩ (.slice (Z j).a (Z j).l (Z j).c) K :=
  e.x.st h1 h2 fun w' x' F => hK w' ⟨x', (e.t.frp F e.n).fs h1, e.n, by rw [Pt, fset_ne (by omega), fset_ne (by omega)]; exact e.p⟩ ⟨F, fun b hb => .inl hb⟩
theorem GE.ldJ {K : Sl → Prop} (e : GE w g ck m P f Z V k b1 b2 b3 b4) (h1 : 12 ≤ j) (h2 : j < 16) (hk : j ≠ k) (hK : K (Z j)) : LdS w ⟨g, j, none⟩ K := ldS e.x.rc (by rw [tab_get h2, e.x.sl j h1 h2 hk]) hK
theorem GE.frp0 {p : Nat} (e : GE w g ck m P f Z V k b1 b2 b3 b4) (F : FrP (fun b => b = p) w w') (hp : w.heap.size ≤ p) : GE w' g ck m P f Z V k b1 b2 b3 b4 := by
  have hn : ∀ b, b < w.heap.size → ¬ (b = p) := fun b hb e => by omega
  exact ⟨e.x.frp F fun b hb => hn b (e.x.lt hb), e.t.frp F ⟨hn _ e.t.n1.lt, hn _ e.t.n2.lt, hn _ e.t.n3.lt, hn _ e.t.n4.lt⟩, e.n, e.p⟩
theorem GE.fr0 (e : GE w g ck m P f Z V k b1 b2 b3 b4) (F : Fr 0 0 w w') : GE w' g ck m P f Z V k b1 b2 b3 b4 := e.frp0 (p := w.heap.size) (FrP.of0 F) (Nat.le_refl _)
theorem Gw.new {O : Nat → Prop} (F : Fr 0 0 w w') : Gw O w O w' := ⟨FrP.of0 F, fun b hb => .inl hb⟩
/-- Up to n bytes, emitted in one append. -/
theorem emit1 {l : List Nat} {vs : Array Value} {n : Nat} {K : World → Prop} (q : GQ w g ck m P cs hs cl en O) (hv : vs.toList = byts l) (hn : n = l.length) (hl : 0 < l.length) (hc : cs.length + l.length ≤ 70000)
    (hK : ∀ w' O', GQ w' g ck m P (cs ++ l) hs cl en O' → Gw O w O' w' → K w') :
    LdS w ⟨g, 12, none⟩ fun code => New w (.cells vs 5) fun p w => AppS 5 [.int .u8 0] 1 1 w code ⟨some ⟨p, 0, none⟩, n, n⟩ fun l3 w => St1 w ⟨g, 12, none⟩ (.slice l3.a l3.l l3.c) K := by
  subst hn
  obtain ⟨f, Z, b1, b2, b3, b4, e, rfl⟩ := q
  refine e.ldJ (by omega) (by omega) (by omega) (newB fun w1 c1 f1 s1 => ?_)
  rw [hv] at c1
  refine (e.fr0 f1).emit (.inl rfl) c1 hl hc fun s' w2 e2 G2 => ?_
  have e2s : fset Z 12 s' 12 = s' := fset_eq _ _ _
  have := e2.stC (K := K) fun w3 e3 G3 => hK w3 _ ⟨_, _, _, _, _, _, e3, rfl⟩ (((Gw.new f1).trans G2).trans G3)
  rw [e2s] at this
  exact this
theorem op_spec {o : Int} {K : World → Prop} (q : GQ w g ck m P cs hs cl en O) (hc : cs.length + 1 ≤ 70000) (hK : ∀ w' O', GQ w' g ck m P (cs ++ [b8 o]) hs cl en O' → Gw O w O' w' → K w') : S.gen_Engine_op g o w K := by
  unfold S.gen_Engine_op
  refine emit1 q (l := [b8 o]) ?_ rfl (by simp) hc hK
  have : U8 o = ((b8 o : Nat) : Int) := by unfold b8; rw [U8_mod]; omega
  rw [this]; rfl
theorem b8_cast (o : Int) : U8 o = ((b8 o : Nat) : Int) := by unfold b8; rw [U8_mod]; omega
theorem slot_spec {o s : Int} {K : World → Prop} (q : GQ w g ck m P cs hs cl en O) (hc : cs.length + 2 ≤ 70000) (hK : ∀ w' O', GQ w' g ck m P (cs ++ [b8 o, b8 s]) hs cl en O' → Gw O w O' w' → K w') : S.gen_Engine_slot g o s w K := by
  unfold S.gen_Engine_slot
  refine emit1 q (l := [b8 o, b8 s]) ?_ rfl (by simp) hc hK
  rw [b8_cast o, b8_cast s]; rfl
/-- Behind the loose code. -/
theorem u16_spec {v : Nat} {K : Sl → World → Prop} (e : GE w g ck m P f Z (vG cs hs cl en) k b1 b2 b3 b4) (hk : k = 0 ∨ k = 12) (hc : cs.length + 2 ≤ 70000)
    (hK : ∀ s' w', GE w' g ck m P f (fset Z 12 s') (vG (cs ++ u16B v) hs cl en) 12 b1 b2 b3 b4 → Gw (gO g Z) w (gO g (fset Z 12 s')) w' → K s' w') : S.api_AppendU16 (Z 12) (v : Nat) w K := by
  unfold S.api_AppendU16
  refine newB fun w1 c1 f1 s1 => ?_
  have e8 : Shr .i64 ((v : Nat) : Int) 8 = ((v / 256 : Nat) : Int) := by
    have := Shr_nat v 8 (by omega)
    rw [show ((8 : Nat) : Int) = 8 from rfl] at this
    rw [this]
  have c1 : Blk w1 w.heap.size (byts (u16B v)) := by
    rw [e8, U8_nat, U8_nat] at c1
    exact c1
  exact (e.fr0 f1).emit hk c1 (by simp [u16B]) hc fun s' w2 e2 G2 => hK s' w2 e2 ((Gw.new f1).trans G2)
theorem fset2 {α : Type} (f : Nat → α) (i : Nat) (a b : α) : fset (fset f i a) i b = fset f i b := by
  funext t; unfold fset; split <;> rfl
theorem leB_app (u : Nat) : ∀ k, leB (k + 1) u = leB k u ++ [u / 256 ^ k % 256]
  | 0 => by simp [leB]
  | k + 1 => by
    have := leB_app (u / 256) k
    show u % 256 :: leB (k + 1) (u / 256) = (u % 256 :: leB k (u / 256)) ++ _
    rw [this, List.cons_append, Nat.div_div_eq_div_mul, Nat.pow_succ, Nat.mul_comm 256]
theorem i64_spec {v : Int} {K : Sl → World → Prop} (e : GE w g ck m P f Z (vG cs hs cl en) k b1 b2 b3 b4) (hk : k = 0 ∨ k = 12) (hc : cs.length + 8 ≤ 70000)
    (hK : ∀ s' w', GE w' g ck m P f (fset Z 12 s') (vG (cs ++ i64B v) hs cl en) 12 b1 b2 b3 b4 → Gw (gO g Z) w (gO g (fset Z 12 s')) w' → K s' w') : S.api_AppendI64 (Z 12) v w K := by
  unfold S.api_AppendI64
  refine let_ ?_
  have h64 : 0 ≤ U64 v ∧ U64 v < 18446744073709551616 := by
    simp only [U64, IntKind.wrap, IntKind.bits, IntKind.signed, Bool.false_and, Bool.false_eq_true, if_false]
    omega
  obtain ⟨u, hu⟩ : ∃ u : Nat, U64 v = u := ⟨(U64 v).toNat, by omega⟩
  have hi : i64B v = leB 8 u := by unfold i64B; rw [hu]; rfl
  rw [hi] at hK
  rw [hu]
  refine loopN (fun n st t => ∃ (i : Nat) (Z' : Nat → Sl) (k' : Nat), st = (Z' 12, ((u / 256 ^ i : Nat) : Int), (i : Int), ()) ∧ i + n = 8 ∧ (∃ s', Z' = fset Z 12 s') ∧ (k' = 0 ∨ k' = 12) ∧ (0 < i → k' = 12) ∧ GE t g ck m P f Z' (vG (cs ++ leB i u) hs cl en) k' b1 b2 b3 b4 ∧ Gw (gO g Z) w (gO g Z') t) 8
    ⟨0, Z, k, by simp, rfl, ⟨Z 12, by funext t; unfold fset; split <;> simp_all⟩, hk, by omega, by simpa [leB] using e, Gw.refl _ _⟩ ?_
  rintro n _ t ⟨i, Z', k', rfl, hn, ⟨s', rfl⟩, hk', hk2, e', G'⟩ Q hQ
  dsimp only
  cases n with
  | zero =>
    rw [if_neg (by simp only [decide_eq_true_eq]; omega)]
    have : i = 8 := by omega
    subst this
    have := hk2 (by omega)
    subst this
    rw [fset_eq]
    exact hK s' t e' G'
  | succ n =>
    rw [if_pos (by simp only [decide_eq_true_eq]; omega)]
    refine newB fun w1 c1 f1 s1 => ?_
    rw [U8_nat] at c1
    have c1 : Blk w1 t.heap.size (byts [u / 256 ^ i % 256]) := c1
    refine (e'.fr0 f1).emit hk' c1 (by simp) (by rw [List.length_append, leB_len]; simp; omega) fun s2 w2 e2 G2 => let_ (let_ ?_)
    rw [W_succ (by omega)]
    have e8 : Shr .u64 ((u / 256 ^ i : Nat) : Int) 8 = ((u / 256 ^ (i + 1) : Nat) : Int) := by
      simp only [Shr, IntKind.bits]
      rw [show min (8 : Int).toNat 64 = 8 from rfl, Int.fdiv_eq_ediv_of_nonneg _ (by decide), Nat.pow_succ, ← Nat.div_div_eq_div_mul]
      norm_cast
    rw [e8]
    refine hQ n _ w2 (by omega) ⟨i + 1, fset Z 12 s2, 12, by rw [fset_eq], by omega, ⟨s2, rfl⟩, .inr rfl, fun _ => rfl, ?_, ?_⟩
    · rw [fset2, List.append_assoc, ← leB_app] at e2
      exact e2
    · rw [fset2] at G2
      exact (G'.trans (Gw.new f1)).trans G2
theorem num_spec {v : Int} {K : World → Prop} (q : GQ w g ck m P cs hs cl en O) (hc : cs.length + 9 ≤ 70000) (hK : ∀ w' O', GQ w' g ck m P (cs ++ (numS v).map r0) hs cl en O' → Gw O w O' w' → K w') : S.gen_Engine_num g v w K := by
  unfold S.gen_Engine_num
  refine op_spec q (by omega) fun w1 O1 q1 G1 => ?_
  obtain ⟨f, Z, b1, b2, b3, b4, e, rfl⟩ := q1
  refine e.ldJ (by omega) (by omega) (by omega) ?_
  refine i64_spec e (.inl rfl) (by simp; omega) fun s' w2 e2 G2 => ?_
  have es : fset Z 12 s' 12 = s' := fset_eq _ _ _
  have := e2.stC (K := K) fun w3 e3 G3 => hK w3 _ ⟨_, _, _, _, _, _, by
    have en : (numS v).map r0 = [b8 0] ++ i64B v := by
      unfold numS byS
      rw [List.map_map]
      have : (r0 ∘ Sum.inl : Nat → Nat) = id := rfl
      rw [this, List.map_id]
      rfl
    rw [en, ← List.append_assoc]
    exact e3, rfl⟩ ((G1.trans G2).trans G3)
  rw [es] at this
  exact this
theorem here_spec {K : Int → World → Prop} (q : GQ w g ck m P cs hs cl en O) (hK : K (cs.length : Nat) w) : S.gen_Engine_here g w K := by
  unfold S.gen_Engine_here
  obtain ⟨f, Z, b1, b2, b3, b4, e, rfl⟩ := q
  refine e.ldJ (by omega) (by omega) (by omega) ?_
  rw [e.cln]; exact hK
theorem back_spec {o : Int} {to_ : Nat} {K : World → Prop} (q : GQ w g ck m P cs hs cl en O) (hc : cs.length + 3 ≤ 70000) (hK : ∀ w' O', GQ w' g ck m P (cs ++ (b8 o :: u16B to_)) hs cl en O' → Gw O w O' w' → K w') : S.gen_Engine_back g o (to_ : Nat) w K := by
  unfold S.gen_Engine_back
  refine op_spec q (by omega) fun w1 O1 q1 G1 => ?_
  obtain ⟨f, Z, b1, b2, b3, b4, e, rfl⟩ := q1
  refine e.ldJ (by omega) (by omega) (by omega) ?_
  refine u16_spec e (.inl rfl) (by simp; omega) fun s' w2 e2 G2 => ?_
  have es : fset Z 12 s' 12 = s' := fset_eq _ _ _
  have := e2.stC (K := K) fun w3 e3 G3 => hK w3 _ ⟨_, _, _, _, _, _, by
    rw [show b8 o :: u16B to_ = [b8 o] ++ u16B to_ from rfl, ← List.append_assoc]
    exact e3, rfl⟩ ((G1.trans G2).trans G3)
  rw [es] at this
  exact this
end Go.Proofs.Qxb6500562aGreat
