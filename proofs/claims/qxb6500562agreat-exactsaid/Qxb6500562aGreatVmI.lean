/-
  The machine: Run.
-/
import Derived.Test.Qxb6500562aGreatVmG
import Derived.Test.Qxb6500562aGreatVmH
namespace Go.Proofs.Qxb6500562aGreat
open Go.Den Go.Zip
set_option linter.unusedVariables false
set_option linter.unusedSimpArgs false
variable {w w' : World} {m h : Nat} {c : List Nat} {inp : List Int} {s : MS} {g g' : Nat → Value} {sc si so : Sl} {O O' : Nat → Prop} {H : SH} {out : List Int} {f : Fm} {r : List Fm} {x : Sl} {vs new : List Value} {sz : Nat}

/-- An append of any readable row. -/
theorem appC {e : TypeId} {z : List Value} {bytes : Nat} {s : Sl} {K : Sl → World → Prop} (hg : OS w s vs sz) (hx : CellsAt w x.a (x.l * sz) new) (hok : new.all okV = true) (hz : z.length = sz) (hsmall : (s.l + x.l) * bytes ≤ 2 ^ 46)
    (hK : ∀ (s' : Sl) (w' : World), OS w' s' (vs ++ new) sz → s'.l = s.l + x.l → grown w s s' → FrP (owns s) w w' → K s' w') : AppS e z bytes sz w s x K := by
  refine ⟨new, hx, hok, ?_⟩
  have hlen := hg.len
  have hl := hx.1
  by_cases hfit : s.l + x.l ≤ s.c
  · left
    refine ⟨hfit, ?_⟩
    rcases hg with ⟨rfl, rfl⟩ | ⟨gb, ha, hb, hc, junk, hblk, hcl⟩
    · left
      have : x.l = 0 := by simpa using hfit
      rw [this, Nat.zero_mul] at hl
      have hn : new = [] := List.length_eq_zero_iff.1 hl
      subst hn
      exact ⟨rfl, hK _ _ (.inl ⟨by simp [this], rfl⟩) (by simp) (.inl rfl) (FrP.refl _ _)⟩
    · right
      have hmul : s.l * sz + x.l * sz ≤ s.c * sz := by rw [← Nat.add_mul]; exact Nat.mul_le_mul_right _ hfit
      have hbound : s.l * sz + new.length ≤ (vs ++ junk).length := by omega
      obtain ⟨p1, p2, p3⟩ := putC_blk new (s.l * sz) w (vs ++ junk) hblk hbound
      refine ⟨gb, s.l * sz, by rw [ha]; simp [add_mk], fun i hi => ⟨?_, hblk.frozen _⟩, ?_⟩
      · rw [hblk.cell]
        have : s.l * sz + i < (vs ++ junk).length := by omega
        rw [List.getElem?_eq_getElem this]
        rfl
      · have e1 : (vs ++ junk).take (s.l * sz) = vs := by rw [← hb]; simp
        have e2 : (vs ++ junk).drop (s.l * sz + new.length) = junk.drop new.length := by rw [← hb, List.drop_append]; simp
        rw [e1, e2] at p1
        refine hK _ _ (.inr ⟨gb, ha, by simp [hb, hl, Nat.add_mul], hfit, junk.drop new.length, p1, ?_⟩) rfl (.inl rfl) (FrP.of p2 fun b h1 h2 => by rw [show b = gb by omega]; exact ha)
        simp only [List.length_append, List.length_drop] at hcl hbound ⊢
        show _ = s.c * sz
        omega
  · right
    refine ⟨by omega, hsmall, ?_⟩
    have hold : CellsAt w s.a (s.l * sz) vs := by
      rcases hg with ⟨rfl, rfl⟩ | ⟨gb, ha, hb, hc, junk, hblk, hcl⟩
      · exact ⟨by simp, .inl (by simp)⟩
      · refine ⟨hb, .inr ⟨gb, 0, ha, fun i hi => ?_⟩⟩
        rw [Nat.zero_add, hblk.cell, List.getElem?_append_left (by omega)]
    refine ⟨vs, hold, fun cap hcap => ?_⟩
    have hn := Blk.new w.drew (vs ++ new ++ reps z (cap - (s.l + x.l))).toArray e
    have hf := Fr.alloc (.cells (vs ++ new ++ reps z (cap - (s.l + x.l))).toArray e) (Fr.refl 0 0 w.drew)
    refine hK _ _ (.inr ⟨w.heap.size, rfl, by simp [hlen, hl, Nat.add_mul], hcap, reps z (cap - (s.l + x.l)), by simpa using hn, ?_⟩) rfl (.inr ⟨w.heap.size, Nat.le_refl _, rfl⟩) (FrP.of0 hf)
    simp only [List.length_append, reps_length, hz, hlen, hl]
    show _ = cap * sz
    rw [← Nat.add_mul, ← Nat.add_mul]
    congr 1
    omega
/-- A slice cut to nothing, its room kept. -/
theorem cut0 {s : Sl} {K : Sl → Prop} (hg : OS w s vs sz) (hK : ∀ s', OS w s' [] sz → s'.l = 0 → s'.a = s.a → K s') : CutS sz s 0 0 (s.c : Int) K := by
  refine ⟨by omega, by omega, by omega, by omega, ?_⟩
  have e : (if (s.c : Int).toNat = (0 : Int).toNat then s.a else s.a.map (·.add ((0 : Int).toNat * sz))) = s.a := by
    split
    · rfl
    · rcases hg with ⟨rfl, _⟩ | ⟨g, a, _⟩
      · rfl
      · rw [a]; simp [add_mk]
  rw [e]
  simp only [Int.toNat_natCast, Int.toNat_zero, Nat.sub_zero]
  rcases hg with ⟨rfl, _⟩ | ⟨g, a, b, c, junk, d, l⟩
  · exact hK _ (.inl ⟨rfl, rfl⟩) rfl rfl
  · exact hK _ (.inr ⟨g, a, by simp, by simp, vs ++ junk, by simpa using d, by simpa using l⟩) rfl rfl
/-- A row that somebody else owns. -/
def Src (w : World) (O : Nat → Prop) (x : Sl) (vs : List Value) : Prop := vs.length = x.l ∧ (x.l = 0 ∨ ∃ b o us, x.a = some ⟨b, o, none⟩ ∧ Blk w b us ∧ (us.drop o).take x.l = vs ∧ ¬ O b)
theorem Src.frp (h : Src w O x vs) (f : FrP O w w') : Src w' O x vs := by
  obtain ⟨h1, h2 | ⟨b, o, us, h2, h3, h4, h5⟩⟩ := h
  · exact ⟨h1, .inl h2⟩
  · exact ⟨h1, .inr ⟨b, o, us, h2, h3.frp f h5, h4, h5⟩⟩
theorem Src.mono (h : Src w O x vs) (hm : ∀ b, b < w.heap.size → O' b → O b) : Src w O' x vs := by
  obtain ⟨h1, h2 | ⟨b, o, us, h2, h3, h4, h5⟩⟩ := h
  · exact ⟨h1, .inl h2⟩
  · exact ⟨h1, .inr ⟨b, o, us, h2, h3, h4, fun hb => h5 (hm b h3.lt hb)⟩⟩
theorem Src.gw (h : Src w O x vs) (f : Gw O w O' w') : Src w' O' x vs := by
  obtain ⟨h1, h2 | ⟨b, o, us, h2, h3, h4, h5⟩⟩ := h
  · exact ⟨h1, .inl h2⟩
  · exact ⟨h1, .inr ⟨b, o, us, h2, h3.frp f.1 h5, h4, fun hb => (f.2 b hb).elim h5 fun h => by have := h3.lt; omega⟩⟩
theorem Src.cells (h : Src w O x vs) : CellsAt w x.a (x.l * 1) vs := by
  rw [Nat.mul_one]
  obtain ⟨h1, h2 | ⟨b, o, us, h2, h3, h4, h5⟩⟩ := h
  · exact ⟨h1, .inl h2⟩
  · rw [h2]; exact cellsAt_blk h3 h1 h4
theorem VX.lt (v : VX w m h c inp H out g sc si so) {b : Nat} (hb : vmo m h sc si so b) : b < w.heap.size := by
  rcases hb with rfl | rfl | hb | hb | hb
  · exact v.rc.lt
  · exact v.hp.lt
  · exact v.oc.lt hb
  · exact v.oi.lt hb
  · exact v.oo.lt hb
theorem VX.newC {c' : List Nat} {s' : Sl} (v : VX w m h c inp H out g sc si so) (o : OS w' s' (byts c') 1) (F : FrP (owns sc) w w') (hs : ∀ b, owns s' b → owns sc b ∨ w.heap.size ≤ b) (cb : ∀ x ∈ c', x < 256) (cl : c'.length ≤ 4096) : VX w' m h c' inp H out g s' si so := by
  have hn : ∀ b, owns s' b → b ≠ m ∧ b ≠ h ∧ ¬ owns si b ∧ ¬ owns so b := fun b hb => (hs b hb).elim
    (fun h' => ⟨(v.cm b h').1, (v.cm b h').2, fun h2 => (v.im b h2).2.2 h', fun h2 => (v.om b h2).2.2.1 h'⟩)
    (fun h' => ⟨fun e => by have := v.lt (b := b) (.inl e); omega, fun e => by have := v.lt (b := b) (.inr (.inl e)); omega, fun e => by have := v.lt (b := b) (.inr (.inr (.inr (.inl e)))); omega, fun e => by have := v.lt (b := b) (.inr (.inr (.inr (.inr e)))); omega⟩)
  exact ⟨v.rc.frp F fun hb => (v.cm _ hb).1 rfl, o, v.oi.frp F fun b hb h2 => (v.im b hb).2.2 h2, v.oo.frp F fun b hb h2 => (v.om b hb).2.2.1 h2, v.hp.frp F fun hb => (v.cm _ hb).2 rfl, v.mh, fun b hb => ⟨(hn b hb).1, (hn b hb).2.1⟩,
    fun b hb => ⟨(v.im b hb).1, (v.im b hb).2.1, fun h2 => (hn b h2).2.2.1 hb⟩, fun b hb => ⟨(v.om b hb).1, (v.om b hb).2.1, fun h2 => (hn b h2).2.2.2 hb, (v.om b hb).2.2.2⟩, cb, cl, v.il, v.ol⟩
theorem VX.newI {c' : List Int} {s' : Sl} (v : VX w m h c inp H out g sc si so) (o : OS w' s' (ints c') 1) (F : FrP (owns si) w w') (hs : ∀ b, owns s' b → owns si b ∨ w.heap.size ≤ b) (cl : c'.length ≤ 128) : VX w' m h c c' H out g sc s' so := by
  have hn : ∀ b, owns s' b → b ≠ m ∧ b ≠ h ∧ ¬ owns sc b ∧ ¬ owns so b := fun b hb => (hs b hb).elim
    (fun h' => ⟨(v.im b h').1, (v.im b h').2.1, (v.im b h').2.2, fun h2 => (v.om b h2).2.2.2 h'⟩)
    (fun h' => ⟨fun e => by have := v.lt (b := b) (.inl e); omega, fun e => by have := v.lt (b := b) (.inr (.inl e)); omega, fun e => by have := v.lt (b := b) (.inr (.inr (.inl e))); omega, fun e => by have := v.lt (b := b) (.inr (.inr (.inr (.inr e)))); omega⟩)
  exact ⟨v.rc.frp F fun hb => (v.im _ hb).1 rfl, v.oc.frp F fun b hb h2 => (v.im b h2).2.2 hb, o, v.oo.frp F fun b hb h2 => (v.om b hb).2.2.2 h2, v.hp.frp F fun hb => (v.im _ hb).2.1 rfl, v.mh, v.cm,
    fun b hb => ⟨(hn b hb).1, (hn b hb).2.1, (hn b hb).2.2.1⟩, fun b hb => ⟨(v.om b hb).1, (v.om b hb).2.1, (v.om b hb).2.2.1, fun h2 => (hn b h2).2.2.2 hb⟩, v.cb, v.cl, cl, v.ol⟩
theorem RS.zero (v : RS w h H) (hr : H.roots = []) : RS w h ⟨[], []⟩ := by
  obtain ⟨M, a, b⟩ := v
  have : M.roots = [] := List.length_eq_zero_iff.1 (by rw [b.len, hr]; rfl)
  exact ⟨M, a, fun _ => False, id, ⟨fun x h => h.elim, fun x y h => h.elim, rfl, this, fun x hx => (by cases hx), fun x h => h.elim, fun x h => h.elim⟩⟩
abbrev nilS : Sl := ⟨none, 0, 0⟩
/-- The machine between two runs. -/
def VI (w : World) (m h : Nat) (O : Nat → Prop) : Prop :=
  ∃ c inp H g sc si, VX w m h c inp H [] g sc si nilS ∧ g 0 = .pointer (some ⟨h, 0, none⟩) ∧ (∀ i, i < 48 → ∃ v, g (1 + i) = .int .i64 v) ∧ g 56 = .slice sc.a sc.l sc.c ∧ g 57 = .slice si.a si.l si.c ∧ O = vmo m h sc si nilS
set_option maxHeartbeats 1000000 in
theorem reset_spec {code input : Sl} {fuel : Int} {K : World → Prop} (v : VI w m h O) (hc : Src w O code (byts c)) (hi : Src w O input (ints inp)) (cb : ∀ x ∈ c, x < 256) (cl : c.length ≤ 4096) (il : inp.length ≤ 128) (fb : -9223372036854775808 ≤ fuel ∧ fuel < 9223372036854775808)
    (hK : ∀ w' sc si, VQ w' m h c inp (ms0 fuel) sc si nilS → Gw O w (vmo m h sc si nilS) w' → K w') : S.vm_VM_reset m code input fuel w K := by
  obtain ⟨c0, i0, H, g, sc, si, X, g0, g1, g56, g57, rfl⟩ := v
  unfold S.vm_VM_reset
  refine X.ldP g0 (X.hp.depth (X.ldP g0 (X.hp.pop fun w1 r1 f1 => ?_)))
  obtain ⟨X1, F1⟩ := X.heap r1 f1
  have hr : (hPop H (H.roots.length : Int)).2.roots = [] := by
    unfold hPop
    rw [if_neg (by omega)]
    simp
  have X1 : VX w1 m h c0 i0 ⟨[], []⟩ [] g sc si nilS := { X1 with hp := X1.hp.zero hr }
  have hc1 := hc.frp F1
  have hi1 := hi.frp F1
  have hcl : code.l = c.length := by have := hc.1; simpa using this.symm
  have hil : input.l = inp.length := by have := hi.1; simpa [ints] using this.symm
  refine X1.ldS (by omega) g56 ?_
  refine cut0 X1.oc fun s1 o1 l1 a1 => ?_
  refine appC o1 hc1.cells (byts_ok _) rfl (by omega) fun s2 w2 o2 l2 gr2 F2 => ?_
  have ow1 : ∀ b, owns s1 b → owns sc b := fun b hb => by unfold owns at *; rw [← a1]; exact hb
  have F2' : FrP (owns sc) w1 w2 := F2.mono ow1
  have ow2 : ∀ b, owns s2 b → owns sc b ∨ w1.heap.size ≤ b := fun b hb => (gr2.owns hb).elim (fun h => .inl (ow1 b h)) .inr
  have X2 := X1.newC (c' := c) o2 F2' ow2 cb cl
  have gw2 : Gw (vmo m h sc si nilS) w (vmo m h s2 si nilS) w2 := by
    refine ⟨F1.trans (F2'.mono fun b hb => .inr (.inr (.inl hb))), ?_⟩
    rintro b (h' | h' | h' | h' | h')
    · exact .inl (.inl h')
    · exact .inl (.inr (.inl h'))
    · exact (ow2 b h').elim (fun h => .inl (.inr (.inr (.inl h)))) fun h => .inr (by have := F1.1.1; omega)
    · exact .inl (.inr (.inr (.inr (.inl h'))))
    · exact .inl (.inr (.inr (.inr (.inr h'))))
  refine X2.st (by omega) fun w3 X3 F3 _ => ?_
  have hi3 := (hi.gw gw2).frp F3
  refine X3.ldS (by omega) (by rw [fset_ne (by omega)]; exact g57) ?_
  refine cut0 X3.oi fun s4 o4 l4 a4 => ?_
  refine appC o4 hi3.cells (ints_ok _) rfl (by omega) fun s5 w5 o5 l5 gr5 F5 => ?_
  have ow4 : ∀ b, owns s4 b → owns si b := fun b hb => by unfold owns at *; rw [← a4]; exact hb
  have F5' : FrP (owns si) w3 w5 := F5.mono ow4
  have ow5 : ∀ b, owns s5 b → owns si b ∨ w3.heap.size ≤ b := fun b hb => (gr5.owns hb).elim (fun h => .inl (ow4 b h)) .inr
  have X5 := X3.newI (c' := inp) o5 F5' ow5 il
  have gw5 : Gw (vmo m h s2 si nilS) w2 (vmo m h s2 s5 nilS) w5 := by
    refine ⟨F3.trans (F5'.mono fun b hb => .inr (.inr (.inr (.inl hb)))), ?_⟩
    rintro b (h' | h' | h' | h' | h')
    · exact .inl (.inl h')
    · exact .inl (.inr (.inl h'))
    · exact .inl (.inr (.inr (.inl h')))
    · exact (ow5 b h').elim (fun h => .inl (.inr (.inr (.inr (.inl h))))) fun h => .inr (by have := F3.1.1; omega)
    · exact .inl (.inr (.inr (.inr (.inr h'))))
  have gw := gw2.trans gw5
  refine X5.st (by omega) fun w6 X6 F6 _ => ?_
  refine X6.st (by omega) fun w7 X7 F7 _ => ?_
  refine X7.st (by omega) fun w8 X8 F8 _ => ?_
  refine X8.st (by omega) fun w9 X9 F9 _ => ?_
  refine X9.st (by omega) fun w10 X10 F10 _ => ?_
  refine X10.st (by omega) fun w11 X11 F11 _ => ?_
  refine X11.st (by omega) fun w12 X12 F12 _ => ?_
  refine X12.st (by omega) fun w13 X13 F13 _ => ?_
  refine X13.st (by omega) fun w14 X14 F14 _ => ?_
  refine X14.st (by omega) fun w15 X15 F15 _ => ?_
  refine X15.st (by omega) fun w16 X16 F16 _ => ?_
  refine X16.st (by omega) fun w17 X17 F17 _ => ?_
  refine X17.st (by omega) fun w18 X18 F18 _ => ?_
  refine X18.st (by omega) fun w19 X19 F19 _ => ?_
  refine X19.st (by omega) fun w20 X20 F20 _ => ?_
  have FF : FrP (vmo m h s2 s5 nilS) w5 w20 := (((((((((((((F6.trans F7).trans F8).trans F9).trans F10).trans F11).trans F12).trans F13).trans F14).trans F15).trans F16).trans F17).trans F18).trans F19).trans F20
  refine hK w20 s2 s5 ⟨_, X20, ?_⟩ (gw.trans ⟨FF, fun b hb => .inl hb⟩)
  refine ⟨?_, fun i hi => ?_, fun i hi => (by simp [ms0, wsz] at hi), ?_, ?_, ?_, ?_, ?_, ?_, ?_, ?_, ?_, ?_, ?_, ?_, ?_, ?_, ?_, ?_, by simp [ms0, wsz], fun f hf => (by simp [ms0] at hf), by simp [ms0], fb⟩
  · simp [fset, g0]
  · obtain ⟨y, hy⟩ := g1 i hi
    refine ⟨y, ?_⟩
    unfold fset
    repeat rw [if_neg (by omega)]
    exact hy
  all_goals simp [fset, ms0, wsz, topLi, topLr, topRb]
end Go.Proofs.Qxb6500562aGreat
