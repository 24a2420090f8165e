/-
  The model's heap: its memory.
-/
import Derived.Test.Qxb6500562aGreatHpQ
import Derived.Test.Qxb6500562aGreatSep
import Derived.Test.Qxb6500562aGreatCkM
namespace Go.Proofs.Qxb6500562aGreat
open Go.Den Go.Zip
set_option linter.unusedVariables false
set_option linter.unusedSimpArgs false

/-- An object with the blocks of its fields. -/
structure OE where
  rb : Nat
  ib : Nat
  ob : Ob
def obC (e : OE) : List Value := [.slice (some ⟨e.rb, 0, none⟩) e.ob.refs.length e.ob.refs.length, .slice (some ⟨e.ib, 0, none⟩) e.ob.ints.length e.ob.ints.length]
/-- What a heap of the machine's size is. -/
structure WM (M : SH) : Prop where
  rl : M.roots.length ≤ 24
  ol : M.objs.length ≤ 49
  fl : ∀ o ∈ M.objs, o.refs.length ≤ 48 ∧ o.ints.length ≤ 48
  rr : ∀ x ∈ M.roots, -1 ≤ x ∧ x < M.objs.length
  fr : ∀ o ∈ M.objs, ∀ y ∈ o.refs, -1 ≤ y ∧ y < M.objs.length
structure HMm (w : World) (h : Nat) (es : List OE) (roots : List Int) (so sr : Sl) : Prop where
  rc : Blk w h [.slice so.a so.l so.c, .slice sr.a sr.l sr.c]
  oo : OS w so (es.flatMap obC) 2
  rt : OS w sr (ints roots) 1
  bk : ∀ e ∈ es, Blk w e.rb (ints e.ob.refs) ∧ Blk w e.ib (ints e.ob.ints)
  nd : es.Pairwise (fun e e' => e.rb ≠ e'.rb ∧ e.rb ≠ e'.ib ∧ e.ib ≠ e'.rb ∧ e.ib ≠ e'.ib) ∧ ∀ e ∈ es, e.rb ≠ e.ib
  d1 : ¬ owns so h ∧ ¬ owns sr h ∧ ∀ b, owns so b → ¬ owns sr b
  d2 : ∀ e ∈ es, ∀ b, (b = e.rb ∨ b = e.ib) → b ≠ h ∧ ¬ owns so b ∧ ¬ owns sr b
  wm : WM ⟨es.map OE.ob, roots⟩
def hmo (h : Nat) (es : List OE) (so sr : Sl) (b : Nat) : Prop := b = h ∨ owns so b ∨ owns sr b ∨ ∃ e ∈ es, b = e.rb ∨ b = e.ib
def HM (w : World) (h : Nat) (M : SH) (O : Nat → Prop) : Prop := ∃ es so sr, HMm w h es M.roots so sr ∧ M.objs = es.map OE.ob ∧ O = hmo h es so sr
variable {w w' w0 : World} {h : Nat} {es : List OE} {roots : List Int} {so sr : Sl} {M : SH} {O P : Nat → Prop}

theorem HMm.lt (m : HMm w h es roots so sr) : ∀ b, hmo h es so sr b → b < w.heap.size := by
  rintro b (rfl | hb | hb | ⟨e, he, rfl | rfl⟩)
  · exact m.rc.lt
  · exact m.oo.lt hb
  · exact m.rt.lt hb
  · exact (m.bk e he).1.lt
  · exact (m.bk e he).2.lt
theorem HMm.frp (m : HMm w h es roots so sr) (f : FrP P w w') (hn : ∀ b, hmo h es so sr b → ¬ P b) : HMm w' h es roots so sr :=
  ⟨m.rc.frp f (hn h (.inl rfl)), m.oo.frp f fun b hb => hn b (.inr (.inl hb)), m.rt.frp f fun b hb => hn b (.inr (.inr (.inl hb))), fun e he => ⟨(m.bk e he).1.frp f (hn _ (.inr (.inr (.inr ⟨e, he, .inl rfl⟩)))), (m.bk e he).2.frp f (hn _ (.inr (.inr (.inr ⟨e, he, .inr rfl⟩))))⟩, m.nd, m.d1, m.d2, m.wm⟩
theorem HM.lt (m : HM w h M O) : ∀ b, O b → b < w.heap.size := by
  obtain ⟨es, so, sr, m, _, rfl⟩ := m
  exact m.lt
theorem HM.frp (m : HM w h M O) (f : FrP P w w') (hn : ∀ b, O b → ¬ P b) : HM w' h M O := by
  obtain ⟨es, so, sr, m, e, rfl⟩ := m
  exact ⟨es, so, sr, m.frp f hn, e, rfl⟩
theorem HM.wm (m : HM w h M O) : WM M := by
  obtain ⟨es, so, sr, m, e, _⟩ := m
  have := m.wm
  rw [← e] at this
  exact this
theorem HM.drew (m : HM w h M O) : HM w.drew h M O := m.frp (P := fun _ => False) (FrP.of0 (Fr.refl 0 0 w).drew) fun _ _ h => h
theorem HMm.rl (m : HMm w h es roots so sr) : sr.l = roots.length := by
  have := m.rt.len
  simpa [ints] using this.symm
theorem HMm.ol (m : HMm w h es roots so sr) : so.l = es.length := by
  have := m.oo.len
  rw [flat_length (c := 2) (fun _ => rfl)] at this
  omega
/-- The roots' slice. -/
theorem osRd {s : Sl} {zs : List Int} {i : Int} {K : Int → Prop} (h : OS w s (ints zs) 1) (h0 : 0 ≤ i) (h1 : i < zs.length) (hk : K (zs.getD i.toNat (-1))) : Ix s.a s.l i fun b o => LdI .i64 w ⟨b, o + Int.toNat i * 1, none⟩ K := by
  have hl := h.len
  have hz : (ints zs).length = zs.length := by simp [ints]
  rw [hz] at hl
  rcases h with ⟨rfl, e⟩ | ⟨g, a, b, c, junk, d, l⟩
  · have : zs = [] := by simpa [ints] using e
    subst this
    simp at h1; omega
  · refine ix a h0 (by omega) (ldI d (m := zs.getD i.toNat (-1)) ?_ hk)
    rw [Nat.zero_add, Nat.mul_one, List.getElem?_append_left (by omega)]
    have : zs[i.toNat]? = some (zs.getD i.toNat (-1)) := by
      rw [List.getD_eq_getElem?_getD, List.getElem?_eq_getElem (by omega)]; rfl
    exact ints_get this
theorem osSt {s : Sl} {zs : List Int} {i v : Int} {K : World → Prop} (h : OS w s (ints zs) 1) (h0 : 0 ≤ i) (h1 : i < zs.length) (hk : ∀ w', OS w' s (ints (zs.set i.toNat v)) 1 → FrP (owns s) w w' → K w') : Ix s.a s.l i fun b o => St1 w ⟨b, o + Int.toNat i * 1, none⟩ (.int .i64 v) K := by
  have hl := h.len
  have hz : (ints zs).length = zs.length := by simp [ints]
  rw [hz] at hl
  rcases h with ⟨rfl, e⟩ | ⟨g, a, b, c, junk, d, l⟩
  · have : zs = [] := by simpa [ints] using e
    subst this
    simp at h1; omega
  · refine ix a h0 (by omega) ?_
    rw [Nat.zero_add, Nat.mul_one]
    refine st1 d (by rw [List.length_append]; omega) fun w' b' f' _ => hk w' (.inr ⟨g, a, by simpa [ints] using hl, c, junk, ?_, ?_⟩) (FrP.of f' fun b h1 h2 => by rw [show b = g by omega]; exact a)
    · rw [List.set_append_left _ _ (by omega), ints_set] at b'
      exact b'
    · rw [← l]; simp [ints]
theorem osCut {s : Sl} {zs : List Int} {n : Nat} (h : OS w s (ints zs) 1) (hn : n ≤ zs.length) : OS w ⟨s.a, n, s.c⟩ (ints (zs.take n)) 1 ∨ (s = ⟨none, 0, 0⟩ ∧ n = 0) := by
  have hl := h.len
  have hz : (ints zs).length = zs.length := by simp [ints]
  rw [hz] at hl
  rcases h with ⟨rfl, e⟩ | ⟨g, a, b, c, junk, d, l⟩
  · have : zs = [] := by simpa [ints] using e
    subst this
    exact .inr ⟨rfl, by simpa using hn⟩
  · refine .inl (.inr ⟨g, a, by simp [ints, hn], by dsimp only; omega, ints (zs.drop n) ++ junk, ?_, ?_⟩)
    · rw [← List.append_assoc]
      have : ints (zs.take n) ++ ints (zs.drop n) = ints zs := by unfold ints; rw [← List.map_append, List.take_append_drop]
      rw [this]; exact d
    · rw [← List.append_assoc]
      have : ints (zs.take n) ++ ints (zs.drop n) = ints zs := by unfold ints; rw [← List.map_append, List.take_append_drop]
      rw [this]; exact l
/-- An object's two slices. -/
theorem HMm.refs {x : Int} {e : OE} {K : Sl → Prop} (m : HMm w h es roots so sr) (h0 : 0 ≤ x) (he : es[x.toNat]? = some e) (hk : K ⟨some ⟨e.rb, 0, none⟩, e.ob.refs.length, e.ob.refs.length⟩) :
    LdS w ⟨h, 0, none⟩ fun s => Ix s.a s.l x fun b o => LdS w ⟨b, o + Int.toNat x * 2, none⟩ K := by
  have hx : x.toNat < es.length := by
    rcases Nat.lt_or_ge x.toNat es.length with h | h
    · exact h
    · rw [List.getElem?_eq_none h] at he; cases he
  refine ldS m.rc rfl ?_
  have hol := m.ol
  rcases m.oo with ⟨rfl, e1⟩ | ⟨g, a, b, c, junk, d, l⟩
  · simp at hol; omega
  · refine ix a h0 (by dsimp only; omega) (ldS d ?_ hk)
    rw [Nat.zero_add, List.getElem?_append_left (by rw [flat_length (c := 2) (fun _ => rfl)]; omega)]
    have := flat_get (f := obC) (c := 2) (fun _ => rfl) es x.toNat 0 (by omega)
    rw [Nat.add_zero, he] at this
    exact this.trans rfl
theorem HMm.intsS {x : Int} {e : OE} {K : Sl → Prop} (m : HMm w h es roots so sr) (h0 : 0 ≤ x) (he : es[x.toNat]? = some e) (hk : K ⟨some ⟨e.ib, 0, none⟩, e.ob.ints.length, e.ob.ints.length⟩) :
    LdS w ⟨h, 0, none⟩ fun s => Ix s.a s.l x fun b o => LdS w ⟨b, o + Int.toNat x * 2 + 1, none⟩ K := by
  have hx : x.toNat < es.length := by
    rcases Nat.lt_or_ge x.toNat es.length with h | h
    · exact h
    · rw [List.getElem?_eq_none h] at he; cases he
  refine ldS m.rc rfl ?_
  have hol := m.ol
  rcases m.oo with ⟨rfl, e1⟩ | ⟨g, a, b, c, junk, d, l⟩
  · simp at hol; omega
  · refine ix a h0 (by dsimp only; omega) (ldS d ?_ hk)
    rw [Nat.zero_add, List.getElem?_append_left (by rw [flat_length (c := 2) (fun _ => rfl)]; omega)]
    have := flat_get (f := obC) (c := 2) (fun _ => rfl) es x.toNat 1 (by omega)
    rw [he] at this
    exact this.trans rfl
theorem cutO {s : Sl} {zs : List Int} {n : Nat} {K : Sl → Prop} (h : OS w s (ints zs) 1) (hn : n ≤ zs.length) (hK : ∀ s', OS w s' (ints (zs.take n)) 1 → s'.l = n → (∀ b, owns s' b → owns s b) → K s') : CutS 1 s 0 (n : Int) (s.c : Int) K := by
  have hl := h.len
  have hz : (ints zs).length = zs.length := by simp [ints]
  rw [hz] at hl
  have hc : s.l ≤ s.c := by
    rcases h with ⟨rfl, e⟩ | ⟨g, a, b, c, junk, d, l⟩
    · exact Nat.le_refl _
    · exact c
  refine ⟨by omega, by omega, by omega, by omega, ?_⟩
  have e : (if (s.c : Int).toNat = (0 : Int).toNat then s.a else s.a.map (·.add ((0 : Int).toNat * 1))) = s.a := by
    split
    · rfl
    · rcases h with ⟨rfl, _⟩ | ⟨g, a, _⟩
      · rfl
      · rw [a]; rfl
  rw [e]
  simp only [Int.toNat_natCast, Int.toNat_zero, Nat.sub_zero]
  rcases osCut h hn with h' | ⟨rfl, rfl⟩
  · exact hK _ h' rfl fun b hb => hb
  · exact hK _ (by simpa [ints] using OS.nil w 1) rfl fun b hb => hb
/-! ### The calls on roots -/
/-- The roots turn; the objects stand. -/
theorem HMm.turn {roots' : List Int} {sr' : Sl} (m : HMm w h es roots so sr) (f : FrP (owns sr) w w') (hs : OS w' sr' (ints roots') 1) (hg : ∀ b, owns sr' b → owns sr b ∨ w.heap.size ≤ b) (hw : WM ⟨es.map OE.ob, roots'⟩) {w2 : World} {i : Nat}
    (f2 : Fr h 1 w' w2) (hb : Blk w2 h [.slice so.a so.l so.c, .slice sr'.a sr'.l sr'.c]) : HMm w2 h es roots' so sr' ∧ FrP (hmo h es so sr) w w2 ∧ ∀ b, hmo h es so sr' b → hmo h es so sr b ∨ w.heap.size ≤ b := by
  have hlt := m.lt
  have nso : ∀ b, hmo h es so sr b → ¬ owns sr b → (b ≠ h → ∀ vs, Blk w b vs → Blk w2 b vs) := fun b hb hn hne vs hv => (hv.frp f hn).fr f2 (by omega)
  have hsr' : ¬ owns sr' h := fun ho => by
    rcases hg h ho with h1 | h1
    · exact m.d1.2.1 h1
    · have := m.rc.lt; omega
  refine ⟨⟨hb, ?_, ?_, fun e he => ?_, m.nd, ⟨m.d1.1, hsr', fun b hb ho => ?_⟩, fun e he b hbb => ?_, hw⟩, ?_, ?_⟩
  · have h1 := m.oo.frp f fun b hb => m.d1.2.2 b hb
    exact h1.frp (FrP.of (P := fun b => b = h) f2 fun b h1 h2 => by omega) fun b hb e => m.d1.1 (by rw [← e]; exact hb)
  · exact hs.frp (FrP.of (P := fun b => b = h) f2 fun b h1 h2 => by omega) fun b hb e => hsr' (by rw [← e]; exact hb)
  · have d1 := m.d2 e he e.rb (.inl rfl)
    have d2 := m.d2 e he e.ib (.inr rfl)
    exact ⟨((m.bk e he).1.frp f d1.2.2).fr f2 (by omega), ((m.bk e he).2.frp f d2.2.2).fr f2 (by omega)⟩
  · rcases hg b ho with h1 | h1
    · exact m.d1.2.2 b hb h1
    · have := m.oo.lt hb; omega
  · have d := m.d2 e he b hbb
    refine ⟨d.1, d.2.1, fun ho => ?_⟩
    rcases hg b ho with h1 | h1
    · exact d.2.2 h1
    · have := hlt b (.inr (.inr (.inr ⟨e, he, hbb⟩))); omega
  · exact FrP.trans (f.mono fun b hb => .inr (.inr (.inl hb))) (FrP.of f2 fun b h1 h2 => .inl (by omega))
  · rintro b (hb | hb | hb | hb)
    · exact .inl (.inl hb)
    · exact .inl (.inr (.inl hb))
    · rcases hg b hb with h1 | h1
      · exact .inl (.inr (.inr (.inl h1)))
      · exact .inr h1
    · exact .inl (.inr (.inr (.inr hb)))
end Go.Proofs.Qxb6500562aGreat
