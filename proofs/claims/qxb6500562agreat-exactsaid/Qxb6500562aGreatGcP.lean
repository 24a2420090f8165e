/-
  What the code generator's Check asks of the code, plain: whole instructions, jumps that land, calls of functions.
-/
import Derived.Test.Qxb6500562aGreatSmA
import Derived.Test.Qxb6500562aGreatGnM
namespace Go.Proofs.Qxb6500562aGreat
open Go.Den Go.Zip
set_option linter.unusedVariables false
set_option linter.unusedSimpArgs false
variable {c : List Nat} {p q r : Nat} {ent : Int → Nat} {N : Nat} {Tg Tg' : Nat → Prop} {L a b : List Sym} {ns : List Nd} {T R : List Int} {fs : List Fn} {li lr ret : Int}

/-- From p to q, n whole instructions. -/
def RowN (c : List Nat) : Nat → Nat → Nat → Prop
  | 0, p, q => p = q
  | n + 1, p, q => p < c.length ∧ c.getD p 0 < 37 ∧ RowN c n (p + 1 + nargs (c.getD p 0)) q
/-- From p to q, whole instructions. -/
def Row (c : List Nat) (p q : Nat) : Prop := ∃ n, RowN c n p q
theorem Row.refl (p : Nat) : Row c p p := ⟨0, rfl⟩
theorem Row.step (h1 : p < c.length) (h2 : c.getD p 0 < 37) (h : Row c (p + 1 + nargs (c.getD p 0)) q) : Row c p q := by
  obtain ⟨n, h⟩ := h
  exact ⟨n + 1, h1, h2, h⟩
theorem Row.inv (h : Row c p q) : p = q ∨ (p < c.length ∧ c.getD p 0 < 37 ∧ Row c (p + 1 + nargs (c.getD p 0)) q) := by
  obtain ⟨n, h⟩ := h
  cases n with
  | zero => exact .inl h
  | succ n => exact .inr ⟨h.1, h.2.1, n, h.2.2⟩
theorem RowN.le : ∀ {n p q : Nat}, RowN c n p q → p ≤ q
  | 0, p, q, h => Nat.le_of_eq h
  | n + 1, p, q, h => by have := RowN.le h.2.2; omega
theorem Row.le (h : Row c p q) : p ≤ q := by obtain ⟨n, h⟩ := h; exact h.le
theorem RowN.trans : ∀ {n p q : Nat}, RowN c n p q → Row c q r → Row c p r
  | 0, p, q, h, h' => by have h : p = q := h; rw [h]; exact h'
  | n + 1, p, q, h, h' => Row.step h.1 h.2.1 (RowN.trans h.2.2 h')
theorem Row.trans (h : Row c p q) (h' : Row c q r) : Row c p r := by obtain ⟨n, h⟩ := h; exact h.trans h'
theorem RowN.det : ∀ {n p q : Nat}, RowN c n p q → Row c p r → q ≤ r → Row c q r
  | 0, p, q, h, h', _ => by have h : p = q := h; rw [← h]; exact h'
  | n + 1, p, q, h, h', hq => by
    rcases h'.inv with e | ⟨_, _, h''⟩
    · have := h.2.2.le; omega
    · exact RowN.det h.2.2 h'' hq
theorem Row.det (h : Row c p q) (h' : Row c p r) (hq : q ≤ r) : Row c q r := by obtain ⟨n, h⟩ := h; exact h.det h' hq
structure JOK (c : List Nat) (ent : Int → Nat) (N : Nat) (Tg : Nat → Prop) (r : Nat) : Prop where
  z : c.getD r 0 = 22 ∨ c.getD r 0 = 23 → r < u16At c (r + 1) ∧ Tg (u16At c (r + 1))
  j : c.getD r 0 = 21 → Tg (u16At c (r + 1))
  k : c.getD r 0 = 24 → ∃ k : Int, 0 ≤ k ∧ k < N ∧ u16At c (r + 1) = ent k
  b : 21 ≤ c.getD r 0 ∧ c.getD r 0 ≤ 24 → r + 3 ≤ c.length
theorem JOK.mono (h : JOK c ent N Tg r) (hm : ∀ t, Tg t → Tg' t) : JOK c ent N Tg' r := ⟨fun e => ⟨(h.z e).1, hm _ (h.z e).2⟩, fun e => hm _ (h.j e), h.k, h.b⟩
structure SG (c : List Nat) (ent : Int → Nat) (N : Nat) (Tg : Nat → Prop) (p : Nat) (L : List Sym) : Prop where
  row : Row c p (p + L.length)
  jmp : ∀ r, Row c p r → r < p + L.length → JOK c ent N Tg r
  cal : ∀ q ∈ callsOf p L, ∃ r : Nat, q.1 = (r : Int) + 1 ∧ 0 ≤ q.2 ∧ q.2 < N ∧ Row c p r ∧ r + 3 ≤ p + L.length ∧ c.getD r 0 = 24 ∧ u16At c (r + 1) = ent q.2
theorem SG.mono (h : SG c ent N Tg p L) (hm : ∀ t, Tg t → Tg' t) : SG c ent N Tg' p L := ⟨h.row, fun r h1 h2 => (h.jmp r h1 h2).mono hm, h.cal⟩
theorem SG.nil : SG c ent N Tg p [] := ⟨.refl _, fun r h1 h2 => by have := h1.le; simp at h2; omega, fun q hq => by simp [callsOf] at hq⟩
theorem SG.app (h1 : SG c ent N Tg p a) (h2 : SG c ent N Tg (p + a.length) b) : SG c ent N Tg p (a ++ b) := by
  refine ⟨?_, fun r hr hl => ?_, fun q hq => ?_⟩
  · rw [List.length_append, ← Nat.add_assoc]; exact h1.row.trans h2.row
  · rw [List.length_append, ← Nat.add_assoc] at hl
    rcases Nat.lt_or_ge r (p + a.length) with h | h
    · exact h1.jmp r hr h
    · exact h2.jmp r (h1.row.det hr h) hl
  · rw [callsOf_app] at hq
    rw [List.length_append]
    rcases List.mem_append.1 hq with hq | hq
    · obtain ⟨r, e1, e2, e3, e4, e5, e6⟩ := h1.cal q hq
      exact ⟨r, e1, e2, e3, e4, by omega, e6⟩
    · obtain ⟨r, e1, e2, e3, e4, e5, e6⟩ := h2.cal q hq
      exact ⟨r, e1, e2, e3, h1.row.trans e4, by omega, e6⟩
theorem row_ins {o : Nat} {args : List Nat} (h : At c p (o :: args)) (hn : args.length = nargs o) (ho : o < 37) : Row c p (p + 1 + nargs o) ∧ c.getD p 0 = o ∧ p < c.length := by
  have h0 : c.getD p 0 = o := h.2 0 (by simp)
  have hl := h.1
  simp only [List.length_cons] at hl
  refine ⟨.step (by omega) (by omega) ?_, h0, by omega⟩
  rw [h0]; exact .refl _
theorem row_in {o : Nat} (h0 : c.getD p 0 = o) (hr : Row c p r) (hl : r < p + 1 + nargs o) : r = p := by
  rcases hr.inv with e | ⟨_, _, hh⟩
  · exact e.symm
  · have := hh.le; rw [h0] at this; omega
theorem SG.one {o : Nat} {args : List Nat} (h : SA c ent p (byS (o :: args))) (hn : args.length = nargs o) (ho : o < 37) (hj : o < 21 ∨ 24 < o) : SG c ent N Tg p (byS (o :: args)) := by
  obtain ⟨h1, h2, h3⟩ := row_ins (SA.by_ h) hn ho
  have e : p + (byS (o :: args)).length = p + 1 + nargs o := by rw [byS_len, List.length_cons, hn]; omega
  refine ⟨by rw [e]; exact h1, fun r hr hl => ?_, fun q hq => by rw [callsOf_by] at hq; cases hq⟩
  rw [e] at hl
  have := row_in h2 hr hl
  subst this
  exact ⟨fun h => by omega, fun h => by omega, fun h => by omega, fun h => by omega⟩
theorem SG.num {v : Int} (h : SA c ent p (numS v)) : SG c ent N Tg p (numS v) := SG.one h (by rw [i64B_len]; rfl) (by omega) (by omega)
theorem row_jmp {o A : Nat} (h : SA c ent p (jmpS o A)) (ho : o = 21 ∨ o = 22 ∨ o = 23) : Row c p (p + 3) := by
  have hn : nargs o = 2 := by rcases ho with rfl | rfl | rfl <;> rfl
  have := (row_ins (SA.by_ h) (by rw [hn]; rfl) (by omega)).1
  rw [hn] at this; exact this
theorem SG.jmp_ {o A : Nat} (h : SA c ent p (jmpS o A)) (ho : o = 21 ∨ (o = 22 ∨ o = 23) ∧ p < A) (hA : A < 65536) (ht : Tg A) : SG c ent N Tg p (jmpS o A) := by
  have ho' : o = 21 ∨ o = 22 ∨ o = 23 := by omega
  have hn : nargs o = 2 := by rcases ho' with rfl | rfl | rfl <;> rfl
  obtain ⟨h1, h2, h3⟩ := row_ins (SA.by_ h) (by rw [hn]; rfl) (by omega)
  rw [hn] at h1
  have hu : u16At c (p + 1) = A := u16_at hA (SA.by_ h).tail
  have hle := h.le
  rw [jmpS_len] at hle
  refine ⟨h1, fun r hr hl => ?_, fun q hq => by unfold jmpS at hq; rw [callsOf_by] at hq; cases hq⟩
  rw [jmpS_len] at hl
  have := row_in (o := o) h2 hr (by rw [hn]; omega)
  subst this
  exact ⟨fun h => by rw [hu]; exact ⟨by omega, ht⟩, fun h => by rw [hu]; exact ht, fun h => by omega, fun h => hle⟩
theorem SG.call {k : Int} (h : SA c ent p [.inl 24, .inr (k, false), .inr (k, true)]) (he : ent k < 65536) (hk : 0 ≤ k ∧ k < N) : SG c ent N Tg p [.inl 24, .inr (k, false), .inr (k, true)] := by
  have h' : At c p (24 :: u16B (ent k)) := h
  obtain ⟨h1, h2, h3⟩ := row_ins h' rfl (by omega)
  have hu : u16At c (p + 1) = ent k := u16_at he h'.tail
  have hle := h.le
  simp only [List.length_cons, List.length_nil] at hle
  refine ⟨h1, fun r hr hl => ?_, fun q hq => ?_⟩
  · simp only [List.length_cons, List.length_nil] at hl
    have := row_in (o := 24) h2 hr (by show r < p + 1 + 2; omega)
    subst this
    exact ⟨fun h => by omega, fun h => by omega, fun _ => ⟨k, hk.1, hk.2, hu⟩, fun h => hle⟩
  · simp only [callsOf, List.mem_singleton] at hq
    subst hq
    exact ⟨p, by simp, hk.1, hk.2, .refl _, by simp, h2, hu⟩
/-- A piece whose jumps stay inside. -/
def Self (c : List Nat) (ent : Int → Nat) (N : Nat) (p : Nat) (L : List Sym) : Prop := SG c ent N (fun t => Row c p t ∧ t ≤ p + L.length) p L
theorem Self.to {s e : Nat} (h : Self c ent N p L) (hs : Row c s p) (he : p + L.length ≤ e) : SG c ent N (fun t => Row c s t ∧ t ≤ e) p L := h.mono fun t ht => ⟨hs.trans ht.1, by omega⟩
theorem Self.app (h1 : Self c ent N p a) (h2 : Self c ent N (p + a.length) b) : Self c ent N p (a ++ b) := SG.app (h1.to (.refl _) (by rw [List.length_append]; omega)) (h2.to h1.row (by rw [List.length_append]; omega))
theorem Self.one {o : Nat} {args : List Nat} (h : SA c ent p (byS (o :: args))) (hn : args.length = nargs o) (ho : o < 37) (hj : o < 21 ∨ 24 < o) : Self c ent N p (byS (o :: args)) := SG.one h hn ho hj
theorem self_row {f : Int → Nat → List Sym} : ∀ {l : List Int} {p : Nat}, SA c ent p (rowS f l p) → (∀ y ∈ l, ∀ q, SA c ent q (f y q) → Self c ent N q (f y q)) → Self c ent N p (rowS f l p)
  | [], p, h, hf => SG.nil
  | y :: l, p, h, hf => (hf y (.head _) p h.left).app (self_row (h.right rfl) fun z hz => hf z (.tail _ hz))
theorem self_short {f : Nat → List Sym} {o : Nat} {v : Int} (hc : c.length ≤ 65535) (h : SA c ent p (shortS f o v p)) (hf : ∀ q, SA c ent q (f q) → Self c ent N q (f q)) (ho : o = 22 ∨ o = 23) : Self c ent N p (shortS f o v p) := by
  unfold shortS at *
  have hle := h.le
  generalize hfl : f (p + 3) = F at *
  simp only [List.length_append, jmpS_len, numS_len] at hle
  have h1 := h.left.left.left
  have h2 : SA c ent (p + 3) F := h.left.left.right (by rw [jmpS_len])
  have h3 : SA c ent (p + 3 + F.length) (jmpS 21 (p + 3 + F.length + 3 + 9)) := h.left.right (by rw [List.length_append, jmpS_len]; omega)
  have h4 : SA c ent (p + 3 + F.length + 3) (numS v) := h.right (by simp only [List.length_append, jmpS_len]; omega)
  have s2 := hf (p + 3) (by rw [hfl]; exact h2)
  rw [hfl] at s2
  have r1 := row_jmp h1 (by omega)
  have r2 := r1.trans s2.row
  have r3 := r2.trans (row_jmp h3 (by omega))
  have s4 : SG c ent N (fun _ => True) (p + 3 + F.length + 3) (numS v) := SG.num h4
  have r4 := r3.trans s4.row
  rw [numS_len] at r4
  have hlen : p + (jmpS o (p + 3 + F.length + 3) ++ F ++ jmpS 21 (p + 3 + F.length + 3 + 9) ++ numS v).length = p + 3 + F.length + 3 + 9 := by simp only [List.length_append, jmpS_len, numS_len]; omega
  unfold Self
  rw [hlen]
  refine SG.app (SG.app (SG.app (SG.jmp_ h1 (.inr ⟨ho, by omega⟩) (by omega) ⟨r3, by omega⟩) ?_) ?_) ?_
  · rw [jmpS_len]; exact s2.to r1 (by omega)
  · rw [List.length_append, jmpS_len, ← Nat.add_assoc]; exact SG.jmp_ h3 (.inl rfl) (by omega) ⟨r4, by omega⟩
  · rw [show p + (jmpS o (p + 3 + F.length + 3) ++ F ++ jmpS 21 (p + 3 + F.length + 3 + 9)).length = p + 3 + F.length + 3 by simp only [List.length_append, jmpS_len]; omega]
    exact SG.num h4
theorem cls_n {ty : Int} {i r k : Nat} (h1 : nargs i = k) (h2 : nargs r = k) : k = nargs (cls ty i r) := by unfold cls; split <;> simp [*]
theorem cls_37 {ty : Int} {i r : Nat} (h1 : i < 37) (h2 : r < 37) : cls ty i r < 37 := by unfold cls; split <;> assumption
theorem cls_j {ty : Int} {i r : Nat} (h1 : i < 21 ∨ 24 < i) (h2 : r < 21 ∨ 24 < r) : cls ty i r < 21 ∨ 24 < cls ty i r := by unfold cls; split <;> assumption
theorem binO_n (t : Int) : binO t < 21 ∧ 0 = nargs (binO t) := by
  unfold binO
  repeat' split
  all_goals decide
theorem self_sE (hc : c.length ≤ 65535) (hE : ∀ k : Int, 0 ≤ k → k < fs.length → ent k < 65536) : ∀ (n : Nat) (x : Int) (p : Nat), TE ns T R fs li lr n x → SA c ent p (sE ns T R n x p) → Self c ent fs.length p (sE ns T R n x p)
  | 0, x, p, h, _ => h.elim
  | n + 1, x, p, h, ha => by
    have ih := self_sE hc hE n
    obtain ⟨h1, h2, h3, h4, h5, h6, h7, h8⟩ := h
    unfold sE at ha ⊢
    split
    · rename_i k; rw [if_pos k] at ha; exact SG.num ha
    · rename_i k; rw [if_neg k] at ha
      split
      · rename_i k; rw [if_pos k] at ha; exact Self.one ha (cls_n rfl rfl) (cls_37 (by omega) (by omega)) (cls_j (by omega) (by omega))
      · rename_i k; rw [if_neg k] at ha
        split
        · rename_i k; rw [if_pos k] at ha; exact Self.one ha rfl (by omega) (by omega)
        · rename_i k; rw [if_neg k] at ha
          split
          · rename_i k; rw [if_pos k] at ha; exact (ih _ _ (h3 k).1 ha.left).app (Self.one (ha.right rfl) (by split <;> rfl) (by split <;> omega) (by split <;> omega))
          · rename_i k; rw [if_neg k] at ha
            split
            · rename_i k; rw [if_pos k] at ha
              split
              · rename_i k'; rw [if_pos k'] at ha
                exact (ih _ _ (h4 k).1 ha.left).app (self_short hc (ha.right rfl) (fun q hq => ih _ q (h4 k).2.1 hq) (by omega))
              · rename_i k'; rw [if_neg k'] at ha
                split
                · rename_i k'; rw [if_pos k'] at ha
                  exact (ih _ _ (h4 k).1 ha.left).app (self_short hc (ha.right rfl) (fun q hq => ih _ q (h4 k).2.1 hq) (by omega))
                · rename_i k'; rw [if_neg k'] at ha
                  exact ((ih _ _ (h4 k).1 ha.left.left).app (ih _ _ (h4 k).2.1 (ha.left.right rfl))).app (Self.one (ha.right rfl) (binO_n _).2 (by have := (binO_n (ndAt ns x).val).1; omega) (.inl (binO_n _).1))
            · rename_i k; rw [if_neg k] at ha
              split
              · rename_i k; rw [if_pos k] at ha
                exact ((ih _ _ (h5 k).1 ha.left.left).app (ih _ _ (h5 k).2.1 (ha.left.right rfl))).app (Self.one (ha.right rfl) (cls_n rfl rfl) (cls_37 (by omega) (by omega)) (cls_j (by omega) (by omega)))
              · rename_i k; rw [if_neg k] at ha
                split
                · rename_i k; rw [if_pos k] at ha
                  exact (ih _ _ (h6 k).1 ha.left).app (Self.one (ha.right rfl) (cls_n rfl rfl) (cls_37 (by omega) (by omega)) (cls_j (by omega) (by omega)))
                · rename_i k; rw [if_neg k] at ha
                  split
                  · rename_i k; rw [if_pos k] at ha
                    exact (ih _ _ (h7 k).1 ha.left).app (Self.one (ha.right rfl) rfl (by omega) (by omega))
                  · rename_i k; rw [if_neg k] at ha
                    split
                    · rename_i k; rw [if_pos k] at ha
                      exact (self_row ha.left fun y hy q hq => ih y q ((h8 k).1 y hy) hq).app (SG.call (ha.right rfl) (hE _ (h8 k).2.1 (h8 k).2.2.1) ⟨(h8 k).2.1, (h8 k).2.2.1⟩)
                    · exact SG.nil
theorem self_sS (hc : c.length ≤ 65535) (hE : ∀ k : Int, 0 ≤ k → k < fs.length → ent k < 65536) (good : Good 0 ns) : ∀ (n : Nat) (x : Int) (p : Nat), VS ns x → TS ns T R fs li lr ret n x → SA c ent p (sS ns T R n x p) → Self c ent fs.length p (sS ns T R n x p)
  | 0, x, p, _, h, _ => h.elim
  | n + 1, x, p, hv, h, ha => by
    have ih := self_sS hc hE good n
    have ie : ∀ y p, TX ns T R fs li lr y → SA c ent p (sX ns T R y p) → Self c ent fs.length p (sX ns T R y p) := fun y p h ha => self_sE hc hE _ _ _ h ha
    obtain ⟨h3, h4, h5, h6, h7, h8, h9⟩ := h
    have nk := (good x hv.1 hv.2.1).1
    have vs : ∀ b, isK ns 0 x b 2 → ∀ y ∈ kids ns (ndAt ns b).a, VS ns y := fun b hb y hy => by
      have := kids_st good hb.1 (by have := hb.2.1; have := hv.2.1; omega) hb.2.2 y hy
      exact ⟨this.1, by have := this.2.1; have := hb.2.1; have := hv.2.1; omega, this.2.2.1, this.2.2.2⟩
    have bs : ∀ b, isK ns 0 x b 2 → (∀ y ∈ kids ns (ndAt ns b).a, TS ns T R fs li lr ret n y) → ∀ q, SA c ent q (blkS ns (sS ns T R n) b q) → Self c ent fs.length q (blkS ns (sS ns T R n) b q) := fun b hb ht q hq => self_row hq fun y hy q hq => ih y q (vs b hb y hy) (ht y hy) hq
    by_cases k3 : (ndAt ns x).kind = 3
    · rw [sS_3 k3] at ha ⊢; exact (ie _ _ (h3 k3).1 ha.left).app (Self.one (ha.right rfl) (cls_n rfl rfl) (cls_37 (by omega) (by omega)) (cls_j (by omega) (by omega)))
    by_cases k4 : (ndAt ns x).kind = 4
    · by_cases kl : (ndAt ns (ndAt ns x).a).kind = 12
      · rw [sS_4a k4 kl] at ha ⊢; exact (ie _ _ (h4 k4).1 ha.left).app (Self.one (ha.right rfl) (cls_n rfl rfl) (cls_37 (by omega) (by omega)) (cls_j (by omega) (by omega)))
      · have kl4 := (nk.f4 k4).2.1.resolve_left kl
        obtain ⟨z1, z2, _⟩ := (h4 k4).2.2 kl4
        rw [sS_4b k4 kl] at ha ⊢
        unfold thenS at ha ⊢
        exact (((ie _ _ z1 ha.left.left.left).app (ie _ _ z2 (ha.left.left.right rfl))).app (ie _ _ (h4 k4).1 (ha.left.right rfl))).app (Self.one (ha.right rfl) (cls_n rfl rfl) (cls_37 (by omega) (by omega)) (cls_j (by omega) (by omega)))
    by_cases k5 : (ndAt ns x).kind = 5
    · obtain ⟨i1, i2, i3⟩ := nk.f5 k5
      obtain ⟨z1, z2, z3, z4⟩ := h5 k5
      by_cases hcc : (ndAt ns x).c < 0
      · rw [sS_5a k5 hcc] at ha ⊢
        have hl := ha.le
        have s1 := ie _ _ z1 ha.left
        have a2 := ha.right rfl
        generalize sX ns T R (ndAt ns x).a p = X at *
        have s2 := bs _ i2 z3 (p + X.length + 3) (a2.right (by rw [jmpS_len]))
        generalize blkS ns (sS ns T R n) (ndAt ns x).b (p + X.length + 3) = B at *
        simp only [List.length_append, jmpS_len] at hl
        have r1 := row_jmp a2.left (by omega)
        refine s1.app (SG.app (SG.jmp_ a2.left (.inr ⟨.inl rfl, by omega⟩) (by omega) ⟨r1.trans s2.row, by simp only [List.length_append, jmpS_len]; omega⟩) ?_)
        rw [jmpS_len]
        exact s2.to r1 (by simp only [List.length_append, jmpS_len]; omega)
      · rw [sS_5b k5 hcc] at ha ⊢
        dsimp only at ha ⊢
        have hl := ha.le
        have s1 := ie _ _ z1 ha.left
        have a2 := ha.right rfl
        generalize sX ns T R (ndAt ns x).a p = X at *
        have s2 := bs _ i2 z3 (p + X.length + 3) (a2.left.left.right (by rw [jmpS_len]))
        generalize blkS ns (sS ns T R n) (ndAt ns x).b (p + X.length + 3) = B at *
        have s3 := bs _ (i3.resolve_left (by omega)) (z4 (by omega)) (p + X.length + 3 + B.length + 3) (a2.right (by simp only [List.length_append, jmpS_len]; omega))
        generalize blkS ns (sS ns T R n) (ndAt ns x).c (p + X.length + 3 + B.length + 3) = C at *
        simp only [List.length_append, jmpS_len] at hl
        have j2 : SA c ent (p + X.length + 3 + B.length) (jmpS 21 (p + X.length + 3 + B.length + 3 + C.length)) := a2.left.right (by simp only [List.length_append, jmpS_len]; omega)
        have r1 := row_jmp a2.left.left.left (by omega)
        have r2 := r1.trans s2.row
        have r3 := r2.trans (row_jmp j2 (by omega))
        refine s1.app (SG.app (SG.app (SG.app (SG.jmp_ a2.left.left.left (.inr ⟨.inl rfl, by omega⟩) (by omega) ⟨r3, by simp only [List.length_append, jmpS_len]; omega⟩) ?_) ?_) ?_)
        · rw [jmpS_len]; exact s2.to r1 (by simp only [List.length_append, jmpS_len]; omega)
        · rw [(by simp only [List.length_append, jmpS_len]; omega : p + X.length + (jmpS 22 (p + X.length + 3 + B.length + 3) ++ B).length = p + X.length + 3 + B.length)]
          exact SG.jmp_ j2 (.inl rfl) (by omega) ⟨r3.trans s3.row, by simp only [List.length_append, jmpS_len]; omega⟩
        · rw [(by simp only [List.length_append, jmpS_len]; omega : p + X.length + (jmpS 22 (p + X.length + 3 + B.length + 3) ++ B ++ jmpS 21 (p + X.length + 3 + B.length + 3 + C.length)).length = p + X.length + 3 + B.length + 3)]
          exact s3.to r3 (by simp only [List.length_append, jmpS_len]; omega)
    by_cases k6 : (ndAt ns x).kind = 6
    · obtain ⟨i1, i2⟩ := nk.f6 k6
      obtain ⟨z1, z2, z3⟩ := h6 k6
      rw [sS_6 k6] at ha ⊢
      dsimp only at ha ⊢
      have hl := ha.le
      have s1 := ie _ _ z1 ha.left
      have a2 := ha.right rfl
      generalize sX ns T R (ndAt ns x).a p = X at *
      have s2 := bs _ i2 z3 (p + X.length + 3) (a2.left.right (by rw [jmpS_len]))
      generalize blkS ns (sS ns T R n) (ndAt ns x).b (p + X.length + 3) = B at *
      simp only [List.length_append, jmpS_len] at hl
      have j2 : SA c ent (p + X.length + 3 + B.length) (jmpS 21 p) := a2.right (by simp only [List.length_append, jmpS_len]; omega)
      have r0 := s1.row
      have r1 := r0.trans (row_jmp a2.left.left (by omega))
      have r2 := r1.trans s2.row
      have r3 := r2.trans (row_jmp j2 (by omega))
      refine SG.app (s1.to (.refl _) (by simp only [List.length_append, jmpS_len]; omega)) (SG.app (SG.app (SG.jmp_ a2.left.left (.inr ⟨.inl rfl, by omega⟩) (by omega) ⟨r3, by simp only [List.length_append, jmpS_len]; omega⟩) ?_) ?_)
      · rw [jmpS_len]; exact s2.to r1 (by simp only [List.length_append, jmpS_len]; omega)
      · rw [(by simp only [List.length_append, jmpS_len]; omega : p + X.length + (jmpS 22 (p + X.length + 3 + B.length + 3) ++ B).length = p + X.length + 3 + B.length)]
        exact SG.jmp_ j2 (.inl rfl) (by omega) ⟨.refl _, by omega⟩
    by_cases k7 : (ndAt ns x).kind = 7
    · rw [sS_7 k7] at ha ⊢; exact (ie _ _ (h7 k7).1 ha.left).app (Self.one (ha.right rfl) (cls_n rfl rfl) (cls_37 (by omega) (by omega)) (cls_j (by omega) (by omega)))
    by_cases k8 : (ndAt ns x).kind = 8
    · rw [sS_8 k8] at ha ⊢; exact (ie _ _ (h8 k8).1 ha.left).app (Self.one (ha.right rfl) rfl (by omega) (by omega))
    by_cases k9 : (ndAt ns x).kind = 9
    · rw [sS_9 k9] at ha ⊢; exact (ie _ _ (h9 k9) ha.left).app (Self.one (ha.right rfl) (cls_n rfl rfl) (cls_37 (by omega) (by omega)) (cls_j (by omega) (by omega)))
    · have := hv.2.2; omega
/-- Where a jump may land. -/
def Ld (c : List Nat) (t : Nat) : Prop := Row c 0 t ∧ t < c.length
variable {st : CS} {main : Int}
theorem PT.sg_sF (pt : PT ns st main) (hc : c.length ≤ 65535) (hE : ∀ k : Int, 0 ≤ k → k < st.fs.length → ent k < 65536) {i : Nat} (hi : i < st.fs.length) {p : Nat} (h0 : Row c 0 p) (ha : SA c ent p (sF ns st.ty st.ref (fnAt st.fs (i : Int)) p)) :
    SG c ent st.fs.length (Ld c) p (sF ns st.ty st.ref (fnAt st.fs (i : Int)) p) ∧ Ld c p ∧ c.getD p 0 = 25 := by
  obtain ⟨a, b, cc, d, e⟩ := pt.seg hi
  obtain ⟨b1, b2, b3⟩ := fn_blk pt.good (by omega) d a cc e
  have hl := ha.le
  unfold sF at *
  have s1 : Self c ent st.fs.length p (headS (fnAt st.fs (i : Int))) := Self.one ha.left.left rfl (by omega) (by omega)
  have s2 : Self c ent st.fs.length (p + 5) (blkS ns (sS ns st.ty st.ref ns.length) (ndAt ns (fnAt st.fs (i : Int)).node).b (p + 5)) := by
    refine self_row (ha.left.right rfl) fun y hy q hq => self_sS hc hE pt.good _ y q ?_ ((pt.tf i hi).bd y hy) hq
    have := kids_st pt.good (by omega : 0 ≤ (ndAt ns (fnAt st.fs (i : Int)).node).b) (by omega) b3 y hy
    exact ⟨this.1, by have := this.2.1; omega, this.2.2.1, this.2.2.2⟩
  have s12 := Self.app s1 s2
  have a3 := ha.right rfl
  have h25 := (row_ins (SA.by_ ha.left.left) rfl (by omega)).2
  have htl : 2 ≤ (tailS (fnAt st.fs (i : Int)).ret).length := by unfold tailS; rw [List.length_append]; split <;> simp [byS_len, numS_len]
  rw [List.length_append] at hl
  refine ⟨SG.app (s12.mono fun t ht => ⟨h0.trans ht.1, by omega⟩) ?_, ⟨h0, by omega⟩, h25.1⟩
  unfold tailS at a3 ⊢
  refine SG.app ?_ (SG.one (a3.right rfl) (cls_n rfl rfl) (cls_37 (by omega) (by omega)) (cls_j (by omega) (by omega)))
  have a4 := a3.left
  split
  · rename_i h; rw [if_pos h] at a4; exact SG.one a4 rfl (by omega) (by omega)
  · rename_i h; rw [if_neg h] at a4; exact SG.num a4
theorem PT.sg_rest (pt : PT ns st main) (hc : c.length ≤ 65535) (hE : ∀ k : Int, 0 ≤ k → k < st.fs.length → ent k < 65536) (k : Int) : ∀ (n i p : Nat), i + n = st.fs.length → Row c 0 p → SA c ent p (sRest ns st.ty st.ref st.fs k n i p) →
    SG c ent st.fs.length (Ld c) p (sRest ns st.ty st.ref st.fs k n i p) ∧ ∀ j : Nat, i ≤ j → j < i + n → (j : Int) ≠ k → Ld c (entR ns st.ty st.ref st.fs k n i p (j : Int)) ∧ c.getD (entR ns st.ty st.ref st.fs k n i p (j : Int)) 0 = 25
  | 0, i, p, h, h0, ha => ⟨SG.nil, fun j h1 h2 => by omega⟩
  | n + 1, i, p, h, h0, ha => by
    unfold sRest at ha ⊢
    unfold entR
    by_cases hk : (i : Int) = k
    · rw [if_pos hk] at ha ⊢
      obtain ⟨x1, x2⟩ := PT.sg_rest pt hc hE k n (i + 1) p (by omega) h0 ha
      refine ⟨x1, fun j h1 h2 h3 => ?_⟩
      rw [if_pos hk]
      exact x2 j (by omega) (by omega) h3
    · rw [if_neg hk] at ha ⊢
      obtain ⟨y1, y2, y3⟩ := pt.sg_sF hc hE (i := i) (by omega) h0 ha.left
      obtain ⟨x1, x2⟩ := PT.sg_rest pt hc hE k n (i + 1) _ (by omega) (h0.trans y1.row) (ha.right rfl)
      refine ⟨y1.app x1, fun j h1 h2 h3 => ?_⟩
      rw [if_neg hk]
      by_cases hj : (j : Int) = i
      · rw [if_pos hj]; exact ⟨y2, y3⟩
      · rw [if_neg hj]; exact x2 j (by omega) (by omega) h3
theorem callsOf_len : ∀ (L : List Sym) (p : Nat), (callsOf p L).length ≤ L.length
  | [], p => Nat.le_refl _
  | .inr (k, false) :: l, p => by show (callsOf (p + 1) l).length + 1 ≤ l.length + 1; have := callsOf_len l (p + 1); omega
  | .inr (_, true) :: l, p => by show (callsOf (p + 1) l).length ≤ l.length + 1; have := callsOf_len l (p + 1); omega
  | .inl _ :: l, p => by show (callsOf (p + 1) l).length ≤ l.length + 1; have := callsOf_len l (p + 1); omega
structure JC (c : List Nat) (r : Nat) : Prop where
  z : c.getD r 0 = 22 ∨ c.getD r 0 = 23 → r < u16At c (r + 1) ∧ Ld c (u16At c (r + 1))
  j : c.getD r 0 = 21 → Ld c (u16At c (r + 1))
  k : c.getD r 0 = 24 → Ld c (u16At c (r + 1)) ∧ c.getD (u16At c (r + 1)) 0 = 25
  b : 21 ≤ c.getD r 0 ∧ c.getD r 0 ≤ 24 → r + 3 ≤ c.length
/-- What Check asks. -/
structure FineC (cs : List Nat) (cl : List (Int × Int)) (en : List Int) : Prop where
  len : cs.length ≤ 4096
  byt : ∀ i, cs.getD i 0 < 256
  row : Row cs 0 cs.length
  jmp : ∀ r, Row cs 0 r → r < cs.length → JC cs r
  zero : en = [] ∨ (0 : Int) ∈ en
  ent : ∀ e ∈ en, ∃ a : Nat, e = a ∧ Ld cs a ∧ cs.getD a 0 = 25
  cal : ∀ q ∈ cl, ∃ r : Nat, q.1 = (r : Int) + 1 ∧ 0 ≤ q.2 ∧ q.2 < en.length ∧ Ld cs r ∧ r + 3 ≤ cs.length ∧ cs.getD r 0 = 24 ∧ en[q.2.toNat]? = some ((u16At cs (r + 1) : Nat) : Int)
  el : en.length ≤ 4096
  cl : cl.length ≤ 4096
theorem fine0 : FineC [] [] [] := ⟨by simp, by simp, .refl _, fun r h1 h2 => by simp at h2, .inl rfl, fun e he => by simp at he, fun e he => by simp at he, by simp, by simp⟩
end Go.Proofs.Qxb6500562aGreat
