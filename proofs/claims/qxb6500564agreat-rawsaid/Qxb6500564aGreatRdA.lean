/-
  Lists that come in and are only read; a step on a database.
-/
import Derived.Test.Qxb6500564aGreatRcE
namespace Go.Proofs.Qxb6500564aGreat
open Go.Den Go.Zip
set_option linter.unusedVariables false
set_option linter.unusedSimpArgs false
variable {w w' u v : World} {i j n d x m mb b o p : Nat} {D : List Bk} {R R' : List Wr} {cur cur' : Nat → Bk} {box : Bool} {O O' Ox Om Ob Ox' Om' : Nat → Prop} {U U' Ub : Mu}

theorem cell_frp {P : Nat → Prop} (F : FrP P w w') (hb : b < w.heap.size) (hn : ¬ P b) : w'.cell? ⟨b, o, none⟩ = w.cell? ⟨b, o, none⟩ := by
  unfold World.cell?
  show (match w'.heap[b]? with | some (.cells c _ _) => _ | _ => _) = (match w.heap[b]? with | some (.cells c _ _) => _ | _ => _)
  rw [F.2 b hb hn]
theorem holdC {P : Nat → Prop} (F : FrP P w w') (hb : b < w.heap.size) (hn : ¬ P b) : ∀ i, i < n → w'.cell? ((⟨b, o, none⟩ : Addr).add i) = w.cell? ((⟨b, o, none⟩ : Addr).add i) := fun i _ => by
  rw [add_mk]
  exact cell_frp F hb hn
/-- A list of strings that is only read. -/
structure StrS (w : World) (s : Sl) (ss : List ByteArray) : Prop where
  len : s.l = ss.length
  ex : ss = [] ∨ ∃ b o, s.a = some ⟨b, o, none⟩ ∧ b < w.heap.size ∧ ∀ i x, ss[i]? = some x → w.cell? ⟨b, o + i, none⟩ = some (.string x)
theorem StrS.fr {s : Sl} {ss : List ByteArray} (h : StrS w s ss) (f : Fr 0 0 w w') : StrS w' s ss := by
  refine ⟨h.len, ?_⟩
  rcases h.ex with e | ⟨b, o, h1, h2, h3⟩
  · exact .inl e
  · exact .inr ⟨b, o, h1, Nat.lt_of_lt_of_le h2 f.le, fun i x hx => by rw [cell_frp (P := fun _ => False) (FrP.of0 f) h2 (fun h => h)]; exact h3 i x hx⟩
theorem StrS.get {s : Sl} {ss : List ByteArray} {i : Nat} {x : ByteArray} {K : Nat → Nat → Prop} (h : StrS w s ss) (hx : ss[i]? = some x) (hk : ∀ b o, b < w.heap.size → w.cell? ⟨b, o + Int.toNat (i : Int) * 1, none⟩ = some (.string x) → K b o) : Ix s.a s.l (i : Int) K := by
  obtain ⟨hi, _⟩ := List.getElem?_eq_some_iff.1 hx
  rcases h.ex with e | ⟨b, o, h1, h2, h3⟩
  · rw [e] at hi; simp at hi
  · exact ix h1 (by omega) (by have := h.len; omega) (hk b o h2 (by rw [Int.toNat_natCast, Nat.mul_one]; exact h3 i x hx))
/-- A list of integers that is only read. -/
structure IntS (w : World) (s : Sl) (ss : List Int) : Prop where
  len : s.l = ss.length
  ex : ss = [] ∨ ∃ b o, s.a = some ⟨b, o, none⟩ ∧ b < w.heap.size ∧ ∀ i x, ss[i]? = some x → w.cell? ⟨b, o + i, none⟩ = some (.int .i64 x)
theorem IntS.fr {s : Sl} {ss : List Int} (h : IntS w s ss) (f : Fr 0 0 w w') : IntS w' s ss := by
  refine ⟨h.len, ?_⟩
  rcases h.ex with e | ⟨b, o, h1, h2, h3⟩
  · exact .inl e
  · exact .inr ⟨b, o, h1, Nat.lt_of_lt_of_le h2 f.le, fun i x hx => by rw [cell_frp (P := fun _ => False) (FrP.of0 f) h2 (fun h => h)]; exact h3 i x hx⟩
theorem IntS.get {s : Sl} {ss : List Int} {i : Nat} {x : Int} {K : Nat → Nat → Prop} (h : IntS w s ss) (hx : ss[i]? = some x) (hk : ∀ b o, b < w.heap.size → w.cell? ⟨b, o + Int.toNat (i : Int) * 1, none⟩ = some (.int .i64 x) → K b o) : Ix s.a s.l (i : Int) K := by
  obtain ⟨hi, _⟩ := List.getElem?_eq_some_iff.1 hx
  rcases h.ex with e | ⟨b, o, h1, h2, h3⟩
  · rw [e] at hi; simp at hi
  · exact ix h1 (by omega) (by have := h.len; omega) (hk b o h2 (by rw [Int.toNat_natCast, Nat.mul_one]; exact h3 i x hx))
theorem few_spec {s : Sl} {ss : List ByteArray} {K : Bool → World → Prop} (h : StrS w s ss) (hK : ∀ r, (r = true → ss.length ≤ 1073741824) → K r w) : S.towerexact_few s w K := by
  unfold S.towerexact_few
  have hlen := h.len
  by_cases hb : 1073741824 < ss.length
  · rw [if_pos (by simp only [decide_eq_true_eq]; omega)]
    exact hK false (fun h => by cases h)
  rw [if_neg (by simp only [decide_eq_true_eq]; omega)]
  refine let_ ?_
  refine loopN (fun m st v => ∃ (n : Int) (i : Nat), st = (n, (i : Int), ()) ∧ m + i = ss.length ∧ v = w) ss.length ⟨_, 0, rfl, rfl, rfl⟩ ?_
  rintro m _ v ⟨n, i, rfl, hm, rfl⟩ Q hQ
  dsimp only
  by_cases hi : i < ss.length
  · rw [if_pos (by simp only [decide_eq_true_eq]; omega)]
    refine h.get (List.getElem?_eq_getElem hi) fun b o hb hc => ⟨_, hc, ?_⟩
    refine let_ ?_
    split
    · exact hK false (fun h => by cases h)
    · rw [W_succ (by omega)]
      exact let_ (hQ (m - 1) _ _ (by omega) ⟨_, i + 1, rfl, by omega, rfl⟩)
  · rw [if_neg (by simp only [decide_eq_true_eq]; omega)]
    exact hK true fun _ => by omega
/-- A database, marked: its last step is yet to be played. -/
structure MS (w : World) (d x m mb : Nat) (D : List Bk) (cur : Nat → Bk) (U : Mu) (Ox Om Ob : Nat → Prop) : Prop where
  ev : EV d w x D [] cur U Ox
  qm : QV w m U Om
  qb : QV w mb U Ob
  xm : ∀ b, Ox b → ¬ Om b ∧ ¬ Ob b
  mb : ∀ b, Om b → ¬ Ob b
  cm : Cm D [] cur
/-- The step is played. -/
theorem MS.done (h : MS w d x m mb D cur U Ox Om Ob) (ev : EV d v x D R' cur' U' Ox') (qm : QV v m U' Om') (qb : QV v mb U Ob) (xm : ∀ b, Ox' b → ¬ Om' b ∧ ¬ Ob b) (mb' : ∀ b, Om' b → ¬ Ob b) (rs : RStep [] R') (cm : Cm D R' cur') : BS v d x m mb U' U (fun b => Ox' b ∨ Om' b ∨ Ob b) := by
  have dk := h.ev.disk
  refine ⟨⟨D, R', cur', Ox', Om', Ob, ev, qm, qb, xm, mb', fun b => Iff.rfl, crp_step dk.1 dk.2.1 h.cm dk.2.2 rs cm ev.disk.2.2, ?_, cm⟩, ev.ok, h.ev.ok⟩
  rcases rs with rs | ⟨ws, hw, rs⟩
  · rw [rs]; simp
  · rw [rs]
    have := comR_len [] hw
    simp at this
    omega
/-- Nothing was written: an observer's step, or none. -/
theorem MS.bs (h : MS w d x m mb D cur U Ox Om Ob) : BS w d x m mb U U (fun b => Ox b ∨ Om b ∨ Ob b) := h.done h.ev h.qm h.qb h.xm h.mb (.inl rfl) h.cm
end Go.Proofs.Qxb6500564aGreat
