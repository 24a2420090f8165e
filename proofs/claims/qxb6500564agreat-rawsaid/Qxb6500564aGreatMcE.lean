/-
  SortRows, plain and in memory.
-/
import Derived.Test.Qxb6500564aGreatMcD
namespace Go.Proofs.Qxb6500564aGreat
open Go.Den Go.Zip
set_option linter.unusedVariables false
set_option linter.unusedSimpArgs false
variable {w w' u v : World} {i j n q g b : Nat} {s r x : Sl} {row : List Vl} {rows : List (List Vl)} {ss : List Sl}

section
variable {α β : Type} (ok : α → α → Bool)
/-- x comes into a list that stands from its end on. -/
def insRev (x : α) : List α → List α
  | [] => [x]
  | y :: ys => if ok y x then x :: y :: ys else y :: insRev x ys
def sortG (l : List α) : List α := (l.foldl (fun acc x => insRev ok x acc) []).reverse
variable {ok}
theorem insRev_perm (x : α) : ∀ l : List α, (insRev ok x l).Perm (x :: l)
  | [] => List.Perm.refl _
  | y :: ys => by
    unfold insRev
    split
    · exact List.Perm.refl _
    · exact ((insRev_perm x ys).cons y).trans (List.Perm.swap x y ys)
theorem foldIns_perm : ∀ (l acc : List α), (l.foldl (fun acc x => insRev ok x acc) acc).Perm (l ++ acc)
  | [], acc => List.Perm.refl _
  | x :: r, acc => by
    show (r.foldl _ (insRev ok x acc)).Perm _
    refine (foldIns_perm r _).trans ?_
    exact ((insRev_perm x acc).append_left r).trans List.perm_middle
theorem sortG_perm (l : List α) : (sortG ok l).Perm l := by
  unfold sortG
  refine (List.reverse_perm _).trans ?_
  have := foldIns_perm (ok := ok) l []
  rwa [List.append_nil] at this
theorem insRev_pass (x : α) : ∀ (b : List α) {a : List α}, (∀ y ∈ b, ok y x = false) → (∀ y, a.head? = some y → ok y x = true) → insRev ok x (b ++ a) = b ++ x :: a
  | [], [], _, _ => rfl
  | [], y :: ys, _, h => by
    show (if _ then _ else _) = _
    rw [if_pos (h y rfl)]; rfl
  | z :: zs, a, h1, h2 => by
    show (if ok z x = true then _ else z :: insRev ok x (zs ++ a)) = _
    rw [if_neg (by simp [h1 z (by simp)]), insRev_pass x zs (fun y hy => h1 y (by simp [hy])) h2]; rfl
theorem insRev_map (f : β → α) (x : β) : ∀ l : List β, insRev ok (f x) (l.map f) = (insRev (fun a b => ok (f a) (f b)) x l).map f
  | [] => rfl
  | y :: ys => by
    show (if ok (f y) (f x) = true then _ else _) = (if ok (f y) (f x) = true then _ else _ : List β).map f
    split
    · rfl
    · show f y :: insRev ok (f x) (ys.map f) = _
      rw [insRev_map f x ys]; rfl
theorem foldIns_map (f : β → α) : ∀ (l : List β) (acc : List β), (l.map f).foldl (fun acc x => insRev ok x acc) (acc.map f) = (l.foldl (fun acc x => insRev (fun a b => ok (f a) (f b)) x acc) acc).map f
  | [], acc => rfl
  | x :: r, acc => by
    show (r.map f).foldl _ (insRev ok (f x) (acc.map f)) = (r.foldl _ (insRev _ x acc)).map f
    rw [insRev_map, foldIns_map f r]
theorem sortG_map (f : β → α) (l : List β) : sortG ok (l.map f) = (sortG (fun a b => ok (f a) (f b)) l).map f := by
  unfold sortG
  have := foldIns_map (ok := ok) f l []
  rw [List.map_nil] at this
  rw [this, List.map_reverse]
theorem sortG_snoc (l : List α) (x : α) : sortG ok (l ++ [x]) = (insRev ok x (sortG ok l).reverse).reverse := by
  unfold sortG
  rw [List.foldl_append, List.reverse_reverse]
  rfl
end
/-- The order in which SortRows lets rows stand. -/
def okS (col : Nat) (desc : Bool) (a b : List Vl) : Bool := if desc then decide (cmpV (a.getD col v0) (b.getD col v0) ≥ 0) else decide (cmpV (a.getD col v0) (b.getD col v0) ≤ 0)
def sortP (col : Nat) (desc : Bool) (rows : List (List Vl)) : List (List Vl) := sortG (okS col desc) rows
theorem sortP_mem {col : Nat} {desc : Bool} {r : List Vl} : r ∈ sortP col desc rows ↔ r ∈ rows := (sortG_perm rows).mem_iff
theorem rl_trans {col pk : Nat} {a b c : List Vl} (h1 : rl col pk a b) (h2 : rl col pk b c) : rl col pk a c := by
  rcases h1 with h1 | ⟨e1, h1⟩
  · rcases h2 with h2 | ⟨e2, h2⟩
    · exact .inl (vl_trans h1 h2)
    · rw [e2] at h1; exact .inl h1
  · rcases h2 with h2 | ⟨e2, h2⟩
    · rw [← e1] at h2; exact .inl h2
    · exact .inr ⟨e1.trans e2, vl_trans h1 h2⟩
/-- Stable: rows that stand by their keys come to stand by (column, key). -/
theorem sortP_rl {col pk : Nat} (hm : ∀ r ∈ rows, VMade (r.getD col v0)) (hp : rows.Pairwise fun a b => vl (a.getD pk v0) (b.getD pk v0) = true) : (sortP col false rows).Pairwise (rl col pk) := by
  have key : ∀ (l acc : List (List Vl)), (∀ r ∈ l, VMade (r.getD col v0)) → (∀ r ∈ acc, VMade (r.getD col v0)) → l.Pairwise (fun a b => vl (a.getD pk v0) (b.getD pk v0) = true) → (∀ a ∈ acc, ∀ b ∈ l, vl (a.getD pk v0) (b.getD pk v0) = true) → acc.Pairwise (fun a b => rl col pk b a) →
      (l.foldl (fun acc x => insRev (okS col false) x acc) acc).Pairwise (fun a b => rl col pk b a) := by
    intro l
    induction l with
    | nil => exact fun acc _ _ _ _ h => h
    | cons x r ih =>
      intro acc hl ha hpl hx hac
      have hc := List.pairwise_cons.1 hpl
      have mx := hl x (by simp)
      have memI : ∀ {z}, z ∈ insRev (okS col false) x acc → z = x ∨ z ∈ acc := fun {z} hz => List.mem_cons.1 ((insRev_perm x acc).mem_iff.1 hz)
      refine ih (insRev (okS col false) x acc) (fun z hz => hl z (by simp [hz])) (fun z hz => ?_) hc.2 (fun a ha' b hb => ?_) ?_
      · rcases memI hz with rfl | hz
        · exact mx
        · exact ha z hz
      · rcases memI ha' with rfl | ha'
        · exact hc.1 b hb
        · exact hx a ha' b (by simp [hb])
      · have step : ∀ acc : List (List Vl), (∀ r ∈ acc, VMade (r.getD col v0)) → (∀ a ∈ acc, vl (a.getD pk v0) (x.getD pk v0) = true) → acc.Pairwise (fun a b => rl col pk b a) → (insRev (okS col false) x acc).Pairwise (fun a b => rl col pk b a) := by
          intro acc
          induction acc with
          | nil => exact fun _ _ _ => List.pairwise_singleton _ _
          | cons y ys ih2 =>
            intro hm1 hk1 hp1
            have hc1 := List.pairwise_cons.1 hp1
            unfold insRev
            by_cases hok : okS col false y x = true
            · rw [if_pos hok]
              have hyx : rl col pk y x := by
                unfold okS at hok
                rw [if_neg (by simp)] at hok
                have hok := of_decide_eq_true hok
                by_cases he : cmpV (y.getD col v0) (x.getD col v0) = 0
                · exact .inr ⟨cmp_eq (hm1 y (by simp)) mx he, hk1 y (by simp)⟩
                · refine .inl ?_
                  unfold vl
                  rw [decide_eq_true_eq]
                  omega
              refine List.pairwise_cons.2 ⟨fun z hz => ?_, hp1⟩
              rcases List.mem_cons.1 hz with rfl | hz
              · exact hyx
              · exact rl_trans (hc1.1 z hz) hyx
            · rw [if_neg hok]
              have hxy : rl col pk x y := by
                unfold okS at hok
                rw [if_neg (by simp)] at hok
                have hok : ¬ cmpV (y.getD col v0) (x.getD col v0) ≤ 0 := by simpa using hok
                refine .inl ?_
                unfold vl
                rw [decide_eq_true_eq, cmp_swap (y.getD col v0)]
                omega
              refine List.pairwise_cons.2 ⟨fun z hz => ?_, ih2 (fun r hr => hm1 r (by simp [hr])) (fun a ha => hk1 a (by simp [ha])) hc1.2⟩
              rcases List.mem_cons.1 ((insRev_perm x ys).mem_iff.1 hz) with rfl | hz
              · exact hxy
              · exact hc1.1 z hz
        exact step acc ha (fun a ha' => hx a ha' x (by simp)) hac
  unfold sortP sortG
  rw [List.pairwise_reverse]
  exact key rows [] hm (fun r hr => by cases hr) hp (fun a ha => by cases ha) List.Pairwise.nil
end Go.Proofs.Qxb6500564aGreat
