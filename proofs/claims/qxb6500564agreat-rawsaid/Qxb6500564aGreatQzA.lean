/-
  What every sentence tells.
-/
import Derived.Test.Qxb6500564aGreatQyZ
namespace Go.Proofs.Qxb6500564aGreat
open Go.Den Go.Zip
set_option linter.unusedVariables false
set_option linter.unusedSimpArgs false
variable {i j k n a b : Nat} {s x nm : ByteArray} {T : Smt} {L : List Tk}

def AOk (L : List Tk) : Prop := ∀ t ∈ L, TkOk t
theorem AOk.bad : AOk bad := fun t ht => by rw [show t = badT.1 from List.mem_singleton.1 ht]; exact TkOk.bad
theorem AOk.tail (h : AOk L) : AOk L.tail := fun t ht => h t (List.mem_of_mem_tail ht)
theorem AOk.aft (h : AOk L) : AOk (aft x L) := by unfold Qxb6500564aGreat.aft; split; exact h.tail; exact h
theorem AOk.wnt (h : AOk L) : AOk (wnt x L) := by unfold Qxb6500564aGreat.wnt; split; exact h.tail; exact AOk.bad
theorem AOk.nmL (h : AOk L) : AOk (nmL L) := by unfold Qxb6500564aGreat.nmL; split; exact h.tail; exact AOk.bad
theorem AOk.ltL (h : AOk L) : AOk (ltL L) := by unfold Qxb6500564aGreat.ltL; split; exact h.tail; exact AOk.bad
theorem AOk.opL (h : AOk L) : AOk (opL L) := by unfold Qxb6500564aGreat.opL; split; exact AOk.bad; exact h.tail
theorem AOk.hd (h : AOk L) : TkOk (hd L) := by
  cases L with
  | nil => exact TkOk.bad
  | cons t L => exact h t (List.mem_cons_self ..)
theorem tks_ok : ∀ (n e : Nat), e ≤ s.size → AOk (tks n s e) := by
  intro n
  induction n with
  | zero => intro e _; exact AOk.bad
  | succ n ih =>
    intro e he
    unfold tks
    by_cases hk : 1 < (lx s e).1.kind
    · rw [if_pos hk]
      intro t ht
      rcases List.mem_cons.1 ht with rfl | ht
      · exact lx_ok he
      · exact ih _ (lx_end hk).2 t ht
    · rw [if_neg hk]
      intro t ht
      rw [List.mem_singleton.1 ht]
      exact lx_ok he
theorem TS_ok : AOk (TS s 0) := tks_ok _ _ (Nat.zero_le _)
theorem ltP_made (h : AOk L) : VMade (ltP L) := by
  unfold ltP
  split
  · exact ⟨fun _ => rfl, fun h => by cases h⟩
  · split
    · rename_i h4
      exact ⟨fun h => (by cases h), fun _ => ⟨rfl, h.hd.nt h4⟩⟩
    · exact ⟨fun h => (by cases h), fun _ => ⟨rfl, by show I64 0; unfold I64; omega⟩⟩
theorem opC_le (t : Tk) : opC t ≤ 6 := by
  unfold opC
  repeat' split
  all_goals omega
theorem lst_len {α : Type} {f : List Tk → α} {g : List Tk → List Tk} : ∀ n L, (lstP f g x n L).1.length ≤ n := by
  intro n
  induction n with
  | zero => intro L; exact Nat.le_refl _
  | succ n ih =>
    intro L
    rw [lstP]
    split
    · rw [List.length_cons]; have := ih (g L).tail; omega
    · rw [List.length_singleton]; omega
/-- What holds of each part. -/
theorem lst_all {α : Type} {f : List Tk → α} {g : List Tk → List Tk} {P : α → Prop} (hg : ∀ L, AOk L → AOk (g L)) (hf : ∀ L, AOk L → g L ≠ bad → P (f L)) (hb : g bad = bad) : ∀ n L, AOk L → (lstP f g x n L).2 ≠ bad → ∀ a ∈ (lstP f g x n L).1, P a := by
  intro n
  induction n with
  | zero => intro L _ _ a ha; cases ha
  | succ n ih =>
    intro L hL hne a ha
    rw [lstP] at hne ha
    split at hne
    · rename_i hp
      rw [if_pos hp] at ha
      have hgb : g L ≠ bad := fun e => by rw [e, isP_bad] at hp; cases hp
      rcases List.mem_cons.1 ha with rfl | ha
      · exact hf L hL hgb
      · exact ih _ (hg L hL).tail hne a ha
    · rename_i hp
      rw [if_neg hp] at ha
      rw [List.mem_singleton.1 ha]
      exact hf L hL hne
structure SmOk (T : Smt) : Prop where
  kd : 1 ≤ T.kind ∧ T.kind ≤ 10
  op : ∀ c ∈ T.wh, 1 ≤ c.op ∧ c.op ≤ 6
  wl : ∀ c ∈ T.wh, VMade c.lit
  sl : ∀ c ∈ T.sets, VMade c.lit
  ll : ∀ v ∈ T.lits, VMade v
  n1 : T.list.length ≤ 300
  n2 : T.sets.length ≤ 300
  n3 : T.wh.length ≤ 300
  n4 : T.lits.length ≤ 300
  n5 : T.defs.length ≤ 300
  k9 : T.kind = 9 → T.list = [] ∧ T.lits = []
  n9 : T.kind ≠ 9 → T.sets = []
  k6 : T.kind = 6 → ∃ x, T.list = [x]
  st : T.star = true → T.list = []
theorem wh_ok (h : AOk L) (hne : (whP L).2 ≠ bad) : (∀ c ∈ (whP L).1, (1 ≤ c.op ∧ c.op ≤ 6) ∧ VMade c.lit) ∧ (whP L).1.length ≤ 300 := by
  unfold whP at hne ⊢
  split
  · rename_i hp
    rw [if_pos hp] at hne
    refine ⟨lst_all (g := cmpL) (fun L h => h.nmL.opL.ltL) (fun L h hg => ⟨⟨?_, opC_le _⟩, ltP_made h.nmL.opL⟩) cmpL_bad _ _ h.tail hne, lst_len _ _⟩
    show 1 ≤ opC (hd (nmL L))
    refine Nat.pos_of_ne_zero fun e => hg ?_
    unfold cmpL opL
    rw [if_pos e]
    rfl
  · exact ⟨fun c hc => (by cases hc), Nat.zero_le _⟩
theorem hd_bad (h : (hd L).kind = 0) : L ≠ bad := fun e => by subst e; exact absurd h (by decide)
theorem lim_ne (h : (limP L).2.2 ≠ bad) : L ≠ bad := fun e => h (by rw [e]; rfl)
theorem ord_ne (h : (ordP L).2.2 ≠ bad) : L ≠ bad := fun e => h (by rw [e]; rfl)
theorem prs_ok (h : prsP s = some T) : SmOk T := by
  unfold prsP at h
  split at h
  case isFalse => cases h
  rename_i hk
  cases h
  have hL : AOk (TS s 0) := TS_ok
  generalize TS s 0 = L at *
  have hne := hd_bad hk
  have nil : ∀ {α : Type} {P : α → Prop}, ∀ a ∈ ([] : List α), P a := fun a ha => by cases ha
  unfold senP at hne ⊢
  split
  · rename_i hp
    rw [if_pos hp] at hne
    have hne : (selP L.tail).2 ≠ bad := hne
    have hA : AOk (nmL (wnt ⟨#[70, 82, 79, 77]⟩ (selN L.tail).2)) := by
      refine AOk.nmL (AOk.wnt ?_)
      unfold selN
      split
      · exact hL.tail.tail
      · have : ∀ n L, AOk L → AOk (lstP nmP nmL kCOM n L).2 := by
          intro n
          induction n with
          | zero => intro L h; exact h
          | succ n ih =>
            intro L h
            rw [lstP]
            split
            · exact ih _ h.nmL.tail
            · exact h.nmL
        exact this _ _ hL.tail
    obtain ⟨w1, w2⟩ := wh_ok hA (ord_ne (lim_ne hne))
    refine ⟨by show 1 ≤ 8 ∧ 8 ≤ 10; omega, fun c hc => (w1 c hc).1, fun c hc => (w1 c hc).2, nil, nil, ?_, Nat.zero_le _, w2, Nat.zero_le _, Nat.zero_le _, fun h => absurd h (by show ¬ 8 = 9; omega), fun _ => rfl, fun h => absurd h (by show ¬ 8 = 6; omega), fun h => ?_⟩
    · show (selN L.tail).1.length ≤ 300
      unfold selN
      split
      · exact Nat.zero_le _
      · exact lst_len _ _
    · show (selN L.tail).1 = []
      have h : isP ⟨#[42]⟩ L.tail = true := h
      unfold selN
      rw [if_pos h]
  rename_i hp
  rw [if_neg hp] at hne
  split
  · rename_i hp
    rw [if_pos hp] at hne
    have hne : wnt ⟨#[41]⟩ (lstP ltP ltL kCOM FU (wnt ⟨#[40]⟩ (wnt ⟨#[86, 65, 76, 85, 69, 83]⟩ (nmL (wnt ⟨#[73, 78, 84, 79]⟩ L.tail))))).2 ≠ bad := hne
    have hn2 : (lstP ltP ltL kCOM FU (wnt ⟨#[40]⟩ (wnt ⟨#[86, 65, 76, 85, 69, 83]⟩ (nmL (wnt ⟨#[73, 78, 84, 79]⟩ L.tail))))).2 ≠ bad := fun e => hne (by rw [e]; rfl)
    refine ⟨by show 1 ≤ 7 ∧ 7 ≤ 10; omega, nil, nil, nil, ?_, Nat.zero_le _, Nat.zero_le _, Nat.zero_le _, lst_len _ _, Nat.zero_le _, fun h => absurd h (by show ¬ 7 = 9; omega), fun _ => rfl, fun h => absurd h (by show ¬ 7 = 6; omega), fun h => by cases h⟩
    exact lst_all (g := ltL) (fun L h => h.ltL) (fun L h _ => ltP_made h) ltL_bad _ _ hL.tail.wnt.nmL.wnt.wnt hn2
  rename_i hp
  rw [if_neg hp] at hne
  split
  · rename_i hp
    rw [if_pos hp] at hne
    have hne : (whP (lstP sttP sttL kCOM FU (wnt ⟨#[83, 69, 84]⟩ (nmL L.tail))).2).2 ≠ bad := hne
    have hn2 : (lstP sttP sttL kCOM FU (wnt ⟨#[83, 69, 84]⟩ (nmL L.tail))).2 ≠ bad := fun e => hne (by rw [e]; rfl)
    have hA : AOk (lstP sttP sttL kCOM FU (wnt ⟨#[83, 69, 84]⟩ (nmL L.tail))).2 := by
      have : ∀ n L, AOk L → AOk (lstP sttP sttL kCOM n L).2 := by
        intro n
        induction n with
        | zero => intro L h; exact h
        | succ n ih =>
          intro L h
          rw [lstP]
          split
          · exact ih _ h.nmL.wnt.ltL.tail
          · exact h.nmL.wnt.ltL
      exact this _ _ hL.tail.nmL.wnt
    obtain ⟨w1, w2⟩ := wh_ok hA hne
    refine ⟨by show 1 ≤ 9 ∧ 9 ≤ 10; omega, fun c hc => (w1 c hc).1, fun c hc => (w1 c hc).2, ?_, nil, Nat.zero_le _, lst_len _ _, w2, Nat.zero_le _, Nat.zero_le _, fun _ => ⟨rfl, rfl⟩, fun h => absurd rfl h, fun h => absurd h (by show ¬ 9 = 6; omega), fun h => by cases h⟩
    exact lst_all (g := sttL) (P := fun c : Cp => VMade c.lit) (fun L h => h.nmL.wnt.ltL) (fun L h _ => ltP_made h.nmL.wnt) sttL_bad _ _ hL.tail.nmL.wnt hn2
  rename_i hp
  rw [if_neg hp] at hne
  split
  · rename_i hp
    rw [if_pos hp] at hne
    have hne : (whP (nmL (wnt ⟨#[70, 82, 79, 77]⟩ L.tail))).2 ≠ bad := hne
    obtain ⟨w1, w2⟩ := wh_ok hL.tail.wnt.nmL hne
    exact ⟨by show 1 ≤ 10 ∧ 10 ≤ 10; omega, fun c hc => (w1 c hc).1, fun c hc => (w1 c hc).2, nil, nil, Nat.zero_le _, Nat.zero_le _, w2, Nat.zero_le _, Nat.zero_le _, fun h => absurd h (by show ¬ 10 = 9; omega), fun _ => rfl, fun h => absurd h (by show ¬ 10 = 6; omega), fun h => by cases h⟩
  rename_i hp
  rw [if_neg hp] at hne
  split
  · exact ⟨by show 1 ≤ 1 ∧ 1 ≤ 10; omega, nil, nil, nil, nil, Nat.zero_le _, Nat.zero_le _, Nat.zero_le _, Nat.zero_le _, Nat.zero_le _, fun h => absurd h (by show ¬ 1 = 9; omega), fun _ => rfl, fun h => absurd h (by show ¬ 1 = 6; omega), fun h => by cases h⟩
  rename_i hp
  rw [if_neg hp] at hne
  split
  · exact ⟨by show 1 ≤ 2 ∧ 2 ≤ 10; omega, nil, nil, nil, nil, Nat.zero_le _, Nat.zero_le _, Nat.zero_le _, Nat.zero_le _, Nat.zero_le _, fun h => absurd h (by show ¬ 2 = 9; omega), fun _ => rfl, fun h => absurd h (by show ¬ 2 = 6; omega), fun h => by cases h⟩
  rename_i hp
  rw [if_neg hp] at hne
  split
  · exact ⟨by show 1 ≤ 3 ∧ 3 ≤ 10; omega, nil, nil, nil, nil, Nat.zero_le _, Nat.zero_le _, Nat.zero_le _, Nat.zero_le _, Nat.zero_le _, fun h => absurd h (by show ¬ 3 = 9; omega), fun _ => rfl, fun h => absurd h (by show ¬ 3 = 6; omega), fun h => by cases h⟩
  rename_i hp
  rw [if_neg hp] at hne
  split
  · exact ⟨by show 1 ≤ 5 ∧ 5 ≤ 10; omega, nil, nil, nil, nil, Nat.zero_le _, Nat.zero_le _, Nat.zero_le _, Nat.zero_le _, Nat.zero_le _, fun h => absurd h (by show ¬ 5 = 9; omega), fun _ => rfl, fun h => absurd h (by show ¬ 5 = 6; omega), fun h => by cases h⟩
  rename_i hp
  rw [if_neg hp] at hne
  split
  · unfold creP
    split
    · refine ⟨by show 1 ≤ 4 ∧ 4 ≤ 10; omega, nil, nil, nil, nil, Nat.zero_le _, Nat.zero_le _, Nat.zero_le _, Nat.zero_le _, ?_, fun h => absurd h (by show ¬ 4 = 9; omega), fun _ => rfl, fun h => absurd h (by show ¬ 4 = 6; omega), fun h => by cases h⟩
      show (List.map _ _).length ≤ 300
      rw [List.length_map]
      exact lst_len _ _
    · exact ⟨by show 1 ≤ 6 ∧ 6 ≤ 10; omega, nil, nil, nil, nil, by show 1 ≤ 300; omega, Nat.zero_le _, Nat.zero_le _, Nat.zero_le _, Nat.zero_le _, fun h => absurd h (by show ¬ 6 = 9; omega), fun _ => rfl, fun _ => ⟨_, rfl⟩, fun h => by cases h⟩
  · rename_i hp
    rw [if_neg hp] at hne
    exact absurd rfl hne
end Go.Proofs.Qxb6500564aGreat
