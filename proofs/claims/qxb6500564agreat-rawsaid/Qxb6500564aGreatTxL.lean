/-
  Changes, plain.
-/
import Derived.Test.Qxb6500564aGreatTxK
namespace Go.Proofs.Qxb6500564aGreat
open Go.Den Go.Zip
set_option linter.unusedVariables false
set_option linter.unusedSimpArgs false
variable {i j k n : Nat} {db db' : Db} {nm : ByteArray} {key : Vl} {U : Mu} {r : Rs} {l l' : List Ch} {c d : Ch} {t q q' : Tb} {vs : List Vl} {rows' : List (List Vl)}

theorem putC_cons (c d : Ch) (l : List Ch) : putC c (d :: l) = if sideP c.tab c.key d < 0 then c :: d :: l else if sideP c.tab c.key d = 0 then c :: l else d :: putC c l := by
  unfold putC
  rw [fdC_cons]
  rcases sideP_cases c.tab c.key d with h | h | h
  · rw [if_pos (show sideP c.tab c.key d ≤ 0 by omega), if_pos (show sideP c.tab c.key d < 0 by omega)]
    rw [h]
    rfl
  · rw [if_pos (show sideP c.tab c.key d ≤ 0 by omega), if_neg (show ¬ sideP c.tab c.key d < 0 by omega), if_pos h]
    rw [h]
    rfl
  · rw [if_neg (show ¬ sideP c.tab c.key d ≤ 0 by omega), if_neg (show ¬ sideP c.tab c.key d < 0 by omega), if_neg (show ¬ sideP c.tab c.key d = 0 by omega)]
    dsimp only
    split
    · rfl
    · rfl
theorem dropC_cons (nm : ByteArray) (key : Vl) (d : Ch) (l : List Ch) : dropC nm key (d :: l) = if sideP nm key d < 0 then d :: l else if sideP nm key d = 0 then l else d :: dropC nm key l := by
  unfold dropC
  rw [fdC_cons]
  rcases sideP_cases nm key d with h | h | h
  · rw [if_pos (show sideP nm key d ≤ 0 by omega), if_pos (show sideP nm key d < 0 by omega)]
    rw [h]
    rfl
  · rw [if_pos (show sideP nm key d ≤ 0 by omega), if_neg (show ¬ sideP nm key d < 0 by omega), if_pos h]
    rw [h]
    rfl
  · rw [if_neg (show ¬ sideP nm key d ≤ 0 by omega), if_neg (show ¬ sideP nm key d < 0 by omega), if_neg (show ¬ sideP nm key d = 0 by omega)]
    dsimp only
    split
    · rfl
    · rfl
/-- side told the other way about. -/
theorem side_swap (hc : VMade c.key) (hd : VMade d.key) : sideP c.tab c.key d = - sideP d.tab d.key c := by
  unfold sideP
  cases h1 : sl c.tab d.tab with
  | true => rw [sl_asym h1, if_pos rfl, if_neg (by simp), if_pos rfl]
  | false =>
    rw [if_neg (by simp)]
    cases h2 : sl d.tab c.tab with
    | true => rw [if_pos rfl, if_pos rfl]; rfl
    | false => rw [if_neg (by simp), if_neg (by simp), if_neg (by simp), cmp_swap d.key c.key]
def Sr (l : List Ch) : Prop := l.Pairwise fun a b => sideP a.tab a.key b < 0
theorem putC_mem (hm : ∀ c ∈ l, VMade c.key) (hs : Sr l) (hc : VMade c.key) : ∀ x, x ∈ putC c l ↔ x = c ∨ (x ∈ l ∧ ¬ (x.tab = c.tab ∧ x.key = c.key)) := by
  induction l with
  | nil => exact fun x => by simp [putC, fdC]
  | cons d l ih =>
    have hcs := List.pairwise_cons.1 hs
    have md := hm d (by simp)
    intro x
    rw [putC_cons]
    by_cases h1 : sideP c.tab c.key d < 0
    · rw [if_pos h1]
      constructor
      · intro hx
        rcases List.mem_cons.1 hx with hx | hx
        · exact .inl hx
        · refine .inr ⟨hx, fun e => ?_⟩
          rcases List.mem_cons.1 hx with rfl | hx
          · exact side_lt_ne h1 ⟨e.1.symm, e.2.symm⟩
          · have := side_trans (a := c.tab) hc md (hm x (by simp [hx])) (by omega) (hcs.1 x hx)
            exact side_lt_ne this ⟨e.1.symm, e.2.symm⟩
      · rintro (hx | hx)
        · simp [hx]
        · exact List.mem_cons.2 (.inr hx.1)
    · rw [if_neg h1]
      by_cases h2 : sideP c.tab c.key d = 0
      · rw [if_pos h2]
        obtain ⟨e1, e2⟩ := (side0 hc md).1 h2
        constructor
        · intro hx
          rcases List.mem_cons.1 hx with hx | hx
          · exact .inl hx
          · refine .inr ⟨by simp [hx], fun e => ?_⟩
            exact side_lt_ne (hcs.1 x hx) ⟨(e.1.trans e1).symm, (e.2.trans e2).symm⟩
        · rintro (hx | ⟨hx, hne⟩)
          · simp [hx]
          · rcases List.mem_cons.1 hx with rfl | hx
            · exact absurd ⟨e1.symm, e2.symm⟩ hne
            · exact List.mem_cons.2 (.inr hx)
      · rw [if_neg h2, List.mem_cons, ih (fun c hc => hm c (by simp [hc])) hcs.2]
        constructor
        · rintro (rfl | hx | hx)
          · refine .inr ⟨by simp, fun e => h2 ((side0 hc md).2 ⟨e.1.symm, e.2.symm⟩)⟩
          · exact .inl hx
          · exact .inr ⟨by simp [hx.1], hx.2⟩
        · rintro (hx | ⟨hx, hne⟩)
          · exact .inr (.inl hx)
          · rcases List.mem_cons.1 hx with hx | hx
            · exact .inl hx
            · exact .inr (.inr ⟨hx, hne⟩)
theorem putC_srt (hm : ∀ c ∈ l, VMade c.key) (hs : Sr l) (hc : VMade c.key) : Sr (putC c l) := by
  induction l with
  | nil => exact List.pairwise_singleton _ _
  | cons d l ih =>
    have hcs := List.pairwise_cons.1 hs
    have md := hm d (by simp)
    have hm' : ∀ c ∈ l, VMade c.key := fun c hc => hm c (by simp [hc])
    rw [putC_cons]
    by_cases h1 : sideP c.tab c.key d < 0
    · rw [if_pos h1]
      refine List.pairwise_cons.2 ⟨fun x hx => ?_, hs⟩
      rcases List.mem_cons.1 hx with rfl | hx
      · exact h1
      · exact side_trans hc md (hm' x hx) (by omega) (hcs.1 x hx)
    · rw [if_neg h1]
      by_cases h2 : sideP c.tab c.key d = 0
      · rw [if_pos h2]
        obtain ⟨e1, e2⟩ := (side0 hc md).1 h2
        refine List.pairwise_cons.2 ⟨fun x hx => ?_, hcs.2⟩
        rw [e1, e2]
        exact hcs.1 x hx
      · rw [if_neg h2]
        refine List.pairwise_cons.2 ⟨fun x hx => ?_, ih hm' hcs.2⟩
        rcases (putC_mem hm' hcs.2 hc x).1 hx with rfl | hx
        · have := side_swap hc md
          omega
        · exact hcs.1 x hx.1
theorem dropC_mem (hm : ∀ c ∈ l, VMade c.key) (hs : Sr l) (hc : VMade key) : ∀ x, x ∈ dropC nm key l ↔ x ∈ l ∧ ¬ (x.tab = nm ∧ x.key = key) := by
  induction l with
  | nil => exact fun x => by simp [dropC, fdC]
  | cons d l ih =>
    have hcs := List.pairwise_cons.1 hs
    have md := hm d (by simp)
    intro x
    rw [dropC_cons]
    by_cases h1 : sideP nm key d < 0
    · rw [if_pos h1]
      refine ⟨fun hx => ⟨hx, fun e => ?_⟩, fun hx => hx.1⟩
      rcases List.mem_cons.1 hx with rfl | hx
      · exact side_lt_ne h1 ⟨e.1.symm, e.2.symm⟩
      · have := side_trans (a := nm) hc md (hm x (by simp [hx])) (by omega) (hcs.1 x hx)
        exact side_lt_ne this ⟨e.1.symm, e.2.symm⟩
    · rw [if_neg h1]
      by_cases h2 : sideP nm key d = 0
      · rw [if_pos h2]
        obtain ⟨e1, e2⟩ := (side0 hc md).1 h2
        constructor
        · intro hx
          refine ⟨by simp [hx], fun e => ?_⟩
          exact side_lt_ne (hcs.1 x hx) ⟨(e.1.trans e1).symm, (e.2.trans e2).symm⟩
        · rintro ⟨hx, hne⟩
          rcases List.mem_cons.1 hx with rfl | hx
          · exact absurd ⟨e1.symm, e2.symm⟩ hne
          · exact hx
      · rw [if_neg h2, List.mem_cons, ih (fun c hc => hm c (by simp [hc])) hcs.2]
        constructor
        · rintro (rfl | hx)
          · exact ⟨by simp, fun e => h2 ((side0 hc md).2 ⟨e.1.symm, e.2.symm⟩)⟩
          · exact ⟨by simp [hx.1], hx.2⟩
        · rintro ⟨hx, hne⟩
          rcases List.mem_cons.1 hx with hx | hx
          · exact .inl hx
          · exact .inr ⟨hx, hne⟩
theorem dropC_srt (hs : Sr l) : Sr (dropC nm key l) := by
  induction l with
  | nil => exact hs
  | cons d l ih =>
    have hcs := List.pairwise_cons.1 hs
    rw [dropC_cons]
    split
    · exact hs
    · split
      · exact hcs.2
      · refine List.pairwise_cons.2 ⟨fun x hx => hcs.1 x ?_, ih hcs.2⟩
        unfold dropC at hx
        split at hx
        · rcases List.mem_append.1 hx with hx | hx
          · exact List.mem_of_mem_take hx
          · exact List.mem_of_mem_drop hx
        · exact hx
theorem WOk.put (h : WOk db l) (hf : fnB c.tab db = some t) (hc : ChAt t c) : WOk db (putC c l) := by
  refine ⟨fun x hx => ?_, putC_srt h.made h.srt (ok_made hc.ko)⟩
  rcases (putC_mem h.made h.srt (ok_made hc.ko) x).1 hx with rfl | hx
  · exact ⟨t, hf, hc⟩
  · exact h.ch x hx.1
theorem WOk.drop (h : WOk db l) (hk : VMade key) : WOk db (dropC nm key l) := ⟨fun x hx => h.ch x ((dropC_mem h.made h.srt hk x).1 hx).1, dropC_srt h.srt⟩
/-- What is seen behind a new word with a row. -/
theorem sees_put (h : WOk db l) (hf : fnB nm db = some t) (hs : Sees nm t.pk t.rows l q.rows) (hc : VMade (vs.getD t.pk v0)) (hr : ∀ y, y ∈ rows' ↔ y = vs ∨ (y ∈ q.rows ∧ y.getD t.pk v0 ≠ vs.getD t.pk v0)) : Sees nm t.pk t.rows (putC ⟨nm, vs.getD t.pk v0, false, vs⟩ l) rows' := by
  intro y
  have pm := putC_mem (c := ⟨nm, vs.getD t.pk v0, false, vs⟩) h.made h.srt hc
  rw [hr]
  constructor
  · rintro (rfl | ⟨hy, hne⟩)
    · exact .inr ⟨_, (pm _).2 (.inl rfl), rfl, rfl, rfl⟩
    · rcases (hs y).1 hy with ⟨h1, h2⟩ | ⟨c, hc', h1, h2, h3⟩
      · refine .inl ⟨h1, fun c hc' ht => ?_⟩
        rcases (pm c).1 hc' with rfl | hc'
        · exact fun e => hne e.symm
        · exact h2 c hc'.1 ht
      · obtain ⟨t', ht', hat⟩ := h.ch c hc'
        rw [h1, hf] at ht'
        cases ht'
        refine .inr ⟨c, (pm c).2 (.inr ⟨hc', fun e => hne ?_⟩), h1, h2, h3⟩
        rw [← h3, (hat.rw h2).2.2]
        exact e.2
  · rintro (⟨h1, h2⟩ | ⟨c, hc', h1, h2, h3⟩)
    · have hne : y.getD t.pk v0 ≠ vs.getD t.pk v0 := fun e => h2 _ ((pm _).2 (.inl rfl)) rfl e.symm
      refine .inr ⟨(hs y).2 (.inl ⟨h1, fun c hc' ht e => ?_⟩), hne⟩
      exact h2 c ((pm c).2 (.inr ⟨hc', fun e' => hne (e.symm.trans e'.2)⟩)) ht e
    · rcases (pm c).1 hc' with rfl | ⟨hc', hne⟩
      · exact .inl h3.symm
      · obtain ⟨t', ht', hat⟩ := h.ch c hc'
        rw [h1, hf] at ht'
        cases ht'
        refine .inr ⟨(hs y).2 (.inr ⟨c, hc', h1, h2, h3⟩), fun e => hne ⟨h1, ?_⟩⟩
        rw [← h3, (hat.rw h2).2.2] at e
        exact e
theorem sees_gone (h : WOk db l) (hf : fnB nm db = some t) (hs : Sees nm t.pk t.rows l q.rows) (hc : VMade key) (hr : ∀ y, y ∈ rows' ↔ y ∈ q.rows ∧ y.getD t.pk v0 ≠ key) : Sees nm t.pk t.rows (putC ⟨nm, key, true, []⟩ l) rows' := by
  intro y
  have pm := putC_mem (c := ⟨nm, key, true, []⟩) h.made h.srt hc
  rw [hr]
  constructor
  · rintro ⟨hy, hne⟩
    rcases (hs y).1 hy with ⟨h1, h2⟩ | ⟨c, hc', h1, h2, h3⟩
    · refine .inl ⟨h1, fun c hc' ht => ?_⟩
      rcases (pm c).1 hc' with rfl | hc'
      · exact fun e => hne e.symm
      · exact h2 c hc'.1 ht
    · obtain ⟨t', ht', hat⟩ := h.ch c hc'
      rw [h1, hf] at ht'
      cases ht'
      refine .inr ⟨c, (pm c).2 (.inr ⟨hc', fun e => hne ?_⟩), h1, h2, h3⟩
      rw [← h3, (hat.rw h2).2.2]
      exact e.2
  · rintro (⟨h1, h2⟩ | ⟨c, hc', h1, h2, h3⟩)
    · have hne : y.getD t.pk v0 ≠ key := fun e => h2 _ ((pm _).2 (.inl rfl)) rfl e.symm
      refine ⟨(hs y).2 (.inl ⟨h1, fun c hc' ht e => ?_⟩), hne⟩
      exact h2 c ((pm c).2 (.inr ⟨hc', fun e' => hne (e.symm.trans e'.2)⟩)) ht e
    · rcases (pm c).1 hc' with rfl | ⟨hc', hne⟩
      · cases h2
      · obtain ⟨t', ht', hat⟩ := h.ch c hc'
        rw [h1, hf] at ht'
        cases ht'
        refine ⟨(hs y).2 (.inr ⟨c, hc', h1, h2, h3⟩), fun e => hne ⟨h1, ?_⟩⟩
        rw [← h3, (hat.rw h2).2.2] at e
        exact e
theorem sees_drop (h : WOk db l) (hf : fnB nm db = some t) (hs : Sees nm t.pk t.rows l q.rows) (hc : VMade key) (hno : ∀ y ∈ t.rows, y.getD t.pk v0 ≠ key) (hr : ∀ y, y ∈ rows' ↔ y ∈ q.rows ∧ y.getD t.pk v0 ≠ key) : Sees nm t.pk t.rows (dropC nm key l) rows' := by
  intro y
  have pm := dropC_mem (nm := nm) (key := key) h.made h.srt hc
  rw [hr]
  constructor
  · rintro ⟨hy, hne⟩
    rcases (hs y).1 hy with ⟨h1, h2⟩ | ⟨c, hc', h1, h2, h3⟩
    · exact .inl ⟨h1, fun c hc' ht => h2 c ((pm c).1 hc').1 ht⟩
    · obtain ⟨t', ht', hat⟩ := h.ch c hc'
      rw [h1, hf] at ht'
      cases ht'
      refine .inr ⟨c, (pm c).2 ⟨hc', fun e => hne ?_⟩, h1, h2, h3⟩
      rw [← h3, (hat.rw h2).2.2]
      exact e.2
  · rintro (⟨h1, h2⟩ | ⟨c, hc', h1, h2, h3⟩)
    · have hne := hno y h1
      refine ⟨(hs y).2 (.inl ⟨h1, fun c hc' ht e => ?_⟩), hne⟩
      exact h2 c ((pm c).2 ⟨hc', fun e' => hne (e.symm.trans e'.2)⟩) ht e
    · obtain ⟨hc', hne⟩ := (pm c).1 hc'
      obtain ⟨t', ht', hat⟩ := h.ch c hc'
      rw [h1, hf] at ht'
      cases ht'
      refine ⟨(hs y).2 (.inr ⟨c, hc', h1, h2, h3⟩), fun e => hne ⟨h1, ?_⟩⟩
      rw [← h3, (hat.rw h2).2.2] at e
      exact e
/-- A session's word turns its own copy. -/
theorem RelU.chg (h : RelU U r) (ok : UOk U) (hk : k < 4) (ha : U.act k = true) (hf : fI nm (U.db 0) = some i) (ht : fnB nm (U.db 0) = some t) (hl2 : U.lk k i = 2) (hw : WOk (U.db 0) l') (hoth : ∀ c, c.tab ≠ nm → (c ∈ l' ↔ c ∈ r.ws k)) (hsee : Sees nm t.pk t.rows l' q'.rows) :
    RelU (UP U k (putTb nm q' (U.db (k + 1)))) { r with ws := fset r.ws k l' } := by
  obtain ⟨t0, hi0, hn0, hf0⟩ := fI_get hf
  rw [ht] at hf0
  cases hf0
  have ok0 := ok.d 0 (by omega)
  have e0 : (UP U k (putTb nm q' (U.db (k + 1)))).db 0 = U.db 0 := by unfold UP; dsimp only; rw [fset_ne (by omega)]
  refine ⟨h.act, fun o ho i' t' hi' => ?_, fun a ha' hu => by rw [e0]; exact h.us a ha' hu, h.fr, h.un, h.md, fun o ho => ?_, fun o ho c hc => ?_, fun o ho hna => ?_, fun o ho i' t' q hi' hq => ?_, h.ex, h.uo⟩
  · rw [e0] at hi'
    exact h.lk o ho i' t' hi'
  · rw [e0]
    show WOk (U.db 0) (fset r.ws k l' o)
    by_cases e : o = k
    · rw [e, fset_eq]; exact hw
    · rw [fset_ne e]; exact h.wo o ho
  · have hc : c ∈ fset r.ws k l' o := hc
    show lkR o c.tab r.lks = 2
    by_cases e : o = k
    · subst e
      rw [fset_eq] at hc
      by_cases et : c.tab = nm
      · rw [et]
        have := h.lk o hk i t hi0
        rw [hn0, hl2] at this
        exact this.symm
      · exact h.wl o ho c ((hoth c et).1 hc)
    · rw [fset_ne e] at hc; exact h.wl o ho c hc
  · show fset r.ws k l' o = []
    have hna : U.act o = false := hna
    by_cases e : o = k
    · rw [e, ha] at hna; cases hna
    · rw [fset_ne e]; exact h.wa o ho hna
  · rw [e0] at hi'
    have hse : seenD o i' (UP U k (putTb nm q' (U.db (k + 1)))) = seenD o i' U := rfl
    rw [hse] at hq
    show Sees t'.name t'.pk t'.rows (fset r.ws k l' o) q.rows
    by_cases e : o = k
    · subst e
      rw [fset_eq]
      by_cases et : t'.name = nm
      · have ei : i' = i := names_inj ok0 hi' hi0 (et.trans hn0.symm)
        subst ei
        rw [hi0] at hi'
        cases hi'
        have hs2 : seenD o i' U = o + 1 := by unfold seenD; rw [if_pos hl2]
        rw [hs2] at hq
        have hq : (putTb nm q' (U.db (o + 1)))[i']? = some q := by
          unfold UP at hq
          dsimp only at hq
          rw [fset_eq] at hq
          exact hq
        have hfp : fI nm (U.db (o + 1)) = some i' := by rw [fI_shape (ok.sh o hk ha)]; exact hf
        obtain ⟨qq, hqq, hqn, _⟩ := fI_get hfp
        unfold putTb at hq
        rw [List.getElem?_map, hqq] at hq
        have : q = q' := by
          have hq : some (if qq.name = nm then q' else qq) = some q := hq
          rw [if_pos hqn] at hq
          exact (Option.some.inj hq).symm
        rw [this, et]
        exact hsee
      · have hq' : (U.db (seenD o i' U))[i']? = some q := by
          by_cases hs2 : U.lk o i' = 2
          · have hsd : seenD o i' U = o + 1 := by unfold seenD; rw [if_pos hs2]
            rw [hsd] at hq ⊢
            unfold UP at hq
            dsimp only at hq
            rw [fset_eq] at hq
            unfold putTb at hq
            rw [List.getElem?_map, Option.map_eq_some_iff] at hq
            obtain ⟨qq, hqq, hq⟩ := hq
            have hnn : qq.name = t'.name := by
              have := congrArg (fun l => l[i']?) (show (U.db (o + 1)).map sch = (U.db 0).map sch from ok.sh o hk ha)
              simp only [List.getElem?_map, hqq, hi', Option.map_some] at this
              exact sch_name (Option.some.inj this)
            rw [if_neg (by rw [hnn]; exact et)] at hq
            rw [hqq, hq]
          · have hsd : seenD o i' U = 0 := by unfold seenD; rw [if_neg hs2]
            rw [hsd] at hq ⊢
            rw [e0] at hq
            exact hq
        have hold := h.sees o ho i' t' q hi' hq'
        intro y
        rw [hold y]
        constructor
        · rintro (⟨h1, h2⟩ | ⟨c, hc, h1, h2⟩)
          · exact .inl ⟨h1, fun c hc htc => h2 c ((hoth c (by rw [htc]; exact et)).1 hc) htc⟩
          · exact .inr ⟨c, (hoth c (by rw [h1]; exact et)).2 hc, h1, h2⟩
        · rintro (⟨h1, h2⟩ | ⟨c, hc, h1, h2⟩)
          · exact .inl ⟨h1, fun c hc htc => h2 c ((hoth c (by rw [htc]; exact et)).2 hc) htc⟩
          · exact .inr ⟨c, (hoth c (by rw [h1]; exact et)).1 hc, h1, h2⟩
    · rw [fset_ne e]
      have hq' : (U.db (seenD o i' U))[i']? = some q := by
        unfold UP at hq
        dsimp only at hq
        rw [fset_ne (by unfold seenD; split <;> omega)] at hq
        exact hq
      exact h.sees o ho i' t' q hi' hq'
/-- A table has a row under the key. -/
theorem rowBy_iff (ok : TbOk t) (hk : VOk key) (hty : key.st = (t.cols.getD t.pk c0).st) {y : List Vl} : rowBy t (codeV key) = some y ↔ y ∈ t.rows ∧ y.getD t.pk v0 = key := by
  have ok' := ok
  unfold TbOk at ok'
  have cd : ∀ z ∈ t.rows, (codeV (z.getD t.pk v0) = codeV key ↔ z.getD t.pk v0 = key) := fun z hz => by
    have hz' := ok'.2.2.2.2.2.2.1 z hz
    refine ⟨fun e => codeV_inj (getD_ok hz'.2 _) hk ?_ e, fun e => by rw [e]⟩
    rw [ty_get hz'.1 ok'.2.2.2.1, hty]
  constructor
  · intro h
    have h1 := List.mem_of_find?_eq_some h
    have h2 := List.find?_some h
    exact ⟨h1, (cd y h1).1 (of_decide_eq_true h2)⟩
  · rintro ⟨h1, h2⟩
    have := rowBy_self (pk := t.pk) ok h1
    unfold rk at this
    rw [h2] at this
    exact this
theorem rowBy_isSome (ok : TbOk t) (hk : VOk key) (hty : key.st = (t.cols.getD t.pk c0).st) : (rowBy t (codeV key)).isSome = true ↔ ∃ y ∈ t.rows, y.getD t.pk v0 = key := by
  rw [Option.isSome_iff_exists]
  constructor
  · rintro ⟨y, hy⟩
    exact ⟨y, (rowBy_iff ok hk hty).1 hy⟩
  · rintro ⟨y, hy⟩
    exact ⟨y, (rowBy_iff ok hk hty).2 hy⟩
theorem bl_eq (hf : fnB nm db = some t) (hc : chkVal t.cols t.pk key = 0) : blP nm key db = (rowBy t (codeV key)).isSome := by
  unfold blP
  have e : (mdLook nm key db).1 = if (rowBy t (codeV key)).isSome then 0 else 9 := by
    unfold mdLook
    rw [hf]
    dsimp only
    rw [if_neg (by simp [hc])]
    cases rowBy t (codeV key) with
    | none => rfl
    | some y => rfl
  rw [e]
  cases (rowBy t (codeV key)).isSome with
  | true => rfl
  | false => rfl
theorem hs_eq (h : WOk db l) (hf : fnB nm db = some t) (okt : TbOk t) (okq : TbOk q) (hsch : sch q = sch t) (hs : Sees nm t.pk t.rows l q.rows) (hk : VOk key) (hty : key.st = (t.cols.getD t.pk c0).st) : hsP nm key l db = (rowBy q (codeV key)).isSome := by
  have hck : chkVal t.cols t.pk key = 0 := by
    unfold chkVal
    rw [if_neg (by simpa using hty)]
    cases hst : key.st with
    | true => rw [if_neg (by have := (hk.1 hst).2; omega)]
    | false => rw [if_neg (by rw [(hk.2 hst).1]; show ¬ (0 > 7); omega)]
  have hqt : key.st = (q.cols.getD q.pk c0).st := by rw [sch_cols hsch, sch_pk hsch]; exact hty
  rw [Bool.eq_iff_iff, rowBy_isSome okq hk hqt, sch_pk hsch]
  have fi := fd_iff (nm := nm) (key := key) h.made h.srt (ok_made hk)
  unfold hsP
  by_cases hh : (fdC nm key l).2 = true
  · rw [if_pos hh]
    obtain ⟨c, hc, h0⟩ := fdC_hit hh
    rw [hc]
    dsimp only
    have hcl := List.mem_of_getElem? hc
    obtain ⟨e1, e2⟩ := (side0 (ok_made hk) (h.made c hcl)).1 h0
    obtain ⟨t', ht', hat⟩ := h.ch c hcl
    rw [← e1, hf] at ht'
    cases ht'
    constructor
    · intro hg
      have hg : c.gone = false := by simpa using hg
      exact ⟨c.row, (hs _).2 (.inr ⟨c, hcl, e1.symm, hg, rfl⟩), (hat.rw hg).2.2.trans e2.symm⟩
    · rintro ⟨y, hy, hyk⟩
      rcases (hs y).1 hy with ⟨_, h2⟩ | ⟨c', hc', h1, h2, h3⟩
      · exact absurd (e2.symm.trans hyk.symm) (h2 c hcl e1.symm)
      · obtain ⟨t', ht', hat'⟩ := h.ch c' hc'
        rw [h1, hf] at ht'
        cases ht'
        have hk' : c'.key = key := by rw [← (hat'.rw h2).2.2, h3]; exact hyk
        have : c' = c := by
          obtain ⟨a, ha⟩ := List.mem_iff_getElem?.1 hc'
          by_cases hab : a = (fdC nm key l).1
          · rw [hab, hc] at ha
            exact (Option.some.inj ha).symm
          · have := pw_get (R := fun a b : Ch => ¬ (a.tab = b.tab ∧ a.key = b.key)) (fun a b hn e => hn ⟨e.1.symm, e.2.symm⟩) (List.Pairwise.imp_of_mem (fun _ _ h => side_lt_ne h) h.srt) hab ha hc
            exact absurd ⟨h1.trans e1, hk'.trans e2⟩ this
        rw [← this, h2]; rfl
  · rw [if_neg hh, bl_eq hf hck, rowBy_isSome okt hk hty]
    have hno : ∀ c ∈ l, c.tab = nm → c.key ≠ key := fun c hc ht e => hh (fi.2 ⟨c, hc, ht, e⟩)
    constructor
    · rintro ⟨y, hy, hyk⟩
      exact ⟨y, (hs y).2 (.inl ⟨hy, fun c hc ht => by rw [hyk]; exact hno c hc ht⟩), hyk⟩
    · rintro ⟨y, hy, hyk⟩
      rcases (hs y).1 hy with ⟨h1, _⟩ | ⟨c', hc', h1, h2, h3⟩
      · exact ⟨y, h1, hyk⟩
      · obtain ⟨t', ht', hat'⟩ := h.ch c' hc'
        rw [h1, hf] at ht'
        cases ht'
        exact absurd (show c'.key = key by rw [← (hat'.rw h2).2.2, h3]; exact hyk) (hno c' hc' h1)
end Go.Proofs.Qxb6500564aGreat
