/-
  The manager's state against the model's; taking a lock, plain.
-/
import Derived.Test.Qxb6500564aGreatTxG
namespace Go.Proofs.Qxb6500564aGreat
open Go.Den Go.Zip
set_option linter.unusedVariables false
set_option linter.unusedSimpArgs false
variable {i j k n : Nat} {db : Db} {nm : ByteArray} {key : Vl} {U : Mu} {r : Rs} {lks : Nat → Slt} {mode : Nat}

structure RelU (U : Mu) (r : Rs) : Prop where
  act : ∀ k, k < 4 → r.act k = U.act k
  lk : ∀ k, k < 4 → ∀ i t, (U.db 0)[i]? = some t → U.lk k i = lkR k t.name r.lks
  us : ∀ i, i < 3 → (r.lks i).used = true → (∃ t, fnB (r.lks i).name (U.db 0) = some t)
  fr : ∀ i, i < 3 → (r.lks i).used = false → ∀ k, k < 4 → (r.lks i).mode k = 0
  un : ∀ i, i < 3 → ∀ j, j < 3 → (r.lks i).used = true → (r.lks j).used = true → (r.lks i).name = (r.lks j).name → i = j
  md : ∀ i, i < 3 → ∀ k, k < 4 → (r.lks i).mode k ≠ 0 → U.act k = true
  wo : ∀ k, k < 4 → WOk (U.db 0) (r.ws k)
  wl : ∀ k, k < 4 → ∀ c ∈ r.ws k, lkR k c.tab r.lks = 2
  wa : ∀ k, k < 4 → U.act k = false → r.ws k = []
  sees : ∀ k, k < 4 → ∀ i t q, (U.db 0)[i]? = some t → (U.db (seenD k i U))[i]? = some q → Sees t.name t.pk t.rows (r.ws k) q.rows
  ex : ∀ o, o < 4 → ∀ k, k < 4 → o ≠ k → ∀ i, U.lk o i = 2 → U.lk k i = 0
  uo : ∀ i, i < 3 → (r.lks i).used = true → ∃ k, k < 4 ∧ (r.lks i).mode k ≠ 0
/-- Names of used slots are told apart. -/
def Un (lks : Nat → Slt) : Prop := ∀ i, i < 3 → ∀ j, j < 3 → (lks i).used = true → (lks j).used = true → (lks i).name = (lks j).name → i = j
theorem sOf_iff (h : Un lks) : sOf nm lks = some i ↔ i < 3 ∧ (lks i).used = true ∧ (lks i).name = nm := by
  constructor
  · intro hs
    obtain ⟨h1, h2, _⟩ := range_some hs
    rw [Bool.and_eq_true] at h2
    exact ⟨h1, h2.1, of_decide_eq_true h2.2⟩
  · rintro ⟨h1, h2, h3⟩
    refine find_range h1 (by rw [h2, decide_eq_true h3]; rfl) fun j hj => ?_
    cases hu : (lks j).used with
    | false => rfl
    | true =>
      rw [Bool.true_and]
      refine decide_eq_false fun e => ?_
      have := h j (by omega) i h1 hu h2 (e.trans h3.symm)
      omega
theorem sOf_none : sOf nm lks = none ↔ ∀ i, i < 3 → (lks i).used = true → (lks i).name ≠ nm := by
  constructor
  · intro h i hi hu e
    have := range_none h i hi
    rw [hu, decide_eq_true e] at this
    cases this
  · intro h
    refine findR_none fun j hj => ?_
    cases hu : (lks j).used with
    | false => rfl
    | true => rw [Bool.true_and]; exact decide_eq_false (h j hj hu)
theorem lkR_some (h : Un lks) (hi : i < 3) (hu : (lks i).used = true) : lkR k (lks i).name lks = (lks i).mode k := by
  unfold lkR
  rw [(sOf_iff h).2 ⟨hi, hu, rfl⟩]
theorem lkR_none (h : sOf nm lks = none) : lkR k nm lks = 0 := by unfold lkR; rw [h]
theorem UOk.busy (ok : UOk U) (h : RelU U r) (hf : fI nm (U.db 0) = some i) (hk : k < 4) : busyB k i mode U = (match sOf nm r.lks with | some j => barB (r.lks j) (k : Int) mode | none => false) := by
  obtain ⟨t, hi, hn, _⟩ := fI_get hf
  unfold busyB
  cases hs : sOf nm r.lks with
  | none =>
    dsimp only
    rw [List.any_eq_false]
    intro o ho
    have hl := h.lk o (List.mem_range.1 ho) i t hi
    rw [hn, lkR_none hs] at hl
    rw [decide_eq_true_eq, hl]
    rintro ⟨_, h' | h'⟩
    · omega
    · exact h'.2 rfl
  | some j =>
    dsimp only
    unfold barB
    have key : ∀ l : List Nat, (∀ o ∈ l, o < 4) → (l.any fun o => decide (o ≠ k ∧ (U.lk o i = 2 ∨ (mode = 2 ∧ U.lk o i ≠ 0)))) = l.any fun o => decide ((o : Int) ≠ (k : Int) ∧ ((r.lks j).mode o = 2 ∨ (mode = 2 ∧ (r.lks j).mode o ≠ 0))) := by
      intro l hl
      induction l with
      | nil => rfl
      | cons o l ih =>
        rw [List.any_cons, List.any_cons, ih fun o' ho' => hl o' (by simp [ho'])]
        congr 1
        have hlk := h.lk o (hl o (by simp)) i t hi
        rw [hn] at hlk
        have : lkR o nm r.lks = (r.lks j).mode o := by unfold lkR; rw [hs]
        rw [this] at hlk
        rw [decide_eq_decide, hlk]
        constructor
        · rintro ⟨h1, h2⟩; exact ⟨by omega, h2⟩
        · rintro ⟨h1, h2⟩; exact ⟨by omega, h2⟩
    exact key _ fun o ho => List.mem_range.1 ho
theorem mem_names {t : Tb} (h : fnB nm db = some t) : nm ∈ db.map (·.name) := by
  obtain ⟨h1, h2⟩ := fnB_mem h
  exact List.mem_map.2 ⟨t, h1, h2⟩
/-- There is a free slot for a table that is not yet locked. -/
theorem RelU.free (h : RelU U r) (ok : UOk U) (hf : fI nm (U.db 0) = some i) (hs : sOf nm r.lks = none) : ∃ j, frS r.lks = some j ∧ j < 3 ∧ (r.lks j).used = false := by
  cases hfr : frS r.lks with
  | some j =>
    obtain ⟨h1, h2, _⟩ := range_some hfr
    exact ⟨j, rfl, h1, by simpa using h2⟩
  | none =>
    exfalso
    have hall : ∀ j, j < 3 → (r.lks j).used = true := fun j hj => by
      have := range_none hfr j hj
      simpa using this
    obtain ⟨t, hi, hn, hfb⟩ := fI_get hf
    have hne := sOf_none.1 hs
    have hl := (ok.d 0 (by omega)).len
    have hnd : [(r.lks 0).name, (r.lks 1).name, (r.lks 2).name, nm].Nodup := by
      have d : ∀ a, a < 3 → ∀ b, b < 3 → a ≠ b → (r.lks a).name ≠ (r.lks b).name := fun a ha b hb hab e => hab (h.un a ha b hb (hall a ha) (hall b hb) e)
      simp only [List.nodup_cons, List.mem_cons, List.not_mem_nil, or_false, not_or, not_false_eq_true, List.nodup_nil, and_true]
      exact ⟨⟨d 0 (by omega) 1 (by omega) (by omega), d 0 (by omega) 2 (by omega) (by omega), hne 0 (by omega) (hall 0 (by omega))⟩, ⟨d 1 (by omega) 2 (by omega) (by omega), hne 1 (by omega) (hall 1 (by omega))⟩, hne 2 (by omega) (hall 2 (by omega))⟩
    have := nodup_len (m := (U.db 0).map (·.name)) hnd fun x hx => by
      simp only [List.mem_cons, List.not_mem_nil, or_false] at hx
      rcases hx with rfl | rfl | rfl | rfl
      · obtain ⟨t, ht⟩ := h.us 0 (by omega) (hall 0 (by omega)); exact mem_names ht
      · obtain ⟨t, ht⟩ := h.us 1 (by omega) (hall 1 (by omega)); exact mem_names ht
      · obtain ⟨t, ht⟩ := h.us 2 (by omega) (hall 2 (by omega)); exact mem_names ht
      · exact mem_names hfb
    rw [List.length_map] at this
    have h4 : 4 ≤ (U.db 0).length := this
    omega
/-- The lock table behind a take. -/
def tkL (k j mode : Nat) (nm : ByteArray) (lks : Nat → Slt) : Nat → Slt := fset lks j ⟨true, nm, if mode > (lks j).mode k then fset (lks j).mode k mode else (lks j).mode⟩
theorem tkL_lk (hu : Un lks) (hj : j < 3) (hs : sOf nm lks = some j ∨ (sOf nm lks = none ∧ (lks j).used = false ∧ ∀ o, o < 4 → (lks j).mode o = 0)) (hk : k < 4) : Un (tkL k j mode nm lks) ∧ (∀ o, o < 4 → lkR o nm (tkL k j mode nm lks) = if o = k ∧ mode > lkR k nm lks then mode else lkR o nm lks) ∧ ∀ o n', n' ≠ nm → lkR o n' (tkL k j mode nm lks) = lkR o n' lks := by
  have hjn : ∀ a, a < 3 → a ≠ j → (lks a).used = true → (lks a).name ≠ nm := fun a ha hne hua e => by
    rcases hs with hs | ⟨hs, _⟩
    · have := (sOf_iff hu).1 hs
      exact hne (hu a ha j hj hua this.2.1 (e.trans this.2.2.symm))
    · exact sOf_none.1 hs a ha hua e
  have hun : Un (tkL k j mode nm lks) := by
    intro a ha b hb hua hub e
    unfold tkL at hua hub e
    by_cases ea : a = j
    · by_cases eb : b = j
      · rw [ea, eb]
      · rw [ea, fset_eq, fset_ne eb] at e
        rw [fset_ne eb] at hub
        exact absurd e.symm (hjn b hb eb hub)
    · rw [fset_ne ea] at hua e
      by_cases eb : b = j
      · rw [eb, fset_eq] at e
        exact absurd e (hjn a ha ea hua)
      · rw [fset_ne eb] at hub e
        exact hu a ha b hb hua hub e
  have hold : ∀ o, o < 4 → (lks j).mode o = lkR o nm lks := fun o ho => by
    rcases hs with hs | ⟨hs, _, hz⟩
    · unfold lkR; rw [hs]
    · rw [lkR_none hs, hz o ho]
  refine ⟨hun, fun o ho => ?_, fun o n' hn => ?_⟩
  · have : sOf nm (tkL k j mode nm lks) = some j := (sOf_iff hun).2 ⟨hj, by unfold tkL; rw [fset_eq], by unfold tkL; rw [fset_eq]⟩
    have e : lkR o nm (tkL k j mode nm lks) = (tkL k j mode nm lks j).mode o := by
      show (match sOf nm (tkL k j mode nm lks) with | none => 0 | some i => (tkL k j mode nm lks i).mode o) = _
      rw [this]
    rw [e]
    unfold tkL
    rw [fset_eq]
    dsimp only
    rw [← hold k hk, ← hold o ho]
    by_cases hm : mode > (lks j).mode k
    · rw [if_pos hm]
      by_cases eo : o = k
      · rw [eo, fset_eq, if_pos ⟨rfl, hm⟩]
      · rw [fset_ne eo, if_neg fun h => eo h.1]
    · rw [if_neg hm, if_neg fun h => hm h.2]
  · have hsame : sOf n' (tkL k j mode nm lks) = sOf n' lks := by
      cases h' : sOf n' lks with
      | none =>
        rw [sOf_none] at h' ⊢
        intro a ha hua
        unfold tkL at hua ⊢
        by_cases ea : a = j
        · rw [ea, fset_eq]; exact fun e => hn e.symm
        · rw [fset_ne ea] at hua ⊢
          exact h' a ha hua
      | some a =>
        rw [sOf_iff hu] at h'
        rw [sOf_iff hun]
        have ea : a ≠ j := by
          intro e
          rw [e] at h'
          rcases hs with hs | ⟨_, hs, _⟩
          · have := (sOf_iff hu).1 hs
            exact hn (h'.2.2.symm.trans this.2.2)
          · rw [hs] at h'; cases h'.2.1
        unfold tkL
        rw [fset_ne ea]
        exact h'
    unfold lkR
    rw [hsame]
    cases h' : sOf n' lks with
    | none => rfl
    | some a =>
      have ea : a ≠ j := by
        intro e
        have h'' := (sOf_iff hu).1 h'
        rw [e] at h''
        rcases hs with hs | ⟨_, hs, _⟩
        · have := (sOf_iff hu).1 hs
          exact hn (h''.2.2.symm.trans this.2.2)
        · rw [hs] at h''; cases h''.2.1
      show (tkL k j mode nm lks a).mode o = _
      unfold tkL
      rw [fset_ne ea]
theorem names_inj (ok : DbOk db) {t t' : Tb} (h1 : db[i]? = some t) (h2 : db[j]? = some t') (e : t.name = t'.name) : i = j := by
  by_cases hij : i = j
  · exact hij
  · exact absurd e (pw_get (R := fun a b : Tb => a.name ≠ b.name) (fun a b h => h.symm) (ok.srt.imp_of_mem fun {a b} _ _ h => sl_ne h) hij h1 h2)
theorem tkU_db0 (k i mode : Nat) (U : Mu) : (tkU k i mode U).db 0 = U.db 0 := by
  unfold tkU
  dsimp only
  split
  · rw [fset_ne (by omega)]
  · rfl
theorem tkU_lk (k i mode : Nat) (U : Mu) (o j : Nat) : (tkU k i mode U).lk o j = if o = k ∧ j = i ∧ mode > U.lk k i then mode else U.lk o j := by
  unfold tkU
  dsimp only
  by_cases h : mode > U.lk k i
  · rw [if_pos h]
    unfold setL
    by_cases e : o = k
    · subst e
      rw [fset_eq]
      by_cases e2 : j = i
      · subst e2; rw [fset_eq, if_pos ⟨rfl, rfl, h⟩]
      · rw [fset_ne e2, if_neg fun h => e2 h.2.1]
    · rw [fset_ne e, if_neg fun h => e h.1]
  · rw [if_neg h, if_neg fun h' => h h'.2.2]
set_option maxHeartbeats 1000000 in
theorem RelU.take (h : RelU U r) (ok : UOk U) (hk : k < 4) (ha : U.act k = true) (hf : fI nm (U.db 0) = some i) (hm : mode = 1 ∨ mode = 2) (hj : j < 3) (hs : sOf nm r.lks = some j ∨ (sOf nm r.lks = none ∧ (r.lks j).used = false)) (hb : busyB k i mode U = false) : RelU (tkU k i mode U) { r with lks := tkL k j mode nm r.lks } := by
  obtain ⟨t, hi, hn, hfb⟩ := fI_get hf
  have ok0 := ok.d 0 (by omega)
  have hs' : sOf nm r.lks = some j ∨ (sOf nm r.lks = none ∧ (r.lks j).used = false ∧ ∀ o, o < 4 → (r.lks j).mode o = 0) := hs.elim .inl fun h' => .inr ⟨h'.1, h'.2, h.fr j hj h'.2⟩
  obtain ⟨hun, hlk, hoth⟩ := tkL_lk (mode := mode) h.un hj hs' hk
  have e0 := tkU_db0 k i mode U
  have hki : U.lk k i = lkR k nm r.lks := by rw [h.lk k hk i t hi, hn]
  have nochg : U.lk k i ≠ 2 → ∀ c ∈ r.ws k, c.tab ≠ nm := fun h2 c hc e => by
    have := h.wl k hk c hc
    rw [e, ← hki] at this
    exact h2 this
  refine ⟨h.act, fun o ho i' t' hi' => ?_, fun a ha' hu => ?_, fun a ha' hu o ho => ?_, hun, fun a ha' o ho hmo => ?_, fun o ho => ?_, fun o ho c hc => ?_, h.wa, fun o ho i' t' q hi' hq => ?_, fun o ho k' hk' hne i' h2 => ?_, fun a ha' hu => ?_⟩
  · rw [e0] at hi'
    rw [tkU_lk]
    by_cases e : t'.name = nm
    · have ei : i' = i := names_inj ok0 hi' hi (e.trans hn.symm)
      subst ei
      show _ = lkR o t'.name (tkL k j mode nm r.lks)
      rw [e, hlk o ho, h.lk o ho i' t' hi', e, hki]
      by_cases eo : o = k ∧ mode > lkR k nm r.lks
      · rw [if_pos ⟨eo.1, rfl, eo.2⟩, if_pos eo]
      · rw [if_neg (fun h' => eo ⟨h'.1, h'.2.2⟩), if_neg eo]
    · have ei : i' ≠ i := fun e' => by
        subst e'
        rw [hi] at hi'
        cases hi'
        exact e hn
      rw [if_neg fun h' => ei h'.2.1, h.lk o ho i' t' hi']
      exact (hoth o t'.name e).symm
  · rw [e0]
    show ∃ t, fnB (tkL k j mode nm r.lks a).name (U.db 0) = some t
    have hu : (tkL k j mode nm r.lks a).used = true := hu
    unfold tkL at hu ⊢
    by_cases e : a = j
    · rw [e, fset_eq]; exact ⟨t, hfb⟩
    · rw [fset_ne e] at hu ⊢; exact h.us a ha' hu
  · have hu : (tkL k j mode nm r.lks a).used = false := hu
    show (tkL k j mode nm r.lks a).mode o = 0
    unfold tkL at hu ⊢
    by_cases e : a = j
    · rw [e, fset_eq] at hu; cases hu
    · rw [fset_ne e] at hu ⊢; exact h.fr a ha' hu o ho
  · have hmo : (tkL k j mode nm r.lks a).mode o ≠ 0 := hmo
    show U.act o = true
    unfold tkL at hmo
    by_cases e : a = j
    · rw [e, fset_eq] at hmo
      dsimp only at hmo
      by_cases eo : o = k
      · rw [eo]; exact ha
      · have : (r.lks j).mode o ≠ 0 := by
          split at hmo
          · rw [fset_ne eo] at hmo; exact hmo
          · exact hmo
        exact h.md j hj o ho this
    · rw [fset_ne e] at hmo; exact h.md a ha' o ho hmo
  · rw [e0]; exact h.wo o ho
  · show lkR o c.tab (tkL k j mode nm r.lks) = 2
    have h2 := h.wl o ho c hc
    by_cases e : c.tab = nm
    · rw [e, hlk o ho]
      rw [e] at h2
      by_cases eo : o = k ∧ mode > lkR k nm r.lks
      · rw [eo.1] at h2; omega
      · rw [if_neg eo]; exact h2
    · rw [hoth o c.tab e]; exact h2
  · rw [e0] at hi'
    show Sees t'.name t'.pk t'.rows (r.ws o) q.rows
    by_cases hok : o = k ∧ i' = i
    · obtain ⟨rfl, rfl⟩ := hok
      rw [hi] at hi'
      cases hi'
      by_cases h2 : U.lk o i' = 2
      · have es : seenD o i' (tkU o i' mode U) = seenD o i' U := by
          have hl : (tkU o i' mode U).lk o i' = U.lk o i' := by rw [tkU_lk, if_neg (fun h' => by omega)]
          unfold seenD
          rw [hl]
        have ed : (tkU o i' mode U).db = U.db := by
          unfold tkU
          dsimp only
          rw [if_neg fun h' => h'.2 h2]
        rw [es, ed] at hq
        exact h.sees o ho i' t q hi hq
      · have hqt : q = t := by
          by_cases hm2 : mode = 2
          · have es : seenD o i' (tkU o i' mode U) = o + 1 := by
              have hl : (tkU o i' mode U).lk o i' = mode := by rw [tkU_lk, if_pos ⟨rfl, rfl, by have := ok.l2 o i' ho; omega⟩]
              unfold seenD
              rw [hl, if_pos hm2]
            have ed : (tkU o i' mode U).db (o + 1) = (U.db (o + 1)).set i' t := by
              unfold tkU
              dsimp only
              rw [if_pos ⟨hm2, h2⟩, fset_eq]
              congr 1
              rw [List.getD_eq_getElem?_getD, hi]; rfl
            rw [es, ed] at hq
            have hl := (ok.sh o ho ha).len
            have hil := (List.getElem?_eq_some_iff.1 hi).1
            rw [List.getElem?_set_self (by omega)] at hq
            exact (Option.some.inj hq).symm
          · have es : seenD o i' (tkU o i' mode U) = 0 := by
              have hl : (tkU o i' mode U).lk o i' ≠ 2 := by rw [tkU_lk]; split <;> omega
              unfold seenD
              rw [if_neg hl]
            rw [es, e0, hi] at hq
            exact (Option.some.inj hq).symm
        subst hqt
        intro y
        rw [hn]
        constructor
        · exact fun hy => .inl ⟨hy, fun c hc e => absurd e (nochg h2 c hc)⟩
        · rintro (⟨hy, _⟩ | ⟨c, hc, e, _⟩)
          · exact hy
          · exact absurd e (nochg h2 c hc)
    · have es : seenD o i' (tkU k i mode U) = seenD o i' U := by
        have hl : (tkU k i mode U).lk o i' = U.lk o i' := by rw [tkU_lk, if_neg fun h' => hok ⟨h'.1, h'.2.1⟩]
        unfold seenD
        rw [hl]
      rw [es] at hq
      have : (U.db (seenD o i' U))[i']? = some q := by
        unfold tkU at hq
        dsimp only at hq
        split at hq
        · by_cases eo : seenD o i' U = k + 1
          · rw [eo, fset_eq] at hq
            have hok' : o = k := by
              unfold seenD at eo
              split at eo <;> omega
            rw [List.getElem?_set, if_neg fun e => hok ⟨hok', e.symm⟩] at hq
            rw [eo]; exact hq
          · rw [fset_ne eo] at hq; exact hq
        · exact hq
      exact h.sees o ho i' t' q hi' this
  · have nb : ∀ o', o' < 4 → o' ≠ k → ¬ (U.lk o' i = 2 ∨ (mode = 2 ∧ U.lk o' i ≠ 0)) := fun o' ho' hne' hh => by
      have : busyB k i mode U = true := busyB_iff.2 ⟨o', ho', hne', hh⟩
      rw [hb] at this; cases this
    rw [tkU_lk] at h2 ⊢
    by_cases c1 : o = k ∧ i' = i ∧ mode > U.lk k i
    · rw [if_pos c1] at h2
      rw [if_neg fun h' => hne (c1.1.trans h'.1.symm)]
      have := nb k' hk' fun e => hne (c1.1.trans e.symm)
      rw [c1.2.1]
      rcases Nat.eq_zero_or_pos (U.lk k' i) with h0 | h0
      · exact h0
      · exact absurd (.inr ⟨h2, by omega⟩) this
    · rw [if_neg c1] at h2
      by_cases c2 : k' = k ∧ i' = i ∧ mode > U.lk k i
      · have := nb o ho fun e => hne (e.trans c2.1.symm)
        rw [c2.2.1] at h2
        exact absurd (.inl h2) this
      · rw [if_neg c2]
        exact h.ex o ho k' hk' hne i' h2
  · have hu : (tkL k j mode nm r.lks a).used = true := hu
    show ∃ k', k' < 4 ∧ (tkL k j mode nm r.lks a).mode k' ≠ 0
    unfold tkL at hu ⊢
    by_cases e : a = j
    · rw [e, fset_eq]
      dsimp only
      refine ⟨k, hk, ?_⟩
      split
      · rw [fset_eq]; omega
      · omega
    · rw [fset_ne e] at hu ⊢
      exact h.uo a ha' hu
end Go.Proofs.Qxb6500564aGreat
