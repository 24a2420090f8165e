/-
  The manager: Begin, Rollback, LockOf, Active.
-/
import Derived.Test.Qxb6500564aGreatTxN
namespace Go.Proofs.Qxb6500564aGreat
open Go.Den Go.Zip
set_option linter.unusedVariables false
set_option linter.unusedSimpArgs false
variable {dq : Nat}
variable {w w' u v : World} {i j k n t g b : Nat} {D : List Bk} {R : List Wr} {cur cur' : Nat → Bk} {op : Bool} {O Os P : Nat → Prop} {db : Db} {s x : Sl} {nm : ByteArray} {key : Vl} {U : Mu} {r : Rs} {lks : Nat → Slt}

theorem RelU.begin (h : RelU U r) (ok : UOk U) (hk : k < 4) (ha : U.act k = false) : RelU (muBegin k U) { r with act := fset r.act k true } := by
  have hlk0 : ∀ i, U.lk k i = 0 := fun i => by
    rcases Nat.eq_zero_or_pos (U.lk k i) with h0 | h0
    · exact h0
    · have := (ok.la k i hk (by omega)).1
      rw [ha] at this; cases this
  have e0 : (muBegin k U).db 0 = U.db 0 := by unfold muBegin; dsimp only; rw [fset_ne (by omega)]
  refine ⟨fun o ho => ?_, fun o ho i t hi => ?_, fun a ha' hu => by rw [e0]; exact h.us a ha' hu, h.fr, h.un, fun a ha' o ho hm => ?_, fun o ho => by rw [e0]; exact h.wo o ho, h.wl, fun o ho hna => ?_, fun o ho i t q hi hq => ?_, h.ex, h.uo⟩
  · show fset r.act k true o = fset U.act k true o
    by_cases e : o = k
    · rw [e, fset_eq, fset_eq]
    · rw [fset_ne e, fset_ne e]; exact h.act o ho
  · rw [e0] at hi; exact h.lk o ho i t hi
  · show fset U.act k true o = true
    by_cases e : o = k
    · rw [e, fset_eq]
    · rw [fset_ne e]; exact h.md a ha' o ho hm
  · have hna : fset U.act k true o = false := hna
    by_cases e : o = k
    · rw [e, fset_eq] at hna; cases hna
    · rw [fset_ne e] at hna; exact h.wa o ho hna
  · rw [e0] at hi
    have hse : seenD o i (muBegin k U) = seenD o i U := rfl
    rw [hse] at hq
    refine h.sees o ho i t q hi ?_
    unfold muBegin at hq
    dsimp only at hq
    rw [fset_ne ?_] at hq
    · exact hq
    · unfold seenD
      split
      · rename_i h2
        intro e
        have : o = k := by omega
        rw [this, hlk0 i] at h2
        cases h2
      · omega
theorem bar0 {z : Slt} : barB z (-1) 2 = true ↔ ∃ o, o < 4 ∧ z.mode o ≠ 0 := by
  unfold barB
  rw [List.any_eq_true]
  constructor
  · rintro ⟨o, ho, h⟩
    have h := of_decide_eq_true h
    refine ⟨o, List.mem_range.1 ho, ?_⟩
    rcases h.2 with h' | h'
    · omega
    · exact h'.2
  · rintro ⟨o, ho, h⟩
    exact ⟨o, List.mem_range.2 ho, decide_eq_true ⟨by omega, .inr ⟨rfl, h⟩⟩⟩
theorem rel1_mode (z : Slt) (ho : n < 4) : (rel1 k z).mode n = if n = k then 0 else z.mode n := by
  unfold rel1
  by_cases hb : barB { z with mode := fset z.mode k 0 } (-1) 2 = true
  · rw [if_pos hb]
    show fset z.mode k 0 n = _
    by_cases e : n = k
    · rw [e, fset_eq, if_pos rfl]
    · rw [fset_ne e, if_neg e]
  · rw [if_neg hb]
    have hz : fset z.mode k 0 n = 0 := by
      rcases Nat.eq_zero_or_pos (fset z.mode k 0 n) with h0 | h0
      · exact h0
      · exact absurd (bar0.2 ⟨n, ho, by show fset z.mode k 0 n ≠ 0; omega⟩) hb
    show 0 = _
    by_cases e : n = k
    · rw [if_pos e]
    · rw [if_neg e]
      rw [fset_ne e] at hz
      exact hz.symm
theorem rel1_used {z : Slt} (h : (rel1 k z).used = true) : z.used = true ∧ (rel1 k z).name = z.name := by
  unfold rel1 at h ⊢
  split at h
  · rename_i hb
    rw [if_pos hb]
    exact ⟨h, rfl⟩
  · cases h
theorem relL_at (hi : i < 3) : relL k lks 3 i = rel1 k (lks i) := by unfold relL; rw [if_pos hi]
theorem relL_lk (hu : Un lks) (ho : n < 4) : lkR n nm (relL k lks 3) = if n = k then 0 else lkR n nm lks := by
  have hun : Un (relL k lks 3) := fun a ha b hb hua hub e => by
    rw [relL_at ha] at hua e
    rw [relL_at hb] at hub e
    obtain ⟨a1, a2⟩ := rel1_used hua
    obtain ⟨b1, b2⟩ := rel1_used hub
    exact hu a ha b hb a1 b1 (by rw [← a2, ← b2]; exact e)
  cases hs : sOf nm (relL k lks 3) with
  | some j =>
    obtain ⟨h1, h2, h3⟩ := (sOf_iff hun).1 hs
    rw [relL_at h1] at h2 h3
    obtain ⟨c1, c2⟩ := rel1_used h2
    have hs' : sOf nm lks = some j := (sOf_iff hu).2 ⟨h1, c1, c2.symm.trans h3⟩
    unfold lkR
    rw [hs, hs']
    dsimp only
    rw [relL_at h1, rel1_mode _ ho]
  | none =>
    rw [lkR_none hs]
    cases hs' : sOf nm lks with
    | none => rw [lkR_none hs']; split <;> rfl
    | some j =>
      obtain ⟨h1, h2, h3⟩ := (sOf_iff hu).1 hs'
      have hz : (rel1 k (lks j)).used = false := by
        cases hh : (rel1 k (lks j)).used with
        | false => rfl
        | true =>
          obtain ⟨c1, c2⟩ := rel1_used hh
          have := sOf_none.1 hs j h1 (by rw [relL_at h1]; exact hh)
          rw [relL_at h1] at this
          exact absurd (c2.trans h3) this
      have hm : (rel1 k (lks j)).mode n = 0 := by
        unfold rel1 at hz ⊢
        split at hz
        · have hz : (lks j).used = false := hz
          rw [h2] at hz; cases hz
        · rename_i hb
          rw [if_neg hb]; rfl
      rw [rel1_mode _ ho] at hm
      unfold lkR
      rw [hs']
      exact hm.symm
theorem RelU.end_ (h : RelU U r) (ok : UOk U) (hk : k < 4) : RelU (muEnd k U) (rsEnd k r) := by
  have e0 : (muEnd k U).db 0 = U.db 0 := by unfold muEnd; dsimp only; rw [fset_ne (by omega)]
  have elk : ∀ o j, (muEnd k U).lk o j = if o = k then 0 else U.lk o j := fun o j => by
    show fset U.lk k (fun _ => 0) o j = _
    by_cases e : o = k
    · rw [e, fset_eq, if_pos rfl]
    · rw [fset_ne e, if_neg e]
  refine ⟨fun o ho => ?_, fun o ho i t hi => ?_, fun a ha' hu => ?_, fun a ha' hu o ho => ?_, fun a ha b hb hua hub e => ?_, fun a ha' o ho hm => ?_, fun o ho => ?_, fun o ho c hc => ?_, fun o ho hna => ?_, fun o ho i t q hi hq => ?_, fun o ho k' hk' hne i' h2 => ?_, fun a ha' hu => ?_⟩
  · show fset r.act k false o = fset U.act k false o
    by_cases e : o = k
    · rw [e, fset_eq, fset_eq]
    · rw [fset_ne e, fset_ne e]; exact h.act o ho
  · rw [e0] at hi
    rw [elk]
    show _ = lkR o t.name (relL k r.lks 3)
    rw [relL_lk h.un ho, h.lk o ho i t hi]
  · rw [e0]
    have hu : (relL k r.lks 3 a).used = true := hu
    show ∃ t, fnB (relL k r.lks 3 a).name (U.db 0) = some t
    rw [relL_at ha'] at hu ⊢
    obtain ⟨c1, c2⟩ := rel1_used hu
    rw [c2]
    exact h.us a ha' c1
  · have hu : (relL k r.lks 3 a).used = false := hu
    show (relL k r.lks 3 a).mode o = 0
    rw [relL_at ha'] at hu ⊢
    unfold rel1 at hu ⊢
    split at hu
    · rename_i hb
      have hu : (r.lks a).used = false := hu
      obtain ⟨o', ho', hne⟩ := bar0.1 hb
      have h0 := h.fr a ha' hu o' ho'
      have hne : fset (r.lks a).mode k 0 o' ≠ 0 := hne
      by_cases e : o' = k
      · rw [e, fset_eq] at hne; exact absurd rfl hne
      · rw [fset_ne e] at hne; exact absurd h0 hne
    · rename_i hb
      rw [if_neg hb]; rfl
  · have hua : (relL k r.lks 3 a).used = true := hua
    have hub : (relL k r.lks 3 b).used = true := hub
    have e : (relL k r.lks 3 a).name = (relL k r.lks 3 b).name := e
    rw [relL_at ha] at hua e
    rw [relL_at hb] at hub e
    obtain ⟨a1, a2⟩ := rel1_used hua
    obtain ⟨b1, b2⟩ := rel1_used hub
    exact h.un a ha b hb a1 b1 (by rw [← a2, ← b2]; exact e)
  · have hm : (relL k r.lks 3 a).mode o ≠ 0 := hm
    show fset U.act k false o = true
    rw [relL_at ha', rel1_mode _ ho] at hm
    by_cases e : o = k
    · rw [if_pos e] at hm; exact absurd rfl hm
    · rw [if_neg e] at hm
      rw [fset_ne e]; exact h.md a ha' o ho hm
  · rw [e0]
    show WOk (U.db 0) (fset r.ws k [] o)
    by_cases e : o = k
    · rw [e, fset_eq]; exact ⟨fun c hc => (by cases hc), List.Pairwise.nil⟩
    · rw [fset_ne e]; exact h.wo o ho
  · have hc : c ∈ fset r.ws k [] o := hc
    show lkR o c.tab (relL k r.lks 3) = 2
    by_cases e : o = k
    · rw [e, fset_eq] at hc; cases hc
    · rw [fset_ne e] at hc
      rw [relL_lk h.un ho, if_neg e]; exact h.wl o ho c hc
  · show fset r.ws k [] o = []
    by_cases e : o = k
    · rw [e, fset_eq]
    · rw [fset_ne e]
      have hna : fset U.act k false o = false := hna
      rw [fset_ne e] at hna
      exact h.wa o ho hna
  · rw [e0] at hi
    show Sees t.name t.pk t.rows (fset r.ws k [] o) q.rows
    by_cases e : o = k
    · subst e
      have hse : seenD o i (muEnd o U) = 0 := by unfold seenD; rw [elk, if_pos rfl, if_neg (by omega)]
      rw [hse, e0, hi] at hq
      cases hq
      rw [fset_eq]
      intro y
      constructor
      · exact fun hy => .inl ⟨hy, fun c hc => by cases hc⟩
      · rintro (hy | ⟨c, hc, _⟩)
        · exact hy.1
        · cases hc
    · have hse : seenD o i (muEnd k U) = seenD o i U := by unfold seenD; rw [elk, if_neg e]
      rw [hse] at hq
      rw [fset_ne e]
      refine h.sees o ho i t q hi ?_
      unfold muEnd at hq
      dsimp only at hq
      rw [fset_ne (by unfold seenD; split <;> omega)] at hq
      exact hq
  · rw [elk] at h2 ⊢
    by_cases e : k' = k
    · rw [if_pos e]
    · rw [if_neg e]
      by_cases e2 : o = k
      · rw [if_pos e2] at h2; cases h2
      · rw [if_neg e2] at h2
        exact h.ex o ho k' hk' hne i' h2
  · have hu : (relL k r.lks 3 a).used = true := hu
    show ∃ k', k' < 4 ∧ (relL k r.lks 3 a).mode k' ≠ 0
    rw [relL_at ha'] at hu ⊢
    unfold rel1 at hu ⊢
    split at hu
    · rename_i hb
      rw [if_pos hb]
      exact bar0.1 hb
    · cases hu
theorem bg_ask {s : Int} (h : RelU U r) : bgE s r = askB s U := by
  unfold bgE askB
  cases hg : gs s with
  | false => rfl
  | true =>
    obtain ⟨k, hk, rfl⟩ := gs_nat hg
    rw [Int.toNat_natCast, h.act k hk]
theorem in_ask {s : Int} (h : RelU U r) : inE s r = askA s U := by
  unfold inE askA
  cases hg : gs s with
  | false => rfl
  | true =>
    obtain ⟨k, hk, rfl⟩ := gs_nat hg
    rw [Int.toNat_natCast, h.act k hk]
theorem xbegin_spec {s : Int} {K : Int → World → Prop} (h : XV dq w g D R cur U O) (h1 : askB s U ≠ 0 → K (askB s U) w)
    (h2 : askB s U = 0 → ∀ w', XV dq w' g D R cur (muBegin s.toNat U) O → FrP O w w' → K 0 w') : S.txn_Mgr_Begin g s w K := by
  obtain ⟨r, hg, hr, ok⟩ := h
  rw [← bg_ask hr] at h1 h2
  refine gbegin_spec hg h1 fun he w1 g1 F1 => ?_
  have he' := he
  unfold bgE at he'
  cases hgs : gs s with
  | false => rw [hgs, if_pos rfl] at he'; cases he'
  | true =>
    obtain ⟨k, hk, rfl⟩ := gs_nat hgs
    rw [hgs, if_neg (by simp), Int.toNat_natCast] at he'
    have ha : U.act k = false := by
      cases hh : r.act k with
      | true => rw [hh, if_pos rfl] at he'; cases he'
      | false => rw [← hr.act k hk]; exact hh
    rw [Int.toNat_natCast] at g1 h2
    have e0 : (muBegin k U).db 0 = U.db 0 := by unfold muBegin; dsimp only; rw [fset_ne (by omega)]
    exact h2 he w1 ⟨_, by rw [e0]; exact g1, hr.begin ok hk ha, ok.begin hk ha⟩ F1
theorem xroll_spec {s : Int} {K : Int → World → Prop} (h : XV dq w g D R cur U O) (h1 : askA s U ≠ 0 → K (askA s U) w)
    (h2 : askA s U = 0 → ∀ w' O', XV dq w' g D R cur (muEnd s.toNat U) O' → Gw O w O' w' → K 0 w') : S.txn_Mgr_Rollback g s w K := by
  unfold S.txn_Mgr_Rollback
  obtain ⟨r, hg, hr, ok⟩ := h
  have hgv := hg
  obtain ⟨t, Os, sw, cw, hgm, hO⟩ := hg
  refine inTxn_spec hgm ?_
  rw [in_ask hr]
  by_cases he : askA s U = 0
  · rw [he, if_pos (by rfl)]
    have he' := he
    unfold askA at he'
    cases hgs : gs s with
    | false => rw [hgs, if_pos rfl] at he'; cases he'
    | true =>
      obtain ⟨k, hk, rfl⟩ := gs_nat hgs
      have h2 := h2 he
      rw [Int.toNat_natCast] at h2
      have e0 : (muEnd k U).db 0 = U.db 0 := by unfold muEnd; dsimp only; rw [fset_ne (by omega)]
      exact gend_spec hgv hk fun w1 O1 g1 G1 => h2 w1 O1 ⟨_, by rw [e0]; exact g1, hr.end_ ok hk, ok.end_ hk⟩ G1
  · rw [if_neg (by simpa using he)]
    exact h1 he
theorem xact_spec {s : Int} {K : Bool → World → Prop} (h : XV dq w g D R cur U O) (hK : K (actE s U) w) : S.txn_Mgr_Active g s w K := by
  obtain ⟨r, hg, hr, ok⟩ := h
  refine gact_spec hg ?_
  unfold actE at hK
  cases hgs : gs s with
  | false => rw [hgs] at hK; exact hK
  | true =>
    obtain ⟨k, hk, rfl⟩ := gs_nat hgs
    rw [hgs] at hK
    rw [Int.toNat_natCast] at hK ⊢
    rw [hr.act k hk]
    exact hK
theorem xlock_spec {s : Int} {K : Int → World → Prop} (h : XV dq w g D R cur U O) (hK : K (lkE s nm U) w) : S.txn_Mgr_LockOf g s nm w K := by
  obtain ⟨r, hg, hr, ok⟩ := h
  refine glock_spec hg ?_
  unfold lkE at hK
  cases hgs : gs s with
  | false => rw [hgs, if_pos rfl] at hK; exact hK
  | true =>
    rw [hgs, if_neg (by simp)] at hK
    obtain ⟨k, hk, rfl⟩ := gs_nat hgs
    rw [if_neg (by simp)]
    rw [Int.toNat_natCast] at hK ⊢
    cases hf : fI nm (U.db 0) with
    | some i =>
      rw [hf] at hK
      obtain ⟨t, hi, hn, _⟩ := fI_get hf
      have := hr.lk k hk i t hi
      rw [hn] at this
      rw [← this]
      exact hK
    | none =>
      rw [hf] at hK
      have hs : sOf nm r.lks = none := by
        rw [sOf_none]
        intro a ha hu e
        obtain ⟨t, ht⟩ := hr.us a ha hu
        rw [e] at ht
        obtain ⟨c1, c2⟩ := fnB_mem ht
        unfold fI at hf
        rw [List.findIdx?_eq_none_iff] at hf
        have := hf t c1
        simp [c2] at this
      rw [lkR_none hs]
      exact hK
theorem xschema_spec {K : ByteArray → Sl → Int → Int → Int → World → Prop} (h : XV dq w g D R cur U O)
    (h1 : fnB nm (U.db 0) = none → ∀ w', XV dq w' g D R cur U O → FrP O w w' → K ⟨#[]⟩ nilS 0 (-1) 10 w')
    (h2 : ∀ x, fnB nm (U.db 0) = some x → ∀ w' q, XV dq w' g D R cur U O → FrP O w w' → w.heap.size ≤ q → Blk w' q (colC x.cols) → K nm (fullS q x.cols.length) x.pk x.ix 0 w') : S.txn_Mgr_SchemaOf g nm w K := by
  unfold S.txn_Mgr_SchemaOf
  obtain ⟨r, hg, hr, ok⟩ := h
  obtain ⟨t, Os, sw, cw, hgm, hO⟩ := hg
  have wO : ∀ {a b : World}, FrP Os a b → FrP O a b := fun {a b} F => F.mono fun b hb => (hO b).2 (.inr (.inl hb))
  have mk : ∀ {v : World}, GM dq v g t D R cur false Os (U.db 0) r sw cw → XV dq v g D R cur U O := fun {v} hv => ⟨r, ⟨t, Os, sw, cw, hv, hO⟩, hr, ok⟩
  refine newB fun w1 c1 f1 s1 => ?_
  have g1 := hgm.fr0 f1
  have n1 : ¬ Os w.heap.size := fun hb => by have := hgm.sv.lt hb; omega
  refine g1.ld (sschema_spec g1.sv (fun hf w2 sv2 F2 => ?_) fun x hf w2 q sv2 F2 hq b2 => ?_)
  · have g2 := (g1.sto sv2 ⟨F2, fun b hb => .inl hb⟩).1
    refine st4 (s := nilS) (c1.frp F2 n1) rfl fun w3 b3 f3 => rd4 b3 ?_
    have G3 : FrP (fun b => b = w.heap.size) w2 w3 := FrP.of f3 fun b h1 h2 => by omega
    exact h1 hf w3 (mk (g2.frp G3 fun b hb (e : b = w.heap.size) => by have := hgm.lt hb; omega)) ((wO ((FrP.of0 f1).trans F2)).trans' G3 fun b (hb : b = w.heap.size) => .inr (by omega))
  · have g2 := (g1.sto sv2 ⟨F2, fun b hb => .inl hb⟩).1
    refine st4 (s := fullS q x.cols.length) (c1.frp F2 n1) rfl fun w3 b3 f3 => rd4 b3 ?_
    have G3 : FrP (fun b => b = w.heap.size) w2 w3 := FrP.of f3 fun b h1 h2 => by omega
    have l1 : w1.heap.size = w.heap.size + 1 := s1
    exact h2 x hf w3 q (mk (g2.frp G3 fun b hb (e : b = w.heap.size) => by have := hgm.lt hb; omega)) ((wO ((FrP.of0 f1).trans F2)).trans' G3 fun b (hb : b = w.heap.size) => .inr (by omega)) (by omega) (b2.fr f3 (by omega))
theorem xtables_spec {K : Sl → World → Prop} (h : XV dq w g D R cur U O)
    (hK : ∀ w' r, XV dq w' g D R cur U O → FrP O w w' → OS w' r (strs ((U.db 0).map (·.name))) 1 → (∀ b, owns r b → w.heap.size ≤ b) → K r w') : S.txn_Mgr_Tables g w K := by
  unfold S.txn_Mgr_Tables
  obtain ⟨r, hg, hr, ok⟩ := h
  obtain ⟨t, Os, sw, cw, hgm, hO⟩ := hg
  exact hgm.ld (stables_spec hgm.sv fun w1 r1 sv1 F1 o1 ge => hK w1 r1 ⟨r, ⟨t, Os, sw, cw, (hgm.sto sv1 ⟨F1, fun b hb => .inl hb⟩).1, hO⟩, hr, ok⟩ (F1.mono fun b hb => (hO b).2 (.inr (.inl hb))) o1 ge)
end Go.Proofs.Qxb6500564aGreat
