/-
  The model: Insert, Update.
-/
import Derived.Test.Qxb6500564aGreatMcG
namespace Go.Proofs.Qxb6500564aGreat
open Go.Den Go.Zip
set_option linter.unusedVariables false
set_option linter.unusedSimpArgs false
variable {w w' u v : World} {i j n q g b pk d o : Nat} {s r x : Sl} {row vs : List Vl} {rows : List (List Vl)} {ss : List Sl} {key : Vl} {tb : Tb} {nm : ByteArray} {ms : List MR} {m m' : MR} {P Q : Nat → Prop}

theorem pw_set {α : Type} {R : α → α → Prop} {l : List α} {x : α} (hs : ∀ a b, R a b → R b a) (h : l.Pairwise R) (hn : ∀ j y, j ≠ i → l[j]? = some y → R y x) : (l.set i x).Pairwise R := by
  rw [List.pairwise_iff_getElem] at h ⊢
  intro a b ha hb hab
  rw [List.length_set] at ha hb
  rw [List.getElem_set, List.getElem_set]
  by_cases e1 : i = a
  · rw [if_pos e1, if_neg (by omega)]
    exact hs _ _ (hn b _ (by omega) (List.getElem?_eq_getElem hb))
  · rw [if_neg e1]
    by_cases e2 : i = b
    · rw [if_pos e2]
      exact hn a _ (by omega) (List.getElem?_eq_getElem ha)
    · rw [if_neg e2]
      exact h a b ha hb hab
theorem pw_get {α : Type} {R : α → α → Prop} {l : List α} {x y : α} (hs : ∀ a b, R a b → R b a) (h : l.Pairwise R) (hij : i ≠ j) (hx : l[i]? = some x) (hy : l[j]? = some y) : R x y := by
  rw [List.pairwise_iff_getElem] at h
  obtain ⟨hi, ex⟩ := List.getElem?_eq_some_iff.1 hx
  obtain ⟨hj, ey⟩ := List.getElem?_eq_some_iff.1 hy
  subst ex
  subst ey
  rcases Nat.lt_or_ge i j with h' | h'
  · exact h i j hi hj h'
  · exact hs _ _ (h j i hj hi (by omega))
theorem mem_set_iff {α : Type} {l : List α} {x y : α} (h : y ∈ l.set i x) : y = x ∨ ∃ j, j ≠ i ∧ l[j]? = some y := by
  obtain ⟨j, hj⟩ := List.mem_iff_getElem?.1 h
  rw [List.getElem?_set] at hj
  by_cases e : i = j
  · rw [if_pos e] at hj
    split at hj
    · exact .inl (Option.some.inj hj).symm
    · cases hj
  · rw [if_neg e] at hj
    exact .inr ⟨j, fun e' => e e'.symm, hj⟩
/-- One table of the list turns: its rows' list and its rows. -/
theorem MT.turn (h : MT w s ms) (hi : ms[i]? = some m) (F : FrP Q w w') (hQ : ∀ b, Q b → owns s b ∨ owns m.rs b ∨ w.heap.size ≤ b) (ha : OS w' s (msC (ms.set i m')) 5) (hc : m'.cs = m.cs) (hm' : MOk w' m')
    (hrs : ∀ b, owns m'.rs b → owns m.rs b ∨ w.heap.size ≤ b) (hss : ∀ r ∈ m'.ss, r ∈ m.ss ∨ ∀ b, owns r b → w.heap.size ≤ b ∧ ¬ owns m'.rs b) : MT w' s (ms.set i m') ∧ ∀ b, mo s (ms.set i m') b → mo s ms b ∨ w.heap.size ≤ b := by
  have hmm := List.mem_of_getElem? hi
  have dsym : ∀ a b : MR, (∀ q, owns a.rs q → ¬ owns b.rs q) → ∀ q, owns b.rs q → ¬ owns a.rs q := fun a b h q h1 h2 => h q h2 h1
  have immS : ∀ b, imm (ms.set i m') b → imm ms b ∨ (w.heap.size ≤ b ∧ ¬ owns m'.rs b) := by
    rintro b ⟨m1, hm1, hb⟩
    rcases mem_set_iff hm1 with rfl | ⟨j, _, hj⟩
    · rcases hb with hb | ⟨r, hr, hb⟩
      · rw [hc] at hb; exact .inl ⟨m, hmm, .inl hb⟩
      · rcases hss r hr with hr | hr
        · exact .inl ⟨m, hmm, .inr ⟨r, hr, hb⟩⟩
        · exact .inr (hr b hb)
    · exact .inl ⟨m1, List.mem_of_getElem? hj, hb⟩
  have slt : ∀ b, owns s b → b < w.heap.size := fun b hb => h.arr.lt hb
  refine ⟨⟨ha, fun m1 hm1 => ?_, fun b hb => ⟨fun hi' => ?_, fun m1 hm1 hb1 => ?_⟩, fun m1 hm1 b hb hi' => ?_, ?_⟩, fun b hb => ?_⟩
  · rcases mem_set_iff hm1 with rfl | ⟨j, hne, hj⟩
    · exact hm'
    · have h1 := List.mem_of_getElem? hj
      refine (h.ok m1 h1).frp F (fun b hb hq => ?_) (fun r hr b hb hq => ?_) fun b hb hq => ?_
      · have hI : imm ms b := ⟨m1, h1, .inl hb⟩
        rcases hQ b hq with hq | hq | hq
        · exact (h.sI b hq).1 hI
        · exact h.rI m hmm b hq hI
        · have := immlt h.ok hI; omega
      · have hI : imm ms b := ⟨m1, h1, .inr ⟨r, hr, hb⟩⟩
        rcases hQ b hq with hq | hq | hq
        · exact (h.sI b hq).1 hI
        · exact h.rI m hmm b hq hI
        · have := immlt h.ok hI; omega
      · rcases hQ b hq with hq | hq | hq
        · exact (h.sI b hq).2 m1 h1 hb
        · exact pw_get dsym h.dis hne hj hi b hb hq
        · have := (h.ok m1 h1).rs.lt hb; omega
  · rcases immS b hi' with hi' | hi'
    · exact (h.sI b hb).1 hi'
    · have := slt b hb; omega
  · rcases mem_set_iff hm1 with rfl | ⟨j, hne, hj⟩
    · rcases hrs b hb1 with h1 | h1
      · exact (h.sI b hb).2 m hmm h1
      · have := slt b hb; omega
    · exact (h.sI b hb).2 m1 (List.mem_of_getElem? hj) hb1
  · rcases mem_set_iff hm1 with rfl | ⟨j, hne, hj⟩
    · rcases immS b hi' with hi' | hi'
      · rcases hrs b hb with h1 | h1
        · exact h.rI m hmm b h1 hi'
        · have := immlt h.ok hi'; omega
      · exact hi'.2 hb
    · have h1 := List.mem_of_getElem? hj
      rcases immS b hi' with hi' | hi'
      · exact h.rI m1 h1 b hb hi'
      · have := (h.ok m1 h1).rs.lt hb; omega
  · refine pw_set dsym h.dis fun j y hne hy b hb hb' => ?_
    rcases hrs b hb' with h1 | h1
    · exact pw_get dsym h.dis hne hy hi b hb h1
    · have := (h.ok y (List.mem_of_getElem? hy)).rs.lt hb; omega
  · rcases hb with hb | hb | ⟨m1, hm1, hb⟩
    · exact .inl (.inl hb)
    · rcases immS b hb with hb | hb
      · exact .inl (.inr (.inl hb))
      · exact .inr hb.1
    · rcases mem_set_iff hm1 with rfl | ⟨j, hne, hj⟩
      · rcases hrs b hb with h1 | h1
        · exact .inl (.inr (.inr ⟨m, hmm, h1⟩))
        · exact .inr h1
      · exact .inl (.inr (.inr ⟨m1, List.mem_of_getElem? hj, hb⟩))
/-- Only the blocks of a database, and new ones, have turned. -/
theorem MD.turn (h : MD w d o s ms) (hi : ms[i]? = some m) (F : FrP Q w w') (hQ : ∀ b, Q b → owns s b ∨ owns m.rs b ∨ w.heap.size ≤ b) (ha : OS w' s (msC (ms.set i m')) 5) (hc : m'.cs = m.cs) (hm' : MOk w' m')
    (hrs : ∀ b, owns m'.rs b → owns m.rs b ∨ w.heap.size ≤ b) (hss : ∀ r ∈ m'.ss, r ∈ m.ss ∨ ∀ b, owns r b → w.heap.size ≤ b ∧ ¬ owns m'.rs b) : MD w' d o s (ms.set i m') ∧ Gw (mo s ms) w (mo s (ms.set i m')) w' := by
  obtain ⟨a, c⟩ := h.mt.turn hi F hQ ha hc hm' hrs hss
  obtain ⟨cells, bl, hcell⟩ := h.ld
  have hd := bl.lt
  have nQ : ¬ Q d := fun hq => by
    rcases hQ d hq with h1 | h1 | h1
    · exact h.nd (.inl h1)
    · exact h.nd (.inr (.inr ⟨m, List.mem_of_getElem? hi, h1⟩))
    · omega
  refine ⟨⟨⟨cells, bl.frp F nQ, hcell⟩, a, fun hd' => ?_⟩, ?_, c⟩
  · rcases c d hd' with h1 | h1
    · exact h.nd h1
    · omega
  · refine ⟨F.1, fun b hb hn => F.2 b hb fun hq => ?_⟩
    rcases hQ b hq with h1 | h1 | h1
    · exact hn (.inl h1)
    · exact hn (.inr (.inr ⟨m, List.mem_of_getElem? hi, h1⟩))
    · omega
theorem dbOf_set (m' : MR) : dbOf (ms.set i m') = (dbOf ms).set i m'.t := by unfold dbOf; rw [List.map_set]
/-- The plain database after the table at its place has turned. -/
theorem putTb_set (hi : ms[i]? = some m) (hn : m.t.name = nm) (hu : ∀ j m', j ≠ i → ms[j]? = some m' → m'.t.name ≠ nm) (t' : Tb) : (dbOf ms).set i t' = putTb nm t' (dbOf ms) := by
  refine List.ext_getElem? fun j => ?_
  unfold putTb dbOf
  rw [List.getElem?_set, List.getElem?_map, List.getElem?_map, List.getElem?_map]
  obtain ⟨hil, em⟩ := List.getElem?_eq_some_iff.1 hi
  by_cases e : i = j
  · subst e
    rw [if_pos rfl, if_pos (by rw [List.length_map]; exact hil), hi]
    show some t' = some (if m.t.name = nm then t' else m.t)
    rw [if_pos hn]
  · rw [if_neg e]
    cases hj : ms[j]? with
    | none => rfl
    | some y =>
      show some y.t = some (if y.t.name = nm then t' else y.t)
      rw [if_neg (hu j y (fun h => e h.symm) hj)]
/-- The tables of a model: all sound, no name twice. -/
structure DbOk (db : Db) : Prop where
  ok : ∀ t ∈ db, TbOk t
  srt : db.Pairwise fun a b => sl a.name b.name = true
  len : db.length ≤ 3
theorem DbOk.uq (h : DbOk (dbOf ms)) (hi : ms[i]? = some m) (hn : m.t.name = nm) : ∀ j m', j ≠ i → ms[j]? = some m' → m'.t.name ≠ nm := fun j m' hne hj e => by
  have := h.srt
  unfold dbOf at this
  rw [List.pairwise_map] at this
  have := pw_get (R := fun a b : MR => a.t.name ≠ b.t.name) (fun a b h => h.symm) (this.imp_of_mem fun {a b} _ _ h => sl_ne h) hne hj hi
  exact this (e.trans hn.symm)
theorem DbOk.mok (h : DbOk (dbOf ms)) (hi : ms[i]? = some m) : TbOk m.t := h.ok _ (List.mem_map.2 ⟨m, List.mem_of_getElem? hi, rfl⟩)
theorem DbOk.mlen (h : DbOk (dbOf ms)) : ms.length ≤ 3 := by have := h.len; unfold dbOf at this; rwa [List.length_map] at this
end Go.Proofs.Qxb6500564aGreat
