/-
  INSERT, SELECT, UPDATE, DELETE inside a transaction, plain; what an answer is in memory.
-/
import Derived.Test.Qxb6500564aGreatQzV
namespace Go.Proofs.Qxb6500564aGreat
open Go.Den Go.Zip
set_option linter.unusedVariables false
set_option linter.unusedSimpArgs false
variable {w w' w3 u v : World} {i j k n a b b0 q g d p h0 p1 p2 p3 : Nat} {nm n0 : ByteArray} {cs : List Cl} {sc hit r c x xs rw_ : Sl} {row : List Vl} {T : Smt} {M : Mst} {z : Nat → Sl} {ss hs : List Sl} {rows hr rws : List (List Vl)} {U U' : Mu} {O O' O1 O1' Op : Nat → Prop} {t tq : Tb} {s : Int}

structure Rz where
  e : Int
  n : Int
  cols : List ByteArray
  rows : List (List Vl)
def errZ (e : Int) : Rz := ⟨e, 0, [], []⟩
def tab0 : Tb := ⟨⟨#[]⟩, [], 0, 0, []⟩
def plcI (T : Smt) (U : Mu) : Nat := (fI T.table (U.db 0)).getD 0
def insA (s : Int) (T : Smt) (U : Mu) : Int × Db := mdIns T.table T.lits ((tkU s.toNat (plcI T U) 2 U).db (s.toNat + 1))
def hitP (s : Int) (T : Smt) (U : Mu) (cs : List Cl) : List (List Vl) := ((fnB T.table (U.db (seenD s.toNat (plcI T U) (tkU s.toNat (plcI T U) 1 U)))).getD tab0).rows.filter (mtP cs T.wh)
def selP' (s : Int) (T : Smt) (U : Mu) (t : Tb) : Rz × Mu :=
  if T.kind = 8 then (⟨0, (prN T (hitP s T U t.cols).length : Nat), prC t.cols T, prA t.cols T (hitP s T U t.cols)⟩, tkU s.toNat (plcI T U) 1 U)
  else (⟨(chA t.cols t.pk T s s.toNat (plcI T U) (hitP s T U t.cols) (tkU s.toNat (plcI T U) 1 U)).1, (chA t.cols t.pk T s s.toNat (plcI T U) (hitP s T U t.cols) (tkU s.toNat (plcI T U) 1 U)).2.1, [], []⟩, (chA t.cols t.pk T s s.toNat (plcI T U) (hitP s T U t.cols) (tkU s.toNat (plcI T U) 1 U)).2.2)
/-- What a statement inside a transaction answers, and what it leaves. -/
def runP (s : Int) (T : Smt) (U : Mu) : Rz × Mu :=
  if T.kind = 7 then
    if tkE s T.table 2 U ≠ 0 then (errZ (tkE s T.table 2 U), U)
    else (if (insA s T U).1 ≠ 0 then errZ (insA s T U).1 else ⟨0, 1, [], []⟩, UP (tkU s.toNat (plcI T U) 2 U) s.toNat (insA s T U).2)
  else match fnB T.table (U.db 0) with
    | none => (errZ 10, U)
    | some t =>
      if chkP t.cols t.pk T ≠ 0 then (errZ (chkP t.cols t.pk T), U)
      else if tkE s T.table 1 U ≠ 0 then (errZ (tkE s T.table 1 U), U)
      else selP' s T U t
theorem runP_none (h7 : T.kind ≠ 7) (hf : fnB T.table (U.db 0) = none) : runP s T U = (errZ 10, U) := by unfold runP; rw [if_neg h7, hf]
theorem runP_chk (h7 : T.kind ≠ 7) (hf : fnB T.table (U.db 0) = some t) (hc : chkP t.cols t.pk T ≠ 0) : runP s T U = (errZ (chkP t.cols t.pk T), U) := by unfold runP; rw [if_neg h7, hf]; dsimp only; rw [if_pos hc]
theorem runP_busy (h7 : T.kind ≠ 7) (hf : fnB T.table (U.db 0) = some t) (hc : chkP t.cols t.pk T = 0) (hk : tkE s T.table 1 U ≠ 0) : runP s T U = (errZ (tkE s T.table 1 U), U) := by unfold runP; rw [if_neg h7, hf]; dsimp only; rw [if_neg (by rw [hc]; simp), if_pos hk]
theorem runP_go (h7 : T.kind ≠ 7) (hf : fnB T.table (U.db 0) = some t) (hc : chkP t.cols t.pk T = 0) (hk : tkE s T.table 1 U = 0) : runP s T U = selP' s T U t := by unfold runP; rw [if_neg h7, hf]; dsimp only; rw [if_neg (by rw [hc]; simp), if_neg (by rw [hk]; simp)]
theorem runP_ins (h7 : T.kind = 7) (hk : tkE s T.table 2 U = 0) : runP s T U = (if (insA s T U).1 ≠ 0 then errZ (insA s T U).1 else ⟨0, 1, [], []⟩, UP (tkU s.toNat (plcI T U) 2 U) s.toNat (insA s T U).2) := by unfold runP; rw [if_pos h7, if_neg (by rw [hk]; simp)]
theorem runP_no (h7 : T.kind = 7) (hk : tkE s T.table 2 U ≠ 0) : runP s T U = (errZ (tkE s T.table 2 U), U) := by unfold runP; rw [if_pos h7, if_pos hk]
theorem plc_of (hf : fI T.table (U.db 0) = some i) : plcI T U = i := by unfold plcI; rw [hf]; rfl
theorem hit_of (hs : s = (k : Nat)) (hf : fI T.table (U.db 0) = some i) (hq : fnB T.table (U.db (seenD k i (tkU k i 1 U))) = some tq) : hitP s T U cs = tq.rows.filter (mtP cs T.wh) := by
  unfold hitP
  rw [plc_of hf, hs, Int.toNat_natCast, hq]
  rfl
theorem nodup_rows (ok : TbOk tq) : tq.rows.Nodup := by
  refine List.Pairwise.imp_of_mem (fun {a b} _ _ h e => ?_) (rows_pw ok)
  rw [e, vl_irrefl] at h
  cases h
/-- The session sees its hits. -/
theorem cs_of (ok : UOk U) (hk : k < 4) (ha : U.act k = true) (hf : fI T.table (U.db 0) = some i) (ht : fnB T.table (U.db 0) = some t) (hq : fnB T.table (U.db (seenD k i (tkU k i 1 U))) = some tq) : CS (tkU k i 1 U) k i T.table t (tq.rows.filter (mtP cs T.wh)) := by
  refine ⟨ok.tk hk ha hf (by omega), hk, ha, by rw [tkU1_db]; exact hf, by rw [tkU1_db]; exact ht, tq, by rw [tkU1_db]; exact hq, fun x hx => (List.mem_filter.1 hx).1⟩
theorem fI_fnB (h : fnB nm (U.db 0) = some t) : ∃ i, fI nm (U.db 0) = some i := by
  cases e : fI nm (U.db 0) with
  | some i => exact ⟨i, rfl⟩
  | none =>
    exfalso
    unfold fI at e
    have := List.findIdx?_eq_none_iff.1 e t (fnB_mem h).1
    rw [(fnB_mem h).2] at this
    simp at this
theorem tk_two {mode : Nat} (hs : s = (k : Nat)) (hk : k < 4) (ha : U.act k = true) (hf : fI nm (U.db 0) = some i) : tkE s nm mode U = 0 ∨ tkE s nm mode U = 21 := by
  unfold tkE
  have hg : gs s = true := by unfold gs; rw [hs]; exact decide_eq_true (by omega)
  rw [hg, if_neg (by simp), hs, Int.toNat_natCast, ha, if_neg (by simp), hf]
  dsimp only
  split
  · exact .inr rfl
  · exact .inl rfl
/-- An answer in memory, from b0 on, apart from the engine's blocks O. -/
structure RA (b0 : Nat) (w : World) (O : Nat → Prop) (A : Rz) (c r : Sl) : Prop where
  oc : OS w c (strC A.cols) 1
  cb : ∀ b, owns c b → b0 ≤ b ∧ ¬ O b
  fr : ∃ ss, FR b0 w r ss A.rows ∧ (∀ b, owns c b → ¬ owns r b ∧ ∀ x ∈ ss, ¬ owns x b) ∧ (∀ b, (owns r b ∨ ∃ x ∈ ss, owns x b) → ¬ O b)
variable {A : Rz}
theorem RA.nil (h1 : A.cols = []) (h2 : A.rows = []) : RA b0 w O A nilS nilS := by
  refine ⟨by rw [h1]; exact OS.nil _ _, fun b hb => (by cases hb), [], by rw [h2]; exact FR.none _ _, fun b hb => (by cases hb), fun b hb => ?_⟩
  rcases hb with hb | ⟨x, hx, _⟩
  · cases hb
  · cases hx
theorem RA.keep {P : Nat → Prop} (h : RA b0 w O A c r) (F : FrP P w w') (hP : ∀ b, P b → O b ∨ b < b0 ∨ w.heap.size ≤ b) (hO : ∀ b, O' b → O b ∨ w.heap.size ≤ b) : RA b0 w' O' A c r := by
  obtain ⟨ss, f1, f2, f3⟩ := h.fr
  have nc : ∀ b, owns c b → ¬ P b := fun b hb hp => by
    have h1 := OS.lt h.oc hb
    have h2 := h.cb b hb
    rcases hP b hp with h' | h' | h'
    · exact h2.2 h'
    · omega
    · omega
  refine ⟨h.oc.frp F nc, fun b hb => ⟨(h.cb b hb).1, fun hp => ?_⟩, ss, ⟨f1.arr.frp F fun b hb hp => ?_, f1.row.frp F fun x hx b hb hp => ?_, f1.ra, f1.rb, f1.dis⟩, f2, fun b hb hp => ?_⟩
  · have h1 := OS.lt h.oc hb
    rcases hO b hp with h' | h'
    · exact (h.cb b hb).2 h'
    · omega
  · have h1 := OS.lt f1.arr hb
    have h2 := f1.ra b hb
    rcases hP b hp with h' | h' | h'
    · exact f3 b (.inl hb) h'
    · omega
    · omega
  · have h1 := f1.row.lt hx hb
    have h2 := (f1.rb x hx b hb).1
    rcases hP b hp with h' | h' | h'
    · exact f3 b (.inr ⟨x, hx, hb⟩) h'
    · omega
    · omega
  · have h1 : b < w.heap.size := by
      rcases hb with hb | ⟨x, hx, hb⟩
      · exact OS.lt f1.arr hb
      · exact f1.row.lt hx hb
    rcases hO b hp with h' | h'
    · exact f3 b hb h'
    · omega
theorem RA.gw (h : RA b0 w O A c r) (G : Gw O w O' w') : RA b0 w' O' A c r := h.keep G.1 (fun b hb => .inl hb) G.2
theorem RA.fr0 (h : RA b0 w O A c r) (F : Fr 0 0 w w') : RA b0 w' O A c r := h.keep (FrP.of0 (P := fun _ => False) F) (fun b hb => hb.elim) fun b hb => .inl hb
end Go.Proofs.Qxb6500564aGreat
