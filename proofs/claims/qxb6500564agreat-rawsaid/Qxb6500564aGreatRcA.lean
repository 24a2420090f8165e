/-
  What is read back from a disk image, plain; a cut.
-/
import Derived.Test.Qxb6500564aGreatRbD
namespace Go.Proofs.Qxb6500564aGreat
open Go.Den Go.Zip
set_option linter.unusedVariables false
set_option linter.unusedSimpArgs false
variable {i j k n : Nat} {D X : List Bk} {R R' ws : List Wr} {cur cur' : Nat → Bk} {db dbo dbn : Db}

/-- The pages that recovery reads back. -/
def cX (X : List Bk) (n : Nat) : Bk := (hm (rcv X)).getD n blk0
def UC (db : Db) : Mu := ⟨fset (fun _ => []) 0 db, fun _ => false, fun _ _ => 0⟩
theorem crash_eq (U : Mu) : muCrash U = UC (U.db 0) := rfl
theorem UC_db (db : Db) : (UC db).db 0 = db := by unfold UC; dsimp only; rw [fset_eq]
/-- Pages from which db is read back: never formatted, half formatted, or holding db. -/
def RdB (c : Nat → Bk) (db : Db) : Prop := (db = [] ∧ ∀ n, us c n = false) ∨ (db = [] ∧ FCp c (fun _ => none) (fun _ => [])) ∨ Hld c db
def Rcv (X : List Bk) (db : Db) : Prop := RdB (cX X) db
theorem us_ext (h : cur' 0 = cur 0) (n : Nat) : us cur' n = us cur n := by unfold us; rw [h]
theorem RdB.ext (h : RdB cur db) (e : ∀ n, n < 72 → cur' n = cur n) : RdB cur' db := by
  rcases h with ⟨h1, h2⟩ | ⟨h1, h2⟩ | h
  · exact .inl ⟨h1, fun n => by rw [us_ext (e 0 (by omega))]; exact h2 n⟩
  · exact .inr (.inl ⟨h1, h2.ext e⟩)
  · exact .inr (.inr (h.ext e))
theorem cX_clean (hz : byteAt (hd0 D) 0 = 0) (n : Nat) : cX D n = cmt D [] n := by
  unfold cX cmt rcv
  rw [if_neg (by simp [hz])]
  rfl
theorem com_hd (hl : D.length = 153) : byteAt (hd0 (appl D (comW ws))) 0 = 0 := by
  unfold hd0 comW
  rw [getD_appl (by rw [hl]; omega), lastW_app]
  show byteAt blk0 0 = 0
  exact byteAt_blk0 0
theorem comW_len (ws : List Wr) : (comW ws).length = 2 * ws.length + 2 := by
  unfold comW
  rw [List.length_append, List.length_append, List.length_append, slotW_len, homeW_len]
  simp
  omega
/-- A commit cut after t writes. -/
theorem com_pages (hl : D.length = 153) (hz : byteAt (hd0 D) 0 = 0) (h : WsF ws) (hn : ws ≠ []) (t : Nat) :
    (t ≤ ws.length → ∀ n, cX (appl D ((comW ws).take t)) n = cmt D [] n) ∧ (ws.length < t → ∀ n, cX (appl D ((comW ws).take t)) n = cmt D (comW ws) n) := by
  have hp : 0 < ws.length := List.length_pos_iff.2 hn
  have c := com_cut hl hz h.ok hp t
  refine ⟨fun ht n => ?_, fun ht n => ?_⟩
  · unfold cX cmt
    rw [c.1 ht]
    rfl
  · have c2 := (com_cut hl hz h.ok hp (comW ws).length).2 (by rw [comW_len]; omega)
    rw [List.take_of_length_le (Nat.le_refl _)] at c2
    have e : rcv (appl D (comW ws)) = appl D (comW ws) := by unfold rcv; rw [if_neg (by simp [com_hd hl])]
    unfold cX cmt
    rw [c.2 ht, ← c2, e]
/-- What a cut of the last step's writes R on the disk D leaves: the database ahead of the step, or the one behind it. -/
structure Crp (D : List Bk) (R : List Wr) (dbo dbn : Db) : Prop where
  any : ∀ k, Rcv (appl D (R.take k)) dbo ∨ Rcv (appl D (R.take k)) dbn
  no : Rcv D dbo
  all : ∀ k, R.length ≤ k → Rcv (appl D (R.take k)) dbn
  both : R = [] → dbo = dbn ∨ (Hld (cX D) dbo ∧ Hld (cX D) dbn)
theorem crp_step (hl : D.length = 153) (hz : byteAt (hd0 D) 0 = 0) (hc : Cm D [] cur) (ho : Hld cur dbo) (rs : RStep [] R') (hc' : Cm D R' cur') (hn : Hld cur' dbn) : Crp D R' dbo dbn := by
  have e0 : ∀ n, n < 72 → cX D n = cur n := fun n h => by rw [cX_clean hz]; exact hc n h
  have h0 : Hld (cX D) dbo := ho.ext e0
  have r0 : Rcv D dbo := .inr (.inr h0)
  have nil : R' = [] → Crp D R' dbo dbn := fun e => by
    subst e
    have e1 : ∀ n, n < 72 → cX D n = cur' n := fun n h => by rw [cX_clean hz]; exact hc' n h
    have h1 : Hld (cX D) dbn := hn.ext e1
    exact ⟨fun k => by rw [List.take_nil]; exact .inl r0, r0, fun k _ => by rw [List.take_nil]; exact .inr (.inr h1), fun _ => .inr ⟨h0, h1⟩⟩
  rcases rs with rs | ⟨ws, hw, rs⟩
  · exact nil rs
  · unfold comR at rs
    by_cases hne : ws = []
    · rw [if_pos hne] at rs
      exact nil rs
    · rw [if_neg hne, List.nil_append] at rs
      subst rs
      have hp : 0 < ws.length := List.length_pos_iff.2 hne
      have nw : ∀ k, ws.length < k → Rcv (appl D ((comW ws).take k)) dbn := fun k hk => .inr (.inr (hn.ext fun n h => by rw [(com_pages hl hz hw hne k).2 hk]; exact hc' n h))
      have od : ∀ k, k ≤ ws.length → Rcv (appl D ((comW ws).take k)) dbo := fun k hk => .inr (.inr (ho.ext fun n h => by rw [(com_pages hl hz hw hne k).1 hk]; exact hc n h))
      refine ⟨fun k => ?_, r0, fun k hk => nw k (by rw [comW_len] at hk; omega), fun e => ?_⟩
      · rcases Nat.lt_or_ge ws.length k with h | h
        · exact .inr (nw k h)
        · exact .inl (od k h)
      · have := comW_len ws
        rw [e] at this
        exact absurd this (by show ¬ 0 = _; omega)
/-- All that a cut leaves reads back db. -/
def Pfx (D : List Bk) (R : List Wr) (db : Db) : Prop := ∀ k, Rcv (appl D (R.take k)) db
theorem Pfx.app (h1 : Pfx D R db) (h2 : Pfx (appl D R) R' db) : Pfx D (R ++ R') db := fun k => by
  rw [List.take_append, appl_app]
  rcases Nat.lt_or_ge k R.length with h | h
  · rw [show k - R.length = 0 by omega]
    exact h1 k
  · rw [List.take_of_length_le h]
    exact h2 _
theorem Pfx.nil (h : Rcv D db) : Pfx D [] db := fun k => by rw [List.take_nil]; exact h
theorem Pfx.crp (h : Pfx D R db) : Crp D R db db := ⟨fun k => .inl (h k), by have := h 0; rw [List.take_zero] at this; exact this, fun k _ => h k, fun _ => .inl rfl⟩
/-- A commit from pages that read back db to pages that do. -/
theorem pfx_com (hl : D.length = 153) (hz : byteAt (hd0 D) 0 = 0) (h : WsF ws) (h1 : RdB (cmt D []) db) (h2 : RdB (cmt D (comR [] ws)) db) : Pfx D (comR [] ws) db := by
  unfold comR at *
  by_cases hne : ws = []
  · rw [if_pos hne] at *
    exact Pfx.nil (h1.ext fun n _ => cX_clean hz n)
  · rw [if_neg hne, List.nil_append] at *
    intro k
    rcases Nat.lt_or_ge ws.length k with hk | hk
    · exact h2.ext fun n _ => (com_pages hl hz h hne k).2 hk n
    · exact h1.ext fun n _ => (com_pages hl hz h hne k).1 hk n
/-- Recovery's own writes, cut. -/
theorem pfx_rcv (hl : X.length = 153) (h : Rcv X db) : Pfx X (rcR X []) db := by
  unfold rcR
  rw [show appl X [] = X from rfl]
  by_cases hz : byteAt (hd0 X) 0 = 0
  · rw [if_neg (by simp [hz])]
    exact Pfx.nil h
  · rw [if_pos hz, List.nil_append]
    intro k
    have := rcv_again hl hz k
    exact h.ext fun n _ => by unfold cX; rw [this]
theorem cmt_rcv (X : List Bk) (n : Nat) : cmt X (rcR X []) n = cX X n := by
  unfold cmt cX
  rw [rcR_appl]
  rfl
theorem cmt_app (D : List Bk) (R R' : List Wr) (n : Nat) : cmt D (R ++ R') n = cmt (appl D R) R' n := by unfold cmt; rw [appl_app]
theorem comR_split (R ws : List Wr) : comR R ws = R ++ comR [] ws := by
  unfold comR
  split
  · rw [List.append_nil]
  · rfl
end Go.Proofs.Qxb6500564aGreat
