/-
  The tokens of a text, and the reader of sentences: plain.
-/
import Derived.Test.Qxb6500564aGreatQyC
namespace Go.Proofs.Qxb6500564aGreat
open Go.Den Go.Zip
set_option linter.unusedVariables false
set_option linter.unusedSimpArgs false
variable {w w' u v : World} {i j k n a b : Nat} {s x : ByteArray} {t : Tk} {L : List Tk}

theorem lxAt_end (h : 1 < (lxAt s a).1.kind) : a < (lxAt s a).2 ∧ (lxAt s a).2 ≤ s.size := by
  have hbl := bt_len s
  have b1 : ¬ (1 < badT.1.kind) := by decide
  unfold lxAt at h ⊢
  by_cases h0 : a ≥ s.size
  · rw [if_pos h0] at h; exact absurd h (show ¬ 1 < 0 by omega)
  rw [if_neg h0] at h ⊢
  by_cases h1 : letP (btA s a) = true
  · rw [if_pos h1] at h ⊢
    have := scn_ge wrdP s (a + 1)
    have := scn_le (P := wrdP) (s := s) (i := a + 1) (by omega)
    exact ⟨by show a < scn wrdP s (a + 1); omega, by show scn wrdP s (a + 1) ≤ s.size; omega⟩
  rw [if_neg h1] at h ⊢
  by_cases h2 : digP (btA s a) = true
  · rw [if_pos h2] at h ⊢
    split at h
    · rename_i hn
      rw [if_pos hn]
      have e := scn_step (s := s) (P := digP) (btA_get (by omega)) h2
      have := scn_ge digP s (a + 1)
      have := scn_le (P := digP) (s := s) (i := a) (by omega)
      exact ⟨by show a < scn digP s a; omega, by show scn digP s a ≤ s.size; omega⟩
    · exact absurd h b1
  rw [if_neg h2] at h ⊢
  by_cases h3 : btA s a = 45 ∧ a + 1 < s.size ∧ digP (btA s (a + 1)) = true
  · rw [if_pos h3] at h ⊢
    split at h
    · rename_i hn
      rw [if_pos hn]
      have := scn_ge digP s (a + 1)
      have := scn_le (P := digP) (s := s) (i := a + 1) (by omega)
      exact ⟨by show a < scn digP s (a + 1); omega, by show scn digP s (a + 1) ≤ s.size; omega⟩
    · exact absurd h b1
  rw [if_neg h3] at h ⊢
  by_cases h4 : btA s a = 39
  · rw [if_pos h4] at h ⊢
    split at h
    · exact absurd h b1
    · rename_i hn
      rw [if_neg hn]
      have := scn_ge (· != 39) s (a + 1)
      exact ⟨by show a < scn (· != 39) s (a + 1) + 1; omega, by show scn (· != 39) s (a + 1) + 1 ≤ s.size; omega⟩
  rw [if_neg h4] at h ⊢
  by_cases h5 : sgn2 (btA s a) = true ∧ a + 1 < s.size ∧ btA s (a + 1) = 61
  · rw [if_pos h5]
    exact ⟨by show a < a + 2; omega, by show a + 2 ≤ s.size; omega⟩
  rw [if_neg h5] at h ⊢
  by_cases h6 : sgn1 (btA s a) = true
  · rw [if_pos h6]
    exact ⟨by show a < a + 1; omega, by show a + 1 ≤ s.size; omega⟩
  · rw [if_neg h6] at h; exact absurd h b1
theorem lx_end (h : 1 < (lx s i).1.kind) : i < (lx s i).2 ∧ (lx s i).2 ≤ s.size := by
  have := lxAt_end h
  have := scn_ge blkP s i
  unfold lx
  omega
/-- The tokens from a place on: the last one is the end, or none stands there. -/
def tks : Nat → ByteArray → Nat → List Tk
  | 0, _, _ => [badT.1]
  | n + 1, s, e => if 1 < (lx s e).1.kind then (lx s e).1 :: tks n s (lx s e).2 else [(lx s e).1]
theorem tks_stab : ∀ (n m e : Nat), s.size < n + e → s.size < m + e → 0 < n → 0 < m → tks n s e = tks m s e := by
  intro n
  induction n with
  | zero => intro m e _ _ h; exact absurd h (by omega)
  | succ n ih =>
    intro m e h1 h2 _ h3
    cases m with
    | zero => exact absurd h3 (by omega)
    | succ m =>
      unfold tks
      by_cases hk : 1 < (lx s e).1.kind
      · obtain ⟨h4, h5⟩ := lx_end hk
        rw [if_pos hk, if_pos hk, ih m _ (by omega) (by omega) (by omega) (by omega)]
      · rw [if_neg hk, if_neg hk]
def TS (s : ByteArray) (e : Nat) : List Tk := tks (s.size + 1) s e
theorem TS_step (h : 1 < (lx s i).1.kind) : TS s i = (lx s i).1 :: TS s (lx s i).2 := by
  obtain ⟨h4, h5⟩ := lx_end h
  unfold TS
  rw [tks, if_pos h, tks_stab s.size (s.size + 1) _ (by omega) (by omega) (by omega) (by omega)]
theorem TS_stop (h : ¬ 1 < (lx s i).1.kind) : TS s i = [(lx s i).1] := by
  unfold TS
  rw [tks, if_neg h]
theorem tks_len (n e : Nat) : (tks n s e).length ≤ n + 1 := by
  induction n generalizing e with
  | zero => exact Nat.le_refl _
  | succ n ih =>
    unfold tks
    split
    · rw [List.length_cons]; have := ih (lx s e).2; omega
    · rw [List.length_singleton]; omega

/- What the reader does with the tokens ahead. -/
def bad : List Tk := [badT.1]
def hd (L : List Tk) : Tk := L.headD badT.1
def isP (x : ByteArray) (L : List Tk) : Bool := ((hd L).kind == 3 || (hd L).kind == 6) && decide ((hd L).text = x)
def aft (x : ByteArray) (L : List Tk) : List Tk := if isP x L then L.tail else L
def wnt (x : ByteArray) (L : List Tk) : List Tk := if isP x L then L.tail else bad
def nmP (L : List Tk) : ByteArray := if (hd L).kind = 2 then (hd L).text else ⟨#[]⟩
def nmL (L : List Tk) : List Tk := if (hd L).kind = 2 then L.tail else bad
def ltP (L : List Tk) : Vl := if (hd L).kind = 5 then ⟨true, 0, (hd L).text⟩ else if (hd L).kind = 4 then ⟨false, (hd L).val, ⟨#[]⟩⟩ else v0
def ltL (L : List Tk) : List Tk := if (hd L).kind = 4 ∨ (hd L).kind = 5 then L.tail else bad
def opC (t : Tk) : Nat :=
  if t.kind ≠ 6 then 0 else if t.text = ⟨#[60]⟩ then 1 else if t.text = ⟨#[61]⟩ then 2 else if t.text = ⟨#[60, 61]⟩ then 3 else if t.text = ⟨#[62]⟩ then 4
  else if t.text = ⟨#[33, 61]⟩ then 5 else if t.text = ⟨#[62, 61]⟩ then 6 else 0
def opL (L : List Tk) : List Tk := if opC (hd L) = 0 then bad else L.tail
structure Cp where
  col : ByteArray
  op : Nat
  lit : Vl
structure Smt where
  kind : Nat
  table : ByteArray
  defs : List Cl
  pk : Nat
  lits : List Vl
  star : Bool
  list : List ByteArray
  sets : List Cp
  wh : List Cp
  order : ByteArray
  desc : Bool
  hasLim : Bool
  lim : Int
def ps0 : Smt := ⟨0, ⟨#[]⟩, [], 0, [], false, [], [], [], ⟨#[]⟩, false, false, 0⟩
def kAND : ByteArray := ⟨#[65, 78, 68]⟩
def kCOM : ByteArray := ⟨#[44]⟩
def cmpP (L : List Tk) : Cp := ⟨nmP L, opC (hd (nmL L)), ltP (opL (nmL L))⟩
def cmpL (L : List Tk) : List Tk := ltL (opL (nmL L))
def sttP (L : List Tk) : Cp := ⟨nmP L, 2, ltP (wnt ⟨#[61]⟩ (nmL L))⟩
def sttL (L : List Tk) : List Tk := ltL (wnt ⟨#[61]⟩ (nmL L))
/-- A list, its parts told apart by x. -/
def lstP {α : Type} (f : List Tk → α) (g : List Tk → List Tk) (x : ByteArray) : Nat → List Tk → List α × List Tk
  | 0, L => ([], L)
  | n + 1, L => if isP x (g L) then (f L :: (lstP f g x n (g L).tail).1, (lstP f g x n (g L).tail).2) else ([f L], g L)
def colP (L : List Tk) : Cl × Bool := (⟨nmP L, isP ⟨#[84, 69, 88, 84]⟩ (nmL L)⟩, isP ⟨#[75, 69, 89]⟩ (if isP ⟨#[84, 69, 88, 84]⟩ (nmL L) then (nmL L).tail else wnt ⟨#[73, 78, 84]⟩ (nmL L)))
def colL (L : List Tk) : List Tk := aft ⟨#[75, 69, 89]⟩ (if isP ⟨#[84, 69, 88, 84]⟩ (nmL L) then (nmL L).tail else wnt ⟨#[73, 78, 84]⟩ (nmL L))
def keys (l : List (Cl × Bool)) : Nat := (l.filter (·.2)).length
def pkS : List (Cl × Bool) → Nat → Nat → Nat
  | [], _, p => p
  | c :: l, i, p => pkS l (i + 1) (if c.2 then i else p)
def FU : Nat := 300
def whP (L : List Tk) : List Cp × List Tk := if isP ⟨#[87, 72, 69, 82, 69]⟩ L then lstP cmpP cmpL kAND FU L.tail else ([], L)
def creP (L : List Tk) : Smt × List Tk :=
  if isP ⟨#[84, 65, 66, 76, 69]⟩ L then
    let r := lstP colP colL kCOM FU (wnt ⟨#[40]⟩ (nmL L.tail))
    ({ ps0 with kind := 4, table := nmP L.tail, defs := r.1.map (·.1), pk := pkS r.1 0 0 }, if keys r.1 = 1 then wnt ⟨#[41]⟩ r.2 else bad)
  else
    let L1 := wnt ⟨#[79, 78]⟩ (wnt ⟨#[73, 78, 68, 69, 88]⟩ L)
    let L2 := wnt ⟨#[40]⟩ (nmL L1)
    ({ ps0 with kind := 6, table := nmP L1, list := [nmP L2] }, wnt ⟨#[41]⟩ (nmL L2))
def insP (L : List Tk) : Smt × List Tk :=
  let L1 := wnt ⟨#[73, 78, 84, 79]⟩ L
  let r := lstP ltP ltL kCOM FU (wnt ⟨#[40]⟩ (wnt ⟨#[86, 65, 76, 85, 69, 83]⟩ (nmL L1)))
  ({ ps0 with kind := 7, table := nmP L1, lits := r.1 }, wnt ⟨#[41]⟩ r.2)
def ordP (L : List Tk) : ByteArray × Bool × List Tk :=
  if isP ⟨#[79, 82, 68, 69, 82]⟩ L then
    let L1 := wnt ⟨#[66, 89]⟩ L.tail
    (nmP L1, isP ⟨#[68, 69, 83, 67]⟩ (nmL L1), aft ⟨#[68, 69, 83, 67]⟩ (nmL L1))
  else (⟨#[]⟩, false, L)
def limP (L : List Tk) : Bool × Int × List Tk :=
  if isP ⟨#[76, 73, 77, 73, 84]⟩ L then (true, (hd L.tail).val, if (hd L.tail).kind = 4 then L.tail.tail else bad) else (false, 0, L)
def selN (L : List Tk) : List ByteArray × List Tk := if isP ⟨#[42]⟩ L then ([], L.tail) else lstP nmP nmL kCOM FU L
def selP (L : List Tk) : Smt × List Tk :=
  let n := selN L
  let L1 := wnt ⟨#[70, 82, 79, 77]⟩ n.2
  let h := whP (nmL L1)
  let o := ordP h.2
  let m := limP o.2.2
  ({ ps0 with kind := 8, table := nmP L1, star := isP ⟨#[42]⟩ L, list := n.1, wh := h.1, order := o.1, desc := o.2.1, hasLim := m.1, lim := m.2.1 }, m.2.2)
def updP (L : List Tk) : Smt × List Tk :=
  let r := lstP sttP sttL kCOM FU (wnt ⟨#[83, 69, 84]⟩ (nmL L))
  let h := whP r.2
  ({ ps0 with kind := 9, table := nmP L, sets := r.1, wh := h.1 }, h.2)
def delP (L : List Tk) : Smt × List Tk :=
  let L1 := wnt ⟨#[70, 82, 79, 77]⟩ L
  let h := whP (nmL L1)
  ({ ps0 with kind := 10, table := nmP L1, wh := h.1 }, h.2)
def drpP (L : List Tk) : Smt × List Tk :=
  let L1 := wnt ⟨#[84, 65, 66, 76, 69]⟩ L
  ({ ps0 with kind := 5, table := nmP L1 }, nmL L1)
def senP (L : List Tk) : Smt × List Tk :=
  if isP ⟨#[83, 69, 76, 69, 67, 84]⟩ L then selP L.tail
  else if isP ⟨#[73, 78, 83, 69, 82, 84]⟩ L then insP L.tail
  else if isP ⟨#[85, 80, 68, 65, 84, 69]⟩ L then updP L.tail
  else if isP ⟨#[68, 69, 76, 69, 84, 69]⟩ L then delP L.tail
  else if isP ⟨#[66, 69, 71, 73, 78]⟩ L then ({ ps0 with kind := 1 }, L.tail)
  else if isP ⟨#[67, 79, 77, 77, 73, 84]⟩ L then ({ ps0 with kind := 2 }, L.tail)
  else if isP ⟨#[82, 79, 76, 76, 66, 65, 67, 75]⟩ L then ({ ps0 with kind := 3 }, L.tail)
  else if isP ⟨#[68, 82, 79, 80]⟩ L then drpP L.tail
  else if isP ⟨#[67, 82, 69, 65, 84, 69]⟩ L then creP L.tail
  else (ps0, bad)
def prsP (s : ByteArray) : Option Smt := if (hd (senP (TS s 0)).2).kind = 0 then some (senP (TS s 0)).1 else none

/- A poisoned list stays so. -/
theorem isP_bad : isP x bad = false := rfl
theorem aft_bad : aft x bad = bad := rfl
theorem wnt_bad : wnt x bad = bad := rfl
theorem nmL_bad : nmL bad = bad := rfl
theorem ltL_bad : ltL bad = bad := rfl
theorem opL_bad : opL bad = bad := rfl
theorem cmpL_bad : cmpL bad = bad := rfl
theorem sttL_bad : sttL bad = bad := rfl
theorem colL_bad : colL bad = bad := rfl
theorem lstP_bad {α : Type} {f : List Tk → α} {g : List Tk → List Tk} (hg : g bad = bad) : lstP f g x (n + 1) bad = ([f bad], bad) := by rw [lstP, hg, if_neg (by rw [isP_bad]; simp)]
theorem whP_bad : whP bad = ([], bad) := rfl
theorem ordP_bad : (ordP bad).2.2 = bad := rfl
theorem limP_bad : (limP bad).2.2 = bad := rfl

/- No end among the tokens: so it stays. -/
def Nz (L : List Tk) : Prop := ∀ t ∈ L, t.kind ≠ 0
theorem Nz.bad : Nz bad := fun t ht => by rw [show t = badT.1 from List.mem_singleton.1 ht]; decide
theorem Nz.tail (h : Nz L) : Nz L.tail := fun t ht => h t (List.mem_of_mem_tail ht)
theorem Nz.aft (h : Nz L) : Nz (aft x L) := by unfold Qxb6500564aGreat.aft; split; exact h.tail; exact h
theorem Nz.wnt (h : Nz L) : Nz (wnt x L) := by unfold Qxb6500564aGreat.wnt; split; exact h.tail; exact Nz.bad
theorem Nz.nmL (h : Nz L) : Nz (nmL L) := by unfold Qxb6500564aGreat.nmL; split; exact h.tail; exact Nz.bad
theorem Nz.ltL (h : Nz L) : Nz (ltL L) := by unfold Qxb6500564aGreat.ltL; split; exact h.tail; exact Nz.bad
theorem Nz.opL (h : Nz L) : Nz (opL L) := by unfold Qxb6500564aGreat.opL; split; exact Nz.bad; exact h.tail
theorem Nz.lst {α : Type} {f : List Tk → α} {g : List Tk → List Tk} (hg : ∀ L, Nz L → Nz (g L)) : ∀ n L, Nz L → Nz (lstP f g x n L).2 := by
  intro n
  induction n with
  | zero => intro L h; exact h
  | succ n ih =>
    intro L h
    rw [lstP]
    split
    · exact ih _ (hg L h).tail
    · exact hg L h
theorem Nz.colL (h : Nz L) : Nz (colL L) := by
  unfold Qxb6500564aGreat.colL
  refine Nz.aft ?_
  split
  · exact h.nmL.tail
  · exact h.nmL.wnt
theorem Nz.whP (h : Nz L) : Nz (whP L).2 := by
  unfold Qxb6500564aGreat.whP
  split
  · exact Nz.lst (fun L h => h.nmL.opL.ltL) _ _ h.tail
  · exact h
theorem Nz.ordP (h : Nz L) : Nz (ordP L).2.2 := by
  unfold Qxb6500564aGreat.ordP
  split
  · exact h.tail.wnt.nmL.aft
  · exact h
theorem Nz.limP (h : Nz L) : Nz (limP L).2.2 := by
  unfold Qxb6500564aGreat.limP
  split
  · show Nz (if (hd L.tail).kind = 4 then L.tail.tail else Qxb6500564aGreat.bad)
    split
    · exact h.tail.tail
    · exact Nz.bad
  · exact h
theorem Nz.selN (h : Nz L) : Nz (selN L).2 := by
  unfold Qxb6500564aGreat.selN
  split
  · exact h.tail
  · exact Nz.lst (fun L h => h.nmL) _ _ h
theorem Nz.creP (h : Nz L) : Nz (creP L).2 := by
  unfold Qxb6500564aGreat.creP
  split
  · show Nz (if _ then _ else _)
    split
    · exact (Nz.lst (fun L h => h.colL) _ _ h.tail.nmL.wnt).wnt
    · exact Nz.bad
  · exact h.wnt.wnt.nmL.wnt.nmL.wnt
theorem Nz.senP (h : Nz L) : Nz (senP L).2 := by
  unfold Qxb6500564aGreat.senP
  split
  · exact h.tail.selN.wnt.nmL.whP.ordP.limP
  split
  · exact (Nz.lst (fun L h => h.ltL) _ _ h.tail.wnt.nmL.wnt.wnt).wnt
  split
  · exact (Nz.lst (fun L h => h.nmL.wnt.ltL) _ _ h.tail.nmL.wnt).whP
  split
  · exact h.tail.wnt.nmL.whP
  split
  · exact h.tail
  split
  · exact h.tail
  split
  · exact h.tail
  split
  · exact h.tail.wnt.nmL
  split
  · exact h.tail.creP
  · exact Nz.bad
theorem Nz.hd (h : Nz L) : (hd L).kind ≠ 0 := by
  cases L with
  | nil => decide
  | cons t L => exact h t (List.mem_cons_self ..)
theorem prs_none (h : Nz (TS s 0)) : prsP s = none := by
  unfold prsP
  rw [if_neg h.senP.hd]
end Go.Proofs.Qxb6500564aGreat
