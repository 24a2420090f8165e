/-
  The reader of sentences: reader and statement in memory; the lists.
-/
import Derived.Test.Qxb6500564aGreatQyE
namespace Go.Proofs.Qxb6500564aGreat
open Go.Den Go.Zip
set_option linter.unusedVariables false
set_option linter.unusedSimpArgs false
variable {w w' u v : World} {i j k n a b p st B : Nat} {s x : ByteArray} {t : Tk} {L L' : List Tk} {S S' : Smt} {y : Nat → Sl}

def cpC (c : Cp) : List Value := [.string c.col, .int .i64 (c.op : Nat), .bool c.lit.st, .int .i64 c.lit.i, .string c.lit.s]
def cpsC (l : List Cp) : List Value := l.flatMap cpC
def strC (l : List ByteArray) : List Value := l.flatMap fun x => [.string x]
def vc (S : Smt) : Nat → List Value
  | 0 => colC S.defs
  | 1 => rowC S.lits
  | 2 => strC S.list
  | 3 => cpsC S.sets
  | _ => cpsC S.wh
def sz : Nat → Nat
  | 0 => 2
  | 1 => 3
  | 2 => 1
  | _ => 5
def cel : Nat → Nat
  | 0 => 2
  | 1 => 4
  | 2 => 6
  | 3 => 7
  | _ => 8
def smC (S : Smt) (y : Nat → Sl) : List Value :=
  [.int .i64 (S.kind : Nat), .string S.table, slV (y 0), .int .i64 (S.pk : Nat), slV (y 1), .bool S.star, slV (y 2), slV (y 3), slV (y 4), .string S.order, .bool S.desc, .bool S.hasLim, .int .i64 S.lim]
/-- Reader and statement in memory: all from B on. -/
structure PX (w : World) (B p st : Nat) (s : ByteArray) (L : List Tk) (S : Smt) (y : Nat → Sl) : Prop where
  sm : s.size ≤ 256
  pb : PB w p s L
  blk : Blk w st (smC S y)
  os : ∀ i, i < 5 → OS w (y i) (vc S i) (sz i)
  dj : ∀ i j, i < 5 → j < 5 → i ≠ j → ∀ b, owns (y i) b → owns (y j) b → False
  no : ∀ i, i < 5 → ∀ b, owns (y i) b → b ≠ p ∧ b ≠ st ∧ B ≤ b
  ne : p ≠ st
  bp : B ≤ p
  bs : B ≤ st
theorem PX.to (h : PX w B p st s L S y) (b : PB w' p s L') (f : Fr p 1 w w') : PX w' B p st s L' S y :=
  ⟨h.sm, b, h.blk.fr f (by have := h.ne; omega), fun i hi => (h.os i hi).frp (FrP.of (P := fun b => b = p) f fun b h1 h2 => by omega) fun b hb e => (h.no i hi b hb).1 e, h.dj, h.no, h.ne, h.bp, h.bs⟩
theorem PX.fr0 (h : PX w B p st s L S y) (f : Fr 0 0 w w') : PX w' B p st s L S y := h.to (h.pb.fr f (by omega)) (f.any _ _)
theorem PX.dr (h : PX w B p st s L S y) : PX w.drew B p st s L S y := h.fr0 ((Fr.refl 0 0 w).drew)
theorem PX.set (h : PX w B p st s L S y) (b : Blk w' st (smC S' y)) (f : Fr st 1 w w') (hv : ∀ i, vc S' i = vc S i) : PX w' B p st s L S' y :=
  ⟨h.sm, h.pb.fr f (by have := h.ne; omega), b, fun i hi => by rw [hv]; exact (h.os i hi).frp (FrP.of (P := fun b => b = st) f fun b h1 h2 => by omega) fun b hb e => (h.no i hi b hb).2.1 e, h.dj, h.no, h.ne, h.bp, h.bs⟩
/-- A block apart from reader and statement. -/
def Apart (y : Nat → Sl) (p st q : Nat) : Prop := q ≠ p ∧ q ≠ st ∧ ∀ i, i < 5 → ¬ owns (y i) q
theorem PX.apart (h : PX w B p st s L S y) (hq : w.heap.size ≤ b) : Apart y p st b :=
  ⟨fun e => by have := h.pb.lt; omega, fun e => by have := h.blk.lt; omega, fun i hi ho => by have := (h.os i hi).lt ho; omega⟩
theorem PX.app {ty : TypeId} {z new : List Value} {bytes q : Nat} {K : World → Prop} (h : PX w B p st s L S y) (hi : i < 5) (hx : Blk w q new) (hl : new.length = sz i) (hok : new.all okV = true) (hz : z.length = sz i) (hsm : ((y i).l + 1) * bytes ≤ 2 ^ 46)
    (hS : vc S' i = vc S i ++ new ∧ ∀ j, j < 5 → j ≠ i → vc S' j = vc S j) (hc : ∀ s', (smC S y).set (cel i) (slV s') = smC S' (fset y i s'))
    (hK : ∀ w' s', PX w' B p st s L S' (fset y i s') → s'.l = (y i).l + 1 → FrP (fun b => b = st ∨ owns (y i) b) w w' → K w') :
    AppS ty z bytes (sz i) w (y i) ⟨some ⟨q, 0, none⟩, 1, 1⟩ fun l w => St1 w ⟨st, cel i, none⟩ (.slice l.a l.l l.c) fun w => K w := by
  refine app1 (h.os i hi) hx hl hok hz hsm fun s' w1 o l1 gr F => ?_
  have b1 := h.blk.frp F fun hb => (h.no i hi _ hb).2.1 rfl
  have hcl : cel i < (smC S y).length := by
    show _ < 13
    match i with
    | 0 => decide
    | 1 => decide
    | 2 => decide
    | 3 => decide
    | n + 4 => exact (by show 8 < 13; omega)
  have pl := h.pb.lt
  have sl := h.blk.lt
  have F1 := F.1.1
  refine st1 b1 hcl fun w2 b2 f2 z2 => ?_
  have b2 : Blk w2 st ((smC S y).set (cel i) (slV s')) := b2
  rw [hc s'] at b2
  have F2 : FrP (fun b => b = st ∨ owns (y i) b) w w2 := (F.mono fun b hb => .inr hb).trans (FrP.of f2 fun b h1 h2 => .inl (by omega))
  refine hK w2 s' ⟨h.sm, h.pb.frp F2 fun hb => hb.elim h.ne fun hb => (h.no i hi _ hb).1 rfl, b2, fun j hj => ?_, fun j k hj hk hne b hb hb' => ?_, fun j hj b hb => ?_, h.ne, h.bp, h.bs⟩ l1 F2
  · by_cases e : j = i
    · subst e
      rw [fset_eq, hS.1]
      exact o.frp (FrP.of (P := fun b => b = st) f2 fun b h1 h2 => by omega) fun b hb e => (gr b hb).elim (fun hb => (h.no j hi _ hb).2.1 e) fun hb => by omega
    · rw [fset_ne e, hS.2 j hj e]
      exact (h.os j hj).frp F2 fun b hb hb' => hb'.elim (fun e => (h.no j hj b hb).2.1 e) fun hb' => h.dj j i hj hi e b hb hb'
  · by_cases e : j = i
    · subst e
      rw [fset_eq] at hb
      rw [fset_ne (fun e => hne e.symm)] at hb'
      rcases gr b hb with hb | hb
      · exact h.dj j k hj hk hne b hb hb'
      · have := (h.os k hk).lt hb'; omega
    · rw [fset_ne e] at hb
      by_cases e2 : k = i
      · subst e2
        rw [fset_eq] at hb'
        rcases gr b hb' with hb' | hb'
        · exact h.dj j k hj hk hne b hb hb'
        · have := (h.os j hj).lt hb; omega
      · rw [fset_ne e2] at hb'
        exact h.dj j k hj hk hne b hb hb'
  · by_cases e : j = i
    · subst e
      rw [fset_eq] at hb
      rcases gr b hb with hb | hb
      · exact h.no j hj b hb
      · have := h.bs
        exact ⟨by omega, by omega, by omega⟩
    · rw [fset_ne e] at hb
      exact h.no j hj b hb
/-- All that changed lies from B on. -/
theorem PX.base (h : PX w B p st s L S y) (hi : i < 5) (F : FrP (fun b => b = st ∨ owns (y i) b) w w') : FrP (fun b => B ≤ b) w w' :=
  F.mono fun b hb => hb.elim (fun e => e ▸ h.bs) fun hb => (h.no i hi b hb).2.2
theorem PX.b1 (h : PX w B p st s L S y) (f : Fr p 1 w w') : FrP (fun b => B ≤ b) w w' := FrP.of f fun b h1 h2 => by have := h.bp; omega
theorem PX.b2 (h : PX w B p st s L S y) (f : Fr st 1 w w') : FrP (fun b => B ≤ b) w w' := FrP.of f fun b h1 h2 => by have := h.bs; omega
theorem PB.len (h : PB w p s L) (hs : s.size ≤ 256) : 0 < L.length ∧ L.length ≤ FU := by
  obtain ⟨t, e, c, h1, rfl⟩ := h
  rw [List.length_cons]
  refine ⟨by omega, ?_⟩
  show _ ≤ 300
  split
  · have : (TS s e).length ≤ s.size + 1 + 1 := tks_len _ _
    omega
  · rw [List.length_nil]; omega

/- The lists' lengths. -/
theorem len_tail : L.tail.length = L.length - 1 := List.length_tail
theorem len_nm : (nmL L).length ≤ max L.length 1 := by unfold nmL; split; rw [len_tail]; omega; show 1 ≤ _; omega
theorem len_lt : (ltL L).length ≤ max L.length 1 := by unfold ltL; split; rw [len_tail]; omega; show 1 ≤ _; omega
theorem len_op : (opL L).length ≤ max L.length 1 := by unfold opL; split; show 1 ≤ _; omega; rw [len_tail]; omega
theorem len_wnt : (wnt x L).length ≤ max L.length 1 := by unfold wnt; split; rw [len_tail]; omega; show 1 ≤ _; omega
theorem len_aft : (aft x L).length ≤ max L.length 1 := by unfold aft; split; rw [len_tail]; omega; omega
theorem len_cmp : (cmpL L).length ≤ max L.length 1 := by
  unfold cmpL
  have h1 := len_nm (L := L)
  have h2 := len_op (L := nmL L)
  have h3 := len_lt (L := opL (nmL L))
  omega
theorem len_stt : (sttL L).length ≤ max L.length 1 := by
  unfold sttL
  have h1 := len_nm (L := L)
  have h2 := len_wnt (x := ⟨#[61]⟩) (L := nmL L)
  have h3 := len_lt (L := wnt ⟨#[61]⟩ (nmL L))
  omega
theorem len_col : (colL L).length ≤ max L.length 1 := by
  unfold colL
  have h1 := len_nm (L := L)
  have h2 := len_wnt (x := ⟨#[73, 78, 84]⟩) (L := nmL L)
  have h4 := len_tail (L := nmL L)
  split
  · have h3 := len_aft (x := ⟨#[75, 69, 89]⟩) (L := (nmL L).tail)
    omega
  · have h3 := len_aft (x := ⟨#[75, 69, 89]⟩) (L := wnt ⟨#[73, 78, 84]⟩ (nmL L))
    omega
/-- Where a list is being read: A is read, and either more is to come (fuel n) or this was all. -/
def RdL {α : Type} (f : List Tk → α) (g : List Tk → List Tk) (x : ByteArray) (R : List α × List Tk) (n : Nat) (more : Bool) (A : List α) (L : List Tk) : Prop :=
  if more = true then L.length ≤ n ∧ A.length + n ≤ FU ∧ A ++ (lstP f g x n L).1 = R.1 ∧ (lstP f g x n L).2 = R.2 else A = R.1 ∧ L = R.2
theorem RdL.start {α : Type} {f : List Tk → α} {g : List Tk → List Tk} (h : L.length ≤ FU) : RdL f g x (lstP f g x FU L) FU true [] L := ⟨h, by simp, rfl, rfl⟩
theorem RdL.out {α : Type} {f : List Tk → α} {g : List Tk → List Tk} {R : List α × List Tk} {A : List α} (h : RdL f g x R n false A L) : A = R.1 ∧ L = R.2 := h
theorem RdL.next {α : Type} {f : List Tk → α} {g : List Tk → List Tk} {R : List α × List Tk} {A : List α} (h : RdL f g x R n true A L) (h0 : 0 < L.length) (hg : (g L).length ≤ max L.length 1) :
    0 < n ∧ A.length < FU ∧ RdL f g x R (n - 1) (isP x (g L)) (A ++ [f L]) (aft x (g L)) := by
  obtain ⟨h1, h2, h3, h4⟩ := h
  cases n with
  | zero => omega
  | succ n =>
    refine ⟨by omega, by omega, ?_⟩
    rw [lstP] at h3 h4
    cases hp : isP x (g L) with
    | true =>
      rw [hp, if_pos rfl] at h3 h4
      unfold aft
      rw [hp, if_pos rfl]
      refine ⟨by rw [len_tail]; omega, by rw [List.length_append, List.length_singleton]; omega, ?_, h4⟩
      rw [List.append_assoc]
      exact h3
    | false =>
      rw [hp, if_neg (by simp)] at h3 h4
      unfold aft
      rw [hp, if_neg (by simp)]
      exact ⟨h3, h4⟩
end Go.Proofs.Qxb6500564aGreat
