/-
  The checker, plain.
-/
import Derived.Test.Qxb6500562aGreatParX
namespace Go.Proofs.Qxb6500562aGreat
open Go.Den Go.Zip
set_option linter.unusedVariables false
set_option linter.unusedSimpArgs false

structure Fn where
  node : Int
  ret : Int
  pi : Int
  pr : Int
  li : Int
  lr : Int
  name : ByteArray
def fnV (f : Fn) : List Value := [.int .i64 f.node, .int .i64 f.ret, .int .i64 f.pi, .int .i64 f.pr, .int .i64 f.li, .int .i64 f.lr, .string f.name]
structure Vr where
  name : ByteArray
  ty : Int
  slot : Int
  level : Int
def vrV (v : Vr) : List Value := [.string v.name, .int .i64 v.ty, .int .i64 v.slot, .int .i64 v.level]
def fn0 : Fn := ⟨0, 0, 0, 0, 0, 0, ⟨#[]⟩⟩
def vr0 : Vr := ⟨⟨#[]⟩, 0, 0, 0⟩
structure CS where
  ty : List Int
  ref : List Int
  fs : List Fn
  vs : List Vr
  cur : Nat
  lev : Nat
abbrev CR (α : Type) := Except (Int × Int) (α × CS)
def cb {α β : Type} (r : CR α) (k : α → CS → CR β) : CR β := match r with | .error q => .error q | .ok (x, s) => k x s
@[simp] theorem cb_ok {α β : Type} (x : α) (s : CS) (k : α → CS → CR β) : cb (.ok (x, s)) k = k x s := rfl
@[simp] theorem cb_error {α β : Type} (q : Int × Int) (k : α → CS → CR β) : cb (.error q) k = .error q := rfl
theorem cb_inv {α β : Type} {r : CR α} {k : α → CS → CR β} {y : β × CS} (h : cb r k = .ok y) : ∃ x s, r = .ok (x, s) ∧ k x s = .ok y := by
  rcases r with q | ⟨x, s⟩
  · cases h
  · exact ⟨x, s, rfl, h⟩
theorem cb_assoc {α β γ : Type} (r : CR α) (k : α → CS → CR β) (j : β → CS → CR γ) : cb (cb r k) j = cb r fun x s => cb (k x s) j := by
  rcases r with q | ⟨x, s⟩ <;> rfl
theorem cb_congr {α β : Type} {o : CR α} {f g : α → CS → CR β} (h : ∀ x s, o = .ok (x, s) → f x s = g x s) : cb o f = cb o g := by
  rcases o with q | ⟨x, s⟩
  · rfl
  · exact h x s rfl

/-! ### Chains as lists -/
def chainL (ns : List Nd) : Nat → Int → List Int
  | 0, _ => []
  | f + 1, a => if a < 0 then [] else a :: chainL ns f (ndAt ns a).next
def kids (ns : List Nd) (a : Int) : List Int := chainL ns (ns.length + 1) a
theorem chainL_of {ns : List Nd} : ∀ {l : List Int} {a : Int} {f : Nat}, Ch ns a l → l.length < f → chainL ns f a = l
  | [], a, f + 1, h, _ => by
    have : a = -1 := h
    unfold chainL; rw [if_pos (by omega)]
  | y :: l, a, f + 1, h, hf => by
    have h1 : a = y := h.1
    have h2 := h.2.1
    unfold chainL
    rw [if_neg (by omega), h1, chainL_of h.2.2 (by simpa using hf)]
/-- Increasing numbers below n. -/
theorem inc_len : ∀ {l : List Int} {lo hi : Int}, l.Pairwise (· < ·) → (∀ y ∈ l, lo ≤ y ∧ y < hi) → lo ≤ hi → (l.length : Int) ≤ hi - lo
  | [], lo, hi, _, _, h => by simp; omega
  | y :: l, lo, hi, hp, hm, h => by
    have h1 := List.pairwise_cons.1 hp
    have h2 := hm y (.head _)
    have := inc_len (lo := y + 1) (hi := hi) h1.2 (fun z hz => ⟨by have := h1.1 z hz; omega, (hm z (.tail _ hz)).2⟩) (by omega)
    simp only [List.length_cons]
    omega
theorem Segs.inc {ns : List Nd} : ∀ {l : List Int}, Segs ns l → l.Pairwise (· < ·)
  | [], _ => .nil
  | [y], _ => by simp
  | y :: x :: l, h => by
    have h1 := Segs.inc (l := x :: l) h.2
    refine List.pairwise_cons.2 ⟨fun z hz => ?_, h1⟩
    have h2 := h.1.1
    rcases List.mem_cons.1 hz with rfl | hz
    · exact h2
    · have := (List.pairwise_cons.1 h1).1 z hz
      omega
theorem kids_of {ns : List Nd} {a : Int} {l : List Int} (h : Ch ns a l) (hs : Segs ns l) (hm : ∀ y ∈ l, 0 ≤ y ∧ y < ns.length) : kids ns a = l :=
  chainL_of h (by have := inc_len hs.inc hm (by omega); omega)
/-! ### Names -/
def lastN (l : List ByteArray) (nm : ByteArray) : Nat → Int
  | 0 => -1
  | n + 1 => if bt (l.getD n ⟨#[]⟩) = bt nm then (n : Int) else lastN l nm n
def nameIx (l : List ByteArray) (nm : ByteArray) : Int := lastN l nm l.length
theorem lastN_spec (l : List ByteArray) (nm : ByteArray) : ∀ n, (lastN l nm n = -1 ∧ ∀ j, j < n → bt (l.getD j ⟨#[]⟩) ≠ bt nm) ∨ ∃ k : Nat, lastN l nm n = k ∧ k < n ∧ bt (l.getD k ⟨#[]⟩) = bt nm ∧ ∀ j, k < j → j < n → bt (l.getD j ⟨#[]⟩) ≠ bt nm
  | 0 => .inl ⟨rfl, fun j hj => by omega⟩
  | n + 1 => by
    unfold lastN
    split
    · rename_i h
      exact .inr ⟨n, rfl, by omega, h, fun j j1 j2 => by omega⟩
    · rename_i h
      rcases lastN_spec l nm n with ⟨h1, h2⟩ | ⟨k, h1, h2, h3, h4⟩
      · refine .inl ⟨h1, fun j hj => ?_⟩
        by_cases e : j = n
        · subst e; exact h
        · exact h2 j (by omega)
      · refine .inr ⟨k, h1, by omega, h3, fun j j1 j2 => ?_⟩
        by_cases e : j = n
        · subst e; exact h
        · exact h4 j j1 (by omega)
theorem lastN_eq {l : List ByteArray} {nm : ByteArray} {n k : Nat} (h1 : k < n) (h2 : bt (l.getD k ⟨#[]⟩) = bt nm) (h3 : ∀ j, k < j → j < n → bt (l.getD j ⟨#[]⟩) ≠ bt nm) : lastN l nm n = k := by
  rcases lastN_spec l nm n with ⟨a1, a2⟩ | ⟨q, a1, a2, a3, a4⟩
  · exact absurd h2 (a2 k h1)
  · rw [a1]
    rcases Nat.lt_trichotomy q k with h | h | h
    · exact absurd h2 (a4 k h h1)
    · rw [h]
    · exact absurd a3 (h3 q h a2)
theorem lastN_none {l : List ByteArray} {nm : ByteArray} {n : Nat} (h : ∀ j, j < n → bt (l.getD j ⟨#[]⟩) ≠ bt nm) : lastN l nm n = -1 := by
  rcases lastN_spec l nm n with ⟨a1, _⟩ | ⟨q, a1, a2, a3, _⟩
  · exact a1
  · exact absurd a3 (h q a2)
/-! ### Scopes -/
def fnames (st : CS) : List ByteArray := st.fs.map Fn.name
def vnames (st : CS) : List ByteArray := st.vs.map Vr.name
def cntI (vs : List Vr) : Nat := vs.countP fun v => decide (v.ty < 2)
def cntR (vs : List Vr) : Nat := vs.countP fun v => decide (2 ≤ v.ty)
def fnAt (fs : List Fn) (i : Int) : Fn := fs.getD i.toNat fn0
def vrAt (vs : List Vr) (i : Int) : Vr := vs.getD i.toNat vr0
section
variable (ns : List Nd)
def psx (x : Int) : Int := (ndAt ns x).pos
/-- May node x declare its name? -/
def mayD (x : Int) (st : CS) : CR Unit :=
  if st.vs.any (fun v => decide (v.level = st.lev ∧ bt v.name = bt (ndAt ns x).name)) then .error (14, psx ns x)
  else if (2 ≤ (ndAt ns x).val ∧ 12 ≤ cntR st.vs) ∨ ((ndAt ns x).val < 2 ∧ 12 ≤ cntI st.vs) then .error (19, psx ns x)
  else .ok ((), st)
def slotOf (x : Int) (st : CS) : Nat := if 2 ≤ (ndAt ns x).val then cntR st.vs else cntI st.vs
def bump (ty : Int) (n : Nat) (f : Fn) : Fn := if 2 ≤ ty then { f with lr := if f.lr < n then n else f.lr } else { f with li := if f.li < n then n else f.li }
/-- Node x's name comes in sight. -/
def decl (x : Int) (st : CS) : CS :=
  { st with ref := st.ref.set x.toNat (slotOf ns x st), fs := st.fs.modify st.cur (bump (ndAt ns x).val (slotOf ns x st + 1)), vs := st.vs ++ [⟨(ndAt ns x).name, (ndAt ns x).val, slotOf ns x st, st.lev⟩] }
def setTy (x t : Int) (st : CS) : CR Int := .ok (t, { st with ty := st.ty.set x.toNat t })
def setRef (x r : Int) (st : CS) : CS := { st with ref := st.ref.set x.toNat r }
/-- What an expression checker e gives of x must be ty. -/
def isTy (e : Int → CS → CR Int) (x ty : Int) (st : CS) : CR Unit := cb (e x st) fun t st => if t = ty then .ok ((), st) else .error (17, psx ns x)
/-- The arguments' types. -/
def ckArgs (e : Int → CS → CR Int) : List Int → CS → CR (List Int)
  | [], st => .ok ([], st)
  | a :: l, st => cb (e a st) fun t st => cb (ckArgs e l st) fun ts st => .ok (t :: ts, st)
/-- The first argument whose type is not its parameter's. -/
def oddArg : List Int → List Int → List Int → Option Int
  | a :: l, t :: ts, q :: qs => if t = q then oddArg l ts qs else some a
  | _, _, _ => none
def ptys (f : Fn) : List Int := (kids ns (ndAt ns f.node).a).map fun q => (ndAt ns q).val
def ckE : Nat → Int → CS → CR Int
  | 0, _, _ => .error (0, 0)
  | n + 1, x, st =>
    if (ndAt ns x).kind = 11 then setTy x 1 st
    else if (ndAt ns x).kind = 12 then
      (if nameIx (vnames st) (ndAt ns x).name < 0 then .error (15, psx ns x)
       else setTy x (vrAt st.vs (nameIx (vnames st) (ndAt ns x).name)).ty (setRef x (vrAt st.vs (nameIx (vnames st) (ndAt ns x).name)).slot st))
    else if (ndAt ns x).kind = 13 then
      (if nameIx (fnames st) (ndAt ns x).name < 0 then .error (16, psx ns x)
       else cb (ckArgs (ckE n) (kids ns (ndAt ns x).a) st) fun ts st' =>
        if (ts.length : Int) ≠ (fnAt st.fs (nameIx (fnames st) (ndAt ns x).name)).pi + (fnAt st.fs (nameIx (fnames st) (ndAt ns x).name)).pr then .error (18, psx ns x)
        else match oddArg (kids ns (ndAt ns x).a) ts (ptys ns (fnAt st.fs (nameIx (fnames st) (ndAt ns x).name))) with
          | some a => .error (17, psx ns a)
          | none => setTy x (fnAt st.fs (nameIx (fnames st) (ndAt ns x).name)).ret (setRef x (nameIx (fnames st) (ndAt ns x).name) st'))
    else if (ndAt ns x).kind = 14 then
      cb (ckE n (ndAt ns x).a st) fun t st => if t < 2 then .error (17, psx ns x) else cb (isTy ns (ckE n) (ndAt ns x).b 0 st) fun _ st => setTy x (t - 2) st
    else if (ndAt ns x).kind = 15 then
      (if (ndAt ns x).val < 2 then .error (17, psx ns x) else cb (isTy ns (ckE n) (ndAt ns x).a 0 st) fun _ st => setTy x (ndAt ns x).val st)
    else if (ndAt ns x).kind = 16 then
      cb (ckE n (ndAt ns x).a st) fun t st => if t < 2 then .error (17, psx ns (ndAt ns x).a) else setTy x 0 st
    else if (ndAt ns x).kind = 19 then
      cb (isTy ns (ckE n) (ndAt ns x).a (if (ndAt ns x).val = 39 then 1 else 0) st) fun _ st => setTy x (if (ndAt ns x).val = 39 then 1 else 0) st
    else if (ndAt ns x).kind = 18 then
      (if (ndAt ns x).val = 38 ∨ (ndAt ns x).val = 37 then cb (isTy ns (ckE n) (ndAt ns x).a 1 st) fun _ st => cb (isTy ns (ckE n) (ndAt ns x).b 1 st) fun _ st => setTy x 1 st
       else if (ndAt ns x).val = 26 ∨ (ndAt ns x).val = 27 then
        cb (ckE n (ndAt ns x).a st) fun t st => if 2 ≤ t then .error (17, psx ns (ndAt ns x).a) else cb (isTy ns (ckE n) (ndAt ns x).b t st) fun _ st => setTy x 1 st
       else cb (isTy ns (ckE n) (ndAt ns x).a 0 st) fun _ st => cb (isTy ns (ckE n) (ndAt ns x).b 0 st) fun _ st =>
        setTy x (if 28 ≤ (ndAt ns x).val ∧ (ndAt ns x).val ≤ 31 then 1 else 0) st)
    else setTy x 0 st
def ckL (f : Int → CS → CR Unit) : List Int → CS → CR Unit
  | [], st => .ok ((), st)
  | x :: l, st => cb (f x st) fun _ st => ckL f l st
/-- A block's statements by f, one level down. -/
def ckB (f : Int → CS → CR Unit) (b : Int) (st : CS) : CR Unit :=
  cb (ckL f (kids ns (ndAt ns b).a) { st with lev := st.lev + 1 }) fun _ s => .ok ((), { s with vs := s.vs.take st.vs.length, lev := st.lev })
def ckS : Nat → Int → CS → CR Unit
  | 0, _, _ => .error (0, 0)
  | n + 1, x, st =>
    if (ndAt ns x).kind = 3 then cb (mayD ns x st) fun _ st => cb (isTy ns (ckE ns ns.length) (ndAt ns x).a (ndAt ns x).val st) fun _ st => .ok ((), decl ns x st)
    else if (ndAt ns x).kind = 4 then cb (ckE ns ns.length (ndAt ns x).a st) fun t st => isTy ns (ckE ns ns.length) (ndAt ns x).b t st
    else if (ndAt ns x).kind = 5 then
      cb (isTy ns (ckE ns ns.length) (ndAt ns x).a 1 st) fun _ st => cb (ckB ns (ckS n) (ndAt ns x).b st) fun _ st => if (ndAt ns x).c < 0 then .ok ((), st) else ckB ns (ckS n) (ndAt ns x).c st
    else if (ndAt ns x).kind = 6 then cb (isTy ns (ckE ns ns.length) (ndAt ns x).a 1 st) fun _ st => ckB ns (ckS n) (ndAt ns x).b st
    else if (ndAt ns x).kind = 7 then isTy ns (ckE ns ns.length) (ndAt ns x).a (fnAt st.fs st.cur).ret st
    else if (ndAt ns x).kind = 8 then isTy ns (ckE ns ns.length) (ndAt ns x).a 0 st
    else if (ndAt ns x).kind = 9 then cb (ckE ns ns.length (ndAt ns x).a st) fun _ st => .ok ((), st)
    else .ok ((), st)
/-- A function's parameters counted. -/
def cntP : List Int → Nat → Nat → Except (Int × Int) (Nat × Nat)
  | [], a, b => .ok (a, b)
  | q :: l, a, b => if 4 ≤ a + b then .error (19, psx ns q) else if 2 ≤ (ndAt ns q).val then cntP l a (b + 1) else cntP l (a + 1) b
def ckHead (x : Int) (st : CS) : CR Unit :=
  if 8 ≤ st.fs.length then .error (19, psx ns x)
  else if 0 ≤ nameIx (fnames st) (ndAt ns x).name then .error (13, psx ns x)
  else match cntP ns (kids ns (ndAt ns x).a) 0 0 with
    | .error q => .error q
    | .ok (a, b) => .ok ((), { st with fs := st.fs ++ [⟨x, (ndAt ns x).val, a, b, 0, 0, (ndAt ns x).name⟩] })
def ckPar (q : Int) (st : CS) : CR Unit := cb (mayD ns q st) fun _ st => .ok ((), decl ns q st)
def ckBody (i : Nat) (st : CS) : CR Unit :=
  cb (ckL (ckPar ns) (kids ns (ndAt ns (fnAt st.fs i).node).a) { st with cur := i, vs := [], lev := 0 }) fun _ s => ckB ns (ckS ns ns.length) (ndAt ns (fnAt st.fs i).node).b s
/-- The bodies from i on, n of them. -/
def ckBodies : Nat → Nat → CS → CR Unit
  | 0, _, st => .ok ((), st)
  | n + 1, i, st => cb (ckBody ns i st) fun _ st => ckBodies n (i + 1) st
def mainB : ByteArray := ⟨#[109, 97, 105, 110]⟩
def ckMain (len : Int) (st : CS) : CR Int :=
  if nameIx (fnames st) mainB < 0 then .error (20, len)
  else if (fnAt st.fs (nameIx (fnames st) mainB)).pi + (fnAt st.fs (nameIx (fnames st) mainB)).pr ≠ 0 ∨ (fnAt st.fs (nameIx (fnames st) mainB)).ret ≠ 0 then .error (20, psx ns (fnAt st.fs (nameIx (fnames st) mainB)).node)
  else .ok (nameIx (fnames st) mainB, st)
def cs0 : CS := ⟨List.replicate ns.length (-1), List.replicate ns.length (-1), [], [], 0, 0⟩
def ckAll (root len : Int) : CR Int :=
  cb (ckL (ckHead ns) (kids ns root) (cs0 ns)) fun _ st => cb (ckBodies ns st.fs.length 0 st) fun _ st => ckMain ns len st
end
end Go.Proofs.Qxb6500562aGreat
