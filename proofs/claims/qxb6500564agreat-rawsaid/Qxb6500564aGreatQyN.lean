/-
  The model's reader: its state in memory and its small steps.
-/
import Derived.Test.Qxb6500564aGreatQyM
namespace Go.Proofs.Qxb6500564aGreat
open Go.Den Go.Zip
set_option linter.unusedVariables false
set_option linter.unusedSimpArgs false

structure Cw where
  col : ByteArray
  op : ByteArray
  lit : Vl
structure Mst where
  kind : Nat
  table : ByteArray
  cols : List Cl
  pk : Nat
  names : List ByteArray
  vals : List Vl
  star : Bool
  wh : List Cw
  order : ByteArray
  desc : Bool
  hasLim : Bool
  lim : Int
def m0 : Mst := ⟨0, ⟨#[]⟩, [], 0, [], [], false, [], ⟨#[]⟩, false, false, 0⟩
def opS (k : Nat) : ByteArray := if k = 1 then ⟨#[60]⟩ else if k = 2 then ⟨#[61]⟩ else if k = 3 then ⟨#[60, 61]⟩ else if k = 4 then ⟨#[62]⟩ else if k = 5 then ⟨#[33, 61]⟩ else if k = 6 then ⟨#[62, 61]⟩ else ⟨#[]⟩
def cw (c : Cp) : Cw := ⟨c.col, opS c.op, c.lit⟩
def toM (T : Smt) : Mst := ⟨T.kind, T.table, T.defs, T.pk, T.list ++ T.sets.map (·.col), T.lits ++ T.sets.map (·.lit), T.star, T.wh.map cw, T.order, T.desc, T.hasLim, T.lim⟩
def cwC (c : Cw) : List Value := [.string c.col, .string c.op, .bool c.lit.st, .int .i64 c.lit.i, .string c.lit.s]
def cwsC (l : List Cw) : List Value := l.flatMap cwC
theorem cwsC_len (l : List Cw) : (cwsC l).length = l.length * 5 := flat_length (f := cwC) (c := 5) (fun _ => rfl) l
theorem cwsC_snoc (l : List Cw) (c : Cw) : cwsC (l ++ [c]) = cwsC l ++ cwC c := by unfold cwsC; rw [List.flatMap_append, List.flatMap_cons, List.flatMap_nil, List.append_nil]
variable {w w' u v : World} {i j k n a b r st B q : Nat} {s x : ByteArray} {t : Tk} {A L L' : List Tk} {M M' : Mst} {z : Nat → Sl} {bd : Bool}
def vm (A : List Tk) (M : Mst) : Nat → List Value
  | 0 => colC M.cols
  | 1 => strC M.names
  | 2 => rowC M.vals
  | 3 => cwsC M.wh
  | _ => mtsC A
def szm : Nat → Nat
  | 0 => 2
  | 1 => 1
  | 2 => 3
  | 3 => 5
  | _ => 3
def celm : Nat → Nat
  | 0 => 2
  | 1 => 4
  | 2 => 5
  | _ => 7
def mC (M : Mst) (z : Nat → Sl) : List Value :=
  [.int .i64 (M.kind : Nat), .string M.table, slV (z 0), .int .i64 (M.pk : Nat), slV (z 1), slV (z 2), .bool M.star, slV (z 3), .string M.order, .bool M.desc, .bool M.hasLim, .int .i64 M.lim]
def rdC (z : Nat → Sl) (i : Nat) (bd : Bool) : List Value := [slV (z 4), .int .i64 (i : Nat), .bool bd]
/-- The model's reader and statement in memory, all from B on. -/
structure MXs (w : World) (B r st : Nat) (A : List Tk) (i : Nat) (bd : Bool) (M : Mst) (z : Nat → Sl) : Prop where
  rb : Blk w r (rdC z i bd)
  blk : Blk w st (mC M z)
  os : ∀ i, i < 5 → OS w (z i) (vm A M i) (szm i)
  dj : ∀ i j, i < 5 → j < 5 → i ≠ j → ∀ b, owns (z i) b → owns (z j) b → False
  no : ∀ i, i < 5 → ∀ b, owns (z i) b → b ≠ r ∧ b ≠ st ∧ B ≤ b
  ne : r ≠ st
  br : B ≤ r
  bs : B ≤ st
  il : i ≤ A.length
  al : A.length ≤ 256
  ok : ∀ t ∈ A, 1 < t.kind ∧ TkOk t
theorem MXs.rdr {i' : Nat} {bd' : Bool} (h : MXs w B r st A i bd M z) (b : Blk w' r (rdC z i' bd')) (f : Fr r 1 w w') (hi : i' ≤ A.length) : MXs w' B r st A i' bd' M z :=
  ⟨b, h.blk.fr f (by have := h.ne; omega), fun i hi => (h.os i hi).frp (FrP.of (P := fun b => b = r) f fun b h1 h2 => by omega) fun b hb e => (h.no i hi b hb).1 e, h.dj, h.no, h.ne, h.br, h.bs, hi, h.al, h.ok⟩
theorem MXs.fr0 (h : MXs w B r st A i bd M z) (f : Fr 0 0 w w') : MXs w' B r st A i bd M z := h.rdr (h.rb.fr f (by omega)) (f.any _ _) h.il
theorem MXs.dr (h : MXs w B r st A i bd M z) : MXs w.drew B r st A i bd M z := h.fr0 ((Fr.refl 0 0 w).drew)
theorem MXs.set (h : MXs w B r st A i bd M z) (b : Blk w' st (mC M' z)) (f : Fr st 1 w w') (hv : ∀ i, vm A M' i = vm A M i) : MXs w' B r st A i bd M' z :=
  ⟨h.rb.fr f (by have := h.ne; omega), b, fun i hi => by rw [hv]; exact (h.os i hi).frp (FrP.of (P := fun b => b = st) f fun b h1 h2 => by omega) fun b hb e => (h.no i hi b hb).2.1 e, h.dj, h.no, h.ne, h.br, h.bs, h.il, h.al, h.ok⟩
theorem MXs.apart (h : MXs w B r st A i bd M z) (hq : w.heap.size ≤ b) : Apart z r st b :=
  ⟨fun e => by have := h.rb.lt; omega, fun e => by have := h.blk.lt; omega, fun i hi ho => by have := (h.os i hi).lt ho; omega⟩
theorem MXs.ap (h : MXs w B r st A i bd M z) (hq : Apart z r st q) (f : Fr q 1 w w') : MXs w' B r st A i bd M z :=
  ⟨h.rb.fr f (by have := hq.1; omega), h.blk.fr f (by have := hq.2.1; omega), fun i hi => (h.os i hi).frp (FrP.of (P := fun b => b = q) f fun b h1 h2 => by omega) fun b hb e => hq.2.2 i hi (e ▸ hb), h.dj, h.no, h.ne, h.br, h.bs, h.il, h.al, h.ok⟩
theorem MXs.app {ty : TypeId} {zz new : List Value} {bytes : Nat} {K : World → Prop} (h : MXs w B r st A n bd M z) (hi : i < 4) (hx : Blk w q new) (hl : new.length = szm i) (hok : new.all okV = true) (hz : zz.length = szm i) (hsm : ((z i).l + 1) * bytes ≤ 2 ^ 46)
    (hS : vm A M' i = vm A M i ++ new ∧ ∀ j, j < 5 → j ≠ i → vm A M' j = vm A M j) (hc : ∀ s', (mC M z).set (celm i) (slV s') = mC M' (fset z i s'))
    (hK : ∀ w' s', MXs w' B r st A n bd M' (fset z i s') → FrP (fun b => b = st ∨ owns (z i) b) w w' → K w') :
    AppS ty zz bytes (szm i) w (z i) ⟨some ⟨q, 0, none⟩, 1, 1⟩ fun l w => St1 w ⟨st, celm i, none⟩ (.slice l.a l.l l.c) fun w => K w := by
  have hi5 : i < 5 := by omega
  refine app1 (h.os i hi5) hx hl hok hz hsm fun s' w1 o l1 gr F => ?_
  have b1 := h.blk.frp F fun hb => (h.no i hi5 _ hb).2.1 rfl
  have hcl : celm i < (mC M z).length := by
    show _ < 12
    match i with
    | 0 => decide
    | 1 => decide
    | 2 => decide
    | n + 3 => exact (by show 7 < 12; omega)
  have pl := h.rb.lt
  have sl := h.blk.lt
  have F1 := F.1.1
  refine st1 b1 hcl fun w2 b2 f2 z2 => ?_
  have b2 : Blk w2 st ((mC M z).set (celm i) (slV s')) := b2
  rw [hc s'] at b2
  have F2 : FrP (fun b => b = st ∨ owns (z i) b) w w2 := (F.mono fun b hb => .inr hb).trans (FrP.of f2 fun b h1 h2 => .inl (by omega))
  have e4 : fset z i s' 4 = z 4 := fset_ne (by omega)
  refine hK w2 s' ⟨?_, b2, fun j hj => ?_, fun j k hj hk hne b hb hb' => ?_, fun j hj b hb => ?_, h.ne, h.br, h.bs, h.il, h.al, h.ok⟩ F2
  · unfold rdC
    rw [e4]
    exact h.rb.frp F2 fun hb => hb.elim h.ne fun hb => (h.no i hi5 _ hb).1 rfl
  · by_cases e : j = i
    · subst e
      rw [fset_eq, hS.1]
      exact o.frp (FrP.of (P := fun b => b = st) f2 fun b h1 h2 => by omega) fun b hb e => (gr b hb).elim (fun hb => (h.no j hi5 _ hb).2.1 e) fun hb => by omega
    · rw [fset_ne e, hS.2 j hj e]
      exact (h.os j hj).frp F2 fun b hb hb' => hb'.elim (fun e => (h.no j hj b hb).2.1 e) fun hb' => h.dj j i hj hi5 e b hb hb'
  · by_cases e : j = i
    · subst e
      rw [fset_eq] at hb
      rw [fset_ne (fun e => hne e.symm)] at hb'
      rcases gr b hb with hb | hb
      · exact h.dj j k hj hk hne b hb hb'
      · have := (h.os k hk).lt hb'; omega
    · rw [fset_ne e] at hb
      by_cases e2 : k = i
      · subst e2
        rw [fset_eq] at hb'
        rcases gr b hb' with hb' | hb'
        · exact h.dj j k hj hk hne b hb hb'
        · have := (h.os j hj).lt hb; omega
      · rw [fset_ne e2] at hb'
        exact h.dj j k hj hk hne b hb hb'
  · by_cases e : j = i
    · subst e
      rw [fset_eq] at hb
      rcases gr b hb with hb | hb
      · exact h.no j hj b hb
      · have := h.bs
        exact ⟨by omega, by omega, by omega⟩
    · rw [fset_ne e] at hb
      exact h.no j hj b hb
theorem MXs.base (h : MXs w B r st A n bd M z) (hi : i < 5) (F : FrP (fun b => b = st ∨ owns (z i) b) w w') : FrP (fun b => B ≤ b) w w' :=
  F.mono fun b hb => hb.elim (fun e => e ▸ h.bs) fun hb => (h.no i hi b hb).2.2
theorem MXs.b1 (h : MXs w B r st A i bd M z) (f : Fr r 1 w w') : FrP (fun b => B ≤ b) w w' := FrP.of f fun b h1 h2 => by have := h.br; omega
theorem MXs.b2 (h : MXs w B r st A i bd M z) (f : Fr st 1 w w') : FrP (fun b => B ≤ b) w w' := FrP.of f fun b h1 h2 => by have := h.bs; omega
theorem mts_get {k : Nat} (hk : k < 3) (h : A[i]? = some t) : (mtsC A)[i * 3 + k]? = (mtC t)[k]? := by
  unfold mtsC
  rw [flat_get (f := mtC) (c := 3) (fun _ => rfl) A i k hk, h]
  rfl
/-- The token at hand. -/
theorem MXs.tl (h : MXs w B r st A i bd M z) : (z 4).l = A.length := by
  have : (mtsC A).length = (z 4).l * 3 := (h.os 4 (by omega)).len
  rw [mtsC_len] at this
  omega
theorem MXs.kd {K : Int → Prop} (h : MXs w B r st A n bd M z) (hi : A[i]? = some t) (hK : K (mkk t.kind : Nat)) : Ix (z 4).a (z 4).l (i : Int) fun b o => LdI .i64 w ⟨b, o + Int.toNat (i : Int) * 3, none⟩ K := by
  have hil := (List.getElem?_eq_some_iff.1 hi).1
  refine OS.get (h.os 4 (by omega)) (by rw [h.tl]; exact hil) fun g us hb he ho => ?_
  have e : us[i * 3 + 0]? = (mtC t)[0]? := by
    rw [he _ (by rw [show vm A M 4 = mtsC A from rfl, mtsC_len]; omega)]
    exact mts_get (by omega) hi
  exact ldI hb (by rw [Int.toNat_natCast, Nat.zero_add]; exact e) hK
theorem MXs.tx {K : ByteArray → Prop} (h : MXs w B r st A n bd M z) (hi : A[i]? = some t) (hK : K t.text) : Ix (z 4).a (z 4).l (i : Int) fun b o => LdStr w ⟨b, o + Int.toNat (i : Int) * 3 + 1, none⟩ K := by
  have hil := (List.getElem?_eq_some_iff.1 hi).1
  refine OS.get (h.os 4 (by omega)) (by rw [h.tl]; exact hil) fun g us hb he ho => ?_
  have e : us[i * 3 + 1]? = (mtC t)[1]? := by
    rw [he _ (by rw [show vm A M 4 = mtsC A from rfl, mtsC_len]; omega)]
    exact mts_get (by omega) hi
  exact ldStr hb (by rw [Int.toNat_natCast, Nat.zero_add]; exact e) hK
theorem MXs.vl {K : Int → Prop} (h : MXs w B r st A n bd M z) (hi : A[i]? = some t) (hK : K t.val) : Ix (z 4).a (z 4).l (i : Int) fun b o => LdI .i64 w ⟨b, o + Int.toNat (i : Int) * 3 + 2, none⟩ K := by
  have hil := (List.getElem?_eq_some_iff.1 hi).1
  refine OS.get (h.os 4 (by omega)) (by rw [h.tl]; exact hil) fun g us hb he ho => ?_
  have e : us[i * 3 + 2]? = (mtC t)[2]? := by
    rw [he _ (by rw [show vm A M 4 = mtsC A from rfl, mtsC_len]; omega)]
    exact mts_get (by omega) hi
  exact ldI hb (by rw [Int.toNat_natCast, Nat.zero_add]; exact e) hK
end Go.Proofs.Qxb6500564aGreat
