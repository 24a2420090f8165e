/-
  The manager of transactions: its memory, the cells of its record.
-/
import Derived.Test.Qxb6500564aGreatTxA
import Derived.Test.Qxb6500564aGreatMcU
namespace Go.Proofs.Qxb6500564aGreat
open Go.Den Go.Zip
set_option linter.unusedVariables false
set_option linter.unusedSimpArgs false
variable {dq : Nat}
variable {w w' u v : World} {i j k n t g b : Nat} {D : List Bk} {R : List Wr} {cur cur' : Nat → Bk} {op : Bool} {O Os P : Nat → Prop} {db : Db} {s x : Sl} {nm : ByteArray} {vs : List Vl} {key : Vl}

/-- A change: the last word on a key. -/
structure Ch where
  tab : ByteArray
  key : Vl
  gone : Bool
  row : List Vl
structure Slt where
  used : Bool
  name : ByteArray
  mode : Nat → Nat
structure Rs where
  act : Nat → Bool
  lks : Nat → Slt
  ws : Nat → List Ch
structure CR where
  c : Ch
  rs : Sl
def crC (x : CR) : List Value := [.string x.c.tab, .bool x.c.key.st, .int .i64 x.c.key.i, .string x.c.key.s, .bool x.c.gone, slV x.rs]
theorem crC_len (x : CR) : (crC x).length = 6 := rfl
def crsC (l : List CR) : List Value := l.flatMap crC
theorem crsC_len (l : List CR) : (crsC l).length = l.length * 6 := flat_length (f := crC) (c := 6) crC_len l
theorem crsC_get {l : List CR} {y : CR} {m : Nat} (hm : m < 6) (h : l[i]? = some y) : (crsC l)[i * 6 + m]? = (crC y)[m]? := by
  unfold crsC
  rw [flat_get (f := crC) (c := 6) crC_len l i m hm, h]; rfl
structure WM (w : World) (s : Sl) (l : List CR) : Prop where
  arr : OS w s (crsC l) 6
  row : ∀ y ∈ l, OS w y.rs (rowC y.c.row) 3
  sI : ∀ y ∈ l, ∀ b, owns y.rs b → ¬ owns s b
def wo (s : Sl) (l : List CR) (b : Nat) : Prop := owns s b ∨ ∃ y ∈ l, owns y.rs b
section
variable {l : List CR} {y : CR}
theorem WM.frp (h : WM w s l) (F : FrP P w w') (hn : ∀ b, wo s l b → ¬ P b) : WM w' s l := ⟨h.arr.frp F fun b hb => hn b (.inl hb), fun y hy => (h.row y hy).frp F fun b hb => hn b (.inr ⟨y, hy, hb⟩), h.sI⟩
theorem WM.lt (h : WM w s l) {b : Nat} (hb : wo s l b) : b < w.heap.size := by
  rcases hb with hb | ⟨y, hy, hb⟩
  · exact h.arr.lt hb
  · exact (h.row y hy).lt hb
theorem WM.ln (h : WM w s l) : s.l = l.length := by
  have := h.arr.len
  rw [crsC_len] at this
  omega
theorem WM.nil (w : World) : WM w nilS [] := ⟨.inl ⟨rfl, rfl⟩, fun y hy => (by cases hy), fun y hy => by cases hy⟩
theorem wo_nil (b : Nat) : ¬ wo nilS [] b := by
  rintro (hb | ⟨y, hy, _⟩)
  · unfold owns at hb; cases hb
  · cases hy
theorem cr_cell (h : OS w s (crsC l) 6) (ho : owns s g) (hi : l[i]? = some y) : ∃ us, Blk w g us ∧ ∀ m, m < 6 → us[0 + Int.toNat (i : Int) * 6 + m]? = (crC y)[m]? := by
  rcases h with ⟨rfl, e⟩ | ⟨g', a, e, c, junk, d, e2⟩
  · unfold owns at ho; cases ho
  · have hg : g' = g := by
      unfold owns at ho
      rw [a] at ho
      simpa using ho
    subst hg
    refine ⟨_, d, fun m hm => ?_⟩
    have hil : i < l.length := (List.getElem?_eq_some_iff.1 hi).1
    rw [Int.toNat_natCast, Nat.zero_add, List.getElem?_append_left (by rw [crsC_len]; omega), crsC_get hm hi]
theorem crAt {K : Nat → Nat → Prop} (h : OS w s (crsC l) 6) (hi : l[i]? = some y) (hk : ∀ g, owns s g → K g 0) : Ix s.a s.l (i : Int) K := by
  refine OS.get h ?_ fun g us b hu ho => hk g ho
  have := h.len
  rw [crsC_len] at this
  have hil : i < l.length := (List.getElem?_eq_some_iff.1 hi).1
  omega
/-- A change is read whole. -/
theorem crGet {K : ByteArray → Bool → Int → ByteArray → Bool → Sl → Prop} (h : OS w s (crsC l) 6) (hi : l[i]? = some y) (hk : K y.c.tab y.c.key.st y.c.key.i y.c.key.s y.c.gone y.rs) :
    Ix s.a s.l (i : Int) fun b o => LdStr w ⟨b, o + Int.toNat (i : Int) * 6, none⟩ fun a1 => LdB w ⟨b, o + Int.toNat (i : Int) * 6 + 1, none⟩ fun a2 => LdI .i64 w ⟨b, o + Int.toNat (i : Int) * 6 + 2, none⟩ fun a3 => LdStr w ⟨b, o + Int.toNat (i : Int) * 6 + 3, none⟩ fun a4 => LdB w ⟨b, o + Int.toNat (i : Int) * 6 + 4, none⟩ fun a5 => LdS w ⟨b, o + Int.toNat (i : Int) * 6 + 5, none⟩ fun a6 => K a1 a2 a3 a4 a5 a6 := by
  refine crAt h hi fun g hg => ?_
  obtain ⟨us, b, hc⟩ := cr_cell h hg hi
  exact ldStr b (hc 0 (by omega)) (ldB b (hc 1 (by omega)) (ldI b (hc 2 (by omega)) (ldStr b (hc 3 (by omega)) (ldB b (hc 4 (by omega)) (ldS b (hc 5 (by omega)) hk)))))
end
def sltC (z : Slt) : List Value := [.bool z.used, .string z.name, .int .i64 (z.mode 0 : Nat), .int .i64 (z.mode 1 : Nat), .int .i64 (z.mode 2 : Nat), .int .i64 (z.mode 3 : Nat)]
def mgC (t : Nat) (act : Nat → Bool) (lks : Nat → Slt) (sw : Nat → Sl) : List Value :=
  [ptrV t, .bool (act 0), .bool (act 1), .bool (act 2), .bool (act 3), .bool (lks 0).used, .string (lks 0).name, .int .i64 ((lks 0).mode 0 : Nat), .int .i64 ((lks 0).mode 1 : Nat), .int .i64 ((lks 0).mode 2 : Nat), .int .i64 ((lks 0).mode 3 : Nat),
   .bool (lks 1).used, .string (lks 1).name, .int .i64 ((lks 1).mode 0 : Nat), .int .i64 ((lks 1).mode 1 : Nat), .int .i64 ((lks 1).mode 2 : Nat), .int .i64 ((lks 1).mode 3 : Nat),
   .bool (lks 2).used, .string (lks 2).name, .int .i64 ((lks 2).mode 0 : Nat), .int .i64 ((lks 2).mode 1 : Nat), .int .i64 ((lks 2).mode 2 : Nat), .int .i64 ((lks 2).mode 3 : Nat), slV (sw 0), slV (sw 1), slV (sw 2), slV (sw 3)]
section
variable {act : Nat → Bool} {lks : Nat → Slt} {sw : Nat → Sl}
theorem mgC_len : (mgC t act lks sw).length = 27 := rfl
theorem mgC_act (hk : k < 4) : (mgC t act lks sw)[1 + k]? = some (.bool (act k)) := by
  match k, hk with
  | 0, _ => rfl
  | 1, _ => rfl
  | 2, _ => rfl
  | 3, _ => rfl
theorem mgC_used (hi : i < 3) : (mgC t act lks sw)[5 + i * 6]? = some (.bool (lks i).used) := by
  match i, hi with
  | 0, _ => rfl
  | 1, _ => rfl
  | 2, _ => rfl
theorem mgC_name (hi : i < 3) : (mgC t act lks sw)[5 + i * 6 + 1]? = some (.string (lks i).name) := by
  match i, hi with
  | 0, _ => rfl
  | 1, _ => rfl
  | 2, _ => rfl
theorem mgC_mode (hi : i < 3) (hk : k < 4) : (mgC t act lks sw)[5 + i * 6 + 2 + k]? = some (.int .i64 ((lks i).mode k : Nat)) := by
  match i, hi, k, hk with
  | 0, _, 0, _ => rfl
  | 0, _, 1, _ => rfl
  | 0, _, 2, _ => rfl
  | 0, _, 3, _ => rfl
  | 1, _, 0, _ => rfl
  | 1, _, 1, _ => rfl
  | 1, _, 2, _ => rfl
  | 1, _, 3, _ => rfl
  | 2, _, 0, _ => rfl
  | 2, _, 1, _ => rfl
  | 2, _, 2, _ => rfl
  | 2, _, 3, _ => rfl
theorem mgC_ws (hk : k < 4) : (mgC t act lks sw)[23 + k]? = some (slV (sw k)) := by
  match k, hk with
  | 0, _ => rfl
  | 1, _ => rfl
  | 2, _ => rfl
  | 3, _ => rfl
theorem mgC_setA {a : Bool} (hk : k < 4) : (mgC t act lks sw).set (1 + k) (.bool a) = mgC t (fset act k a) lks sw := by
  match k, hk with
  | 0, _ => rfl
  | 1, _ => rfl
  | 2, _ => rfl
  | 3, _ => rfl
theorem mgC_setW {a : Sl} (hk : k < 4) : (mgC t act lks sw).set (23 + k) (slV a) = mgC t act lks (fset sw k a) := by
  match k, hk with
  | 0, _ => rfl
  | 1, _ => rfl
  | 2, _ => rfl
  | 3, _ => rfl
theorem mgC_setU {a : Bool} (hi : i < 3) : (mgC t act lks sw).set (5 + i * 6) (.bool a) = mgC t act (fset lks i { lks i with used := a }) sw := by
  match i, hi with
  | 0, _ => rfl
  | 1, _ => rfl
  | 2, _ => rfl
theorem mgC_setN {a : ByteArray} (hi : i < 3) : (mgC t act lks sw).set (5 + i * 6 + 1) (.string a) = mgC t act (fset lks i { lks i with name := a }) sw := by
  match i, hi with
  | 0, _ => rfl
  | 1, _ => rfl
  | 2, _ => rfl
theorem mgC_setM {a : Nat} (hi : i < 3) (hk : k < 4) : (mgC t act lks sw).set (5 + i * 6 + 2 + k) (.int .i64 (a : Nat)) = mgC t act (fset lks i { lks i with mode := fset (lks i).mode k a }) sw := by
  match i, hi, k, hk with
  | 0, _, 0, _ => rfl
  | 0, _, 1, _ => rfl
  | 0, _, 2, _ => rfl
  | 0, _, 3, _ => rfl
  | 1, _, 0, _ => rfl
  | 1, _, 1, _ => rfl
  | 1, _, 2, _ => rfl
  | 1, _, 3, _ => rfl
  | 2, _, 0, _ => rfl
  | 2, _, 1, _ => rfl
  | 2, _, 2, _ => rfl
  | 2, _, 3, _ => rfl
end
structure GM (dq : Nat) (w : World) (g t : Nat) (D : List Bk) (R : List Wr) (cur : Nat → Bk) (op : Bool) (Os : Nat → Prop) (db : Db) (r : Rs) (sw : Nat → Sl) (cw : Nat → List CR) : Prop where
  bl : Blk w g (mgC t r.act r.lks sw)
  sv : SV dq w t D R cur op Os db
  wm : ∀ k, k < 4 → WM w (sw k) (cw k)
  eq : ∀ k, k < 4 → (cw k).map (·.c) = r.ws k
  ng : ¬ Os g
  nw : ∀ k, k < 4 → ¬ wo (sw k) (cw k) g
  dj : ∀ k, k < 4 → ∀ b, wo (sw k) (cw k) b → ¬ Os b
  dk : ∀ k, k < 4 → ∀ l, l < 4 → k ≠ l → ∀ b, wo (sw k) (cw k) b → ¬ wo (sw l) (cw l) b
def gw (g : Nat) (Os : Nat → Prop) (sw : Nat → Sl) (cw : Nat → List CR) (b : Nat) : Prop := b = g ∨ Os b ∨ ∃ k, k < 4 ∧ wo (sw k) (cw k) b
/-- The manager at g: r is its own state, db the committed database; O its blocks. -/
def GV (dq : Nat) (w : World) (g : Nat) (D : List Bk) (R : List Wr) (cur : Nat → Bk) (op : Bool) (db : Db) (r : Rs) (O : Nat → Prop) : Prop := ∃ t Os sw cw, GM dq w g t D R cur op Os db r sw cw ∧ ∀ b, O b ↔ gw g Os sw cw b
section
variable {r : Rs} {sw : Nat → Sl} {cw : Nat → List CR}
theorem GM.frp (h : GM dq w g t D R cur op Os db r sw cw) (F : FrP P w w') (hn : ∀ b, gw g Os sw cw b → ¬ P b) : GM dq w' g t D R cur op Os db r sw cw :=
  ⟨h.bl.frp F (hn g (.inl rfl)), h.sv.frp F fun b hb => hn b (.inr (.inl hb)), fun k hk => (h.wm k hk).frp F fun b hb => hn b (.inr (.inr ⟨k, hk, hb⟩)), h.eq, h.ng, h.nw, h.dj, h.dk⟩
theorem GM.fr0 (h : GM dq w g t D R cur op Os db r sw cw) (F : Fr 0 0 w w') : GM dq w' g t D R cur op Os db r sw cw := h.frp (FrP.of0 (P := fun _ => False) F) fun _ _ h => h
theorem GM.dr (h : GM dq w g t D R cur op Os db r sw cw) : GM dq w.drew g t D R cur op Os db r sw cw := h.frp (FrP.refl (fun _ => False) w).drew fun _ _ h => h
theorem GM.lt (h : GM dq w g t D R cur op Os db r sw cw) {b : Nat} (hb : gw g Os sw cw b) : b < w.heap.size := by
  rcases hb with rfl | hb | ⟨k, hk, hb⟩
  · exact h.bl.lt
  · exact h.sv.lt hb
  · exact (h.wm k hk).lt hb
theorem GV.frp (h : GV dq w g D R cur op db r O) (F : FrP P w w') (hn : ∀ b, O b → ¬ P b) : GV dq w' g D R cur op db r O := by
  obtain ⟨t, Os, sw, cw, h, hO⟩ := h
  exact ⟨t, Os, sw, cw, h.frp F fun b hb => hn b ((hO b).2 hb), hO⟩
theorem GV.fr0 (h : GV dq w g D R cur op db r O) (F : Fr 0 0 w w') : GV dq w' g D R cur op db r O := h.frp (FrP.of0 (P := fun _ => False) F) fun _ _ h => h
theorem GV.dr (h : GV dq w g D R cur op db r O) : GV dq w.drew g D R cur op db r O := h.frp (FrP.refl (fun _ => False) w).drew fun _ _ h => h
theorem GV.lt (h : GV dq w g D R cur op db r O) {b : Nat} (hb : O b) : b < w.heap.size := by
  obtain ⟨t, Os, sw, cw, h, hO⟩ := h
  exact h.lt ((hO b).1 hb)
theorem GM.ld {K : Nat → Prop} (h : GM dq w g t D R cur op Os db r sw cw) (hk : K t) : LdP w ⟨g, 0, none⟩ K := ldP h.bl rfl hk
theorem GM.ac {K : Bool → Prop} (h : GM dq w g t D R cur op Os db r sw cw) (hk : k < 4) (hK : K (r.act k)) : LdB w ⟨g, 1 + Int.toNat (k : Int) * 1, none⟩ K := by
  rw [Int.toNat_natCast, Nat.mul_one]
  exact ldB h.bl (mgC_act hk) hK
theorem GM.us {K : Bool → Prop} (h : GM dq w g t D R cur op Os db r sw cw) (hi : i < 3) (hK : K (r.lks i).used) : LdB w ⟨g, 5 + Int.toNat (i : Int) * 6, none⟩ K := by
  rw [Int.toNat_natCast]
  exact ldB h.bl (mgC_used hi) hK
theorem GM.na {K : ByteArray → Prop} (h : GM dq w g t D R cur op Os db r sw cw) (hi : i < 3) (hK : K (r.lks i).name) : LdStr w ⟨g, 5 + Int.toNat (i : Int) * 6 + 1, none⟩ K := by
  rw [Int.toNat_natCast]
  exact ldStr h.bl (mgC_name hi) hK
theorem GM.md {K : Int → Prop} (h : GM dq w g t D R cur op Os db r sw cw) (hi : i < 3) (hk : k < 4) (hK : K ((r.lks i).mode k : Nat)) : LdI .i64 w ⟨g, 5 + Int.toNat (i : Int) * 6 + 2 + Int.toNat (k : Int) * 1, none⟩ K := by
  rw [Int.toNat_natCast, Int.toNat_natCast, Nat.mul_one]
  exact ldI h.bl (mgC_mode hi hk) hK
theorem GM.ws {K : Sl → Prop} (h : GM dq w g t D R cur op Os db r sw cw) (hk : k < 4) (hK : K (sw k)) : LdS w ⟨g, 23 + Int.toNat (k : Int) * 1, none⟩ K := by
  rw [Int.toNat_natCast, Nat.mul_one]
  exact ldS h.bl (mgC_ws hk) hK
/-- The record's plain cells turn. -/
theorem GM.cel {act' : Nat → Bool} {lks' : Nat → Slt} (h : GM dq w g t D R cur op Os db r sw cw) (B : Blk w' g (mgC t act' lks' sw)) (F : FrP (fun b => b = g) w w') : GM dq w' g t D R cur op Os db { r with act := act', lks := lks' } sw cw :=
  ⟨B, h.sv.frp F fun b hb e => h.ng (by rw [← show b = g from e]; exact hb), fun k hk => (h.wm k hk).frp F fun b hb e => h.nw k hk (by rw [← show b = g from e]; exact hb), h.eq, h.ng, h.nw, h.dj, h.dk⟩
/-- The store has turned. -/
theorem GM.sto {D' : List Bk} {R' : List Wr} {op' : Bool} {db' : Db} {Os' : Nat → Prop} (h : GM dq w g t D R cur op Os db r sw cw) (sv : SV dq w' t D' R' cur' op' Os' db') (G : Gw Os w Os' w') : GM dq w' g t D' R' cur' op' Os' db' r sw cw ∧ Gw (gw g Os sw cw) w (gw g Os' sw cw) w' := by
  refine ⟨⟨h.bl.frp G.1 h.ng, sv, fun k hk => (h.wm k hk).frp G.1 (h.dj k hk), h.eq, fun hg => ?_, h.nw, fun k hk b hb hb' => ?_, h.dk⟩, G.1.mono fun b hb => .inr (.inl hb), fun b hb => ?_⟩
  · rcases G.2 g hg with h1 | h1
    · exact h.ng h1
    · have := h.bl.lt; omega
  · rcases G.2 b hb' with h1 | h1
    · exact h.dj k hk b hb h1
    · have := (h.wm k hk).lt hb; omega
  · rcases hb with hb | hb | hb
    · exact .inl (.inl hb)
    · exact (G.2 b hb).elim (fun h => .inl (.inr (.inl h))) .inr
    · exact .inl (.inr (.inr hb))
/-- One write set is another. -/
theorem GM.put {s' : Sl} {l' : List CR} (h : GM dq w g t D R cur op Os db r sw cw) (hk : k < 4) (B : Blk w' g (mgC t r.act r.lks (fset sw k s'))) (M : WM w' s' l') (F : FrP (fun b => wo (sw k) (cw k) b ∨ b = g ∨ w.heap.size ≤ b) w w') (hn : ∀ b, wo s' l' b → wo (sw k) (cw k) b ∨ w.heap.size ≤ b) :
    GM dq w' g t D R cur op Os db { r with ws := fset r.ws k (l'.map (·.c)) } (fset sw k s') (fset cw k l') ∧ Gw (gw g Os sw cw) w (gw g Os (fset sw k s') (fset cw k l')) w' := by
  have glt := h.bl.lt
  have e1 : ∀ l, l ≠ k → fset sw k s' l = sw l := fun l hl => fset_ne hl
  have e2 : ∀ l, l ≠ k → fset cw k l' l = cw l := fun l hl => fset_ne hl
  refine ⟨⟨B, h.sv.frp F fun b hb hq => ?_, fun l hl => ?_, fun l hl => ?_, h.ng, fun l hl => ?_, fun l hl b hb hb' => ?_, fun l hl l2 hl2 hne b hb hb' => ?_⟩, ⟨F.1, fun b hb hn' => F.2 b hb fun hq => ?_⟩, fun b hb => ?_⟩
  · rcases hq with h1 | h1 | h1
    · exact h.dj k hk b h1 hb
    · exact h.ng (by rw [← h1]; exact hb)
    · have := h.sv.lt hb; omega
  · by_cases e : l = k
    · subst e; rw [fset_eq, fset_eq]; exact M
    · rw [e1 l e, e2 l e]
      refine (h.wm l hl).frp F fun b hb hq => ?_
      rcases hq with h1 | h1 | h1
      · exact h.dk l hl k hk e b hb h1
      · exact h.nw l hl (by rw [← h1]; exact hb)
      · have := (h.wm l hl).lt hb; omega
  · show (fset cw k l' l).map (·.c) = fset r.ws k (l'.map (·.c)) l
    by_cases e : l = k
    · subst e; rw [fset_eq, fset_eq]
    · rw [e2 l e, fset_ne e]; exact h.eq l hl
  · by_cases e : l = k
    · subst e
      rw [fset_eq, fset_eq]
      intro hg
      rcases hn g hg with h1 | h1
      · exact h.nw l hl h1
      · omega
    · rw [e1 l e, e2 l e]; exact h.nw l hl
  · by_cases e : l = k
    · subst e
      rw [fset_eq, fset_eq] at hb
      rcases hn b hb with h1 | h1
      · exact h.dj l hl b h1 hb'
      · have := h.sv.lt hb'; omega
    · rw [e1 l e, e2 l e] at hb; exact h.dj l hl b hb hb'
  · by_cases e : l = k
    · subst e
      rw [fset_eq, fset_eq] at hb
      rw [e1 l2 fun e => hne e.symm, e2 l2 fun e => hne e.symm] at hb'
      rcases hn b hb with h1 | h1
      · exact h.dk l hl l2 hl2 hne b h1 hb'
      · have := (h.wm l2 hl2).lt hb'; omega
    · rw [e1 l e, e2 l e] at hb
      by_cases e' : l2 = k
      · subst e'
        rw [fset_eq, fset_eq] at hb'
        rcases hn b hb' with h1 | h1
        · exact h.dk l hl l2 hl2 hne b hb h1
        · have := (h.wm l hl).lt hb; omega
      · rw [e1 l2 e', e2 l2 e'] at hb'
        exact h.dk l hl l2 hl2 hne b hb hb'
  · rcases hq with h1 | h1 | h1
    · exact hn' (.inr (.inr ⟨k, hk, h1⟩))
    · exact hn' (.inl h1)
    · omega
  · rcases hb with hb | hb | ⟨l, hl, hb⟩
    · exact .inl (.inl hb)
    · exact .inl (.inr (.inl hb))
    · by_cases e : l = k
      · subst e
        rw [fset_eq, fset_eq] at hb
        exact (hn b hb).elim (fun h => .inl (.inr (.inr ⟨l, hl, h⟩))) .inr
      · rw [e1 l e, e2 l e] at hb
        exact .inl (.inr (.inr ⟨l, hl, hb⟩))
end
end Go.Proofs.Qxb6500564aGreat
