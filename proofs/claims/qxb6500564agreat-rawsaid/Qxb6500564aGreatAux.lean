/-
  General helpers: what is owned and what is new; reads held over actions; joins.
-/
import Derived.Test.Qxb6500564aGreatOwn
namespace Go.Proofs.Qxb6500564aGreat
open Go.Den Go.Zip
set_option linter.unusedVariables false
set_option linter.unusedSimpArgs false
variable {w w' w1 w2 : World} {O O' O1 O2 : Nat → Prop} {vs : List Value} {s : Sl} {sz : Nat}

/-- Only blocks of O have turned; what is owned behind was owned ahead, or is new. -/
def Gw (O : Nat → Prop) (w : World) (O' : Nat → Prop) (w' : World) : Prop := FrP O w w' ∧ ∀ b, O' b → O b ∨ w.heap.size ≤ b
theorem Gw.refl (O : Nat → Prop) (w : World) : Gw O w O w := ⟨FrP.refl _ _, fun b hb => .inl hb⟩
theorem Gw.trans (a : Gw O w O1 w1) (b : Gw O1 w1 O2 w2) : Gw O w O2 w2 := by
  have := a.1.1.1
  refine ⟨FrP.trans' a.1 b.1 a.2, fun x hx => ?_⟩
  rcases b.2 x hx with h1 | h1
  · exact a.2 x h1
  · exact .inr (by omega)
theorem Gw.drew (a : Gw O w O' w') : Gw O w O' w'.drew := ⟨a.1.drew, a.2⟩
theorem Gw.new (F : Fr 0 0 w w') : Gw O w O w' := ⟨FrP.of0 F, fun b hb => .inl hb⟩
theorem Gw.le (a : Gw O w O' w') : w.heap.size ≤ w'.heap.size := a.1.1.1
theorem keepB {p : Nat} (b : Blk w p vs) (hn : ¬ O p) (G : Gw O w O' w') : Blk w' p vs ∧ ¬ O' p := ⟨b.frp G.1 hn, fun h => (G.2 _ h).elim hn fun h' => by have := b.lt; omega⟩
/-- What is new stays new. -/
theorem frNew {w0 : World} (F : Fr 0 0 w0 w) (hO : ∀ b, O b → w0.heap.size ≤ b) (G : Gw O w O' w') : Fr 0 0 w0 w' :=
  (FrP.trans' (P := fun _ => False) (FrP.of0 F) G.1 fun b hb => .inr (hO b hb)).ofR fun _ h => h.elim
theorem newO {w0 : World} (F : Fr 0 0 w0 w) (hO : ∀ b, O b → w0.heap.size ≤ b) (G : Gw O w O' w') : ∀ b, O' b → w0.heap.size ≤ b := fun b hb => (G.2 b hb).elim (hO b) fun h => by have := F.1.1; omega
/-- What two own together. -/
def U (O1 O2 : Nat → Prop) (b : Nat) : Prop := O1 b ∨ O2 b
theorem Gw.u1 {O1' : Nat → Prop} (G : Gw O1 w O1' w') (O2 : Nat → Prop) : Gw (U O1 O2) w (U O1' O2) w' := ⟨G.1.mono fun b hb => .inl hb, fun b hb => hb.elim (fun h => (G.2 b h).elim (fun h => .inl (.inl h)) .inr) fun h => .inl (.inr h)⟩
theorem Gw.u2 {O2' : Nat → Prop} (G : Gw O2 w O2' w') (O1 : Nat → Prop) : Gw (U O1 O2) w (U O1 O2') w' := ⟨G.1.mono fun b hb => .inr hb, fun b hb => hb.elim (fun h => .inl (.inl h)) fun h => (G.2 b h).elim (fun h => .inl (.inr h)) .inr⟩
/-- One part works; the other owns other blocks. -/
theorem dj1 {O1' : Nat → Prop} (G : Gw O1 w O1' w') (hd : ∀ b, O1 b → ¬ O2 b) (lt : ∀ b, O2 b → b < w.heap.size) : ∀ b, O1' b → ¬ O2 b := fun b hb h2 => (G.2 b hb).elim (fun h => hd b h h2) fun h => by have := lt b h2; omega
theorem holdS {b o n : Nat} (h1 : Blk w b vs) (h2 : Blk w' b vs) : ∀ i, i < n → w'.cell? ((⟨b, o, none⟩ : Addr).add i) = w.cell? ((⟨b, o, none⟩ : Addr).add i) := fun i _ => by
  rw [add_mk, h1.cell, h2.cell]
theorem join_P {α : Type} {k : α → World → Prop} {body : (α → World → Prop) → Prop} (P : α → World → Prop) (hk : ∀ x w, P x w → k x w) (hb : ∀ J : α → World → Prop, (∀ x w, P x w → J x w) → body J) : Join k body := hb k hk
theorem join_W {k : World → Prop} {body : (World → Prop) → Prop} (P : World → Prop) (hk : ∀ w, P w → k w) (hb : ∀ J : World → Prop, (∀ w, P w → J w) → body J) : Join k body := hb k hk
theorem join_PP {α β : Type} {k : α → β → World → Prop} {body : (α → β → World → Prop) → Prop} (P : α → β → World → Prop) (hk : ∀ x y w, P x y w → k x y w) (hb : ∀ J : α → β → World → Prop, (∀ x y w, P x y w → J x y w) → body J) : Join k body := hb k hk
theorem join_eq {α : Type} {k : α} {body : α → Prop} : Join k body = body k := rfl
theorem ifk {k j : Int} {A B : Prop} (h1 : k = j → A) (h2 : k ≠ j → B) : if (k == j) = true then A else B := by
  by_cases h : k = j
  · rw [if_pos (by simp [h])]; exact h1 h
  · rw [if_neg (by simpa using h)]; exact h2 h
theorem ifd {c : Prop} [Decidable c] {A B : Prop} (h1 : c → A) (h2 : ¬ c → B) : if (decide c) = true then A else B := by
  by_cases h : c
  · rw [if_pos (by simpa using h)]; exact h1 h
  · rw [if_neg (by simpa using h)]; exact h2 h
theorem ifb {c : Bool} {A B : Prop} (h1 : c = true → A) (h2 : c = false → B) : if c = true then A else B := by
  cases c
  · exact h2 rfl
  · exact h1 rfl
theorem ifn {c : Bool} {A B : Prop} (h1 : c = false → A) (h2 : c = true → B) : if (!c) = true then A else B := by
  cases c
  · exact h1 rfl
  · exact h2 rfl
def slV (s : Sl) : Value := .slice s.a s.l s.c
def ptrV (b : Nat) : Value := .pointer (some ⟨b, 0, none⟩)
def strs (l : List ByteArray) : List Value := l.map Value.string
@[simp] theorem strs_length (l : List ByteArray) : (strs l).length = l.length := by simp [strs]
theorem strs_get {l : List ByteArray} {i : Nat} {x : ByteArray} (h : l[i]? = some x) : (strs l)[i]? = some (.string x) := by simp [strs, h]
theorem strs_set (l : List ByteArray) (i : Nat) (x : ByteArray) : (strs l).set i (.string x) = strs (l.set i x) := by simp [strs, List.map_set]
theorem strs_ok (l : List ByteArray) : (strs l).all okV = true := by simp [strs, okV]
abbrev fullS (b n : Nat) : Sl := ⟨some ⟨b, 0, none⟩, n, n⟩
/-- An element of a full slice in a block. -/
theorem ixF {b n i : Nat} {K : Nat → Nat → Prop} (hi : i < n) (hk : K b 0) : Ix (some ⟨b, 0, none⟩) n (i : Int) K := ix rfl (by omega) (by omega) hk
theorem o1 {i : Nat} : 0 + Int.toNat (i : Int) * 1 = i := by rw [Int.toNat_natCast]; omega
theorem reps_str (n : Nat) : reps [.string ⟨#[]⟩] n = strs (List.replicate n ⟨#[]⟩) := by
  induction n with
  | zero => rfl
  | succ n ih => show _ :: reps _ n = _; rw [ih, List.replicate_succ]; rfl
theorem OS.get {i : Nat} {K : Nat → Nat → Prop} (h : OS w s vs sz) (hi : i < s.l) (hk : ∀ g us, Blk w g us → (∀ m, m < vs.length → us[m]? = vs[m]?) → owns s g → K g 0) : Ix s.a s.l (i : Int) K := by
  rcases h with ⟨rfl, rfl⟩ | ⟨g, a, b, c, junk, d, e⟩
  · exact absurd hi (by simp)
  · exact ix a (by omega) (by omega) (hk g _ d (fun m hm => List.getElem?_append_left hm) a)
/-- An append of one element to a slice that is owned. -/
theorem app1 {e : TypeId} {z new : List Value} {bytes x : Nat} {K : Sl → World → Prop} (h : OS w s vs sz) (hx : Blk w x new) (hl : new.length = sz) (hok : new.all okV = true) (hz : z.length = sz) (hsm : (s.l + 1) * bytes ≤ 2 ^ 46)
    (hK : ∀ s' w', OS w' s' (vs ++ new) sz → s'.l = s.l + 1 → (∀ b, owns s' b → owns s b ∨ w.heap.size ≤ b) → FrP (owns s) w w' → K s' w') : AppS e z bytes sz w s ⟨some ⟨x, 0, none⟩, 1, 1⟩ K :=
  appO h hx (by omega) (by omega) hok hz hsm fun s' w' o l gr F => hK s' w' o l (fun b hb => gr.owns hb) F
end Go.Proofs.Qxb6500564aGreat
