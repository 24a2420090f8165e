/-
  Memory in blocks, frames, and the rules by which the combinators are met.
-/
import Derived.Test.Qxb6500564aGreatBase
import Derived.Below
namespace Go.Den

/-- Block b holds the cells vs; none of them is frozen. -/
def Blk (w : World) (b : Nat) (vs : List Value) : Prop := ∃ ty, w.heap[b]? = some (.cells vs.toArray ty (0, 0))
/-- The streams are as they were. -/
def Even (w w' : World) : Prop := w'.os = w.os ∧ w'.tape = w.tape ∧ w'.output = w.output
theorem Even.refl (w : World) : Even w w := ⟨rfl, rfl, rfl⟩
theorem Even.trans {a b c : World} (h : Even a b) (k : Even b c) : Even a c := ⟨k.1.trans h.1, k.2.1.trans h.2.1, k.2.2.trans h.2.2⟩
/-- The heap is as it was, or has grown; the streams are as they were. -/
def Up (w w' : World) : Prop := w.heap.size ≤ w'.heap.size ∧ Even w w'
theorem Up.refl (w : World) : Up w w := ⟨Nat.le_refl _, Even.refl w⟩
theorem Up.trans {a b c : World} (h : Up a b) (k : Up b c) : Up a c := ⟨Nat.le_trans h.1 k.1, h.2.trans k.2⟩
/-- The same heap, the same streams. -/
def Like (w w' : World) : Prop := w'.heap = w.heap ∧ Even w w'
theorem Like.refl (w : World) : Like w w := ⟨rfl, Even.refl w⟩
theorem Like.drew (w : World) : Like w w.drew := ⟨rfl, rfl, rfl, rfl⟩
theorem Like.trans {a b c : World} (h : Like a b) (k : Like b c) : Like a c := ⟨k.1.trans h.1, h.2.trans k.2⟩
/-- Nothing that was there has changed, but for the blocks p .. p+n-1. -/
def Fr (p n : Nat) (w w' : World) : Prop := Up w w' ∧ ∀ b, b < w.heap.size → (b < p ∨ p + n ≤ b) → w'.heap[b]? = w.heap[b]?

section
variable {w w' w'' : World} {b b' p n : Nat} {vs : List Value}
theorem Fr.refl (p n : Nat) (w : World) : Fr p n w w := ⟨Up.refl w, fun _ _ _ => rfl⟩
theorem Fr.le (h : Fr p n w w') : w.heap.size ≤ w'.heap.size := h.1.1
theorem Fr.ev (h : Fr p n w w') : Even w w' := h.1.2
theorem Fr.trans (h : Fr p n w w') (h' : Fr p n w' w'') : Fr p n w w'' :=
  ⟨h.1.trans h'.1, fun b hb ho => by rw [h'.2 b (Nat.lt_of_lt_of_le hb h.le) ho, h.2 b hb ho]⟩
theorem Fr.mono {q m : Nat} (h : Fr p n w w') (h1 : q ≤ p) (h2 : p + n ≤ q + m) : Fr q m w w' := ⟨h.1, fun b hb ho => h.2 b hb (by omega)⟩
/-- A frame whose blocks are all new is no change at all. -/
theorem Fr.fresh (h : Fr p n w w') (hp : w.heap.size ≤ p) (q m : Nat) : Fr q m w w' := ⟨h.1, fun b hb _ => h.2 b hb (by omega)⟩
/-- Where nothing changed, nothing changed outside of whatever. -/
theorem Fr.any (h : Fr 0 0 w w') (p n : Nat) : Fr p n w w' := ⟨h.1, fun b hb _ => h.2 b hb (by omega)⟩
theorem Fr.like (h : Fr p n w w') (l : Like w' w'') : Fr p n w w'' := ⟨⟨by rw [l.1]; exact h.le, h.ev.trans l.2⟩, fun b hb ho => by rw [l.1]; exact h.2 b hb ho⟩
theorem Fr.drew (h : Fr p n w w') : Fr p n w w'.drew := h
theorem Fr.alloc (o : Obj) (h : Fr p n w w') : Fr p n w (w'.alloc o) :=
  ⟨⟨by simp; have := h.le; omega, h.ev⟩, fun b hb ho => by
    have := h.le
    show (w'.heap.push o)[b]? = _
    rw [Array.getElem?_push_lt (by omega), ← h.2 b hb ho]
    exact (Array.getElem?_eq_getElem (by omega)).symm⟩
theorem Fr.setCell {o : Nat} {v : Value} (h : Fr p n w w') (h1 : p ≤ b) (h2 : b < p + n) : Fr p n w (w'.setCell ⟨b, o, none⟩ v) :=
  ⟨⟨by simpa [World.setCell] using h.le, h.ev⟩, fun b' hb ho => by
    simp only [World.setCell]
    rw [Array.getElem?_modify, if_neg (by omega)]
    exact h.2 b' hb ho⟩
/-- Writing into a block that was not there ahead. -/
theorem Fr.setNew {o : Nat} {v : Value} (h : Fr p n w w') (h1 : w.heap.size ≤ b) : Fr p n w (w'.setCell ⟨b, o, none⟩ v) :=
  ⟨⟨by simpa [World.setCell] using h.le, h.ev⟩, fun b' hb ho => by
    simp only [World.setCell]
    rw [Array.getElem?_modify, if_neg (by omega)]
    exact h.2 b' hb ho⟩

theorem Blk.lt (h : Blk w b vs) : b < w.heap.size := by
  obtain ⟨ty, h⟩ := h
  exact (Array.getElem?_eq_some_iff.1 h).1
theorem Blk.cell (h : Blk w b vs) (o : Nat) : w.cell? ⟨b, o, none⟩ = vs[o]? := by
  obtain ⟨ty, h⟩ := h
  simp [World.cell?, h]
theorem Blk.frozen (h : Blk w b vs) (o : Nat) : w.frozen? ⟨b, o, none⟩ = false := by
  obtain ⟨ty, h⟩ := h
  simp [World.frozen?, h]
theorem Blk.set (h : Blk w b vs) (o : Nat) (v : Value) : Blk (w.setCell ⟨b, o, none⟩ v) b (vs.set o v) := by
  obtain ⟨ty, h⟩ := h
  refine ⟨ty, ?_⟩
  simp [World.setCell, Array.getElem?_modify, h]
theorem Blk.set_ne (h : Blk w b vs) (hne : b ≠ b') (o : Nat) (v : Value) : Blk (w.setCell ⟨b', o, none⟩ v) b vs := by
  obtain ⟨ty, h⟩ := h
  refine ⟨ty, ?_⟩
  simp only [World.setCell]
  rw [Array.getElem?_modify, if_neg (by omega)]
  exact h
theorem Blk.fr (h : Blk w b vs) (f : Fr p n w w') (hb : b < p ∨ p + n ≤ b) : Blk w' b vs := by
  obtain ⟨ty, h'⟩ := h
  exact ⟨ty, by rw [f.2 b (Blk.lt ⟨ty, h'⟩) hb]; exact h'⟩
theorem Blk.alloc (h : Blk w b vs) (o : Obj) : Blk (w.alloc o) b vs := h.fr (Fr.alloc o (Fr.refl 0 0 w)) (by omega)
theorem Blk.new (w : World) (cs : Array Value) (ty : TypeId) : Blk (w.alloc (.cells cs ty)) w.heap.size cs.toList := ⟨ty, by show (w.heap.push _)[w.heap.size]? = _; simp⟩
theorem Blk.drew (h : Blk w b vs) : Blk w.drew b vs := h
theorem Blk.eq (h : Blk w b vs) {us : List Value} (h' : Blk w b us) : vs = us := by
  obtain ⟨ty, h⟩ := h
  obtain ⟨ty', h'⟩ := h'
  rw [h] at h'
  simp at h'
  exact h'.1

/-! ### Rules -/
theorem ldI {o : Nat} {k : IntKind} {m : Int} {K : Int → Prop} (h : Blk w b vs) (hv : vs[o]? = some (.int k m)) (hk : K m) : LdI k w ⟨b, o, none⟩ K := ⟨m, by rw [h.cell, hv], hk⟩
theorem ldB {o : Nat} {m : Bool} {K : Bool → Prop} (h : Blk w b vs) (hv : vs[o]? = some (.bool m)) (hk : K m) : LdB w ⟨b, o, none⟩ K := ⟨m, by rw [h.cell, hv], hk⟩
theorem ldStr {o : Nat} {m : ByteArray} {K : ByteArray → Prop} (h : Blk w b vs) (hv : vs[o]? = some (.string m)) (hk : K m) : LdStr w ⟨b, o, none⟩ K := ⟨m, by rw [h.cell, hv], hk⟩
theorem ldP {o : Nat} {m : Nat} {K : Nat → Prop} (h : Blk w b vs) (hv : vs[o]? = some (.pointer (some ⟨m, 0, none⟩))) (hk : K m) : LdP w ⟨b, o, none⟩ K := ⟨m, by rw [h.cell, hv], hk⟩
theorem ldS {o : Nat} {a : Option Addr} {l c : Nat} {K : Sl → Prop} (h : Blk w b vs) (hv : vs[o]? = some (.slice a l c)) (hk : K ⟨a, l, c⟩) : LdS w ⟨b, o, none⟩ K := ⟨⟨a, l, c⟩, by rw [h.cell, hv], hk⟩
theorem st1 {o : Nat} {v : Value} {K : World → Prop} (h : Blk w b vs) (ho : o < vs.length) (hk : ∀ w', Blk w' b (vs.set o v) → Fr b 1 w w' → w'.heap.size = w.heap.size → K w') : St1 w ⟨b, o, none⟩ v K :=
  ⟨by rw [h.cell]; simp [ho], h.frozen o, hk _ (h.set o v) (Fr.setCell (Fr.refl b 1 w) (by omega) (by omega)) (by simp [World.setCell])⟩
theorem ix {a : Option Addr} {len o : Nat} {i : Int} {K : Nat → Nat → Prop} (ha : a = some ⟨b, o, none⟩) (h0 : 0 ≤ i) (h1 : i < len) (hk : K b o) : Ix a len i K := ⟨b, o, ha, h0, h1, hk⟩
theorem newB {cs : Array Value} {ty : TypeId} {K : Nat → World → Prop} (hk : ∀ w', Blk w' w.heap.size cs.toList → Fr 0 0 w w' → w'.heap.size = w.heap.size + 1 → K w.heap.size w') : New w (.cells cs ty) K :=
  hk _ (Blk.new w cs ty) (Fr.alloc _ (Fr.refl 0 0 w)) (by simp)
theorem mkS {e : TypeId} {z : List Value} {bytes : Nat} {l c : Int} {K : Sl → World → Prop} (h0 : 0 ≤ l) (h1 : l ≤ c) (h2 : bytes * c ≤ 2 ^ 48) (h3 : c < 2 ^ 63)
    (hk : ∀ w', Blk w' w.heap.size (reps z c.toNat) → Fr 0 0 w w' → w'.heap.size = w.heap.size + 1 → K ⟨some ⟨w.heap.size, 0, none⟩, l.toNat, c.toNat⟩ w') : MkS e z bytes w l c K :=
  ⟨h0, h1, h2, h3, hk _ (by simpa using Blk.new w (reps z c.toNat).toArray e) (Fr.alloc _ (Fr.refl 0 0 w)) (by simp)⟩

theorem let_ {α : Type} {x : α} {K : α → Prop} (h : K x) : Let x K := h
theorem drew_ {K : World → Prop} (h : K w.drew) : Drew w K := h
theorem join_ {α : Type} {k : α} {body : α → Prop} (h : body k) : Join k body := h

/-- A loop by an invariant and a measure over its typed state. -/
theorem loopP {σ : Type} {body : σ → World → (σ → World → Prop) → Prop} {s : σ} (I : σ → World → Prop) (μ : σ → World → Nat) (h0 : I s w)
    (step : ∀ s w, I s w → body s w (fun s' w' => I s' w' ∧ μ s' w' < μ s w)) : LoopP body s w := ⟨I, μ, h0, step⟩

/-! ### Rows of ints and bytes -/
def ints (zs : List Int) : List Value := zs.map (Value.int .i64)
def byts (bs : List Nat) : List Value := bs.map fun b => Value.int .u8 (Int.ofNat b)
@[simp] theorem ints_length (zs : List Int) : (ints zs).length = zs.length := by simp [ints]
@[simp] theorem byts_length (zs : List Nat) : (byts zs).length = zs.length := by simp [byts]
theorem ints_get {zs : List Int} {i : Nat} {m : Int} (h : zs[i]? = some m) : (ints zs)[i]? = some (.int .i64 m) := by simp [ints, h]
theorem byts_get {zs : List Nat} {i : Nat} {m : Nat} (h : zs[i]? = some m) : (byts zs)[i]? = some (.int .u8 m) := by simp [byts, h]
theorem ints_set (zs : List Int) (i : Nat) (m : Int) : (ints zs).set i (.int .i64 m) = ints (zs.set i m) := by simp [ints, List.map_set]
theorem byts_set (zs : List Nat) (i : Nat) (m : Nat) : (byts zs).set i (.int .u8 (m : Int)) = byts (zs.set i m) := by simp [byts, List.map_set]
theorem reps_int (m : Int) (k : IntKind) : ∀ c, reps [.int k m] c = List.replicate c (.int k m)
  | 0 => rfl
  | c + 1 => by simp [reps, reps_int m k c, List.replicate_succ]
theorem reps_ints (c : Nat) : reps [.int .i64 0] c = ints (List.replicate c 0) := by rw [reps_int]; simp [ints]
theorem reps_byts (c : Nat) : reps [.int .u8 0] c = byts (List.replicate c 0) := by rw [reps_int]; simp [byts]

/-- Element i of a row of ints. -/
theorem ldA {zs : List Int} {i : Int} {m : Int} {K : Int → Prop} (h : Blk w b (ints zs)) (hv : zs[i.toNat]? = some m) (hk : K m) : LdI .i64 w ⟨b, 0 + Int.toNat i * 1, none⟩ K :=
  ldI h (by rw [Nat.zero_add, Nat.mul_one]; exact ints_get hv) hk
theorem ldU {zs : List Nat} {i : Int} {m : Nat} {K : Int → Prop} (h : Blk w b (byts zs)) (hv : zs[i.toNat]? = some m) (hk : K m) : LdI .u8 w ⟨b, 0 + Int.toNat i * 1, none⟩ K :=
  ldI h (by rw [Nat.zero_add, Nat.mul_one]; exact byts_get hv) hk
theorem stA {zs : List Int} {i m : Int} {K : World → Prop} (h : Blk w b (ints zs)) (hi : i.toNat < zs.length)
    (hk : ∀ w', Blk w' b (ints (zs.set i.toNat m)) → Fr b 1 w w' → w'.heap.size = w.heap.size → K w') : St1 w ⟨b, 0 + Int.toNat i * 1, none⟩ (.int .i64 m) K := by
  rw [Nat.zero_add, Nat.mul_one]
  exact st1 h (by simpa using hi) (by simpa [ints_set] using hk)
theorem stU {zs : List Nat} {i : Int} {m : Nat} {x : Int} {K : World → Prop} (h : Blk w b (byts zs)) (hi : i.toNat < zs.length) (hx : x = (m : Int))
    (hk : ∀ w', Blk w' b (byts (zs.set i.toNat m)) → Fr b 1 w w' → w'.heap.size = w.heap.size → K w') : St1 w ⟨b, 0 + Int.toNat i * 1, none⟩ (.int .u8 x) K := by
  subst hx
  rw [Nat.zero_add, Nat.mul_one]
  exact st1 h (by simpa using hi) (by simpa [byts_set] using hk)
end

/-! ### Numbers -/
theorem W_id {x : Int} (h0 : -9223372036854775808 ≤ x) (h1 : x < 9223372036854775808) : W x = x := by
  simp only [W, IntKind.wrap, IntKind.bits, IntKind.signed, Bool.true_and, ge_iff_le, decide_eq_true_eq]
  split <;> omega
theorem U64_id {x : Int} (h0 : 0 ≤ x) (h1 : x < 18446744073709551616) : U64 x = x := by
  simp only [U64, IntKind.wrap, IntKind.bits, IntKind.signed, Bool.false_and, Bool.false_eq_true, if_false]
  omega
theorem U8_mod (x : Int) : U8 x = x % 256 := by
  simp only [U8, IntKind.wrap, IntKind.bits, IntKind.signed, Bool.false_and, Bool.false_eq_true, if_false]
  rfl
theorem U8_nat (m : Nat) : U8 (m : Int) = ((m % 256 : Nat) : Int) := by rw [U8_mod]; omega
theorem Shr_nat (m k : Nat) (hk : k ≤ 64) : Shr .i64 (m : Int) (k : Int) = ((m / 2 ^ k : Nat) : Int) := by
  simp only [Shr, IntKind.bits, Int.toNat_natCast, Nat.min_eq_left hk]
  rw [Int.fdiv_eq_ediv_of_nonneg _ (Int.le_of_lt (Int.pow_pos (by omega)))]
  norm_cast
theorem Shl_nat (m k : Nat) (hk : k ≤ 64) (h : m * 2 ^ k < 9223372036854775808) : Shl .i64 (m : Int) (k : Int) = ((m * 2 ^ k : Nat) : Int) := by
  simp only [Shl, IntKind.bits, Int.toNat_natCast, Nat.min_eq_left hk]
  have : ((m : Int) * 2 ^ k) = ((m * 2 ^ k : Nat) : Int) := by push_cast; rfl
  rw [this]
  exact W_id (by omega) (by omega)
end Go.Den
