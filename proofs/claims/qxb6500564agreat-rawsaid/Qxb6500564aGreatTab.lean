/-
  Rows as tables of functions; sums; iterations.
-/
import Derived.Test.Qxb6500564aGreatPln
set_option linter.unusedVariables false
set_option linter.unusedSimpArgs false
namespace Go.Zip
def fset {α : Type} (f : Nat → α) (i : Nat) (v : α) : Nat → α := fun t => if t = i then v else f t
theorem fset_eq {α : Type} (f : Nat → α) (i : Nat) (v : α) : fset f i v i = v := by simp [fset]
theorem fset_ne {α : Type} {f : Nat → α} {i t : Nat} {v : α} (h : t ≠ i) : fset f i v t = f t := by simp [fset, h]
/-- The row of the n first values. -/
def tab {α : Type} (n : Nat) (f : Nat → α) : List α := (List.range n).map f
@[simp] theorem tab_length {α : Type} (n : Nat) (f : Nat → α) : (tab n f).length = n := by simp [tab]
theorem tab_get {α : Type} {n i : Nat} {f : Nat → α} (h : i < n) : (tab n f)[i]? = some (f i) := by simp [tab, h]
theorem tab_congr {α : Type} {n : Nat} {f g : Nat → α} (h : ∀ i, i < n → f i = g i) : tab n f = tab n g := by
  unfold tab
  exact List.map_congr_left fun i hi => h i (List.mem_range.1 hi)
theorem tab_ext {α : Type} {l : List α} {n : Nat} {f : Nat → α} (hl : l.length = n) (h : ∀ i, i < n → l[i]? = some (f i)) : l = tab n f := by
  apply List.ext_getElem?
  intro i
  rcases Nat.lt_or_ge i n with h' | h'
  · rw [h i h', tab_get h']
  · rw [List.getElem?_eq_none (by omega), List.getElem?_eq_none (by simpa using h')]
theorem tab_set {α : Type} (n i : Nat) (f : Nat → α) (v : α) : (tab n f).set i v = tab n (fset f i v) := by
  refine tab_ext (by simp) fun t ht => ?_
  rw [List.getElem?_set]
  by_cases h : i = t
  · subst h; simp [ht, fset]
  · rw [if_neg h, tab_get ht, fset_ne (by omega)]
theorem tab_inj {α : Type} {n : Nat} {f g : Nat → α} (h : tab n f = tab n g) : ∀ i, i < n → f i = g i := fun i hi => by
  have := tab_get (f := f) hi
  rw [h, tab_get hi] at this
  exact (Option.some.inj this).symm
theorem tab_of (l : List Nat) : l = tab l.length fun i => l.getD i 0 := tab_ext rfl fun i hi => by simp [List.getD, hi]
theorem tab_of' (l : List Int) : l = tab l.length fun i => l.getD i 0 := tab_ext rfl fun i hi => by simp [List.getD, hi]
theorem tab_zero {n : Nat} : List.replicate n (0 : Int) = tab n fun _ => 0 := tab_ext (by simp) fun i hi => by simp [hi]

/-- A sum over the places below n. -/
def sumTo : Nat → (Nat → Nat) → Nat
  | 0, _ => 0
  | n + 1, f => sumTo n f + f n
theorem sumTo_congr {f g : Nat → Nat} : ∀ {n}, (∀ i, i < n → f i = g i) → sumTo n f = sumTo n g
  | 0, _ => rfl
  | n + 1, h => by simp only [sumTo]; rw [sumTo_congr fun i hi => h i (by omega), h n (by omega)]
theorem sumTo_add (f g : Nat → Nat) : ∀ n, sumTo n (fun i => f i + g i) = sumTo n f + sumTo n g
  | 0 => rfl
  | n + 1 => by simp only [sumTo, sumTo_add f g n]; omega
theorem sumTo_mul (c : Nat) (f : Nat → Nat) : ∀ n, sumTo n (fun i => c * f i) = c * sumTo n f
  | 0 => rfl
  | n + 1 => by simp only [sumTo, sumTo_mul c f n, Nat.mul_add]
theorem sumTo_zero {f : Nat → Nat} : ∀ {n}, (∀ i, i < n → f i = 0) → sumTo n f = 0
  | 0, _ => rfl
  | n + 1, h => by simp only [sumTo]; rw [sumTo_zero fun i hi => h i (by omega), h n (by omega)]
theorem sumTo_le {f g : Nat → Nat} : ∀ {n}, (∀ i, i < n → f i ≤ g i) → sumTo n f ≤ sumTo n g
  | 0, _ => Nat.le_refl _
  | n + 1, h => by simp only [sumTo]; have := sumTo_le (n := n) fun i hi => h i (by omega); have := h n (by omega); omega
theorem sumTo_const (c : Nat) : ∀ n, sumTo n (fun _ => c) = n * c
  | 0 => by simp [sumTo]
  | n + 1 => by simp only [sumTo, sumTo_const c n, Nat.succ_mul]
/-- One value turned. -/
theorem sumTo_set (f : Nat → Nat) (i v : Nat) : ∀ {n}, i < n → sumTo n (fset f i v) + f i = sumTo n f + v
  | n + 1, h => by
    simp only [sumTo]
    rcases Nat.lt_or_ge i n with h' | h'
    · have := sumTo_set f i v h'
      rw [fset_ne (by omega : n ≠ i)]
      omega
    · have : i = n := by omega
      subst this
      rw [fset_eq, sumTo_congr (g := f) fun t ht => fset_ne (by omega)]
      omega
theorem sumTo_pos {f : Nat → Nat} {i : Nat} : ∀ {n}, i < n → f i ≤ sumTo n f
  | n + 1, h => by
    simp only [sumTo]
    rcases Nat.lt_or_ge i n with h' | h'
    · have := sumTo_pos (f := f) h'; omega
    · have : i = n := by omega
      subst this; omega
/-- How many places below n pass. -/
def cntTo (n : Nat) (p : Nat → Bool) : Nat := sumTo n fun i => if p i then 1 else 0
theorem cntTo_le (n : Nat) (p : Nat → Bool) : cntTo n p ≤ n := by
  have := sumTo_le (n := n) (f := fun i => if p i then 1 else 0) (g := fun _ => 1) fun i _ => by split <;> omega
  rw [sumTo_const] at this
  unfold cntTo; omega
theorem cntTo_succ (n : Nat) (p : Nat → Bool) : cntTo (n + 1) p = cntTo n p + if p n then 1 else 0 := rfl
theorem cntTo_congr {n : Nat} {p q : Nat → Bool} (h : ∀ i, i < n → p i = q i) : cntTo n p = cntTo n q := sumTo_congr fun i hi => by rw [h i hi]

def iter {α : Type} (f : α → α) : Nat → α → α
  | 0, a => a
  | n + 1, a => f (iter f n a)
theorem iter_stop {α : Type} {f : α → α} {a : α} {k : Nat} (h : f (iter f k a) = iter f k a) : ∀ j, iter f (k + j) a = iter f k a
  | 0 => rfl
  | j + 1 => by rw [← Nat.add_assoc]; show f (iter f (k + j) a) = _; rw [iter_stop h j, h]
theorem iter_fix {α : Type} {f : α → α} {a : α} {k j : Nat} (h : f (iter f k a) = iter f k a) (h' : f (iter f j a) = iter f j a) : iter f k a = iter f j a := by
  rcases Nat.le_total k j with hl | hl
  · have := iter_stop h (j - k); rw [show k + (j - k) = j from by omega] at this; exact this.symm
  · have := iter_stop h' (k - j); rw [show j + (k - j) = k from by omega] at this; exact this
end Go.Zip
namespace Go.Den
open Go.Zip
/-- A row of numbers no less than 0. -/
def nats (n : Nat) (f : Nat → Nat) : List Value := ints (tab n fun i => (f i : Int))
section
variable {w w' : World} {b : Nat}
@[simp] theorem nats_length (n : Nat) (f : Nat → Nat) : (nats n f).length = n := by simp [nats]
theorem nats_congr {n : Nat} {f g : Nat → Nat} (h : ∀ i, i < n → f i = g i) : nats n f = nats n g := by unfold nats; rw [tab_congr fun i hi => by rw [h i hi]]
theorem nats_ok (n : Nat) (f : Nat → Nat) : (nats n f).all okV = true := ints_ok _
theorem nats_get {n i : Nat} {f : Nat → Nat} (h : i < n) : (nats n f)[i]? = some (.int .i64 (f i)) := ints_get (tab_get h)
theorem nats_set (n i : Nat) (f : Nat → Nat) (v : Nat) : (nats n f).set i (.int .i64 (v : Int)) = nats n (fset f i v) := by
  unfold nats
  rw [ints_set, tab_set]
  congr 1
  refine tab_congr fun t ht => ?_
  unfold fset
  split <;> rfl
theorem nats_zero (n : Nat) : reps [.int .i64 0] n = nats n fun _ => 0 := by rw [reps_ints, tab_zero]; rfl
/-- Reading and writing element i of such a row. -/
theorem ldN {n : Nat} {f : Nat → Nat} {i : Nat} {K : Int → Prop} (h : Blk w b (nats n f)) (hi : i < n) (hk : K (f i : Int)) : LdI .i64 w ⟨b, 0 + Int.toNat (i : Int) * 1, none⟩ K :=
  ldI h (by rw [Nat.zero_add, Nat.mul_one, Int.toNat_natCast]; exact nats_get hi) hk
theorem stN {n : Nat} {f : Nat → Nat} {i v : Nat} {x : Int} {K : World → Prop} (h : Blk w b (nats n f)) (hi : i < n) (hx : x = (v : Int))
    (hk : ∀ w', Blk w' b (nats n (fset f i v)) → Fr b 1 w w' → w'.heap.size = w.heap.size → K w') : St1 w ⟨b, 0 + Int.toNat (i : Int) * 1, none⟩ (.int .i64 x) K := by
  subst hx
  rw [Nat.zero_add, Nat.mul_one, Int.toNat_natCast]
  refine st1 h (by simpa using hi) ?_
  rw [nats_set]
  exact hk
/-- The same for a row of any numbers. -/
theorem ldZ {n : Nat} {f : Nat → Int} {i : Nat} {K : Int → Prop} (h : Blk w b (ints (tab n f))) (hi : i < n) (hk : K (f i)) : LdI .i64 w ⟨b, 0 + Int.toNat (i : Int) * 1, none⟩ K :=
  ldI h (by rw [Nat.zero_add, Nat.mul_one, Int.toNat_natCast]; exact ints_get (tab_get hi)) hk
theorem stZ {n : Nat} {f : Nat → Int} {i : Nat} {v : Int} {K : World → Prop} (h : Blk w b (ints (tab n f))) (hi : i < n)
    (hk : ∀ w', Blk w' b (ints (tab n (fset f i v))) → Fr b 1 w w' → w'.heap.size = w.heap.size → K w') : St1 w ⟨b, 0 + Int.toNat (i : Int) * 1, none⟩ (.int .i64 v) K := by
  rw [Nat.zero_add, Nat.mul_one, Int.toNat_natCast]
  refine st1 h (by simpa using hi) ?_
  rw [ints_set, tab_set]
  exact hk
theorem W_succ {j : Nat} (h : j < 9223372036854775807) : W ((j : Int) + 1) = ((j + 1 : Nat) : Int) := by rw [W_id (by omega) (by omega)]; omega
theorem W_add {a b : Nat} (h : a + b < 9223372036854775808) : W ((a : Int) + (b : Int)) = ((a + b : Nat) : Int) := by rw [W_id (by omega) (by omega)]; omega
theorem W_sub {a b : Nat} (h : b ≤ a) (ha : a < 9223372036854775808) : W ((a : Int) - (b : Int)) = ((a - b : Nat) : Int) := by rw [W_id (by omega) (by omega)]; omega
/-- A window of a slice. -/
theorem cutS {size : Nat} {s : Sl} {lo hi mx : Nat} {bb : Nat} {K : Sl → Prop} (ha : s.a = some ⟨bb, 0, none⟩) (h1 : lo ≤ hi) (h2 : hi ≤ mx) (h3 : mx ≤ s.c) (hlt : lo < mx ∨ lo = 0)
    (hk : K ⟨some ⟨bb, lo * size, none⟩, hi - lo, mx - lo⟩) : CutS size s (lo : Int) (hi : Int) (mx : Int) K := by
  refine ⟨by omega, by omega, by omega, by omega, ?_⟩
  simp only [Int.toNat_natCast]
  by_cases he : mx = lo
  · rw [if_pos he, ha]
    have : lo = 0 := by omega
    subst this
    simpa using hk
  · rw [if_neg he, ha]
    simpa [add_mk] using hk
end
end Go.Den
