/-
  The order-keeping codes, plain.
-/
import Derived.Test.Qxb6500564aGreatBtT
namespace Go.Proofs.Qxb6500564aGreat
open Go.Den Go.Zip
set_option linter.unusedVariables false
set_option linter.unusedSimpArgs false

/-- Lists of bytes in order. -/
def lexN : List Nat → List Nat → Bool
  | _, [] => false
  | [], _ :: _ => true
  | a :: x, b :: y => decide (a < b) || (decide (a = b) && lexN x y)
theorem bl_lex : ∀ (x y : List UInt8), Op.bytesLess x y = lexN (x.map UInt8.toNat) (y.map UInt8.toNat)
  | [], [] => rfl
  | _ :: _, [] => by simp [Op.bytesLess, lexN]
  | [], _ :: _ => by simp [Op.bytesLess, lexN]
  | a :: x, b :: y => by
    rw [Op.bytesLess, List.map_cons, List.map_cons, lexN, bl_lex x y]
    have h1 : (decide (a < b)) = decide (a.toNat < b.toNat) := by rw [decide_eq_decide]; exact UInt8.lt_iff_toNat_lt
    have h2 : (a == b) = decide (a.toNat = b.toNat) := by
      by_cases h : a = b
      · simp [h]
      · have : a.toNat ≠ b.toNat := fun e => h (UInt8.toNat_inj.1 e)
        simp [h, this]
    rw [h1, h2]
theorem sl_bt (s t : ByteArray) : sl s t = lexN (bt s) (bt t) := by
  show Op.bytesLess s.toList t.toList = _
  rw [bl_lex, ByteArray.toList_eq, ByteArray.toList_eq]
  rfl
theorem lex_app : ∀ {x y : List Nat} (z w : List Nat), x.length = y.length → lexN (x ++ z) (y ++ w) = (lexN x y || (decide (x = y) && lexN z w))
  | [], [], z, w, _ => by simp [lexN]
  | a :: x, b :: y, z, w, h => by
    rw [List.cons_append, List.cons_append, lexN, lexN, lex_app z w (by simpa using h)]
    by_cases h1 : a < b
    · simp [h1]
    · by_cases h2 : a = b
      · subst h2; simp
      · simp [h1, h2]
  | [], _ :: _, _, _, h => by cases h
  | _ :: _, [], _, _, h => by cases h
/-- The lowest n bytes of u, the big end first. -/
def be : Nat → Nat → List Nat
  | 0, _ => []
  | n + 1, u => (u / 256 ^ n % 256) :: be n u
theorem be_len (n u : Nat) : (be n u).length = n := by
  induction n with
  | zero => rfl
  | succ n ih => simp [be, ih]
theorem be_lt (n u : Nat) : ∀ x ∈ be n u, x < 256 := by
  induction n with
  | zero => intro x h; cases h
  | succ n ih =>
    intro x h
    rcases List.mem_cons.1 h with rfl | h
    · exact Nat.mod_lt _ (by omega)
    · exact ih x h
theorem mod_pow (u n : Nat) : u % 256 ^ (n + 1) = (u / 256 ^ n % 256) * 256 ^ n + u % 256 ^ n := by
  rw [Nat.pow_succ, Nat.mod_mul, Nat.mul_comm (256 ^ n)]
  omega
theorem be_lex (n u v : Nat) : lexN (be n u) (be n v) = decide (u % 256 ^ n < v % 256 ^ n) := by
  induction n with
  | zero => simp [be, lexN, Nat.mod_one]
  | succ n ih =>
    rw [be, be, lexN, ih, mod_pow, mod_pow]
    have hp : 0 < 256 ^ n := Nat.pow_pos (by omega)
    have h1 := Nat.mod_lt u hp
    have h2 := Nat.mod_lt v hp
    generalize u / 256 ^ n % 256 = a at *
    generalize v / 256 ^ n % 256 = b at *
    generalize u % 256 ^ n = x at *
    generalize v % 256 ^ n = y at *
    generalize 256 ^ n = q at *
    by_cases hab : a < b
    · have : a * q + x < b * q + y := by
        have : (a + 1) * q ≤ b * q := Nat.mul_le_mul_right q hab
        rw [Nat.add_mul, Nat.one_mul] at this
        omega
      simp [hab, this]
    · by_cases he : a = b
      · subst he
        simp
      · have : ¬ (a * q + x < b * q + y) := by
          have : (b + 1) * q ≤ a * q := Nat.mul_le_mul_right q (by omega)
          rw [Nat.add_mul, Nat.one_mul] at this
          omega
        simp [hab, he, this]
theorem be_inj {n u v : Nat} (h : be n u = be n v) : u % 256 ^ n = v % 256 ^ n := by
  have h1 := be_lex n u v
  have h2 := be_lex n v u
  rw [h] at h1 h2
  have irr : lexN (be n v) (be n v) = false := by rw [be_lex]; simp
  rw [irr] at h1 h2
  have h1 := h1.symm
  have h2 := h2.symm
  rw [decide_eq_false_iff_not] at h1 h2
  omega
/-- The value of a row of bytes. -/
def vb (l : List Nat) : Nat := l.foldl (fun u c => u * 256 + c) 0
theorem vb_snoc (l : List Nat) (c : Nat) : vb (l ++ [c]) = vb l * 256 + c := by simp [vb]
theorem be_take : ∀ (n u k : Nat), k ≤ n → (be n u).take k = be k (u / 256 ^ (n - k))
  | 0, u, k, h => by
    have : k = 0 := by omega
    subst this; rfl
  | n + 1, u, 0, h => rfl
  | n + 1, u, k + 1, h => by
    rw [be, be, List.take_succ_cons, be_take n u k (by omega)]
    have e : n + 1 - (k + 1) = n - k := by omega
    rw [e, Nat.div_div_eq_div_mul, ← Nat.pow_add, show n - k + k = n by omega]
theorem be_last (n u : Nat) : be (n + 1) u = be n (u / 256) ++ [u % 256] := by
  induction n generalizing u with
  | zero => simp [be]
  | succ n ih =>
    rw [be, ih, be, List.cons_append]
    congr 1
    rw [Nat.div_div_eq_div_mul, Nat.pow_succ, Nat.mul_comm]
theorem vb_be (n u : Nat) : vb (be n u) = u % 256 ^ n := by
  induction n generalizing u with
  | zero => simp [be, vb, Nat.mod_one]
  | succ n ih =>
    rw [be_last, vb_snoc, ih, Nat.pow_succ, Nat.mul_comm (256 ^ n), Nat.mod_mul]
    omega
/-- A 64-bit integer moved up into the naturals. -/
def up63 (i : Int) : Nat := (i + 9223372036854775808).toNat
def I64 (i : Int) : Prop := -9223372036854775808 ≤ i ∧ i < 9223372036854775808
theorem up63_lt {i : Int} (h : I64 i) : up63 i < 256 ^ 8 := by unfold up63 I64 at *; omega
def codeI (i : Int) : ByteArray := strOf (be 8 (up63 i))
theorem codeI_size (i : Int) : (codeI i).size = 8 := by unfold codeI; rw [strOf_size, be_len]
theorem codeI_bt (i : Int) : bt (codeI i) = be 8 (up63 i) := bt_strOf (be_lt _ _)
theorem codeI_sl {i j : Int} (hi : I64 i) (hj : I64 j) : sl (codeI i) (codeI j) = decide (i < j) := by
  rw [sl_bt, codeI_bt, codeI_bt, be_lex, Nat.mod_eq_of_lt (up63_lt hi), Nat.mod_eq_of_lt (up63_lt hj), decide_eq_decide]
  unfold up63 I64 at *
  omega
/-- The bytes, zeros up to the width, the length. -/
def padL (s : List Nat) (n : Nat) : List Nat := (s ++ List.replicate (n - s.length) 0) ++ [s.length]
def padB (s : ByteArray) (n : Nat) : ByteArray := strOf (padL (bt s) n)
theorem bt_len (s : ByteArray) : (bt s).length = s.size := by simp
theorem padL_len {s : List Nat} {n : Nat} (h : s.length ≤ n) : (padL s n).length = n + 1 := by simp [padL]; omega
theorem padL_lt {s : ByteArray} {n : Nat} (h : s.size ≤ n) (hn : n < 256) : ∀ x ∈ padL (bt s) n, x < 256 := by
  intro x hx
  unfold padL at hx
  simp only [List.mem_append, List.mem_singleton] at hx
  rcases hx with (hx | hx) | hx
  · exact bt_lt hx
  · rw [List.eq_of_mem_replicate hx]; omega
  · rw [hx, bt_len]; omega
theorem padB_bt {s : ByteArray} {n : Nat} (h : s.size ≤ n) (hn : n < 256) : bt (padB s n) = padL (bt s) n := bt_strOf (padL_lt h hn)
theorem padB_size {s : ByteArray} {n : Nat} (h : s.size ≤ n) : (padB s n).size = n + 1 := by unfold padB; rw [strOf_size, padL_len (by rw [bt_len]; exact h)]
theorem lex_irr (l : List Nat) : lexN l l = false := by
  induction l with
  | nil => rfl
  | cons x l ih => simp [lexN, ih]
/-- Padded to n, and a number behind. -/
def qp (n : Nat) (s : List Nat) (k : Nat) : List Nat := s ++ (List.replicate (n - s.length) 0 ++ [k + s.length])
theorem qp_nil (n k : Nat) : qp (n + 1) [] k = 0 :: qp n [] k := rfl
theorem qp_cons (n x k : Nat) (s : List Nat) : qp (n + 1) (x :: s) k = x :: qp n s (k + 1) := by
  unfold qp
  rw [List.length_cons, Nat.add_sub_add_right, List.cons_append, show k + (s.length + 1) = k + 1 + s.length by omega]
theorem qp_lo : ∀ (n : Nat) (t : List Nat) (k m : Nat), t.length ≤ n → k < m → lexN (qp n [] k) (qp n t m) = true
  | 0, t, k, m, h, hk => by
    have : t = [] := List.length_eq_zero_iff.1 (by omega)
    subst this
    simp [qp, lexN, hk]
  | n + 1, [], k, m, h, hk => by
    rw [qp_nil, qp_nil, lexN, qp_lo n [] k m (by simp) hk]; simp
  | n + 1, y :: t, k, m, h, hk => by
    rw [qp_nil, qp_cons, lexN]
    by_cases h0 : 0 < y
    · simp [h0]
    · have : y = 0 := by omega
      subst this
      rw [qp_lo n t k (m + 1) (by simpa using h) (by omega)]; simp
theorem qp_hi : ∀ (n : Nat) (t : List Nat) (k m : Nat), t.length ≤ n → k < m → lexN (qp n t m) (qp n [] k) = false
  | 0, t, k, m, h, hk => by
    have : t = [] := List.length_eq_zero_iff.1 (by omega)
    subst this
    simp [qp, lexN]
    omega
  | n + 1, [], k, m, h, hk => by
    rw [qp_nil, qp_nil, lexN, qp_hi n [] k m (by simp) hk]; simp
  | n + 1, y :: t, k, m, h, hk => by
    rw [qp_nil, qp_cons, lexN, qp_hi n t k (m + 1) (by simpa using h) (by omega)]; simp
/-- Padding keeps the order. -/
theorem qp_lex : ∀ (n : Nat) (s t : List Nat) (k : Nat), s.length ≤ n → t.length ≤ n → lexN (qp n s k) (qp n t k) = lexN s t
  | 0, s, t, k, hs, ht => by
    have h1 : s = [] := List.length_eq_zero_iff.1 (by omega)
    have h2 : t = [] := List.length_eq_zero_iff.1 (by omega)
    subst h1; subst h2
    rw [lex_irr]; rfl
  | n + 1, [], [], k, hs, ht => by rw [lex_irr]; rfl
  | n + 1, [], y :: t, k, hs, ht => by
    have e : lexN [] (y :: t) = true := rfl
    rw [e, qp_nil, qp_cons, lexN]
    by_cases h0 : 0 < y
    · simp [h0]
    · have : y = 0 := by omega
      subst this
      rw [qp_lo n t k (k + 1) (by simpa using ht) (by omega)]; simp
  | n + 1, x :: s, [], k, hs, ht => by
    have e : lexN (x :: s) [] = false := rfl
    rw [e, qp_nil, qp_cons, lexN, qp_hi n s k (k + 1) (by simpa using hs) (by omega)]; simp
  | n + 1, x :: s, y :: t, k, hs, ht => by
    rw [qp_cons, qp_cons, lexN, lexN, qp_lex n s t (k + 1) (by simpa using hs) (by simpa using ht)]
theorem padL_qp (s : List Nat) (n : Nat) : padL s n = qp n s 0 := by unfold padL qp; rw [List.append_assoc, Nat.zero_add]
theorem padB_sl {s t : ByteArray} {n : Nat} (hs : s.size ≤ n) (ht : t.size ≤ n) (hn : n < 256) : sl (padB s n) (padB t n) = sl s t := by
  rw [sl_bt, sl_bt, padB_bt hs hn, padB_bt ht hn, padL_qp, padL_qp, qp_lex n _ _ 0 (by rw [bt_len]; exact hs) (by rw [bt_len]; exact ht)]
theorem padB_inj {s t : ByteArray} {n : Nat} (hs : s.size ≤ n) (ht : t.size ≤ n) (hn : n < 256) (h : padB s n = padB t n) : s = t := by
  have h1 := padB_sl hs ht hn
  have h2 := padB_sl ht hs hn
  rw [h, sl_irrefl] at h1 h2
  exact sl_total h1.symm h2.symm
/-- A value: a string or an integer. -/
structure Vl where
  st : Bool
  i : Int
  s : ByteArray
/-- Well made, and no longer than a stored string may be. -/
def VOk (v : Vl) : Prop := (v.st = true → v.i = 0 ∧ v.s.size ≤ 7) ∧ (v.st = false → v.s = ⟨#[]⟩ ∧ I64 v.i)
def codeV (v : Vl) : ByteArray := if v.st then padB v.s 7 else codeI v.i
theorem codeV_size {v : Vl} (h : VOk v) : (codeV v).size = 8 := by
  unfold codeV
  cases hs : v.st with
  | true => exact padB_size (h.1 hs).2
  | false => exact codeI_size _
/-- 'a < b' of values of one type. -/
def vlt (a b : Vl) : Bool := if a.st then sl a.s b.s else decide (a.i < b.i)
theorem codeV_sl {a b : Vl} (ha : VOk a) (hb : VOk b) (h : a.st = b.st) : sl (codeV a) (codeV b) = vlt a b := by
  unfold codeV vlt
  cases hs : a.st with
  | true =>
    rw [hs] at h
    rw [← h]
    exact padB_sl (ha.1 hs).2 (hb.1 h.symm).2 (by omega)
  | false =>
    rw [hs] at h
    rw [← h]
    exact codeI_sl (ha.2 hs).2 (hb.2 h.symm).2
theorem vl_ext {a b : Vl} (h1 : a.st = b.st) (h2 : a.i = b.i) (h3 : a.s = b.s) : a = b := by
  cases a; cases b
  simp only at h1 h2 h3
  subst h1; subst h2; subst h3
  rfl
theorem codeV_inj {a b : Vl} (ha : VOk a) (hb : VOk b) (h : a.st = b.st) (e : codeV a = codeV b) : a = b := by
  have h1 := codeV_sl ha hb h
  have h2 := codeV_sl hb ha h.symm
  rw [e, sl_irrefl] at h1 h2
  unfold vlt at h1 h2
  cases hs : a.st with
  | true =>
    have hb' : b.st = true := by rw [← h]; exact hs
    rw [hs] at h1
    rw [hb'] at h2
    exact vl_ext h (by rw [(ha.1 hs).1, (hb.1 hb').1]) (sl_total h1.symm h2.symm)
  | false =>
    have hb' : b.st = false := by rw [← h]; exact hs
    rw [hs] at h1
    rw [hb'] at h2
    have h1 := h1.symm
    have h2 := h2.symm
    simp at h1 h2
    exact vl_ext h (by omega) (by rw [(ha.2 hs).1, (hb.2 hb').1])
end Go.Proofs.Qxb6500564aGreat
