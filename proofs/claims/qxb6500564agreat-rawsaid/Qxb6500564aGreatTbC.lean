/-
  Values, rows and columns in memory; their codes.
-/
import Derived.Test.Qxb6500564aGreatTbB
namespace Go.Proofs.Qxb6500564aGreat
open Go.Den Go.Zip
set_option linter.unusedVariables false
set_option linter.unusedSimpArgs false
variable {w w' : World} {i j n : Nat} {v : Vl} {vs : List Vl} {s : Sl}

def valC (v : Vl) : List Value := [.bool v.st, .int .i64 v.i, .string v.s]
def rowC (vs : List Vl) : List Value := vs.flatMap valC
theorem valC_len (v : Vl) : (valC v).length = 3 := rfl
theorem rowC_len (vs : List Vl) : (rowC vs).length = vs.length * 3 := flat_length (f := valC) (c := 3) valC_len vs
theorem rowC_get {k : Nat} (hk : k < 3) (h : vs[i]? = some v) : (rowC vs)[i * 3 + k]? = (valC v)[k]? := by
  unfold rowC
  rw [flat_get (f := valC) (c := 3) valC_len vs i k hk, h]
  rfl
theorem row_l (h : OS w s (rowC vs) 3) : s.l = vs.length := by
  have := h.len
  rw [rowC_len] at this
  omega
theorem cell3 {g k : Nat} {us : List Value} (b : Blk w g us) (hu : ∀ m, m < (rowC vs).length → us[m]? = (rowC vs)[m]?) (h : vs[i]? = some v) (hk : k < 3) : us[0 + Int.toNat (i : Int) * 3 + k]? = (valC v)[k]? := by
  have hi : i < vs.length := (List.getElem?_eq_some_iff.1 h).1
  rw [Int.toNat_natCast, Nat.zero_add, hu _ (by rw [rowC_len]; omega), rowC_get hk h]
/-- A value of a row is read. -/
theorem rowGet {K : Bool → Int → ByteArray → Prop} (o : OS w s (rowC vs) 3) (h : vs[i]? = some v) (hk : K v.st v.i v.s) :
    Ix s.a s.l (i : Int) fun b o => LdB w ⟨b, o + Int.toNat (i : Int) * 3, none⟩ fun x => LdI .i64 w ⟨b, o + Int.toNat (i : Int) * 3 + 1, none⟩ fun y => LdStr w ⟨b, o + Int.toNat (i : Int) * 3 + 2, none⟩ fun z => K x y z := by
  have hi : i < vs.length := (List.getElem?_eq_some_iff.1 h).1
  refine OS.get o (by rw [row_l o]; exact hi) fun g us b hu _ => ?_
  exact ldB b (cell3 (k := 0) b hu h (by omega)) (ldI b (cell3 (k := 1) b hu h (by omega)) (ldStr b (cell3 (k := 2) b hu h (by omega)) hk))
theorem lay3 {q : Nat} {x : Vl} {vs : List Value} {K : World → Prop} (h : Blk w q vs) (hl : vs.length = 3) (hk : ∀ w', Blk w' q (valC x) → Fr q 1 w w' → K w') : St1 w ⟨q, 0, none⟩ (.bool x.st) fun w => St1 w ⟨q, 1, none⟩ (.int .i64 x.i) fun w => St1 w ⟨q, 2, none⟩ (.string x.s) fun w => K w := by
  match vs, hl with
  | [_, _, _], _ =>
    refine st1 h (by show _ < 3; omega) fun w1 h f1 _ => st1 h (by show _ < 3; omega) fun w2 h f2 _ => st1 h (by show _ < 3; omega) fun w3 h f3 _ => hk w3 h ((f1.trans f2).trans f3)
theorem read3 {q : Nat} {x : Vl} {K : Bool → Int → ByteArray → Prop} (h : Blk w q (valC x)) (hk : K x.st x.i x.s) : LdB w ⟨q, 0, none⟩ fun a => LdI .i64 w ⟨q, 1, none⟩ fun b => LdStr w ⟨q, 2, none⟩ fun c => K a b c := ldB h rfl (ldI h rfl (ldStr h rfl hk))
def vStr (s : ByteArray) : Vl := ⟨true, 0, s⟩
def vInt (i : Int) : Vl := ⟨false, i, ⟨#[]⟩⟩
theorem apiStr_spec {t : ByteArray} {K : Bool → Int → ByteArray → World → Prop} (hK : ∀ w', Fr 0 0 w w' → K true 0 t w') : S.api_Str t w K := by
  unfold S.api_Str
  refine newB fun w1 c1 f1 s1 => lay3 (x := vStr t) c1 rfl fun w2 c2 f2 => read3 c2 (hK w2 (f1.thenNew f2 (Nat.le_refl _)))
theorem apiInt_spec {t : Int} {K : Bool → Int → ByteArray → World → Prop} (hK : ∀ w', Fr 0 0 w w' → K false t ⟨#[]⟩ w') : S.api_Int t w K := by
  unfold S.api_Int
  refine newB fun w1 c1 f1 s1 => lay3 (x := vInt t) c1 rfl fun w2 c2 f2 => read3 c2 (hK w2 (f1.thenNew f2 (Nat.le_refl _)))
theorem codeVal_spec {K : ByteArray → World → Prop} (h : VOk v) (hK : ∀ w', Fr 0 0 w w' → K (codeV v) w') : S.table_codeVal v.st v.i v.s w K := by
  unfold S.table_codeVal
  refine newB fun w1 c1 f1 s1 => ?_
  have c1 : Blk w1 w.heap.size (valC v) := c1
  unfold codeV at hK
  refine ldB c1 rfl ?_
  cases hs : v.st with
  | true =>
    rw [hs] at hK
    rw [if_pos rfl]
    exact ldStr c1 rfl (pad_spec (n := 7) (h.1 hs).2 (by omega) fun w2 f2 => hK w2 (f1.then0 f2))
  | false =>
    rw [hs] at hK
    rw [if_neg (by simp)]
    exact ldI c1 rfl (codeInt_spec (h.2 hs).2 fun w2 f2 => hK w2 (f1.then0 f2))
set_option maxHeartbeats 1000000 in
theorem unpad_spec {t : ByteArray} {K : ByteArray → Bool → World → Prop} (ht : t.size ≤ n) (hn : n < 200) (hK : K t true w) : S.table_unpad (padB t n) (n : Int) w K := by
  unfold S.table_unpad
  have hz : (padB t n).size = n + 1 := padB_size ht
  have hb := padB_bt ht (by omega : n < 256)
  have hl : (bt t).length = t.size := bt_len t
  rw [W_succ (by omega), if_neg (by simp [hz])]
  have gl : (bt (padB t n))[n]? = some t.size := by
    rw [hb]
    unfold padL
    have : (bt t ++ List.replicate (n - (bt t).length) 0).length = n := by simp; omega
    rw [List.getElem?_append_right (by omega), this, Nat.sub_self, hl]
    rfl
  have gz : ∀ m, t.size ≤ m → m < n → (bt (padB t n))[m]? = some 0 := fun m h1 h2 => by
    rw [hb]
    unfold padL
    rw [List.getElem?_append_left (by simp; omega), List.getElem?_append_right (by omega), List.getElem?_replicate, if_pos (by omega)]
  refine ixB gl (let_ ?_)
  rw [W_id (by omega) (by omega)]
  refine ifd (fun h => by omega) fun _ => ?_
  refine join_W (fun u => w = u) ?_ ?_
  · rintro _ rfl
    refine cutStr (lo := 0) (hi := t.size) (by omega) (by omega) ?_
    have e : (padB t n).extract 0 t.size = t := by
      apply bt_inj
      rw [bt_extract, hb, List.drop_zero, Nat.sub_zero]
      unfold padL
      rw [List.append_assoc, List.take_append_of_le_length (by omega), List.take_of_length_le (by omega)]
    rw [e]
    exact hK
  · intro J hJ
    refine loopN (fun m st u => ∃ j : Nat, st = ((j : Int), ()) ∧ t.size ≤ j ∧ j + m = n ∧ w = u) (n - t.size) ⟨t.size, rfl, by omega, by omega, rfl⟩ ?_
    rintro m _ u ⟨j, rfl, h1, hm, rfl⟩ Q hQ
    dsimp only
    refine ifd (fun h2 => ?_) fun h2 => hJ _ rfl
    refine ixB (gz j h1 (by omega)) ?_
    rw [if_neg (by simp)]
    refine let_ ?_
    rw [W_succ (by omega)]
    exact hQ (m - 1) _ _ (by omega) ⟨j + 1, rfl, by omega, by omega, rfl⟩
theorem valOf_spec {K : Bool → Int → ByteArray → Bool → World → Prop} (h : VOk v) (hK : ∀ w', Fr 0 0 w w' → K v.st v.i v.s true w') : S.table_valOf (codeV v) v.st w K := by
  unfold S.table_valOf codeV
  refine newB fun w1 c1 f1 s1 => ?_
  cases hs : v.st with
  | true =>
    rw [if_pos rfl, if_pos rfl]
    have h1 := h.1 hs
    refine unpad_spec (n := 7) h1.2 (by omega) (apiStr_spec fun w2 f2 => ?_)
    refine lay3 (x := vStr v.s) (c1.fr f2 (by omega)) rfl fun w3 c3 f3 => read3 c3 ?_
    have := hK w3 ((f1.then0 f2).thenNew f3 (Nat.le_refl _))
    rw [hs, h1.1] at this
    exact this
  | false =>
    rw [if_neg (by simp), if_neg (by simp)]
    have h1 := h.2 hs
    refine intOf_spec (codeI_size _) (apiInt_spec fun w2 f2 => ?_)
    rw [intP_code h1.2]
    refine lay3 (x := vInt v.i) (c1.fr f2 (by omega)) rfl fun w3 c3 f3 => read3 c3 ?_
    have := hK w3 ((f1.then0 f2).thenNew f3 (Nat.le_refl _))
    rw [hs, h1.1] at this
    exact this
/-- The catalog's key of part i of a table. -/
def catK (name : ByteArray) (i : Nat) : ByteArray := padB name 6 ++ strOf [i]
theorem one_lt {i : Nat} (h : i < 256) : ∀ x ∈ [i], x < 256 := fun x hx => by rw [List.mem_singleton.1 hx]; exact h
theorem catKey_spec {name : ByteArray} {K : ByteArray → World → Prop} (hn : name.size ≤ 6) (hi : i < 256) (hK : ∀ w', Fr 0 0 w w' → K (catK name i) w') : S.table_catKey name (i : Int) w K := by
  unfold S.table_catKey
  have sz := padB_size hn
  have s1 : (strOf [i]).size = 1 := strOf_size _
  refine drew_ ⟨?_, ?_⟩
  · refine pad_spec (n := 6) hn (by omega) fun w1 f1 => newB fun w2 c2 f2 s2 => ?_
    rw [U8_nat, Nat.mod_eq_of_lt hi] at c2
    refine btS c2 (zs := [i]) rfl rfl (one_lt hi) ⟨by omega, hK w2 (Fr.drew f1 |>.then0 f2)⟩
  · refine newB fun w2 c2 f2 s2 => ?_
    rw [U8_nat, Nat.mod_eq_of_lt hi] at c2
    unfold HoldB
    refine btS c2 (zs := [i]) rfl rfl (one_lt hi) (pad_spec (n := 6) hn (by omega) fun w1 f1 => ⟨?_, by omega, hK w1 (f2.then0 f1)⟩)
    rintro us ⟨h1, h2⟩
    refine ⟨h1, h2.elim .inl fun ⟨b, o, e, hc⟩ => .inr ⟨b, o, e, fun k hk => ?_⟩⟩
    cases e
    have c1 := Blk.fr c2 f1 (by omega)
    rw [← hc k hk, c1.cell, c2.cell]
end Go.Proofs.Qxb6500564aGreat
