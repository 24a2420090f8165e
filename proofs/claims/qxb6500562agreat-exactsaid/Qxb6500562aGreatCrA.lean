/-
  The real checker: its tables.
-/
import Derived.Test.Qxb6500562aGreatCkU
import Derived.Test.Qxb6500562aGreatPaRF
namespace Go.Proofs.Qxb6500562aGreat
open Go.Den Go.Zip
set_option linter.unusedVariables false
set_option linter.unusedSimpArgs false

def bktL : List Nat → Nat → Nat
  | [], h => h
  | c :: l, h => bktL l ((h * 5 + c) % 16)
def bkt (nm : ByteArray) : Nat := bktL (bt nm) 0
theorem bktL_lt : ∀ (l : List Nat) (h : Nat), h < 16 → bktL l h < 16
  | [], h, hh => hh
  | c :: l, h, hh => bktL_lt l _ (Nat.mod_lt _ (by omega))
theorem bkt_lt (nm : ByteArray) : bkt nm < 16 := bktL_lt _ _ (by omega)
theorem bucket_spec {w : World} {nm : ByteArray} {K : Int → World → Prop} (hs : nm.size < 9223372036854775807) (hK : K (bkt nm) w) : S.check_Bucket nm w K := by
  unfold S.check_Bucket
  refine loopN (fun m v u => u = w ∧ ∃ h i : Nat, v = ((h : Int), (i : Int), ()) ∧ h < 16 ∧ i ≤ nm.size ∧ m = nm.size - i ∧ bkt nm = bktL ((bt nm).drop i) h) nm.size ⟨rfl, 0, 0, rfl, by omega, by omega, by omega, rfl⟩ ?_
  rintro m _ u ⟨rfl, h, i, rfl, hh, hi, rfl, hb⟩ Q hQ
  dsimp only
  by_cases hlt : i < nm.size
  · rw [if_pos (by simp only [decide_eq_true_eq]; omega)]
    refine ixS hlt ?_
    have hil : i < (bt nm).length := by rw [bt_length]; exact hlt
    have hc : (bt nm).getD i 0 < 256 := getD_lt (fun x hx => bt_lt hx) i
    have hdr : (bt nm).drop i = (bt nm).getD i 0 :: (bt nm).drop (i + 1) := by
      rw [List.drop_eq_getElem_cons hil]
      congr 1
      rw [List.getD_eq_getElem?_getD, List.getElem?_eq_getElem hil]; rfl
    generalize (bt nm).getD i 0 = cc at *
    rw [W_id (x := (cc : Int)) (by omega) (by omega), W_id (x := (h : Int) * 5) (by omega) (by omega), W_id (x := (h : Int) * 5 + (cc : Int)) (by omega) (by omega), show (h : Int) * 5 + (cc : Int) = ((h * 5 + cc : Nat) : Int) by omega]
    have e : And .i64 ((h * 5 + cc : Nat) : Int) 15 = (((h * 5 + cc) % 16 : Nat) : Int) := by
      have := And_nat (a := h * 5 + cc) (b := 15) (by omega) (by omega)
      rw [show ((15 : Nat) : Int) = 15 from rfl] at this
      rw [this, show (15 : Nat) = 2 ^ 4 - 1 from rfl, and_mask]
    rw [e]
    refine let_ (let_ ?_)
    rw [W_succ (by omega)]
    exact hQ _ _ u (by omega) ⟨rfl, _, i + 1, rfl, Nat.mod_lt _ (by omega), by omega, rfl, by rw [hb, hdr]; rfl⟩
  · rw [if_neg (by simp only [decide_eq_true_eq]; omega)]
    rw [List.drop_of_length_le (by rw [bt_length]; omega)] at hb
    have : bkt nm = h := hb
    rw [← this]; exact hK
/-- The youngest entry of a bucket among the first n. -/
def lastB (l : List ByteArray) (b : Nat) : Nat → Int
  | 0 => -1
  | n + 1 => if bkt (l.getD n ⟨#[]⟩) = b then (n : Int) else lastB l b n
theorem lastB_spec (l : List ByteArray) (b : Nat) : ∀ n, (lastB l b n = -1 ∧ ∀ j, j < n → bkt (l.getD j ⟨#[]⟩) ≠ b) ∨ ∃ k : Nat, lastB l b n = k ∧ k < n ∧ bkt (l.getD k ⟨#[]⟩) = b ∧ ∀ j, k < j → j < n → bkt (l.getD j ⟨#[]⟩) ≠ b
  | 0 => .inl ⟨rfl, fun j hj => by omega⟩
  | n + 1 => by
    unfold lastB
    split
    · rename_i h
      exact .inr ⟨n, rfl, by omega, h, fun j j1 j2 => by omega⟩
    · rename_i h
      rcases lastB_spec l b n with ⟨h1, h2⟩ | ⟨k, h1, h2, h3, h4⟩
      · refine .inl ⟨h1, fun j hj => ?_⟩
        by_cases e : j = n
        · subst e; exact h
        · exact h2 j (by omega)
      · refine .inr ⟨k, h1, by omega, h3, fun j j1 j2 => ?_⟩
        by_cases e : j = n
        · subst e; exact h
        · exact h4 j j1 (by omega)
theorem lastB_congr {l l' : List ByteArray} {b : Nat} : ∀ {n : Nat}, (∀ j, j < n → l'.getD j ⟨#[]⟩ = l.getD j ⟨#[]⟩) → lastB l' b n = lastB l b n
  | 0, _ => rfl
  | n + 1, h => by unfold lastB; rw [h n (by omega), lastB_congr fun j hj => h j (by omega)]
theorem lastN_skip {l : List ByteArray} {nm : ByteArray} {k : Nat} : ∀ {n : Nat}, k ≤ n → (∀ j, k ≤ j → j < n → bt (l.getD j ⟨#[]⟩) ≠ bt nm) → lastN l nm n = lastN l nm k
  | 0, hk, _ => by rw [show k = 0 by omega]
  | n + 1, hk, h => by
    by_cases e : k = n + 1
    · rw [e]
    · have e1 : lastN l nm (n + 1) = if bt (l.getD n ⟨#[]⟩) = bt nm then (n : Int) else lastN l nm n := rfl
      rw [e1, if_neg (h n (by omega) (by omega)), lastN_skip (by omega) fun j j1 j2 => h j j1 (by omega)]
/-- A table at offset o: names with their buckets and chains. -/
structure TAB (f : Nat → Value) (o : Nat) (l : List ByteArray) : Prop where
  n : f (o + 160) = .int .i64 l.length
  le : l.length ≤ 24
  hd : ∀ b, b < 16 → f (o + b) = .int .i64 (lastB l b l.length)
  nm : ∀ k, k < l.length → f (o + 16 + k * 6) = .string (l.getD k ⟨#[]⟩)
  bk : ∀ k, k < l.length → f (o + 16 + k * 6 + 4) = .int .i64 (bkt (l.getD k ⟨#[]⟩))
  nx : ∀ k, k < l.length → f (o + 16 + k * 6 + 5) = .int .i64 (lastB l (bkt (l.getD k ⟨#[]⟩)) k)
  sz : ∀ k, k < l.length → (l.getD k ⟨#[]⟩).size ≤ 4096
theorem TAB.off {f : Nat → Value} {o : Nat} {l : List ByteArray} (h : TAB f o l) {j : Nat} {v : Value} (hj : j < o ∨ o + 161 ≤ j ∨ (o + 16 ≤ j ∧ j < o + 160 ∧ ((j - (o + 16)) % 6 = 1 ∨ (j - (o + 16)) % 6 = 2 ∨ (j - (o + 16)) % 6 = 3))) : TAB (fset f j v) o l := by
  have hl := h.le
  refine ⟨by rw [fset_ne (by omega)]; exact h.n, h.le, fun b hb => by rw [fset_ne (by omega)]; exact h.hd b hb, fun k hk => ?_, fun k hk => ?_, fun k hk => ?_, h.sz⟩
  · rw [fset_ne (by omega)]; exact h.nm k hk
  · rw [fset_ne (by omega)]; exact h.bk k hk
  · rw [fset_ne (by omega)]; exact h.nx k hk
section
variable {w w' : World} {c : Nat} {f : Nat → Value} {o : Nat} {l : List ByteArray}
theorem ldF {j : Nat} {m : Int} {K : Int → Prop} (h : Blk w c (tab 420 f)) (hj : j < 420) (hv : f j = .int .i64 m) (hK : K m) : LdI .i64 w ⟨c, j, none⟩ K := ldI h (by rw [tab_get hj, hv]) hK
theorem ldFS {j : Nat} {m : ByteArray} {K : ByteArray → Prop} (h : Blk w c (tab 420 f)) (hj : j < 420) (hv : f j = .string m) (hK : K m) : LdStr w ⟨c, j, none⟩ K := ldStr h (by rw [tab_get hj, hv]) hK
theorem ldFL {j : Nat} {a : Option Addr} {n m : Nat} {K : Sl → Prop} (h : Blk w c (tab 420 f)) (hj : j < 420) (hv : f j = .slice a n m) (hK : K ⟨a, n, m⟩) : LdS w ⟨c, j, none⟩ K := ldS h (by rw [tab_get hj, hv]) hK
theorem stF {j : Nat} {v : Value} {K : World → Prop} (h : Blk w c (tab 420 f)) (hj : j < 420) (hK : ∀ w', Blk w' c (tab 420 (fset f j v)) → Fr c 1 w w' → w'.heap.size = w.heap.size → K w') : St1 w ⟨c, j, none⟩ v K :=
  st1 h (by simpa [tab] using hj) fun w' b' f' s' => hK w' (by rw [tab_set] at b'; exact b') f' s'
theorem tfind_spec {nm : ByteArray} {K : Int → World → Prop} (h : Blk w c (tab 420 f)) (ht : TAB f o l) (ho : o + 161 ≤ 420) (hs : nm.size ≤ 4096) (hK : K (nameIx l nm) w.drew) : S.check_table_find c o nm w K := by
  unfold S.check_table_find
  refine drew_ ?_
  have h := h.drew
  generalize w.drew = w at *
  refine bucket_spec (by omega) ?_
  have hb := bkt_lt nm
  refine ⟨by omega, by omega, ?_⟩
  have hl := ht.le
  refine ldF h (by omega) (m := lastB l (bkt nm) l.length) ?_ ?_
  · rw [Int.toNat_natCast, Nat.mul_one]; exact ht.hd _ hb
  refine loopN (fun m v u => u = w ∧ ∃ j : Nat, v = (lastB l (bkt nm) j, ()) ∧ j ≤ l.length ∧ m = j ∧ nameIx l nm = lastN l nm j) l.length ⟨rfl, l.length, rfl, by omega, rfl, rfl⟩ ?_
  rintro m _ u ⟨rfl, j, rfl, hj, rfl, hix⟩ Q hQ
  dsimp only
  rcases lastB_spec l (bkt nm) m with ⟨e1, e2⟩ | ⟨k, e1, e2, e3, e4⟩
  · rw [if_neg (by rw [e1]; decide)]
    have : nameIx l nm = -1 := by
      rw [hix]
      exact lastN_none fun j' hj' he => e2 j' hj' (by unfold bkt; rw [he])
    rw [e1, ← this]
    exact hK
  · rw [e1, if_pos (by simp)]
    have hskip : nameIx l nm = lastN l nm (k + 1) := by
      rw [hix]
      exact lastN_skip (by omega) fun j' j1 j2 he => e4 j' (by omega) j2 (by unfold bkt; rw [he])
    refine ⟨by omega, by omega, ?_⟩
    rw [Int.toNat_natCast]
    refine ldFS h (by omega) (ht.nm k (by omega)) ?_
    rw [strEq]
    unfold lastN at hskip
    by_cases hn : bt (l.getD k ⟨#[]⟩) = bt nm
    · rw [if_neg (by rw [decide_eq_true hn]; decide)]
      rw [if_pos hn] at hskip
      rw [← hskip]; exact hK
    · rw [if_pos (by rw [decide_eq_false hn]; rfl)]
      rw [if_neg hn] at hskip
      refine ⟨by omega, by omega, ?_⟩
      refine ldF h (by omega) (ht.nx k (by omega)) ?_
      rw [e3]
      exact hQ k _ u (by omega) ⟨rfl, k, rfl, by omega, rfl, hskip⟩
theorem getD_app (l : List ByteArray) (nm : ByteArray) (j : Nat) : (l ++ [nm]).getD j ⟨#[]⟩ = if j = l.length then nm else l.getD j ⟨#[]⟩ := by
  by_cases h : j < l.length
  · rw [if_neg (by omega), List.getD_eq_getElem?_getD, List.getD_eq_getElem?_getD, List.getElem?_append_left h]
  · by_cases h2 : j = l.length
    · subst h2; simp
    · rw [if_neg h2, List.getD_eq_getElem?_getD, List.getD_eq_getElem?_getD, List.getElem?_eq_none (by simp; omega), List.getElem?_eq_none (by omega)]
/-- What push writes. -/
def pushF (f : Nat → Value) (o : Nat) (l : List ByteArray) (nm : ByteArray) (ty slot level : Int) : Nat → Value :=
  fset (fset (fset (fset (fset (fset (fset (fset f (o + 16 + l.length * 6) (.string nm)) (o + 16 + l.length * 6 + 1) (.int .i64 ty)) (o + 16 + l.length * 6 + 2) (.int .i64 slot)) (o + 16 + l.length * 6 + 3) (.int .i64 level)) (o + 16 + l.length * 6 + 4) (.int .i64 (bkt nm))) (o + 16 + l.length * 6 + 5) (.int .i64 (lastB l (bkt nm) l.length))) (o + bkt nm) (.int .i64 l.length)) (o + 160) (.int .i64 ((l.length + 1 : Nat) : Int))
theorem pushF_tab {nm : ByteArray} {ty slot level : Int} (ht : TAB f o l) (hn : l.length < 24) (hs : nm.size ≤ 4096) : TAB (pushF f o l nm ty slot level) o (l ++ [nm]) := by
  have hb := bkt_lt nm
  have hlast : ∀ b n, n ≤ l.length → lastB (l ++ [nm]) b n = lastB l b n := fun b n hn => lastB_congr fun j hj => by rw [getD_app, if_neg (by omega)]
  have hlen : (l ++ [nm]).length = l.length + 1 := by simp
  refine ⟨?_, by rw [hlen]; omega, fun b hbb => ?_, fun k hk => ?_, fun k hk => ?_, fun k hk => ?_, fun k hk => ?_⟩
  · unfold pushF
    rw [fset_eq, hlen]
  · rw [hlen]
    show pushF f o l nm ty slot level (o + b) = .int .i64 (if bkt ((l ++ [nm]).getD l.length ⟨#[]⟩) = b then (l.length : Int) else lastB (l ++ [nm]) b l.length)
    rw [getD_app, if_pos rfl, hlast _ _ (Nat.le_refl _)]
    unfold pushF
    rw [fset_ne (by omega)]
    by_cases e : bkt nm = b
    · subst e
      rw [fset_eq, if_pos rfl]
    · rw [fset_ne (by omega), if_neg e, fset_ne (by omega), fset_ne (by omega), fset_ne (by omega), fset_ne (by omega), fset_ne (by omega), fset_ne (by omega)]
      exact ht.hd b hbb
  · rw [hlen] at hk
    rw [getD_app]
    unfold pushF
    rw [fset_ne (by omega), fset_ne (by omega), fset_ne (by omega), fset_ne (by omega), fset_ne (by omega), fset_ne (by omega), fset_ne (by omega)]
    by_cases e : k = l.length
    · subst e; rw [fset_eq, if_pos rfl]
    · rw [fset_ne (by omega), if_neg e]; exact ht.nm k (by omega)
  · rw [hlen] at hk
    rw [getD_app]
    unfold pushF
    rw [fset_ne (by omega), fset_ne (by omega), fset_ne (by omega)]
    by_cases e : k = l.length
    · subst e; rw [fset_eq, if_pos rfl]
    · rw [fset_ne (by omega), fset_ne (by omega), fset_ne (by omega), fset_ne (by omega), fset_ne (by omega), if_neg e]; exact ht.bk k (by omega)
  · rw [hlen] at hk
    rw [getD_app, hlast _ _ (by omega)]
    unfold pushF
    rw [fset_ne (by omega), fset_ne (by omega)]
    by_cases e : k = l.length
    · subst e; rw [fset_eq, if_pos rfl]
    · rw [fset_ne (by omega), fset_ne (by omega), fset_ne (by omega), fset_ne (by omega), fset_ne (by omega), fset_ne (by omega), if_neg e]; exact ht.nx k (by omega)
  · rw [hlen] at hk
    rw [getD_app]
    split
    · exact hs
    · exact ht.sz k (by omega)
theorem pushF_off {nm : ByteArray} {ty slot level : Int} {j : Nat} (hj : j < o ∨ o + 161 ≤ j) (hn : l.length < 24) : pushF f o l nm ty slot level j = f j := by
  have hb := bkt_lt nm
  unfold pushF
  rw [fset_ne (by omega), fset_ne (by omega), fset_ne (by omega), fset_ne (by omega), fset_ne (by omega), fset_ne (by omega), fset_ne (by omega), fset_ne (by omega)]
theorem pushF_pay {nm : ByteArray} {ty slot level : Int} {k i : Nat} (hk : k < l.length) (hi : i = 1 ∨ i = 2 ∨ i = 3) (hn : l.length < 24) : pushF f o l nm ty slot level (o + 16 + k * 6 + i) = f (o + 16 + k * 6 + i) := by
  have hb := bkt_lt nm
  unfold pushF
  rw [fset_ne (by omega), fset_ne (by omega), fset_ne (by omega), fset_ne (by omega), fset_ne (by omega), fset_ne (by omega), fset_ne (by omega), fset_ne (by omega)]
theorem pushF_new {nm : ByteArray} {ty slot level : Int} (hn : l.length < 24) : pushF f o l nm ty slot level (o + 16 + l.length * 6 + 1) = .int .i64 ty ∧ pushF f o l nm ty slot level (o + 16 + l.length * 6 + 2) = .int .i64 slot ∧ pushF f o l nm ty slot level (o + 16 + l.length * 6 + 3) = .int .i64 level := by
  have hb := bkt_lt nm
  unfold pushF
  refine ⟨?_, ?_, ?_⟩
  · rw [fset_ne (by omega), fset_ne (by omega), fset_ne (by omega), fset_ne (by omega), fset_ne (by omega), fset_ne (by omega), fset_eq]
  · rw [fset_ne (by omega), fset_ne (by omega), fset_ne (by omega), fset_ne (by omega), fset_ne (by omega), fset_eq]
  · rw [fset_ne (by omega), fset_ne (by omega), fset_ne (by omega), fset_ne (by omega), fset_eq]
theorem tpush_spec {nm : ByteArray} {ty slot level : Int} {K : World → Prop} (h : Blk w c (tab 420 f)) (ht : TAB f o l) (ho : o + 161 ≤ 420) (hn : l.length < 24) (hs : nm.size ≤ 4096)
    (hK : ∀ w', Blk w' c (tab 420 (pushF f o l nm ty slot level)) → Fr c 1 w w' → K w') : S.check_table_push c o nm ty slot level w K := by
  unfold S.check_table_push
  refine bucket_spec (by omega) (drew_ ?_)
  have hb := bkt_lt nm
  have h := h.drew
  have F0 : Fr c 1 w w.drew := (Fr.refl c 1 w).drew
  generalize w.drew = w1 at *
  refine ldF h (by omega) ht.n ?_
  refine ⟨by omega, by omega, ?_⟩
  rw [Int.toNat_natCast, Nat.mul_one]
  refine ldF h (by omega) (ht.hd _ hb) ?_
  refine ⟨by omega, by omega, ?_⟩
  rw [Int.toNat_natCast]
  refine stF h (by omega) fun u1 b1 f1 _ => ?_
  refine stF b1 (by omega) fun u2 b2 f2 _ => ?_
  refine stF b2 (by omega) fun u3 b3 f3 _ => ?_
  refine stF b3 (by omega) fun u4 b4 f4 _ => ?_
  refine stF b4 (by omega) fun u5 b5 f5 _ => ?_
  refine stF b5 (by omega) fun u6 b6 f6 _ => ?_
  refine drew_ ?_
  have b6 := b6.drew
  have F6 : Fr c 1 w u6.drew := ((((((F0.trans f1).trans f2).trans f3).trans f4).trans f5).trans f6).drew
  generalize u6.drew = u6 at *
  have hn6 : ∀ v1 v2 v3 v4 v5 v6, (fset (fset (fset (fset (fset (fset f (o + 16 + l.length * 6) v1) (o + 16 + l.length * 6 + 1) v2) (o + 16 + l.length * 6 + 2) v3) (o + 16 + l.length * 6 + 3) v4) (o + 16 + l.length * 6 + 4) v5) (o + 16 + l.length * 6 + 5) v6) (o + 160) = .int .i64 l.length := fun v1 v2 v3 v4 v5 v6 => by
    rw [fset_ne (by omega), fset_ne (by omega), fset_ne (by omega), fset_ne (by omega), fset_ne (by omega), fset_ne (by omega)]; exact ht.n
  refine ldF b6 (by omega) (hn6 _ _ _ _ _ _) ?_
  refine ⟨by omega, by omega, ?_⟩
  refine stF b6 (by omega) fun u7 b7 f7 _ => ?_
  refine ldF b7 (by omega) (m := l.length) (by rw [fset_ne (by omega)]; exact hn6 _ _ _ _ _ _) ?_
  rw [W_succ (by omega)]
  refine stF b7 (by omega) fun u8 b8 f8 _ => ?_
  exact hK u8 b8 ((F6.trans f7).trans f8)
end
end Go.Proofs.Qxb6500562aGreat
