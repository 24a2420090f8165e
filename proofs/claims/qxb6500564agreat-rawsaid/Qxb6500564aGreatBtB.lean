/-
  The pure functions on nodes: childOf, leafPut, leafCut, innerPut, innerCut.
-/
import Derived.Test.Qxb6500564aGreatBtA
import Derived.Test.Qxb6500564aGreatS6
namespace Go.Proofs.Qxb6500564aGreat
open Go.Den Go.Zip
set_option linter.unusedVariables false
set_option linter.unusedSimpArgs false
variable {w w' : World} {p p' i j : Nat} {d : Nd}

def Nd.es (d : Nd) : List (ByteArray × ByteArray) := tab d.n fun t => (d.ky t, d.vl t)
def Nd.ks (d : Nd) : List Nat := tab d.n d.kid
def Nd.ss (d : Nd) : List ByteArray := tab (d.n - 1) d.ky
theorem childOf_spec {k : ByteArray} {K : Int → World → Prop} (h1 : 1 ≤ d.n) (hn : d.n ≤ 5)
    (hK : ∀ (c : Nat) w', c < d.n → (∀ i, i < c → sl k (d.ky i) = false) → (c + 1 < d.n → sl k (d.ky c) = true) → Fr 0 0 w w' → K (c : Int) w') : S.btree_childOf (d.kd : Int) (d.n : Int) (d.ky 0) (d.ky 1) (d.ky 2) (d.ky 3) (d.vl 0) (d.vl 1) (d.vl 2) (d.vl 3) (d.kid 0 : Int) (d.kid 1 : Int) (d.kid 2 : Int) (d.kid 3 : Int) (d.kid 4 : Int) k w K := by
  unfold S.btree_childOf
  refine newN fun w1 c1 f1 s1 => ?_
  refine loopN (fun t st v => ∃ i : Nat, st = ((i : Int), ()) ∧ i + t = d.n ∧ i < d.n ∧ v = w1 ∧ ∀ j, j < i → sl k (d.ky j) = false) d.n ⟨0, rfl, by omega, by omega, rfl, fun j hj => by omega⟩ ?_
  rintro t _ v ⟨i, rfl, ht, hi, rfl, hall⟩ Q hQ
  dsimp only
  refine c1.cn ?_
  rw [W_succ (by omega)]
  refine ifd (fun h => ?_) fun h => hK i _ hi hall (fun h' => absurd h' (by omega)) f1
  refine ⟨by omega, by omega, c1.gk (by omega) ?_⟩
  refine ifn (fun h2 => ?_) fun h2 => hK i _ hi hall (fun _ => h2) f1
  refine let_ (hQ (t - 1) _ _ (by omega) ⟨i + 1, rfl, by omega, by omega, rfl, fun j hj => ?_⟩)
  rcases (by omega : j < i ∨ j = i) with h' | rfl
  · exact hall j h'
  · exact h2
/-- Shifted up by one between j (not with it) and n. -/
def shf {α : Type} (f : Nat → α) (j n t : Nat) : α := if j < t ∧ t ≤ n then f (t - 1) else f t
theorem shf_step {α : Type} {f : Nat → α} {n : Nat} (h1 : 1 ≤ j) (h2 : j ≤ n) : fset (shf f j n) j (shf f j n (j - 1)) = shf f (j - 1) n := by
  funext t
  unfold fset shf
  by_cases e : t = j
  · subst e
    rw [if_pos rfl, if_neg (by omega), if_pos (by omega)]
  · rw [if_neg e]
    by_cases h : j < t ∧ t ≤ n
    · rw [if_pos h, if_pos (by omega)]
    · rw [if_neg h, if_neg (by omega)]
theorem shf_top {α : Type} (f : Nat → α) (n : Nat) : shf f n n = f := by
  funext t
  unfold shf
  rw [if_neg (by omega)]
/-- Shifted down by one from i on, ahead of j. -/
def shl {α : Type} (f : Nat → α) (i j t : Nat) : α := if i ≤ t ∧ t < j then f (t + 1) else f t
theorem shl_step {α : Type} {f : Nat → α} (h1 : i ≤ j) : fset (shl f i j) j (shl f i j (j + 1)) = shl f i (j + 1) := by
  funext t
  unfold fset shl
  by_cases e : t = j
  · subst e
    rw [if_pos rfl, if_neg (by omega), if_pos (by omega)]
  · rw [if_neg e]
    by_cases h : i ≤ t ∧ t < j
    · rw [if_pos h, if_pos (by omega)]
    · rw [if_neg h, if_neg (by omega)]
theorem shl_top {α : Type} (f : Nat → α) (n : Nat) : shl f n n = f := by
  funext t
  unfold shl
  rw [if_neg (by omega)]
theorem ins_hit {k v v0 : ByteArray} {l r : List (ByteArray × ByteArray)} (h : ∀ e ∈ l, sl e.1 k = true) : ins k v (l ++ (k, v0) :: r) = l ++ (k, v) :: r := by
  rw [ins_app h]
  unfold ins
  rw [if_neg (by rw [sl_irrefl]; simp), if_pos rfl]
theorem ins_miss {k v : ByteArray} {l r : List (ByteArray × ByteArray)} (h : ∀ e ∈ l, sl e.1 k = true) (hr : ∀ e, r.head? = some e → sl k e.1 = true) : ins k v (l ++ r) = l ++ (k, v) :: r := by
  rw [ins_app h]
  cases r with
  | nil => rfl
  | cons e r =>
    have h := hr e rfl
    unfold ins
    rw [if_neg (by rw [sl_asym h]; simp), if_neg fun e' => sl_ne h e'.symm]
theorem tab_mem {α : Type} {n : Nat} {f : Nat → α} {x : α} (h : x ∈ tab n f) : ∃ t, t < n ∧ x = f t := by
  unfold tab at h
  obtain ⟨t, ht, rfl⟩ := List.mem_map.1 h
  exact ⟨t, List.mem_range.1 ht, rfl⟩
theorem tab_split {α : Type} {n : Nat} {f : Nat → α} (h : i ≤ n) : tab n f = tab i f ++ tab (n - i) (fun t => f (i + t)) := by
  refine (tab_ext (by simp [tab]; omega) fun t ht => ?_).symm
  rcases Nat.lt_or_ge t i with h' | h'
  · rw [List.getElem?_append_left (by simpa [tab] using h'), tab_get h']
  · rw [List.getElem?_append_right (by simpa [tab] using h')]
    have e : (tab i f).length = i := by simp [tab]
    rw [e, tab_get (by omega)]
    congr 2; omega
theorem tab_cons {α : Type} {n : Nat} {f : Nat → α} : tab (n + 1) f = f 0 :: tab n (fun t => f (t + 1)) := by
  unfold tab
  rw [List.range_succ_eq_map, List.map_cons, List.map_map]
  rfl
theorem lt3 {n : Nat} (h : n ≤ 3) : n = 0 ∨ n = 1 ∨ n = 2 ∨ n = 3 := by omega
theorem tab_insert {α : Type} {n : Nat} {f : Nat → α} {x : α} (h : i ≤ n) : tab (n + 1) (fset (shf f i n) i x) = tab i f ++ x :: tab (n - i) (fun t => f (i + t)) := by
  rw [tab_split (i := i) (by omega), show n + 1 - i = (n - i) + 1 by omega, tab_cons]
  congr 1
  · refine tab_congr fun t ht => ?_
    unfold fset shf
    rw [if_neg (by omega), if_neg (by omega)]
  · congr 1
    · unfold fset; rw [if_pos (by omega)]
    · refine tab_congr fun t ht => ?_
      unfold fset shf
      rw [if_neg (by omega), if_pos (by omega)]
      rfl
theorem tab_erase {α : Type} {n : Nat} {f : Nat → α} (h : i < n) : tab (n - 1) (shl f i (n - 1)) = tab i f ++ tab (n - i - 1) (fun t => f (i + t + 1)) := by
  rw [tab_split (i := i) (by omega), show n - 1 - i = n - i - 1 by omega]
  congr 1
  · refine tab_congr fun t ht => ?_
    unfold shl
    rw [if_neg (by omega)]
  · refine tab_congr fun t ht => ?_
    unfold shl
    rw [if_pos (by omega)]
theorem tab_mid {α : Type} {n : Nat} {f : Nat → α} (h : i < n) : tab n f = tab i f ++ f i :: tab (n - i - 1) (fun t => f (i + t + 1)) := by
  rw [tab_split (i := i) (by omega)]
  congr 1
  rw [show n - i = (n - i - 1) + 1 by omega, tab_cons]
  rfl
theorem es_keys {k : ByteArray} (h : ∀ t, t < i → sl (d.ky t) k = true) : ∀ e ∈ tab i (fun t => (d.ky t, d.vl t)), sl e.1 k = true := fun e he => by
  obtain ⟨t, ht, rfl⟩ := tab_mem he
  exact h t ht
theorem tab_pair {n : Nat} {f g : Nat → ByteArray} {x y : ByteArray} {j : Nat} : (fun t => (fset (shf f i n) j x t, fset (shf g i n) j y t)) = fset (shf (fun t => (f t, g t)) i n) j (x, y) := by
  funext t
  unfold fset shf
  split
  · rfl
  · split <;> rfl
set_option maxHeartbeats 1000000 in
theorem leafPut_spec {k v : ByteArray} {K : Int → Int → ByteArray → ByteArray → ByteArray → ByteArray → ByteArray → ByteArray → ByteArray → ByteArray → Int → Int → Int → Int → Int → World → Prop} (hn : d.n ≤ 3) (hs : Srt d.es) (hK : ∀ (e : Nd) w', e.kd = d.kd → e.es = ins k v d.es → e.n ≤ d.n + 1 → Fr 0 0 w w' → K (e.kd : Int) (e.n : Int) (e.ky 0) (e.ky 1) (e.ky 2) (e.ky 3) (e.vl 0) (e.vl 1) (e.vl 2) (e.vl 3) (e.kid 0 : Int) (e.kid 1 : Int) (e.kid 2 : Int) (e.kid 3 : Int) (e.kid 4 : Int) w') : S.btree_leafPut (d.kd : Int) (d.n : Int) (d.ky 0) (d.ky 1) (d.ky 2) (d.ky 3) (d.vl 0) (d.vl 1) (d.vl 2) (d.vl 3) (d.kid 0 : Int) (d.kid 1 : Int) (d.kid 2 : Int) (d.kid 3 : Int) (d.kid 4 : Int) k v w K := by
  unfold S.btree_leafPut
  refine newN fun w1 c1 f1 s1 => newZ fun w2 z2 f2 s2 => ?_
  have c2 : NB w2 w.heap.size d := c1.fr f2 (by omega)
  refine join_P (fun x v => ∃ i : Nat, x = (i : Int) ∧ i ≤ d.n ∧ (∀ t, t < i → sl (d.ky t) k = true) ∧ (i < d.n → sl (d.ky i) k = false) ∧ w2 = v) ?_ ?_
  · rintro _ _ ⟨i, rfl, hi, hlt, hge, rfl⟩
    refine join_W (fun u => w2 = u ∧ (i < d.n → d.ky i ≠ k)) ?_ ?_
    · rintro _ ⟨rfl, hne⟩
      refine c2.cn ?_
      refine join_W (fun u => NB u w.heap.size { d with ky := shf d.ky i d.n, vl := shf d.vl i d.n } ∧ NB u w1.heap.size nd0 ∧ Fr 0 0 w u) ?_ ?_
      · rintro u ⟨cu, zu, fu⟩
        refine ⟨by omega, by omega, cu.sk (by omega) fun u1 cu1 g1 => ⟨by omega, by omega, cu1.sv (by omega) fun u2 cu2 g2 => cu2.cn ?_⟩⟩
        refine cu2.sn (m := d.n + 1) (W_succ (by show d.n < _; omega)) fun u3 cu3 g3 => ?_
        have G := (g1.trans g2).trans g3
        refine out15 cu3 (zu.fr G (by omega)) fun u4 g4 => hK _ u4 rfl ?_ (Nat.le_refl _) (((fu.thenNew G (Nat.le_refl _)).thenNew g4 (by omega)))
        show tab (d.n + 1) (fun t => (fset (shf d.ky i d.n) i k t, fset (shf d.vl i d.n) i v t)) = _
        rw [tab_pair, tab_insert hi]
        unfold Nd.es
        rw [tab_split (n := d.n) hi, ins_miss (es_keys hlt) fun e he => ?_]
        obtain ⟨t, ht, rfl⟩ := tab_mem (List.mem_of_mem_head? he)
        have h0 : sl k (d.ky i) = true := by
          cases h : sl k (d.ky i) with
          | true => rfl
          | false => exact absurd (sl_total (hge (by omega)) h) (hne (by omega))
        show sl k (d.ky (i + t)) = true
        have hs' := hs
        unfold Nd.es at hs'
        rcases Nat.eq_zero_or_pos t with rfl | hpos
        · exact h0
        · refine sl_trans h0 ?_
          have := List.pairwise_iff_getElem.1 hs' i (i + t) (by simp [tab]; omega) (by simp [tab]; omega) (by omega)
          simpa [tab] using this
      · intro J hJ
        refine loopN (fun m st u => ∃ j : Nat, st = ((j : Int), ()) ∧ j = i + m ∧ j ≤ d.n ∧ NB u w.heap.size { d with ky := shf d.ky j d.n, vl := shf d.vl j d.n } ∧ NB u w1.heap.size nd0 ∧ Fr 0 0 w u) (d.n - i)
          ⟨d.n, rfl, by omega, by omega, by rw [shf_top, shf_top]; exact c2, z2, f1.then0 f2⟩ ?_
        rintro m _ u ⟨j, rfl, hj, hjn, cu, zu, fu⟩ Q hQ
        dsimp only
        refine ifd (fun h => ?_) fun h => hJ _ ⟨by rw [show i = j by omega]; exact cu, zu, fu⟩
        have hj1 : 1 ≤ j := by omega
        rw [show W ((j : Int) - 1) = ((j - 1 : Nat) : Int) by rw [W_id (by omega) (by omega)]; omega]
        refine ⟨by omega, by omega, cu.gk (by omega) ⟨by omega, by omega, cu.sk (by omega) fun u1 cu1 g1 => ⟨by omega, by omega, cu1.gv (by omega) ⟨by omega, by omega, cu1.sv (by omega) fun u2 cu2 g2 => let_ ?_⟩⟩⟩⟩
        have G := g1.trans g2
        refine hQ (m - 1) _ _ (by omega) ⟨j - 1, rfl, by omega, by omega, ?_, zu.fr G (by omega), fu.thenNew G (Nat.le_refl _)⟩
        have e1 := shf_step (f := d.ky) hj1 hjn
        have e2 := shf_step (f := d.vl) hj1 hjn
        rw [← e1, ← e2]
        exact cu2
    · intro J hJ
      refine c2.cn (ifd (fun h => ?_) fun h => hJ _ ⟨rfl, fun h' => absurd h' (by omega)⟩)
      refine ⟨by omega, by omega, c2.gk (by omega) ?_⟩
      rw [strEq]
      refine ifd (fun he => ?_) fun he => hJ _ ⟨rfl, fun _ e => he (by rw [e])⟩
      have he := bt_inj he
      refine ⟨by omega, by omega, c2.sv (by omega) fun u cu g => ?_⟩
      refine out15 cu (z2.fr g (by omega)) fun u4 g4 => hK _ u4 rfl ?_ (by show d.n ≤ d.n + 1; omega) (((f1.then0 f2).thenNew g (Nat.le_refl _)).thenNew g4 (by omega))
      show tab d.n (fun t => (d.ky t, fset d.vl i v t)) = ins k v (tab d.n fun t => (d.ky t, d.vl t))
      have hin : i < d.n := by omega
      rw [tab_mid hin, tab_mid (f := fun t => (d.ky t, d.vl t)) hin, he, ins_hit (es_keys hlt)]
      congr 1
      · refine tab_congr fun t ht => ?_
        rw [fset_ne (by omega)]
      · rw [fset_eq]
        congr 1
        refine tab_congr fun t ht => ?_
        rw [fset_ne (by omega)]
  · intro J hJ
    refine loopN (fun m st u => ∃ i : Nat, st = ((i : Int), ()) ∧ i + m = d.n ∧ w2 = u ∧ ∀ t, t < i → sl (d.ky t) k = true) d.n ⟨0, rfl, by omega, rfl, fun t ht => by omega⟩ ?_
    rintro m _ u ⟨i, rfl, hm, rfl, hall⟩ Q hQ
    dsimp only
    refine c2.cn (ifd (fun h => ?_) fun h => hJ _ _ ⟨i, rfl, by omega, hall, fun h' => absurd h' (by omega), rfl⟩)
    refine ⟨by omega, by omega, c2.gk (by omega) ?_⟩
    refine ifb (fun h2 => ?_) fun h2 => hJ _ _ ⟨i, rfl, by omega, hall, fun _ => h2, rfl⟩
    refine let_ ?_
    rw [W_succ (by omega)]
    refine hQ (m - 1) _ _ (by omega) ⟨i + 1, rfl, by omega, rfl, fun t ht => ?_⟩
    rcases (by omega : t < i ∨ t = i) with h' | rfl
    · exact hall t h'
    · exact h2
end Go.Proofs.Qxb6500564aGreat
