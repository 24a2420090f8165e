/-
  SortRows: the walk.
-/
import Derived.Test.Qxb6500564aGreatMcE
namespace Go.Proofs.Qxb6500564aGreat
open Go.Den Go.Zip
set_option linter.unusedVariables false
set_option linter.unusedSimpArgs false
variable {w w' u v : World} {i j n q g b : Nat} {s r x : Sl} {row : List Vl} {rows : List (List Vl)} {ss : List Sl}

/-- A slice is laid into a place of a list of slices. -/
theorem ssSet {t : Sl} {K : World → Prop} (o : OS w r (ss.map slV) 1) (hi : i < ss.length) (hk : ∀ w', OS w' r ((ss.set i t).map slV) 1 → FrP (owns r) w w' → K w') :
    Ix r.a r.l (i : Int) fun b o => St1 w ⟨b, o + Int.toNat (i : Int) * 1, none⟩ (.slice t.a t.l t.c) K := by
  have hl := o.len
  rw [List.length_map] at hl
  rcases o with ⟨rfl, e⟩ | ⟨g, a, e, c, junk, d, e2⟩
  · exact absurd hl (by intro h; have : ss.length = 0 := h.trans (Nat.zero_mul _); omega)
  · refine ix a (by omega) (by omega) (st1 (o := 0 + Int.toNat (i : Int) * 1) d (by rw [Int.toNat_natCast, List.length_append, List.length_map]; omega) fun w' b' f' _ => hk w' (.inr ⟨g, a, ?_, c, junk, ?_, ?_⟩) (FrP.of f' fun b h1 h2 => ?_))
    · rw [List.length_map, List.length_set, Nat.mul_one]; omega
    · rw [Int.toNat_natCast, Nat.zero_add, Nat.mul_one, List.set_append_left _ _ (by rw [List.length_map]; exact hi)] at b'
      rw [List.map_set]
      exact b'
    · rw [List.length_append, List.length_map, List.length_set]
      rw [List.length_append, List.length_map] at e2
      exact e2
    · rw [show b = g by omega]; exact a
abbrev Pr := Sl × List Vl
def psS (ps : List Pr) : List Sl := ps.map (·.1)
theorem psS_get {ps : List Pr} {p : Pr} (h : ps[i]? = some p) : (psS ps)[i]? = some p.1 := by unfold psS; rw [List.getElem?_map, h]; rfl
/-- Rows as pairs: a slice and its values. -/
def PA (w0 w : World) (r : Sl) (ps : List Pr) : Prop := OS w r ((psS ps).map slV) 1 ∧ (∀ p ∈ ps, OS w p.1 (rowC p.2) 3 ∧ ∀ b, owns p.1 b → ¬ owns r b) ∧ FrP (owns r) w0 w
theorem PA.fr0 {w0 : World} {ps : List Pr} (h : PA w0 w r ps) (F : Fr 0 0 w w') : PA w0 w' r ps := ⟨OS.fr0 h.1 F, fun p hp => ⟨OS.fr0 (h.2.1 p hp).1 F, (h.2.1 p hp).2⟩, h.2.2.trans (FrP.of0 F)⟩
theorem PA.dr {w0 : World} {ps : List Pr} (h : PA w0 w r ps) : PA w0 w.drew r ps := ⟨OS.dr h.1, fun p hp => ⟨OS.dr (h.2.1 p hp).1, (h.2.1 p hp).2⟩, h.2.2.drew⟩
theorem PA.get {w0 : World} {ps : List Pr} {p : Pr} {K : Sl → Prop} (h : PA w0 w r ps) (hi : ps[i]? = some p) (hk : K p.1) : Ix r.a r.l (i : Int) fun b o => LdS w ⟨b, o + Int.toNat (i : Int) * 1, none⟩ K := ss_get (psS_get hi) (o := h.1) hk
theorem PA.set {w0 : World} {ps : List Pr} {p : Pr} {K : World → Prop} (h : PA w0 w r ps) (hi : i < ps.length) (hp : OS w p.1 (rowC p.2) 3 ∧ ∀ b, owns p.1 b → ¬ owns r b) (hk : ∀ w', PA w0 w' r (ps.set i p) → FrP (owns r) w w' → K w') :
    Ix r.a r.l (i : Int) fun b o => St1 w ⟨b, o + Int.toNat (i : Int) * 1, none⟩ (.slice p.1.a p.1.l p.1.c) K := by
  refine ssSet (t := p.1) h.1 (by unfold psS; rw [List.length_map]; exact hi) fun w' o' F => hk w' ⟨?_, fun p' hp' => ?_, h.2.2.trans F⟩ F
  · unfold psS
    rw [List.map_set]
    exact o'
  · rcases List.mem_or_eq_of_mem_set hp' with hp' | rfl
    · exact ⟨(h.2.1 p' hp').1.frp F (h.2.1 p' hp').2, (h.2.1 p' hp').2⟩
    · exact ⟨hp.1.frp F hp.2, hp.2⟩
theorem swap_eq {α : Type} (A : List α) (y x : α) (C : List α) : ((A ++ y :: x :: C).set A.length x).set (A.length + 1) y = A ++ x :: y :: C := by
  rw [List.set_append_right _ _ (Nat.le_refl _), Nat.sub_self, List.set_cons_zero, List.set_append_right _ _ (by omega), Nat.add_sub_cancel_left, List.set_cons_succ, List.set_cons_zero]
set_option maxHeartbeats 4000000 in
theorem sortPs_spec {col : Nat} {desc : Bool} {ps : List Pr} {K : World → Prop} (h : PA w w r ps) (hl : ps.length ≤ 1000) (hc : ∀ p ∈ ps, col < p.2.length)
    (hK : ∀ w', PA w w' r (sortG (fun a b => okS col desc a.2 b.2) ps) → K w') : S.api_SortRows r (col : Int) desc w K := by
  unfold S.api_SortRows
  have hrl : ∀ {u : World} {qs : List Pr}, PA w u r qs → r.l = qs.length := fun {u qs} h => by
    have := h.1.len
    unfold psS at this
    rw [List.length_map, List.length_map] at this
    omega
  have hr := hrl h
  let ok : Pr → Pr → Bool := fun a b => okS col desc a.2 b.2
  have s1 : ∀ l : List Pr, l.length ≤ 1 → sortG ok l = l := fun l hl => by
    match l, hl with
    | [], _ => rfl
    | [a], _ => rfl
  refine loopN (fun m st u => ∃ k : Nat, st = ((k : Int), ()) ∧ 1 ≤ k ∧ k + m = ps.length + 1 ∧ PA w u r (sortG ok (ps.take k) ++ ps.drop k)) ps.length ⟨1, rfl, by omega, by omega, by rw [s1 _ (by rw [List.length_take]; omega), List.take_append_drop]; exact h⟩ ?_
  rintro m _ u ⟨k, rfl, hk1, hm, hu⟩ Q hQ
  dsimp only
  refine ifd (fun hk => ?_) fun hk => ?_
  · have hk' : k < ps.length := by omega
    obtain ⟨x, hx⟩ : ∃ x, ps[k]? = some x := ⟨_, List.getElem?_eq_getElem hk'⟩
    have hxm := List.mem_of_getElem? hx
    have hdrop : ps.drop k = x :: ps.drop (k + 1) := by
      rw [List.drop_eq_getElem_cons hk']
      congr 1
      rw [List.getElem?_eq_getElem hk'] at hx
      exact Option.some.inj hx
    have htake : ps.take (k + 1) = ps.take k ++ [x] := by rw [List.take_add_one, hx]; rfl
    have hslen : (sortG ok (ps.take k)).length = k := by rw [(sortG_perm _).length_eq, List.length_take]; omega
    refine join_W (fun v => PA w v r (sortG ok (ps.take (k + 1)) ++ ps.drop (k + 1))) ?_ ?_
    · intro v hv
      refine let_ ?_
      rw [W_succ (by omega)]
      exact hQ (m - 1) _ _ (by omega) ⟨k + 1, rfl, by omega, by omega, hv⟩
    · intro J hJ
      have fin : ∀ {v : World} {A B : List Pr}, A ++ B = sortG ok (ps.take k) → (∀ y ∈ B, ok y x = false) → (∀ y, A.getLast? = some y → ok y x = true) → PA w v r (A ++ x :: B ++ ps.drop (k + 1)) → J v := fun {v A B} hAB hB hA hv => by
        refine hJ v ?_
        rw [htake, sortG_snoc, ← hAB, List.reverse_append, insRev_pass x B.reverse (fun y hy => hB y (by simpa using hy)) (fun y hy => hA y (by rw [List.head?_reverse] at hy; exact hy))]
        rw [List.reverse_append, List.reverse_cons, List.reverse_reverse, List.reverse_reverse]
        have : A ++ [x] ++ B ++ ps.drop (k + 1) = A ++ x :: B ++ ps.drop (k + 1) := by simp
        rw [this]
        exact hv
      refine loopN (fun m st v => ∃ (A B : List Pr), st = ((A.length : Int), ()) ∧ m = A.length ∧ A ++ B = sortG ok (ps.take k) ∧ (∀ y ∈ B, ok y x = false) ∧ PA w v r (A ++ x :: B ++ ps.drop (k + 1))) k
        ⟨sortG ok (ps.take k), [], by rw [hslen], hslen.symm, List.append_nil _, fun y hy => (by cases hy), by rw [List.append_assoc]; show PA w u r (_ ++ (x :: ps.drop (k + 1))); rw [← hdrop]; exact hu⟩ ?_
      rintro m' _ v ⟨A, B, rfl, rfl, hAB, hB, hv⟩ Q' hQ'
      dsimp only
      have hAk : A.length ≤ k := by
        have := congrArg List.length hAB
        rw [List.length_append, hslen] at this
        omega
      refine ifd (fun hj => ?_) fun hj => ?_
      · obtain ⟨A', y, rfl⟩ : ∃ A' y, A = A' ++ [y] := by
          rcases List.eq_nil_or_concat A with rfl | ⟨A', y, e⟩
          · simp at hj
          · exact ⟨A', y, by simpa using e⟩
        rw [List.length_append, List.length_singleton] at hAk
        have ej : W (((A' ++ [y]).length : Int) - 1) = (A'.length : Int) := by
          rw [List.length_append, List.length_singleton, W_id (by omega) (by omega)]; omega
        have ej1 : ((A' ++ [y]).length : Int) = ((A'.length + 1 : Nat) : Int) := by rw [List.length_append, List.length_singleton]
        have el : A' ++ [y] ++ x :: B ++ ps.drop (k + 1) = A' ++ y :: x :: (B ++ ps.drop (k + 1)) := by simp
        rw [el] at hv
        have gy : (A' ++ y :: x :: (B ++ ps.drop (k + 1)))[A'.length]? = some y := by simp
        have gx : (A' ++ y :: x :: (B ++ ps.drop (k + 1)))[A'.length + 1]? = some x := by rw [List.getElem?_append_right (by omega), Nat.add_sub_cancel_left]; rfl
        have hym : y ∈ ps := by
          have : y ∈ sortG ok (ps.take k) := by rw [← hAB]; simp
          exact List.mem_of_mem_take ((sortG_perm _).mem_iff.1 this)
        have hcy := hc y hym
        have hcx := hc x hxm
        have oy := hv.2.1 y (by simp)
        have ox := hv.2.1 x (by simp)
        have vd := hv.dr
        have hsum : (A' ++ y :: x :: (B ++ ps.drop (k + 1))).length = ps.length := by rw [← hrl hv, hr]
        rw [ej, ej1]
        refine drew_ (vd.get gy (rowGet (OS.dr oy.1) (getD_some hcy) (vd.get gx (rowGet (OS.dr ox.1) (getD_some hcx) (cmp_spec fun v2 f2 => ?_)))))
        have hv2 := vd.fr0 f2
        have brk : ok y x = true → J v2 := fun hok => by
          refine fin hAB hB (fun z hz => ?_) (by rw [el]; exact hv2)
          rw [List.getLast?_append, List.getLast?_singleton] at hz
          cases hz
          exact hok
        have swp : ok y x = false → Drew v2 fun w => Ix r.a r.l ((A'.length + 1 : Nat) : Int) fun b24 o25 => LdS w ⟨b24, o25 + Int.toNat ((A'.length + 1 : Nat) : Int) * 1, none⟩ fun x_26 =>
            Ix r.a r.l (A'.length : Int) fun b27 o28 => LdS w ⟨b27, o28 + Int.toNat (A'.length : Int) * 1, none⟩ fun x_29 =>
            Ix r.a r.l (A'.length : Int) fun b30 o31 => St1 w ⟨b30, o31 + Int.toNat (A'.length : Int) * 1, none⟩ (.slice x_26.a x_26.l x_26.c) fun w =>
            Ix r.a r.l ((A'.length + 1 : Nat) : Int) fun b32 o33 => St1 w ⟨b32, o33 + Int.toNat ((A'.length + 1 : Nat) : Int) * 1, none⟩ (.slice x_29.a x_29.l x_29.c) fun w =>
            Let (A'.length : Int) fun j_34 => Q' (j_34, ()) w := fun hok => by
          have v2d := hv2.dr
          have oy2 := v2d.2.1 y (by simp)
          have ox2 := v2d.2.1 x (by simp)
          refine drew_ (v2d.get gx (v2d.get gy (v2d.set (p := x) (by rw [hsum]; have := congrArg List.length el; omega) ox2 fun v3 hv3 F3 => hv3.set (p := y) (by rw [List.length_set, hsum]; have := congrArg List.length hAB; rw [List.length_append, List.length_append, hslen] at this; simp at this; omega) ⟨oy2.1.frp F3 oy2.2, oy2.2⟩ fun v4 hv4 F4 => let_ ?_)))
          rw [swap_eq] at hv4
          refine hQ' A'.length _ _ (by rw [List.length_append]; simp) ⟨A', y :: B, rfl, rfl, by rw [← hAB]; simp, fun z hz => ?_, ?_⟩
          · rcases List.mem_cons.1 hz with rfl | hz
            · exact hok
            · exact hB z hz
          · have : A' ++ x :: y :: B ++ ps.drop (k + 1) = A' ++ x :: y :: (B ++ ps.drop (k + 1)) := by simp
            rw [this]
            exact hv4
        rw [join_eq]
        have hok : ok y x = (if desc then decide (cmpV (y.2.getD col v0) (x.2.getD col v0) ≥ 0) else decide (cmpV (y.2.getD col v0) (x.2.getD col v0) ≤ 0)) := rfl
        cases desc with
        | false =>
          rw [if_pos (by rfl)]
          rw [if_neg (by simp)] at hok
          refine ifd (fun hcm => brk (by rw [hok]; exact decide_eq_true hcm)) fun hcm => ?_
          rw [if_neg (by simp)]
          exact swp (by rw [hok]; exact decide_eq_false hcm)
        | true =>
          rw [if_neg (by simp), if_pos rfl]
          rw [if_pos rfl] at hok
          refine ifd (fun hcm => brk (by rw [hok]; exact decide_eq_true hcm)) fun hcm => ?_
          exact swp (by rw [hok]; exact decide_eq_false hcm)
      · have hA0 : A = [] := List.length_eq_zero_iff.1 (by omega)
        subst hA0
        exact fin hAB hB (fun y hy => by cases hy) hv
  · have hk' : ps.length ≤ k := by omega
    rw [List.take_of_length_le hk', List.drop_of_length_le hk', List.append_nil] at hu
    exact hK u hu
theorem zip_map1 {α β : Type} : ∀ {a : List α} {b : List β}, a.length = b.length → (a.zip b).map (·.1) = a
  | [], [], _ => rfl
  | x :: a, y :: b, h => by
    show x :: (a.zip b).map (·.1) = _
    rw [zip_map1 (by simpa using h)]
theorem zip_map2 {α β : Type} : ∀ {a : List α} {b : List β}, a.length = b.length → (a.zip b).map (·.2) = b
  | [], [], _ => rfl
  | x :: a, y :: b, h => by
    show y :: (a.zip b).map (·.2) = _
    rw [zip_map2 (by simpa using h)]
theorem sortRows_spec {col : Nat} {desc : Bool} {K : World → Prop} (o : OS w r (ss.map slV) 1) (h : RowsAt w ss rows) (hl : rows.length ≤ 1000) (hc : ∀ t ∈ rows, col < t.length) (hn : ∀ t ∈ ss, ∀ b, owns t b → ¬ owns r b)
    (hK : ∀ w' ss', OS w' r (ss'.map slV) 1 → RowsAt w' ss' (sortP col desc rows) → ss'.Perm ss → FrP (owns r) w w' → K w') : S.api_SortRows r (col : Int) desc w K := by
  have e1 : psS (ss.zip rows) = ss := zip_map1 h.1
  have e2 : (ss.zip rows).map (·.2) = rows := zip_map2 h.1
  have hzl : (ss.zip rows).length = rows.length := by rw [List.length_zip, h.1, Nat.min_self]
  have mem : ∀ p ∈ ss.zip rows, OS w p.1 (rowC p.2) 3 ∧ p.1 ∈ ss ∧ p.2 ∈ rows := fun p hp => by
    obtain ⟨i, hi⟩ := List.mem_iff_getElem?.1 hp
    rw [List.getElem?_zip_eq_some] at hi
    exact ⟨h.2 i _ _ hi.1 hi.2, List.mem_of_getElem? hi.1, List.mem_of_getElem? hi.2⟩
  refine sortPs_spec (ps := ss.zip rows) ⟨by rw [e1]; exact o, fun p hp => ⟨(mem p hp).1, hn _ (mem p hp).2.1⟩, FrP.refl _ _⟩ (by omega) (fun p hp => hc _ (mem p hp).2.2) fun w' hw' => ?_
  have hm : (sortG (fun a b : Pr => okS col desc a.2 b.2) (ss.zip rows)).map (·.2) = sortP col desc rows := by
    have := sortG_map (ok := okS col desc) (fun p : Pr => p.2) (ss.zip rows)
    rw [e2] at this
    exact this.symm
  refine hK w' (psS (sortG (fun a b => okS col desc a.2 b.2) (ss.zip rows))) hw'.1 ⟨?_, fun i t r1 h1 h2 => ?_⟩ ?_ hw'.2.2
  · rw [← hm]
    unfold psS
    rw [List.length_map, List.length_map]
  · unfold psS at h1
    rw [← hm] at h2
    rw [List.getElem?_map, Option.map_eq_some_iff] at h1 h2
    obtain ⟨p1, a1, rfl⟩ := h1
    obtain ⟨p2, a2, rfl⟩ := h2
    rw [a1] at a2
    cases a2
    exact (hw'.2.1 p1 (List.mem_of_getElem? a1)).1
  · have hp : (psS (sortG (fun a b => okS col desc a.2 b.2) (ss.zip rows))).Perm (psS (ss.zip rows)) := (sortG_perm _).map _
    rw [e1] at hp
    exact hp
end Go.Proofs.Qxb6500564aGreat
