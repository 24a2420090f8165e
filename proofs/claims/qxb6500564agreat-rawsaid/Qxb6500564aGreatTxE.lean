/-
  The manager: merge.
-/
import Derived.Test.Qxb6500564aGreatTxD
namespace Go.Proofs.Qxb6500564aGreat
open Go.Den Go.Zip
set_option linter.unusedVariables false
set_option linter.unusedSimpArgs false
variable {w w' u v : World} {i j k n t g b b0 col pk : Nat} {D : List Bk} {R : List Wr} {cur cur' : Nat → Bk} {op : Bool} {O Os P : Nat → Prop} {db : Db} {s x rs : Sl} {nm : ByteArray} {r : Rs} {sw : Nat → Sl} {cw : Nat → List CR} {key : Vl} {row : List Vl} {rows : List (List Vl)} {ss : List Sl} {lo hi : Bd}

def okM (col pk : Nat) (y x : List Vl) : Bool := !ahP col pk x y
def insE (col pk : Nat) (x : List Vl) (acc : List (List Vl)) : List (List Vl) := (insRev (okM col pk) x acc.reverse).reverse
def inM (nm : ByteArray) (col : Nat) (lo hi : Bd) (c : Ch) : Bool := decide (c.tab = nm) && !c.gone && inB lo hi (c.row.getD col v0)
def mrg1 (nm : ByteArray) (pk : Nat) (l : List Ch) (rows : List (List Vl)) : List (List Vl) := rows.filter fun r => !(fdC nm (r.getD pk v0) l).2
def mrg2 (nm : ByteArray) (col pk : Nat) (lo hi : Bd) (l : List Ch) (out : List (List Vl)) : List (List Vl) := l.foldl (fun acc c => if inM nm col lo hi c then insE col pk c.row acc else acc) out
def mrgP (nm : ByteArray) (col pk : Nat) (lo hi : Bd) (l : List Ch) (rows : List (List Vl)) : List (List Vl) := mrg2 nm col pk lo hi l (mrg1 nm pk l rows)
/-- One row more. -/
theorem FR.app2 {e : TypeId} {z : List Value} {bytes y : Nat} {K : Sl → World → Prop} {t r : Sl} (h : FR b0 w r ss rows) (hy : Blk w y [slV t]) (ht : OS w t (rowC row) 3) (hb : ∀ b, owns t b → b0 ≤ b ∧ ¬ owns r b ∧ ∀ c ∈ ss, ¬ owns c b) (hz : z.length = 1) (hsm : (r.l + 1) * bytes ≤ 2 ^ 46) (hb0 : b0 ≤ w.heap.size)
    (hK : ∀ r' w', FR b0 w' r' (ss ++ [t]) (rows ++ [row]) → FrP (owns r) w w' → (∀ b, owns r' b → owns r b ∨ w.heap.size ≤ b) → K r' w') : AppS e z bytes 1 w r ⟨some ⟨y, 0, none⟩, 1, 1⟩ K := by
  refine app1 h.arr hy rfl rfl hz hsm fun r' w' o' l' own' F' => hK r' w' ⟨?_, ?_, fun b hb' => ?_, fun t' ht' b hb' => ?_, ?_⟩ F' own'
  · rw [List.map_append]; exact o'
  · refine ⟨by simp [h.row.1], fun i t' r'' h1 h2 => ?_⟩
    rcases Nat.lt_or_ge i ss.length with hi | hi
    · rw [List.getElem?_append_left hi] at h1
      rw [List.getElem?_append_left (by rw [← h.row.1]; exact hi)] at h2
      exact (h.row.2 i t' r'' h1 h2).frp F' fun b hb' => (h.rb t' (List.mem_of_getElem? h1) b hb').2
    · rw [List.getElem?_append_right hi] at h1
      rw [List.getElem?_append_right (by rw [← h.row.1]; exact hi), ← h.row.1] at h2
      cases hk : i - ss.length with
      | zero =>
        rw [hk] at h1 h2
        cases h1
        cases h2
        exact ht.frp F' fun b hb' => (hb b hb').2.1
      | succ k => rw [hk] at h1; cases h1
  · exact (own' b hb').elim (h.ra b) fun h' => by omega
  · have base : b0 ≤ b ∧ ¬ owns r b ∧ b < w.heap.size := by
      rcases List.mem_append.1 ht' with ht' | ht'
      · exact ⟨(h.rb t' ht' b hb').1, (h.rb t' ht' b hb').2, h.row.lt ht' hb'⟩
      · rw [List.mem_singleton.1 ht'] at hb'
        exact ⟨(hb b hb').1, (hb b hb').2.1, ht.lt hb'⟩
    refine ⟨base.1, fun hr' => ?_⟩
    rcases own' b hr' with h' | h'
    · exact base.2.1 h'
    · have := base.2.2; omega
  · refine List.pairwise_append.2 ⟨h.dis, List.pairwise_singleton _ _, fun a ha c hc b' h1 h2 => ?_⟩
    rw [List.mem_singleton.1 hc] at h2
    exact (hb b' h2).2.2 a ha h1
/-- Rows come to stand otherwise. -/
theorem FR.ofPA {ps : List Pr} (h : FR b0 w rs ss rows) (p : PA w w' rs ps) (hp : ps.Perm (ss.zip rows)) : FR b0 w' rs (psS ps) (ps.map (·.2)) := by
  have e1 : psS (ss.zip rows) = ss := zip_map1 h.row.1
  have hpp : (psS ps).Perm ss := by
    have : (psS ps).Perm (psS (ss.zip rows)) := hp.map _
    rwa [e1] at this
  refine ⟨p.1, ⟨by unfold psS; rw [List.length_map, List.length_map], fun i t r h1 h2 => ?_⟩, h.ra, fun t ht => h.rb t (hpp.mem_iff.1 ht), (hpp.pairwise_iff fun {a c} hac b h1 h2 => hac b h2 h1).2 h.dis⟩
  unfold psS at h1
  rw [List.getElem?_map, Option.map_eq_some_iff] at h1 h2
  obtain ⟨p1, a1, rfl⟩ := h1
  obtain ⟨p2, a2, rfl⟩ := h2
  rw [a1] at a2
  cases a2
  exact (p.2.1 p1 (List.mem_of_getElem? a1)).1
theorem FR.pa (h : FR b0 w rs ss rows) : PA w w rs (ss.zip rows) := by
  have e1 : psS (ss.zip rows) = ss := zip_map1 h.row.1
  refine ⟨by rw [e1]; exact h.arr, fun p hp => ?_, FrP.refl _ _⟩
  obtain ⟨i, hi⟩ := List.mem_iff_getElem?.1 hp
  rw [List.getElem?_zip_eq_some] at hi
  exact ⟨h.row.2 i _ _ hi.1 hi.2, fun b hb => (h.rb p.1 (List.mem_of_getElem? hi.1) b hb).2⟩
set_option maxHeartbeats 4000000 in
/-- The last row finds its place. -/
theorem settle_spec {t : Sl} {p1 : Nat} {cells : List Value} {K : World → Prop} (h : FR b0 w rs (ss ++ [t]) (rows ++ [row])) (hss : ss.length = rows.length) (hl : rows.length ≤ 1000) (hc : ∀ y ∈ rows, col < y.length ∧ pk < y.length) (hr : col < row.length ∧ pk < row.length) (hp1 : Blk w p1 cells) (hpk : cells[2]? = some (.int .i64 (pk : Int))) (np : ¬ owns rs p1)
    (hK : ∀ w' ss', FR b0 w' rs ss' (insE col pk row rows) → FrP (owns rs) w w' → K w') :
    Join (fun (j_27 : Int) (w : World) => Ix rs.a rs.l j_27 fun b28 o29 => St1 w ⟨b28, o29 + Int.toNat j_27 * 1, none⟩ (.slice t.a t.l t.c) fun w => K w) fun J30 =>
      LoopP (σ := Int × Unit) (fun st31 w next32 =>
        Drew w fun w =>
        if (decide (st31.1 > 0)) = true then
          Ix rs.a rs.l (W (st31.1 - 1)) fun b33 o34 =>
          LdS w ⟨b33, o34 + Int.toNat (W (st31.1 - 1)) * 1, none⟩ fun x_35 =>
          LdI .i64 w ⟨p1, 2, none⟩ fun PK_36 =>
          S.txn_ahead t x_35 (col : Int) PK_36 w (fun r37 w =>
          if r37 = true then
            Ix rs.a rs.l (W (st31.1 - 1)) fun b38 o39 =>
            LdS w ⟨b38, o39 + Int.toNat (W (st31.1 - 1)) * 1, none⟩ fun x_40 =>
            Ix rs.a rs.l st31.1 fun b41 o42 =>
            St1 w ⟨b41, o42 + Int.toNat st31.1 * 1, none⟩ (.slice x_40.a x_40.l x_40.c) fun w =>
            Let (W (st31.1 - 1)) fun j_43 =>
            next32 (j_43, ()) w
          else
            J30 st31.1 w)
        else
          J30 st31.1 w) ((rows.length : Nat), ()) w := by
  have ez : (ss ++ [t]).zip (rows ++ [row]) = ss.zip rows ++ [(t, row)] := List.zip_append hss
  have hps : (ss.zip rows).length = rows.length := by rw [List.length_zip, hss, Nat.min_self]
  have hmem : ∀ p ∈ ss.zip rows, p.2 ∈ rows := fun p hp => by
    obtain ⟨i, hi⟩ := List.mem_iff_getElem?.1 hp
    rw [List.getElem?_zip_eq_some] at hi
    exact List.mem_of_getElem? hi.2
  have pa0 := h.pa
  rw [ez] at pa0
  have ht0 := pa0.2.1 (t, row) (by simp)
  have fin : ∀ {u : World} {A B : List Pr} {z : Pr}, A ++ B = ss.zip rows → (∀ y ∈ B, ahP col pk row y.2 = true) → (∀ y, A.getLast? = some y → ahP col pk row y.2 = false) → PA w u rs (A ++ z :: B) → Ix rs.a rs.l (A.length : Int) fun b28 o29 => St1 u ⟨b28, o29 + Int.toNat (A.length : Int) * 1, none⟩ (.slice t.a t.l t.c) fun w => K w := fun {u A B z} hAB hB hA hu => by
    refine hu.set (p := (t, row)) (by simp) ⟨ht0.1.frp hu.2.2 ht0.2, ht0.2⟩ fun u2 hu2 F2 => ?_
    have es : (A ++ z :: B).set A.length (t, row) = A ++ (t, row) :: B := by rw [List.set_append_right _ _ (Nat.le_refl _), Nat.sub_self, List.set_cons_zero]
    rw [es] at hu2
    have hperm : (A ++ (t, row) :: B).Perm ((ss ++ [t]).zip (rows ++ [row])) := by
      rw [ez, ← hAB]
      exact (List.perm_middle.trans (List.perm_append_singleton _ _).symm)
    have fr := h.ofPA hu2 hperm
    have em : (A ++ (t, row) :: B).map (·.2) = insE col pk row rows := by
      have er : rows = (A ++ B).map (·.2) := by rw [hAB]; exact (zip_map2 hss).symm
      unfold insE
      rw [er, ← List.map_reverse, List.reverse_append]
      have := insRev_map (ok := okM col pk) (fun p : Pr => p.2) (t, row) (B.reverse ++ A.reverse)
      have this : insRev (okM col pk) row (List.map (fun p : Pr => p.2) (B.reverse ++ A.reverse)) = _ := this
      rw [this, insRev_pass (t, row) B.reverse (fun y hy => ?_) fun y hy => ?_]
      · rw [← List.map_reverse, List.reverse_append, List.reverse_cons, List.reverse_reverse, List.reverse_reverse]
        simp
      · show (!ahP col pk row y.2) = false
        rw [hB y (by simpa using hy)]; rfl
      · show (!ahP col pk row y.2) = true
        rw [List.head?_reverse] at hy
        rw [hA y hy]; rfl
    rw [em] at fr
    exact hK u2 _ fr hu2.2.2
  rw [join_eq]
  refine loopN (fun n st u => ∃ (A B : List Pr) (z : Pr), st = ((A.length : Int), ()) ∧ n = A.length ∧ A ++ B = ss.zip rows ∧ (∀ y ∈ B, ahP col pk row y.2 = true) ∧ PA w u rs (A ++ z :: B)) rows.length
    ⟨ss.zip rows, [], (t, row), by rw [hps], hps.symm, List.append_nil _, fun y hy => (by cases hy), pa0⟩ ?_
  rintro n _ u ⟨A, B, z, rfl, rfl, hAB, hB, hu⟩ Q hQ
  dsimp only
  have hu := hu.dr
  have hAl : A.length ≤ rows.length := by
    have := congrArg List.length hAB
    rw [List.length_append, hps] at this
    omega
  refine drew_ (ifd (fun hj => ?_) fun hj => ?_)
  · obtain ⟨A', y, rfl⟩ : ∃ A' y, A = A' ++ [y] := by
      rcases List.eq_nil_or_concat A with rfl | ⟨A', y, e⟩
      · simp at hj
      · exact ⟨A', y, by simpa using e⟩
    rw [List.length_append, List.length_singleton] at hAl
    have ej : W (((A' ++ [y]).length : Int) - 1) = (A'.length : Int) := by
      rw [List.length_append, List.length_singleton, W_id (by omega) (by omega)]; omega
    have gy : (A' ++ [y] ++ z :: B)[A'.length]? = some y := by rw [List.append_assoc, List.getElem?_append_right (Nat.le_refl _), Nat.sub_self]; rfl
    have hym : y ∈ ss.zip rows := by rw [← hAB]; simp
    have hcy := hc y.2 (hmem y hym)
    have oy := hu.2.1 y (by simp)
    rw [ej]
    have hp1u := (hp1.frp hu.2.2 np)
    refine hu.get gy (ldI hp1u hpk (ahead_spec (ht0.1.frp hu.2.2 ht0.2) oy.1 hr.1 hcy.1 hr.2 hcy.2 fun u2 f2 => ?_))
    have hu2 := hu.fr0 f2
    refine ifb (fun hah => ?_) fun hah => ?_
    · have oy2 := hu2.2.1 y (by simp)
      have elen : ((A' ++ [y]).length : Int) = ((A'.length + 1 : Nat) : Int) := by rw [List.length_append]; rfl
      rw [elen]
      refine hu2.get gy (hu2.set (p := y) (by simp) oy2 fun u3 hu3 F3 => let_ ?_)
      have es : (A' ++ [y] ++ z :: B).set (A'.length + 1) y = A' ++ y :: y :: B := by
        rw [List.append_assoc, List.set_append_right _ _ (by omega), Nat.add_sub_cancel_left]
        rfl
      rw [es] at hu3
      refine hQ A'.length _ _ (by simp) ⟨A', y :: B, y, rfl, rfl, by rw [← hAB]; simp, fun z' hz => ?_, hu3⟩
      rcases List.mem_cons.1 hz with rfl | hz
      · exact hah
      · exact hB z' hz
    · refine fin hAB hB (fun y' hy' => ?_) hu2
      rw [List.getLast?_append, List.getLast?_singleton] at hy'
      cases hy'
      exact hah
  · have hA0 : A = [] := List.length_eq_zero_iff.1 (by omega)
    subst hA0
    exact fin hAB hB (fun y hy => by cases hy) hu
end Go.Proofs.Qxb6500564aGreat
