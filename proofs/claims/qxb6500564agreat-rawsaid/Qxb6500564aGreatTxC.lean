/-
  The manager: the lock table, Begin, end.
-/
import Derived.Test.Qxb6500564aGreatTxB
namespace Go.Proofs.Qxb6500564aGreat
open Go.Den Go.Zip
set_option linter.unusedVariables false
set_option linter.unusedSimpArgs false
variable {dq : Nat}
variable {w w' u v : World} {i j k n t g b : Nat} {D : List Bk} {R : List Wr} {cur cur' : Nat → Bk} {op : Bool} {O Os P : Nat → Prop} {db : Db} {s x : Sl} {nm : ByteArray} {r : Rs} {sw : Nat → Sl} {cw : Nat → List CR} {lks : Nat → Slt}

theorem find_range {p : Nat → Bool} (hi : i < n) (h : p i = true) (hl : ∀ j, j < i → p j = false) : (List.range n).find? p = some i := by
  rw [List.find?_eq_some_iff_getElem]
  refine ⟨h, i, by simpa using hi, by simp, fun j hj => ?_⟩
  rw [List.getElem_range, hl j hj]; rfl
theorem findR_none {p : Nat → Bool} (hl : ∀ j, j < n → p j = false) : (List.range n).find? p = none := by
  rw [List.find?_eq_none]
  intro j hj
  rw [hl j (List.mem_range.1 hj)]; simp
theorem range_some {p : Nat → Bool} (h : (List.range n).find? p = some i) : i < n ∧ p i = true ∧ ∀ j, j < i → p j = false := by
  rw [List.find?_eq_some_iff_getElem] at h
  obtain ⟨h1, j, hj, e, hl⟩ := h
  rw [List.getElem_range] at e
  subst e
  refine ⟨by simpa using hj, h1, fun m hm => ?_⟩
  have := hl m hm
  rw [List.getElem_range] at this
  simpa using this
theorem range_none {p : Nat → Bool} (h : (List.range n).find? p = none) : ∀ j, j < n → p j = false := fun j hj => by
  have := List.find?_eq_none.1 h j (List.mem_range.2 hj)
  simpa using this
def sOf (nm : ByteArray) (lks : Nat → Slt) : Option Nat := (List.range 3).find? fun i => (lks i).used && decide ((lks i).name = nm)
def frS (lks : Nat → Slt) : Option Nat := (List.range 3).find? fun i => !(lks i).used
def oI : Option Nat → Int
  | none => -1
  | some i => (i : Nat)
def barB (z : Slt) (s : Int) (mode : Nat) : Bool := (List.range 4).any fun o => decide ((o : Int) ≠ s ∧ (z.mode o = 2 ∨ (mode = 2 ∧ z.mode o ≠ 0)))
theorem slotOf_spec {K : Int → World → Prop} (h : GM dq w g t D R cur op Os db r sw cw) (hK : K (oI (sOf nm r.lks)) w) : S.txn_Mgr_slotOf g nm w K := by
  unfold S.txn_Mgr_slotOf
  refine loopN (fun n st u => ∃ i : Nat, st = ((i : Int), ()) ∧ i + n = 3 ∧ w = u ∧ ∀ j, j < i → ((r.lks j).used && decide ((r.lks j).name = nm)) = false) 3 ⟨0, rfl, by omega, rfl, fun j hj => by omega⟩ ?_
  rintro n _ _ ⟨i, rfl, hi, rfl, hall⟩ Q hQ
  dsimp only
  refine ifd (fun h3 => ?_) fun h3 => ?_
  · rw [join_eq]
    have nxt : ((r.lks i).used && decide ((r.lks i).name = nm)) = false → Let (W ((i : Int) + 1)) fun i_3 => Q (i_3, ()) w := fun hh => by
      refine let_ ?_
      rw [W_succ (by omega)]
      refine hQ (n - 1) _ _ (by omega) ⟨i + 1, rfl, by omega, rfl, fun j hj => ?_⟩
      by_cases e : j = i
      · rw [e]; exact hh
      · exact hall j (by omega)
    refine ⟨by omega, by omega, h.us (show i < 3 by omega) (ifb (fun hu => ⟨by omega, by omega, h.na (show i < 3 by omega) (str_eq (fun e => ?_) fun e => nxt ?_)⟩) fun hu => nxt ?_)⟩
    · have : sOf nm r.lks = some i := find_range (by omega) (by rw [hu, decide_eq_true e]; rfl) hall
      rw [this] at hK
      exact hK
    · rw [hu, decide_eq_false e]; rfl
    · rw [hu]; rfl
  · have : sOf nm r.lks = none := findR_none fun j hj => hall j (by omega)
    rw [this] at hK
    exact hK
theorem freeSlot_spec {K : Int → World → Prop} (h : GM dq w g t D R cur op Os db r sw cw) (hK : K (oI (frS r.lks)) w) : S.txn_Mgr_freeSlot g w K := by
  unfold S.txn_Mgr_freeSlot
  refine loopN (fun n st u => ∃ i : Nat, st = ((i : Int), ()) ∧ i + n = 3 ∧ w = u ∧ ∀ j, j < i → (!(r.lks j).used) = false) 3 ⟨0, rfl, by omega, rfl, fun j hj => by omega⟩ ?_
  rintro n _ _ ⟨i, rfl, hi, rfl, hall⟩ Q hQ
  dsimp only
  refine ifd (fun h3 => ?_) fun h3 => ?_
  · refine ⟨by omega, by omega, h.us (show i < 3 by omega) (ifn (fun hu => ?_) fun hu => let_ ?_)⟩
    · have : frS r.lks = some i := find_range (by omega) (by rw [hu]; rfl) hall
      rw [this] at hK
      exact hK
    · rw [W_succ (by omega)]
      refine hQ (n - 1) _ _ (by omega) ⟨i + 1, rfl, by omega, rfl, fun j hj => ?_⟩
      by_cases e : j = i
      · rw [e, hu]; rfl
      · exact hall j (by omega)
  · have : frS r.lks = none := findR_none fun j hj => hall j (by omega)
    rw [this] at hK
    exact hK
theorem barred_spec {s : Int} {mode : Nat} {K : Bool → World → Prop} (h : GM dq w g t D R cur op Os db r sw cw) (hi : i < 3) (hK : K (barB (r.lks i) s mode) w) : S.txn_Mgr_barred g (i : Int) s (mode : Int) w K := by
  unfold S.txn_Mgr_barred
  refine loopN (fun n st u => ∃ o : Nat, st = ((o : Int), ()) ∧ o + n = 4 ∧ w = u ∧ ∀ j, j < o → decide ((j : Int) ≠ s ∧ ((r.lks i).mode j = 2 ∨ (mode = 2 ∧ (r.lks i).mode j ≠ 0))) = false) 4 ⟨0, rfl, by omega, rfl, fun j hj => by omega⟩ ?_
  rintro n _ _ ⟨o, rfl, ho, rfl, hall⟩ Q hQ
  dsimp only
  refine ifd (fun h3 => ?_) fun h3 => ?_
  · rw [join_eq]
    have hit : ((o : Int) ≠ s ∧ ((r.lks i).mode o = 2 ∨ (mode = 2 ∧ (r.lks i).mode o ≠ 0))) → K true w := fun hh => by
      have : barB (r.lks i) s mode = true := by
        unfold barB
        rw [List.any_eq_true]
        exact ⟨o, List.mem_range.2 (by omega), decide_eq_true hh⟩
      rw [this] at hK
      exact hK
    have nxt : ¬ ((o : Int) ≠ s ∧ ((r.lks i).mode o = 2 ∨ (mode = 2 ∧ (r.lks i).mode o ≠ 0))) → Let (W ((o : Int) + 1)) fun i_3 => Q (i_3, ()) w := fun hh => by
      refine let_ ?_
      rw [W_succ (by omega)]
      refine hQ (n - 1) _ _ (by omega) ⟨o + 1, rfl, by omega, rfl, fun j hj => ?_⟩
      by_cases e : j = o
      · rw [e]; exact decide_eq_false hh
      · exact hall j (by omega)
    by_cases es : (o : Int) = s
    · rw [if_neg (by simp [es])]
      exact nxt fun hh => hh.1 es
    · rw [if_pos (by simp only [bne_iff_ne, ne_eq]; exact es)]
      refine ⟨by omega, by omega, ⟨by omega, by omega, h.md hi (show o < 4 by omega) (ifk (fun e => hit ⟨es, .inl (by omega)⟩) fun e => ?_)⟩⟩
      refine ifk (fun e2 => ⟨by omega, by omega, ⟨by omega, by omega, h.md hi (show o < 4 by omega) ?_⟩⟩) fun e2 => nxt ?_
      · by_cases ez : (r.lks i).mode o = 0
        · rw [if_neg (by simp [ez])]
          exact nxt fun hh => hh.2.elim (fun h' => by omega) fun h' => h'.2 ez
        · rw [if_pos (by simp only [bne_iff_ne, ne_eq]; omega)]
          exact hit ⟨es, .inr ⟨by omega, ez⟩⟩
      · exact fun hh => hh.2.elim (fun h' => by omega) fun h' => by omega
  · have : barB (r.lks i) s mode = false := by
      unfold barB
      rw [List.any_eq_false]
      intro j hj
      rw [hall j (by have := List.mem_range.1 hj; omega)]; simp
    rw [this] at hK
    exact hK
/-- What inTxn asks. -/
def inE (s : Int) (r : Rs) : Int := if gs s = false then 20 else if r.act s.toNat = false then 2 else 0
theorem inTxn_spec {s : Int} {K : Int → World → Prop} (h : GM dq w g t D R cur op Os db r sw cw) (hK : K (inE s r) w) : S.txn_Mgr_inTxn g s w K := by
  unfold S.txn_Mgr_inTxn
  unfold inE at hK
  refine goodSess_spec ?_
  cases hg : gs s with
  | false =>
    rw [hg, if_pos rfl] at hK
    rw [if_pos (by rfl)]; exact hK
  | true =>
    rw [hg, if_neg (by simp)] at hK
    rw [if_neg (by simp)]
    obtain ⟨k, hk, rfl⟩ := gs_nat hg
    rw [Int.toNat_natCast] at hK
    refine ⟨by omega, by omega, h.ac hk (ifn (fun ha => ?_) fun ha => ?_)⟩
    · rw [if_pos ha] at hK; exact hK
    · rw [if_neg (by simp [ha])] at hK; exact hK
theorem gwO {sw' : Nat → Sl} {cw' : Nat → List CR} {Os' : Nat → Prop} (hO : ∀ b, O b ↔ gw g Os sw cw b) (G : Gw (gw g Os sw cw) w (gw g Os' sw' cw') w') : Gw O w (gw g Os' sw' cw') w' := ⟨G.1.mono fun b hb => (hO b).2 hb, fun b hb => (G.2 b hb).elim (fun h => .inl ((hO b).2 h)) .inr⟩
def bgE (s : Int) (r : Rs) : Int := if gs s = false then 20 else if r.act s.toNat then 3 else 0
theorem gbegin_spec {s : Int} {K : Int → World → Prop} (h : GV dq w g D R cur op db r O) (h1 : bgE s r ≠ 0 → K (bgE s r) w)
    (h2 : bgE s r = 0 → ∀ w', GV dq w' g D R cur op db { r with act := fset r.act s.toNat true } O → FrP O w w' → K 0 w') : S.txn_Mgr_Begin g s w K := by
  unfold S.txn_Mgr_Begin
  unfold bgE at h1 h2
  obtain ⟨t, Os, sw, cw, h, hO⟩ := h
  refine goodSess_spec ?_
  cases hg : gs s with
  | false =>
    rw [hg, if_pos rfl] at h1
    rw [if_pos (by rfl)]; exact h1 (by simp)
  | true =>
    rw [hg, if_neg (by simp)] at h1 h2
    rw [if_neg (by simp)]
    obtain ⟨k, hk, rfl⟩ := gs_nat hg
    rw [Int.toNat_natCast] at h1 h2
    refine ⟨by omega, by omega, h.ac hk (ifb (fun ha => ?_) fun ha => ⟨by omega, by omega, ?_⟩)⟩
    · rw [if_pos ha] at h1; exact h1 (by simp)
    · rw [if_neg (by simp [ha])] at h2
      refine st1 h.bl (by rw [mgC_len, Int.toNat_natCast]; omega) fun w1 b1 f1 _ => ?_
      rw [Int.toNat_natCast, Nat.mul_one, mgC_setA hk] at b1
      have G1 : FrP (fun b => b = g) w w1 := FrP.of f1 fun b h1 h2 => by omega
      exact h2 rfl w1 ⟨t, Os, sw, cw, h.cel b1 G1, hO⟩ (G1.mono fun b hb => (hO b).2 (.inl hb))
theorem gact_spec {s : Int} {K : Bool → World → Prop} (h : GV dq w g D R cur op db r O) (hK : K (gs s && r.act s.toNat) w) : S.txn_Mgr_Active g s w K := by
  unfold S.txn_Mgr_Active
  obtain ⟨t, Os, sw, cw, h, hO⟩ := h
  refine goodSess_spec ?_
  cases hg : gs s with
  | false => rw [hg] at hK; rw [if_neg (by simp)]; exact hK
  | true =>
    rw [hg, Bool.true_and] at hK
    rw [if_pos rfl]
    obtain ⟨k, hk, rfl⟩ := gs_nat hg
    rw [Int.toNat_natCast] at hK
    exact ⟨by omega, by omega, h.ac hk hK⟩
def lkR (k : Nat) (nm : ByteArray) (lks : Nat → Slt) : Nat := match sOf nm lks with
  | none => 0
  | some i => (lks i).mode k
theorem glock_spec {s : Int} {K : Int → World → Prop} (h : GV dq w g D R cur op db r O) (hK : K (if gs s = false then 0 else (lkR s.toNat nm r.lks : Nat)) w) : S.txn_Mgr_LockOf g s nm w K := by
  unfold S.txn_Mgr_LockOf
  obtain ⟨t, Os, sw, cw, h, hO⟩ := h
  refine slotOf_spec h (goodSess_spec ?_)
  cases hg : gs s with
  | false =>
    rw [hg, if_pos rfl] at hK
    rw [if_pos (by rfl)]; exact hK
  | true =>
    rw [hg, if_neg (by simp)] at hK
    rw [if_neg (by simp)]
    obtain ⟨k, hk, rfl⟩ := gs_nat hg
    rw [Int.toNat_natCast] at hK
    unfold lkR at hK
    cases hs : sOf nm r.lks with
    | none =>
      rw [hs] at hK
      rw [if_pos (by simp [oI])]; exact hK
    | some i =>
      rw [hs] at hK
      have hi := (range_some hs).1
      rw [if_neg (by rw [decide_eq_true_eq]; show ¬ ((i : Nat) : Int) < 0; omega)]
      exact ⟨by show (0 : Int) ≤ (i : Nat); omega, by show ((i : Nat) : Int) < 3; omega, ⟨by omega, by omega, h.md hi hk hK⟩⟩
def slt0 : Slt := ⟨false, ⟨#[]⟩, fun _ => 0⟩
def rel1 (k : Nat) (z : Slt) : Slt := if barB { z with mode := fset z.mode k 0 } (-1) 2 then { z with mode := fset z.mode k 0 } else slt0
def relL (k : Nat) (lks : Nat → Slt) (n : Nat) : Nat → Slt := fun i => if i < n then rel1 k (lks i) else lks i
theorem mgC_ext {act : Nat → Bool} {l1 l2 : Nat → Slt} (h : ∀ i, i < 3 → (l1 i).used = (l2 i).used ∧ (l1 i).name = (l2 i).name ∧ ∀ k, k < 4 → (l1 i).mode k = (l2 i).mode k) : mgC t act l1 sw = mgC t act l2 sw := by
  have a := h 0 (by omega)
  have b := h 1 (by omega)
  have c := h 2 (by omega)
  unfold mgC
  rw [a.1, a.2.1, a.2.2 0 (by omega), a.2.2 1 (by omega), a.2.2 2 (by omega), a.2.2 3 (by omega), b.1, b.2.1, b.2.2 0 (by omega), b.2.2 1 (by omega), b.2.2 2 (by omega), b.2.2 3 (by omega), c.1, c.2.1, c.2.2 0 (by omega), c.2.2 1 (by omega), c.2.2 2 (by omega), c.2.2 3 (by omega)]
theorem GM.lkx {lks' : Nat → Slt} (h : GM dq w g t D R cur op Os db r sw cw) (e : mgC t r.act r.lks sw = mgC t r.act lks' sw) : GM dq w g t D R cur op Os db { r with lks := lks' } sw cw :=
  ⟨by rw [← e]; exact h.bl, h.sv, h.wm, h.eq, h.ng, h.nw, h.dj, h.dk⟩
set_option maxHeartbeats 4000000 in
theorem release_spec {K : World → Prop} (h : GM dq w g t D R cur op Os db r sw cw) (hk : k < 4) (hK : ∀ w', GM dq w' g t D R cur op Os db { r with lks := relL k r.lks 3 } sw cw → FrP (fun b => b = g) w w' → K w') : S.txn_Mgr_release g (k : Int) w K := by
  unfold S.txn_Mgr_release
  refine loopN (fun n st u => ∃ i : Nat, st = ((i : Int), ()) ∧ i + n = 3 ∧ GM dq u g t D R cur op Os db { r with lks := relL k r.lks i } sw cw ∧ FrP (fun b => b = g) w u) 3 ⟨0, rfl, by omega, ?_, FrP.refl _ _⟩ ?_
  · have : relL k r.lks 0 = r.lks := by funext i; unfold relL; rw [if_neg (by omega)]
    rw [this]; exact h
  rintro n _ u ⟨i, rfl, hi, hu, Fu⟩ Q hQ
  dsimp only
  refine ifd (fun h3 => ?_) fun h3 => ?_
  · have hi3 : i < 3 := by omega
    refine join_W (fun v => GM dq v g t D R cur op Os db { r with lks := relL k r.lks (i + 1) } sw cw ∧ FrP (fun b => b = g) w v) ?_ ?_
    · rintro v ⟨hv, Fv⟩
      refine let_ ?_
      rw [W_succ (by omega)]
      exact hQ (n - 1) _ _ (by omega) ⟨i + 1, rfl, by omega, hv, Fv⟩
    · intro J hJ
      have eli : relL k r.lks i i = r.lks i := by unfold relL; rw [if_neg (by omega)]
      refine ⟨by omega, by omega, ⟨by omega, by omega, st1 hu.bl (by rw [mgC_len, Int.toNat_natCast, Int.toNat_natCast]; omega) fun u1 b1 f1 _ => ?_⟩⟩
      rw [Int.toNat_natCast, Int.toNat_natCast, Nat.mul_one] at b1
      have b1 := (mgC_setM (t := t) (act := r.act) (lks := relL k r.lks i) (sw := sw) (a := 0) hi3 hk) ▸ b1
      have G1 : FrP (fun b => b = g) u u1 := FrP.of f1 fun b h1 h2 => by omega
      have g1 := hu.cel b1 G1
      have ez : fset (relL k r.lks i) i { relL k r.lks i i with mode := fset (relL k r.lks i i).mode k 0 } i = { r.lks i with mode := fset (r.lks i).mode k 0 } := by rw [fset_eq, eli]
      refine barred_spec (mode := 2) g1 hi3 ?_
      show if (!(barB (fset (relL k r.lks i) i { relL k r.lks i i with mode := fset (relL k r.lks i i).mode k 0 } i) (-1) 2)) = true then _ else _
      rw [ez]
      refine ifn (fun hb => ⟨by omega, by omega, ?_⟩) fun hb => hJ _ ⟨?_, Fu.trans G1⟩
      · have er : rel1 k (r.lks i) = slt0 := by unfold rel1; rw [hb, if_neg (by simp)]
        rw [Int.toNat_natCast]
        refine st1 g1.bl (by rw [mgC_len]; omega) fun v1 c1 t1 _ => st1 c1 (by rw [List.length_set, mgC_len]; omega) fun v2 c2 t2 _ => st1 c2 (by rw [List.length_set, List.length_set, mgC_len]; omega) fun v3 c3 t3 _ => st1 c3 (by rw [List.length_set, List.length_set, List.length_set, mgC_len]; omega) fun v4 c4 t4 _ => st1 c4 (by rw [List.length_set, List.length_set, List.length_set, List.length_set, mgC_len]; omega) fun v5 c5 t5 _ => st1 c5 (by rw [List.length_set, List.length_set, List.length_set, List.length_set, List.length_set, mgC_len]; omega) fun v6 c6 t6 _ => ?_
        have G6 : FrP (fun b => b = g) u1 v6 := FrP.of (((((t1.trans t2).trans t3).trans t4).trans t5).trans t6) fun b h1 h2 => by omega
        have B6 : Blk v6 g (mgC t r.act (relL k r.lks (i + 1)) sw) := by
          have e6 : ((((((mgC t r.act (fset (relL k r.lks i) i { relL k r.lks i i with mode := fset (relL k r.lks i i).mode k 0 }) sw).set (5 + i * 6) (.bool false)).set (5 + i * 6 + 1) (.string ⟨#[]⟩)).set (5 + i * 6 + 2) (.int .i64 0)).set (5 + i * 6 + 3) (.int .i64 0)).set (5 + i * 6 + 4) (.int .i64 0)).set (5 + i * 6 + 5) (.int .i64 0) = mgC t r.act (relL k r.lks (i + 1)) sw := by
            have key : ∀ L : Nat → Slt, ((((((mgC t r.act L sw).set (5 + i * 6) (.bool false)).set (5 + i * 6 + 1) (.string ⟨#[]⟩)).set (5 + i * 6 + 2) (.int .i64 0)).set (5 + i * 6 + 3) (.int .i64 0)).set (5 + i * 6 + 4) (.int .i64 0)).set (5 + i * 6 + 5) (.int .i64 0) = mgC t r.act (fset L i slt0) sw := fun L => by
              match i, hi3 with
              | 0, _ => rfl
              | 1, _ => rfl
              | 2, _ => rfl
            rw [key]
            refine mgC_ext fun j hj => ?_
            by_cases e : j = i
            · subst e
              rw [fset_eq]
              unfold relL
              rw [if_pos (by omega), er]
              exact ⟨rfl, rfl, fun _ _ => rfl⟩
            · rw [fset_ne e, fset_ne e]
              unfold relL
              by_cases hj' : j < i
              · rw [if_pos hj', if_pos (by omega)]; exact ⟨rfl, rfl, fun _ _ => rfl⟩
              · rw [if_neg hj', if_neg (by omega)]; exact ⟨rfl, rfl, fun _ _ => rfl⟩
          rw [← e6]
          exact c6
        exact hJ _ ⟨hu.cel B6 (G1.trans G6), (Fu.trans G1).trans G6⟩
      · have er : rel1 k (r.lks i) = { r.lks i with mode := fset (r.lks i).mode k 0 } := by unfold rel1; rw [hb, if_pos rfl]
        have hval : ∀ j, relL k r.lks (i + 1) j = fset (relL k r.lks i) i { r.lks i with mode := fset (r.lks i).mode k 0 } j := fun j => by
          by_cases e : j = i
          · subst e
            rw [fset_eq]
            unfold relL
            rw [if_pos (by omega), er]
          · rw [fset_ne e]
            unfold relL
            by_cases hj' : j < i
            · rw [if_pos hj', if_pos (by omega)]
            · rw [if_neg hj', if_neg (by omega)]
        refine g1.lkx (mgC_ext fun j hj => ?_)
        dsimp only
        rw [eli, hval j]
        exact ⟨rfl, rfl, fun _ _ => rfl⟩
  · have hi3 : i = 3 := by omega
    subst hi3
    exact hK u hu Fu
def rsEnd (k : Nat) (r : Rs) : Rs := ⟨fset r.act k false, relL k r.lks 3, fset r.ws k []⟩
theorem gend_spec {K : World → Prop} (h : GV dq w g D R cur op db r O) (hk : k < 4) (hK : ∀ w' O', GV dq w' g D R cur op db (rsEnd k r) O' → Gw O w O' w' → K w') : S.txn_Mgr_end g (k : Int) w K := by
  unfold S.txn_Mgr_end
  obtain ⟨t, Os, sw, cw, h, hO⟩ := h
  refine ⟨by omega, by omega, st1 h.bl (by rw [mgC_len, Int.toNat_natCast]; omega) fun w1 b1 f1 _ => ⟨by omega, by omega, ?_⟩⟩
  rw [Int.toNat_natCast, Nat.mul_one, mgC_setA hk] at b1
  have G1 : FrP (fun b => b = g) w w1 := FrP.of f1 fun b h1 h2 => by omega
  have g1 := h.cel b1 G1
  refine st1 g1.bl (by rw [mgC_len, Int.toNat_natCast]; omega) fun w2 b2 f2 _ => ?_
  rw [Int.toNat_natCast, Nat.mul_one] at b2
  have b2 : Blk w2 g ((mgC t (fset r.act k false) r.lks sw).set (23 + k) (slV nilS)) := b2
  rw [mgC_setW hk] at b2
  have G2 : FrP (fun b => b = g) w1 w2 := FrP.of f2 fun b h1 h2 => by omega
  obtain ⟨g2, GG⟩ := g1.put hk b2 (WM.nil w2) (G2.mono fun b hb => .inr (.inl hb)) fun b hb => absurd hb (wo_nil b)
  refine release_spec g2 hk fun w3 g3 G3 => hK w3 _ ⟨t, Os, _, _, g3, fun b => Iff.rfl⟩ ?_
  have G12 : Gw (gw g Os sw cw) w (gw g Os (fset sw k nilS) (fset cw k [])) w2 := ⟨(G1.mono fun b hb => .inl hb).trans GG.1, fun b hb => (GG.2 b hb).elim .inl fun h' => .inr (by have := G1.1.1; omega)⟩
  exact (gwO hO G12).trans ⟨G3.mono fun b hb => .inl hb, fun b hb => .inl hb⟩
end Go.Proofs.Qxb6500564aGreat
