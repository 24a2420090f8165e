/-
  The real checker: Check, New.
-/
import Derived.Test.Qxb6500562aGreatCrH
namespace Go.Proofs.Qxb6500562aGreat
open Go.Den Go.Zip
set_option linter.unusedVariables false
set_option linter.unusedSimpArgs false
variable {α β : Type} {ns : List Nd} {w0 w w' : World} {P : Nat → Prop} {c ps tb p ar lx g : Nat} {st : CS} {L : List (Nat × List Value)} {vs : List Value}

/-- A checker between calls. -/
structure CKE (w : World) (c ps ar lx g : Nat) : Prop where
  rc : ∃ f, Blk w c (tab 420 f) ∧ f 0 = .pointer (some ⟨ps, 0, none⟩)
  pa : PAE w ps ar lx g
  ne : ¬ po ps ar lx g c
def co (c ps ar lx g : Nat) (b : Nat) : Prop := b = c ∨ po ps ar lx g b
theorem CKE.lt (h : CKE w c ps ar lx g) : ∀ b, co c ps ar lx g b → b < w.heap.size := by
  obtain ⟨f, h1, _⟩ := h.rc
  rintro b (rfl | hb)
  · exact h1.lt
  · exact h.pa.lt b hb
theorem CKE.frp {Q : Nat → Prop} (h : CKE w c ps ar lx g) (f : FrP Q w w') (hn : ∀ b, co c ps ar lx g b → ¬ Q b) : CKE w' c ps ar lx g := by
  obtain ⟨k, h1, h2⟩ := h.rc
  exact ⟨⟨k, h1.frp f (hn c (.inl rfl)), h2⟩, h.pa.frp f fun b hb => hn b (.inr hb), h.ne⟩
def row10 (a0 : Sl) (a1 a2 a3 : Int) (a4 a5 a6 : Sl) (a7 a8 a9 : Int) : List Value := [.slice a0.a a0.l a0.c, .int .i64 a1, .int .i64 a2, .int .i64 a3, .slice a4.a a4.l a4.c, .slice a5.a a5.l a5.c, .slice a6.a a6.l a6.c, .int .i64 a7, .int .i64 a8, .int .i64 a9]
theorem set10 {p : Nat} {vs : List Value} {a0 a4 a5 a6 : Sl} {a1 a2 a3 a7 a8 a9 : Int} {K : World → Prop} (h : Blk w p vs) (hl : vs.length = 10)
    (hK : ∀ w', Blk w' p (row10 a0 a1 a2 a3 a4 a5 a6 a7 a8 a9) → Fr p 1 w w' → K w') : St1 w ⟨p, 0, none⟩ (.slice a0.a a0.l a0.c) fun w => St1 w ⟨p, 1, none⟩ (.int .i64 a1) fun w => St1 w ⟨p, 2, none⟩ (.int .i64 a2) fun w => St1 w ⟨p, 3, none⟩ (.int .i64 a3) fun w =>
      St1 w ⟨p, 4, none⟩ (.slice a4.a a4.l a4.c) fun w => St1 w ⟨p, 5, none⟩ (.slice a5.a a5.l a5.c) fun w => St1 w ⟨p, 6, none⟩ (.slice a6.a a6.l a6.c) fun w => St1 w ⟨p, 7, none⟩ (.int .i64 a7) fun w => St1 w ⟨p, 8, none⟩ (.int .i64 a8) fun w => St1 w ⟨p, 9, none⟩ (.int .i64 a9) fun w => K w := by
  obtain ⟨c0, c1, c2, c3, c4, c5, c6, c7, c8, c9, rfl⟩ : ∃ c0 c1 c2 c3 c4 c5 c6 c7 c8 c9, vs = [c0, c1, c2, c3, c4, c5, c6, c7, c8, c9] := by
    match vs, hl with
    | [c0, c1, c2, c3, c4, c5, c6, c7, c8, c9], _ => exact ⟨c0, c1, c2, c3, c4, c5, c6, c7, c8, c9, rfl⟩
  refine Go.Den.st1 h (by simp) fun v0 b0 f0 _ => ?_
  refine Go.Den.st1 b0 (by simp) fun v1 b1 f1 _ => ?_
  refine Go.Den.st1 b1 (by simp) fun v2 b2 f2 _ => ?_
  refine Go.Den.st1 b2 (by simp) fun v3 b3 f3 _ => ?_
  refine Go.Den.st1 b3 (by simp) fun v4 b4 f4 _ => ?_
  refine Go.Den.st1 b4 (by simp) fun v5 b5 f5 _ => ?_
  refine Go.Den.st1 b5 (by simp) fun v6 b6 f6 _ => ?_
  refine Go.Den.st1 b6 (by simp) fun v7 b7 f7 _ => ?_
  refine Go.Den.st1 b7 (by simp) fun v8 b8 f8 _ => ?_
  refine Go.Den.st1 b8 (by simp) fun v9 b9 f9 _ => ?_
  exact hK v9 b9 (((((((((f0.trans f1).trans f2).trans f3).trans f4).trans f5).trans f6).trans f7).trans f8).trans f9)
theorem set7 (A B : List Value) (z0 z1 z2 z3 z4 z5 z6 v0 v1 v2 v3 v4 v5 v6 : Value) {n : Nat} (hn : n = A.length) :
    (((((((A ++ (z0 :: z1 :: z2 :: z3 :: z4 :: z5 :: z6 :: B)).set n v0).set (n + 1) v1).set (n + 2) v2).set (n + 3) v3).set (n + 4) v4).set (n + 5) v5).set (n + 6) v6 = (A ++ [v0, v1, v2, v3, v4, v5, v6]) ++ B := by
  subst hn
  rw [List.set_append_right _ _ (by omega), List.set_append_right _ _ (by omega), List.set_append_right _ _ (by omega), List.set_append_right _ _ (by omega), List.set_append_right _ _ (by omega), List.set_append_right _ _ (by omega), List.set_append_right _ _ (by omega)]
  simp
theorem CQ.upd {us : List Value} (h : CQ ns w0 P c ps tb st ((p, vs) :: L) w) (f : Fr p 1 w w') (hb : Blk w' p us) : CQ ns w0 P c ps tb st ((p, us) :: L) w' := ((h.g (G := fun _ => True) fun _ => trivial).upd f hb).q
theorem CQ.st1 {i : Nat} {v : Value} {K : World → Prop} (h : CQ ns w0 P c ps tb st ((p, vs) :: L) w) (hi : i < vs.length) (hK : ∀ w', CQ ns w0 P c ps tb st ((p, vs.set i v) :: L) w' → K w') : St1 w ⟨p, i, none⟩ v K :=
  Go.Den.st1 h.loc hi fun w' b f _ => hK w' (h.upd f b)
theorem ckMain_clr (ns : List Nd) (len : Int) (st : CS) : ckMain ns len (clr st) = match ckMain ns len st with | .error q => .error q | .ok (m, s) => .ok (m, clr s) := by
  unfold ckMain
  show (if nameIx (fnames st) mainB < 0 then _ else if (fnAt st.fs (nameIx (fnames st) mainB)).pi + (fnAt st.fs (nameIx (fnames st) mainB)).pr ≠ 0 ∨ (fnAt st.fs (nameIx (fnames st) mainB)).ret ≠ 0 then _ else _) = _
  by_cases h1 : nameIx (fnames st) mainB < 0
  · rw [if_pos h1, if_pos h1]
  · rw [if_neg h1, if_neg h1]
    by_cases h2 : (fnAt st.fs (nameIx (fnames st) mainB)).pi + (fnAt st.fs (nameIx (fnames st) mainB)).pr ≠ 0 ∨ (fnAt st.fs (nameIx (fnames st) mainB)).ret ≠ 0
    · rw [if_pos h2, if_pos h2]; rfl
    · rw [if_neg h2, if_neg h2]; rfl
theorem ckMain_ok {len m : Int} {st s : CS} (h : ckMain ns len st = .ok (m, s)) : s = st ∧ m = nameIx (fnames st) mainB := by
  unfold ckMain at h
  split at h
  · cases h
  split at h
  · cases h
  · cases h; exact ⟨rfl, rfl⟩
theorem heads_keep : ∀ (l : List Int) (st : CS) (u : Unit) (st' : CS), ckL (ckHead ns) l st = .ok (u, st') → st'.vs = st.vs ∧ st'.lev = st.lev
  | [], st, u, st', h => by cases h; exact ⟨rfl, rfl⟩
  | x :: l, st, u, st', h => by
    obtain ⟨_, s1, e1, h⟩ := cb_inv h
    have := heads_keep l s1 _ _ h
    have k : s1.vs = st.vs ∧ s1.lev = st.lev := by
      unfold ckHead at e1
      split at e1
      · cases e1
      split at e1
      · cases e1
      split at e1
      · cases e1
      · cases e1; exact ⟨rfl, rfl⟩
    exact ⟨this.1.trans k.1, this.2.trans k.2⟩
theorem CQ.mem {q : Nat × List Value} (h : CQ ns w0 P c ps tb st L w) (hq : q ∈ L) : Blk w q.1 q.2 := by
  obtain ⟨g, bty, bre, h1, _⟩ := h.ex
  exact (h1.lc q (List.mem_append_left _ hq)).1
theorem CFl.mem {q : Nat × List Value} {e1 e2 : Int} (h : CFl ns w0 P c ps tb e1 e2 L w) (hq : q ∈ L) : Blk w q.1 q.2 := by
  obtain ⟨_, g, bty, bre, h1, _⟩ := h
  exact (h1.lc q (List.mem_append_left _ hq)).1
def z10 : List Value := [.slice none 0 0, .int .i64 0, .int .i64 0, .int .i64 0, .slice none 0 0, .slice none 0 0, .slice none 0 0, .int .i64 0, .int .i64 0, .int .i64 0]
def z7 : List Value := [.int .i64 0, .int .i64 0, .int .i64 0, .int .i64 0, .int .i64 0, .int .i64 0, .string ⟨#[]⟩]
theorem flat7 (l : List Fn) (i : Nat) (h : i < l.length) : (l.take (i + 1)).flatMap fnV = (l.take i).flatMap fnV ++ fnV (fnAt l (i : Int)) := by
  rw [List.take_add_one, List.flatMap_append, List.getElem?_eq_getElem h]
  simp [fnAt, h]
/-- The heads are copied out. -/
theorem rcopy_spec {bf : Nat} {next : World → Prop} (h : CQ ns w0 P c ps tb st ((bf, reps z7 st.fs.length) :: L) w) (hK : ∀ w', CQ ns w0 P c ps tb st ((bf, st.fs.flatMap fnV) :: L) w' → next w') :
    LoopP (σ := Int × Unit) (fun st72 w next73 =>
              LdI .i64 w ⟨c, 325, none⟩ fun n_74 =>
              if (decide (st72.1 < n_74)) = true then
                IxA 8 st72.1 <|
                LdI .i64 w ⟨c, 326 + Int.toNat st72.1 * 7, none⟩ fun Node_75 =>
                LdI .i64 w ⟨c, 326 + Int.toNat st72.1 * 7 + 1, none⟩ fun Ret_76 =>
                LdI .i64 w ⟨c, 326 + Int.toNat st72.1 * 7 + 2, none⟩ fun PI_77 =>
                LdI .i64 w ⟨c, 326 + Int.toNat st72.1 * 7 + 3, none⟩ fun PR_78 =>
                LdI .i64 w ⟨c, 326 + Int.toNat st72.1 * 7 + 4, none⟩ fun LI_79 =>
                LdI .i64 w ⟨c, 326 + Int.toNat st72.1 * 7 + 5, none⟩ fun LR_80 =>
                LdStr w ⟨c, 326 + Int.toNat st72.1 * 7 + 6, none⟩ fun Name_81 =>
                Ix (some ⟨bf, 0, none⟩) st.fs.length st72.1 fun b82 o83 =>
                St1 w ⟨b82, o83 + Int.toNat st72.1 * 7, none⟩ (.int .i64 Node_75) fun w =>
                St1 w ⟨b82, o83 + Int.toNat st72.1 * 7 + 1, none⟩ (.int .i64 Ret_76) fun w =>
                St1 w ⟨b82, o83 + Int.toNat st72.1 * 7 + 2, none⟩ (.int .i64 PI_77) fun w =>
                St1 w ⟨b82, o83 + Int.toNat st72.1 * 7 + 3, none⟩ (.int .i64 PR_78) fun w =>
                St1 w ⟨b82, o83 + Int.toNat st72.1 * 7 + 4, none⟩ (.int .i64 LI_79) fun w =>
                St1 w ⟨b82, o83 + Int.toNat st72.1 * 7 + 5, none⟩ (.int .i64 LR_80) fun w =>
                St1 w ⟨b82, o83 + Int.toNat st72.1 * 7 + 6, none⟩ (.string Name_81) fun w =>
                Let (W (st72.1 + 1)) fun i_84 =>
                next73 (i_84, ()) w
              else
                next w) (0, ()) w := by
  have hfl := h.inv.fl
  refine loopN (fun m v u => ∃ i : Nat, v = ((i : Int), ()) ∧ i + m = st.fs.length ∧ CQ ns w0 P c ps tb st ((bf, (st.fs.take i).flatMap fnV ++ reps z7 m) :: L) u) st.fs.length ⟨0, rfl, by omega, by simpa using h⟩ ?_
  rintro m _ u ⟨i, rfl, him, hu⟩ Q hQ
  dsimp only
  refine hu.nfs ?_
  cases m with
  | zero =>
    rw [if_neg (by simp only [decide_eq_true_eq]; omega)]
    have e : st.fs.take i = st.fs := List.take_of_length_le (by omega)
    rw [e] at hu
    exact hK u (by simpa [reps] using hu)
  | succ m =>
    rw [if_pos (by simp only [decide_eq_true_eq]; omega)]
    refine hu.fn (k := 0) (by omega) (by omega) (by omega) rfl ?_
    obtain ⟨f, bty, bre, g1, g2, g3, g4, g5, g6⟩ := hu.ex
    have cell : ∀ k, k < 7 → (fnV (fnAt st.fs (i : Int)))[k]? = some (f (326 + i * 7 + k)) := fun k hk => g4.fp i k (by omega) hk
    rw [Int.toNat_natCast]
    refine ldF g3 (by omega) (Option.some.inj (cell 1 (by omega))).symm (ldF g3 (by omega) (Option.some.inj (cell 2 (by omega))).symm (ldF g3 (by omega) (Option.some.inj (cell 3 (by omega))).symm (ldF g3 (by omega) (Option.some.inj (cell 4 (by omega))).symm (ldF g3 (by omega) (Option.some.inj (cell 5 (by omega))).symm (ldFS g3 (by omega) (Option.some.inj (cell 6 (by omega))).symm ?_)))))
    refine ix rfl (by omega) (by omega) ?_
    have hA : ((st.fs.take i).flatMap fnV).length = i * 7 := by rw [fns_len, List.length_take, Nat.min_eq_left (by omega)]
    have hall : ((st.fs.take i).flatMap fnV ++ reps z7 (m + 1)).length = i * 7 + (m + 1) * 7 := by rw [List.length_append, hA, reps_length]; rfl
    rw [Nat.zero_add]
    refine hu.st1 (by rw [hall]; omega) fun u1 h1 => h1.st1 (by rw [List.length_set, hall]; omega) fun u2 h2 => h2.st1 (by rw [List.length_set, List.length_set, hall]; omega) fun u3 h3 => h3.st1 (by simp only [List.length_set]; rw [hall]; omega) fun u4 h4 =>
      h4.st1 (by simp only [List.length_set]; rw [hall]; omega) fun u5 h5 => h5.st1 (by simp only [List.length_set]; rw [hall]; omega) fun u6 h6 => h6.st1 (by simp only [List.length_set]; rw [hall]; omega) fun u7 h7 => ?_
    have e7 := set7 ((st.fs.take i).flatMap fnV) (reps z7 m) (.int .i64 0) (.int .i64 0) (.int .i64 0) (.int .i64 0) (.int .i64 0) (.int .i64 0) (.string ⟨#[]⟩) (.int .i64 (fnAt st.fs (i : Int)).node) (.int .i64 (fnAt st.fs (i : Int)).ret) (.int .i64 (fnAt st.fs (i : Int)).pi) (.int .i64 (fnAt st.fs (i : Int)).pr) (.int .i64 (fnAt st.fs (i : Int)).li) (.int .i64 (fnAt st.fs (i : Int)).lr) (.string (fnAt st.fs (i : Int)).name) hA.symm
    have e7 : _ = ((st.fs.take (i + 1)).flatMap fnV) ++ reps z7 m := e7.trans (by rw [flat7 st.fs i (by omega)]; rfl)
    refine let_ ?_
    rw [W_succ (by omega)]
    refine hQ m _ u7 (by omega) ⟨i + 1, rfl, by omega, ?_⟩
    rw [← e7]
    exact h7
end Go.Proofs.Qxb6500562aGreat
