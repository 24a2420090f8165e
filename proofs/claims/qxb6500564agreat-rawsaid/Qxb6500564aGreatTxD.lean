/-
  The manager: find, below, has; values of rows.
-/
import Derived.Test.Qxb6500564aGreatTxC
namespace Go.Proofs.Qxb6500564aGreat
open Go.Den Go.Zip
set_option linter.unusedVariables false
set_option linter.unusedSimpArgs false
variable {dq : Nat}
variable {w w' u v : World} {i j k n t g b : Nat} {D : List Bk} {R : List Wr} {cur cur' : Nat → Bk} {op : Bool} {O Os P : Nat → Prop} {db : Db} {s x : Sl} {nm : ByteArray} {r : Rs} {sw : Nat → Sl} {cw : Nat → List CR} {lks : Nat → Slt} {key : Vl} {row : List Vl}

def sideP (tab : ByteArray) (key : Vl) (c : Ch) : Int := if sl tab c.tab then -1 else if sl c.tab tab then 1 else cmpV key c.key
theorem side_spec {c : Ch} {rs : Sl} {K : Int → World → Prop} (hK : ∀ w', Fr 0 0 w w' → K (sideP nm key c) w') : S.txn_side nm key.st key.i key.s c.tab c.key.st c.key.i c.key.s c.gone rs w K := by
  unfold S.txn_side
  unfold sideP at hK
  refine newB fun w1 c1 f1 s1 => newB fun w2 c2 f2 s2 => ?_
  have c1 : Blk w1 w.heap.size (valC key) := c1
  have c2 : Blk w2 w1.heap.size (crC ⟨c, rs⟩) := c2
  have d1 := c1.fr f2 (by omega)
  have F := f1.then0 f2
  refine ldStr c2 rfl (ifb (fun h => ?_) fun h => ?_)
  · have h : sl nm c.tab = true := h
    rw [if_pos h] at hK
    exact hK w2 F
  · have h : sl nm c.tab = false := h
    rw [if_neg (by simp [h])] at hK
    refine ldStr c2 rfl ?_
    rw [bl_gt]
    refine ifb (fun h' => ?_) fun h' => ?_
    · have h' : sl c.tab nm = true := h'
      rw [if_pos h'] at hK
      exact hK w2 F
    · have h' : sl c.tab nm = false := h'
      rw [if_neg (by simp [h'])] at hK
      exact ldB d1 rfl (ldI d1 rfl (ldStr d1 rfl (ldB c2 rfl (ldI c2 rfl (ldStr c2 rfl (cmp_spec (a := key) (b := c.key) fun w3 f3 => hK w3 (F.then0 f3)))))))
/-- Where a word on a key stands. -/
def fdC (tab : ByteArray) (key : Vl) : List Ch → Nat × Bool
  | [] => (0, false)
  | c :: r => if sideP tab key c ≤ 0 then (0, sideP tab key c == 0) else ((fdC tab key r).1 + 1, (fdC tab key r).2)
theorem fdC_cons (tab : ByteArray) (key : Vl) (c : Ch) (r : List Ch) : fdC tab key (c :: r) = if sideP tab key c ≤ 0 then (0, sideP tab key c == 0) else ((fdC tab key r).1 + 1, (fdC tab key r).2) := rfl
theorem fdC_le (tab : ByteArray) (key : Vl) : ∀ l : List Ch, (fdC tab key l).1 ≤ l.length
  | [] => Nat.le_refl _
  | c :: r => by
    rw [fdC_cons]
    split
    · simp
    · show (fdC tab key r).1 + 1 ≤ r.length + 1
      have := fdC_le tab key r
      omega
theorem fdC_hit {tab : ByteArray} {l : List Ch} (h : (fdC tab key l).2 = true) : ∃ c, l[(fdC tab key l).1]? = some c ∧ sideP tab key c = 0 := by
  induction l with
  | nil => cases h
  | cons c r ih =>
    rw [fdC_cons] at h ⊢
    by_cases h0 : sideP tab key c ≤ 0
    · rw [if_pos h0] at h
      rw [if_pos h0]
      exact ⟨c, rfl, by simpa using h⟩
    · rw [if_neg h0] at h
      rw [if_neg h0]
      obtain ⟨c', h1, h2⟩ := ih h
      exact ⟨c', h1, h2⟩
theorem gfind_spec {K : Int → Bool → World → Prop} (h : GM dq w g t D R cur op Os db r sw cw) (hk : k < 4) (hl : (r.ws k).length ≤ 100000)
    (hK : ∀ w', Fr 0 0 w w' → K ((fdC nm key (r.ws k)).1 : Nat) (fdC nm key (r.ws k)).2 w') : S.txn_Mgr_find g (k : Int) nm key.st key.i key.s w K := by
  unfold S.txn_Mgr_find
  have ek := h.eq k hk
  have hlen : (cw k).length = (r.ws k).length := by rw [← ek, List.length_map]
  have hsl := (h.wm k hk).ln
  refine newB fun w1 c1 f1 s1 => ?_
  have c1 : Blk w1 w.heap.size (valC key) := c1
  rw [join_eq]
  refine loopN (fun n st u => ∃ p : Nat, st = ((p : Int), ()) ∧ p + n = (r.ws k).length ∧ Blk u w.heap.size (valC key) ∧ Fr 0 0 w u ∧ fdC nm key (r.ws k) = (p + (fdC nm key ((r.ws k).drop p)).1, (fdC nm key ((r.ws k).drop p)).2)) (r.ws k).length ⟨0, rfl, by omega, c1, f1, by simp⟩ ?_
  rintro n _ u ⟨p, rfl, hn, bu, fu, hp⟩ Q hQ
  dsimp only
  have hu := h.fr0 fu
  refine ⟨by omega, by omega, hu.ws hk (ifd (fun hlt => ?_) fun hlt => ?_)⟩
  · have hp' : p < (r.ws k).length := by omega
    obtain ⟨y, hy⟩ : ∃ y, (cw k)[p]? = some y := ⟨_, List.getElem?_eq_getElem (by omega)⟩
    have hyc : (r.ws k)[p]? = some y.c := by rw [← ek, List.getElem?_map, hy]; rfl
    have hdrop : (r.ws k).drop p = y.c :: (r.ws k).drop (p + 1) := by
      rw [List.drop_eq_getElem_cons hp']
      congr 1
      rw [List.getElem?_eq_getElem hp'] at hyc
      exact Option.some.inj hyc
    have hd := hu.dr
    refine drew_ (ldB bu.drew rfl (ldI bu.drew rfl (ldStr bu.drew rfl ⟨by omega, by omega, hd.ws hk (crGet (hd.wm k hk).arr hy (side_spec (c := y.c) fun u2 f2 => ?_))⟩)))
    rw [hdrop, fdC_cons] at hp
    refine ifd (fun hc => ?_) fun hc => ?_
    · rw [if_pos hc] at hp
      have := hK u2 (fu.drew.then0 f2)
      rw [hp] at this
      exact this
    · rw [if_neg hc] at hp
      refine let_ ?_
      rw [W_succ (by omega)]
      refine hQ (n - 1) _ _ (by omega) ⟨p + 1, rfl, by omega, bu.drew.fr f2 (by omega), fu.drew.then0 f2, ?_⟩
      rw [hp]
      refine Prod.ext ?_ rfl
      show p + ((fdC nm key ((r.ws k).drop (p + 1))).1 + 1) = p + 1 + _
      omega
  · have hp' : p = (r.ws k).length := by omega
    refine ⟨by omega, by omega, hu.ws hk ?_⟩
    have := hK u fu
    rw [hp, hp', List.drop_length] at this
    rw [hsl, hlen]
    exact this
theorem api_Int_spec {a : Int} {K : Bool → Int → ByteArray → World → Prop} (hK : ∀ w', Fr 0 0 w w' → K false a ⟨#[]⟩ w') : S.api_Int a w K := by
  unfold S.api_Int
  first
  | exact newB fun w1 c1 f1 s1 => lay3 (x := ⟨false, a, ⟨#[]⟩⟩) c1 rfl fun w2 c2 f2 => ldB c2 rfl (ldI c2 rfl (ldStr c2 rfl (hK w2 (f1.thenNew f2 (Nat.le_refl _)))))
  | exact hK w (Fr.refl _ _ _)
theorem api_Str_spec {a : ByteArray} {K : Bool → Int → ByteArray → World → Prop} (hK : ∀ w', Fr 0 0 w w' → K true 0 a w') : S.api_Str a w K := by
  unfold S.api_Str
  first
  | exact newB fun w1 c1 f1 s1 => lay3 (x := ⟨true, 0, a⟩) c1 rfl fun w2 c2 f2 => ldB c2 rfl (ldI c2 rfl (ldStr c2 rfl (hK w2 (f1.thenNew f2 (Nat.le_refl _)))))
  | exact hK w (Fr.refl _ _ _)
/-- A value of a row. -/
theorem at_spec {c : Nat} {K : Bool → Int → ByteArray → World → Prop} (o : OS w s (rowC row) 3) (hc : c < row.length) (hK : ∀ w', Fr 0 0 w w' → K (row.getD c v0).st (row.getD c v0).i (row.getD c v0).s w') : S.txn_at s (c : Int) w K := by
  unfold S.txn_at
  have hl := row_l o
  refine newB fun w1 c1 f1 s1 => ?_
  rw [if_neg (by simp)]
  refine ifd (fun h => absurd h (by omega)) fun _ => rowGet (OS.fr0 o f1) (getD_some hc) ?_
  exact lay3 (x := row.getD c v0) c1 rfl fun w2 c2 f2 => ldB c2 rfl (ldI c2 rfl (ldStr c2 rfl (hK w2 (f1.thenNew f2 (Nat.le_refl _)))))
theorem within_spec {v : Vl} {lo hi : Bd} {K : Bool → World → Prop} (hK : ∀ w', Fr 0 0 w w' → K (inB lo hi v) w') : S.txn_within v.st v.i v.s lo.has lo.v.st lo.v.i lo.v.s hi.has hi.v.st hi.v.i hi.v.s w K := by
  unfold S.txn_within
  refine newB fun w1 c1 f1 s1 => newB fun w2 c2 f2 s2 => newB fun w3 c3 f3 s3 => ?_
  have c1 : Blk w1 w.heap.size (valC v) := c1
  have c2 : Blk w2 w1.heap.size lo.cells := c2
  have c3 : Blk w3 w2.heap.size hi.cells := c3
  have d1 := (c1.fr f2 (by omega)).fr f3 (by omega)
  have d2 := c2.fr f3 (by omega)
  have F := (f1.then0 f2).then0 f3
  refine join_W (fun u => Fr 0 0 w u ∧ Blk u w.heap.size (valC v) ∧ Blk u w2.heap.size hi.cells ∧ (!lo.has || !vl v lo.v) = true) ?_ ?_
  · rintro u ⟨Fu, a1, a3, hlo⟩
    refine ldB a3 rfl (ifb (fun hh => ?_) fun hh => ?_)
    · refine ldB a1 rfl (ldI a1 rfl (ldStr a1 rfl (ldB a3 rfl (ldI a3 rfl (ldStr a3 rfl (cmp_spec (a := v) (b := hi.v) fun u2 f2 => ?_))))))
      have e : vl hi.v v = decide (cmpV v hi.v > 0) := by
        unfold vl
        rw [cmp_swap v hi.v, decide_eq_decide]
        omega
      have hh : hi.has = true := hh
      refine ifd (fun hc => ?_) fun hc => ?_
      · have : inB lo hi v = false := by unfold inB; rw [hlo, hh, e, decide_eq_true hc]; rfl
        have := this ▸ hK u2 (Fu.then0 f2)
        exact this
      · have : inB lo hi v = true := by unfold inB; rw [hlo, hh, e, decide_eq_false hc]; rfl
        have := this ▸ hK u2 (Fu.then0 f2)
        exact this
    · have hh : hi.has = false := hh
      have : inB lo hi v = true := by unfold inB; rw [hlo, hh]; rfl
      have := this ▸ hK u Fu
      exact this
  · intro J hJ
    refine ldB d2 rfl (ifb (fun hh => ?_) fun hh => ?_)
    · refine ldB d1 rfl (ldI d1 rfl (ldStr d1 rfl (ldB d2 rfl (ldI d2 rfl (ldStr d2 rfl (cmp_spec (a := v) (b := lo.v) fun u2 f2 => ?_))))))
      have hh : lo.has = true := hh
      have e : vl v lo.v = decide (cmpV v lo.v < 0) := rfl
      refine ifd (fun hc => ?_) fun hc => hJ _ ⟨F.then0 f2, d1.fr f2 (by omega), c3.fr f2 (by omega), ?_⟩
      · have : inB lo hi v = false := by unfold inB; rw [hh, e, decide_eq_true hc]; rfl
        have := this ▸ hK u2 (F.then0 f2)
        exact this
      · rw [hh, e, decide_eq_false hc]; rfl
    · have hh : lo.has = false := hh
      exact hJ _ ⟨F, d1, c3, by rw [hh]; rfl⟩
/-- Row a stands ahead of row b. -/
def ahP (col pk : Nat) (a b : List Vl) : Bool := if cmpV (a.getD col v0) (b.getD col v0) ≠ 0 then decide (cmpV (a.getD col v0) (b.getD col v0) < 0) else decide (cmpV (a.getD pk v0) (b.getD pk v0) < 0)
set_option maxHeartbeats 1000000 in
theorem ahead_spec {a c : Sl} {ra rc : List Vl} {col pk : Nat} {K : Bool → World → Prop} (oa : OS w a (rowC ra) 3) (oc : OS w c (rowC rc) 3) (h1 : col < ra.length) (h2 : col < rc.length) (h3 : pk < ra.length) (h4 : pk < rc.length)
    (hK : ∀ w', Fr 0 0 w w' → K (ahP col pk ra rc) w') : S.txn_ahead a c (col : Int) (pk : Int) w K := by
  unfold S.txn_ahead
  unfold ahP at hK
  refine at_spec oa h1 fun w1 f1 => newB fun w2 c2 f2 s2 => lay3 (x := ra.getD col v0) c2 rfl fun w3 c3 f3 => ?_
  have F3 : Fr 0 0 w w3 := (f1.then0 f2).thenNew f3 (by have := f1.1.1; omega)
  refine at_spec (OS.fr0 oc F3) h2 fun w4 f4 => newB fun w5 c5 f5 s5 => lay3 (x := rc.getD col v0) c5 rfl fun w6 c6 f6 => ?_
  have F46 : Fr 0 0 w3 w6 := (f4.then0 f5).thenNew f6 (by have := f4.1.1; omega)
  have F6 := F3.then0 F46
  have c36 := c3.fr F46 (by omega)
  refine ldB c36 rfl (ldI c36 rfl (ldStr c36 rfl (ldB c6 rfl (ldI c6 rfl (ldStr c6 rfl (cmp_spec (a := ra.getD col v0) (b := rc.getD col v0) fun w7 f7 => ?_))))))
  have F7 := F6.then0 f7
  by_cases h0 : cmpV (ra.getD col v0) (rc.getD col v0) = 0
  · rw [if_neg (by rw [h0]; simp)]
    rw [if_neg (fun h => h h0)] at hK
    refine at_spec (OS.fr0 oa F7) h3 fun w8 f8 => ?_
    have c38 := (c36.fr f7 (by omega)).fr f8 (by omega)
    refine lay3 (x := ra.getD pk v0) c38 rfl fun w9 c9 f9 => ?_
    have c3lt := c3.lt
    have c6lt := c6.lt
    have F9 : Fr 0 0 w w9 := (F7.then0 f8).thenNew f9 (by have := f1.1.1; omega)
    refine at_spec (OS.fr0 oc F9) h4 fun w10 f10 => ?_
    have l4 := f4.1.1
    have c610 := (((c6.fr f7 (by omega)).fr f8 (by omega)).fr f9 (by omega)).fr f10 (by omega)
    refine lay3 (x := rc.getD pk v0) c610 rfl fun w11 c11 f11 => ?_
    have F11 : Fr 0 0 w w11 := (F9.then0 f10).thenNew f11 (by have := F3.1.1; omega)
    have c911 := (c9.fr f10 (by omega)).fr f11 (by omega)
    exact ldB c911 rfl (ldI c911 rfl (ldStr c911 rfl (ldB c11 rfl (ldI c11 rfl (ldStr c11 rfl (cmp_spec (a := ra.getD pk v0) (b := rc.getD pk v0) fun w12 f12 => hK w12 (F11.then0 f12)))))))
  · rw [if_pos (by simp only [bne_iff_ne, ne_eq]; exact h0)]
    rw [if_pos h0] at hK
    exact hK w7 F7
def blP (nm : ByteArray) (key : Vl) (db : Db) : Bool := decide ((mdLook nm key db).1 = 0)
theorem below_spec {K : Bool → World → Prop} (h : GM dq w g t D R cur op Os db r sw cw) (hm : VMade key) (hK : ∀ w', GM dq w' g t D R cur op Os db r sw cw → FrP Os w w' → K (blP nm key db) w') : S.txn_Mgr_below g nm key.st key.i key.s w K := by
  unfold S.txn_Mgr_below
  refine newB fun w1 c1 f1 s1 => ?_
  have c1 : Blk w1 w.heap.size (valC key) := c1
  have h1 := (h.fr0 f1).dr
  have d1 := c1.drew
  refine drew_ (h1.ld (ldB d1 rfl (ldI d1 rfl (ldStr d1 rfl (slook_spec h1.sv hm (fun hne w2 s2 F2 => ?_) fun he w2 q s2 F2 hq b2 => ?_)))))
  · have e : blP nm key db = ((mdLook nm key db).1 == 0) := by unfold blP; rfl
    rw [← e]
    exact hK w2 (h1.sto s2 ⟨F2, fun b hb => .inl hb⟩).1 ((FrP.of0 f1).drew.trans F2)
  · have e : blP nm key db = true := by unfold blP; rw [he]; rfl
    rw [e] at hK
    exact hK w2 (h1.sto s2 ⟨F2, fun b hb => .inl hb⟩).1 ((FrP.of0 f1).drew.trans F2)
def hsP (nm : ByteArray) (key : Vl) (l : List Ch) (db : Db) : Bool := if (fdC nm key l).2 then match l[(fdC nm key l).1]? with
    | some c => !c.gone
    | none => false
  else blP nm key db
theorem has_spec {K : Bool → World → Prop} (h : GM dq w g t D R cur op Os db r sw cw) (hk : k < 4) (hl : (r.ws k).length ≤ 100000) (hm : VMade key) (hK : ∀ w', GM dq w' g t D R cur op Os db r sw cw → FrP Os w w' → K (hsP nm key (r.ws k) db) w') : S.txn_Mgr_has g (k : Int) nm key.st key.i key.s w K := by
  unfold S.txn_Mgr_has
  unfold hsP at hK
  refine newB fun w1 c1 f1 s1 => ?_
  have c1 : Blk w1 w.heap.size (valC key) := c1
  refine ldB c1 rfl (ldI c1 rfl (ldStr c1 rfl (gfind_spec (h.fr0 f1) hk hl fun w2 f2 => ?_)))
  have h2 := (h.fr0 f1).fr0 f2
  have d2 := c1.fr f2 (by omega)
  refine ifb (fun hh => ?_) fun hh => ?_
  · rw [if_pos hh] at hK
    obtain ⟨c, hc, _⟩ := fdC_hit hh
    rw [hc] at hK
    have ek := h.eq k hk
    rw [← ek, List.getElem?_map, Option.map_eq_some_iff] at hc
    obtain ⟨y, hy, rfl⟩ := hc
    rw [ek] at hy
    refine ⟨by omega, by omega, h2.ws hk (crAt (h2.wm k hk).arr hy fun g' hg' => ?_)⟩
    obtain ⟨us, b, hcell⟩ := cr_cell (h2.wm k hk).arr hg' hy
    exact ldB b (hcell 4 (by omega)) (hK w2 h2 (FrP.of0 (f1.then0 f2)))
  · rw [if_neg (by simp [hh])] at hK
    exact ldB d2 rfl (ldI d2 rfl (ldStr d2 rfl (below_spec h2 hm fun w3 h3 F3 => hK w3 h3 ((FrP.of0 (f1.then0 f2)).trans F3))))
end Go.Proofs.Qxb6500564aGreat
