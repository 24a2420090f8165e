/-
  The forest: Delete, Create, Drop, Used, the bracket, Open.
-/
import Derived.Test.Qxb6500564aGreatBtR
namespace Go.Proofs.Qxb6500564aGreat
open Go.Den Go.Zip
set_option linter.unusedVariables false
set_option linter.unusedSimpArgs false
variable {dq : Nat}
variable {w w' : World} {f p i j n : Nat} {d : Nd} {D : List Bk} {R : List Wr} {cur cur' : Nat → Bk} {op : Bool} {O : Nat → Prop} {T : Nat → Option Es} {pg : Nat → List Nat} {es : Es} {k v : ByteArray}

theorem cut_len (h : Srt es) (hg : gt k es ≠ none) : (cut k es).length + 1 = es.length := by
  unfold gt at hg
  cases hf : es.find? (fun e => decide (e.1 = k)) with
  | none => rw [hf] at hg; exact absurd rfl hg
  | some e =>
    obtain ⟨h1, xs, ys, rfl, _⟩ := List.find?_eq_some_iff_append.1 hf
    have h1 : e.1 = k := by simpa using h1
    obtain ⟨ek, ev⟩ := e
    simp only at h1
    subst h1
    rw [cut_mid h]
    simp
    omega
theorem U8_pred {m : Nat} (h1 : 1 ≤ m) (h : m < 256) : U8 ((m : Int) - 1) = ((m - 1 : Nat) : Int) := by
  have := U8_nat (m - 1)
  rw [Nat.mod_eq_of_lt (by omega)] at this
  rw [← this]
  congr 1
  omega
set_option maxHeartbeats 2000000 in
theorem fdelete_spec {K : Int → World → Prop} (s : FW dq w f p D R cur true O) (c : FCp cur T pg) (hi : i < 8) (hT : T i = some es) (hg : gt k es ≠ none)
    (hK : ∀ cur' pg' w', FW dq w' f p D R cur' true O → FCp cur' (fset T i (some (cut k es))) pg' → FrP O w w' → K 0 w') : S.btree_Forest_Delete f (i : Int) k w K := by
  unfold S.btree_Forest_Delete
  obtain ⟨h1, h, h2⟩ := c.som i es hi hT
  refine s.pt (intxn_spec s ?_)
  rw [if_neg (by simp)]
  refine root_spec s c.one fun w1 s1 F1 => ?_
  rw [rootP_nat hi, if_neg (by simp only [beq_iff_eq]; omega)]
  have rf := root_fact h2 (c.hgt hi hT)
  have o := c.tree hi
  have hz : (cur 1).size = 128 := s.2.1.siz (by omega)
  have hsum := sumT T (some (cut k es)) hi
  have hlen := cut_len h2.srt hg
  have hmax := c.max
  have hcnt := c.cnt
  have hle := eLen_le T hi
  rw [hT, eLen_some] at hle
  rw [hT, eLen_some, eLen_some] at hsum
  have hlt := byteAt_lt (cur 1) i
  refine bfind_spec (fl := 8) s1 h2 (c.uses hi) (bnd0 k) rf.1 (by omega) fun w2 s2 F2 => ?_
  cases hx : gt k es with
  | none => exact absurd hx hg
  | some x =>
    dsimp only [FindA]
    rw [if_neg (by simp)]
    refine bdel_spec (fl := 8) s2 h2 o (bnd0 k) rf.2.2 rf.1 (by omega) hg fun cur1 thin w3 s3 F3 hA => ?_
    rw [if_neg (by simp)]
    obtain ⟨kp, ps', o', t1, t2, t3⟩ := hA
    have F13 := (F1.trans F2).trans F3
    refine join_P (fun dd u => ∃ cur2 ps', FW dq u f p D R cur2 true O ∧ FrP O w u ∧ Own cur2 (ps' ++ (1 :: allP (fset pg i []) 8)) ∧ (∀ q ∈ 1 :: allP (fset pg i []) 8, cur2 q = cur q) ∧ dd.size = 128 ∧ (∀ j, j ≠ i → byteAt dd j = byteAt (cur 1) j) ∧ byteAt dd i ≠ 0 ∧
        ∃ h, Sub cur2 h (if h = 0 then 0 else 2) none none (byteAt dd i) (cut k es) ps') ?_ ?_
    · rintro dd u ⟨cur2, ps', su, Fu, ou, ku, hdz, hdj, hdi, hs, tS⟩
      have e8 : byteAt dd 8 = sumTo 8 fun j => eLen (T j) := by rw [hdj 8 (by omega), hcnt]
      refine IxB8 hdz ?_
      rw [U8_pred (by omega) (by omega)]
      refine setAt_spec (i := 8) hdz (by omega) (by omega) fun u1 g1 => ?_
      have su1 := su.fr0 g1
      refine putDir_spec su1 ((ou.2 1).2 (by simp)) (by rw [setY_size]; exact hdz) fun u2 su2 Fu2 => ?_
      have sb : ∀ j, byteAt (setY dd 8 (byteAt dd 8 - 1)) j = if j = 8 then byteAt dd 8 - 1 else byteAt dd j := fun j => setY_byte (by omega) (by omega)
      refine hK _ _ u2 su2 (c.upd (t' := some (cut k es)) hi ou ku (fun j hj hne => ?_) ?_ ?_ (fun h => by cases h) fun es' he => ?_) ((Fu.trans (FrP.of0 g1)).trans Fu2)
      · rw [sb, if_neg (by omega), hdj j hne]
      · rw [sb, if_pos rfl, e8]; omega
      · omega
      · cases he
        rw [sb, if_neg (by omega)]
        exact ⟨hdi, hs, tS⟩
    · intro J hJ
      cases thin with
      | false =>
        rw [if_neg (by simp)]
        exact hJ _ _ ⟨cur1, ps', s3, F13, o', kp, hz, fun _ _ => rfl, h1, h, (t2 rfl).weak (by split <;> omega)⟩
      | true =>
        rw [if_pos rfl]
        obtain ⟨d, qs, u1, rfl, u3, u4, u5⟩ := t1.node
        have hn := t3 rfl d u1
        have hpg := pgs o' (q := byteAt (cur 1) i) (by simp)
        refine load_spec s3 hpg.2.2 u1 fun e w4 he s4 F4 => ?_
        obtain ⟨nd, en⟩ := u5 e he
        refine lay_spec (e := e) s4 fun w5 c5 s5 F5 l5 => ?_
        rw [if_neg (by simp)]
        refine c5.kd ?_
        have n5 : ¬ O w4.heap.size := fun h => by have := s4.2.1.lt h; omega
        have F15 := (F13.trans F4).trans F5
        cases h with
        | zero =>
          rw [if_neg (by rw [nd.1]; simp)]
          exact hJ _ _ ⟨cur1, _, s5, F15, o', kp, hz, fun _ _ => rfl, h1, 0, t1.weak (by simp)⟩
        | succ h =>
          rw [if_pos (by rw [nd.1]; simp)]
          simp only [Nat.add_eq_zero_iff, Nat.succ_ne_self, and_false, if_false] at u3
          obtain ⟨m1, m2, m3, m4, m5⟩ := nd
          have e1 : e.n = 1 := by omega
          have ek : e.ks = [e.kid 0] := by rw [ks_eq e1]; rfl
          have esx : e.ss = [] := by rw [ss_eq (n := 0) e1]; rfl
          rw [ek, esx] at m3
          obtain ⟨k0, hk0, sub⟩ := m3
          cases hk0
          obtain ⟨d0, q0, v1, v2, _⟩ := sub.node
          have h0 := pgs o' (q := e.kid 0) (by rw [v2]; simp)
          refine s5.pt (bfree_spec s5 o' fun x y w6 o6 s6 F6 => ?_)
          rw [if_neg (by simp)]
          have c6 := c5.frp F6 n5
          refine ⟨by omega, by omega, c6.gc (i := 0) (by omega) ?_⟩
          rw [U8_nat, Nat.mod_eq_of_lt (by omega)]
          refine setAt_spec hz (by omega) (by omega) fun w7 f7 => ?_
          have sb : ∀ j, byteAt (setY (cur 1) i (e.kid 0)) j = if j = i then e.kid 0 else byteAt (cur 1) j := fun j => setY_byte (by omega) (by omega)
          have hnd := o'.1
          rw [List.cons_append, List.nodup_cons] at hnd
          have kq : ∀ q, q ∈ qs ++ (1 :: allP (fset pg i []) 8) → fset (fset cur1 0 x) (byteAt (cur 1) i) y q = cur1 q := fun q hq => by
            have h0 := pgs o' (q := q) (by rw [List.cons_append]; exact List.mem_cons_of_mem _ hq)
            rw [fset_ne (fun e => hnd.1 (by rw [← e]; exact hq)), fset_ne (by omega)]
          refine hJ _ _ ⟨_, qs, s6.fr0 f7, ((F15.trans F6).trans (FrP.of0 f7)), o6, fun q hq => (kq q (List.mem_append_right _ hq)).trans (kp q hq), by rw [setY_size]; exact hz, fun j hj => by rw [sb, if_neg hj], by rw [sb, if_pos rfl]; omega, h, ?_⟩
          rw [sb, if_pos rfl]
          exact (sub.keep fun q hq => kq q (List.mem_append_left _ hq)).weak (by split <;> omega)
theorem FCp.pages (c : FCp cur T pg) : (allP pg 8).length ≤ 8 + sumTo 8 fun j => eLen (T j) := by
  rw [allP_len]
  have h1 : (sumTo 8 fun t => (pg t).length) ≤ sumTo 8 fun t => 1 + eLen (T t) := sumTo_le fun t ht => by
    cases hT : T t with
    | none => rw [(c.non t ht hT).2]; simp
    | some es =>
      obtain ⟨_, h, h2⟩ := c.som t es ht hT
      exact (root_fact h2 (c.hgt ht hT)).2.1
  have h3 : (sumTo 8 fun t => 1 + eLen (T t)) = 8 + sumTo 8 fun t => eLen (T t) := by
    rw [sumTo_add (fun _ => 1) (fun t => eLen (T t)) 8]
    rfl
  omega
theorem leaf0 : OkN { nd0 with kd := 1 } := .inl ⟨rfl, by show 0 ≤ 3; omega, fun i hi => by cases hi⟩
set_option maxHeartbeats 2000000 in
theorem fcreate_spec {K : Int → Int → World → Prop} (s : FW dq w f p D R cur true O) (c : FCp cur T pg) (hi : i < 8) (hT : T i = none) (hlow : ∀ j, j < i → T j ≠ none) (hN : (sumTo 8 fun j => eLen (T j)) ≤ 61)
    (hK : ∀ cur' pg' w', FW dq w' f p D R cur' true O → FCp cur' (fset T i (some [])) pg' → FrP O w w' → K (i : Int) 0 w') : S.btree_Forest_Create f w K := by
  unfold S.btree_Forest_Create
  refine s.pt (intxn_spec s ?_)
  rw [if_neg (by simp)]
  refine root_spec s c.one fun w1 s1 F1 => ?_
  have hz : (cur 1).size = 128 := s.2.1.siz (by omega)
  have hpages := c.pages
  obtain ⟨b0, p0⟩ := c.non i hi hT
  have o := c.tree hi
  rw [p0, List.nil_append] at o
  have hsum := sumT T (some []) hi
  rw [hT] at hsum
  refine join_P (fun x u => x = (i : Int) ∧ w1 = u) ?_ ?_
  · rintro _ _ ⟨rfl, rfl⟩
    rw [if_neg (by simp only [beq_iff_eq]; omega)]
    refine s1.pt (balloc_spec s1 c.own (by simp only [List.length_cons]; omega) fun rp x w2 q1 q2 q3 o2 s2 F2 => ?_)
    rw [if_neg (by simp)]
    refine store_spec (d := { nd0 with kd := 1 }) s2 ((o2.2 rp).2 (by simp)) leaf0 fun bk w3 hb s3 F3 => ?_
    rw [if_neg (by simp), U8_nat, Nat.mod_eq_of_lt (by omega)]
    refine setAt_spec hz (by omega) (by omega) fun w4 f4 => ?_
    have s4 := s3.fr0 f4
    have o3 := o2.set (n := rp) (x := bk) (by omega)
    refine putDir_spec s4 ((o3.2 1).2 (by simp)) (by rw [setY_size]; exact hz) fun w5 s5 F5 => ?_
    have sb : ∀ j, byteAt (setY (cur 1) i rp) j = if j = i then rp else byteAt (cur 1) j := fun j => setY_byte (by omega) (by omega)
    have e0 : allP (fset pg i []) 8 = allP pg 8 := by rw [← p0, fset_same]
    have kq : ∀ q, q ∈ 1 :: allP pg 8 → fset (fset (fset cur 0 x) rp blk0) rp bk q = cur q := fun q hq => by
      have h0 := pgs c.own hq
      have hne : q ≠ rp := fun e => q3 (by rw [← e]; exact hq)
      rw [fset_ne hne, fset_ne hne, fset_ne (by omega)]
    refine hK _ _ w5 s5 (c.upd (t' := some []) (ps' := [rp]) hi (by rw [e0]; exact o3) (by rw [e0]; exact kq) (fun j hj hne => by rw [sb, if_neg hne]) ?_ ?_ (fun h => by cases h) fun es' he => ?_) ((((F1.trans F2).trans F3).trans (FrP.of0 f4)).trans F5)
    · rw [sb, if_neg (by omega), c.cnt]; simp only [eLen_some, List.length_nil] at hsum; have : eLen none = 0 := rfl; omega
    · simp only [eLen_some, List.length_nil] at hsum; have : eLen none = 0 := rfl; omega
    · cases he
      rw [sb, if_pos rfl]
      refine ⟨by omega, 0, { nd0 with kd := 1 }, by rw [fset_eq]; exact hb, rfl, rfl, by simp, List.Pairwise.nil, fun e he => (by cases he), rfl⟩
  · intro J hJ
    refine loopN (fun m st u => ∃ j : Nat, st = ((j : Int), ()) ∧ j + m = i ∧ w1 = u) i ⟨0, rfl, by omega, rfl⟩ ?_
    rintro m _ u ⟨j, rfl, hm, rfl⟩ Q hQ
    dsimp only
    refine ifd (fun h1 => ?_) fun h1 => by omega
    refine ixB (byteAt_get (by omega)) ?_
    rcases (by omega : j < i ∨ j = i) with h2 | rfl
    · cases hj : T j with
      | none => exact absurd hj (hlow j h2)
      | some es =>
        have := (c.som j es (by omega) hj).1
        rw [if_pos (by simp only [bne_iff_ne, ne_eq]; omega)]
        refine let_ ?_
        rw [W_succ (by omega)]
        exact hQ (m - 1) _ _ (by omega) ⟨j + 1, rfl, by omega, rfl⟩
    · rw [b0, if_neg (by simp)]
      exact hJ _ _ ⟨rfl, rfl⟩
set_option maxHeartbeats 2000000 in
theorem fdrop_spec {K : Int → World → Prop} (s : FW dq w f p D R cur true O) (c : FCp cur T pg) (hi : i < 8) (hT : T i = some es)
    (hK : ∀ cur' pg' w', FW dq w' f p D R cur' true O → FCp cur' (fset T i none) pg' → FrP O w w' → K 0 w') : S.btree_Forest_Drop f (i : Int) w K := by
  unfold S.btree_Forest_Drop
  obtain ⟨h1, h, h2⟩ := c.som i es hi hT
  refine s.pt (intxn_spec s ?_)
  rw [if_neg (by simp)]
  refine root_spec s c.one fun w1 s1 F1 => ?_
  rw [rootP_nat hi, if_neg (by simp only [beq_iff_eq]; omega)]
  have rf := root_fact h2 (c.hgt hi hT)
  have o := c.tree hi
  have hz : (cur 1).size = 128 := s.2.1.siz (by omega)
  have hsum := sumT T none hi
  have hmax := c.max
  have hcnt := c.cnt
  have hle := eLen_le T hi
  rw [hT, eLen_some] at hle
  have e0 : eLen none = 0 := rfl
  rw [hT, eLen_some, e0] at hsum
  refine braze_spec (fl := 8) s1 h2 o (by omega) rf.1 (by omega) fun cur2 w2 s2 F2 o2 k2 => ?_
  rw [if_neg (by simp)]
  refine setAt_spec (v := 0) hz (by omega) (by omega) fun w3 f3 => ?_
  have sb : ∀ j, byteAt (setY (cur 1) i 0) j = if j = i then 0 else byteAt (cur 1) j := fun j => setY_byte (by omega) (by omega)
  have z1 : (setY (cur 1) i 0).size = 128 := by rw [setY_size]; exact hz
  have e8 : byteAt (setY (cur 1) i 0) 8 = sumTo 8 fun j => eLen (T j) := by rw [sb, if_neg (by omega), hcnt]
  refine IxB8 z1 ?_
  rw [e8, W_id (x := ((sumTo 8 fun j => eLen (T j) : Nat) : Int)) (by omega) (by omega), W_sub (by omega) (by omega), U8_nat, Nat.mod_eq_of_lt (by omega)]
  refine setAt_spec (i := 8) z1 (by omega) (by omega) fun w4 f4 => ?_
  have s4 := (s2.fr0 f3).fr0 f4
  refine putDir_spec s4 ((o2.2 1).2 (by simp)) (by rw [setY_size]; exact z1) fun w5 s5 F5 => ?_
  have sb2 : ∀ j, byteAt (setY (setY (cur 1) i 0) 8 ((sumTo 8 fun j => eLen (T j)) - es.length)) j = if j = 8 then (sumTo 8 fun j => eLen (T j)) - es.length else byteAt (setY (cur 1) i 0) j := fun j => setY_byte (by omega) (by omega)
  refine hK _ _ w5 s5 (c.upd (t' := none) (ps' := []) hi o2 k2 (fun j hj hne => by rw [sb2, if_neg (by omega), sb, if_neg hne]) ?_ (by omega) (fun _ => ⟨by rw [sb2, if_neg (by omega), sb, if_pos rfl], rfl⟩) fun es' he => by cases he) (((F1.trans F2).trans (FrP.of0 (f3.then0 f4))).trans F5)
  rw [sb2, if_pos rfl]
  omega
theorem fused_spec {K : Bool → World → Prop} (s : FW dq w f p D R cur op O) (c : FCp cur T pg) (hi : i < 8) (hK : ∀ w', FW dq w' f p D R cur op O → FrP O w w' → K (T i).isSome w') : S.btree_Forest_Used f (i : Int) w K := by
  refine used_spec s c.one fun w1 s1 F1 => ?_
  have := hK w1 s1 F1
  rw [rootP_nat hi]
  cases hT : T i with
  | none => rw [(c.non i hi hT).1]; rw [hT] at this; exact this
  | some es =>
    rw [hT] at this
    have h1 := (c.som i es hi hT).1
    rw [decide_eq_true h1]
    exact this
theorem fbegin_spec {K : Int → World → Prop} (s : FW dq w f p D R cur false O) (hK : ∀ w', FW dq w' f p D R cur true O → FrP O w w' → K 0 w') : S.btree_Forest_Begin f w K := by
  unfold S.btree_Forest_Begin
  refine s.pt (pbegin_spec s.2.1 fun w1 s1 F1 => ?_)
  exact hK w1 ⟨s.1.frp F1 s.2.2, s1, s.2.2⟩ F1
theorem fcommit_spec {K : Int → World → Prop} (s : FW dq w f p D R cur true O) (hR : R.length ≤ 100000) (hK : ∀ w' O' ws, WsF ws → FW dq w' f p D (comR R ws) cur false O' → Gw O w O' w' → (∀ n, n < 72 → cmt D (comR R ws) n = cur n) → K 0 w') : S.btree_Forest_Commit f w K := by
  unfold S.btree_Forest_Commit
  refine s.pt (pcommit_spec s.2.1 hR fun w1 O' ws h1 s1 G1 h2 => ?_)
  have := keepB s.1 s.2.2 G1
  exact hK w1 O' ws h1 ⟨this.1, s1, this.2⟩ G1 h2
theorem fabort_spec {K : Int → World → Prop} (s : FW dq w f p D R cur true O) (hK : ∀ w', FW dq w' f p D R (cmt D R) false O → FrP O w w' → K 0 w') : S.btree_Forest_Abort f w K := by
  unfold S.btree_Forest_Abort
  refine s.pt (pabort_spec s.2.1 fun w1 s1 F1 => ?_)
  exact hK w1 ⟨s.1.frp F1 s.2.2, s1, s.2.2⟩ F1
theorem fintxn_spec {K : Bool → World → Prop} (s : FW dq w f p D R cur op O) (hK : K op w) : S.btree_Forest_InTxn f w K := by
  unfold S.btree_Forest_InTxn
  exact s.pt (intxn_spec s hK)
/-- A forest hangs on the pages 0 .. 71 alone. -/
theorem FCp.ext (c : FCp cur T pg) (h : ∀ n, n < 72 → cur' n = cur n) : FCp cur' T pg := by
  have u : ∀ q, us cur' q = us cur q := fun q => by unfold us; rw [h 0 (by omega)]
  refine ⟨⟨c.own.1, fun q => by rw [u]; exact c.own.2 q⟩, fun i hi hT => by rw [h 1 (by omega)]; exact c.non i hi hT, fun i es hi hT => ?_, by rw [h 1 (by omega)]; exact c.cnt, c.max⟩
  rw [h 1 (by omega)]
  obtain ⟨h1, ht, h2⟩ := c.som i es hi hT
  exact ⟨h1, ht, h2.keep fun q hq => h q (us_iff.1 (c.uses hi q hq)).2.1⟩
end Go.Proofs.Qxb6500564aGreat
