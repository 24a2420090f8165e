/-
  Columns in the catalog; the store in memory; span.
-/
import Derived.Test.Qxb6500564aGreatTbE
namespace Go.Proofs.Qxb6500564aGreat
open Go.Den Go.Zip
set_option linter.unusedVariables false
set_option linter.unusedSimpArgs false
variable {dq : Nat}
variable {w w' : World} {i j n t f p : Nat} {D : List Bk} {R : List Wr} {cur cur' : Nat → Bk} {op : Bool} {O : Nat → Prop} {T : Nat → Option Es} {pg : Nat → List Nat} {es : Es} {k : ByteArray} {s : Sl}

def colT (c : Cl) : ByteArray := strOf [if c.st then 1 else 0, c.name.size] ++ c.name
theorem goodName_spec {x : ByteArray} {K : Bool → World → Prop} (hK : K (decide (1 ≤ x.size ∧ x.size ≤ 6)) w) : S.api_GoodName x w K := by
  unfold S.api_GoodName
  refine ifd (fun h1 => ?_) fun h1 => ?_
  · have e : decide ((x.size : Int) ≤ 6) = decide (1 ≤ x.size ∧ x.size ≤ 6) := by rw [decide_eq_decide]; omega
    rw [e]; exact hK
  · have e : decide (1 ≤ x.size ∧ x.size ≤ 6) = false := by rw [decide_eq_false_iff_not]; omega
    rw [e] at hK; exact hK
set_option maxHeartbeats 1000000 in
theorem colText_spec {c : Cl} {K : ByteArray → World → Prop} (hn : c.name.size ≤ 6) (hK : ∀ w', Fr 0 0 w w' → K (colT c) w') : S.table_colText c.name c.st w K := by
  unfold S.table_colText
  refine newB fun w1 c1 f1 s1 => ?_
  have c1 : Blk w1 w.heap.size [.string c.name, .bool c.st] := c1
  refine mkS (by omega) (by omega) (by omega) (by omega) fun w2 z2 f2 s2 => ?_
  rw [show (2 : Int).toNat = 2 from rfl, reps_byts] at z2
  rw [show (2 : Int).toNat = 2 from rfl]
  have c2 := c1.fr f2 (by omega)
  refine ldB c2 rfl ?_
  refine join_W (fun u => Blk u w1.heap.size (byts [if c.st then 1 else 0, 0]) ∧ Blk u w.heap.size [.string c.name, .bool c.st] ∧ Fr 0 0 w u) ?_ ?_
  · rintro u ⟨zu, cu, fu⟩
    refine ldStr cu rfl (ixF (i := 1) (by show _ < 2; omega) (stU (i := 1) (m := c.name.size) zu (by simp) (by rw [U8_nat, Nat.mod_eq_of_lt (by omega)]) fun u1 z1 g1 _ => ?_))
    have z1 : Blk u1 w1.heap.size (byts [if c.st then 1 else 0, c.name.size]) := z1
    have hlt : ∀ x ∈ [if c.st then 1 else 0, c.name.size], x < 256 := fun x hx => by
      simp only [List.mem_cons, List.not_mem_nil, or_false] at hx
      rcases hx with rfl | rfl
      · split <;> omega
      · omega
    refine btS z1 (zs := [if c.st then 1 else 0, c.name.size]) rfl rfl hlt (ldStr (cu.fr g1 (by omega)) rfl (catLe ?_ (hK u1 (fu.thenNew g1 (by omega)))))
    rw [strOf_size]
    simp
    omega
  · intro J hJ
    cases hs : c.st with
    | true =>
      rw [if_pos rfl]
      refine ixF (i := 0) (by show _ < 2; omega) (stU (i := 0) (m := 1) z2 (by simp) rfl fun u1 z1 g1 _ => hJ _ ⟨?_, ?_, (f1.then0 f2).thenNew g1 (by omega)⟩)
      · rw [hs]; exact z1
      · exact c2.fr g1 (by omega)
    | false =>
      rw [if_neg (by simp)]
      refine hJ _ ⟨?_, ?_, f1.then0 f2⟩
      · rw [hs]; exact z2
      · exact c2
theorem colT_bt {c : Cl} (hn : c.name.size ≤ 6) : bt (colT c) = [if c.st then 1 else 0, c.name.size] ++ bt c.name := by
  unfold colT
  rw [bt_append, bt_strOf fun x hx => ?_]
  simp only [List.mem_cons, List.not_mem_nil, or_false] at hx
  rcases hx with rfl | rfl
  · split <;> omega
  · omega
theorem colT_size (c : Cl) : (colT c).size = 2 + c.name.size := by
  unfold colT
  rw [ByteArray.size_append, strOf_size]
  rfl
theorem two2_spec {q : Nat} {x x' : ByteArray} {y y' : Bool} {K : ByteArray → Bool → World → Prop} (h : Blk w q [.string x, .bool y]) (hk : ∀ w', Fr q 1 w w' → K x' y' w') :
    St1 w ⟨q, 0, none⟩ (.string x') fun w => St1 w ⟨q, 1, none⟩ (.bool y') fun w => LdStr w ⟨q, 0, none⟩ fun a => LdB w ⟨q, 1, none⟩ fun b => K a b w := by
  refine st1 h (by show _ < 2; omega) fun w1 c1 f1 _ => st1 c1 (by show _ < 2; omega) fun w2 c2 f2 _ => ?_
  have c2 : Blk w2 q [.string x', .bool y'] := c2
  exact ldStr c2 rfl (ldB c2 rfl (hk w2 (f1.trans f2)))
set_option maxHeartbeats 1000000 in
theorem colOf_spec {c : Cl} {K : ByteArray → Bool → Bool → World → Prop} (h1 : 1 ≤ c.name.size) (hn : c.name.size ≤ 6) (hK : ∀ w', Fr 0 0 w w' → K c.name c.st true w') : S.table_colOf (colT c) w K := by
  unfold S.table_colOf
  have hz := colT_size c
  have hb := colT_bt hn
  refine newB fun w1 c1 f1 s1 => ?_
  have c1 : Blk w1 w.heap.size [.string ⟨#[]⟩, .bool false] := c1
  rw [join_eq, if_neg (by simp; omega)]
  refine ixB (o := 0) (m := if c.st then 1 else 0) (by rw [hb]; rfl) ?_
  rw [if_neg (by cases c.st <;> simp)]
  refine ixB (o := 1) (m := c.name.size) (by rw [hb]; rfl) ?_
  rw [W_id (by omega) (by omega), W_id (by omega) (by omega), if_neg (by simp; omega)]
  have ec : (colT c).extract 2 (colT c).size = c.name := by
    apply bt_inj
    rw [bt_extract, hb]
    have hl := bt_len c.name
    show (bt c.name).take _ = _
    exact List.take_of_length_le (by omega)
  refine cutStr (lo := 2) (by omega) (by omega) ?_
  rw [ec]
  refine goodName_spec ?_
  rw [decide_eq_true ⟨h1, hn⟩, if_neg (by simp)]
  refine drew_ (cutStr (lo := 2) (by omega) (by omega) (ixB (o := 0) (m := if c.st then 1 else 0) (by rw [hb]; rfl) ?_))
  rw [ec]
  refine two2_spec c1.drew fun w2 f2 => ?_
  have := hK w2 (f1.drew.thenNew f2 (Nat.le_refl _))
  cases hs : c.st with
  | true => rw [hs] at this; exact this
  | false => rw [hs] at this; exact this
/-- The store at t over the forest at f. -/
def TW (dq : Nat) (w : World) (t f p : Nat) (D : List Bk) (R : List Wr) (cur : Nat → Bk) (op : Bool) (O : Nat → Prop) : Prop := Blk w t [ptrV f] ∧ FW dq w f p D R cur op O ∧ ¬ O t
theorem TW.ft {K : Nat → Prop} (s : TW dq w t f p D R cur op O) (hk : K f) : LdP w ⟨t, 0, none⟩ K := ldP s.1 rfl hk
theorem TW.fr0 (s : TW dq w t f p D R cur op O) (F : Fr 0 0 w w') : TW dq w' t f p D R cur op O := ⟨s.1.fr F (by omega), s.2.1.fr0 F, s.2.2⟩
theorem TW.ofO (s : TW dq w t f p D R cur op O) (F : FrP O w w') (s' : FW dq w' f p D R cur' op O) : TW dq w' t f p D R cur' op O := ⟨s.1.frp F s.2.2, s', s.2.2⟩
/-- Blocks that were not there at first may turn. -/
theorem TW.new {w0 : World} {Q : Nat → Prop} (s : TW dq w t f p D R cur op O) (F : FrP Q w w') (s0 : TW dq w0 t f p D R cur op O) (hq : ∀ b, Q b → w0.heap.size ≤ b) : TW dq w' t f p D R cur op O :=
  ⟨s.1.frp F fun h => by have := hq _ h; have := s0.1.lt; omega, ⟨s.2.1.1.frp F fun h => by have := hq _ h; have := s0.2.1.1.lt; omega, s.2.1.2.1.frp F fun b hb h => by have := hq _ h; have := s0.2.1.2.1.lt hb; omega, s.2.1.2.2⟩, s.2.2⟩
def kvC1 (e : ByteArray × ByteArray) : List Value := [.string e.1, .string e.2]
def kvC (es : Es) : List Value := es.flatMap kvC1
theorem kvC1_len (e : ByteArray × ByteArray) : (kvC1 e).length = 2 := rfl
theorem kvC_len (es : Es) : (kvC es).length = es.length * 2 := flat_length (f := kvC1) (c := 2) kvC1_len es
theorem kvC_app (a b : Es) : kvC (a ++ b) = kvC a ++ kvC b := by unfold kvC; rw [List.flatMap_append]
theorem kv_l (h : OS w s (kvC es) 2) : s.l = es.length := by
  have := h.len
  rw [kvC_len] at this
  omega
/-- The entries from 'fr' on, ahead of the first whose front lies above 'up'. -/
def frontP (k : ByteArray) : ByteArray := if k.size > 8 then k.extract 0 8 else k
def spanP (es : Es) (fr : ByteArray) (cap : Bool) (up : ByteArray) : Es := (es.dropWhile fun e => sl e.1 fr).takeWhile fun e => !cap || !sl up (frontP e.1)
theorem front_spec {K : ByteArray → World → Prop} (hK : K (frontP k) w) : S.table_front k w K := by
  unfold S.table_front
  unfold frontP at hK
  refine ifd (fun h => ?_) fun h => ?_
  · rw [if_pos (by omega)] at hK
    exact cutStr (lo := 0) (hi := 8) (by omega) (by omega) hK
  · rw [if_neg (by omega)] at hK
    exact hK
theorem sk_seek (h : Srt es) : sk k false es = (es.dropWhile fun e => sl e.1 k).head? := by
  induction es with
  | nil => rfl
  | cons e r ih =>
    have hc := List.pairwise_cons.1 h
    unfold sk
    cases he : sl e.1 k with
    | true =>
      rw [List.dropWhile_cons_of_pos (by simpa using he), ← ih hc.2]
      rw [List.find?_cons_of_neg (by rw [sl_asym he]; simpa using sl_ne he)]
      rfl
    | false =>
      rw [List.dropWhile_cons_of_neg (by simp [he])]
      rw [List.find?_cons_of_pos]
      · rfl
      · cases h2 : sl k e.1 with
        | true => rfl
        | false => simpa using (sl_total h2 he).symm
theorem sk_next {pre post : Es} {e : ByteArray × ByteArray} (h : Srt (pre ++ e :: post)) : sk e.1 true (pre ++ e :: post) = post.head? := by
  have hs := srt_app.1 h
  have hc := List.pairwise_cons.1 hs.2.1
  rw [sk_app]
  have e1 : sk e.1 true pre = none := sk_none fun x hx => hs.2.2 x hx e (by simp)
  rw [e1]
  unfold sk
  rw [List.find?_cons_of_neg (by rw [sl_irrefl]; simp)]
  cases post with
  | nil => rfl
  | cons x r =>
    rw [List.find?_cons_of_pos (by rw [hc.1 x (by simp)]; rfl)]
    rfl
/-- An answer of Seek or Next. -/
def Nx (o : Option (ByteArray × ByteArray)) (k v : ByteArray) (r : Int) : Prop := (∃ e, o = some e ∧ k = e.1 ∧ v = e.2 ∧ r = 0) ∨ (o = none ∧ r = 9)
theorem scanNx {o : Option (ByteArray × ByteArray)} {K : ByteArray → ByteArray → Int → Prop} (h : ∀ k v r, Nx o k v r → K k v r) : ScanA o K := by
  cases o with
  | none => exact h _ _ _ (.inr ⟨rfl, rfl⟩)
  | some e => exact h _ _ _ (.inl ⟨e, rfl, rfl, rfl, rfl⟩)
theorem span_done {q : ByteArray × ByteArray → Bool} {a b : Es} (h1 : ∀ e ∈ a, q e = true) (h2 : ∀ e, b.head? = some e → q e = false) : (a ++ b).takeWhile q = a := by
  induction a with
  | nil =>
    cases b with
    | nil => rfl
    | cons x r => rw [List.nil_append, List.takeWhile_cons_of_neg (by rw [h2 x rfl]; simp)]
  | cons x r ih => rw [List.cons_append, List.takeWhile_cons_of_pos (h1 x (by simp)), ih fun e he => h1 e (by simp [he])]
set_option maxHeartbeats 2000000 in
theorem span_spec {fr up : ByteArray} {cap : Bool} {K : Sl → World → Prop} (s : TW dq w t f p D R cur op O) (c : FCp cur T pg) (hi : i < 8) (hT : T i = some es)
    (hK : ∀ w' r, TW dq w' t f p D R cur op O → FrP O w w' → OS w' r (kvC (spanP es fr cap up)) 2 → (∀ b, owns r b → w.heap.size ≤ b) → K r w') : S.table_Store_span t (i : Int) fr cap up w K := by
  unfold S.table_Store_span
  obtain ⟨_, hh, tr⟩ := c.som i es hi hT
  have hsrt := tr.srt
  have hmax := c.hgt hi hT
  have hes : es = (es.takeWhile fun e => sl e.1 fr) ++ (es.dropWhile fun e => sl e.1 fr) := (List.takeWhile_append_dropWhile).symm
  generalize hpre : (es.takeWhile fun e => sl e.1 fr) = pre at hes
  generalize hsuf : (es.dropWhile fun e => sl e.1 fr) = suf at hes
  have hsl : suf.length ≤ 64 := by
    have : es.length = pre.length + suf.length := by rw [hes, List.length_append]
    omega
  refine s.ft (fseek_spec s.2.1 c hi hT fun w1 s1 F1 => ?_)
  rw [sk_seek hsrt, hsuf]
  refine scanNx fun k v r hN => ?_
  have S1 := s.ofO F1 s1
  refine newB fun w2 c2 f2 s2 => ?_
  have c2 : Blk w2 w1.heap.size [.string ⟨#[]⟩, .string ⟨#[]⟩] := c2
  refine st1 c2 (by show _ < 2; omega) fun w3 c3 f3 _ => st1 c3 (by show _ < 2; omega) fun w4 c4 f4 _ => ?_
  have c4 : Blk w4 w1.heap.size [.string k, .string v] := c4
  have l1 := F1.1.1
  have G := f3.trans f4
  have S4 := (S1.fr0 f2).new (Q := fun b => b = w1.heap.size) (FrP.of G fun b h1 h2 => by omega) s fun b hb => by omega
  have F4 : FrP O w w4 := (F1.trans (FrP.of0 f2)).trans' (Q := fun b => b = w1.heap.size) (FrP.of G fun b h1 h2 => by omega) fun b hb => .inr (by omega)
  have l4 := G.1.1
  have nO : ¬ O w1.heap.size := fun h => by have := s.2.1.2.1.lt h; omega
  refine loopN (fun m st u => ∃ (out : Sl) (r : Int) (dn rest : Es) (k v : ByteArray), st = (out, r, (dn.length : Int), ()) ∧ dn.length + m = 64 ∧ OS u out (kvC dn) 2 ∧ suf = dn ++ rest ∧ Nx rest.head? k v r ∧ Blk u w1.heap.size [.string k, .string v] ∧
      (∀ e ∈ dn, (!cap || !sl up (frontP e.1)) = true) ∧ TW dq u t f p D R cur op O ∧ FrP O w u ∧ (∀ b, owns out b → w2.heap.size ≤ b) ∧ w2.heap.size ≤ u.heap.size) 64
    ⟨⟨none, 0, 0⟩, r, [], suf, k, v, rfl, rfl, OS.nil _ _, rfl, hN, c4, fun e he => (by cases he), S4, F4, fun b hb => (by cases hb), l4⟩ ?_
  rintro m _ u ⟨out, r, dn, rest, k, v, rfl, hm, ou, hdn, hN, cu, hq, Su, Fu, hown, lu⟩ Q hQ
  dsimp only
  have fin : (∀ e, rest.head? = some e → (!cap || !sl up (frontP e.1)) = false) → K out u := fun h2 => by
    have e : spanP es fr cap up = dn := by
      unfold spanP
      rw [hsuf, hdn]
      exact span_done hq h2
    exact hK u out Su Fu (by rw [e]; exact ou) fun b hb => by have := hown b hb; omega
  refine ifd (fun h1 => ?_) fun h1 => fin fun e he => ?_
  · refine ifk (fun h2 => ?_) fun h2 => fin fun e he => ?_
    · rcases hN with ⟨e, he, rfl, rfl, _⟩ | ⟨_, h3⟩
      · obtain ⟨rest', rfl⟩ : ∃ r, rest = e :: r := by
          cases rest with
          | nil => cases he
          | cons x r => cases he; exact ⟨r, rfl⟩
        refine join_W (fun u' => u = u' ∧ (!cap || !sl up (frontP e.1)) = true) ?_ ?_
        · rintro _ ⟨rfl, hc⟩
          refine ldStr cu rfl (ldStr cu rfl (newB fun u1 b1 g1 z1 => ?_))
          have b1 : Blk u1 u.heap.size (kvC1 e) := b1
          have ou1 : OS u1 out (kvC dn) 2 := ou.frp (FrP.of0 (P := fun _ => False) g1) fun _ _ h => h
          have hol : out.l = dn.length := kv_l ou
          refine app1 ou1 b1 rfl rfl rfl (by rw [hol]; omega) fun out' u2 o2 l2 own2 F2 => ?_
          have Fo : ∀ b, owns out b → w2.heap.size ≤ b := hown
          have S2 := (Su.fr0 g1).new F2 s fun b hb => by have := hown b hb; omega
          have FF2 : FrP O w u2 := (Fu.trans (FrP.of0 g1)).trans' F2 fun b hb => .inr (by have := hown b hb; omega)
          have cu2 : Blk u2 w1.heap.size [.string e.1, .string e.2] := (cu.fr g1 (by omega)).frp F2 fun h => by have := hown _ h; omega
          have S2d : TW dq u2.drew t f p D R cur op O := ⟨S2.1.drew, ⟨S2.2.1.1.drew, S2.2.1.2.1.frp (FrP.refl (fun _ => False) u2).drew (fun _ _ h => h), S2.2.1.2.2⟩, S2.2.2⟩
          refine drew_ (S2d.ft (ldStr cu2.drew rfl (fnext_spec S2d.2.1 c hi hT fun u3 s3 F3 => ?_)))
          have e1 : es = (pre ++ dn) ++ e :: rest' := by rw [hes, hdn, List.append_assoc]
          have nx : sk e.1 true es = rest'.head? := by rw [e1]; exact sk_next (by rw [← e1]; exact hsrt)
          rw [nx]
          refine scanNx fun k' v' r' hN' => ?_
          have lF2 := F2.1.1
          have lF3 : u2.heap.size ≤ u3.heap.size := F3.1.1
          have lg1 := g1.1.1
          have nown : ∀ b, owns out' b → ¬ O b := fun b hb h => by
            have h4 := s.2.1.2.1.lt h
            rcases own2 b hb with h5 | h5
            · have := hown b h5; omega
            · omega
          have o3 : OS u3 out' (kvC dn ++ kvC1 e) 2 := OS.frp (w := u2.drew) o2 F3 nown
          have cu3 := cu2.drew.frp F3 nO
          refine st1 cu3 (by show _ < 2; omega) fun u4 c4' g4 _ => st1 c4' (by show _ < 2; omega) fun u5 c5' g5 _ => let_ ?_
          have c5' : Blk u5 w1.heap.size [.string k', .string v'] := c5'
          have G5 := g4.trans g5
          have lG5 := G5.1.1
          have ownb : ∀ b, owns out' b → w2.heap.size ≤ b := fun b hb => (own2 b hb).elim (hown b) fun h => by omega
          have o5 : OS u5 out' (kvC (dn ++ [e])) 2 := by
            have : kvC (dn ++ [e]) = kvC dn ++ kvC1 e := by rw [kvC_app]; show _ ++ (kvC1 e ++ []) = _; rw [List.append_nil]
            rw [this]
            exact o3.frp (P := fun b => b = w1.heap.size) (FrP.of G5 fun b h1 h2 => by omega) fun b hb h => by have := ownb b hb; omega
          rw [W_succ (by omega)]
          refine hQ (m - 1) _ _ (by omega) ⟨out', r', dn ++ [e], rest', k', v', by rw [List.length_append]; rfl, by rw [List.length_append, List.length_singleton]; omega, o5, by rw [hdn, List.append_assoc]; rfl, hN', c5', fun x hx => ?_, ?_, ?_, ownb, by omega⟩
          · rcases List.mem_append.1 hx with hx | hx
            · exact hq x hx
            · rw [List.mem_singleton.1 hx]; exact hc
          · exact (S2d.ofO F3 s3).new (Q := fun b => b = w1.heap.size) (FrP.of G5 fun b h1 h2 => by omega) s fun b hb => by omega
          · exact ((FF2.drew).trans F3).trans' (Q := fun b => b = w1.heap.size) (FrP.of G5 fun b h1 h2 => by omega) fun b hb => .inr (by omega)
        · intro J hJ
          cases hcap : cap with
          | true =>
            rw [if_pos rfl]
            refine ldStr cu rfl (front_spec ?_)
            rw [gt_eq]
            refine ifb (fun h3 => fin fun e' he' => ?_) fun h3 => hJ _ ⟨rfl, by rw [h3]; simp⟩
            cases he'
            rw [hcap, h3]; rfl
          | false =>
            rw [if_neg (by simp)]
            exact hJ _ ⟨rfl, by rw [hcap]; rfl⟩
      · omega
    · rcases hN with ⟨e', he', _, _, h3⟩ | ⟨h3, _⟩
      · exact absurd h3 h2
      · rw [he] at h3; cases h3
  · have : rest = [] := by
      have h3 : suf.length = dn.length + rest.length := by rw [hdn, List.length_append]
      exact List.length_eq_zero_iff.1 (by omega)
    rw [this] at he; cases he
end Go.Proofs.Qxb6500564aGreat
