/-
  Nodes in pages: encode, decode.
-/
import Derived.Test.Qxb6500564aGreatBtD
namespace Go.Proofs.Qxb6500564aGreat
open Go.Den Go.Zip
set_option linter.unusedVariables false
set_option linter.unusedSimpArgs false
variable {w w' : World} {p p' i j q o : Nat} {d : Nd} {l l' : List Nat} {s : ByteArray} {b : Bk}

/-- At o lies the string s: its length, its bytes. -/
def Fld (l : List Nat) (o : Nat) (s : ByteArray) : Prop := s.size ≤ 16 ∧ l[o]? = some s.size ∧ ∀ j, j < s.size → l[o + 1 + j]? = (bt s)[j]?
theorem Fld.keep (h : Fld l o s) (hk : ∀ j, o ≤ j → j < o + 17 → l'[j]? = l[j]?) : Fld l' o s :=
  ⟨h.1, by rw [hk o (by omega) (by omega)]; exact h.2.1, fun j hj => by rw [hk _ (by omega) (by have := h.1; omega)]; exact h.2.2 j hj⟩
def B256 (l : List Nat) : Prop := l.length = 128 ∧ ∀ x ∈ l, x < 256
theorem B256.set (h : B256 l) {v : Nat} (hv : v < 256) : B256 (l.set i v) := ⟨by rw [List.length_set]; exact h.1, fun x hx => (List.mem_or_eq_of_mem_set hx).elim (h.2 x) fun e => by rw [e]; exact hv⟩
set_option maxHeartbeats 1000000 in
theorem putStr_spec {K : Sl → World → Prop} (hb : Blk w q (byts l)) (hl : B256 l) (ho : o + 17 ≤ 128) (hs : s.size ≤ 16)
    (hK : ∀ w' l', Blk w' q (byts l') → B256 l' → Fld l' o s → (∀ j, (j < o ∨ o + 17 ≤ j) → l'[j]? = l[j]?) → Fr q 1 w w' → K (fullS q 128) w') : S.btree_putStr (fullS q 128) (o : Int) s 16 w K := by
  unfold S.btree_putStr
  have hll := hl.1
  refine ixF (by show _ < 128; omega) (stU (m := s.size) hb (by rw [Int.toNat_natCast]; omega) (by rw [U8_nat, Nat.mod_eq_of_lt (by omega)]) fun w1 c1 f1 s1 => ?_)
  rw [Int.toNat_natCast] at c1
  refine loopN (fun m st u => ∃ i : Nat, ∃ l' : List Nat, st = ((i : Int), ()) ∧ i + m = s.size ∧ Blk u q (byts l') ∧ B256 l' ∧ l'[o]? = some s.size ∧ (∀ j, j < i → l'[o + 1 + j]? = (bt s)[j]?) ∧ (∀ j, (j < o ∨ o + 17 ≤ j) → l'[j]? = l[j]?) ∧ Fr q 1 w u) s.size
    ⟨0, l.set o s.size, rfl, by omega, c1, hl.set (by omega), by rw [List.getElem?_set_self (by omega)], fun j hj => by omega, fun j hj => by rw [List.getElem?_set_ne (by omega)], f1⟩ ?_
  rintro m _ u ⟨i, l', rfl, hm, cu, hl', h0, hj, hk, fu⟩ Q hQ
  dsimp only
  have fin : i = s.size → K (fullS q 128) u := fun e => hK u l' cu hl' ⟨hs, h0, fun j h => hj j (by omega)⟩ hk fu
  refine ifd (fun h => ?_) fun h => fin (by omega)
  refine ifd (fun h2 => ?_) fun h2 => by omega
  have hlt : i < s.size := by omega
  obtain ⟨c, hc⟩ : ∃ c, (bt s)[i]? = some c := ⟨_, List.getElem?_eq_getElem (by simpa using hlt)⟩
  refine ixStr (m := c) (by omega) (by rw [Int.toNat_natCast]; exact hc) ?_
  rw [W_succ (by omega), W_add (by omega), W_succ (by omega)]
  have hll' := hl'.1
  refine ixF (by show _ < 128; omega) (stU (m := c) cu (by rw [Int.toNat_natCast]; omega) rfl fun u1 cu1 g1 _ => let_ ?_)
  rw [Int.toNat_natCast] at cu1
  refine hQ (m - 1) _ _ (by omega) ⟨i + 1, l'.set (o + 1 + i) c, rfl, by omega, cu1, hl'.set (bt_get_lt hc), by rw [List.getElem?_set_ne (by omega)]; exact h0, fun j h => ?_, fun j h => ?_, fu.trans g1⟩
  · rcases (by omega : j < i ∨ j = i) with h' | rfl
    · rw [List.getElem?_set_ne (by omega)]; exact hj j h'
    · rw [List.getElem?_set_self (by omega), hc]
  · rw [List.getElem?_set_ne (by omega)]; exact hk j h
/-- What fits into a page. -/
def OkN (d : Nd) : Prop := (d.kd = 1 ∧ d.n ≤ 3 ∧ ∀ i, i < d.n → (d.ky i).size ≤ 16 ∧ (d.vl i).size ≤ 16) ∨ (d.kd = 2 ∧ 1 ≤ d.n ∧ d.n ≤ 4 ∧ (∀ i, i < d.n → d.kid i < 256) ∧ ∀ i, i + 1 < d.n → (d.ky i).size ≤ 16)
def LfL (l : List Nat) (d : Nd) (m : Nat) : Prop := ∀ i, i < m → Fld l (4 + 34 * i) (d.ky i) ∧ Fld l (21 + 34 * i) (d.vl i)
def KdL (l : List Nat) (d : Nd) (m : Nat) : Prop := ∀ i, i < m → l[4 + i]? = some (d.kid i)
def SpL (l : List Nat) (d : Nd) (m : Nat) : Prop := ∀ i, i < m → Fld l (8 + 17 * i) (d.ky i)
/-- The page holds the node. -/
def PgL (l : List Nat) (d : Nd) : Prop := B256 l ∧ l[0]? = some d.kd ∧ l[1]? = some d.n ∧ OkN d ∧ (d.kd = 1 → LfL l d d.n) ∧ (d.kd = 2 → KdL l d d.n ∧ SpL l d (d.n - 1))
def PgN (b : Bk) (d : Nd) : Prop := PgL (bt b) d
theorem strOf_pg (h : PgL l d) : PgN (strOf l) d ∧ (strOf l).size = 128 := by
  unfold PgN
  rw [bt_strOf h.1.2, strOf_size]
  exact ⟨h, h.1.1⟩
theorem fullBt {K : ByteArray → Prop} (hb : Blk w q (byts l)) (hl : B256 l) (hk : K (strOf l)) : BtS w (fullS q 128) K :=
  btS hb (by rw [List.drop_zero, List.take_of_length_le (by simp [byts, hl.1])]) hl.1 hl.2 hk
theorem rep256 : B256 (List.replicate 128 0) := ⟨by simp, fun x hx => by rw [List.eq_of_mem_replicate hx]; omega⟩
set_option maxHeartbeats 2000000 in
theorem encode_spec {K : ByteArray → World → Prop} (ok : OkN d) (hK : ∀ b w', PgN b d → b.size = 128 → Fr 0 0 w w' → K b w') : S.btree_encode (d.kd : Int) (d.n : Int) (d.ky 0) (d.ky 1) (d.ky 2) (d.ky 3) (d.vl 0) (d.vl 1) (d.vl 2) (d.vl 3) (d.kid 0 : Int) (d.kid 1 : Int) (d.kid 2 : Int) (d.kid 3 : Int) (d.kid 4 : Int) w K := by
  unfold S.btree_encode
  refine newN fun w1 c1 f1 s1 => ?_
  refine mkS (by omega) (by omega) (by omega) (by omega) fun w2 z2 f2 s2 => ?_
  rw [show (128 : Int).toNat = 128 from rfl, reps_byts] at z2
  rw [show (128 : Int).toNat = 128 from rfl]
  have hkd : d.kd < 256 := by rcases ok with ⟨h, _⟩ | ⟨h, _⟩ <;> omega
  have hn : d.n < 256 := by rcases ok with ⟨_, h, _⟩ | ⟨_, _, h, _⟩ <;> omega
  have c2 := c1.fr f2 (by omega)
  refine c2.kd ?_
  refine ixF (i := 0) (by show _ < 128; omega) (stU (i := 0) (m := d.kd) z2 (by simp) (by rw [U8_nat, Nat.mod_eq_of_lt hkd]) fun w3 z3 f3 s3 => ?_)
  have c3 := c2.fr f3 (by omega)
  refine c3.cn ?_
  refine ixF (i := 1) (by show _ < 128; omega) (stU (i := 1) (m := d.n) z3 (by simp) (by rw [U8_nat, Nat.mod_eq_of_lt hn]) fun w4 z4 f4 s4 => ?_)
  have c4 := c3.fr f4 (by omega)
  obtain ⟨l0, hl0, z4, h00, h01⟩ : ∃ l0, B256 l0 ∧ Blk w4 w1.heap.size (byts l0) ∧ l0[0]? = some d.kd ∧ l0[1]? = some d.n := by
    refine ⟨_, (rep256.set (i := 0) hkd).set (i := 1) hn, z4, ?_, ?_⟩
    · rw [List.getElem?_set_ne (by omega), List.getElem?_set_self (by simp)]
    · rw [List.getElem?_set_self (by simp)]
  have F4 : Fr 0 0 w w4 := ((f1.then0 f2).thenNew f3 (by omega)).thenNew f4 (by omega)
  refine c4.kd (ifk (fun hk => ?_) fun hk => ?_)
  · have hk1 : d.kd = 1 := by omega
    obtain ⟨_, hn3, hsz⟩ := ok.resolve_right fun h => by have := h.1; omega
    refine join_P (fun s u => s = fullS w1.heap.size 128 ∧ ∃ l, B256 l ∧ Blk u w1.heap.size (byts l) ∧ l[0]? = some d.kd ∧ l[1]? = some d.n ∧ LfL l d d.n ∧ Fr 0 0 w u) ?_ ?_
    · rintro _ u ⟨rfl, l, hl, zu, h0, h1, hf, fu⟩
      refine fullBt zu hl ?_
      obtain ⟨a, b⟩ := strOf_pg (l := l) (d := d) ⟨hl, h0, h1, ok, fun _ => hf, fun h => by omega⟩
      exact hK _ u a b fu
    · intro J hJ
      refine loopN (fun m st u => ∃ (i : Nat) (l : List Nat), st = (fullS w1.heap.size 128, (i : Int), ()) ∧ i + m = d.n ∧ B256 l ∧ Blk u w1.heap.size (byts l) ∧ l[0]? = some d.kd ∧ l[1]? = some d.n ∧ LfL l d i ∧ NB u w.heap.size d ∧ Fr 0 0 w u) d.n
        ⟨0, l0, rfl, by omega, hl0, z4, h00, h01, fun i hi => by omega, c4, F4⟩ ?_
      rintro m _ u ⟨i, l, rfl, hm, hl, zu, h0, h1, hf, cu, fu⟩ Q hQ
      dsimp only
      refine cu.cn (ifd (fun h => ?_) fun h => hJ _ _ ⟨rfl, l, hl, zu, h0, h1, by rw [show d.n = i by omega]; exact hf, fu⟩)
      refine ifd (fun h2 => ?_) fun h2 => by omega
      have e1 : W (4 + W ((i : Int) * 34)) = ((4 + 34 * i : Nat) : Int) := by rw [W_id (x := (i : Int) * 34) (by omega) (by omega), W_id (by omega) (by omega)]; omega
      have e2 : W (W (((4 + 34 * i : Nat) : Int) + 1) + 16) = ((21 + 34 * i : Nat) : Int) := by rw [W_id (x := ((4 + 34 * i : Nat) : Int) + 1) (by omega) (by omega), W_id (by omega) (by omega)]; omega
      rw [e1]
      refine let_ ⟨by omega, by omega, cu.gk (by omega) ?_⟩
      rw [e2]
      refine putStr_spec zu hl (by omega) (hsz i (by omega)).1 fun u1 l1 zu1 hl1 fl1 kp1 g1 => ?_
      have cu1 := cu.fr g1 (by omega)
      refine ⟨by omega, by omega, cu1.gv (by omega) ?_⟩
      refine putStr_spec zu1 hl1 (by omega) (hsz i (by omega)).2 fun u2 l2 zu2 hl2 fl2 kp2 g2 => let_ ?_
      rw [W_succ (by omega)]
      have kp : ∀ j, j < 4 + 34 * i → l2[j]? = l[j]? := fun j hj => by rw [kp2 j (by omega), kp1 j (by omega)]
      refine hQ (m - 1) _ _ (by omega) ⟨i + 1, l2, rfl, by omega, hl2, zu2, by rw [kp 0 (by omega)]; exact h0, by rw [kp 1 (by omega)]; exact h1, fun t ht => ?_, cu1.fr g2 (by omega), (fu.thenNew g1 (by omega)).thenNew g2 (by omega)⟩
      rcases (by omega : t < i ∨ t = i) with h' | rfl
      · exact ⟨(hf t h').1.keep fun j h3 h4 => kp j (by omega), (hf t h').2.keep fun j h3 h4 => kp j (by omega)⟩
      · exact ⟨fl1.keep fun j h3 h4 => kp2 j (by omega), fl2⟩
  · have hk2 : d.kd = 2 := by rcases ok with ⟨h, _⟩ | ⟨h, _⟩ <;> omega
    obtain ⟨_, hn1, hn4, hkid, hsz⟩ := ok.resolve_left fun h => by have := h.1; omega
    refine join_W (fun u => ∃ l, B256 l ∧ Blk u w1.heap.size (byts l) ∧ l[0]? = some d.kd ∧ l[1]? = some d.n ∧ KdL l d d.n ∧ NB u w.heap.size d ∧ Fr 0 0 w u) ?_ ?_
    · rintro u ⟨l, hl, zu, h0, h1, hf, cu, fu⟩
      refine join_P (fun s u => s = fullS w1.heap.size 128 ∧ ∃ l, B256 l ∧ Blk u w1.heap.size (byts l) ∧ l[0]? = some d.kd ∧ l[1]? = some d.n ∧ KdL l d d.n ∧ SpL l d (d.n - 1) ∧ Fr 0 0 w u) ?_ ?_
      · rintro _ u ⟨rfl, l, hl, zu, h0, h1, hf, hg, fu⟩
        refine fullBt zu hl ?_
        obtain ⟨a, b⟩ := strOf_pg (l := l) (d := d) ⟨hl, h0, h1, ok, fun h => by omega, fun _ => ⟨hf, hg⟩⟩
        exact hK _ u a b fu
      · intro J hJ
        refine loopN (fun m st u => ∃ (i : Nat) (l : List Nat), st = (fullS w1.heap.size 128, (i : Int), ()) ∧ i + m = d.n - 1 ∧ B256 l ∧ Blk u w1.heap.size (byts l) ∧ l[0]? = some d.kd ∧ l[1]? = some d.n ∧ KdL l d d.n ∧ SpL l d i ∧ NB u w.heap.size d ∧ Fr 0 0 w u) (d.n - 1)
          ⟨0, l, rfl, by omega, hl, zu, h0, h1, hf, fun i hi => by omega, cu, fu⟩ ?_
        rintro m _ u ⟨i, l, rfl, hm, hl, zu, h0, h1, hf, hg, cu, fu⟩ Q hQ
        dsimp only
        rw [W_succ (by omega)]
        refine cu.cn (ifd (fun h => ?_) fun h => hJ _ _ ⟨rfl, l, hl, zu, h0, h1, hf, by rw [show d.n - 1 = i by omega]; exact hg, fu⟩)
        refine ifd (fun h2 => ?_) fun h2 => by omega
        refine ⟨by omega, by omega, cu.gk (by omega) ?_⟩
        rw [show W (8 + W ((i : Int) * 17)) = ((8 + 17 * i : Nat) : Int) by rw [W_id (x := (i : Int) * 17) (by omega) (by omega), W_id (by omega) (by omega)]; omega]
        refine putStr_spec zu hl (by omega) (hsz i (by omega)) fun u1 l1 zu1 hl1 fl1 kp1 g1 => let_ ?_
        refine hQ (m - 1) _ _ (by omega) ⟨i + 1, l1, rfl, by omega, hl1, zu1, by rw [kp1 0 (by omega)]; exact h0, by rw [kp1 1 (by omega)]; exact h1, fun t ht => by rw [kp1 _ (by omega)]; exact hf t ht, fun t ht => ?_, cu.fr g1 (by omega), fu.thenNew g1 (by omega)⟩
        rcases (by omega : t < i ∨ t = i) with h' | rfl
        · exact (hg t h').keep fun j h3 h4 => kp1 j (by omega)
        · exact fl1
    · intro J hJ
      refine loopN (fun m st u => ∃ (i : Nat) (l : List Nat), st = ((i : Int), ()) ∧ i + m = d.n ∧ B256 l ∧ Blk u w1.heap.size (byts l) ∧ l[0]? = some d.kd ∧ l[1]? = some d.n ∧ KdL l d i ∧ NB u w.heap.size d ∧ Fr 0 0 w u) d.n
        ⟨0, l0, rfl, by omega, hl0, z4, h00, h01, fun i hi => by omega, c4, F4⟩ ?_
      rintro m _ u ⟨i, l, rfl, hm, hl, zu, h0, h1, hf, cu, fu⟩ Q hQ
      dsimp only
      refine cu.cn (ifd (fun h => ?_) fun h => hJ _ ⟨l, hl, zu, h0, h1, by rw [show d.n = i by omega]; exact hf, cu, fu⟩)
      refine ifd (fun h2 => ?_) fun h2 => by omega
      refine ⟨by omega, by omega, cu.gc (by omega) ?_⟩
      rw [show W (4 + (i : Int)) = ((4 + i : Nat) : Int) by rw [W_id (by omega) (by omega)]; omega]
      have hll := hl.1
      have hki := hkid i (by omega)
      refine ixF (by show _ < 128; omega) (stU (m := d.kid i) zu (by rw [Int.toNat_natCast]; omega) (by rw [U8_nat, Nat.mod_eq_of_lt hki]) fun u1 zu1 g1 _ => let_ ?_)
      rw [Int.toNat_natCast] at zu1
      rw [W_succ (by omega)]
      refine hQ (m - 1) _ _ (by omega) ⟨i + 1, _, rfl, by omega, hl.set hki, zu1, by rw [List.getElem?_set_ne (by omega)]; exact h0, by rw [List.getElem?_set_ne (by omega)]; exact h1, fun t ht => ?_, cu.fr g1 (by omega), fu.thenNew g1 (by omega)⟩
      rcases (by omega : t < i ∨ t = i) with h' | rfl
      · rw [List.getElem?_set_ne (by omega)]; exact hf t h'
      · rw [List.getElem?_set_self (by omega)]
theorem getStr_spec {K : ByteArray → World → Prop} (hb : b.size = 128) (ho : o + 17 ≤ 128) (h : Fld (bt b) o s) (hK : K s w) : S.btree_getStr b ((o + 1 : Nat) : Int) (s.size : Int) w K := by
  unfold S.btree_getStr
  have := h.1
  rw [W_add (by omega)]
  refine cutStr (by omega) (by omega) ?_
  have e : b.extract (o + 1) (o + 1 + s.size) = s := by
    apply bt_inj
    rw [bt_extract]
    refine List.ext_getElem? fun j => ?_
    rw [List.getElem?_take, List.getElem?_drop]
    have hl : (bt s).length = s.size := by simp
    split
    · exact h.2.2 j (by omega)
    · rw [List.getElem?_eq_none (by omega)]
  rw [e]
  exact hK
/-- What decode answers of a page that holds d. -/
def Rd (e d : Nd) : Prop := e.kd = d.kd ∧ e.n = d.n ∧ (d.kd = 1 → ∀ i, i < d.n → e.ky i = d.ky i ∧ e.vl i = d.vl i) ∧ (d.kd = 2 → (∀ i, i < d.n → e.kid i = d.kid i) ∧ ∀ i, i + 1 < d.n → e.ky i = d.ky i)
theorem ixB {m o : Nat} {K : Int → Prop} (h : (bt b)[o]? = some m) (hk : K (m : Int)) : IxStr b (o : Int) K := ixStr (by omega) (by rw [Int.toNat_natCast]; exact h) hk
set_option maxHeartbeats 2000000 in
theorem decode_spec {K : Int → Int → ByteArray → ByteArray → ByteArray → ByteArray → ByteArray → ByteArray → ByteArray → ByteArray → Int → Int → Int → Int → Int → Bool → World → Prop} (h : PgN b d) (hK : ∀ (e : Nd) w', Rd e d → Fr 0 0 w w' → K (e.kd : Int) (e.n : Int) (e.ky 0) (e.ky 1) (e.ky 2) (e.ky 3) (e.vl 0) (e.vl 1) (e.vl 2) (e.vl 3) (e.kid 0 : Int) (e.kid 1 : Int) (e.kid 2 : Int) (e.kid 3 : Int) (e.kid 4 : Int) true w') : S.btree_decode b w K := by
  obtain ⟨hB, h0, h1, ok, hL, hI⟩ := h
  have hb : b.size = 128 := by have := hB.1; simpa using this
  have hkd : d.kd < 256 := by rcases ok with ⟨h, _⟩ | ⟨h, _⟩ <;> omega
  have hn : d.n < 256 := by rcases ok with ⟨_, h, _⟩ | ⟨_, _, h, _⟩ <;> omega
  unfold S.btree_decode
  refine newZ fun w1 a1 f1 s1 => newZ fun w2 c2 f2 s2 => ?_
  have a2 := a1.fr f2 (by omega)
  rw [if_neg (by simp [hb])]
  refine ixB (o := 0) h0 ?_
  rw [W_id (x := (d.kd : Int)) (by omega) (by omega)]
  refine c2.skd fun w3 c3 f3 => ixB (o := 1) h1 ?_
  rw [W_id (x := (d.n : Int)) (by omega) (by omega)]
  refine c3.sn rfl fun w4 c4 f4 => ?_
  have a4 := (a2.fr f3 (by omega)).fr f4 (by omega)
  have F4 : Fr 0 0 w w4 := ((f1.then0 f2).thenNew f3 (by omega)).thenNew f4 (by omega)
  rw [join_eq]
  refine c4.kd ?_
  dsimp only
  refine ifk (fun hk => ?_) fun hk => ?_
  · have hk1 : d.kd = 1 := by omega
    obtain ⟨_, hn3, hsz⟩ := ok.resolve_right fun h => by have := h.1; omega
    have hL := hL hk1
    refine c4.cn ?_
    dsimp only
    refine ifd (fun h3 => ?_) fun h3 => by omega
    refine join_W (fun u => ∃ e : Nd, e.kd = d.kd ∧ e.n = d.n ∧ (∀ i, i < d.n → e.ky i = d.ky i ∧ e.vl i = d.vl i) ∧ NB u w1.heap.size e ∧ NB u w.heap.size nd0 ∧ Fr 0 0 w u) ?_ ?_
    · rintro u ⟨e, e1, e2, e3, cu, au, fu⟩
      exact out15 cu au fun u1 g1 => hK e u1 ⟨e1, e2, fun _ => e3, fun h => by omega⟩ (fu.thenNew g1 (by omega))
    · intro J hJ
      refine loopN (fun m st u => ∃ (i : Nat) (e : Nd), st = ((i : Int), ()) ∧ i + m = d.n ∧ e.kd = d.kd ∧ e.n = d.n ∧ (∀ t, t < i → e.ky t = d.ky t ∧ e.vl t = d.vl t) ∧ NB u w1.heap.size e ∧ NB u w.heap.size nd0 ∧ Fr 0 0 w u) d.n
        ⟨0, { nd0 with kd := d.kd, n := d.n }, rfl, by omega, rfl, rfl, fun t ht => by omega, c4, a4, F4⟩ ?_
      rintro m _ u ⟨i, e, rfl, hm, e1, e2, e3, cu, au, fu⟩ Q hQ
      dsimp only
      refine cu.cn (ifd (fun h => ?_) fun h => hJ _ ⟨e, e1, e2, fun t ht => e3 t (by omega), cu, au, fu⟩)
      have hi : i < d.n := by omega
      obtain ⟨fk, fv⟩ := hL i hi
      have sz := hsz i hi
      rw [show W (4 + W ((i : Int) * 34)) = ((4 + 34 * i : Nat) : Int) by rw [W_id (x := (i : Int) * 34) (by omega) (by omega), W_id (by omega) (by omega)]; omega]
      refine let_ (ixB fk.2.1 (let_ ?_))
      rw [show W (W (((4 + 34 * i : Nat) : Int) + 1) + 16) = ((21 + 34 * i : Nat) : Int) by rw [W_id (x := ((4 + 34 * i : Nat) : Int) + 1) (by omega) (by omega), W_id (by omega) (by omega)]; omega]
      refine ixB fv.2.1 (let_ ?_)
      rw [join_eq]
      rw [W_id (x := ((d.ky i).size : Int)) (by omega) (by omega), W_id (x := ((d.vl i).size : Int)) (by omega) (by omega)]
      refine ifd (fun h => by omega) fun _ => ifd (fun h => by omega) fun _ => ?_
      rw [W_succ (by omega), show W (W (((4 + 34 * i : Nat) : Int) + 2) + 16) = ((21 + 34 * i + 1 : Nat) : Int) by rw [W_id (x := ((4 + 34 * i : Nat) : Int) + 2) (by omega) (by omega), W_id (by omega) (by omega)]; omega]
      refine getStr_spec hb (by omega) fk ⟨by omega, by omega, cu.sk (by omega) fun u1 cu1 g1 => getStr_spec hb (by omega) fv ⟨by omega, by omega, cu1.sv (by omega) fun u2 cu2 g2 => let_ ?_⟩⟩
      rw [W_succ (by omega)]
      have G := g1.trans g2
      refine hQ (m - 1) _ _ (by omega) ⟨i + 1, _, rfl, by omega, ?_, ?_, ?_, cu2, au.fr G (by omega), fu.thenNew G (by omega)⟩
      · exact e1
      · exact e2
      · exact fun t ht => ⟨fset2 (f := d.ky) (fun t ht => (e3 t ht).1) t ht, fset2 (f := d.vl) (fun t ht => (e3 t ht).2) t ht⟩
  · have hk2 : d.kd = 2 := by rcases ok with ⟨h, _⟩ | ⟨h, _⟩ <;> omega
    obtain ⟨_, hn1, hn4, hkid, hsz⟩ := ok.resolve_left fun h => by have := h.1; omega
    obtain ⟨hC, hS⟩ := hI hk2
    rw [join_eq]
    refine c4.kd ?_
    dsimp only
    refine ifk (fun _ => ?_) fun h => by omega
    refine c4.cn ?_
    dsimp only
    refine ifd (fun _ => ?_) fun h => by omega
    refine c4.cn ?_
    dsimp only
    refine ifd (fun _ => ?_) fun h => by omega
    refine join_W (fun u => ∃ e : Nd, e.kd = d.kd ∧ e.n = d.n ∧ (∀ i, i < d.n → e.kid i = d.kid i) ∧ NB u w1.heap.size e ∧ NB u w.heap.size nd0 ∧ Fr 0 0 w u) ?_ ?_
    · rintro u ⟨e, e1, e2, e3, cu, au, fu⟩
      refine join_W (fun u => ∃ e : Nd, e.kd = d.kd ∧ e.n = d.n ∧ (∀ i, i < d.n → e.kid i = d.kid i) ∧ (∀ i, i + 1 < d.n → e.ky i = d.ky i) ∧ NB u w1.heap.size e ∧ NB u w.heap.size nd0 ∧ Fr 0 0 w u) ?_ ?_
      · rintro u ⟨e, e1, e2, e3, e4, cu, au, fu⟩
        exact out15 cu au fun u1 g1 => hK e u1 ⟨e1, e2, fun h => by omega, fun _ => ⟨e3, e4⟩⟩ (fu.thenNew g1 (by omega))
      · intro J hJ
        refine loopN (fun m st u => ∃ (i : Nat) (e : Nd), st = ((i : Int), ()) ∧ i + m = d.n - 1 ∧ e.kd = d.kd ∧ e.n = d.n ∧ (∀ i, i < d.n → e.kid i = d.kid i) ∧ (∀ t, t < i → e.ky t = d.ky t) ∧ NB u w1.heap.size e ∧ NB u w.heap.size nd0 ∧ Fr 0 0 w u) (d.n - 1)
          ⟨0, e, rfl, by omega, e1, e2, e3, fun t ht => by omega, cu, au, fu⟩ ?_
        rintro m _ u ⟨i, e, rfl, hm, e1, e2, e3, e4, cu, au, fu⟩ Q hQ
        dsimp only
        rw [W_succ (by omega)]
        refine cu.cn (ifd (fun h => ?_) fun h => hJ _ ⟨e, e1, e2, e3, fun t ht => e4 t (by omega), cu, au, fu⟩)
        have fk := hS i (by omega)
        have sz := hsz i (by omega)
        rw [show W (8 + W ((i : Int) * 17)) = ((8 + 17 * i : Nat) : Int) by rw [W_id (x := (i : Int) * 17) (by omega) (by omega), W_id (by omega) (by omega)]; omega]
        refine let_ (ixB fk.2.1 (let_ ?_))
        rw [W_id (x := ((d.ky i).size : Int)) (by omega) (by omega)]
        refine ifd (fun h => by omega) fun _ => ?_
        rw [W_succ (by omega)]
        refine getStr_spec hb (by omega) fk ⟨by omega, by omega, cu.sk (by omega) fun u1 cu1 g1 => let_ ?_⟩
        refine hQ (m - 1) _ _ (by omega) ⟨i + 1, _, rfl, by omega, ?_, ?_, ?_, ?_, cu1, au.fr g1 (by omega), fu.thenNew g1 (by omega)⟩
        · exact e1
        · exact e2
        · exact e3
        · exact fset2 (f := d.ky) e4
    · intro J hJ
      refine loopN (fun m st u => ∃ (i : Nat) (e : Nd), st = ((i : Int), ()) ∧ i + m = d.n ∧ e.kd = d.kd ∧ e.n = d.n ∧ (∀ t, t < i → e.kid t = d.kid t) ∧ NB u w1.heap.size e ∧ NB u w.heap.size nd0 ∧ Fr 0 0 w u) d.n
        ⟨0, { nd0 with kd := d.kd, n := d.n }, rfl, by omega, rfl, rfl, fun t ht => by omega, c4, a4, F4⟩ ?_
      rintro m _ u ⟨i, e, rfl, hm, e1, e2, e3, cu, au, fu⟩ Q hQ
      dsimp only
      refine cu.cn (ifd (fun h => ?_) fun h => hJ _ ⟨e, e1, e2, fun t ht => e3 t (by omega), cu, au, fu⟩)
      have hki := hkid i (by omega)
      rw [show W (4 + (i : Int)) = ((4 + i : Nat) : Int) by rw [W_id (by omega) (by omega)]; omega]
      refine ixB (hC i (by omega)) ⟨by omega, by omega, cu.sc (s := d.kid i) (by omega) (W_id (by omega) (by omega)) fun u1 cu1 g1 => let_ ?_⟩
      rw [W_succ (by omega)]
      refine hQ (m - 1) _ _ (by omega) ⟨i + 1, _, rfl, by omega, ?_, ?_, ?_, cu1, au.fr g1 (by omega), fu.thenNew g1 (by omega)⟩
      · exact e1
      · exact e2
      · exact fset2 (f := d.kid) e3
end Go.Proofs.Qxb6500564aGreat
