/-
  The disk: its calls.
-/
import Derived.Test.Qxb6500564aGreatWalP
import Derived.Test.Qxb6500564aGreatAux
import Derived.Test.Qxb6500564aGreatS3
namespace Go.Proofs.Qxb6500564aGreat
open Go.Den Go.Zip
set_option linter.unusedVariables false
set_option linter.unusedSimpArgs false
variable {w w' : World} {d : Nat} {D B : List Bk} {R : List Wr} {O O' : Nat → Prop}

theorem blockOf_spec {x : Bk} {K : Bk → World → Prop} (hK : K (blockOf x) w) : S.api_BlockOf x w K := by
  unfold S.api_BlockOf
  unfold blockOf at hK
  refine ifd (fun h => ?_) fun h => ?_
  · rw [if_pos (by omega)] at hK
    exact cutStr (lo := 0) (hi := 128) (by omega) (by omega) hK
  · rw [if_neg (by omega)] at hK
    refine cutStr (lo := x.size) (hi := blk0.size) (by rw [blk0_size]; omega) (Nat.le_refl _) ⟨?_, ?_⟩
    · rw [ByteArray.size_extract, blk0_size]; omega
    · rw [blk0_size]; exact hK
theorem blocks_spec {n : Nat} {K : Sl → World → Prop} (hn : n ≤ 1000) (hK : ∀ w', Blk w' w.heap.size (strs (List.replicate n blk0)) → Fr 0 0 w w' → w'.heap.size = w.heap.size + 1 → K (fullS w.heap.size n) w') : S.api_Blocks (n : Nat) w K := by
  unfold S.api_Blocks
  rw [join_eq, if_neg (by simp only [decide_eq_true_eq]; omega)]
  refine mkS (by omega) (by omega) (by omega) (by omega) fun w1 b1 f1 s1 => ?_
  rw [Int.toNat_natCast] at *
  rw [reps_str] at b1
  refine loopN (fun m st v => ∃ i : Nat, st = ((i : Int), ()) ∧ i + m = n ∧ Blk v w.heap.size (strs (List.replicate i blk0 ++ List.replicate m ⟨#[]⟩)) ∧ Fr 0 0 w v ∧ v.heap.size = w.heap.size + 1) n ⟨0, rfl, by omega, by simpa using b1, f1, s1⟩ ?_
  rintro m _ v ⟨i, rfl, hm, hb, hf, hs⟩ Q hQ
  dsimp only
  cases m with
  | zero =>
    rw [if_neg (by simp only [decide_eq_true_eq]; omega)]
    have : i = n := by omega
    subst this
    exact hK v (by simpa using hb) hf hs
  | succ m =>
    rw [if_pos (by simp only [decide_eq_true_eq]; omega)]
    refine ix rfl (by omega) (by omega) ?_
    rw [o1]
    refine st1 hb (by simp) fun v2 b2 f2 s2 => let_ ?_
    rw [strs_set] at b2
    rw [W_succ (by omega)]
    refine hQ m _ v2 (by omega) ⟨i + 1, rfl, by omega, ?_, ((hf.any w.heap.size 1).trans f2).fresh (Nat.le_refl _) 0 0, by omega⟩
    have e : (List.replicate i blk0 ++ List.replicate (m + 1) (⟨#[]⟩ : Bk)).set i blk0 = List.replicate (i + 1) blk0 ++ List.replicate m ⟨#[]⟩ := by
      rw [List.set_append_right _ _ (by simp), List.length_replicate, Nat.sub_self, List.replicate_succ (n := m), List.set_cons_zero, List.replicate_succ']
      simp
    rw [e] at b2
    exact b2
theorem copyBlocks_spec {b n : Nat} {L : List Bk} {K : Sl → World → Prop} (h : Blk w b (strs L)) (hn : n = L.length) (hl : n ≤ 1000) (hK : ∀ w', Blk w' w.heap.size (strs L) → Fr 0 0 w w' → w'.heap.size = w.heap.size + 1 → K (fullS w.heap.size n) w') : S.api_CopyBlocks (fullS b n) w K := by
  unfold S.api_CopyBlocks
  refine mkS (by omega) (by omega) (by show (16 : Int) * ((n : Nat) : Int) ≤ _; omega) (by show ((n : Nat) : Int) < _; omega) fun w1 b1 f1 s1 => ?_
  show CopyS 1 w1 ⟨some ⟨w.heap.size, 0, none⟩, ((n : Nat) : Int).toNat, ((n : Nat) : Int).toNat⟩ (fullS b n) _
  rw [Int.toNat_natCast] at *
  have b1 : Blk w1 w.heap.size (reps [.string ⟨#[]⟩] ((n : Nat) : Int).toNat) := b1
  rw [Int.toNat_natCast, reps_str] at b1
  refine copyS (n := n) (us := strs L) (h.fr f1 (by omega)) rfl b1 rfl (by simp) (by rw [List.drop_zero, Nat.mul_one]; exact List.take_of_length_le (by simp [hn])) (by simp [hn]) (strs_ok _) (by simp [hn]) fun w2 b2 f2 s2 => ?_
  refine hK w2 ?_ (((f1.any w.heap.size 1).trans f2).fresh (Nat.le_refl _) 0 0) (by omega)
  have e : (strs (List.replicate n (⟨#[]⟩ : Bk))).take 0 ++ strs L ++ (strs (List.replicate n (⟨#[]⟩ : Bk))).drop (0 + (strs L).length) = strs L := by
    rw [List.take_zero, List.nil_append, Nat.zero_add, List.drop_of_length_le (by simp [hn]), List.append_nil]
  rw [e] at b2
  exact b2
/-! ### The disk -/
def recV (q : Wr) : List Value := [.int .i64 (q.1 : Nat), .string q.2]
def dO (d b1 b2 : Nat) (rs : Sl) (b : Nat) : Prop := b = d ∨ b = b1 ∨ b = b2 ∨ owns rs b
structure DK (w : World) (d b1 b2 : Nat) (rs : Sl) (D B : List Bk) (R : List Wr) : Prop where
  rc : Blk w d [slV (fullS b1 153), slV (fullS b2 153), slV rs]
  k1 : Blk w b1 (strs D)
  k2 : Blk w b2 (strs B)
  os : OS w rs (R.flatMap recV) 2
  nB : B.length = 153
  sB : ∀ x ∈ B, x.size = 128
  sR : ∀ q ∈ R, q.1 < 153 ∧ q.2.size = 128
  ap : D = appl B R
  d1 : d ≠ b1
  d2 : d ≠ b2
  d3 : b1 ≠ b2
  dr : ∀ b, owns rs b → b ≠ d ∧ b ≠ b1 ∧ b ≠ b2
/-- The disk at d: its blocks D, as at the mark B, the writes since R. -/
def DI (w : World) (d : Nat) (B : List Bk) (R : List Wr) (O : Nat → Prop) : Prop := ∃ b1 b2 rs, DK w d b1 b2 rs (appl B R) B R ∧ O = dO d b1 b2 rs
theorem DK.nD {b1 b2 : Nat} {rs : Sl} (k : DK w d b1 b2 rs D B R) : D.length = 153 := by rw [k.ap, appl_len, k.nB]
theorem appl_mem : ∀ {a : List Wr} {D : List Bk} {x : Bk}, x ∈ appl D a → x ∈ D ∨ ∃ q ∈ a, q.2 = x
  | [], D, x, h => .inl h
  | q :: a, D, x, h => by
    rcases appl_mem (a := a) h with h | ⟨q', h1, h2⟩
    · rcases List.mem_or_eq_of_mem_set h with h | h
      · exact .inl h
      · exact .inr ⟨q, .head _, h.symm⟩
    · exact .inr ⟨q', .tail _ h1, h2⟩
theorem DK.sD {b1 b2 : Nat} {rs : Sl} (k : DK w d b1 b2 rs D B R) : ∀ x ∈ D, x.size = 128 := by
  intro x hx
  rw [k.ap] at hx
  rcases appl_mem hx with h | ⟨q, h1, rfl⟩
  · exact k.sB x h
  · exact (k.sR q h1).2
theorem DI.lt {b : Nat} (k : DI w d B R O) (hb : O b) : b < w.heap.size := by
  obtain ⟨b1, b2, rs, k, rfl⟩ := k
  rcases hb with rfl | rfl | rfl | hb
  · exact k.rc.lt
  · exact k.k1.lt
  · exact k.k2.lt
  · exact k.os.lt hb
theorem DI.frp {Q : Nat → Prop} (k : DI w d B R O) (F : FrP Q w w') (hn : ∀ b, O b → ¬ Q b) : DI w' d B R O := by
  obtain ⟨b1, b2, rs, k, rfl⟩ := k
  exact ⟨b1, b2, rs, { k with rc := k.rc.frp F (hn _ (.inl rfl)), k1 := k.k1.frp F (hn _ (.inr (.inl rfl))), k2 := k.k2.frp F (hn _ (.inr (.inr (.inl rfl)))), os := k.os.frp F fun b hb => hn _ (.inr (.inr (.inr hb))) }, rfl⟩
theorem DI.fr0 (k : DI w d B R O) (F : Fr 0 0 w w') : DI w' d B R O := k.frp (FrP.of0 F) fun _ _ h => h
theorem DI.nD (k : DI w d B R O) : (appl B R).length = 153 ∧ B.length = 153 ∧ (∀ x ∈ appl B R, x.size = 128) := by
  obtain ⟨b1, b2, rs, k, rfl⟩ := k
  exact ⟨k.nD, k.nB, k.sD⟩
theorem dread_spec {b : Nat} {K : Bk → Int → World → Prop} (k : DI w d B R O) (hb : b < 153) (hK : K ((appl B R).getD b blk0) 0 w) : S.diskm_Disk_Read d (b : Nat) w K := by
  unfold S.diskm_Disk_Read
  have hn := k.nD.1
  obtain ⟨b1, b2, rs, k, rfl⟩ := k
  rw [if_neg (by simp only [decide_eq_true_eq]; omega), if_neg (by simp only [decide_eq_true_eq]; omega)]
  refine ldS k.rc (a := some ⟨b1, 0, none⟩) (l := 153) (c := 153) rfl (ix rfl (by omega) (by show ((b : Nat) : Int) < 153; omega) ?_)
  rw [o1]
  refine ldStr k.k1 (m := (appl B R).getD b blk0) (strs_get ?_) hK
  rw [List.getD_eq_getElem?_getD, List.getElem?_eq_getElem (by omega)]; rfl
theorem dwrite_spec {b : Nat} {x : Bk} {K : Int → World → Prop} (k : DI w d B R O) (hb : b < 153) (hR : R.length ≤ 1000000)
    (hK : ∀ w' O', DI w' d B (R ++ [(b, blockOf x)]) O' → Gw O w O' w' → K 0 w') : S.diskm_Disk_Write d (b : Nat) x w K := by
  unfold S.diskm_Disk_Write
  have hn := k.nD.1
  obtain ⟨b1, b2, rs, k, rfl⟩ := k
  rw [if_neg (by simp only [decide_eq_true_eq]; omega), if_neg (by simp only [decide_eq_true_eq]; omega)]
  refine blockOf_spec ?_
  refine ldS k.rc (a := some ⟨b1, 0, none⟩) (l := 153) (c := 153) rfl (ix rfl (by omega) (by show ((b : Nat) : Int) < 153; omega) ?_)
  rw [o1]
  refine st1 k.k1 (by simpa [hn] using hb) fun w1 c1 f1 s1 => ?_
  rw [strs_set] at c1
  have F1 : FrP (fun c => c = b1) w w1 := FrP.of f1 fun x h1 h2 => by omega
  have r1 := k.rc.frp F1 k.d1
  have k21 := k.k2.frp F1 (fun e => k.d3 e.symm)
  have os1 := k.os.frp F1 fun c hc => (k.dr c hc).2.1
  refine ldS r1 (a := rs.a) (l := rs.l) (c := rs.c) rfl (newB fun w2 c2 f2 s2 => ?_)
  have os2 := os1.frp (FrP.of0 (P := fun _ => False) f2) fun _ _ h => h
  have hrl : rs.l = R.length := by
    have := k.os.len
    rw [flat_length (c := 2) (fun _ => rfl)] at this
    omega
  have k12 := c1.fr f2 (by omega)
  have k22 := k21.fr f2 (by omega)
  have r2 := r1.fr f2 (by omega)
  have l1 := k12.lt; have l2 := k22.lt; have l3 := r2.lt
  refine app1 os2 c2 rfl rfl rfl (by show (rs.l + 1) * 24 ≤ _; omega) fun rs' w3 os3 l3' gr F3 => ?_
  have r3 := r2.frp F3 fun h => (k.dr _ h).1 rfl
  have k13 := k12.frp F3 fun h => (k.dr _ h).2.1 rfl
  have k23 := k22.frp F3 fun h => (k.dr _ h).2.2 rfl
  have dr3 : ∀ c, owns rs' c → c ≠ d ∧ c ≠ b1 ∧ c ≠ b2 := fun c hc => by
    rcases gr c hc with h | h
    · exact k.dr c h
    · exact ⟨by omega, by omega, by omega⟩
  refine st1 r3 (by simp) fun w4 c4 f4 s4 => ?_
  have F4 : FrP (fun c => c = d) w3 w4 := FrP.of f4 fun x h1 h2 => by omega
  have eR : (R ++ [(b, blockOf x)]).flatMap recV = R.flatMap recV ++ [.int .i64 (b : Nat), .string (blockOf x)] := by simp [recV]
  refine hK w4 _ ⟨b1, b2, rs', ⟨c4, ?_, k23.frp F4 (fun e => k.d2 e.symm), ?_, k.nB, k.sB, fun q hq => ?_, rfl, k.d1, k.d2, k.d3, dr3⟩, rfl⟩ ⟨?_, ?_⟩
  · have := k13.frp F4 (fun e => k.d1 e.symm)
    rw [appl_app]
    exact this
  · rw [eR]
    exact os3.frp F4 fun c hc => (dr3 c hc).1
  · rcases List.mem_append.1 hq with hq | hq
    · exact k.sR q hq
    · rw [List.mem_singleton.1 hq]; exact ⟨hb, blockOf_size _⟩
  · have F12 : FrP (dO d b1 b2 rs) w w2 := (F1.mono fun c hc => .inr (.inl hc)).trans (FrP.of0 f2)
    have F13 := F12.trans (F3.mono fun c hc => .inr (.inr (.inr hc)))
    exact F13.trans (F4.mono fun c hc => .inl hc)
  · rintro c (rfl | rfl | rfl | hc)
    · exact .inl (.inl rfl)
    · exact .inl (.inr (.inl rfl))
    · exact .inl (.inr (.inr (.inl rfl)))
    · rcases gr c hc with h | h
      · exact .inl (.inr (.inr (.inr h)))
      · exact .inr (by omega)
theorem dmark_spec {K : World → Prop} (k : DI w d B R O) (hK : ∀ w' O', DI w' d (appl B R) [] O' → Gw O w O' w' → K w') : S.diskm_Disk_Mark d w K := by
  unfold S.diskm_Disk_Mark
  have hn := k.nD
  obtain ⟨b1, b2, rs, k, rfl⟩ := k
  refine ldS k.rc (a := some ⟨b1, 0, none⟩) (l := 153) (c := 153) rfl ?_
  refine copyBlocks_spec (n := 153) k.k1 hn.1.symm (by omega) fun w1 c1 f1 s1 => ?_
  have l1 := k.rc.lt; have l2 := k.k1.lt
  refine st1 (k.rc.fr f1 (by omega)) (by simp) fun w2 c2 f2 s2 => st1 c2 (by simp) fun w3 c3 f3 s3 => ?_
  have F : FrP (fun c => c = d) w1 w3 := FrP.of (f2.trans f3) fun x h1 h2 => by omega
  refine hK w3 _ ⟨b1, w.heap.size, ⟨none, 0, 0⟩, ⟨c3, ?_, ?_, OS.nil _ _, hn.1, hn.2.2, fun q hq => (by cases hq), rfl, k.d1, by omega, by omega, fun c hc => (by simp [owns] at hc)⟩, rfl⟩ ⟨?_, ?_⟩
  · exact (k.k1.fr f1 (by omega)).frp F (fun e => k.d1 e.symm)
  · exact c1.frp F (fun e => by omega)
  · exact (FrP.of0 f1).trans (F.mono fun c hc => .inl hc)
  · rintro c (rfl | rfl | rfl | hc)
    · exact .inl (.inl rfl)
    · exact .inl (.inr (.inl rfl))
    · exact .inr (Nat.le_refl _)
    · simp [owns] at hc
theorem dsteps_spec {K : Int → World → Prop} (k : DI w d B R O) (hK : K (R.length : Nat) w) : S.diskm_Disk_Steps d w K := by
  unfold S.diskm_Disk_Steps
  obtain ⟨b1, b2, rs, k, rfl⟩ := k
  have hrl : rs.l = R.length := by
    have := k.os.len
    rw [flat_length (c := 2) (fun _ => rfl)] at this
    omega
  refine ldS k.rc (a := rs.a) (l := rs.l) (c := rs.c) rfl ?_
  rw [hrl]; exact hK
theorem dnew_spec {K : Nat → World → Prop} (hK : ∀ w' d O, DI w' d (List.replicate 153 blk0) [] O → (∀ b, O b → w.heap.size ≤ b) → Fr 0 0 w w' → K d w') : S.diskm_New w K := by
  unfold S.diskm_New
  refine newB fun w1 c1 f1 s1 => ?_
  refine blocks_spec (n := 153) (by omega) fun w2 c2 f2 s2 => ?_
  refine st1 (c1.fr f2 (by omega)) (by simp) fun w3 c3 f3 s3 => ?_
  refine blocks_spec (n := 153) (by omega) fun w4 c4 f4 s4 => ?_
  refine st1 (c3.fr f4 (by omega)) (by simp) fun w5 c5 f5 s5 => ?_
  have k1 := ((c2.fr f3 (by omega)).fr f4 (by omega)).fr f5 (by omega)
  have k2 := c4.fr f5 (by omega)
  have F : Fr 0 0 w w5 := ((((f1.trans f2).any w.heap.size 1).trans f3).trans ((f4.any w.heap.size 1).trans f5)).fresh (Nat.le_refl _) 0 0
  refine hK w5 w.heap.size _ ⟨w1.heap.size, w3.heap.size, ⟨none, 0, 0⟩, ⟨c5, k1, k2, OS.nil _ _, by simp, fun x hx => ?_, fun q hq => (by cases hq), rfl, by omega, by omega, by omega, fun c hc => (by simp [owns] at hc)⟩, rfl⟩ ?_ F
  · rw [(List.mem_replicate.1 hx).2]; exact blk0_size
  · rintro c (rfl | rfl | rfl | hc)
    · omega
    · omega
    · omega
    · simp [owns] at hc
theorem take_succ_get {α : Type} {l : List α} {i : Nat} {x : α} (h : l[i]? = some x) : l.take (i + 1) = l.take i ++ [x] := by
  rw [List.take_add_one, h]; rfl
/-- The disk as a cut after k writes leaves it. -/
theorem dat_spec {k : Int} {K : Nat → World → Prop} (q : DI w d B R O) (hR : R.length ≤ 1000000) (hK : ∀ w' n O', DI w' n (appl B (R.take k.toNat)) [] O' → (∀ b, O' b → w.heap.size ≤ b) → Fr 0 0 w w' → K n w') : S.diskm_Disk_at d k w K := by
  unfold S.diskm_Disk_at
  have hq := q
  obtain ⟨b1, b2, rs, k0, rfl⟩ := q
  have hrl : rs.l = R.length := by
    have := k0.os.len
    rw [flat_length (c := 2) (fun _ => rfl)] at this
    omega
  refine newB fun w1 c1 f1 s1 => ?_
  have k1 := k0.rc.fr f1 (by omega)
  refine ldS k1 (a := some ⟨b2, 0, none⟩) (l := 153) (c := 153) rfl ?_
  refine copyBlocks_spec (n := 153) (k0.k2.fr f1 (by omega)) k0.nB.symm (by omega) fun w2 c2 f2 s2 => ?_
  refine st1 (c1.fr f2 (by omega)) (by simp) fun w3 c3 f3 s3 => ?_
  have c3 : Blk w3 w.heap.size [slV (fullS w1.heap.size 153), .slice none 0 0, .slice none 0 0] := c3
  have F3 : Fr 0 0 w w3 := (((f1.trans f2).any w.heap.size 1).trans f3).fresh (Nat.le_refl _) 0 0
  have k3 := c2.fr f3 (by omega)
  have hlt := k3.lt
  refine join_W (fun v => Blk v w.heap.size [slV (fullS w1.heap.size 153), .slice none 0 0, .slice none 0 0] ∧ Blk v w1.heap.size (strs (appl B (R.take k.toNat))) ∧ Fr 0 0 w v) ?_ ?_
  · rintro v ⟨e1, e2, Fv⟩
    have hz := Fv.1.1
    have hl1 := e1.lt; have hl2 := e2.lt
    refine ldS e1 (a := some ⟨w1.heap.size, 0, none⟩) (l := 153) (c := 153) rfl ?_
    have hlen : (appl B (R.take k.toNat)).length = 153 := by rw [appl_len, k0.nB]
    refine copyBlocks_spec (n := 153) e2 hlen.symm (by omega) fun w4 c4 f4 s4 => ?_
    refine st1 (e1.fr f4 (by omega)) (by simp) fun w5 c5 f5 s5 => ?_
    have F5 : Fr 0 0 w w5 := ((((Fv.trans f4)).any w.heap.size 1).trans f5).fresh (Nat.le_refl _) 0 0
    refine hK w5 w.heap.size _ ⟨w1.heap.size, v.heap.size, ⟨none, 0, 0⟩, ⟨c5, (e2.fr f4 (by omega)).fr f5 (by omega), c4.fr f5 (by omega), OS.nil _ _, hlen, fun x hx => ?_, fun q hq => (by cases hq), rfl, by omega, by omega, by omega, fun c hc => (by simp [owns] at hc)⟩, rfl⟩ ?_ F5
    · rcases appl_mem hx with h | ⟨q, h1, rfl⟩
      · exact k0.sB x h
      · exact (k0.sR q (List.mem_of_mem_take h1)).2
    · rintro c (rfl | rfl | rfl | hc)
      · omega
      · omega
      · omega
      · simp [owns] at hc
  · intro J hJ
    refine loopN (fun m st v => ∃ i : Nat, st = ((i : Int), ()) ∧ i + m = R.length ∧ (i : Int) ≤ max k 0 ∧ Blk v w.heap.size [slV (fullS w1.heap.size 153), .slice none 0 0, .slice none 0 0] ∧ Blk v w1.heap.size (strs (appl B (R.take i))) ∧ Fr 0 0 w v) R.length ⟨0, rfl, by omega, by omega, c3, by simpa [appl] using k3, F3⟩ ?_
    rintro m _ v ⟨i, rfl, hm, hik, e1, e2, Fv⟩ Q hQ
    dsimp only
    have qv := k0.rc.fr Fv (by omega)
    have ov := k0.os.frp (FrP.of0 (P := fun _ => False) Fv) fun _ _ h => h
    have fin : i = R.length ∨ k ≤ i → J v := fun h => hJ v ⟨e1, by
      have : R.take k.toNat = R.take i := by
        rcases h with h | h
        · rw [List.take_of_length_le (by omega : R.length ≤ i), List.take_of_length_le (by omega)]
        · have : k.toNat = i := by omega
          rw [this]
      rw [this]; exact e2, Fv⟩
    refine ldS qv (a := rs.a) (l := rs.l) (c := rs.c) rfl ?_
    refine ifd (fun h1 => ifd (fun h2 => ?_) fun h2 => fin (.inr (by omega))) fun h1 => fin (.inl (by show i = R.length; have : ¬ ((i : Nat) : Int) < ((rs.l : Nat) : Int) := h1; omega))
    have hi : i < R.length := by have : ((i : Nat) : Int) < ((rs.l : Nat) : Int) := h1; omega
    refine drew_ (ldS e1.drew (a := some ⟨w1.heap.size, 0, none⟩) (l := 153) (c := 153) rfl (ldS qv.drew (a := rs.a) (l := rs.l) (c := rs.c) rfl ?_))
    have hget : R[i]? = some R[i] := List.getElem?_eq_getElem hi
    obtain ⟨r1, r2⟩ := k0.sR R[i] (List.getElem_mem hi)
    generalize R[i] = q at *
    have ov' : OS v.drew rs (R.flatMap recV) 2 := ov.frp (P := fun _ => False) (FrP.refl _ v).drew fun _ _ h => h
    have hfl : (R.flatMap recV).length = R.length * 2 := flat_length (c := 2) (fun _ => rfl) _
    refine OS.get (s := rs) ov' (by omega) fun g us hb hu _ => ?_
    have g0 : us[0 + Int.toNat ((i : Nat) : Int) * 2]? = some (.int .i64 (q.1 : Nat)) := by
      rw [Int.toNat_natCast, Nat.zero_add, hu _ (by omega), show i * 2 = i * 2 + 0 from rfl, flat_get (c := 2) (fun _ => rfl) _ _ _ (by omega), hget]; rfl
    refine ldI hb g0 (ldS qv.drew (a := rs.a) (l := rs.l) (c := rs.c) rfl (OS.get (s := rs) ov' (by omega) fun g us hb hu _ => ?_))
    have g1 : us[0 + Int.toNat ((i : Nat) : Int) * 2 + 1]? = some (.string q.2) := by
      rw [Int.toNat_natCast, Nat.zero_add, hu _ (by omega), flat_get (c := 2) (fun _ => rfl) _ _ _ (by omega), hget]; rfl
    refine ldStr hb g1 (ix rfl (by omega) (by show ((q.1 : Nat) : Int) < 153; omega) ?_)
    rw [o1]
    have hlen : (appl B (R.take i)).length = 153 := by rw [appl_len, k0.nB]
    refine st1 e2.drew (by simpa [hlen] using r1) fun v2 b2 f2 s2 => let_ ?_
    rw [strs_set] at b2
    rw [W_succ (by omega)]
    have hz := Fv.1.1
    refine hQ (m - 1) _ v2 (by omega) ⟨i + 1, rfl, by omega, by omega, e1.drew.fr f2 (by omega), ?_, ((Fv.drew.any w1.heap.size 1).trans f2).fresh (by omega) 0 0⟩
    rw [take_succ_get hget, appl_app]
    exact b2
theorem dafter_spec {k : Int} {K : Nat → World → Prop} (q : DI w d B R O) (hR : R.length ≤ 1000000) (hK : ∀ w' n O', DI w' n (appl B (R.take k.toNat)) [] O' → (∀ b, O' b → w.heap.size ≤ b) → Fr 0 0 w w' → K n w') : S.towerlaw_After d k w K := by
  unfold S.towerlaw_After S.diskm_Disk_After
  refine dat_spec q hR fun w1 n O1 q1 n1 f1 => dmark_spec q1 fun w2 O2 q2 G2 => ?_
  exact hK w2 n O2 q2 (newO f1 n1 G2) (frNew f1 n1 G2)
end Go.Proofs.Qxb6500564aGreat
