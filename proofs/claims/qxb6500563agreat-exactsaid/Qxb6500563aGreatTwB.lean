/-
  towerexact: packed, listed, unpacked.
-/
import Derived.Test.Qxb6500563aGreatTwA
namespace Go.Proofs.Qxb6500563aGreat
open Go.Den Go.Zip
set_option linter.unusedVariables false
set_option linter.unusedSimpArgs false
variable {w w' : World} {B : Nat}

theorem slotsR_len (raw : ByteArray) : (slotsR raw).length < 256 := by
  unfold slotsR
  rw [slots_len]
  exact bt_getD_lt raw ((bt raw).length - 4)
def listX (raw : ByteArray) : List Inf := if (listE raw).1 = 0 then (slotsR raw).map (infOf raw) else []
def unpX (raw : ByteArray) : List Ent := if (unpE raw).1 = 0 then (slotsR raw).map (entOf raw) else []
theorem listX_len (raw : ByteArray) : (listX raw).length < 256 := by
  unfold listX; split
  · rw [List.length_map]; exact slotsR_len raw
  · simp
theorem unpX_len (raw : ByteArray) : (unpX raw).length < 256 := by
  unfold unpX; split
  · rw [List.length_map]; exact slotsR_len raw
  · simp
theorem EntS.cut {l : Sl} {g k n mx : Nat} {es : List Ent} (h : EntS w l g es) (hn : k + n ≤ es.length) (hm : k + n ≤ mx) :
    EntS w ⟨if mx = k then l.a else l.a.map (·.add (k * 2)), k + n - k, mx - k⟩ g ((es.drop k).take n) := by
  refine ⟨by simp; omega, ?_⟩
  rcases Nat.eq_zero_or_pos n with h0 | h0
  · left; subst h0; simp
  rcases h.ex with e | ⟨o, vs, h1, h2, h3⟩
  · left; subst e; simp
  right
  refine ⟨o + k * 2, vs, ?_, h2, fun i e he => ?_⟩
  · dsimp only
    rw [if_neg (by omega), h1]
    simp [add_mk]
  · rw [List.getElem?_take] at he
    split at he
    · rw [List.getElem?_drop] at he
      have := h3 _ _ he
      rw [show o + k * 2 + i * 2 = o + (k + i) * 2 by omega]
      exact this
    · cases he
theorem packed_spec {m g : Nat} {l : Sl} {es : List Ent} {k n x : Nat} {level : Int} {K : ByteArray → Bool → Bool → World → Prop} (hA : RAI w B) (hM : ∀ w', Fr B 66 w w' → MA w' m)
    (hl : EntS w l g es) (hg : es = [] ∨ g < B ∨ B + 66 ≤ g) (hlc : es.length ≤ l.c) (hbig : es.length ≤ 1099511627776) (hn : k + n ≤ es.length) (hx : k + n + x ≤ l.c) (hx' : k + n + x ≤ 1099511627776)
    (hbad : checkP ((es.drop k).take n) level ≠ 0 → ∀ w', RAI w' B → Fr B 66 w w' → K ⟨#[]⟩ false true w')
    (hK : checkP ((es.drop k).take n) level = 0 → ∀ w', RAI w' B → Fr B 66 w w' → K (strOf (archB level.toNat ((es.drop k).take n))) true true w') :
    S.towerexact_packed (B + 61) m l k n x level w K := by
  unfold S.towerexact_packed
  have hlt := hA.lt
  have hll := hl.len
  refine copyEntries_spec hl (by omega) fun r1 w1 e1 f1 s1 l1 c1 => ?_
  have eW : W ((k : Int) + (n : Int)) = ((k + n : Nat) : Int) := W_add (by omega)
  have eW2 : W (((k + n : Nat) : Int) + (x : Int)) = ((k + n + x : Nat) : Int) := W_add (by omega)
  rw [eW]
  refine ⟨by omega, by omega, by omega, by omega, ?_⟩
  simp only [Int.toNat_natCast]
  have hcut := fun v (h : EntS v l g es) mx (hm : k + n ≤ mx) => EntS.cut (mx := mx) h hn hm
  have hl1 := hl.fr f1 (by omega)
  have hsl : ((es.drop k).take n).length ≤ es.length := by simp; omega
  generalize (es.drop k).take n = es' at *
  refine copyEntries_spec (hcut w1 hl1 l.c (by omega)) (by omega) fun r3 w2 e3 f3 s3 l3 c3 => ?_
  rw [eW2]
  refine ⟨by omega, by omega, by omega, by omega, ?_⟩
  simp only [Int.toNat_natCast]
  have f13 := f1.trans f3
  have hl2 := hl.fr f13 (by omega)
  have hA2 : RAI w2 B := hA.fr f13 (by omega)
  have hg' : es' = [] ∨ g < B ∨ B + 66 ≤ g := by
    rcases hg with e | e
    · left; subst e; simpa using hsl
    · exact .inr e
  have fin : ∀ w4, Fr B 66 w2 w4 → ∀ (K' : Bool → World → Prop), (∀ w', Fr B 66 w w' → RAI w4 B → w'.heap = w4.heap → K' true w') → RAI w4 B → S.towerexact_sameEntries l r1 w4 K' := by
    intro w4 f4 K' hK' hA4
    refine sameEntries_spec (hl2.fr f4 hg) ((e1.fr f3 (by omega)).fr f4 (by omega)) (by omega) fun w' hw' => ?_
    exact hK' w' (Fr.heq ((f13.any B 66).trans f4) hw') hA4 hw'
  refine arch_Pack_spec hA2 (hcut w2 hl2 _ (by omega)) hg' (fun hne => ?_) (fun h0 w3 hA3 f4 => ?_)
  · refine archm_Pack_spec (hM _ (f13.any B 66)) e3 (fun _ => ?_) (fun h0 => absurd h0 hne)
    rw [if_pos (by simp), if_pos (by simp)]
    refine fin w2 (Fr.refl _ _ _) _ (fun w' f' hA' hw' => ?_) hA2
    rw [show (((checkP es' level : Nat) : Int) == 0) = false by simpa using hne]
    exact hbad hne w' (hA'.fr (Fr.heq (Fr.refl 0 0 _) hw') (by omega)) f'
  · refine archm_Pack_spec (hM _ ((f13.any B 66).trans f4)) (e3.fr f4 (by omega)) (fun hne => absurd h0 hne) (fun _ w4 f5 => ?_)
    rw [if_pos (by simp), if_pos (by simp)]
    have f45 := f4.trans (f5.any B 66)
    refine fin w4 f45 _ (fun w' f' hA' hw' => ?_) (hA3.fr f5 (by omega))
    exact hK h0 w' (hA'.fr (Fr.heq (Fr.refl 0 0 _) hw') (by omega)) f'
theorem listed_spec {m : Nat} {raw : ByteArray} {K : Sl → Bool → World → Prop} (hA : RAI w B)
    (hK : ∀ sl w', RAI w' B → ((sl = ⟨none, 0, 0⟩ ∧ listX raw = []) ∨ ∃ b, sl = ⟨some ⟨b, 0, none⟩, (listX raw).length, (listX raw).length⟩ ∧ Blk w' b ((listX raw).flatMap infV) ∧ w.heap.size ≤ b) → Fr B 66 w w' → K sl true w') : S.towerexact_listed (B + 61) m raw w K := by
  unfold S.towerexact_listed
  have hlt := hA.lt
  refine arch_List_spec hA (fun hne w1 a1 f1 => ?_) (fun h0 r1 w1 a1 o1 f1 => ?_)
  · refine archm_List_spec (fun _ w2 f2 => ?_) (fun h0 => absurd h0 hne)
    have hx : listX raw = [] := by unfold listX; rw [if_neg hne]
    refine join_ (join_ ?_)
    dsimp only
    rw [if_pos (by simpa using hne), if_neg (by simp), if_neg (by simp), if_pos (by simp), if_pos (by simp)]
    refine sameInfos_spec (x := 0) (y := 0) (xs := []) ⟨rfl, .inl rfl⟩ ⟨rfl, .inl rfl⟩ (by simp) fun w' hw' => ?_
    exact hK _ w' (a1.fr (Fr.heq f2 hw') (by omega)) (.inl ⟨rfl, hx⟩) (Fr.heq (f1.trans (f2.any B 66)) hw')
  · refine archm_List_spec (fun hne => absurd h0 hne) (fun _ r4 w2 o2 f2 => ?_)
    have hx : listX raw = (slotsR raw).map (infOf raw) := by unfold listX; rw [if_pos h0]
    rw [← hx] at o1 o2
    have hxl : (listX raw).length = (slotsR raw).length := by rw [hx, List.length_map]
    obtain ⟨b1, k1, rfl, g1⟩ := o1.ex
    obtain ⟨b2, k2, rfl, g2⟩ := o2.ex
    refine join_ (join_ ?_)
    dsimp only
    rw [if_neg (by simp), if_neg (by simp), if_pos (by simp), if_pos (by simp)]
    have s1 : InfS w2 ⟨some ⟨b1, 0, none⟩, (slotsR raw).length, (slotsR raw).length⟩ b1 (listX raw) := ⟨hxl.symm, .inr ⟨rfl, k1.fr f2 (by omega)⟩⟩
    refine sameInfos_spec (x := b1) (y := b2) (xs := listX raw) s1 ⟨hxl.symm, .inr ⟨rfl, k2⟩⟩ (by have := listX_len raw; omega) fun w' hw' => ?_
    exact hK _ w' (a1.fr (Fr.heq f2 hw') (by omega)) (.inr ⟨b1, by rw [hxl], k1.fr (Fr.heq f2 hw') (by omega), g1⟩) (Fr.heq (f1.trans (f2.any B 66)) hw')
theorem unpacked_spec {m : Nat} {raw : ByteArray} {K : Sl → Bool → World → Prop} (hA : RAI w B)
    (hK : ∀ sl w', RAI w' B → ((sl = ⟨none, 0, 0⟩ ∧ unpX raw = []) ∨ ∃ b, sl = ⟨some ⟨b, 0, none⟩, (unpX raw).length, (unpX raw).length⟩ ∧ Blk w' b ((unpX raw).flatMap entV) ∧ w.heap.size ≤ b) → Fr B 66 w w' → K sl true w') : S.towerexact_unpacked (B + 61) m raw w K := by
  unfold S.towerexact_unpacked
  have hlt := hA.lt
  refine arch_Unpack_spec hA (fun hne w1 a1 f1 => ?_) (fun h0 r1 w1 a1 o1 f1 => ?_)
  · refine archm_Unpack_spec (fun _ w2 f2 => ?_) (fun h0 => absurd h0 hne)
    have hx : unpX raw = [] := by unfold unpX; rw [if_neg hne]
    refine join_ (join_ ?_)
    dsimp only
    rw [if_pos (by simpa using hne), if_neg (by simp), if_neg (by simp), if_pos (by simp), if_pos (by simp)]
    refine sameEntries_spec (x := 0) (y := 0) (es := []) ⟨rfl, .inl rfl⟩ ⟨rfl, .inl rfl⟩ (by simp) fun w' hw' => ?_
    exact hK _ w' (a1.fr (Fr.heq f2 hw') (by omega)) (.inl ⟨rfl, hx⟩) (Fr.heq (f1.trans (f2.any B 66)) hw')
  · refine archm_Unpack_spec (fun hne => absurd h0 hne) (fun _ r4 w2 o2 f2 => ?_)
    have hx : unpX raw = (slotsR raw).map (entOf raw) := by unfold unpX; rw [if_pos h0]
    rw [← hx] at o1 o2
    have hxl : (unpX raw).length = (slotsR raw).length := by rw [hx, List.length_map]
    obtain ⟨b1, k1, rfl, g1⟩ := o1.ex
    obtain ⟨b2, k2, rfl, g2⟩ := o2.ex
    refine join_ (join_ ?_)
    dsimp only
    rw [if_neg (by simp), if_neg (by simp), if_pos (by simp), if_pos (by simp)]
    have s1 : EntS w2 ⟨some ⟨b1, 0, none⟩, (slotsR raw).length, (slotsR raw).length⟩ b1 (unpX raw) := EntS.ofBlk (pre := []) (junk := []) (by simpa using k1.fr f2 (by omega)) rfl rfl hxl.symm
    have s2 : EntS w2 ⟨some ⟨b2, 0, none⟩, (slotsR raw).length, (slotsR raw).length⟩ b2 (unpX raw) := EntS.ofBlk (pre := []) (junk := []) (by simpa using k2) rfl rfl hxl.symm
    refine sameEntries_spec s1 s2 (by have := unpX_len raw; omega) fun w' hw' => ?_
    exact hK _ w' (a1.fr (Fr.heq f2 hw') (by omega)) (.inr ⟨b1, by rw [hxl], k1.fr (Fr.heq f2 hw') (by omega), g1⟩) (Fr.heq (f1.trans (f2.any B 66)) hw')
end Go.Proofs.Qxb6500563aGreat
