/-
  The model's cutting into tokens.
-/
import Derived.Test.Qxb6500564aGreatQyK
namespace Go.Proofs.Qxb6500564aGreat
open Go.Den Go.Zip
set_option linter.unusedVariables false
set_option linter.unusedSimpArgs false
variable {w w' u v : World} {i j k n a b p st B : Nat} {s x : ByteArray} {t : Tk} {L L' : List Tk}

def mkk (k : Nat) : Nat := if k = 2 ∨ k = 3 then 1 else if k = 4 then 2 else if k = 5 then 3 else 4
def mtC (t : Tk) : List Value := [.int .i64 (mkk t.kind : Nat), .string t.text, .int .i64 t.val]
def mtsC (l : List Tk) : List Value := l.flatMap mtC
theorem mtsC_len (l : List Tk) : (mtsC l).length = l.length * 3 := flat_length (f := mtC) (c := 3) (fun _ => rfl) l
theorem mtsC_snoc (l : List Tk) (c : Tk) : mtsC (l ++ [c]) = mtsC l ++ mtC c := by unfold mtsC; rw [List.flatMap_append, List.flatMap_cons, List.flatMap_nil, List.append_nil]
theorem number_spec {K : Bool → World → Prop} (hs : s.size ≤ 256) (ha : a < s.size) (hK : K (digP (btA s a) || (btA s a == 45 && decide (a + 1 < s.size) && digP (btA s (a + 1)))) w) : S.querym_number s (a : Int) w K := by
  unfold S.querym_number
  have hc := btA_get ha
  rw [join_eq]
  have out : ¬ (btA s a = 45 ∧ a + 1 < s.size) → (IxStr s (a : Int) fun c1 => S.querym_digit c1 w fun r2 w => K r2 w) := fun hn => by
    refine ixB hc (mdigit_spec ?_)
    have : (btA s a == 45 && decide (a + 1 < s.size) && digP (btA s (a + 1))) = false := by
      rw [Bool.and_eq_false_iff]
      refine .inl ?_
      rw [Bool.and_eq_false_iff, beq_eq_false_iff_ne, decide_eq_false_iff_not]
      omega
    rw [this, Bool.or_false] at hK
    exact hK
  refine ixB hc (ifk (fun h45 => ?_) fun h45 => out (by omega))
  have h45 : btA s a = 45 := by omega
  rw [W_succ (by omega)]
  refine ifd (fun hlt => ?_) fun hlt => out (by omega)
  have hlt : a + 1 < s.size := by omega
  refine ixB (btA_get hlt) (mdigit_spec ?_)
  rw [h45, decide_eq_true hlt] at hK
  exact hK
set_option maxHeartbeats 1000000 in
theorem mdigs_spec {K : World → Prop} {J : Int → Int → World → Prop} {lim : Nat} {lz : Int} (hlz : lz = (lim : Nat)) (hb : b ≤ s.size) (hs : s.size ≤ 256) (hlim : 9 ≤ lim) (hlim2 : lim ≤ 2 ^ 63)
    (bad : numN s b > lim → K w) (hJ : numN s b ≤ lim → J ((scn digP s b : Nat) : Int) ((numN s b : Nat) : Int) w) :
    LoopP (σ := Int × Int × Unit) (fun st32 w next33 =>
      if (decide (st32.1 < (s.size : Int))) = true then
        IxStr s st32.1 fun c34 =>
        S.querym_digit c34 w (fun r35 w =>
        if r35 = true then
          IxStr s st32.1 fun c36 =>
          Let (U64 (U8 (c36 - 48))) fun d_37 =>
          if (decide (st32.2.1 > (U64 (Int.tdiv (U64 (lz - d_37)) 10)))) = true then
            K w
          else
            Let (U64 ((U64 (st32.2.1 * 10)) + d_37)) fun acc_38 =>
            Let (W (st32.1 + 1)) fun i_39 =>
            next33 (i_39, acc_38, ()) w
        else
          J st32.1 st32.2.1 w)
      else
        J st32.1 st32.2.1 w) ((b : Int), 0, ()) w := by
  subst hlz
  have hbl := bt_len s
  refine loopN (fun m st u => ∃ (p : Nat), st = ((p : Int), ((numD (((bt s).drop b).take (p - b)) : Nat) : Int), ()) ∧ p + m = s.size ∧ b ≤ p ∧ scn digP s p = scn digP s b ∧ numD (((bt s).drop b).take (p - b)) ≤ lim ∧ u = w) (s.size - b)
    ⟨b, by rw [Nat.sub_self, List.take_zero]; rfl, by omega, Nat.le_refl _, rfl, by rw [Nat.sub_self, List.take_zero]; exact Nat.zero_le _, rfl⟩ ?_
  rintro m _ u ⟨p, rfl, hm, hbp, hsc, hN, rfl⟩ Q hQ
  dsimp only
  have out : (scn digP s p = p) → numN s b = numD (((bt s).drop b).take (p - b)) := fun e => by unfold numN; rw [← hsc, e]
  refine ifd (fun hlt => ?_) fun hlt => ?_
  · have hp : p < s.size := by omega
    have hc := btA_get hp
    refine ixB hc (mdigit_spec (ifb (fun hd => ?_) fun hd => ?_))
    · have hd' := digP_iff.1 hd
      have hsc1 := (scn_step hc hd).symm.trans hsc
      have hge := scn_ge digP s (p + 1)
      have hsn : numD (((bt s).drop b).take (p + 1 - b)) = 10 * numD (((bt s).drop b).take (p - b)) + (btA s p - 48) := by
        rw [show p + 1 - b = (p - b) + 1 by omega, List.take_add_one, List.getElem?_drop, show b + (p - b) = p by omega, hc]
        exact numD_snoc _ _
      refine ixB hc (let_ ?_)
      have e1 : U64 (U8 ((btA s p : Int) - 48)) = ((btA s p - 48 : Nat) : Int) := by
        rw [show ((btA s p : Int) - 48) = ((btA s p - 48 : Nat) : Int) by omega, U8_nat, Nat.mod_eq_of_lt (by omega), U64_id (by omega) (by omega)]
      rw [e1]
      have hd9 : btA s p - 48 ≤ 9 := by omega
      generalize btA s p - 48 = d at *
      have e2 : U64 ((lim : Int) - (d : Int)) = ((lim - d : Nat) : Int) := by rw [U64_id (by omega) (by omega)]; omega
      rw [e2, Int.tdiv_eq_ediv_of_nonneg (by omega), U64_id (by omega) (by omega)]
      refine ifd (fun hx => ?_) fun hx => ?_
      · refine bad ?_
        have := numN_ge (s := s) (b := b) (i := p + 1) (by omega) (by omega)
        rw [hsn] at this
        omega
      · have hle : 10 * numD (((bt s).drop b).take (p - b)) + d ≤ lim := by omega
        have e3 : U64 (((numD (((bt s).drop b).take (p - b)) : Nat) : Int) * 10) = ((numD (((bt s).drop b).take (p - b)) : Nat) : Int) * 10 := U64_id (by omega) (by omega)
        rw [e3]
        refine let_ (let_ ?_)
        rw [W_succ (by omega), U64_id (by omega) (by omega)]
        refine hQ (m - 1) _ _ (by omega) ⟨p + 1, ?_, by omega, by omega, hsc1, by omega, rfl⟩
        rw [hsn]
        congr 2
        omega
    · have := scn_stop (P := digP) (.inr ⟨_, hc, hd⟩)
      rw [← out this, ← this, hsc]
      exact hJ (by rw [out this]; exact hN)
  · have := scn_stop (P := digP) (s := s) (i := p) (.inl (by omega))
    rw [← out this, ← this, hsc]
    exact hJ (by rw [out this]; exact hN)
/-- The tokens so far. -/
structure MTk (w0 w : World) (s : ByteArray) (i : Nat) (A : List Tk) (ts : Sl) : Prop where
  le : i ≤ s.size
  al : A.length ≤ i
  eq : TS s 0 = A ++ TS s i
  ok : ∀ t ∈ A, 1 < t.kind ∧ TkOk t
  os : OS w ts (mtsC A) 3
  nw : ∀ b, owns ts b → w0.heap.size ≤ b
  fr : Fr 0 0 w0 w
theorem MTk.bad {w0 : World} {A : List Tk} {ts : Sl} (h : MTk w0 w s i A ts) (e : lx s i = badT) : Nz (TS s 0) := by
  rw [h.eq, TS_stop (by rw [e]; decide), e]
  intro t ht
  rcases List.mem_append.1 ht with ht | ht
  · have := (h.ok t ht).1; omega
  · rw [List.mem_singleton.1 ht]; decide
/-- One token more. -/
theorem MTk.app {w0 : World} {A : List Tk} {ts : Sl} {K : Sl → World → Prop} {t : Tk} {e : Nat} (h : MTk w0 w s i A ts) (hs : s.size ≤ 256) (hl : lx s i = (t, e)) (hk : 1 < t.kind) (hK : ∀ w' ts', MTk w0 w' s e (A ++ [t]) ts' → K ts' w') :
    New w (.cells #[.int .i64 (mkk t.kind : Nat), .string t.text, .int .i64 t.val] 172) fun p11 w => AppS 172 [.int .i64 0, .string ⟨#[]⟩, .int .i64 0] 32 3 w ts ⟨some ⟨p11, 0, none⟩, 1, 1⟩ fun l12 w => K l12 w := by
  refine newB fun w1 q1 f1 z1 => ?_
  have q1 : Blk w1 w.heap.size (mtC t) := q1
  have hln : A.length = ts.l := by
    have := OS.len h.os
    rw [mtsC_len] at this; omega
  have hal := h.al
  have hle := h.le
  have hend := lx_end (s := s) (i := i) (by rw [hl]; exact hk)
  rw [hl] at hend
  refine app1 (OS.fr0 h.os f1) q1 rfl rfl rfl (by rw [← hln]; omega) fun s' w2 o2 l2 gr F2 => hK w2 s' ⟨hend.2, ?_, ?_, fun t' ht => ?_, ?_, fun b hb => ?_, ?_⟩
  · rw [List.length_append, List.length_singleton]
    have := hend.1
    omega
  · rw [h.eq, TS_step (by rw [hl]; exact hk), hl, List.append_assoc]
    rfl
  · rcases List.mem_append.1 ht with ht | ht
    · exact h.ok t' ht
    · rw [List.mem_singleton.1 ht]
      refine ⟨hk, ?_⟩
      have := lx_ok h.le
      rw [hl] at this
      exact this
  · rw [mtsC_snoc]
    exact o2
  · rcases gr b hb with hb | hb
    · exact h.nw b hb
    · have := h.fr.le
      have := f1.le
      omega
  · have F1 : FrP (fun b => w0.heap.size ≤ b) w0 w1 := FrP.of0 (h.fr.trans f1)
    have F02 := F1.trans (F2.mono fun b hb => h.nw b hb)
    exact ⟨F02.1, fun b hb _ => F02.2 b hb (by omega)⟩
end Go.Proofs.Qxb6500564aGreat
