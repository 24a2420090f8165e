/-
  The interpreter against the machine: the end of a call.
-/
import Derived.Test.Qxb6500562aGreatSmN
namespace Go.Proofs.Qxb6500562aGreat
open Go.Den Go.Zip
set_option linter.unusedVariables false
set_option linter.unusedSimpArgs false
variable {w w' w1 w2 : World} {r : Nat} {P : PrgH} {inp : List Int} {O O' O1 O2 : Nat → Prop} {x y rb : Int} {loc : Sl} {s s' s1 s2 : MS} {f f1 : Fm} {rr : List Fm} {F : Fn} {bl n p : Nat}

/-- What is left to do at the end of a call. -/
def LvT (r p : Nat) (rbv v : Int) (K : Int → World → Prop) (w2 : World) : Prop :=
    LdI .i64 w2 ⟨r, 17, none⟩ fun end_41 =>
      if (end_41 != 0) = true then K 0 w2
      else
        LdP w2 ⟨r, 16, none⟩ fun h_42 =>
        S.heapm_Heap_Depth h_42 w2 (fun r43 w =>
        LdI .i64 w ⟨p, 1, none⟩ fun Ret_44 =>
        if (decide (Ret_44 ≥ 2)) = true then
          LdP w ⟨r, 16, none⟩ fun h_45 =>
          S.heapm_Heap_Slide h_45 (W ((W (r43 - rbv)) - 1)) w (fun r46 w =>
          Drew w fun w =>
          LdI .i64 w ⟨r, 15, none⟩ fun used_47 =>
          LdI .i64 w ⟨p, 4, none⟩ fun LI_48 =>
          St1 w ⟨r, 15, none⟩ (.int .i64 (W (used_47 - (W (3 + LI_48))))) fun w =>
          K 0 w)
        else
          LdP w ⟨r, 16, none⟩ fun h_49 =>
          S.heapm_Heap_Pop h_49 (W (r43 - rbv)) w (fun r50 w =>
          Drew w fun w =>
          LdI .i64 w ⟨r, 15, none⟩ fun used_51 =>
          LdI .i64 w ⟨p, 4, none⟩ fun LI_52 =>
          St1 w ⟨r, 15, none⟩ (.int .i64 (W (used_51 - (W (3 + LI_52))))) fun w =>
          K v w))
set_option maxHeartbeats 1000000 in
theorem inv_leave {v rbv : Int} {K : Int → World → Prop} (m : MtG w2 r P inp s2 O2) (hp : Blk w2 p (fnV F)) (hpo : ¬ O2 p) (fs2 : s2.fs = f :: rr) (at_ : At (pCode P.toPrg) s2.pc [cls F.ret 26 27]) (ho : f.ops = if 2 ≤ F.ret then [] else [v]) (hl : (f.loc.length : Int) = F.li) (hl2 : f.loc.length ≤ 12) (rt : s2.H.roots.length = f.rb + f.lr + if 2 ≤ F.ret then 1 else 0) (hrb : rbv = (f.rb : Int)) (hne : rr = [] → F.ret < 2)
    (kN : ∀ f0 r0, rr = f0 :: r0 → ∀ w3 O3 s3, MtG w3 r P inp s3 O3 → Gw O2 w2 O3 w3 → RnP P inp s2 s3 → s3.pc = f.ret → s3.fs = (if 2 ≤ F.ret then f0 :: r0 else { f0 with ops := f0.ops ++ [v] } :: r0) → s3.H.roots.length = f.rb + (if 2 ≤ F.ret then 1 else 0) → s3.fuel = s2.fuel → K (if 2 ≤ F.ret then 0 else v) w3)
    (k0 : rr = [] → ∀ w3 O3 s3 H, RGo w3 r P inp 1 s3.ip s3.fuel s3.out H O3 → Gw O2 w2 O3 w3 → RnP P inp s2 s3 → s3.en = 21 → s3.rv = v → K v w3) :
    LvT r p rbv v K w2 := by
  refine m.end_ ?_
  rw [if_neg (by decide)]
  obtain ⟨hp', Oh, hs, ld, tr⟩ := m.2.open_
  have hle := m.2.le
  refine ld _ (hs.depth ?_)
  refine ldI hp (m := F.ret) rfl ?_
  subst hrb
  have wz : wsz s2.fs = wsz rr + f.loc.length + 3 + f.ops.length := by rw [fs2]; rfl
  by_cases hT : 2 ≤ F.ret
  · rw [if_pos (by simpa using hT)]
    simp only [if_pos hT] at ho rt kN
    unfold cls at at_
    rw [if_pos hT] at at_
    have rn := ins (inp := inp) m.1 fs2 at_ rfl (by omega) (by show 0 ≤ _; omega) (by show ((1 : Nat) : Int) + _ + _ ≤ _; omega)
    cases rr with
    | nil => have := hne rfl; omega
    | cons f0 r0 =>
    rw [mop_27] at rn
    unfold mretR mleave at rn
    rw [if_neg (by show ¬ s2.fs.length = 1; rw [fs2]; simp)] at rn
    have e1 : top { s2 with pc := s2.pc + 1 + nargs 27 } = f := topE fs2
    have e2 : top { s2 with pc := s2.pc + 1 + nargs 27, H := (hSlide s2.H ((s2.H.roots.length : Int) - f.rb - 1)).2 } = f := topE fs2
    rw [e1] at rn
    dsimp only at rn
    rw [e2] at rn
    have e3 : (s2.H.roots.length : Int) - f.rb - 1 = (f.lr : Nat) := by omega
    have e4 : W (W ((s2.H.roots.length : Int) - f.rb) - 1) = (f.lr : Nat) := by rw [W_id (x := (s2.H.roots.length : Int) - f.rb) (by omega) (by omega), W_id (by omega) (by omega)]; exact e3
    rw [e4]
    rw [e3] at rn
    refine ld _ (hs.slide fun w3 Oh3 h3 G3 => ?_)
    obtain ⟨O3, m3, G3'⟩ := tr _ _ _ h3 G3
    have m3 := m3.drew
    refine drew_ (m3.ldU fun hu => ?_)
    have hp3 : Blk w3.drew p (fnV F) := (keepB hp hpo G3').1.drew
    refine ldI hp3 (m := F.li) rfl ?_
    have ol : f.ops.length = 0 := by rw [ho]; rfl
    rw [← hl, W_id (x := 3 + (f.loc.length : Int)) (by omega) (by omega), W_id (by omega) (by omega), show ((wsz s2.fs : Nat) : Int) - (3 + (f.loc.length : Int)) = ((wsz (f0 :: r0) : Nat) : Int) by omega]
    refine m3.setU (by omega) fun w4 m4 G4 => ?_
    refine kN f0 r0 rfl w4 O3 { s2 with pc := f.ret, fs := f0 :: r0, H := (hSlide s2.H (f.lr : Nat)).2 } ⟨m.1, m4⟩ (G3'.trans (show Gw O3 w3 O3 w4 from G4)) ?_ rfl rfl ?_ rfl
    · have : ({ s2 with pc := f.ret, fs := f0 :: r0, H := (hSlide s2.H (f.lr : Nat)).2 } : MS) = { s2 with pc := f.ret, fs := s2.fs.tail, H := (hSlide s2.H (f.lr : Nat)).2 } := by rw [fs2]; rfl
      rw [this]; exact rn
    · show (hSlide s2.H (f.lr : Nat)).2.roots.length = _
      rw [slide_len (by omega)]; omega
  · rw [if_neg (by simpa using hT)]
    simp only [if_neg hT] at ho rt kN
    unfold cls at at_
    rw [if_neg hT] at at_
    have ol : f.ops.length = 1 := by rw [ho]; rfl
    have rn := ins (inp := inp) m.1 fs2 at_ rfl (by omega) (by show 1 ≤ _; omega) (by show ((0 : Nat) : Int) + _ + _ ≤ _; omega)
    rw [mop_26] at rn
    unfold mretI mleave at rn
    have e0 : lastO { s2 with pc := s2.pc + 1 + nargs 26 } = v := lastO_app (f := f) (rr := rr) (o := []) (by show s2.fs = _; rw [fs2, List.nil_append, ← ho])
    have e1 : top { s2 with pc := s2.pc + 1 + nargs 26 } = f := topE fs2
    have e2 : top { s2 with pc := s2.pc + 1 + nargs 26, H := (hPop s2.H ((s2.H.roots.length : Int) - f.rb)).2 } = f := topE fs2
    dsimp only at rn
    rw [e0, e1] at rn
    rw [e2] at rn
    have e3 : (s2.H.roots.length : Int) - f.rb = (f.lr : Nat) := by omega
    have e4 : W ((s2.H.roots.length : Int) - f.rb) = (f.lr : Nat) := by rw [W_id (by omega) (by omega)]; exact e3
    rw [e4]
    rw [e3] at rn
    refine ld _ (hs.pop fun w3 Oh3 h3 G3 => ?_)
    obtain ⟨O3, m3, G3'⟩ := tr _ _ _ h3 G3
    have m3 := m3.drew
    refine drew_ (m3.ldU fun hu => ?_)
    have hp3 : Blk w3.drew p (fnV F) := (keepB hp hpo G3').1.drew
    refine ldI hp3 (m := F.li) rfl ?_
    rw [← hl, W_id (x := 3 + (f.loc.length : Int)) (by omega) (by omega), W_id (by omega) (by omega), show ((wsz s2.fs : Nat) : Int) - (3 + (f.loc.length : Int)) = ((wsz rr + 1 : Nat) : Int) by omega]
    refine m3.setU (by omega) fun w4 m4 G4 => ?_
    have G24 : Gw O2 w2 O3 w4 := G3'.trans (show Gw O3 w3 O3 w4 from G4)
    have tl : s2.fs.tail = rr := by rw [fs2]; rfl
    rw [tl] at rn
    cases rr with
    | nil =>
      rw [if_pos rfl] at rn
      exact k0 rfl w4 O3 { s2 with fs := [], pc := f.ret, H := (hPop s2.H (f.lr : Nat)).2, en := 21, rv := v } _ m4 G24 rn rfl rfl
    | cons f0 r0 =>
      rw [if_neg (by simp)] at rn
      have hsp : wsz (f0 :: r0) < 48 := by omega
      unfold mpush at rn
      rw [if_neg (by show ¬ 48 ≤ wsz (f0 :: r0); omega), setOpsE (f := f0) (r := r0) rfl, topE (f := f0) (r := r0) rfl] at rn
      refine kN f0 r0 rfl w4 O3 { s2 with pc := f.ret, fs := { f0 with ops := f0.ops ++ [v] } :: r0, H := (hPop s2.H (f.lr : Nat)).2 } ⟨m.1, ?_⟩ G24 rn rfl rfl ?_ rfl
      · show RGo w4 r P inp (wsz ({ f0 with ops := f0.ops ++ [v] } :: r0)) _ _ _ _ _
        have : wsz ({ f0 with ops := f0.ops ++ [v] } :: r0) = wsz (f0 :: r0) + 1 := by rw [wsz_ops, List.length_append]; rfl
        rw [this]; exact m4
      · show (hPop s2.H (f.lr : Nat)).2.roots.length = _
        rw [hPopn (by omega)]; omega
/-- A function's record, read off and laid into a record of one's own. -/
theorem RAny.fn7 {j : Nat} {K : Nat → World → Prop} (m : RAny w r P inp O) (hj : j < P.st.fs.length) (hK : ∀ w' p, Blk w' p (fnV (fnAt P.st.fs (j : Int))) → w.heap.size ≤ p → Fr 0 0 w w' → K p w') :
    LdS w ⟨r, 6, none⟩ fun Funcs_1 => Ix Funcs_1.a Funcs_1.l (j : Int) fun b2 o3 => LdI .i64 w ⟨b2, o3 + Int.toNat (j : Int) * 7, none⟩ fun Node_4 => LdI .i64 w ⟨b2, o3 + Int.toNat (j : Int) * 7 + 1, none⟩ fun Ret_5 => LdI .i64 w ⟨b2, o3 + Int.toNat (j : Int) * 7 + 2, none⟩ fun PI_6 => LdI .i64 w ⟨b2, o3 + Int.toNat (j : Int) * 7 + 3, none⟩ fun PR_7 =>
    LdI .i64 w ⟨b2, o3 + Int.toNat (j : Int) * 7 + 4, none⟩ fun LI_8 => LdI .i64 w ⟨b2, o3 + Int.toNat (j : Int) * 7 + 5, none⟩ fun LR_9 => LdStr w ⟨b2, o3 + Int.toNat (j : Int) * 7 + 6, none⟩ fun Name_10 =>
    New w (.cells #[.int .i64 0, .int .i64 0, .int .i64 0, .int .i64 0, .int .i64 0, .int .i64 0, .string ⟨#[]⟩] 94) fun p11 w => St1 w ⟨p11, 0, none⟩ (.int .i64 Node_4) fun w => St1 w ⟨p11, 1, none⟩ (.int .i64 Ret_5) fun w => St1 w ⟨p11, 2, none⟩ (.int .i64 PI_6) fun w => St1 w ⟨p11, 3, none⟩ (.int .i64 PR_7) fun w =>
    St1 w ⟨p11, 4, none⟩ (.int .i64 LI_8) fun w => St1 w ⟨p11, 5, none⟩ (.int .i64 LR_9) fun w => St1 w ⟨p11, 6, none⟩ (.string Name_10) fun w => K p11 w := by
  obtain ⟨g, hp', H, out, si, so, Oh, b1, b2, b3, b4, m, rfl⟩ := m
  refine ldS m.rc (by rw [tab_get (by omega), m.t6]) ?_
  refine ix rfl (by omega) (by dsimp only; omega) ?_
  rw [Nat.zero_add, Int.toNat_natCast]
  have cell : ∀ k, k < 7 → (P.st.fs.flatMap fnV)[j * 7 + k]? = (fnV (fnAt P.st.fs (j : Int)))[k]? := fun k hk => fnCell hj hk
  have n4 := m.n4
  generalize fnAt P.st.fs (j : Int) = n' at *
  refine ldI n4 (m := n'.node) ((cell 0 (by omega)).trans rfl) ?_
  refine ldI n4 (m := n'.ret) ((cell 1 (by omega)).trans rfl) ?_
  refine ldI n4 (m := n'.pi) ((cell 2 (by omega)).trans rfl) ?_
  refine ldI n4 (m := n'.pr) ((cell 3 (by omega)).trans rfl) ?_
  refine ldI n4 (m := n'.li) ((cell 4 (by omega)).trans rfl) ?_
  refine ldI n4 (m := n'.lr) ((cell 5 (by omega)).trans rfl) ?_
  refine ldStr n4 (m := n'.name) ((cell 6 (by omega)).trans rfl) ?_
  refine newB fun u1 c1 f1 s1 => ?_
  refine Go.Den.st1 c1 (by simp) fun u2 b2 f2 t2 => ?_
  refine Go.Den.st1 b2 (by simp) fun u3 b3 f3 t3 => ?_
  refine Go.Den.st1 b3 (by simp) fun u4 b4 f4 t4 => ?_
  refine Go.Den.st1 b4 (by simp) fun u5 b5 f5 t5 => ?_
  refine Go.Den.st1 b5 (by simp) fun u6 b6 f6 t6 => ?_
  refine Go.Den.st1 b6 (by simp) fun u7 b7 f7 t7 => ?_
  refine Go.Den.st1 b7 (by simp) fun u8 b8 f8 t8 => ?_
  have F : Fr 0 0 w u8 := (f1.any _ 1).trans ((((((f2.trans f3).trans f4).trans f5).trans f6).trans f7).trans f8) |>.fresh (Nat.le_refl _) 0 0
  exact hK u8 _ b8 (Nat.le_refl _) F
/-- The frame's own block falls away. -/
theorem Gw.dropL (G : Gw O w O1 w1) (hb : w.heap.size ≤ bl) (G2 : Gw (OL O1 bl) w1 (OL O' bl) w') : Gw O w O' w' := by
  refine ⟨G.1.trans' G2.1 fun b hb' => ?_, fun b hb' => ?_⟩
  · rcases hb' with h | rfl
    · exact G.2 b h
    · exact .inr hb
  · rcases G2.2 b (.inl hb') with (h | rfl) | h
    · exact G.2 b h
    · exact .inr hb
    · have := G.1.1.1; exact .inr (by omega)
end Go.Proofs.Qxb6500562aGreat
