/-
  The model's reader: names, values, settings, columns.
-/
import Derived.Test.Qxb6500564aGreatQyQ
namespace Go.Proofs.Qxb6500564aGreat
open Go.Den Go.Zip
set_option linter.unusedVariables false
set_option linter.unusedSimpArgs false
variable {w w' u v : World} {i j k n a b r st B q : Nat} {s x : ByteArray} {t : Tk} {A L L' : List Tk} {M M' : Mst} {z : Nat → Sl} {bd : Bool}

/-- A name is appended to the names. -/
theorem addName {K : World → Prop} (h : MX w B r st A L M z) (hz : (z 1).l < 300)
    (hK : ∀ w' z' y, MX w' B r st A (nmL L) { M with names := M.names ++ [y] } z' → (y = nmP L ∨ nmL L = bad) → (∀ k, k ≠ 1 → z' k = z k) → FrP (fun b => B ≤ b) w w' → K w') :
    Drew w fun w => Hold w ⟨st, 4, none⟩ 1 fun R157 => LdS w ⟨st, 4, none⟩ fun names_158 => S.querym_reader_name r w (fun r159 w => After R157 w <| New w (.cells #[.string r159] 9) fun p160 w => After R157 w <|
      AppS 9 [.string ⟨#[]⟩] 16 1 w names_158 ⟨some ⟨p160, 0, none⟩, 1, 1⟩ fun l161 w => St1 w ⟨st, 4, none⟩ (.slice l161.a l161.l l161.c) fun w => K w) := by
  have x0 := h.dr
  obtain ⟨i, bd, M1, hs, hh⟩ := x0
  have x0 : MX w.drew B r st A L M z := ⟨i, bd, M1, hs, hh⟩
  refine drew_ (hold_ (ldS hs.blk rfl (mname_spec x0 fun u1 y x1 hy g1 => ?_)))
  have b1 := hs.blk.fr g1 (by have := hs.ne; omega)
  refine ⟨holdS hs.blk b1, newB fun u2 q2 g2 z2 => ?_⟩
  have x2 := x1.fr0 g2
  refine ⟨holdS hs.blk (b1.fr g2 (by omega)), ?_⟩
  refine x2.app (i := 1) (fun M => { M with names := M.names ++ [y] }) (by omega) q2 rfl rfl rfl (by omega) (fun M => ⟨strC_snoc _ _, fun j hj hne => ?_⟩) (fun M s' => rfl) fun v6 s6 xv6 F6 => ?_
  · rcases j with _ | _ | _ | _ | _ | j
    · rfl
    · exact absurd rfl hne
    · rfl
    · rfl
    · rfl
    · omega
  exact hK v6 _ y xv6 hy (fun k hk => fset_ne hk) ((((FrP.refl _ w).drew.trans (x0.b1 g1)).trans (FrP.of0 g2)).trans F6)
/-- A value is appended to the values. -/
theorem addVal {K : World → Prop} (h : MX w B r st A L M z) (hz : (z 2).l < 300)
    (hK : ∀ w' z' y, MX w' B r st A (ltL L) { M with vals := M.vals ++ [y] } z' → (y = ltP L ∨ ltL L = bad) → (∀ k, k ≠ 2 → z' k = z k) → FrP (fun b => B ≤ b) w w' → K w') :
    Drew w fun w => Hold w ⟨st, 5, none⟩ 1 fun R123 => LdS w ⟨st, 5, none⟩ fun vals_124 => S.querym_reader_lit r w (fun IsStr_125 I_126 S_127 w => After R123 w <| New w (.cells #[.bool IsStr_125, .int .i64 I_126, .string S_127] 167) fun p128 w => After R123 w <|
      AppS 167 [.bool false, .int .i64 0, .string ⟨#[]⟩] 32 3 w vals_124 ⟨some ⟨p128, 0, none⟩, 1, 1⟩ fun l129 w => St1 w ⟨st, 5, none⟩ (.slice l129.a l129.l l129.c) fun w => K w) := by
  have x0 := h.dr
  obtain ⟨i, bd, M1, hs, hh⟩ := x0
  have x0 : MX w.drew B r st A L M z := ⟨i, bd, M1, hs, hh⟩
  refine drew_ (hold_ (ldS hs.blk rfl (mlit_spec x0 fun u1 y x1 hy g1 => ?_)))
  have b1 := hs.blk.fr g1 (by have := hs.ne; omega)
  refine ⟨holdS hs.blk b1, newB fun u2 q2 g2 z2 => ?_⟩
  have x2 := x1.fr0 g2
  refine ⟨holdS hs.blk (b1.fr g2 (by omega)), ?_⟩
  have q2 : Blk u2 u1.heap.size (valC y) := q2
  refine x2.app (i := 2) (fun M => { M with vals := M.vals ++ [y] }) (by omega) q2 rfl rfl rfl (by omega) (fun M => ⟨rowC_snoc _ _, fun j hj hne => ?_⟩) (fun M s' => rfl) fun v6 s6 xv6 F6 => ?_
  · rcases j with _ | _ | _ | _ | _ | j
    · rfl
    · rfl
    · exact absurd rfl hne
    · rfl
    · rfl
    · omega
  exact hK v6 _ y xv6 hy (fun k hk => fset_ne hk) ((((FrP.refl _ w).drew.trans (x0.b1 g1)).trans (FrP.of0 g2)).trans F6)
theorem mnames_loop {K : World → Prop} {R : List ByteArray × List Tk} (h : MX w B r st A L { M with names := [] } z) (hr0 : RM nmP nmL kCOM R FU true [] L)
    (hK : ∀ w' z', MX w' B r st A R.2 { M with names := R.1 } z' → FrP (fun b => B ≤ b) w w' → K w') :
    LoopP (σ := Bool × Unit) (fun st154 w next155 =>
      if st154.1 = true then
        LdB w ⟨r, 2, none⟩ fun bad_156 =>
        if (!bad_156) = true then
          Drew w fun w =>
          Hold w ⟨st, 4, none⟩ 1 fun R157 =>
          LdS w ⟨st, 4, none⟩ fun names_158 =>
          S.querym_reader_name r w (fun r159 w =>
          After R157 w <|
          New w (.cells #[.string r159] 9) fun p160 w =>
          After R157 w <|
          AppS 9 [.string ⟨#[]⟩] 16 1 w names_158 ⟨some ⟨p160, 0, none⟩, 1, 1⟩ fun l161 w =>
          St1 w ⟨st, 4, none⟩ (.slice l161.a l161.l l161.c) fun w =>
          S.querym_reader_eat r (⟨#[44]⟩ : ByteArray) w (fun r162 w =>
          next155 (r162, ()) w))
        else
          K w
      else
        K w) (true, ()) w := by
  refine loopN (fun m sv u => ∃ (more : Bool) (C : List ByteArray) (L' : List Tk) (z' : Nat → Sl), sv = (more, ()) ∧ MX u B r st A L' { M with names := C } z' ∧ RM nmP nmL kCOM R m more C L' ∧ FrP (fun b => B ≤ b) w u) FU
    ⟨true, [], _, z, rfl, h, hr0, FrP.refl _ _⟩ ?_
  rintro m _ u ⟨more, C, L', z', rfl, hx, hr, Fu⟩ Q hQ
  dsimp only
  refine ifb (fun hm => ?_) fun hm => ?_
  · subst hm
    refine hx.flag (fun hbad => ?_) fun i0 hs0 hL0 => ?_
    · rw [if_neg (by simp)]
      subst hbad
      have hR := hr.bad nmL_bad
      exact hK u z' (by rw [hR]; exact hx.any _) Fu
    · rw [if_pos (show (!false) = true from rfl)]
      have hnb : L' ≠ bad := by rw [hL0]; exact end_ne
      obtain ⟨hm0, hC⟩ := hr.pos hnb hx.len.1
      have hC : C.length < 300 := hC
      have hln : C.length = (z' 1).l := by
        have e : (strC C).length = (z' 1).l * 1 := (hs0.os 1 (by omega)).len
        rw [strC_len] at e; omega
      refine addName hx (by omega) fun u1 z1 y x1 hy hz1 F1 => meat_spec x1 rfl fun u2 b2 x2 hb2 g2 => ?_
      refine hQ (m - 1) _ _ (by omega) ⟨b2, C ++ [nmP L'], _, _, rfl, x2.to fun hne => ?_, hr.next hnb hx.len.1 len_nm hb2, (Fu.trans F1).trans (x1.b1 g2)⟩
      rw [hy.resolve_right fun e => hne (by rw [e]; rfl)]
  · subst hm
    rcases hr with hr | ⟨rfl, hR⟩
    · obtain ⟨rfl, rfl⟩ := hr.out
      exact hK u z' hx Fu
    · exact hK u z' (by rw [hR]; exact hx.any _) Fu
theorem mvals_loop {K : World → Prop} {R : List Vl × List Tk} (h : MX w B r st A L { M with vals := [] } z) (hr0 : RM ltP ltL kCOM R FU true [] L)
    (hK : ∀ w' z', MX w' B r st A R.2 { M with vals := R.1 } z' → FrP (fun b => B ≤ b) w w' → K w') :
    LoopP (σ := Bool × Unit) (fun st120 w next121 =>
      if st120.1 = true then
        LdB w ⟨r, 2, none⟩ fun bad_122 =>
        if (!bad_122) = true then
          Drew w fun w =>
          Hold w ⟨st, 5, none⟩ 1 fun R123 =>
          LdS w ⟨st, 5, none⟩ fun vals_124 =>
          S.querym_reader_lit r w (fun IsStr_125 I_126 S_127 w =>
          After R123 w <|
          New w (.cells #[.bool IsStr_125, .int .i64 I_126, .string S_127] 167) fun p128 w =>
          After R123 w <|
          AppS 167 [.bool false, .int .i64 0, .string ⟨#[]⟩] 32 3 w vals_124 ⟨some ⟨p128, 0, none⟩, 1, 1⟩ fun l129 w =>
          St1 w ⟨st, 5, none⟩ (.slice l129.a l129.l l129.c) fun w =>
          S.querym_reader_eat r (⟨#[44]⟩ : ByteArray) w (fun r130 w =>
          next121 (r130, ()) w))
        else
          K w
      else
        K w) (true, ()) w := by
  refine loopN (fun m sv u => ∃ (more : Bool) (C : List Vl) (L' : List Tk) (z' : Nat → Sl), sv = (more, ()) ∧ MX u B r st A L' { M with vals := C } z' ∧ RM ltP ltL kCOM R m more C L' ∧ FrP (fun b => B ≤ b) w u) FU
    ⟨true, [], _, z, rfl, h, hr0, FrP.refl _ _⟩ ?_
  rintro m _ u ⟨more, C, L', z', rfl, hx, hr, Fu⟩ Q hQ
  dsimp only
  refine ifb (fun hm => ?_) fun hm => ?_
  · subst hm
    refine hx.flag (fun hbad => ?_) fun i0 hs0 hL0 => ?_
    · rw [if_neg (by simp)]
      subst hbad
      have hR := hr.bad ltL_bad
      exact hK u z' (by rw [hR]; exact hx.any _) Fu
    · rw [if_pos (show (!false) = true from rfl)]
      have hnb : L' ≠ bad := by rw [hL0]; exact end_ne
      obtain ⟨hm0, hC⟩ := hr.pos hnb hx.len.1
      have hC : C.length < 300 := hC
      have hln : C.length = (z' 2).l := by
        have e : (rowC C).length = (z' 2).l * 3 := (hs0.os 2 (by omega)).len
        rw [rowC_len] at e; omega
      refine addVal hx (by omega) fun u1 z1 y x1 hy hz1 F1 => meat_spec x1 rfl fun u2 b2 x2 hb2 g2 => ?_
      refine hQ (m - 1) _ _ (by omega) ⟨b2, C ++ [ltP L'], _, _, rfl, x2.to fun hne => ?_, hr.next hnb hx.len.1 len_lt hb2, (Fu.trans F1).trans (x1.b1 g2)⟩
      rw [hy.resolve_right fun e => hne (by rw [e]; rfl)]
  · subst hm
    rcases hr with hr | ⟨rfl, hR⟩
    · obtain ⟨rfl, rfl⟩ := hr.out
      exact hK u z' hx Fu
    · exact hK u z' (by rw [hR]; exact hx.any _) Fu
set_option maxHeartbeats 2000000 in
theorem msets_loop {K : World → Prop} {R : List Cp × List Tk} (h : MX w B r st A L { M with names := [], vals := [] } z) (hr0 : RM sttP sttL kCOM R FU true [] L)
    (hK : ∀ w' z', MX w' B r st A R.2 { M with names := R.1.map (·.col), vals := R.1.map (·.lit) } z' → FrP (fun b => B ≤ b) w w' → K w') :
    LoopP (σ := Bool × Unit) (fun st165 w next166 =>
      if st165.1 = true then
        LdB w ⟨r, 2, none⟩ fun bad_167 =>
        if (!bad_167) = true then
          Drew w fun w =>
          Hold w ⟨st, 4, none⟩ 1 fun R168 =>
          LdS w ⟨st, 4, none⟩ fun names_169 =>
          S.querym_reader_name r w (fun r170 w =>
          After R168 w <|
          New w (.cells #[.string r170] 9) fun p171 w =>
          After R168 w <|
          AppS 9 [.string ⟨#[]⟩] 16 1 w names_169 ⟨some ⟨p171, 0, none⟩, 1, 1⟩ fun l172 w =>
          St1 w ⟨st, 4, none⟩ (.slice l172.a l172.l l172.c) fun w =>
          S.querym_reader_want r (⟨#[61]⟩ : ByteArray) w (fun w =>
          Drew w fun w =>
          Hold w ⟨st, 5, none⟩ 1 fun R173 =>
          LdS w ⟨st, 5, none⟩ fun vals_174 =>
          S.querym_reader_lit r w (fun IsStr_175 I_176 S_177 w =>
          After R173 w <|
          New w (.cells #[.bool IsStr_175, .int .i64 I_176, .string S_177] 167) fun p178 w =>
          After R173 w <|
          AppS 167 [.bool false, .int .i64 0, .string ⟨#[]⟩] 32 3 w vals_174 ⟨some ⟨p178, 0, none⟩, 1, 1⟩ fun l179 w =>
          St1 w ⟨st, 5, none⟩ (.slice l179.a l179.l l179.c) fun w =>
          S.querym_reader_eat r (⟨#[44]⟩ : ByteArray) w (fun r180 w =>
          next166 (r180, ()) w))))
        else
          K w
      else
        K w) (true, ()) w := by
  refine loopN (fun m sv u => ∃ (more : Bool) (C : List Cp) (L' : List Tk) (z' : Nat → Sl), sv = (more, ()) ∧ MX u B r st A L' { M with names := C.map (·.col), vals := C.map (·.lit) } z' ∧ RM sttP sttL kCOM R m more C L' ∧ FrP (fun b => B ≤ b) w u) FU
    ⟨true, [], _, z, rfl, h, hr0, FrP.refl _ _⟩ ?_
  rintro m _ u ⟨more, C, L', z', rfl, hx, hr, Fu⟩ Q hQ
  dsimp only
  refine ifb (fun hm => ?_) fun hm => ?_
  · subst hm
    refine hx.flag (fun hbad => ?_) fun i0 hs0 hL0 => ?_
    · rw [if_neg (by simp)]
      subst hbad
      have hR := hr.bad sttL_bad
      exact hK u z' (by rw [hR]; exact hx.any _) Fu
    · rw [if_pos (show (!false) = true from rfl)]
      have hnb : L' ≠ bad := by rw [hL0]; exact end_ne
      obtain ⟨hm0, hC⟩ := hr.pos hnb hx.len.1
      have hC : C.length < 300 := hC
      have hln : C.length = (z' 1).l := by
        have e : (strC (C.map (·.col))).length = (z' 1).l * 1 := (hs0.os 1 (by omega)).len
        rw [strC_len, List.length_map] at e; omega
      have hln2 : C.length = (z' 2).l := by
        have e : (rowC (C.map (·.lit))).length = (z' 2).l * 3 := (hs0.os 2 (by omega)).len
        rw [rowC_len, List.length_map] at e; omega
      refine addName hx (by omega) fun u1 z1 y x1 hy hz1 F1 => mwant_spec x1 rfl fun u2 x2 g2 => ?_
      refine addVal x2 (by rw [hz1 2 (by omega)]; omega) fun u3 z3 y3 x3 hy3 hz3 F3 => meat_spec x3 rfl fun u4 b4 x4 hb4 g4 => ?_
      refine hQ (m - 1) _ _ (by omega) ⟨b4, C ++ [sttP L'], _, _, rfl, x4.to fun hne => ?_, hr.next hnb hx.len.1 len_stt hb4, (((Fu.trans F1).trans (x1.b1 g2)).trans F3).trans (x3.b1 g4)⟩
      have e3 := hy3.resolve_right fun e => hne (by rw [e]; rfl)
      have e1 := hy.resolve_right fun e => hne (by rw [e]; rfl)
      rw [e1, e3, List.map_append, List.map_append]
      rfl
  · subst hm
    rcases hr with hr | ⟨rfl, hR⟩
    · obtain ⟨rfl, rfl⟩ := hr.out
      exact hK u z' hx Fu
    · exact hK u z' (by rw [hR]; exact hx.any _) Fu
end Go.Proofs.Qxb6500564aGreat
