/-
  The model's reader: SELECT, UPDATE; parse.
-/
import Derived.Test.Qxb6500564aGreatQyU
namespace Go.Proofs.Qxb6500564aGreat
open Go.Den Go.Zip
set_option linter.unusedVariables false
set_option linter.unusedSimpArgs false
variable {w w' u v : World} {i j k n a b r st B q : Nat} {s x y : ByteArray} {t : Tk} {A L L' : List Tk} {M M' : Mst} {z : Nat → Sl} {bd : Bool}

theorem mupdate_read {J : World → Prop} {w0 : World} (h : MX w B r st A L m0 z) (F0 : FrP (fun b => B ≤ b) w0 w) (hJ : ∀ v, PJ v B r st A (updP L) w0 → J v) :
                      St1 w ⟨st, 0, none⟩ (.int .i64 9) fun w =>
                      S.querym_reader_name r w (fun r164 w =>
                      St1 w ⟨st, 1, none⟩ (.string r164) fun w =>
                      S.querym_reader_want r (⟨#[83, 69, 84]⟩ : ByteArray) w (fun w =>
                      LoopP (σ := Bool × Unit) (fun st165 w next166 =>
                        if st165.1 = true then
                          LdB w ⟨r, 2, none⟩ fun bad_167 =>
                          if (!bad_167) = true then
                            Drew w fun w =>
                            Hold w ⟨st, 4, none⟩ 1 fun R168 =>
                            LdS w ⟨st, 4, none⟩ fun names_169 =>
                            S.querym_reader_name r w (fun r170 w =>
                            After R168 w <|
                            New w (.cells #[.string r170] 9) fun p171 w =>
                            After R168 w <|
                            AppS 9 [.string ⟨#[]⟩] 16 1 w names_169 ⟨some ⟨p171, 0, none⟩, 1, 1⟩ fun l172 w =>
                            St1 w ⟨st, 4, none⟩ (.slice l172.a l172.l l172.c) fun w =>
                            S.querym_reader_want r (⟨#[61]⟩ : ByteArray) w (fun w =>
                            Drew w fun w =>
                            Hold w ⟨st, 5, none⟩ 1 fun R173 =>
                            LdS w ⟨st, 5, none⟩ fun vals_174 =>
                            S.querym_reader_lit r w (fun IsStr_175 I_176 S_177 w =>
                            After R173 w <|
                            New w (.cells #[.bool IsStr_175, .int .i64 I_176, .string S_177] 167) fun p178 w =>
                            After R173 w <|
                            AppS 167 [.bool false, .int .i64 0, .string ⟨#[]⟩] 32 3 w vals_174 ⟨some ⟨p178, 0, none⟩, 1, 1⟩ fun l179 w =>
                            St1 w ⟨st, 5, none⟩ (.slice l179.a l179.l l179.c) fun w =>
                            S.querym_reader_eat r (⟨#[44]⟩ : ByteArray) w (fun r180 w =>
                            next166 (r180, ()) w))))
                          else
                            S.querym_reader_where r st w (fun w =>
                            J w)
                        else
                          S.querym_reader_where r st w (fun w =>
                          J w)) (true, ()) w)) := by
  unfold updP at hJ
  dsimp only at hJ
  refine h.put (fun M => { M with kind := 9 }) (by omega) (fun M => rfl) (fun M => vmI rfl rfl rfl rfl) fun w2 h2 f2 => mname_spec h2 fun w3 y3 h3 hy3 f3 => ?_
  have F3 := (F0.trans (h.b2 f2)).trans (h2.b1 f3)
  refine h3.put (fun M => { M with table := y3 }) (by omega) (fun M => rfl) (fun M => vmI rfl rfl rfl rfl) fun w4 h4 f4 => mwant_spec h4 rfl fun w5 h5 f5 => ?_
  have F5 := (F3.trans (h3.b2 f4)).trans (h4.b1 f5)
  have h7 : MX w5 B r st A (wnt ⟨#[83, 69, 84]⟩ (nmL L)) { ({ m0 with kind := 9, table := nmP L } : Mst) with names := [], vals := [] } z := h5.to fun hne => by
    rw [hy3.resolve_right fun e => hne (by rw [e]; rfl)]
    rfl
  refine msets_loop (K := fun w => S.querym_reader_where r st w (fun w => J w)) h7 h7.rst fun w8 z8 h8 F8 => mwhere_spec h8 rfl fun w9 z9 h9 f9 => ?_
  exact hJ w9 ⟨z9, h9, (F5.trans F8).trans f9⟩
/-- ORDER BY's part, read: the name may be anything once the reader is bad. -/
theorem mdelete_read {J : World → Prop} {w0 : World} (h : MX w B r st A L m0 z) (F0 : FrP (fun b => B ≤ b) w0 w) (hJ : ∀ v, PJ v B r st A (delP L) w0 → J v) :
                        S.querym_reader_want r (⟨#[70, 82, 79, 77]⟩ : ByteArray) w (fun w =>
                        St1 w ⟨st, 0, none⟩ (.int .i64 10) fun w =>
                        S.querym_reader_name r w (fun r182 w =>
                        St1 w ⟨st, 1, none⟩ (.string r182) fun w =>
                        S.querym_reader_where r st w (fun w =>
                        J w))) := by
  unfold delP at hJ
  dsimp only at hJ
  refine mwant_spec h rfl fun w1 h1 f1 => ?_
  generalize wnt ⟨#[70, 82, 79, 77]⟩ L = L1 at *
  refine h1.put (fun M => { M with kind := 10 }) (by omega) (fun M => rfl) (fun M => vmI rfl rfl rfl rfl) fun w2 h2 f2 => mname_spec h2 fun w3 y3 h3 hy3 f3 => ?_
  refine h3.put (fun M => { M with table := y3 }) (by omega) (fun M => rfl) (fun M => vmI rfl rfl rfl rfl) fun w4 h4 f4 => mwhere_spec h4 rfl fun w5 z5 h5 f5 => ?_
  refine hJ w5 ⟨z5, h5.to fun hne => ?_, ((((F0.trans (h.b1 f1)).trans (h1.b2 f2)).trans (h2.b1 f3)).trans (h3.b2 f4)).trans f5⟩
  rw [hy3.resolve_right fun e => hne (by rw [e]; rfl)]
  rfl
theorem mdrop_read {J : World → Prop} {w0 : World} (h : MX w B r st A L m0 z) (F0 : FrP (fun b => B ≤ b) w0 w) (hJ : ∀ v, PJ v B r st A (drpP L) w0 → J v) :
                S.querym_reader_want r (⟨#[84, 65, 66, 76, 69]⟩ : ByteArray) w (fun w =>
                St1 w ⟨st, 0, none⟩ (.int .i64 5) fun w =>
                S.querym_reader_name r w (fun r117 w =>
                St1 w ⟨st, 1, none⟩ (.string r117) fun w =>
                J w)) := by
  unfold drpP at hJ
  dsimp only at hJ
  refine mwant_spec h rfl fun w1 h1 f1 => ?_
  generalize wnt ⟨#[84, 65, 66, 76, 69]⟩ L = L1 at *
  refine h1.put (fun M => { M with kind := 5 }) (by omega) (fun M => rfl) (fun M => vmI rfl rfl rfl rfl) fun w2 h2 f2 => mname_spec h2 fun w3 y3 h3 hy3 f3 => ?_
  refine h3.put (fun M => { M with table := y3 }) (by omega) (fun M => rfl) (fun M => vmI rfl rfl rfl rfl) fun w4 h4 f4 => ?_
  refine hJ w4 ⟨z, h4.to fun hne => ?_, (((F0.trans (h.b1 f1)).trans (h1.b2 f2)).trans (h2.b1 f3)).trans (h3.b2 f4)⟩
  rw [hy3.resolve_right fun e => hne e]
  rfl
set_option maxHeartbeats 4000000 in
theorem mselect_read {J : World → Prop} {w0 : World} (h : MX w B r st A L m0 z) (F0 : FrP (fun b => B ≤ b) w0 w) (hJ : ∀ v, PJ v B r st A (selP L) w0 → J v) :
                    St1 w ⟨st, 0, none⟩ (.int .i64 8) fun w =>
                    S.querym_reader_eat r (⟨#[42]⟩ : ByteArray) w (fun r132 w =>
                    Join (fun (w : World) =>
                      S.querym_reader_want r (⟨#[70, 82, 79, 77]⟩ : ByteArray) w (fun w =>
                      S.querym_reader_name r w (fun r133 w =>
                      St1 w ⟨st, 1, none⟩ (.string r133) fun w =>
                      S.querym_reader_where r st w (fun w =>
                      S.querym_reader_eat r (⟨#[79, 82, 68, 69, 82]⟩ : ByteArray) w (fun r134 w =>
                      Join (fun (w : World) =>
                        S.querym_reader_eat r (⟨#[76, 73, 77, 73, 84]⟩ : ByteArray) w (fun r135 w =>
                        if r135 = true then
                          St1 w ⟨st, 10, none⟩ (.bool true) fun w =>
                          Join (fun (w : World) =>
                            St1 w ⟨r, 2, none⟩ (.bool true) fun w =>
                            J w) fun J136 =>
                          Drew w fun w =>
                          LdI .i64 w ⟨r, 1, none⟩ fun i_137 =>
                          LdS w ⟨r, 0, none⟩ fun t_138 =>
                          if (decide (i_137 < (t_138.l : Int))) = true then
                            LdS w ⟨r, 0, none⟩ fun t_139 =>
                            LdI .i64 w ⟨r, 1, none⟩ fun i_140 =>
                            Ix t_139.a t_139.l i_140 fun b141 o142 =>
                            LdI .i64 w ⟨b141, o142 + Int.toNat i_140 * 3, none⟩ fun kind_143 =>
                            if (kind_143 == 2) = true then
                              Drew w fun w =>
                              LdS w ⟨r, 0, none⟩ fun t_144 =>
                              LdI .i64 w ⟨r, 1, none⟩ fun i_145 =>
                              Ix t_144.a t_144.l i_145 fun b146 o147 =>
                              LdI .i64 w ⟨b146, o147 + Int.toNat i_145 * 3 + 2, none⟩ fun val_148 =>
                              St1 w ⟨st, 11, none⟩ (.int .i64 val_148) fun w =>
                              LdI .i64 w ⟨r, 1, none⟩ fun i_149 =>
                              St1 w ⟨r, 1, none⟩ (.int .i64 (W (i_149 + 1))) fun w =>
                              J w
                            else
                              J136 w
                          else
                            J136 w
                        else
                          J w)) fun J150 =>
                      if r134 = true then
                        S.querym_reader_want r (⟨#[66, 89]⟩ : ByteArray) w (fun w =>
                        S.querym_reader_name r w (fun r151 w =>
                        St1 w ⟨st, 8, none⟩ (.string r151) fun w =>
                        S.querym_reader_eat r (⟨#[68, 69, 83, 67]⟩ : ByteArray) w (fun r152 w =>
                        St1 w ⟨st, 9, none⟩ (.bool r152) fun w =>
                        J150 w)))
                      else
                        J150 w))))) fun J153 =>
                    if r132 = true then
                      St1 w ⟨st, 6, none⟩ (.bool true) fun w =>
                      J153 w
                    else
                      LoopP (σ := Bool × Unit) (fun st154 w next155 =>
                        if st154.1 = true then
                          LdB w ⟨r, 2, none⟩ fun bad_156 =>
                          if (!bad_156) = true then
                            Drew w fun w =>
                            Hold w ⟨st, 4, none⟩ 1 fun R157 =>
                            LdS w ⟨st, 4, none⟩ fun names_158 =>
                            S.querym_reader_name r w (fun r159 w =>
                            After R157 w <|
                            New w (.cells #[.string r159] 9) fun p160 w =>
                            After R157 w <|
                            AppS 9 [.string ⟨#[]⟩] 16 1 w names_158 ⟨some ⟨p160, 0, none⟩, 1, 1⟩ fun l161 w =>
                            St1 w ⟨st, 4, none⟩ (.slice l161.a l161.l l161.c) fun w =>
                            S.querym_reader_eat r (⟨#[44]⟩ : ByteArray) w (fun r162 w =>
                            next155 (r162, ()) w))
                          else
                            J153 w
                        else
                          J153 w) (true, ()) w) := by
  refine h.put (fun M => { M with kind := 8 }) (by omega) (fun M => rfl) (fun M => vmI rfl rfl rfl rfl) fun w1 h1 f1 => meat_spec h1 rfl fun w2 b2 h2 hb2 f2 => ?_
  have F2 := (F0.trans (h.b2 f1)).trans (h1.b1 f2)
  refine join_W (fun u => ∃ z', MX u B r st A (selN L).2 { m0 with kind := 8, star := isP ⟨#[42]⟩ L, names := (selN L).1 } z' ∧ FrP (fun b => B ≤ b) w0 u) ?_ ?_
  · rintro u ⟨z', hu, Fu⟩
    unfold selP at hJ
    dsimp only at hJ
    generalize hR : selN L = R at *
    generalize hP : isP ⟨#[42]⟩ L = P at *
    refine mwant_spec hu rfl fun w3 h3 f3 => ?_
    generalize wnt ⟨#[70, 82, 79, 77]⟩ R.2 = L1 at *
    refine mname_spec h3 fun w4 y4 h4 hy4 f4 => ?_
    refine h4.put (fun M => { M with table := y4 }) (by omega) (fun M => rfl) (fun M => vmI rfl rfl rfl rfl) fun w5 h5 f5 => mwhere_spec h5 rfl fun w6 z6 h6 f6 => ?_
    have F6 := (((Fu.trans (hu.b1 f3)).trans (h3.b1 f4)).trans (h4.b2 f5)).trans f6
    have h7 : MX w6 B r st A (whP (nmL L1)).2 { m0 with kind := 8, star := P, names := R.1, table := nmP L1, wh := (whP (nmL L1)).1.map cw } z6 := h6.to fun hne => by
      rw [hy4.resolve_right fun e => hne (by rw [e]; rfl)]
    generalize whP (nmL L1) = H at *
    refine meat_spec h7 rfl fun w8 b8 h8 hb8 f8 => ?_
    have F8 := F6.trans (h7.b1 f8)
    refine join_W (fun v => ∃ z9, MX v B r st A (ordP H.2).2.2 { m0 with kind := 8, star := P, names := R.1, table := nmP L1, wh := H.1.map cw, order := (ordP H.2).1, desc := (ordP H.2).2.1 } z9 ∧ FrP (fun b => B ≤ b) w0 v) ?_ ?_
    · rintro v ⟨z9, h9, F9⟩
      generalize ordP H.2 = O at *
      refine meat_spec h9 rfl fun w10 b10 h10 hb10 f10 => ?_
      have F10 := F9.trans (h9.b1 f10)
      refine ifb (fun e => ?_) fun e => ?_
      · have eL : aft ⟨#[76, 73, 77, 73, 84]⟩ O.2.2 = wnt ⟨#[76, 73, 77, 73, 84]⟩ O.2.2 := by
          unfold wnt
          rcases hb10 with hb | hb
          · rw [← hb, e, if_pos rfl, aft_t (by rw [← hb, e])]
          · rw [hb]; rfl
        have eM : (limP O.2.2).2.2 = (if (hd (aft ⟨#[76, 73, 77, 73, 84]⟩ O.2.2)).kind = 4 then (aft ⟨#[76, 73, 77, 73, 84]⟩ O.2.2).tail else bad) := by
          unfold limP
          rcases hb10 with hb | hb
          · rw [← hb, e, if_pos rfl, aft_t (by rw [← hb, e])]
          · rw [hb]; rfl
        have eV : O.2.2 ≠ bad → (limP O.2.2).1 = true ∧ (limP O.2.2).2.1 = (hd (aft ⟨#[76, 73, 77, 73, 84]⟩ O.2.2)).val := fun hne => by
          have hb := hb10.resolve_right hne
          unfold limP
          rw [← hb, e, if_pos rfl, aft_t (by rw [← hb, e])]
          exact ⟨rfl, rfl⟩
        have eB : aft ⟨#[76, 73, 77, 73, 84]⟩ O.2.2 ≠ bad → O.2.2 ≠ bad := fun hne e => hne (by rw [e]; rfl)
        generalize aft ⟨#[76, 73, 77, 73, 84]⟩ O.2.2 = L2 at *
        refine h10.put (fun M => { M with hasLim := true }) (by omega) (fun M => rfl) (fun M => vmI rfl rfl rfl rfl) fun w11 h11 f11 => ?_
        have F11 := F10.trans (h10.b2 f11)
        refine join_W (fun v => ∃ M9, MX v B r st A L2 M9 z9 ∧ (hd L2).kind ≠ 4 ∧ FrP (fun b => B ≤ b) w0 v) ?_ ?_
        · rintro v2 ⟨M9, x9, hk, Fv⟩
          refine x9.mbad fun v3 x3 k3 => hJ v3 ⟨z9, ?_, Fv.trans (x9.b1 k3)⟩
          refine x3.bL rfl _ _ ?_
          show (limP O.2.2).2.2 = bad
          rw [eM, if_neg hk]
        · intro J2 hJ2
          have x12 := h11.dr
          obtain ⟨i, bd, M1, hs, hh⟩ := h11.dr
          have hal := hs.al
          have htl : (⟨(z9 4).a, (z9 4).l, (z9 4).c⟩ : Sl).l = A.length := hs.tl
          refine drew_ (ldI hs.rb rfl (ldS hs.rb rfl (ifd (fun hlt => ?_) fun hlt => ?_)))
          · have hlt : i < A.length := by omega
            obtain ⟨t, ht⟩ := get_lt hlt
            refine ldS hs.rb rfl (ldI hs.rb rfl (hs.kd ht (ifk (fun h4 => ?_) fun h4 => ?_)))
            · have h4 : t.kind = 4 := by
                rcases kind_cases hs ht with e | e | e | e | e
                · rw [e] at h4; exact absurd h4 (by decide)
                · rw [e] at h4; exact absurd h4 (by decide)
                · exact e
                · rw [e] at h4; exact absurd h4 (by decide)
                · rw [e] at h4; exact absurd h4 (by decide)
              have hsd := hs.dr
              refine drew_ (ldS hsd.rb rfl (ldI hsd.rb rfl (hsd.vl ht ?_)))
              refine st1 hsd.blk (by show _ < 12; omega) fun v1 p1 k1 t1 => ?_
              have s1 : MXs v1 B r st A i bd { M1 with lim := t.val } z9 := hsd.set p1 k1 (vmI rfl rfl rfl rfl)
              refine ldI s1.rb rfl (st1 s1.rb (by show _ < 3; omega) fun v2 b2 k2 t2 => ?_)
              have b2 : Blk v2 r [slV (z9 4), .int .i64 (W ((i : Int) + 1)), .bool bd] := b2
              rw [W_succ (by omega)] at b2
              have s2 : MXs v2 B r st A (i + 1) bd { M1 with lim := t.val } z9 := s1.rdr b2 k2 (by omega)
              have Fv2 := (F11.drew.drew.trans (hsd.b2 k1)).trans (s1.b1 k2)
              refine hJ v2 ⟨z9, ?_, Fv2⟩
              show MX v2 B r st A (limP O.2.2).2.2 _ z9
              rw [eM]
              rcases hh with ⟨rfl, rfl, e3⟩ | ⟨rfl, e3⟩
              · have eV := eV (eB (by rw [e3]; exact end_ne))
                rw [e3, hd_at ht] at eV
                rw [e3, hd_at ht, if_pos h4, tl_at ht]
                refine ⟨i + 1, false, _, s2, .inl ⟨rfl, ?_, rfl⟩⟩
                show _ = toM _
                unfold toM
                dsimp only
                rw [eV.1, eV.2]
                show Mst.mk _ _ _ _ _ _ _ _ _ _ _ _ = Mst.mk _ _ _ _ _ _ _ _ _ _ _ _
                congr 1
                exact (List.append_nil _).symm
              · rw [e3]
                exact ⟨i + 1, true, _, s2, .inr ⟨rfl, rfl⟩⟩
            · refine hJ2 _ ⟨_, x12, ?_, F11.drew⟩
              rcases hh with ⟨rfl, rfl, e3⟩ | ⟨rfl, e3⟩
              · rw [e3, hd_at ht]
                intro e; rw [e] at h4; exact h4 rfl
              · rw [e3]; decide
          · refine hJ2 _ ⟨_, x12, ?_, F11.drew⟩
            rcases hh with ⟨rfl, rfl, e3⟩ | ⟨rfl, e3⟩
            · rw [e3, drop_end (by omega)]; decide
            · rw [e3]; decide
      · refine hJ w10 ⟨z9, ?_, F10⟩
        have eL : aft ⟨#[76, 73, 77, 73, 84]⟩ O.2.2 = O.2.2 := by
          rcases hb10 with hb | hb
          · exact aft_f (by rw [← hb, e])
          · rw [hb]; rfl
        rw [eL] at h10
        have eM : (limP O.2.2) = (false, 0, O.2.2) := by
          unfold limP
          rcases hb10 with hb | hb
          · rw [← hb, e, if_neg (by simp)]
          · rw [hb]; rfl
        show MX w10 B r st A (limP O.2.2).2.2 _ z9
        rw [eM]
        refine h10.to fun hne => ?_
        show Mst.mk _ _ _ _ _ _ _ _ _ _ _ _ = Mst.mk _ _ _ _ _ _ _ _ _ _ _ _
        congr 1
        exact (List.append_nil _).symm
    · intro J150 hJ150
      refine ifb (fun e => ?_) fun e => ?_
      · have eL : aft ⟨#[79, 82, 68, 69, 82]⟩ H.2 = (if isP ⟨#[79, 82, 68, 69, 82]⟩ H.2 then H.2.tail else bad) := by
          rcases hb8 with hb | hb
          · rw [← hb, e, if_pos rfl, aft_t (by rw [← hb, e])]
          · rw [hb]; rfl
        have eO : (ordP H.2).2.2 = aft ⟨#[68, 69, 83, 67]⟩ (nmL (wnt ⟨#[66, 89]⟩ (aft ⟨#[79, 82, 68, 69, 82]⟩ H.2))) := by
          unfold ordP
          rcases hb8 with hb | hb
          · rw [← hb, e, if_pos rfl, aft_t (x := ⟨#[79, 82, 68, 69, 82]⟩) (L := H.2) (by rw [← hb, e])]
          · rw [hb]; rfl
        have eV : H.2 ≠ bad → (ordP H.2).1 = nmP (wnt ⟨#[66, 89]⟩ (aft ⟨#[79, 82, 68, 69, 82]⟩ H.2)) ∧ (ordP H.2).2.1 = isP ⟨#[68, 69, 83, 67]⟩ (nmL (wnt ⟨#[66, 89]⟩ (aft ⟨#[79, 82, 68, 69, 82]⟩ H.2))) := fun hne => by
          have hb := hb8.resolve_right hne
          unfold ordP
          rw [← hb, e, if_pos rfl, aft_t (x := ⟨#[79, 82, 68, 69, 82]⟩) (L := H.2) (by rw [← hb, e])]
          exact ⟨rfl, rfl⟩
        refine mwant_spec h8 rfl fun v1 x1 k1 => mname_spec x1 fun v2 y2 x2 hy2 k2 => ?_
        refine x2.put (fun M => { M with order := y2 }) (by omega) (fun M => rfl) (fun M => vmI rfl rfl rfl rfl) fun v3 x3 k3 => meat_spec x3 rfl fun v4 b4 x4 hb4 k4 => ?_
        refine x4.put (fun M => { M with desc := b4 }) (by omega) (fun M => rfl) (fun M => vmI rfl rfl rfl rfl) fun v5 x5 k5 => ?_
        refine hJ150 v5 ⟨z6, ?_, ((((F8.trans (h8.b1 k1)).trans (x1.b1 k2)).trans (x2.b2 k3)).trans (x3.b1 k4)).trans (x4.b2 k5)⟩
        rw [eO]
        refine x5.to fun hne => ?_
        have n1 : nmL (wnt ⟨#[66, 89]⟩ (aft ⟨#[79, 82, 68, 69, 82]⟩ H.2)) ≠ bad := fun e => hne (by rw [e]; rfl)
        have n2 : H.2 ≠ bad := fun e => n1 (by rw [e]; rfl)
        rw [(eV n2).1, (eV n2).2, hy2.resolve_right n1, hb4.resolve_right n1]
      · have eL : aft ⟨#[79, 82, 68, 69, 82]⟩ H.2 = H.2 := by
          rcases hb8 with hb | hb
          · exact aft_f (by rw [← hb, e])
          · rw [hb]; rfl
        have eM : ordP H.2 = (⟨#[]⟩, false, H.2) := by
          unfold ordP
          rcases hb8 with hb | hb
          · rw [← hb, e, if_neg (by simp)]
          · rw [hb]; rfl
        rw [eL] at h8
        refine hJ150 w8 ⟨z6, ?_, F8⟩
        rw [eM]
        exact h8
  · intro J153 hJ153
    refine ifb (fun e => ?_) fun e => ?_
    · refine h2.put (fun M => { M with star := true }) (by omega) (fun M => rfl) (fun M => vmI rfl rfl rfl rfl) fun w3 h3 f3 => ?_
      refine hJ153 w3 ⟨z, ?_, F2.trans (h2.b2 f3)⟩
      rcases hb2 with hb | hb
      · unfold selN
        rw [← hb, e, if_pos rfl]
        rw [aft_t (by rw [← hb, e])] at h3
        exact h3
      · refine h3.bL (by rw [hb]; rfl) _ _ ?_
        rw [hb]
        unfold selN
        rw [if_neg (by rw [isP_bad]; simp), show FU = 299 + 1 from rfl, lstP_bad nmL_bad]
    · have eL : aft ⟨#[42]⟩ L = L := by
        rcases hb2 with hb | hb
        · exact aft_f (by rw [← hb, e])
        · rw [hb]; rfl
      have eP : isP ⟨#[42]⟩ L = false := by
        rcases hb2 with hb | hb
        · rw [← hb, e]
        · rw [hb]; rfl
      rw [eL] at h2
      have eS : selN L = lstP nmP nmL kCOM FU L := by unfold selN; rw [eP]; rfl
      rw [eS, eP] at hJ153
      refine mnames_loop (M := { m0 with kind := 8 }) h2 h2.rst fun w3 z3 h3 f3 => hJ153 w3 ⟨z3, h3, F2.trans f3⟩
end Go.Proofs.Qxb6500564aGreat
