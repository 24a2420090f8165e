/-
  The model's reader: parse, whole.
-/
import Derived.Test.Qxb6500564aGreatQyT
namespace Go.Proofs.Qxb6500564aGreat
open Go.Den Go.Zip
set_option linter.unusedVariables false
set_option linter.unusedSimpArgs false
variable {w w' u v : World} {i j k n a b r st B q : Nat} {s x y : ByteArray} {t : Tk} {A L L' : List Tk} {M M' : Mst} {z : Nat → Sl} {bd : Bool}

theorem MX.bL (h : MX w B r st A L M z) (e : L = bad) (M' : Mst) (L2 : List Tk) (e2 : L2 = bad) : MX w B r st A L2 M' z := by subst e; subst e2; exact h.any M'
theorem MX.rst (h : MX w B r st A L M z) {α : Type} {f : List Tk → α} {g : List Tk → List Tk} : RM f g x (lstP f g x FU L) FU true [] L := .inl (RdL.start h.len.2)
/-- The reader's whole state, told by what the plain reader answers. -/
def PJ (w : World) (B r st : Nat) (A : List Tk) (R : Smt × List Tk) (w0 : World) : Prop := ∃ z, MX w B r st A R.2 (toM R.1) z ∧ FrP (fun b => B ≤ b) w0 w
set_option maxHeartbeats 4000000 in
theorem mcreate_read {J : World → Prop} {w0 : World} (h : MX w B r st A L m0 z) (hz : (z 1).l = 0) (F0 : FrP (fun b => B ≤ b) w0 w) (hnb : L ≠ bad) (hJ : ∀ v, PJ v B r st A (creP L) w0 → J v) :
              S.querym_reader_eat r (⟨#[84, 65, 66, 76, 69]⟩ : ByteArray) w (fun r88 w =>
              if r88 = true then
                St1 w ⟨st, 0, none⟩ (.int .i64 4) fun w =>
                S.querym_reader_name r w (fun r89 w =>
                St1 w ⟨st, 1, none⟩ (.string r89) fun w =>
                S.querym_reader_want r (⟨#[40]⟩ : ByteArray) w (fun w =>
                Join (fun (keys_90 : Int) (w : World) =>
                  S.querym_reader_want r (⟨#[41]⟩ : ByteArray) w (fun w =>
                  if (keys_90 != 1) = true then
                    St1 w ⟨r, 2, none⟩ (.bool true) fun w =>
                    J w
                  else
                    J w)) fun J91 =>
                LoopP (σ := Int × Bool × Unit) (fun st92 w next93 =>
                  if st92.2.1 = true then
                    LdB w ⟨r, 2, none⟩ fun bad_94 =>
                    if (!bad_94) = true then
                      S.querym_reader_name r w (fun r95 w =>
                      New w (.cells #[.string ⟨#[]⟩, .bool false] 149) fun p96 w =>
                      St1 w ⟨p96, 0, none⟩ (.string r95) fun w =>
                      St1 w ⟨p96, 1, none⟩ (.bool false) fun w =>
                      S.querym_reader_eat r (⟨#[84, 69, 88, 84]⟩ : ByteArray) w (fun r97 w =>
                      Join (fun (w : World) =>
                        S.querym_reader_eat r (⟨#[75, 69, 89]⟩ : ByteArray) w (fun r98 w =>
                        Join (fun (keys_99 : Int) (w : World) =>
                          LdS w ⟨st, 2, none⟩ fun cols_100 =>
                          LdStr w ⟨p96, 0, none⟩ fun Name_101 =>
                          LdB w ⟨p96, 1, none⟩ fun IsStr_102 =>
                          New w (.cells #[.string Name_101, .bool IsStr_102] 149) fun p103 w =>
                          AppS 149 [.string ⟨#[]⟩, .bool false] 24 2 w cols_100 ⟨some ⟨p103, 0, none⟩, 1, 1⟩ fun l104 w =>
                          St1 w ⟨st, 2, none⟩ (.slice l104.a l104.l l104.c) fun w =>
                          S.querym_reader_eat r (⟨#[44]⟩ : ByteArray) w (fun r105 w =>
                          next93 (keys_99, r105, ()) w)) fun J106 =>
                        if r98 = true then
                          Let (W (st92.1 + 1)) fun keys_107 =>
                          LdS w ⟨st, 2, none⟩ fun cols_108 =>
                          St1 w ⟨st, 3, none⟩ (.int .i64 (cols_108.l : Int)) fun w =>
                          J106 keys_107 w
                        else
                          J106 st92.1 w)) fun J109 =>
                      if r97 = true then
                        St1 w ⟨p96, 1, none⟩ (.bool true) fun w =>
                        J109 w
                      else
                        S.querym_reader_want r (⟨#[73, 78, 84]⟩ : ByteArray) w (fun w =>
                        J109 w)))
                    else
                      J91 st92.1 w
                  else
                    J91 st92.1 w) (0, true, ()) w))
              else
                S.querym_reader_want r (⟨#[73, 78, 68, 69, 88]⟩ : ByteArray) w (fun w =>
                S.querym_reader_want r (⟨#[79, 78]⟩ : ByteArray) w (fun w =>
                St1 w ⟨st, 0, none⟩ (.int .i64 6) fun w =>
                S.querym_reader_name r w (fun r110 w =>
                St1 w ⟨st, 1, none⟩ (.string r110) fun w =>
                S.querym_reader_want r (⟨#[40]⟩ : ByteArray) w (fun w =>
                Drew w fun w =>
                Hold w ⟨st, 4, none⟩ 1 fun R111 =>
                LdS w ⟨st, 4, none⟩ fun names_112 =>
                S.querym_reader_name r w (fun r113 w =>
                After R111 w <|
                New w (.cells #[.string r113] 9) fun p114 w =>
                After R111 w <|
                AppS 9 [.string ⟨#[]⟩] 16 1 w names_112 ⟨some ⟨p114, 0, none⟩, 1, 1⟩ fun l115 w =>
                St1 w ⟨st, 4, none⟩ (.slice l115.a l115.l l115.c) fun w =>
                S.querym_reader_want r (⟨#[41]⟩ : ByteArray) w (fun w =>
                J w))))))) := by
  refine meat_spec h rfl fun w1 b1 h1 hb1 f1 => ?_
  have hb1 := hb1.resolve_right hnb
  have F1 := F0.trans (h.b1 f1)
  unfold creP at hJ
  refine ifb (fun e => ?_) fun e => ?_
  · rw [aft_t (by rw [← hb1, e])] at h1
    rw [← hb1, e, if_pos rfl] at hJ
    dsimp only at hJ
    refine h1.put (fun M => { M with kind := 4 }) (by omega) (fun M => rfl) (fun M => vmI rfl rfl rfl rfl) fun w2 h2 f2 => mname_spec h2 fun w3 y3 h3 hy3 f3 => ?_
    have F3 := (F1.trans (h1.b2 f2)).trans (h2.b1 f3)
    refine h3.put (fun M => { M with table := y3 }) (by omega) (fun M => rfl) (fun M => vmI rfl rfl rfl rfl) fun w4 h4 f4 => mwant_spec h4 rfl fun w5 h5 f5 => ?_
    have F5 := (F3.trans (h3.b2 f4)).trans (h4.b1 f5)
    have h6 : MX w5 B r st A (wnt ⟨#[40]⟩ (nmL L.tail)) (cdM { m0 with kind := 4, table := nmP L.tail } []) z := h5.to fun hne => by
      rw [hy3.resolve_right fun e => hne (by rw [e]; rfl)]
      rfl
    generalize hLL : wnt ⟨#[40]⟩ (nmL L.tail) = L1 at *
    refine join_P (fun kx u => ∃ z', MX u B r st A (lstP colP colL kCOM FU L1).2 (cdM { m0 with kind := 4, table := nmP L.tail } (lstP colP colL kCOM FU L1).1) z' ∧ ((lstP colP colL kCOM FU L1).2 ≠ bad → kx = ((keys (lstP colP colL kCOM FU L1).1 : Nat) : Int)) ∧ FrP (fun b => B ≤ b) w0 u) ?_ ?_
    · rintro kx u ⟨z', hu, hkx, Fu⟩
      generalize lstP colP colL kCOM FU L1 = R at *
      refine mwant_spec hu rfl fun w6 h6 f6 => ifnk (fun hk => ?_) fun hk => ?_
      · refine h6.mbad fun w7 h7 f7 => hJ w7 ⟨z', ?_, (Fu.trans (hu.b1 f6)).trans (h6.b1 f7)⟩
        refine h7.bL rfl _ _ ?_
        by_cases hR : R.2 = bad
        · show (if keys R.1 = 1 then wnt ⟨#[41]⟩ R.2 else bad) = bad
          rw [hR]
          split <;> rfl
        · have := hkx hR
          show (if keys R.1 = 1 then wnt ⟨#[41]⟩ R.2 else bad) = bad
          rw [if_neg (by omega)]
      · refine hJ w6 ⟨z', ?_, Fu.trans (hu.b1 f6)⟩
        by_cases hR : R.2 = bad
        · refine h6.bL (by rw [hR]; rfl) _ _ ?_
          show (if keys R.1 = 1 then wnt ⟨#[41]⟩ R.2 else bad) = bad
          rw [hR]
          split <;> rfl
        · have := hkx hR
          show MX _ _ _ _ _ (if keys R.1 = 1 then wnt ⟨#[41]⟩ R.2 else bad) _ _
          rw [if_pos (by omega)]
          exact h6
    · intro J91 hJ91
      exact mcols_loop h6 h6.rst fun w7 z7 kx h7 hkx F7 => hJ91 kx w7 ⟨z7, h7, hkx, F5.trans F7⟩
  · rw [aft_f (by rw [← hb1, e])] at h1
    rw [← hb1, e, if_neg (by simp)] at hJ
    dsimp only at hJ
    refine mwant_spec h1 rfl fun w2 h2 f2 => mwant_spec h2 rfl fun w3 h3 f3 => ?_
    have F3 := (F1.trans (h1.b1 f2)).trans (h2.b1 f3)
    refine h3.put (fun M => { M with kind := 6 }) (by omega) (fun M => rfl) (fun M => vmI rfl rfl rfl rfl) fun w4 h4 f4 => mname_spec h4 fun w5 y5 h5 hy5 f5 => ?_
    have F5 := (F3.trans (h3.b2 f4)).trans (h4.b1 f5)
    generalize wnt ⟨#[79, 78]⟩ (wnt ⟨#[73, 78, 68, 69, 88]⟩ L) = L1 at *
    refine h5.put (fun M => { M with table := y5 }) (by omega) (fun M => rfl) (fun M => vmI rfl rfl rfl rfl) fun w6 h6 f6 => mwant_spec h6 rfl fun w7 h7 f7 => ?_
    have F7 := (F5.trans (h5.b2 f6)).trans (h6.b1 f7)
    refine addName h7 (by omega) fun w8 z8 y8 h8 hy8 hz8 f8 => mwant_spec h8 rfl fun w9 h9 f9 => ?_
    refine hJ w9 ⟨z8, h9.to fun hne => ?_, (F7.trans f8).trans (h8.b1 f9)⟩
    rw [hy8.resolve_right fun e => hne (by rw [e]; rfl), hy5.resolve_right fun e => hne (by rw [e]; rfl)]
    rfl
theorem minsert_read {J : World → Prop} {w0 : World} (h : MX w B r st A L m0 z) (F0 : FrP (fun b => B ≤ b) w0 w) (hJ : ∀ v, PJ v B r st A (insP L) w0 → J v) :
                  S.querym_reader_want r (⟨#[73, 78, 84, 79]⟩ : ByteArray) w (fun w =>
                  St1 w ⟨st, 0, none⟩ (.int .i64 7) fun w =>
                  S.querym_reader_name r w (fun r119 w =>
                  St1 w ⟨st, 1, none⟩ (.string r119) fun w =>
                  S.querym_reader_want r (⟨#[86, 65, 76, 85, 69, 83]⟩ : ByteArray) w (fun w =>
                  S.querym_reader_want r (⟨#[40]⟩ : ByteArray) w (fun w =>
                  LoopP (σ := Bool × Unit) (fun st120 w next121 =>
                    if st120.1 = true then
                      LdB w ⟨r, 2, none⟩ fun bad_122 =>
                      if (!bad_122) = true then
                        Drew w fun w =>
                        Hold w ⟨st, 5, none⟩ 1 fun R123 =>
                        LdS w ⟨st, 5, none⟩ fun vals_124 =>
                        S.querym_reader_lit r w (fun IsStr_125 I_126 S_127 w =>
                        After R123 w <|
                        New w (.cells #[.bool IsStr_125, .int .i64 I_126, .string S_127] 167) fun p128 w =>
                        After R123 w <|
                        AppS 167 [.bool false, .int .i64 0, .string ⟨#[]⟩] 32 3 w vals_124 ⟨some ⟨p128, 0, none⟩, 1, 1⟩ fun l129 w =>
                        St1 w ⟨st, 5, none⟩ (.slice l129.a l129.l l129.c) fun w =>
                        S.querym_reader_eat r (⟨#[44]⟩ : ByteArray) w (fun r130 w =>
                        next121 (r130, ()) w))
                      else
                        S.querym_reader_want r (⟨#[41]⟩ : ByteArray) w (fun w =>
                        J w)
                    else
                      S.querym_reader_want r (⟨#[41]⟩ : ByteArray) w (fun w =>
                      J w)) (true, ()) w)))) := by
  unfold insP at hJ
  dsimp only at hJ
  refine mwant_spec h rfl fun w1 h1 f1 => ?_
  generalize wnt ⟨#[73, 78, 84, 79]⟩ L = L1 at *
  refine h1.put (fun M => { M with kind := 7 }) (by omega) (fun M => rfl) (fun M => vmI rfl rfl rfl rfl) fun w2 h2 f2 => mname_spec h2 fun w3 y3 h3 hy3 f3 => ?_
  have F3 := ((F0.trans (h.b1 f1)).trans (h1.b2 f2)).trans (h2.b1 f3)
  refine h3.put (fun M => { M with table := y3 }) (by omega) (fun M => rfl) (fun M => vmI rfl rfl rfl rfl) fun w4 h4 f4 => mwant_spec h4 rfl fun w5 h5 f5 => mwant_spec h5 rfl fun w6 h6 f6 => ?_
  have F6 := ((F3.trans (h3.b2 f4)).trans (h4.b1 f5)).trans (h5.b1 f6)
  have h7 : MX w6 B r st A (wnt ⟨#[40]⟩ (wnt ⟨#[86, 65, 76, 85, 69, 83]⟩ (nmL L1))) { ({ m0 with kind := 7, table := nmP L1 } : Mst) with vals := [] } z := h6.to fun hne => by
    rw [hy3.resolve_right fun e => hne (by rw [e]; rfl)]
    rfl
  refine mvals_loop (K := fun w => S.querym_reader_want r (⟨#[41]⟩ : ByteArray) w (fun w => J w)) h7 h7.rst fun w8 z8 h8 F8 => mwant_spec h8 rfl fun w9 h9 f9 => ?_
  refine hJ w9 ⟨z8, h9.to fun hne => ?_, (F6.trans F8).trans (h8.b1 f9)⟩
  show Mst.mk _ _ _ _ _ _ _ _ _ _ _ _ = Mst.mk _ _ _ _ _ _ _ _ _ _ _ _
  congr 1
  exact (List.append_nil _).symm
end Go.Proofs.Qxb6500564aGreat
