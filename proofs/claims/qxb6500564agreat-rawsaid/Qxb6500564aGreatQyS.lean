/-
  The model's reader: columns.
-/
import Derived.Test.Qxb6500564aGreatQyR
namespace Go.Proofs.Qxb6500564aGreat
open Go.Den Go.Zip
set_option linter.unusedVariables false
set_option linter.unusedSimpArgs false
variable {w w' u v : World} {i j k n a b r st B q : Nat} {s x : ByteArray} {t : Tk} {A L L' : List Tk} {M M' : Mst} {z : Nat → Sl} {bd : Bool}

def cdM (M : Mst) (C : List (Cl × Bool)) : Mst := { M with cols := C.map (·.1), pk := pkS C 0 0 }
def tyL (L : List Tk) : List Tk := if isP ⟨#[84, 69, 88, 84]⟩ (nmL L) then (nmL L).tail else wnt ⟨#[73, 78, 84]⟩ (nmL L)
set_option maxHeartbeats 4000000 in
theorem mcols_loop {K : Int → World → Prop} {R : List (Cl × Bool) × List Tk} (h : MX w B r st A L (cdM M []) z) (hr0 : RM colP colL kCOM R FU true [] L)
    (hK : ∀ w' z' kx, MX w' B r st A R.2 (cdM M R.1) z' → (R.2 ≠ bad → kx = ((keys R.1 : Nat) : Int)) → FrP (fun b => B ≤ b) w w' → K kx w') :
    LoopP (σ := Int × Bool × Unit) (fun st92 w next93 =>
                  if st92.2.1 = true then
                    LdB w ⟨r, 2, none⟩ fun bad_94 =>
                    if (!bad_94) = true then
                      S.querym_reader_name r w (fun r95 w =>
                      New w (.cells #[.string ⟨#[]⟩, .bool false] 149) fun p96 w =>
                      St1 w ⟨p96, 0, none⟩ (.string r95) fun w =>
                      St1 w ⟨p96, 1, none⟩ (.bool false) fun w =>
                      S.querym_reader_eat r (⟨#[84, 69, 88, 84]⟩ : ByteArray) w (fun r97 w =>
                      Join (fun (w : World) =>
                        S.querym_reader_eat r (⟨#[75, 69, 89]⟩ : ByteArray) w (fun r98 w =>
                        Join (fun (keys_99 : Int) (w : World) =>
                          LdS w ⟨st, 2, none⟩ fun cols_100 =>
                          LdStr w ⟨p96, 0, none⟩ fun Name_101 =>
                          LdB w ⟨p96, 1, none⟩ fun IsStr_102 =>
                          New w (.cells #[.string Name_101, .bool IsStr_102] 149) fun p103 w =>
                          AppS 149 [.string ⟨#[]⟩, .bool false] 24 2 w cols_100 ⟨some ⟨p103, 0, none⟩, 1, 1⟩ fun l104 w =>
                          St1 w ⟨st, 2, none⟩ (.slice l104.a l104.l l104.c) fun w =>
                          S.querym_reader_eat r (⟨#[44]⟩ : ByteArray) w (fun r105 w =>
                          next93 (keys_99, r105, ()) w)) fun J106 =>
                        if r98 = true then
                          Let (W (st92.1 + 1)) fun keys_107 =>
                          LdS w ⟨st, 2, none⟩ fun cols_108 =>
                          St1 w ⟨st, 3, none⟩ (.int .i64 (cols_108.l : Int)) fun w =>
                          J106 keys_107 w
                        else
                          J106 st92.1 w)) fun J109 =>
                      if r97 = true then
                        St1 w ⟨p96, 1, none⟩ (.bool true) fun w =>
                        J109 w
                      else
                        S.querym_reader_want r (⟨#[73, 78, 84]⟩ : ByteArray) w (fun w =>
                        J109 w)))
                    else
                      K st92.1 w
                  else
                    K st92.1 w) (0, true, ()) w := by
  refine loopN (fun m sv u => ∃ (kx : Int) (more : Bool) (C : List (Cl × Bool)) (L' : List Tk) (z' : Nat → Sl), sv = (kx, more, ()) ∧ MX u B r st A L' (cdM M C) z' ∧ RM colP colL kCOM R m more C L' ∧ (L' ≠ bad → kx = ((keys C : Nat) : Int)) ∧ FrP (fun b => B ≤ b) w u) FU
    ⟨0, true, [], _, z, rfl, h, hr0, fun _ => rfl, FrP.refl _ _⟩ ?_
  rintro m _ u ⟨kx, more, C, L', z', rfl, hx, hr, hkx, Fu⟩ Q hQ
  dsimp only
  refine ifb (fun hm => ?_) fun hm => ?_
  · subst hm
    refine hx.flag (fun hbad => ?_) fun i0 hs0 hL0 => ?_
    · rw [if_neg (by simp)]
      subst hbad
      have hR := hr.bad colL_bad
      exact hK u z' kx (by rw [hR]; exact hx.any _) (fun h => absurd hR h) Fu
    · rw [if_pos (show (!false) = true from rfl)]
      have hnb : L' ≠ bad := by rw [hL0]; exact end_ne
      obtain ⟨hm0, hC⟩ := hr.pos hnb hx.len.1
      have hC : C.length < 300 := hC
      have hkC : keys C ≤ C.length := List.length_filter_le ..
      have hkx := hkx hnb
      have hln : C.length = (z' 0).l := by
        have e : (colC (C.map (·.1))).length = (z' 0).l * 2 := (hs0.os 0 (by omega)).len
        rw [colC_len, List.length_map] at e; omega
      refine mname_spec hx fun u0 y x0 hy g0 => ?_
      have hq := x0.apart (Nat.le_refl u0.heap.size)
      refine newB fun u1 q1 g1 z1 => ?_
      refine st1 q1 (by show _ < 2; omega) fun u2 q2 g2 z2 => st1 q2 (by show _ < 2; omega) fun u3 q3 g3 z3 => ?_
      have q3 : Blk u3 u0.heap.size (colC1 ⟨y, false⟩) := q3
      have g13 : Fr 0 0 u0 u3 := g1.thenNew (g2.trans g3) (Nat.le_refl _)
      have x3 := x0.fr0 g13
      have F3 := (Fu.trans (hx.b1 g0)).trans (FrP.of0 g13)
      refine meat_spec x3 rfl fun u4 b4 x4 hb4 g4 => ?_
      have q4 := q3.fr g4 (by have := hq.1; omega)
      have F4 := F3.trans (x3.b1 g4)
      refine join_W (fun v => MX v B r st A (tyL L') (cdM M C) z' ∧ Blk v u0.heap.size (colC1 ⟨y, b4⟩) ∧ FrP (fun b => B ≤ b) w v) ?_ ?_
      · rintro v ⟨xv, qv, Fv⟩
        refine meat_spec xv rfl fun v1 b1 xv1 hb1 k1 => ?_
        have qv1 := qv.fr k1 (by have := hq.1; omega)
        have Fv1 := Fv.trans (xv.b1 k1)
        have hcl : colL L' = aft ⟨#[75, 69, 89]⟩ (tyL L') := rfl
        refine join_P (fun ky v2 => (tyL L' ≠ bad → ky = ((keys (C ++ [colP L']) : Nat) : Int)) ∧ MX v2 B r st A (colL L') { M with cols := C.map (·.1), pk := pkS (C ++ [colP L']) 0 0 } z' ∧ Blk v2 u0.heap.size (colC1 ⟨y, b4⟩) ∧ FrP (fun b => B ≤ b) w v2) ?_ ?_
        · rintro ky v2 ⟨hky, xv2, qv2, Fv2⟩
          obtain ⟨M4, bM4⟩ := xv2.sblk
          refine ldS bM4 rfl (ldStr qv2 rfl (ldB qv2 rfl (newB fun v5 r5 k5 t5 => ?_)))
          have xv5 := xv2.fr0 k5
          have r5 : Blk v5 v2.heap.size (colC1 ⟨y, b4⟩) := r5
          refine xv5.app (i := 0) (fun M => { M with cols := M.cols ++ [⟨y, b4⟩] }) (by omega) r5 rfl rfl rfl (by rw [← hln]; omega) (fun M => ⟨colC_snoc _ _, fun j hj hne => ?_⟩) (fun M s' => rfl) fun v6 s6 xv6 F6 => ?_
          · rcases j with _ | _ | _ | _ | _ | j
            · exact absurd rfl hne
            · rfl
            · rfl
            · rfl
            · rfl
            · omega
          refine meat_spec xv6 rfl fun v7 b7 xv7 hb7 k7 => ?_
          have hty : aft kCOM (colL L') ≠ bad → tyL L' ≠ bad := fun hne e => hne (by rw [hcl, e]; rfl)
          refine hQ (m - 1) _ _ (by omega) ⟨ky, b7, C ++ [colP L'], _, _, rfl, xv7.to fun hne => ?_, hr.next hnb hx.len.1 len_col hb7, fun hne => hky (hty hne), ((Fv2.trans (FrP.of0 k5)).trans F6).trans (xv6.b1 k7)⟩
          have n1 := hty hne
          have n2 : nmL L' ≠ bad := fun e => n1 (by unfold tyL; rw [e]; rfl)
          have e1 := hy.resolve_right n2
          have e4 := hb4.resolve_right n2
          unfold cdM
          rw [e1, e4, List.map_append]
          rfl
        · intro J hJ
          have ek := keys_snoc C (colP L')
          have ep := pkS_snoc C (colP L') 0 0
          have h2 : (colP L').2 = isP ⟨#[75, 69, 89]⟩ (tyL L') := rfl
          refine ifb (fun hk => ?_) fun hk => ?_
          · refine let_ ?_
            obtain ⟨M4, bM4⟩ := xv1.sblk
            refine ldS bM4 rfl (xv1.put (o := 3) (fun M => { M with pk := (z' 0).l }) (by omega) (fun M => rfl) (fun M => vmI rfl rfl rfl rfl) fun v2 xv2 k2 => ?_)
            refine hJ _ _ ⟨fun hne => ?_, xv2.to fun hne => ?_, qv1.fr k2 (by have := hq.2.1; omega), Fv1.trans (xv1.b2 k2)⟩
            · have e := hb1.resolve_right hne
              rw [h2, ← e, hk, if_pos rfl] at ek
              rw [hkx, W_succ (by omega), ek]
            · have e := hb1.resolve_right fun e => hne (by rw [e]; rfl)
              rw [h2, ← e, hk, if_pos rfl] at ep
              unfold cdM
              rw [ep, Nat.zero_add, hln]
          · refine hJ _ _ ⟨fun hne => ?_, xv1.to fun hne => ?_, qv1, Fv1⟩
            · have e := hb1.resolve_right hne
              rw [h2, ← e, hk, if_neg (by simp)] at ek
              rw [hkx, ek]
              rfl
            · have e := hb1.resolve_right fun e => hne (by rw [e]; rfl)
              rw [h2, ← e, hk, if_neg (by simp)] at ep
              unfold cdM
              rw [ep]
      · intro J hJ
        refine ifb (fun hs => ?_) fun hs => ?_
        · refine st1 q4 (by show _ < 2; omega) fun v1 r1 k1 t1 => ?_
          have r1 : Blk v1 u0.heap.size (colC1 ⟨y, true⟩) := r1
          have e : tyL L' = aft ⟨#[84, 69, 88, 84]⟩ (nmL L') := by
            unfold tyL
            rcases hb4 with e | e
            · rw [← e, hs, if_pos rfl, aft_t (by rw [← e, hs])]
            · rw [e]; rfl
          refine hJ v1 ⟨by rw [e]; exact x4.ap hq k1, by rw [hs]; exact r1, x0.fresh (Nat.le_refl _) F4 k1⟩
        · refine mwant_spec x4 rfl fun v1 x5 k1 => ?_
          have e : tyL L' = wnt ⟨#[73, 78, 84]⟩ (aft ⟨#[84, 69, 88, 84]⟩ (nmL L')) := by
            unfold tyL
            rcases hb4 with e | e
            · rw [← e, hs, if_neg (by simp), aft_f (by rw [← e, hs])]
            · rw [e]; rfl
          refine hJ v1 ⟨by rw [e]; exact x5, by rw [hs]; exact q4.fr k1 (by have := hq.1; omega), F4.trans (x4.b1 k1)⟩
  · subst hm
    rcases hr with hr | ⟨rfl, hR⟩
    · obtain ⟨rfl, rfl⟩ := hr.out
      exact hK u z' kx hx hkx Fu
    · exact hK u z' kx (by rw [hR]; exact hx.any _) (fun h => absurd hR h) Fu
end Go.Proofs.Qxb6500564aGreat
