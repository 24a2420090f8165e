/-
  A statement on both sides of a marked database.
-/
import Derived.Test.Qxb6500564aGreatRdA
namespace Go.Proofs.Qxb6500564aGreat
open Go.Den Go.Zip
set_option linter.unusedVariables false
set_option linter.unusedSimpArgs false
variable {w w' u v : World} {i j k n d x m mb b o p b0 q q2 : Nat} {D : List Bk} {R R' : List Wr} {cur cur' : Nat → Bk} {box : Bool} {O O' Ox Om Ob Ox' Om' : Nat → Prop} {U U' Ub : Mu} {s : Int} {text : ByteArray} {c r c2 r2 : Sl} {A : Rz × Mu} {T : Smt}

def SmZ (A : Rz) : Prop := A.cols.length ≤ 1000 ∧ A.rows.length ≤ 1000 ∧ ∀ r ∈ A.rows, r.length ≤ 1000
theorem SmZ.err (e : Int) : SmZ (errZ e) := ⟨Nat.zero_le _, Nat.zero_le _, fun r hr => (by cases hr)⟩
theorem SmZ.bare (e n : Int) : SmZ ⟨e, n, [], []⟩ := ⟨Nat.zero_le _, Nat.zero_le _, fun r hr => (by cases hr)⟩
theorem runP_small (ok : UOk U) (hT : SmOk T) (hk : k < 4) (ha : U.act k = true) : SmZ (runP (k : Nat) T U).1 := by
  by_cases h7 : T.kind = 7
  · by_cases h0 : tkE (k : Nat) T.table 2 U = 0
    · rw [runP_ins h7 h0]
      dsimp only
      split
      · exact SmZ.err _
      · exact SmZ.bare _ _
    · rw [runP_no h7 h0]; exact SmZ.err _
  · cases hf : fnB T.table (U.db 0) with
    | none => rw [runP_none h7 hf]; exact SmZ.err _
    | some t =>
      by_cases hc : chkP t.cols t.pk T = 0
      · by_cases h0 : tkE (k : Nat) T.table 1 U = 0
        · rw [runP_go h7 hf hc h0]
          obtain ⟨i, hfi⟩ := fI_fnB hf
          obtain ⟨tq, hq, _⟩ := fnB_of_seen (i := i) (nm := T.table) (ok.tk (mode := 1) hk ha hfi (by omega)) hk (by rw [tkU1_db]; exact hfi)
          rw [tkU1_db] at hq
          have ok2 : UOk (tkU k i 1 U) := ok.tk hk ha hfi (by omega)
          have st := seen_tab (s := (k : Nat)) ok hk hf hq ok2
          have okq := st.1
          unfold TbOk at okq
          have okt := (ok.d 0 (by omega)).ok t (fnB_mem hf).1
          unfold TbOk at okt
          unfold selP'
          rw [hit_of rfl hfi hq, plc_of hfi, Int.toNat_natCast]
          by_cases h8 : T.kind = 8
          · rw [if_pos h8]
            have hn := hT.n1
            have hC : (prC t.cols T).length ≤ 1000 := by
              unfold prC
              rw [List.length_append]
              split
              · rw [List.length_map]; have := okt.2.1.2; omega
              · simp; omega
            refine ⟨hC, ?_, fun r hr => ?_⟩
            · show (prA t.cols T _).length ≤ 1000
              unfold prA
              rw [List.length_map, List.length_take, prO_len]
              have h1 := List.length_filter_le (mtP t.cols T.wh) tq.rows
              have h2 := okq.2.2.2.2.2.1
              omega
            · have hr : r ∈ prA t.cols T (tq.rows.filter (mtP t.cols T.wh)) := hr
              unfold prA at hr
              obtain ⟨row, _, rfl⟩ := List.mem_map.1 hr
              unfold prR
              rw [List.length_map]
              exact hC
          · rw [if_neg h8]
            exact SmZ.bare _ _
        · rw [runP_busy h7 hf hc h0]; exact SmZ.err _
      · rw [runP_chk h7 hf hc]; exact SmZ.err _
theorem exP_small (ok : UOk U) : SmZ (exP s text U).1 := by
  by_cases hl : text.size > 256
  · rw [exP_long hl]; exact SmZ.err _
  · cases hg : gs s with
    | false => rw [exP_sess hl hg]; exact SmZ.err _
    | true =>
      cases hp : prsP text with
      | none => rw [exP_bad hl hg hp]; exact SmZ.err _
      | some T =>
        rw [exP_st hl hg hp]
        obtain ⟨k, hk, hs⟩ := gs_nat hg
        subst hs
        have hT := prs_ok hp
        unfold stP ddl
        split
        · split <;> exact SmZ.err _
        split
        · split <;> exact SmZ.err _
        split
        · split <;> exact SmZ.err _
        split
        · split <;> exact SmZ.err _
        split
        · split <;> exact SmZ.err _
        split
        · split <;> exact SmZ.err _
        rw [Int.toNat_natCast]
        split
        · rename_i ha
          exact runP_small ok hT hk ha
        · rename_i ha
          have ha : U.act k = false := by simpa using ha
          unfold ownP
          rw [Int.toNat_natCast]
          exact runP_small (ok.begin hk ha) hT hk (by unfold muBegin; dsimp only; rw [fset_eq])
theorem MS.frp {P : Nat → Prop} (h : MS w d x m mb D cur U Ox Om Ob) (F : FrP P w w') (hP : ∀ b, P b → ¬ Ox b ∧ ¬ Om b ∧ ¬ Ob b) : MS w' d x m mb D cur U Ox Om Ob :=
  ⟨h.ev.frp F fun b hb h' => (hP b h').1 hb, h.qm.frp F fun b hb h' => (hP b h').2.1 hb, h.qb.frp F fun b hb h' => (hP b h').2.2 hb, h.xm, h.mb, h.cm⟩
theorem MS.fr0 (h : MS w d x m mb D cur U Ox Om Ob) (F : Fr 0 0 w w') : MS w' d x m mb D cur U Ox Om Ob := h.frp (FrP.of0 (P := fun _ => False) F) fun _ h => h.elim
theorem MS.dr (h : MS w d x m mb D cur U Ox Om Ob) : MS w.drew d x m mb D cur U Ox Om Ob := h.fr0 ((Fr.refl 0 0 w).drew)
theorem RA.wide {Z : Rz} (h : RA b0 w (fun b => O' b ∧ b0 ≤ b) Z c r) : RA b0 w O' Z c r := by
  obtain ⟨ss, f1, f2, f3⟩ := h.fr
  refine ⟨h.oc, fun b hb => ⟨(h.cb b hb).1, fun h' => (h.cb b hb).2 ⟨h', (h.cb b hb).1⟩⟩, ss, f1, f2, fun b hb h' => f3 b hb ⟨h', ?_⟩⟩
  rcases hb with hb | ⟨x, hx, hb⟩
  · exact f1.ra b hb
  · exact (f1.rb x hx b hb).1
/-- Played on the real side. -/
structure ExR (w v : World) (d x m mb : Nat) (D : List Bk) (U : Mu) (Ox Om Ob : Nat → Prop) (A : Rz × Mu) (q : Nat) (c r : Sl) : Prop where
  bq : Blk v q (rsC A.1.e A.1.n c r)
  ex : ∃ R' cur' Ox', RStep [] R' ∧ Cm D R' cur' ∧ EV d v x D R' cur' A.2 Ox' ∧ (∀ b, Ox' b → Ox b ∨ w.heap.size ≤ b) ∧ RA w.heap.size v (fun b => Ox' b ∨ b = q) A.1 c r ∧ ¬ Ox' q
  qm : QV v m U Om
  qb : QV v mb U Ob
  nq : w.heap.size ≤ q
  F : FrP Ox w v
theorem ExR.dr (h : ExR w v d x m mb D U Ox Om Ob A q c r) : ExR w v.drew d x m mb D U Ox Om Ob A q c r := by
  obtain ⟨R', cur', Ox', h1, h2, h3, h4, h5, h6⟩ := h.ex
  exact ⟨h.bq.drew, ⟨R', cur', Ox', h1, h2, h3.dr, h4, h5.fr0 ((Fr.refl 0 0 v).drew), h6⟩, h.qm.dr, h.qb.dr, h.nq, h.F.drew⟩
set_option maxHeartbeats 1000000 in
theorem exR_two {J : Nat → World → Prop} {R1 R2 R3 : World → Prop} (h : MS w d x m mb D cur U Ox Om Ob) (h1 : ∀ w', FrP Ox w w' → R1 w') (h2 : ∀ w', FrP Ox w w' → R2 w') (h3 : ∀ w', FrP Ox w w' → R3 w')
    (hJ : ∀ q v c r, ExR w v d x m mb D U Ox Om Ob (exP s text U) q c r → J q v) :
    (S.query_Engine_Exec x s text w (fun Err_62 N_63 Cols_64 Rows_65 w =>
      New w (.cells #[.int .i64 0, .int .i64 0, .slice none 0 0, .slice none 0 0] 36) fun p66 w =>
      After R1 w <|
      After R2 w <|
      After R3 w <|
      St1 w ⟨p66, 0, none⟩ (.int .i64 Err_62) fun w =>
      St1 w ⟨p66, 1, none⟩ (.int .i64 N_63) fun w =>
      St1 w ⟨p66, 2, none⟩ (.slice Cols_64.a Cols_64.l Cols_64.c) fun w =>
      St1 w ⟨p66, 3, none⟩ (.slice Rows_65.a Rows_65.l Rows_65.c) fun w =>
      J p66 w)) ∧
      (New w (.cells #[.int .i64 0, .int .i64 0, .slice none 0 0, .slice none 0 0] 36) fun p67 w =>
      After R1 w <|
      After R2 w <|
      After R3 w <|
      S.query_Engine_Exec x s text w (fun Err_68 N_69 Cols_70 Rows_71 w =>
      St1 w ⟨p67, 0, none⟩ (.int .i64 Err_68) fun w =>
      St1 w ⟨p67, 1, none⟩ (.int .i64 N_69) fun w =>
      St1 w ⟨p67, 2, none⟩ (.slice Cols_70.a Cols_70.l Cols_70.c) fun w =>
      St1 w ⟨p67, 3, none⟩ (.slice Rows_71.a Rows_71.l Rows_71.c) fun w =>
      J p67 w)) := by
  have nx : ∀ b, Ox b → b < w.heap.size := fun b hb => h.ev.lt hb
  refine ⟨exec_spec h.ev (by simp) h.cm fun v1 Ox' R' cur' c r rs cm ev ra G => newB fun v2 q2 f2 z2 => ?_, newB fun v1 q1 f1 z1 => ?_⟩
  · have F2 : FrP Ox w v2 := G.1.trans (FrP.of0 f2)
    refine ⟨h1 _ F2, h2 _ F2, h3 _ F2, stR (c := c) (r := r) q2 rfl fun v3 q3 f3 => ?_⟩
    have g := f2.thenNew f3 (Nat.le_refl _)
    have F3 : FrP Ox w v3 := G.1.trans (FrP.of0 g)
    refine hJ v1.heap.size v3 c r ⟨q3, ⟨R', cur', Ox', rs, cm, ev.fr0 g, G.2, ra.keep (FrP.of0 (P := fun _ => False) g) (fun b hb => hb.elim) (fun b hb => hb.imp_right fun e => by omega), fun h' => by have := ev.lt h'; omega⟩, h.qm.frp F3 fun b hb h' => (h.xm b h').1 hb, h.qb.frp F3 fun b hb h' => (h.xm b h').2 hb, G.1.1.1, F3⟩
  · have F1 : FrP Ox w v1 := FrP.of0 f1
    have hl := q1.lt
    refine ⟨h1 _ F1, h2 _ F1, h3 _ F1, exec_spec (h.ev.fr0 f1) (by simp) h.cm fun v2 Ox' R' cur' c r rs cm ev ra G => ?_⟩
    have nw : ¬ Ox w.heap.size := fun h' => by have := nx _ h'; omega
    have nw' : ¬ Ox' w.heap.size := fun h' => (G.2 _ h').elim nw fun h => by omega
    refine stR (c := c) (r := r) (q1.frp G.1 nw) rfl fun v3 q3 f3 => ?_
    have F3 : FrP (fun b => b = w.heap.size) v2 v3 := FrP.of f3 fun b h1 h2 => by omega
    have Fw : FrP Ox w v3 := (F1.trans G.1).trans' F3 fun b hb => .inr (by omega)
    refine hJ w.heap.size v3 c r ⟨q3, ⟨R', cur', Ox', rs, cm, ev.frp F3 fun b hb e => nw' (e ▸ hb), fun b hb => (G.2 b hb).imp_right fun h => by omega, ((ra.plus (p := w.heap.size) (by omega)).keep F3 (fun b hb => .inl (.inr hb)) fun b hb => .inl hb).low (by omega), nw'⟩, h.qm.frp Fw fun b hb h' => (h.xm b h').1 hb, h.qb.frp Fw fun b hb h' => (h.xm b h').2 hb, Nat.le_refl _, Fw⟩
/-- Played on both sides. -/
structure ExB (w v : World) (d x m mb : Nat) (D : List Bk) (U : Mu) (Ox Om Ob : Nat → Prop) (A : Rz × Mu) (q q2 : Nat) (c r c2 r2 : Sl) : Prop where
  bq : Blk v q (rsC A.1.e A.1.n c r)
  bq2 : Blk v q2 (rsC A.1.e A.1.n c2 r2)
  ex : ∃ R' cur' Ox' Om', RStep [] R' ∧ Cm D R' cur' ∧ EV d v x D R' cur' A.2 Ox' ∧ QV v m A.2 Om' ∧ (∀ b, Ox' b → Ox b ∨ w.heap.size ≤ b) ∧ (∀ b, Om' b → Om b ∨ w.heap.size ≤ b) ∧ (∀ b, Ox' b → ¬ Om' b ∧ ¬ Ob b) ∧ (∀ b, Om' b → ¬ Ob b) ∧ RA w.heap.size v (fun b => Ox' b ∨ Om' b ∨ b = q) A.1 c r ∧ RA w.heap.size v Om' A.1 c2 r2 ∧ ¬ Ox' q ∧ ¬ Om' q
  qb : QV v mb U Ob
  nq : w.heap.size ≤ q
  F : FrP (fun b => Ox b ∨ Om b) w v
set_option maxHeartbeats 2000000 in
theorem exM_two {J : Nat → World → Prop} {R1 R2 R3 : World → Prop} (h : MS w d x m mb D cur U Ox Om Ob) (hr : ExR w u d x m mb D U Ox Om Ob (exP s text U) q c r) (h1 : ∀ w', FrP Om u w' → R1 w') (h2 : ∀ w', FrP Om u w' → R2 w') (h3 : ∀ w', FrP Om u w' → R3 w')
    (hJ : ∀ q2 v c2 r2, ExB w v d x m mb D U Ox Om Ob (exP s text U) q q2 c r c2 r2 → J q2 v) :
    (S.querym_Engine_Exec m s text u (fun Err_62 N_63 Cols_64 Rows_65 w =>
      New w (.cells #[.int .i64 0, .int .i64 0, .slice none 0 0, .slice none 0 0] 36) fun p66 w =>
      After R1 w <|
      After R2 w <|
      After R3 w <|
      St1 w ⟨p66, 0, none⟩ (.int .i64 Err_62) fun w =>
      St1 w ⟨p66, 1, none⟩ (.int .i64 N_63) fun w =>
      St1 w ⟨p66, 2, none⟩ (.slice Cols_64.a Cols_64.l Cols_64.c) fun w =>
      St1 w ⟨p66, 3, none⟩ (.slice Rows_65.a Rows_65.l Rows_65.c) fun w =>
      J p66 w)) ∧
      (New u (.cells #[.int .i64 0, .int .i64 0, .slice none 0 0, .slice none 0 0] 36) fun p67 w =>
      After R1 w <|
      After R2 w <|
      After R3 w <|
      S.querym_Engine_Exec m s text w (fun Err_68 N_69 Cols_70 Rows_71 w =>
      St1 w ⟨p67, 0, none⟩ (.int .i64 Err_68) fun w =>
      St1 w ⟨p67, 1, none⟩ (.int .i64 N_69) fun w =>
      St1 w ⟨p67, 2, none⟩ (.slice Cols_70.a Cols_70.l Cols_70.c) fun w =>
      St1 w ⟨p67, 3, none⟩ (.slice Rows_71.a Rows_71.l Rows_71.c) fun w =>
      J p67 w)) := by
  obtain ⟨R', cur', Ox', rs, cm, ev, hOx', ra, nq'⟩ := hr.ex
  have ok := h.ev.ok
  have hwu := hr.F.1.1
  have mlt : ∀ b, Om b → b < w.heap.size := fun b hb => h.qm.lt hb
  have blt : ∀ b, Ob b → b < w.heap.size := fun b hb => h.qb.lt hb
  have hql := hr.bq.lt
  have hqn := hr.nq
  have xm' : ∀ b, Ox' b → ¬ Om b ∧ ¬ Ob b := fun b hb => by
    rcases hOx' b hb with h' | h'
    · exact h.xm b h'
    · exact ⟨fun h'' => by have := mlt b h''; omega, fun h'' => by have := blt b h''; omega⟩
  -- the model has worked: from v0 (reached from u by what is new) to v1
  have fin : ∀ (v0 v1 v3 : World) (Om' : Nat → Prop) (q2 : Nat) (c2 r2 : Sl), Fr 0 0 u v0 → QV v1 m (exP s text U).2 Om' → Gw Om v0 Om' v1 → RA v0.heap.size v1 Om' (exP s text U).1 c2 r2 → FrP (fun b => b = q2) v1 v3 → u.heap.size ≤ q2 → (∀ b, Om' b → b ≠ q2) → RA v0.heap.size v3 Om' (exP s text U).1 c2 r2 → Blk v3 q2 (rsC (exP s text U).1.e (exP s text U).1.n c2 r2) → J q2 v3 := fun v0 v1 v3 Om' q2 c2 r2 f0 qv G ra2 F3 hq2 hn2 ra3 b3 => by
    have hle0 := f0.le
    have F03 : FrP (fun b => Om b ∨ u.heap.size ≤ b) u v3 := ((FrP.of0 f0).trans (G.1.mono fun b hb => .inl hb)).trans (F3.mono fun b hb => .inr (by omega))
    have hOm' : ∀ b, Om' b → Om b ∨ u.heap.size ≤ b := fun b hb => (G.2 b hb).imp_right fun h => by omega
    have xOm : ∀ b, Ox' b → ¬ Om' b := fun b hb h' => by
      rcases hOm' b h' with h'' | h''
      · exact (xm' b hb).1 h''
      · have := ev.lt hb; omega
    refine hJ q2 v3 c2 r2 ⟨hr.bq.frp F03 fun h' => h'.elim (fun h'' => by have := mlt _ h''; omega) fun h'' => by omega, b3, ⟨R', cur', Ox', Om', rs, cm, ev.frp F03 fun b hb h' => h'.elim (xm' b hb).1 fun h'' => by have := ev.lt hb; omega, qv.frp F3 fun b hb e => hn2 b hb e, hOx', fun b hb => (hOm' b hb).imp_right fun h => by omega, fun b hb => ⟨xOm b hb, (xm' b hb).2⟩, fun b hb h' => ?_, ?_, ra3.low (by omega), nq', fun h' => (hOm' _ h').elim (fun h => by have := mlt _ h; omega) fun h => by omega⟩, hr.qb.frp F03 fun b hb h' => h'.elim (fun h'' => h.mb b h'' hb) fun h'' => by have := blt b hb; omega, hr.nq, ?_⟩
    · rcases hOm' b hb with h'' | h''
      · exact h.mb b h'' h'
      · have := blt b h'; omega
    · refine RA.wide (ra.keep F03 (fun b hb => hb.elim (fun h' => .inr (.inl (mlt b h'))) fun h' => .inr (.inr h')) fun b hb => ?_)
      rcases hb with ⟨h' | h' | h', hb⟩
      · exact .inl (.inl h')
      · rcases hOm' b h' with h'' | h''
        · have := mlt b h''; omega
        · exact .inr h''
      · exact .inl (.inr h')
    · exact (hr.F.mono fun b hb => .inl hb).trans' F03 fun b hb => hb.elim (fun h => .inl (.inr h)) fun h => .inr (by omega)
  refine ⟨mexec_spec hr.qm ok fun v1 Om' c2 r2 qv ra2 G => newB fun v2 q2 f2 z2 => ?_, newB fun v1 q1 f1 z1 => ?_⟩
  · have F2 : FrP Om u v2 := G.1.trans (FrP.of0 f2)
    refine ⟨h1 _ F2, h2 _ F2, h3 _ F2, stR (c := c2) (r := r2) q2 rfl fun v3 q3 f3 => ?_⟩
    have g := f2.thenNew f3 (Nat.le_refl _)
    exact fin u v1 v3 Om' v1.heap.size c2 r2 (Fr.refl _ _ _) qv G ra2 ((FrP.of0 f2).trans (FrP.of f3 fun b h1 h2 => by omega)) G.1.1.1 (fun b hb e => by have := qv.lt hb; omega) (ra2.fr0 g) q3
  · have F1 : FrP Om u v1 := FrP.of0 f1
    have hl := q1.lt
    refine ⟨h1 _ F1, h2 _ F1, h3 _ F1, mexec_spec (hr.qm.fr0 f1) ok fun v2 Om' c2 r2 qv ra2 G => ?_⟩
    have nw : ¬ Om u.heap.size := fun h' => by have := mlt _ h'; omega
    have nw' : ¬ Om' u.heap.size := fun h' => (G.2 _ h').elim nw fun h => by omega
    refine stR (c := c2) (r := r2) (q1.frp G.1 nw) rfl fun v3 q3 f3 => ?_
    have F3 : FrP (fun b => b = u.heap.size) v2 v3 := FrP.of f3 fun b h1 h2 => by omega
    exact fin v1 v2 v3 Om' u.heap.size c2 r2 f1 qv G ra2 F3 (Nat.le_refl _) (fun b hb e => nw' (e ▸ hb)) ((ra2.plus (p := u.heap.size) (by omega)).keep F3 (fun b hb => .inl (.inr hb)) fun b hb => .inl (.inl hb)) q3
end Go.Proofs.Qxb6500564aGreat
