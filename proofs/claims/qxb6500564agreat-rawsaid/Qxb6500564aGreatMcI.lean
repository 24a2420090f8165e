/-
  The model: Update, Insert.
-/
import Derived.Test.Qxb6500564aGreatMcH
namespace Go.Proofs.Qxb6500564aGreat
open Go.Den Go.Zip
set_option linter.unusedVariables false
set_option linter.unusedSimpArgs false
variable {w w' u v : World} {i j n q g b pk d o : Nat} {s r x : Sl} {row vs : List Vl} {rows : List (List Vl)} {ss : List Sl} {key : Vl} {tb : Tb} {nm : ByteArray} {ms : List MR} {m m' : MR} {P Q : Nat → Prop}

theorem MOk.rl (h : MOk w m) : m.rs.l = m.t.rows.length := by
  have := h.rs.len
  rw [List.length_map, h.rows.1] at this
  omega
theorem MOk.fr0 (h : MOk w m) (F : Fr 0 0 w w') : MOk w' m := h.frp (FrP.of0 (P := fun _ => False) F) (fun _ _ h => h) (fun _ _ _ _ h => h) fun _ _ h => h
theorem TbOk.pkr (ok : TbOk tb) : ∀ r ∈ tb.rows, tb.pk < r.length := fun r hr => by
  unfold TbOk at ok
  rw [(ok.2.2.2.2.2.2.1 r hr).1.1]
  exact ok.2.2.2.1
theorem chkRow_key {cs : List Cl} (hp : pk < cs.length) (hm : ∀ v ∈ vs, VMade v) (h : chkRow cs vs = 0) : (∀ v ∈ vs, VOk v) ∧ RowTy cs vs ∧ pk < vs.length ∧ VOk (vs.getD pk v0) ∧ (vs.getD pk v0).st = (cs.getD pk c0).st := by
  obtain ⟨h1, h2, h3⟩ := chk0 h
  have hv := made_ok hm h3
  exact ⟨hv, h2, by omega, getD_ok hv pk, ty_get h2 hp⟩
/-- RowsAt when one row is set. -/
theorem RowsAt.set {t : Sl} (h : RowsAt w ss rows) (ht : OS w t (rowC row) 3) : RowsAt w (ss.set i t) (rows.set i row) := by
  refine ⟨by rw [List.length_set, List.length_set]; exact h.1, fun j t' r' h1 h2 => ?_⟩
  rw [List.getElem?_set] at h1 h2
  by_cases e : i = j
  · rw [if_pos e] at h1 h2
    split at h1
    · split at h2
      · cases h1
        cases h2
        exact ht
      · cases h2
    · cases h1
  · rw [if_neg e] at h1 h2
    exact h.2 j t' r' h1 h2
theorem TbOk.hpk (ok : TbOk tb) : tb.pk < tb.cols.length := by unfold TbOk at ok; exact ok.2.2.2.1
set_option maxHeartbeats 4000000 in
theorem mupd_spec {K : Int → World → Prop} (h : MD w d o s ms) (ok : DbOk (dbOf ms)) (or_ : OS w r (rowC vs) 3) (hm : ∀ v ∈ vs, VMade v) (hvl : vs.length < 1000000)
    (hK : ∀ w' ms', MD w' d o s ms' → dbOf ms' = (mdUpd nm vs (dbOf ms)).2 → Gw (mo s ms) w (mo s ms') w' → K (mdUpd nm vs (dbOf ms)).1 w') : S.api_DB_Update d o nm r w K := by
  unfold S.api_DB_Update
  have hl3 := ok.mlen
  refine mfind_spec h (by omega) (fun hf => ?_) fun i m hi hn _ hf => ?_
  · have e : mdUpd nm vs (dbOf ms) = (10, dbOf ms) := by unfold mdUpd; rw [hf]
    rw [e] at hK
    rw [if_pos (by simp)]
    exact hK w ms h rfl (Gw.refl _ _)
  rw [if_neg (by simp)]
  have okm := ok.mok hi
  have hmm := List.mem_of_getElem? hi
  refine h.lds (h.mt.at hi fun g hg => h.mt.nam hg hi (h.mt.cl hg hi (h.mt.pk hg hi (h.mt.ix hg hi (checkRow_spec (h.mt.ok m hmm).cs or_ hvl fun w1 f1 => ?_)))))
  have h1 := h.fr0 f1
  by_cases hck : chkRow m.t.cols vs = 0
  · rw [if_neg (by simp [hck])]
    obtain ⟨hv, hty, hpl, hko, hkt⟩ := chkRow_key okm.hpk hm hck
    have o1 := OS.fr0 or_ f1
    refine h1.mt.pk hg hi (rowGet o1 (getD_some hpl) (mplace_spec h1.mt hg hi (by have := okm.sm.2.1; exact this) okm.pkr fun w2 f2 => ?_))
    have h2 := h1.fr0 f2
    have o2 := OS.fr0 o1 f2
    have F2 := f1.then0 f2
    have hkeys := okm.keys hko hkt
    cases hp : (plc m.t.pk (vs.getD m.t.pk v0) m.t.rows).2 with
    | false =>
      rw [if_pos (by rfl)]
      have hno := (plc_no (row := vs) (RSrt_tb okm) hkeys hp rfl).2
      have e : mdUpd nm vs (dbOf ms) = (9, dbOf ms) := by
        unfold mdUpd
        rw [hf]
        dsimp only
        have : rowBy m.t (rk m.t.pk vs) = none := rowBy_no (key := vs.getD m.t.pk v0) hno
        rw [if_neg (by simp [hck]), this, if_pos (by rfl)]
      rw [e] at hK
      exact hK w2 ms h2 rfl (Gw.new F2)
    | true =>
      rw [if_neg (by simp)]
      obtain ⟨r0, a1, a2, a3, a4, a5⟩ := plc_hit (row := vs) (RSrt_tb okm) hkeys hp
      have e : mdUpd nm vs (dbOf ms) = (0, putTb nm { m.t with rows := m.t.rows.set (plc m.t.pk (vs.getD m.t.pk v0) m.t.rows).1 vs } (dbOf ms)) := by
        unfold mdUpd
        rw [hf]
        dsimp only
        have : rowBy m.t (rk m.t.pk vs) = some r0 := a3
        rw [if_neg (by simp [hck]), this, if_neg (by simp), a4 rfl]
      rw [e] at hK
      have h2d := h2.dr
      have hmd := h2d.mt.ok m hmm
      obtain ⟨us, bg, _⟩ := arr_cell h2d.mt.arr hg hi
      refine drew_ (hold_ (h2d.mt.rw hg hi (cloneRow_spec (OS.dr o2) hvl fun w3 b3 f3 => ⟨holdS bg (bg.fr f3 (by omega)), ?_⟩)))
      have h3 := h2d.fr0 f3
      have hm3 := h3.mt.ok m hmm
      have hpl2 : (plc m.t.pk (vs.getD m.t.pk v0) m.t.rows).1 < m.ss.length := by
        rw [hm3.rows.1]
        exact (List.getElem?_eq_some_iff.1 a1).1
      have hwn : w2.drew.heap.size = w2.heap.size := rfl
      refine ssSet (t := fullS w2.drew.heap.size vs.length) hm3.rs hpl2 fun w4 o4 F4 => ?_
      have nrs : ∀ b, owns m.rs b → b < w.heap.size := fun b hb => (h.mt.ok m hmm).rs.lt hb
      have l2 := F2.1.1
      have row4 : OS w4 (fullS w2.drew.heap.size vs.length) (rowC vs) 3 := (fullRow b3).frp F4 fun b hb hb' => by
        have := full_owns hb
        have := nrs b hb'
        omega
      have hrows4 : RowsAt w4 m.ss m.t.rows := hm3.rows.frp F4 fun t ht b hb hb' => h.mt.rI m hmm b hb' ⟨m, hmm, .inr ⟨t, ht, hb⟩⟩
      let m' : MR := ⟨{ m.t with rows := m.t.rows.set (plc m.t.pk (vs.getD m.t.pk v0) m.t.rows).1 vs }, m.cs, m.rs, m.ss.set (plc m.t.pk (vs.getD m.t.pk v0) m.t.rows).1 (fullS w2.drew.heap.size vs.length)⟩
      have FT : FrP (owns m.rs) w w4 := ((FrP.of0 F2).drew.trans (FrP.of0 f3)).trans F4
      have arr4 : OS w4 s (msC (ms.set i m')) 5 := by
        have e5 : msC (ms.set i m') = msC ms := by
          rw [ms_set hi, ms_split hi]
          rfl
        rw [e5]
        exact h3.mt.arr.frp F4 fun b hb hb' => (h.mt.sI b hb).2 m hmm hb'
      have hcs4 : OS w4 m.cs (colC m.t.cols) 2 := hm3.cs.frp F4 fun b hb hb' => h.mt.rI m hmm b hb' ⟨m, hmm, .inl hb⟩
      obtain ⟨MD', G⟩ := h.turn (m' := m') hi FT (fun b hb => .inr (.inl hb)) arr4 rfl ⟨hcs4, o4, hrows4.set row4⟩ (fun b hb => .inl hb) (fun t ht => by
        rcases List.mem_or_eq_of_mem_set ht with ht | rfl
        · exact .inl ht
        · refine .inr fun b hb => ?_
          rw [full_owns hb]
          refine ⟨by omega, fun hb' => ?_⟩
          have := nrs _ hb'
          omega)
      refine hK w4 _ MD' ?_ G
      rw [dbOf_set, ← putTb_set hi hn (ok.uq hi hn)]
  · rw [if_pos (by simp only [bne_iff_ne, ne_eq]; exact hck)]
    have e : mdUpd nm vs (dbOf ms) = (chkRow m.t.cols vs, dbOf ms) := by
      unfold mdUpd
      rw [hf]
      dsimp only
      rw [if_pos hck]
    rw [e] at hK
    exact hK w1 ms h1 rfl (Gw.new f1)
end Go.Proofs.Qxb6500564aGreat
