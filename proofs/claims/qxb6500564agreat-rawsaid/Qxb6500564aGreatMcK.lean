/-
  The model: Scan of a whole table by its key.
-/
import Derived.Test.Qxb6500564aGreatMcJ
namespace Go.Proofs.Qxb6500564aGreat
open Go.Den Go.Zip
set_option linter.unusedVariables false
set_option linter.unusedSimpArgs false
variable {w w' u v : World} {i j n q g b pk d o b0 : Nat} {s r x : Sl} {row vs : List Vl} {rows : List (List Vl)} {ss : List Sl} {key : Vl} {tb : Tb} {nm : ByteArray} {ms : List MR} {m m' : MR} {P Q : Nat → Prop}

/-- A list of rows that is handed out: all its blocks are new since b0, each row in a block of its own. -/
structure FR (b0 : Nat) (w : World) (r : Sl) (ss : List Sl) (rows : List (List Vl)) : Prop where
  arr : OS w r (ss.map slV) 1
  row : RowsAt w ss rows
  ra : ∀ b, owns r b → b0 ≤ b
  rb : ∀ t ∈ ss, ∀ b, owns t b → b0 ≤ b ∧ ¬ owns r b
  dis : ss.Pairwise fun a c => ∀ b, owns a b → ¬ owns c b
theorem FR.frp (h : FR b0 w r ss rows) (F : FrP Q w w') (hq : ∀ b, Q b → b0 ≤ b → w.heap.size ≤ b) : FR b0 w' r ss rows :=
  ⟨h.arr.frp F fun b hb hQ => by have := hq b hQ (h.ra b hb); have := h.arr.lt hb; omega, h.row.frp F fun t ht b hb hQ => by have := hq b hQ (h.rb t ht b hb).1; have := h.row.lt ht hb; omega, h.ra, h.rb, h.dis⟩
theorem FR.fr0 (h : FR b0 w r ss rows) (F : Fr 0 0 w w') : FR b0 w' r ss rows := h.frp (FrP.of0 (P := fun _ => False) F) fun _ h _ => h.elim
theorem FR.dr (h : FR b0 w r ss rows) : FR b0 w.drew r ss rows := h.frp (FrP.refl (fun _ => False) w).drew fun _ h _ => h.elim
theorem FR.nil (b0 : Nat) (w : World) : FR b0 w ⟨none, 0, 0⟩ [] [] := ⟨OS.nil _ _, ⟨rfl, fun i t r h => by cases h⟩, fun b hb => (by unfold owns at hb; cases hb), fun t ht => (by cases ht), List.Pairwise.nil⟩
theorem FR.l (h : FR b0 w r ss rows) : r.l = rows.length := by
  have := h.arr.len
  rw [List.length_map, h.row.1] at this
  omega
theorem FR.mono {b1 : Nat} (h : FR b0 w r ss rows) (hb : b1 ≤ b0) : FR b1 w r ss rows := ⟨h.arr, h.row, fun b hb' => Nat.le_trans hb (h.ra b hb'), fun t ht b hb' => ⟨Nat.le_trans hb (h.rb t ht b hb').1, (h.rb t ht b hb').2⟩, h.dis⟩
/-- One row more. -/
theorem FR.app {e : TypeId} {z : List Value} {bytes y : Nat} {K : Sl → World → Prop} {t : Sl} (h : FR b0 w r ss rows) (hy : Blk w y [slV t]) (ht : OS w t (rowC row) 3) (hb : ∀ b, owns t b → b0 ≤ b ∧ ¬ owns r b ∧ ∀ c ∈ ss, ¬ owns c b) (hz : z.length = 1) (hsm : (r.l + 1) * bytes ≤ 2 ^ 46) (hb0 : b0 ≤ w.heap.size)
    (hK : ∀ r' w', FR b0 w' r' (ss ++ [t]) (rows ++ [row]) → FrP (owns r) w w' → K r' w') : AppS e z bytes 1 w r ⟨some ⟨y, 0, none⟩, 1, 1⟩ K := by
  refine app1 h.arr hy rfl rfl hz hsm fun r' w' o' l' own' F' => hK r' w' ⟨?_, ?_, fun b hb' => ?_, fun t' ht' b hb' => ?_, ?_⟩ F'
  · rw [List.map_append]; exact o'
  · refine ⟨by simp [h.row.1], fun i t' r'' h1 h2 => ?_⟩
    rcases Nat.lt_or_ge i ss.length with hi | hi
    · rw [List.getElem?_append_left hi] at h1
      rw [List.getElem?_append_left (by rw [← h.row.1]; exact hi)] at h2
      exact (h.row.2 i t' r'' h1 h2).frp F' fun b hb' => (h.rb t' (List.mem_of_getElem? h1) b hb').2
    · rw [List.getElem?_append_right hi] at h1
      rw [List.getElem?_append_right (by rw [← h.row.1]; exact hi), ← h.row.1] at h2
      cases hk : i - ss.length with
      | zero =>
        rw [hk] at h1 h2
        cases h1
        cases h2
        exact ht.frp F' fun b hb' => (hb b hb').2.1
      | succ k => rw [hk] at h1; cases h1
  · exact (own' b hb').elim (h.ra b) fun h' => by omega
  · have base : b0 ≤ b ∧ ¬ owns r b ∧ b < w.heap.size := by
      rcases List.mem_append.1 ht' with ht' | ht'
      · exact ⟨(h.rb t' ht' b hb').1, (h.rb t' ht' b hb').2, h.row.lt ht' hb'⟩
      · rw [List.mem_singleton.1 ht'] at hb'
        exact ⟨(hb b hb').1, (hb b hb').2.1, ht.lt hb'⟩
    refine ⟨base.1, fun hr' => ?_⟩
    rcases own' b hr' with h' | h'
    · exact base.2.1 h'
    · have := base.2.2; omega
  · refine List.pairwise_append.2 ⟨h.dis, List.pairwise_singleton _ _, fun a ha c hc b' h1 h2 => ?_⟩
    rw [List.mem_singleton.1 hc] at h2
    exact (hb b' h2).2.2 a ha h1
theorem RowsIn.fr {qs : List Nat} (h : RowsIn b0 u qs rows) (hb : Blk u q (rowsC qs rows)) (hq : b0 ≤ q) (hn : q ∉ qs) : FR b0 u (fullS q rows.length) (rowSs qs rows) rows :=
  ⟨rowsOS h.1 hb, h.at, fun b hb' => by rw [full_owns hb']; exact hq, fun t ht b hb' => ⟨h.ge (rowSs_owns ht hb'), fun hb2 => hn (by rw [← full_owns hb2]; exact rowSs_owns ht hb')⟩, by
    rw [List.pairwise_iff_getElem]
    intro i j hi hj hij b h1 h2
    obtain ⟨q1, r1, a1, a2, a3⟩ := rowSs_get (List.getElem?_eq_getElem hi)
    obtain ⟨q2, r2, c1, c2, c3⟩ := rowSs_get (List.getElem?_eq_getElem hj)
    rw [a3] at h1
    rw [c3] at h2
    have e1 := full_owns h1
    have e2 := full_owns h2
    have hnd := h.2.2
    rw [List.nodup_iff_pairwise_ne, List.pairwise_iff_getElem] at hnd
    obtain ⟨hi', ei⟩ := List.getElem?_eq_some_iff.1 a1
    obtain ⟨hj', ej⟩ := List.getElem?_eq_some_iff.1 c1
    exact hnd i j hi' hj' hij (by rw [ei, ej, ← e1, ← e2])⟩
theorem sort_self (ok : TbOk tb) : sortP tb.pk false tb.rows = tb.rows := by
  have hp : tb.rows.Pairwise fun a b => vl (a.getD tb.pk v0) (b.getD tb.pk v0) = true := by
    have ok' := ok
    unfold TbOk at ok'
    refine List.Pairwise.imp_of_mem (fun {a b} ha hb h => ?_) ok'.2.2.2.2.2.2.2
    rw [vl_same (by rw [ty_get (ok'.2.2.2.2.2.2.1 a ha).1 ok'.2.2.2.1, ty_get (ok'.2.2.2.2.2.2.1 b hb).1 ok'.2.2.2.1])]
    exact h
  refine pw_ext (R := rl tb.pk tb.pk) (fun _ => rl_irrefl) (fun _ _ => rl_asym) (sortP_rl (fun r hr => ?_) hp) (List.Pairwise.imp_of_mem (fun _ _ h => .inl h) hp) fun r => sortP_mem
  unfold TbOk at ok
  exact ok_made (getD_ok (ok.2.2.2.2.2.2.1 r hr).2 _)
set_option maxHeartbeats 8000000 in
theorem mscan_spec {lov hiv : Vl} {K : Sl → Int → World → Prop} {col : Int} (h : MD w d o s ms) (ok : DbOk (dbOf ms)) (hcol : ∀ t, fnB nm (dbOf ms) = some t → col = (t.pk : Int))
    (h0 : fnB nm (dbOf ms) = none → ∀ w', Fr 0 0 w w' → K ⟨none, 0, 0⟩ 10 w')
    (h2 : ∀ t, fnB nm (dbOf ms) = some t → ∀ w' r ss, FR w.heap.size w' r ss t.rows → Fr 0 0 w w' → K r 0 w') : S.api_DB_Scan d o nm col false lov.st lov.i lov.s false hiv.st hiv.i hiv.s w K := by
  unfold S.api_DB_Scan
  have hl3 := ok.mlen
  refine newB fun wa la fa sa => newB fun wb hb fb sb => ?_
  have la : Blk wa w.heap.size (Bd.cells ⟨false, lov⟩) := la
  have hb : Blk wb wa.heap.size (Bd.cells ⟨false, hiv⟩) := hb
  have lab := la.fr fb (by omega)
  have F0 := fa.then0 fb
  have hh := h.fr0 F0
  refine mfind_spec hh (by omega) (fun hf => ?_) fun i m hi hn _ hf => ?_
  · rw [if_pos (by simp)]
    exact h0 hf wb F0
  rw [if_neg (by simp)]
  have okm := ok.mok hi
  have hmm := List.mem_of_getElem? hi
  have hc := hcol _ hf
  subst hc
  have hsm := okm.sm
  have hr8 : m.t.rows.length ≤ 8 := by have := okm; unfold TbOk at this; exact this.2.2.2.2.2.1
  refine hh.lds (hh.mt.at hi fun g hg => ?_)
  rw [if_neg (by simp)]
  have hcl := col_l (hh.mt.ok m hmm).cs
  have hpk := okm.hpk
  refine hh.mt.cl hg hi (ifd (fun hx => absurd hx (by omega)) fun _ => ?_)
  rw [join_eq]
  refine hh.mt.pk hg hi ?_
  rw [if_neg (by simp)]
  dsimp only
  rw [join_eq]
  have ld := lab.drew
  have hd := hb.drew
  refine drew_ (ldB ld rfl ?_)
  rw [if_neg (by show ¬ (false = true); simp)]
  refine ldB hd rfl ?_
  rw [if_neg (by show ¬ (false = true); simp)]
  dsimp only
  rw [join_eq]
  refine ldB ld rfl ?_
  rw [if_neg (by show ¬ (false = true); simp)]
  refine ldB hd rfl ?_
  rw [if_neg (by show ¬ (false = true); simp)]
  dsimp only
  have hhd := hh.dr
  have F0d : Fr 0 0 w wb.drew := F0.drew
  have lw := F0.1.1
  have lwa := fa.1.1
  rw [join_eq]
  refine loopN (fun n st u => ∃ (k : Nat) (out : Sl) (ss : List Sl), st = (out, (k : Int), ()) ∧ k + n = m.t.rows.length ∧ FR wb.heap.size u out ss (m.t.rows.take k) ∧ Blk u w.heap.size (Bd.cells ⟨false, lov⟩) ∧ Blk u wa.heap.size (Bd.cells ⟨false, hiv⟩) ∧ Fr 0 0 w u ∧ wb.heap.size ≤ u.heap.size) m.t.rows.length
    ⟨0, _, [], rfl, by omega, FR.nil _ _, ld, hd, F0d, Nat.le_refl _⟩ ?_
  rintro n _ u ⟨k, out, ss, rfl, hk, fu, lu, hu, Fu, lbu⟩ Q hQ
  dsimp only
  have Mu := h.fr0 Fu
  have mu := Mu.mt.ok m hmm
  have bwa : wb.heap.size = wa.heap.size + 1 := sb
  have bw : wa.heap.size = w.heap.size + 1 := sa
  refine Mu.mt.rw hg hi (ifd (fun hkl => ?_) fun hkl => ?_)
  · have hk' : k < m.t.rows.length := by rw [mu.rl] at hkl; omega
    obtain ⟨row, hrow⟩ : ∃ row, m.t.rows[k]? = some row := ⟨_, List.getElem?_eq_getElem hk'⟩
    obtain ⟨sr, hsr⟩ : ∃ sr, m.ss[k]? = some sr := ⟨_, List.getElem?_eq_getElem (by rw [mu.rows.1]; exact hk')⟩
    have hpr := okm.pkr row (List.mem_of_getElem? hrow)
    rw [join_eq]
    refine Mu.mt.rw hg hi (ss_get hsr (o := mu.rs) (rowGet (mu.rows.2 k sr row hsr hrow) (getD_some hpr) (newB fun u1 c1 f1 s1 => ?_)))
    refine lay3 (x := row.getD m.t.pk v0) c1 rfl fun u2 c2 f2 => ?_
    have f12 : Fr 0 0 u u2 := f1.thenNew f2 (Nat.le_refl _)
    have F2 : Fr 0 0 w u2 := Fu.then0 f12
    have lu2 := lu.fr f12 (by omega)
    have hu2 := hu.fr f12 (by omega)
    have fu2 := fu.fr0 f12
    refine ldB lu2 rfl ?_
    rw [join_eq, if_neg (by show ¬ (false = true); simp)]
    dsimp only
    rw [join_eq, if_pos rfl]
    refine ldB hu2 rfl ?_
    rw [if_neg (by show ¬ (false = true); simp)]
    dsimp only
    rw [if_pos rfl]
    have M2 := h.fr0 F2
    have m2 := M2.mt.ok m hmm
    refine M2.mt.rw hg hi (ss_get hsr (o := m2.rs) (cloneRow_spec (m2.rows.2 k sr row hsr hrow) (hsm.2.2 row (List.mem_of_getElem? hrow)) fun u3 b3 f3 => newB fun u4 c4 f4 s4 => ?_))
    have c4 : Blk u4 u3.heap.size [slV (fullS u2.heap.size row.length)] := c4
    have f34 := f3.then0 f4
    have lu4 := lu2.fr f34 (by omega)
    have hu4 := hu2.fr f34 (by omega)
    have fu4 := fu2.fr0 f34
    have l2 : u.heap.size ≤ u2.heap.size := f12.1.1
    have l4 := f34.1.1
    have hol : out.l ≤ 8 := by rw [fu.l, List.length_take]; omega
    refine FR.app (row := row) (t := fullS u2.heap.size row.length) fu4 c4 (OS.fr0 (fullRow b3) f4) (fun b hb' => ?_) rfl (by omega) (by omega) fun out' u5 fr5 G5 => ?_
    · have e := full_owns hb'
      refine ⟨by omega, fun hb2 => ?_, fun c hc hb2 => ?_⟩
      · have := fu2.arr.lt hb2; omega
      · have := fu2.row.lt hc hb2; omega
    · refine let_ ?_
      rw [W_succ (by omega)]
      have outn : ∀ b, owns out b → wb.heap.size ≤ b := fu.ra
      refine hQ (n - 1) _ _ (by omega) ⟨k + 1, out', ss ++ [fullS u2.heap.size row.length], rfl, by omega, ?_, lu4.frp G5 fun hb' => ?_, hu4.frp G5 fun hb' => ?_, ?_, ?_⟩
      · have : m.t.rows.take (k + 1) = m.t.rows.take k ++ [row] := by rw [List.take_add_one, hrow]; rfl
        rw [this]
        exact fr5
      · have := outn _ hb'; omega
      · have := outn _ hb'; omega
      · have FF : FrP (fun b => w.heap.size ≤ b) w u5 := ((FrP.of0 F2).trans (FrP.of0 f34)).trans (G5.mono fun b hb' => by have := outn b hb'; omega)
        exact ⟨FF.1, fun b hb' _ => FF.2 b hb' (by omega)⟩
      · have := G5.1.1; omega
  · have hk' : k = m.t.rows.length := by rw [mu.rl] at hkl; omega
    subst hk'
    rw [List.take_of_length_le (Nat.le_refl _)] at fu
    refine sortRows_spec (col := m.t.pk) (desc := false) fu.arr fu.row (by omega) okm.pkr (fun t ht b hb' => (fu.rb t ht b hb').2) fun u2 ss2 o2 r2 p2 F2 => ?_
    rw [sort_self okm] at r2
    refine h2 m.t hf u2 out ss2 ⟨o2, r2, fun b hb' => by have := fu.ra b hb'; omega, fun t ht b hb' => ?_, ?_⟩ ?_
    · have := fu.rb t (p2.mem_iff.1 ht) b hb'
      exact ⟨by omega, this.2⟩
    · exact (p2.pairwise_iff fun {a c} hac b h1 h2 => hac b h2 h1).2 fu.dis
    · exact ⟨Fu.1.trans F2.1, fun b hb' hn => by rw [F2.2 b (by have := Fu.1.1; omega) fun ho => by have := fu.ra b ho; omega]; exact Fu.2 b hb' hn⟩
end Go.Proofs.Qxb6500564aGreat
