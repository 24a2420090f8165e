/-
  The disk below a tower; a tower is built or read back.
-/
import Derived.Test.Qxb6500564aGreatRcA
namespace Go.Proofs.Qxb6500564aGreat
open Go.Den Go.Zip
set_option linter.unusedVariables false
set_option linter.unusedSimpArgs false
variable {dq : Nat} {w w' u v : World} {i j k n t f p q g l d : Nat} {D X : List Bk} {R R0 ws : List Wr} {cur cur' : Nat → Bk} {op : Bool} {O Os Ol Od O' : Nat → Prop} {db db2 : Db} {U : Mu} {r : Rs} {sw : Nat → Sl} {cw : Nat → List CR}

/-- The disk below, and what stands on it: if the disk is marked, the rest stands. -/
def Dsk (dq : Nat) (w : World) (D : List Bk) (R : List Wr) (O : Nat → Prop) (P : World → List Bk → List Wr → (Nat → Prop) → Prop) : Prop :=
  ∃ Od, DI w dq D R Od ∧ (∀ b, Od b → O b) ∧ ∀ D2 R2 w' Od', DI w' dq D2 R2 Od' → Gw Od w Od' w' → appl D2 R2 = appl D R → ∃ O', P w' D2 R2 O' ∧ Gw O w O' w'
theorem LI.dsk (k : LI dq w l D R ws op O) : Dsk dq w D R O fun w' D2 R2 O' => LI dq w' l D2 R2 ws op O' := by
  obtain ⟨Od, bn, bd, k, q, dj, hz, rfl⟩ := k
  refine ⟨Od, q, fun b hb => .inr hb, fun D2 R2 w' Od' q' G e => ⟨U (wO l bn bd) Od', ⟨Od', bn, bd, k.frp G.1 fun b hb ho => dj b ho hb, q', fun b hb hw => ?_, by rw [e]; exact hz, rfl⟩, G.u2 _⟩⟩
  rcases G.2 b hb with h | h
  · exact dj b h hw
  · have := k.lt hw; omega
theorem PI.dsk (s : PI dq w p D R cur op O) : Dsk dq w D R O fun w' D2 R2 O' => PI dq w' p D2 R2 cur op O' := by
  obtain ⟨l, Ol, fs, ord, ws, s, rfl⟩ := s
  obtain ⟨Od, q, hOd, H⟩ := s.li.dsk
  refine ⟨Od, q, fun b hb => .inr (hOd b hb), fun D2 R2 w' Od' q' G e => ?_⟩
  obtain ⟨Ol', li', G'⟩ := H D2 R2 w' Od' q' G e
  refine ⟨U (fun b => b = p) Ol', ⟨l, Ol', fs, ord, ws, ⟨s.rc.frp G'.1 s.np, s.oo, by rw [e]; exact s.ok, li', fun h => ?_, by rw [e]; exact s.vw⟩, rfl⟩, G'.u2 _⟩
  rcases G'.2 p h with h | h
  · exact s.np h
  · have := s.rc.lt; omega
theorem TW.dsk (s : TW dq w t f p D R cur op O) : Dsk dq w D R O fun w' D2 R2 O' => TW dq w' t f p D2 R2 cur op O' := by
  obtain ⟨bt, ⟨bf, s, nf⟩, nt⟩ := s
  obtain ⟨Od, q, hOd, H⟩ := s.dsk
  refine ⟨Od, q, hOd, fun D2 R2 w' Od' q' G e => ?_⟩
  obtain ⟨O', s', G'⟩ := H D2 R2 w' Od' q' G e
  refine ⟨O', ⟨bt.frp G'.1 nt, ⟨bf.frp G'.1 nf, s', fun h => ?_⟩, fun h => ?_⟩, G'⟩
  · rcases G'.2 _ h with h | h
    · exact nf h
    · have := bf.lt; omega
  · rcases G'.2 _ h with h | h
    · exact nt h
    · have := bt.lt; omega
theorem SV.dsk (h : SV dq w t D R cur op Os db) : Dsk dq w D R Os fun w' D2 R2 O' => SV dq w' t D2 R2 cur op O' db := by
  obtain ⟨hh, f, p, O, s, hO⟩ := h
  obtain ⟨Od, q, hOd, H⟩ := s.dsk
  refine ⟨Od, q, fun b hb => (hO b).2 (.inr (.inr (hOd b hb))), fun D2 R2 w' Od' q' G e => ?_⟩
  obtain ⟨O', s', G'⟩ := H D2 R2 w' Od' q' G e
  refine ⟨fun b => b = t ∨ b = f ∨ O' b, ⟨hh, f, p, O', s', fun b => Iff.rfl⟩, G'.1.mono fun b hb => (hO b).2 (.inr (.inr hb)), fun b hb => ?_⟩
  rcases hb with h | h | h
  · exact .inl ((hO b).2 (.inl h))
  · exact .inl ((hO b).2 (.inr (.inl h)))
  · exact (G'.2 b h).elim (fun h => .inl ((hO b).2 (.inr (.inr h)))) .inr
theorem XV.dsk (h : XV dq w g D R cur U O) : Dsk dq w D R O fun w' D2 R2 O' => XV dq w' g D2 R2 cur U O' := by
  obtain ⟨r, ⟨t, Os, sw, cw, gm, hO⟩, hr, ok⟩ := h
  obtain ⟨Od, q, hOd, H⟩ := gm.sv.dsk
  refine ⟨Od, q, fun b hb => (hO b).2 (.inr (.inl (hOd b hb))), fun D2 R2 w' Od' q' G e => ?_⟩
  obtain ⟨O', s', G'⟩ := H D2 R2 w' Od' q' G e
  have st := gm.sto s' G'
  exact ⟨gw g O' sw cw, ⟨r, ⟨t, O', sw, cw, st.1, fun b => Iff.rfl⟩, hr, ok⟩, gwO hO st.2⟩
theorem EV.dsk (h : EV dq w q D R cur U O) : Dsk dq w D R O fun w' D2 R2 O' => EV dq w' q D2 R2 cur U O' := by
  obtain ⟨g, O1, last, bq, hx, nq, hO, hl⟩ := h.open_
  obtain ⟨Od, q', hOd, H⟩ := hx.dsk
  refine ⟨Od, q', fun b hb => (hO b).2 (.inr (hOd b hb)), fun D2 R2 w' Od' q' G e => ?_⟩
  obtain ⟨O', s', G'⟩ := H D2 R2 w' Od' q' G e
  have pt := EV.put (O := O) bq nq hO hl s' G'
  exact ⟨_, pt.1, pt.2⟩
theorem emark_spec {K : World → Prop} (h : EV dq w q D R cur U O) (hK : ∀ w' O', EV dq w' q (appl D R) [] cur U O' → Gw O w O' w' → K w') : S.towerlaw_Mark dq w K := by
  unfold S.towerlaw_Mark
  obtain ⟨Od, di, hOd, H⟩ := h.dsk
  refine dmark_spec di fun w1 O1 d1 G1 => ?_
  obtain ⟨O', ev, G'⟩ := H _ _ w1 O1 d1 G1 rfl
  exact hK w1 O' ev G'
theorem esteps_spec {K : Int → World → Prop} (h : EV dq w q D R cur U O) (hK : K (R.length : Nat) w) : S.towerlaw_Steps dq w K := by
  unfold S.towerlaw_Steps
  obtain ⟨Od, di, hOd, H⟩ := h.dsk
  exact dsteps_spec di hK
theorem eafter_spec {k : Int} {K : Nat → World → Prop} (h : EV dq w q D R cur U O) (hR : R.length ≤ 1000000) (hK : ∀ w' n O', DI w' n (appl D (R.take k.toNat)) [] O' → (∀ b, O' b → w.heap.size ≤ b) → Fr 0 0 w w' → K n w') : S.towerlaw_After dq k w K := by
  obtain ⟨Od, di, hOd, H⟩ := h.dsk
  exact dafter_spec di hR hK
theorem EV.disk (h : EV dq w q D R cur U O) : (appl D R).length = 153 ∧ byteAt (hd0 (appl D R)) 0 = 0 ∧ Hld cur (U.db 0) := by
  obtain ⟨g, O1, last, bq, hx, nq, hO, hl⟩ := h.open_
  refine ⟨?_, ?_, hx.hld⟩
  · obtain ⟨r, ⟨t, Os, sw, cw, gm, hO⟩, hr, ok⟩ := hx
    obtain ⟨_, f, p, O2, s, _⟩ := gm.sv
    exact s.2.1.2.1.disk.1
  · obtain ⟨r, ⟨t, Os, sw, cw, gm, hO⟩, hr, ok⟩ := hx
    obtain ⟨_, f, p, O2, s, _⟩ := gm.sv
    exact s.2.1.2.1.disk.2.1
def rs0 : Rs := ⟨fun _ => false, fun _ => slt0, fun _ => []⟩
theorem RelU.zero (h : DbOk db) : RelU (UC db) rs0 := by
  refine ⟨fun k _ => rfl, fun k _ i t _ => rfl, fun i _ h => (by cases h), fun i _ _ k _ => rfl, fun i _ j _ h => (by cases h), fun i _ k _ h => absurd rfl h, fun k _ => ⟨fun c hc => (by cases hc), List.Pairwise.nil⟩, fun k _ c hc => (by cases hc), fun k _ _ => rfl, fun k _ i t q h1 h2 y => ?_, fun o _ k _ _ i h => (by cases h), fun i _ h => (by cases h)⟩
  have h2 : ((UC db).db 0)[i]? = some q := h2
  rw [h1] at h2
  cases h2
  constructor
  · exact fun hy => .inl ⟨hy, fun c hc => by cases hc⟩
  · rintro (hy | ⟨c, hc, _⟩)
    · exact hy.1
    · cases hc
theorem UOk.uc (h : DbOk db) : UOk (UC db) := by
  have := UOk.crash (U := ⟨fun k => if k = 0 then db else [], fun _ => false, fun _ _ => 0⟩) ⟨fun k _ => (by dsimp only; split; exact h; exact DbOk.nil), fun k _ h => (by cases h), fun k i _ h => absurd rfl h, fun k i _ => Nat.zero_le _, fun k _ _ => rfl⟩
  exact this
theorem RelU.any (h : RelU (UC db) r) : RelU (UC db2) r := by
  have hu : ∀ i, i < 3 → (r.lks i).used = false := fun i hi => by
    cases e : (r.lks i).used with
    | false => rfl
    | true =>
      obtain ⟨k, hk, hm⟩ := h.uo i hi e
      have := h.md i hi k hk hm
      cases this
  have hw : ∀ k, k < 4 → r.ws k = [] := fun k hk => h.wa k hk rfl
  refine ⟨h.act, fun k hk i t _ => ?_, fun i hi e => (by rw [hu i hi] at e; cases e), h.fr, fun i hi j _ e => (by rw [hu i hi] at e; cases e), h.md, fun k hk => (by rw [hw k hk]; exact ⟨fun c hc => (by cases hc), List.Pairwise.nil⟩), fun k hk c hc => (by rw [hw k hk] at hc; cases hc), fun k hk _ => hw k hk, fun k hk i t q h1 h2 y => ?_, fun o _ k _ _ i h => (by cases h), h.uo⟩
  · show 0 = lkR k t.name r.lks
    unfold lkR
    cases e : sOf t.name r.lks with
    | none => rfl
    | some j =>
      have := range_some e
      rw [hu j this.1] at this
      cases this.2.1
  · rw [hw k hk]
    have h2 : ((UC db2).db 0)[i]? = some q := h2
    rw [h1] at h2
    cases h2
    constructor
    · exact fun hy => .inl ⟨hy, fun c hc => by cases hc⟩
    · rintro (hy | ⟨c, hc, _⟩)
      · exact hy.1
      · cases hc
/-- An engine in no transaction stands for every database that its pages hold. -/
theorem EV.swap (h : EV dq w q D R cur (UC db) O) (hh : Hld cur db2) : EV dq w q D R cur (UC db2) O := by
  obtain ⟨g, O1, last, bq, ⟨r, ⟨t, Os, sw, cw, gm, hO1⟩, hr, ok⟩, nq, hO, hl⟩ := h
  refine ⟨g, O1, last, bq, ⟨r, ⟨t, Os, sw, cw, ?_, hO1⟩, hr.any, UOk.uc hh.ok⟩, nq, hO, hl⟩
  rw [UC_db]
  exact ⟨gm.bl, ⟨hh, gm.sv.2⟩, gm.wm, gm.eq, gm.ng, gm.nw, gm.dj, gm.dk⟩
end Go.Proofs.Qxb6500564aGreat
