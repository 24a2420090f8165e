/-
  Fetching the rows that match: the real engine.
-/
import Derived.Test.Qxb6500564aGreatQzE
namespace Go.Proofs.Qxb6500564aGreat
open Go.Den Go.Zip
set_option linter.unusedVariables false
set_option linter.unusedSimpArgs false
variable {w w' u v : World} {i j k n a b b0 q g : Nat} {x nm : ByteArray} {cs : List Cl} {sc sw r hit : Sl} {wh : List Cp} {row : List Vl} {T : Smt} {y : Nat → Sl} {ss hs : List Sl} {rows hr : List (List Vl)} {D : List Bk} {R : List Wr} {cur : Nat → Bk} {U : Mu} {O : Nat → Prop} {t tq : Tb}

theorem key_ne (ok : TbOk tq) {a b : List Vl} (ha : a ∈ tq.rows) (hb : b ∈ tq.rows) (hne : a ≠ b) : a.getD tq.pk v0 ≠ b.getD tq.pk v0 := fun e => by
  have hp := rows_pw ok
  refine hne ?_
  obtain ⟨i, hi, ei⟩ := List.getElem_of_mem ha
  obtain ⟨j, hj, ej⟩ := List.getElem_of_mem hb
  rw [List.pairwise_iff_getElem] at hp
  rcases Nat.lt_trichotomy i j with h | h | h
  · have := hp i j hi hj h
    rw [ei, ej, e, vl_irrefl] at this; cases this
  · subst h
    exact ei.symm.trans ej
  · have := hp j i hj hi h
    rw [ei, ej, e, vl_irrefl] at this; cases this
theorem scan_len {col : Nat} {lo hi : Bd} {out : List (List Vl)} (ok : TbOk tq) (hs : ScanR tq.rows col tq.pk lo hi out) : out.length ≤ tq.rows.length := by
  have irr : ∀ a : List Vl, ¬ vl (a.getD tq.pk v0) (a.getD tq.pk v0) = true := fun a h => by rw [vl_irrefl] at h; cases h
  have asy : ∀ a b : List Vl, vl (a.getD tq.pk v0) (b.getD tq.pk v0) = true → ¬ vl (b.getD tq.pk v0) (a.getD tq.pk v0) = true := fun a b h => by rw [vl_asym h]; simp
  have e : sortP tq.pk false out = tq.rows.filter fun r => inB lo hi (r.getD col v0) := by
    refine pw_ext irr asy (sortP_key (fun r hr => rows_made ok ((hs.2 r).1 hr).1 _) ?_) ((rows_pw ok).filter _) fun r => by rw [sortP_mem, hs.2, List.mem_filter]
    refine List.Pairwise.imp_of_mem (fun {a b} ha hb h => ?_) hs.1
    refine key_ne ok ((hs.2 a).1 ha).1 ((hs.2 b).1 hb).1 fun e => ?_
    subst e
    exact rl_irrefl h
  have h1 : (sortP tq.pk false out).length = out.length := (sortG_perm out).length_eq
  rw [← h1, e]
  exact List.length_filter_le _ _
theorem sortP_len {col : Nat} {d : Bool} : (sortP col d rows).length = rows.length := (sortG_perm rows).length_eq
theorem FR.len (h : FR b0 w r ss rows) : r.l = rows.length := by
  have := OS.len h.arr
  rw [List.length_map, h.row.1] at this
  omega
theorem FR.none (b0 : Nat) (w : World) : FR b0 w nilS [] [] := ⟨OS.nil _ _, ⟨rfl, fun i s r h => (by cases h)⟩, fun b hb => (by cases hb), fun t ht => (by cases ht), List.Pairwise.nil⟩
/-- What fetch answers. -/
def FtA (s : Int) (nm : ByteArray) (cs : List Cl) (wh : List Cp) (U U' : Mu) (e : Int) (out : List (List Vl)) : Prop :=
  (tkE s nm 1 U = 21 ∧ e = 21 ∧ U' = U) ∨ (tkE s nm 1 U = 0 ∧ e = 0 ∧ ∃ k i tq, s = (k : Nat) ∧ k < 4 ∧ U.act k = true ∧ fI nm (U.db 0) = some i ∧ U' = tkU k i 1 U ∧ fnB nm (U.db (seenD k i U')) = some tq ∧ TbOk tq ∧ tq.cols = cs ∧ out = tq.rows.filter (mtP cs wh))
theorem FR.low {c0 : Nat} (h : FR b0 w r ss rows) (hc : c0 ≤ b0) : FR c0 w r ss rows := ⟨h.arr, h.row, fun b hb => Nat.le_trans hc (h.ra b hb), fun t ht b hb => ⟨Nat.le_trans hc (h.rb t ht b hb).1, (h.rb t ht b hb).2⟩, h.dis⟩
/-- What stays while rows are fetched: schema, statement, plan, the statement's lists. -/
structure FS (p1 p2 p3 : Nat) (C1 C2 C3 : List Value) (sc : Sl) (cs : List Cl) (T : Smt) (y : Nat → Sl) (u : World) : Prop where
  b1 : Blk u p1 C1
  b2 : Blk u p2 C2
  b3 : Blk u p3 C3
  oc : OS u sc (colC cs) 2
  oy : ∀ i, i < 5 → OS u (y i) (vc T i) (sz i)
theorem FS.frp {p1 p2 p3 : Nat} {C1 C2 C3 : List Value} {P : Nat → Prop} (h : FS p1 p2 p3 C1 C2 C3 sc cs T y u) (F : FrP P u v) (h1 : ¬ P p1 ∧ ¬ P p2 ∧ ¬ P p3) (h2 : ∀ b, owns sc b → ¬ P b) (h3 : ∀ i, i < 5 → ∀ b, owns (y i) b → ¬ P b) : FS p1 p2 p3 C1 C2 C3 sc cs T y v :=
  ⟨h.b1.frp F h1.1, h.b2.frp F h1.2.1, h.b3.frp F h1.2.2, h.oc.frp F h2, fun i hi => (h.oy i hi).frp F (h3 i hi)⟩
theorem FS.fr0 {p1 p2 p3 : Nat} {C1 C2 C3 : List Value} (h : FS p1 p2 p3 C1 C2 C3 sc cs T y u) (F : Fr 0 0 u v) : FS p1 p2 p3 C1 C2 C3 sc cs T y v := h.frp (FrP.of0 (P := fun _ => False) F) ⟨id, id, id⟩ (fun _ _ h => h) fun _ _ _ _ h => h
theorem FS.dr {p1 p2 p3 : Nat} {C1 C2 C3 : List Value} (h : FS p1 p2 p3 C1 C2 C3 sc cs T y u) : FS p1 p2 p3 C1 C2 C3 sc cs T y u.drew := h.fr0 ((Fr.refl 0 0 u).drew)
theorem seen_tab {s : Int} (ok : UOk U) (hk : k < 4) (hf : fnB nm (U.db 0) = some t) (hq : fnB nm (U.db (seenD k i (tkU k i 1 U))) = some tq) (ok2 : UOk (tkU k i 1 U)) : TbOk tq ∧ sch tq = sch t := by
  have e0 : (tkU k i 1 U).db = U.db := by unfold tkU; simp
  have hsh := ok2.seen (i := i) hk
  rw [e0] at hsh
  have := fnB_shape (nm := nm) hsh
  have hd := ok2.d _ (seenD_lt (U := tkU k i 1 U) (i := i) hk)
  rw [e0] at hd
  refine ⟨hd.ok tq (fnB_mem hq).1, ?_⟩
  rw [hf, hq] at this
  first
  | exact (Option.some.inj this).symm
  | exact Option.some.inj this
end Go.Proofs.Qxb6500564aGreat
