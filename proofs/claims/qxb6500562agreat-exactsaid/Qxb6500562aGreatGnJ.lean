/-
  The code generator: Run, Compile, New; the tower.
-/
import Derived.Test.Qxb6500562aGreatGcA
import Derived.Test.Qxb6500562aGreatCrJ
import Derived.Test.Qxb6500562aGreatS7
namespace Go.Proofs.Qxb6500562aGreat
open Go.Den Go.Zip
set_option linter.unusedVariables false
set_option linter.unusedSimpArgs false
variable {w w' : World} {g : Nat} {P : Prg} {O O' : Nat → Prop} {hs en : List Int} {ck m : Nat} {L : List Sym} {x : Int} {inp : List Int}

abbrev pCode (P : Prg) : List Nat := codeP P.ns P.st.ty P.st.ref P.st.fs P.main
theorem leB_lt : ∀ (k u : Nat), ∀ x ∈ leB k u, x < 256
  | 0, u, x, h => by cases h
  | k + 1, u, x, h => by
    rcases List.mem_cons.1 h with rfl | h
    · exact Nat.mod_lt _ (by omega)
    · exact leB_lt k _ x h
/-- Every symbol is a byte. -/
def bySm (L : List Sym) : Prop := ∀ b, Sum.inl b ∈ L → b < 256
theorem bySm.app {a b : List Sym} (h1 : bySm a) (h2 : bySm b) : bySm (a ++ b) := fun x hx => (List.mem_append.1 hx).elim (h1 x) (h2 x)
theorem bySm_by {l : List Nat} (h : ∀ x ∈ l, x < 256) : bySm (byS l) := fun x hx => by
  unfold byS at hx
  obtain ⟨y, hy, e⟩ := List.mem_map.1 hx
  cases e
  exact h _ hy
theorem bySm_num (v : Int) : bySm (numS v) := bySm_by fun x hx => by
  rcases List.mem_cons.1 hx with rfl | h
  · omega
  · exact leB_lt _ _ x h
theorem bySm_jmp (o a : Nat) (h : o < 256) : bySm (jmpS o a) := bySm_by fun x hx => by
  simp only [u16B, List.mem_cons, List.not_mem_nil, or_false] at hx
  rcases hx with rfl | rfl | rfl
  · exact h
  · exact Nat.mod_lt _ (by omega)
  · exact Nat.mod_lt _ (by omega)
theorem b8_lt (v : Int) : b8 v < 256 := by unfold b8; rw [U8_mod]; omega
theorem bySm1 {o : Nat} (h : o < 256) : bySm (byS [o]) := bySm_by fun x hx => by simp only [List.mem_singleton] at hx; omega
theorem bySm2 {o : Nat} {v : Int} (h : o < 256) : bySm (byS [o, b8 v]) := bySm_by fun x hx => by
  simp only [List.mem_cons, List.not_mem_nil, or_false] at hx
  rcases hx with rfl | rfl
  · exact h
  · exact b8_lt v
theorem bySm_row {f : Int → Nat → List Sym} (h : ∀ y p, bySm (f y p)) : ∀ (l : List Int) (p : Nat), bySm (rowS f l p)
  | [], p => fun x hx => by cases hx
  | a :: l, p => (h a p).app (bySm_row h l _)
theorem bySm_sE {ns : List Nd} {T R : List Int} : ∀ (n : Nat) (x : Int) (p : Nat), bySm (sE ns T R n x p)
  | 0, x, p => fun x hx => by cases hx
  | n + 1, x, p => by
    have ih := bySm_sE (ns := ns) (T := T) (R := R) n
    have sh : ∀ (b : Int) (o : Nat) (v : Int) (q : Nat), o < 256 → bySm (shortS (sE ns T R n b) o v q) := fun b o v q ho => (((bySm_jmp _ _ ho).app (ih _ _)).app (bySm_jmp _ _ (by omega))).app (bySm_num _)
    unfold sE
    split
    · exact bySm_num _
    · split
      · exact bySm2 (cls_lt (by omega) (by omega))
      · split
        · exact bySm1 (by omega)
        · split
          · exact (ih _ _).app (bySm1 (by split <;> omega))
          · split
            · split
              · exact (ih _ _).app (sh _ _ _ _ (by omega))
              · split
                · exact (ih _ _).app (sh _ _ _ _ (by omega))
                · exact ((ih _ _).app (ih _ _)).app (bySm1 (binO_lt _))
            · split
              · exact ((ih _ _).app (ih _ _)).app (bySm1 (cls_lt (by omega) (by omega)))
              · split
                · exact (ih _ _).app (bySm1 (cls_lt (by omega) (by omega)))
                · split
                  · exact (ih _ _).app (bySm1 (by omega))
                  · split
                    · refine (bySm_row ih _ _).app fun x hx => ?_
                      simp only [List.mem_cons, List.not_mem_nil, or_false] at hx
                      rcases hx with h | h | h
                      · cases h; omega
                      · cases h
                      · cases h
                    · intro x hx; cases hx
theorem bySm_sS {ns : List Nd} {T R : List Int} : ∀ (n : Nat) (x : Int) (p : Nat), bySm (sS ns T R n x p)
  | 0, x, p => fun x hx => by cases hx
  | n + 1, x, p => by
    have ih := bySm_sS (ns := ns) (T := T) (R := R) n
    have ie : ∀ y p, bySm (sX ns T R y p) := fun y p => bySm_sE _ _ _
    have ib : ∀ b p, bySm (blkS ns (sS ns T R n) b p) := fun b p => bySm_row ih _ _
    unfold sS
    split
    · exact (ie _ _).app (bySm2 (cls_lt (by omega) (by omega)))
    · split
      · split
        · exact (ie _ _).app (bySm2 (cls_lt (by omega) (by omega)))
        · exact (((ie _ _).app (ie _ _)).app (ie _ _)).app (bySm1 (cls_lt (by omega) (by omega)))
      · split
        · refine (ie _ _).app ?_
          dsimp only
          split
          · exact (bySm_jmp _ _ (by omega)).app (ib _ _)
          · exact (((bySm_jmp _ _ (by omega)).app (ib _ _)).app (bySm_jmp _ _ (by omega))).app (ib _ _)
        · split
          · exact (ie _ _).app (((bySm_jmp _ _ (by omega)).app (ib _ _)).app (bySm_jmp _ _ (by omega)))
          · split
            · exact (ie _ _).app (bySm1 (cls_lt (by omega) (by omega)))
            · split
              · exact (ie _ _).app (bySm1 (by omega))
              · split
                · exact (ie _ _).app (bySm1 (cls_lt (by omega) (by omega)))
                · intro x hx; cases hx
theorem bySm_sF {ns : List Nd} {T R : List Int} (f : Fn) (p : Nat) : bySm (sF ns T R f p) := by
  unfold sF headS tailS
  refine ((bySm_by fun x hx => ?_).app (bySm_row (fun y p => bySm_sS _ _ _) _ _)).app ((by split; exact bySm1 (by omega); exact bySm_num _ : bySm (if 2 ≤ f.ret then byS [7] else numS 0)).app (bySm1 (cls_lt (by omega) (by omega))))
  simp only [List.mem_cons, List.not_mem_nil, or_false] at hx
  rcases hx with rfl | rfl | rfl | rfl | rfl
  · omega
  · exact b8_lt _
  · exact b8_lt _
  · exact b8_lt _
  · exact b8_lt _
theorem bySm_rest {ns : List Nd} {T R : List Int} {fs : List Fn} {k : Int} : ∀ (n i p : Nat), bySm (sRest ns T R fs k n i p)
  | 0, i, p => fun x hx => by cases hx
  | n + 1, i, p => by
    unfold sRest
    split
    · exact bySm_rest n _ _
    · exact (bySm_sF _ _).app (bySm_rest n _ _)
theorem pCode_lt (P : Prg) : ∀ x ∈ pCode P, x < 256 := by
  intro x hx
  unfold pCode codeP at hx
  obtain ⟨s, hs, rfl⟩ := List.mem_map.1 hx
  rcases s with b | ⟨k, b⟩
  · exact ((bySm_sF _ _).app (bySm_rest _ _ _)) b hs
  · cases b
    · exact Nat.mod_lt _ (by omega)
    · exact Nat.mod_lt _ (by omega)
theorem pCode_len {P : Prg} (pt : PT P.ns P.st P.main) (h : P.ns.length ≤ 200) : 5 ≤ (pCode P).length ∧ (pCode P).length ≤ 3000 := by
  unfold pCode codeP
  rw [List.length_map]
  have := pt.all_len (T := P.st.ty) (R := P.st.ref)
  refine ⟨?_, by omega⟩
  unfold sAll sF headS
  simp only [List.length_append, byS_len, List.length_cons, List.length_nil]
  omega
/-- The engine's record between two calls: Check would answer true. -/
def GY (w : World) (g ck m : Nat) (O : Nat → Prop) : Prop := ∃ f Z cs cl en, GX w g f Z (vG cs [] cl en) 0 ∧ Pt f ck m ∧ O = gO g Z ∧ FineC cs cl en
theorem GY.z (y : GY w g ck m O) : GZ w g ck m O := by
  obtain ⟨f, Z, cs, cl, en, x, p, rfl, _⟩ := y
  exact ⟨f, Z, _, x, p, rfl⟩
theorem GY.frp {Q : Nat → Prop} (y : GY w g ck m O) (F : FrP Q w w') (hn : ∀ b, O b → ¬ Q b) : GY w' g ck m O := by
  obtain ⟨f, Z, cs, cl, en, x, p, rfl, h⟩ := y
  exact ⟨f, Z, cs, cl, en, x.frp F hn, p, rfl, h⟩
theorem GY.lt (y : GY w g ck m O) {b : Nat} (hb : O b) : b < w.heap.size := by
  obtain ⟨f, Z, cs, cl, en, x, p, rfl, h⟩ := y
  exact x.lt hb
theorem GQ.y {cs : List Nat} {cl : List (Int × Int)} {en : List Int} (q : GQ w g ck m P cs [] cl en O) (F : FineC cs cl en) : GY w g ck m O := by
  obtain ⟨f, Z, b1, b2, b3, b4, e, rfl⟩ := q
  exact ⟨f, Z, cs, cl, en, e.x, e.p, rfl, F⟩
theorem GY.check {K : Bool → World → Prop} (y : GY w g ck m O) (hK : ∀ w', Fr 0 0 w w' → K true w') : S.gen_Engine_Check g w K := by
  obtain ⟨f, Z, cs, cl, en, x, p, rfl, h⟩ := y
  exact gcheck_spec x h hK
theorem entR_le {ns : List Nd} {T R : List Int} {fs : List Fn} {k : Int} : ∀ (n i p : Nat) (j : Int), entR ns T R fs k n i p j ≤ p + (sRest ns T R fs k n i p).length
  | 0, i, p, j => Nat.zero_le _
  | n + 1, i, p, j => by
    unfold entR sRest
    split
    · exact entR_le n _ _ _
    · split
      · omega
      · rw [List.length_append]
        have := entR_le (ns := ns) (T := T) (R := R) (fs := fs) (k := k) n (i + 1) (p + (sF ns T R (fnAt fs (i : Int)) p).length) j
        omega
theorem entA_le {ns : List Nd} {T R : List Int} {fs : List Fn} {k j : Int} : entA ns T R fs k j ≤ (sAll ns T R fs k).length := by
  unfold entA sAll
  split
  · omega
  · rw [List.length_append]
    exact entR_le _ _ _ _
theorem pFine {en : List Int} (pt : PT P.ns P.st P.main) (h200 : P.ns.length ≤ 200) (he : en.length = P.st.fs.length) (hen : ∀ k : Int, 0 ≤ k → k < en.length → en.getD k.toNat (-1) = ((entA P.ns P.st.ty P.st.ref P.st.fs P.main k : Nat) : Int)) : FineC (pCode P) (callsOf 0 (sAll P.ns P.st.ty P.st.ref P.st.fs P.main)) en := by
  have cl := pCode_len pt h200
  have hfl : P.st.fs.length ≤ 200 := by
    have := inc_len pt.up (lo := 0) (hi := P.ns.length) (fun y hy => by
      obtain ⟨f, hf, rfl⟩ := List.mem_map.1 hy
      exact ⟨(pt.nd f hf).1, (pt.nd f hf).2.1⟩) (by omega)
    rw [List.length_map] at this
    omega
  obtain ⟨mi, hmi⟩ : ∃ mi : Nat, P.main = mi := ⟨P.main.toNat, by have := pt.mn.1; omega⟩
  have ml : mi < P.st.fs.length := by have := pt.mn.2.1; omega
  have hlen : (pCode P).length = (sAll P.ns P.st.ty P.st.ref P.st.fs P.main).length := by unfold pCode codeP; rw [List.length_map]
  have hE : ∀ k : Int, 0 ≤ k → k < P.st.fs.length → entA P.ns P.st.ty P.st.ref P.st.fs P.main k < 65536 := fun k _ _ => by
    have := entA_le (ns := P.ns) (T := P.st.ty) (R := P.st.ref) (fs := P.st.fs) (k := P.main) (j := k)
    omega
  have sa : SA (pCode P) (entA P.ns P.st.ty P.st.ref P.st.fs P.main) 0 (sAll P.ns P.st.ty P.st.ref P.st.fs P.main) := by
    have := At.of (pre := []) (l := pCode P) (post := []) (p := 0) rfl
    rw [List.nil_append, List.append_nil] at this
    exact this
  have hsplit : sAll P.ns P.st.ty P.st.ref P.st.fs P.main = sF P.ns P.st.ty P.st.ref (fnAt P.st.fs P.main) 0 ++ sRest P.ns P.st.ty P.st.ref P.st.fs P.main P.st.fs.length 0 (sF P.ns P.st.ty P.st.ref (fnAt P.st.fs P.main) 0).length := rfl
  have sa' := sa
  rw [hsplit] at sa'
  have y := pt.sg_sF (c := pCode P) (ent := entA P.ns P.st.ty P.st.ref P.st.fs P.main) (by omega) hE ml (.refl _) (by rw [← hmi]; exact sa'.left)
  rw [← hmi] at y
  obtain ⟨y1, y2, y3⟩ := y
  have r0 := y1.row
  rw [Nat.zero_add] at r0
  obtain ⟨x1, x2⟩ := pt.sg_rest (c := pCode P) (ent := entA P.ns P.st.ty P.st.ref P.st.fs P.main) (by omega) hE P.main P.st.fs.length 0 _ (by omega) r0 (sa'.right (by omega))
  have sg := SG.app y1 (by rw [Nat.zero_add]; exact x1)
  rw [← hsplit] at sg
  have ents : ∀ k : Int, 0 ≤ k → k < P.st.fs.length → Ld (pCode P) (entA P.ns P.st.ty P.st.ref P.st.fs P.main k) ∧ (pCode P).getD (entA P.ns P.st.ty P.st.ref P.st.fs P.main k) 0 = 25 := fun k k0 k1 => by
    by_cases hk : k = P.main
    · rw [hk, ent_main]; exact ⟨y2, y3⟩
    · obtain ⟨kn, rfl⟩ : ∃ kn : Nat, k = kn := ⟨k.toNat, by omega⟩
      have := x2 kn (by omega) (by omega) hk
      unfold entA
      rw [if_neg hk]
      exact this
  have enk : ∀ k : Nat, k < en.length → en[k]? = some ((entA P.ns P.st.ty P.st.ref P.st.fs P.main (k : Int) : Nat) : Int) := fun k hk => by
    have := hen (k : Int) (by omega) (by omega)
    rw [Int.toNat_natCast, List.getD_eq_getElem?_getD, List.getElem?_eq_getElem hk] at this
    rw [List.getElem?_eq_getElem hk]
    exact congrArg some this
  refine ⟨by omega, fun i => ?_, by have := sg.row; rw [Nat.zero_add, ← hlen] at this; exact this, fun r h1 h2 => ?_, .inr ?_, fun e he' => ?_, fun q hq => ?_, by omega, by have := callsOf_len (sAll P.ns P.st.ty P.st.ref P.st.fs P.main) 0; omega⟩
  · rcases Nat.lt_or_ge i (pCode P).length with h | h
    · rw [List.getD_eq_getElem?_getD, List.getElem?_eq_getElem h]
      exact pCode_lt P _ (List.getElem_mem h)
    · rw [List.getD_eq_getElem?_getD, List.getElem?_eq_none h]; decide
  · have J := sg.jmp r h1 (by omega)
    refine ⟨J.z, J.j, fun h => ?_, J.b⟩
    obtain ⟨k, k0, k1, hk⟩ := J.k h
    rw [hk]
    exact ents k k0 k1
  · have := enk mi (by omega)
    rw [← hmi, ent_main] at this
    exact List.mem_of_getElem? this
  · obtain ⟨k, hk⟩ := List.getElem?_of_mem he'
    obtain ⟨hk', _⟩ := List.getElem?_eq_some_iff.1 hk
    rw [enk k hk'] at hk
    cases hk
    exact ⟨_, rfl, ents (k : Int) (by omega) (by omega)⟩
  · obtain ⟨r, e1, e2, e3, e4, e5, e6, e7⟩ := sg.cal q hq
    obtain ⟨kn, hkn⟩ : ∃ kn : Nat, q.2 = kn := ⟨q.2.toNat, by omega⟩
    refine ⟨r, e1, e2, by omega, ⟨e4, by omega⟩, by omega, e6, ?_⟩
    rw [e7, hkn, Int.toNat_natCast]
    exact enk kn (by omega)
/-- The engine, between two calls. -/
structure EN (w : World) (g ck ps ar lx gb m h : Nat) (Og Ov : Nat → Prop) : Prop where
  c : CKE w ck ps ar lx gb
  v : VI w m h Ov
  z : GY w g ck m Og
  gv : ∀ b, Og b → ¬ Ov b
  gc : ∀ b, Og b → ¬ co ck ps ar lx gb b
  vc : ∀ b, Ov b → ¬ co ck ps ar lx gb b
def eO (ck ps ar lx gb : Nat) (Og Ov : Nat → Prop) (b : Nat) : Prop := Og b ∨ Ov b ∨ co ck ps ar lx gb b
variable {ps ar lx gb h : Nat} {Og Ov Og' Ov' : Nat → Prop}
theorem GZ.lt (z : GZ w g ck m Og) {b : Nat} (hb : Og b) : b < w.heap.size := by
  obtain ⟨f, Z, V, x, _, rfl⟩ := z
  exact x.lt hb
theorem GZ.frp {Q : Nat → Prop} (z : GZ w g ck m Og) (F : FrP Q w w') (hn : ∀ b, Og b → ¬ Q b) : GZ w' g ck m Og := by
  obtain ⟨f, Z, V, x, p, rfl⟩ := z
  exact ⟨f, Z, V, x.frp F hn, p, rfl⟩
theorem GQ.z {cs : List Nat} {cl : List (Int × Int)} (q : GQ w g ck m P cs hs cl en O) : GZ w g ck m O := by
  obtain ⟨f, Z, b1, b2, b3, b4, e, rfl⟩ := q
  exact ⟨f, Z, _, e.x, e.p, rfl⟩
theorem EN.lt (e : EN w g ck ps ar lx gb m h Og Ov) {b : Nat} (hb : eO ck ps ar lx gb Og Ov b) : b < w.heap.size := by
  rcases hb with hb | hb | hb
  · exact e.z.lt hb
  · exact e.v.lt hb
  · exact e.c.lt b hb
theorem EN.frp {Q : Nat → Prop} (e : EN w g ck ps ar lx gb m h Og Ov) (F : FrP Q w w') (hn : ∀ b, b < w.heap.size → ¬ Q b) : EN w' g ck ps ar lx gb m h Og Ov :=
  ⟨e.c.frp F fun b hb => hn b (e.c.lt b hb), e.v.frp F fun b hb => hn b (e.v.lt hb), e.z.frp F fun b hb => hn b (e.z.lt hb), e.gv, e.gc, e.vc⟩
theorem EN.fr0 (e : EN w g ck ps ar lx gb m h Og Ov) (F : Fr 0 0 w w') : EN w' g ck ps ar lx gb m h Og Ov := e.frp (Q := fun _ => False) (FrP.of0 F) fun _ _ h => h
/-- The code turns. -/
theorem EN.movG (e : EN w g ck ps ar lx gb m h Og Ov) (z : GY w' g ck m Og') (G : Gw Og w Og' w') : EN w' g ck ps ar lx gb m h Og' Ov ∧ Gw (eO ck ps ar lx gb Og Ov) w (eO ck ps ar lx gb Og' Ov) w' := by
  refine ⟨⟨e.c.frp G.1 fun b hb hg => e.gc b hg hb, e.v.frp G.1 fun b hb hg => e.gv b hg hb, z, fun b hb hv => (G.2 b hb).elim (fun h => e.gv b h hv) fun h => by have := e.v.lt hv; omega, fun b hb hv => (G.2 b hb).elim (fun h => e.gc b h hv) fun h => by have := e.c.lt b hv; omega, e.vc⟩, G.1.mono fun b hb => .inl hb, ?_⟩
  rintro b (hb | hb | hb)
  · exact (G.2 b hb).elim (fun h => .inl (.inl h)) .inr
  · exact .inl (.inr (.inl hb))
  · exact .inl (.inr (.inr hb))
theorem EN.movV (e : EN w g ck ps ar lx gb m h Og Ov) (v : VI w' m h Ov') (G : Gw Ov w Ov' w') : EN w' g ck ps ar lx gb m h Og Ov' ∧ Gw (eO ck ps ar lx gb Og Ov) w (eO ck ps ar lx gb Og Ov') w' := by
  refine ⟨⟨e.c.frp G.1 fun b hb hg => e.vc b hg hb, v, e.z.frp G.1 fun b hb hv => e.gv b hb hv, fun b hb hv => (G.2 b hv).elim (fun h => e.gv b hb h) fun h => by have := e.z.lt hb; omega, e.gc, fun b hb hv => (G.2 b hb).elim (fun h => e.vc b h hv) fun h => by have := e.c.lt b hv; omega⟩, G.1.mono fun b hb => .inr (.inl hb), ?_⟩
  rintro b (hb | hb | hb)
  · exact .inl (.inl hb)
  · exact (G.2 b hb).elim (fun h => .inl (.inr (.inl h))) .inr
  · exact .inl (.inr (.inr hb))
theorem EN.movC {gb' : Nat} (e : EN w g ck ps ar lx gb m h Og Ov) (c : CKE w' ck ps ar lx gb') (F : FrP (co ck ps ar lx gb) w w') (hg : gb' = gb ∨ w.heap.size ≤ gb') : EN w' g ck ps ar lx gb' m h Og Ov ∧ Gw (eO ck ps ar lx gb Og Ov) w (eO ck ps ar lx gb' Og Ov) w' := by
  have hc : ∀ b, co ck ps ar lx gb' b → co ck ps ar lx gb b ∨ w.heap.size ≤ b := by
    rintro b (rfl | rfl | rfl | rfl | rfl)
    · exact .inl (.inl rfl)
    · exact .inl (.inr (.inl rfl))
    · exact .inl (.inr (.inr (.inl rfl)))
    · exact .inl (.inr (.inr (.inr (.inl rfl))))
    · rcases hg with rfl | hg
      · exact .inl (.inr (.inr (.inr (.inr rfl))))
      · exact .inr hg
  refine ⟨⟨c, e.v.frp F fun b hb hx => e.vc b hb hx, e.z.frp F fun b hb hx => e.gc b hb hx, e.gv, fun b hb hx => (hc b hx).elim (fun h => e.gc b hb h) fun h => by have := e.z.lt hb; omega, fun b hb hx => (hc b hx).elim (fun h => e.vc b hb h) fun h => by have := e.v.lt hb; omega⟩, F.mono fun b hb => .inr (.inr hb), ?_⟩
  rintro b (hb | hb | hb)
  · exact .inl (.inl hb)
  · exact .inl (.inr (.inl hb))
  · exact (hc b hb).elim (fun h => .inl (.inr (.inr h))) .inr
theorem image_spec {cs : List Nat} {cl : List (Int × Int)} {K : Sl → World → Prop} (q : GQ w g ck m P cs hs cl en O) (hc : cs.length ≤ 70000) (h0 : 0 < cs.length)
    (hK : ∀ w' b, GQ w' g ck m P cs hs cl en O → Fr 0 0 w w' → w.heap.size ≤ b → Blk w' b (byts cs) → K ⟨some ⟨b, 0, none⟩, cs.length, cs.length⟩ w') : S.gen_Engine_image g w K := by
  unfold S.gen_Engine_image
  have qO := q
  obtain ⟨f, Z, b1, b2, b3, b4, e, rfl⟩ := q
  refine e.ldJ (by omega) (by omega) (by omega) ?_
  rw [e.cln]
  refine mkS (by omega) (by omega) (by omega) (by omega) fun w1 c1 f1 s1 => ?_
  have e1 := e.fr0 f1
  refine e1.ldJ (by omega) (by omega) (by omega) ?_
  rw [Int.toNat_natCast, reps_byts] at *
  generalize hp : w.heap.size = p at *
  have o12 : OS w1 (Z 12) (byts cs) 1 := e1.x.os 12 (by omega) (by omega)
  have hcl := e1.cln
  rcases o12 with ⟨_, h⟩ | ⟨gb, a, b, cc, junk, d, l⟩
  · have : cs = [] := by simpa [byts] using h
    rw [this] at h0; simp at h0
  · have hlz : (byts cs).length = cs.length := by simp [byts]
    refine copyS (n := cs.length) (us := byts cs) d a c1 rfl (by dsimp only; rw [hcl]; simp) (by rw [Nat.mul_one, List.drop_zero, ← hlz]; simp) (by rw [hlz, Nat.mul_one]) (byts_ok _) (by simp [byts]) fun w2 c2 f2 s2 => ?_
    have F : Fr 0 0 w w2 := (f1.any p 1).trans f2 |>.fresh (by omega) 0 0
    refine hK w2 p ⟨_, _, _, _, _, _, e.fr0 F, rfl⟩ F (Nat.le_refl _) ?_
    have e5 : (byts (List.replicate cs.length 0)).take 0 ++ byts cs ++ (byts (List.replicate cs.length 0)).drop (0 + (byts cs).length) = byts cs := by simp [byts]
    rw [e5] at c2
    exact c2
/-- What Run answers. -/
structure Res where
  e : Int
  pos : Int
  en : Int
  rv : Int
  out : List Int
  fuel : Int
def RunA (src : ByteArray) (inp : List Int) (fuel : Int) (r : Res) : Prop :=
  (4096 < src.size ∧ r = ⟨31, 4096, 0, 0, [], fuel⟩) ∨ (src.size ≤ 4096 ∧ 128 < inp.length ∧ r = ⟨32, 128, 0, 0, [], fuel⟩) ∨
  (src.size ≤ 4096 ∧ inp.length ≤ 128 ∧ ∃ res, CkA src res ∧ match res with | .error q => r = ⟨q.1, q.2, 0, 0, [], fuel⟩ | .ok P => ∃ s, MRun (pCode P) inp fuel s ∧ r = ⟨0, 0, s.en, s.rv, s.out, s.fuel⟩)
theorem RunA.uniq {src : ByteArray} {fuel : Int} {r r' : Res} (h : RunA src inp fuel r) (h' : RunA src inp fuel r') : r = r' := by
  rcases h with ⟨h1, h2⟩ | ⟨h1, h2, h3⟩ | ⟨h1, h2, res, h3, h4⟩ <;> rcases h' with ⟨g1, g2⟩ | ⟨g1, g2, g3⟩ | ⟨g1, g2, res', g3, g4⟩
  · rw [h2, g2]
  · omega
  · omega
  · omega
  · rw [h3, g3]
  · omega
  · omega
  · omega
  · have := h3.uniq g3
    subst this
    cases res with
    | error q => rw [h4, g4]
    | ok P =>
      obtain ⟨s, m1, m2⟩ := h4
      obtain ⟨s', m3, m4⟩ := g4
      rw [m2, m4, m1.uniq m3]
end Go.Proofs.Qxb6500562aGreat
