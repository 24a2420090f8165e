/-
  The model's checker: its state, its small steps.
-/
import Derived.Test.Qxb6500562aGreatCkL
import Derived.Test.Qxb6500562aGreatParT
namespace Go.Proofs.Qxb6500562aGreat
open Go.Den Go.Zip
set_option linter.unusedVariables false
set_option linter.unusedSimpArgs false

theorem fns_len (l : List Fn) : (l.flatMap fnV).length = l.length * 7 := flat_length (c := 7) (fun _ => rfl) _
theorem fns_ok (l : List Fn) : (l.flatMap fnV).all okV = true := by
  rw [List.all_eq_true]
  intro v hv
  simp only [List.mem_flatMap, fnV, List.mem_cons, List.not_mem_nil, or_false] at hv
  obtain ⟨e, _, rfl | rfl | rfl | rfl | rfl | rfl | rfl⟩ := hv <;> rfl
theorem vrs_len (l : List Vr) : (l.flatMap vrV).length = l.length * 4 := flat_length (c := 4) (fun _ => rfl) _
theorem fnCell {l : List Fn} {i k : Nat} (hi : i < l.length) (hk : k < 7) : (l.flatMap fnV)[i * 7 + k]? = (fnV (fnAt l (i : Int)))[k]? := by
  rw [flat_get (c := 7) (fun _ => rfl) l i k hk]
  rw [List.getElem?_eq_getElem hi]
  simp [fnAt, hi]
theorem vrCell {l : List Vr} {i k : Nat} (hi : i < l.length) (hk : k < 4) : (l.flatMap vrV)[i * 4 + k]? = (vrV (vrAt l (i : Int)))[k]? := by
  rw [flat_get (c := 4) (fun _ => rfl) l i k hk]
  rw [List.getElem?_eq_getElem hi]
  simp [vrAt, hi]
/-- The nodes' slice. -/
def tsl (ns : List Nd) (tb : Nat) : Sl := if ns.length = 0 then ⟨none, 0, 0⟩ else ⟨some ⟨tb, 0, none⟩, ns.length, ns.length⟩
def tloc (ns : List Nd) (tb : Nat) : List (Nat × List Value) := if ns.length = 0 then [] else [(tb, ns.flatMap ndV)]
def cRec (ns : List Nd) (tb bty bre : Nat) (sfs svs : Sl) (st : CS) (e q : Int) : List Value :=
  [.slice (tsl ns tb).a (tsl ns tb).l (tsl ns tb).c, .slice (some ⟨bty, 0, none⟩) ns.length ns.length, .slice (some ⟨bre, 0, none⟩) ns.length ns.length, .slice sfs.a sfs.l sfs.c, .slice svs.a svs.l svs.c,
    .int .i64 (cntI st.vs), .int .i64 (cntR st.vs), .int .i64 st.cur, .int .i64 st.lev, .int .i64 e, .int .i64 q]
/-- The state that the checkers keep. -/
structure CInv (ns : List Nd) (st : CS) : Prop where
  tl : st.ty.length = ns.length
  rl : st.ref.length = ns.length
  ti : TyInv st
  fl : st.fs.length ≤ 8
  fnd : ∀ f ∈ st.fs, 0 ≤ f.node ∧ f.node < ns.length ∧ (ndAt ns f.node).kind = 0
  fpp : ∀ f ∈ st.fs, 0 ≤ f.pi ∧ 0 ≤ f.pr ∧ f.pi + f.pr ≤ 4
  fpl : ∀ f ∈ st.fs, ((kids ns (ndAt ns f.node).a).length : Int) = f.pi + f.pr
  fdn : (fnames st).Pairwise fun a b => bt a ≠ bt b
  ci : cntI st.vs ≤ 12
  cr : cntR st.vs ≤ 12
  lv : st.lev ≤ 400
def cown (s bty bre : Nat) (sfs svs : Sl) (b : Nat) : Prop := b = s ∨ b = bty ∨ b = bre ∨ owns sfs b ∨ owns svs b
structure CMem (ns : List Nd) (w0 : World) (s tb : Nat) (st : CS) (e q : Int) (L : List (Nat × List Value)) (w : World) : Prop where
  good : Good 0 ns
  le : ns.length ≤ 200
  inv : CInv ns st
  ex : ∃ bty bre sfs svs, Sep w0 (fun _ => False) w (cown s bty bre sfs svs) (L ++ tloc ns tb) ∧ (bty ≠ bre ∧ bty ≠ s ∧ bre ≠ s ∧ ¬ owns sfs s ∧ ¬ owns svs s ∧ ¬ owns sfs bty ∧ ¬ owns sfs bre ∧ ¬ owns svs bty ∧ ¬ owns svs bre ∧ ∀ b, owns sfs b → ¬ owns svs b) ∧
    Blk w s (cRec ns tb bty bre sfs svs st e q) ∧ Blk w bty (ints st.ty) ∧ Blk w bre (ints st.ref) ∧ OS w sfs (st.fs.flatMap fnV) 7 ∧ OS w svs (st.vs.flatMap vrV) 4
variable {α β : Type} {ns : List Nd} {w0 w w' : World} {s tb p : Nat} {st : CS} {e q : Int} {L : List (Nat × List Value)} {vs : List Value}

theorem vs_le (h : CInv ns st) : st.vs.length ≤ 24 := by
  have : ∀ l : List Vr, l.length = cntI l + cntR l := by
    intro l
    induction l with
    | nil => rfl
    | cons v l ih =>
      unfold cntI cntR at *
      simp only [List.length_cons, List.countP_cons, decide_eq_true_eq]
      by_cases h : v.ty < 2
      · rw [if_pos h, if_neg (by omega)]; omega
      · rw [if_neg h, if_pos (by omega)]; omega
  have := this st.vs
  have := h.ci
  have := h.cr
  omega
theorem CMem.ext (h : CMem ns w0 s tb st e q L w) (f : Fr 0 0 w w') : CMem ns w0 s tb st e q L w' := by
  obtain ⟨bty, bre, sfs, svs, h1, h2, h3, h4, h5, h6, h7⟩ := h.ex
  exact ⟨h.good, h.le, h.inv, bty, bre, sfs, svs, h1.ext f, h2, h3.fr f (by omega), h4.fr f (by omega), h5.fr f (by omega), h6.frp (FrP.of0 (P := fun _ => False) f) fun _ _ h => h, h7.frp (FrP.of0 (P := fun _ => False) f) fun _ _ h => h⟩
theorem CMem.drew (h : CMem ns w0 s tb st e q L w) : CMem ns w0 s tb st e q L w.drew := h.ext (Fr.refl 0 0 w).drew
theorem CMem.loc (h : CMem ns w0 s tb st e q ((p, vs) :: L) w) : Blk w p vs := by
  obtain ⟨bty, bre, sfs, svs, h1, _⟩ := h.ex
  exact h1.blk
theorem CMem.tail {x : Nat × List Value} (h : CMem ns w0 s tb st e q (x :: L) w) : CMem ns w0 s tb st e q L w := by
  obtain ⟨bty, bre, sfs, svs, h1, h2⟩ := h.ex
  exact ⟨h.good, h.le, h.inv, bty, bre, sfs, svs, h1.tail, h2⟩
theorem CMem.new {cs : List Value} (h : CMem ns w0 s tb st e q L w) (f : Fr 0 0 w w') (hp : w.heap.size ≤ p) (hb : Blk w' p cs) : CMem ns w0 s tb st e q ((p, cs) :: L) w' := by
  obtain ⟨bty, bre, sfs, svs, h1, h2, h3, h4, h5, h6, h7⟩ := h.ex
  exact ⟨h.good, h.le, h.inv, bty, bre, sfs, svs, h1.new f hp hb, h2, h3.fr f (by omega), h4.fr f (by omega), h5.fr f (by omega), h6.frp (FrP.of0 (P := fun _ => False) f) fun _ _ h => h, h7.frp (FrP.of0 (P := fun _ => False) f) fun _ _ h => h⟩
theorem CMem.upd {us : List Value} (h : CMem ns w0 s tb st e q ((p, vs) :: L) w) (f : Fr p 1 w w') (hb : Blk w' p us) : CMem ns w0 s tb st e q ((p, us) :: L) w' := by
  obtain ⟨bty, bre, sfs, svs, h1, h2, h3, h4, h5, h6, h7⟩ := h.ex
  have hn := h1.nown
  have n1 : s ≠ p := fun e => hn (.inl e.symm)
  have n2 : bty ≠ p := fun e => hn (.inr (.inl e.symm))
  have n3 : bre ≠ p := fun e => hn (.inr (.inr (.inl e.symm)))
  have n4 : ¬ owns sfs p := fun e => hn (.inr (.inr (.inr (.inl e))))
  have n5 : ¬ owns svs p := fun e => hn (.inr (.inr (.inr (.inr e))))
  have fp : FrP (fun b => b = p) w w' := FrP.of f fun b h1 h2 => by omega
  exact ⟨h.good, h.le, h.inv, bty, bre, sfs, svs, h1.set f hb, h2, h3.fr f (by omega), h4.fr f (by omega), h5.fr f (by omega), h6.frp fp fun b hb e => n4 (by rw [← e]; exact hb), h7.frp fp fun b hb e => n5 (by rw [← e]; exact hb)⟩
theorem CMem.st1 {i : Nat} {v : Value} {K : World → Prop} (h : CMem ns w0 s tb st e q ((p, vs) :: L) w) (hi : i < vs.length) (hK : ∀ w', CMem ns w0 s tb st e q ((p, vs.set i v) :: L) w' → K w') : St1 w ⟨p, i, none⟩ v K :=
  Go.Den.st1 h.loc hi fun w' b' f s => hK w' (h.upd f b')
/-- The record, read. -/
theorem CMem.rc (h : CMem ns w0 s tb st e q L w) : ∃ bty bre sfs svs, Blk w s (cRec ns tb bty bre sfs svs st e q) := by
  obtain ⟨bty, bre, sfs, svs, h1, h2, h3, _⟩ := h.ex
  exact ⟨bty, bre, sfs, svs, h3⟩
theorem CMem.err {K : Int → Prop} (h : CMem ns w0 s tb st e q L w) (hK : K e) : LdI .i64 w ⟨s, 9, none⟩ K := by
  obtain ⟨_, _, _, _, h3⟩ := h.rc
  exact ldI h3 rfl hK
/-- A field of a node. -/
theorem CMem.nd {x : Int} {k : Nat} {m : Int} {K : Int → Prop} (h : CMem ns w0 s tb st e q L w) (h0 : 0 ≤ x) (h1 : x < ns.length) (hk : k < 8) (hm : (ndV (ndAt ns x))[k]? = some (.int .i64 m)) (hK : K m) :
    LdS w ⟨s, 0, none⟩ fun t => Ix t.a t.l x fun b o => LdI .i64 w ⟨b, o + Int.toNat x * 8 + k, none⟩ K := by
  obtain ⟨bty, bre, sfs, svs, h1', h2, h3, _⟩ := h.ex
  have hne : ns.length ≠ 0 := by omega
  have ht : Blk w tb (ns.flatMap ndV) := (h1'.lc (tb, ns.flatMap ndV) (by simp [tloc, hne])).1
  refine ldS h3 rfl ?_
  simp only [tsl, if_neg hne]
  obtain ⟨m', rfl⟩ : ∃ q : Nat, x = q := ⟨x.toNat, by omega⟩
  refine ix rfl (by omega) (by omega) ?_
  refine ldI ht ?_ hK
  rw [Nat.zero_add, Int.toNat_natCast, ndCell (by omega) hk]
  exact hm
theorem CMem.ndName {x : Int} {K : ByteArray → Prop} (h : CMem ns w0 s tb st e q L w) (h0 : 0 ≤ x) (h1 : x < ns.length) (hK : K (ndAt ns x).name) :
    LdS w ⟨s, 0, none⟩ fun t => Ix t.a t.l x fun b o => LdStr w ⟨b, o + Int.toNat x * 8 + 7, none⟩ K := by
  obtain ⟨bty, bre, sfs, svs, h1', h2, h3, _⟩ := h.ex
  have hne : ns.length ≠ 0 := by omega
  have ht : Blk w tb (ns.flatMap ndV) := (h1'.lc (tb, ns.flatMap ndV) (by simp [tloc, hne])).1
  refine ldS h3 rfl ?_
  simp only [tsl, if_neg hne]
  obtain ⟨m', rfl⟩ : ∃ q : Nat, x = q := ⟨x.toNat, by omega⟩
  refine ix rfl (by omega) (by omega) ?_
  refine ldStr ht ?_ hK
  rw [Nat.zero_add, Int.toNat_natCast, ndCell (by omega) (by omega)]
  rfl
/-- All of a node, laid into a local block. -/
theorem CMem.ndAll {x : Int} {ty : TypeId} {K : Nat → World → Prop} (h : CMem ns w0 s tb st e q L w) (h0 : 0 ≤ x) (h1 : x < ns.length) (hK : ∀ p w', CMem ns w0 s tb st e q ((p, ndV (ndAt ns x)) :: L) w' → K p w') :
    LdS w ⟨s, 0, none⟩ fun t => Ix t.a t.l x fun b o => LdI .i64 w ⟨b, o + Int.toNat x * 8, none⟩ fun x0 => LdI .i64 w ⟨b, o + Int.toNat x * 8 + 1, none⟩ fun x1 => LdI .i64 w ⟨b, o + Int.toNat x * 8 + 2, none⟩ fun x2 => LdI .i64 w ⟨b, o + Int.toNat x * 8 + 3, none⟩ fun x3 => LdI .i64 w ⟨b, o + Int.toNat x * 8 + 4, none⟩ fun x4 => LdI .i64 w ⟨b, o + Int.toNat x * 8 + 5, none⟩ fun x5 => LdI .i64 w ⟨b, o + Int.toNat x * 8 + 6, none⟩ fun x6 => LdStr w ⟨b, o + Int.toNat x * 8 + 7, none⟩ fun x7 =>
    New w (.cells #[.int .i64 0, .int .i64 0, .int .i64 0, .int .i64 0, .int .i64 0, .int .i64 0, .int .i64 0, .string ⟨#[]⟩] ty) fun p w =>
    St1 w ⟨p, 0, none⟩ (.int .i64 x0) fun w => St1 w ⟨p, 1, none⟩ (.int .i64 x1) fun w => St1 w ⟨p, 2, none⟩ (.int .i64 x2) fun w => St1 w ⟨p, 3, none⟩ (.int .i64 x3) fun w =>
    St1 w ⟨p, 4, none⟩ (.int .i64 x4) fun w => St1 w ⟨p, 5, none⟩ (.int .i64 x5) fun w => St1 w ⟨p, 6, none⟩ (.int .i64 x6) fun w => St1 w ⟨p, 7, none⟩ (.string x7) fun w => K p w := by
  obtain ⟨bty, bre, sfs, svs, h1', h2, h3, _⟩ := h.ex
  have hne : ns.length ≠ 0 := by omega
  have ht : Blk w tb (ns.flatMap ndV) := (h1'.lc (tb, ns.flatMap ndV) (by simp [tloc, hne])).1
  refine ldS h3 rfl ?_
  simp only [tsl, if_neg hne]
  obtain ⟨m', rfl⟩ : ∃ q : Nat, x = q := ⟨x.toNat, by omega⟩
  have cell : ∀ k, k < 8 → (ns.flatMap ndV)[m' * 8 + k]? = (ndV (ndAt ns (m' : Int)))[k]? := fun k hk => ndCell (by omega) hk
  refine ix rfl (by omega) (by omega) ?_
  rw [Nat.zero_add, Int.toNat_natCast]
  refine ldI ht (m := (ndAt ns (m' : Int)).kind) ((cell 0 (by omega)).trans rfl) ?_
  refine ldI ht (m := (ndAt ns (m' : Int)).a) ((cell 1 (by omega)).trans rfl) ?_
  refine ldI ht (m := (ndAt ns (m' : Int)).b) ((cell 2 (by omega)).trans rfl) ?_
  refine ldI ht (m := (ndAt ns (m' : Int)).c) ((cell 3 (by omega)).trans rfl) ?_
  refine ldI ht (m := (ndAt ns (m' : Int)).next) ((cell 4 (by omega)).trans rfl) ?_
  refine ldI ht (m := (ndAt ns (m' : Int)).val) ((cell 5 (by omega)).trans rfl) ?_
  refine ldI ht (m := (ndAt ns (m' : Int)).pos) ((cell 6 (by omega)).trans rfl) ?_
  refine ldStr ht (m := (ndAt ns (m' : Int)).name) ((cell 7 (by omega)).trans rfl) ?_
  refine newNode (n := ndAt ns (m' : Int)) fun w' b f sz => ?_
  exact hK _ w' (h.new f (Nat.le_refl _) b)
/-- A field of a function's record. -/
theorem CMem.fn {i : Int} {k : Nat} {m : Int} {K : Int → Prop} (h : CMem ns w0 s tb st e q L w) (h0 : 0 ≤ i) (h1 : i < st.fs.length) (hk : k < 7) (hm : (fnV (fnAt st.fs i))[k]? = some (.int .i64 m)) (hK : K m) :
    LdS w ⟨s, 3, none⟩ fun t => Ix t.a t.l i fun b o => LdI .i64 w ⟨b, o + Int.toNat i * 7 + k, none⟩ K := by
  obtain ⟨bty, bre, sfs, svs, h1', h2, h3, h4, h5, h6, h7⟩ := h.ex
  refine ldS h3 rfl ?_
  obtain ⟨m', rfl⟩ : ∃ q : Nat, i = q := ⟨i.toNat, by omega⟩
  have hl := h6.len
  rw [fns_len] at hl
  rcases h6 with ⟨e1, e2⟩ | ⟨g, c1, c2, c3, junk, c4, c5⟩
  · have := congrArg List.length e2
    rw [fns_len] at this
    simp at this
    omega
  refine ix c1 (by omega) (by dsimp only; omega) ?_
  refine ldI c4 ?_ hK
  rw [Nat.zero_add, Int.toNat_natCast, List.getElem?_append_left (by rw [fns_len]; omega), fnCell (by omega) hk]
  exact hm
/-- A write to the registers of the record. -/
theorem CMem.reg {i : Nat} {v : Value} {K : World → Prop} {st' : CS} {e' q' : Int} (h : CMem ns w0 s tb st e q L w) (hi : i < 11)
    (hr : ∀ bty bre sfs svs, (cRec ns tb bty bre sfs svs st e q).set i v = cRec ns tb bty bre sfs svs st' e' q') (hv : st'.ty = st.ty ∧ st'.ref = st.ref ∧ st'.fs = st.fs ∧ st'.vs = st.vs) (hi' : CInv ns st')
    (hK : ∀ w', CMem ns w0 s tb st' e' q' L w' → K w') : St1 w ⟨s, i, none⟩ v K := by
  obtain ⟨bty, bre, sfs, svs, h1, h2, h3, h4, h5, h6, h7⟩ := h.ex
  refine Go.Den.st1 h3 (by simpa [cRec] using hi) fun w' b' f z => hK w' ?_
  rw [hr] at b'
  have h2c := h2
  obtain ⟨n1, n2, n3, n4, n5, _⟩ := h2
  have fp : FrP (fun b => b = s) w w' := FrP.of f fun b h1 h2 => by omega
  refine ⟨h.good, h.le, hi', bty, bre, sfs, svs, h1.step0 (fp.mono fun b hb => .inl hb), h2c, b', by rw [hv.1]; exact h4.fr f (by omega), by rw [hv.2.1]; exact h5.fr f (by omega), ?_, ?_⟩
  · rw [hv.2.2.1]; exact h6.frp fp fun b hb e => n4 (by rw [← e]; exact hb)
  · rw [hv.2.2.2]; exact h7.frp fp fun b hb e => n5 (by rw [← e]; exact hb)
/-- ty[x] = t. -/
theorem CMem.setTy {x t : Int} {K : World → Prop} (h : CMem ns w0 s tb st e q L w) (h0 : 0 ≤ x) (h1 : x < ns.length) (hK : ∀ w', CMem ns w0 s tb { st with ty := st.ty.set x.toNat t } e q L w' → K w') :
    LdS w ⟨s, 1, none⟩ fun l => Ix l.a l.l x fun b o => St1 w ⟨b, o + Int.toNat x * 1, none⟩ (.int .i64 t) K := by
  obtain ⟨bty, bre, sfs, svs, h1', h2, h3, h4, h5, h6, h7⟩ := h.ex
  refine ldS h3 rfl (ix rfl h0 (by dsimp only; omega) ?_)
  have hl := h.inv.tl
  refine stA h4 (by omega) fun w' b' f z => hK w' ?_
  obtain ⟨n1, n2, n3, n4, n5, n6, n7, n8, n9, n10⟩ := h2
  have fp : FrP (fun b => b = bty) w w' := FrP.of f fun b h1 h2 => by omega
  refine ⟨h.good, h.le, ⟨by simpa using hl, h.inv.rl, h.inv.ti.of rfl rfl, h.inv.fl, h.inv.fnd, h.inv.fpp, h.inv.fpl, h.inv.fdn, h.inv.ci, h.inv.cr, h.inv.lv⟩, bty, bre, sfs, svs, h1'.step0 (fp.mono fun b hb => .inr (.inl hb)), ⟨n1, n2, n3, n4, n5, n6, n7, n8, n9, n10⟩, h3.fr f (by omega), b', h5.fr f (by omega), h6.frp fp fun b hb e => n6 (by rw [← e]; exact hb), h7.frp fp fun b hb e => n8 (by rw [← e]; exact hb)⟩
theorem CMem.setRef {x t : Int} {K : World → Prop} (h : CMem ns w0 s tb st e q L w) (h0 : 0 ≤ x) (h1 : x < ns.length) (hK : ∀ w', CMem ns w0 s tb (setRef x t st) e q L w' → K w') :
    LdS w ⟨s, 2, none⟩ fun l => Ix l.a l.l x fun b o => St1 w ⟨b, o + Int.toNat x * 1, none⟩ (.int .i64 t) K := by
  obtain ⟨bty, bre, sfs, svs, h1', h2, h3, h4, h5, h6, h7⟩ := h.ex
  refine ldS h3 rfl (ix rfl h0 (by dsimp only; omega) ?_)
  have hl := h.inv.rl
  refine stA h5 (by omega) fun w' b' f z => hK w' ?_
  obtain ⟨n1, n2, n3, n4, n5, n6, n7, n8, n9, n10⟩ := h2
  have fp : FrP (fun b => b = bre) w w' := FrP.of f fun b h1 h2 => by omega
  refine ⟨h.good, h.le, ⟨h.inv.tl, by simpa [Go.Proofs.Qxb6500562aGreat.setRef] using hl, h.inv.ti.of rfl rfl, h.inv.fl, h.inv.fnd, h.inv.fpp, h.inv.fpl, h.inv.fdn, h.inv.ci, h.inv.cr, h.inv.lv⟩, bty, bre, sfs, svs, h1'.step0 (fp.mono fun b hb => .inr (.inr (.inl hb))), ⟨n1, n2, n3, n4, n5, n6, n7, n8, n9, n10⟩, h3.fr f (by omega), h4.fr f (by omega), b', h6.frp fp fun b hb e => n7 (by rw [← e]; exact hb), h7.frp fp fun b hb e => n9 (by rw [← e]; exact hb)⟩
end Go.Proofs.Qxb6500562aGreat
