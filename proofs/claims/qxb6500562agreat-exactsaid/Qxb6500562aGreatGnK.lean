/-
  The code generator: Run, Compile, New; the tower.
-/
import Derived.Test.Qxb6500562aGreatGnJ
namespace Go.Proofs.Qxb6500562aGreat
open Go.Den Go.Zip
set_option linter.unusedVariables false
set_option linter.unusedSimpArgs false
variable {w w' : World} {g : Nat} {P : Prg} {O O' : Nat → Prop} {hs en : List Int} {ck m : Nat} {L : List Sym} {x : Int} {inp : List Int} {ps ar lx gb h : Nat} {Og Ov Og' Ov' : Nat → Prop}

theorem OutS.nil {n0 : Nat} : OutS n0 O w nilS [] := .inl ⟨rfl, rfl⟩
theorem GZ.ptr {K : Nat → Prop} (z : GZ w g ck m Og) (hK : K ck) : LdP w ⟨g, 0, none⟩ K := by
  obtain ⟨f, Z, V, x, p, rfl⟩ := z
  exact ldP x.rc (by rw [tab_get (by omega), p.1]) hK
theorem GZ.ptr1 {K : Nat → Prop} (z : GZ w g ck m Og) (hK : K m) : LdP w ⟨g, 1, none⟩ K := by
  obtain ⟨f, Z, V, x, p, rfl⟩ := z
  exact ldP x.rc (by rw [tab_get (by omega), p.2]) hK
/-- Check, compile, image: the common half of Run and Compile. -/
theorem EN.check {src : ByteArray} {K : Sl → Int → Int → Int → Sl → Sl → Sl → Int → Int → Int → World → Prop} (e : EN w g ck ps ar lx gb m h Og Ov) (hsz : src.size < 9223372036854775808)
    (hK : ∀ nodes root terr tpos ty ref funcs main er pos w' gb' res, EN w' g ck ps ar lx gb' m h Og Ov → Gw (eO ck ps ar lx gb Og Ov) w (eO ck ps ar lx gb' Og Ov) w' → CkA src res → CkOut w.heap.size w' res nodes root terr tpos ty ref funcs main er pos → K nodes root terr tpos ty ref funcs main er pos w') :
    S.check_Checker_Check ck src w K :=
  rcheck_spec e.c hsz fun nodes root terr tpos ty ref funcs main er pos w' gb' res c F hg A o hne => by
    obtain ⟨e', G⟩ := e.movC c F hg
    exact hK nodes root terr tpos ty ref funcs main er pos w' gb' res e' G A o
theorem EN.compile {nodes ty ref funcs : Sl} {root terr tpos pos : Int} {n0 : Nat} {K : World → Prop} (e : EN w g ck ps ar lx gb m h Og Ov) (pt : PT P.ns P.st P.main) (hn0 : ∀ b, Og b → b < n0) {main er : Int} (o : CkOut n0 w (.ok P) nodes root terr tpos ty ref funcs main er pos)
    (hK : ∀ w' Og' en, EN w' g ck ps ar lx gb m h Og' Ov → Gw (eO ck ps ar lx gb Og Ov) w (eO ck ps ar lx gb Og' Ov) w' → GQ w' g ck m P (pCode P) [] (callsOf 0 (sAll P.ns P.st.ty P.st.ref P.st.fs P.main)) en Og' → en.length = P.st.fs.length → (∀ k : Int, 0 ≤ k → k < en.length → en.getD k.toNat (-1) = ((entA P.ns P.st.ty P.st.ref P.st.fs P.main k : Nat) : Int)) → K w') :
    S.gen_Engine_compile g nodes root terr tpos ty ref funcs main er pos w K := by
  obtain ⟨_, _, _, rfl, _, _, _, h200, b1, b2, b3, b4, m1, m2, m3, m4, q1, n1, q2, n2, q3, n3, q4, n4⟩ := o
  refine compile_spec e.z.z pt h200 q1 n1 q2 n2 q3 n3 q4 n4 ⟨fun hb => by have := hn0 _ hb; omega, fun hb => by have := hn0 _ hb; omega, fun hb => by have := hn0 _ hb; omega, fun hb => by have := hn0 _ hb; omega⟩ fun w' O' en q G h1 h2 => ?_
  obtain ⟨e', G'⟩ := e.movG (q.y (pFine pt h200 h1 h2)) G
  exact hK w' O' en e' G' q h1 h2
theorem CkOut.fr {n0 : Nat} {res : Except (Int × Int) Prg} {nodes ty ref funcs : Sl} {root terr tpos main er pos : Int} {p n : Nat} (o : CkOut n0 w res nodes root terr tpos ty ref funcs main er pos) (F : Fr p n w w') (hp : w.heap.size ≤ p) : CkOut n0 w' res nodes root terr tpos ty ref funcs main er pos := by
  cases res with
  | error q => exact o
  | ok P =>
    obtain ⟨a1, a2, a3, a4, a5, a6, a7, a8, b1, b2, b3, b4, m1, m2, m3, m4, q1, n1, q2, n2, q3, n3, q4, n4⟩ := o
    exact ⟨a1, a2, a3, a4, a5, a6, a7, a8, b1, b2, b3, b4, m1, m2, m3, m4, q1, n1.fr F (by have := n1.lt; omega), q2, n2.fr F (by have := n2.lt; omega), q3, n3.fr F (by have := n3.lt; omega), q4, n4.fr F (by have := n4.lt; omega)⟩
set_option maxHeartbeats 1000000 in
theorem grun_spec {src : ByteArray} {input : Sl} {fuel : Int} {K : Int → Int → Int → Int → Sl → Int → World → Prop} (e : EN w g ck ps ar lx gb m h Og Ov) (hi : Src w (eO ck ps ar lx gb Og Ov) input (ints inp)) (hsz : src.size < 9223372036854775808) (fb : -9223372036854775808 ≤ fuel ∧ fuel < 9223372036854775808)
    (hK : ∀ w' gb' Og' Ov' x r, EN w' g ck ps ar lx gb' m h Og' Ov' → Gw (eO ck ps ar lx gb Og Ov) w (eO ck ps ar lx gb' Og' Ov') w' → RunA src inp fuel r → OutS w.heap.size (eO ck ps ar lx gb' Og' Ov') w' x r.out → K r.e r.pos r.en r.rv x r.fuel w') : S.gen_Engine_Run g src input fuel w K := by
  unfold S.gen_Engine_Run
  refine newB fun w1 c1 f1 s1 => ?_
  have hil : input.l = inp.length := by have := hi.1; simpa [ints] using this.symm
  have e1 := e.fr0 f1
  have hp1 : ¬ eO ck ps ar lx gb Og Ov w.heap.size := fun hb => by have := e.lt hb; omega
  have G1 : Gw (eO ck ps ar lx gb Og Ov) w (eO ck ps ar lx gb Og Ov) w1 := Gw.new f1
  generalize hpp : w.heap.size = p1 at *
  have fin : ∀ {a0 a1 : Int}, RunA src inp fuel ⟨a0, a1, 0, 0, [], fuel⟩ → ∀ {u : World} {vs : List Value} {gb' : Nat} {Og' Ov' : Nat → Prop}, EN u g ck ps ar lx gb' m h Og' Ov' → Gw (eO ck ps ar lx gb Og Ov) w (eO ck ps ar lx gb' Og' Ov') u → Blk u p1 vs → vs.length = 6 → ¬ eO ck ps ar lx gb' Og' Ov' p1 →
      St1 u ⟨p1, 0, none⟩ (.int .i64 a0) fun w => St1 w ⟨p1, 1, none⟩ (.int .i64 a1) fun w => St1 w ⟨p1, 2, none⟩ (.int .i64 0) fun w => St1 w ⟨p1, 3, none⟩ (.int .i64 0) fun w => St1 w ⟨p1, 4, none⟩ (.slice none 0 0) fun w => St1 w ⟨p1, 5, none⟩ (.int .i64 fuel) fun w =>
      LdI .i64 w ⟨p1, 0, none⟩ fun x0 => LdI .i64 w ⟨p1, 1, none⟩ fun x1 => LdI .i64 w ⟨p1, 2, none⟩ fun x2 => LdI .i64 w ⟨p1, 3, none⟩ fun x3 => LdS w ⟨p1, 4, none⟩ fun x4 => LdI .i64 w ⟨p1, 5, none⟩ fun x5 => K x0 x1 x2 x3 x4 x5 w := by
    intro a0 a1 hr u vs gb' Og' Ov' eu Gu cu hl hn
    refine lay6 (a4 := nilS) cu hl fun u2 c2 f2 s2 => read6 (a4 := nilS) c2 ?_
    have F2 : FrP (fun b => b = p1) u u2 := FrP.of f2 fun b h1 h2 => by omega
    have e2 : EN u2 g ck ps ar lx gb' m h Og' Ov' := ⟨eu.c.frp F2 fun b hb e => hn (.inr (.inr (e ▸ hb))), eu.v.frp F2 fun b hb e => hn (.inr (.inl (e ▸ hb))), eu.z.frp F2 fun b hb e => hn (.inl (e ▸ hb)), eu.gv, eu.gc, eu.vc⟩
    exact hK u2 gb' Og' Ov' nilS ⟨a0, a1, 0, 0, [], fuel⟩ e2 ⟨Gu.1.trans' F2 fun b e => .inr (by omega), Gu.2⟩ hr OutS.nil
  by_cases h1 : 4096 < src.size
  · rw [if_pos (by simp only [decide_eq_true_eq]; omega)]
    exact fin (.inl ⟨h1, rfl⟩) e1 G1 c1 rfl hp1
  rw [if_neg (by simp only [decide_eq_true_eq]; omega)]
  by_cases h2 : 128 < inp.length
  · rw [if_pos (by simp only [decide_eq_true_eq]; omega)]
    exact fin (.inr (.inl ⟨by omega, h2, rfl⟩)) e1 G1 c1 rfl hp1
  rw [if_neg (by simp only [decide_eq_true_eq]; omega)]
  refine e1.z.z.ptr (e1.check hsz fun nodes root terr tpos ty ref funcs main er pos w2 gb2 res e2 G2 A2 o2 => ?_)
  obtain ⟨c2, hp2⟩ := keepB c1 hp1 G2
  refine newB fun w3 c3 f3 s3 => ?_
  refine set10 c3 rfl fun w4 c4 f4 => ?_
  have F24 : Fr 0 0 w2 w4 := (f3.any _ 1).trans f4 |>.fresh (Nat.le_refl _) 0 0
  have e4 := e2.fr0 F24
  have o4 := o2.fr (w' := w4) (p := w2.heap.size) (n := 1) ((f3.any _ 1).trans f4) (Nat.le_refl _)
  have G4 := (G1.trans G2).trans (Gw.new (O := eO ck ps ar lx gb2 Og Ov) F24)
  obtain ⟨c2', hp2'⟩ := keepB c2 hp2 (Gw.new (O := eO ck ps ar lx gb2 Og Ov) F24)
  have hp4 : ¬ eO ck ps ar lx gb2 Og Ov w2.heap.size := fun hb => by have := e2.lt hb; omega
  generalize hp4' : w2.heap.size = p4 at *
  refine ldI c4 rfl ?_
  cases res with
  | error q =>
    obtain ⟨_, _, _, _, _, _, _, _, rfl, rfl, hne⟩ := o4
    rw [if_pos (by simpa using hne)]
    refine ldI c4 rfl (ldI c4 rfl ?_)
    exact fin (.inr (.inr ⟨by omega, by omega, _, A2, rfl⟩)) e4 G4 c2' rfl hp2'
  | ok P =>
    have oc := o4
    obtain ⟨_, _, _, _, her, _, _, h200, _⟩ := oc
    rw [if_neg (by rw [her]; decide)]
    refine ldS c4 rfl (ldI c4 rfl (ldI c4 rfl (ldI c4 rfl (ldS c4 rfl (ldS c4 rfl (ldS c4 rfl (ldI c4 rfl (ldI c4 rfl (ldI c4 rfl ?_)))))))))
    have pt := A2.pt
    obtain ⟨cl5, cl3⟩ := pCode_len pt h200
    refine e4.compile pt (fun b hb => e1.z.lt hb) o4 fun w5 Og5 en e5 G5 q5 _ _ => ?_
    refine image_spec q5 (by omega) (by omega) fun w6 bI q6 F6 hbI cI => ?_
    have e6 := e5.fr0 F6
    refine e6.z.z.ptr1 ?_
    have G6 := (G4.trans G5).trans (Gw.new (O := eO ck ps ar lx gb2 Og5 Ov) F6)
    obtain ⟨c6, hp6⟩ := keepB c2' hp2' (G5.trans (Gw.new (O := eO ck ps ar lx gb2 Og5 Ov) F6))
    have hi6 := (hi.gw G6).mono (O' := Ov) fun b _ hb => .inr (.inl hb)
    have hc6 : Src w6 Ov ⟨some ⟨bI, 0, none⟩, (pCode P).length, (pCode P).length⟩ (byts (pCode P)) := ⟨by simp [byts], .inr ⟨bI, 0, _, rfl, cI, by rw [List.drop_zero]; exact List.take_of_length_le (by simp [byts]), fun hb => by have := e5.v.lt hb; omega⟩⟩
    refine vrun_spec e6.v hc6 hi6 (pCode_lt P) (by omega) (by omega) fb fun w7 Ov7 s x v7 G7 hm ho => ?_
    obtain ⟨e7, G7'⟩ := e6.movV v7 G7
    have Gall := G6.trans G7'
    obtain ⟨c7, hp7⟩ := keepB c6 hp6 G7'
    refine lay6 c7 rfl fun w8 c8 f8 s8 => read6 c8 ?_
    have F8 : FrP (fun b => b = p1) w7 w8 := FrP.of f8 fun b h1 h2 => by omega
    have e8 : EN w8 g ck ps ar lx gb2 m h Og5 Ov7 := ⟨e7.c.frp F8 fun b hb e => hp7 (.inr (.inr (e ▸ hb))), e7.v.frp F8 fun b hb e => hp7 (.inr (.inl (e ▸ hb))), e7.z.frp F8 fun b hb e => hp7 (.inl (e ▸ hb)), e7.gv, e7.gc, e7.vc⟩
    refine hK w8 gb2 Og5 Ov7 x ⟨0, 0, s.en, s.rv, s.out, s.fuel⟩ e8 ⟨Gall.1.trans' F8 fun b e => .inr (by omega), Gall.2⟩ (.inr (.inr ⟨by omega, by omega, _, A2, s, hm, rfl⟩)) ?_
    rcases ho with ⟨z1, z2⟩ | ⟨z1, b, z2, z3, z4, z5⟩
    · exact .inl ⟨z1, z2⟩
    · have up6 : p1 ≤ w6.heap.size := by have := G6.1.1.1; omega
      have up1 : p1 < w1.heap.size := c1.lt
      have up16 : w1.heap.size ≤ w6.heap.size := (G2.trans ((Gw.new (O := eO ck ps ar lx gb2 Og Ov) F24).trans (G5.trans (Gw.new (O := eO ck ps ar lx gb2 Og5 Ov) F6)))).1.1.1
      refine .inr ⟨z1, b, by omega, ?_, z4, z5.frp F8 fun e => by omega⟩
      rintro (hb | hb | hb)
      · have := e6.z.lt hb; omega
      · exact z3 hb
      · have := e6.c.lt b hb; omega
/-- Compile: an accepted text's code in a list of its own, or the error. -/
def CmpA (n0 : Nat) (O : Nat → Prop) (w : World) (res : Except (Int × Int) Prg) (x : Sl) (e pos : Int) : Prop :=
  match res with
  | .error q => x = nilS ∧ e = q.1 ∧ pos = q.2 ∧ e ≠ 0
  | .ok P => e = 0 ∧ pos = 0 ∧ P.ns.length ≤ 200 ∧ ∃ b, n0 ≤ b ∧ ¬ O b ∧ x = ⟨some ⟨b, 0, none⟩, (pCode P).length, (pCode P).length⟩ ∧ Blk w b (byts (pCode P))
set_option maxHeartbeats 1000000 in
theorem gcompile_spec {src : ByteArray} {K : Sl → Int → Int → World → Prop} (e : EN w g ck ps ar lx gb m h Og Ov) (hsz : src.size < 9223372036854775808)
    (hK : ∀ w' gb' Og' x er pos res, EN w' g ck ps ar lx gb' m h Og' Ov → Gw (eO ck ps ar lx gb Og Ov) w (eO ck ps ar lx gb' Og' Ov) w' → CkA src res → CmpA w.heap.size (eO ck ps ar lx gb' Og' Ov) w' res x er pos → K x er pos w') : S.gen_Engine_Compile g src w K := by
  unfold S.gen_Engine_Compile
  refine e.z.z.ptr (e.check hsz fun nodes root terr tpos ty ref funcs main er pos w2 gb2 res e2 G2 A2 o2 => ?_)
  refine newB fun w3 c3 f3 s3 => ?_
  refine set10 c3 rfl fun w4 c4 f4 => ?_
  have F24 : Fr 0 0 w2 w4 := (f3.any _ 1).trans f4 |>.fresh (Nat.le_refl _) 0 0
  have e4 := e2.fr0 F24
  have o4 := o2.fr (w' := w4) (p := w2.heap.size) (n := 1) ((f3.any _ 1).trans f4) (Nat.le_refl _)
  have G4 := G2.trans (Gw.new (O := eO ck ps ar lx gb2 Og Ov) F24)
  generalize hp4' : w2.heap.size = p4 at *
  refine ldI c4 rfl ?_
  cases res with
  | error q =>
    obtain ⟨_, _, _, _, _, _, _, _, rfl, rfl, hne⟩ := o4
    rw [if_pos (by simpa using hne)]
    refine drew_ (ldI c4.drew rfl (ldI c4.drew rfl ?_))
    exact hK _ gb2 Og nilS _ _ _ (e4.fr0 (Fr.refl 0 0 w4).drew) G4.drew A2 ⟨rfl, rfl, rfl, hne⟩
  | ok P =>
    have oc := o4
    obtain ⟨_, _, _, _, her, _, _, h200, _⟩ := oc
    rw [if_neg (by rw [her]; decide)]
    refine ldS c4 rfl (ldI c4 rfl (ldI c4 rfl (ldI c4 rfl (ldS c4 rfl (ldS c4 rfl (ldS c4 rfl (ldI c4 rfl (ldI c4 rfl (ldI c4 rfl ?_)))))))))
    have pt := A2.pt
    obtain ⟨cl5, cl3⟩ := pCode_len pt h200
    refine e4.compile pt (fun b hb => e.z.lt hb) o4 fun w5 Og5 en e5 G5 q5 _ _ => ?_
    refine image_spec q5 (by omega) (by omega) fun w6 bI q6 F6 hbI cI => ?_
    have e6 := e5.fr0 F6
    have G6 := (G4.trans G5).trans (Gw.new (O := eO ck ps ar lx gb2 Og5 Ov) F6)
    refine hK w6 gb2 Og5 _ 0 0 _ e6 G6 A2 ⟨rfl, rfl, h200, bI, by have := (G4.trans G5).1.1.1; omega, fun hb => ?_, rfl, cI⟩
    have := e5.lt hb
    omega
theorem gnew_spec {Ov : Nat → Prop} {K : Nat → World → Prop} (c : CKE w ck ps ar lx gb) (v : VI w m h Ov) (hd : ∀ b, Ov b → ¬ co ck ps ar lx gb b) (hK : ∀ w' g, EN w' g ck ps ar lx gb m h (fun b => b = g) Ov → Fr 0 0 w w' → w.heap.size ≤ g → K g w') : S.gen_New ck m w K := by
  unfold S.gen_New
  refine newB fun w1 c1 f1 s1 => ?_
  refine hK w1 w.heap.size ?_ f1 (Nat.le_refl _)
  have F1 : FrP (fun _ => False) w w1 := FrP.of0 f1
  generalize hv : Array.toList _ = vs at c1
  have hlv : vs.length = 16 := by rw [← hv]; rfl
  have e : vs = tab 16 (fun i => vs.getD i (.bool false)) := tab_ext hlv fun i hi => by simp [List.getD, hlv, hi]
  rw [e] at c1
  have ho : (fun b => b = w.heap.size) = gO w.heap.size (fun _ => nilS) := by
    funext b
    unfold gO
    simp [owns]
  refine ⟨c.frp F1 fun _ _ h => h, v.frp F1 fun _ _ h => h, ⟨_, fun _ => nilS, [], [], [], ⟨c1, fun j h1 h2 _ => ?_, fun j h1 h2 => by rcases (by omega : j = 12 ∨ j = 13 ∨ j = 14 ∨ j = 15) with rfl | rfl | rfl | rfl <;> exact OS.nil _ _, fun j h1 h2 b hb => (by simp [owns] at hb), fun i j _ _ _ _ _ b hb => (by simp [owns] at hb)⟩, ⟨by rw [← hv]; rfl, by rw [← hv]; rfl⟩, ho, fine0⟩, fun b hb hv => ?_, fun b hb hv => ?_, hd⟩
  · rcases (by omega : j = 12 ∨ j = 13 ∨ j = 14 ∨ j = 15) with rfl | rfl | rfl | rfl <;> (rw [← hv]; rfl)
  · have := v.lt hv; omega
  · have := c.lt b hv; omega
theorem machine_spec {K : Nat → World → Prop} (hK : ∀ w' m h, VI w' m h (fun b => b = m ∨ b = h) → Fr 0 0 w w' → w.heap.size ≤ m → w.heap.size ≤ h → K m w') : S.tower_Machine w K := by
  unfold S.tower_Machine
  refine RS.new fun w1 h r1 f1 g1 => vnew_spec r1 fun w2 m v2 f2 g2 => ?_
  refine hK w2 m h ?_ (f1.trans f2) (by have := f1.1.1; omega) g1
  have : vmo m h nilS nilS nilS = fun b => b = m ∨ b = h := by funext b; exact propext (vmo_nil b)
  rw [← this]; exact v2
/-- A fresh tower. -/
theorem tower_spec {K : Nat → World → Prop} (hK : ∀ w' g ck ps ar lx gb m h Og Ov, EN w' g ck ps ar lx gb m h Og Ov → (∀ b, eO ck ps ar lx gb Og Ov b → w.heap.size ≤ b) → Fr 0 0 w w' → K g w') : S.tower_New w K := by
  unfold S.tower_New
  refine lex_New_spec fun w1 l gb x1 f1 a1 a2 => ?_
  refine rparse_New x1 fun w2 p ar x2 f2 b1 b2 => ?_
  refine rcheck_New x2 fun w3 c x3 f3 d1 => ?_
  have z1 := f1.1.1; have z2 := f2.1.1; have z3 := f3.1.1
  refine machine_spec fun w4 m h v4 f4 e1 e2 => ?_
  have z4 := f4.1.1
  have c4 := x3.frp (FrP.of0 (P := fun _ => False) f4) fun _ _ h => h
  refine gnew_spec c4 v4 (fun b hb hc => ?_) fun w5 g e5 f5 d5 => ?_
  · have := x3.lt b hc
    rcases hb with rfl | rfl <;> omega
  · refine hK w5 g c p ar l gb m h _ _ e5 ?_ ((((f1.trans f2).trans f3).trans f4).trans f5)
    rintro b (rfl | (rfl | rfl) | (rfl | rfl | rfl | rfl | rfl)) <;> omega
end Go.Proofs.Qxb6500562aGreat
