/-
  The pager: its frames.
-/
import Derived.Test.Qxb6500564aGreatWalB
namespace Go.Proofs.Qxb6500564aGreat
open Go.Den Go.Zip
set_option linter.unusedVariables false
set_option linter.unusedSimpArgs false

structure Frm where
  page : Nat
  valid : Bool
  dirty : Bool
  data : Bk
def frm0 : Frm := ⟨0, false, false, ⟨#[]⟩⟩
def frV (f : Frm) : List Value := [.int .i64 (f.page : Nat), .bool f.valid, .bool f.dirty, .string f.data]
def pgV (l : Nat) (op : Bool) (fs : List Frm) (ord : List Int) : List Value := [ptrV l, .bool op] ++ fs.flatMap frV ++ ints ord
variable {w w' : World} {p l : Nat} {op : Bool} {fs : List Frm} {ord : List Int} {D B : List Bk} {R ws : List Wr} {O O' : Nat → Prop} {i n : Nat}

theorem fr_len (fs : List Frm) : (fs.flatMap frV).length = fs.length * 4 := flat_length (c := 4) (fun _ => rfl) _
theorem pgV_len (h : fs.length = 5) (h2 : ord.length = 5) : (pgV l op fs ord).length = 27 := by
  unfold pgV
  rw [List.length_append, List.length_append, fr_len, h, ints_length, h2]; rfl
theorem pgV_fr {k : Nat} {f : Frm} (h : fs.length = 5) (hi : fs[i]? = some f) (hk : k < 4) : (pgV l op fs ord)[2 + i * 4 + k]? = (frV f)[k]? := by
  have hl : i < 5 := by rw [← h]; exact (List.getElem?_eq_some_iff.1 hi).1
  unfold pgV
  rw [List.append_assoc, List.getElem?_append_right (by simp; omega), List.getElem?_append_left (by rw [fr_len]; simp; omega)]
  simp only [List.length_cons, List.length_nil]
  rw [show 2 + i * 4 + k - (0 + 1 + 1) = i * 4 + k by omega, flat_get (c := 4) (fun _ => rfl) _ _ _ hk, hi]; rfl
theorem pgV_ord (h : fs.length = 5) (hi : i < 5) : (pgV l op fs ord)[22 + i]? = (ints ord)[i]? := by
  unfold pgV
  have e : ([ptrV l, .bool op] ++ fs.flatMap frV).length = 22 := by rw [List.length_append, fr_len, h]; rfl
  rw [List.getElem?_append_right (by omega), e, show 22 + i - 22 = i by omega]
theorem flat_set4 : ∀ (fs : List Frm) (i k : Nat) (f : Frm) (v : Value), fs[i]? = some f → k < 4 → (fs.flatMap frV).set (i * 4 + k) v = (fs.take i).flatMap frV ++ (frV f).set k v ++ (fs.drop (i + 1)).flatMap frV
  | [], i, k, f, v, h, _ => by simp at h
  | x :: fs, 0, k, f, v, h, hk => by
    simp only [List.getElem?_cons_zero, Option.some.injEq] at h
    subst h
    simp only [List.flatMap_cons, List.take_zero, List.flatMap_nil, List.nil_append, Nat.zero_mul, Nat.zero_add, List.drop_succ_cons, List.drop_zero]
    exact List.set_append_left _ _ (by show k < 4; exact hk)
  | x :: fs, i + 1, k, f, v, h, hk => by
    rw [List.getElem?_cons_succ] at h
    have ih := flat_set4 fs i k f v h hk
    rw [List.flatMap_cons, List.set_append_right _ _ (by show 4 ≤ _; omega), show (i + 1) * 4 + k - (frV x).length = i * 4 + k by show _ - 4 = _; omega, ih]
    simp [List.flatMap_cons, List.append_assoc]
theorem flat_put : ∀ (fs : List Frm) (i : Nat) (f g : Frm), fs[i]? = some f → (fs.take i).flatMap frV ++ frV g ++ (fs.drop (i + 1)).flatMap frV = (fs.set i g).flatMap frV
  | [], i, f, g, h => by simp at h
  | x :: fs, 0, f, g, h => by simp [List.flatMap_cons]
  | x :: fs, i + 1, f, g, h => by
    rw [List.getElem?_cons_succ] at h
    have ih := flat_put fs i f g h
    simp only [List.take_succ_cons, List.flatMap_cons, List.drop_succ_cons, List.set_cons_succ, List.append_assoc] at ih ⊢
    rw [ih]
/-- One cell of a frame. -/
theorem pgV_set {k : Nat} {f g : Frm} {v : Value} (h : fs.length = 5) (hi : fs[i]? = some f) (hk : k < 4) (hg : (frV f).set k v = frV g) : (pgV l op fs ord).set (2 + i * 4 + k) v = pgV l op (fs.set i g) ord := by
  have hl : i < 5 := by rw [← h]; exact (List.getElem?_eq_some_iff.1 hi).1
  unfold pgV
  rw [List.append_assoc, List.set_append_right _ _ (by simp; omega), List.set_append_left _ _ (by rw [fr_len]; simp; omega)]
  simp only [List.length_cons, List.length_nil]
  rw [show 2 + i * 4 + k - (0 + 1 + 1) = i * 4 + k by omega, flat_set4 fs i k f v hi hk, hg, flat_put fs i f g hi, List.append_assoc]
theorem pgV_setO {v : Int} (h : fs.length = 5) (hi : i < 5) (ho : ord.length = 5) : (pgV l op fs ord).set (22 + i) (.int .i64 v) = pgV l op fs (ord.set i v) := by
  unfold pgV
  have e : ([ptrV l, .bool op] ++ fs.flatMap frV).length = 22 := by rw [List.length_append, fr_len, h]; rfl
  rw [List.set_append_right _ _ (by omega), e, show 22 + i - 22 = i by omega, ints_set]
theorem o4 {i : Nat} : 2 + Int.toNat (i : Int) * 4 = 2 + i * 4 := by rw [Int.toNat_natCast]
/-- All four cells of a frame. -/
theorem stFr {g : Frm} {K : World → Prop} (hb : Blk w p (pgV l op fs ord)) (h : fs.length = 5) (ho : ord.length = 5) (hi : i < 5) (hK : ∀ w', Blk w' p (pgV l op (fs.set i g) ord) → Fr p 1 w w' → K w') :
    St1 w ⟨p, 2 + Int.toNat ((i : Nat) : Int) * 4, none⟩ (.int .i64 (g.page : Nat)) fun w => St1 w ⟨p, 2 + Int.toNat ((i : Nat) : Int) * 4 + 1, none⟩ (.bool g.valid) fun w => St1 w ⟨p, 2 + Int.toNat ((i : Nat) : Int) * 4 + 2, none⟩ (.bool g.dirty) fun w => St1 w ⟨p, 2 + Int.toNat ((i : Nat) : Int) * 4 + 3, none⟩ (.string g.data) K := by
  rw [o4]
  have hf : fs[i]? = some (fs[i]'(by omega)) := List.getElem?_eq_getElem (by omega)
  generalize (fs[i]'(by omega)) = f at *
  have hl := pgV_len (l := l) (op := op) h ho
  have e0 : (pgV l op fs ord).set (2 + i * 4) (.int .i64 (g.page : Nat)) = pgV l op (fs.set i { f with page := g.page }) ord := pgV_set (k := 0) h hf (by omega) rfl
  refine st1 hb (by rw [hl]; omega) fun w1 c1 f1 s1 => ?_
  rw [e0] at c1
  have h1 : (fs.set i { f with page := g.page }).length = 5 := by rw [List.length_set]; exact h
  have hf1 : (fs.set i { f with page := g.page })[i]? = some { f with page := g.page } := List.getElem?_set_self (by omega)
  have e1 := pgV_set (l := l) (op := op) (ord := ord) (k := 1) (v := .bool g.valid) (g := { f with page := g.page, valid := g.valid }) h1 hf1 (by omega) rfl
  refine st1 c1 (by rw [pgV_len h1 ho]; omega) fun w2 c2 f2 s2 => ?_
  rw [e1, List.set_set] at c2
  have h2 : (fs.set i { f with page := g.page, valid := g.valid }).length = 5 := by rw [List.length_set]; exact h
  have hf2 : (fs.set i { f with page := g.page, valid := g.valid })[i]? = some { f with page := g.page, valid := g.valid } := List.getElem?_set_self (by omega)
  have e2 := pgV_set (l := l) (op := op) (ord := ord) (k := 2) (v := .bool g.dirty) (g := { f with page := g.page, valid := g.valid, dirty := g.dirty }) h2 hf2 (by omega) rfl
  refine st1 c2 (by rw [pgV_len h2 ho]; omega) fun w3 c3 f3 s3 => ?_
  rw [e2, List.set_set] at c3
  have h3 : (fs.set i { f with page := g.page, valid := g.valid, dirty := g.dirty }).length = 5 := by rw [List.length_set]; exact h
  have hf3 : (fs.set i { f with page := g.page, valid := g.valid, dirty := g.dirty })[i]? = some { f with page := g.page, valid := g.valid, dirty := g.dirty } := List.getElem?_set_self (by omega)
  have e3 := pgV_set (l := l) (op := op) (ord := ord) (k := 3) (v := .string g.data) (g := g) h3 hf3 (by omega) rfl
  refine st1 c3 (by rw [pgV_len h3 ho]; omega) fun w4 c4 f4 s4 => ?_
  rw [e3, List.set_set] at c4
  exact hK w4 c4 (((f1.trans f2).trans f3).trans f4)
def OrdOk (ord : List Int) : Prop := ord.length = 5 ∧ ∀ x ∈ ord, 0 ≤ x ∧ x < 5
theorem OrdOk.get (h : OrdOk ord) (hi : i < 5) : ∃ g : Nat, g < 5 ∧ ord[i]? = some ((g : Nat) : Int) := by
  have hlt : i < ord.length := by rw [h.1]; exact hi
  have := h.2 ord[i] (List.getElem_mem hlt)
  exact ⟨ord[i].toNat, by omega, by rw [List.getElem?_eq_getElem hlt]; congr 1; omega⟩
theorem OrdOk.set {v : Int} (h : OrdOk ord) (h0 : 0 ≤ v) (h1 : v < 5) (i : Nat) : OrdOk (ord.set i v) := ⟨by rw [List.length_set]; exact h.1, fun x hx => (List.mem_or_eq_of_mem_set hx).elim (h.2 x) fun e => by rw [e]; exact ⟨h0, h1⟩⟩
theorem place_spec {f : Int} {K : Int → World → Prop} (hb : Blk w p (pgV l op fs ord)) (h : fs.length = 5) (ho : OrdOk ord) (hK : ∀ i : Nat, i < 5 → K (i : Nat) w) : S.pager_Pager_place p f w K := by
  unfold S.pager_Pager_place
  refine loopN (fun m st v => ∃ i : Nat, st = ((i : Int), ()) ∧ i + m = 4 ∧ v = w) 4 ⟨0, rfl, by omega, rfl⟩ ?_
  rintro m _ v ⟨i, rfl, hm, rfl⟩ Q hQ
  dsimp only
  refine ifd (fun h1 => ⟨by omega, by omega, ?_⟩) fun h1 => hK i (by omega)
  obtain ⟨g, g1, g2⟩ := ho.get (i := i) (by omega)
  rw [Int.toNat_natCast, Nat.mul_one]
  refine ldI hb (m := ((g : Nat) : Int)) (by rw [pgV_ord h (by omega)]; exact ints_get g2) ?_
  split
  · refine let_ ?_
    rw [W_succ (by omega)]
    exact hQ (m - 1) _ v (by omega) ⟨i + 1, rfl, by omega, rfl⟩
  · exact hK i (by omega)
theorem touch_spec {f : Nat} {K : World → Prop} (hb : Blk w p (pgV l op fs ord)) (h : fs.length = 5) (ho : OrdOk ord) (hf : f < 5) (hK : ∀ w' ord', Blk w' p (pgV l op fs ord') → OrdOk ord' → Fr p 1 w w' → K w') : S.pager_Pager_touch p (f : Nat) w K := by
  unfold S.pager_Pager_touch
  refine place_spec hb h ho fun r hr => ?_
  refine join_W (fun v => ∃ ord', Blk v p (pgV l op fs ord') ∧ OrdOk ord' ∧ Fr p 1 w v) ?_ ?_
  · rintro v ⟨ord', b1, o1', f1⟩
    refine ⟨by omega, by omega, ?_⟩
    refine st1 b1 (by rw [pgV_len h o1'.1]; decide) fun v2 b2 f2 s2 => ?_
    rw [show 22 + Int.toNat 0 * 1 = 22 + 0 from rfl, pgV_setO h (by omega) o1'.1] at b2
    exact hK v2 _ b2 (o1'.set (by omega) (by omega) 0) (f1.trans f2)
  · intro J hJ
    refine loopN (fun m st v => ∃ ord', st = (((m : Nat) : Int), ()) ∧ m < 5 ∧ Blk v p (pgV l op fs ord') ∧ OrdOk ord' ∧ Fr p 1 w v) r ⟨ord, rfl, hr, hb, ho, Fr.refl _ _ _⟩ ?_
    rintro m _ v ⟨ord', rfl, hm, b1, o1', f1⟩ Q hQ
    dsimp only
    refine ifd (fun h1 => ?_) fun h1 => hJ v ⟨ord', b1, o1', f1⟩
    refine drew_ ?_
    have e : W (((m : Nat) : Int) - 1) = ((m - 1 : Nat) : Int) := by rw [W_id (by omega) (by omega)]; omega
    rw [e]
    obtain ⟨g, g1, g2⟩ := o1'.get (i := m - 1) (by omega)
    refine ⟨by omega, by omega, ?_⟩
    rw [Int.toNat_natCast, Nat.mul_one]
    refine ldI b1.drew (m := ((g : Nat) : Int)) (by rw [pgV_ord h (by omega)]; exact ints_get g2) ⟨by omega, by omega, ?_⟩
    rw [Int.toNat_natCast, Nat.mul_one]
    refine st1 b1.drew (by rw [pgV_len h o1'.1]; omega) fun v2 b2 f2 s2 => let_ ?_
    rw [pgV_setO h (by omega) o1'.1] at b2
    exact hQ (m - 1) _ v2 (by omega) ⟨_, rfl, by omega, b2, o1'.set (by omega) (by omega) m, f1.drew.trans f2⟩
theorem find_spec {K : Int → World → Prop} (hb : Blk w p (pgV l op fs ord)) (h : fs.length = 5) (h1 : ∀ i f, fs[i]? = some f → f.valid = true → f.page = n → K (i : Nat) w) (h2 : (∀ f ∈ fs, f.valid = true → f.page ≠ n) → K (-1) w) : S.pager_Pager_find p (n : Nat) w K := by
  unfold S.pager_Pager_find
  refine loopN (fun m st v => ∃ i : Nat, st = ((i : Int), ()) ∧ i + m = 5 ∧ v = w ∧ ∀ j f, j < i → fs[j]? = some f → f.valid = true → f.page ≠ n) 5 ⟨0, rfl, by omega, rfl, fun j f hj => by omega⟩ ?_
  rintro m _ v ⟨i, rfl, hm, rfl, hne⟩ Q hQ
  dsimp only
  refine ifd (fun hi => ?_) fun hi => h2 fun f hf hv => ?_
  · have hi : i < 5 := by omega
    have hg : fs[i]? = some (fs[i]'(by omega)) := List.getElem?_eq_getElem (by omega)
    generalize (fs[i]'(by omega)) = f at *
    rw [join_eq]
    have nx : (f.valid = true → f.page ≠ n) → (fun (w : World) => Let (W (((i : Nat) : Int) + 1)) fun f_3 => Q (f_3, ()) w) v := fun hx => by
      refine let_ ?_
      rw [W_succ (by omega)]
      refine hQ (m - 1) _ v (by omega) ⟨i + 1, rfl, by omega, rfl, fun j f' hj hf' => ?_⟩
      rcases (by omega : j < i ∨ j = i) with h' | rfl
      · exact hne j f' h' hf'
      · rw [hg] at hf'; cases hf'; exact hx
    refine ⟨by omega, by omega, ?_⟩
    rw [o4]
    refine ldB hb (m := f.valid) (by rw [pgV_fr h hg (by omega)]; rfl) (ifb (fun hv => ⟨by omega, by omega, ?_⟩) fun hv => nx fun h' => by rw [hv] at h'; cases h')
    have e := pgV_fr (l := l) (op := op) (ord := ord) (k := 0) h hg (by omega)
    refine ldI hb (m := ((f.page : Nat) : Int)) e (ifk (fun ep => h1 i f hg hv (by omega)) fun ep => nx fun _ e' => ep (by omega))
  · obtain ⟨j, hj, rfl⟩ := List.getElem_of_mem hf
    exact hne j _ (by omega) (List.getElem?_eq_getElem hj) hv
/-! ### What the pager holds -/
/-- A page as it stands: in its frame, else as the log reads it. -/
def vw (fs : List Frm) (D : List Bk) (ws : List Wr) (n : Nat) : Bk := ((fs.find? fun f => f.valid && decide (f.page = n)).map (·.data)).getD (lrd D ws n)
structure FOk (fs : List Frm) (D : List Bk) (ws : List Wr) (op : Bool) : Prop where
  len : fs.length = 5
  pg : ∀ f ∈ fs, f.valid = true → f.page < 72 ∧ f.data.size = 128
  cl : ∀ f ∈ fs, f.valid = true → f.dirty = false → f.data = lrd D ws f.page
  di : ∀ f ∈ fs, f.valid = true → f.dirty = true → op = true
  un : ∀ (i j : Nat) (f g : Frm), fs[i]? = some f → fs[j]? = some g → f.valid = true → g.valid = true → f.page = g.page → i = j
theorem vw_in {f : Frm} (ok : FOk fs D ws op) (hi : fs[i]? = some f) (hv : f.valid = true) : vw fs D ws f.page = f.data := by
  unfold vw
  cases hf : fs.find? (fun g => g.valid && decide (g.page = f.page)) with
  | none =>
    have := List.find?_eq_none.1 hf f (List.mem_of_getElem? hi)
    simp [hv] at this
  | some g =>
    have hp := List.find?_some hf
    obtain ⟨j, hj⟩ := List.getElem?_of_mem (List.mem_of_find?_eq_some hf)
    simp only [Bool.and_eq_true, decide_eq_true_eq] at hp
    have := ok.un j i g f hj hi hp.1 hv hp.2
    subst this
    rw [hi] at hj
    cases hj
    rfl
theorem vw_out (h : ∀ f ∈ fs, f.valid = true → f.page ≠ n) : vw fs D ws n = lrd D ws n := by
  unfold vw
  have : fs.find? (fun g => g.valid && decide (g.page = n)) = none := List.find?_eq_none.2 fun f hf => by
    cases hv : f.valid with
    | false => simp
    | true => simpa using h f hf hv
  rw [this]; rfl
/-- Frame g is let go; the log may have taken its page. -/
theorem vw_drop {g : Nat} {f : Frm} {ws' : List Wr} (ok : FOk fs D ws op) (hg : fs[g]? = some f) (hl : ∀ m, m < 72 → (f.valid = true → m ≠ f.page) → lrd D ws' m = lrd D ws m) (hp : f.valid = true → lrd D ws' f.page = f.data) :
    FOk (fs.set g frm0) D ws' op ∧ ∀ m, m < 72 → vw (fs.set g frm0) D ws' m = vw fs D ws m := by
  have hlt : g < fs.length := (List.getElem?_eq_some_iff.1 hg).1
  have mem : ∀ x ∈ fs.set g frm0, x.valid = true → ∃ j, fs[j]? = some x ∧ j ≠ g := fun x hx hv => by
    obtain ⟨j, hj⟩ := List.getElem?_of_mem hx
    rw [List.getElem?_set] at hj
    split at hj
    · rename_i e
      subst e
      cases hj; cases hv
    · rename_i e; exact ⟨j, hj, fun e' => e e'.symm⟩
  have ok' : FOk (fs.set g frm0) D ws' op := by
    refine ⟨by rw [List.length_set]; exact ok.len, fun x hx hv => ?_, fun x hx hv hd => ?_, fun x hx hv hd => ?_, fun i j x y hx hy hv hv' e => ?_⟩
    · obtain ⟨j, hj, _⟩ := mem x hx hv
      exact ok.pg x (List.mem_of_getElem? hj) hv
    · obtain ⟨j, hj, hjg⟩ := mem x hx hv
      rw [ok.cl x (List.mem_of_getElem? hj) hv hd, hl _ (ok.pg x (List.mem_of_getElem? hj) hv).1 fun hfv e => hjg (ok.un j g x f hj hg hv hfv e)]
    · obtain ⟨j, hj, _⟩ := mem x hx hv
      exact ok.di x (List.mem_of_getElem? hj) hv hd
    · have z : ∀ {k : Nat} {u : Frm}, (fs.set g frm0)[k]? = some u → u.valid = true → fs[k]? = some u := fun {k u} hk hu => by
        rw [List.getElem?_set] at hk
        split at hk
        · rename_i e'
          subst e'
          cases hk; cases hu
        · exact hk
      exact ok.un i j x y (z hx hv) (z hy hv') hv hv' e
  refine ⟨ok', fun m hm => ?_⟩
  by_cases h : ∃ (j : Nat) (x : Frm), fs[j]? = some x ∧ x.valid = true ∧ x.page = m
  · obtain ⟨j, x, hj, hv, rfl⟩ := h
    rw [vw_in ok hj hv]
    by_cases hjg : j = g
    · subst hjg
      rw [hg] at hj
      cases hj
      rw [vw_out fun y hy hv' e => ?_]
      · exact hp hv
      · obtain ⟨k, hk, hkg⟩ := mem y hy hv'
        exact hkg (ok.un k j y f hk hg hv' hv e)
    · exact vw_in ok' (i := j) (by rw [List.getElem?_set_ne (fun e => hjg e.symm)]; exact hj) hv
  · have hn : ∀ y ∈ fs, y.valid = true → y.page ≠ m := fun y hy hv e => by
      obtain ⟨j, hj⟩ := List.getElem?_of_mem hy
      exact h ⟨j, y, hj, hv, e⟩
    rw [vw_out hn, vw_out fun y hy hv e => ?_, hl m hm fun hfv e => h ⟨g, f, hg, hfv, e.symm⟩]
    obtain ⟨j, hj, _⟩ := mem y hy hv
    exact hn y (List.mem_of_getElem? hj) hv e
/-- Page n comes to lie in frame g, which held no other page. -/
theorem vw_lay {g : Nat} {f x : Frm} (ok : FOk fs D ws op) (hg : fs[g]? = some f) (hf : f.valid = true → f.page = x.page) (hx : x.valid = true) (hn : ∀ (j : Nat) (y : Frm), j ≠ g → fs[j]? = some y → y.valid = true → y.page ≠ x.page) (hp : x.page < 72 ∧ x.data.size = 128) (hc : x.dirty = false → x.data = lrd D ws x.page) (hd : x.dirty = true → op = true) :
    FOk (fs.set g x) D ws op ∧ ∀ m, vw (fs.set g x) D ws m = if m = x.page then x.data else vw fs D ws m := by
  have hlt : g < fs.length := (List.getElem?_eq_some_iff.1 hg).1
  have mem : ∀ y ∈ fs.set g x, y = x ∨ ∃ j, fs[j]? = some y ∧ j ≠ g := fun y hy => by
    obtain ⟨j, hj⟩ := List.getElem?_of_mem hy
    rw [List.getElem?_set] at hj
    split at hj
    · rename_i e
      subst e
      cases hj; exact .inl rfl
    · rename_i e; exact .inr ⟨j, hj, fun e' => e e'.symm⟩
  have at_ : ∀ {k : Nat} {u : Frm}, (fs.set g x)[k]? = some u → (k = g ∧ u = x) ∨ (k ≠ g ∧ fs[k]? = some u) := fun {k u} hk => by
    rw [List.getElem?_set] at hk
    split at hk
    · rename_i e
      subst e
      cases hk; exact .inl ⟨rfl, rfl⟩
    · rename_i e; exact .inr ⟨fun e' => e e'.symm, hk⟩
  have ok' : FOk (fs.set g x) D ws op := by
    refine ⟨by rw [List.length_set]; exact ok.len, fun y hy hv => ?_, fun y hy hv hd' => ?_, fun y hy hv hd' => ?_, fun i j u v hu hv uv vv e => ?_⟩
    · rcases mem y hy with rfl | ⟨j, hj, _⟩
      · exact hp
      · exact ok.pg y (List.mem_of_getElem? hj) hv
    · rcases mem y hy with rfl | ⟨j, hj, _⟩
      · exact hc hd'
      · exact ok.cl y (List.mem_of_getElem? hj) hv hd'
    · rcases mem y hy with rfl | ⟨j, hj, _⟩
      · exact hd hd'
      · exact ok.di y (List.mem_of_getElem? hj) hv hd'
    · rcases at_ hu with ⟨rfl, rfl⟩ | ⟨h1, h2⟩ <;> rcases at_ hv with ⟨rfl, rfl⟩ | ⟨h3, h4⟩
      · rfl
      · exact absurd e.symm (hn j v h3 h4 vv)
      · exact absurd e (hn i u h1 h2 uv)
      · exact ok.un i j u v h2 h4 uv vv e
  refine ⟨ok', fun m => ?_⟩
  by_cases hm : m = x.page
  · rw [if_pos hm, hm]
    exact vw_in ok' (i := g) (List.getElem?_set_self hlt) hx
  · rw [if_neg hm]
    by_cases h : ∃ (j : Nat) (y : Frm), fs[j]? = some y ∧ y.valid = true ∧ y.page = m
    · obtain ⟨j, y, hj, hv, rfl⟩ := h
      have hjg : j ≠ g := fun e => by subst e; rw [hg] at hj; cases hj; exact hm (hf hv)
      rw [vw_in ok hj hv, vw_in ok' (i := j) (by rw [List.getElem?_set_ne (fun e => hjg e.symm)]; exact hj) hv]
    · have hn' : ∀ y ∈ fs, y.valid = true → y.page ≠ m := fun y hy hv e => by
        obtain ⟨j, hj⟩ := List.getElem?_of_mem hy
        exact h ⟨j, y, hj, hv, e⟩
      rw [vw_out hn', vw_out fun y hy hv e => ?_]
      rcases mem y hy with rfl | ⟨j, hj, _⟩
      · exact hm e.symm
      · exact hn' y (List.mem_of_getElem? hj) hv e
end Go.Proofs.Qxb6500564aGreat
