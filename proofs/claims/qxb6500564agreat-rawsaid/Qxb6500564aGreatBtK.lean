/-
  Thin nodes made good, plain: borrowing from a neighbour, merging with it.
-/
import Derived.Test.Qxb6500564aGreatBtJ
namespace Go.Proofs.Qxb6500564aGreat
open Go.Den Go.Zip
set_option linter.unusedVariables false
set_option linter.unusedSimpArgs false
variable {cur cur' : Nat → Bk} {d e l r m : Nd} {a b a' b' : Bo} {es eL eR : Es} {ps qs qL qR : List Nat} {h lo pg n : Nat} {P : SubT} {s : ByteArray}

theorem Kds.app : ∀ {ss1 : List ByteArray} {ks1 : List Nat} {a : Bo} {e1 e2 : Es} {p1 p2 : List Nat} {ks2 : List Nat} {ss2 : List ByteArray}, Kds P a (some s) ks1 ss1 e1 p1 → Kds P (some s) b ks2 ss2 e2 p2 → Kds P a b (ks1 ++ ks2) (ss1 ++ s :: ss2) (e1 ++ e2) (p1 ++ p2)
  | [], _, _, _, _, _, _, _, _, ⟨k, rfl, h1⟩, h2 => ⟨k, _, _, _, _, _, rfl, h1, h2, rfl, rfl⟩
  | s' :: ss, _, _, _, e2, _, p2, ks2, ss2, ⟨k, kr, x1, x2, y1, y2, rfl, h1, h2, rfl, rfl⟩, h3 => ⟨k, kr ++ ks2, x1, x2 ++ e2, y1, y2 ++ p2, rfl, h1, h2.app h3, by simp, by simp⟩
theorem es_eq (h : d.n = n) : d.es = tab n fun t => (d.ky t, d.vl t) := by unfold Nd.es; rw [h]
theorem ks_eq (h : d.n = n) : d.ks = tab n d.kid := by unfold Nd.ks; rw [h]
theorem ss_eq (h : d.n = n + 1) : d.ss = tab n d.ky := by unfold Nd.ss; rw [h]; rfl
/-- Two leaves side by side. -/
theorem leafB (h1 : ∀ e ∈ eL, Bnd a (some s) e.1) (h2 : ∀ e ∈ eR, Bnd (some s) b e.1) (s1 : Srt eL) (s2 : Srt eR) : Srt (eL ++ eR) := srt_app.2 ⟨s1, s2, fun x hx y hy => sl_lt_le ((h1 x hx).2 s rfl) ((h2 y hy).1 s rfl)⟩
theorem NodeOf.fromLeft {r' : Nd} (L : NodeOf cur h l a (some s) eL qL) (M : NodeOf cur h m (some s) b eR qR) (hl : 3 ≤ l.n) (hl4 : l.n ≤ 4) (hm : m.n = 1) (sz : s.size ≤ 16)
    (h1 : l.kd = 1 → r'.kd = m.kd ∧ r'.es = ins (l.ky (l.n - 1)) (l.vl (l.n - 1)) m.es) (h2 : l.kd ≠ 1 → r' = { m with kid := fset (fset m.kid 1 (m.kid 0)) 0 (l.kid (l.n - 1)), ky := fset m.ky 0 s, n := 2 }) (s' : ByteArray) (hs1 : l.kd = 1 → s' = r'.ky 0) (hs2 : l.kd ≠ 1 → s' = l.ky (l.n - 2)) :
    ∃ eL' eR' qL' qR', NodeOf cur h { l with n := l.n - 1 } a (some s') eL' qL' ∧ NodeOf cur h r' (some s') b eR' qR' ∧ eL' ++ eR' = eL ++ eR ∧ qL' ++ qR' = qL ++ qR ∧ s'.size ≤ 16 ∧ r'.n = 2 := by
  cases h with
  | zero =>
    obtain ⟨a1, a2, a3, a4, a5, rfl⟩ := L
    obtain ⟨b1, b2, b3, b4, b5, rfl⟩ := M
    obtain ⟨r1, r2⟩ := h1 a1
    have hs := hs1 a1
    have e0 : eL = tab (l.n - 1) (fun t => (l.ky t, l.vl t)) ++ [(l.ky (l.n - 1), l.vl (l.n - 1))] := by
      rw [← a2, es_eq (n := l.n) rfl, tab_mid (i := l.n - 1) (by omega), show l.n - (l.n - 1) - 1 = 0 by omega]; rfl
    have m0 : eR = [(m.ky 0, m.vl 0)] := by rw [← b2, es_eq hm]; rfl
    have hx := a4 (l.ky (l.n - 1), l.vl (l.n - 1)) (by rw [e0]; simp)
    have hm0 := b4 (m.ky 0, m.vl 0) (by rw [m0]; simp)
    have xm : sl (l.ky (l.n - 1)) (m.ky 0) = true := sl_lt_le (hx.2 s rfl) (hm0.1 s rfl)
    have rr : r'.es = (l.ky (l.n - 1), l.vl (l.n - 1)) :: eR := by
      rw [r2, b2]
      have := ins_miss (k := l.ky (l.n - 1)) (v := l.vl (l.n - 1)) (l := []) (r := eR) (fun e he => by cases he) (fun e he => by rw [m0] at he; cases he; exact xm)
      exact this
    have rn : r'.n = 2 := by have := es_len r'; rw [rr, m0] at this; simpa using this.symm
    have rk : r'.ky 0 = l.ky (l.n - 1) := by
      have e1 : r'.es = [(r'.ky 0, r'.vl 0), (r'.ky 1, r'.vl 1)] := by rw [es_eq rn]; rfl
      rw [e1] at rr
      have := (List.cons.inj rr).1
      exact congrArg Prod.fst this
    rw [hs, rk]
    rw [e0] at a3 a4 a5
    have sp := srt_app.1 a3
    refine ⟨_, _, [], [], ⟨a1, es_eq (n := l.n - 1) rfl, sp.1, fun x hx' => ⟨(a4 x (List.mem_append_left _ hx')).1, fun y hy => ?_⟩, fun x hx' => a5 x (List.mem_append_left _ hx'), rfl⟩, ⟨r1.trans b1, rr, ?_, fun x hx' => ?_, fun x hx' => ?_, rfl⟩, ?_, rfl, (a5 (l.ky (l.n - 1), l.vl (l.n - 1)) (by simp)).1, rn⟩
    · cases hy; exact sp.2.2 x hx' (l.ky (l.n - 1), l.vl (l.n - 1)) (by simp)
    · rw [m0]
      refine List.pairwise_cons.2 ⟨fun y hy => ?_, by simp⟩
      rw [List.mem_singleton.1 hy]; exact xm
    · rcases List.mem_cons.1 hx' with rfl | hx'
      · exact ⟨fun y hy => by cases hy; exact sl_irrefl _, fun y hy => sl_trans xm (hm0.2 y hy)⟩
      · rw [m0] at hx'
        rw [List.mem_singleton.1 hx']
        exact ⟨fun y hy => by cases hy; exact sl_asym xm, hm0.2⟩
    · rcases List.mem_cons.1 hx' with rfl | hx'
      · exact a5 _ (by simp)
      · exact b5 x hx'
    · rw [e0]; simp
  | succ h =>
    obtain ⟨a1, a2, a3, a4, a5⟩ := L
    obtain ⟨b1, b2, b3, b4, b5⟩ := M
    have hr := h2 (by omega)
    have hs := hs2 (by omega)
    have k0 : l.ks = tab (l.n - 1) l.kid ++ [l.kid (l.n - 1)] := by
      rw [ks_eq (n := l.n) rfl, tab_mid (i := l.n - 1) (by omega), show l.n - (l.n - 1) - 1 = 0 by omega]; rfl
    have s0 : l.ss = (tab (l.n - 2) l.ky ++ [l.ky (l.n - 2)]) ++ [] := by
      rw [ss_eq (n := l.n - 1) (by omega), tab_mid (i := l.n - 2) (by omega), show l.n - 1 - (l.n - 2) - 1 = 0 by omega, List.append_nil]; rfl
    have mk : m.ks = [m.kid 0] := by rw [ks_eq hm]; rfl
    have ms : m.ss = [] := by rw [ss_eq (n := 0) hm]; rfl
    rw [k0, s0] at a3
    obtain ⟨c, e1, e2, p1, p2, g1, g2, rfl, rfl, _⟩ := a3.zip (by rw [tab_len, List.length_append, tab_len]; simp; omega)
    obtain ⟨g3, g4⟩ := g1.kds
    subst g3
    obtain ⟨k, hk, g5⟩ := g2
    cases hk
    rw [mk, ms] at b3
    rw [k0] at a4
    rw [s0] at a5
    rw [mk] at b4
    have rk : r'.ks = [l.kid (l.n - 1), m.kid 0] := by rw [hr]; rfl
    have rs : r'.ss = [s] := by rw [hr]; rfl
    refine ⟨e1, e2 ++ eR, p1, p2 ++ qR, ⟨a1, by show 1 ≤ l.n - 1; omega, ?_, fun k hk => a4 k ?_, fun k hk => a5 k ?_⟩, ⟨by rw [hr]; exact b1, by rw [hr]; show 1 ≤ 2; omega, ?_, fun k hk => ?_, fun k hk => ?_⟩, by simp, by simp, ?_, by rw [hr]⟩
    · rw [hs]; exact g4
    · exact List.mem_append_left _ hk
    · exact List.mem_append_left _ (List.mem_append_left _ hk)
    · rw [rk, rs, hs]
      exact ⟨_, _, _, _, _, _, rfl, g5, b3, rfl, rfl⟩
    · rw [rk] at hk
      simp only [List.mem_cons, List.not_mem_nil, or_false] at hk
      rcases hk with rfl | rfl
      · exact a4 _ (by simp)
      · exact b4 _ (by simp)
    · rw [rs] at hk
      rw [List.mem_singleton.1 hk]
      exact sz
    · rw [hs]; exact a5 _ (by simp)
theorem three (h1 : 3 ≤ n) (h2 : n ≤ 4) : n = 3 ∨ n = 4 := by omega
theorem NodeOf.fromRight {l' r' : Nd} (L : NodeOf cur h l a (some s) eL qL) (M : NodeOf cur h r (some s) b eR qR) (hl : l.n = 1) (hr : 3 ≤ r.n) (hr4 : r.n ≤ if h = 0 then 3 else 4) (sz : s.size ≤ 16)
    (h1 : l.kd = 1 → l' = { l with ky := fset l.ky l.n (r.ky 0), vl := fset l.vl l.n (r.vl 0), n := l.n + 1 } ∧ r'.kd = r.kd ∧ r'.n + 1 = r.n ∧ r'.ky = shl r.ky 0 (r.n - 1) ∧ r'.vl = shl r.vl 0 (r.n - 1))
    (h2 : l.kd ≠ 1 → l' = { l with kid := fset l.kid l.n (r.kid 0), ky := fset l.ky (l.n - 1) s, n := l.n + 1 } ∧ r'.kd = r.kd ∧ r'.n + 1 = r.n ∧ r'.kid = shl (fset r.kid 0 (r.kid 1)) 1 (r.n - 1) ∧ r'.ky = shl r.ky 0 (r.n - 2)) (s' : ByteArray) (hs1 : l.kd = 1 → s' = r'.ky 0) (hs2 : l.kd ≠ 1 → s' = r.ky 0) :
    ∃ eL' eR' qL' qR', NodeOf cur h l' a (some s') eL' qL' ∧ NodeOf cur h r' (some s') b eR' qR' ∧ eL' ++ eR' = eL ++ eR ∧ qL' ++ qR' = qL ++ qR ∧ s'.size ≤ 16 ∧ l'.n = 2 ∧ r'.n + 1 = r.n := by
  cases h with
  | zero =>
    obtain ⟨a1, a2, a3, a4, a5, rfl⟩ := L
    obtain ⟨b1, b2, b3, b4, b5, rfl⟩ := M
    obtain ⟨r1, r2, r3, r4, r5⟩ := h1 a1
    have hs := hs1 a1
    have hr3 : r.n = 3 := by simp at hr4; omega
    rw [hl] at r1
    have l0 : eL = [(l.ky 0, l.vl 0)] := by rw [← a2, es_eq hl]; rfl
    have x0 : eR = [(r.ky 0, r.vl 0), (r.ky 1, r.vl 1), (r.ky 2, r.vl 2)] := by rw [← b2, es_eq hr3]; rfl
    have rn : r'.n = 2 := by omega
    have re : r'.es = [(r.ky 1, r.vl 1), (r.ky 2, r.vl 2)] := by rw [es_eq rn, r4, r5, hr3]; rfl
    have rk : r'.ky 0 = r.ky 1 := by rw [r4, hr3]; rfl
    have le : l'.es = [(l.ky 0, l.vl 0), (r.ky 0, r.vl 0)] := by rw [r1]; rfl
    rw [hs, rk]
    have all := leafB a4 b4 a3 b3
    rw [l0, x0] at all
    have bo : ∀ e ∈ eL ++ eR, Bnd a b e.1 := fun e he => by
      have hl0 := a4 (l.ky 0, l.vl 0) (by rw [l0]; simp)
      have hr0 := b4 (r.ky 0, r.vl 0) (by rw [x0]; simp)
      rcases List.mem_append.1 he with he | he
      · exact ⟨(a4 e he).1, fun y hy => sl_trans ((a4 e he).2 s rfl) (sl_le_lt (hr0.1 s rfl) (hr0.2 y hy))⟩
      · exact ⟨fun y hy => sl_le_trans (sl_asym (sl_le_lt (hl0.1 y hy) (hl0.2 s rfl))) ((b4 e he).1 s rfl), (b4 e he).2⟩
    have sz' : ∀ e ∈ eL ++ eR, e.1.size ≤ 16 ∧ e.2.size ≤ 16 := fun e he => (List.mem_append.1 he).elim (a5 e) (b5 e)
    rw [l0, x0] at bo sz'
    have all' : Srt ([(l.ky 0, l.vl 0), (r.ky 0, r.vl 0)] ++ [(r.ky 1, r.vl 1), (r.ky 2, r.vl 2)]) := all
    have sp := srt_app.1 all'
    refine ⟨_, _, [], [], ⟨by rw [r1]; exact a1, le, sp.1, fun x hx => ⟨(bo x ?_).1, fun y hy => ?_⟩, fun x hx => sz' x ?_, rfl⟩, ⟨r2.trans b1, re, sp.2.1, fun x hx => ⟨fun y hy => ?_, (bo x ?_).2⟩, fun x hx => sz' x ?_, rfl⟩, by rw [l0, x0]; rfl, rfl, (sz' (r.ky 1, r.vl 1) (by simp)).1, by rw [r1], r3⟩
    · simp only [List.mem_cons, List.not_mem_nil, or_false] at hx; rcases hx with rfl | rfl <;> simp
    · cases hy; exact sp.2.2 x hx (r.ky 1, r.vl 1) (by simp)
    · simp only [List.mem_cons, List.not_mem_nil, or_false] at hx; rcases hx with rfl | rfl <;> simp
    · cases hy
      simp only [List.mem_cons, List.not_mem_nil, or_false] at hx
      rcases hx with rfl | rfl
      · exact sl_irrefl _
      · exact sl_asym ((List.pairwise_cons.1 sp.2.1).1 (r.ky 2, r.vl 2) (by simp))
    · simp only [List.mem_cons, List.not_mem_nil, or_false] at hx; rcases hx with rfl | rfl <;> simp
    · simp only [List.mem_cons, List.not_mem_nil, or_false] at hx; rcases hx with rfl | rfl <;> simp
  | succ h =>
    obtain ⟨a1, a2, a3, a4, a5⟩ := L
    obtain ⟨b1, b2, b3, b4, b5⟩ := M
    obtain ⟨r1, r2, r3, r4, r5⟩ := h2 (by omega)
    have hs := hs2 (by omega)
    rw [hl] at r1
    have hr4 : r.n ≤ 4 := by simpa using hr4
    have lk : l.ks = [l.kid 0] := by rw [ks_eq hl]; rfl
    have lsn : l.ss = [] := by rw [ss_eq (n := 0) hl]; rfl
    have rk : r.ks = r.kid 0 :: r'.ks := by
      rcases three hr hr4 with e | e
      · rw [ks_eq e, ks_eq (d := r') (n := 2) (by omega), r4, e]; rfl
      · rw [ks_eq e, ks_eq (d := r') (n := 3) (by omega), r4, e]; rfl
    have rs : r.ss = r.ky 0 :: r'.ss := by
      rcases three hr hr4 with e | e
      · rw [ss_eq (n := 2) e, ss_eq (d := r') (n := 1) (by omega), r5, e]; rfl
      · rw [ss_eq (n := 3) e, ss_eq (d := r') (n := 2) (by omega), r5, e]; rfl
    have lk' : l'.ks = [l.kid 0, r.kid 0] := by rw [r1]; rfl
    have ls' : l'.ss = [s] := by rw [r1]; rfl
    rw [rk, rs] at b3
    rw [rk] at b4
    rw [rs] at b5
    rw [lk, lsn] at a3
    rw [lk] at a4
    obtain ⟨k, kr, x1, x2, y1, y2, he, g1, g2, rfl, rfl⟩ := b3
    cases he
    obtain ⟨k, he, g3⟩ := a3
    cases he
    rw [hs]
    refine ⟨eL ++ x1, x2, qL ++ y1, y2, ⟨by rw [r1]; exact a1, by rw [r1]; show 1 ≤ 2; omega, ?_, fun k hk => ?_, fun k hk => ?_⟩, ⟨r2.trans b1, by omega, g2, fun k hk => b4 k (by simp [hk]), fun k hk => b5 k (by simp [hk])⟩, by simp, by simp, b5 _ (by simp), by rw [r1], r3⟩
    · rw [lk', ls']
      exact ⟨_, _, _, _, _, _, rfl, g3, ⟨_, rfl, g1⟩, rfl, rfl⟩
    · rw [lk'] at hk
      simp only [List.mem_cons, List.not_mem_nil, or_false] at hk
      rcases hk with rfl | rfl
      · exact a4 _ (by simp)
      · exact b4 _ (by simp)
    · rw [ls'] at hk
      rw [List.mem_singleton.1 hk]
      exact sz
theorem one_two (h : l.n + r.n = 3) (h1 : 1 ≤ l.n) (h2 : 1 ≤ r.n) : (l.n = 1 ∧ r.n = 2) ∨ (l.n = 2 ∧ r.n = 1) := by omega
theorem NodeOf.join {e : Nd} (L : NodeOf cur h l a (some s) eL qL) (M : NodeOf cur h r (some s) b eR qR) (hl : l.n + r.n = 3) (l1 : 1 ≤ l.n) (l2 : 1 ≤ r.n) (sz : s.size ≤ 16)
    (h1 : l.kd = 1 → e.kd = 1 ∧ e.n = l.n + r.n ∧ e.ky = beh l.ky l.n r.ky r.n ∧ e.vl = beh l.vl l.n r.vl r.n)
    (h2 : l.kd ≠ 1 → e.kd = l.kd ∧ e.n = l.n + r.n ∧ e.kid = beh l.kid l.n r.kid r.n ∧ e.ky = beh (fset l.ky (l.n - 1) s) l.n r.ky (r.n - 1)) :
    NodeOf cur h e a b (eL ++ eR) (qL ++ qR) ∧ e.n = 3 := by
  cases h with
  | zero =>
    obtain ⟨a1, a2, a3, a4, a5, rfl⟩ := L
    obtain ⟨b1, b2, b3, b4, b5, rfl⟩ := M
    obtain ⟨r1, r2, r3, r4⟩ := h1 a1
    have lne : eL ≠ [] := fun h0 => by have := es_len l; rw [a2, h0] at this; simp at this; omega
    have rne : eR ≠ [] := fun h0 => by have := es_len r; rw [b2, h0] at this; simp at this; omega
    obtain ⟨x0, hx0⟩ := List.exists_mem_of_ne_nil _ lne
    obtain ⟨y0, hy0⟩ := List.exists_mem_of_ne_nil _ rne
    refine ⟨⟨r1, ?_, leafB a4 b4 a3 b3, fun x hx => ?_, fun x hx => (List.mem_append.1 hx).elim (a5 x) (b5 x), rfl⟩, by omega⟩
    · rw [← a2, ← b2]
      rcases one_two hl l1 l2 with ⟨e1, e2⟩ | ⟨e1, e2⟩
      · rw [es_eq e1, es_eq e2, es_eq (d := e) (n := 3) (by omega), r3, r4, e1, e2]; rfl
      · rw [es_eq e1, es_eq e2, es_eq (d := e) (n := 3) (by omega), r3, r4, e1, e2]; rfl
    · rcases List.mem_append.1 hx with hx | hx
      · exact ⟨(a4 x hx).1, fun y hy => sl_trans ((a4 x hx).2 s rfl) (sl_le_lt ((b4 y0 hy0).1 s rfl) ((b4 y0 hy0).2 y hy))⟩
      · exact ⟨fun y hy => sl_le_trans (sl_asym (sl_le_lt ((a4 x0 hx0).1 y hy) ((a4 x0 hx0).2 s rfl))) ((b4 x hx).1 s rfl), (b4 x hx).2⟩
  | succ h =>
    obtain ⟨a1, a2, a3, a4, a5⟩ := L
    obtain ⟨b1, b2, b3, b4, b5⟩ := M
    obtain ⟨r1, r2, r3, r4⟩ := h2 (by omega)
    have ek : e.ks = l.ks ++ r.ks := by
      rcases one_two hl l1 l2 with ⟨e1, e2⟩ | ⟨e1, e2⟩
      · rw [ks_eq e1, ks_eq e2, ks_eq (d := e) (n := 3) (by omega), r3, e1, e2]; rfl
      · rw [ks_eq e1, ks_eq e2, ks_eq (d := e) (n := 3) (by omega), r3, e1, e2]; rfl
    have esx : e.ss = l.ss ++ s :: r.ss := by
      rcases one_two hl l1 l2 with ⟨e1, e2⟩ | ⟨e1, e2⟩
      · rw [ss_eq (n := 0) e1, ss_eq (n := 1) e2, ss_eq (d := e) (n := 2) (by omega), r4, e1, e2]; rfl
      · rw [ss_eq (n := 1) e1, ss_eq (n := 0) e2, ss_eq (d := e) (n := 2) (by omega), r4, e1, e2]; rfl
    refine ⟨⟨r1.trans a1, by omega, by rw [ek, esx]; exact a3.app b3, fun k hk => ?_, fun k hk => ?_⟩, by omega⟩
    · rw [ek] at hk
      exact (List.mem_append.1 hk).elim (a4 k) (b4 k)
    · rw [esx] at hk
      simp only [List.mem_append, List.mem_cons] at hk
      rcases hk with hk | hk | hk
      · exact a5 k hk
      · rw [hk]; exact sz
      · exact b5 k hk
/-- The children i and i+1 of an inner node, with what lies around them. -/
def Pair (cur : Nat → Bk) (h : Nat) (e : Nd) (a b : Bo) (i : Nat) (aL bR : Bo) (x1 x3 : Es) (y1 y3 : List Nat) : Prop :=
  ChL (fun a b k es ps => Sub cur h 2 a b k es ps) a aL (tab i e.kid) (tab i e.ky) x1 y1 ∧ Tl (fun a b k es ps => Sub cur h 2 a b k es ps) bR b (tab (e.n - i - 2) (fun t => e.kid (i + t + 2))) (tab (e.n - 2 - i) (fun t => e.ky (i + t + 1))) x3 y3
variable {i c : Nat} {aL bR : Bo} {x1 x3 xl xr xm : Es} {y1 y3 yl yr ym : List Nat}
theorem Pair.keep (p : Pair cur h e a b i aL bR x1 x3 y1 y3) (hk : ∀ q ∈ y1 ++ y3, cur' q = cur q) : Pair cur' h e a b i aL bR x1 x3 y1 y3 :=
  ⟨p.1.mono (p3 := y1) (fun a b k es ps hp s => Sub.keep s fun q hq => hk q (by simp [hp q hq])) fun q hq => hq, p.2.mono (p3 := y3) (fun a b k es ps hp s => Sub.keep s fun q hq => hk q (by simp [hp q hq])) fun q hq => hq⟩
theorem tab_snoc {α : Type} {m : Nat} {g : Nat → α} : tab (m + 1) g = tab m g ++ [g m] := by
  rw [tab_mid (i := m) (by omega), show m + 1 - m - 1 = 0 by omega]; rfl
theorem ChL.last : ∀ {ss : List ByteArray} {ks : List Nat} {a : Bo} {es : Es} {ps : List Nat} {k : Nat}, ChL P a b (ks ++ [k]) (ss ++ [s]) es ps → ks.length = ss.length → ∃ aL e1 e2 p1 p2, ChL P a aL ks ss e1 p1 ∧ P aL (some s) k e2 p2 ∧ b = some s ∧ es = e1 ++ e2 ∧ ps = p1 ++ p2
  | [], ks, a, es, ps, k, ⟨k', kr, z1, z2, w1, w2, e1, h1, ⟨e2, e3, e4, e5⟩, e6, e7⟩, hl => by
    have : ks = [] := List.length_eq_zero_iff.1 hl
    subst this
    cases e1
    subst e4; subst e5
    rw [List.append_nil] at e6 e7
    subst e6; subst e7
    exact ⟨a, [], es, [], ps, ⟨rfl, rfl, rfl, rfl⟩, h1, e3.symm, rfl, rfl⟩
  | s' :: ss, [], _, _, _, _, _, hl => by cases hl
  | s' :: ss, k0 :: ks, a, es, ps, k, ⟨k', kr, z1, z2, w1, w2, e1, h1, h2, e6, e7⟩, hl => by
    cases e1
    obtain ⟨aL, f1, f2, p1, p2, g1, g2, g3, rfl, rfl⟩ := ChL.last h2 (by simpa using hl)
    exact ⟨aL, z1 ++ f1, f2, w1 ++ p1, p2, ⟨_, _, _, _, _, _, rfl, h1, g1, rfl, rfl⟩, g2, g3, by rw [e6]; simp, by rw [e7]; simp⟩
/-- With the left neighbour. -/
theorem pairL (g1 : ChL (fun a b k es ps => Sub cur h 2 a b k es ps) a a' (tab (c + 1) e.kid) (tab (c + 1) e.ky) x1 y1) (g3 : Tl (fun a b k es ps => Sub cur h 2 a b k es ps) b' b (tab (e.n - (c + 1) - 1) (fun t => e.kid (c + 1 + t + 1))) (tab (e.n - 1 - (c + 1)) (fun t => e.ky (c + 1 + t))) x3 y3) :
    ∃ aL z1 zl w1 wl, Pair cur h e a b c aL b' z1 x3 w1 y3 ∧ Sub cur h 2 aL (some (e.ky c)) (e.kid c) zl wl ∧ a' = some (e.ky c) ∧ x1 = z1 ++ zl ∧ y1 = w1 ++ wl := by
  rw [tab_snoc, tab_snoc] at g1
  obtain ⟨aL, f1, f2, p1, p2, k1, k2, k3, k4, k5⟩ := g1.last (by rw [tab_len, tab_len])
  refine ⟨aL, f1, f2, p1, p2, ⟨k1, ?_⟩, k2, k3, k4, k5⟩
  rw [show e.n - (c + 1) - 1 = e.n - c - 2 by omega, show e.n - 1 - (c + 1) = e.n - 2 - c by omega] at g3
  have v1 : (fun t => e.kid (c + 1 + t + 1)) = fun t => e.kid (c + t + 2) := funext fun t => by congr 1; omega
  have v2 : (fun t => e.ky (c + 1 + t)) = fun t => e.ky (c + t + 1) := funext fun t => by congr 1; omega
  rw [v1, v2] at g3
  exact g3
/-- With the right neighbour. -/
theorem pairR (hc : c + 1 < e.n) (g1 : ChL (fun a b k es ps => Sub cur h 2 a b k es ps) a a' (tab c e.kid) (tab c e.ky) x1 y1) (g3 : Tl (fun a b k es ps => Sub cur h 2 a b k es ps) b' b (tab (e.n - c - 1) (fun t => e.kid (c + t + 1))) (tab (e.n - 1 - c) (fun t => e.ky (c + t))) x3 y3) :
    ∃ bR zr z3 wr w3, Pair cur h e a b c a' bR x1 z3 y1 w3 ∧ Sub cur h 2 (some (e.ky c)) bR (e.kid (c + 1)) zr wr ∧ b' = some (e.ky c) ∧ x3 = zr ++ z3 ∧ y3 = wr ++ w3 := by
  rw [show e.n - c - 1 = (e.n - c - 2) + 1 by omega, show e.n - 1 - c = (e.n - 2 - c) + 1 by omega, tab_cons, tab_cons] at g3
  rcases g3 with ⟨h1, _⟩ | ⟨s, sr, h1, rfl, t⟩
  · cases h1
  · cases h1
    obtain ⟨bR, f1, f2, p1, p2, k1, k2, rfl, rfl⟩ := t.head
    exact ⟨bR, f1, f2, p1, p2, ⟨g1, k2⟩, k1, rfl, rfl, rfl⟩
theorem pair_ks (hi : i + 1 < e.n) : e.ks = tab i e.kid ++ e.kid i :: e.kid (i + 1) :: tab (e.n - i - 2) (fun t => e.kid (i + t + 2)) ∧ e.ss = tab i e.ky ++ e.ky i :: tab (e.n - 2 - i) (fun t => e.ky (i + t + 1)) := by
  constructor
  · rw [ks_eq (n := e.n) rfl, tab_mid (i := i) (by omega), show e.n - i - 1 = (e.n - i - 2) + 1 by omega, tab_cons]
    rfl
  · rw [ss_eq (n := e.n - 1) (by omega), tab_mid (i := i) (by omega), show e.n - 1 - i - 1 = e.n - 2 - i by omega]
/-- The separator between the two has turned. -/
theorem Pair.turn {s' : ByteArray} (p : Pair cur h e a b i aL bR x1 x3 y1 y3) (hi : i + 1 < e.n) (hk : e.kd = 2) (z1 : ∀ k ∈ e.ks, k < 256) (z2 : ∀ k ∈ e.ss, k.size ≤ 16) (sz : s'.size ≤ 16) (L : Sub cur h 2 aL (some s') (e.kid i) xl yl) (M : Sub cur h 2 (some s') bR (e.kid (i + 1)) xr yr) :
    NodeOf cur (h + 1) { e with ky := fset e.ky i s' } a b (x1 ++ ((xl ++ xr) ++ x3)) (y1 ++ ((yl ++ yr) ++ y3)) := by
  have q1 : ({ e with ky := fset e.ky i s' } : Nd).ks = e.ks := rfl
  have q2 : ({ e with ky := fset e.ky i s' } : Nd).ss = tab i e.ky ++ s' :: tab (e.n - 2 - i) (fun t => e.ky (i + t + 1)) := by
    rw [(pair_ks (e := { e with ky := fset e.ky i s' }) hi).2]
    congr 1
    · exact tab_congr fun t ht => fset_ne (by omega)
    · congr 1
      · exact fset_eq _ _ _
      · exact tab_congr fun t ht => fset_ne (by omega)
  refine ⟨hk, by show 1 ≤ e.n; omega, ?_, z1, fun k hk => ?_⟩
  · rw [q1, q2, (pair_ks hi).1]
    have t := Tl.kds M p.2
    have t2 : Kds (fun a b k es ps => Sub cur h 2 a b k es ps) aL b (e.kid i :: e.kid (i + 1) :: tab (e.n - i - 2) (fun t => e.kid (i + t + 2))) (s' :: tab (e.n - 2 - i) (fun t => e.ky (i + t + 1))) (xl ++ (xr ++ x3)) (yl ++ (yr ++ y3)) := ⟨_, _, _, _, _, _, rfl, L, t, rfl, rfl⟩
    simpa [List.append_assoc] using p.1.app t2
  · rw [q2] at hk
    rw [(pair_ks hi).2] at z2
    simp only [List.mem_append, List.mem_cons] at hk z2
    rcases hk with hk | hk | hk
    · exact z2 k (.inl hk)
    · rw [hk]; exact sz
    · exact z2 k (.inr (.inr hk))
/-- The two have become one. -/
theorem Pair.merge {e' : Nd} (p : Pair cur h e a b i aL bR x1 x3 y1 y3) (hi : i + 1 < e.n) (hk : e.kd = 2) (z1 : ∀ k ∈ e.ks, k < 256) (z2 : ∀ k ∈ e.ss, k.size ≤ 16) (M : Sub cur h 2 aL bR (e.kid i) xm ym)
    (h1 : e'.kd = e.kd) (h2 : e'.n + 1 = e.n) (h3 : e'.kid = shl e.kid (i + 1) (e.n - 1)) (h4 : e'.ky = shl e.ky i (e.n - 2)) :
    NodeOf cur (h + 1) e' a b (x1 ++ (xm ++ x3)) (y1 ++ (ym ++ y3)) := by
  have q1 : e'.ks = tab i e.kid ++ e.kid i :: tab (e.n - i - 2) (fun t => e.kid (i + t + 2)) := by
    rw [ks_eq (d := e') (n := e.n - 1) (by omega), h3, tab_erase (by omega), tab_snoc, show e.n - (i + 1) - 1 = e.n - i - 2 by omega]
    have : (fun t => e.kid (i + 1 + t + 1)) = fun t => e.kid (i + t + 2) := funext fun t => by congr 1; omega
    rw [this]
    simp
  have q2 : e'.ss = tab i e.ky ++ tab (e.n - 2 - i) (fun t => e.ky (i + t + 1)) := by
    have := tab_erase (i := i) (n := e.n - 1) (f := e.ky) (by omega)
    rw [show e.n - 1 - 1 = e.n - 2 by omega, show e.n - 1 - i - 1 = e.n - 2 - i by omega] at this
    rw [ss_eq (d := e') (n := e.n - 2) (by omega), h4, this]
  refine ⟨h1.trans hk, by omega, ?_, fun k hk => ?_, fun k hk => ?_⟩
  · rw [q1, q2]
    exact p.1.app (Tl.kds M p.2)
  · rw [q1] at hk
    rw [(pair_ks hi).1] at z1
    simp only [List.mem_append, List.mem_cons] at hk z1
    rcases hk with hk | hk | hk
    · exact z1 k (.inl hk)
    · exact z1 k (.inr (.inl hk))
    · exact z1 k (.inr (.inr (.inr hk)))
  · rw [q2] at hk
    rw [(pair_ks hi).2] at z2
    simp only [List.mem_append, List.mem_cons] at hk z2
    rcases hk with hk | hk
    · exact z2 k (.inl hk)
    · exact z2 k (.inr (.inr hk))
end Go.Proofs.Qxb6500564aGreat
