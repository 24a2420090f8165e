/-
  Merging, plain: what a session sees.
-/
import Derived.Test.Qxb6500564aGreatTxF
namespace Go.Proofs.Qxb6500564aGreat
open Go.Den Go.Zip
set_option linter.unusedVariables false
set_option linter.unusedSimpArgs false
variable {i j k n t g b b0 col pk : Nat} {db : Db} {nm : ByteArray} {key : Vl} {row x : List Vl} {rows acc : List (List Vl)} {lo hi : Bd} {l : List Ch} {tb : Tb}

theorem insE_rl (hm : ∀ y ∈ acc, VMade (y.getD col v0) ∧ VMade (y.getD pk v0)) (mx : VMade (x.getD col v0) ∧ VMade (x.getD pk v0)) (hne : ∀ y ∈ acc, y.getD pk v0 ≠ x.getD pk v0) (h : acc.Pairwise (rl col pk)) : (insE col pk x acc).Pairwise (rl col pk) := by
  unfold insE
  rw [List.pairwise_reverse]
  have step : ∀ l : List (List Vl), (∀ y ∈ l, VMade (y.getD col v0) ∧ VMade (y.getD pk v0)) → (∀ y ∈ l, y.getD pk v0 ≠ x.getD pk v0) → l.Pairwise (fun a b => rl col pk b a) → (insRev (okM col pk) x l).Pairwise (fun a b => rl col pk b a) := by
    intro l
    induction l with
    | nil => exact fun _ _ _ => List.pairwise_singleton _ _
    | cons y ys ih =>
      intro h1 h2 h3
      have hc := List.pairwise_cons.1 h3
      have my := h1 y (by simp)
      have ny := h2 y (by simp)
      unfold insRev
      by_cases hok : okM col pk y x = true
      · rw [if_pos hok]
        have hyx : rl col pk y x := by
          have hah : ahP col pk x y = false := by
            unfold okM at hok
            simpa using hok
          unfold ahP at hah
          by_cases h0 : cmpV (x.getD col v0) (y.getD col v0) = 0
          · rw [if_neg (fun h => h h0)] at hah
            have hge := of_decide_eq_false hah
            refine .inr ⟨(cmp_eq mx.1 my.1 h0).symm, ?_⟩
            unfold vl
            rw [decide_eq_true_eq, cmp_swap (x.getD pk v0)]
            have : cmpV (x.getD pk v0) (y.getD pk v0) ≠ 0 := fun e => ny (cmp_eq mx.2 my.2 e).symm
            omega
          · rw [if_pos h0] at hah
            have hge := of_decide_eq_false hah
            refine .inl ?_
            unfold vl
            rw [decide_eq_true_eq, cmp_swap (x.getD col v0)]
            omega
        refine List.pairwise_cons.2 ⟨fun z hz => ?_, h3⟩
        rcases List.mem_cons.1 hz with rfl | hz
        · exact hyx
        · exact rl_trans (hc.1 z hz) hyx
      · rw [if_neg hok]
        have hxy : rl col pk x y := by
          have hah : ahP col pk x y = true := by
            unfold okM at hok
            simpa using hok
          unfold ahP at hah
          by_cases h0 : cmpV (x.getD col v0) (y.getD col v0) = 0
          · rw [if_neg (fun h => h h0)] at hah
            exact .inr ⟨cmp_eq mx.1 my.1 h0, hah⟩
          · rw [if_pos h0] at hah
            exact .inl hah
        refine List.pairwise_cons.2 ⟨fun z hz => ?_, ih (fun z hz => h1 z (by simp [hz])) (fun z hz => h2 z (by simp [hz])) hc.2⟩
        rcases List.mem_cons.1 ((insRev_perm x ys).mem_iff.1 hz) with rfl | hz
        · exact hxy
        · exact hc.1 z hz
  exact step acc.reverse (fun y hy => hm y (by simpa using hy)) (fun y hy => hne y (by simpa using hy)) (List.pairwise_reverse.2 (by simpa using h))
/-- A change that stands in order over the table t. -/
structure ChAt (t : Tb) (c : Ch) : Prop where
  ko : VOk c.key
  kt : c.key.st = (t.cols.getD t.pk c0).st
  gn : c.gone = true → c.row = [] ∧ (rowBy t (codeV c.key)).isSome = true
  rw : c.gone = false → RowTy t.cols c.row ∧ (∀ v ∈ c.row, VOk v) ∧ c.row.getD t.pk v0 = c.key
/-- A write set in order. -/
structure WOk (db : Db) (l : List Ch) : Prop where
  ch : ∀ c ∈ l, ∃ t, fnB c.tab db = some t ∧ ChAt t c
  srt : l.Pairwise fun a b => sideP a.tab a.key b < 0
theorem sideP_cases (a : ByteArray) (x : Vl) (c : Ch) : sideP a x c = -1 ∨ sideP a x c = 0 ∨ sideP a x c = 1 := by
  unfold sideP
  split
  · exact .inl rfl
  · split
    · exact .inr (.inr rfl)
    · exact cmp_cases _ _
theorem side0 {a : ByteArray} {x : Vl} {c : Ch} (hx : VMade x) (hc : VMade c.key) : sideP a x c = 0 ↔ a = c.tab ∧ x = c.key := by
  unfold sideP
  constructor
  · intro h
    cases h1 : sl a c.tab with
    | true => rw [h1, if_pos rfl] at h; cases h
    | false =>
      rw [h1, if_neg (by simp)] at h
      cases h2 : sl c.tab a with
      | true => rw [h2, if_pos rfl] at h; cases h
      | false =>
        rw [h2, if_neg (by simp)] at h
        exact ⟨sl_total h1 h2, cmp_eq hx hc h⟩
  · rintro ⟨rfl, rfl⟩
    rw [sl_irrefl, if_neg (by simp), if_neg (by simp), cmp_self]
theorem side_lt_ne {a : ByteArray} {x : Vl} {c : Ch} (h : sideP a x c < 0) : ¬ (a = c.tab ∧ x = c.key) := by
  rintro ⟨rfl, rfl⟩
  unfold sideP at h
  rw [sl_irrefl, if_neg (by simp), if_neg (by simp), cmp_self] at h
  omega
theorem side_trans {a : ByteArray} {x : Vl} {c d : Ch} (hx : VMade x) (hc : VMade c.key) (hd : VMade d.key) (h1 : sideP a x c ≤ 0) (h2 : sideP c.tab c.key d < 0) : sideP a x d < 0 := by
  by_cases h0 : sideP a x c = 0
  · obtain ⟨rfl, rfl⟩ := (side0 hx hc).1 h0
    exact h2
  · have h1 : sideP a x c < 0 := by omega
    unfold sideP at h1 h2 ⊢
    cases a1 : sl a c.tab with
    | true =>
      cases a2 : sl c.tab d.tab with
      | true => rw [sl_trans a1 a2, if_pos rfl]; omega
      | false =>
        rw [a2, if_neg (by simp)] at h2
        cases a3 : sl d.tab c.tab with
        | true => rw [a3, if_pos rfl] at h2; omega
        | false =>
          rw [← sl_total a2 a3, a1, if_pos rfl]; omega
    | false =>
      rw [a1, if_neg (by simp)] at h1
      cases a2 : sl c.tab a with
      | true => rw [a2, if_pos rfl] at h1; omega
      | false =>
        rw [a2, if_neg (by simp)] at h1
        have e := sl_total a1 a2
        subst e
        cases a3 : sl c.tab d.tab with
        | true => rw [if_pos rfl]; omega
        | false =>
          rw [a3, if_neg (by simp)] at h2
          rw [if_neg (by simp)]
          cases a4 : sl d.tab c.tab with
          | true => rw [a4, if_pos rfl] at h2; omega
          | false =>
            rw [a4, if_neg (by simp)] at h2
            rw [if_neg (by simp)]
            have v1 : vl x c.key = true := decide_eq_true (by assumption)
            have v2 : vl c.key d.key = true := decide_eq_true h2
            exact of_decide_eq_true (vl_trans v1 v2)
theorem WOk.made (h : WOk db l) : ∀ c ∈ l, VMade c.key := fun c hc => by
  obtain ⟨t, _, a⟩ := h.ch c hc
  exact ok_made a.ko
/-- find finds the word on the key. -/
theorem fd_iff (hm : ∀ c ∈ l, VMade c.key) (hs : l.Pairwise fun a b => sideP a.tab a.key b < 0) (hx : VMade key) : (fdC nm key l).2 = true ↔ ∃ c ∈ l, c.tab = nm ∧ c.key = key := by
  induction l with
  | nil => exact ⟨fun h => (by cases h), fun ⟨c, hc, _⟩ => (by cases hc)⟩
  | cons c r ih =>
    have hc := List.pairwise_cons.1 hs
    have mc := hm c (by simp)
    rw [fdC_cons]
    by_cases h0 : sideP nm key c ≤ 0
    · rw [if_pos h0]
      constructor
      · intro h
        have h : sideP nm key c = 0 := by simpa using h
        obtain ⟨rfl, rfl⟩ := (side0 hx mc).1 h
        exact ⟨c, by simp, rfl, rfl⟩
      · rintro ⟨c', hc', rfl, rfl⟩
        rcases List.mem_cons.1 hc' with rfl | hc'
        · show (sideP c'.tab c'.key c' == 0) = true
          rw [(side0 mc mc).2 ⟨rfl, rfl⟩]; rfl
        · have := side_trans hx mc (hm c' (by simp [hc'])) h0 (hc.1 c' hc')
          exact absurd ⟨rfl, rfl⟩ (side_lt_ne this)
    · rw [if_neg h0]
      show (fdC nm key r).2 = true ↔ _
      rw [ih (fun c' hc' => hm c' (by simp [hc'])) hc.2]
      constructor
      · rintro ⟨c', hc', h⟩
        exact ⟨c', by simp [hc'], h⟩
      · rintro ⟨c', hc', rfl, rfl⟩
        rcases List.mem_cons.1 hc' with rfl | hc'
        · exact absurd (show sideP c'.tab c'.key c' ≤ 0 by rw [(side0 mc mc).2 ⟨rfl, rfl⟩]; omega) h0
        · exact ⟨c', hc', rfl, rfl⟩
/-- What a session sees of a table: the rows t, the words l on the table nm, the rows q. -/
def Sees (nm : ByteArray) (pk : Nat) (rows : List (List Vl)) (l : List Ch) (q : List (List Vl)) : Prop :=
  ∀ y, y ∈ q ↔ (y ∈ rows ∧ ∀ c ∈ l, c.tab = nm → c.key ≠ y.getD pk v0) ∨ ∃ c ∈ l, c.tab = nm ∧ c.gone = false ∧ c.row = y
theorem mem_mrg1 (h : WOk db l) (hr : ∀ y ∈ rows, VMade (y.getD pk v0)) {y : List Vl} : y ∈ mrg1 nm pk l rows ↔ y ∈ rows ∧ ∀ c ∈ l, c.tab = nm → c.key ≠ y.getD pk v0 := by
  unfold mrg1
  rw [List.mem_filter]
  constructor
  · rintro ⟨h1, h2⟩
    refine ⟨h1, fun c hc ht hk => ?_⟩
    have := (fd_iff (nm := nm) h.made h.srt (hr y h1)).2 ⟨c, hc, ht, hk⟩
    rw [this] at h2; cases h2
  · rintro ⟨h1, h2⟩
    refine ⟨h1, ?_⟩
    cases hf : (fdC nm (y.getD pk v0) l).2 with
    | false => rfl
    | true =>
      obtain ⟨c, hc, ht, hk⟩ := (fd_iff (nm := nm) h.made h.srt (hr y h1)).1 hf
      exact absurd hk (h2 c hc ht)
/-- Merging answers the scan of what the session sees. -/
theorem mrg_scan {q : List (List Vl)} {r0 : List (List Vl)} (hok : TbOk tb) (hf : fnB nm db = some tb) (h : WOk db l) (hcol : col < tb.cols.length) (hs : Sees nm tb.pk tb.rows l q) (hr : ScanR tb.rows col tb.pk lo hi r0) : ScanR q col tb.pk lo hi (mrgP nm col tb.pk lo hi l r0) := by
  have hok' := hok
  unfold TbOk at hok'
  have rowM : ∀ y ∈ tb.rows, ∀ m, VMade (y.getD m v0) := fun y hy m => ok_made (getD_ok (hok'.2.2.2.2.2.2.1 y hy).2 m)
  have chM : ∀ c ∈ l, c.tab = nm → c.gone = false → (∀ m, VMade (c.row.getD m v0)) ∧ c.row.getD tb.pk v0 = c.key := fun c hc ht hg => by
    obtain ⟨t, ht', a⟩ := h.ch c hc
    rw [ht, hf] at ht'
    cases ht'
    obtain ⟨_, h2, h3⟩ := a.rw hg
    exact ⟨fun m => ok_made (getD_ok h2 m), h3⟩
  have m1 : ∀ y, y ∈ mrg1 nm tb.pk l r0 ↔ y ∈ r0 ∧ ∀ c ∈ l, c.tab = nm → c.key ≠ y.getD tb.pk v0 := fun y => mem_mrg1 h fun z hz => rowM z ((hr.2 z).1 hz).1 _
  refine ⟨?_, fun y => ?_⟩
  · have key : ∀ (l1 l2 : List Ch) (acc : List (List Vl)), l1 ++ l2 = l → acc.Pairwise (rl col tb.pk) → (∀ y ∈ acc, VMade (y.getD col v0) ∧ VMade (y.getD tb.pk v0)) → (∀ y ∈ acc, ∀ c ∈ l2, c.tab = nm → c.key ≠ y.getD tb.pk v0) → (mrg2 nm col tb.pk lo hi l2 acc).Pairwise (rl col tb.pk) := by
      intro l1 l2
      induction l2 generalizing l1 with
      | nil => exact fun acc _ hp _ _ => hp
      | cons c r ih =>
        intro acc hl hp hm hn
        have hcl : c ∈ l := by rw [← hl]; simp
        unfold mrg2
        rw [List.foldl_cons]
        by_cases hin : inM nm col lo hi c = true
        · rw [if_pos hin]
          have hin' := hin
          unfold inM at hin'
          rw [Bool.and_eq_true, Bool.and_eq_true] at hin'
          have ct : c.tab = nm := of_decide_eq_true hin'.1.1
          have cg : c.gone = false := by simpa using hin'.1.2
          obtain ⟨cm, ck⟩ := chM c hcl ct cg
          refine ih (l1 ++ [c]) _ (by rw [← hl]; simp) (insE_rl hm ⟨cm _, cm _⟩ (fun y hy e => hn y hy c (by simp) ct ?_) hp) (fun y hy => ?_) fun y hy c' hc' ht' => ?_
          · rw [← ck]; exact e.symm
          · rcases insE_mem.1 hy with rfl | hy
            · exact ⟨cm _, cm _⟩
            · exact hm y hy
          · rcases insE_mem.1 hy with rfl | hy
            · rw [ck]
              have hsl := h.srt
              rw [← hl, List.pairwise_append, List.pairwise_cons] at hsl
              have := hsl.2.1.1 c' hc'
              intro e
              exact side_lt_ne this ⟨ct.trans ht'.symm, e.symm⟩
            · exact hn y hy c' (by simp [hc']) ht'
        · rw [if_neg hin]
          exact ih (l1 ++ [c]) acc (by rw [← hl]; simp) hp hm fun y hy c' hc' => hn y hy c' (by simp [hc'])
    refine key [] l _ rfl (hr.1.sublist List.filter_sublist) (fun y hy => ?_) fun y hy c hc ht => ((m1 y).1 hy).2 c hc ht
    have := ((hr.2 y).1 ((m1 y).1 hy).1).1
    exact ⟨rowM y this _, rowM y this _⟩
  · unfold mrgP
    rw [mrg2_mem, m1, hr.2, hs y]
    constructor
    · rintro (⟨⟨h1, h2⟩, h3⟩ | ⟨c, hc, hi1, rfl⟩)
      · exact ⟨.inl ⟨h1, h3⟩, h2⟩
      · unfold inM at hi1
        rw [Bool.and_eq_true, Bool.and_eq_true] at hi1
        exact ⟨.inr ⟨c, hc, of_decide_eq_true hi1.1.1, by simpa using hi1.1.2, rfl⟩, hi1.2⟩
    · rintro ⟨⟨h1, h3⟩ | ⟨c, hc, ht, hg, rfl⟩, h2⟩
      · exact .inl ⟨⟨h1, h2⟩, h3⟩
      · refine .inr ⟨c, hc, ?_, rfl⟩
        unfold inM
        rw [decide_eq_true ht, hg, h2]; rfl
def nob : Bd := ⟨false, v0⟩
theorem inB_nob (v : Vl) : inB nob nob v = true := rfl
theorem scan_all (ok : TbOk tb) : ScanR tb.rows tb.pk tb.pk nob nob tb.rows := by
  refine ⟨?_, fun r => ⟨fun h => ⟨h, rfl⟩, fun h => h.1⟩⟩
  have ok' := ok
  unfold TbOk at ok'
  refine List.Pairwise.imp_of_mem (fun {a b} ha hb h => ?_) ok'.2.2.2.2.2.2.2
  refine .inl ?_
  rw [vl_same (by rw [ty_get (ok'.2.2.2.2.2.2.1 a ha).1 ok'.2.2.2.1, ty_get (ok'.2.2.2.2.2.2.1 b hb).1 ok'.2.2.2.1])]
  exact h
end Go.Proofs.Qxb6500564aGreat
