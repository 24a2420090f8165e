/-
  Every function's text leaves the streams alone.
-/
import Derived.Test.Qxb6500563aGreatS5
import Derived.Test.Qxb6500563aGreatKeep
set_option linter.unusedVariables false
set_option linter.unusedSimpArgs false
namespace Go.Proofs.Qxb6500563aGreat
open Go Go.Den
theorem T.CI5 : CallEq T.C5 := CallEq.nil
theorem T.imp5 : ∀ vs w K K', Agree w K K' → T.c5 vs w K = T.c5 vs w K' := by
  intro vs w K K' h
  unfold T.c5
  split
  · rw [← T.eq5, ← T.eq5]
    refine denF_eq T.CI5 fun v w' hs => ?_
    split <;> first | rfl | exact h _ _ hs
  · rfl
theorem T.CI6 : CallEq T.C6 := CallEq.nil
theorem T.imp6 : ∀ vs w K K', Agree w K K' → T.c6 vs w K = T.c6 vs w K' := by
  intro vs w K K' h
  unfold T.c6
  split
  · rw [← T.eq6, ← T.eq6]
    refine denF_eq T.CI6 fun v w' hs => ?_
    split <;> first | rfl | exact h _ _ hs
  · rfl
theorem T.CI32 : CallEq T.C32 := CallEq.nil
theorem T.imp32 : ∀ vs w K K', Agree w K K' → T.c32 vs w K = T.c32 vs w K' := by
  intro vs w K K' h
  unfold T.c32
  split
  · rw [← T.eq32, ← T.eq32]
    refine denF_eq T.CI32 fun v w' hs => ?_
    split <;> first | rfl | exact h _ _ hs
  · rfl
theorem T.CI33 : CallEq T.C33 := CallEq.nil
theorem T.imp33 : ∀ vs w K K', Agree w K K' → T.c33 vs w K = T.c33 vs w K' := by
  intro vs w K K' h
  unfold T.c33
  split
  · rw [← T.eq33, ← T.eq33]
    refine denF_eq T.CI33 fun v w' hs => ?_
    split <;> first | rfl | exact h _ _ hs
  · rfl
theorem T.CI15 : CallEq T.C15 := (CallEq.cons 32 T.imp32 (CallEq.cons 33 T.imp33 CallEq.nil))
theorem T.imp15 : ∀ vs w K K', Agree w K K' → T.c15 vs w K = T.c15 vs w K' := by
  intro vs w K K' h
  unfold T.c15
  split
  · rw [← T.eq15, ← T.eq15]
    refine denF_eq T.CI15 fun v w' hs => ?_
    split <;> first | rfl | exact h _ _ hs
  · rfl
theorem T.CI7 : CallEq T.C7 := (CallEq.cons 15 T.imp15 CallEq.nil)
theorem T.imp7 : ∀ vs w K K', Agree w K K' → T.c7 vs w K = T.c7 vs w K' := by
  intro vs w K K' h
  unfold T.c7
  split
  · rw [← T.eq7, ← T.eq7]
    refine denF_eq T.CI7 fun v w' hs => ?_
    split <;> first | rfl | exact h _ _ hs
  · rfl
theorem T.CI16 : CallEq T.C16 := CallEq.nil
theorem T.imp16 : ∀ vs w K K', Agree w K K' → T.c16 vs w K = T.c16 vs w K' := by
  intro vs w K K' h
  unfold T.c16
  split
  · rw [← T.eq16, ← T.eq16]
    refine denF_eq T.CI16 fun v w' hs => ?_
    split <;> first | rfl | exact h _ _ hs
  · rfl
theorem T.CI17 : CallEq T.C17 := CallEq.nil
theorem T.imp17 : ∀ vs w K K', Agree w K K' → T.c17 vs w K = T.c17 vs w K' := by
  intro vs w K K' h
  unfold T.c17
  split
  · rw [← T.eq17, ← T.eq17]
    refine denF_eq T.CI17 fun v w' hs => ?_
    split <;> first | rfl | exact h _ _ hs
  · rfl
theorem T.CI34 : CallEq T.C34 := CallEq.nil
theorem T.imp34 : ∀ vs w K K', Agree w K K' → T.c34 vs w K = T.c34 vs w K' := by
  intro vs w K K' h
  unfold T.c34
  split
  · rw [← T.eq34, ← T.eq34]
    refine denF_eq T.CI34 fun v w' hs => ?_
    split <;> first | rfl | exact h _ _ hs
  · rfl
theorem T.CI18 : CallEq T.C18 := (CallEq.cons 34 T.imp34 CallEq.nil)
theorem T.imp18 : ∀ vs w K K', Agree w K K' → T.c18 vs w K = T.c18 vs w K' := by
  intro vs w K K' h
  unfold T.c18
  split
  · rw [← T.eq18, ← T.eq18]
    refine denF_eq T.CI18 fun v w' hs => ?_
    split <;> first | rfl | exact h _ _ hs
  · rfl
theorem T.CI19 : CallEq T.C19 := CallEq.nil
theorem T.imp19 : ∀ vs w K K', Agree w K K' → T.c19 vs w K = T.c19 vs w K' := by
  intro vs w K K' h
  unfold T.c19
  split
  · rw [← T.eq19, ← T.eq19]
    refine denF_eq T.CI19 fun v w' hs => ?_
    split <;> first | rfl | exact h _ _ hs
  · rfl
theorem T.CI52 : CallEq T.C52 := CallEq.nil
theorem T.imp52 : ∀ vs w K K', Agree w K K' → T.c52 vs w K = T.c52 vs w K' := by
  intro vs w K K' h
  unfold T.c52
  split
  · rw [← T.eq52, ← T.eq52]
    refine denF_eq T.CI52 fun v w' hs => ?_
    split <;> first | rfl | exact h _ _ hs
  · rfl
theorem T.CI35 : CallEq T.C35 := (CallEq.cons 52 T.imp52 CallEq.nil)
theorem T.imp35 : ∀ vs w K K', Agree w K K' → T.c35 vs w K = T.c35 vs w K' := by
  intro vs w K K' h
  unfold T.c35
  split
  · rw [← T.eq35, ← T.eq35]
    refine denF_eq T.CI35 fun v w' hs => ?_
    split <;> first | rfl | exact h _ _ hs
  · rfl
theorem T.CI20 : CallEq T.C20 := (CallEq.cons 35 T.imp35 CallEq.nil)
theorem T.imp20 : ∀ vs w K K', Agree w K K' → T.c20 vs w K = T.c20 vs w K' := by
  intro vs w K K' h
  unfold T.c20
  split
  · rw [← T.eq20, ← T.eq20]
    refine denF_eq T.CI20 fun v w' hs => ?_
    split <;> first | rfl | exact h _ _ hs
  · rfl
theorem T.CI21 : CallEq T.C21 := CallEq.nil
theorem T.imp21 : ∀ vs w K K', Agree w K K' → T.c21 vs w K = T.c21 vs w K' := by
  intro vs w K K' h
  unfold T.c21
  split
  · rw [← T.eq21, ← T.eq21]
    refine denF_eq T.CI21 fun v w' hs => ?_
    split <;> first | rfl | exact h _ _ hs
  · rfl
theorem T.CI8 : CallEq T.C8 := (CallEq.cons 16 T.imp16 (CallEq.cons 17 T.imp17 (CallEq.cons 18 T.imp18 (CallEq.cons 19 T.imp19 (CallEq.cons 20 T.imp20 (CallEq.cons 21 T.imp21 CallEq.nil))))))
theorem T.imp8 : ∀ vs w K K', Agree w K K' → T.c8 vs w K = T.c8 vs w K' := by
  intro vs w K K' h
  unfold T.c8
  split
  · rw [← T.eq8, ← T.eq8]
    refine denF_eq T.CI8 fun v w' hs => ?_
    split <;> first | rfl | exact h _ _ hs
  · rfl
theorem T.CI22 : CallEq T.C22 := CallEq.nil
theorem T.imp22 : ∀ vs w K K', Agree w K K' → T.c22 vs w K = T.c22 vs w K' := by
  intro vs w K K' h
  unfold T.c22
  split
  · rw [← T.eq22, ← T.eq22]
    refine denF_eq T.CI22 fun v w' hs => ?_
    split <;> first | rfl | exact h _ _ hs
  · rfl
theorem T.CI36 : CallEq T.C36 := CallEq.nil
theorem T.imp36 : ∀ vs w K K', Agree w K K' → T.c36 vs w K = T.c36 vs w K' := by
  intro vs w K K' h
  unfold T.c36
  split
  · rw [← T.eq36, ← T.eq36]
    refine denF_eq T.CI36 fun v w' hs => ?_
    split <;> first | rfl | exact h _ _ hs
  · rfl
theorem T.CI39 : CallEq T.C39 := CallEq.nil
theorem T.imp39 : ∀ vs w K K', Agree w K K' → T.c39 vs w K = T.c39 vs w K' := by
  intro vs w K K' h
  unfold T.c39
  split
  · rw [← T.eq39, ← T.eq39]
    refine denF_eq T.CI39 fun v w' hs => ?_
    split <;> first | rfl | exact h _ _ hs
  · rfl
theorem T.CI38 : CallEq T.C38 := CallEq.nil
theorem T.imp38 : ∀ vs w K K', Agree w K K' → T.c38 vs w K = T.c38 vs w K' := by
  intro vs w K K' h
  unfold T.c38
  split
  · rw [← T.eq38, ← T.eq38]
    refine denF_eq T.CI38 fun v w' hs => ?_
    split <;> first | rfl | exact h _ _ hs
  · rfl
theorem T.CI136 : CallEq T.C136 := CallEq.nil
theorem T.imp136 : ∀ vs w K K', Agree w K K' → T.c136 vs w K = T.c136 vs w K' := by
  intro vs w K K' h
  unfold T.c136
  split
  · rw [← T.eq136, ← T.eq136]
    refine denF_eq T.CI136 fun v w' hs => ?_
    split <;> first | rfl | exact h _ _ hs
  · rfl
theorem T.CI106 : CallEq T.C106 := (CallEq.cons 136 T.imp136 CallEq.nil)
theorem T.imp106 : ∀ vs w K K', Agree w K K' → T.c106 vs w K = T.c106 vs w K' := by
  intro vs w K K' h
  unfold T.c106
  split
  · rw [← T.eq106, ← T.eq106]
    refine denF_eq T.CI106 fun v w' hs => ?_
    split <;> first | rfl | exact h _ _ hs
  · rfl
theorem T.CI162 : CallEq T.C162 := CallEq.nil
theorem T.imp162 : ∀ vs w K K', Agree w K K' → T.c162 vs w K = T.c162 vs w K' := by
  intro vs w K K' h
  unfold T.c162
  split
  · rw [← T.eq162, ← T.eq162]
    refine denF_eq T.CI162 fun v w' hs => ?_
    split <;> first | rfl | exact h _ _ hs
  · rfl
theorem T.CI163 : CallEq T.C163 := CallEq.nil
theorem T.imp163 : ∀ vs w K K', Agree w K K' → T.c163 vs w K = T.c163 vs w K' := by
  intro vs w K K' h
  unfold T.c163
  split
  · rw [← T.eq163, ← T.eq163]
    refine denF_eq T.CI163 fun v w' hs => ?_
    split <;> first | rfl | exact h _ _ hs
  · rfl
theorem T.CI137 : CallEq T.C137 := (CallEq.cons 162 T.imp162 (CallEq.cons 163 T.imp163 CallEq.nil))
theorem T.imp137 : ∀ vs w K K', Agree w K K' → T.c137 vs w K = T.c137 vs w K' := by
  intro vs w K K' h
  unfold T.c137
  split
  · rw [← T.eq137, ← T.eq137]
    refine denF_eq T.CI137 fun v w' hs => ?_
    split <;> first | rfl | exact h _ _ hs
  · rfl
theorem T.CI140 : CallEq T.C140 := (CallEq.cons 162 T.imp162 CallEq.nil)
theorem T.imp140 : ∀ vs w K K', Agree w K K' → T.c140 vs w K = T.c140 vs w K' := by
  intro vs w K K' h
  unfold T.c140
  split
  · rw [← T.eq140, ← T.eq140]
    refine denF_eq T.CI140 fun v w' hs => ?_
    split <;> first | rfl | exact h _ _ hs
  · rfl
theorem T.CI139 : CallEq T.C139 := (CallEq.cons 140 T.imp140 CallEq.nil)
theorem T.imp139 : ∀ vs w K K', Agree w K K' → T.c139 vs w K = T.c139 vs w K' := by
  intro vs w K K' h
  unfold T.c139
  split
  · rw [← T.eq139, ← T.eq139]
    refine denF_eq T.CI139 fun v w' hs => ?_
    split <;> first | rfl | exact h _ _ hs
  · rfl
theorem T.CI138 : CallEq T.C138 := CallEq.nil
theorem T.imp138 : ∀ vs w K K', Agree w K K' → T.c138 vs w K = T.c138 vs w K' := by
  intro vs w K K' h
  unfold T.c138
  split
  · rw [← T.eq138, ← T.eq138]
    refine denF_eq T.CI138 fun v w' hs => ?_
    split <;> first | rfl | exact h _ _ hs
  · rfl
theorem T.CI107 : CallEq T.C107 := (CallEq.cons 137 T.imp137 (CallEq.cons 139 T.imp139 (CallEq.cons 136 T.imp136 (CallEq.cons 138 T.imp138 CallEq.nil))))
theorem T.imp107 : ∀ vs w K K', Agree w K K' → T.c107 vs w K = T.c107 vs w K' := by
  intro vs w K K' h
  unfold T.c107
  split
  · rw [← T.eq107, ← T.eq107]
    refine denF_eq T.CI107 fun v w' hs => ?_
    split <;> first | rfl | exact h _ _ hs
  · rfl
theorem T.CI108 : CallEq T.C108 := (CallEq.cons 137 T.imp137 (CallEq.cons 140 T.imp140 (CallEq.cons 136 T.imp136 (CallEq.cons 138 T.imp138 (CallEq.cons 139 T.imp139 CallEq.nil)))))
theorem T.imp108 : ∀ vs w K K', Agree w K K' → T.c108 vs w K = T.c108 vs w K' := by
  intro vs w K K' h
  unfold T.c108
  split
  · rw [← T.eq108, ← T.eq108]
    refine denF_eq T.CI108 fun v w' hs => ?_
    split <;> first | rfl | exact h _ _ hs
  · rfl
theorem T.CI77 : CallEq T.C77 := (CallEq.cons 106 T.imp106 (CallEq.cons 34 T.imp34 (CallEq.cons 107 T.imp107 (CallEq.cons 108 T.imp108 CallEq.nil))))
theorem T.imp77 : ∀ vs w K K', Agree w K K' → T.c77 vs w K = T.c77 vs w K' := by
  intro vs w K K' h
  unfold T.c77
  split
  · rw [← T.eq77, ← T.eq77]
    refine denF_eq T.CI77 fun v w' hs => ?_
    split <;> first | rfl | exact h _ _ hs
  · rfl
theorem T.CI109 : CallEq T.C109 := CallEq.nil
theorem T.imp109 : ∀ vs w K K', Agree w K K' → T.c109 vs w K = T.c109 vs w K' := by
  intro vs w K K' h
  unfold T.c109
  split
  · rw [← T.eq109, ← T.eq109]
    refine denF_eq T.CI109 fun v w' hs => ?_
    split <;> first | rfl | exact h _ _ hs
  · rfl
theorem T.CI86 : CallEq T.C86 := CallEq.nil
theorem T.imp86 : ∀ vs w K K', Agree w K K' → T.c86 vs w K = T.c86 vs w K' := by
  intro vs w K K' h
  unfold T.c86
  split
  · rw [← T.eq86, ← T.eq86]
    refine denF_eq T.CI86 fun v w' hs => ?_
    split <;> first | rfl | exact h _ _ hs
  · rfl
theorem T.CI78 : CallEq T.C78 := (CallEq.cons 109 T.imp109 (CallEq.cons 86 T.imp86 CallEq.nil))
theorem T.imp78 : ∀ vs w K K', Agree w K K' → T.c78 vs w K = T.c78 vs w K' := by
  intro vs w K K' h
  unfold T.c78
  split
  · rw [← T.eq78, ← T.eq78]
    refine denF_eq T.CI78 fun v w' hs => ?_
    split <;> first | rfl | exact h _ _ hs
  · rfl
theorem T.CI167 : CallEq T.C167 := CallEq.nil
theorem T.imp167 : ∀ vs w K K', Agree w K K' → T.c167 vs w K = T.c167 vs w K' := by
  intro vs w K K' h
  unfold T.c167
  split
  · rw [← T.eq167, ← T.eq167]
    refine denF_eq T.CI167 fun v w' hs => ?_
    split <;> first | rfl | exact h _ _ hs
  · rfl
theorem T.CI165 : CallEq T.C165 := (CallEq.cons 167 T.imp167 CallEq.nil)
theorem T.imp165 : ∀ vs w K K', Agree w K K' → T.c165 vs w K = T.c165 vs w K' := by
  intro vs w K K' h
  unfold T.c165
  split
  · rw [← T.eq165, ← T.eq165]
    refine denF_eq T.CI165 fun v w' hs => ?_
    split <;> first | rfl | exact h _ _ hs
  · rfl
theorem T.CI164 : CallEq T.C164 := (CallEq.cons 167 T.imp167 CallEq.nil)
theorem T.imp164 : ∀ vs w K K', Agree w K K' → T.c164 vs w K = T.c164 vs w K' := by
  intro vs w K K' h
  unfold T.c164
  split
  · rw [← T.eq164, ← T.eq164]
    refine denF_eq T.CI164 fun v w' hs => ?_
    split <;> first | rfl | exact h _ _ hs
  · rfl
theorem T.CI141 : CallEq T.C141 := (CallEq.cons 165 T.imp165 (CallEq.cons 164 T.imp164 CallEq.nil))
theorem T.imp141 : ∀ vs w K K', Agree w K K' → T.c141 vs w K = T.c141 vs w K' := by
  intro vs w K K' h
  unfold T.c141
  split
  · rw [← T.eq141, ← T.eq141]
    refine denF_eq T.CI141 fun v w' hs => ?_
    split <;> first | rfl | exact h _ _ hs
  · rfl
theorem T.CI166 : CallEq T.C166 := CallEq.nil
theorem T.imp166 : ∀ vs w K K', Agree w K K' → T.c166 vs w K = T.c166 vs w K' := by
  intro vs w K K' h
  unfold T.c166
  split
  · rw [← T.eq166, ← T.eq166]
    refine denF_eq T.CI166 fun v w' hs => ?_
    split <;> first | rfl | exact h _ _ hs
  · rfl
theorem T.CI142 : CallEq T.C142 := (CallEq.cons 166 T.imp166 CallEq.nil)
theorem T.imp142 : ∀ vs w K K', Agree w K K' → T.c142 vs w K = T.c142 vs w K' := by
  intro vs w K K' h
  unfold T.c142
  split
  · rw [← T.eq142, ← T.eq142]
    refine denF_eq T.CI142 fun v w' hs => ?_
    split <;> first | rfl | exact h _ _ hs
  · rfl
theorem T.CI110 : CallEq T.C110 := (CallEq.cons 141 T.imp141 (CallEq.cons 142 T.imp142 CallEq.nil))
theorem T.imp110 : ∀ vs w K K', Agree w K K' → T.c110 vs w K = T.c110 vs w K' := by
  intro vs w K K' h
  unfold T.c110
  split
  · rw [← T.eq110, ← T.eq110]
    refine denF_eq T.CI110 fun v w' hs => ?_
    split <;> first | rfl | exact h _ _ hs
  · rfl
theorem T.CI79 : CallEq T.C79 := (CallEq.cons 110 T.imp110 CallEq.nil)
theorem T.imp79 : ∀ vs w K K', Agree w K K' → T.c79 vs w K = T.c79 vs w K' := by
  intro vs w K K' h
  unfold T.c79
  split
  · rw [← T.eq79, ← T.eq79]
    refine denF_eq T.CI79 fun v w' hs => ?_
    split <;> first | rfl | exact h _ _ hs
  · rfl
theorem T.CI93 : CallEq T.C93 := CallEq.nil
theorem T.imp93 : ∀ vs w K K', Agree w K K' → T.c93 vs w K = T.c93 vs w K' := by
  intro vs w K K' h
  unfold T.c93
  split
  · rw [← T.eq93, ← T.eq93]
    refine denF_eq T.CI93 fun v w' hs => ?_
    split <;> first | rfl | exact h _ _ hs
  · rfl
theorem T.CI91 : CallEq T.C91 := CallEq.nil
theorem T.imp91 : ∀ vs w K K', Agree w K K' → T.c91 vs w K = T.c91 vs w K' := by
  intro vs w K K' h
  unfold T.c91
  split
  · rw [← T.eq91, ← T.eq91]
    refine denF_eq T.CI91 fun v w' hs => ?_
    split <;> first | rfl | exact h _ _ hs
  · rfl
theorem T.CI111 : CallEq T.C111 := (CallEq.cons 93 T.imp93 (CallEq.cons 91 T.imp91 CallEq.nil))
theorem T.imp111 : ∀ vs w K K', Agree w K K' → T.c111 vs w K = T.c111 vs w K' := by
  intro vs w K K' h
  unfold T.c111
  split
  · rw [← T.eq111, ← T.eq111]
    refine denF_eq T.CI111 fun v w' hs => ?_
    split <;> first | rfl | exact h _ _ hs
  · rfl
theorem T.CI113 : CallEq T.C113 := CallEq.nil
theorem T.imp113 : ∀ vs w K K', Agree w K K' → T.c113 vs w K = T.c113 vs w K' := by
  intro vs w K K' h
  unfold T.c113
  split
  · rw [← T.eq113, ← T.eq113]
    refine denF_eq T.CI113 fun v w' hs => ?_
    split <;> first | rfl | exact h _ _ hs
  · rfl
theorem T.CI81 : CallEq T.C81 := (CallEq.cons 113 T.imp113 CallEq.nil)
theorem T.imp81 : ∀ vs w K K', Agree w K K' → T.c81 vs w K = T.c81 vs w K' := by
  intro vs w K K' h
  unfold T.c81
  split
  · rw [← T.eq81, ← T.eq81]
    refine denF_eq T.CI81 fun v w' hs => ?_
    split <;> first | rfl | exact h _ _ hs
  · rfl
theorem T.CI144 : CallEq T.C144 := (CallEq.cons 81 T.imp81 CallEq.nil)
theorem T.imp144 : ∀ vs w K K', Agree w K K' → T.c144 vs w K = T.c144 vs w K' := by
  intro vs w K K' h
  unfold T.c144
  split
  · rw [← T.eq144, ← T.eq144]
    refine denF_eq T.CI144 fun v w' hs => ?_
    split <;> first | rfl | exact h _ _ hs
  · rfl
theorem T.CI145 : CallEq T.C145 := (CallEq.cons 144 T.imp144 CallEq.nil)
theorem T.imp145 : ∀ vs w K K', Agree w K K' → T.c145 vs w K = T.c145 vs w K' := by
  intro vs w K K' h
  unfold T.c145
  split
  · rw [← T.eq145, ← T.eq145]
    refine denF_eq T.CI145 fun v w' hs => ?_
    split <;> first | rfl | exact h _ _ hs
  · rfl
theorem T.CI143 : CallEq T.C143 := (CallEq.cons 145 T.imp145 (CallEq.cons 144 T.imp144 CallEq.nil))
theorem T.imp143 : ∀ vs w K K', Agree w K K' → T.c143 vs w K = T.c143 vs w K' := by
  intro vs w K K' h
  unfold T.c143
  split
  · rw [← T.eq143, ← T.eq143]
    refine denF_eq T.CI143 fun v w' hs => ?_
    split <;> first | rfl | exact h _ _ hs
  · rfl
theorem T.CI112 : CallEq T.C112 := (CallEq.cons 143 T.imp143 (CallEq.cons 144 T.imp144 (CallEq.cons 145 T.imp145 CallEq.nil)))
theorem T.imp112 : ∀ vs w K K', Agree w K K' → T.c112 vs w K = T.c112 vs w K' := by
  intro vs w K K' h
  unfold T.c112
  split
  · rw [← T.eq112, ← T.eq112]
    refine denF_eq T.CI112 fun v w' hs => ?_
    split <;> first | rfl | exact h _ _ hs
  · rfl
theorem T.CI80 : CallEq T.C80 := (CallEq.cons 111 T.imp111 (CallEq.cons 112 T.imp112 CallEq.nil))
theorem T.imp80 : ∀ vs w K K', Agree w K K' → T.c80 vs w K = T.c80 vs w K' := by
  intro vs w K K' h
  unfold T.c80
  split
  · rw [← T.eq80, ← T.eq80]
    refine denF_eq T.CI80 fun v w' hs => ?_
    split <;> first | rfl | exact h _ _ hs
  · rfl
theorem T.CI84 : CallEq T.C84 := CallEq.nil
theorem T.imp84 : ∀ vs w K K', Agree w K K' → T.c84 vs w K = T.c84 vs w K' := by
  intro vs w K K' h
  unfold T.c84
  split
  · rw [← T.eq84, ← T.eq84]
    refine denF_eq T.CI84 fun v w' hs => ?_
    split <;> first | rfl | exact h _ _ hs
  · rfl
theorem T.CI114 : CallEq T.C114 := CallEq.nil
theorem T.imp114 : ∀ vs w K K', Agree w K K' → T.c114 vs w K = T.c114 vs w K' := by
  intro vs w K K' h
  unfold T.c114
  split
  · rw [← T.eq114, ← T.eq114]
    refine denF_eq T.CI114 fun v w' hs => ?_
    split <;> first | rfl | exact h _ _ hs
  · rfl
theorem T.CI82 : CallEq T.C82 := (CallEq.cons 114 T.imp114 (CallEq.cons 81 T.imp81 CallEq.nil))
theorem T.imp82 : ∀ vs w K K', Agree w K K' → T.c82 vs w K = T.c82 vs w K' := by
  intro vs w K K' h
  unfold T.c82
  split
  · rw [← T.eq82, ← T.eq82]
    refine denF_eq T.CI82 fun v w' hs => ?_
    split <;> first | rfl | exact h _ _ hs
  · rfl
theorem T.CI146 : CallEq T.C146 := CallEq.nil
theorem T.imp146 : ∀ vs w K K', Agree w K K' → T.c146 vs w K = T.c146 vs w K' := by
  intro vs w K K' h
  unfold T.c146
  split
  · rw [← T.eq146, ← T.eq146]
    refine denF_eq T.CI146 fun v w' hs => ?_
    split <;> first | rfl | exact h _ _ hs
  · rfl
theorem T.CI147 : CallEq T.C147 := CallEq.nil
theorem T.imp147 : ∀ vs w K K', Agree w K K' → T.c147 vs w K = T.c147 vs w K' := by
  intro vs w K K' h
  unfold T.c147
  split
  · rw [← T.eq147, ← T.eq147]
    refine denF_eq T.CI147 fun v w' hs => ?_
    split <;> first | rfl | exact h _ _ hs
  · rfl
theorem T.CI116 : CallEq T.C116 := (CallEq.cons 146 T.imp146 (CallEq.cons 147 T.imp147 CallEq.nil))
theorem T.imp116 : ∀ vs w K K', Agree w K K' → T.c116 vs w K = T.c116 vs w K' := by
  intro vs w K K' h
  unfold T.c116
  split
  · rw [← T.eq116, ← T.eq116]
    refine denF_eq T.CI116 fun v w' hs => ?_
    split <;> first | rfl | exact h _ _ hs
  · rfl
theorem T.CI148 : CallEq T.C148 := CallEq.nil
theorem T.imp148 : ∀ vs w K K', Agree w K K' → T.c148 vs w K = T.c148 vs w K' := by
  intro vs w K K' h
  unfold T.c148
  split
  · rw [← T.eq148, ← T.eq148]
    refine denF_eq T.CI148 fun v w' hs => ?_
    split <;> first | rfl | exact h _ _ hs
  · rfl
theorem T.CI117 : CallEq T.C117 := (CallEq.cons 148 T.imp148 CallEq.nil)
theorem T.imp117 : ∀ vs w K K', Agree w K K' → T.c117 vs w K = T.c117 vs w K' := by
  intro vs w K K' h
  unfold T.c117
  split
  · rw [← T.eq117, ← T.eq117]
    refine denF_eq T.CI117 fun v w' hs => ?_
    split <;> first | rfl | exact h _ _ hs
  · rfl
theorem T.CI149 : CallEq T.C149 := (CallEq.cons 81 T.imp81 CallEq.nil)
theorem T.imp149 : ∀ vs w K K', Agree w K K' → T.c149 vs w K = T.c149 vs w K' := by
  intro vs w K K' h
  unfold T.c149
  split
  · rw [← T.eq149, ← T.eq149]
    refine denF_eq T.CI149 fun v w' hs => ?_
    split <;> first | rfl | exact h _ _ hs
  · rfl
theorem T.CI118 : CallEq T.C118 := (CallEq.cons 149 T.imp149 (CallEq.cons 109 T.imp109 (CallEq.cons 86 T.imp86 (CallEq.cons 93 T.imp93 (CallEq.cons 81 T.imp81 CallEq.nil)))))
theorem T.imp118 : ∀ vs w K K', Agree w K K' → T.c118 vs w K = T.c118 vs w K' := by
  intro vs w K K' h
  unfold T.c118
  split
  · rw [← T.eq118, ← T.eq118]
    refine denF_eq T.CI118 fun v w' hs => ?_
    split <;> first | rfl | exact h _ _ hs
  · rfl
theorem T.CI115 : CallEq T.C115 := (CallEq.cons 91 T.imp91 CallEq.nil)
theorem T.imp115 : ∀ vs w K K', Agree w K K' → T.c115 vs w K = T.c115 vs w K' := by
  intro vs w K K' h
  unfold T.c115
  split
  · rw [← T.eq115, ← T.eq115]
    refine denF_eq T.CI115 fun v w' hs => ?_
    split <;> first | rfl | exact h _ _ hs
  · rfl
theorem T.CI83 : CallEq T.C83 := (CallEq.cons 116 T.imp116 (CallEq.cons 117 T.imp117 (CallEq.cons 118 T.imp118 (CallEq.cons 112 T.imp112 (CallEq.cons 115 T.imp115 CallEq.nil)))))
theorem T.imp83 : ∀ vs w K K', Agree w K K' → T.c83 vs w K = T.c83 vs w K' := by
  intro vs w K K' h
  unfold T.c83
  split
  · rw [← T.eq83, ← T.eq83]
    refine denF_eq T.CI83 fun v w' hs => ?_
    split <;> first | rfl | exact h _ _ hs
  · rfl
theorem T.CI53 : CallEq T.C53 := (CallEq.cons 77 T.imp77 (CallEq.cons 78 T.imp78 (CallEq.cons 79 T.imp79 (CallEq.cons 80 T.imp80 (CallEq.cons 35 T.imp35 (CallEq.cons 81 T.imp81 (CallEq.cons 84 T.imp84 (CallEq.cons 82 T.imp82 (CallEq.cons 83 T.imp83 CallEq.nil)))))))))
theorem T.imp53 : ∀ vs w K K', Agree w K K' → T.c53 vs w K = T.c53 vs w K' := by
  intro vs w K K' h
  unfold T.c53
  split
  · rw [← T.eq53, ← T.eq53]
    refine denF_eq T.CI53 fun v w' hs => ?_
    split <;> first | rfl | exact h _ _ hs
  · rfl
theorem T.CI43 : CallEq T.C43 := CallEq.nil
theorem T.imp43 : ∀ vs w K K', Agree w K K' → T.c43 vs w K = T.c43 vs w K' := by
  intro vs w K K' h
  unfold T.c43
  split
  · rw [← T.eq43, ← T.eq43]
    refine denF_eq T.CI43 fun v w' hs => ?_
    split <;> first | rfl | exact h _ _ hs
  · rfl
theorem T.CI54 : CallEq T.C54 := CallEq.nil
theorem T.imp54 : ∀ vs w K K', Agree w K K' → T.c54 vs w K = T.c54 vs w K' := by
  intro vs w K K' h
  unfold T.c54
  split
  · rw [← T.eq54, ← T.eq54]
    refine denF_eq T.CI54 fun v w' hs => ?_
    split <;> first | rfl | exact h _ _ hs
  · rfl
theorem T.CI37 : CallEq T.C37 := (CallEq.cons 53 T.imp53 (CallEq.cons 43 T.imp43 (CallEq.cons 39 T.imp39 (CallEq.cons 54 T.imp54 (CallEq.cons 38 T.imp38 CallEq.nil)))))
theorem T.imp37 : ∀ vs w K K', Agree w K K' → T.c37 vs w K = T.c37 vs w K' := by
  intro vs w K K' h
  unfold T.c37
  split
  · rw [← T.eq37, ← T.eq37]
    refine denF_eq T.CI37 fun v w' hs => ?_
    split <;> first | rfl | exact h _ _ hs
  · rfl
theorem T.CI23 : CallEq T.C23 := (CallEq.cons 36 T.imp36 (CallEq.cons 39 T.imp39 (CallEq.cons 38 T.imp38 (CallEq.cons 37 T.imp37 CallEq.nil))))
theorem T.imp23 : ∀ vs w K K', Agree w K K' → T.c23 vs w K = T.c23 vs w K' := by
  intro vs w K K' h
  unfold T.c23
  split
  · rw [← T.eq23, ← T.eq23]
    refine denF_eq T.CI23 fun v w' hs => ?_
    split <;> first | rfl | exact h _ _ hs
  · rfl
theorem T.CI40 : CallEq T.C40 := CallEq.nil
theorem T.imp40 : ∀ vs w K K', Agree w K K' → T.c40 vs w K = T.c40 vs w K' := by
  intro vs w K K' h
  unfold T.c40
  split
  · rw [← T.eq40, ← T.eq40]
    refine denF_eq T.CI40 fun v w' hs => ?_
    split <;> first | rfl | exact h _ _ hs
  · rfl
theorem T.CI42 : CallEq T.C42 := CallEq.nil
theorem T.imp42 : ∀ vs w K K', Agree w K K' → T.c42 vs w K = T.c42 vs w K' := by
  intro vs w K K' h
  unfold T.c42
  split
  · rw [← T.eq42, ← T.eq42]
    refine denF_eq T.CI42 fun v w' hs => ?_
    split <;> first | rfl | exact h _ _ hs
  · rfl
theorem T.CI85 : CallEq T.C85 := CallEq.nil
theorem T.imp85 : ∀ vs w K K', Agree w K K' → T.c85 vs w K = T.c85 vs w K' := by
  intro vs w K K' h
  unfold T.c85
  split
  · rw [← T.eq85, ← T.eq85]
    refine denF_eq T.CI85 fun v w' hs => ?_
    split <;> first | rfl | exact h _ _ hs
  · rfl
theorem T.CI55 : CallEq T.C55 := (CallEq.cons 85 T.imp85 CallEq.nil)
theorem T.imp55 : ∀ vs w K K', Agree w K K' → T.c55 vs w K = T.c55 vs w K' := by
  intro vs w K K' h
  unfold T.c55
  split
  · rw [← T.eq55, ← T.eq55]
    refine denF_eq T.CI55 fun v w' hs => ?_
    split <;> first | rfl | exact h _ _ hs
  · rfl
theorem T.CI56 : CallEq T.C56 := (CallEq.cons 86 T.imp86 CallEq.nil)
theorem T.imp56 : ∀ vs w K K', Agree w K K' → T.c56 vs w K = T.c56 vs w K' := by
  intro vs w K K' h
  unfold T.c56
  split
  · rw [← T.eq56, ← T.eq56]
    refine denF_eq T.CI56 fun v w' hs => ?_
    split <;> first | rfl | exact h _ _ hs
  · rfl
theorem T.CI88 : CallEq T.C88 := CallEq.nil
theorem T.imp88 : ∀ vs w K K', Agree w K K' → T.c88 vs w K = T.c88 vs w K' := by
  intro vs w K K' h
  unfold T.c88
  split
  · rw [← T.eq88, ← T.eq88]
    refine denF_eq T.CI88 fun v w' hs => ?_
    split <;> first | rfl | exact h _ _ hs
  · rfl
theorem T.CI87 : CallEq T.C87 := (CallEq.cons 88 T.imp88 CallEq.nil)
theorem T.imp87 : ∀ vs w K K', Agree w K K' → T.c87 vs w K = T.c87 vs w K' := by
  intro vs w K K' h
  unfold T.c87
  split
  · rw [← T.eq87, ← T.eq87]
    refine denF_eq T.CI87 fun v w' hs => ?_
    split <;> first | rfl | exact h _ _ hs
  · rfl
theorem T.CI119 : CallEq T.C119 := CallEq.nil
theorem T.imp119 : ∀ vs w K K', Agree w K K' → T.c119 vs w K = T.c119 vs w K' := by
  intro vs w K K' h
  unfold T.c119
  split
  · rw [← T.eq119, ← T.eq119]
    refine denF_eq T.CI119 fun v w' hs => ?_
    split <;> first | rfl | exact h _ _ hs
  · rfl
theorem T.CI120 : CallEq T.C120 := CallEq.nil
theorem T.imp120 : ∀ vs w K K', Agree w K K' → T.c120 vs w K = T.c120 vs w K' := by
  intro vs w K K' h
  unfold T.c120
  split
  · rw [← T.eq120, ← T.eq120]
    refine denF_eq T.CI120 fun v w' hs => ?_
    split <;> first | rfl | exact h _ _ hs
  · rfl
theorem T.CI89 : CallEq T.C89 := (CallEq.cons 119 T.imp119 (CallEq.cons 88 T.imp88 (CallEq.cons 120 T.imp120 CallEq.nil)))
theorem T.imp89 : ∀ vs w K K', Agree w K K' → T.c89 vs w K = T.c89 vs w K' := by
  intro vs w K K' h
  unfold T.c89
  split
  · rw [← T.eq89, ← T.eq89]
    refine denF_eq T.CI89 fun v w' hs => ?_
    split <;> first | rfl | exact h _ _ hs
  · rfl
theorem T.CI121 : CallEq T.C121 := CallEq.nil
theorem T.imp121 : ∀ vs w K K', Agree w K K' → T.c121 vs w K = T.c121 vs w K' := by
  intro vs w K K' h
  unfold T.c121
  split
  · rw [← T.eq121, ← T.eq121]
    refine denF_eq T.CI121 fun v w' hs => ?_
    split <;> first | rfl | exact h _ _ hs
  · rfl
theorem T.CI90 : CallEq T.C90 := (CallEq.cons 121 T.imp121 CallEq.nil)
theorem T.imp90 : ∀ vs w K K', Agree w K K' → T.c90 vs w K = T.c90 vs w K' := by
  intro vs w K K' h
  unfold T.c90
  split
  · rw [← T.eq90, ← T.eq90]
    refine denF_eq T.CI90 fun v w' hs => ?_
    split <;> first | rfl | exact h _ _ hs
  · rfl
theorem T.CI57 : CallEq T.C57 := (CallEq.cons 87 T.imp87 (CallEq.cons 88 T.imp88 (CallEq.cons 89 T.imp89 (CallEq.cons 90 T.imp90 CallEq.nil))))
theorem T.imp57 : ∀ vs w K K', Agree w K K' → T.c57 vs w K = T.c57 vs w K' := by
  intro vs w K K' h
  unfold T.c57
  split
  · rw [← T.eq57, ← T.eq57]
    refine denF_eq T.CI57 fun v w' hs => ?_
    split <;> first | rfl | exact h _ _ hs
  · rfl
theorem T.CI58 : CallEq T.C58 := (CallEq.cons 91 T.imp91 CallEq.nil)
theorem T.imp58 : ∀ vs w K K', Agree w K K' → T.c58 vs w K = T.c58 vs w K' := by
  intro vs w K K' h
  unfold T.c58
  split
  · rw [← T.eq58, ← T.eq58]
    refine denF_eq T.CI58 fun v w' hs => ?_
    split <;> first | rfl | exact h _ _ hs
  · rfl
theorem T.CI92 : CallEq T.C92 := CallEq.nil
theorem T.imp92 : ∀ vs w K K', Agree w K K' → T.c92 vs w K = T.c92 vs w K' := by
  intro vs w K K' h
  unfold T.c92
  split
  · rw [← T.eq92, ← T.eq92]
    refine denF_eq T.CI92 fun v w' hs => ?_
    split <;> first | rfl | exact h _ _ hs
  · rfl
theorem T.CI59 : CallEq T.C59 := (CallEq.cons 93 T.imp93 (CallEq.cons 92 T.imp92 CallEq.nil))
theorem T.imp59 : ∀ vs w K K', Agree w K K' → T.c59 vs w K = T.c59 vs w K' := by
  intro vs w K K' h
  unfold T.c59
  split
  · rw [← T.eq59, ← T.eq59]
    refine denF_eq T.CI59 fun v w' hs => ?_
    split <;> first | rfl | exact h _ _ hs
  · rfl
theorem T.CI60 : CallEq T.C60 := CallEq.nil
theorem T.imp60 : ∀ vs w K K', Agree w K K' → T.c60 vs w K = T.c60 vs w K' := by
  intro vs w K K' h
  unfold T.c60
  split
  · rw [← T.eq60, ← T.eq60]
    refine denF_eq T.CI60 fun v w' hs => ?_
    split <;> first | rfl | exact h _ _ hs
  · rfl
theorem T.CI67 : CallEq T.C67 := CallEq.nil
theorem T.imp67 : ∀ vs w K K', Agree w K K' → T.c67 vs w K = T.c67 vs w K' := by
  intro vs w K K' h
  unfold T.c67
  split
  · rw [← T.eq67, ← T.eq67]
    refine denF_eq T.CI67 fun v w' hs => ?_
    split <;> first | rfl | exact h _ _ hs
  · rfl
theorem T.CI94 : CallEq T.C94 := CallEq.nil
theorem T.imp94 : ∀ vs w K K', Agree w K K' → T.c94 vs w K = T.c94 vs w K' := by
  intro vs w K K' h
  unfold T.c94
  split
  · rw [← T.eq94, ← T.eq94]
    refine denF_eq T.CI94 fun v w' hs => ?_
    split <;> first | rfl | exact h _ _ hs
  · rfl
theorem T.CI95 : CallEq T.C95 := CallEq.nil
theorem T.imp95 : ∀ vs w K K', Agree w K K' → T.c95 vs w K = T.c95 vs w K' := by
  intro vs w K K' h
  unfold T.c95
  split
  · rw [← T.eq95, ← T.eq95]
    refine denF_eq T.CI95 fun v w' hs => ?_
    split <;> first | rfl | exact h _ _ hs
  · rfl
theorem T.CI96 : CallEq T.C96 := CallEq.nil
theorem T.imp96 : ∀ vs w K K', Agree w K K' → T.c96 vs w K = T.c96 vs w K' := by
  intro vs w K K' h
  unfold T.c96
  split
  · rw [← T.eq96, ← T.eq96]
    refine denF_eq T.CI96 fun v w' hs => ?_
    split <;> first | rfl | exact h _ _ hs
  · rfl
theorem T.CI150 : CallEq T.C150 := CallEq.nil
theorem T.imp150 : ∀ vs w K K', Agree w K K' → T.c150 vs w K = T.c150 vs w K' := by
  intro vs w K K' h
  unfold T.c150
  split
  · rw [← T.eq150, ← T.eq150]
    refine denF_eq T.CI150 fun v w' hs => ?_
    split <;> first | rfl | exact h _ _ hs
  · rfl
theorem T.CI122 : CallEq T.C122 := (CallEq.cons 150 T.imp150 (CallEq.cons 88 T.imp88 CallEq.nil))
theorem T.imp122 : ∀ vs w K K', Agree w K K' → T.c122 vs w K = T.c122 vs w K' := by
  intro vs w K K' h
  unfold T.c122
  split
  · rw [← T.eq122, ← T.eq122]
    refine denF_eq T.CI122 fun v w' hs => ?_
    split <;> first | rfl | exact h _ _ hs
  · rfl
theorem T.CI123 : CallEq T.C123 := CallEq.nil
theorem T.imp123 : ∀ vs w K K', Agree w K K' → T.c123 vs w K = T.c123 vs w K' := by
  intro vs w K K' h
  unfold T.c123
  split
  · rw [← T.eq123, ← T.eq123]
    refine denF_eq T.CI123 fun v w' hs => ?_
    split <;> first | rfl | exact h _ _ hs
  · rfl
theorem T.CI97 : CallEq T.C97 := (CallEq.cons 122 T.imp122 (CallEq.cons 119 T.imp119 (CallEq.cons 123 T.imp123 CallEq.nil)))
theorem T.imp97 : ∀ vs w K K', Agree w K K' → T.c97 vs w K = T.c97 vs w K' := by
  intro vs w K K' h
  unfold T.c97
  split
  · rw [← T.eq97, ← T.eq97]
    refine denF_eq T.CI97 fun v w' hs => ?_
    split <;> first | rfl | exact h _ _ hs
  · rfl
theorem T.CI124 : CallEq T.C124 := CallEq.nil
theorem T.imp124 : ∀ vs w K K', Agree w K K' → T.c124 vs w K = T.c124 vs w K' := by
  intro vs w K K' h
  unfold T.c124
  split
  · rw [← T.eq124, ← T.eq124]
    refine denF_eq T.CI124 fun v w' hs => ?_
    split <;> first | rfl | exact h _ _ hs
  · rfl
theorem T.CI98 : CallEq T.C98 := (CallEq.cons 124 T.imp124 (CallEq.cons 94 T.imp94 CallEq.nil))
theorem T.imp98 : ∀ vs w K K', Agree w K K' → T.c98 vs w K = T.c98 vs w K' := by
  intro vs w K K' h
  unfold T.c98
  split
  · rw [← T.eq98, ← T.eq98]
    refine denF_eq T.CI98 fun v w' hs => ?_
    split <;> first | rfl | exact h _ _ hs
  · rfl
theorem T.CI61 : CallEq T.C61 := (CallEq.cons 67 T.imp67 (CallEq.cons 94 T.imp94 (CallEq.cons 95 T.imp95 (CallEq.cons 96 T.imp96 (CallEq.cons 33 T.imp33 (CallEq.cons 97 T.imp97 (CallEq.cons 98 T.imp98 (CallEq.cons 86 T.imp86 (CallEq.cons 93 T.imp93 (CallEq.cons 92 T.imp92 CallEq.nil))))))))))
theorem T.imp61 : ∀ vs w K K', Agree w K K' → T.c61 vs w K = T.c61 vs w K' := by
  intro vs w K K' h
  unfold T.c61
  split
  · rw [← T.eq61, ← T.eq61]
    refine denF_eq T.CI61 fun v w' hs => ?_
    split <;> first | rfl | exact h _ _ hs
  · rfl
theorem T.CI41 : CallEq T.C41 := (CallEq.cons 55 T.imp55 (CallEq.cons 56 T.imp56 (CallEq.cons 57 T.imp57 (CallEq.cons 58 T.imp58 (CallEq.cons 59 T.imp59 (CallEq.cons 60 T.imp60 (CallEq.cons 61 T.imp61 CallEq.nil)))))))
theorem T.imp41 : ∀ vs w K K', Agree w K K' → T.c41 vs w K = T.c41 vs w K' := by
  intro vs w K K' h
  unfold T.c41
  split
  · rw [← T.eq41, ← T.eq41]
    refine denF_eq T.CI41 fun v w' hs => ?_
    split <;> first | rfl | exact h _ _ hs
  · rfl
theorem T.CI24 : CallEq T.C24 := (CallEq.cons 40 T.imp40 (CallEq.cons 42 T.imp42 (CallEq.cons 41 T.imp41 (CallEq.cons 43 T.imp43 CallEq.nil))))
theorem T.imp24 : ∀ vs w K K', Agree w K K' → T.c24 vs w K = T.c24 vs w K' := by
  intro vs w K K' h
  unfold T.c24
  split
  · rw [← T.eq24, ← T.eq24]
    refine denF_eq T.CI24 fun v w' hs => ?_
    split <;> first | rfl | exact h _ _ hs
  · rfl
theorem T.CI12 : CallEq T.C12 := CallEq.nil
theorem T.imp12 : ∀ vs w K K', Agree w K K' → T.c12 vs w K = T.c12 vs w K' := by
  intro vs w K K' h
  unfold T.c12
  split
  · rw [← T.eq12, ← T.eq12]
    refine denF_eq T.CI12 fun v w' hs => ?_
    split <;> first | rfl | exact h _ _ hs
  · rfl
theorem T.CI9 : CallEq T.C9 := (CallEq.cons 22 T.imp22 (CallEq.cons 23 T.imp23 (CallEq.cons 24 T.imp24 (CallEq.cons 12 T.imp12 CallEq.nil))))
theorem T.imp9 : ∀ vs w K K', Agree w K K' → T.c9 vs w K = T.c9 vs w K' := by
  intro vs w K K' h
  unfold T.c9
  split
  · rw [← T.eq9, ← T.eq9]
    refine denF_eq T.CI9 fun v w' hs => ?_
    split <;> first | rfl | exact h _ _ hs
  · rfl
theorem T.CI99 : CallEq T.C99 := CallEq.nil
theorem T.imp99 : ∀ vs w K K', Agree w K K' → T.c99 vs w K = T.c99 vs w K' := by
  intro vs w K K' h
  unfold T.c99
  split
  · rw [← T.eq99, ← T.eq99]
    refine denF_eq T.CI99 fun v w' hs => ?_
    split <;> first | rfl | exact h _ _ hs
  · rfl
theorem T.CI62 : CallEq T.C62 := (CallEq.cons 99 T.imp99 CallEq.nil)
theorem T.imp62 : ∀ vs w K K', Agree w K K' → T.c62 vs w K = T.c62 vs w K' := by
  intro vs w K K' h
  unfold T.c62
  split
  · rw [← T.eq62, ← T.eq62]
    refine denF_eq T.CI62 fun v w' hs => ?_
    split <;> first | rfl | exact h _ _ hs
  · rfl
theorem T.CI63 : CallEq T.C63 := (CallEq.cons 99 T.imp99 CallEq.nil)
theorem T.imp63 : ∀ vs w K K', Agree w K K' → T.c63 vs w K = T.c63 vs w K' := by
  intro vs w K K' h
  unfold T.c63
  split
  · rw [← T.eq63, ← T.eq63]
    refine denF_eq T.CI63 fun v w' hs => ?_
    split <;> first | rfl | exact h _ _ hs
  · rfl
theorem T.CI44 : CallEq T.C44 := (CallEq.cons 62 T.imp62 (CallEq.cons 63 T.imp63 CallEq.nil))
theorem T.imp44 : ∀ vs w K K', Agree w K K' → T.c44 vs w K = T.c44 vs w K' := by
  intro vs w K K' h
  unfold T.c44
  split
  · rw [← T.eq44, ← T.eq44]
    refine denF_eq T.CI44 fun v w' hs => ?_
    split <;> first | rfl | exact h _ _ hs
  · rfl
theorem T.CI25 : CallEq T.C25 := (CallEq.cons 44 T.imp44 CallEq.nil)
theorem T.imp25 : ∀ vs w K K', Agree w K K' → T.c25 vs w K = T.c25 vs w K' := by
  intro vs w K K' h
  unfold T.c25
  split
  · rw [← T.eq25, ← T.eq25]
    refine denF_eq T.CI25 fun v w' hs => ?_
    split <;> first | rfl | exact h _ _ hs
  · rfl
theorem T.CI64 : CallEq T.C64 := CallEq.nil
theorem T.imp64 : ∀ vs w K K', Agree w K K' → T.c64 vs w K = T.c64 vs w K' := by
  intro vs w K K' h
  unfold T.c64
  split
  · rw [← T.eq64, ← T.eq64]
    refine denF_eq T.CI64 fun v w' hs => ?_
    split <;> first | rfl | exact h _ _ hs
  · rfl
theorem T.CI45 : CallEq T.C45 := (CallEq.cons 64 T.imp64 CallEq.nil)
theorem T.imp45 : ∀ vs w K K', Agree w K K' → T.c45 vs w K = T.c45 vs w K' := by
  intro vs w K K' h
  unfold T.c45
  split
  · rw [← T.eq45, ← T.eq45]
    refine denF_eq T.CI45 fun v w' hs => ?_
    split <;> first | rfl | exact h _ _ hs
  · rfl
theorem T.CI26 : CallEq T.C26 := (CallEq.cons 45 T.imp45 CallEq.nil)
theorem T.imp26 : ∀ vs w K K', Agree w K K' → T.c26 vs w K = T.c26 vs w K' := by
  intro vs w K K' h
  unfold T.c26
  split
  · rw [← T.eq26, ← T.eq26]
    refine denF_eq T.CI26 fun v w' hs => ?_
    split <;> first | rfl | exact h _ _ hs
  · rfl
theorem T.CI27 : CallEq T.C27 := CallEq.nil
theorem T.imp27 : ∀ vs w K K', Agree w K K' → T.c27 vs w K = T.c27 vs w K' := by
  intro vs w K K' h
  unfold T.c27
  split
  · rw [← T.eq27, ← T.eq27]
    refine denF_eq T.CI27 fun v w' hs => ?_
    split <;> first | rfl | exact h _ _ hs
  · rfl
theorem T.CI10 : CallEq T.C10 := (CallEq.cons 25 T.imp25 (CallEq.cons 26 T.imp26 (CallEq.cons 27 T.imp27 CallEq.nil)))
theorem T.imp10 : ∀ vs w K K', Agree w K K' → T.c10 vs w K = T.c10 vs w K' := by
  intro vs w K K' h
  unfold T.c10
  split
  · rw [← T.eq10, ← T.eq10]
    refine denF_eq T.CI10 fun v w' hs => ?_
    split <;> first | rfl | exact h _ _ hs
  · rfl
theorem T.CI65 : CallEq T.C65 := (CallEq.cons 35 T.imp35 CallEq.nil)
theorem T.imp65 : ∀ vs w K K', Agree w K K' → T.c65 vs w K = T.c65 vs w K' := by
  intro vs w K K' h
  unfold T.c65
  split
  · rw [← T.eq65, ← T.eq65]
    refine denF_eq T.CI65 fun v w' hs => ?_
    split <;> first | rfl | exact h _ _ hs
  · rfl
theorem T.CI133 : CallEq T.C133 := CallEq.nil
theorem T.imp133 : ∀ vs w K K', Agree w K K' → T.c133 vs w K = T.c133 vs w K' := by
  intro vs w K K' h
  unfold T.c133
  split
  · rw [← T.eq133, ← T.eq133]
    refine denF_eq T.CI133 fun v w' hs => ?_
    split <;> first | rfl | exact h _ _ hs
  · rfl
theorem T.CI134 : CallEq T.C134 := CallEq.nil
theorem T.imp134 : ∀ vs w K K', Agree w K K' → T.c134 vs w K = T.c134 vs w K' := by
  intro vs w K K' h
  unfold T.c134
  split
  · rw [← T.eq134, ← T.eq134]
    refine denF_eq T.CI134 fun v w' hs => ?_
    split <;> first | rfl | exact h _ _ hs
  · rfl
theorem T.CI101 : CallEq T.C101 := (CallEq.cons 133 T.imp133 (CallEq.cons 134 T.imp134 CallEq.nil))
theorem T.imp101 : ∀ vs w K K', Agree w K K' → T.c101 vs w K = T.c101 vs w K' := by
  intro vs w K K' h
  unfold T.c101
  split
  · rw [← T.eq101, ← T.eq101]
    refine denF_eq T.CI101 fun v w' hs => ?_
    split <;> first | rfl | exact h _ _ hs
  · rfl
theorem T.CI157 : CallEq T.C157 := (CallEq.cons 113 T.imp113 CallEq.nil)
theorem T.imp157 : ∀ vs w K K', Agree w K K' → T.c157 vs w K = T.c157 vs w K' := by
  intro vs w K K' h
  unfold T.c157
  split
  · rw [← T.eq157, ← T.eq157]
    refine denF_eq T.CI157 fun v w' hs => ?_
    split <;> first | rfl | exact h _ _ hs
  · rfl
theorem T.CI151 : CallEq T.C151 := (CallEq.cons 157 T.imp157 (CallEq.cons 113 T.imp113 CallEq.nil))
theorem T.imp151 : ∀ vs w K K', Agree w K K' → T.c151 vs w K = T.c151 vs w K' := by
  intro vs w K K' h
  unfold T.c151
  split
  · rw [← T.eq151, ← T.eq151]
    refine denF_eq T.CI151 fun v w' hs => ?_
    split <;> first | rfl | exact h _ _ hs
  · rfl
theorem T.CI125 : CallEq T.C125 := (CallEq.cons 133 T.imp133 (CallEq.cons 151 T.imp151 CallEq.nil))
theorem T.imp125 : ∀ vs w K K', Agree w K K' → T.c125 vs w K = T.c125 vs w K' := by
  intro vs w K K' h
  unfold T.c125
  split
  · rw [← T.eq125, ← T.eq125]
    refine denF_eq T.CI125 fun v w' hs => ?_
    split <;> first | rfl | exact h _ _ hs
  · rfl
theorem T.CI152 : CallEq T.C152 := CallEq.nil
theorem T.imp152 : ∀ vs w K K', Agree w K K' → T.c152 vs w K = T.c152 vs w K' := by
  intro vs w K K' h
  unfold T.c152
  split
  · rw [← T.eq152, ← T.eq152]
    refine denF_eq T.CI152 fun v w' hs => ?_
    split <;> first | rfl | exact h _ _ hs
  · rfl
theorem T.CI153 : CallEq T.C153 := (CallEq.cons 91 T.imp91 CallEq.nil)
theorem T.imp153 : ∀ vs w K K', Agree w K K' → T.c153 vs w K = T.c153 vs w K' := by
  intro vs w K K' h
  unfold T.c153
  split
  · rw [← T.eq153, ← T.eq153]
    refine denF_eq T.CI153 fun v w' hs => ?_
    split <;> first | rfl | exact h _ _ hs
  · rfl
theorem T.CI154 : CallEq T.C154 := (CallEq.cons 116 T.imp116 CallEq.nil)
theorem T.imp154 : ∀ vs w K K', Agree w K K' → T.c154 vs w K = T.c154 vs w K' := by
  intro vs w K K' h
  unfold T.c154
  split
  · rw [← T.eq154, ← T.eq154]
    refine denF_eq T.CI154 fun v w' hs => ?_
    split <;> first | rfl | exact h _ _ hs
  · rfl
theorem T.CI126 : CallEq T.C126 := (CallEq.cons 133 T.imp133 (CallEq.cons 151 T.imp151 (CallEq.cons 152 T.imp152 (CallEq.cons 153 T.imp153 (CallEq.cons 154 T.imp154 CallEq.nil)))))
theorem T.imp126 : ∀ vs w K K', Agree w K K' → T.c126 vs w K = T.c126 vs w K' := by
  intro vs w K K' h
  unfold T.c126
  split
  · rw [← T.eq126, ← T.eq126]
    refine denF_eq T.CI126 fun v w' hs => ?_
    split <;> first | rfl | exact h _ _ hs
  · rfl
theorem T.CI155 : CallEq T.C155 := (CallEq.cons 152 T.imp152 CallEq.nil)
theorem T.imp155 : ∀ vs w K K', Agree w K K' → T.c155 vs w K = T.c155 vs w K' := by
  intro vs w K K' h
  unfold T.c155
  split
  · rw [← T.eq155, ← T.eq155]
    refine denF_eq T.CI155 fun v w' hs => ?_
    split <;> first | rfl | exact h _ _ hs
  · rfl
theorem T.CI127 : CallEq T.C127 := (CallEq.cons 133 T.imp133 (CallEq.cons 151 T.imp151 (CallEq.cons 155 T.imp155 CallEq.nil)))
theorem T.imp127 : ∀ vs w K K', Agree w K K' → T.c127 vs w K = T.c127 vs w K' := by
  intro vs w K K' h
  unfold T.c127
  split
  · rw [← T.eq127, ← T.eq127]
    refine denF_eq T.CI127 fun v w' hs => ?_
    split <;> first | rfl | exact h _ _ hs
  · rfl
theorem T.CI156 : CallEq T.C156 := CallEq.nil
theorem T.imp156 : ∀ vs w K K', Agree w K K' → T.c156 vs w K = T.c156 vs w K' := by
  intro vs w K K' h
  unfold T.c156
  split
  · rw [← T.eq156, ← T.eq156]
    refine denF_eq T.CI156 fun v w' hs => ?_
    split <;> first | rfl | exact h _ _ hs
  · rfl
theorem T.CI128 : CallEq T.C128 := (CallEq.cons 133 T.imp133 (CallEq.cons 151 T.imp151 (CallEq.cons 156 T.imp156 (CallEq.cons 155 T.imp155 CallEq.nil))))
theorem T.imp128 : ∀ vs w K K', Agree w K K' → T.c128 vs w K = T.c128 vs w K' := by
  intro vs w K K' h
  unfold T.c128
  split
  · rw [← T.eq128, ← T.eq128]
    refine denF_eq T.CI128 fun v w' hs => ?_
    split <;> first | rfl | exact h _ _ hs
  · rfl
theorem T.CI158 : CallEq T.C158 := (CallEq.cons 113 T.imp113 CallEq.nil)
theorem T.imp158 : ∀ vs w K K', Agree w K K' → T.c158 vs w K = T.c158 vs w K' := by
  intro vs w K K' h
  unfold T.c158
  split
  · rw [← T.eq158, ← T.eq158]
    refine denF_eq T.CI158 fun v w' hs => ?_
    split <;> first | rfl | exact h _ _ hs
  · rfl
theorem T.CI159 : CallEq T.C159 := (CallEq.cons 154 T.imp154 CallEq.nil)
theorem T.imp159 : ∀ vs w K K', Agree w K K' → T.c159 vs w K = T.c159 vs w K' := by
  intro vs w K K' h
  unfold T.c159
  split
  · rw [← T.eq159, ← T.eq159]
    refine denF_eq T.CI159 fun v w' hs => ?_
    split <;> first | rfl | exact h _ _ hs
  · rfl
theorem T.CI129 : CallEq T.C129 := (CallEq.cons 133 T.imp133 (CallEq.cons 157 T.imp157 (CallEq.cons 158 T.imp158 (CallEq.cons 159 T.imp159 CallEq.nil))))
theorem T.imp129 : ∀ vs w K K', Agree w K K' → T.c129 vs w K = T.c129 vs w K' := by
  intro vs w K K' h
  unfold T.c129
  split
  · rw [← T.eq129, ← T.eq129]
    refine denF_eq T.CI129 fun v w' hs => ?_
    split <;> first | rfl | exact h _ _ hs
  · rfl
theorem T.CI160 : CallEq T.C160 := CallEq.nil
theorem T.imp160 : ∀ vs w K K', Agree w K K' → T.c160 vs w K = T.c160 vs w K' := by
  intro vs w K K' h
  unfold T.c160
  split
  · rw [← T.eq160, ← T.eq160]
    refine denF_eq T.CI160 fun v w' hs => ?_
    split <;> first | rfl | exact h _ _ hs
  · rfl
theorem T.CI130 : CallEq T.C130 := (CallEq.cons 133 T.imp133 (CallEq.cons 157 T.imp157 (CallEq.cons 160 T.imp160 (CallEq.cons 158 T.imp158 (CallEq.cons 155 T.imp155 (CallEq.cons 156 T.imp156 CallEq.nil))))))
theorem T.imp130 : ∀ vs w K K', Agree w K K' → T.c130 vs w K = T.c130 vs w K' := by
  intro vs w K K' h
  unfold T.c130
  split
  · rw [← T.eq130, ← T.eq130]
    refine denF_eq T.CI130 fun v w' hs => ?_
    split <;> first | rfl | exact h _ _ hs
  · rfl
theorem T.CI131 : CallEq T.C131 := (CallEq.cons 157 T.imp157 (CallEq.cons 160 T.imp160 (CallEq.cons 158 T.imp158 (CallEq.cons 93 T.imp93 CallEq.nil))))
theorem T.imp131 : ∀ vs w K K', Agree w K K' → T.c131 vs w K = T.c131 vs w K' := by
  intro vs w K K' h
  unfold T.c131
  split
  · rw [← T.eq131, ← T.eq131]
    refine denF_eq T.CI131 fun v w' hs => ?_
    split <;> first | rfl | exact h _ _ hs
  · rfl
theorem T.CI132 : CallEq T.C132 := (CallEq.cons 151 T.imp151 (CallEq.cons 156 T.imp156 CallEq.nil))
theorem T.imp132 : ∀ vs w K K', Agree w K K' → T.c132 vs w K = T.c132 vs w K' := by
  intro vs w K K' h
  unfold T.c132
  split
  · rw [← T.eq132, ← T.eq132]
    refine denF_eq T.CI132 fun v w' hs => ?_
    split <;> first | rfl | exact h _ _ hs
  · rfl
theorem T.CI100 : CallEq T.C100 := (CallEq.cons 125 T.imp125 (CallEq.cons 126 T.imp126 (CallEq.cons 127 T.imp127 (CallEq.cons 128 T.imp128 (CallEq.cons 129 T.imp129 (CallEq.cons 130 T.imp130 (CallEq.cons 131 T.imp131 (CallEq.cons 132 T.imp132 CallEq.nil))))))))
theorem T.imp100 : ∀ vs w K K', Agree w K K' → T.c100 vs w K = T.c100 vs w K' := by
  intro vs w K K' h
  unfold T.c100
  split
  · rw [← T.eq100, ← T.eq100]
    refine denF_eq T.CI100 fun v w' hs => ?_
    split <;> first | rfl | exact h _ _ hs
  · rfl
theorem T.CI66 : CallEq T.C66 := (CallEq.cons 101 T.imp101 (CallEq.cons 100 T.imp100 (CallEq.cons 81 T.imp81 CallEq.nil)))
theorem T.imp66 : ∀ vs w K K', Agree w K K' → T.c66 vs w K = T.c66 vs w K' := by
  intro vs w K K' h
  unfold T.c66
  split
  · rw [← T.eq66, ← T.eq66]
    refine denF_eq T.CI66 fun v w' hs => ?_
    split <;> first | rfl | exact h _ _ hs
  · rfl
theorem T.CI46 : CallEq T.C46 := (CallEq.cons 65 T.imp65 (CallEq.cons 66 T.imp66 CallEq.nil))
theorem T.imp46 : ∀ vs w K K', Agree w K K' → T.c46 vs w K = T.c46 vs w K' := by
  intro vs w K K' h
  unfold T.c46
  split
  · rw [← T.eq46, ← T.eq46]
    refine denF_eq T.CI46 fun v w' hs => ?_
    split <;> first | rfl | exact h _ _ hs
  · rfl
theorem T.CI28 : CallEq T.C28 := (CallEq.cons 44 T.imp44 (CallEq.cons 46 T.imp46 CallEq.nil))
theorem T.imp28 : ∀ vs w K K', Agree w K K' → T.c28 vs w K = T.c28 vs w K' := by
  intro vs w K K' h
  unfold T.c28
  split
  · rw [← T.eq28, ← T.eq28]
    refine denF_eq T.CI28 fun v w' hs => ?_
    split <;> first | rfl | exact h _ _ hs
  · rfl
theorem T.CI102 : CallEq T.C102 := CallEq.nil
theorem T.imp102 : ∀ vs w K K', Agree w K K' → T.c102 vs w K = T.c102 vs w K' := by
  intro vs w K K' h
  unfold T.c102
  split
  · rw [← T.eq102, ← T.eq102]
    refine denF_eq T.CI102 fun v w' hs => ?_
    split <;> first | rfl | exact h _ _ hs
  · rfl
theorem T.CI68 : CallEq T.C68 := (CallEq.cons 102 T.imp102 (CallEq.cons 94 T.imp94 CallEq.nil))
theorem T.imp68 : ∀ vs w K K', Agree w K K' → T.c68 vs w K = T.c68 vs w K' := by
  intro vs w K K' h
  unfold T.c68
  split
  · rw [← T.eq68, ← T.eq68]
    refine denF_eq T.CI68 fun v w' hs => ?_
    split <;> first | rfl | exact h _ _ hs
  · rfl
theorem T.CI74 : CallEq T.C74 := CallEq.nil
theorem T.imp74 : ∀ vs w K K', Agree w K K' → T.c74 vs w K = T.c74 vs w K' := by
  intro vs w K K' h
  unfold T.c74
  split
  · rw [← T.eq74, ← T.eq74]
    refine denF_eq T.CI74 fun v w' hs => ?_
    split <;> first | rfl | exact h _ _ hs
  · rfl
theorem T.CI69 : CallEq T.C69 := CallEq.nil
theorem T.imp69 : ∀ vs w K K', Agree w K K' → T.c69 vs w K = T.c69 vs w K' := by
  intro vs w K K' h
  unfold T.c69
  split
  · rw [← T.eq69, ← T.eq69]
    refine denF_eq T.CI69 fun v w' hs => ?_
    split <;> first | rfl | exact h _ _ hs
  · rfl
theorem T.CI75 : CallEq T.C75 := CallEq.nil
theorem T.imp75 : ∀ vs w K K', Agree w K K' → T.c75 vs w K = T.c75 vs w K' := by
  intro vs w K K' h
  unfold T.c75
  split
  · rw [← T.eq75, ← T.eq75]
    refine denF_eq T.CI75 fun v w' hs => ?_
    split <;> first | rfl | exact h _ _ hs
  · rfl
theorem T.CI103 : CallEq T.C103 := CallEq.nil
theorem T.imp103 : ∀ vs w K K', Agree w K K' → T.c103 vs w K = T.c103 vs w K' := by
  intro vs w K K' h
  unfold T.c103
  split
  · rw [← T.eq103, ← T.eq103]
    refine denF_eq T.CI103 fun v w' hs => ?_
    split <;> first | rfl | exact h _ _ hs
  · rfl
theorem T.CI104 : CallEq T.C104 := CallEq.nil
theorem T.imp104 : ∀ vs w K K', Agree w K K' → T.c104 vs w K = T.c104 vs w K' := by
  intro vs w K K' h
  unfold T.c104
  split
  · rw [← T.eq104, ← T.eq104]
    refine denF_eq T.CI104 fun v w' hs => ?_
    split <;> first | rfl | exact h _ _ hs
  · rfl
theorem T.CI70 : CallEq T.C70 := (CallEq.cons 103 T.imp103 (CallEq.cons 104 T.imp104 CallEq.nil))
theorem T.imp70 : ∀ vs w K K', Agree w K K' → T.c70 vs w K = T.c70 vs w K' := by
  intro vs w K K' h
  unfold T.c70
  split
  · rw [← T.eq70, ← T.eq70]
    refine denF_eq T.CI70 fun v w' hs => ?_
    split <;> first | rfl | exact h _ _ hs
  · rfl
theorem T.CI71 : CallEq T.C71 := (CallEq.cons 74 T.imp74 (CallEq.cons 69 T.imp69 (CallEq.cons 70 T.imp70 CallEq.nil)))
theorem T.imp71 : ∀ vs w K K', Agree w K K' → T.c71 vs w K = T.c71 vs w K' := by
  intro vs w K K' h
  unfold T.c71
  split
  · rw [← T.eq71, ← T.eq71]
    refine denF_eq T.CI71 fun v w' hs => ?_
    split <;> first | rfl | exact h _ _ hs
  · rfl
theorem T.CI161 : CallEq T.C161 := CallEq.nil
theorem T.imp161 : ∀ vs w K K', Agree w K K' → T.c161 vs w K = T.c161 vs w K' := by
  intro vs w K K' h
  unfold T.c161
  split
  · rw [← T.eq161, ← T.eq161]
    refine denF_eq T.CI161 fun v w' hs => ?_
    split <;> first | rfl | exact h _ _ hs
  · rfl
theorem T.CI135 : CallEq T.C135 := (CallEq.cons 103 T.imp103 (CallEq.cons 161 T.imp161 (CallEq.cons 104 T.imp104 CallEq.nil)))
theorem T.imp135 : ∀ vs w K K', Agree w K K' → T.c135 vs w K = T.c135 vs w K' := by
  intro vs w K K' h
  unfold T.c135
  split
  · rw [← T.eq135, ← T.eq135]
    refine denF_eq T.CI135 fun v w' hs => ?_
    split <;> first | rfl | exact h _ _ hs
  · rfl
theorem T.CI105 : CallEq T.C105 := (CallEq.cons 135 T.imp135 (CallEq.cons 93 T.imp93 (CallEq.cons 70 T.imp70 CallEq.nil)))
theorem T.imp105 : ∀ vs w K K', Agree w K K' → T.c105 vs w K = T.c105 vs w K' := by
  intro vs w K K' h
  unfold T.c105
  split
  · rw [← T.eq105, ← T.eq105]
    refine denF_eq T.CI105 fun v w' hs => ?_
    split <;> first | rfl | exact h _ _ hs
  · rfl
theorem T.CI72 : CallEq T.C72 := (CallEq.cons 33 T.imp33 (CallEq.cons 97 T.imp97 (CallEq.cons 69 T.imp69 (CallEq.cons 105 T.imp105 CallEq.nil))))
theorem T.imp72 : ∀ vs w K K', Agree w K K' → T.c72 vs w K = T.c72 vs w K' := by
  intro vs w K K' h
  unfold T.c72
  split
  · rw [← T.eq72, ← T.eq72]
    refine denF_eq T.CI72 fun v w' hs => ?_
    split <;> first | rfl | exact h _ _ hs
  · rfl
theorem T.CI73 : CallEq T.C73 := (CallEq.cons 69 T.imp69 (CallEq.cons 70 T.imp70 CallEq.nil))
theorem T.imp73 : ∀ vs w K K', Agree w K K' → T.c73 vs w K = T.c73 vs w K' := by
  intro vs w K K' h
  unfold T.c73
  split
  · rw [← T.eq73, ← T.eq73]
    refine denF_eq T.CI73 fun v w' hs => ?_
    split <;> first | rfl | exact h _ _ hs
  · rfl
theorem T.CI47 : CallEq T.C47 := (CallEq.cons 67 T.imp67 (CallEq.cons 68 T.imp68 (CallEq.cons 74 T.imp74 (CallEq.cons 69 T.imp69 (CallEq.cons 75 T.imp75 (CallEq.cons 70 T.imp70 (CallEq.cons 71 T.imp71 (CallEq.cons 58 T.imp58 (CallEq.cons 72 T.imp72 (CallEq.cons 73 T.imp73 CallEq.nil))))))))))
theorem T.imp47 : ∀ vs w K K', Agree w K K' → T.c47 vs w K = T.c47 vs w K' := by
  intro vs w K K' h
  unfold T.c47
  split
  · rw [← T.eq47, ← T.eq47]
    refine denF_eq T.CI47 fun v w' hs => ?_
    split <;> first | rfl | exact h _ _ hs
  · rfl
theorem T.CI29 : CallEq T.C29 := (CallEq.cons 45 T.imp45 (CallEq.cons 47 T.imp47 (CallEq.cons 43 T.imp43 CallEq.nil)))
theorem T.imp29 : ∀ vs w K K', Agree w K K' → T.c29 vs w K = T.c29 vs w K' := by
  intro vs w K K' h
  unfold T.c29
  split
  · rw [← T.eq29, ← T.eq29]
    refine denF_eq T.CI29 fun v w' hs => ?_
    split <;> first | rfl | exact h _ _ hs
  · rfl
theorem T.CI11 : CallEq T.C11 := (CallEq.cons 28 T.imp28 (CallEq.cons 29 T.imp29 (CallEq.cons 12 T.imp12 CallEq.nil)))
theorem T.imp11 : ∀ vs w K K', Agree w K K' → T.c11 vs w K = T.c11 vs w K' := by
  intro vs w K K' h
  unfold T.c11
  split
  · rw [← T.eq11, ← T.eq11]
    refine denF_eq T.CI11 fun v w' hs => ?_
    split <;> first | rfl | exact h _ _ hs
  · rfl
theorem T.CI3 : CallEq T.C3 := (CallEq.cons 5 T.imp5 (CallEq.cons 6 T.imp6 (CallEq.cons 7 T.imp7 (CallEq.cons 8 T.imp8 (CallEq.cons 9 T.imp9 (CallEq.cons 10 T.imp10 (CallEq.cons 11 T.imp11 (CallEq.cons 12 T.imp12 CallEq.nil))))))))
theorem T.imp3 : ∀ vs w K K', Agree w K K' → T.c3 vs w K = T.c3 vs w K' := by
  intro vs w K K' h
  unfold T.c3
  split
  · rw [← T.eq3, ← T.eq3]
    refine denF_eq T.CI3 fun v w' hs => ?_
    split <;> first | rfl | exact h _ _ hs
  · rfl
theorem T.CI13 : CallEq T.C13 := CallEq.nil
theorem T.imp13 : ∀ vs w K K', Agree w K K' → T.c13 vs w K = T.c13 vs w K' := by
  intro vs w K K' h
  unfold T.c13
  split
  · rw [← T.eq13, ← T.eq13]
    refine denF_eq T.CI13 fun v w' hs => ?_
    split <;> first | rfl | exact h _ _ hs
  · rfl
theorem T.CI48 : CallEq T.C48 := (CallEq.cons 8 T.imp8 (CallEq.cons 7 T.imp7 (CallEq.cons 22 T.imp22 (CallEq.cons 6 T.imp6 CallEq.nil))))
theorem T.imp48 : ∀ vs w K K', Agree w K K' → T.c48 vs w K = T.c48 vs w K' := by
  intro vs w K K' h
  unfold T.c48
  split
  · rw [← T.eq48, ← T.eq48]
    refine denF_eq T.CI48 fun v w' hs => ?_
    split <;> first | rfl | exact h _ _ hs
  · rfl
theorem T.CI76 : CallEq T.C76 := CallEq.nil
theorem T.imp76 : ∀ vs w K K', Agree w K K' → T.c76 vs w K = T.c76 vs w K' := by
  intro vs w K K' h
  unfold T.c76
  split
  · rw [← T.eq76, ← T.eq76]
    refine denF_eq T.CI76 fun v w' hs => ?_
    split <;> first | rfl | exact h _ _ hs
  · rfl
theorem T.CI49 : CallEq T.C49 := (CallEq.cons 76 T.imp76 CallEq.nil)
theorem T.imp49 : ∀ vs w K K', Agree w K K' → T.c49 vs w K = T.c49 vs w K' := by
  intro vs w K K' h
  unfold T.c49
  split
  · rw [← T.eq49, ← T.eq49]
    refine denF_eq T.CI49 fun v w' hs => ?_
    split <;> first | rfl | exact h _ _ hs
  · rfl
theorem T.CI50 : CallEq T.C50 := (CallEq.cons 22 T.imp22 CallEq.nil)
theorem T.imp50 : ∀ vs w K K', Agree w K K' → T.c50 vs w K = T.c50 vs w K' := by
  intro vs w K K' h
  unfold T.c50
  split
  · rw [← T.eq50, ← T.eq50]
    refine denF_eq T.CI50 fun v w' hs => ?_
    split <;> first | rfl | exact h _ _ hs
  · rfl
theorem T.CI51 : CallEq T.C51 := CallEq.nil
theorem T.imp51 : ∀ vs w K K', Agree w K K' → T.c51 vs w K = T.c51 vs w K' := by
  intro vs w K K' h
  unfold T.c51
  split
  · rw [← T.eq51, ← T.eq51]
    refine denF_eq T.CI51 fun v w' hs => ?_
    split <;> first | rfl | exact h _ _ hs
  · rfl
theorem T.CI30 : CallEq T.C30 := (CallEq.cons 48 T.imp48 (CallEq.cons 6 T.imp6 (CallEq.cons 9 T.imp9 (CallEq.cons 10 T.imp10 (CallEq.cons 49 T.imp49 (CallEq.cons 11 T.imp11 (CallEq.cons 50 T.imp50 (CallEq.cons 51 T.imp51 CallEq.nil))))))))
theorem T.imp30 : ∀ vs w K K', Agree w K K' → T.c30 vs w K = T.c30 vs w K' := by
  intro vs w K K' h
  unfold T.c30
  split
  · rw [← T.eq30, ← T.eq30]
    refine denF_eq T.CI30 fun v w' hs => ?_
    split <;> first | rfl | exact h _ _ hs
  · rfl
theorem T.CI31 : CallEq T.C31 := (CallEq.cons 12 T.imp12 (CallEq.cons 27 T.imp27 CallEq.nil))
theorem T.imp31 : ∀ vs w K K', Agree w K K' → T.c31 vs w K = T.c31 vs w K' := by
  intro vs w K K' h
  unfold T.c31
  split
  · rw [← T.eq31, ← T.eq31]
    refine denF_eq T.CI31 fun v w' hs => ?_
    split <;> first | rfl | exact h _ _ hs
  · rfl
theorem T.CI14 : CallEq T.C14 := (CallEq.cons 30 T.imp30 (CallEq.cons 31 T.imp31 CallEq.nil))
theorem T.imp14 : ∀ vs w K K', Agree w K K' → T.c14 vs w K = T.c14 vs w K' := by
  intro vs w K K' h
  unfold T.c14
  split
  · rw [← T.eq14, ← T.eq14]
    refine denF_eq T.CI14 fun v w' hs => ?_
    split <;> first | rfl | exact h _ _ hs
  · rfl
theorem T.CI4 : CallEq T.C4 := (CallEq.cons 13 T.imp13 (CallEq.cons 14 T.imp14 CallEq.nil))
theorem T.imp4 : ∀ vs w K K', Agree w K K' → T.c4 vs w K = T.c4 vs w K' := by
  intro vs w K K' h
  unfold T.c4
  split
  · rw [← T.eq4, ← T.eq4]
    refine denF_eq T.CI4 fun v w' hs => ?_
    split <;> first | rfl | exact h _ _ hs
  · rfl
end Go.Proofs.Qxb6500563aGreat
