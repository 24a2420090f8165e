/-
  MADE BY PROGRAM (my own gen2.py) out of the translation: the Go functions as typed texts, each tied to the model by the kernel.
-/
import Derived.Test.Qxb6500564aGreatS8
set_option linter.unusedVariables false
namespace Go.Proofs.Qxb6500564aGreat
open Go.Den

/-- (*e2e/query.Engine).Exec (function 9). -/
def S.query_Engine_Exec (q : Nat) (s_ : Int) (text : ByteArray) (w : World) (K : Int → Int → Sl → Sl → World → Prop) : Prop :=
  New w (.cells #[.int .i64 0, .int .i64 0, .slice none 0 0, .slice none 0 0] 36) fun p1 w =>
  if (decide ((text.size : Int) > 256)) = true then
    S.query_fail 24 w (fun Err_2 N_3 Cols_4 Rows_5 w =>
    St1 w ⟨p1, 0, none⟩ (.int .i64 Err_2) fun w =>
    St1 w ⟨p1, 1, none⟩ (.int .i64 N_3) fun w =>
    St1 w ⟨p1, 2, none⟩ (.slice Cols_4.a Cols_4.l Cols_4.c) fun w =>
    St1 w ⟨p1, 3, none⟩ (.slice Rows_5.a Rows_5.l Rows_5.c) fun w =>
    LdI .i64 w ⟨p1, 0, none⟩ fun Err_6 =>
    LdI .i64 w ⟨p1, 1, none⟩ fun N_7 =>
    LdS w ⟨p1, 2, none⟩ fun Cols_8 =>
    LdS w ⟨p1, 3, none⟩ fun Rows_9 =>
    K Err_6 N_7 Cols_8 Rows_9 w)
  else
    S.api_GoodSess s_ w (fun r10 w =>
    if (!r10) = true then
      S.query_fail 20 w (fun Err_11 N_12 Cols_13 Rows_14 w =>
      St1 w ⟨p1, 0, none⟩ (.int .i64 Err_11) fun w =>
      St1 w ⟨p1, 1, none⟩ (.int .i64 N_12) fun w =>
      St1 w ⟨p1, 2, none⟩ (.slice Cols_13.a Cols_13.l Cols_13.c) fun w =>
      St1 w ⟨p1, 3, none⟩ (.slice Rows_14.a Rows_14.l Rows_14.c) fun w =>
      LdI .i64 w ⟨p1, 0, none⟩ fun Err_15 =>
      LdI .i64 w ⟨p1, 1, none⟩ fun N_16 =>
      LdS w ⟨p1, 2, none⟩ fun Cols_17 =>
      LdS w ⟨p1, 3, none⟩ fun Rows_18 =>
      K Err_15 N_16 Cols_17 Rows_18 w)
    else
      S.query_Parse text w (fun Kind_19 Table_20 Defs_21 PK_22 Lits_23 Star_24 List_25 Sets_26 Where_27 Order_28 Desc_29 HasLimit_30 Limit_31 r32 w =>
      New w (.cells #[.int .i64 0, .string ⟨#[]⟩, .slice none 0 0, .int .i64 0, .slice none 0 0, .bool false, .slice none 0 0, .slice none 0 0, .slice none 0 0, .string ⟨#[]⟩, .bool false, .bool false, .int .i64 0] 64) fun p33 w =>
      St1 w ⟨p33, 0, none⟩ (.int .i64 Kind_19) fun w =>
      St1 w ⟨p33, 1, none⟩ (.string Table_20) fun w =>
      St1 w ⟨p33, 2, none⟩ (.slice Defs_21.a Defs_21.l Defs_21.c) fun w =>
      St1 w ⟨p33, 3, none⟩ (.int .i64 PK_22) fun w =>
      St1 w ⟨p33, 4, none⟩ (.slice Lits_23.a Lits_23.l Lits_23.c) fun w =>
      St1 w ⟨p33, 5, none⟩ (.bool Star_24) fun w =>
      St1 w ⟨p33, 6, none⟩ (.slice List_25.a List_25.l List_25.c) fun w =>
      St1 w ⟨p33, 7, none⟩ (.slice Sets_26.a Sets_26.l Sets_26.c) fun w =>
      St1 w ⟨p33, 8, none⟩ (.slice Where_27.a Where_27.l Where_27.c) fun w =>
      St1 w ⟨p33, 9, none⟩ (.string Order_28) fun w =>
      St1 w ⟨p33, 10, none⟩ (.bool Desc_29) fun w =>
      St1 w ⟨p33, 11, none⟩ (.bool HasLimit_30) fun w =>
      St1 w ⟨p33, 12, none⟩ (.int .i64 Limit_31) fun w =>
      if (!r32) = true then
        S.query_fail 22 w (fun Err_34 N_35 Cols_36 Rows_37 w =>
        St1 w ⟨p1, 0, none⟩ (.int .i64 Err_34) fun w =>
        St1 w ⟨p1, 1, none⟩ (.int .i64 N_35) fun w =>
        St1 w ⟨p1, 2, none⟩ (.slice Cols_36.a Cols_36.l Cols_36.c) fun w =>
        St1 w ⟨p1, 3, none⟩ (.slice Rows_37.a Rows_37.l Rows_37.c) fun w =>
        LdI .i64 w ⟨p1, 0, none⟩ fun Err_38 =>
        LdI .i64 w ⟨p1, 1, none⟩ fun N_39 =>
        LdS w ⟨p1, 2, none⟩ fun Cols_40 =>
        LdS w ⟨p1, 3, none⟩ fun Rows_41 =>
        K Err_38 N_39 Cols_40 Rows_41 w)
      else
        LdI .i64 w ⟨p33, 0, none⟩ fun Kind_42 =>
        if (Kind_42 == 1) = true then
          LdP w ⟨q, 0, none⟩ fun t_43 =>
          S.txn_Mgr_Begin t_43 s_ w (fun r44 w =>
          S.query_fail r44 w (fun Err_45 N_46 Cols_47 Rows_48 w =>
          St1 w ⟨p1, 0, none⟩ (.int .i64 Err_45) fun w =>
          St1 w ⟨p1, 1, none⟩ (.int .i64 N_46) fun w =>
          St1 w ⟨p1, 2, none⟩ (.slice Cols_47.a Cols_47.l Cols_47.c) fun w =>
          St1 w ⟨p1, 3, none⟩ (.slice Rows_48.a Rows_48.l Rows_48.c) fun w =>
          LdI .i64 w ⟨p1, 0, none⟩ fun Err_49 =>
          LdI .i64 w ⟨p1, 1, none⟩ fun N_50 =>
          LdS w ⟨p1, 2, none⟩ fun Cols_51 =>
          LdS w ⟨p1, 3, none⟩ fun Rows_52 =>
          K Err_49 N_50 Cols_51 Rows_52 w))
        else
          if (Kind_42 == 2) = true then
            LdP w ⟨q, 0, none⟩ fun t_53 =>
            S.txn_Mgr_Commit t_53 s_ w (fun r54 w =>
            S.query_fail r54 w (fun Err_55 N_56 Cols_57 Rows_58 w =>
            St1 w ⟨p1, 0, none⟩ (.int .i64 Err_55) fun w =>
            St1 w ⟨p1, 1, none⟩ (.int .i64 N_56) fun w =>
            St1 w ⟨p1, 2, none⟩ (.slice Cols_57.a Cols_57.l Cols_57.c) fun w =>
            St1 w ⟨p1, 3, none⟩ (.slice Rows_58.a Rows_58.l Rows_58.c) fun w =>
            LdI .i64 w ⟨p1, 0, none⟩ fun Err_59 =>
            LdI .i64 w ⟨p1, 1, none⟩ fun N_60 =>
            LdS w ⟨p1, 2, none⟩ fun Cols_61 =>
            LdS w ⟨p1, 3, none⟩ fun Rows_62 =>
            K Err_59 N_60 Cols_61 Rows_62 w))
          else
            if (Kind_42 == 3) = true then
              LdP w ⟨q, 0, none⟩ fun t_63 =>
              S.txn_Mgr_Rollback t_63 s_ w (fun r64 w =>
              S.query_fail r64 w (fun Err_65 N_66 Cols_67 Rows_68 w =>
              St1 w ⟨p1, 0, none⟩ (.int .i64 Err_65) fun w =>
              St1 w ⟨p1, 1, none⟩ (.int .i64 N_66) fun w =>
              St1 w ⟨p1, 2, none⟩ (.slice Cols_67.a Cols_67.l Cols_67.c) fun w =>
              St1 w ⟨p1, 3, none⟩ (.slice Rows_68.a Rows_68.l Rows_68.c) fun w =>
              LdI .i64 w ⟨p1, 0, none⟩ fun Err_69 =>
              LdI .i64 w ⟨p1, 1, none⟩ fun N_70 =>
              LdS w ⟨p1, 2, none⟩ fun Cols_71 =>
              LdS w ⟨p1, 3, none⟩ fun Rows_72 =>
              K Err_69 N_70 Cols_71 Rows_72 w))
            else
              if (Kind_42 == 4) = true then
                Drew w fun w =>
                LdP w ⟨q, 0, none⟩ fun t_73 =>
                LdStr w ⟨p33, 1, none⟩ fun Table_74 =>
                LdS w ⟨p33, 2, none⟩ fun Defs_75 =>
                LdI .i64 w ⟨p33, 3, none⟩ fun PK_76 =>
                S.txn_Mgr_CreateTable t_73 s_ Table_74 Defs_75 PK_76 w (fun r77 w =>
                S.query_fail r77 w (fun Err_78 N_79 Cols_80 Rows_81 w =>
                St1 w ⟨p1, 0, none⟩ (.int .i64 Err_78) fun w =>
                St1 w ⟨p1, 1, none⟩ (.int .i64 N_79) fun w =>
                St1 w ⟨p1, 2, none⟩ (.slice Cols_80.a Cols_80.l Cols_80.c) fun w =>
                St1 w ⟨p1, 3, none⟩ (.slice Rows_81.a Rows_81.l Rows_81.c) fun w =>
                LdI .i64 w ⟨p1, 0, none⟩ fun Err_82 =>
                LdI .i64 w ⟨p1, 1, none⟩ fun N_83 =>
                LdS w ⟨p1, 2, none⟩ fun Cols_84 =>
                LdS w ⟨p1, 3, none⟩ fun Rows_85 =>
                K Err_82 N_83 Cols_84 Rows_85 w))
              else
                if (Kind_42 == 5) = true then
                  Drew w fun w =>
                  LdP w ⟨q, 0, none⟩ fun t_86 =>
                  LdStr w ⟨p33, 1, none⟩ fun Table_87 =>
                  S.txn_Mgr_DropTable t_86 s_ Table_87 w (fun r88 w =>
                  S.query_fail r88 w (fun Err_89 N_90 Cols_91 Rows_92 w =>
                  St1 w ⟨p1, 0, none⟩ (.int .i64 Err_89) fun w =>
                  St1 w ⟨p1, 1, none⟩ (.int .i64 N_90) fun w =>
                  St1 w ⟨p1, 2, none⟩ (.slice Cols_91.a Cols_91.l Cols_91.c) fun w =>
                  St1 w ⟨p1, 3, none⟩ (.slice Rows_92.a Rows_92.l Rows_92.c) fun w =>
                  LdI .i64 w ⟨p1, 0, none⟩ fun Err_93 =>
                  LdI .i64 w ⟨p1, 1, none⟩ fun N_94 =>
                  LdS w ⟨p1, 2, none⟩ fun Cols_95 =>
                  LdS w ⟨p1, 3, none⟩ fun Rows_96 =>
                  K Err_93 N_94 Cols_95 Rows_96 w))
                else
                  if (Kind_42 == 6) = true then
                    Join (fun (sch_97 : Nat) (w : World) =>
                      Drew w fun w =>
                      LdStr w ⟨sch_97, 0, none⟩ fun Name_98 =>
                      LdS w ⟨sch_97, 1, none⟩ fun Cols_99 =>
                      LdI .i64 w ⟨sch_97, 2, none⟩ fun PK_100 =>
                      LdI .i64 w ⟨sch_97, 3, none⟩ fun Index_101 =>
                      LdS w ⟨p33, 6, none⟩ fun List_102 =>
                      Ix List_102.a List_102.l 0 fun b103 o104 =>
                      LdStr w ⟨b103, o104 + Int.toNat 0 * 1, none⟩ fun x_105 =>
                      S.query_ColOf Name_98 Cols_99 PK_100 Index_101 x_105 w (fun r106 w =>
                      Drew w fun w =>
                      LdP w ⟨q, 0, none⟩ fun t_107 =>
                      LdStr w ⟨p33, 1, none⟩ fun Table_108 =>
                      S.txn_Mgr_CreateIndex t_107 s_ Table_108 r106 w (fun r109 w =>
                      S.query_fail r109 w (fun Err_110 N_111 Cols_112 Rows_113 w =>
                      St1 w ⟨p1, 0, none⟩ (.int .i64 Err_110) fun w =>
                      St1 w ⟨p1, 1, none⟩ (.int .i64 N_111) fun w =>
                      St1 w ⟨p1, 2, none⟩ (.slice Cols_112.a Cols_112.l Cols_112.c) fun w =>
                      St1 w ⟨p1, 3, none⟩ (.slice Rows_113.a Rows_113.l Rows_113.c) fun w =>
                      LdI .i64 w ⟨p1, 0, none⟩ fun Err_114 =>
                      LdI .i64 w ⟨p1, 1, none⟩ fun N_115 =>
                      LdS w ⟨p1, 2, none⟩ fun Cols_116 =>
                      LdS w ⟨p1, 3, none⟩ fun Rows_117 =>
                      K Err_114 N_115 Cols_116 Rows_117 w)))) fun J118 =>
                    Drew w fun w =>
                    Hold w ⟨q, 0, none⟩ 1 fun R119 =>
                    LdP w ⟨q, 0, none⟩ fun t_120 =>
                    Hold w ⟨p33, 1, none⟩ 1 fun R121 =>
                    LdStr w ⟨p33, 1, none⟩ fun Table_122 =>
                    (S.txn_Mgr_SchemaOf t_120 Table_122 w (fun Name_123 Cols_124 PK_125 Index_126 r127 w =>
                    New w (.cells #[.string ⟨#[]⟩, .slice none 0 0, .int .i64 0, .int .i64 0] 73) fun p128 w =>
                    After R121 w <|
                    After R119 w <|
                    St1 w ⟨p128, 0, none⟩ (.string Name_123) fun w =>
                    St1 w ⟨p128, 1, none⟩ (.slice Cols_124.a Cols_124.l Cols_124.c) fun w =>
                    St1 w ⟨p128, 2, none⟩ (.int .i64 PK_125) fun w =>
                    St1 w ⟨p128, 3, none⟩ (.int .i64 Index_126) fun w =>
                    J118 p128 w)) ∧
                    (New w (.cells #[.string ⟨#[]⟩, .slice none 0 0, .int .i64 0, .int .i64 0] 73) fun p129 w =>
                    After R121 w <|
                    After R119 w <|
                    S.txn_Mgr_SchemaOf t_120 Table_122 w (fun Name_130 Cols_131 PK_132 Index_133 r134 w =>
                    St1 w ⟨p129, 0, none⟩ (.string Name_130) fun w =>
                    St1 w ⟨p129, 1, none⟩ (.slice Cols_131.a Cols_131.l Cols_131.c) fun w =>
                    St1 w ⟨p129, 2, none⟩ (.int .i64 PK_132) fun w =>
                    St1 w ⟨p129, 3, none⟩ (.int .i64 Index_133) fun w =>
                    J118 p129 w))
                  else
                    LdP w ⟨q, 0, none⟩ fun t_135 =>
                    S.txn_Mgr_Active t_135 s_ w (fun r136 w =>
                    if r136 = true then
                      LdI .i64 w ⟨p33, 0, none⟩ fun Kind_137 =>
                      LdStr w ⟨p33, 1, none⟩ fun Table_138 =>
                      LdS w ⟨p33, 2, none⟩ fun Defs_139 =>
                      LdI .i64 w ⟨p33, 3, none⟩ fun PK_140 =>
                      LdS w ⟨p33, 4, none⟩ fun Lits_141 =>
                      LdB w ⟨p33, 5, none⟩ fun Star_142 =>
                      LdS w ⟨p33, 6, none⟩ fun List_143 =>
                      LdS w ⟨p33, 7, none⟩ fun Sets_144 =>
                      LdS w ⟨p33, 8, none⟩ fun Where_145 =>
                      LdStr w ⟨p33, 9, none⟩ fun Order_146 =>
                      LdB w ⟨p33, 10, none⟩ fun Desc_147 =>
                      LdB w ⟨p33, 11, none⟩ fun HasLimit_148 =>
                      LdI .i64 w ⟨p33, 12, none⟩ fun Limit_149 =>
                      S.query_Engine_run q s_ Kind_137 Table_138 Defs_139 PK_140 Lits_141 Star_142 List_143 Sets_144 Where_145 Order_146 Desc_147 HasLimit_148 Limit_149 w (fun Err_150 N_151 Cols_152 Rows_153 w =>
                      St1 w ⟨p1, 0, none⟩ (.int .i64 Err_150) fun w =>
                      St1 w ⟨p1, 1, none⟩ (.int .i64 N_151) fun w =>
                      St1 w ⟨p1, 2, none⟩ (.slice Cols_152.a Cols_152.l Cols_152.c) fun w =>
                      St1 w ⟨p1, 3, none⟩ (.slice Rows_153.a Rows_153.l Rows_153.c) fun w =>
                      LdI .i64 w ⟨p1, 0, none⟩ fun Err_154 =>
                      LdI .i64 w ⟨p1, 1, none⟩ fun N_155 =>
                      LdS w ⟨p1, 2, none⟩ fun Cols_156 =>
                      LdS w ⟨p1, 3, none⟩ fun Rows_157 =>
                      K Err_154 N_155 Cols_156 Rows_157 w)
                    else
                      LdP w ⟨q, 0, none⟩ fun t_158 =>
                      S.txn_Mgr_Begin t_158 s_ w (fun r159 w =>
                      LdI .i64 w ⟨p33, 0, none⟩ fun Kind_160 =>
                      LdStr w ⟨p33, 1, none⟩ fun Table_161 =>
                      LdS w ⟨p33, 2, none⟩ fun Defs_162 =>
                      LdI .i64 w ⟨p33, 3, none⟩ fun PK_163 =>
                      LdS w ⟨p33, 4, none⟩ fun Lits_164 =>
                      LdB w ⟨p33, 5, none⟩ fun Star_165 =>
                      LdS w ⟨p33, 6, none⟩ fun List_166 =>
                      LdS w ⟨p33, 7, none⟩ fun Sets_167 =>
                      LdS w ⟨p33, 8, none⟩ fun Where_168 =>
                      LdStr w ⟨p33, 9, none⟩ fun Order_169 =>
                      LdB w ⟨p33, 10, none⟩ fun Desc_170 =>
                      LdB w ⟨p33, 11, none⟩ fun HasLimit_171 =>
                      LdI .i64 w ⟨p33, 12, none⟩ fun Limit_172 =>
                      S.query_Engine_run q s_ Kind_160 Table_161 Defs_162 PK_163 Lits_164 Star_165 List_166 Sets_167 Where_168 Order_169 Desc_170 HasLimit_171 Limit_172 w (fun Err_173 N_174 Cols_175 Rows_176 w =>
                      New w (.cells #[.int .i64 0, .int .i64 0, .slice none 0 0, .slice none 0 0] 36) fun p177 w =>
                      St1 w ⟨p177, 0, none⟩ (.int .i64 Err_173) fun w =>
                      St1 w ⟨p177, 1, none⟩ (.int .i64 N_174) fun w =>
                      St1 w ⟨p177, 2, none⟩ (.slice Cols_175.a Cols_175.l Cols_175.c) fun w =>
                      St1 w ⟨p177, 3, none⟩ (.slice Rows_176.a Rows_176.l Rows_176.c) fun w =>
                      Join (fun (e_178 : Int) (w : World) =>
                        if (e_178 != 0) = true then
                          S.query_fail 23 w (fun Err_179 N_180 Cols_181 Rows_182 w =>
                          St1 w ⟨p1, 0, none⟩ (.int .i64 Err_179) fun w =>
                          St1 w ⟨p1, 1, none⟩ (.int .i64 N_180) fun w =>
                          St1 w ⟨p1, 2, none⟩ (.slice Cols_181.a Cols_181.l Cols_181.c) fun w =>
                          St1 w ⟨p1, 3, none⟩ (.slice Rows_182.a Rows_182.l Rows_182.c) fun w =>
                          LdI .i64 w ⟨p1, 0, none⟩ fun Err_183 =>
                          LdI .i64 w ⟨p1, 1, none⟩ fun N_184 =>
                          LdS w ⟨p1, 2, none⟩ fun Cols_185 =>
                          LdS w ⟨p1, 3, none⟩ fun Rows_186 =>
                          K Err_183 N_184 Cols_185 Rows_186 w)
                        else
                          LdI .i64 w ⟨p177, 0, none⟩ fun Err_187 =>
                          LdI .i64 w ⟨p177, 1, none⟩ fun N_188 =>
                          LdS w ⟨p177, 2, none⟩ fun Cols_189 =>
                          LdS w ⟨p177, 3, none⟩ fun Rows_190 =>
                          St1 w ⟨p1, 0, none⟩ (.int .i64 Err_187) fun w =>
                          St1 w ⟨p1, 1, none⟩ (.int .i64 N_188) fun w =>
                          St1 w ⟨p1, 2, none⟩ (.slice Cols_189.a Cols_189.l Cols_189.c) fun w =>
                          St1 w ⟨p1, 3, none⟩ (.slice Rows_190.a Rows_190.l Rows_190.c) fun w =>
                          LdI .i64 w ⟨p1, 0, none⟩ fun Err_191 =>
                          LdI .i64 w ⟨p1, 1, none⟩ fun N_192 =>
                          LdS w ⟨p1, 2, none⟩ fun Cols_193 =>
                          LdS w ⟨p1, 3, none⟩ fun Rows_194 =>
                          K Err_191 N_192 Cols_193 Rows_194 w) fun J195 =>
                      Join (fun (w : World) =>
                        if (r159 == 0) = true then
                          LdP w ⟨q, 0, none⟩ fun t_196 =>
                          S.txn_Mgr_Rollback t_196 s_ w (fun r197 w =>
                          J195 r197 w)
                        else
                          J195 r159 w) fun J198 =>
                      if (r159 == 0) = true then
                        LdI .i64 w ⟨p177, 0, none⟩ fun Err_199 =>
                        if (Err_199 == 0) = true then
                          LdP w ⟨q, 0, none⟩ fun t_200 =>
                          S.txn_Mgr_Commit t_200 s_ w (fun r201 w =>
                          J195 r201 w)
                        else
                          J198 w
                      else
                        J198 w)))))
def T.C9 : CallT := (CallT.cons 22 T.c22 (CallT.cons 23 T.c23 (CallT.cons 24 T.c24 (CallT.cons 25 T.c25 (CallT.cons 26 T.c26 (CallT.cons 27 T.c27 (CallT.cons 28 T.c28 (CallT.cons 29 T.c29 (CallT.cons 31 T.c31 (CallT.cons 32 T.c32 (CallT.cons 30 T.c30 (CallT.cons 33 T.c33 (CallT.cons 34 T.c34 CallT.nil)))))))))))))
def T.A9 : Ann := fun i => bif Nat.beq i 1000035 then some ([], [(0, 5), (1, 0), (6, 5), (18, 0), (19, 5)]) else bif Nat.beq i 1000024 then some ([], [(0, 5), (1, 0), (6, 5), (7, 5), (37, 0)]) else bif Nat.beq i 1000021 then some ([], [(0, 5), (1, 0), (6, 5), (7, 5), (37, 0)]) else bif Nat.beq i 1000018 then some ([], [(0, 5), (1, 0), (6, 5), (7, 5), (37, 0)]) else bif Nat.beq i 1000015 then some ([], [(0, 5), (1, 0), (6, 5), (7, 5), (37, 0)]) else bif Nat.beq i 1000012 then some ([], [(0, 5), (1, 0), (6, 5), (7, 5), (37, 0)]) else none
set_option maxRecDepth 1000000 in
theorem T.eq9 (q : Nat) (s_ : Int) (text : ByteArray) (w : World) (K : Int → Int → Sl → Sl → World → Prop) : denF Tryz.prog T.C9 T.A9 Tryz.f9 [.pointer (some ⟨q, 0, none⟩), .int .i64 s_, .string text] w (fun v w' => match v with | .agg ⟨[.int .i64 r0, .int .i64 r1, .slice r2a r2l r2c, .slice r3a r3l r3c]⟩ => K r0 r1 ⟨r2a, r2l, r2c⟩ ⟨r3a, r3l, r3c⟩ w' | _ => False) = S.query_Engine_Exec q s_ text w K := by kernel_rfl
theorem T.CO9 : CallOk Tryz.prog T.C9 := (CallOk.cons 22 T.ok22 (CallOk.cons 23 T.ok23 (CallOk.cons 24 T.ok24 (CallOk.cons 25 T.ok25 (CallOk.cons 26 T.ok26 (CallOk.cons 27 T.ok27 (CallOk.cons 28 T.ok28 (CallOk.cons 29 T.ok29 (CallOk.cons 31 T.ok31 (CallOk.cons 32 T.ok32 (CallOk.cons 30 T.ok30 (CallOk.cons 33 T.ok33 (CallOk.cons 34 T.ok34 CallOk.nil)))))))))))))
def T.c9 (vs : List Value) (w : World) (K : Value → World → Prop) : Prop :=
  match vs with
  | [.pointer (some ⟨q, 0, none⟩), .int .i64 s_, .string text] => S.query_Engine_Exec q s_ text w (fun r0 r1 r2 r3 w' => K (.agg #[.int .i64 r0, .int .i64 r1, .slice r2.a r2.l r2.c, .slice r3.a r3.l r3.c]) w')
  | _ => False
theorem T.ok9 : ∀ vs w K, T.c9 vs w K → (callFunc 9 vs.toArray).run Tryz.prog w = .ok (.enter 9 vs.toArray) w ∧ Calls Tryz.prog 9 vs.toArray w fun e w' => ∃ v, e = .returned v ∧ K v w' := by
  intro vs w K h
  unfold T.c9 at h
  split at h
  · refine ⟨Tryz.call9 _ _, ok_of T.CO9 mixed Tryz.func9 (T.eq9 _ _ _ _ _) h fun v w' hk => ⟨v, rfl, ?_⟩⟩
    split at hk
    · exact hk
    · exact hk.elim
  · exact h.elim

/-- e2e/towerexact.Raw (function 3). -/
def S.towerexact_Raw (texts : Sl) (sess : Sl) (n : Int) (w : World) (K : Bool → World → Prop) : Prop :=
  if (decide ((sess.l : Int) > 1073741824)) = true then
    K true w
  else
    S.towerexact_few texts w (fun r1 w =>
    if (!r1) = true then
      K true w
    else
      S.towerexact_fresh false w (fun box_2 d_3 x_4 m_5 mb_6 w =>
      New w (.cells #[.bool false, .pointer none, .pointer none, .pointer none, .pointer none] 29) fun p7 w =>
      St1 w ⟨p7, 0, none⟩ (.bool box_2) fun w =>
      St1 w ⟨p7, 1, none⟩ (.pointer (some ⟨d_3, 0, none⟩)) fun w =>
      St1 w ⟨p7, 2, none⟩ (.pointer (some ⟨x_4, 0, none⟩)) fun w =>
      St1 w ⟨p7, 3, none⟩ (.pointer (some ⟨m_5, 0, none⟩)) fun w =>
      St1 w ⟨p7, 4, none⟩ (.pointer (some ⟨mb_6, 0, none⟩)) fun w =>
      Join (fun (w : World) =>
        LdP w ⟨p7, 2, none⟩ fun x_8 =>
        LdP w ⟨p7, 3, none⟩ fun m_9 =>
        S.towerlaw_Alike x_8 m_9 w (fun r10 w =>
        if (!r10) = true then
          K false w
        else
          S.towerexact_base_cut p7 0 n w (fun r11 w =>
          K r11 w))) fun J12 =>
      LoopP (σ := Int × Unit) (fun st13 w next14 =>
        if (decide (st13.1 < (texts.l : Int))) = true then
          if (decide (st13.1 < (sess.l : Int))) = true then
            LdP w ⟨p7, 1, none⟩ fun d_15 =>
            S.towerlaw_Mark d_15 w (fun w =>
            LdP w ⟨p7, 3, none⟩ fun m_16 =>
            S.querym_Engine_Clone m_16 w (fun r17 w =>
            St1 w ⟨p7, 4, none⟩ (.pointer (some ⟨r17, 0, none⟩)) fun w =>
            Join (fun (r_18 : Nat) (w : World) =>
              Join (fun (q_19 : Nat) (w : World) =>
                LdI .i64 w ⟨r_18, 0, none⟩ fun Err_20 =>
                LdI .i64 w ⟨r_18, 1, none⟩ fun N_21 =>
                LdS w ⟨r_18, 2, none⟩ fun Cols_22 =>
                LdS w ⟨r_18, 3, none⟩ fun Rows_23 =>
                LdI .i64 w ⟨q_19, 0, none⟩ fun Err_24 =>
                LdI .i64 w ⟨q_19, 1, none⟩ fun N_25 =>
                LdS w ⟨q_19, 2, none⟩ fun Cols_26 =>
                LdS w ⟨q_19, 3, none⟩ fun Rows_27 =>
                S.towerlaw_SameResult Err_20 N_21 Cols_22 Rows_23 Err_24 N_25 Cols_26 Rows_27 w (fun r28 w =>
                if (!r28) = true then
                  K false w
                else
                  Let (W (st13.1 + 1)) fun i_29 =>
                  next14 (i_29, ()) w)) fun J30 =>
              Drew w fun w =>
              Hold w ⟨p7, 3, none⟩ 1 fun R31 =>
              LdP w ⟨p7, 3, none⟩ fun m_32 =>
              Ix sess.a sess.l st13.1 fun b33 o34 =>
              Hold w ⟨b33, o34 + Int.toNat st13.1 * 1, none⟩ 1 fun R35 =>
              LdI .i64 w ⟨b33, o34 + Int.toNat st13.1 * 1, none⟩ fun x_36 =>
              Ix texts.a texts.l st13.1 fun b37 o38 =>
              Hold w ⟨b37, o38 + Int.toNat st13.1 * 1, none⟩ 1 fun R39 =>
              LdStr w ⟨b37, o38 + Int.toNat st13.1 * 1, none⟩ fun x_40 =>
              (S.querym_Engine_Exec m_32 x_36 x_40 w (fun Err_41 N_42 Cols_43 Rows_44 w =>
              New w (.cells #[.int .i64 0, .int .i64 0, .slice none 0 0, .slice none 0 0] 36) fun p45 w =>
              After R39 w <|
              After R35 w <|
              After R31 w <|
              St1 w ⟨p45, 0, none⟩ (.int .i64 Err_41) fun w =>
              St1 w ⟨p45, 1, none⟩ (.int .i64 N_42) fun w =>
              St1 w ⟨p45, 2, none⟩ (.slice Cols_43.a Cols_43.l Cols_43.c) fun w =>
              St1 w ⟨p45, 3, none⟩ (.slice Rows_44.a Rows_44.l Rows_44.c) fun w =>
              J30 p45 w)) ∧
              (New w (.cells #[.int .i64 0, .int .i64 0, .slice none 0 0, .slice none 0 0] 36) fun p46 w =>
              After R39 w <|
              After R35 w <|
              After R31 w <|
              S.querym_Engine_Exec m_32 x_36 x_40 w (fun Err_47 N_48 Cols_49 Rows_50 w =>
              St1 w ⟨p46, 0, none⟩ (.int .i64 Err_47) fun w =>
              St1 w ⟨p46, 1, none⟩ (.int .i64 N_48) fun w =>
              St1 w ⟨p46, 2, none⟩ (.slice Cols_49.a Cols_49.l Cols_49.c) fun w =>
              St1 w ⟨p46, 3, none⟩ (.slice Rows_50.a Rows_50.l Rows_50.c) fun w =>
              J30 p46 w))) fun J51 =>
            Drew w fun w =>
            Hold w ⟨p7, 2, none⟩ 1 fun R52 =>
            LdP w ⟨p7, 2, none⟩ fun x_53 =>
            Ix sess.a sess.l st13.1 fun b54 o55 =>
            Hold w ⟨b54, o55 + Int.toNat st13.1 * 1, none⟩ 1 fun R56 =>
            LdI .i64 w ⟨b54, o55 + Int.toNat st13.1 * 1, none⟩ fun x_57 =>
            Ix texts.a texts.l st13.1 fun b58 o59 =>
            Hold w ⟨b58, o59 + Int.toNat st13.1 * 1, none⟩ 1 fun R60 =>
            LdStr w ⟨b58, o59 + Int.toNat st13.1 * 1, none⟩ fun x_61 =>
            (S.query_Engine_Exec x_53 x_57 x_61 w (fun Err_62 N_63 Cols_64 Rows_65 w =>
            New w (.cells #[.int .i64 0, .int .i64 0, .slice none 0 0, .slice none 0 0] 36) fun p66 w =>
            After R60 w <|
            After R56 w <|
            After R52 w <|
            St1 w ⟨p66, 0, none⟩ (.int .i64 Err_62) fun w =>
            St1 w ⟨p66, 1, none⟩ (.int .i64 N_63) fun w =>
            St1 w ⟨p66, 2, none⟩ (.slice Cols_64.a Cols_64.l Cols_64.c) fun w =>
            St1 w ⟨p66, 3, none⟩ (.slice Rows_65.a Rows_65.l Rows_65.c) fun w =>
            J51 p66 w)) ∧
            (New w (.cells #[.int .i64 0, .int .i64 0, .slice none 0 0, .slice none 0 0] 36) fun p67 w =>
            After R60 w <|
            After R56 w <|
            After R52 w <|
            S.query_Engine_Exec x_53 x_57 x_61 w (fun Err_68 N_69 Cols_70 Rows_71 w =>
            St1 w ⟨p67, 0, none⟩ (.int .i64 Err_68) fun w =>
            St1 w ⟨p67, 1, none⟩ (.int .i64 N_69) fun w =>
            St1 w ⟨p67, 2, none⟩ (.slice Cols_70.a Cols_70.l Cols_70.c) fun w =>
            St1 w ⟨p67, 3, none⟩ (.slice Rows_71.a Rows_71.l Rows_71.c) fun w =>
            J51 p67 w))))
          else
            J12 w
        else
          J12 w) (0, ()) w))
def T.C3 : CallT := (CallT.cons 5 T.c5 (CallT.cons 6 T.c6 (CallT.cons 12 T.c12 (CallT.cons 13 T.c13 (CallT.cons 7 T.c7 (CallT.cons 8 T.c8 (CallT.cons 11 T.c11 (CallT.cons 10 T.c10 (CallT.cons 9 T.c9 CallT.nil)))))))))
def T.A3 : Ann := fun i => bif Nat.beq i 5 then some ([0, 1, 2, 7], [(8, 0)]) else none
set_option maxRecDepth 1000000 in
theorem T.eq3 (texts : Sl) (sess : Sl) (n : Int) (w : World) (K : Bool → World → Prop) : denF Tryz.prog T.C3 T.A3 Tryz.f3 [.slice texts.a texts.l texts.c, .slice sess.a sess.l sess.c, .int .i64 n] w (fun v w' => match v with | .bool r0 => K r0 w' | _ => False) = S.towerexact_Raw texts sess n w K := by kernel_rfl
theorem T.CO3 : CallOk Tryz.prog T.C3 := (CallOk.cons 5 T.ok5 (CallOk.cons 6 T.ok6 (CallOk.cons 12 T.ok12 (CallOk.cons 13 T.ok13 (CallOk.cons 7 T.ok7 (CallOk.cons 8 T.ok8 (CallOk.cons 11 T.ok11 (CallOk.cons 10 T.ok10 (CallOk.cons 9 T.ok9 CallOk.nil)))))))))
def T.c3 (vs : List Value) (w : World) (K : Value → World → Prop) : Prop :=
  match vs with
  | [.slice textsa textsl textsc, .slice sessa sessl sessc, .int .i64 n] => S.towerexact_Raw ⟨textsa, textsl, textsc⟩ ⟨sessa, sessl, sessc⟩ n w (fun r0 w' => K (.bool r0) w')
  | _ => False
theorem T.ok3 : ∀ vs w K, T.c3 vs w K → (callFunc 3 vs.toArray).run Tryz.prog w = .ok (.enter 3 vs.toArray) w ∧ Calls Tryz.prog 3 vs.toArray w fun e w' => ∃ v, e = .returned v ∧ K v w' := by
  intro vs w K h
  unfold T.c3 at h
  split at h
  · refine ⟨Tryz.call3 _ _, ok_of T.CO3 mixed Tryz.func3 (T.eq3 _ _ _ _ _) h fun v w' hk => ⟨v, rfl, ?_⟩⟩
    split at hk
    · exact hk
    · exact hk.elim
  · exact h.elim

/-- e2e/towerexact.small (function 14). -/
def S.towerexact_small (script : Sl) (w : World) (K : Bool → World → Prop) : Prop :=
  if (decide ((script.l : Int) > 1073741824)) = true then
    K false w
  else
    Let (script.l : Int) fun n_1 =>
    LoopP (σ := Int × Int × Unit) (fun st2 w next3 =>
      if (decide (st2.2.1 < (script.l : Int))) = true then
        Drew w fun w =>
        Ix script.a script.l st2.2.1 fun b4 o5 =>
        LdStr w ⟨b4, o5 + Int.toNat st2.2.1 * 6 + 4, none⟩ fun S_6 =>
        Ix script.a script.l st2.2.1 fun b7 o8 =>
        LdStr w ⟨b7, o8 + Int.toNat st2.2.1 * 6 + 5, none⟩ fun T_9 =>
        Let (W ((W (st2.1 + (S_6.size : Int))) + (T_9.size : Int))) fun n_10 =>
        if (decide (n_10 > 1073741824)) = true then
          K false w
        else
          Let (W (st2.2.1 + 1)) fun i_11 =>
          next3 (n_10, i_11, ()) w
      else
        K true w) (n_1, 0, ()) w
def T.C14 : CallT := CallT.nil
def T.A14 : Ann := fun i => bif Nat.beq i 5 then some ([0], [(3, 0), (4, 0)]) else none
set_option maxRecDepth 1000000 in
theorem T.eq14 (script : Sl) (w : World) (K : Bool → World → Prop) : denF Tryz.prog T.C14 T.A14 Tryz.f14 [.slice script.a script.l script.c] w (fun v w' => match v with | .bool r0 => K r0 w' | _ => False) = S.towerexact_small script w K := by kernel_rfl
theorem T.CO14 : CallOk Tryz.prog T.C14 := CallOk.nil
def T.c14 (vs : List Value) (w : World) (K : Value → World → Prop) : Prop :=
  match vs with
  | [.slice scripta scriptl scriptc] => S.towerexact_small ⟨scripta, scriptl, scriptc⟩ w (fun r0 w' => K (.bool r0) w')
  | _ => False
theorem T.ok14 : ∀ vs w K, T.c14 vs w K → (callFunc 14 vs.toArray).run Tryz.prog w = .ok (.enter 14 vs.toArray) w ∧ Calls Tryz.prog 14 vs.toArray w fun e w' => ∃ v, e = .returned v ∧ K v w' := by
  intro vs w K h
  unfold T.c14 at h
  split at h
  · refine ⟨Tryz.call14 _ _, ok_of T.CO14 mixed Tryz.func14 (T.eq14 _ _ _) h fun v w' hk => ⟨v, rfl, ?_⟩⟩
    split at hk
    · exact hk
    · exact hk.elim
  · exact h.elim

/-- e2e/towerexact.pick (function 118). -/
def S.towerexact_pick (c : Int) (n : Int) (w : World) (K : Int → World → Prop) : Prop :=
  Join (fun (c_1 : Int) (w : World) =>
    NonZ n <|
    K (Int.tmod c_1 n) w) fun J2 =>
  if (decide (c < 0)) = true then
    Let (W (0 - (W (c + 1)))) fun c_3 =>
    J2 c_3 w
  else
    J2 c w
def T.C118 : CallT := CallT.nil
def T.A118 : Ann := fun _ => none
set_option maxRecDepth 1000000 in
theorem T.eq118 (c : Int) (n : Int) (w : World) (K : Int → World → Prop) : denF Tryz.prog T.C118 T.A118 Tryz.f118 [.int .i64 c, .int .i64 n] w (fun v w' => match v with | .int .i64 r0 => K r0 w' | _ => False) = S.towerexact_pick c n w K := by kernel_rfl
theorem T.CO118 : CallOk Tryz.prog T.C118 := CallOk.nil
def T.c118 (vs : List Value) (w : World) (K : Value → World → Prop) : Prop :=
  match vs with
  | [.int .i64 c, .int .i64 n] => S.towerexact_pick c n w (fun r0 w' => K (.int .i64 r0) w')
  | _ => False
theorem T.ok118 : ∀ vs w K, T.c118 vs w K → (callFunc 118 vs.toArray).run Tryz.prog w = .ok (.enter 118 vs.toArray) w ∧ Calls Tryz.prog 118 vs.toArray w fun e w' => ∃ v, e = .returned v ∧ K v w' := by
  intro vs w K h
  unfold T.c118 at h
  split at h
  · refine ⟨Tryz.call118 _ _, ok_of T.CO118 mixed Tryz.func118 (T.eq118 _ _ _ _) h fun v w' hk => ⟨v, rfl, ?_⟩⟩
    split at hk
    · exact hk
    · exact hk.elim
  · exact h.elim

/-- e2e/towerexact.copyRow (function 273). -/
def S.towerexact_copyRow (r : Sl) (w : World) (K : Sl → World → Prop) : Prop :=
  MkS 167 [.bool false, .int .i64 0, .string ⟨#[]⟩] 32 w (r.l : Int) (r.l : Int) fun l1 w =>
  CopyS 3 w l1 r fun n2 w =>
  K l1 w
def T.C273 : CallT := CallT.nil
def T.A273 : Ann := fun _ => none
set_option maxRecDepth 1000000 in
theorem T.eq273 (r : Sl) (w : World) (K : Sl → World → Prop) : denF Tryz.prog T.C273 T.A273 Tryz.f273 [.slice r.a r.l r.c] w (fun v w' => match v with | .slice r0a r0l r0c => K ⟨r0a, r0l, r0c⟩ w' | _ => False) = S.towerexact_copyRow r w K := by kernel_rfl
theorem T.CO273 : CallOk Tryz.prog T.C273 := CallOk.nil
def T.c273 (vs : List Value) (w : World) (K : Value → World → Prop) : Prop :=
  match vs with
  | [.slice ra rl rc] => S.towerexact_copyRow ⟨ra, rl, rc⟩ w (fun r0 w' => K (.slice r0.a r0.l r0.c) w')
  | _ => False
theorem T.ok273 : ∀ vs w K, T.c273 vs w K → (callFunc 273 vs.toArray).run Tryz.prog w = .ok (.enter 273 vs.toArray) w ∧ Calls Tryz.prog 273 vs.toArray w fun e w' => ∃ v, e = .returned v ∧ K v w' := by
  intro vs w K h
  unfold T.c273 at h
  split at h
  · refine ⟨Tryz.call273 _ _, ok_of T.CO273 mixed Tryz.func273 (T.eq273 _ _ _) h fun v w' hk => ⟨v, rfl, ?_⟩⟩
    split at hk
    · exact hk
    · exact hk.elim
  · exact h.elim

/-- (*e2e/towerexact.World).keepRow (function 212). -/
def S.towerexact_World_keepRow (w_ : Nat) (r : Sl) (w : World) (K : World → Prop) : Prop :=
  CutS 3 r 0 (r.c : Int) (r.c : Int) fun l1 =>
  LdS w ⟨w_, 2, none⟩ fun cells_2 =>
  New w (.cells #[.slice l1.a l1.l l1.c] 61) fun p3 w =>
  AppS 61 [.slice none 0 0] 24 1 w cells_2 ⟨some ⟨p3, 0, none⟩, 1, 1⟩ fun l4 w =>
  St1 w ⟨w_, 2, none⟩ (.slice l4.a l4.l l4.c) fun w =>
  Drew w fun w =>
  Hold w ⟨w_, 3, none⟩ 1 fun R5 =>
  LdS w ⟨w_, 3, none⟩ fun wants_6 =>
  S.towerexact_copyRow l1 w (fun r7 w =>
  After R5 w <|
  New w (.cells #[.slice r7.a r7.l r7.c] 61) fun p8 w =>
  After R5 w <|
  AppS 61 [.slice none 0 0] 24 1 w wants_6 ⟨some ⟨p8, 0, none⟩, 1, 1⟩ fun l9 w =>
  St1 w ⟨w_, 3, none⟩ (.slice l9.a l9.l l9.c) fun w =>
  K w)
def T.C212 : CallT := (CallT.cons 273 T.c273 CallT.nil)
def T.A212 : Ann := fun _ => none
set_option maxRecDepth 1000000 in
theorem T.eq212 (w_ : Nat) (r : Sl) (w : World) (K : World → Prop) : denF Tryz.prog T.C212 T.A212 Tryz.f212 [.pointer (some ⟨w_, 0, none⟩), .slice r.a r.l r.c] w (fun v w' => match v with | .tuple ⟨[]⟩ => K w' | _ => False) = S.towerexact_World_keepRow w_ r w K := by kernel_rfl
theorem T.CO212 : CallOk Tryz.prog T.C212 := (CallOk.cons 273 T.ok273 CallOk.nil)
def T.c212 (vs : List Value) (w : World) (K : Value → World → Prop) : Prop :=
  match vs with
  | [.pointer (some ⟨w_, 0, none⟩), .slice ra rl rc] => S.towerexact_World_keepRow w_ ⟨ra, rl, rc⟩ w (fun w' => K (.tuple #[]) w')
  | _ => False
theorem T.ok212 : ∀ vs w K, T.c212 vs w K → (callFunc 212 vs.toArray).run Tryz.prog w = .ok (.enter 212 vs.toArray) w ∧ Calls Tryz.prog 212 vs.toArray w fun e w' => ∃ v, e = .returned v ∧ K v w' := by
  intro vs w K h
  unfold T.c212 at h
  split at h
  · refine ⟨Tryz.call212 _ _, ok_of T.CO212 mixed Tryz.func212 (T.eq212 _ _ _ _) h fun v w' hk => ⟨v, rfl, ?_⟩⟩
    split at hk
    · exact hk
    · exact hk.elim
  · exact h.elim

/-- (*e2e/towerexact.World).owner (function 117). -/
def S.towerexact_World_owner (w_ : Nat) (o_Kind : Int) (o_A : Int) (o_B : Int) (o_C : Int) (o_S : ByteArray) (o_T : ByteArray) (w : World) (K : Bool → World → Prop) : Prop :=
  New w (.cells #[.int .i64 o_Kind, .int .i64 o_A, .int .i64 o_B, .int .i64 o_C, .string o_S, .string o_T] 105) fun p1 w =>
  LdI .i64 w ⟨p1, 0, none⟩ fun Kind_2 =>
  Join (fun (j_3 : Bool) (w : World) =>
    if j_3 = true then
      Drew w fun w =>
      Hold w ⟨w_, 0, none⟩ 1 fun R4 =>
      LdS w ⟨w_, 0, none⟩ fun b_5 =>
      LdI .i64 w ⟨p1, 0, none⟩ fun Kind_6 =>
      S.towerexact_fresh (Kind_6 == 20) w (fun box_7 d_8 x_9 m_10 mb_11 w =>
      After R4 w <|
      New w (.cells #[.bool box_7, .pointer (some ⟨d_8, 0, none⟩), .pointer (some ⟨x_9, 0, none⟩), .pointer (some ⟨m_10, 0, none⟩), .pointer (some ⟨mb_11, 0, none⟩)] 29) fun p12 w =>
      After R4 w <|
      AppS 29 [.bool false, .pointer none, .pointer none, .pointer none, .pointer none] 40 5 w b_5 ⟨some ⟨p12, 0, none⟩, 1, 1⟩ fun l13 w =>
      St1 w ⟨w_, 0, none⟩ (.slice l13.a l13.l l13.c) fun w =>
      K true w)
    else
      if (Kind_2 == 10) = true then
        LdI .i64 w ⟨p1, 1, none⟩ fun A_14 =>
        St1 w ⟨w_, 6, none⟩ (.int .i64 A_14) fun w =>
        LdI .i64 w ⟨p1, 2, none⟩ fun B_15 =>
        St1 w ⟨w_, 7, none⟩ (.bool (B_15 != 0)) fun w =>
        K true w
      else
        if (Kind_2 == 11) = true then
          LdS w ⟨w_, 2, none⟩ fun cells_16 =>
          if (decide ((cells_16.l : Int) > 0)) = true then
            Drew w fun w =>
            LdI .i64 w ⟨p1, 1, none⟩ fun A_17 =>
            LdS w ⟨w_, 2, none⟩ fun cells_18 =>
            S.towerexact_pick A_17 (cells_18.l : Int) w (fun r19 w =>
            LdS w ⟨w_, 2, none⟩ fun cells_20 =>
            Ix cells_20.a cells_20.l r19 fun b21 o22 =>
            LdS w ⟨b21, o22 + Int.toNat r19 * 1, none⟩ fun x_23 =>
            if (decide ((x_23.l : Int) > 0)) = true then
              Drew w fun w =>
              LdI .i64 w ⟨p1, 3, none⟩ fun C_24 =>
              LdS w ⟨w_, 2, none⟩ fun cells_25 =>
              Ix cells_25.a cells_25.l r19 fun b26 o27 =>
              LdS w ⟨b26, o27 + Int.toNat r19 * 1, none⟩ fun x_28 =>
              S.towerexact_pick C_24 (x_28.l : Int) w (fun r29 w =>
              Drew w fun w =>
              Hold w ⟨w_, 7, none⟩ 1 fun R30 =>
              LdB w ⟨w_, 7, none⟩ fun flag_31 =>
              Hold w ⟨w_, 6, none⟩ 1 fun R32 =>
              LdI .i64 w ⟨w_, 6, none⟩ fun reg_33 =>
              Hold w ⟨p1, 4, none⟩ 1 fun R34 =>
              LdStr w ⟨p1, 4, none⟩ fun S_35 =>
              New w (.cells #[.bool false, .int .i64 0, .string ⟨#[]⟩] 167) fun p36 w =>
              After R34 w <|
              After R32 w <|
              After R30 w <|
              St1 w ⟨p36, 0, none⟩ (.bool flag_31) fun w =>
              St1 w ⟨p36, 1, none⟩ (.int .i64 reg_33) fun w =>
              St1 w ⟨p36, 2, none⟩ (.string S_35) fun w =>
              Drew w fun w =>
              LdS w ⟨w_, 2, none⟩ fun cells_37 =>
              Ix cells_37.a cells_37.l r19 fun b38 o39 =>
              LdS w ⟨b38, o39 + Int.toNat r19 * 1, none⟩ fun x_40 =>
              LdB w ⟨p36, 0, none⟩ fun IsStr_41 =>
              LdI .i64 w ⟨p36, 1, none⟩ fun I_42 =>
              LdStr w ⟨p36, 2, none⟩ fun S_43 =>
              Ix x_40.a x_40.l r29 fun b44 o45 =>
              St1 w ⟨b44, o45 + Int.toNat r29 * 3, none⟩ (.bool IsStr_41) fun w =>
              St1 w ⟨b44, o45 + Int.toNat r29 * 3 + 1, none⟩ (.int .i64 I_42) fun w =>
              St1 w ⟨b44, o45 + Int.toNat r29 * 3 + 2, none⟩ (.string S_43) fun w =>
              Drew w fun w =>
              LdS w ⟨w_, 3, none⟩ fun wants_46 =>
              Ix wants_46.a wants_46.l r19 fun b47 o48 =>
              LdS w ⟨b47, o48 + Int.toNat r19 * 1, none⟩ fun x_49 =>
              LdB w ⟨p36, 0, none⟩ fun IsStr_50 =>
              LdI .i64 w ⟨p36, 1, none⟩ fun I_51 =>
              LdStr w ⟨p36, 2, none⟩ fun S_52 =>
              Ix x_49.a x_49.l r29 fun b53 o54 =>
              St1 w ⟨b53, o54 + Int.toNat r29 * 3, none⟩ (.bool IsStr_50) fun w =>
              St1 w ⟨b53, o54 + Int.toNat r29 * 3 + 1, none⟩ (.int .i64 I_51) fun w =>
              St1 w ⟨b53, o54 + Int.toNat r29 * 3 + 2, none⟩ (.string S_52) fun w =>
              K true w)
            else
              K true w)
          else
            K true w
        else
          if (Kind_2 == 15) = true then
            LdS w ⟨w_, 1, none⟩ fun rs_55 =>
            if (decide ((rs_55.l : Int) > 0)) = true then
              Join (fun (l_56 : Nat) (w : World) =>
                LdS w ⟨l_56, 0, none⟩ fun real_57 =>
                if (decide ((real_57.l : Int) > 0)) = true then
                  LdI .i64 w ⟨p1, 2, none⟩ fun B_58 =>
                  LdS w ⟨l_56, 0, none⟩ fun real_59 =>
                  S.towerexact_pick B_58 (real_59.l : Int) w (fun r60 w =>
                  LdS w ⟨l_56, 0, none⟩ fun real_61 =>
                  Ix real_61.a real_61.l r60 fun b62 o63 =>
                  St1 w ⟨b62, o63 + Int.toNat r60 * 1, none⟩ (.slice none 0 0) fun w =>
                  LdS w ⟨l_56, 1, none⟩ fun want_64 =>
                  Ix want_64.a want_64.l r60 fun b65 o66 =>
                  St1 w ⟨b65, o66 + Int.toNat r60 * 1, none⟩ (.int .i64 (-1)) fun w =>
                  LdS w ⟨l_56, 2, none⟩ fun n_67 =>
                  Ix n_67.a n_67.l r60 fun b68 o69 =>
                  St1 w ⟨b68, o69 + Int.toNat r60 * 1, none⟩ (.int .i64 0) fun w =>
                  K true w)
                else
                  K true w) fun J70 =>
              Drew w fun w =>
              Hold w ⟨w_, 1, none⟩ 1 fun R71 =>
              LdS w ⟨w_, 1, none⟩ fun rs_72 =>
              Hold w ⟨p1, 1, none⟩ 1 fun R73 =>
              LdI .i64 w ⟨p1, 1, none⟩ fun A_74 =>
              Hold w ⟨w_, 1, none⟩ 1 fun R75 =>
              LdS w ⟨w_, 1, none⟩ fun rs_76 =>
              (S.towerexact_pick A_74 (rs_76.l : Int) w (fun r77 w =>
              After R71 w <|
              Ix rs_72.a rs_72.l r77 fun b78 o79 =>
              Hold w ⟨b78, o79 + Int.toNat r77 * 3, none⟩ 3 fun R80 =>
              LdS w ⟨b78, o79 + Int.toNat r77 * 3, none⟩ fun real_81 =>
              LdS w ⟨b78, o79 + Int.toNat r77 * 3 + 1, none⟩ fun want_82 =>
              LdS w ⟨b78, o79 + Int.toNat r77 * 3 + 2, none⟩ fun n_83 =>
              New w (.cells #[.slice none 0 0, .slice none 0 0, .slice none 0 0] 196) fun p84 w =>
              After R80 w <|
              After R75 w <|
              After R73 w <|
              After R71 w <|
              St1 w ⟨p84, 0, none⟩ (.slice real_81.a real_81.l real_81.c) fun w =>
              St1 w ⟨p84, 1, none⟩ (.slice want_82.a want_82.l want_82.c) fun w =>
              St1 w ⟨p84, 2, none⟩ (.slice n_83.a n_83.l n_83.c) fun w =>
              J70 p84 w)) ∧
              (New w (.cells #[.slice none 0 0, .slice none 0 0, .slice none 0 0] 196) fun p85 w =>
              After R75 w <|
              After R73 w <|
              After R71 w <|
              S.towerexact_pick A_74 (rs_76.l : Int) w (fun r86 w =>
              After R71 w <|
              Ix rs_72.a rs_72.l r86 fun b87 o88 =>
              LdS w ⟨b87, o88 + Int.toNat r86 * 3, none⟩ fun real_89 =>
              LdS w ⟨b87, o88 + Int.toNat r86 * 3 + 1, none⟩ fun want_90 =>
              LdS w ⟨b87, o88 + Int.toNat r86 * 3 + 2, none⟩ fun n_91 =>
              St1 w ⟨p85, 0, none⟩ (.slice real_89.a real_89.l real_89.c) fun w =>
              St1 w ⟨p85, 1, none⟩ (.slice want_90.a want_90.l want_90.c) fun w =>
              St1 w ⟨p85, 2, none⟩ (.slice n_91.a n_91.l n_91.c) fun w =>
              J70 p85 w))
            else
              K true w
          else
            if (Kind_2 == 17) = true then
              LdS w ⟨w_, 1, none⟩ fun rs_92 =>
              if (decide ((rs_92.l : Int) > 0)) = true then
                Join (fun (l_93 : Nat) (w : World) =>
                  LdS w ⟨l_93, 0, none⟩ fun real_94 =>
                  if (decide ((real_94.l : Int) > 0)) = true then
                    LdI .i64 w ⟨p1, 2, none⟩ fun B_95 =>
                    LdS w ⟨l_93, 0, none⟩ fun real_96 =>
                    S.towerexact_pick B_95 (real_96.l : Int) w (fun r97 w =>
                    LdStr w ⟨p1, 4, none⟩ fun S_98 =>
                    MkS 167 [.bool false, .int .i64 0, .string ⟨#[]⟩] 32 w (S_98.size : Int) (S_98.size : Int) fun l99 w =>
                    Join (fun (w : World) =>
                      LdS w ⟨l_93, 0, none⟩ fun real_100 =>
                      Ix real_100.a real_100.l r97 fun b101 o102 =>
                      St1 w ⟨b101, o102 + Int.toNat r97 * 1, none⟩ (.slice l99.a l99.l l99.c) fun w =>
                      Drew w fun w =>
                      LdS w ⟨l_93, 1, none⟩ fun want_103 =>
                      LdS w ⟨w_, 2, none⟩ fun cells_104 =>
                      Ix want_103.a want_103.l r97 fun b105 o106 =>
                      St1 w ⟨b105, o106 + Int.toNat r97 * 1, none⟩ (.int .i64 (cells_104.l : Int)) fun w =>
                      LdS w ⟨l_93, 2, none⟩ fun n_107 =>
                      Ix n_107.a n_107.l r97 fun b108 o109 =>
                      St1 w ⟨b108, o109 + Int.toNat r97 * 1, none⟩ (.int .i64 (l99.l : Int)) fun w =>
                      S.towerexact_World_keepRow w_ l99 w (fun w =>
                      K true w)) fun J110 =>
                    LoopP (σ := Int × Unit) (fun st111 w next112 =>
                      if (decide (st111.1 < (l99.l : Int))) = true then
                        Drew w fun w =>
                        LdB w ⟨w_, 7, none⟩ fun flag_113 =>
                        LdI .i64 w ⟨w_, 6, none⟩ fun reg_114 =>
                        LdStr w ⟨p1, 4, none⟩ fun S_115 =>
                        CutStr S_115 st111.1 (W (st111.1 + 1)) fun s116 =>
                        Ix l99.a l99.l st111.1 fun b117 o118 =>
                        St1 w ⟨b117, o118 + Int.toNat st111.1 * 3, none⟩ (.bool flag_113) fun w =>
                        St1 w ⟨b117, o118 + Int.toNat st111.1 * 3 + 1, none⟩ (.int .i64 reg_114) fun w =>
                        St1 w ⟨b117, o118 + Int.toNat st111.1 * 3 + 2, none⟩ (.string s116) fun w =>
                        Let (W (st111.1 + 1)) fun k_119 =>
                        next112 (k_119, ()) w
                      else
                        J110 w) (0, ()) w)
                  else
                    K true w) fun J120 =>
                Drew w fun w =>
                Hold w ⟨w_, 1, none⟩ 1 fun R121 =>
                LdS w ⟨w_, 1, none⟩ fun rs_122 =>
                Hold w ⟨p1, 1, none⟩ 1 fun R123 =>
                LdI .i64 w ⟨p1, 1, none⟩ fun A_124 =>
                Hold w ⟨w_, 1, none⟩ 1 fun R125 =>
                LdS w ⟨w_, 1, none⟩ fun rs_126 =>
                (S.towerexact_pick A_124 (rs_126.l : Int) w (fun r127 w =>
                After R121 w <|
                Ix rs_122.a rs_122.l r127 fun b128 o129 =>
                Hold w ⟨b128, o129 + Int.toNat r127 * 3, none⟩ 3 fun R130 =>
                LdS w ⟨b128, o129 + Int.toNat r127 * 3, none⟩ fun real_131 =>
                LdS w ⟨b128, o129 + Int.toNat r127 * 3 + 1, none⟩ fun want_132 =>
                LdS w ⟨b128, o129 + Int.toNat r127 * 3 + 2, none⟩ fun n_133 =>
                New w (.cells #[.slice none 0 0, .slice none 0 0, .slice none 0 0] 196) fun p134 w =>
                After R130 w <|
                After R125 w <|
                After R123 w <|
                After R121 w <|
                St1 w ⟨p134, 0, none⟩ (.slice real_131.a real_131.l real_131.c) fun w =>
                St1 w ⟨p134, 1, none⟩ (.slice want_132.a want_132.l want_132.c) fun w =>
                St1 w ⟨p134, 2, none⟩ (.slice n_133.a n_133.l n_133.c) fun w =>
                J120 p134 w)) ∧
                (New w (.cells #[.slice none 0 0, .slice none 0 0, .slice none 0 0] 196) fun p135 w =>
                After R125 w <|
                After R123 w <|
                After R121 w <|
                S.towerexact_pick A_124 (rs_126.l : Int) w (fun r136 w =>
                After R121 w <|
                Ix rs_122.a rs_122.l r136 fun b137 o138 =>
                LdS w ⟨b137, o138 + Int.toNat r136 * 3, none⟩ fun real_139 =>
                LdS w ⟨b137, o138 + Int.toNat r136 * 3 + 1, none⟩ fun want_140 =>
                LdS w ⟨b137, o138 + Int.toNat r136 * 3 + 2, none⟩ fun n_141 =>
                St1 w ⟨p135, 0, none⟩ (.slice real_139.a real_139.l real_139.c) fun w =>
                St1 w ⟨p135, 1, none⟩ (.slice want_140.a want_140.l want_140.c) fun w =>
                St1 w ⟨p135, 2, none⟩ (.slice n_141.a n_141.l n_141.c) fun w =>
                J120 p135 w))
              else
                K true w
            else
              if (Kind_2 == 19) = true then
                LdS w ⟨w_, 1, none⟩ fun rs_142 =>
                if (decide ((rs_142.l : Int) > 0)) = true then
                  Join (fun (l_143 : Nat) (w : World) =>
                    Join (fun (q_144 : Nat) (w : World) =>
                      LdS w ⟨l_143, 0, none⟩ fun real_145 =>
                      if (decide ((real_145.l : Int) > 0)) = true then
                        LdS w ⟨q_144, 0, none⟩ fun real_146 =>
                        if (decide ((real_146.l : Int) > 0)) = true then
                          LdI .i64 w ⟨p1, 2, none⟩ fun B_147 =>
                          LdS w ⟨l_143, 0, none⟩ fun real_148 =>
                          S.towerexact_pick B_147 (real_148.l : Int) w (fun r149 w =>
                          LdI .i64 w ⟨p1, 3, none⟩ fun C_150 =>
                          LdS w ⟨q_144, 0, none⟩ fun real_151 =>
                          S.towerexact_pick C_150 (real_151.l : Int) w (fun r152 w =>
                          Drew w fun w =>
                          LdS w ⟨l_143, 0, none⟩ fun real_153 =>
                          LdS w ⟨q_144, 0, none⟩ fun real_154 =>
                          Ix real_154.a real_154.l r152 fun b155 o156 =>
                          LdS w ⟨b155, o156 + Int.toNat r152 * 1, none⟩ fun x_157 =>
                          Ix real_153.a real_153.l r149 fun b158 o159 =>
                          St1 w ⟨b158, o159 + Int.toNat r149 * 1, none⟩ (.slice x_157.a x_157.l x_157.c) fun w =>
                          Drew w fun w =>
                          LdS w ⟨l_143, 1, none⟩ fun want_160 =>
                          LdS w ⟨q_144, 1, none⟩ fun want_161 =>
                          Ix want_161.a want_161.l r152 fun b162 o163 =>
                          LdI .i64 w ⟨b162, o163 + Int.toNat r152 * 1, none⟩ fun x_164 =>
                          Ix want_160.a want_160.l r149 fun b165 o166 =>
                          St1 w ⟨b165, o166 + Int.toNat r149 * 1, none⟩ (.int .i64 x_164) fun w =>
                          Drew w fun w =>
                          LdS w ⟨l_143, 2, none⟩ fun n_167 =>
                          LdS w ⟨q_144, 2, none⟩ fun n_168 =>
                          Ix n_168.a n_168.l r152 fun b169 o170 =>
                          LdI .i64 w ⟨b169, o170 + Int.toNat r152 * 1, none⟩ fun x_171 =>
                          Ix n_167.a n_167.l r149 fun b172 o173 =>
                          St1 w ⟨b172, o173 + Int.toNat r149 * 1, none⟩ (.int .i64 x_171) fun w =>
                          K true w))
                        else
                          K true w
                      else
                        K true w) fun J174 =>
                    Drew w fun w =>
                    Hold w ⟨w_, 1, none⟩ 1 fun R175 =>
                    LdS w ⟨w_, 1, none⟩ fun rs_176 =>
                    Hold w ⟨w_, 6, none⟩ 1 fun R177 =>
                    LdI .i64 w ⟨w_, 6, none⟩ fun reg_178 =>
                    Hold w ⟨w_, 1, none⟩ 1 fun R179 =>
                    LdS w ⟨w_, 1, none⟩ fun rs_180 =>
                    (S.towerexact_pick reg_178 (rs_180.l : Int) w (fun r181 w =>
                    After R175 w <|
                    Ix rs_176.a rs_176.l r181 fun b182 o183 =>
                    Hold w ⟨b182, o183 + Int.toNat r181 * 3, none⟩ 3 fun R184 =>
                    LdS w ⟨b182, o183 + Int.toNat r181 * 3, none⟩ fun real_185 =>
                    LdS w ⟨b182, o183 + Int.toNat r181 * 3 + 1, none⟩ fun want_186 =>
                    LdS w ⟨b182, o183 + Int.toNat r181 * 3 + 2, none⟩ fun n_187 =>
                    New w (.cells #[.slice none 0 0, .slice none 0 0, .slice none 0 0] 196) fun p188 w =>
                    After R184 w <|
                    After R179 w <|
                    After R177 w <|
                    After R175 w <|
                    St1 w ⟨p188, 0, none⟩ (.slice real_185.a real_185.l real_185.c) fun w =>
                    St1 w ⟨p188, 1, none⟩ (.slice want_186.a want_186.l want_186.c) fun w =>
                    St1 w ⟨p188, 2, none⟩ (.slice n_187.a n_187.l n_187.c) fun w =>
                    J174 p188 w)) ∧
                    (New w (.cells #[.slice none 0 0, .slice none 0 0, .slice none 0 0] 196) fun p189 w =>
                    After R179 w <|
                    After R177 w <|
                    After R175 w <|
                    S.towerexact_pick reg_178 (rs_180.l : Int) w (fun r190 w =>
                    After R175 w <|
                    Ix rs_176.a rs_176.l r190 fun b191 o192 =>
                    LdS w ⟨b191, o192 + Int.toNat r190 * 3, none⟩ fun real_193 =>
                    LdS w ⟨b191, o192 + Int.toNat r190 * 3 + 1, none⟩ fun want_194 =>
                    LdS w ⟨b191, o192 + Int.toNat r190 * 3 + 2, none⟩ fun n_195 =>
                    St1 w ⟨p189, 0, none⟩ (.slice real_193.a real_193.l real_193.c) fun w =>
                    St1 w ⟨p189, 1, none⟩ (.slice want_194.a want_194.l want_194.c) fun w =>
                    St1 w ⟨p189, 2, none⟩ (.slice n_195.a n_195.l n_195.c) fun w =>
                    J174 p189 w))) fun J196 =>
                  Drew w fun w =>
                  Hold w ⟨w_, 1, none⟩ 1 fun R197 =>
                  LdS w ⟨w_, 1, none⟩ fun rs_198 =>
                  Hold w ⟨p1, 1, none⟩ 1 fun R199 =>
                  LdI .i64 w ⟨p1, 1, none⟩ fun A_200 =>
                  Hold w ⟨w_, 1, none⟩ 1 fun R201 =>
                  LdS w ⟨w_, 1, none⟩ fun rs_202 =>
                  (S.towerexact_pick A_200 (rs_202.l : Int) w (fun r203 w =>
                  After R197 w <|
                  Ix rs_198.a rs_198.l r203 fun b204 o205 =>
                  Hold w ⟨b204, o205 + Int.toNat r203 * 3, none⟩ 3 fun R206 =>
                  LdS w ⟨b204, o205 + Int.toNat r203 * 3, none⟩ fun real_207 =>
                  LdS w ⟨b204, o205 + Int.toNat r203 * 3 + 1, none⟩ fun want_208 =>
                  LdS w ⟨b204, o205 + Int.toNat r203 * 3 + 2, none⟩ fun n_209 =>
                  New w (.cells #[.slice none 0 0, .slice none 0 0, .slice none 0 0] 196) fun p210 w =>
                  After R206 w <|
                  After R201 w <|
                  After R199 w <|
                  After R197 w <|
                  St1 w ⟨p210, 0, none⟩ (.slice real_207.a real_207.l real_207.c) fun w =>
                  St1 w ⟨p210, 1, none⟩ (.slice want_208.a want_208.l want_208.c) fun w =>
                  St1 w ⟨p210, 2, none⟩ (.slice n_209.a n_209.l n_209.c) fun w =>
                  J196 p210 w)) ∧
                  (New w (.cells #[.slice none 0 0, .slice none 0 0, .slice none 0 0] 196) fun p211 w =>
                  After R201 w <|
                  After R199 w <|
                  After R197 w <|
                  S.towerexact_pick A_200 (rs_202.l : Int) w (fun r212 w =>
                  After R197 w <|
                  Ix rs_198.a rs_198.l r212 fun b213 o214 =>
                  LdS w ⟨b213, o214 + Int.toNat r212 * 3, none⟩ fun real_215 =>
                  LdS w ⟨b213, o214 + Int.toNat r212 * 3 + 1, none⟩ fun want_216 =>
                  LdS w ⟨b213, o214 + Int.toNat r212 * 3 + 2, none⟩ fun n_217 =>
                  St1 w ⟨p211, 0, none⟩ (.slice real_215.a real_215.l real_215.c) fun w =>
                  St1 w ⟨p211, 1, none⟩ (.slice want_216.a want_216.l want_216.c) fun w =>
                  St1 w ⟨p211, 2, none⟩ (.slice n_217.a n_217.l n_217.c) fun w =>
                  J196 p211 w))
                else
                  K true w
              else
                if (Kind_2 == 18) = true then
                  LdS w ⟨w_, 1, none⟩ fun rs_218 =>
                  if (decide ((rs_218.l : Int) > 0)) = true then
                    Join (fun (l_219 : Nat) (w : World) =>
                      LdS w ⟨l_219, 0, none⟩ fun real_220 =>
                      if (decide ((real_220.l : Int) > 0)) = true then
                        LdI .i64 w ⟨p1, 2, none⟩ fun B_221 =>
                        LdS w ⟨l_219, 0, none⟩ fun real_222 =>
                        S.towerexact_pick B_221 (real_222.l : Int) w (fun r223 w =>
                        Drew w fun w =>
                        LdI .i64 w ⟨p1, 3, none⟩ fun C_224 =>
                        LdS w ⟨l_219, 0, none⟩ fun real_225 =>
                        Ix real_225.a real_225.l r223 fun b226 o227 =>
                        LdS w ⟨b226, o227 + Int.toNat r223 * 1, none⟩ fun x_228 =>
                        S.towerexact_pick C_224 (W ((x_228.l : Int) + 1)) w (fun r229 w =>
                        Drew w fun w =>
                        LdS w ⟨l_219, 0, none⟩ fun real_230 =>
                        LdS w ⟨l_219, 0, none⟩ fun real_231 =>
                        Ix real_231.a real_231.l r223 fun b232 o233 =>
                        LdS w ⟨b232, o233 + Int.toNat r223 * 1, none⟩ fun x_234 =>
                        CutS 3 x_234 0 r229 (x_234.c : Int) fun l235 =>
                        Ix real_230.a real_230.l r223 fun b236 o237 =>
                        St1 w ⟨b236, o237 + Int.toNat r223 * 1, none⟩ (.slice l235.a l235.l l235.c) fun w =>
                        LdS w ⟨l_219, 2, none⟩ fun n_238 =>
                        Ix n_238.a n_238.l r223 fun b239 o240 =>
                        St1 w ⟨b239, o240 + Int.toNat r223 * 1, none⟩ (.int .i64 r229) fun w =>
                        K true w))
                      else
                        K true w) fun J241 =>
                    Drew w fun w =>
                    Hold w ⟨w_, 1, none⟩ 1 fun R242 =>
                    LdS w ⟨w_, 1, none⟩ fun rs_243 =>
                    Hold w ⟨p1, 1, none⟩ 1 fun R244 =>
                    LdI .i64 w ⟨p1, 1, none⟩ fun A_245 =>
                    Hold w ⟨w_, 1, none⟩ 1 fun R246 =>
                    LdS w ⟨w_, 1, none⟩ fun rs_247 =>
                    (S.towerexact_pick A_245 (rs_247.l : Int) w (fun r248 w =>
                    After R242 w <|
                    Ix rs_243.a rs_243.l r248 fun b249 o250 =>
                    Hold w ⟨b249, o250 + Int.toNat r248 * 3, none⟩ 3 fun R251 =>
                    LdS w ⟨b249, o250 + Int.toNat r248 * 3, none⟩ fun real_252 =>
                    LdS w ⟨b249, o250 + Int.toNat r248 * 3 + 1, none⟩ fun want_253 =>
                    LdS w ⟨b249, o250 + Int.toNat r248 * 3 + 2, none⟩ fun n_254 =>
                    New w (.cells #[.slice none 0 0, .slice none 0 0, .slice none 0 0] 196) fun p255 w =>
                    After R251 w <|
                    After R246 w <|
                    After R244 w <|
                    After R242 w <|
                    St1 w ⟨p255, 0, none⟩ (.slice real_252.a real_252.l real_252.c) fun w =>
                    St1 w ⟨p255, 1, none⟩ (.slice want_253.a want_253.l want_253.c) fun w =>
                    St1 w ⟨p255, 2, none⟩ (.slice n_254.a n_254.l n_254.c) fun w =>
                    J241 p255 w)) ∧
                    (New w (.cells #[.slice none 0 0, .slice none 0 0, .slice none 0 0] 196) fun p256 w =>
                    After R246 w <|
                    After R244 w <|
                    After R242 w <|
                    S.towerexact_pick A_245 (rs_247.l : Int) w (fun r257 w =>
                    After R242 w <|
                    Ix rs_243.a rs_243.l r257 fun b258 o259 =>
                    LdS w ⟨b258, o259 + Int.toNat r257 * 3, none⟩ fun real_260 =>
                    LdS w ⟨b258, o259 + Int.toNat r257 * 3 + 1, none⟩ fun want_261 =>
                    LdS w ⟨b258, o259 + Int.toNat r257 * 3 + 2, none⟩ fun n_262 =>
                    St1 w ⟨p256, 0, none⟩ (.slice real_260.a real_260.l real_260.c) fun w =>
                    St1 w ⟨p256, 1, none⟩ (.slice want_261.a want_261.l want_261.c) fun w =>
                    St1 w ⟨p256, 2, none⟩ (.slice n_262.a n_262.l n_262.c) fun w =>
                    J241 p256 w))
                  else
                    K true w
                else
                  if (Kind_2 == 16) = true then
                    LdS w ⟨w_, 1, none⟩ fun rs_263 =>
                    if (decide ((rs_263.l : Int) > 0)) = true then
                      Join (fun (l_264 : Nat) (w : World) =>
                        LdS w ⟨l_264, 0, none⟩ fun real_265 =>
                        if (decide ((real_265.l : Int) > 0)) = true then
                          LdI .i64 w ⟨p1, 2, none⟩ fun B_266 =>
                          LdS w ⟨l_264, 0, none⟩ fun real_267 =>
                          S.towerexact_pick B_266 (real_267.l : Int) w (fun r268 w =>
                          LdI .i64 w ⟨p1, 3, none⟩ fun C_269 =>
                          LdS w ⟨l_264, 0, none⟩ fun real_270 =>
                          S.towerexact_pick C_269 (real_270.l : Int) w (fun r271 w =>
                          Drew w fun w =>
                          LdS w ⟨l_264, 0, none⟩ fun real_272 =>
                          Hold w ⟨l_264, 0, none⟩ 1 fun R273 =>
                          LdS w ⟨l_264, 0, none⟩ fun real_274 =>
                          LdS w ⟨l_264, 0, none⟩ fun real_275 =>
                          Ix real_275.a real_275.l r271 fun b276 o277 =>
                          LdS w ⟨b276, o277 + Int.toNat r271 * 1, none⟩ fun x_278 =>
                          LdS w ⟨l_264, 0, none⟩ fun real_279 =>
                          Ix real_279.a real_279.l r268 fun b280 o281 =>
                          LdS w ⟨b280, o281 + Int.toNat r268 * 1, none⟩ fun x_282 =>
                          Ix real_272.a real_272.l r268 fun b283 o284 =>
                          St1 w ⟨b283, o284 + Int.toNat r268 * 1, none⟩ (.slice x_278.a x_278.l x_278.c) fun w =>
                          After R273 w <|
                          Ix real_274.a real_274.l r271 fun b285 o286 =>
                          St1 w ⟨b285, o286 + Int.toNat r271 * 1, none⟩ (.slice x_282.a x_282.l x_282.c) fun w =>
                          Drew w fun w =>
                          LdS w ⟨l_264, 1, none⟩ fun want_287 =>
                          Hold w ⟨l_264, 1, none⟩ 1 fun R288 =>
                          LdS w ⟨l_264, 1, none⟩ fun want_289 =>
                          LdS w ⟨l_264, 1, none⟩ fun want_290 =>
                          Ix want_290.a want_290.l r271 fun b291 o292 =>
                          LdI .i64 w ⟨b291, o292 + Int.toNat r271 * 1, none⟩ fun x_293 =>
                          LdS w ⟨l_264, 1, none⟩ fun want_294 =>
                          Ix want_294.a want_294.l r268 fun b295 o296 =>
                          LdI .i64 w ⟨b295, o296 + Int.toNat r268 * 1, none⟩ fun x_297 =>
                          Ix want_287.a want_287.l r268 fun b298 o299 =>
                          St1 w ⟨b298, o299 + Int.toNat r268 * 1, none⟩ (.int .i64 x_293) fun w =>
                          After R288 w <|
                          Ix want_289.a want_289.l r271 fun b300 o301 =>
                          St1 w ⟨b300, o301 + Int.toNat r271 * 1, none⟩ (.int .i64 x_297) fun w =>
                          Drew w fun w =>
                          LdS w ⟨l_264, 2, none⟩ fun n_302 =>
                          Hold w ⟨l_264, 2, none⟩ 1 fun R303 =>
                          LdS w ⟨l_264, 2, none⟩ fun n_304 =>
                          LdS w ⟨l_264, 2, none⟩ fun n_305 =>
                          Ix n_305.a n_305.l r271 fun b306 o307 =>
                          LdI .i64 w ⟨b306, o307 + Int.toNat r271 * 1, none⟩ fun x_308 =>
                          LdS w ⟨l_264, 2, none⟩ fun n_309 =>
                          Ix n_309.a n_309.l r268 fun b310 o311 =>
                          LdI .i64 w ⟨b310, o311 + Int.toNat r268 * 1, none⟩ fun x_312 =>
                          Ix n_302.a n_302.l r268 fun b313 o314 =>
                          St1 w ⟨b313, o314 + Int.toNat r268 * 1, none⟩ (.int .i64 x_308) fun w =>
                          After R303 w <|
                          Ix n_304.a n_304.l r271 fun b315 o316 =>
                          St1 w ⟨b315, o316 + Int.toNat r271 * 1, none⟩ (.int .i64 x_312) fun w =>
                          K true w))
                        else
                          K true w) fun J317 =>
                      Drew w fun w =>
                      Hold w ⟨w_, 1, none⟩ 1 fun R318 =>
                      LdS w ⟨w_, 1, none⟩ fun rs_319 =>
                      Hold w ⟨p1, 1, none⟩ 1 fun R320 =>
                      LdI .i64 w ⟨p1, 1, none⟩ fun A_321 =>
                      Hold w ⟨w_, 1, none⟩ 1 fun R322 =>
                      LdS w ⟨w_, 1, none⟩ fun rs_323 =>
                      (S.towerexact_pick A_321 (rs_323.l : Int) w (fun r324 w =>
                      After R318 w <|
                      Ix rs_319.a rs_319.l r324 fun b325 o326 =>
                      Hold w ⟨b325, o326 + Int.toNat r324 * 3, none⟩ 3 fun R327 =>
                      LdS w ⟨b325, o326 + Int.toNat r324 * 3, none⟩ fun real_328 =>
                      LdS w ⟨b325, o326 + Int.toNat r324 * 3 + 1, none⟩ fun want_329 =>
                      LdS w ⟨b325, o326 + Int.toNat r324 * 3 + 2, none⟩ fun n_330 =>
                      New w (.cells #[.slice none 0 0, .slice none 0 0, .slice none 0 0] 196) fun p331 w =>
                      After R327 w <|
                      After R322 w <|
                      After R320 w <|
                      After R318 w <|
                      St1 w ⟨p331, 0, none⟩ (.slice real_328.a real_328.l real_328.c) fun w =>
                      St1 w ⟨p331, 1, none⟩ (.slice want_329.a want_329.l want_329.c) fun w =>
                      St1 w ⟨p331, 2, none⟩ (.slice n_330.a n_330.l n_330.c) fun w =>
                      J317 p331 w)) ∧
                      (New w (.cells #[.slice none 0 0, .slice none 0 0, .slice none 0 0] 196) fun p332 w =>
                      After R322 w <|
                      After R320 w <|
                      After R318 w <|
                      S.towerexact_pick A_321 (rs_323.l : Int) w (fun r333 w =>
                      After R318 w <|
                      Ix rs_319.a rs_319.l r333 fun b334 o335 =>
                      LdS w ⟨b334, o335 + Int.toNat r333 * 3, none⟩ fun real_336 =>
                      LdS w ⟨b334, o335 + Int.toNat r333 * 3 + 1, none⟩ fun want_337 =>
                      LdS w ⟨b334, o335 + Int.toNat r333 * 3 + 2, none⟩ fun n_338 =>
                      St1 w ⟨p332, 0, none⟩ (.slice real_336.a real_336.l real_336.c) fun w =>
                      St1 w ⟨p332, 1, none⟩ (.slice want_337.a want_337.l want_337.c) fun w =>
                      St1 w ⟨p332, 2, none⟩ (.slice n_338.a n_338.l n_338.c) fun w =>
                      J317 p332 w))
                    else
                      K true w
                  else
                    if (Kind_2 == 12) = true then
                      LdS w ⟨w_, 4, none⟩ fun ns_339 =>
                      if (decide ((ns_339.l : Int) > 0)) = true then
                        Join (fun (l_340 : Nat) (w : World) =>
                          LdS w ⟨l_340, 0, none⟩ fun real_341 =>
                          if (decide ((real_341.l : Int) > 0)) = true then
                            LdI .i64 w ⟨p1, 2, none⟩ fun B_342 =>
                            LdS w ⟨l_340, 0, none⟩ fun real_343 =>
                            S.towerexact_pick B_342 (real_343.l : Int) w (fun r344 w =>
                            LdS w ⟨l_340, 0, none⟩ fun real_345 =>
                            LdStr w ⟨p1, 4, none⟩ fun S_346 =>
                            Ix real_345.a real_345.l r344 fun b347 o348 =>
                            St1 w ⟨b347, o348 + Int.toNat r344 * 1, none⟩ (.string S_346) fun w =>
                            LdS w ⟨l_340, 1, none⟩ fun want_349 =>
                            LdStr w ⟨p1, 4, none⟩ fun S_350 =>
                            Ix want_349.a want_349.l r344 fun b351 o352 =>
                            St1 w ⟨b351, o352 + Int.toNat r344 * 1, none⟩ (.string S_350) fun w =>
                            K true w)
                          else
                            K true w) fun J353 =>
                        Drew w fun w =>
                        Hold w ⟨w_, 4, none⟩ 1 fun R354 =>
                        LdS w ⟨w_, 4, none⟩ fun ns_355 =>
                        Hold w ⟨p1, 1, none⟩ 1 fun R356 =>
                        LdI .i64 w ⟨p1, 1, none⟩ fun A_357 =>
                        Hold w ⟨w_, 4, none⟩ 1 fun R358 =>
                        LdS w ⟨w_, 4, none⟩ fun ns_359 =>
                        (S.towerexact_pick A_357 (ns_359.l : Int) w (fun r360 w =>
                        After R354 w <|
                        Ix ns_355.a ns_355.l r360 fun b361 o362 =>
                        Hold w ⟨b361, o362 + Int.toNat r360 * 2, none⟩ 2 fun R363 =>
                        LdS w ⟨b361, o362 + Int.toNat r360 * 2, none⟩ fun real_364 =>
                        LdS w ⟨b361, o362 + Int.toNat r360 * 2 + 1, none⟩ fun want_365 =>
                        New w (.cells #[.slice none 0 0, .slice none 0 0] 198) fun p366 w =>
                        After R363 w <|
                        After R358 w <|
                        After R356 w <|
                        After R354 w <|
                        St1 w ⟨p366, 0, none⟩ (.slice real_364.a real_364.l real_364.c) fun w =>
                        St1 w ⟨p366, 1, none⟩ (.slice want_365.a want_365.l want_365.c) fun w =>
                        J353 p366 w)) ∧
                        (New w (.cells #[.slice none 0 0, .slice none 0 0] 198) fun p367 w =>
                        After R358 w <|
                        After R356 w <|
                        After R354 w <|
                        S.towerexact_pick A_357 (ns_359.l : Int) w (fun r368 w =>
                        After R354 w <|
                        Ix ns_355.a ns_355.l r368 fun b369 o370 =>
                        LdS w ⟨b369, o370 + Int.toNat r368 * 2, none⟩ fun real_371 =>
                        LdS w ⟨b369, o370 + Int.toNat r368 * 2 + 1, none⟩ fun want_372 =>
                        St1 w ⟨p367, 0, none⟩ (.slice real_371.a real_371.l real_371.c) fun w =>
                        St1 w ⟨p367, 1, none⟩ (.slice want_372.a want_372.l want_372.c) fun w =>
                        J353 p367 w))
                      else
                        K true w
                    else
                      if (Kind_2 == 13) = true then
                        LdS w ⟨w_, 5, none⟩ fun cs_373 =>
                        if (decide ((cs_373.l : Int) > 0)) = true then
                          Join (fun (l_374 : Nat) (w : World) =>
                            LdS w ⟨l_374, 0, none⟩ fun real_375 =>
                            if (decide ((real_375.l : Int) > 0)) = true then
                              LdI .i64 w ⟨p1, 2, none⟩ fun B_376 =>
                              LdS w ⟨l_374, 0, none⟩ fun real_377 =>
                              S.towerexact_pick B_376 (real_377.l : Int) w (fun r378 w =>
                              LdS w ⟨l_374, 0, none⟩ fun real_379 =>
                              LdStr w ⟨p1, 4, none⟩ fun S_380 =>
                              LdI .i64 w ⟨p1, 3, none⟩ fun C_381 =>
                              Ix real_379.a real_379.l r378 fun b382 o383 =>
                              St1 w ⟨b382, o383 + Int.toNat r378 * 2, none⟩ (.string S_380) fun w =>
                              St1 w ⟨b382, o383 + Int.toNat r378 * 2 + 1, none⟩ (.bool (C_381 == 0)) fun w =>
                              LdS w ⟨l_374, 1, none⟩ fun want_384 =>
                              LdStr w ⟨p1, 4, none⟩ fun S_385 =>
                              LdI .i64 w ⟨p1, 3, none⟩ fun C_386 =>
                              Ix want_384.a want_384.l r378 fun b387 o388 =>
                              St1 w ⟨b387, o388 + Int.toNat r378 * 2, none⟩ (.string S_385) fun w =>
                              St1 w ⟨b387, o388 + Int.toNat r378 * 2 + 1, none⟩ (.bool (C_386 == 0)) fun w =>
                              K true w)
                            else
                              K true w) fun J389 =>
                          Drew w fun w =>
                          Hold w ⟨w_, 5, none⟩ 1 fun R390 =>
                          LdS w ⟨w_, 5, none⟩ fun cs_391 =>
                          Hold w ⟨p1, 1, none⟩ 1 fun R392 =>
                          LdI .i64 w ⟨p1, 1, none⟩ fun A_393 =>
                          Hold w ⟨w_, 5, none⟩ 1 fun R394 =>
                          LdS w ⟨w_, 5, none⟩ fun cs_395 =>
                          (S.towerexact_pick A_393 (cs_395.l : Int) w (fun r396 w =>
                          After R390 w <|
                          Ix cs_391.a cs_391.l r396 fun b397 o398 =>
                          Hold w ⟨b397, o398 + Int.toNat r396 * 2, none⟩ 2 fun R399 =>
                          LdS w ⟨b397, o398 + Int.toNat r396 * 2, none⟩ fun real_400 =>
                          LdS w ⟨b397, o398 + Int.toNat r396 * 2 + 1, none⟩ fun want_401 =>
                          New w (.cells #[.slice none 0 0, .slice none 0 0] 201) fun p402 w =>
                          After R399 w <|
                          After R394 w <|
                          After R392 w <|
                          After R390 w <|
                          St1 w ⟨p402, 0, none⟩ (.slice real_400.a real_400.l real_400.c) fun w =>
                          St1 w ⟨p402, 1, none⟩ (.slice want_401.a want_401.l want_401.c) fun w =>
                          J389 p402 w)) ∧
                          (New w (.cells #[.slice none 0 0, .slice none 0 0] 201) fun p403 w =>
                          After R394 w <|
                          After R392 w <|
                          After R390 w <|
                          S.towerexact_pick A_393 (cs_395.l : Int) w (fun r404 w =>
                          After R390 w <|
                          Ix cs_391.a cs_391.l r404 fun b405 o406 =>
                          LdS w ⟨b405, o406 + Int.toNat r404 * 2, none⟩ fun real_407 =>
                          LdS w ⟨b405, o406 + Int.toNat r404 * 2 + 1, none⟩ fun want_408 =>
                          St1 w ⟨p403, 0, none⟩ (.slice real_407.a real_407.l real_407.c) fun w =>
                          St1 w ⟨p403, 1, none⟩ (.slice want_408.a want_408.l want_408.c) fun w =>
                          J389 p403 w))
                        else
                          K true w
                      else
                        K false w) fun J409 =>
  if (Kind_2 == 1) = true then
    J409 (Kind_2 == 1) w
  else
    J409 (Kind_2 == 20) w
def T.C117 : CallT := (CallT.cons 6 T.c6 (CallT.cons 118 T.c118 (CallT.cons 212 T.c212 CallT.nil)))
def T.A117 : Ann := fun i => bif Nat.beq i 1000073 then some ([], [(0, 5), (3, 5), (29, 0)]) else bif Nat.beq i 1000066 then some ([], [(0, 5), (3, 5), (29, 0)]) else bif Nat.beq i 1000057 then some ([], [(0, 5), (3, 5), (29, 0)]) else bif Nat.beq i 1000049 then some ([], [(0, 5), (3, 5), (29, 0)]) else bif Nat.beq i 32 then some ([0, 3, 10, 11, 12], [(13, 0)]) else bif Nat.beq i 1000039 then some ([], [(0, 5), (3, 5), (29, 0)]) else bif Nat.beq i 1000025 then some ([], [(0, 5), (3, 5), (29, 0)]) else bif Nat.beq i 1000017 then some ([], [(0, 5), (3, 5), (29, 0)]) else bif Nat.beq i 1000009 then some ([], [(0, 5), (3, 5), (29, 0)]) else bif Nat.beq i 1000006 then some ([], [(0, 5), (3, 5), (29, 0)]) else none
set_option maxRecDepth 1000000 in
theorem T.eq117 (w_ : Nat) (o_Kind : Int) (o_A : Int) (o_B : Int) (o_C : Int) (o_S : ByteArray) (o_T : ByteArray) (w : World) (K : Bool → World → Prop) : denF Tryz.prog T.C117 T.A117 Tryz.f117 [.pointer (some ⟨w_, 0, none⟩), .agg #[.int .i64 o_Kind, .int .i64 o_A, .int .i64 o_B, .int .i64 o_C, .string o_S, .string o_T]] w (fun v w' => match v with | .bool r0 => K r0 w' | _ => False) = S.towerexact_World_owner w_ o_Kind o_A o_B o_C o_S o_T w K := by kernel_rfl
theorem T.CO117 : CallOk Tryz.prog T.C117 := (CallOk.cons 6 T.ok6 (CallOk.cons 118 T.ok118 (CallOk.cons 212 T.ok212 CallOk.nil)))
def T.c117 (vs : List Value) (w : World) (K : Value → World → Prop) : Prop :=
  match vs with
  | [.pointer (some ⟨w_, 0, none⟩), .agg ⟨[.int .i64 o_Kind, .int .i64 o_A, .int .i64 o_B, .int .i64 o_C, .string o_S, .string o_T]⟩] => S.towerexact_World_owner w_ o_Kind o_A o_B o_C o_S o_T w (fun r0 w' => K (.bool r0) w')
  | _ => False
theorem T.ok117 : ∀ vs w K, T.c117 vs w K → (callFunc 117 vs.toArray).run Tryz.prog w = .ok (.enter 117 vs.toArray) w ∧ Calls Tryz.prog 117 vs.toArray w fun e w' => ∃ v, e = .returned v ∧ K v w' := by
  intro vs w K h
  unfold T.c117 at h
  split at h
  · refine ⟨Tryz.call117 _ _, ok_of T.CO117 mixed Tryz.func117 (T.eq117 _ _ _ _ _ _ _ _ _) h fun v w' hk => ⟨v, rfl, ?_⟩⟩
    split at hk
    · exact hk
    · exact hk.elim
  · exact h.elim

/-- (*e2e/towerexact.World).keepRows (function 119). -/
def S.towerexact_World_keepRows (w_ : Nat) (a : Sl) (w : World) (K : World → Prop) : Prop :=
  if (Option.isNone a.a) = true then
    K w
  else
    CutS 1 a 0 (a.c : Int) (a.c : Int) fun l1 =>
    Join (fun (ns_2 : Sl) (want_3 : Sl) (w : World) =>
      LdS w ⟨w_, 1, none⟩ fun rs_4 =>
      New w (.cells #[.slice l1.a l1.l l1.c, .slice want_3.a want_3.l want_3.c, .slice ns_2.a ns_2.l ns_2.c] 196) fun p5 w =>
      AppS 196 [.slice none 0 0, .slice none 0 0, .slice none 0 0] 72 3 w rs_4 ⟨some ⟨p5, 0, none⟩, 1, 1⟩ fun l6 w =>
      St1 w ⟨w_, 1, none⟩ (.slice l6.a l6.l l6.c) fun w =>
      K w) fun J7 =>
    LoopP (σ := Sl × Sl × Int × Unit) (fun st8 w next9 =>
      if (decide (st8.2.2.1 < (l1.l : Int))) = true then
        Ix l1.a l1.l st8.2.2.1 fun b10 o11 =>
        LdS w ⟨b10, o11 + Int.toNat st8.2.2.1 * 1, none⟩ fun rs_12 =>
        Join (fun (want_13 : Sl) (w : World) =>
          Ix l1.a l1.l st8.2.2.1 fun b14 o15 =>
          LdS w ⟨b14, o15 + Int.toNat st8.2.2.1 * 1, none⟩ fun x_16 =>
          New w (.cells #[.int .i64 (x_16.l : Int)] 3) fun p17 w =>
          AppS 3 [.int .i64 0] 8 1 w st8.1 ⟨some ⟨p17, 0, none⟩, 1, 1⟩ fun l18 w =>
          Let (W (st8.2.2.1 + 1)) fun i_19 =>
          next9 (l18, want_13, i_19, ()) w) fun J20 =>
        if (Option.isNone rs_12.a) = true then
          New w (.cells #[.int .i64 (-1)] 3) fun p21 w =>
          AppS 3 [.int .i64 0] 8 1 w st8.2.1 ⟨some ⟨p21, 0, none⟩, 1, 1⟩ fun l22 w =>
          J20 l22 w
        else
          LdS w ⟨w_, 2, none⟩ fun cells_23 =>
          New w (.cells #[.int .i64 (cells_23.l : Int)] 3) fun p24 w =>
          AppS 3 [.int .i64 0] 8 1 w st8.2.1 ⟨some ⟨p24, 0, none⟩, 1, 1⟩ fun l25 w =>
          Ix l1.a l1.l st8.2.2.1 fun b26 o27 =>
          LdS w ⟨b26, o27 + Int.toNat st8.2.2.1 * 1, none⟩ fun x_28 =>
          S.towerexact_World_keepRow w_ x_28 w (fun w =>
          J20 l25 w)
      else
        J7 st8.1 st8.2.1 w) (⟨none, 0, 0⟩, ⟨none, 0, 0⟩, 0, ()) w
def T.C119 : CallT := (CallT.cons 212 T.c212 CallT.nil)
def T.A119 : Ann := fun i => bif Nat.beq i 1000008 then some ([], [(0, 5), (4, 6), (5, 6), (6, 6), (7, 0)]) else bif Nat.beq i 4 then some ([0, 4], [(5, 6), (6, 6), (7, 0)]) else none
set_option maxRecDepth 1000000 in
theorem T.eq119 (w_ : Nat) (a : Sl) (w : World) (K : World → Prop) : denF Tryz.prog T.C119 T.A119 Tryz.f119 [.pointer (some ⟨w_, 0, none⟩), .slice a.a a.l a.c] w (fun v w' => match v with | .tuple ⟨[]⟩ => K w' | _ => False) = S.towerexact_World_keepRows w_ a w K := by kernel_rfl
theorem T.CO119 : CallOk Tryz.prog T.C119 := (CallOk.cons 212 T.ok212 CallOk.nil)
def T.c119 (vs : List Value) (w : World) (K : Value → World → Prop) : Prop :=
  match vs with
  | [.pointer (some ⟨w_, 0, none⟩), .slice aa al ac] => S.towerexact_World_keepRows w_ ⟨aa, al, ac⟩ w (fun w' => K (.tuple #[]) w')
  | _ => False
theorem T.ok119 : ∀ vs w K, T.c119 vs w K → (callFunc 119 vs.toArray).run Tryz.prog w = .ok (.enter 119 vs.toArray) w ∧ Calls Tryz.prog 119 vs.toArray w fun e w' => ∃ v, e = .returned v ∧ K v w' := by
  intro vs w K h
  unfold T.c119 at h
  split at h
  · refine ⟨Tryz.call119 _ _, ok_of T.CO119 mixed Tryz.func119 (T.eq119 _ _ _ _) h fun v w' hk => ⟨v, rfl, ?_⟩⟩
    split at hk
    · exact hk
    · exact hk.elim
  · exact h.elim

/-- (*e2e/towerexact.World).keepNames (function 120). -/
def S.towerexact_World_keepNames (w_ : Nat) (a : Sl) (w : World) (K : World → Prop) : Prop :=
  if (!(Option.isNone a.a)) = true then
    CutS 1 a 0 (a.c : Int) (a.c : Int) fun l1 =>
    MkS 9 [.string ⟨#[]⟩] 16 w (l1.l : Int) (l1.l : Int) fun l2 w =>
    CopyS 1 w l2 l1 fun n3 w =>
    LdS w ⟨w_, 4, none⟩ fun ns_4 =>
    New w (.cells #[.slice l1.a l1.l l1.c, .slice l2.a l2.l l2.c] 198) fun p5 w =>
    AppS 198 [.slice none 0 0, .slice none 0 0] 48 2 w ns_4 ⟨some ⟨p5, 0, none⟩, 1, 1⟩ fun l6 w =>
    St1 w ⟨w_, 4, none⟩ (.slice l6.a l6.l l6.c) fun w =>
    K w
  else
    K w
def T.C120 : CallT := CallT.nil
def T.A120 : Ann := fun _ => none
set_option maxRecDepth 1000000 in
theorem T.eq120 (w_ : Nat) (a : Sl) (w : World) (K : World → Prop) : denF Tryz.prog T.C120 T.A120 Tryz.f120 [.pointer (some ⟨w_, 0, none⟩), .slice a.a a.l a.c] w (fun v w' => match v with | .tuple ⟨[]⟩ => K w' | _ => False) = S.towerexact_World_keepNames w_ a w K := by kernel_rfl
theorem T.CO120 : CallOk Tryz.prog T.C120 := CallOk.nil
def T.c120 (vs : List Value) (w : World) (K : Value → World → Prop) : Prop :=
  match vs with
  | [.pointer (some ⟨w_, 0, none⟩), .slice aa al ac] => S.towerexact_World_keepNames w_ ⟨aa, al, ac⟩ w (fun w' => K (.tuple #[]) w')
  | _ => False
theorem T.ok120 : ∀ vs w K, T.c120 vs w K → (callFunc 120 vs.toArray).run Tryz.prog w = .ok (.enter 120 vs.toArray) w ∧ Calls Tryz.prog 120 vs.toArray w fun e w' => ∃ v, e = .returned v ∧ K v w' := by
  intro vs w K h
  unfold T.c120 at h
  split at h
  · refine ⟨Tryz.call120 _ _, ok_of T.CO120 mixed Tryz.func120 (T.eq120 _ _ _ _) h fun v w' hk => ⟨v, rfl, ?_⟩⟩
    split at hk
    · exact hk
    · exact hk.elim
  · exact h.elim

/-- (*e2e/towerexact.World).keepCols (function 128). -/
def S.towerexact_World_keepCols (w_ : Nat) (a : Sl) (w : World) (K : World → Prop) : Prop :=
  if (!(Option.isNone a.a)) = true then
    CutS 2 a 0 (a.c : Int) (a.c : Int) fun l1 =>
    MkS 149 [.string ⟨#[]⟩, .bool false] 24 w (l1.l : Int) (l1.l : Int) fun l2 w =>
    CopyS 2 w l2 l1 fun n3 w =>
    LdS w ⟨w_, 5, none⟩ fun cs_4 =>
    New w (.cells #[.slice l1.a l1.l l1.c, .slice l2.a l2.l l2.c] 201) fun p5 w =>
    AppS 201 [.slice none 0 0, .slice none 0 0] 48 2 w cs_4 ⟨some ⟨p5, 0, none⟩, 1, 1⟩ fun l6 w =>
    St1 w ⟨w_, 5, none⟩ (.slice l6.a l6.l l6.c) fun w =>
    K w
  else
    K w
def T.C128 : CallT := CallT.nil
def T.A128 : Ann := fun _ => none
set_option maxRecDepth 1000000 in
theorem T.eq128 (w_ : Nat) (a : Sl) (w : World) (K : World → Prop) : denF Tryz.prog T.C128 T.A128 Tryz.f128 [.pointer (some ⟨w_, 0, none⟩), .slice a.a a.l a.c] w (fun v w' => match v with | .tuple ⟨[]⟩ => K w' | _ => False) = S.towerexact_World_keepCols w_ a w K := by kernel_rfl
theorem T.CO128 : CallOk Tryz.prog T.C128 := CallOk.nil
def T.c128 (vs : List Value) (w : World) (K : Value → World → Prop) : Prop :=
  match vs with
  | [.pointer (some ⟨w_, 0, none⟩), .slice aa al ac] => S.towerexact_World_keepCols w_ ⟨aa, al, ac⟩ w (fun w' => K (.tuple #[]) w')
  | _ => False
theorem T.ok128 : ∀ vs w K, T.c128 vs w K → (callFunc 128 vs.toArray).run Tryz.prog w = .ok (.enter 128 vs.toArray) w ∧ Calls Tryz.prog 128 vs.toArray w fun e w' => ∃ v, e = .returned v ∧ K v w' := by
  intro vs w K h
  unfold T.c128 at h
  split at h
  · refine ⟨Tryz.call128 _ _, ok_of T.CO128 mixed Tryz.func128 (T.eq128 _ _ _ _) h fun v w' hk => ⟨v, rfl, ?_⟩⟩
    split at hk
    · exact hk
    · exact hk.elim
  · exact h.elim

/-- e2e/towerexact.sameNames (function 129). -/
def S.towerexact_sameNames (a : Sl) (b : Sl) (w : World) (K : Bool → World → Prop) : Prop :=
  if ((a.l : Int) != (b.l : Int)) = true then
    K false w
  else
    LoopP (σ := Int × Unit) (fun st1 w next2 =>
      if (decide (st1.1 < (a.l : Int))) = true then
        Drew w fun w =>
        Ix a.a a.l st1.1 fun b3 o4 =>
        LdStr w ⟨b3, o4 + Int.toNat st1.1 * 1, none⟩ fun x_5 =>
        Ix b.a b.l st1.1 fun b6 o7 =>
        LdStr w ⟨b6, o7 + Int.toNat st1.1 * 1, none⟩ fun x_8 =>
        if (!(x_5.toList == x_8.toList)) = true then
          K false w
        else
          Let (W (st1.1 + 1)) fun i_9 =>
          next2 (i_9, ()) w
      else
        K true w) (0, ()) w
def T.C129 : CallT := CallT.nil
def T.A129 : Ann := fun i => bif Nat.beq i 4 then some ([0, 1], [(5, 0)]) else none
set_option maxRecDepth 1000000 in
theorem T.eq129 (a : Sl) (b : Sl) (w : World) (K : Bool → World → Prop) : denF Tryz.prog T.C129 T.A129 Tryz.f129 [.slice a.a a.l a.c, .slice b.a b.l b.c] w (fun v w' => match v with | .bool r0 => K r0 w' | _ => False) = S.towerexact_sameNames a b w K := by kernel_rfl
theorem T.CO129 : CallOk Tryz.prog T.C129 := CallOk.nil
def T.c129 (vs : List Value) (w : World) (K : Value → World → Prop) : Prop :=
  match vs with
  | [.slice aa al ac, .slice ba bl bc] => S.towerexact_sameNames ⟨aa, al, ac⟩ ⟨ba, bl, bc⟩ w (fun r0 w' => K (.bool r0) w')
  | _ => False
theorem T.ok129 : ∀ vs w K, T.c129 vs w K → (callFunc 129 vs.toArray).run Tryz.prog w = .ok (.enter 129 vs.toArray) w ∧ Calls Tryz.prog 129 vs.toArray w fun e w' => ∃ v, e = .returned v ∧ K v w' := by
  intro vs w K h
  unfold T.c129 at h
  split at h
  · refine ⟨Tryz.call129 _ _, ok_of T.CO129 mixed Tryz.func129 (T.eq129 _ _ _ _) h fun v w' hk => ⟨v, rfl, ?_⟩⟩
    split at hk
    · exact hk
    · exact hk.elim
  · exact h.elim

/-- (*e2e/query.Engine).Check (function 130). -/
def S.query_Engine_Check (q : Nat) (w : World) (K : Bool → World → Prop) : Prop :=
  LdI .i64 w ⟨q, 1, none⟩ fun last_1 =>
  if (decide (last_1 ≥ 0)) = true then
    LdI .i64 w ⟨q, 1, none⟩ fun last_2 =>
    K (decide (last_2 ≤ 4)) w
  else
    K false w
def T.C130 : CallT := CallT.nil
def T.A130 : Ann := fun _ => none
set_option maxRecDepth 1000000 in
theorem T.eq130 (q : Nat) (w : World) (K : Bool → World → Prop) : denF Tryz.prog T.C130 T.A130 Tryz.f130 [.pointer (some ⟨q, 0, none⟩)] w (fun v w' => match v with | .bool r0 => K r0 w' | _ => False) = S.query_Engine_Check q w K := by kernel_rfl
theorem T.CO130 : CallOk Tryz.prog T.C130 := CallOk.nil
def T.c130 (vs : List Value) (w : World) (K : Value → World → Prop) : Prop :=
  match vs with
  | [.pointer (some ⟨q, 0, none⟩)] => S.query_Engine_Check q w (fun r0 w' => K (.bool r0) w')
  | _ => False
theorem T.ok130 : ∀ vs w K, T.c130 vs w K → (callFunc 130 vs.toArray).run Tryz.prog w = .ok (.enter 130 vs.toArray) w ∧ Calls Tryz.prog 130 vs.toArray w fun e w' => ∃ v, e = .returned v ∧ K v w' := by
  intro vs w K h
  unfold T.c130 at h
  split at h
  · refine ⟨Tryz.call130 _ _, ok_of T.CO130 mixed Tryz.func130 (T.eq130 _ _ _) h fun v w' hk => ⟨v, rfl, ?_⟩⟩
    split at hk
    · exact hk
    · exact hk.elim
  · exact h.elim

/-- (*e2e/query.Engine).LastPlan (function 131). -/
def S.query_Engine_LastPlan (q : Nat) (w : World) (K : Int → World → Prop) : Prop :=
  LdI .i64 w ⟨q, 1, none⟩ fun last_1 =>
  K last_1 w
def T.C131 : CallT := CallT.nil
def T.A131 : Ann := fun _ => none
set_option maxRecDepth 1000000 in
theorem T.eq131 (q : Nat) (w : World) (K : Int → World → Prop) : denF Tryz.prog T.C131 T.A131 Tryz.f131 [.pointer (some ⟨q, 0, none⟩)] w (fun v w' => match v with | .int .i64 r0 => K r0 w' | _ => False) = S.query_Engine_LastPlan q w K := by kernel_rfl
theorem T.CO131 : CallOk Tryz.prog T.C131 := CallOk.nil
def T.c131 (vs : List Value) (w : World) (K : Value → World → Prop) : Prop :=
  match vs with
  | [.pointer (some ⟨q, 0, none⟩)] => S.query_Engine_LastPlan q w (fun r0 w' => K (.int .i64 r0) w')
  | _ => False
theorem T.ok131 : ∀ vs w K, T.c131 vs w K → (callFunc 131 vs.toArray).run Tryz.prog w = .ok (.enter 131 vs.toArray) w ∧ Calls Tryz.prog 131 vs.toArray w fun e w' => ∃ v, e = .returned v ∧ K v w' := by
  intro vs w K h
  unfold T.c131 at h
  split at h
  · refine ⟨Tryz.call131 _ _, ok_of T.CO131 mixed Tryz.func131 (T.eq131 _ _ _) h fun v w' hk => ⟨v, rfl, ?_⟩⟩
    split at hk
    · exact hk
    · exact hk.elim
  · exact h.elim

/-- (*e2e/towerexact.World).step (function 54). -/
def S.towerexact_World_step (w_ : Nat) (o_Kind : Int) (o_A : Int) (o_B : Int) (o_C : Int) (o_S : ByteArray) (o_T : ByteArray) (w : World) (K : Bool → World → Prop) : Prop :=
  New w (.cells #[.int .i64 o_Kind, .int .i64 o_A, .int .i64 o_B, .int .i64 o_C, .string o_S, .string o_T] 105) fun p1 w =>
  LdI .i64 w ⟨p1, 0, none⟩ fun Kind_2 =>
  LdI .i64 w ⟨p1, 1, none⟩ fun A_3 =>
  LdI .i64 w ⟨p1, 2, none⟩ fun B_4 =>
  LdI .i64 w ⟨p1, 3, none⟩ fun C_5 =>
  LdStr w ⟨p1, 4, none⟩ fun S_6 =>
  LdStr w ⟨p1, 5, none⟩ fun T_7 =>
  S.towerexact_World_owner w_ Kind_2 A_3 B_4 C_5 S_6 T_7 w (fun r8 w =>
  if r8 = true then
    K true w
  else
    LdS w ⟨w_, 0, none⟩ fun b_9 =>
    if ((b_9.l : Int) == 0) = true then
      K true w
    else
      Drew w fun w =>
      Hold w ⟨w_, 0, none⟩ 1 fun R10 =>
      LdS w ⟨w_, 0, none⟩ fun b_11 =>
      LdI .i64 w ⟨p1, 1, none⟩ fun A_12 =>
      LdS w ⟨w_, 0, none⟩ fun b_13 =>
      S.towerexact_pick A_12 (b_13.l : Int) w (fun r14 w =>
      After R10 w <|
      Ix b_11.a b_11.l r14 fun b15 o16 =>
      LdI .i64 w ⟨p1, 0, none⟩ fun Kind_17 =>
      if (Kind_17 == 9) = true then
        LdI .i64 w ⟨p1, 2, none⟩ fun B_18 =>
        S.towerexact_base_cut b15 (o16 + Int.toNat r14 * 5) B_18 w (fun r19 w =>
        K r19 w)
      else
        LdP w ⟨b15, o16 + Int.toNat r14 * 5 + 1, none⟩ fun d_20 =>
        S.towerlaw_Mark d_20 w (fun w =>
        LdP w ⟨b15, o16 + Int.toNat r14 * 5 + 3, none⟩ fun m_21 =>
        S.querym_Engine_Clone m_21 w (fun r22 w =>
        St1 w ⟨b15, o16 + Int.toNat r14 * 5 + 4, none⟩ (.pointer (some ⟨r22, 0, none⟩)) fun w =>
        LdI .i64 w ⟨p1, 0, none⟩ fun Kind_23 =>
        if (Kind_23 == 2) = true then
          Join (fun (r_24 : Nat) (w : World) =>
            Join (fun (q_25 : Nat) (w : World) =>
              LdI .i64 w ⟨r_24, 0, none⟩ fun Err_26 =>
              LdI .i64 w ⟨r_24, 1, none⟩ fun N_27 =>
              LdS w ⟨r_24, 2, none⟩ fun Cols_28 =>
              LdS w ⟨r_24, 3, none⟩ fun Rows_29 =>
              LdI .i64 w ⟨q_25, 0, none⟩ fun Err_30 =>
              LdI .i64 w ⟨q_25, 1, none⟩ fun N_31 =>
              LdS w ⟨q_25, 2, none⟩ fun Cols_32 =>
              LdS w ⟨q_25, 3, none⟩ fun Rows_33 =>
              S.towerlaw_SameResult Err_26 N_27 Cols_28 Rows_29 Err_30 N_31 Cols_32 Rows_33 w (fun r34 w =>
              if (!r34) = true then
                K false w
              else
                LdS w ⟨r_24, 3, none⟩ fun Rows_35 =>
                S.towerexact_World_keepRows w_ Rows_35 w (fun w =>
                LdS w ⟨r_24, 2, none⟩ fun Cols_36 =>
                S.towerexact_World_keepNames w_ Cols_36 w (fun w =>
                K true w)))) fun J37 =>
            Drew w fun w =>
            Hold w ⟨b15, o16 + Int.toNat r14 * 5 + 3, none⟩ 1 fun R38 =>
            LdP w ⟨b15, o16 + Int.toNat r14 * 5 + 3, none⟩ fun m_39 =>
            Hold w ⟨p1, 2, none⟩ 1 fun R40 =>
            LdI .i64 w ⟨p1, 2, none⟩ fun B_41 =>
            Hold w ⟨p1, 4, none⟩ 1 fun R42 =>
            LdStr w ⟨p1, 4, none⟩ fun S_43 =>
            (S.querym_Engine_Exec m_39 B_41 S_43 w (fun Err_44 N_45 Cols_46 Rows_47 w =>
            New w (.cells #[.int .i64 0, .int .i64 0, .slice none 0 0, .slice none 0 0] 36) fun p48 w =>
            After R42 w <|
            After R40 w <|
            After R38 w <|
            St1 w ⟨p48, 0, none⟩ (.int .i64 Err_44) fun w =>
            St1 w ⟨p48, 1, none⟩ (.int .i64 N_45) fun w =>
            St1 w ⟨p48, 2, none⟩ (.slice Cols_46.a Cols_46.l Cols_46.c) fun w =>
            St1 w ⟨p48, 3, none⟩ (.slice Rows_47.a Rows_47.l Rows_47.c) fun w =>
            J37 p48 w)) ∧
            (New w (.cells #[.int .i64 0, .int .i64 0, .slice none 0 0, .slice none 0 0] 36) fun p49 w =>
            After R42 w <|
            After R40 w <|
            After R38 w <|
            S.querym_Engine_Exec m_39 B_41 S_43 w (fun Err_50 N_51 Cols_52 Rows_53 w =>
            St1 w ⟨p49, 0, none⟩ (.int .i64 Err_50) fun w =>
            St1 w ⟨p49, 1, none⟩ (.int .i64 N_51) fun w =>
            St1 w ⟨p49, 2, none⟩ (.slice Cols_52.a Cols_52.l Cols_52.c) fun w =>
            St1 w ⟨p49, 3, none⟩ (.slice Rows_53.a Rows_53.l Rows_53.c) fun w =>
            J37 p49 w))) fun J54 =>
          Drew w fun w =>
          Hold w ⟨b15, o16 + Int.toNat r14 * 5 + 2, none⟩ 1 fun R55 =>
          LdP w ⟨b15, o16 + Int.toNat r14 * 5 + 2, none⟩ fun x_56 =>
          Hold w ⟨p1, 2, none⟩ 1 fun R57 =>
          LdI .i64 w ⟨p1, 2, none⟩ fun B_58 =>
          Hold w ⟨p1, 4, none⟩ 1 fun R59 =>
          LdStr w ⟨p1, 4, none⟩ fun S_60 =>
          (S.query_Engine_Exec x_56 B_58 S_60 w (fun Err_61 N_62 Cols_63 Rows_64 w =>
          New w (.cells #[.int .i64 0, .int .i64 0, .slice none 0 0, .slice none 0 0] 36) fun p65 w =>
          After R59 w <|
          After R57 w <|
          After R55 w <|
          St1 w ⟨p65, 0, none⟩ (.int .i64 Err_61) fun w =>
          St1 w ⟨p65, 1, none⟩ (.int .i64 N_62) fun w =>
          St1 w ⟨p65, 2, none⟩ (.slice Cols_63.a Cols_63.l Cols_63.c) fun w =>
          St1 w ⟨p65, 3, none⟩ (.slice Rows_64.a Rows_64.l Rows_64.c) fun w =>
          J54 p65 w)) ∧
          (New w (.cells #[.int .i64 0, .int .i64 0, .slice none 0 0, .slice none 0 0] 36) fun p66 w =>
          After R59 w <|
          After R57 w <|
          After R55 w <|
          S.query_Engine_Exec x_56 B_58 S_60 w (fun Err_67 N_68 Cols_69 Rows_70 w =>
          St1 w ⟨p66, 0, none⟩ (.int .i64 Err_67) fun w =>
          St1 w ⟨p66, 1, none⟩ (.int .i64 N_68) fun w =>
          St1 w ⟨p66, 2, none⟩ (.slice Cols_69.a Cols_69.l Cols_69.c) fun w =>
          St1 w ⟨p66, 3, none⟩ (.slice Rows_70.a Rows_70.l Rows_70.c) fun w =>
          J54 p66 w))
        else
          if (Kind_23 == 3) = true then
            Drew w fun w =>
            LdP w ⟨b15, o16 + Int.toNat r14 * 5 + 2, none⟩ fun x_71 =>
            LdI .i64 w ⟨p1, 2, none⟩ fun B_72 =>
            S.query_Engine_Active x_71 B_72 w (fun r73 w =>
            Drew w fun w =>
            LdP w ⟨b15, o16 + Int.toNat r14 * 5 + 3, none⟩ fun m_74 =>
            LdI .i64 w ⟨p1, 2, none⟩ fun B_75 =>
            S.querym_Engine_Active m_74 B_75 w (fun r76 w =>
            K (r73 == r76) w))
          else
            if (Kind_23 == 4) = true then
              Drew w fun w =>
              LdP w ⟨b15, o16 + Int.toNat r14 * 5 + 2, none⟩ fun x_77 =>
              LdI .i64 w ⟨p1, 2, none⟩ fun B_78 =>
              LdStr w ⟨p1, 4, none⟩ fun S_79 =>
              S.query_Engine_LockOf x_77 B_78 S_79 w (fun r80 w =>
              Drew w fun w =>
              LdP w ⟨b15, o16 + Int.toNat r14 * 5 + 3, none⟩ fun m_81 =>
              LdI .i64 w ⟨p1, 2, none⟩ fun B_82 =>
              LdStr w ⟨p1, 4, none⟩ fun S_83 =>
              S.querym_Engine_LockOf m_81 B_82 S_83 w (fun r84 w =>
              K (r80 == r84) w))
            else
              if (Kind_23 == 5) = true then
                Drew w fun w =>
                LdP w ⟨b15, o16 + Int.toNat r14 * 5 + 2, none⟩ fun x_85 =>
                LdI .i64 w ⟨p1, 2, none⟩ fun B_86 =>
                LdStr w ⟨p1, 4, none⟩ fun S_87 =>
                S.query_Engine_View x_85 B_86 S_87 w (fun r88 r89 w =>
                Drew w fun w =>
                LdP w ⟨b15, o16 + Int.toNat r14 * 5 + 3, none⟩ fun m_90 =>
                LdI .i64 w ⟨p1, 2, none⟩ fun B_91 =>
                LdStr w ⟨p1, 4, none⟩ fun S_92 =>
                S.querym_Engine_View m_90 B_91 S_92 w (fun r93 r94 w =>
                if (r89 != r94) = true then
                  K false w
                else
                  S.towerlaw_SameRows r88 r93 w (fun r95 w =>
                  if (!r95) = true then
                    K false w
                  else
                    S.towerexact_World_keepRows w_ r88 w (fun w =>
                    K true w))))
              else
                if (Kind_23 == 6) = true then
                  Join (fun (s_96 : Nat) (e_97 : Int) (w : World) =>
                    Join (fun (t_98 : Nat) (f_99 : Int) (w : World) =>
                      if (e_97 != f_99) = true then
                        K false w
                      else
                        LdStr w ⟨s_96, 0, none⟩ fun Name_100 =>
                        LdS w ⟨s_96, 1, none⟩ fun Cols_101 =>
                        LdI .i64 w ⟨s_96, 2, none⟩ fun PK_102 =>
                        LdI .i64 w ⟨s_96, 3, none⟩ fun Index_103 =>
                        LdStr w ⟨t_98, 0, none⟩ fun Name_104 =>
                        LdS w ⟨t_98, 1, none⟩ fun Cols_105 =>
                        LdI .i64 w ⟨t_98, 2, none⟩ fun PK_106 =>
                        LdI .i64 w ⟨t_98, 3, none⟩ fun Index_107 =>
                        S.towerlaw_SameSchema Name_100 Cols_101 PK_102 Index_103 Name_104 Cols_105 PK_106 Index_107 w (fun r108 w =>
                        if (!r108) = true then
                          K false w
                        else
                          LdS w ⟨s_96, 1, none⟩ fun Cols_109 =>
                          S.towerexact_World_keepCols w_ Cols_109 w (fun w =>
                          K true w))) fun J110 =>
                    Drew w fun w =>
                    Hold w ⟨b15, o16 + Int.toNat r14 * 5 + 3, none⟩ 1 fun R111 =>
                    LdP w ⟨b15, o16 + Int.toNat r14 * 5 + 3, none⟩ fun m_112 =>
                    Hold w ⟨p1, 4, none⟩ 1 fun R113 =>
                    LdStr w ⟨p1, 4, none⟩ fun S_114 =>
                    (S.querym_Engine_SchemaOf m_112 S_114 w (fun Name_115 Cols_116 PK_117 Index_118 r119 w =>
                    New w (.cells #[.string ⟨#[]⟩, .slice none 0 0, .int .i64 0, .int .i64 0] 73) fun p120 w =>
                    After R113 w <|
                    After R111 w <|
                    St1 w ⟨p120, 0, none⟩ (.string Name_115) fun w =>
                    St1 w ⟨p120, 1, none⟩ (.slice Cols_116.a Cols_116.l Cols_116.c) fun w =>
                    St1 w ⟨p120, 2, none⟩ (.int .i64 PK_117) fun w =>
                    St1 w ⟨p120, 3, none⟩ (.int .i64 Index_118) fun w =>
                    J110 p120 r119 w)) ∧
                    (New w (.cells #[.string ⟨#[]⟩, .slice none 0 0, .int .i64 0, .int .i64 0] 73) fun p121 w =>
                    After R113 w <|
                    After R111 w <|
                    S.querym_Engine_SchemaOf m_112 S_114 w (fun Name_122 Cols_123 PK_124 Index_125 r126 w =>
                    St1 w ⟨p121, 0, none⟩ (.string Name_122) fun w =>
                    St1 w ⟨p121, 1, none⟩ (.slice Cols_123.a Cols_123.l Cols_123.c) fun w =>
                    St1 w ⟨p121, 2, none⟩ (.int .i64 PK_124) fun w =>
                    St1 w ⟨p121, 3, none⟩ (.int .i64 Index_125) fun w =>
                    J110 p121 r126 w))) fun J127 =>
                  Drew w fun w =>
                  Hold w ⟨b15, o16 + Int.toNat r14 * 5 + 2, none⟩ 1 fun R128 =>
                  LdP w ⟨b15, o16 + Int.toNat r14 * 5 + 2, none⟩ fun x_129 =>
                  Hold w ⟨p1, 4, none⟩ 1 fun R130 =>
                  LdStr w ⟨p1, 4, none⟩ fun S_131 =>
                  (S.query_Engine_SchemaOf x_129 S_131 w (fun Name_132 Cols_133 PK_134 Index_135 r136 w =>
                  New w (.cells #[.string ⟨#[]⟩, .slice none 0 0, .int .i64 0, .int .i64 0] 73) fun p137 w =>
                  After R130 w <|
                  After R128 w <|
                  St1 w ⟨p137, 0, none⟩ (.string Name_132) fun w =>
                  St1 w ⟨p137, 1, none⟩ (.slice Cols_133.a Cols_133.l Cols_133.c) fun w =>
                  St1 w ⟨p137, 2, none⟩ (.int .i64 PK_134) fun w =>
                  St1 w ⟨p137, 3, none⟩ (.int .i64 Index_135) fun w =>
                  J127 p137 r136 w)) ∧
                  (New w (.cells #[.string ⟨#[]⟩, .slice none 0 0, .int .i64 0, .int .i64 0] 73) fun p138 w =>
                  After R130 w <|
                  After R128 w <|
                  S.query_Engine_SchemaOf x_129 S_131 w (fun Name_139 Cols_140 PK_141 Index_142 r143 w =>
                  St1 w ⟨p138, 0, none⟩ (.string Name_139) fun w =>
                  St1 w ⟨p138, 1, none⟩ (.slice Cols_140.a Cols_140.l Cols_140.c) fun w =>
                  St1 w ⟨p138, 2, none⟩ (.int .i64 PK_141) fun w =>
                  St1 w ⟨p138, 3, none⟩ (.int .i64 Index_142) fun w =>
                  J127 p138 r143 w))
                else
                  if (Kind_23 == 7) = true then
                    LdP w ⟨b15, o16 + Int.toNat r14 * 5 + 2, none⟩ fun x_144 =>
                    S.query_Engine_Tables x_144 w (fun r145 w =>
                    LdP w ⟨b15, o16 + Int.toNat r14 * 5 + 3, none⟩ fun m_146 =>
                    S.querym_Engine_Tables m_146 w (fun r147 w =>
                    S.towerexact_sameNames r145 r147 w (fun r148 w =>
                    if (!r148) = true then
                      K false w
                    else
                      S.towerexact_World_keepNames w_ r145 w (fun w =>
                      K true w))))
                  else
                    if (Kind_23 == 8) = true then
                      LdP w ⟨b15, o16 + Int.toNat r14 * 5 + 2, none⟩ fun x_149 =>
                      S.query_Engine_Check x_149 w (fun r150 w =>
                      K r150 w)
                    else
                      if (Kind_23 == 14) = true then
                        LdP w ⟨b15, o16 + Int.toNat r14 * 5 + 2, none⟩ fun x_151 =>
                        S.query_Engine_LastPlan x_151 w (fun r152 w =>
                        LdP w ⟨b15, o16 + Int.toNat r14 * 5 + 2, none⟩ fun x_153 =>
                        S.query_Engine_LastPlan x_153 w (fun r154 w =>
                        K (r152 == r154) w))
                      else
                        K true w))))
def T.C54 : CallT := (CallT.cons 117 T.c117 (CallT.cons 118 T.c118 (CallT.cons 13 T.c13 (CallT.cons 7 T.c7 (CallT.cons 8 T.c8 (CallT.cons 11 T.c11 (CallT.cons 119 T.c119 (CallT.cons 120 T.c120 (CallT.cons 10 T.c10 (CallT.cons 9 T.c9 (CallT.cons 107 T.c107 (CallT.cons 108 T.c108 (CallT.cons 121 T.c121 (CallT.cons 122 T.c122 (CallT.cons 123 T.c123 (CallT.cons 124 T.c124 (CallT.cons 45 T.c45 (CallT.cons 127 T.c127 (CallT.cons 128 T.c128 (CallT.cons 126 T.c126 (CallT.cons 125 T.c125 (CallT.cons 105 T.c105 (CallT.cons 46 T.c46 (CallT.cons 129 T.c129 (CallT.cons 130 T.c130 (CallT.cons 131 T.c131 CallT.nil))))))))))))))))))))))))))
def T.A54 : Ann := fun _ => none
set_option maxRecDepth 1000000 in
theorem T.eq54 (w_ : Nat) (o_Kind : Int) (o_A : Int) (o_B : Int) (o_C : Int) (o_S : ByteArray) (o_T : ByteArray) (w : World) (K : Bool → World → Prop) : denF Tryz.prog T.C54 T.A54 Tryz.f54 [.pointer (some ⟨w_, 0, none⟩), .agg #[.int .i64 o_Kind, .int .i64 o_A, .int .i64 o_B, .int .i64 o_C, .string o_S, .string o_T]] w (fun v w' => match v with | .bool r0 => K r0 w' | _ => False) = S.towerexact_World_step w_ o_Kind o_A o_B o_C o_S o_T w K := by kernel_rfl
theorem T.CO54 : CallOk Tryz.prog T.C54 := (CallOk.cons 117 T.ok117 (CallOk.cons 118 T.ok118 (CallOk.cons 13 T.ok13 (CallOk.cons 7 T.ok7 (CallOk.cons 8 T.ok8 (CallOk.cons 11 T.ok11 (CallOk.cons 119 T.ok119 (CallOk.cons 120 T.ok120 (CallOk.cons 10 T.ok10 (CallOk.cons 9 T.ok9 (CallOk.cons 107 T.ok107 (CallOk.cons 108 T.ok108 (CallOk.cons 121 T.ok121 (CallOk.cons 122 T.ok122 (CallOk.cons 123 T.ok123 (CallOk.cons 124 T.ok124 (CallOk.cons 45 T.ok45 (CallOk.cons 127 T.ok127 (CallOk.cons 128 T.ok128 (CallOk.cons 126 T.ok126 (CallOk.cons 125 T.ok125 (CallOk.cons 105 T.ok105 (CallOk.cons 46 T.ok46 (CallOk.cons 129 T.ok129 (CallOk.cons 130 T.ok130 (CallOk.cons 131 T.ok131 CallOk.nil))))))))))))))))))))))))))
def T.c54 (vs : List Value) (w : World) (K : Value → World → Prop) : Prop :=
  match vs with
  | [.pointer (some ⟨w_, 0, none⟩), .agg ⟨[.int .i64 o_Kind, .int .i64 o_A, .int .i64 o_B, .int .i64 o_C, .string o_S, .string o_T]⟩] => S.towerexact_World_step w_ o_Kind o_A o_B o_C o_S o_T w (fun r0 w' => K (.bool r0) w')
  | _ => False
theorem T.ok54 : ∀ vs w K, T.c54 vs w K → (callFunc 54 vs.toArray).run Tryz.prog w = .ok (.enter 54 vs.toArray) w ∧ Calls Tryz.prog 54 vs.toArray w fun e w' => ∃ v, e = .returned v ∧ K v w' := by
  intro vs w K h
  unfold T.c54 at h
  split at h
  · refine ⟨Tryz.call54 _ _, ok_of T.CO54 mixed Tryz.func54 (T.eq54 _ _ _ _ _ _ _ _ _) h fun v w' hk => ⟨v, rfl, ?_⟩⟩
    split at hk
    · exact hk
    · exact hk.elim
  · exact h.elim

/-- e2e/towerexact.sameCols (function 133). -/
def S.towerexact_sameCols (a : Sl) (b : Sl) (w : World) (K : Bool → World → Prop) : Prop :=
  if ((a.l : Int) != (b.l : Int)) = true then
    K false w
  else
    LoopP (σ := Int × Unit) (fun st1 w next2 =>
      if (decide (st1.1 < (a.l : Int))) = true then
        Drew w fun w =>
        Ix a.a a.l st1.1 fun b3 o4 =>
        LdStr w ⟨b3, o4 + Int.toNat st1.1 * 2, none⟩ fun Name_5 =>
        LdB w ⟨b3, o4 + Int.toNat st1.1 * 2 + 1, none⟩ fun IsStr_6 =>
        Ix b.a b.l st1.1 fun b7 o8 =>
        LdStr w ⟨b7, o8 + Int.toNat st1.1 * 2, none⟩ fun Name_9 =>
        LdB w ⟨b7, o8 + Int.toNat st1.1 * 2 + 1, none⟩ fun IsStr_10 =>
        if (!(eqL [.string Name_5, .bool IsStr_6] [.string Name_9, .bool IsStr_10])) = true then
          K false w
        else
          Let (W (st1.1 + 1)) fun i_11 =>
          next2 (i_11, ()) w
      else
        K true w) (0, ()) w
def T.C133 : CallT := CallT.nil
def T.A133 : Ann := fun i => bif Nat.beq i 4 then some ([0, 1], [(5, 0)]) else none
set_option maxRecDepth 1000000 in
theorem T.eq133 (a : Sl) (b : Sl) (w : World) (K : Bool → World → Prop) : denF Tryz.prog T.C133 T.A133 Tryz.f133 [.slice a.a a.l a.c, .slice b.a b.l b.c] w (fun v w' => match v with | .bool r0 => K r0 w' | _ => False) = S.towerexact_sameCols a b w K := by kernel_rfl
theorem T.CO133 : CallOk Tryz.prog T.C133 := CallOk.nil
def T.c133 (vs : List Value) (w : World) (K : Value → World → Prop) : Prop :=
  match vs with
  | [.slice aa al ac, .slice ba bl bc] => S.towerexact_sameCols ⟨aa, al, ac⟩ ⟨ba, bl, bc⟩ w (fun r0 w' => K (.bool r0) w')
  | _ => False
theorem T.ok133 : ∀ vs w K, T.c133 vs w K → (callFunc 133 vs.toArray).run Tryz.prog w = .ok (.enter 133 vs.toArray) w ∧ Calls Tryz.prog 133 vs.toArray w fun e w' => ∃ v, e = .returned v ∧ K v w' := by
  intro vs w K h
  unfold T.c133 at h
  split at h
  · refine ⟨Tryz.call133 _ _, ok_of T.CO133 mixed Tryz.func133 (T.eq133 _ _ _ _) h fun v w' hk => ⟨v, rfl, ?_⟩⟩
    split at hk
    · exact hk
    · exact hk.elim
  · exact h.elim

/-- (*e2e/towerexact.World).stands (function 132). -/
def S.towerexact_World_stands (w_ : Nat) (r_real : Sl) (r_want : Sl) (r_n : Sl) (w : World) (K : Bool → World → Prop) : Prop :=
  New w (.cells #[.slice r_real.a r_real.l r_real.c, .slice r_want.a r_want.l r_want.c, .slice r_n.a r_n.l r_n.c] 196) fun p1 w =>
  LoopP (σ := Int × Unit) (fun st2 w next3 =>
    LdS w ⟨p1, 0, none⟩ fun real_4 =>
    if (decide (st2.1 < (real_4.l : Int))) = true then
      Join (fun (w : World) =>
        Let (W (st2.1 + 1)) fun i_5 =>
        next3 (i_5, ()) w) fun J6 =>
      LdS w ⟨p1, 1, none⟩ fun want_7 =>
      Ix want_7.a want_7.l st2.1 fun b8 o9 =>
      LdI .i64 w ⟨b8, o9 + Int.toNat st2.1 * 1, none⟩ fun x_10 =>
      if (decide (x_10 < 0)) = true then
        LdS w ⟨p1, 0, none⟩ fun real_11 =>
        Ix real_11.a real_11.l st2.1 fun b12 o13 =>
        LdS w ⟨b12, o13 + Int.toNat st2.1 * 1, none⟩ fun x_14 =>
        if (!(Option.isNone x_14.a)) = true then
          K false w
        else
          J6 w
      else
        Drew w fun w =>
        LdS w ⟨p1, 0, none⟩ fun real_15 =>
        Ix real_15.a real_15.l st2.1 fun b16 o17 =>
        LdS w ⟨b16, o17 + Int.toNat st2.1 * 1, none⟩ fun x_18 =>
        LdS w ⟨w_, 3, none⟩ fun wants_19 =>
        Ix wants_19.a wants_19.l x_10 fun b20 o21 =>
        LdS w ⟨b20, o21 + Int.toNat x_10 * 1, none⟩ fun x_22 =>
        LdS w ⟨p1, 2, none⟩ fun n_23 =>
        Ix n_23.a n_23.l st2.1 fun b24 o25 =>
        LdI .i64 w ⟨b24, o25 + Int.toNat st2.1 * 1, none⟩ fun x_26 =>
        CutS 3 x_22 0 x_26 (x_22.c : Int) fun l27 =>
        S.towerlaw_SameRow x_18 l27 w (fun r28 w =>
        if (!r28) = true then
          K false w
        else
          J6 w)
    else
      K true w) (0, ()) w
def T.C132 : CallT := (CallT.cons 103 T.c103 CallT.nil)
def T.A132 : Ann := fun i => bif Nat.beq i 1000008 then some ([], [(0, 5), (3, 5), (5, 0), (6, 0)]) else bif Nat.beq i 2 then some ([0, 3], [(5, 0)]) else none
set_option maxRecDepth 1000000 in
theorem T.eq132 (w_ : Nat) (r_real : Sl) (r_want : Sl) (r_n : Sl) (w : World) (K : Bool → World → Prop) : denF Tryz.prog T.C132 T.A132 Tryz.f132 [.pointer (some ⟨w_, 0, none⟩), .agg #[.slice r_real.a r_real.l r_real.c, .slice r_want.a r_want.l r_want.c, .slice r_n.a r_n.l r_n.c]] w (fun v w' => match v with | .bool r0 => K r0 w' | _ => False) = S.towerexact_World_stands w_ r_real r_want r_n w K := by kernel_rfl
theorem T.CO132 : CallOk Tryz.prog T.C132 := (CallOk.cons 103 T.ok103 CallOk.nil)
def T.c132 (vs : List Value) (w : World) (K : Value → World → Prop) : Prop :=
  match vs with
  | [.pointer (some ⟨w_, 0, none⟩), .agg ⟨[.slice r_reala r_reall r_realc, .slice r_wanta r_wantl r_wantc, .slice r_na r_nl r_nc]⟩] => S.towerexact_World_stands w_ ⟨r_reala, r_reall, r_realc⟩ ⟨r_wanta, r_wantl, r_wantc⟩ ⟨r_na, r_nl, r_nc⟩ w (fun r0 w' => K (.bool r0) w')
  | _ => False
theorem T.ok132 : ∀ vs w K, T.c132 vs w K → (callFunc 132 vs.toArray).run Tryz.prog w = .ok (.enter 132 vs.toArray) w ∧ Calls Tryz.prog 132 vs.toArray w fun e w' => ∃ v, e = .returned v ∧ K v w' := by
  intro vs w K h
  unfold T.c132 at h
  split at h
  · refine ⟨Tryz.call132 _ _, ok_of T.CO132 mixed Tryz.func132 (T.eq132 _ _ _ _ _ _) h fun v w' hk => ⟨v, rfl, ?_⟩⟩
    split at hk
    · exact hk
    · exact hk.elim
  · exact h.elim

/-- (*e2e/towerexact.World).looks (function 55). -/
def S.towerexact_World_looks (w_ : Nat) (w : World) (K : Bool → World → Prop) : Prop :=
  Drew w fun w =>
  LdS w ⟨w_, 2, none⟩ fun cells_1 =>
  LdS w ⟨w_, 3, none⟩ fun wants_2 =>
  S.towerlaw_SameRows cells_1 wants_2 w (fun r3 w =>
  if (!r3) = true then
    K false w
  else
    Join (fun (w : World) =>
      Join (fun (w : World) =>
        LoopP (σ := Int × Unit) (fun st4 w next5 =>
          LdS w ⟨w_, 5, none⟩ fun cs_6 =>
          if (decide (st4.1 < (cs_6.l : Int))) = true then
            Drew w fun w =>
            LdS w ⟨w_, 5, none⟩ fun cs_7 =>
            Ix cs_7.a cs_7.l st4.1 fun b8 o9 =>
            LdS w ⟨b8, o9 + Int.toNat st4.1 * 2, none⟩ fun real_10 =>
            LdS w ⟨w_, 5, none⟩ fun cs_11 =>
            Ix cs_11.a cs_11.l st4.1 fun b12 o13 =>
            LdS w ⟨b12, o13 + Int.toNat st4.1 * 2 + 1, none⟩ fun want_14 =>
            S.towerexact_sameCols real_10 want_14 w (fun r15 w =>
            if (!r15) = true then
              K false w
            else
              Let (W (st4.1 + 1)) fun i_16 =>
              next5 (i_16, ()) w)
          else
            K true w) (0, ()) w) fun J17 =>
      LoopP (σ := Int × Unit) (fun st18 w next19 =>
        LdS w ⟨w_, 4, none⟩ fun ns_20 =>
        if (decide (st18.1 < (ns_20.l : Int))) = true then
          Drew w fun w =>
          LdS w ⟨w_, 4, none⟩ fun ns_21 =>
          Ix ns_21.a ns_21.l st18.1 fun b22 o23 =>
          LdS w ⟨b22, o23 + Int.toNat st18.1 * 2, none⟩ fun real_24 =>
          LdS w ⟨w_, 4, none⟩ fun ns_25 =>
          Ix ns_25.a ns_25.l st18.1 fun b26 o27 =>
          LdS w ⟨b26, o27 + Int.toNat st18.1 * 2 + 1, none⟩ fun want_28 =>
          S.towerexact_sameNames real_24 want_28 w (fun r29 w =>
          if (!r29) = true then
            K false w
          else
            Let (W (st18.1 + 1)) fun i_30 =>
            next19 (i_30, ()) w)
        else
          J17 w) (0, ()) w) fun J31 =>
    LoopP (σ := Int × Unit) (fun st32 w next33 =>
      LdS w ⟨w_, 1, none⟩ fun rs_34 =>
      if (decide (st32.1 < (rs_34.l : Int))) = true then
        LdS w ⟨w_, 1, none⟩ fun rs_35 =>
        Ix rs_35.a rs_35.l st32.1 fun b36 o37 =>
        LdS w ⟨b36, o37 + Int.toNat st32.1 * 3, none⟩ fun real_38 =>
        LdS w ⟨b36, o37 + Int.toNat st32.1 * 3 + 1, none⟩ fun want_39 =>
        LdS w ⟨b36, o37 + Int.toNat st32.1 * 3 + 2, none⟩ fun n_40 =>
        S.towerexact_World_stands w_ real_38 want_39 n_40 w (fun r41 w =>
        if (!r41) = true then
          K false w
        else
          Let (W (st32.1 + 1)) fun i_42 =>
          next33 (i_42, ()) w)
      else
        J31 w) (0, ()) w)
def T.C55 : CallT := (CallT.cons 45 T.c45 (CallT.cons 133 T.c133 (CallT.cons 129 T.c129 (CallT.cons 132 T.c132 CallT.nil))))
def T.A55 : Ann := fun i => bif Nat.beq i 4 then some ([0], [(3, 0)]) else bif Nat.beq i 9 then some ([0], [(4, 0)]) else bif Nat.beq i 14 then some ([0], [(5, 0)]) else none
set_option maxRecDepth 1000000 in
theorem T.eq55 (w_ : Nat) (w : World) (K : Bool → World → Prop) : denF Tryz.prog T.C55 T.A55 Tryz.f55 [.pointer (some ⟨w_, 0, none⟩)] w (fun v w' => match v with | .bool r0 => K r0 w' | _ => False) = S.towerexact_World_looks w_ w K := by kernel_rfl
theorem T.CO55 : CallOk Tryz.prog T.C55 := (CallOk.cons 45 T.ok45 (CallOk.cons 133 T.ok133 (CallOk.cons 129 T.ok129 (CallOk.cons 132 T.ok132 CallOk.nil))))
def T.c55 (vs : List Value) (w : World) (K : Value → World → Prop) : Prop :=
  match vs with
  | [.pointer (some ⟨w_, 0, none⟩)] => S.towerexact_World_looks w_ w (fun r0 w' => K (.bool r0) w')
  | _ => False
theorem T.ok55 : ∀ vs w K, T.c55 vs w K → (callFunc 55 vs.toArray).run Tryz.prog w = .ok (.enter 55 vs.toArray) w ∧ Calls Tryz.prog 55 vs.toArray w fun e w' => ∃ v, e = .returned v ∧ K v w' := by
  intro vs w K h
  unfold T.c55 at h
  split at h
  · refine ⟨Tryz.call55 _ _, ok_of T.CO55 mixed Tryz.func55 (T.eq55 _ _ _) h fun v w' hk => ⟨v, rfl, ?_⟩⟩
    split at hk
    · exact hk
    · exact hk.elim
  · exact h.elim

/-- e2e/towerexact.ExactUpTo (function 15). -/
def S.towerexact_ExactUpTo (script : Sl) (w : World) (K : Int → World → Prop) : Prop :=
  New w (.cells #[.slice none 0 0, .slice none 0 0, .slice none 0 0, .slice none 0 0, .slice none 0 0, .slice none 0 0, .int .i64 0, .bool false] 112) fun p1 w =>
  LoopP (σ := Int × Unit) (fun st2 w next3 =>
    if (decide (st2.1 < (script.l : Int))) = true then
      Ix script.a script.l st2.1 fun b4 o5 =>
      LdI .i64 w ⟨b4, o5 + Int.toNat st2.1 * 6, none⟩ fun Kind_6 =>
      LdI .i64 w ⟨b4, o5 + Int.toNat st2.1 * 6 + 1, none⟩ fun A_7 =>
      LdI .i64 w ⟨b4, o5 + Int.toNat st2.1 * 6 + 2, none⟩ fun B_8 =>
      LdI .i64 w ⟨b4, o5 + Int.toNat st2.1 * 6 + 3, none⟩ fun C_9 =>
      LdStr w ⟨b4, o5 + Int.toNat st2.1 * 6 + 4, none⟩ fun S_10 =>
      LdStr w ⟨b4, o5 + Int.toNat st2.1 * 6 + 5, none⟩ fun T_11 =>
      S.towerexact_World_step p1 Kind_6 A_7 B_8 C_9 S_10 T_11 w (fun r12 w =>
      if (!r12) = true then
        K st2.1 w
      else
        S.towerexact_World_looks p1 w (fun r13 w =>
        if (!r13) = true then
          K st2.1 w
        else
          Let (W (st2.1 + 1)) fun i_14 =>
          next3 (i_14, ()) w))
    else
      K (-1) w) (0, ()) w
def T.C15 : CallT := (CallT.cons 54 T.c54 (CallT.cons 55 T.c55 CallT.nil))
def T.A15 : Ann := fun i => bif Nat.beq i 3 then some ([0, 3], [(4, 0)]) else none
set_option maxRecDepth 1000000 in
theorem T.eq15 (script : Sl) (w : World) (K : Int → World → Prop) : denF Tryz.prog T.C15 T.A15 Tryz.f15 [.slice script.a script.l script.c] w (fun v w' => match v with | .int .i64 r0 => K r0 w' | _ => False) = S.towerexact_ExactUpTo script w K := by kernel_rfl
theorem T.CO15 : CallOk Tryz.prog T.C15 := (CallOk.cons 54 T.ok54 (CallOk.cons 55 T.ok55 CallOk.nil))
def T.c15 (vs : List Value) (w : World) (K : Value → World → Prop) : Prop :=
  match vs with
  | [.slice scripta scriptl scriptc] => S.towerexact_ExactUpTo ⟨scripta, scriptl, scriptc⟩ w (fun r0 w' => K (.int .i64 r0) w')
  | _ => False
theorem T.ok15 : ∀ vs w K, T.c15 vs w K → (callFunc 15 vs.toArray).run Tryz.prog w = .ok (.enter 15 vs.toArray) w ∧ Calls Tryz.prog 15 vs.toArray w fun e w' => ∃ v, e = .returned v ∧ K v w' := by
  intro vs w K h
  unfold T.c15 at h
  split at h
  · refine ⟨Tryz.call15 _ _, ok_of T.CO15 mixed Tryz.func15 (T.eq15 _ _ _) h fun v w' hk => ⟨v, rfl, ?_⟩⟩
    split at hk
    · exact hk
    · exact hk.elim
  · exact h.elim

/-- e2e/towerexact.Exact (function 4). -/
def S.towerexact_Exact (script : Sl) (w : World) (K : Bool → World → Prop) : Prop :=
  S.towerexact_small script w (fun r1 w =>
  if (!r1) = true then
    K true w
  else
    S.towerexact_ExactUpTo script w (fun r2 w =>
    K (r2 == (-1)) w))
def T.C4 : CallT := (CallT.cons 14 T.c14 (CallT.cons 15 T.c15 CallT.nil))
def T.A4 : Ann := fun _ => none
set_option maxRecDepth 1000000 in
theorem T.eq4 (script : Sl) (w : World) (K : Bool → World → Prop) : denF Tryz.prog T.C4 T.A4 Tryz.f4 [.slice script.a script.l script.c] w (fun v w' => match v with | .bool r0 => K r0 w' | _ => False) = S.towerexact_Exact script w K := by kernel_rfl
theorem T.CO4 : CallOk Tryz.prog T.C4 := (CallOk.cons 14 T.ok14 (CallOk.cons 15 T.ok15 CallOk.nil))
def T.c4 (vs : List Value) (w : World) (K : Value → World → Prop) : Prop :=
  match vs with
  | [.slice scripta scriptl scriptc] => S.towerexact_Exact ⟨scripta, scriptl, scriptc⟩ w (fun r0 w' => K (.bool r0) w')
  | _ => False
theorem T.ok4 : ∀ vs w K, T.c4 vs w K → (callFunc 4 vs.toArray).run Tryz.prog w = .ok (.enter 4 vs.toArray) w ∧ Calls Tryz.prog 4 vs.toArray w fun e w' => ∃ v, e = .returned v ∧ K v w' := by
  intro vs w K h
  unfold T.c4 at h
  split at h
  · refine ⟨Tryz.call4 _ _, ok_of T.CO4 mixed Tryz.func4 (T.eq4 _ _ _) h fun v w' hk => ⟨v, rfl, ?_⟩⟩
    split at hk
    · exact hk
    · exact hk.elim
  · exact h.elim
end Go.Proofs.Qxb6500564aGreat
