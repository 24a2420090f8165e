/-
  towerexact.Exact: reading what the script has made; the steps but Run and Exec.
-/
import Derived.Test.Qxb6500562aGreatTwD
namespace Go.Proofs.Qxb6500562aGreat
open Go.Den Go.Zip
set_option linter.unusedVariables false
set_option linter.unusedSimpArgs false
def XX.eng (w_ p1 : Nat) (w : World) (K : Bool → World → Prop) : Prop :=
  S.tower_New w (fun r3 w =>
  S.genm_New w (fun r4 w =>
  LdS w ⟨w_, 0, none⟩ fun x_5 =>
  New w (.cells #[.pointer (some ⟨r3, 0, none⟩)] 24) fun p6 w =>
  AppS 24 [.pointer none] 8 1 w x_5 ⟨some ⟨p6, 0, none⟩, 1, 1⟩ fun l7 w =>
  St1 w ⟨w_, 0, none⟩ (.slice l7.a l7.l l7.c) fun w =>
  LdS w ⟨w_, 1, none⟩ fun m_8 =>
  New w (.cells #[.pointer (some ⟨r4, 0, none⟩)] 26) fun p9 w =>
  AppS 26 [.pointer none] 8 1 w m_8 ⟨some ⟨p9, 0, none⟩, 1, 1⟩ fun l10 w =>
  St1 w ⟨w_, 1, none⟩ (.slice l10.a l10.l l10.c) fun w =>
  K true w))
def XX.mach (w_ p1 : Nat) (w : World) (K : Bool → World → Prop) : Prop :=
  S.tower_Machine w (fun r11 w =>
  LdS w ⟨w_, 2, none⟩ fun v_12 =>
  New w (.cells #[.pointer (some ⟨r11, 0, none⟩)] 37) fun p13 w =>
  AppS 37 [.pointer none] 8 1 w v_12 ⟨some ⟨p13, 0, none⟩, 1, 1⟩ fun l14 w =>
  St1 w ⟨w_, 2, none⟩ (.slice l14.a l14.l l14.c) fun w =>
  K true w)
def XX.inn (w_ p1 : Nat) (w : World) (K : Bool → World → Prop) : Prop :=
  Drew w fun w =>
  Hold w ⟨w_, 3, none⟩ 1 fun R15 =>
  LdS w ⟨w_, 3, none⟩ fun in_16 =>
  LdI .i64 w ⟨p1, 1, none⟩ fun A_17 =>
  New w (.cells #[.int .i64 A_17] 3) fun p18 w =>
  After R15 w <|
  AppS 3 [.int .i64 0] 8 1 w in_16 ⟨some ⟨p18, 0, none⟩, 1, 1⟩ fun l19 w =>
  St1 w ⟨w_, 3, none⟩ (.slice l19.a l19.l l19.c) fun w =>
  K true w
def XX.clear (w_ p1 : Nat) (w : World) (K : Bool → World → Prop) : Prop :=
  St1 w ⟨w_, 3, none⟩ (.slice none 0 0) fun w =>
  K true w
def XX.list (w_ p1 : Nat) (w : World) (K : Bool → World → Prop) : Prop :=
  LdS w ⟨w_, 3, none⟩ fun in_20 =>
  S.towerexact_copyInts in_20 w (fun r21 w =>
  LdS w ⟨w_, 4, none⟩ fun ls_22 =>
  New w (.cells #[.slice r21.a r21.l r21.c] 22) fun p23 w =>
  AppS 22 [.slice none 0 0] 24 1 w ls_22 ⟨some ⟨p23, 0, none⟩, 1, 1⟩ fun l24 w =>
  St1 w ⟨w_, 4, none⟩ (.slice l24.a l24.l l24.c) fun w =>
  Drew w fun w =>
  Hold w ⟨w_, 5, none⟩ 1 fun R25 =>
  LdS w ⟨w_, 5, none⟩ fun lw_26 =>
  S.towerexact_copyInts r21 w (fun r27 w =>
  After R25 w <|
  New w (.cells #[.slice r27.a r27.l r27.c] 22) fun p28 w =>
  After R25 w <|
  AppS 22 [.slice none 0 0] 24 1 w lw_26 ⟨some ⟨p28, 0, none⟩, 1, 1⟩ fun l29 w =>
  St1 w ⟨w_, 5, none⟩ (.slice l29.a l29.l l29.c) fun w =>
  K true w))
def XX.nil (w_ p1 : Nat) (w : World) (K : Bool → World → Prop) : Prop :=
  LdS w ⟨w_, 4, none⟩ fun ls_30 =>
  New w (.cells #[.slice none 0 0] 22) fun p31 w =>
  AppS 22 [.slice none 0 0] 24 1 w ls_30 ⟨some ⟨p31, 0, none⟩, 1, 1⟩ fun l32 w =>
  St1 w ⟨w_, 4, none⟩ (.slice l32.a l32.l l32.c) fun w =>
  LdS w ⟨w_, 5, none⟩ fun lw_33 =>
  New w (.cells #[.slice none 0 0] 22) fun p34 w =>
  AppS 22 [.slice none 0 0] 24 1 w lw_33 ⟨some ⟨p34, 0, none⟩, 1, 1⟩ fun l35 w =>
  St1 w ⟨w_, 5, none⟩ (.slice l35.a l35.l l35.c) fun w =>
  K true w
def XX.name (w_ p1 : Nat) (w : World) (K : Bool → World → Prop) : Prop :=
  LdI .i64 w ⟨p1, 1, none⟩ fun A_36 =>
  St1 w ⟨w_, 8, none⟩ (.int .i64 A_36) fun w =>
  K true w
def XX.len (w_ p1 : Nat) (w : World) (K : Bool → World → Prop) : Prop :=
  LdI .i64 w ⟨p1, 1, none⟩ fun A_37 =>
  St1 w ⟨w_, 9, none⟩ (.int .i64 A_37) fun w =>
  LdI .i64 w ⟨p1, 2, none⟩ fun B_38 =>
  St1 w ⟨w_, 10, none⟩ (.int .i64 B_38) fun w =>
  LdI .i64 w ⟨p1, 3, none⟩ fun C_39 =>
  St1 w ⟨w_, 11, none⟩ (.int .i64 C_39) fun w =>
  K true w
def XX.put (w_ p1 : Nat) (w : World) (K : Bool → World → Prop) : Prop :=
  LdS w ⟨w_, 4, none⟩ fun ls_40 =>
  if ((ls_40.l : Int) == 0) = true then
    K true w
  else
    Drew w fun w =>
    LdI .i64 w ⟨p1, 1, none⟩ fun A_41 =>
    LdS w ⟨w_, 4, none⟩ fun ls_42 =>
    S.towerexact_pick A_41 (ls_42.l : Int) w (fun r43 w =>
    LdS w ⟨w_, 4, none⟩ fun ls_44 =>
    Ix ls_44.a ls_44.l r43 fun b45 o46 =>
    LdS w ⟨b45, o46 + Int.toNat r43 * 1, none⟩ fun x_47 =>
    if (decide ((x_47.l : Int) > 0)) = true then
      LdI .i64 w ⟨p1, 2, none⟩ fun B_48 =>
      S.towerexact_pick B_48 (x_47.l : Int) w (fun r49 w =>
      LdI .i64 w ⟨p1, 3, none⟩ fun C_50 =>
      Ix x_47.a x_47.l r49 fun b51 o52 =>
      St1 w ⟨b51, o52 + Int.toNat r49 * 1, none⟩ (.int .i64 C_50) fun w =>
      Drew w fun w =>
      LdS w ⟨w_, 5, none⟩ fun lw_53 =>
      Ix lw_53.a lw_53.l r43 fun b54 o55 =>
      LdS w ⟨b54, o55 + Int.toNat r43 * 1, none⟩ fun x_56 =>
      LdI .i64 w ⟨p1, 3, none⟩ fun C_57 =>
      Ix x_56.a x_56.l r49 fun b58 o59 =>
      St1 w ⟨b58, o59 + Int.toNat r49 * 1, none⟩ (.int .i64 C_57) fun w =>
      K true w)
    else
      K true w)
def XX.run (w_ p1 : Nat) (w : World) (K : Bool → World → Prop) : Prop :=
  LdS w ⟨w_, 0, none⟩ fun x_60 =>
  if ((x_60.l : Int) == 0) = true then
    K true w
  else
    LdS w ⟨w_, 4, none⟩ fun ls_61 =>
    if ((ls_61.l : Int) == 0) = true then
      K true w
    else
      Drew w fun w =>
      LdI .i64 w ⟨p1, 1, none⟩ fun A_62 =>
      LdS w ⟨w_, 0, none⟩ fun x_63 =>
      S.towerexact_pick A_62 (x_63.l : Int) w (fun r64 w =>
      Drew w fun w =>
      Hold w ⟨w_, 4, none⟩ 1 fun R65 =>
      LdS w ⟨w_, 4, none⟩ fun ls_66 =>
      LdI .i64 w ⟨p1, 3, none⟩ fun C_67 =>
      LdS w ⟨w_, 4, none⟩ fun ls_68 =>
      S.towerexact_pick C_67 (ls_68.l : Int) w (fun r69 w =>
      After R65 w <|
      Ix ls_66.a ls_66.l r69 fun b70 o71 =>
      LdS w ⟨b70, o71 + Int.toNat r69 * 1, none⟩ fun x_72 =>
      LdI .i64 w ⟨w_, 9, none⟩ fun from_73 =>
      S.towerexact_pick from_73 (W ((x_72.l : Int) + 1)) w (fun r74 w =>
      LdI .i64 w ⟨w_, 10, none⟩ fun n_75 =>
      S.towerexact_pick n_75 (W ((W ((x_72.l : Int) - r74)) + 1)) w (fun r76 w =>
      Join (fun (a_77 : Nat) (ok_78 : Bool) (w : World) =>
        if (!ok_78) = true then
          K false w
        else
          LdS w ⟨a_77, 4, none⟩ fun Out_79 =>
          if (decide ((Out_79.l : Int) > 0)) = true then
            Drew w fun w =>
            Hold w ⟨w_, 4, none⟩ 1 fun R80 =>
            LdS w ⟨w_, 4, none⟩ fun ls_81 =>
            LdS w ⟨a_77, 4, none⟩ fun Out_82 =>
            New w (.cells #[.slice Out_82.a Out_82.l Out_82.c] 22) fun p83 w =>
            After R80 w <|
            AppS 22 [.slice none 0 0] 24 1 w ls_81 ⟨some ⟨p83, 0, none⟩, 1, 1⟩ fun l84 w =>
            St1 w ⟨w_, 4, none⟩ (.slice l84.a l84.l l84.c) fun w =>
            Drew w fun w =>
            Hold w ⟨w_, 5, none⟩ 1 fun R85 =>
            LdS w ⟨w_, 5, none⟩ fun lw_86 =>
            LdS w ⟨a_77, 4, none⟩ fun Out_87 =>
            S.towerexact_copyInts Out_87 w (fun r88 w =>
            After R85 w <|
            New w (.cells #[.slice r88.a r88.l r88.c] 22) fun p89 w =>
            After R85 w <|
            AppS 22 [.slice none 0 0] 24 1 w lw_86 ⟨some ⟨p89, 0, none⟩, 1, 1⟩ fun l90 w =>
            St1 w ⟨w_, 5, none⟩ (.slice l90.a l90.l l90.c) fun w =>
            K true w)
          else
            K true w) fun J91 =>
      Drew w fun w =>
      Hold w ⟨w_, 0, none⟩ 1 fun R92 =>
      LdS w ⟨w_, 0, none⟩ fun x_93 =>
      Ix x_93.a x_93.l r64 fun b94 o95 =>
      Hold w ⟨b94, o95 + Int.toNat r64 * 1, none⟩ 1 fun R96 =>
      LdP w ⟨b94, o95 + Int.toNat r64 * 1, none⟩ fun x_97 =>
      Hold w ⟨w_, 1, none⟩ 1 fun R98 =>
      LdS w ⟨w_, 1, none⟩ fun m_99 =>
      Ix m_99.a m_99.l r64 fun b100 o101 =>
      Hold w ⟨b100, o101 + Int.toNat r64 * 1, none⟩ 1 fun R102 =>
      LdP w ⟨b100, o101 + Int.toNat r64 * 1, none⟩ fun x_103 =>
      Hold w ⟨p1, 4, none⟩ 1 fun R104 =>
      LdStr w ⟨p1, 4, none⟩ fun S_105 =>
      Hold w ⟨w_, 11, none⟩ 1 fun R106 =>
      LdI .i64 w ⟨w_, 11, none⟩ fun extra_107 =>
      Hold w ⟨p1, 2, none⟩ 1 fun R108 =>
      LdI .i64 w ⟨p1, 2, none⟩ fun B_109 =>
      (S.towerexact_pick extra_107 (W ((W ((W ((x_72.l : Int) - r74)) - r76)) + 1)) w (fun r110 w =>
      After R108 w <|
      After R104 w <|
      After R102 w <|
      After R98 w <|
      After R96 w <|
      After R92 w <|
      (S.towerexact_ran x_97 x_103 S_105 x_72 r74 r76 r110 B_109 w (fun Err_111 Pos_112 End_113 Ret_114 Out_115 Fuel_116 r117 w =>
      New w (.cells #[.int .i64 0, .int .i64 0, .int .i64 0, .int .i64 0, .slice none 0 0, .int .i64 0] 31) fun p118 w =>
      After R108 w <|
      After R106 w <|
      After R104 w <|
      After R102 w <|
      After R98 w <|
      After R96 w <|
      After R92 w <|
      St1 w ⟨p118, 0, none⟩ (.int .i64 Err_111) fun w =>
      St1 w ⟨p118, 1, none⟩ (.int .i64 Pos_112) fun w =>
      St1 w ⟨p118, 2, none⟩ (.int .i64 End_113) fun w =>
      St1 w ⟨p118, 3, none⟩ (.int .i64 Ret_114) fun w =>
      St1 w ⟨p118, 4, none⟩ (.slice Out_115.a Out_115.l Out_115.c) fun w =>
      St1 w ⟨p118, 5, none⟩ (.int .i64 Fuel_116) fun w =>
      J91 p118 r117 w)) ∧
      (New w (.cells #[.int .i64 0, .int .i64 0, .int .i64 0, .int .i64 0, .slice none 0 0, .int .i64 0] 31) fun p119 w =>
      After R108 w <|
      After R106 w <|
      After R104 w <|
      After R102 w <|
      After R98 w <|
      After R96 w <|
      After R92 w <|
      S.towerexact_ran x_97 x_103 S_105 x_72 r74 r76 r110 B_109 w (fun Err_120 Pos_121 End_122 Ret_123 Out_124 Fuel_125 r126 w =>
      St1 w ⟨p119, 0, none⟩ (.int .i64 Err_120) fun w =>
      St1 w ⟨p119, 1, none⟩ (.int .i64 Pos_121) fun w =>
      St1 w ⟨p119, 2, none⟩ (.int .i64 End_122) fun w =>
      St1 w ⟨p119, 3, none⟩ (.int .i64 Ret_123) fun w =>
      St1 w ⟨p119, 4, none⟩ (.slice Out_124.a Out_124.l Out_124.c) fun w =>
      St1 w ⟨p119, 5, none⟩ (.int .i64 Fuel_125) fun w =>
      J91 p119 r126 w)))) ∧
      (New w (.cells #[.int .i64 0, .int .i64 0, .int .i64 0, .int .i64 0, .slice none 0 0, .int .i64 0] 31) fun p127 w =>
      After R108 w <|
      After R106 w <|
      After R104 w <|
      After R102 w <|
      After R98 w <|
      After R96 w <|
      After R92 w <|
      S.towerexact_pick extra_107 (W ((W ((W ((x_72.l : Int) - r74)) - r76)) + 1)) w (fun r128 w =>
      After R108 w <|
      After R104 w <|
      After R102 w <|
      After R98 w <|
      After R96 w <|
      After R92 w <|
      S.towerexact_ran x_97 x_103 S_105 x_72 r74 r76 r128 B_109 w (fun Err_129 Pos_130 End_131 Ret_132 Out_133 Fuel_134 r135 w =>
      St1 w ⟨p127, 0, none⟩ (.int .i64 Err_129) fun w =>
      St1 w ⟨p127, 1, none⟩ (.int .i64 Pos_130) fun w =>
      St1 w ⟨p127, 2, none⟩ (.int .i64 End_131) fun w =>
      St1 w ⟨p127, 3, none⟩ (.int .i64 Ret_132) fun w =>
      St1 w ⟨p127, 4, none⟩ (.slice Out_133.a Out_133.l Out_133.c) fun w =>
      St1 w ⟨p127, 5, none⟩ (.int .i64 Fuel_134) fun w =>
      J91 p127 r135 w)))))))
def XX.check (w_ p1 : Nat) (w : World) (K : Bool → World → Prop) : Prop :=
  LdS w ⟨w_, 0, none⟩ fun x_136 =>
  if (decide ((x_136.l : Int) > 0)) = true then
    Drew w fun w =>
    Hold w ⟨w_, 0, none⟩ 1 fun R137 =>
    LdS w ⟨w_, 0, none⟩ fun x_138 =>
    LdI .i64 w ⟨p1, 1, none⟩ fun A_139 =>
    LdS w ⟨w_, 0, none⟩ fun x_140 =>
    S.towerexact_pick A_139 (x_140.l : Int) w (fun r141 w =>
    After R137 w <|
    Ix x_138.a x_138.l r141 fun b142 o143 =>
    LdP w ⟨b142, o143 + Int.toNat r141 * 1, none⟩ fun x_144 =>
    S.gen_Engine_Check x_144 w (fun r145 w =>
    K r145 w))
  else
    K true w
def XX.comp (w_ p1 : Nat) (w : World) (K : Bool → World → Prop) : Prop :=
  LdS w ⟨w_, 0, none⟩ fun x_146 =>
  if ((x_146.l : Int) == 0) = true then
    K true w
  else
    Drew w fun w =>
    Hold w ⟨w_, 0, none⟩ 1 fun R147 =>
    LdS w ⟨w_, 0, none⟩ fun x_148 =>
    LdI .i64 w ⟨p1, 1, none⟩ fun A_149 =>
    LdS w ⟨w_, 0, none⟩ fun x_150 =>
    Hold w ⟨p1, 4, none⟩ 1 fun R151 =>
    LdStr w ⟨p1, 4, none⟩ fun S_152 =>
    S.towerexact_pick A_149 (x_150.l : Int) w (fun r153 w =>
    After R151 w <|
    After R147 w <|
    Ix x_148.a x_148.l r153 fun b154 o155 =>
    LdP w ⟨b154, o155 + Int.toNat r153 * 1, none⟩ fun x_156 =>
    S.towerexact_compiled x_156 S_152 w (fun r157 r158 r159 w =>
    if (!r159) = true then
      K false w
    else
      if r158 = true then
        Drew w fun w =>
        Hold w ⟨w_, 12, none⟩ 1 fun R160 =>
        LdS w ⟨w_, 12, none⟩ fun cods_161 =>
        Hold w ⟨p1, 4, none⟩ 1 fun R162 =>
        LdStr w ⟨p1, 4, none⟩ fun S_163 =>
        S.towerexact_copyBytes r157 w (fun r164 w =>
        After R162 w <|
        After R160 w <|
        New w (.cells #[.slice r157.a r157.l r157.c, .slice r164.a r164.l r164.c, .string S_163, .bool false] 133) fun p165 w =>
        After R160 w <|
        AppS 133 [.slice none 0 0, .slice none 0 0, .string ⟨#[]⟩, .bool false] 72 4 w cods_161 ⟨some ⟨p165, 0, none⟩, 1, 1⟩ fun l166 w =>
        St1 w ⟨w_, 12, none⟩ (.slice l166.a l166.l l166.c) fun w =>
        K true w)
      else
        K true w))
def XX.exec (w_ p1 : Nat) (w : World) (K : Bool → World → Prop) : Prop :=
  LdS w ⟨w_, 2, none⟩ fun v_167 =>
  if ((v_167.l : Int) == 0) = true then
    K true w
  else
    LdS w ⟨w_, 12, none⟩ fun cods_168 =>
    if ((cods_168.l : Int) == 0) = true then
      K true w
    else
      LdS w ⟨w_, 4, none⟩ fun ls_169 =>
      if ((ls_169.l : Int) == 0) = true then
        K true w
      else
        Join (fun (c_170 : Nat) (w : World) =>
          LdB w ⟨c_170, 3, none⟩ fun gone_171 =>
          if gone_171 = true then
            K true w
          else
            Join (fun (w : World) =>
              Drew w fun w =>
              LdS w ⟨w_, 6, none⟩ fun room_172 =>
              LdS w ⟨c_170, 0, none⟩ fun real_173 =>
              CutS 1 room_172 0 (real_173.l : Int) (room_172.c : Int) fun l174 =>
              LdS w ⟨c_170, 0, none⟩ fun real_175 =>
              CopyS 1 w l174 real_175 fun n176 w =>
              Drew w fun w =>
              LdS w ⟨w_, 7, none⟩ fun rw_177 =>
              LdS w ⟨c_170, 0, none⟩ fun real_178 =>
              CopyS 1 w rw_177 real_178 fun n179 w =>
              Join (fun (a_180 : Nat) (ok_181 : Bool) (w : World) =>
                if (!ok_181) = true then
                  K false w
                else
                  LdS w ⟨a_180, 4, none⟩ fun Out_182 =>
                  if (decide ((Out_182.l : Int) > 0)) = true then
                    Drew w fun w =>
                    Hold w ⟨w_, 4, none⟩ 1 fun R183 =>
                    LdS w ⟨w_, 4, none⟩ fun ls_184 =>
                    LdS w ⟨a_180, 4, none⟩ fun Out_185 =>
                    New w (.cells #[.slice Out_185.a Out_185.l Out_185.c] 22) fun p186 w =>
                    After R183 w <|
                    AppS 22 [.slice none 0 0] 24 1 w ls_184 ⟨some ⟨p186, 0, none⟩, 1, 1⟩ fun l187 w =>
                    St1 w ⟨w_, 4, none⟩ (.slice l187.a l187.l l187.c) fun w =>
                    Drew w fun w =>
                    Hold w ⟨w_, 5, none⟩ 1 fun R188 =>
                    LdS w ⟨w_, 5, none⟩ fun lw_189 =>
                    LdS w ⟨a_180, 4, none⟩ fun Out_190 =>
                    S.towerexact_copyInts Out_190 w (fun r191 w =>
                    After R188 w <|
                    New w (.cells #[.slice r191.a r191.l r191.c] 22) fun p192 w =>
                    After R188 w <|
                    AppS 22 [.slice none 0 0] 24 1 w lw_189 ⟨some ⟨p192, 0, none⟩, 1, 1⟩ fun l193 w =>
                    St1 w ⟨w_, 5, none⟩ (.slice l193.a l193.l l193.c) fun w =>
                    K true w)
                  else
                    K true w) fun J194 =>
              Drew w fun w =>
              Hold w ⟨w_, 2, none⟩ 1 fun R195 =>
              LdS w ⟨w_, 2, none⟩ fun v_196 =>
              Hold w ⟨p1, 1, none⟩ 1 fun R197 =>
              LdI .i64 w ⟨p1, 1, none⟩ fun A_198 =>
              Hold w ⟨w_, 2, none⟩ 1 fun R199 =>
              LdS w ⟨w_, 2, none⟩ fun v_200 =>
              Hold w ⟨c_170, 2, none⟩ 1 fun R201 =>
              LdStr w ⟨c_170, 2, none⟩ fun src_202 =>
              Hold w ⟨w_, 4, none⟩ 1 fun R203 =>
              LdS w ⟨w_, 4, none⟩ fun ls_204 =>
              Hold w ⟨w_, 8, none⟩ 1 fun R205 =>
              LdI .i64 w ⟨w_, 8, none⟩ fun name_206 =>
              Hold w ⟨w_, 4, none⟩ 1 fun R207 =>
              LdS w ⟨w_, 4, none⟩ fun ls_208 =>
              Hold w ⟨p1, 3, none⟩ 1 fun R209 =>
              LdI .i64 w ⟨p1, 3, none⟩ fun C_210 =>
              (S.towerexact_pick A_198 (v_200.l : Int) w (fun r211 w =>
              After R209 w <|
              After R207 w <|
              After R205 w <|
              After R203 w <|
              After R201 w <|
              After R195 w <|
              Ix v_196.a v_196.l r211 fun b212 o213 =>
              Hold w ⟨b212, o213 + Int.toNat r211 * 1, none⟩ 1 fun R214 =>
              LdP w ⟨b212, o213 + Int.toNat r211 * 1, none⟩ fun x_215 =>
              (S.towerexact_pick name_206 (ls_208.l : Int) w (fun r216 w =>
              After R214 w <|
              After R209 w <|
              After R203 w <|
              After R201 w <|
              After R195 w <|
              Ix ls_204.a ls_204.l r216 fun b217 o218 =>
              Hold w ⟨b217, o218 + Int.toNat r216 * 1, none⟩ 1 fun R219 =>
              LdS w ⟨b217, o218 + Int.toNat r216 * 1, none⟩ fun x_220 =>
              (S.towerexact_short x_220 w (fun r221 w =>
              After R214 w <|
              After R209 w <|
              After R201 w <|
              After R195 w <|
              (S.towerexact_executed x_215 l174 src_202 r221 C_210 w (fun Err_222 Pos_223 End_224 Ret_225 Out_226 Fuel_227 r228 w =>
              New w (.cells #[.int .i64 0, .int .i64 0, .int .i64 0, .int .i64 0, .slice none 0 0, .int .i64 0] 31) fun p229 w =>
              After R219 w <|
              After R214 w <|
              After R209 w <|
              After R207 w <|
              After R205 w <|
              After R203 w <|
              After R201 w <|
              After R199 w <|
              After R197 w <|
              After R195 w <|
              St1 w ⟨p229, 0, none⟩ (.int .i64 Err_222) fun w =>
              St1 w ⟨p229, 1, none⟩ (.int .i64 Pos_223) fun w =>
              St1 w ⟨p229, 2, none⟩ (.int .i64 End_224) fun w =>
              St1 w ⟨p229, 3, none⟩ (.int .i64 Ret_225) fun w =>
              St1 w ⟨p229, 4, none⟩ (.slice Out_226.a Out_226.l Out_226.c) fun w =>
              St1 w ⟨p229, 5, none⟩ (.int .i64 Fuel_227) fun w =>
              J194 p229 r228 w)) ∧
              (New w (.cells #[.int .i64 0, .int .i64 0, .int .i64 0, .int .i64 0, .slice none 0 0, .int .i64 0] 31) fun p230 w =>
              After R219 w <|
              After R214 w <|
              After R209 w <|
              After R207 w <|
              After R205 w <|
              After R203 w <|
              After R201 w <|
              After R199 w <|
              After R197 w <|
              After R195 w <|
              S.towerexact_executed x_215 l174 src_202 r221 C_210 w (fun Err_231 Pos_232 End_233 Ret_234 Out_235 Fuel_236 r237 w =>
              St1 w ⟨p230, 0, none⟩ (.int .i64 Err_231) fun w =>
              St1 w ⟨p230, 1, none⟩ (.int .i64 Pos_232) fun w =>
              St1 w ⟨p230, 2, none⟩ (.int .i64 End_233) fun w =>
              St1 w ⟨p230, 3, none⟩ (.int .i64 Ret_234) fun w =>
              St1 w ⟨p230, 4, none⟩ (.slice Out_235.a Out_235.l Out_235.c) fun w =>
              St1 w ⟨p230, 5, none⟩ (.int .i64 Fuel_236) fun w =>
              J194 p230 r237 w)))) ∧
              (New w (.cells #[.int .i64 0, .int .i64 0, .int .i64 0, .int .i64 0, .slice none 0 0, .int .i64 0] 31) fun p238 w =>
              After R219 w <|
              After R214 w <|
              After R209 w <|
              After R207 w <|
              After R205 w <|
              After R203 w <|
              After R201 w <|
              After R199 w <|
              After R197 w <|
              After R195 w <|
              S.towerexact_short x_220 w (fun r239 w =>
              After R214 w <|
              After R209 w <|
              After R201 w <|
              After R195 w <|
              S.towerexact_executed x_215 l174 src_202 r239 C_210 w (fun Err_240 Pos_241 End_242 Ret_243 Out_244 Fuel_245 r246 w =>
              St1 w ⟨p238, 0, none⟩ (.int .i64 Err_240) fun w =>
              St1 w ⟨p238, 1, none⟩ (.int .i64 Pos_241) fun w =>
              St1 w ⟨p238, 2, none⟩ (.int .i64 End_242) fun w =>
              St1 w ⟨p238, 3, none⟩ (.int .i64 Ret_243) fun w =>
              St1 w ⟨p238, 4, none⟩ (.slice Out_244.a Out_244.l Out_244.c) fun w =>
              St1 w ⟨p238, 5, none⟩ (.int .i64 Fuel_245) fun w =>
              J194 p238 r246 w))))) ∧
              (New w (.cells #[.int .i64 0, .int .i64 0, .int .i64 0, .int .i64 0, .slice none 0 0, .int .i64 0] 31) fun p247 w =>
              After R214 w <|
              After R209 w <|
              After R207 w <|
              After R205 w <|
              After R203 w <|
              After R201 w <|
              After R199 w <|
              After R197 w <|
              After R195 w <|
              S.towerexact_pick name_206 (ls_208.l : Int) w (fun r248 w =>
              After R214 w <|
              After R209 w <|
              After R203 w <|
              After R201 w <|
              After R195 w <|
              Ix ls_204.a ls_204.l r248 fun b249 o250 =>
              LdS w ⟨b249, o250 + Int.toNat r248 * 1, none⟩ fun x_251 =>
              S.towerexact_short x_251 w (fun r252 w =>
              After R214 w <|
              After R209 w <|
              After R201 w <|
              After R195 w <|
              S.towerexact_executed x_215 l174 src_202 r252 C_210 w (fun Err_253 Pos_254 End_255 Ret_256 Out_257 Fuel_258 r259 w =>
              St1 w ⟨p247, 0, none⟩ (.int .i64 Err_253) fun w =>
              St1 w ⟨p247, 1, none⟩ (.int .i64 Pos_254) fun w =>
              St1 w ⟨p247, 2, none⟩ (.int .i64 End_255) fun w =>
              St1 w ⟨p247, 3, none⟩ (.int .i64 Ret_256) fun w =>
              St1 w ⟨p247, 4, none⟩ (.slice Out_257.a Out_257.l Out_257.c) fun w =>
              St1 w ⟨p247, 5, none⟩ (.int .i64 Fuel_258) fun w =>
              J194 p247 r259 w)))))) ∧
              (New w (.cells #[.int .i64 0, .int .i64 0, .int .i64 0, .int .i64 0, .slice none 0 0, .int .i64 0] 31) fun p260 w =>
              After R209 w <|
              After R207 w <|
              After R205 w <|
              After R203 w <|
              After R201 w <|
              After R199 w <|
              After R197 w <|
              After R195 w <|
              S.towerexact_pick A_198 (v_200.l : Int) w (fun r261 w =>
              After R209 w <|
              After R207 w <|
              After R205 w <|
              After R203 w <|
              After R201 w <|
              After R195 w <|
              Ix v_196.a v_196.l r261 fun b262 o263 =>
              Hold w ⟨b262, o263 + Int.toNat r261 * 1, none⟩ 1 fun R264 =>
              LdP w ⟨b262, o263 + Int.toNat r261 * 1, none⟩ fun x_265 =>
              S.towerexact_pick name_206 (ls_208.l : Int) w (fun r266 w =>
              After R264 w <|
              After R209 w <|
              After R203 w <|
              After R201 w <|
              After R195 w <|
              Ix ls_204.a ls_204.l r266 fun b267 o268 =>
              LdS w ⟨b267, o268 + Int.toNat r266 * 1, none⟩ fun x_269 =>
              S.towerexact_short x_269 w (fun r270 w =>
              After R264 w <|
              After R209 w <|
              After R201 w <|
              After R195 w <|
              S.towerexact_executed x_265 l174 src_202 r270 C_210 w (fun Err_271 Pos_272 End_273 Ret_274 Out_275 Fuel_276 r277 w =>
              St1 w ⟨p260, 0, none⟩ (.int .i64 Err_271) fun w =>
              St1 w ⟨p260, 1, none⟩ (.int .i64 Pos_272) fun w =>
              St1 w ⟨p260, 2, none⟩ (.int .i64 End_273) fun w =>
              St1 w ⟨p260, 3, none⟩ (.int .i64 Ret_274) fun w =>
              St1 w ⟨p260, 4, none⟩ (.slice Out_275.a Out_275.l Out_275.c) fun w =>
              St1 w ⟨p260, 5, none⟩ (.int .i64 Fuel_276) fun w =>
              J194 p260 r277 w)))))) fun J278 =>
            LoopP (σ := Unit) (fun st279 w next280 =>
              Drew w fun w =>
              LdS w ⟨w_, 6, none⟩ fun room_281 =>
              LdS w ⟨c_170, 0, none⟩ fun real_282 =>
              if (decide ((room_281.l : Int) < (real_282.l : Int))) = true then
                LdS w ⟨w_, 6, none⟩ fun room_283 =>
                New w (.cells #[.int .u8 0] 5) fun p284 w =>
                AppS 5 [.int .u8 0] 1 1 w room_283 ⟨some ⟨p284, 0, none⟩, 1, 1⟩ fun l285 w =>
                St1 w ⟨w_, 6, none⟩ (.slice l285.a l285.l l285.c) fun w =>
                LdS w ⟨w_, 7, none⟩ fun rw_286 =>
                New w (.cells #[.int .u8 0] 5) fun p287 w =>
                AppS 5 [.int .u8 0] 1 1 w rw_286 ⟨some ⟨p287, 0, none⟩, 1, 1⟩ fun l288 w =>
                St1 w ⟨w_, 7, none⟩ (.slice l288.a l288.l l288.c) fun w =>
                next280 (()) w
              else
                J278 w) (()) w) fun J289 =>
        Drew w fun w =>
        Hold w ⟨w_, 12, none⟩ 1 fun R290 =>
        LdS w ⟨w_, 12, none⟩ fun cods_291 =>
        Hold w ⟨p1, 2, none⟩ 1 fun R292 =>
        LdI .i64 w ⟨p1, 2, none⟩ fun B_293 =>
        Hold w ⟨w_, 12, none⟩ 1 fun R294 =>
        LdS w ⟨w_, 12, none⟩ fun cods_295 =>
        (S.towerexact_pick B_293 (cods_295.l : Int) w (fun r296 w =>
        After R290 w <|
        Ix cods_291.a cods_291.l r296 fun b297 o298 =>
        Hold w ⟨b297, o298 + Int.toNat r296 * 4, none⟩ 4 fun R299 =>
        LdS w ⟨b297, o298 + Int.toNat r296 * 4, none⟩ fun real_300 =>
        LdS w ⟨b297, o298 + Int.toNat r296 * 4 + 1, none⟩ fun want_301 =>
        LdStr w ⟨b297, o298 + Int.toNat r296 * 4 + 2, none⟩ fun src_302 =>
        LdB w ⟨b297, o298 + Int.toNat r296 * 4 + 3, none⟩ fun gone_303 =>
        New w (.cells #[.slice none 0 0, .slice none 0 0, .string ⟨#[]⟩, .bool false] 133) fun p304 w =>
        After R299 w <|
        After R294 w <|
        After R292 w <|
        After R290 w <|
        St1 w ⟨p304, 0, none⟩ (.slice real_300.a real_300.l real_300.c) fun w =>
        St1 w ⟨p304, 1, none⟩ (.slice want_301.a want_301.l want_301.c) fun w =>
        St1 w ⟨p304, 2, none⟩ (.string src_302) fun w =>
        St1 w ⟨p304, 3, none⟩ (.bool gone_303) fun w =>
        J289 p304 w)) ∧
        (New w (.cells #[.slice none 0 0, .slice none 0 0, .string ⟨#[]⟩, .bool false] 133) fun p305 w =>
        After R294 w <|
        After R292 w <|
        After R290 w <|
        S.towerexact_pick B_293 (cods_295.l : Int) w (fun r306 w =>
        After R290 w <|
        Ix cods_291.a cods_291.l r306 fun b307 o308 =>
        LdS w ⟨b307, o308 + Int.toNat r306 * 4, none⟩ fun real_309 =>
        LdS w ⟨b307, o308 + Int.toNat r306 * 4 + 1, none⟩ fun want_310 =>
        LdStr w ⟨b307, o308 + Int.toNat r306 * 4 + 2, none⟩ fun src_311 =>
        LdB w ⟨b307, o308 + Int.toNat r306 * 4 + 3, none⟩ fun gone_312 =>
        St1 w ⟨p305, 0, none⟩ (.slice real_309.a real_309.l real_309.c) fun w =>
        St1 w ⟨p305, 1, none⟩ (.slice want_310.a want_310.l want_310.c) fun w =>
        St1 w ⟨p305, 2, none⟩ (.string src_311) fun w =>
        St1 w ⟨p305, 3, none⟩ (.bool gone_312) fun w =>
        J289 p305 w))
def XX.drop (w_ p1 : Nat) (w : World) (K : Bool → World → Prop) : Prop :=
  LdS w ⟨w_, 12, none⟩ fun cods_313 =>
  if ((cods_313.l : Int) == 0) = true then
    K true w
  else
    Drew w fun w =>
    LdI .i64 w ⟨p1, 1, none⟩ fun A_314 =>
    LdS w ⟨w_, 12, none⟩ fun cods_315 =>
    S.towerexact_pick A_314 (cods_315.l : Int) w (fun r316 w =>
    LdS w ⟨w_, 12, none⟩ fun cods_317 =>
    Ix cods_317.a cods_317.l r316 fun b318 o319 =>
    LdS w ⟨b318, o319 + Int.toNat r316 * 4, none⟩ fun real_320 =>
    if (decide ((real_320.l : Int) > 0)) = true then
      Drew w fun w =>
      LdI .i64 w ⟨p1, 2, none⟩ fun B_321 =>
      LdS w ⟨w_, 12, none⟩ fun cods_322 =>
      Ix cods_322.a cods_322.l r316 fun b323 o324 =>
      LdS w ⟨b323, o324 + Int.toNat r316 * 4, none⟩ fun real_325 =>
      S.towerexact_pick B_321 (real_325.l : Int) w (fun r326 w =>
      Drew w fun w =>
      LdS w ⟨w_, 12, none⟩ fun cods_327 =>
      Ix cods_327.a cods_327.l r316 fun b328 o329 =>
      LdS w ⟨b328, o329 + Int.toNat r316 * 4, none⟩ fun real_330 =>
      LdI .i64 w ⟨p1, 3, none⟩ fun C_331 =>
      Ix real_330.a real_330.l r326 fun b332 o333 =>
      St1 w ⟨b332, o333 + Int.toNat r326 * 1, none⟩ (.int .u8 (U8 C_331)) fun w =>
      Drew w fun w =>
      LdS w ⟨w_, 12, none⟩ fun cods_334 =>
      Ix cods_334.a cods_334.l r316 fun b335 o336 =>
      LdS w ⟨b335, o336 + Int.toNat r316 * 4 + 1, none⟩ fun want_337 =>
      LdI .i64 w ⟨p1, 3, none⟩ fun C_338 =>
      Ix want_337.a want_337.l r326 fun b339 o340 =>
      St1 w ⟨b339, o340 + Int.toNat r326 * 1, none⟩ (.int .u8 (U8 C_338)) fun w =>
      LdS w ⟨w_, 12, none⟩ fun cods_341 =>
      Ix cods_341.a cods_341.l r316 fun b342 o343 =>
      St1 w ⟨b342, o343 + Int.toNat r316 * 4 + 3, none⟩ (.bool true) fun w =>
      K true w)
    else
      K true w)
section
variable {W0 w w' : World} {p q : Nat} {T T' : Nat → Tag} {d d' : Gh} {c : Nat} {s : Sl} {vs : List Value} {sz : Nat} {t : Tag} {X : Tag → Prop}
theorem OS.get {i : Nat} {K : Nat → Nat → Prop} (h : OS w s vs sz) (hi : i < s.l) (hk : ∀ g us, Blk w g us → (∀ m, m < vs.length → us[m]? = vs[m]?) → owns s g → K g 0) : Ix s.a s.l (i : Int) K := by
  rcases h with ⟨rfl, rfl⟩ | ⟨g, a, b, c, junk, d, e⟩
  · exact absurd hi (by simp)
  · exact ix a (by omega) (by omega) (hk g _ d (fun m hm => List.getElem?_append_left hm) a)
/-- The block and the cell of an element. -/
theorem OS.at1 {i : Nat} {v : Value} {K : Nat → Nat → Prop} (h : OS w s vs 1) (hi : vs[i]? = some v) (hk : ∀ g us, Blk w g us → us[0 + Int.toNat (i : Int) * 1]? = some v → owns s g → K g 0) : Ix s.a s.l (i : Int) K := by
  have hl := h.len
  obtain ⟨h1, _⟩ := List.getElem?_eq_some_iff.1 hi
  refine OS.get h (by omega) fun g us hb hu ho => hk g us hb ?_ ho
  rw [Int.toNat_natCast, Nat.mul_one, Nat.zero_add, hu i h1, hi]
theorem OS.lS {Ls : List Sl} {i : Nat} {x : Sl} {K : Sl → Prop} (h : OS w s (Ls.map slV) 1) (hi : Ls[i]? = some x) (hk : K x) : Ix s.a s.l (i : Int) fun b o => LdS w ⟨b, o + Int.toNat (i : Int) * 1, none⟩ K :=
  OS.at1 h (v := slV x) (by rw [List.getElem?_map, hi]; rfl) fun g us hb hu _ => ldS (a := x.a) (l := x.l) (c := x.c) hb hu hk
theorem OS.lP {qs : List Th} {i : Nat} {x : Th} {K : Nat → Prop} (h : OS w s (qs.map fun q => ptrV q.1) 1) (hi : qs[i]? = some x) (hk : K x.1) : Ix s.a s.l (i : Int) fun b o => LdP w ⟨b, o + Int.toNat (i : Int) * 1, none⟩ K :=
  OS.at1 h (v := ptrV x.1) (by rw [List.getElem?_map, hi]; rfl) fun g us hb hu _ => ldP (m := x.1) hb hu hk
/-- The four cells of a code. -/
theorem OS.lC {Cs : List Cd} {i : Nat} {x : Cd} {K : Nat → Nat → Prop} (h : OS w s (Cs.flatMap cdV) 4) (hi : Cs[i]? = some x) (hk : ∀ g us, Blk w g us → us[0 + Int.toNat (i : Int) * 4]? = some (slV x.re) → us[0 + Int.toNat (i : Int) * 4 + 1]? = some (slV x.wa) → us[0 + Int.toNat (i : Int) * 4 + 2]? = some (.string x.src) → us[0 + Int.toNat (i : Int) * 4 + 3]? = some (.bool x.gone) → owns s g → K g 0) : Ix s.a s.l (i : Int) K := by
  have hl := h.len
  obtain ⟨h1, _⟩ := List.getElem?_eq_some_iff.1 hi
  have hfl : (Cs.flatMap cdV).length = Cs.length * 4 := flat_length (c := 4) (fun _ => rfl) _
  have g4 : ∀ m, m < 4 → (Cs.flatMap cdV)[i * 4 + m]? = (cdV x)[m]? := fun m hm => by
    rw [flat_get (c := 4) (fun _ => rfl) _ _ _ hm, hi]; rfl
  refine OS.get h (by omega) fun g us hb hu ho => hk g us hb ?_ ?_ ?_ ?_ ho <;> rw [Int.toNat_natCast, Nat.zero_add, hu _ (by omega)]
  · exact g4 0 (by omega)
  · exact g4 1 (by omega)
  · exact g4 2 (by omega)
  · exact g4 3 (by omega)
theorem EL.len {n : Nat} (h : EL w T t s vs n) : s.l = n := by rcases h with ⟨rfl, _, h⟩ | ⟨b, rfl, _⟩ <;> simp [*]
theorem EL.cal {O : Nat → Prop} {es : List Int} (h : EL w T t s (ints es) es.length) (hn : ∀ b, O b → T b ≠ t) : CaL w O s es := by
  rcases h with ⟨rfl, h2, h3⟩ | ⟨b, rfl, h2, h3⟩
  · exact ⟨h3.symm, h3.symm, .inl (List.length_eq_zero_iff.1 h3)⟩
  · exact ⟨rfl, rfl, .inr ⟨b, rfl, h2, fun hb => hn b hb h3⟩⟩
theorem EL.rd {es : List Int} (h : EL w T t s (ints es) es.length) : RdS .i64 w s es := by
  rcases h with ⟨rfl, h2, h3⟩ | ⟨b, rfl, h2, h3⟩
  · exact ⟨h3.symm, .inl (List.length_eq_zero_iff.1 h3)⟩
  · exact RdS.ofI h2 rfl
theorem EL.rdB {es : List Nat} (h : EL w T t s (byts es) es.length) : RdS .u8 w s (es.map Int.ofNat) := by
  rcases h with ⟨rfl, h2, h3⟩ | ⟨b, rfl, h2, h3⟩
  · exact ⟨by simp [h3], .inl (by simp [List.length_eq_zero_iff.1 h3])⟩
  · exact RdS.ofB h2 rfl
theorem OS.rdI {es : List Int} (h : OS w s (ints es) 1) : RdS .i64 w s es := by
  have hl := h.len
  have hl : s.l = es.length := by simpa [ints] using hl.symm
  rcases h with ⟨rfl, h2⟩ | ⟨g, a, b, c, junk, d, e⟩
  · exact ⟨hl, .inl (List.length_eq_zero_iff.1 hl.symm)⟩
  · have := RdS.ofBlk (k := .i64) (zs := es) (n := s.l) (c := s.c) (o := 0) d (by rw [List.drop_zero, List.take_left' (by simp [ints]; omega)]; rfl) hl
    rw [← a] at this; exact this
theorem OS.rdB {es : List Nat} (h : OS w s (byts es) 1) : RdS .u8 w s (es.map Int.ofNat) := by
  have hl := h.len
  have hl : s.l = es.length := by simpa using hl.symm
  rcases h with ⟨rfl, h2⟩ | ⟨g, a, b, c, junk, d, e⟩
  · exact ⟨by simp [← hl], .inl (by simp [List.length_eq_zero_iff.1 hl.symm])⟩
  · have := RdS.ofBlk (k := .u8) (zs := es.map Int.ofNat) (n := s.l) (c := s.c) (o := 0) d (by rw [List.drop_zero, List.take_left' (by simp; omega), byts_int]) (by simpa using hl)
    rw [← a] at this; exact this
theorem Nums.up (h : Nums d c) (hc : c + 1 ≤ 1073741824) : Nums d (c + 1) :=
  { h with le := hc, lX := Nat.le_succ_of_le h.lX, lM := Nat.le_succ_of_le h.lM, lV := Nat.le_succ_of_le h.lV, lI := Nat.le_succ_of_le h.lI, lE := Nat.le_succ_of_le h.lE, lL := Nat.le_succ_of_le h.lL, lW := Nat.le_succ_of_le h.lW, lC := Nat.le_succ_of_le h.lC, lB := Nat.le_succ_of_le h.lB }
theorem Inv.up (h : Inv W0 w p T d c) (hc : c + 1 ≤ 1073741824) : Inv W0 w p T d (c + 1) := { h with nums := h.nums.up hc }
theorem Inv.x (h : Inv W0 w p T d c) : OT w T (2, 0) d.x (d.Xs.map fun q => ptrV q.1) 1 := h.wo 2 (by omega) (by omega)
theorem Inv.m (h : Inv W0 w p T d c) : OT w T (3, 0) d.m (d.Ms.map fun q => ptrV q.1) 1 := h.wo 3 (by omega) (by omega)
theorem Inv.v (h : Inv W0 w p T d c) : OT w T (4, 0) d.v (d.Vs.map fun q => ptrV q.1) 1 := h.wo 4 (by omega) (by omega)
theorem Inv.inn (h : Inv W0 w p T d c) : OT w T (5, 0) d.inn (ints d.ins) 1 := h.wo 5 (by omega) (by omega)
theorem Inv.ls (h : Inv W0 w p T d c) : OT w T (6, 0) d.ls (d.Ls.map slV) 1 := h.wo 6 (by omega) (by omega)
theorem Inv.lw (h : Inv W0 w p T d c) : OT w T (7, 0) d.lw (d.Lw.map slV) 1 := h.wo 7 (by omega) (by omega)
theorem Inv.room (h : Inv W0 w p T d c) : OT w T (8, 0) d.room (byts d.rb) 1 := h.wo 8 (by omega) (by omega)
theorem Inv.rw_ (h : Inv W0 w p T d c) : OT w T (9, 0) d.rw_ (byts d.rb2) 1 := h.wo 9 (by omega) (by omega)
theorem Inv.cods (h : Inv W0 w p T d c) : OT w T (10, 0) d.cods (d.Cs.flatMap cdV) 4 := h.wo 10 (by omega) (by omega)
theorem Inv.xl (h : Inv W0 w p T d c) : d.x.l = d.Xs.length := by have := h.x.1.len; simp at this; omega
theorem Inv.ml (h : Inv W0 w p T d c) : d.m.l = d.Ms.length := by have := h.m.1.len; simp at this; omega
theorem Inv.vl (h : Inv W0 w p T d c) : d.v.l = d.Vs.length := by have := h.v.1.len; simp at this; omega
theorem Inv.il (h : Inv W0 w p T d c) : d.inn.l = d.ins.length := by have := h.inn.1.len; simp [ints] at this; omega
theorem Inv.lsl (h : Inv W0 w p T d c) : d.ls.l = d.Ls.length := by have := h.ls.1.len; simp at this; omega
theorem Inv.lwl (h : Inv W0 w p T d c) : d.lw.l = d.Lw.length := by have := h.lw.1.len; simp at this; omega
theorem Inv.rl (h : Inv W0 w p T d c) : d.room.l = d.rb.length := by have := h.room.1.len; simp at this; omega
theorem Inv.rwl (h : Inv W0 w p T d c) : d.rw_.l = d.rb2.length := by have := h.rw_.1.len; simp at this; omega
theorem Inv.cl (h : Inv W0 w p T d c) : d.cods.l = d.Cs.length := by
  have := h.cods.1.len
  rw [flat_length (c := 4) (fun _ => rfl)] at this
  omega
/-- The step's own record: a block of its own. -/
structure Op (w : World) (T : Nat → Tag) (q : Nat) (us : List Value) : Prop where
  b : Blk w q us
  t : T q = (50, 0)
theorem Op.mv {us : List Value} (h : Op w T q us) (M : Mv X T w T' w') (hX : ¬ X (50, 0)) : Op w' T' q us := ⟨M.blk h.b (by rw [h.t]; exact hX), by rw [M.t q h.b.lt]; exact h.t⟩
theorem Op.ext {us : List Value} (h : Op w T q us) (f : Fr 0 0 w w') : Op w' T q us := h.mv (X := fun _ => False) (Mv.new0 f) fun h => h
/-- One list of the caller's more. -/
theorem Inv.addL {x : Nat} {y : Sl} {es : List Int} {K : World → Prop} (h : Inv W0 w p T d (c + 1)) (n0 : Nums d c) (hF : Full d) (hx : Blk w x [slV y]) (hq : EL w T (23, d.Es.length) y (ints es) es.length) (hes : es.length ≤ 1073741824)
    (hK : ∀ s' w2 T2, Inv W0 w2 p T2 { d with ls := s', Ls := d.Ls ++ [y], Es := d.Es ++ [es] } (c + 1) → Mv (fun t => t = (6, 0) ∨ t = (1, 0)) T w T2 w2 → K w2) :
    AppS 22 [.slice none 0 0] 24 1 w d.ls ⟨some ⟨x, 0, none⟩, 1, 1⟩ fun l w => St1 w ⟨p, 4, none⟩ (.slice l.a l.l l.c) K := by
  have n1 := h.nums
  have e1 := n0.lL; have e2 := n0.lE; have e3 := n0.le; have e4 := h.lsl
  refine Inv.app (j := 6) (i := 4) (c' := c + 1) (D := fun s' => { d with ls := s', Ls := d.Ls ++ [y], Es := d.Es ++ [es] }) h (by omega) (by omega) rfl hx rfl rfl rfl (by omega) (by omega)
    (fun s' => by simp [outer]) (fun s' k h2 h8 hk => by rcases kc h2 h8 with rfl | rfl | rfl | rfl | rfl | rfl | rfl | rfl | rfl <;> first | rfl | exact absurd rfl hk) (fun s' => rfl)
    (fun s' w1 T1 M hl => { hl with l1 := (hl.l1.more es).app hF.l (hq.mv M (by simp)), l2 := hl.l2.more es })
    (fun s' => { n1 with lE := by simp; omega, lL := by simp; omega, es := fun e he => ?_ }) hK
  rcases List.mem_append.1 he with he | he
  · exact n1.es e he
  · rw [List.mem_singleton.1 he]; exact hes
/-- And what it must read as. -/
theorem Inv.addW {x : Nat} {y : Sl} {es : List Int} {Es0 : List (List Int)} {K : World → Prop} (h : Inv W0 w p T d (c + 1)) (hl0 : d.Lw.length = Es0.length) (hEs : d.Es = Es0 ++ [es]) (hc : Es0.length ≤ c) (hx : Blk w x [slV y]) (hq : EL w T (24, Es0.length) y (ints es) es.length)
    (hK : ∀ s' w2 T2, Inv W0 w2 p T2 { d with lw := s', Lw := d.Lw ++ [y] } (c + 1) → K w2) :
    AppS 22 [.slice none 0 0] 24 1 w d.lw ⟨some ⟨x, 0, none⟩, 1, 1⟩ fun l w => St1 w ⟨p, 5, none⟩ (.slice l.a l.l l.c) K := by
  have n1 := h.nums
  have e3 := n1.le; have e4 := h.lwl
  refine Inv.app (j := 7) (i := 5) (c' := c + 1) (D := fun s' => { d with lw := s', Lw := d.Lw ++ [y] }) h (by omega) (by omega) rfl hx rfl rfl rfl (by omega) (by omega)
    (fun s' => by simp [outer]) (fun s' k h2 h8 hk => by rcases kc h2 h8 with rfl | rfl | rfl | rfl | rfl | rfl | rfl | rfl | rfl <;> first | rfl | exact absurd rfl hk) (fun s' => rfl)
    (fun s' w1 T1 M hl => { hl with l2 := ?_ })
    (fun s' => { n1 with lW := by simp; omega }) fun s' w2 T2 h2 _ => hK s' w2 T2 h2
  have := hl.l2
  rw [hEs] at this
  show L1 ints w1 T1 24 (d.Lw ++ [y]) d.Es
  rw [hEs]
  exact this.app hl0 (hq.mv M (by simp))
/-- What a step leaves. -/
abbrev Done (W0 : World) (p c : Nat) (K : Bool → World → Prop) : Prop := ∀ w' T' d', Inv W0 w' p T' d' c → Full d' → K true w'
theorem eng_spec {K : Bool → World → Prop} (h : Inv W0 w p T d c) (hF : Full d) (hc : c + 1 ≤ 1073741824) (hK : Done W0 p (c + 1) K) : XX.eng p q w K := by
  unfold XX.eng
  have n0 := h.nums
  refine re_new fun w1 g O e1 z1 f1 => ?_
  have h1 := h.extT f1 (20, d.Xs.length)
  have t1 : ∀ b, O b → tagN T w (20, d.Xs.length) b = (20, d.Xs.length) := fun b hb => tagN_new T w _ (z1 b hb)
  generalize tagN T w (20, d.Xs.length) = T1 at *
  refine mnew_spec fun w2 m Om me2 z2 f2 => ?_
  have h2 := h1.extT f2 (21, d.Ms.length)
  have t2 : ∀ b, Om b → tagN T1 w1 (21, d.Ms.length) b = (21, d.Ms.length) := fun b hb => tagN_new T1 w1 _ (z2 b hb)
  obtain ⟨e2, t1⟩ := kdR.mv e1 t1 (Mv.new (X := fun _ => False) f2 (21, d.Ms.length)) fun h => h
  generalize tagN T1 w1 (21, d.Ms.length) = T2 at *
  refine ldS h2.rcd rfl (newB fun w3 c3 f3 s3 => ?_)
  have h3 := (h2.ext f3).up hc
  obtain ⟨e3, t1⟩ := kdR.mv e2 t1 (Mv.new0 (X := fun _ => False) f3) fun h => h
  obtain ⟨me3, t2⟩ := kdM.mv me2 t2 (Mv.new0 (X := fun _ => False) f3) fun h => h
  have a1 := n0.lX; have a2 := n0.lM; have a3 := n0.le; have a4 := h3.xl; have a5 := h3.ml
  refine Inv.app (j := 2) (i := 0) (c' := c + 1) (D := fun s' => { d with x := s', Xs := d.Xs ++ [(g, O)] }) h3 (by omega) (by omega) rfl c3 rfl rfl rfl (by show (d.x.l + 1) * 8 ≤ _; omega) (by omega)
    (fun s' => by simp [outer, ptrV]) (fun s' k h2 h8 hk => by rcases kc h2 h8 with rfl | rfl | rfl | rfl | rfl | rfl | rfl | rfl | rfl <;> first | rfl | exact absurd rfl hk) (fun s' => rfl)
    (fun s' u U M hl => { hl with xs := hl.xs.app (kdR.mv e3 t1 M (by simp)).1 (kdR.mv e3 t1 M (by simp)).2 })
    (fun s' => { h3.nums with lX := by simp; omega }) fun s4 w4 T4 h4 M4 => ?_
  obtain ⟨me4, t4⟩ := kdM.mv me3 t2 M4 (by simp)
  refine ldS h4.rcd rfl (newB fun w5 c5 f5 s5 => ?_)
  have h5 := h4.ext f5
  obtain ⟨me5, t5⟩ := kdM.mv me4 t4 (Mv.new0 (X := fun _ => False) f5) fun h => h
  refine Inv.app (j := 3) (i := 1) (c' := c + 1) (D := fun s' => { d with x := s4, Xs := d.Xs ++ [(g, O)], m := s', Ms := d.Ms ++ [(m, Om)] }) h5 (by omega) (by omega) rfl c5 rfl rfl rfl (by show (d.m.l + 1) * 8 ≤ _; omega) (by omega)
    (fun s' => by simp [outer, ptrV]) (fun s' k h2 h8 hk => by rcases kc h2 h8 with rfl | rfl | rfl | rfl | rfl | rfl | rfl | rfl | rfl <;> first | rfl | exact absurd rfl hk) (fun s' => rfl)
    (fun s' u U M hl => { hl with ms := hl.ms.app (kdM.mv me5 t5 M (by simp)).1 (kdM.mv me5 t5 M (by simp)).2 })
    (fun s' => { h5.nums with lM := by simp; omega }) fun s6 w6 T6 h6 M6 => hK w6 T6 _ h6 { hF with m := by simp [hF.m] }
theorem mach_spec {K : Bool → World → Prop} (h : Inv W0 w p T d c) (hF : Full d) (hc : c + 1 ≤ 1073741824) (hK : Done W0 p (c + 1) K) : XX.mach p q w K := by
  unfold XX.mach
  have n0 := h.nums
  refine machine_spec fun w1 m hh v1 f1 z1 z2 => ?_
  have h1 := h.extT f1 (22, d.Vs.length)
  have t1 : ∀ b, (b = m ∨ b = hh) → tagN T w (22, d.Vs.length) b = (22, d.Vs.length) := fun b hb => tagN_new T w _ (by rcases hb with rfl | rfl <;> assumption)
  have e1 : VEn w1 m (fun b => b = m ∨ b = hh) := ⟨hh, v1⟩
  generalize tagN T w (22, d.Vs.length) = T1 at *
  refine ldS h1.rcd rfl (newB fun w3 c3 f3 s3 => ?_)
  have h3 := (h1.ext f3).up hc
  obtain ⟨e3, t3⟩ := kdV.mv e1 t1 (Mv.new0 (X := fun _ => False) f3) fun h => h
  have a1 := n0.lV; have a3 := n0.le; have a4 := h3.vl
  refine Inv.app (j := 4) (i := 2) (c' := c + 1) (D := fun s' => { d with v := s', Vs := d.Vs ++ [(m, fun b => b = m ∨ b = hh)] }) h3 (by omega) (by omega) rfl c3 rfl rfl rfl (by show (d.v.l + 1) * 8 ≤ _; omega) (by omega)
    (fun s' => by simp [outer, ptrV]) (fun s' k h2 h8 hk => by rcases kc h2 h8 with rfl | rfl | rfl | rfl | rfl | rfl | rfl | rfl | rfl <;> first | rfl | exact absurd rfl hk) (fun s' => rfl)
    (fun s' u U M hl => { hl with vs := hl.vs.app (kdV.mv e3 t3 M (by simp)).1 (kdV.mv e3 t3 M (by simp)).2 })
    (fun s' => { h3.nums with lV := by simp; omega }) fun s4 w4 T4 h4 M4 => hK w4 T4 _ h4 { hF with }
theorem inn_spec {us : List Value} {a : Int} {K : Bool → World → Prop} (h : Inv W0 w p T d c) (hF : Full d) (hc : c + 1 ≤ 1073741824) (o : Op w T q us) (u1 : us[1]? = some (.int .i64 a)) (hK : Done W0 p (c + 1) K) : XX.inn p q w K := by
  unfold XX.inn
  have n0 := h.nums
  refine drew_ ?_
  unfold Hold
  have h1 := h.ext (Fr.refl 0 0 w).drew
  refine ldS h1.rcd rfl (ldI o.b.drew u1 (newB fun w2 c2 f2 s2 => ?_))
  have h2 := (h1.ext f2).up hc
  refine ⟨holdS h1.rcd h2.rcd, ?_⟩
  have a1 := n0.lI; have a3 := n0.le; have a4 := h2.il
  refine Inv.app (j := 5) (i := 3) (c' := c + 1) (D := fun s' => { d with inn := s', ins := d.ins ++ [a] }) h2 (by omega) (by omega) rfl c2 rfl rfl rfl (by show (d.inn.l + 1) * 8 ≤ _; omega) (by omega)
    (fun s' => by simp [outer, ints]) (fun s' k h2 h8 hk => by rcases kc h2 h8 with rfl | rfl | rfl | rfl | rfl | rfl | rfl | rfl | rfl <;> first | rfl | exact absurd rfl hk) (fun s' => rfl)
    (fun s' u U M hl => { hl with })
    (fun s' => { h2.nums with lI := by simp; omega }) fun s4 w4 T4 h4 M4 => hK w4 T4 _ h4 { hF with }
theorem clear_spec {K : Bool → World → Prop} (h : Inv W0 w p T d c) (hF : Full d) (hc : c + 1 ≤ 1073741824) (hK : Done W0 p (c + 1) K) : XX.clear p q w K := by
  unfold XX.clear
  have h2 := h.up hc
  refine Inv.st (i := 3) (c' := c + 1) (d' := { d with inn := ⟨none, 0, 0⟩, ins := [] }) h2 (by omega) rfl (fun w' ho k h1 h3 => ?_) (fun w' hl => { hl with }) { h2.nums with lI := by simp } fun w' h' _ => hK w' T _ h' { hF with }
  by_cases hk : k = 5
  · subst hk; exact ⟨OS.nil _ _, fun b hb => by simp [outer, owns] at hb⟩
  · have := ho k h1 h3
    rcases kc h1 h3 with rfl | rfl | rfl | rfl | rfl | rfl | rfl | rfl | rfl <;> first | exact this | exact absurd rfl hk
theorem list_spec {K : Bool → World → Prop} (h : Inv W0 w p T d c) (hF : Full d) (hc : c + 1 ≤ 1073741824) (hK : Done W0 p (c + 1) K) : XX.list p q w K := by
  unfold XX.list
  have n0 := h.nums
  have a1 := n0.lI; have a3 := n0.le
  refine ldS h.rcd rfl ?_
  refine copyInts_spec (OS.rdI h.inn.1) (by omega) fun w1 b1 f1 => ?_
  have h1 := h.extT f1 (23, d.Es.length)
  have el : EL w1 (tagN T w (23, d.Es.length)) (23, d.Es.length) ⟨some ⟨w.heap.size, 0, none⟩, d.ins.length, d.ins.length⟩ (ints d.ins) d.ins.length := .inr ⟨_, rfl, b1, tagN_new _ _ _ (Nat.le_refl _)⟩
  generalize tagN T w (23, d.Es.length) = T1 at *
  generalize hy : (⟨some ⟨w.heap.size, 0, none⟩, d.ins.length, d.ins.length⟩ : Sl) = y at *
  refine ldS h1.rcd rfl (newB fun w2 c2 f2 s2 => ?_)
  have h2 := (h1.ext f2).up hc
  have el2 := el.mv (X := fun _ => False) (Mv.new0 f2) fun h => h
  refine Inv.addL h2 n0 hF c2 el2 (by omega) fun s3 w3 T3 h3 M3 => ?_
  have el3 : EL w3 T3 (23, d.Es.length) y (ints d.ins) d.ins.length := el2.mv M3 (by simp)
  refine drew_ ?_
  unfold Hold
  have h3' := h3.ext (Fr.refl 0 0 w3).drew
  have el3' := el3.mv (X := fun _ => False) (Mv.new0 (Fr.refl 0 0 w3).drew) fun h => h
  refine ldS h3'.rcd rfl ?_
  refine copyInts_spec el3'.rd (by omega) fun w4 b4 f4 => ?_
  have h4 := h3'.extT f4 (24, d.Es.length)
  have el4 : EL w4 (tagN T3 w3.drew (24, d.Es.length)) (24, d.Es.length) ⟨some ⟨w3.drew.heap.size, 0, none⟩, d.ins.length, d.ins.length⟩ (ints d.ins) d.ins.length := .inr ⟨_, rfl, b4, tagN_new _ _ _ (Nat.le_refl _)⟩
  generalize tagN T3 w3.drew (24, d.Es.length) = T4 at *
  refine ⟨holdS h3'.rcd h4.rcd, newB fun w5 c5 f5 s5 => ?_⟩
  have h5 := h4.ext f5
  refine ⟨holdS h3'.rcd h5.rcd, ?_⟩
  refine Inv.addW (d := { d with ls := s3, Ls := d.Ls ++ [y], Es := d.Es ++ [d.ins] }) (Es0 := d.Es) h5 hF.w rfl n0.lE c5 (el4.mv (X := fun _ => False) (Mv.new0 f5) fun h => h) fun s6 w6 T6 h6 => hK w6 T6 _ h6 { hF with l := by simp [hF.l], w := by simp [hF.w] }
theorem nil_spec {K : Bool → World → Prop} (h : Inv W0 w p T d c) (hF : Full d) (hc : c + 1 ≤ 1073741824) (hK : Done W0 p (c + 1) K) : XX.nil p q w K := by
  unfold XX.nil
  have n0 := h.nums
  refine ldS h.rcd rfl (newB fun w2 c2 f2 s2 => ?_)
  have h2 := (h.ext f2).up hc
  refine Inv.addL (y := ⟨none, 0, 0⟩) (es := []) h2 n0 hF c2 (.inl ⟨rfl, rfl, rfl⟩) (by simp) fun s3 w3 T3 h3 M3 => ?_
  refine ldS h3.rcd rfl (newB fun w5 c5 f5 s5 => ?_)
  have h5 := h3.ext f5
  refine Inv.addW (d := { d with ls := s3, Ls := d.Ls ++ [⟨none, 0, 0⟩], Es := d.Es ++ [[]] }) (y := ⟨none, 0, 0⟩) (es := []) (Es0 := d.Es) h5 hF.w rfl n0.lE c5 (.inl ⟨rfl, rfl, rfl⟩) fun s6 w6 T6 h6 => hK w6 T6 _ h6 { hF with l := by simp [hF.l], w := by simp [hF.w] }
theorem name_spec {us : List Value} {a : Int} {K : Bool → World → Prop} (h : Inv W0 w p T d c) (hF : Full d) (hc : c + 1 ≤ 1073741824) (o : Op w T q us) (u1 : us[1]? = some (.int .i64 a)) (ra : rng a) (hK : Done W0 p (c + 1) K) : XX.name p q w K := by
  unfold XX.name
  have h2 := h.up hc
  refine ldI o.b u1 ?_
  refine Inv.st (i := 8) (c' := c + 1) (d' := { d with name := a }) h2 (by omega) rfl (fun w' ho k h1 h3 => ?_) (fun w' hl => { hl with }) { h2.nums with rm := ra } fun w' h' _ => hK w' T _ h' { hF with }
  have := ho k h1 h3
  rcases kc h1 h3 with rfl | rfl | rfl | rfl | rfl | rfl | rfl | rfl | rfl <;> exact this
theorem len_spec {us : List Value} {a b e : Int} {K : Bool → World → Prop} (h : Inv W0 w p T d c) (hF : Full d) (hc : c + 1 ≤ 1073741824) (o : Op w T q us) (u1 : us[1]? = some (.int .i64 a)) (u2 : us[2]? = some (.int .i64 b)) (u3 : us[3]? = some (.int .i64 e)) (ra : rng a) (rb : rng b) (re : rng e) (hK : Done W0 p (c + 1) K) : XX.len p q w K := by
  unfold XX.len
  have h2 := h.up hc
  refine ldI o.b u1 ?_
  refine Inv.st (i := 9) (c' := c + 1) (d' := { d with fr := a }) h2 (by omega) rfl (fun w' ho k h1 h3 => ?_) (fun w' hl => { hl with }) { h2.nums with rf := ra } fun w3 h3 M3 => ?_
  · have := ho k h1 h3
    rcases kc h1 h3 with rfl | rfl | rfl | rfl | rfl | rfl | rfl | rfl | rfl <;> exact this
  have o3 := o.mv M3 (by simp)
  refine ldI o3.b u2 ?_
  refine Inv.st (i := 10) (c' := c + 1) (d' := { d with fr := a, n := b }) h3 (by omega) rfl (fun w' ho k h1 h3 => ?_) (fun w' hl => { hl with }) { h3.nums with rn := rb } fun w4 h4 M4 => ?_
  · have := ho k h1 h3
    rcases kc h1 h3 with rfl | rfl | rfl | rfl | rfl | rfl | rfl | rfl | rfl <;> exact this
  have o4 := o3.mv M4 (by simp)
  refine ldI o4.b u3 ?_
  refine Inv.st (i := 11) (c' := c + 1) (d' := { d with fr := a, n := b, ex := e }) h4 (by omega) rfl (fun w' ho k h1 h3 => ?_) (fun w' hl => { hl with }) { h4.nums with rx := re } fun w5 h5 M5 => hK w5 T _ h5 { hF with }
  have := ho k h1 h3
  rcases kc h1 h3 with rfl | rfl | rfl | rfl | rfl | rfl | rfl | rfl | rfl <;> exact this
end
end Go.Proofs.Qxb6500562aGreat
