/- Functions of the program, told as conditions over the engine's primitives. Printed by dec.py. -/
import Derived.Test.YtbbjljhbiaeadaaProg
import Derived.Test.YtbbjljhbiaeadaaEn5
set_option linter.unusedSimpArgs false
set_option linter.unusedVariables false
set_option maxRecDepth 100000
namespace Go.Proofs.Ytbbjljhbiaeadaa
open Go.Bk

/- bulkhead/bulkheadlaw07.WheelFires -/
def F3 (a0 a1 a2 : Value) (w : World) (K : Value → World → Prop) : Prop :=
  pCall Try.prog 6 [a0, a1] w fun t28_1 w =>
  pCall Try.prog 6 [a0, a1] w fun t31_2 w =>
  pV (binV .lss a0 (.int .i64 0)) fun t33_3 =>
  pSC false t33_3 w (fun J1 =>
    pV (binV .gtr a0 (.int .i64 1099511627776)) fun t36_4 =>
    J1 t36_4 w)
  (fun t37_5 w =>
  pSC false t37_5 w (fun J2 =>
    pV (lenS a1) fun t40_6 =>
    pV (binV .gtr t40_6 (.int .i64 3000)) fun t41_7 =>
    J2 t41_7 w)
  (fun t42_8 w =>
  pSC false t42_8 w (fun J3 =>
    pV (lenS a2) fun t45_9 =>
    pV (binV .gtr t45_9 (.int .i64 3000)) fun t46_10 =>
    J3 t46_10 w)
  (fun t47_11 w =>
  pIf t47_11
  (pV (nilV .eql (isNilP t28_1 (.pointer none))) fun t49_12 =>
    pV (binV .lss a0 (.int .i64 0)) fun t51_13 =>
    pSC false t51_13 w (fun J4 =>
      pV (binV .gtr a0 (.int .i64 1099511627776)) fun t54_14 =>
      J4 t54_14 w)
    (fun t55_15 w =>
    pV (boolV .eql t49_12 t55_15) fun t56_16 =>
    K t56_16 w))
  (pV (nilV .eql (isNilP t28_1 (.pointer none))) fun t58_17 =>
    pSC false t58_17 w (fun J5 =>
      pV (nilV .eql (isNilP t31_2 (.pointer none))) fun t61_18 =>
      J5 t61_18 w)
    (fun t62_19 w =>
    pIf t62_19
    (K (.bool false) w)
    (pCall Try.prog 7 [t28_1, (.int .i64 1099511627776)] w fun t65_20 w =>
      pV (extV t65_20 0) fun t66_21 =>
      pV (extV t65_20 1) fun t67_22 =>
      pV (binV .neq t67_22 (.int .i64 0)) fun t69_23 =>
      pSC false t69_23 w (fun J6 =>
        pCall Try.prog 8 [t66_21, a0, (.int .i64 1099511627775)] w fun t73_24 w =>
        pV (unV .not t73_24) fun t74_25 =>
        J6 t74_25 w)
      (fun t75_26 w =>
      pSC false t75_26 w (fun J7 =>
        pCall Try.prog 9 [t28_1] w fun t78_27 w =>
        pV (binV .neq t78_27 (.int .i64 0)) fun t79_28 =>
        J7 t79_28 w)
      (fun t80_29 w =>
      pSC false t80_29 w (fun J8 =>
        pCall Try.prog 10 [t28_1] w fun t83_30 w =>
        pV (binV .neq t83_30 (.int .i64 1099511627776)) fun t84_31 =>
        J8 t84_31 w)
      (fun t85_32 w =>
      pIf t85_32
      (K (.bool false) w)
      (pLoop [(.int .i64 0)] w fun go9 vs9 w =>  -- slots 11
          pV (lenS t66_21) fun t88_33 =>
          pV (binV .lss (nth vs9 0) t88_33) fun t89_34 =>
          pIf t89_34
          (pV (idxV 2 t66_21 (nth vs9 0)) fun t97_35 =>
            pV (fldA 1 t97_35) fun t98_36 =>
            pV (ldV false 1 w t98_36) fun t99_37 =>
            pCall Try.prog 11 [a1, a0, t99_37] w fun t100_38 w =>
            pV (extV t100_38 0) fun t101_39 =>
            pV (extV t100_38 1) fun t102_40 =>
            pV (unV .not t102_40) fun t104_41 =>
            pSC false t104_41 w (fun J10 =>
              pV (idxV 2 t66_21 (nth vs9 0)) fun t109_42 =>
              pV (fldA 0 t109_42) fun t110_43 =>
              pV (ldV false 1 w t110_43) fun t111_44 =>
              pV (binV .neq t101_39 t111_44) fun t112_45 =>
              J10 t112_45 w)
            (fun t113_46 w =>
            pIf t113_46
            (K (.bool false) w)
            (pV (binV .add (nth vs9 0) (.int .i64 1)) fun t91_47 =>
              go9 [t91_47] w)))
          (pLoop [(.int .i64 0)] w fun go11 vs11 w =>  -- slots 14
              pV (lenS a1) fun t116_48 =>
              pV (binV .lss (nth vs11 0) t116_48) fun t117_49 =>
              pIf t117_49
              (pV (idxV 2 a1 (nth vs11 0)) fun t125_50 =>
                pV (fldA 1 t125_50) fun t126_51 =>
                pV (ldV false 1 w t126_51) fun t127_52 =>
                pCall Try.prog 11 [a1, a0, t127_52] w fun t128_53 w =>
                pV (extV t128_53 0) fun _ =>
                pV (extV t128_53 1) fun t130_55 =>
                pLoop [(.bool false), (.int .i64 0)] w fun go12 vs12 w =>  -- slots 17 18
                  pV (lenS t66_21) fun t133_56 =>
                  pV (binV .lss (nth vs12 1) t133_56) fun t134_57 =>
                  pIf t134_57
                  (pDraw w fun w =>
                    pSC false (nth vs12 0) w (fun J13 =>
                      pV (idxV 2 t66_21 (nth vs12 1)) fun t141_58 =>
                      pV (fldA 1 t141_58) fun t142_59 =>
                      pV (ldV false 1 w t142_59) fun t143_60 =>
                      pV (idxV 2 a1 (nth vs11 0)) fun t146_61 =>
                      pV (fldA 1 t146_61) fun t147_62 =>
                      pV (ldV false 1 w t147_62) fun t148_63 =>
                      pV (binV .eql t143_60 t148_63) fun t149_64 =>
                      J13 t149_64 w)
                    (fun t150_65 w =>
                    pV (binV .add (nth vs12 1) (.int .i64 1)) fun t136_66 =>
                    go12 [t150_65, t136_66] w))
                  (pV (boolV .neq t130_55 (nth vs12 0)) fun t153_67 =>
                    pIf t153_67
                    (K (.bool false) w)
                    (pV (binV .add (nth vs11 0) (.int .i64 1)) fun t119_68 =>
                      go11 [t119_68] w)))
              (pLoop [(.slice none 0 0), (.int .i64 0)] w fun go14 vs14 w =>  -- slots 19 20
                  pV (lenS a2) fun t156_69 =>
                  pV (binV .leq (nth vs14 1) t156_69) fun t157_70 =>
                  pIf t157_70
                  (pJoin (fun J15 =>
                      pV (lenS a2) fun t162_71 =>
                      pV (binV .lss (nth vs14 1) t162_71) fun t163_72 =>
                      pIf t163_72
                      (pCall Try.prog 10 [t31_2] w fun t165_73 w =>
                        pDraw w fun w =>
                        pV (idxV 1 a2 (nth vs14 1)) fun t168_74 =>
                        pV (ldV false 1 w t168_74) fun t169_75 =>
                        pV (binV .geq t169_75 (.int .i64 0)) fun t170_76 =>
                        pSC true t170_76 w (fun J16 =>
                          pV (idxV 1 a2 (nth vs14 1)) fun t174_77 =>
                          pV (ldV false 1 w t174_77) fun t175_78 =>
                          pKept [(false, 1, t174_77)] w (fun J17 =>
                            pCall Try.prog 10 [t31_2] w fun t177_80 w =>
                            J17 t177_80 w)
                          (fun t177_79 w =>
                          pV (binV .sub (.int .i64 1099511627776) t177_79) fun t178_81 =>
                          pV (binV .leq t175_78 t178_81) fun t179_82 =>
                          J16 t179_82 w))
                        (fun t180_83 w =>
                        pIf t180_83
                        (pDraw w fun w =>
                          pV (idxV 1 a2 (nth vs14 1)) fun t185_84 =>
                          pV (ldV false 1 w t185_84) fun t186_85 =>
                          pKept [(false, 1, t185_84)] w (fun J18 =>
                            pCall Try.prog 10 [t31_2] w fun t182_87 w =>
                            J18 t182_87 w)
                          (fun t182_86 w =>
                          pV (binV .add t182_86 t186_85) fun t187_88 =>
                          J15 [t187_88] w))
                        (J15 [t165_73] w)))
                      (J15 [(.int .i64 1099511627776)] w))
                    (fun vs15 w =>
                      pCall Try.prog 12 [t31_2] w fun t190_89 w =>
                      pV (extV t190_89 0) fun t191_90 =>
                      pV (extV t190_89 1) fun t192_91 =>
                      pCall Try.prog 7 [t31_2, (nth vs15 0)] w fun t196_92 w =>
                      pV (extV t196_92 0) fun t197_93 =>
                      pV (extV t196_92 1) fun t198_94 =>
                      pV (binV .neq t198_94 (.int .i64 0)) fun t200_95 =>
                      pSC false t200_95 w (fun J19 =>
                        pV (lenS (nth vs14 0)) fun t204_96 =>
                        pV (lenS t66_21) fun t206_97 =>
                        pV (binV .lss t204_96 t206_97) fun t207_98 =>
                        pV (boolV .neq t192_91 t207_98) fun t208_99 =>
                        J19 t208_99 w)
                      (fun t209_100 w =>
                      pSC false t209_100 w (fun J20 =>
                        pSC true t192_91 w (fun J21 =>
                          pV (lenS (nth vs14 0)) fun t216_101 =>
                          pV (idxV 2 t66_21 t216_101) fun t217_102 =>
                          pV (fldA 0 t217_102) fun t218_103 =>
                          pV (ldV false 1 w t218_103) fun t219_104 =>
                          pV (binV .neq t191_90 t219_104) fun t220_105 =>
                          J21 t220_105 w)
                        (fun t221_106 w =>
                        J20 t221_106 w))
                      (fun t222_107 w =>
                      pSC false t222_107 w (fun J22 =>
                        pV (lenS t197_93) fun t225_108 =>
                        pV (binV .gtr t225_108 (.int .i64 0)) fun t226_109 =>
                        pSC true t226_109 w (fun J23 =>
                          pV (idxV 2 t197_93 (.int .i64 0)) fun t229_110 =>
                          pV (fldA 0 t229_110) fun t230_111 =>
                          pV (ldV false 1 w t230_111) fun t231_112 =>
                          pV (binV .neq t231_112 t191_90) fun t233_113 =>
                          J23 t233_113 w)
                        (fun t234_114 w =>
                        J22 t234_114 w))
                      (fun t235_115 w =>
                      pIf t235_115
                      (K (.bool false) w)
                      (pE (semE Try.prog (Builtin.append_ #[22, 22] 22 #[(nth vs14 0), t197_93]) w) fun t238_116 w =>
                        pV (lenS t238_116) fun t240_117 =>
                        pV (lenS t66_21) fun t242_118 =>
                        pV (binV .gtr t240_117 t242_118) fun t243_119 =>
                        pIf t243_119
                        (K (.bool false) w)
                        (pV (binV .add (nth vs14 1) (.int .i64 1)) fun t159_120 =>
                          go14 [t238_116, t159_120] w)))))))
                  (pCall Try.prog 13 [(nth vs14 0), t66_21] w fun t246_121 w =>
                    K t246_121 w)))))))))))))

def an3 : An := (.seq (.reg [] (.one .nil)) (.seq (.reg [] (.one (.one (.one (.one .nil))))) (.seq (.reg [] (.one (.one (.one (.one .nil))))) (.seq (.seq (.reg [] (.one (.one (.one (.sc false (.one (.one .nil)) (.one (.sc false (.one (.one (.one .nil))) (.one (.sc false (.one (.one (.one .nil))) .nil))))))))) (.cond (.seq (.reg [] (.one (.one (.one (.one (.one (.sc false (.one (.one .nil)) (.one (.one .nil))))))))) .leaf) .leaf)) (.seq (.seq (.reg [] (.one (.one (.one (.sc false (.one (.one .nil)) .nil))))) (.cond (.seq (.reg [] (.one .nil)) .leaf) .leaf)) (.seq (.reg [] (.one (.one (.one (.one (.one (.one (.one .nil)))))))) (.seq (.seq (.reg [] (.one (.one (.one (.sc false (.one (.one (.one (.one .nil)))) (.one (.sc false (.one (.one (.one .nil))) (.one (.sc false (.one (.one (.one .nil))) .nil))))))))) (.cond (.seq (.reg [] (.one .nil)) .leaf) .leaf)) (.seq (.seq (.reg [] (.one .nil)) (.blk (.loop [11] (.seq (.seq (.reg [] (.one (.one (.one (.one .nil))))) (.cond .leaf .leaf)) (.seq (.blk (.seq (.reg [] (.one (.one (.one (.one (.one (.one (.one (.one (.one (.one (.one (.one (.one .nil)))))))))))))) (.seq (.reg [] (.one (.one (.one (.sc false (.one (.one (.one (.one (.one (.one (.one .nil))))))) .nil))))) (.cond (.seq (.reg [] (.one .nil)) .leaf) .leaf)))) (.reg [] (.one (.one (.one .nil))))))))) (.seq (.seq (.reg [] (.one .nil)) (.blk (.loop [14] (.seq (.seq (.reg [] (.one (.one (.one (.one .nil))))) (.cond .leaf .leaf)) (.seq (.blk (.seq (.reg [] (.one (.one (.one (.one (.one (.one (.one (.one (.one (.one (.one (.one (.one .nil)))))))))))))) (.seq (.reg [] (.one .nil)) (.seq (.seq (.reg [] (.one .nil)) (.blk (.loop [17, 18] (.seq (.seq (.reg [] (.one (.one (.one (.one .nil))))) (.cond .leaf .leaf)) (.seq (.blk (.reg [0, 1, 3, 3, 15, 31, 63, 3, 3, 387, 899, 1923, 4095, 8191, 16383] (.one (.one (.sc false (.one (.one (.one (.one (.one (.one (.one (.one (.one (.one (.one .nil))))))))))) (.one .nil)))))) (.reg [] (.one (.one (.one .nil))))))))) (.seq (.reg [] (.one (.one (.one .nil)))) (.cond (.seq (.reg [] (.one .nil)) .leaf) .leaf)))))) (.reg [] (.one (.one (.one .nil))))))))) (.seq (.reg [] (.one .nil)) (.seq (.seq (.reg [] (.one .nil)) (.blk (.loop [19, 20] (.seq (.seq (.reg [] (.one (.one (.one (.one .nil))))) (.cond .leaf .leaf)) (.seq (.blk (.seq (.reg [] (.one .nil)) (.join [21] (.seq (.reg [] (.one (.one (.one (.one .nil))))) (.cond (.seq (.reg [] (.one (.one (.one .nil)))) (.seq (.regp [0, 1, 2, 3, 4, 5, 6, 7, 8, 9, 10, 11, 12, 13, 14] [0, 0, 3, 7, 15, 31, 63, 63, 255, 511, 63, 1087, 3135, 8191, 16383] (.one (.one (.one (.one (.one (.one (.sc true (.one (.one (.one (.one (.one (.onek [9] (.one (.one .nil)))))))) .nil)))))))) (.cond (.regp [0, 2, 3, 4, 5, 1, 6, 7] [0, 1, 0, 0, 12, 28, 63, 127] (.one (.one (.one (.one (.one (.onek [5] (.one (.one .nil))))))))) .leaf))) .leaf)) (.seq (.reg [] (.one (.one (.one (.one (.one (.one (.one .nil)))))))) (.seq (.reg [] (.one (.one (.one (.one (.one (.one (.one (.one .nil))))))))) (.seq (.seq (.reg [] (.one (.one (.one (.sc false (.one (.one (.one (.one (.one (.one (.one .nil))))))) (.one (.sc false (.one (.one (.sc true (.one (.one (.one (.one (.one (.one (.one (.one .nil)))))))) .nil))) (.one (.sc false (.one (.one (.one (.one (.sc true (.one (.one (.one (.one (.one (.one .nil)))))) .nil))))) .nil))))))))) (.cond (.seq (.reg [] (.one .nil)) .leaf) .leaf)) (.seq (.reg [] (.one (.one (.one (.one .nil))))) (.seq (.reg [] (.one (.one (.one (.one (.one .nil)))))) (.cond (.seq (.reg [] (.one .nil)) .leaf) .leaf))))))))) (.reg [] (.one (.one (.one .nil))))))))) (.seq (.reg [] (.one (.one (.one (.one .nil))))) .leaf))))))))))))

theorem F3_eq : @F3 = fun a0 a1 a2 w K => vcFun Try.prog an3 (Try.f3.body.getD .skip) Try.f3.results.toList 3 [a0, a1, a2] w K := by kernel_rfl

theorem F3_calls {a0 a1 a2 : Value} {w : World} {K : Value → World → Prop} (h : F3 a0 a1 a2 w K) : Calls Try.prog 3 #[a0, a1, a2] w (retK K) := by
  rw [F3_eq] at h
  exact calls_of_vc (f := 3) (fn := Try.f3) (args := [a0, a1, a2]) Try.func3 (by kernel_rfl) (by kernel_rfl) rfl (by kernel_rfl) h

theorem F3_pc {a0 a1 a2 : Value} {w : World} {K : Value → World → Prop} (h : F3 a0 a1 a2 w K) : pCall Try.prog 3 [a0, a1, a2] w K := by
  exact pCall_of (fn := Try.f3) (c := Try.f3.body.getD .skip) Try.func3 (by kernel_rfl) (by kernel_rfl) (F3_calls h)

/- bulkhead/bulkheadlaw07.WheelForgets -/
def F4 (a0 a1 a2 a3 a4 : Value) (w : World) (K : Value → World → Prop) : Prop :=
  pCall Try.prog 6 [a0, a1] w fun t28_1 w =>
  pCall Try.prog 6 [a0, a1] w fun t31_2 w =>
  pV (nilV .eql (isNilP t28_1 (.pointer none))) fun t33_3 =>
  pSC false t33_3 w (fun J1 =>
    pV (nilV .eql (isNilP t31_2 (.pointer none))) fun t36_4 =>
    J1 t36_4 w)
  (fun t37_5 w =>
  pSC false t37_5 w (fun J2 =>
    pV (lenS a1) fun t40_6 =>
    pV (binV .gtr t40_6 (.int .i64 3000)) fun t41_7 =>
    J2 t41_7 w)
  (fun t42_8 w =>
  pIf t42_8
  (pV (binV .lss a0 (.int .i64 0)) fun t44_9 =>
    pSC false t44_9 w (fun J3 =>
      pV (binV .gtr a0 (.int .i64 1099511627776)) fun t47_10 =>
      J3 t47_10 w)
    (fun t48_11 w =>
    pSC false t48_11 w (fun J4 =>
      pV (nilV .neq (isNilP t28_1 (.pointer none))) fun t51_12 =>
      pSC true t51_12 w (fun J5 =>
        pV (nilV .neq (isNilP t31_2 (.pointer none))) fun t54_13 =>
        J5 t54_13 w)
      (fun t55_14 w =>
      J4 t55_14 w))
    (fun t56_15 w =>
    K t56_15 w)))
  (pCall Try.prog 14 [t28_1, a2] w fun t60_16 w =>
    pV (extV t60_16 0) fun t61_17 =>
    pV (extV t60_16 1) fun t62_18 =>
    pCall Try.prog 9 [t28_1] w fun t64_19 w =>
    pJoin (fun J6 =>
      pIf a4
      (pCall Try.prog 15 [t28_1, a2, a3] w fun t69_20 w =>
        pV (binV .eql t69_20 (.int .i64 0)) fun t71_21 =>
        pV (bldV #[(.int .i64 0), (.int .i64 0)] #[(0, 1), (1, 1)] [(0, a3), (1, a2)]) fun t74_22 =>
        pCall Try.prog 16 [t74_22, a0] w fun t76_23 w =>
        pV (boolV .neq t71_21 t76_23) fun t77_24 =>
        pIf t77_24
        (K (.bool false) w)
        (pV (binV .neq t69_20 (.int .i64 0)) fun t79_25 =>
          pIf t79_25
          (pCall Try.prog 14 [t28_1, a2] w fun t83_26 w =>
            pV (extV t83_26 0) fun t84_27 =>
            pV (extV t83_26 1) fun t85_28 =>
            pV (binV .eql t84_27 t61_17) fun t88_29 =>
            pSC true t88_29 w (fun J7 =>
              pV (boolV .eql t85_28 t62_18) fun t92_30 =>
              J7 t92_30 w)
            (fun t93_31 w =>
            pSC true t93_31 w (fun J8 =>
              pCall Try.prog 9 [t28_1] w fun t96_32 w =>
              pV (binV .eql t96_32 t64_19) fun t98_33 =>
              J8 t98_33 w)
            (fun t99_34 w =>
            K t99_34 w)))
          (J6 [] w)))
      (pCall Try.prog 17 [t28_1, a2] w fun t102_35 w =>
        pV (boolV .neq t102_35 t62_18) fun t104_36 =>
        pSC false t104_36 w (fun J9 =>
          pCall Try.prog 17 [t28_1, a2] w fun t108_37 w =>
          J9 t108_37 w)
        (fun t109_38 w =>
        pIf t109_38
        (K (.bool false) w)
        (J6 [] w))))
    (fun vs6 w =>
      pCall Try.prog 7 [t28_1, (.int .i64 1099511627776)] w fun t112_39 w =>
      pV (extV t112_39 0) fun t113_40 =>
      pV (extV t112_39 1) fun _ =>
      pCall Try.prog 7 [t31_2, (.int .i64 1099511627776)] w fun t117_42 w =>
      pV (extV t117_42 0) fun t118_43 =>
      pV (extV t117_42 1) fun _ =>
      pLoop [(.int .i64 0), (.int .i64 0), (.int .i64 0)] w fun go10 vs10 w =>  -- slots 23 24 25
        pV (lenS t113_40) fun t122_45 =>
        pV (binV .lss (nth vs10 2) t122_45) fun t123_46 =>
        pIf t123_46
        (pJoin (fun J11 =>
            pV (idxV 2 t113_40 (nth vs10 2)) fun t128_47 =>
            pV (fldA 1 t128_47) fun t129_48 =>
            pV (ldV false 1 w t129_48) fun t130_49 =>
            pV (binV .eql t130_49 a2) fun t132_50 =>
            pIf t132_50
            (pV (unV .not a4) fun t134_51 =>
              pSC false t134_51 w (fun J12 =>
                pV (idxV 2 t113_40 (nth vs10 2)) fun t138_52 =>
                pV (fldA 0 t138_52) fun t139_53 =>
                pV (ldV false 1 w t139_53) fun t140_54 =>
                pV (binV .neq t140_54 a3) fun t142_55 =>
                J12 t142_55 w)
              (fun t143_56 w =>
              pIf t143_56
              (K (.bool false) w)
              (pV (binV .add (nth vs10 1) (.int .i64 1)) fun t145_57 =>
                J11 [(nth vs10 0), t145_57] w)))
            (pLoop [(nth vs10 0)] w fun go13 vs13 w =>  -- slots 23
                pV (lenS t118_43) fun t148_58 =>
                pV (binV .lss (nth vs13 0) t148_58) fun t149_59 =>
                pSC true t149_59 w (fun J14 =>
                  pV (idxV 2 t118_43 (nth vs13 0)) fun t153_60 =>
                  pV (fldA 1 t153_60) fun t154_61 =>
                  pV (ldV false 1 w t154_61) fun t155_62 =>
                  pV (binV .eql t155_62 a2) fun t157_63 =>
                  J14 t157_63 w)
                (fun t158_64 w =>
                pIf t158_64
                (pV (binV .add (nth vs13 0) (.int .i64 1)) fun t160_65 =>
                  go13 [t160_65] w)
                (pDraw w fun w =>
                  pV (lenS t118_43) fun t163_66 =>
                  pV (binV .geq (nth vs13 0) t163_66) fun t164_67 =>
                  pSC false t164_67 w (fun J15 =>
                    pV (idxV 2 t118_43 (nth vs13 0)) fun t168_68 =>
                    pV (ldV true 2 w t168_68) fun t169_69 =>
                    pV (idxV 2 t113_40 (nth vs10 2)) fun t172_70 =>
                    pV (ldV true 2 w t172_70) fun t173_71 =>
                    pV (dry Try.prog (eqS .neq 34 false false t169_69 t173_71)) fun t174_72 =>
                    J15 t174_72 w)
                  (fun t175_73 w =>
                  pIf t175_73
                  (K (.bool false) w)
                  (pV (binV .add (nth vs13 0) (.int .i64 1)) fun t177_74 =>
                    J11 [t177_74, (nth vs10 1)] w))))))
          (fun vs11 w =>
            pV (binV .add (nth vs10 2) (.int .i64 1)) fun t125_75 =>
            go10 [(nth vs11 0), (nth vs11 1), t125_75] w))
        (pLoop [(nth vs10 0)] w fun go16 vs16 w =>  -- slots 23
            pV (lenS t118_43) fun t180_76 =>
            pV (binV .lss (nth vs16 0) t180_76) fun t181_77 =>
            pSC true t181_77 w (fun J17 =>
              pV (idxV 2 t118_43 (nth vs16 0)) fun t185_78 =>
              pV (fldA 1 t185_78) fun t186_79 =>
              pV (ldV false 1 w t186_79) fun t187_80 =>
              pV (binV .eql t187_80 a2) fun t189_81 =>
              J17 t189_81 w)
            (fun t190_82 w =>
            pIf t190_82
            (pV (binV .add (nth vs16 0) (.int .i64 1)) fun t192_83 =>
              go16 [t192_83] w)
            (pV (lenS t118_43) fun t195_84 =>
              pV (binV .eql (nth vs16 0) t195_84) fun t196_85 =>
              pSC true t196_85 w (fun J18 =>
                pV (lenS t118_43) fun t199_86 =>
                pV (binV .eql t199_86 t64_19) fun t201_87 =>
                J18 t201_87 w)
              (fun t202_88 w =>
              pSC true t202_88 w (fun J19 =>
                pV (binV .eql (nth vs10 1) (.int .i64 1)) fun t205_89 =>
                pV (boolV .eql t205_89 a4) fun t207_90 =>
                J19 t207_90 w)
              (fun t208_91 w =>
              K t208_91 w)))))))))

def an4 : An := (.seq (.reg [] (.one .nil)) (.seq (.reg [] (.one (.one (.one (.one .nil))))) (.seq (.reg [] (.one (.one (.one (.one .nil))))) (.seq (.seq (.reg [] (.one (.one (.one (.sc false (.one (.one .nil)) (.one (.sc false (.one (.one (.one .nil))) .nil))))))) (.cond (.seq (.reg [] (.one (.one (.one (.sc false (.one (.one .nil)) (.one (.sc false (.one (.one (.one (.sc true (.one (.one .nil)) .nil)))) (.one .nil)))))))) .leaf) .leaf)) (.seq (.reg [] (.one (.one (.one (.one (.one (.one (.one (.one .nil))))))))) (.seq (.reg [] (.one (.one (.one .nil)))) (.join [] (.seq (.reg [] (.one .nil)) (.cond (.seq (.reg [] (.one (.one (.one (.one (.one .nil)))))) (.seq (.seq (.reg [] (.one (.one (.one (.one (.one (.one (.one (.one .nil))))))))) (.cond (.seq (.reg [] (.one .nil)) .leaf) .leaf)) (.seq (.reg [] (.one (.one .nil))) (.cond (.seq (.reg [] (.one (.one (.one (.one (.one (.one (.one (.one .nil))))))))) (.seq (.reg [] (.one (.one (.one (.one (.sc true (.one (.one (.one .nil))) (.one (.sc true (.one (.one (.one (.one .nil)))) (.one .nil))))))))) .leaf)) .leaf)))) (.seq (.reg [] (.one (.one (.one (.one (.one (.one (.sc false (.one (.one (.one .nil))) .nil)))))))) (.cond (.seq (.reg [] (.one .nil)) .leaf) .leaf)))) (.seq (.reg [] (.one (.one (.one (.one (.one (.one (.one .nil)))))))) (.seq (.reg [] (.one (.one (.one (.one (.one (.one (.one .nil)))))))) (.seq (.reg [] (.one .nil)) (.seq (.reg [] (.one .nil)) (.seq (.seq (.reg [] (.one .nil)) (.blk (.loop [23, 24, 25] (.seq (.seq (.reg [] (.one (.one (.one (.one .nil))))) (.cond .leaf .leaf)) (.seq (.blkJ [23, 24] (.seq (.seq (.reg [] (.one (.one (.one (.one (.one (.one (.one .nil)))))))) (.cond (.seq (.seq (.reg [] (.one (.one (.one (.sc false (.one (.one (.one (.one (.one (.one (.one .nil))))))) .nil))))) (.cond (.seq (.reg [] (.one .nil)) .leaf) .leaf)) (.seq (.reg [] (.one (.one (.one .nil)))) .leaf)) .leaf)) (.seq (.blk (.loop [23] (.seq (.seq (.reg [] (.one (.one (.one (.one (.one (.sc true (.one (.one (.one (.one (.one (.one (.one .nil))))))) .nil))))))) (.cond .leaf .leaf)) (.blk (.reg [] (.one (.one (.one .nil)))))))) (.seq (.seq (.reg [0, 0, 2, 7, 15, 31, 31, 127, 255, 31, 31, 1567, 3615, 8191, 16383] (.one (.one (.one (.one (.one (.sc false (.one (.one (.one (.one (.one (.one (.one (.one (.one .nil))))))))) .nil))))))) (.cond (.seq (.reg [] (.one .nil)) .leaf) .leaf)) (.reg [] (.one (.one (.one .nil)))))))) (.reg [] (.one (.one (.one .nil))))))))) (.seq (.blk (.loop [23] (.seq (.seq (.reg [] (.one (.one (.one (.one (.one (.sc true (.one (.one (.one (.one (.one (.one (.one .nil))))))) .nil))))))) (.cond .leaf .leaf)) (.blk (.reg [] (.one (.one (.one .nil)))))))) (.seq (.reg [] (.one (.one (.one (.one (.one (.sc true (.one (.one (.one (.one .nil)))) (.one (.sc true (.one (.one (.one (.one .nil)))) (.one .nil)))))))))) .leaf))))))))))))))

theorem F4_eq : @F4 = fun a0 a1 a2 a3 a4 w K => vcFun Try.prog an4 (Try.f4.body.getD .skip) Try.f4.results.toList 5 [a0, a1, a2, a3, a4] w K := by kernel_rfl

theorem F4_calls {a0 a1 a2 a3 a4 : Value} {w : World} {K : Value → World → Prop} (h : F4 a0 a1 a2 a3 a4 w K) : Calls Try.prog 4 #[a0, a1, a2, a3, a4] w (retK K) := by
  rw [F4_eq] at h
  exact calls_of_vc (f := 4) (fn := Try.f4) (args := [a0, a1, a2, a3, a4]) Try.func4 (by kernel_rfl) (by kernel_rfl) rfl (by kernel_rfl) h

theorem F4_pc {a0 a1 a2 a3 a4 : Value} {w : World} {K : Value → World → Prop} (h : F4 a0 a1 a2 a3 a4 w K) : pCall Try.prog 4 [a0, a1, a2, a3, a4] w K := by
  exact pCall_of (fn := Try.f4) (c := Try.f4.body.getD .skip) Try.func4 (by kernel_rfl) (by kernel_rfl) (F4_calls h)

/- bulkhead/bulkheadlaw07.WheelExact -/
def F5 (a0 a1 a2 : Value) (w : World) (K : Value → World → Prop) : Prop :=
  pCall Try.prog 18 [a0] w fun t25_1 w =>
  pV (extV t25_1 0) fun t26_2 =>
  pV (extV t25_1 1) fun t27_3 =>
  pCall Try.prog 18 [a1] w fun t30_4 w =>
  pV (extV t30_4 0) fun t31_5 =>
  pV (extV t30_4 1) fun t32_6 =>
  pCall Try.prog 19 [a0] w fun t35_7 w =>
  pV (extV t35_7 0) fun t36_8 =>
  pV (extV t35_7 1) fun t37_9 =>
  pE (boxE 47 (.agg #[(.int .i64 0), (.slice none 0 0)]) w) fun t11_10 w =>
  pU (stE 2 t11_10 t36_8 w) fun w =>
  pCall Try.prog 19 [a1] w fun t40_11 w =>
  pV (extV t40_11 0) fun t41_12 =>
  pV (extV t40_11 1) fun t42_13 =>
  pE (boxE 47 (.agg #[(.int .i64 0), (.slice none 0 0)]) w) fun t13_14 w =>
  pU (stE 2 t13_14 t41_12 w) fun w =>
  pV (binV .neq t27_3 t37_9) fun t45_15 =>
  pSC false t45_15 w (fun J1 =>
    pV (binV .neq t32_6 t42_13) fun t49_16 =>
    J1 t49_16 w)
  (fun t50_17 w =>
  pSC false t50_17 w (fun J2 =>
    pV (nilV .eql (isNilP t26_2 (.pointer none))) fun t53_18 =>
    pV (binV .neq t37_9 (.int .i64 0)) fun t55_19 =>
    pV (boolV .neq t53_18 t55_19) fun t56_20 =>
    J2 t56_20 w)
  (fun t57_21 w =>
  pSC false t57_21 w (fun J3 =>
    pV (nilV .eql (isNilP t31_5 (.pointer none))) fun t60_22 =>
    pV (binV .neq t42_13 (.int .i64 0)) fun t62_23 =>
    pV (boolV .neq t60_22 t62_23) fun t63_24 =>
    J3 t63_24 w)
  (fun t64_25 w =>
  pIf t64_25
  (K (.bool false) w)
  (pV (nilV .eql (isNilP t26_2 (.pointer none))) fun t66_26 =>
    pSC false t66_26 w (fun J4 =>
      pV (nilV .eql (isNilP t31_5 (.pointer none))) fun t69_27 =>
      J4 t69_27 w)
    (fun t70_28 w =>
    pSC false t70_28 w (fun J5 =>
      pV (lenS a2) fun t73_29 =>
      pV (binV .gtr t73_29 (.int .i64 3000)) fun t74_30 =>
      J5 t74_30 w)
    (fun t75_31 w =>
    pIf t75_31
    (K (.bool true) w)
    (pV (ldV true 2 w t11_10) fun t77_32 =>
      pV (bldV #[(.pointer none), (.int .i64 0), (.slice none 0 0)] #[(0, 1), (1, 2)] [(0, t26_2), (1, t77_32)]) fun t78_33 =>
      pE (boxE 51 (.agg #[(.pointer none), (.int .i64 0), (.slice none 0 0)]) w) fun t15_34 w =>
      pU (stE 3 t15_34 t78_33 w) fun w =>
      pV (ldV true 2 w t13_14) fun t80_35 =>
      pV (bldV #[(.pointer none), (.int .i64 0), (.slice none 0 0)] #[(0, 1), (1, 2)] [(0, t31_5), (1, t80_35)]) fun t81_36 =>
      pE (boxE 51 (.agg #[(.pointer none), (.int .i64 0), (.slice none 0 0)]) w) fun t16_37 w =>
      pU (stE 3 t16_37 t81_36 w) fun w =>
      pLoop [(.slice none 0 0), (.slice none 0 0), (.int .i64 0)] w fun go6 vs6 w =>  -- slots 17 18 19
        pV (lenS a2) fun t84_38 =>
        pV (binV .lss (nth vs6 2) t84_38) fun t85_39 =>
        pIf t85_39
        (pJoin (fun J7 =>
            pV (idxV 4 a2 (nth vs6 2)) fun t90_40 =>
            pV (fldA 1 t90_40) fun t91_41 =>
            pV (ldV false 1 w t91_41) fun t92_42 =>
            pIf t92_42
            (pDraw w fun w =>
              pV (ldV true 3 w t16_37) fun t94_43 =>
              pV (idxV 4 a2 (nth vs6 2)) fun t97_44 =>
              pV (ldV true 4 w t97_44) fun t98_45 =>
              pCall Try.prog 20 [t94_43, t98_45] w fun t99_46 w =>
              pV (extV t99_46 0) fun t100_47 =>
              pV (extV t99_46 1) fun t101_48 =>
              pV (extV t99_46 2) fun t102_49 =>
              pV (extV t99_46 3) fun t103_50 =>
              pU (stE 3 t16_37 t100_47 w) fun w =>
              J7 [t101_48, t102_49, t103_50] w)
            (pDraw w fun w =>
              pV (ldV true 3 w t15_34) fun t105_51 =>
              pV (idxV 4 a2 (nth vs6 2)) fun t108_52 =>
              pV (ldV true 4 w t108_52) fun t109_53 =>
              pCall Try.prog 20 [t105_51, t109_53] w fun t110_54 w =>
              pV (extV t110_54 0) fun t111_55 =>
              pV (extV t110_54 1) fun t112_56 =>
              pV (extV t110_54 2) fun t113_57 =>
              pV (extV t110_54 3) fun t114_58 =>
              pU (stE 3 t15_34 t111_55 w) fun w =>
              J7 [t112_56, t113_57, t114_58] w))
          (fun vs7 w =>
            pV (unV .not (nth vs7 2)) fun t116_59 =>
            pIf t116_59
            (K (.bool false) w)
            (pE (mkE 22 1 [(nth vs7 0)] w) fun t119_60 w =>
              pE (semE Try.prog (Builtin.append_ #[52, 52] 52 #[(nth vs6 0), t119_60]) w) fun t120_61 w =>
              pE (mkE 22 1 [(nth vs7 1)] w) fun t123_62 w =>
              pE (semE Try.prog (Builtin.append_ #[52, 52] 52 #[(nth vs6 1), t123_62]) w) fun t124_63 w =>
              pV (binV .add (nth vs6 2) (.int .i64 1)) fun t87_64 =>
              go6 [t120_61, t124_63, t87_64] w)))
        (pCall Try.prog 21 [(nth vs6 0), (nth vs6 1)] w fun t127_65 w =>
          pSC true t127_65 w (fun J8 =>
            pV (ldV true 3 w t15_34) fun t129_66 =>
            pCall Try.prog 22 [t129_66, (.int .i64 0)] w fun t130_67 w =>
            J8 t130_67 w)
          (fun t131_68 w =>
          pSC true t131_68 w (fun J9 =>
            pV (ldV true 3 w t16_37) fun t133_69 =>
            pCall Try.prog 22 [t133_69, (.int .i64 0)] w fun t134_70 w =>
            J9 t134_70 w)
          (fun t135_71 w =>
          K t135_71 w))))))))))

def an5 : An := (.seq (.reg [] (.one .nil)) (.seq (.reg [] (.one (.one (.one (.one (.one (.one (.one .nil)))))))) (.seq (.reg [] (.one (.one (.one (.one (.one (.one (.one .nil)))))))) (.seq (.reg [] (.one (.one (.one (.one (.one (.one (.one (.one .nil))))))))) (.seq (.reg [] (.one (.one (.one (.one (.one (.one (.one (.one .nil))))))))) (.seq (.seq (.reg [] (.one (.one (.one (.one (.sc false (.one (.one (.one .nil))) (.one (.sc false (.one (.one (.one (.one (.one .nil))))) (.one (.sc false (.one (.one (.one (.one (.one .nil))))) .nil)))))))))) (.cond (.seq (.reg [] (.one .nil)) .leaf) .leaf)) (.seq (.seq (.reg [] (.one (.one (.one (.sc false (.one (.one .nil)) (.one (.sc false (.one (.one (.one .nil))) .nil))))))) (.cond (.seq (.reg [] (.one .nil)) .leaf) .leaf)) (.seq (.reg [] (.one (.one (.one (.one (.one .nil)))))) (.seq (.reg [] (.one (.one (.one (.one (.one .nil)))))) (.seq (.reg [] (.one (.one .nil))) (.seq (.seq (.reg [] (.one .nil)) (.blk (.loop [17, 18, 19] (.seq (.seq (.reg [] (.one (.one (.one (.one .nil))))) (.cond .leaf .leaf)) (.seq (.blk (.seq (.reg [] (.one (.one .nil))) (.seq (.reg [] (.one .nil)) (.join [20, 21, 22] (.seq (.reg [] (.one (.one (.one (.one (.one .nil)))))) (.cond (.reg [0, 0, 0, 6, 14, 31, 63, 127, 127, 127, 127, 255, 2559, 7167, 16383, 0, 0, 0, 1, 2, 3, 4, 5, 7, 9, 11, 6, 8, 10, 12] (.one (.one (.one (.one (.one (.one (.one (.one (.one (.one (.one (.one (.one (.one (.one .nil)))))))))))))))) (.reg [0, 0, 0, 6, 14, 31, 63, 127, 127, 127, 127, 255, 2559, 7167, 16383, 0, 0, 0, 1, 2, 3, 4, 5, 7, 9, 11, 6, 8, 10, 12] (.one (.one (.one (.one (.one (.one (.one (.one (.one (.one (.one (.one (.one (.one (.one .nil)))))))))))))))))) (.seq (.seq (.reg [] (.one (.one .nil))) (.cond (.seq (.reg [] (.one .nil)) .leaf) .leaf)) (.seq (.reg [] (.one (.one (.one (.one (.one .nil)))))) (.reg [] (.one (.one (.one (.one (.one .nil)))))))))))) (.reg [] (.one (.one (.one .nil))))))))) (.seq (.reg [] (.one (.one (.one (.one (.sc true (.one (.one .nil)) (.one (.sc true (.one (.one .nil)) (.one .nil))))))))) .leaf))))))))))))

theorem F5_eq : @F5 = fun a0 a1 a2 w K => vcFun Try.prog an5 (Try.f5.body.getD .skip) Try.f5.results.toList 3 [a0, a1, a2] w K := by kernel_rfl

theorem F5_calls {a0 a1 a2 : Value} {w : World} {K : Value → World → Prop} (h : F5 a0 a1 a2 w K) : Calls Try.prog 5 #[a0, a1, a2] w (retK K) := by
  rw [F5_eq] at h
  exact calls_of_vc (f := 5) (fn := Try.f5) (args := [a0, a1, a2]) Try.func5 (by kernel_rfl) (by kernel_rfl) rfl (by kernel_rfl) h

theorem F5_pc {a0 a1 a2 : Value} {w : World} {K : Value → World → Prop} (h : F5 a0 a1 a2 w K) : pCall Try.prog 5 [a0, a1, a2] w K := by
  exact pCall_of (fn := Try.f5) (c := Try.f5.body.getD .skip) Try.func5 (by kernel_rfl) (by kernel_rfl) (F5_calls h)

/- bulkhead/bulkheadlaw07.filled -/
def F6 (a0 a1 : Value) (w : World) (K : Value → World → Prop) : Prop :=
  pCall Try.prog 18 [a0] w fun t10_1 w =>
  pV (extV t10_1 0) fun t11_2 =>
  pV (extV t10_1 1) fun t12_3 =>
  pV (nilV .eql (isNilP t11_2 (.pointer none))) fun t14_4 =>
  pSC false t14_4 w (fun J1 =>
    pV (binV .neq t12_3 (.int .i64 0)) fun t17_5 =>
    J1 t17_5 w)
  (fun t18_6 w =>
  pIf t18_6
  (K (.pointer none) w)
  (pLoop [(.int .i64 0)] w fun go2 vs2 w =>  -- slots 7
      pV (lenS a1) fun t21_7 =>
      pV (binV .lss (nth vs2 0) t21_7) fun t22_8 =>
      pIf t22_8
      (pDraw w fun w =>
        pV (idxV 2 a1 (nth vs2 0)) fun t28_9 =>
        pV (fldA 1 t28_9) fun t29_10 =>
        pV (ldV false 1 w t29_10) fun t30_11 =>
        pV (idxV 2 a1 (nth vs2 0)) fun t33_12 =>
        pV (fldA 0 t33_12) fun t34_13 =>
        pV (ldV false 1 w t34_13) fun t35_14 =>
        pCall Try.prog 15 [t11_2, t30_11, t35_14] w fun _ w =>
        pV (binV .add (nth vs2 0) (.int .i64 1)) fun t24_16 =>
        go2 [t24_16] w)
      (K t11_2 w)))

def an6 : An := (.seq (.reg [] (.one .nil)) (.seq (.reg [] (.one (.one (.one (.one (.one (.one (.one .nil)))))))) (.seq (.seq (.reg [] (.one (.one (.one (.sc false (.one (.one .nil)) .nil))))) (.cond (.seq (.reg [] (.one .nil)) .leaf) .leaf)) (.seq (.seq (.reg [] (.one .nil)) (.blk (.loop [7] (.seq (.seq (.reg [] (.one (.one (.one (.one .nil))))) (.cond .leaf .leaf)) (.seq (.blk (.reg [0, 0, 0, 6, 14, 30, 0, 0, 192, 448, 960, 2047] (.one (.one (.one (.one (.one (.one (.one (.one (.one (.one (.one (.one .nil)))))))))))))) (.reg [] (.one (.one (.one .nil))))))))) (.seq (.reg [] (.one (.one .nil))) .leaf)))))

theorem F6_eq : @F6 = fun a0 a1 w K => vcFun Try.prog an6 (Try.f6.body.getD .skip) Try.f6.results.toList 2 [a0, a1] w K := by kernel_rfl

theorem F6_calls {a0 a1 : Value} {w : World} {K : Value → World → Prop} (h : F6 a0 a1 w K) : Calls Try.prog 6 #[a0, a1] w (retK K) := by
  rw [F6_eq] at h
  exact calls_of_vc (f := 6) (fn := Try.f6) (args := [a0, a1]) Try.func6 (by kernel_rfl) (by kernel_rfl) rfl (by kernel_rfl) h

theorem F6_pc {a0 a1 : Value} {w : World} {K : Value → World → Prop} (h : F6 a0 a1 w K) : pCall Try.prog 6 [a0, a1] w K := by
  exact pCall_of (fn := Try.f6) (c := Try.f6.body.getD .skip) Try.func6 (by kernel_rfl) (by kernel_rfl) (F6_calls h)

/- (*bulkhead/wheel.Wheel).Advance -/
def F7 (a0 a1 : Value) (w : World) (K : Value → World → Prop) : Prop :=
  pV (nilC a0) fun t15_1 =>
  pV (fldA 0 t15_1) fun t16_2 =>
  pV (ldV false 1 w t16_2) fun t17_3 =>
  pV (binV .lss a1 t17_3) fun t18_4 =>
  pSC false t18_4 w (fun J1 =>
    pV (binV .gtr a1 (.int .i64 1099511627776)) fun t21_5 =>
    J1 t21_5 w)
  (fun t22_6 w =>
  pIf t22_6
  (K (.tuple #[(.slice none 0 0), (.int .i64 2)]) w)
  (pLoop [(.slice none 0 0)] w fun go2 vs2 w =>  -- slots 6
      pCall Try.prog 12 [a0] w fun t25_7 w =>
      pV (extV t25_7 0) fun t26_8 =>
      pV (extV t25_7 1) fun t27_9 =>
      pV (unV .not t27_9) fun t29_10 =>
      pSC false t29_10 w (fun J3 =>
        pV (binV .gtr t26_8 a1) fun t33_11 =>
        J3 t33_11 w)
      (fun t34_12 w =>
      pIf t34_12
      (pCall Try.prog 23 [a0, a1] w fun _ w =>
        K (.tuple #[(nth vs2 0), (.int .i64 0)]) w)
      (pCall Try.prog 23 [a0, t26_8] w fun _ w =>
        pCall Try.prog 24 [a0, t26_8] w fun t44_15 w =>
        pV (nilC t44_15) fun t46_16 =>
        pV (ldV false 1 w t46_16) fun t47_17 =>
        pV (nilC t44_15) fun t49_18 =>
        pU (stE 1 t49_18 (.slice none 0 0) w) fun w =>
        pCall Try.prog 25 [t47_17] w fun _ w =>
        pV (lenS t47_17) fun t53_20 =>
        pLoop [(nth vs2 0), (.int .i64 0)] w fun go4 vs4 w =>  -- slots 6 54
          pV (binV .lss (nth vs4 1) t53_20) fun t55_21 =>
          pIf t55_21
          (pV (idxV 1 t47_17 (nth vs4 1)) fun t56_22 =>
            pV (ldV false 1 w t56_22) fun t57_23 =>
            pV (bldV #[(.int .i64 0), (.int .i64 0)] #[(0, 1), (1, 1)] [(0, t26_8), (1, t57_23)]) fun t61_24 =>
            pE (mkE 34 2 [t61_24] w) fun t62_25 w =>
            pE (semE Try.prog (Builtin.append_ #[22, 22] 22 #[(nth vs4 0), t62_25]) w) fun t63_26 w =>
            pV (nilC a0) fun t65_27 =>
            pV (fldA 1 t65_27) fun t66_28 =>
            pV (ldV false 1 w t66_28) fun t67_29 =>
            pE (semE Try.prog (Builtin.delete_ #[60, 3] 0 #[t67_29, t57_23]) w) fun _ w =>
            pV (binV .add (nth vs4 1) (.int .i64 1)) fun t69_31 =>
            go4 [t63_26, t69_31] w)
          (go2 [(nth vs4 0)] w)))))

def an7 : An := (.seq (.reg [] (.one (.one .nil))) (.seq (.seq (.reg [] (.one (.one (.one (.one (.one (.one (.one (.sc false (.one (.one .nil)) .nil))))))))) (.cond (.seq (.reg [] (.one (.one .nil))) .leaf) .leaf)) (.seq (.reg [] (.one .nil)) (.blk (.loop [6] (.blk (.seq (.reg [] (.one (.one (.one (.one (.one (.one (.one .nil)))))))) (.seq (.seq (.reg [] (.one (.one (.one (.sc false (.one (.one (.one .nil))) .nil))))) (.cond (.seq (.reg [] (.one (.one (.one .nil)))) (.seq (.reg [] (.one (.one (.one .nil)))) .leaf)) .leaf)) (.seq (.reg [] (.one (.one (.one .nil)))) (.seq (.reg [] (.one (.one (.one (.one .nil))))) (.seq (.reg [] (.one (.one (.one (.one .nil))))) (.seq (.reg [] (.one (.one (.one .nil)))) (.seq (.reg [] (.one (.one .nil))) (.seq (.reg [] (.one (.one (.one .nil)))) (.blk (.loop [6, 54] (.seq (.reg [] (.one .nil)) (.seq (.cond .leaf .leaf) (.seq (.blk (.seq (.reg [] (.one (.one (.one .nil)))) (.seq (.reg [] (.one (.one (.one (.one (.one (.one (.one .nil)))))))) (.reg [] (.one (.one (.one (.one (.one (.one .nil)))))))))) (.reg [] (.one (.one .nil))))))))))))))))))))))

theorem F7_eq : @F7 = fun a0 a1 w K => vcFun Try.prog an7 (Try.f7.body.getD .skip) Try.f7.results.toList 2 [a0, a1] w K := by kernel_rfl

theorem F7_calls {a0 a1 : Value} {w : World} {K : Value → World → Prop} (h : F7 a0 a1 w K) : Calls Try.prog 7 #[a0, a1] w (retK K) := by
  rw [F7_eq] at h
  exact calls_of_vc (f := 7) (fn := Try.f7) (args := [a0, a1]) Try.func7 (by kernel_rfl) (by kernel_rfl) rfl (by kernel_rfl) h

theorem F7_pc {a0 a1 : Value} {w : World} {K : Value → World → Prop} (h : F7 a0 a1 w K) : pCall Try.prog 7 [a0, a1] w K := by
  exact pCall_of (fn := Try.f7) (c := Try.f7.body.getD .skip) Try.func7 (by kernel_rfl) (by kernel_rfl) (F7_calls h)

/- bulkhead/bulkheadlaw07.ordered -/
def F8 (a0 a1 a2 : Value) (w : World) (K : Value → World → Prop) : Prop :=
  pLoop [(.int .i64 0)] w fun go1 vs1 w =>  -- slots 7
    pV (lenS a0) fun t10_1 =>
    pV (binV .lss (nth vs1 0) t10_1) fun t11_2 =>
    pIf t11_2
    (pV (idxV 2 a0 (nth vs1 0)) fun t16_3 =>
      pV (fldA 0 t16_3) fun t17_4 =>
      pV (ldV false 1 w t17_4) fun t18_5 =>
      pV (binV .lss t18_5 a1) fun t20_6 =>
      pSC false t20_6 w (fun J2 =>
        pV (idxV 2 a0 (nth vs1 0)) fun t24_7 =>
        pV (fldA 0 t24_7) fun t25_8 =>
        pV (ldV false 1 w t25_8) fun t26_9 =>
        pV (binV .gtr t26_9 a2) fun t28_10 =>
        J2 t28_10 w)
      (fun t29_11 w =>
      pIf t29_11
      (K (.bool false) w)
      (pDraw w fun w =>
        pV (binV .gtr (nth vs1 0) (.int .i64 0)) fun t31_12 =>
        pSC true t31_12 w (fun J3 =>
          pV (binV .sub (nth vs1 0) (.int .i64 1)) fun t35_13 =>
          pV (idxV 2 a0 t35_13) fun t36_14 =>
          pV (fldA 0 t36_14) fun t37_15 =>
          pV (ldV false 1 w t37_15) fun t38_16 =>
          pV (idxV 2 a0 (nth vs1 0)) fun t41_17 =>
          pV (fldA 0 t41_17) fun t42_18 =>
          pV (ldV false 1 w t42_18) fun t43_19 =>
          pV (binV .gtr t38_16 t43_19) fun t44_20 =>
          pSC false t44_20 w (fun J4 =>
            pV (binV .sub (nth vs1 0) (.int .i64 1)) fun t48_21 =>
            pV (idxV 2 a0 t48_21) fun t49_22 =>
            pV (fldA 0 t49_22) fun t50_23 =>
            pV (ldV false 1 w t50_23) fun t51_24 =>
            pV (idxV 2 a0 (nth vs1 0)) fun t54_25 =>
            pV (fldA 0 t54_25) fun t55_26 =>
            pV (ldV false 1 w t55_26) fun t56_27 =>
            pV (binV .eql t51_24 t56_27) fun t57_28 =>
            pSC true t57_28 w (fun J5 =>
              pV (binV .sub (nth vs1 0) (.int .i64 1)) fun t61_29 =>
              pV (idxV 2 a0 t61_29) fun t62_30 =>
              pV (fldA 1 t62_30) fun t63_31 =>
              pV (ldV false 1 w t63_31) fun t64_32 =>
              pV (idxV 2 a0 (nth vs1 0)) fun t67_33 =>
              pV (fldA 1 t67_33) fun t68_34 =>
              pV (ldV false 1 w t68_34) fun t69_35 =>
              pV (binV .geq t64_32 t69_35) fun t70_36 =>
              J5 t70_36 w)
            (fun t71_37 w =>
            J4 t71_37 w))
          (fun t72_38 w =>
          J3 t72_38 w))
        (fun t73_39 w =>
        pIf t73_39
        (K (.bool false) w)
        (pV (binV .add (nth vs1 0) (.int .i64 1)) fun t13_40 =>
          go1 [t13_40] w)))))
    (K (.bool true) w)

def an8 : An := (.seq (.reg [] (.one .nil)) (.seq (.seq (.reg [] (.one .nil)) (.blk (.loop [7] (.seq (.seq (.reg [] (.one (.one (.one (.one .nil))))) (.cond .leaf .leaf)) (.seq (.blk (.seq (.seq (.reg [] (.one (.one (.one (.one (.one (.one (.one (.one (.sc false (.one (.one (.one (.one (.one (.one (.one .nil))))))) .nil)))))))))) (.cond (.seq (.reg [] (.one .nil)) .leaf) .leaf)) (.seq (.reg [0, 1, 3, 7, 7, 23, 63, 127, 255, 7, 7, 1543, 3591, 7687, 16383, 32767, 65535, 65535, 196607, 524287, 1048575, 2097151, 65535, 65535, 12648447, 29425663, 62980095, 134217727, 268435455, 536870911, 536870911, 1610612735, 4294967295, 8589934591, 17179869183, 536870911, 536870911, 103616086015, 241055039487, 515932946431, 1099511627775, 2199023255551, 4398046511103, 8796093022207] (.one (.one (.one (.sc true (.one (.one (.one (.one (.one (.one (.one (.one (.one (.one (.one (.one (.one (.sc false (.one (.one (.one (.one (.one (.one (.one (.one (.one (.one (.one (.one (.one (.sc true (.one (.one (.one (.one (.one (.one (.one (.one (.one (.one (.one (.one .nil)))))))))))) .nil)))))))))))))) .nil)))))))))))))) .nil))))) (.cond (.seq (.reg [] (.one .nil)) .leaf) .leaf)))) (.reg [] (.one (.one (.one .nil))))))))) (.seq (.reg [] (.one .nil)) .leaf)))

theorem F8_eq : @F8 = fun a0 a1 a2 w K => vcFun Try.prog an8 (Try.f8.body.getD .skip) Try.f8.results.toList 3 [a0, a1, a2] w K := by kernel_rfl

theorem F8_calls {a0 a1 a2 : Value} {w : World} {K : Value → World → Prop} (h : F8 a0 a1 a2 w K) : Calls Try.prog 8 #[a0, a1, a2] w (retK K) := by
  rw [F8_eq] at h
  exact calls_of_vc (f := 8) (fn := Try.f8) (args := [a0, a1, a2]) Try.func8 (by kernel_rfl) (by kernel_rfl) rfl (by kernel_rfl) h

theorem F8_pc {a0 a1 a2 : Value} {w : World} {K : Value → World → Prop} (h : F8 a0 a1 a2 w K) : pCall Try.prog 8 [a0, a1, a2] w K := by
  exact pCall_of (fn := Try.f8) (c := Try.f8.body.getD .skip) Try.func8 (by kernel_rfl) (by kernel_rfl) (F8_calls h)

/- (*bulkhead/wheel.Wheel).Len -/
def F9 (a0 : Value) (w : World) (K : Value → World → Prop) : Prop :=
  pV (nilC a0) fun t4_1 =>
  pV (fldA 1 t4_1) fun t5_2 =>
  pV (ldV false 1 w t5_2) fun t6_3 =>
  pV (Go.Bk.look Try.prog w (Builtin.len_ #[60] 3 #[t6_3])) fun t7_4 =>
  K t7_4 w

def an9 : An := (.seq (.reg [] (.one .nil)) (.seq (.reg [] (.one (.one (.one (.one (.one (.one .nil))))))) .leaf))

theorem F9_eq : @F9 = fun a0 w K => vcFun Try.prog an9 (Try.f9.body.getD .skip) Try.f9.results.toList 1 [a0] w K := by kernel_rfl

theorem F9_calls {a0 : Value} {w : World} {K : Value → World → Prop} (h : F9 a0 w K) : Calls Try.prog 9 #[a0] w (retK K) := by
  rw [F9_eq] at h
  exact calls_of_vc (f := 9) (fn := Try.f9) (args := [a0]) Try.func9 (by kernel_rfl) (by kernel_rfl) rfl (by kernel_rfl) h

theorem F9_pc {a0 : Value} {w : World} {K : Value → World → Prop} (h : F9 a0 w K) : pCall Try.prog 9 [a0] w K := by
  exact pCall_of (fn := Try.f9) (c := Try.f9.body.getD .skip) Try.func9 (by kernel_rfl) (by kernel_rfl) (F9_calls h)

/- (*bulkhead/wheel.Wheel).Now -/
def F10 (a0 : Value) (w : World) (K : Value → World → Prop) : Prop :=
  pV (nilC a0) fun t4_1 =>
  pV (fldA 0 t4_1) fun t5_2 =>
  pV (ldV false 1 w t5_2) fun t6_3 =>
  K t6_3 w

def an10 : An := (.seq (.reg [] (.one .nil)) (.seq (.reg [] (.one (.one (.one (.one (.one .nil)))))) .leaf))

theorem F10_eq : @F10 = fun a0 w K => vcFun Try.prog an10 (Try.f10.body.getD .skip) Try.f10.results.toList 1 [a0] w K := by kernel_rfl

theorem F10_calls {a0 : Value} {w : World} {K : Value → World → Prop} (h : F10 a0 w K) : Calls Try.prog 10 #[a0] w (retK K) := by
  rw [F10_eq] at h
  exact calls_of_vc (f := 10) (fn := Try.f10) (args := [a0]) Try.func10 (by kernel_rfl) (by kernel_rfl) rfl (by kernel_rfl) h

theorem F10_pc {a0 : Value} {w : World} {K : Value → World → Prop} (h : F10 a0 w K) : pCall Try.prog 10 [a0] w K := by
  exact pCall_of (fn := Try.f10) (c := Try.f10.body.getD .skip) Try.func10 (by kernel_rfl) (by kernel_rfl) (F10_calls h)

/- bulkhead/bulkheadlaw07.last -/
def F11 (a0 a1 a2 : Value) (w : World) (K : Value → World → Prop) : Prop :=
  pLoop [(.int .i64 0), (.bool false), (.int .i64 0)] w fun go1 vs1 w =>  -- slots 8 9 10
    pV (lenS a0) fun t13_1 =>
    pV (binV .lss (nth vs1 2) t13_1) fun t14_2 =>
    pIf t14_2
    (pJoin (fun J2 =>
        pV (idxV 2 a0 (nth vs1 2)) fun t19_3 =>
        pV (fldA 1 t19_3) fun t20_4 =>
        pV (ldV false 1 w t20_4) fun t21_5 =>
        pV (binV .eql t21_5 a2) fun t23_6 =>
        pSC true t23_6 w (fun J3 =>
          pV (idxV 2 a0 (nth vs1 2)) fun t27_7 =>
          pV (ldV true 2 w t27_7) fun t28_8 =>
          pCall Try.prog 16 [t28_8, a1] w fun t30_9 w =>
          J3 t30_9 w)
        (fun t31_10 w =>
        pIf t31_10
        (pV (idxV 2 a0 (nth vs1 2)) fun t34_11 =>
          pV (fldA 0 t34_11) fun t35_12 =>
          pV (ldV false 1 w t35_12) fun t36_13 =>
          J2 [t36_13, (.bool true)] w)
        (J2 [(nth vs1 0), (nth vs1 1)] w)))
      (fun vs2 w =>
        pV (binV .add (nth vs1 2) (.int .i64 1)) fun t16_14 =>
        go1 [(nth vs2 0), (nth vs2 1), t16_14] w))
    (K (.tuple #[(nth vs1 0), (nth vs1 1)]) w)

def an11 : An := (.seq (.reg [] (.one (.one .nil))) (.seq (.reg [] (.one .nil)) (.seq (.reg [] (.one .nil)) (.seq (.seq (.reg [] (.one .nil)) (.blk (.loop [8, 9, 10] (.seq (.seq (.reg [] (.one (.one (.one (.one .nil))))) (.cond .leaf .leaf)) (.seq (.blkJ [8, 9] (.seq (.reg [] (.one (.one (.one (.one (.one (.one (.one (.one (.sc true (.one (.one (.one (.one (.one (.one .nil)))))) .nil)))))))))) (.cond (.seq (.reg [] (.one (.one (.one (.one (.one (.one .nil))))))) (.reg [] (.one .nil))) .leaf))) (.reg [] (.one (.one (.one .nil))))))))) (.seq (.reg [] (.one (.one (.one (.one .nil))))) .leaf)))))

theorem F11_eq : @F11 = fun a0 a1 a2 w K => vcFun Try.prog an11 (Try.f11.body.getD .skip) Try.f11.results.toList 3 [a0, a1, a2] w K := by kernel_rfl

theorem F11_calls {a0 a1 a2 : Value} {w : World} {K : Value → World → Prop} (h : F11 a0 a1 a2 w K) : Calls Try.prog 11 #[a0, a1, a2] w (retK K) := by
  rw [F11_eq] at h
  exact calls_of_vc (f := 11) (fn := Try.f11) (args := [a0, a1, a2]) Try.func11 (by kernel_rfl) (by kernel_rfl) rfl (by kernel_rfl) h

theorem F11_pc {a0 a1 a2 : Value} {w : World} {K : Value → World → Prop} (h : F11 a0 a1 a2 w K) : pCall Try.prog 11 [a0, a1, a2] w K := by
  exact pCall_of (fn := Try.f11) (c := Try.f11.body.getD .skip) Try.func11 (by kernel_rfl) (by kernel_rfl) (F11_calls h)

/- (*bulkhead/wheel.Wheel).Next -/
def F12 (a0 : Value) (w : World) (K : Value → World → Prop) : Prop :=
  pLoop [(.int .i64 0)] w fun go1 vs1 w =>  -- slots 10
    pV (binV .lss (nth vs1 0) (.int .i64 7)) fun t11_1 =>
    pIf t11_1
    (pV (nilC a0) fun t14_2 =>
      pV (fldA 0 t14_2) fun t15_3 =>
      pV (ldV false 1 w t15_3) fun t16_4 =>
      pCall Try.prog 26 [t16_4, (nth vs1 0)] w fun t18_5 w =>
      pV (binV .sub (.int .i64 64) t18_5) fun t19_6 =>
      pLoop [(.int .i64 0)] w fun go2 vs2 w =>  -- slots 20
        pV (binV .lss (nth vs2 0) t19_6) fun t21_7 =>
        pIf t21_7
        (pDraw w fun w =>
          pV (nilC a0) fun t26_8 =>
          pV (fldA 0 t26_8) fun t27_9 =>
          pV (ldV false 1 w t27_9) fun t28_10 =>
          pCall Try.prog 26 [t28_10, (nth vs1 0)] w fun t30_11 w =>
          pV (binV .add t30_11 (nth vs2 0)) fun t32_12 =>
          pV (nilC a0) fun t33_13 =>
          pV (fldA 2 t33_13) fun t34_14 =>
          pV (idxA 64 7 t34_14 (nth vs1 0)) fun t35_15 =>
          pV (idxA 1 64 t35_15 t32_12) fun t36_16 =>
          pV (ldV false 1 w t36_16) fun t37_17 =>
          pV (lenS t37_17) fun t39_18 =>
          pV (binV .eql t39_18 (.int .i64 0)) fun t40_19 =>
          pIf t40_19
          (pV (binV .add (nth vs2 0) (.int .i64 1)) fun t65_20 =>
            go2 [t65_20] w)
          (pDraw w fun w =>
            pV (nilC a0) fun t42_21 =>
            pV (fldA 1 t42_21) fun t43_22 =>
            pV (ldV false 1 w t43_22) fun t44_23 =>
            pV (idxV 1 t37_17 (.int .i64 0)) fun t46_24 =>
            pV (ldV false 1 w t46_24) fun t47_25 =>
            pV (Go.Bk.look Try.prog w (Instr.lookup 60 t44_23 t47_25 false)) fun t48_26 =>
            pV (lenS t37_17) fun t50_27 =>
            pLoop [t48_26, (.int .i64 0)] w fun go3 vs3 w =>  -- slots 7 51
              pV (binV .lss (nth vs3 1) t50_27) fun t52_28 =>
              pIf t52_28
              (pV (idxV 1 t37_17 (nth vs3 1)) fun t53_29 =>
                pV (ldV false 1 w t53_29) fun t54_30 =>
                pV (nilC a0) fun t57_31 =>
                pV (fldA 1 t57_31) fun t58_32 =>
                pV (ldV false 1 w t58_32) fun t59_33 =>
                pV (Go.Bk.look Try.prog w (Instr.lookup 60 t59_33 t54_30 false)) fun t61_34 =>
                pV (dry Try.prog (Builtin.min_ #[3, 3] 3 #[(nth vs3 0), t61_34])) fun t62_35 =>
                pV (binV .add (nth vs3 1) (.int .i64 1)) fun t63_36 =>
                go3 [t62_35, t63_36] w)
              (K (.tuple #[(nth vs3 0), (.bool true)]) w)))
        (pV (binV .add (nth vs1 0) (.int .i64 1)) fun t66_37 =>
          go1 [t66_37] w))
    (K (.tuple #[(.int .i64 0), (.bool false)]) w)

def an12 : An := (.seq (.reg [] (.one (.one .nil))) (.seq (.seq (.reg [] (.one .nil)) (.blk (.loop [10] (.seq (.reg [] (.one .nil)) (.seq (.cond .leaf .leaf) (.seq (.blk (.seq (.reg [] (.one (.one .nil))) (.seq (.reg [] (.one (.one (.one (.one (.one (.one (.one (.one .nil))))))))) (.blk (.loop [20] (.seq (.reg [] (.one .nil)) (.seq (.cond .leaf .leaf) (.seq (.blk (.seq (.reg [] (.one (.one .nil))) (.seq (.reg [0, 0, 0, 4, 12, 28, 0, 124, 0, 508, 1, 1025, 3075, 8191, 16383, 32767] (.one (.one (.one (.one (.one (.one (.one (.one (.one (.one (.one (.one (.one (.one (.one (.one .nil))))))))))))))))) (.seq (.seq (.reg [] (.one (.one (.one .nil)))) (.cond .leaf .leaf)) (.seq (.reg [0, 1, 3, 7, 0, 16, 48, 127, 255] (.one (.one (.one (.one (.one (.one (.one (.one (.one .nil)))))))))) (.seq (.seq (.reg [] (.one (.one (.one .nil)))) (.blk (.loop [7, 51] (.seq (.reg [] (.one .nil)) (.seq (.cond .leaf .leaf) (.seq (.blk (.seq (.reg [] (.one (.one (.one .nil)))) (.reg [] (.one (.one (.one (.one (.one (.one (.one (.one (.one .nil)))))))))))) (.reg [] (.one (.one .nil))))))))) (.seq (.reg [] (.one (.one (.one .nil)))) .leaf))))))) (.reg [] (.one (.one .nil))))))))))) (.reg [] (.one (.one .nil))))))))) (.seq (.reg [] (.one (.one .nil))) .leaf)))

theorem F12_eq : @F12 = fun a0 w K => vcFun Try.prog an12 (Try.f12.body.getD .skip) Try.f12.results.toList 1 [a0] w K := by kernel_rfl

theorem F12_calls {a0 : Value} {w : World} {K : Value → World → Prop} (h : F12 a0 w K) : Calls Try.prog 12 #[a0] w (retK K) := by
  rw [F12_eq] at h
  exact calls_of_vc (f := 12) (fn := Try.f12) (args := [a0]) Try.func12 (by kernel_rfl) (by kernel_rfl) rfl (by kernel_rfl) h

theorem F12_pc {a0 : Value} {w : World} {K : Value → World → Prop} (h : F12 a0 w K) : pCall Try.prog 12 [a0] w K := by
  exact pCall_of (fn := Try.f12) (c := Try.f12.body.getD .skip) Try.func12 (by kernel_rfl) (by kernel_rfl) (F12_calls h)

/- bulkhead/bulkheadlaw07.same -/
def F13 (a0 a1 : Value) (w : World) (K : Value → World → Prop) : Prop :=
  pV (lenS a0) fun t7_1 =>
  pV (lenS a1) fun t9_2 =>
  pV (binV .neq t7_1 t9_2) fun t10_3 =>
  pIf t10_3
  (K (.bool false) w)
  (pLoop [(.int .i64 0)] w fun go1 vs1 w =>  -- slots 5
      pV (lenS a0) fun t13_4 =>
      pV (binV .lss (nth vs1 0) t13_4) fun t14_5 =>
      pIf t14_5
      (pDraw w fun w =>
        pV (idxV 2 a0 (nth vs1 0)) fun t19_6 =>
        pV (ldV true 2 w t19_6) fun t20_7 =>
        pV (idxV 2 a1 (nth vs1 0)) fun t23_8 =>
        pV (ldV true 2 w t23_8) fun t24_9 =>
        pV (dry Try.prog (eqS .neq 34 false false t20_7 t24_9)) fun t25_10 =>
        pIf t25_10
        (K (.bool false) w)
        (pV (binV .add (nth vs1 0) (.int .i64 1)) fun t16_11 =>
          go1 [t16_11] w))
      (K (.bool true) w))

def an13 : An := (.seq (.reg [] (.one .nil)) (.seq (.seq (.reg [] (.one (.one (.one (.one (.one .nil)))))) (.cond (.seq (.reg [] (.one .nil)) .leaf) .leaf)) (.seq (.seq (.reg [] (.one .nil)) (.blk (.loop [5] (.seq (.seq (.reg [] (.one (.one (.one (.one .nil))))) (.cond .leaf .leaf)) (.seq (.blk (.seq (.reg [0, 0, 3, 7, 0, 0, 48, 112, 255] (.one (.one (.one (.one (.one (.one (.one (.one (.one .nil)))))))))) (.cond (.seq (.reg [] (.one .nil)) .leaf) .leaf))) (.reg [] (.one (.one (.one .nil))))))))) (.seq (.reg [] (.one .nil)) .leaf))))

theorem F13_eq : @F13 = fun a0 a1 w K => vcFun Try.prog an13 (Try.f13.body.getD .skip) Try.f13.results.toList 2 [a0, a1] w K := by kernel_rfl

theorem F13_calls {a0 a1 : Value} {w : World} {K : Value → World → Prop} (h : F13 a0 a1 w K) : Calls Try.prog 13 #[a0, a1] w (retK K) := by
  rw [F13_eq] at h
  exact calls_of_vc (f := 13) (fn := Try.f13) (args := [a0, a1]) Try.func13 (by kernel_rfl) (by kernel_rfl) rfl (by kernel_rfl) h

theorem F13_pc {a0 a1 : Value} {w : World} {K : Value → World → Prop} (h : F13 a0 a1 w K) : pCall Try.prog 13 [a0, a1] w K := by
  exact pCall_of (fn := Try.f13) (c := Try.f13.body.getD .skip) Try.func13 (by kernel_rfl) (by kernel_rfl) (F13_calls h)

/- (*bulkhead/wheel.Wheel).When -/
def F14 (a0 a1 : Value) (w : World) (K : Value → World → Prop) : Prop :=
  pV (nilC a0) fun t10_1 =>
  pV (fldA 1 t10_1) fun t11_2 =>
  pV (ldV false 1 w t11_2) fun t12_3 =>
  pV (Go.Bk.look Try.prog w (Instr.lookup 60 t12_3 a1 true)) fun t14_4 =>
  pV (extV t14_4 0) fun t15_5 =>
  pV (extV t14_4 1) fun t16_6 =>
  K (.tuple #[t15_5, t16_6]) w

def an14 : An := (.seq (.reg [] (.one (.one .nil))) (.seq (.reg [] (.one (.one (.one (.one (.one (.one (.one (.one (.one (.one (.one .nil)))))))))))) (.seq (.reg [] (.one (.one (.one (.one .nil))))) .leaf)))

theorem F14_eq : @F14 = fun a0 a1 w K => vcFun Try.prog an14 (Try.f14.body.getD .skip) Try.f14.results.toList 2 [a0, a1] w K := by kernel_rfl

theorem F14_calls {a0 a1 : Value} {w : World} {K : Value → World → Prop} (h : F14 a0 a1 w K) : Calls Try.prog 14 #[a0, a1] w (retK K) := by
  rw [F14_eq] at h
  exact calls_of_vc (f := 14) (fn := Try.f14) (args := [a0, a1]) Try.func14 (by kernel_rfl) (by kernel_rfl) rfl (by kernel_rfl) h

theorem F14_pc {a0 a1 : Value} {w : World} {K : Value → World → Prop} (h : F14 a0 a1 w K) : pCall Try.prog 14 [a0, a1] w K := by
  exact pCall_of (fn := Try.f14) (c := Try.f14.body.getD .skip) Try.func14 (by kernel_rfl) (by kernel_rfl) (F14_calls h)

/- (*bulkhead/wheel.Wheel).Arm -/
def F15 (a0 a1 a2 : Value) (w : World) (K : Value → World → Prop) : Prop :=
  pV (binV .lss a1 (.int .i64 0)) fun t8_1 =>
  pSC false t8_1 w (fun J1 =>
    pV (binV .gtr a1 (.int .i64 65535)) fun t11_2 =>
    J1 t11_2 w)
  (fun t12_3 w =>
  pSC false t12_3 w (fun J2 =>
    pV (nilC a0) fun t16_4 =>
    pV (fldA 0 t16_4) fun t17_5 =>
    pV (ldV false 1 w t17_5) fun t18_6 =>
    pV (binV .lss a2 t18_6) fun t19_7 =>
    J2 t19_7 w)
  (fun t20_8 w =>
  pSC false t20_8 w (fun J3 =>
    pV (binV .geq a2 (.int .i64 1099511627776)) fun t23_9 =>
    J3 t23_9 w)
  (fun t24_10 w =>
  pIf t24_10
  (K (.int .i64 2) w)
  (pCall Try.prog 17 [a0, a1] w fun _ w =>
    pCall Try.prog 27 [a0, a1, a2] w fun _ w =>
    K (.int .i64 0) w))))

def an15 : An := (.seq (.reg [] (.one .nil)) (.seq (.seq (.reg [] (.one (.one (.one (.sc false (.one (.one .nil)) (.one (.sc false (.one (.one (.one (.one (.one (.one .nil)))))) (.one (.sc false (.one (.one .nil)) .nil))))))))) (.cond (.seq (.reg [] (.one .nil)) .leaf) .leaf)) (.seq (.reg [] (.one (.one (.one .nil)))) (.seq (.reg [] (.one (.one (.one (.one .nil))))) (.seq (.reg [] (.one .nil)) .leaf)))))

theorem F15_eq : @F15 = fun a0 a1 a2 w K => vcFun Try.prog an15 (Try.f15.body.getD .skip) Try.f15.results.toList 3 [a0, a1, a2] w K := by kernel_rfl

theorem F15_calls {a0 a1 a2 : Value} {w : World} {K : Value → World → Prop} (h : F15 a0 a1 a2 w K) : Calls Try.prog 15 #[a0, a1, a2] w (retK K) := by
  rw [F15_eq] at h
  exact calls_of_vc (f := 15) (fn := Try.f15) (args := [a0, a1, a2]) Try.func15 (by kernel_rfl) (by kernel_rfl) rfl (by kernel_rfl) h

theorem F15_pc {a0 a1 a2 : Value} {w : World} {K : Value → World → Prop} (h : F15 a0 a1 a2 w K) : pCall Try.prog 15 [a0, a1, a2] w K := by
  exact pCall_of (fn := Try.f15) (c := Try.f15.body.getD .skip) Try.func15 (by kernel_rfl) (by kernel_rfl) (F15_calls h)

/- bulkhead/bulkheadlaw07.may -/
def F16 (a0 a1 : Value) (w : World) (K : Value → World → Prop) : Prop :=
  pE (boxE 34 a0 w) fun t2_1 w =>
  pV (fldA 1 t2_1) fun t5_2 =>
  pV (ldV false 1 w t5_2) fun t6_3 =>
  pV (binV .geq t6_3 (.int .i64 0)) fun t7_4 =>
  pSC true t7_4 w (fun J1 =>
    pV (fldA 1 t2_1) fun t9_5 =>
    pV (ldV false 1 w t9_5) fun t10_6 =>
    pV (binV .leq t10_6 (.int .i64 65535)) fun t11_7 =>
    J1 t11_7 w)
  (fun t12_8 w =>
  pSC true t12_8 w (fun J2 =>
    pV (fldA 0 t2_1) fun t14_9 =>
    pV (ldV false 1 w t14_9) fun t15_10 =>
    pV (binV .geq t15_10 a1) fun t17_11 =>
    J2 t17_11 w)
  (fun t18_12 w =>
  pSC true t18_12 w (fun J3 =>
    pV (fldA 0 t2_1) fun t20_13 =>
    pV (ldV false 1 w t20_13) fun t21_14 =>
    pV (binV .lss t21_14 (.int .i64 1099511627776)) fun t22_15 =>
    J3 t22_15 w)
  (fun t23_16 w =>
  K t23_16 w)))

def an16 : An := (.seq (.reg [] (.one (.one .nil))) (.seq (.reg [] (.one (.one (.one (.one (.sc true (.one (.one (.one .nil))) (.one (.sc true (.one (.one (.one (.one .nil)))) (.one (.sc true (.one (.one (.one .nil))) (.one .nil))))))))))) .leaf))

theorem F16_eq : @F16 = fun a0 a1 w K => vcFun Try.prog an16 (Try.f16.body.getD .skip) Try.f16.results.toList 2 [a0, a1] w K := by kernel_rfl

theorem F16_calls {a0 a1 : Value} {w : World} {K : Value → World → Prop} (h : F16 a0 a1 w K) : Calls Try.prog 16 #[a0, a1] w (retK K) := by
  rw [F16_eq] at h
  exact calls_of_vc (f := 16) (fn := Try.f16) (args := [a0, a1]) Try.func16 (by kernel_rfl) (by kernel_rfl) rfl (by kernel_rfl) h

theorem F16_pc {a0 a1 : Value} {w : World} {K : Value → World → Prop} (h : F16 a0 a1 w K) : pCall Try.prog 16 [a0, a1] w K := by
  exact pCall_of (fn := Try.f16) (c := Try.f16.body.getD .skip) Try.func16 (by kernel_rfl) (by kernel_rfl) (F16_calls h)

/- (*bulkhead/wheel.Wheel).Cancel -/
def F17 (a0 a1 : Value) (w : World) (K : Value → World → Prop) : Prop :=
  pE (boxE 3 a1 w) fun t3_1 w =>
  pDraw w fun w =>
  pV (nilC a0) fun t10_2 =>
  pV (fldA 1 t10_2) fun t11_3 =>
  pV (ldV false 1 w t11_3) fun t12_4 =>
  pV (ldV false 1 w t3_1) fun t13_5 =>
  pV (Go.Bk.look Try.prog w (Instr.lookup 60 t12_4 t13_5 true)) fun t14_6 =>
  pV (extV t14_6 0) fun t15_7 =>
  pV (extV t14_6 1) fun t16_8 =>
  pV (unV .not t16_8) fun t18_9 =>
  pIf t18_9
  (K (.bool false) w)
  (pCall Try.prog 24 [a0, t15_7] w fun t21_10 w =>
    pV (nilC t21_10) fun t24_11 =>
    pV (ldV false 1 w t24_11) fun t25_12 =>
    pCall Try.prog 28 [t25_12, (.func (.func 29) #[] #[t3_1])] w fun t27_13 w =>
    pV (nilC t21_10) fun t28_14 =>
    pU (stE 1 t28_14 t27_13 w) fun w =>
    pDraw w fun w =>
    pV (nilC a0) fun t30_15 =>
    pV (fldA 1 t30_15) fun t31_16 =>
    pV (ldV false 1 w t31_16) fun t32_17 =>
    pV (ldV false 1 w t3_1) fun t33_18 =>
    pE (semE Try.prog (Builtin.delete_ #[60, 3] 0 #[t32_17, t33_18]) w) fun _ w =>
    K (.bool true) w)

def an17 : An := (.seq (.reg [] (.one (.one .nil))) (.seq (.reg [0, 1, 3, 7, 0, 31, 63, 127, 127, 255, 1023, 0, 1, 2, 3, 0, 4, 5, 6, 8, 7, 9] (.one (.one (.one (.one (.one (.one (.one (.one (.one (.one (.one .nil)))))))))))) (.seq (.seq (.reg [] (.one (.one .nil))) (.cond (.seq (.reg [] (.one .nil)) .leaf) .leaf)) (.seq (.reg [] (.one (.one (.one (.one .nil))))) (.seq (.reg [] (.one (.one (.one (.one (.one (.one (.one (.one .nil))))))))) (.seq (.reg [0, 1, 3, 7, 0, 31] (.one (.one (.one (.one (.one (.one .nil))))))) (.seq (.reg [] (.one .nil)) .leaf)))))))

theorem F17_eq : @F17 = fun a0 a1 w K => vcFun Try.prog an17 (Try.f17.body.getD .skip) Try.f17.results.toList 2 [a0, a1] w K := by kernel_rfl

theorem F17_calls {a0 a1 : Value} {w : World} {K : Value → World → Prop} (h : F17 a0 a1 w K) : Calls Try.prog 17 #[a0, a1] w (retK K) := by
  rw [F17_eq] at h
  exact calls_of_vc (f := 17) (fn := Try.f17) (args := [a0, a1]) Try.func17 (by kernel_rfl) (by kernel_rfl) rfl (by kernel_rfl) h

theorem F17_pc {a0 a1 : Value} {w : World} {K : Value → World → Prop} (h : F17 a0 a1 w K) : pCall Try.prog 17 [a0, a1] w K := by
  exact pCall_of (fn := Try.f17) (c := Try.f17.body.getD .skip) Try.func17 (by kernel_rfl) (by kernel_rfl) (F17_calls h)

/- bulkhead/wheel.New -/
def F18 (a0 : Value) (w : World) (K : Value → World → Prop) : Prop :=
  pV (binV .lss a0 (.int .i64 0)) fun t5_1 =>
  pSC false t5_1 w (fun J1 =>
    pV (binV .gtr a0 (.int .i64 1099511627776)) fun t8_2 =>
    J1 t8_2 w)
  (fun t9_3 w =>
  pIf t9_3
  (K (.tuple #[(.pointer none), (.int .i64 2)]) w)
  (pE (mapE w) fun t11_4 w =>
    pV (bldV #[(.int .i64 0), (.map none), (.slice none 0 0), (.slice none 0 0), (.slice none 0 0), (.slice none 0 0), (.slice none 0 0), (.slice none 0 0), (.slice none 0 0), (.slice none 0 0), (.slice none 0 0), (.slice none 0 0), (.slice none 0 0), (.slice none 0 0), (.slice none 0 0), (.slice none 0 0), (.slice none 0 0), (.slice none 0 0), (.slice none 0 0), (.slice none 0 0), (.slice none 0 0), (.slice none 0 0), (.slice none 0 0), (.slice none 0 0), (.slice none 0 0), (.slice none 0 0), (.slice none 0 0), (.slice none 0 0), (.slice none 0 0), (.slice none 0 0), (.slice none 0 0), (.slice none 0 0), (.slice none 0 0), (.slice none 0 0), (.slice none 0 0), (.slice none 0 0), (.slice none 0 0), (.slice none 0 0), (.slice none 0 0), (.slice none 0 0), (.slice none 0 0), (.slice none 0 0), (.slice none 0 0), (.slice none 0 0), (.slice none 0 0), (.slice none 0 0), (.slice none 0 0), (.slice none 0 0), (.slice none 0 0), (.slice none 0 0), (.slice none 0 0), (.slice none 0 0), (.slice none 0 0), (.slice none 0 0), (.slice none 0 0), (.slice none 0 0), (.slice none 0 0), (.slice none 0 0), (.slice none 0 0), (.slice none 0 0), (.slice none 0 0), (.slice none 0 0), (.slice none 0 0), (.slice none 0 0), (.slice none 0 0), (.slice none 0 0), (.slice none 0 0), (.slice none 0 0), (.slice none 0 0), (.slice none 0 0), (.slice none 0 0), (.slice none 0 0), (.slice none 0 0), (.slice none 0 0), (.slice none 0 0), (.slice none 0 0), (.slice none 0 0), (.slice none 0 0), (.slice none 0 0), (.slice none 0 0), (.slice none 0 0), (.slice none 0 0), (.slice none 0 0), (.slice none 0 0), (.slice none 0 0), (.slice none 0 0), (.slice none 0 0), (.slice none 0 0), (.slice none 0 0), (.slice none 0 0), (.slice none 0 0), (.slice none 0 0), (.slice none 0 0), (.slice none 0 0), (.slice none 0 0), (.slice none 0 0), (.slice none 0 0), (.slice none 0 0), (.slice none 0 0), (.slice none 0 0), (.slice none 0 0), (.slice none 0 0), (.slice none 0 0), (.slice none 0 0), (.slice none 0 0), (.slice none 0 0), (.slice none 0 0), (.slice none 0 0), (.slice none 0 0), (.slice none 0 0), (.slice none 0 0), (.slice none 0 0), (.slice none 0 0), (.slice none 0 0), (.slice none 0 0), (.slice none 0 0), (.slice none 0 0), (.slice none 0 0), (.slice none 0 0), (.slice none 0 0), (.slice none 0 0), (.slice none 0 0), (.slice none 0 0), (.slice none 0 0), (.slice none 0 0), (.slice none 0 0), (.slice none 0 0), (.slice none 0 0), (.slice none 0 0), (.slice none 0 0), (.slice none 0 0), (.slice none 0 0), (.slice none 0 0), (.slice none 0 0), (.slice none 0 0), (.slice none 0 0), (.slice none 0 0), (.slice none 0 0), (.slice none 0 0), (.slice none 0 0), (.slice none 0 0), (.slice none 0 0), (.slice none 0 0), (.slice none 0 0), (.slice none 0 0), (.slice none 0 0), (.slice none 0 0), (.slice none 0 0), (.slice none 0 0), (.slice none 0 0), (.slice none 0 0), (.slice none 0 0), (.slice none 0 0), (.slice none 0 0), (.slice none 0 0), (.slice none 0 0), (.slice none 0 0), (.slice none 0 0), (.slice none 0 0), (.slice none 0 0), (.slice none 0 0), (.slice none 0 0), (.slice none 0 0), (.slice none 0 0), (.slice none 0 0), (.slice none 0 0), (.slice none 0 0), (.slice none 0 0), (.slice none 0 0), (.slice none 0 0), (.slice none 0 0), (.slice none 0 0), (.slice none 0 0), (.slice none 0 0), (.slice none 0 0), (.slice none 0 0), (.slice none 0 0), (.slice none 0 0), (.slice none 0 0), (.slice none 0 0), (.slice none 0 0), (.slice none 0 0), (.slice none 0 0), (.slice none 0 0), (.slice none 0 0), (.slice none 0 0), (.slice none 0 0), (.slice none 0 0), (.slice none 0 0), (.slice none 0 0), (.slice none 0 0), (.slice none 0 0), (.slice none 0 0), (.slice none 0 0), (.slice none 0 0), (.slice none 0 0), (.slice none 0 0), (.slice none 0 0), (.slice none 0 0), (.slice none 0 0), (.slice none 0 0), (.slice none 0 0), (.slice none 0 0), (.slice none 0 0), (.slice none 0 0), (.slice none 0 0), (.slice none 0 0), (.slice none 0 0), (.slice none 0 0), (.slice none 0 0), (.slice none 0 0), (.slice none 0 0), (.slice none 0 0), (.slice none 0 0), (.slice none 0 0), (.slice none 0 0), (.slice none 0 0), (.slice none 0 0), (.slice none 0 0), (.slice none 0 0), (.slice none 0 0), (.slice none 0 0), (.slice none 0 0), (.slice none 0 0), (.slice none 0 0), (.slice none 0 0), (.slice none 0 0), (.slice none 0 0), (.slice none 0 0), (.slice none 0 0), (.slice none 0 0), (.slice none 0 0), (.slice none 0 0), (.slice none 0 0), (.slice none 0 0), (.slice none 0 0), (.slice none 0 0), (.slice none 0 0), (.slice none 0 0), (.slice none 0 0), (.slice none 0 0), (.slice none 0 0), (.slice none 0 0), (.slice none 0 0), (.slice none 0 0), (.slice none 0 0), (.slice none 0 0), (.slice none 0 0), (.slice none 0 0), (.slice none 0 0), (.slice none 0 0), (.slice none 0 0), (.slice none 0 0), (.slice none 0 0), (.slice none 0 0), (.slice none 0 0), (.slice none 0 0), (.slice none 0 0), (.slice none 0 0), (.slice none 0 0), (.slice none 0 0), (.slice none 0 0), (.slice none 0 0), (.slice none 0 0), (.slice none 0 0), (.slice none 0 0), (.slice none 0 0), (.slice none 0 0), (.slice none 0 0), (.slice none 0 0), (.slice none 0 0), (.slice none 0 0), (.slice none 0 0), (.slice none 0 0), (.slice none 0 0), (.slice none 0 0), (.slice none 0 0), (.slice none 0 0), (.slice none 0 0), (.slice none 0 0), (.slice none 0 0), (.slice none 0 0), (.slice none 0 0), (.slice none 0 0), (.slice none 0 0), (.slice none 0 0), (.slice none 0 0), (.slice none 0 0), (.slice none 0 0), (.slice none 0 0), (.slice none 0 0), (.slice none 0 0), (.slice none 0 0), (.slice none 0 0), (.slice none 0 0), (.slice none 0 0), (.slice none 0 0), (.slice none 0 0), (.slice none 0 0), (.slice none 0 0), (.slice none 0 0), (.slice none 0 0), (.slice none 0 0), (.slice none 0 0), (.slice none 0 0), (.slice none 0 0), (.slice none 0 0), (.slice none 0 0), (.slice none 0 0), (.slice none 0 0), (.slice none 0 0), (.slice none 0 0), (.slice none 0 0), (.slice none 0 0), (.slice none 0 0), (.slice none 0 0), (.slice none 0 0), (.slice none 0 0), (.slice none 0 0), (.slice none 0 0), (.slice none 0 0), (.slice none 0 0), (.slice none 0 0), (.slice none 0 0), (.slice none 0 0), (.slice none 0 0), (.slice none 0 0), (.slice none 0 0), (.slice none 0 0), (.slice none 0 0), (.slice none 0 0), (.slice none 0 0), (.slice none 0 0), (.slice none 0 0), (.slice none 0 0), (.slice none 0 0), (.slice none 0 0), (.slice none 0 0), (.slice none 0 0), (.slice none 0 0), (.slice none 0 0), (.slice none 0 0), (.slice none 0 0), (.slice none 0 0), (.slice none 0 0), (.slice none 0 0), (.slice none 0 0), (.slice none 0 0), (.slice none 0 0), (.slice none 0 0), (.slice none 0 0), (.slice none 0 0), (.slice none 0 0), (.slice none 0 0), (.slice none 0 0), (.slice none 0 0), (.slice none 0 0), (.slice none 0 0), (.slice none 0 0), (.slice none 0 0), (.slice none 0 0), (.slice none 0 0), (.slice none 0 0), (.slice none 0 0), (.slice none 0 0), (.slice none 0 0), (.slice none 0 0), (.slice none 0 0), (.slice none 0 0), (.slice none 0 0), (.slice none 0 0), (.slice none 0 0), (.slice none 0 0), (.slice none 0 0), (.slice none 0 0), (.slice none 0 0), (.slice none 0 0), (.slice none 0 0), (.slice none 0 0), (.slice none 0 0), (.slice none 0 0), (.slice none 0 0), (.slice none 0 0), (.slice none 0 0), (.slice none 0 0), (.slice none 0 0), (.slice none 0 0), (.slice none 0 0), (.slice none 0 0), (.slice none 0 0), (.slice none 0 0), (.slice none 0 0), (.slice none 0 0), (.slice none 0 0), (.slice none 0 0), (.slice none 0 0), (.slice none 0 0), (.slice none 0 0), (.slice none 0 0), (.slice none 0 0), (.slice none 0 0), (.slice none 0 0), (.slice none 0 0), (.slice none 0 0), (.slice none 0 0), (.slice none 0 0), (.slice none 0 0), (.slice none 0 0), (.slice none 0 0), (.slice none 0 0), (.slice none 0 0), (.slice none 0 0), (.slice none 0 0), (.slice none 0 0), (.slice none 0 0), (.slice none 0 0), (.slice none 0 0), (.slice none 0 0), (.slice none 0 0), (.slice none 0 0), (.slice none 0 0), (.slice none 0 0), (.slice none 0 0), (.slice none 0 0), (.slice none 0 0), (.slice none 0 0), (.slice none 0 0), (.slice none 0 0), (.slice none 0 0), (.slice none 0 0), (.slice none 0 0), (.slice none 0 0), (.slice none 0 0), (.slice none 0 0), (.slice none 0 0), (.slice none 0 0), (.slice none 0 0), (.slice none 0 0), (.slice none 0 0), (.slice none 0 0), (.slice none 0 0), (.slice none 0 0), (.slice none 0 0), (.slice none 0 0), (.slice none 0 0), (.slice none 0 0), (.slice none 0 0), (.slice none 0 0), (.slice none 0 0), (.slice none 0 0)] #[(0, 1), (1, 1), (2, 448)] [(0, a0), (1, t11_4)]) fun t12_5 =>
    pE (boxE 64 t12_5 w) fun t13_6 w =>
    K (.tuple #[t13_6, (.int .i64 0)]) w))

def an18 : An := (.seq (.reg [] (.one (.one .nil))) (.seq (.seq (.reg [] (.one (.one (.one (.sc false (.one (.one .nil)) .nil))))) (.cond (.seq (.reg [] (.one (.one .nil))) .leaf) .leaf)) (.seq (.reg [] (.one (.one (.one (.one (.one (.one .nil))))))) .leaf)))

theorem F18_eq : @F18 = fun a0 w K => vcFun Try.prog an18 (Try.f18.body.getD .skip) Try.f18.results.toList 1 [a0] w K := by kernel_rfl

theorem F18_calls {a0 : Value} {w : World} {K : Value → World → Prop} (h : F18 a0 w K) : Calls Try.prog 18 #[a0] w (retK K) := by
  rw [F18_eq] at h
  exact calls_of_vc (f := 18) (fn := Try.f18) (args := [a0]) Try.func18 (by kernel_rfl) (by kernel_rfl) rfl (by kernel_rfl) h

theorem F18_pc {a0 : Value} {w : World} {K : Value → World → Prop} (h : F18 a0 w K) : pCall Try.prog 18 [a0] w K := by
  exact pCall_of (fn := Try.f18) (c := Try.f18.body.getD .skip) Try.func18 (by kernel_rfl) (by kernel_rfl) (F18_calls h)

/- bulkhead/bulkheadref07.New -/
def F19 (a0 : Value) (w : World) (K : Value → World → Prop) : Prop :=
  pE (boxE 47 (.agg #[(.int .i64 0), (.slice none 0 0)]) w) fun t2_1 w =>
  pV (binV .lss a0 (.int .i64 0)) fun t5_2 =>
  pSC false t5_2 w (fun J1 =>
    pV (binV .gtr a0 (.int .i64 1099511627776)) fun t8_3 =>
    J1 t8_3 w)
  (fun t9_4 w =>
  pIf t9_4
  (pV (bldV #[(.int .i64 0), (.slice none 0 0)] #[(0, 1), (1, 1)] []) fun t10_5 =>
    pU (stE 2 t2_1 t10_5 w) fun w =>
    pV (ldV true 2 w t2_1) fun tr_6 =>
    K (.tuple #[tr_6, (.int .i64 2)]) w)
  (pV (bldV #[(.int .i64 0), (.slice none 0 0)] #[(0, 1), (1, 1)] [(0, a0)]) fun t12_7 =>
    pU (stE 2 t2_1 t12_7 w) fun w =>
    pV (ldV true 2 w t2_1) fun tr_8 =>
    K (.tuple #[tr_8, (.int .i64 0)]) w))

def an19 : An := (.seq (.reg [] (.one (.one .nil))) (.seq (.seq (.reg [] (.one (.one (.one (.sc false (.one (.one .nil)) .nil))))) (.cond (.seq (.reg [] (.one (.one (.one .nil)))) .leaf) .leaf)) (.seq (.reg [] (.one (.one (.one (.one .nil))))) .leaf)))

theorem F19_eq : @F19 = fun a0 w K => vcFun Try.prog an19 (Try.f19.body.getD .skip) Try.f19.results.toList 1 [a0] w K := by kernel_rfl

theorem F19_calls {a0 : Value} {w : World} {K : Value → World → Prop} (h : F19 a0 w K) : Calls Try.prog 19 #[a0] w (retK K) := by
  rw [F19_eq] at h
  exact calls_of_vc (f := 19) (fn := Try.f19) (args := [a0]) Try.func19 (by kernel_rfl) (by kernel_rfl) rfl (by kernel_rfl) h

theorem F19_pc {a0 : Value} {w : World} {K : Value → World → Prop} (h : F19 a0 w K) : pCall Try.prog 19 [a0] w K := by
  exact pCall_of (fn := Try.f19) (c := Try.f19.body.getD .skip) Try.func19 (by kernel_rfl) (by kernel_rfl) (F19_calls h)

/- bulkhead/bulkheadlaw07.play -/
def F20 (a0 a1 : Value) (w : World) (K : Value → World → Prop) : Prop :=
  pE (boxE 51 a0 w) fun t2_1 w =>
  pE (boxE 54 a1 w) fun t3_2 w =>
  pE (boxE 51 (.agg #[(.pointer none), (.int .i64 0), (.slice none 0 0)]) w) fun t4_3 w =>
  pV (fldA 0 t3_2) fun t19_4 =>
  pV (ldV false 1 w t19_4) fun t20_5 =>
  pV (binV .eql t20_5 (.int .i64 1)) fun t22_6 =>
  pIf t22_6
  (pV (fldA 0 t2_1) fun t23_7 =>
    pV (ldV false 1 w t23_7) fun t24_8 =>
    pV (fldA 2 t3_2) fun t25_9 =>
    pV (ldV false 1 w t25_9) fun t26_10 =>
    pV (fldA 3 t3_2) fun t27_11 =>
    pV (ldV false 1 w t27_11) fun t28_12 =>
    pCall Try.prog 15 [t24_8, t26_10, t28_12] w fun t29_13 w =>
    pV (fldA 1 t2_1) fun t31_14 =>
    pV (ldV true 2 w t31_14) fun t32_15 =>
    pV (fldA 2 t3_2) fun t33_16 =>
    pV (ldV false 1 w t33_16) fun t34_17 =>
    pV (fldA 3 t3_2) fun t35_18 =>
    pV (ldV false 1 w t35_18) fun t36_19 =>
    pCall Try.prog 30 [t32_15, t34_17, t36_19] w fun t37_20 w =>
    pV (extV t37_20 0) fun t38_21 =>
    pV (extV t37_20 1) fun t39_22 =>
    pV (fldA 1 t2_1) fun t40_23 =>
    pU (stE 2 t40_23 t38_21 w) fun w =>
    pDraw w fun w =>
    pV (ldV true 3 w t2_1) fun t41_24 =>
    pV (binV .eql t29_13 t39_22) fun t44_25 =>
    pSC true t44_25 w (fun J1 =>
      pV (ldV true 3 w t2_1) fun t46_26 =>
      pV (fldA 2 t3_2) fun t47_27 =>
      pV (ldV false 1 w t47_27) fun t48_28 =>
      pKept [(true, 3, t2_1)] w (fun J2 =>
        pCall Try.prog 22 [t46_26, t48_28] w fun t49_30 w =>
        J2 t49_30 w)
      (fun t49_29 w =>
      J1 t49_29 w))
    (fun t50_31 w =>
    pU (stE 3 t4_3 t41_24 w) fun w =>
    pV (ldV true 3 w t4_3) fun tr_32 =>
    K (.tuple #[tr_32, (.slice none 0 0), (.slice none 0 0), t50_31]) w))
  (pV (binV .eql t20_5 (.int .i64 2)) fun t52_33 =>
    pIf t52_33
    (pV (fldA 0 t2_1) fun t53_34 =>
      pV (ldV false 1 w t53_34) fun t54_35 =>
      pV (fldA 2 t3_2) fun t55_36 =>
      pV (ldV false 1 w t55_36) fun t56_37 =>
      pCall Try.prog 17 [t54_35, t56_37] w fun t57_38 w =>
      pV (fldA 1 t2_1) fun t59_39 =>
      pV (ldV true 2 w t59_39) fun t60_40 =>
      pV (fldA 2 t3_2) fun t61_41 =>
      pV (ldV false 1 w t61_41) fun t62_42 =>
      pCall Try.prog 31 [t60_40, t62_42] w fun t63_43 w =>
      pV (extV t63_43 0) fun t64_44 =>
      pV (extV t63_43 1) fun t65_45 =>
      pE (boxE 47 (.agg #[(.int .i64 0), (.slice none 0 0)]) w) fun t11_46 w =>
      pU (stE 2 t11_46 t64_44 w) fun w =>
      pV (ldV true 2 w t11_46) fun t66_47 =>
      pV (fldA 1 t2_1) fun t67_48 =>
      pU (stE 2 t67_48 t66_47 w) fun w =>
      pDraw w fun w =>
      pV (ldV true 3 w t2_1) fun t68_49 =>
      pV (boolV .eql t57_38 t65_45) fun t71_50 =>
      pSC true t71_50 w (fun J3 =>
        pV (ldV true 3 w t2_1) fun t73_51 =>
        pV (fldA 2 t3_2) fun t74_52 =>
        pV (ldV false 1 w t74_52) fun t75_53 =>
        pKept [(true, 3, t2_1)] w (fun J4 =>
          pCall Try.prog 22 [t73_51, t75_53] w fun t76_55 w =>
          J4 t76_55 w)
        (fun t76_54 w =>
        J3 t76_54 w))
      (fun t77_56 w =>
      pU (stE 3 t4_3 t68_49 w) fun w =>
      pV (ldV true 3 w t4_3) fun tr_57 =>
      K (.tuple #[tr_57, (.slice none 0 0), (.slice none 0 0), t77_56]) w))
    (pJoin (fun J5 =>
        pV (binV .eql t20_5 (.int .i64 4)) fun t79_58 =>
        pIf t79_58
        (J5 [t79_58] w)
        (pV (binV .eql t20_5 (.int .i64 5)) fun t80_59 =>
          J5 [t80_59] w))
      (fun vs5 w =>
        pIf (nth vs5 0)
        (pV (fldA 3 t3_2) fun t81_60 =>
          pV (ldV false 1 w t81_60) fun t82_61 =>
          pJoin (fun J6 =>
            pV (fldA 0 t3_2) fun t83_62 =>
            pV (ldV false 1 w t83_62) fun t84_63 =>
            pV (binV .eql t84_63 (.int .i64 5)) fun t85_64 =>
            pIf t85_64
            (pV (fldA 1 t2_1) fun t86_65 =>
              pV (fldA 0 t86_65) fun t87_66 =>
              pV (ldV false 1 w t87_66) fun t88_67 =>
              pV (fldA 3 t3_2) fun t89_68 =>
              pV (ldV false 1 w t89_68) fun t90_69 =>
              pV (binV .add t88_67 t90_69) fun t91_70 =>
              J6 [t91_70] w)
            (J6 [t82_61] w))
          (fun vs6 w =>
            pV (fldA 0 t2_1) fun t93_71 =>
            pV (ldV false 1 w t93_71) fun t94_72 =>
            pCall Try.prog 7 [t94_72, (nth vs6 0)] w fun t96_73 w =>
            pV (extV t96_73 0) fun t97_74 =>
            pV (extV t96_73 1) fun t98_75 =>
            pV (fldA 1 t2_1) fun t100_76 =>
            pV (ldV true 2 w t100_76) fun t101_77 =>
            pCall Try.prog 32 [t101_77, (nth vs6 0)] w fun t103_78 w =>
            pV (extV t103_78 0) fun t104_79 =>
            pV (extV t103_78 1) fun t105_80 =>
            pV (extV t103_78 2) fun t106_81 =>
            pE (boxE 47 (.agg #[(.int .i64 0), (.slice none 0 0)]) w) fun t16_82 w =>
            pU (stE 2 t16_82 t104_79 w) fun w =>
            pV (ldV true 2 w t16_82) fun t107_83 =>
            pV (fldA 1 t2_1) fun t108_84 =>
            pU (stE 2 t108_84 t107_83 w) fun w =>
            pDraw w fun w =>
            pV (ldV true 3 w t2_1) fun t109_85 =>
            pV (binV .eql t98_75 t106_81) fun t114_86 =>
            pSC true t114_86 w (fun J7 =>
              pKept [(true, 3, t2_1)] w (fun J8 =>
                pCall Try.prog 13 [t97_74, t105_80] w fun t118_88 w =>
                J8 t118_88 w)
              (fun t118_87 w =>
              J7 t118_87 w))
            (fun t119_89 w =>
            pSC true t119_89 w (fun J9 =>
              pV (ldV true 3 w t2_1) fun t121_90 =>
              pV (fldA 2 t3_2) fun t122_91 =>
              pV (ldV false 1 w t122_91) fun t123_92 =>
              pKept [(true, 3, t2_1)] w (fun J10 =>
                pCall Try.prog 22 [t121_90, t123_92] w fun t124_94 w =>
                J10 t124_94 w)
              (fun t124_93 w =>
              J9 t124_93 w))
            (fun t125_95 w =>
            pU (stE 3 t4_3 t109_85 w) fun w =>
            pV (ldV true 3 w t4_3) fun tr_96 =>
            K (.tuple #[tr_96, t97_74, t105_80, t125_95]) w))))
        (pDraw w fun w =>
          pV (ldV true 3 w t2_1) fun t126_97 =>
          pV (ldV true 3 w t2_1) fun t127_98 =>
          pV (fldA 2 t3_2) fun t128_99 =>
          pV (ldV false 1 w t128_99) fun t129_100 =>
          pKept [(true, 3, t2_1)] w (fun J11 =>
            pCall Try.prog 22 [t127_98, t129_100] w fun t130_102 w =>
            J11 t130_102 w)
          (fun t130_101 w =>
          pU (stE 3 t4_3 t126_97 w) fun w =>
          pV (ldV true 3 w t4_3) fun tr_103 =>
          K (.tuple #[tr_103, (.slice none 0 0), (.slice none 0 0), t130_101]) w)))))

def an20 : An := (.seq (.reg [] (.one (.one (.one (.one (.one (.one .nil))))))) (.seq (.reg [] (.one .nil)) (.seq (.seq (.reg [] (.one (.one .nil))) (.blk (.seq (.reg [] (.one (.one .nil))) (.cond (.seq (.reg [] (.one (.one (.one (.one (.one (.one (.one (.one .nil))))))))) (.seq (.reg [] (.one (.one (.one (.one (.one (.one (.one (.one (.one (.one (.one (.one (.one .nil)))))))))))))) (.seq (.regp [0, 1, 2, 3, 4, 5, 6, 7, 8, 9, 10, 11, 12, 13] [0, 0, 0, 6, 14, 30, 30, 94, 254, 510, 511, 1535, 3583, 8191, 0, 0, 0, 1, 2, 3, 3, 4, 5, 9, 6, 7, 8, 10] (.one (.one (.one (.one (.one (.sc true (.one (.one (.one (.onek [0] .nil)))) (.one (.one (.one (.one .nil))))))))))) .leaf))) (.seq (.reg [] (.one (.one .nil))) (.cond (.seq (.reg [] (.one (.one (.one (.one (.one (.one .nil))))))) (.seq (.reg [] (.one (.one (.one (.one (.one (.one (.one (.one (.one (.one (.one .nil)))))))))))) (.seq (.reg [] (.one (.one (.one .nil)))) (.seq (.regp [0, 1, 2, 3, 4, 5, 6, 7, 8, 9, 10, 11, 12, 13] [0, 0, 0, 6, 14, 30, 30, 94, 254, 510, 511, 1535, 3583, 8191, 0, 0, 0, 1, 2, 3, 3, 4, 5, 9, 6, 7, 8, 10] (.one (.one (.one (.one (.one (.sc true (.one (.one (.one (.onek [0] .nil)))) (.one (.one (.one (.one .nil))))))))))) .leaf)))) (.join [78] (.seq (.reg [] (.one (.one .nil))) (.cond .leaf (.reg [] (.one (.one .nil))))) (.cond (.seq (.reg [] (.one (.one (.one .nil)))) (.join [13] (.seq (.reg [] (.one (.one (.one .nil)))) (.cond (.reg [] (.one (.one (.one (.one (.one (.one (.one .nil)))))))) .leaf)) (.seq (.reg [] (.one (.one (.one (.one (.one (.one (.one (.one (.one .nil)))))))))) (.seq (.reg [] (.one (.one (.one (.one (.one (.one (.one (.one (.one (.one (.one (.one .nil))))))))))))) (.seq (.reg [] (.one (.one (.one .nil)))) (.seq (.regp [0, 1, 2, 3, 4, 5, 6, 7, 8, 9, 10, 11, 12, 13, 14, 15, 16, 17, 18, 19, 20] [0, 0, 0, 0, 0, 24, 56, 120, 120, 504, 1016, 2040, 4088, 4088, 12280, 32760, 65528, 65529, 196603, 458751, 1048575, 0, 11, 13, 0, 0, 1, 2, 3, 3, 4, 5, 6, 7, 7, 8, 9, 15, 10, 12, 14, 16] (.one (.one (.one (.one (.one (.one (.one (.sc true (.one (.one (.onek [0] .nil))) (.one (.sc true (.one (.one (.one (.onek [0] .nil)))) (.one (.one (.one (.one .nil))))))))))))))) .leaf)))))) .leaf)))))))) (.seq (.regp [0, 1, 2, 3, 4, 5, 6, 7, 8] [0, 0, 0, 4, 14, 31, 63, 127, 255] (.one (.one (.one (.one (.onek [0] (.one (.one (.one (.one .nil)))))))))) .leaf))))

theorem F20_eq : @F20 = fun a0 a1 w K => vcFun Try.prog an20 (Try.f20.body.getD .skip) Try.f20.results.toList 2 [a0, a1] w K := by kernel_rfl

theorem F20_calls {a0 a1 : Value} {w : World} {K : Value → World → Prop} (h : F20 a0 a1 w K) : Calls Try.prog 20 #[a0, a1] w (retK K) := by
  rw [F20_eq] at h
  exact calls_of_vc (f := 20) (fn := Try.f20) (args := [a0, a1]) Try.func20 (by kernel_rfl) (by kernel_rfl) rfl (by kernel_rfl) h

theorem F20_pc {a0 a1 : Value} {w : World} {K : Value → World → Prop} (h : F20 a0 a1 w K) : pCall Try.prog 20 [a0, a1] w K := by
  exact pCall_of (fn := Try.f20) (c := Try.f20.body.getD .skip) Try.func20 (by kernel_rfl) (by kernel_rfl) (F20_calls h)

/- bulkhead/bulkheadlaw07.held -/
def F21 (a0 a1 : Value) (w : World) (K : Value → World → Prop) : Prop :=
  pLoop [(.int .i64 0)] w fun go1 vs1 w =>  -- slots 5
    pV (lenS a0) fun t15_1 =>
    pV (binV .lss (nth vs1 0) t15_1) fun t16_2 =>
    pIf t16_2
    (pDraw w fun w =>
      pV (idxV 1 a0 (nth vs1 0)) fun t21_3 =>
      pV (ldV false 1 w t21_3) fun t22_4 =>
      pV (idxV 1 a1 (nth vs1 0)) fun t25_5 =>
      pV (ldV false 1 w t25_5) fun t26_6 =>
      pCall Try.prog 13 [t22_4, t26_6] w fun t27_7 w =>
      pV (unV .not t27_7) fun t28_8 =>
      pIf t28_8
      (K (.bool false) w)
      (pV (binV .add (nth vs1 0) (.int .i64 1)) fun t18_9 =>
        go1 [t18_9] w))
    (pLoop [(.int .i64 0)] w fun go2 vs2 w =>  -- slots 6
        pV (lenS a0) fun t31_10 =>
        pV (binV .lss (nth vs2 0) t31_10) fun t32_11 =>
        pIf t32_11
        (pLoop [(.int .i64 0)] w fun go3 vs3 w =>  -- slots 7
            pV (idxV 1 a0 (nth vs2 0)) fun t38_12 =>
            pV (ldV false 1 w t38_12) fun t39_13 =>
            pV (lenS t39_13) fun t40_14 =>
            pV (binV .lss (nth vs3 0) t40_14) fun t41_15 =>
            pIf t41_15
            (pV (idxV 1 a0 (nth vs2 0)) fun t46_16 =>
              pV (ldV false 1 w t46_16) fun t47_17 =>
              pV (bldV #[(.int .i64 0), (.int .i64 0)] #[(0, 1), (1, 1)] [(0, (.int .i64 (-7))), (1, (nth vs2 0))]) fun t50_18 =>
              pV (idxV 2 t47_17 (nth vs3 0)) fun t51_19 =>
              pU (stE 2 t51_19 t50_18 w) fun w =>
              pV (binV .add (nth vs3 0) (.int .i64 1)) fun t43_20 =>
              go3 [t43_20] w)
            (pV (binV .add (nth vs2 0) (.int .i64 1)) fun t34_21 =>
              go2 [t34_21] w))
        (pLoop [(.slice none 0 0), (.int .i64 0)] w fun go4 vs4 w =>  -- slots 8 9
            pV (lenS a0) fun t54_22 =>
            pV (binV .lss (nth vs4 1) t54_22) fun t55_23 =>
            pIf t55_23
            (pV (idxV 1 a0 (nth vs4 1)) fun t61_24 =>
              pV (ldV false 1 w t61_24) fun t62_25 =>
              pCall Try.prog 33 [t62_25, (.int .i64 70)] w fun t63_26 w =>
              pE (mkE 22 1 [t63_26] w) fun t64_27 w =>
              pE (semE Try.prog (Builtin.append_ #[52, 52] 52 #[(nth vs4 0), t64_27]) w) fun t65_28 w =>
              pV (binV .add (nth vs4 1) (.int .i64 1)) fun t57_29 =>
              go4 [t65_28, t57_29] w)
            (pLoop [(.int .i64 0)] w fun go5 vs5 w =>  -- slots 10
                pV (lenS a0) fun t68_30 =>
                pV (binV .lss (nth vs5 0) t68_30) fun t69_31 =>
                pIf t69_31
                (pLoop [(.int .i64 0)] w fun go6 vs6 w =>  -- slots 11
                    pV (idxV 1 (nth vs4 0) (nth vs5 0)) fun t75_32 =>
                    pV (ldV false 1 w t75_32) fun t76_33 =>
                    pV (lenS t76_33) fun t77_34 =>
                    pV (binV .lss (nth vs6 0) t77_34) fun t78_35 =>
                    pIf t78_35
                    (pV (bldV #[(.int .i64 0), (.int .i64 0)] #[(0, 1), (1, 1)] []) fun t81_36 =>
                      pE (boxE 34 (.agg #[(.int .i64 0), (.int .i64 0)]) w) fun t12_37 w =>
                      pU (stE 2 t12_37 t81_36 w) fun w =>
                      pJoin (fun J7 =>
                        pV (idxV 1 a0 (nth vs5 0)) fun t85_38 =>
                        pV (ldV false 1 w t85_38) fun t86_39 =>
                        pV (lenS t86_39) fun t87_40 =>
                        pV (binV .lss (nth vs6 0) t87_40) fun t88_41 =>
                        pIf t88_41
                        (pV (bldV #[(.int .i64 0), (.int .i64 0)] #[(0, 1), (1, 1)] [(0, (.int .i64 (-7))), (1, (nth vs5 0))]) fun t90_42 =>
                          pU (stE 2 t12_37 t90_42 w) fun w =>
                          J7 [] w)
                        (J7 [] w))
                      (fun vs7 w =>
                        pDraw w fun w =>
                        pV (idxV 1 (nth vs4 0) (nth vs5 0)) fun t93_43 =>
                        pV (ldV false 1 w t93_43) fun t94_44 =>
                        pV (idxV 2 t94_44 (nth vs6 0)) fun t96_45 =>
                        pV (ldV true 2 w t96_45) fun t97_46 =>
                        pV (ldV true 2 w t12_37) fun t98_47 =>
                        pV (dry Try.prog (eqS .neq 34 false false t97_46 t98_47)) fun t99_48 =>
                        pSC false t99_48 w (fun J8 =>
                          pV (idxV 1 a0 (nth vs5 0)) fun t104_49 =>
                          pV (ldV false 1 w t104_49) fun t105_50 =>
                          pV (lenS t105_50) fun t106_51 =>
                          pV (binV .lss (nth vs6 0) t106_51) fun t107_52 =>
                          pSC true t107_52 w (fun J9 =>
                            pV (idxV 1 a0 (nth vs5 0)) fun t111_53 =>
                            pV (ldV false 1 w t111_53) fun t112_54 =>
                            pV (idxV 2 t112_54 (nth vs6 0)) fun t114_55 =>
                            pV (ldV true 2 w t114_55) fun t115_56 =>
                            pV (ldV true 2 w t12_37) fun t116_57 =>
                            pV (dry Try.prog (eqS .neq 34 false false t115_56 t116_57)) fun t117_58 =>
                            J9 t117_58 w)
                          (fun t118_59 w =>
                          J8 t118_59 w))
                        (fun t119_60 w =>
                        pIf t119_60
                        (K (.bool false) w)
                        (pV (binV .add (nth vs6 0) (.int .i64 1)) fun t80_61 =>
                          go6 [t80_61] w))))
                    (pV (binV .add (nth vs5 0) (.int .i64 1)) fun t71_62 =>
                      go5 [t71_62] w))
                (K (.bool true) w))))

def an21 : An := (.seq (.reg [] (.one .nil)) (.seq (.seq (.reg [] (.one .nil)) (.blk (.loop [5] (.seq (.seq (.reg [] (.one (.one (.one (.one .nil))))) (.cond .leaf .leaf)) (.seq (.blk (.seq (.reg [0, 0, 3, 7, 0, 0, 48, 112, 255, 511] (.one (.one (.one (.one (.one (.one (.one (.one (.one (.one .nil))))))))))) (.cond (.seq (.reg [] (.one .nil)) .leaf) .leaf))) (.reg [] (.one (.one (.one .nil))))))))) (.seq (.seq (.reg [] (.one .nil)) (.blk (.loop [6] (.seq (.seq (.reg [] (.one (.one (.one (.one .nil))))) (.cond .leaf .leaf)) (.seq (.blk (.seq (.reg [] (.one .nil)) (.blk (.loop [7] (.seq (.seq (.reg [] (.one (.one (.one (.one (.one (.one (.one .nil)))))))) (.cond .leaf .leaf)) (.seq (.blk (.reg [] (.one (.one (.one (.one (.one (.one (.one (.one (.one .nil))))))))))) (.reg [] (.one (.one (.one .nil)))))))))) (.reg [] (.one (.one (.one .nil))))))))) (.seq (.reg [] (.one .nil)) (.seq (.seq (.reg [] (.one .nil)) (.blk (.loop [8, 9] (.seq (.seq (.reg [] (.one (.one (.one (.one .nil))))) (.cond .leaf .leaf)) (.seq (.blk (.reg [] (.one (.one (.one (.one (.one (.one (.one (.one (.one .nil))))))))))) (.reg [] (.one (.one (.one .nil))))))))) (.seq (.seq (.reg [] (.one .nil)) (.blk (.loop [10] (.seq (.seq (.reg [] (.one (.one (.one (.one .nil))))) (.cond .leaf .leaf)) (.seq (.blk (.seq (.reg [] (.one .nil)) (.blk (.loop [11] (.seq (.seq (.reg [] (.one (.one (.one (.one (.one (.one (.one .nil)))))))) (.cond .leaf .leaf)) (.seq (.blk (.seq (.reg [] (.one (.one (.one .nil)))) (.join [] (.seq (.reg [] (.one (.one (.one (.one (.one (.one (.one .nil)))))))) (.cond (.reg [] (.one (.one (.one .nil)))) .leaf)) (.seq (.reg [0, 0, 3, 7, 0, 31, 63, 0, 255, 511, 1023, 1023, 1023, 7167, 15359, 31743, 65535, 131071, 262143, 262143, 1048575, 2097151, 262143, 8388607, 16777215, 262143, 67108863, 134217727, 268435455] (.one (.one (.one (.one (.one (.one (.one (.one (.one (.one (.sc false (.one (.one (.one (.one (.one (.one (.one (.one (.sc true (.one (.one (.one (.one (.one (.one (.one (.one (.one .nil))))))))) .nil))))))))) .nil)))))))))))) (.cond (.seq (.reg [] (.one .nil)) .leaf) .leaf))))) (.reg [] (.one (.one (.one .nil)))))))))) (.reg [] (.one (.one (.one .nil))))))))) (.seq (.reg [] (.one .nil)) .leaf)))))))

theorem F21_eq : @F21 = fun a0 a1 w K => vcFun Try.prog an21 (Try.f21.body.getD .skip) Try.f21.results.toList 2 [a0, a1] w K := by kernel_rfl

theorem F21_calls {a0 a1 : Value} {w : World} {K : Value → World → Prop} (h : F21 a0 a1 w K) : Calls Try.prog 21 #[a0, a1] w (retK K) := by
  rw [F21_eq] at h
  exact calls_of_vc (f := 21) (fn := Try.f21) (args := [a0, a1]) Try.func21 (by kernel_rfl) (by kernel_rfl) rfl (by kernel_rfl) h

theorem F21_pc {a0 a1 : Value} {w : World} {K : Value → World → Prop} (h : F21 a0 a1 w K) : pCall Try.prog 21 [a0, a1] w K := by
  exact pCall_of (fn := Try.f21) (c := Try.f21.body.getD .skip) Try.func21 (by kernel_rfl) (by kernel_rfl) (F21_calls h)

/- bulkhead/bulkheadlaw07.asked -/
def F22 (a0 a1 : Value) (w : World) (K : Value → World → Prop) : Prop :=
  pE (boxE 51 a0 w) fun t2_1 w =>
  pV (fldA 0 t2_1) fun t14_2 =>
  pV (ldV false 1 w t14_2) fun t15_3 =>
  pCall Try.prog 14 [t15_3, a1] w fun t17_4 w =>
  pV (extV t17_4 0) fun t18_5 =>
  pV (extV t17_4 1) fun t19_6 =>
  pV (fldA 1 t2_1) fun t21_7 =>
  pV (ldV true 2 w t21_7) fun t22_8 =>
  pCall Try.prog 34 [t22_8, a1] w fun t24_9 w =>
  pV (extV t24_9 0) fun t25_10 =>
  pV (extV t24_9 1) fun t26_11 =>
  pV (fldA 0 t2_1) fun t28_12 =>
  pV (ldV false 1 w t28_12) fun t29_13 =>
  pCall Try.prog 12 [t29_13] w fun t30_14 w =>
  pV (extV t30_14 0) fun t31_15 =>
  pV (extV t30_14 1) fun t32_16 =>
  pV (fldA 1 t2_1) fun t34_17 =>
  pV (ldV true 2 w t34_17) fun t35_18 =>
  pCall Try.prog 35 [t35_18] w fun t36_19 w =>
  pV (extV t36_19 0) fun t37_20 =>
  pV (extV t36_19 1) fun t38_21 =>
  pDraw w fun w =>
  pV (binV .eql t18_5 t25_10) fun t41_22 =>
  pSC true t41_22 w (fun J1 =>
    pV (boolV .eql t19_6 t26_11) fun t45_23 =>
    J1 t45_23 w)
  (fun t46_24 w =>
  pSC true t46_24 w (fun J2 =>
    pV (binV .eql t31_15 t37_20) fun t50_25 =>
    J2 t50_25 w)
  (fun t51_26 w =>
  pSC true t51_26 w (fun J3 =>
    pV (boolV .eql t32_16 t38_21) fun t55_27 =>
    J3 t55_27 w)
  (fun t56_28 w =>
  pSC true t56_28 w (fun J4 =>
    pV (fldA 0 t2_1) fun t58_29 =>
    pV (ldV false 1 w t58_29) fun t59_30 =>
    pV (fldA 1 t2_1) fun t61_31 =>
    pV (fldA 0 t61_31) fun t62_32 =>
    pV (ldV false 1 w t62_32) fun t63_33 =>
    pKept [(false, 1, t62_32)] w (fun J5 =>
      pCall Try.prog 10 [t59_30] w fun t60_35 w =>
      J5 t60_35 w)
    (fun t60_34 w =>
    pV (binV .eql t60_34 t63_33) fun t64_36 =>
    J4 t64_36 w))
  (fun t65_37 w =>
  pSC true t65_37 w (fun J6 =>
    pV (fldA 0 t2_1) fun t67_38 =>
    pV (ldV false 1 w t67_38) fun t68_39 =>
    pV (fldA 1 t2_1) fun t70_40 =>
    pV (fldA 1 t70_40) fun t71_41 =>
    pV (ldV false 1 w t71_41) fun t72_42 =>
    pKept [(false, 1, t71_41)] w (fun J7 =>
      pCall Try.prog 9 [t68_39] w fun t69_44 w =>
      J7 t69_44 w)
    (fun t69_43 w =>
    pV (lenS t72_42) fun t73_45 =>
    pV (binV .eql t69_43 t73_45) fun t74_46 =>
    J6 t74_46 w))
  (fun t75_47 w =>
  K t75_47 w)))))

def an22 : An := (.seq (.reg [] (.one (.one .nil))) (.seq (.reg [] (.one (.one (.one (.one (.one (.one (.one (.one (.one .nil)))))))))) (.seq (.reg [] (.one (.one (.one (.one (.one (.one (.one (.one (.one .nil)))))))))) (.seq (.reg [] (.one (.one (.one (.one (.one (.one (.one (.one .nil))))))))) (.seq (.reg [] (.one (.one (.one (.one (.one (.one (.one (.one .nil))))))))) (.seq (.regp [0, 1, 2, 3, 4, 5, 6, 7, 8, 9, 10, 11, 12, 13, 14, 15, 16, 17, 18, 19, 20, 22, 23, 24, 21, 25, 26, 27, 28, 29, 31, 32, 33, 30, 34, 35, 36, 37] [0, 0, 3, 7, 15, 15, 63, 127, 255, 511, 511, 2047, 4095, 8191, 16383, 16383, 65535, 131071, 262143, 524287, 1048575, 2097151, 524287, 4718591, 13107199, 33554431, 67108863, 134217727, 268435455, 536870911, 1073741823, 268435455, 2415919103, 6710886399, 15300820991, 34359738367, 68719476735, 137438953471] (.one (.one (.one (.one (.sc true (.one (.one (.one .nil))) (.one (.sc true (.one (.one (.one .nil))) (.one (.sc true (.one (.one (.one .nil))) (.one (.sc true (.one (.one (.one (.one (.one (.onek [24] (.one .nil))))))) (.one (.sc true (.one (.one (.one (.one (.one (.onek [33] (.one (.one .nil)))))))) (.one .nil))))))))))))))) .leaf))))))

theorem F22_eq : @F22 = fun a0 a1 w K => vcFun Try.prog an22 (Try.f22.body.getD .skip) Try.f22.results.toList 2 [a0, a1] w K := by kernel_rfl

theorem F22_calls {a0 a1 : Value} {w : World} {K : Value → World → Prop} (h : F22 a0 a1 w K) : Calls Try.prog 22 #[a0, a1] w (retK K) := by
  rw [F22_eq] at h
  exact calls_of_vc (f := 22) (fn := Try.f22) (args := [a0, a1]) Try.func22 (by kernel_rfl) (by kernel_rfl) rfl (by kernel_rfl) h

theorem F22_pc {a0 a1 : Value} {w : World} {K : Value → World → Prop} (h : F22 a0 a1 w K) : pCall Try.prog 22 [a0, a1] w K := by
  exact pCall_of (fn := Try.f22) (c := Try.f22.body.getD .skip) Try.func22 (by kernel_rfl) (by kernel_rfl) (F22_calls h)

/- (*bulkhead/wheel.Wheel).move -/
def F23 (a0 a1 : Value) (w : World) (K : Value → World → Prop) : Prop :=
  pV (nilC a0) fun t11_1 =>
  pV (fldA 0 t11_1) fun t12_2 =>
  pU (stE 1 t12_2 a1 w) fun w =>
  pLoop [(.int .i64 0)] w fun go1 vs1 w =>  -- slots 13
    pV (binV .lss (nth vs1 0) (.int .i64 6)) fun t14_3 =>
    pIf t14_3
    (pDraw w fun w =>
      pV (binV .sub (.int .i64 6) (nth vs1 0)) fun t18_4 =>
      pV (binV .sub (.int .i64 6) (nth vs1 0)) fun t21_5 =>
      pCall Try.prog 26 [a1, t21_5] w fun t22_6 w =>
      pV (nilC a0) fun t23_7 =>
      pV (fldA 2 t23_7) fun t24_8 =>
      pV (idxA 64 7 t24_8 t18_4) fun t25_9 =>
      pV (idxA 1 64 t25_9 t22_6) fun t26_10 =>
      pV (nilC t26_10) fun t28_11 =>
      pV (ldV false 1 w t28_11) fun t29_12 =>
      pV (nilC t26_10) fun t31_13 =>
      pU (stE 1 t31_13 (.slice none 0 0) w) fun w =>
      pV (lenS t29_12) fun t33_14 =>
      pLoop [(.int .i64 0)] w fun go2 vs2 w =>  -- slots 34
        pV (binV .lss (nth vs2 0) t33_14) fun t35_15 =>
        pIf t35_15
        (pV (idxV 1 t29_12 (nth vs2 0)) fun t36_16 =>
          pV (ldV false 1 w t36_16) fun t37_17 =>
          pV (nilC a0) fun t41_18 =>
          pV (fldA 1 t41_18) fun t42_19 =>
          pV (ldV false 1 w t42_19) fun t43_20 =>
          pV (Go.Bk.look Try.prog w (Instr.lookup 60 t43_20 t37_17 false)) fun t45_21 =>
          pCall Try.prog 27 [a0, t37_17, t45_21] w fun _ w =>
          pV (binV .add (nth vs2 0) (.int .i64 1)) fun t47_23 =>
          go2 [t47_23] w)
        (pV (binV .add (nth vs1 0) (.int .i64 1)) fun t48_24 =>
          go1 [t48_24] w))
    (K (.tuple #[]) w)

def an23 : An := (.seq (.reg [] (.one (.one (.one (.one (.one .nil)))))) (.seq (.reg [] (.one .nil)) (.blk (.loop [13] (.seq (.reg [] (.one .nil)) (.seq (.cond .leaf .leaf) (.seq (.blk (.seq (.reg [] (.one (.one .nil))) (.seq (.reg [0, 0, 2, 0, 0, 16, 56, 1, 129, 391, 1023, 2047] (.one (.one (.one (.one (.one (.one (.one (.one (.one (.one (.one (.one .nil))))))))))))) (.seq (.reg [] (.one (.one (.one (.one .nil))))) (.seq (.reg [] (.one (.one (.one .nil)))) (.seq (.reg [] (.one (.one (.one .nil)))) (.blk (.loop [34] (.seq (.reg [] (.one .nil)) (.seq (.cond .leaf .leaf) (.seq (.blk (.seq (.reg [] (.one (.one (.one .nil)))) (.reg [] (.one (.one (.one (.one (.one (.one (.one (.one (.one .nil)))))))))))) (.reg [] (.one (.one .nil)))))))))))))) (.reg [] (.one (.one .nil))))))))))

theorem F23_eq : @F23 = fun a0 a1 w K => vcFun Try.prog an23 (Try.f23.body.getD .skip) Try.f23.results.toList 2 [a0, a1] w K := by kernel_rfl

theorem F23_calls {a0 a1 : Value} {w : World} {K : Value → World → Prop} (h : F23 a0 a1 w K) : Calls Try.prog 23 #[a0, a1] w (retK K) := by
  rw [F23_eq] at h
  exact calls_of_vc (f := 23) (fn := Try.f23) (args := [a0, a1]) Try.func23 (by kernel_rfl) (by kernel_rfl) rfl (by kernel_rfl) h

theorem F23_pc {a0 a1 : Value} {w : World} {K : Value → World → Prop} (h : F23 a0 a1 w K) : pCall Try.prog 23 [a0, a1] w K := by
  exact pCall_of (fn := Try.f23) (c := Try.f23.body.getD .skip) Try.func23 (by kernel_rfl) (by kernel_rfl) (F23_calls h)

/- (*bulkhead/wheel.Wheel).slot -/
def F24 (a0 a1 : Value) (w : World) (K : Value → World → Prop) : Prop :=
  pV (nilC a0) fun t8_1 =>
  pV (fldA 0 t8_1) fun t9_2 =>
  pV (ldV false 1 w t9_2) fun t10_3 =>
  pV (binV .xor a1 t10_3) fun t11_4 =>
  pV (convV .u64 t11_4) fun t12_5 =>
  pCall Try.prog 36 [t12_5] w fun t13_6 w =>
  pV (binV .sub t13_6 (.int .i64 1)) fun t14_7 =>
  pV (dry Try.prog (Builtin.max_ #[3, 3] 3 #[t14_7, (.int .i64 0)])) fun t15_8 =>
  pV (binV .quo t15_8 (.int .i64 6)) fun t16_9 =>
  pDraw w fun w =>
  pCall Try.prog 26 [a1, t16_9] w fun t21_10 w =>
  pV (nilC a0) fun t22_11 =>
  pV (fldA 2 t22_11) fun t23_12 =>
  pV (idxA 64 7 t23_12 t16_9) fun t24_13 =>
  pV (idxA 1 64 t24_13 t21_10) fun t25_14 =>
  K t25_14 w

def an24 : An := (.seq (.reg [] (.one .nil)) (.seq (.reg [] (.one (.one (.one (.one (.one (.one (.one (.one (.one (.one (.one (.one .nil))))))))))))) (.seq (.reg [0, 0, 0, 0, 12, 1, 33, 99, 255, 511] (.one (.one (.one (.one (.one (.one (.one (.one (.one (.one .nil))))))))))) .leaf)))

theorem F24_eq : @F24 = fun a0 a1 w K => vcFun Try.prog an24 (Try.f24.body.getD .skip) Try.f24.results.toList 2 [a0, a1] w K := by kernel_rfl

theorem F24_calls {a0 a1 : Value} {w : World} {K : Value → World → Prop} (h : F24 a0 a1 w K) : Calls Try.prog 24 #[a0, a1] w (retK K) := by
  rw [F24_eq] at h
  exact calls_of_vc (f := 24) (fn := Try.f24) (args := [a0, a1]) Try.func24 (by kernel_rfl) (by kernel_rfl) rfl (by kernel_rfl) h

theorem F24_pc {a0 a1 : Value} {w : World} {K : Value → World → Prop} (h : F24 a0 a1 w K) : pCall Try.prog 24 [a0, a1] w K := by
  exact pCall_of (fn := Try.f24) (c := Try.f24.body.getD .skip) Try.func24 (by kernel_rfl) (by kernel_rfl) (F24_calls h)

/- bulkhead/wheel.digit -/
def F26 (a0 a1 : Value) (w : World) (K : Value → World → Prop) : Prop :=
  pV (binV .mul (.int .i64 6) a1) fun t7_1 =>
  pV (binV .shr a0 t7_1) fun t8_2 =>
  pV (binV .and t8_2 (.int .i64 63)) fun t9_3 =>
  K t9_3 w

def an26 : An := (.seq (.reg [] (.one .nil)) (.seq (.reg [] (.one (.one (.one (.one (.one (.one .nil))))))) .leaf))

theorem F26_eq : @F26 = fun a0 a1 w K => vcFun Try.prog an26 (Try.f26.body.getD .skip) Try.f26.results.toList 2 [a0, a1] w K := by kernel_rfl

theorem F26_calls {a0 a1 : Value} {w : World} {K : Value → World → Prop} (h : F26 a0 a1 w K) : Calls Try.prog 26 #[a0, a1] w (retK K) := by
  rw [F26_eq] at h
  exact calls_of_vc (f := 26) (fn := Try.f26) (args := [a0, a1]) Try.func26 (by kernel_rfl) (by kernel_rfl) rfl (by kernel_rfl) h

theorem F26_pc {a0 a1 : Value} {w : World} {K : Value → World → Prop} (h : F26 a0 a1 w K) : pCall Try.prog 26 [a0, a1] w K := by
  exact pCall_of (fn := Try.f26) (c := Try.f26.body.getD .skip) Try.func26 (by kernel_rfl) (by kernel_rfl) (F26_calls h)

/- (*bulkhead/wheel.Wheel).lay -/
def F27 (a0 a1 a2 : Value) (w : World) (K : Value → World → Prop) : Prop :=
  pCall Try.prog 24 [a0, a2] w fun t9_1 w =>
  pV (nilC t9_1) fun t12_2 =>
  pV (ldV false 1 w t12_2) fun t13_3 =>
  pE (mkE 3 1 [a1] w) fun t15_4 w =>
  pE (semE Try.prog (Builtin.append_ #[23, 23] 23 #[t13_3, t15_4]) w) fun t16_5 w =>
  pV (nilC t9_1) fun t17_6 =>
  pU (stE 1 t17_6 t16_5 w) fun w =>
  pV (nilC a0) fun t19_7 =>
  pV (fldA 1 t19_7) fun t20_8 =>
  pV (ldV false 1 w t20_8) fun t21_9 =>
  pU (semU Try.prog (Instr.mapUpdate 60 t21_9 a1 a2) w) fun w =>
  K (.tuple #[]) w

def an27 : An := (.seq (.reg [] (.one (.one (.one (.one .nil))))) (.seq (.reg [] (.one (.one (.one (.one (.one (.one (.one (.one (.one .nil)))))))))) (.reg [] (.one (.one (.one (.one (.one (.one (.one .nil))))))))))

theorem F27_eq : @F27 = fun a0 a1 a2 w K => vcFun Try.prog an27 (Try.f27.body.getD .skip) Try.f27.results.toList 3 [a0, a1, a2] w K := by kernel_rfl

theorem F27_calls {a0 a1 a2 : Value} {w : World} {K : Value → World → Prop} (h : F27 a0 a1 a2 w K) : Calls Try.prog 27 #[a0, a1, a2] w (retK K) := by
  rw [F27_eq] at h
  exact calls_of_vc (f := 27) (fn := Try.f27) (args := [a0, a1, a2]) Try.func27 (by kernel_rfl) (by kernel_rfl) rfl (by kernel_rfl) h

theorem F27_pc {a0 a1 a2 : Value} {w : World} {K : Value → World → Prop} (h : F27 a0 a1 a2 w K) : pCall Try.prog 27 [a0, a1, a2] w K := by
  exact pCall_of (fn := Try.f27) (c := Try.f27.body.getD .skip) Try.func27 (by kernel_rfl) (by kernel_rfl) (F27_calls h)

/- slices.DeleteFunc[[]int,int] -/
def F28 (a0 a1 : Value) (w : World) (K : Value → World → Prop) : Prop :=
  pCall Try.prog 38 [a0, a1] w fun t10_1 w =>
  pV (binV .eql t10_1 (.int .i64 (-1))) fun t12_2 =>
  pIf t12_2
  (K a0 w)
  (pV (binV .add t10_1 (.int .i64 1)) fun t15_3 =>
    pLoop [t10_1, t15_3] w fun go1 vs1 w =>  -- slots 5 6
      pV (lenS a0) fun t18_4 =>
      pV (binV .lss (nth vs1 1) t18_4) fun t19_5 =>
      pIf t19_5
      (pJoin (fun J2 =>
          pV (idxV 1 a0 (nth vs1 1)) fun t24_6 =>
          pV (ldV false 1 w t24_6) fun t25_7 =>
          pCallV Try.prog a1 [t25_7] w fun t28_8 w =>
          pV (unV .not t28_8) fun t29_9 =>
          pIf t29_9
          (pV (idxV 1 a0 (nth vs1 0)) fun t33_10 =>
            pU (stE 1 t33_10 t25_7 w) fun w =>
            pV (binV .add (nth vs1 0) (.int .i64 1)) fun t35_11 =>
            J2 [t35_11] w)
          (J2 [(nth vs1 0)] w))
        (fun vs2 w =>
          pV (binV .add (nth vs1 1) (.int .i64 1)) fun t21_12 =>
          go1 [(nth vs2 0), t21_12] w))
      (pV (slV 1 a0 (some (nth vs1 0)) none none) fun t38_13 =>
        pE (semE Try.prog (Builtin.clear_ #[23] 0 #[t38_13]) w) fun _ w =>
        pV (slV 1 a0 none (some (nth vs1 0)) none) fun t41_15 =>
        K t41_15 w))

def an28 : An := (.seq (.reg [] (.one .nil)) (.seq (.reg [] (.one (.one (.one (.one .nil))))) (.seq (.seq (.reg [] (.one (.one .nil))) (.cond (.seq (.reg [] (.one (.one .nil))) .leaf) .leaf)) (.seq (.seq (.reg [] (.one (.one (.one .nil)))) (.blk (.loop [5, 6] (.seq (.seq (.reg [] (.one (.one (.one (.one .nil))))) (.cond .leaf .leaf)) (.seq (.blkJ [5] (.seq (.reg [] (.one (.one (.one (.one (.one .nil)))))) (.seq (.reg [] (.one (.one (.one (.one .nil))))) (.cond (.seq (.reg [] (.one (.one (.one (.one (.one .nil)))))) (.reg [] (.one (.one (.one .nil))))) .leaf)))) (.reg [] (.one (.one (.one .nil))))))))) (.seq (.reg [] (.one (.one (.one (.one .nil))))) (.seq (.reg [] (.one (.one (.one (.one .nil))))) .leaf))))))

theorem F28_eq : @F28 = fun a0 a1 w K => vcFun Try.prog an28 (Try.f28.body.getD .skip) Try.f28.results.toList 2 [a0, a1] w K := by kernel_rfl

theorem F28_calls {a0 a1 : Value} {w : World} {K : Value → World → Prop} (h : F28 a0 a1 w K) : Calls Try.prog 28 #[a0, a1] w (retK K) := by
  rw [F28_eq] at h
  exact calls_of_vc (f := 28) (fn := Try.f28) (args := [a0, a1]) Try.func28 (by kernel_rfl) (by kernel_rfl) rfl (by kernel_rfl) h

theorem F28_pc {a0 a1 : Value} {w : World} {K : Value → World → Prop} (h : F28 a0 a1 w K) : pCall Try.prog 28 [a0, a1] w K := by
  exact pCall_of (fn := Try.f28) (c := Try.f28.body.getD .skip) Try.func28 (by kernel_rfl) (by kernel_rfl) (F28_calls h)

/- (*bulkhead/wheel.Wheel).Cancel$1 -/
def F29 (a0 a1 : Value) (w : World) (K : Value → World → Prop) : Prop :=
  pV (ldV false 1 w a1) fun t5_1 =>
  pV (binV .eql a0 t5_1) fun t6_2 =>
  K t6_2 w

def an29 : An := (.seq (.reg [] (.one .nil)) (.seq (.reg [] (.one (.one (.one (.one .nil))))) .leaf))

theorem F29_eq : @F29 = fun a0 a1 w K => vcFun Try.prog an29 (Try.f29.body.getD .skip) Try.f29.results.toList 2 [a0, a1] w K := by kernel_rfl

theorem F29_calls {a0 a1 : Value} {w : World} {K : Value → World → Prop} (h : F29 a0 a1 w K) : Calls Try.prog 29 #[a0, a1] w (retK K) := by
  rw [F29_eq] at h
  exact calls_of_vc (f := 29) (fn := Try.f29) (args := [a0, a1]) Try.func29 (by kernel_rfl) (by kernel_rfl) rfl (by kernel_rfl) h

theorem F29_pc {a0 a1 : Value} {w : World} {K : Value → World → Prop} (h : F29 a0 a1 w K) : pCall Try.prog 29 [a0, a1] w K := by
  exact pCall_of (fn := Try.f29) (c := Try.f29.body.getD .skip) Try.func29 (by kernel_rfl) (by kernel_rfl) (F29_calls h)

/- bulkhead/bulkheadref07.Arm -/
def F30 (a0 a1 a2 : Value) (w : World) (K : Value → World → Prop) : Prop :=
  pE (boxE 47 a0 w) fun t3_1 w =>
  pE (boxE 47 (.agg #[(.int .i64 0), (.slice none 0 0)]) w) fun t6_2 w =>
  pV (binV .lss a1 (.int .i64 0)) fun t9_3 =>
  pSC false t9_3 w (fun J1 =>
    pV (binV .gtr a1 (.int .i64 65535)) fun t12_4 =>
    J1 t12_4 w)
  (fun t13_5 w =>
  pSC false t13_5 w (fun J2 =>
    pV (fldA 0 t3_1) fun t16_6 =>
    pV (ldV false 1 w t16_6) fun t17_7 =>
    pV (binV .lss a2 t17_7) fun t18_8 =>
    J2 t18_8 w)
  (fun t19_9 w =>
  pSC false t19_9 w (fun J3 =>
    pV (binV .geq a2 (.int .i64 1099511627776)) fun t22_10 =>
    J3 t22_10 w)
  (fun t23_11 w =>
  pIf t23_11
  (pV (ldV true 2 w t3_1) fun t24_12 =>
    pU (stE 2 t6_2 t24_12 w) fun w =>
    pV (ldV true 2 w t6_2) fun tr_13 =>
    K (.tuple #[tr_13, (.int .i64 2)]) w)
  (pV (fldA 1 t3_1) fun t25_14 =>
    pV (ldV false 1 w t25_14) fun t26_15 =>
    pCall Try.prog 40 [t26_15, a1] w fun t28_16 w =>
    pV (bldV #[(.int .i64 0), (.int .i64 0)] #[(0, 1), (1, 1)] [(0, a2), (1, a1)]) fun t31_17 =>
    pCall Try.prog 39 [t28_16, t31_17] w fun t32_18 w =>
    pV (fldA 1 t3_1) fun t33_19 =>
    pU (stE 1 t33_19 t32_18 w) fun w =>
    pV (ldV true 2 w t3_1) fun t34_20 =>
    pU (stE 2 t6_2 t34_20 w) fun w =>
    pV (ldV true 2 w t6_2) fun tr_21 =>
    K (.tuple #[tr_21, (.int .i64 0)]) w))))

def an30 : An := (.seq (.reg [] (.one (.one (.one .nil)))) (.seq (.seq (.reg [] (.one (.one (.one (.sc false (.one (.one .nil)) (.one (.sc false (.one (.one (.one (.one .nil)))) (.one (.sc false (.one (.one .nil)) .nil))))))))) (.cond (.seq (.reg [] (.one (.one (.one .nil)))) .leaf) .leaf)) (.seq (.reg [] (.one (.one (.one (.one (.one (.one (.one (.one (.one (.one .nil))))))))))) (.seq (.reg [] (.one (.one (.one .nil)))) .leaf))))

theorem F30_eq : @F30 = fun a0 a1 a2 w K => vcFun Try.prog an30 (Try.f30.body.getD .skip) Try.f30.results.toList 3 [a0, a1, a2] w K := by kernel_rfl

theorem F30_calls {a0 a1 a2 : Value} {w : World} {K : Value → World → Prop} (h : F30 a0 a1 a2 w K) : Calls Try.prog 30 #[a0, a1, a2] w (retK K) := by
  rw [F30_eq] at h
  exact calls_of_vc (f := 30) (fn := Try.f30) (args := [a0, a1, a2]) Try.func30 (by kernel_rfl) (by kernel_rfl) rfl (by kernel_rfl) h

theorem F30_pc {a0 a1 a2 : Value} {w : World} {K : Value → World → Prop} (h : F30 a0 a1 a2 w K) : pCall Try.prog 30 [a0, a1, a2] w K := by
  exact pCall_of (fn := Try.f30) (c := Try.f30.body.getD .skip) Try.func30 (by kernel_rfl) (by kernel_rfl) (F30_calls h)

/- bulkhead/bulkheadref07.Cancel -/
def F31 (a0 a1 : Value) (w : World) (K : Value → World → Prop) : Prop :=
  pE (boxE 47 a0 w) fun t2_1 w =>
  pE (boxE 47 (.agg #[(.int .i64 0), (.slice none 0 0)]) w) fun t4_2 w =>
  pV (ldV true 2 w t2_1) fun t9_3 =>
  pCall Try.prog 34 [t9_3, a1] w fun t11_4 w =>
  pV (extV t11_4 0) fun _ =>
  pV (extV t11_4 1) fun t13_6 =>
  pV (fldA 1 t2_1) fun t14_7 =>
  pV (ldV false 1 w t14_7) fun t15_8 =>
  pCall Try.prog 40 [t15_8, a1] w fun t17_9 w =>
  pV (fldA 1 t2_1) fun t18_10 =>
  pU (stE 1 t18_10 t17_9 w) fun w =>
  pV (ldV true 2 w t2_1) fun t19_11 =>
  pU (stE 2 t4_2 t19_11 w) fun w =>
  pV (ldV true 2 w t4_2) fun tr_12 =>
  K (.tuple #[tr_12, t13_6]) w

def an31 : An := (.seq (.reg [] (.one (.one (.one .nil)))) (.seq (.reg [] (.one (.one (.one (.one (.one (.one (.one (.one .nil))))))))) (.seq (.reg [] (.one (.one (.one (.one (.one (.one .nil))))))) (.seq (.reg [] (.one (.one (.one (.one .nil))))) .leaf))))

theorem F31_eq : @F31 = fun a0 a1 w K => vcFun Try.prog an31 (Try.f31.body.getD .skip) Try.f31.results.toList 2 [a0, a1] w K := by kernel_rfl

theorem F31_calls {a0 a1 : Value} {w : World} {K : Value → World → Prop} (h : F31 a0 a1 w K) : Calls Try.prog 31 #[a0, a1] w (retK K) := by
  rw [F31_eq] at h
  exact calls_of_vc (f := 31) (fn := Try.f31) (args := [a0, a1]) Try.func31 (by kernel_rfl) (by kernel_rfl) rfl (by kernel_rfl) h

theorem F31_pc {a0 a1 : Value} {w : World} {K : Value → World → Prop} (h : F31 a0 a1 w K) : pCall Try.prog 31 [a0, a1] w K := by
  exact pCall_of (fn := Try.f31) (c := Try.f31.body.getD .skip) Try.func31 (by kernel_rfl) (by kernel_rfl) (F31_calls h)

/- bulkhead/bulkheadref07.Advance -/
def F32 (a0 a1 : Value) (w : World) (K : Value → World → Prop) : Prop :=
  pE (boxE 47 a0 w) fun t2_1 w =>
  pE (boxE 47 (.agg #[(.int .i64 0), (.slice none 0 0)]) w) fun t4_2 w =>
  pV (fldA 0 t2_1) fun t11_3 =>
  pV (ldV false 1 w t11_3) fun t12_4 =>
  pV (binV .lss a1 t12_4) fun t13_5 =>
  pSC false t13_5 w (fun J1 =>
    pV (binV .gtr a1 (.int .i64 1099511627776)) fun t16_6 =>
    J1 t16_6 w)
  (fun t17_7 w =>
  pIf t17_7
  (pV (ldV true 2 w t2_1) fun t18_8 =>
    pU (stE 2 t4_2 t18_8 w) fun w =>
    pV (ldV true 2 w t4_2) fun tr_9 =>
    K (.tuple #[tr_9, (.slice none 0 0), (.int .i64 2)]) w)
  (pLoop [(.slice none 0 0), (.slice none 0 0), (.int .i64 0)] w fun go2 vs2 w =>  -- slots 7 8 9
      pV (fldA 1 t2_1) fun t20_10 =>
      pV (ldV false 1 w t20_10) fun t21_11 =>
      pV (lenS t21_11) fun t22_12 =>
      pV (binV .lss (nth vs2 2) t22_12) fun t23_13 =>
      pIf t23_13
      (pJoin (fun J3 =>
          pV (fldA 1 t2_1) fun t26_14 =>
          pV (ldV false 1 w t26_14) fun t27_15 =>
          pV (idxV 2 t27_15 (nth vs2 2)) fun t29_16 =>
          pV (fldA 0 t29_16) fun t30_17 =>
          pV (ldV false 1 w t30_17) fun t31_18 =>
          pV (binV .leq t31_18 a1) fun t33_19 =>
          pIf t33_19
          (pV (fldA 1 t2_1) fun t35_20 =>
            pV (ldV false 1 w t35_20) fun t36_21 =>
            pV (idxV 2 t36_21 (nth vs2 2)) fun t38_22 =>
            pV (ldV true 2 w t38_22) fun t39_23 =>
            pE (mkE 34 2 [t39_23] w) fun t40_24 w =>
            pE (semE Try.prog (Builtin.append_ #[22, 22] 22 #[(nth vs2 0), t40_24]) w) fun t41_25 w =>
            J3 [t41_25, (nth vs2 1)] w)
          (pV (fldA 1 t2_1) fun t43_26 =>
            pV (ldV false 1 w t43_26) fun t44_27 =>
            pV (idxV 2 t44_27 (nth vs2 2)) fun t46_28 =>
            pV (ldV true 2 w t46_28) fun t47_29 =>
            pE (mkE 34 2 [t47_29] w) fun t48_30 w =>
            pE (semE Try.prog (Builtin.append_ #[22, 22] 22 #[(nth vs2 1), t48_30]) w) fun t49_31 w =>
            J3 [(nth vs2 0), t49_31] w))
        (fun vs3 w =>
          pV (binV .add (nth vs2 2) (.int .i64 1)) fun t25_32 =>
          go2 [(nth vs3 0), (nth vs3 1), t25_32] w))
      (pV (bldV #[(.int .i64 0), (.slice none 0 0)] #[(0, 1), (1, 1)] [(0, a1), (1, (nth vs2 1))]) fun t52_33 =>
        pU (stE 2 t4_2 t52_33 w) fun w =>
        pV (ldV true 2 w t4_2) fun tr_34 =>
        K (.tuple #[tr_34, (nth vs2 0), (.int .i64 0)]) w)))

def an32 : An := (.seq (.reg [] (.one (.one (.one (.one .nil))))) (.seq (.seq (.reg [] (.one (.one (.one (.one (.one (.sc false (.one (.one .nil)) .nil))))))) (.cond (.seq (.reg [] (.one (.one (.one (.one .nil))))) .leaf) .leaf)) (.seq (.reg [] (.one (.one .nil))) (.seq (.seq (.reg [] (.one .nil)) (.blk (.loop [7, 8, 9] (.seq (.seq (.reg [] (.one (.one (.one (.one (.one .nil)))))) (.cond .leaf .leaf)) (.seq (.blkJ [7, 8] (.seq (.reg [] (.one (.one (.one (.one (.one (.one (.one (.one .nil))))))))) (.cond (.reg [] (.one (.one (.one (.one (.one (.one (.one (.one (.one .nil)))))))))) (.reg [] (.one (.one (.one (.one (.one (.one (.one (.one (.one .nil))))))))))))) (.reg [] (.one (.one (.one .nil))))))))) (.seq (.reg [] (.one (.one (.one (.one (.one (.one (.one .nil)))))))) .leaf)))))

theorem F32_eq : @F32 = fun a0 a1 w K => vcFun Try.prog an32 (Try.f32.body.getD .skip) Try.f32.results.toList 2 [a0, a1] w K := by kernel_rfl

theorem F32_calls {a0 a1 : Value} {w : World} {K : Value → World → Prop} (h : F32 a0 a1 w K) : Calls Try.prog 32 #[a0, a1] w (retK K) := by
  rw [F32_eq] at h
  exact calls_of_vc (f := 32) (fn := Try.f32) (args := [a0, a1]) Try.func32 (by kernel_rfl) (by kernel_rfl) rfl (by kernel_rfl) h

theorem F32_pc {a0 a1 : Value} {w : World} {K : Value → World → Prop} (h : F32 a0 a1 w K) : pCall Try.prog 32 [a0, a1] w K := by
  exact pCall_of (fn := Try.f32) (c := Try.f32.body.getD .skip) Try.func32 (by kernel_rfl) (by kernel_rfl) (F32_calls h)

/- bulkhead/bulkheadlaw07.grown -/
def F33 (a0 a1 : Value) (w : World) (K : Value → World → Prop) : Prop :=
  pLoop [a0, (.int .i64 0)] w fun go1 vs1 w =>  -- slots 0 5
    pV (binV .lss (nth vs1 1) a1) fun t8_1 =>
    pIf t8_1
    (pV (bldV #[(.int .i64 0), (.int .i64 0)] #[(0, 1), (1, 1)] []) fun t12_2 =>
      pE (mkE 34 2 [t12_2] w) fun t13_3 w =>
      pE (semE Try.prog (Builtin.append_ #[22, 22] 22 #[(nth vs1 0), t13_3]) w) fun t14_4 w =>
      pV (binV .add (nth vs1 1) (.int .i64 1)) fun t10_5 =>
      go1 [t14_4, t10_5] w)
    (K (nth vs1 0) w)

def an33 : An := (.seq (.reg [] (.one .nil)) (.seq (.seq (.reg [] (.one .nil)) (.blk (.loop [0, 5] (.seq (.seq (.reg [] (.one (.one (.one .nil)))) (.cond .leaf .leaf)) (.seq (.blk (.reg [] (.one (.one (.one (.one (.one .nil))))))) (.reg [] (.one (.one (.one .nil))))))))) (.seq (.reg [] (.one (.one .nil))) .leaf)))

theorem F33_eq : @F33 = fun a0 a1 w K => vcFun Try.prog an33 (Try.f33.body.getD .skip) Try.f33.results.toList 2 [a0, a1] w K := by kernel_rfl

theorem F33_calls {a0 a1 : Value} {w : World} {K : Value → World → Prop} (h : F33 a0 a1 w K) : Calls Try.prog 33 #[a0, a1] w (retK K) := by
  rw [F33_eq] at h
  exact calls_of_vc (f := 33) (fn := Try.f33) (args := [a0, a1]) Try.func33 (by kernel_rfl) (by kernel_rfl) rfl (by kernel_rfl) h

theorem F33_pc {a0 a1 : Value} {w : World} {K : Value → World → Prop} (h : F33 a0 a1 w K) : pCall Try.prog 33 [a0, a1] w K := by
  exact pCall_of (fn := Try.f33) (c := Try.f33.body.getD .skip) Try.func33 (by kernel_rfl) (by kernel_rfl) (F33_calls h)

/- bulkhead/bulkheadref07.When -/
def F34 (a0 a1 : Value) (w : World) (K : Value → World → Prop) : Prop :=
  pE (boxE 47 a0 w) fun t2_1 w =>
  pLoop [(.int .i64 0)] w fun go1 vs1 w =>  -- slots 6
    pV (fldA 1 t2_1) fun t8_2 =>
    pV (ldV false 1 w t8_2) fun t9_3 =>
    pV (lenS t9_3) fun t10_4 =>
    pV (binV .lss (nth vs1 0) t10_4) fun t11_5 =>
    pIf t11_5
    (pV (fldA 1 t2_1) fun t14_6 =>
      pV (ldV false 1 w t14_6) fun t15_7 =>
      pV (idxV 2 t15_7 (nth vs1 0)) fun t17_8 =>
      pV (fldA 1 t17_8) fun t18_9 =>
      pV (ldV false 1 w t18_9) fun t19_10 =>
      pV (binV .eql t19_10 a1) fun t21_11 =>
      pIf t21_11
      (pV (fldA 1 t2_1) fun t22_12 =>
        pV (ldV false 1 w t22_12) fun t23_13 =>
        pV (idxV 2 t23_13 (nth vs1 0)) fun t25_14 =>
        pV (fldA 0 t25_14) fun t26_15 =>
        pV (ldV false 1 w t26_15) fun t27_16 =>
        K (.tuple #[t27_16, (.bool true)]) w)
      (pV (binV .add (nth vs1 0) (.int .i64 1)) fun t13_17 =>
        go1 [t13_17] w))
    (K (.tuple #[(.int .i64 0), (.bool false)]) w)

def an34 : An := (.seq (.reg [] (.one (.one (.one .nil)))) (.seq (.seq (.reg [] (.one .nil)) (.blk (.loop [6] (.seq (.seq (.reg [] (.one (.one (.one (.one (.one .nil)))))) (.cond .leaf .leaf)) (.seq (.blk (.seq (.reg [] (.one (.one (.one (.one (.one (.one (.one (.one .nil))))))))) (.cond (.seq (.reg [] (.one (.one (.one (.one (.one (.one (.one (.one .nil))))))))) .leaf) .leaf))) (.reg [] (.one (.one (.one .nil))))))))) (.seq (.reg [] (.one (.one .nil))) .leaf)))

theorem F34_eq : @F34 = fun a0 a1 w K => vcFun Try.prog an34 (Try.f34.body.getD .skip) Try.f34.results.toList 2 [a0, a1] w K := by kernel_rfl

theorem F34_calls {a0 a1 : Value} {w : World} {K : Value → World → Prop} (h : F34 a0 a1 w K) : Calls Try.prog 34 #[a0, a1] w (retK K) := by
  rw [F34_eq] at h
  exact calls_of_vc (f := 34) (fn := Try.f34) (args := [a0, a1]) Try.func34 (by kernel_rfl) (by kernel_rfl) rfl (by kernel_rfl) h

theorem F34_pc {a0 a1 : Value} {w : World} {K : Value → World → Prop} (h : F34 a0 a1 w K) : pCall Try.prog 34 [a0, a1] w K := by
  exact pCall_of (fn := Try.f34) (c := Try.f34.body.getD .skip) Try.func34 (by kernel_rfl) (by kernel_rfl) (F34_calls h)

/- bulkhead/bulkheadref07.Next -/
def F35 (a0 : Value) (w : World) (K : Value → World → Prop) : Prop :=
  pE (boxE 47 a0 w) fun t1_1 w =>
  pV (fldA 1 t1_1) fun t4_2 =>
  pV (ldV false 1 w t4_2) fun t5_3 =>
  pV (lenS t5_3) fun t6_4 =>
  pV (binV .eql t6_4 (.int .i64 0)) fun t7_5 =>
  pIf t7_5
  (K (.tuple #[(.int .i64 0), (.bool false)]) w)
  (pV (fldA 1 t1_1) fun t8_6 =>
    pV (ldV false 1 w t8_6) fun t9_7 =>
    pV (idxV 2 t9_7 (.int .i64 0)) fun t10_8 =>
    pV (fldA 0 t10_8) fun t11_9 =>
    pV (ldV false 1 w t11_9) fun t12_10 =>
    K (.tuple #[t12_10, (.bool true)]) w)

def an35 : An := (.seq (.reg [] (.one (.one (.one .nil)))) (.seq (.seq (.reg [] (.one (.one (.one (.one .nil))))) (.cond (.seq (.reg [] (.one (.one .nil))) .leaf) .leaf)) (.seq (.reg [] (.one (.one (.one (.one (.one (.one (.one .nil)))))))) .leaf)))

theorem F35_eq : @F35 = fun a0 w K => vcFun Try.prog an35 (Try.f35.body.getD .skip) Try.f35.results.toList 1 [a0] w K := by kernel_rfl

theorem F35_calls {a0 : Value} {w : World} {K : Value → World → Prop} (h : F35 a0 w K) : Calls Try.prog 35 #[a0] w (retK K) := by
  rw [F35_eq] at h
  exact calls_of_vc (f := 35) (fn := Try.f35) (args := [a0]) Try.func35 (by kernel_rfl) (by kernel_rfl) rfl (by kernel_rfl) h

theorem F35_pc {a0 : Value} {w : World} {K : Value → World → Prop} (h : F35 a0 w K) : pCall Try.prog 35 [a0] w K := by
  exact pCall_of (fn := Try.f35) (c := Try.f35.body.getD .skip) Try.func35 (by kernel_rfl) (by kernel_rfl) (F35_calls h)

/- math/bits.Len -/
def F36 (a0 : Value) (w : World) (K : Value → World → Prop) : Prop :=
  pIf (.bool false)
  (pV (convV .u32 a0) fun t4_1 =>
    pCall Try.prog 41 [t4_1] w fun t5_2 w =>
    K t5_2 w)
  (pCall Try.prog 42 [a0] w fun t7_3 w =>
    K t7_3 w)

def an36 : An := (.seq (.reg [] (.one .nil)) (.seq (.cond (.seq (.reg [] (.one (.one (.one (.one .nil))))) .leaf) .leaf) (.seq (.reg [] (.one (.one (.one .nil)))) .leaf)))

theorem F36_eq : @F36 = fun a0 w K => vcFun Try.prog an36 (Try.f36.body.getD .skip) Try.f36.results.toList 1 [a0] w K := by kernel_rfl

theorem F36_calls {a0 : Value} {w : World} {K : Value → World → Prop} (h : F36 a0 w K) : Calls Try.prog 36 #[a0] w (retK K) := by
  rw [F36_eq] at h
  exact calls_of_vc (f := 36) (fn := Try.f36) (args := [a0]) Try.func36 (by kernel_rfl) (by kernel_rfl) rfl (by kernel_rfl) h

theorem F36_pc {a0 : Value} {w : World} {K : Value → World → Prop} (h : F36 a0 w K) : pCall Try.prog 36 [a0] w K := by
  exact pCall_of (fn := Try.f36) (c := Try.f36.body.getD .skip) Try.func36 (by kernel_rfl) (by kernel_rfl) (F36_calls h)

/- slices.IndexFunc[[]int,int] -/
def F38 (a0 a1 : Value) (w : World) (K : Value → World → Prop) : Prop :=
  pV (lenS a0) fun t7_1 =>
  pLoop [(.int .i64 0)] w fun go1 vs1 w =>  -- slots 8
    pV (binV .lss (nth vs1 0) t7_1) fun t9_2 =>
    pIf t9_2
    (pV (idxV 1 a0 (nth vs1 0)) fun t14_3 =>
      pV (ldV false 1 w t14_3) fun t15_4 =>
      pCallV Try.prog a1 [t15_4] w fun t16_5 w =>
      pIf t16_5
      (K (nth vs1 0) w)
      (pV (binV .add (nth vs1 0) (.int .i64 1)) fun t18_6 =>
        go1 [t18_6] w))
    (K (.int .i64 (-1)) w)

def an38 : An := (.seq (.reg [] (.one .nil)) (.seq (.seq (.reg [] (.one (.one (.one .nil)))) (.blk (.loop [8] (.seq (.reg [] (.one .nil)) (.seq (.cond .leaf .leaf) (.seq (.blk (.seq (.reg [] (.one (.one .nil))) (.seq (.reg [] (.one (.one (.one (.one (.one (.one .nil))))))) (.cond (.seq (.reg [] (.one (.one .nil))) .leaf) .leaf)))) (.reg [] (.one (.one .nil))))))))) (.seq (.reg [] (.one .nil)) .leaf)))

theorem F38_eq : @F38 = fun a0 a1 w K => vcFun Try.prog an38 (Try.f38.body.getD .skip) Try.f38.results.toList 2 [a0, a1] w K := by kernel_rfl

theorem F38_calls {a0 a1 : Value} {w : World} {K : Value → World → Prop} (h : F38 a0 a1 w K) : Calls Try.prog 38 #[a0, a1] w (retK K) := by
  rw [F38_eq] at h
  exact calls_of_vc (f := 38) (fn := Try.f38) (args := [a0, a1]) Try.func38 (by kernel_rfl) (by kernel_rfl) rfl (by kernel_rfl) h

theorem F38_pc {a0 a1 : Value} {w : World} {K : Value → World → Prop} (h : F38 a0 a1 w K) : pCall Try.prog 38 [a0, a1] w K := by
  exact pCall_of (fn := Try.f38) (c := Try.f38.body.getD .skip) Try.func38 (by kernel_rfl) (by kernel_rfl) (F38_calls h)

/- bulkhead/bulkheadref07.placed -/
def F39 (a0 a1 : Value) (w : World) (K : Value → World → Prop) : Prop :=
  pE (boxE 34 a1 w) fun t3_1 w =>
  pLoop [(.slice none 0 0), (.bool false), (.int .i64 0)] w fun go1 vs1 w =>  -- slots 5 6 7
    pV (lenS a0) fun t11_2 =>
    pV (binV .lss (nth vs1 2) t11_2) fun t12_3 =>
    pIf t12_3
    (pDraw w fun w =>
      pV (idxV 2 a0 (nth vs1 2)) fun t17_4 =>
      pV (fldA 0 t17_4) fun t18_5 =>
      pV (ldV false 1 w t18_5) fun t19_6 =>
      pV (fldA 0 t3_1) fun t20_7 =>
      pV (ldV false 1 w t20_7) fun t21_8 =>
      pV (binV .gtr t19_6 t21_8) fun t22_9 =>
      pSC false t22_9 w (fun J2 =>
        pV (idxV 2 a0 (nth vs1 2)) fun t26_10 =>
        pV (fldA 0 t26_10) fun t27_11 =>
        pV (ldV false 1 w t27_11) fun t28_12 =>
        pV (fldA 0 t3_1) fun t29_13 =>
        pV (ldV false 1 w t29_13) fun t30_14 =>
        pV (binV .eql t28_12 t30_14) fun t31_15 =>
        pSC true t31_15 w (fun J3 =>
          pV (idxV 2 a0 (nth vs1 2)) fun t35_16 =>
          pV (fldA 1 t35_16) fun t36_17 =>
          pV (ldV false 1 w t36_17) fun t37_18 =>
          pV (fldA 1 t3_1) fun t38_19 =>
          pV (ldV false 1 w t38_19) fun t39_20 =>
          pV (binV .gtr t37_18 t39_20) fun t40_21 =>
          J3 t40_21 w)
        (fun t41_22 w =>
        J2 t41_22 w))
      (fun t42_23 w =>
      pJoin (fun J4 =>
        pSC true t42_23 w (fun J5 =>
          pV (unV .not (nth vs1 1)) fun t46_24 =>
          J5 t46_24 w)
        (fun t47_25 w =>
        pIf t47_25
        (pV (ldV true 2 w t3_1) fun t49_26 =>
          pE (mkE 34 2 [t49_26] w) fun t50_27 w =>
          pE (semE Try.prog (Builtin.append_ #[22, 22] 22 #[(nth vs1 0), t50_27]) w) fun t51_28 w =>
          J4 [t51_28, (.bool true)] w)
        (J4 [(nth vs1 0), (nth vs1 1)] w)))
      (fun vs4 w =>
        pV (idxV 2 a0 (nth vs1 2)) fun t55_29 =>
        pV (ldV true 2 w t55_29) fun t56_30 =>
        pE (mkE 34 2 [t56_30] w) fun t57_31 w =>
        pE (semE Try.prog (Builtin.append_ #[22, 22] 22 #[(nth vs4 0), t57_31]) w) fun t58_32 w =>
        pV (binV .add (nth vs1 2) (.int .i64 1)) fun t14_33 =>
        go1 [t58_32, (nth vs4 1), t14_33] w)))
    (pJoin (fun J6 =>
        pV (unV .not (nth vs1 1)) fun t60_34 =>
        pIf t60_34
        (pV (ldV true 2 w t3_1) fun t62_35 =>
          pE (mkE 34 2 [t62_35] w) fun t63_36 w =>
          pE (semE Try.prog (Builtin.append_ #[22, 22] 22 #[(nth vs1 0), t63_36]) w) fun t64_37 w =>
          J6 [t64_37] w)
        (J6 [(nth vs1 0)] w))
      (fun vs6 w =>
        K (nth vs6 0) w))

def an39 : An := (.seq (.reg [] (.one (.one .nil))) (.seq (.reg [] (.one .nil)) (.seq (.reg [] (.one .nil)) (.seq (.seq (.reg [] (.one .nil)) (.blk (.loop [5, 6, 7] (.seq (.seq (.reg [] (.one (.one (.one (.one .nil))))) (.cond .leaf .leaf)) (.seq (.blk (.seq (.reg [0, 0, 3, 7, 15, 0, 32, 127, 255, 511, 511, 2047, 4095, 8191, 511, 16895, 65535, 131071, 262143, 262143, 1048575, 2097151, 4194303, 262143, 8650751, 33554431, 67108863, 134217727, 268435455] (.one (.one (.one (.one (.one (.one (.one (.one (.one (.sc false (.one (.one (.one (.one (.one (.one (.one (.one (.one (.sc true (.one (.one (.one (.one (.one (.one (.one (.one .nil)))))))) .nil)))))))))) (.one .nil)))))))))))) (.join [5, 6] (.seq (.reg [] (.one (.one (.sc true (.one (.one .nil)) .nil)))) (.cond (.seq (.reg [] (.one (.one (.one (.one (.one .nil)))))) (.reg [] (.one .nil))) .leaf)) (.reg [] (.one (.one (.one (.one (.one (.one (.one (.one .nil)))))))))))) (.reg [] (.one (.one (.one .nil))))))))) (.join [5] (.seq (.reg [] (.one (.one .nil))) (.cond (.reg [] (.one (.one (.one (.one (.one .nil)))))) .leaf)) (.seq (.reg [] (.one (.one .nil))) .leaf))))))

theorem F39_eq : @F39 = fun a0 a1 w K => vcFun Try.prog an39 (Try.f39.body.getD .skip) Try.f39.results.toList 2 [a0, a1] w K := by kernel_rfl

theorem F39_calls {a0 a1 : Value} {w : World} {K : Value → World → Prop} (h : F39 a0 a1 w K) : Calls Try.prog 39 #[a0, a1] w (retK K) := by
  rw [F39_eq] at h
  exact calls_of_vc (f := 39) (fn := Try.f39) (args := [a0, a1]) Try.func39 (by kernel_rfl) (by kernel_rfl) rfl (by kernel_rfl) h

theorem F39_pc {a0 a1 : Value} {w : World} {K : Value → World → Prop} (h : F39 a0 a1 w K) : pCall Try.prog 39 [a0, a1] w K := by
  exact pCall_of (fn := Try.f39) (c := Try.f39.body.getD .skip) Try.func39 (by kernel_rfl) (by kernel_rfl) (F39_calls h)

/- bulkhead/bulkheadref07.without -/
def F40 (a0 a1 : Value) (w : World) (K : Value → World → Prop) : Prop :=
  pLoop [(.slice none 0 0), (.int .i64 0)] w fun go1 vs1 w =>  -- slots 5 6
    pV (lenS a0) fun t9_1 =>
    pV (binV .lss (nth vs1 1) t9_1) fun t10_2 =>
    pIf t10_2
    (pJoin (fun J2 =>
        pV (idxV 2 a0 (nth vs1 1)) fun t15_3 =>
        pV (fldA 1 t15_3) fun t16_4 =>
        pV (ldV false 1 w t16_4) fun t17_5 =>
        pV (binV .neq t17_5 a1) fun t19_6 =>
        pIf t19_6
        (pV (idxV 2 a0 (nth vs1 1)) fun t23_7 =>
          pV (ldV true 2 w t23_7) fun t24_8 =>
          pE (mkE 34 2 [t24_8] w) fun t25_9 w =>
          pE (semE Try.prog (Builtin.append_ #[22, 22] 22 #[(nth vs1 0), t25_9]) w) fun t26_10 w =>
          J2 [t26_10] w)
        (J2 [(nth vs1 0)] w))
      (fun vs2 w =>
        pV (binV .add (nth vs1 1) (.int .i64 1)) fun t12_11 =>
        go1 [(nth vs2 0), t12_11] w))
    (K (nth vs1 0) w)

def an40 : An := (.seq (.reg [] (.one .nil)) (.seq (.reg [] (.one .nil)) (.seq (.seq (.reg [] (.one .nil)) (.blk (.loop [5, 6] (.seq (.seq (.reg [] (.one (.one (.one (.one .nil))))) (.cond .leaf .leaf)) (.seq (.blkJ [5] (.seq (.reg [] (.one (.one (.one (.one (.one (.one (.one .nil)))))))) (.cond (.reg [] (.one (.one (.one (.one (.one (.one (.one (.one .nil))))))))) .leaf))) (.reg [] (.one (.one (.one .nil))))))))) (.seq (.reg [] (.one (.one .nil))) .leaf))))

theorem F40_eq : @F40 = fun a0 a1 w K => vcFun Try.prog an40 (Try.f40.body.getD .skip) Try.f40.results.toList 2 [a0, a1] w K := by kernel_rfl

theorem F40_calls {a0 a1 : Value} {w : World} {K : Value → World → Prop} (h : F40 a0 a1 w K) : Calls Try.prog 40 #[a0, a1] w (retK K) := by
  rw [F40_eq] at h
  exact calls_of_vc (f := 40) (fn := Try.f40) (args := [a0, a1]) Try.func40 (by kernel_rfl) (by kernel_rfl) rfl (by kernel_rfl) h

theorem F40_pc {a0 a1 : Value} {w : World} {K : Value → World → Prop} (h : F40 a0 a1 w K) : pCall Try.prog 40 [a0, a1] w K := by
  exact pCall_of (fn := Try.f40) (c := Try.f40.body.getD .skip) Try.func40 (by kernel_rfl) (by kernel_rfl) (F40_calls h)

/- math/bits.Len64 -/
def F42 (a0 : Value) (w : World) (K : Value → World → Prop) : Prop :=
  pJoin (fun J1 =>
    pV (binV .geq a0 (.int .u64 4294967296)) fun t4_1 =>
    pIf t4_1
    (pV (binV .shr a0 (.int .u64 32)) fun t6_2 =>
      J1 [t6_2, (.int .i64 32)] w)
    (J1 [a0, (.int .i64 0)] w))
  (fun vs1 w =>
    pJoin (fun J2 =>
      pV (binV .geq (nth vs1 0) (.int .u64 65536)) fun t8_3 =>
      pIf t8_3
      (pV (binV .shr (nth vs1 0) (.int .u64 16)) fun t10_4 =>
        pV (binV .add (nth vs1 1) (.int .i64 16)) fun t12_5 =>
        J2 [t10_4, t12_5] w)
      (J2 [(nth vs1 0), (nth vs1 1)] w))
    (fun vs2 w =>
      pJoin (fun J3 =>
        pV (binV .geq (nth vs2 0) (.int .u64 256)) fun t14_6 =>
        pIf t14_6
        (pV (binV .shr (nth vs2 0) (.int .u64 8)) fun t16_7 =>
          pV (binV .add (nth vs2 1) (.int .i64 8)) fun t18_8 =>
          J3 [t16_7, t18_8] w)
        (J3 [(nth vs2 0), (nth vs2 1)] w))
      (fun vs3 w =>
        pV (convV .u8 (nth vs3 0)) fun t21_9 =>
        pV (idxT (.string ⟨#[0, 1, 2, 2, 3, 3, 3, 3, 4, 4, 4, 4, 4, 4, 4, 4, 5, 5, 5, 5, 5, 5, 5, 5, 5, 5, 5, 5, 5, 5, 5, 5, 6, 6, 6, 6, 6, 6, 6, 6, 6, 6, 6, 6, 6, 6, 6, 6, 6, 6, 6, 6, 6, 6, 6, 6, 6, 6, 6, 6, 6, 6, 6, 6, 7, 7, 7, 7, 7, 7, 7, 7, 7, 7, 7, 7, 7, 7, 7, 7, 7, 7, 7, 7, 7, 7, 7, 7, 7, 7, 7, 7, 7, 7, 7, 7, 7, 7, 7, 7, 7, 7, 7, 7, 7, 7, 7, 7, 7, 7, 7, 7, 7, 7, 7, 7, 7, 7, 7, 7, 7, 7, 7, 7, 7, 7, 7, 7, 8, 8, 8, 8, 8, 8, 8, 8, 8, 8, 8, 8, 8, 8, 8, 8, 8, 8, 8, 8, 8, 8, 8, 8, 8, 8, 8, 8, 8, 8, 8, 8, 8, 8, 8, 8, 8, 8, 8, 8, 8, 8, 8, 8, 8, 8, 8, 8, 8, 8, 8, 8, 8, 8, 8, 8, 8, 8, 8, 8, 8, 8, 8, 8, 8, 8, 8, 8, 8, 8, 8, 8, 8, 8, 8, 8, 8, 8, 8, 8, 8, 8, 8, 8, 8, 8, 8, 8, 8, 8, 8, 8, 8, 8, 8, 8, 8, 8, 8, 8, 8, 8, 8, 8, 8, 8, 8, 8, 8, 8, 8, 8, 8, 8, 8, 8, 8, 8, 8, 8, 8, 8, 8, 8, 8, 8, 8, 8]⟩) t21_9) fun t22_10 =>
        pV (convV .i64 t22_10) fun t23_11 =>
        pV (binV .add (nth vs3 1) t23_11) fun t24_12 =>
        K t24_12 w)))

def an42 : An := (.seq (.reg [] (.one .nil)) (.join [0, 2] (.seq (.reg [] (.one (.one .nil))) (.cond (.seq (.reg [] (.one (.one (.one .nil)))) (.reg [] (.one .nil))) .leaf)) (.join [0, 2] (.seq (.reg [] (.one (.one .nil))) (.cond (.seq (.reg [] (.one (.one (.one .nil)))) (.reg [] (.one (.one (.one .nil))))) .leaf)) (.join [0, 2] (.seq (.reg [] (.one (.one .nil))) (.cond (.seq (.reg [] (.one (.one (.one .nil)))) (.reg [] (.one (.one (.one .nil))))) .leaf)) (.seq (.reg [] (.one (.one (.one (.one (.one (.one (.one .nil)))))))) .leaf)))))

theorem F42_eq : @F42 = fun a0 w K => vcFun Try.prog an42 (Try.f42.body.getD .skip) Try.f42.results.toList 1 [a0] w K := by kernel_rfl

theorem F42_calls {a0 : Value} {w : World} {K : Value → World → Prop} (h : F42 a0 w K) : Calls Try.prog 42 #[a0] w (retK K) := by
  rw [F42_eq] at h
  exact calls_of_vc (f := 42) (fn := Try.f42) (args := [a0]) Try.func42 (by kernel_rfl) (by kernel_rfl) rfl (by kernel_rfl) h

theorem F42_pc {a0 : Value} {w : World} {K : Value → World → Prop} (h : F42 a0 w K) : pCall Try.prog 42 [a0] w K := by
  exact pCall_of (fn := Try.f42) (c := Try.f42.body.getD .skip) Try.func42 (by kernel_rfl) (by kernel_rfl) (F42_calls h)

end Go.Proofs.Ytbbjljhbiaeadaa
