/- Functions of the program, told as conditions over the engine's primitives. Printed by dec.py. -/
import Derived.Test.YtcghhhjklihpkaaProg
import Derived.Test.YtcghhhjklihpkaaEn5
set_option linter.unusedSimpArgs false
set_option linter.unusedVariables false
set_option maxRecDepth 100000
namespace Go.Proofs.Ytcghhhjklihpkaa
open Go.Bk

/- gosem.cut.init -/
def F2 (w : World) (K : Value → World → Prop) : Prop :=
  pCall Try.prog 1 [] w fun _ w =>
  K (.tuple #[]) w

def an2 : An := (.reg [] (.one .nil))

theorem F2_eq : @F2 = fun w K => vcFun Try.prog an2 (Try.f2.body.getD .skip) Try.f2.results.toList 0 [] w K := by kernel_rfl

theorem F2_calls {w : World} {K : Value → World → Prop} (h : F2 w K) : Calls Try.prog 2 #[] w (retK K) := by
  rw [F2_eq] at h
  exact calls_of_vc (f := 2) (fn := Try.f2) (args := []) Try.func2 (by kernel_rfl) (by kernel_rfl) rfl (by kernel_rfl) h

theorem F2_pc {w : World} {K : Value → World → Prop} (h : F2 w K) : pCall Try.prog 2 [] w K := by
  exact pCall_of (fn := Try.f2) (c := Try.f2.body.getD .skip) Try.func2 (by kernel_rfl) (by kernel_rfl) (F2_calls h)

/- bulkhead/bulkheadlaw21.ScriptMixes -/
def F3 (a0 a1 a2 a3 : Value) (w : World) (K : Value → World → Prop) : Prop :=
  pCall Try.prog 5 [a0] w fun t26_1 w =>
  pV (extV t26_1 0) fun t27_2 =>
  pV (extV t26_1 1) fun t28_3 =>
  pCall Try.prog 5 [a1] w fun t31_4 w =>
  pV (extV t31_4 0) fun t32_5 =>
  pV (extV t31_4 1) fun t33_6 =>
  pCall Try.prog 6 [t27_2, t32_5] w fun t36_7 w =>
  pCall Try.prog 7 [t27_2, a2, a3] w fun t40_8 w =>
  pCall Try.prog 6 [t27_2, t32_5] w fun t43_9 w =>
  pCall Try.prog 7 [t27_2, a2, a3] w fun t47_10 w =>
  pCall Try.prog 8 [a0, a1] w fun t50_11 w =>
  pCall Try.prog 9 [a0, a2, a3] w fun t54_12 w =>
  pCall Try.prog 10 [t36_7, t50_11] w fun t57_13 w =>
  pV (unV .not t57_13) fun t58_14 =>
  pSC false t58_14 w (fun J1 =>
    pCall Try.prog 10 [t40_8, t54_12] w fun t62_15 w =>
    pV (unV .not t62_15) fun t63_16 =>
    J1 t63_16 w)
  (fun t64_17 w =>
  pSC false t64_17 w (fun J2 =>
    pCall Try.prog 10 [t43_9, t50_11] w fun t68_18 w =>
    pV (unV .not t68_18) fun t69_19 =>
    J2 t69_19 w)
  (fun t70_20 w =>
  pSC false t70_20 w (fun J3 =>
    pCall Try.prog 10 [t47_10, t54_12] w fun t74_21 w =>
    pV (unV .not t74_21) fun t75_22 =>
    J3 t75_22 w)
  (fun t76_23 w =>
  pIf t76_23
  (K (.bool false) w)
  (pCall Try.prog 11 [t36_7] w fun t78_24 w =>
    pSC true t78_24 w (fun J4 =>
      pCall Try.prog 10 [t40_8, t54_12] w fun t82_25 w =>
      J4 t82_25 w)
    (fun t83_26 w =>
    pSC true t83_26 w (fun J5 =>
      pCall Try.prog 11 [t40_8] w fun t86_27 w =>
      J5 t86_27 w)
    (fun t87_28 w =>
    pV (unV .not t87_28) fun t89_29 =>
    pSC false t89_29 w (fun J6 =>
      pCall Try.prog 10 [t43_9, t50_11] w fun t93_30 w =>
      pV (unV .not t93_30) fun t94_31 =>
      J6 t94_31 w)
    (fun t95_32 w =>
    pSC false t95_32 w (fun J7 =>
      pCall Try.prog 10 [t47_10, t54_12] w fun t99_33 w =>
      pV (unV .not t99_33) fun t100_34 =>
      J7 t100_34 w)
    (fun t101_35 w =>
    pSC false t101_35 w (fun J8 =>
      pCall Try.prog 12 [t27_2, t28_3, a0] w fun t106_36 w =>
      pV (unV .not t106_36) fun t107_37 =>
      J8 t107_37 w)
    (fun t108_38 w =>
    pSC false t108_38 w (fun J9 =>
      pCall Try.prog 12 [t32_5, t33_6, a1] w fun t113_39 w =>
      pV (unV .not t113_39) fun t114_40 =>
      J9 t114_40 w)
    (fun t115_41 w =>
    pIf t115_41
    (K (.bool false) w)
    (pCall Try.prog 13 [t27_2] w fun _ w =>
      pCall Try.prog 13 [t32_5] w fun _ w =>
      pCall Try.prog 5 [t27_2] w fun t122_44 w =>
      pV (extV t122_44 0) fun t123_45 =>
      pV (extV t122_44 1) fun _ =>
      pCall Try.prog 5 [t32_5] w fun t127_47 w =>
      pV (extV t127_47 0) fun t128_48 =>
      pV (extV t127_47 1) fun _ =>
      pCall Try.prog 6 [t27_2, t32_5] w fun t132_50 w =>
      pCall Try.prog 8 [t123_45, t128_48] w fun t135_51 w =>
      pCall Try.prog 10 [t132_50, t135_51] w fun t136_52 w =>
      pSC true t136_52 w (fun J10 =>
        pCall Try.prog 7 [t27_2, a2, a3] w fun t141_53 w =>
        pCall Try.prog 9 [t123_45, a2, a3] w fun t145_54 w =>
        pCall Try.prog 10 [t141_53, t145_54] w fun t146_55 w =>
        J10 t146_55 w)
      (fun t147_56 w =>
      K t147_56 w))))))))))))

def an3 : An := (.seq (.reg [] (.one .nil)) (.seq (.reg [] (.one (.one (.one (.one (.one (.one (.one .nil)))))))) (.seq (.reg [] (.one (.one (.one (.one (.one (.one (.one .nil)))))))) (.seq (.reg [] (.one (.one (.one (.one .nil))))) (.seq (.reg [] (.one (.one (.one (.one (.one .nil)))))) (.seq (.reg [] (.one (.one (.one (.one .nil))))) (.seq (.reg [] (.one (.one (.one (.one (.one .nil)))))) (.seq (.reg [] (.one (.one (.one (.one .nil))))) (.seq (.reg [] (.one (.one (.one (.one (.one .nil)))))) (.seq (.seq (.reg [] (.one (.one (.one (.one (.one (.sc false (.one (.one (.one (.one .nil)))) (.one (.sc false (.one (.one (.one (.one .nil)))) (.one (.sc false (.one (.one (.one (.one .nil)))) .nil))))))))))) (.cond (.seq (.reg [] (.one .nil)) .leaf) .leaf)) (.seq (.reg [] (.one (.one (.one (.sc true (.one (.one (.one .nil))) (.one (.sc true (.one (.one .nil)) (.one .nil)))))))) (.seq (.seq (.reg [] (.one (.one (.one (.sc false (.one (.one (.one (.one .nil)))) (.one (.sc false (.one (.one (.one (.one .nil)))) (.one (.sc false (.one (.one (.one (.one (.one .nil))))) (.one (.sc false (.one (.one (.one (.one (.one .nil))))) .nil))))))))))) (.cond (.seq (.reg [] (.one .nil)) .leaf) .leaf)) (.seq (.reg [] (.one (.one .nil))) (.seq (.reg [] (.one (.one .nil))) (.seq (.reg [] (.one (.one (.one (.one (.one (.one (.one .nil)))))))) (.seq (.reg [] (.one (.one (.one (.one (.one (.one (.one .nil)))))))) (.seq (.reg [] (.one (.one (.one (.one (.one (.one (.one (.one (.sc true (.one (.one (.one (.one (.one (.one (.one (.one (.one .nil))))))))) (.one .nil))))))))))) .leaf)))))))))))))))))

theorem F3_eq : @F3 = fun a0 a1 a2 a3 w K => vcFun Try.prog an3 (Try.f3.body.getD .skip) Try.f3.results.toList 4 [a0, a1, a2, a3] w K := by kernel_rfl

theorem F3_calls {a0 a1 a2 a3 : Value} {w : World} {K : Value → World → Prop} (h : F3 a0 a1 a2 a3 w K) : Calls Try.prog 3 #[a0, a1, a2, a3] w (retK K) := by
  rw [F3_eq] at h
  exact calls_of_vc (f := 3) (fn := Try.f3) (args := [a0, a1, a2, a3]) Try.func3 (by kernel_rfl) (by kernel_rfl) rfl (by kernel_rfl) h

theorem F3_pc {a0 a1 a2 a3 : Value} {w : World} {K : Value → World → Prop} (h : F3 a0 a1 a2 a3 w K) : pCall Try.prog 3 [a0, a1, a2, a3] w K := by
  exact pCall_of (fn := Try.f3) (c := Try.f3.body.getD .skip) Try.func3 (by kernel_rfl) (by kernel_rfl) (F3_calls h)

/- bulkhead/bulkheadlaw21.ScriptBytes -/
def F4 (a0 a1 : Value) (w : World) (K : Value → World → Prop) : Prop :=
  pCall Try.prog 14 [a0] w fun t21_1 w =>
  pV (unV .not t21_1) fun t22_2 =>
  pIf t22_2
  (K (.bool false) w)
  (pE (semE Try.prog (Builtin.append_ #[32, 32] 32 #[(.slice none 0 0), a1]) w) fun t25_3 w =>
    pLoop [t25_3, (.int .i64 0)] w fun go1 vs1 w =>  -- slots 5 6
      pV (binV .lss (nth vs1 1) (.int .i64 64)) fun t27_4 =>
      pIf t27_4
      (pE (mkE 5 1 [(.int .u8 90)] w) fun t31_5 w =>
        pE (semE Try.prog (Builtin.append_ #[32, 32] 32 #[(nth vs1 0), t31_5]) w) fun t32_6 w =>
        pV (binV .add (nth vs1 1) (.int .i64 1)) fun t29_7 =>
        go1 [t32_6, t29_7] w)
      (pV (lenS a1) fun t36_8 =>
        pV (slV 1 (nth vs1 0) none (some t36_8) none) fun t37_9 =>
        pCall Try.prog 15 [t37_9] w fun t38_10 w =>
        pV (extV t38_10 0) fun t39_11 =>
        pV (extV t38_10 1) fun t40_12 =>
        pV (lenS a1) fun t44_13 =>
        pV (slV 1 (nth vs1 0) none (some t44_13) none) fun t45_14 =>
        pCall Try.prog 15 [t45_14] w fun t46_15 w =>
        pV (extV t46_15 0) fun t47_16 =>
        pV (extV t46_15 1) fun t48_17 =>
        pCall Try.prog 16 [a1] w fun t51_18 w =>
        pV (extV t51_18 0) fun t52_19 =>
        pV (extV t51_18 1) fun t53_20 =>
        pV (binV .neq t40_12 t53_20) fun t56_21 =>
        pSC false t56_21 w (fun J2 =>
          pV (binV .neq t48_17 t53_20) fun t60_22 =>
          J2 t60_22 w)
        (fun t61_23 w =>
        pSC false t61_23 w (fun J3 =>
          pCall Try.prog 10 [t39_11, t52_19] w fun t65_24 w =>
          pV (unV .not t65_24) fun t66_25 =>
          J3 t66_25 w)
        (fun t67_26 w =>
        pSC false t67_26 w (fun J4 =>
          pCall Try.prog 10 [t47_16, t52_19] w fun t71_27 w =>
          pV (unV .not t71_27) fun t72_28 =>
          J4 t72_28 w)
        (fun t73_29 w =>
        pSC false t73_29 w (fun J5 =>
          pV (lenS a1) fun t77_30 =>
          pV (slV 1 (nth vs1 0) none (some t77_30) none) fun t78_31 =>
          pCall Try.prog 17 [t78_31, a1] w fun t80_32 w =>
          pV (unV .not t80_32) fun t81_33 =>
          J5 t81_33 w)
        (fun t82_34 w =>
        pIf t82_34
        (K (.bool false) w)
        (pV (lenS a1) fun t84_35 =>
          pLoop [t84_35] w fun go6 vs6 w =>  -- slots 13
            pV (lenS (nth vs1 0)) fun t87_36 =>
            pV (binV .lss (nth vs6 0) t87_36) fun t88_37 =>
            pIf t88_37
            (pV (idxV 1 (nth vs1 0) (nth vs6 0)) fun t93_38 =>
              pV (ldV false 1 w t93_38) fun t94_39 =>
              pV (binV .neq t94_39 (.int .u8 90)) fun t95_40 =>
              pIf t95_40
              (K (.bool false) w)
              (pV (binV .add (nth vs6 0) (.int .i64 1)) fun t90_41 =>
                go6 [t90_41] w))
            (pCall Try.prog 11 [t39_11] w fun t97_42 w =>
              pLoop [(.int .i64 0)] w fun go7 vs7 w =>  -- slots 15
                pV (lenS (nth vs1 0)) fun t100_43 =>
                pV (binV .lss (nth vs7 0) t100_43) fun t101_44 =>
                pIf t101_44
                (pV (idxV 1 (nth vs1 0) (nth vs7 0)) fun t106_45 =>
                  pU (stE 1 t106_45 (.int .u8 7) w) fun w =>
                  pV (binV .add (nth vs7 0) (.int .i64 1)) fun t103_46 =>
                  go7 [t103_46] w)
                (pV (unV .not t97_42) fun t108_47 =>
                  pSC false t108_47 w (fun J8 =>
                    pCall Try.prog 10 [t47_16, t52_19] w fun t112_48 w =>
                    pV (unV .not t112_48) fun t113_49 =>
                    J8 t113_49 w)
                  (fun t114_50 w =>
                  pIf t114_50
                  (K (.bool false) w)
                  (pV (lenS a1) fun t118_51 =>
                    pV (slV 1 (nth vs1 0) none (some t118_51) none) fun t119_52 =>
                    pCall Try.prog 16 [t119_52] w fun t120_53 w =>
                    pV (extV t120_53 0) fun t121_54 =>
                    pV (extV t120_53 1) fun t122_55 =>
                    pV (lenS a1) fun t126_56 =>
                    pV (slV 1 (nth vs1 0) none (some t126_56) none) fun t127_57 =>
                    pCall Try.prog 15 [t127_57] w fun t128_58 w =>
                    pV (extV t128_58 0) fun t129_59 =>
                    pV (extV t128_58 1) fun t130_60 =>
                    pCall Try.prog 10 [t129_59, t121_54] w fun t133_61 w =>
                    pSC true t133_61 w (fun J9 =>
                      pV (binV .eql t130_60 t122_55) fun t137_62 =>
                      J9 t137_62 w)
                    (fun t138_63 w =>
                    K t138_63 w))))))))))))

def an4 : An := (.seq (.reg [] (.one .nil)) (.seq (.seq (.reg [] (.one (.one (.one .nil)))) (.cond (.seq (.reg [] (.one .nil)) .leaf) .leaf)) (.seq (.reg [] (.one .nil)) (.seq (.reg [] (.one (.one (.one (.one .nil))))) (.seq (.seq (.reg [] (.one .nil)) (.blk (.loop [5, 6] (.seq (.seq (.reg [] (.one (.one .nil))) (.cond .leaf .leaf)) (.seq (.blk (.reg [] (.one (.one (.one (.one .nil)))))) (.reg [] (.one (.one (.one .nil))))))))) (.seq (.reg [] (.one (.one (.one (.one (.one (.one (.one (.one (.one (.one .nil))))))))))) (.seq (.reg [] (.one (.one (.one (.one (.one (.one (.one (.one (.one (.one .nil))))))))))) (.seq (.reg [] (.one (.one (.one (.one (.one (.one (.one .nil)))))))) (.seq (.seq (.reg [] (.one (.one (.one (.one (.sc false (.one (.one (.one .nil))) (.one (.sc false (.one (.one (.one (.one .nil)))) (.one (.sc false (.one (.one (.one (.one .nil)))) (.one (.sc false (.one (.one (.one (.one (.one (.one (.one .nil))))))) .nil)))))))))))) (.cond (.seq (.reg [] (.one .nil)) .leaf) .leaf)) (.seq (.seq (.reg [] (.one (.one (.one .nil)))) (.blk (.loop [13] (.seq (.seq (.reg [] (.one (.one (.one (.one .nil))))) (.cond .leaf .leaf)) (.seq (.blk (.seq (.reg [] (.one (.one (.one (.one (.one .nil)))))) (.cond (.seq (.reg [] (.one .nil)) .leaf) .leaf))) (.reg [] (.one (.one (.one .nil))))))))) (.seq (.reg [] (.one (.one (.one .nil)))) (.seq (.seq (.reg [] (.one .nil)) (.blk (.loop [15] (.seq (.seq (.reg [] (.one (.one (.one (.one .nil))))) (.cond .leaf .leaf)) (.seq (.blk (.reg [] (.one (.one (.one (.one .nil)))))) (.reg [] (.one (.one (.one .nil))))))))) (.seq (.seq (.reg [] (.one (.one (.one (.sc false (.one (.one (.one (.one .nil)))) .nil))))) (.cond (.seq (.reg [] (.one .nil)) .leaf) .leaf)) (.seq (.reg [] (.one (.one (.one (.one (.one (.one (.one (.one (.one (.one .nil))))))))))) (.seq (.reg [] (.one (.one (.one (.one (.one (.one (.one (.one (.one (.one .nil))))))))))) (.seq (.reg [] (.one (.one (.one (.one (.sc true (.one (.one (.one .nil))) (.one .nil))))))) .leaf))))))))))))))))

theorem F4_eq : @F4 = fun a0 a1 w K => vcFun Try.prog an4 (Try.f4.body.getD .skip) Try.f4.results.toList 2 [a0, a1] w K := by kernel_rfl

theorem F4_calls {a0 a1 : Value} {w : World} {K : Value → World → Prop} (h : F4 a0 a1 w K) : Calls Try.prog 4 #[a0, a1] w (retK K) := by
  rw [F4_eq] at h
  exact calls_of_vc (f := 4) (fn := Try.f4) (args := [a0, a1]) Try.func4 (by kernel_rfl) (by kernel_rfl) rfl (by kernel_rfl) h

theorem F4_pc {a0 a1 : Value} {w : World} {K : Value → World → Prop} (h : F4 a0 a1 w K) : pCall Try.prog 4 [a0, a1] w K := by
  exact pCall_of (fn := Try.f4) (c := Try.f4.body.getD .skip) Try.func4 (by kernel_rfl) (by kernel_rfl) (F4_calls h)

/- bulkhead/bulkheadlaw21.handed -/
def F5 (a0 : Value) (w : World) (K : Value → World → Prop) : Prop :=
  pLoop [(.slice none 0 0), (.int .i64 0)] w fun go1 vs1 w =>  -- slots 4 5
    pV (lenS a0) fun t14_1 =>
    pV (binV .lss (nth vs1 1) t14_1) fun t15_2 =>
    pIf t15_2
    (pV (idxV 4 a0 (nth vs1 1)) fun t20_3 =>
      pV (ldV true 4 w t20_3) fun t21_4 =>
      pE (boxE 42 (.agg #[(.int .i64 0), (.int .i64 0), (.int .i64 0), (.slice none 0 0)]) w) fun t6_5 w =>
      pU (stE 4 t6_5 t21_4 w) fun w =>
      pV (fldA 3 t6_5) fun t23_6 =>
      pV (ldV false 1 w t23_6) fun t24_7 =>
      pE (semE Try.prog (Builtin.append_ #[40, 40] 40 #[(.slice none 0 0), t24_7]) w) fun t25_8 w =>
      pLoop [t25_8, (.int .i64 0)] w fun go2 vs2 w =>  -- slots 7 8
        pV (binV .lss (nth vs2 1) (.int .i64 8)) fun t27_9 =>
        pIf t27_9
        (pE (mkE 2 1 [(.int .i64 777)] w) fun t31_10 w =>
          pE (semE Try.prog (Builtin.append_ #[40, 40] 40 #[(nth vs2 0), t31_10]) w) fun t32_11 w =>
          pV (binV .add (nth vs2 1) (.int .i64 1)) fun t29_12 =>
          go2 [t32_11, t29_12] w)
        (pV (fldA 3 t6_5) fun t34_13 =>
          pU (stE 1 t34_13 (nth vs2 0) w) fun w =>
          pV (ldV true 4 w t6_5) fun t36_14 =>
          pE (mkE 42 4 [t36_14] w) fun t37_15 w =>
          pE (semE Try.prog (Builtin.append_ #[22, 22] 22 #[(nth vs1 0), t37_15]) w) fun t38_16 w =>
          pV (binV .add (nth vs1 1) (.int .i64 1)) fun t17_17 =>
          go1 [t38_16, t17_17] w))
    (pLoop [(nth vs1 0), (.int .i64 0)] w fun go3 vs3 w =>  -- slots 4 9
        pV (binV .lss (nth vs3 1) (.int .i64 8)) fun t40_18 =>
        pIf t40_18
        (pV (bldV #[(.int .i64 0), (.int .i64 0), (.int .i64 0), (.slice none 0 0)] #[(0, 1), (1, 1), (2, 1), (3, 1)] [(0, (.int .i64 77))]) fun t44_19 =>
          pE (mkE 42 4 [t44_19] w) fun t45_20 w =>
          pE (semE Try.prog (Builtin.append_ #[22, 22] 22 #[(nth vs3 0), t45_20]) w) fun t46_21 w =>
          pV (binV .add (nth vs3 1) (.int .i64 1)) fun t42_22 =>
          go3 [t46_21, t42_22] w)
        (pE (mkE 42 4 [] w) fun t47_23 w =>
          pE (semE Try.prog (Builtin.append_ #[22, 22] 22 #[t47_23, (nth vs3 0)]) w) fun t49_24 w =>
          pLoop [(.int .i64 0)] w fun go4 vs4 w =>  -- slots 11
            pV (lenS a0) fun t52_25 =>
            pV (binV .lss (nth vs4 0) t52_25) fun t53_26 =>
            pIf t53_26
            (pDraw w fun w =>
              pV (idxV 4 (nth vs3 0) (nth vs4 0)) fun t60_27 =>
              pV (fldA 3 t60_27) fun t61_28 =>
              pV (ldV false 1 w t61_28) fun t62_29 =>
              pV (idxV 4 a0 (nth vs4 0)) fun t65_30 =>
              pV (fldA 3 t65_30) fun t66_31 =>
              pV (ldV false 1 w t66_31) fun t67_32 =>
              pV (lenS t67_32) fun t68_33 =>
              pV (slV 1 t62_29 none (some t68_33) none) fun t69_34 =>
              pV (idxV 4 t49_24 (nth vs4 0)) fun t70_35 =>
              pV (fldA 3 t70_35) fun t71_36 =>
              pU (stE 1 t71_36 t69_34 w) fun w =>
              pV (binV .add (nth vs4 0) (.int .i64 1)) fun t55_37 =>
              go4 [t55_37] w)
            (pV (lenS a0) fun t74_38 =>
              pV (slV 4 t49_24 none (some t74_38) none) fun t75_39 =>
              K (.tuple #[t75_39, (nth vs3 0)]) w)))

def an5 : An := (.seq (.reg [] (.one (.one .nil))) (.seq (.reg [] (.one .nil)) (.seq (.seq (.reg [] (.one .nil)) (.blk (.loop [4, 5] (.seq (.seq (.reg [] (.one (.one (.one (.one .nil))))) (.cond .leaf .leaf)) (.seq (.blk (.seq (.reg [] (.one (.one (.one (.one (.one (.one .nil))))))) (.seq (.reg [] (.one .nil)) (.seq (.reg [] (.one (.one (.one (.one (.one .nil)))))) (.seq (.seq (.reg [] (.one .nil)) (.blk (.loop [7, 8] (.seq (.seq (.reg [] (.one (.one .nil))) (.cond .leaf .leaf)) (.seq (.blk (.reg [] (.one (.one (.one (.one .nil)))))) (.reg [] (.one (.one (.one .nil))))))))) (.seq (.reg [] (.one (.one (.one .nil)))) (.reg [] (.one (.one (.one (.one (.one .nil)))))))))))) (.reg [] (.one (.one (.one .nil))))))))) (.seq (.seq (.reg [] (.one .nil)) (.blk (.loop [4, 9] (.seq (.seq (.reg [] (.one (.one .nil))) (.cond .leaf .leaf)) (.seq (.blk (.reg [] (.one (.one (.one (.one (.one .nil))))))) (.reg [] (.one (.one (.one .nil))))))))) (.seq (.reg [] (.one (.one (.one (.one .nil))))) (.seq (.seq (.reg [] (.one .nil)) (.blk (.loop [11] (.seq (.seq (.reg [] (.one (.one (.one (.one .nil))))) (.cond .leaf .leaf)) (.seq (.blk (.reg [0, 0, 0, 0, 12, 28, 60, 0, 0, 384, 896, 1920, 3968, 8188, 16383, 32767, 65535] (.one (.one (.one (.one (.one (.one (.one (.one (.one (.one (.one (.one (.one (.one (.one (.one (.one .nil))))))))))))))))))) (.reg [] (.one (.one (.one .nil))))))))) (.seq (.reg [] (.one (.one (.one (.one (.one (.one (.one .nil)))))))) .leaf)))))))

theorem F5_eq : @F5 = fun a0 w K => vcFun Try.prog an5 (Try.f5.body.getD .skip) Try.f5.results.toList 1 [a0] w K := by kernel_rfl

theorem F5_calls {a0 : Value} {w : World} {K : Value → World → Prop} (h : F5 a0 w K) : Calls Try.prog 5 #[a0] w (retK K) := by
  rw [F5_eq] at h
  exact calls_of_vc (f := 5) (fn := Try.f5) (args := [a0]) Try.func5 (by kernel_rfl) (by kernel_rfl) rfl (by kernel_rfl) h

theorem F5_pc {a0 : Value} {w : World} {K : Value → World → Prop} (h : F5 a0 w K) : pCall Try.prog 5 [a0] w K := by
  exact pCall_of (fn := Try.f5) (c := Try.f5.body.getD .skip) Try.func5 (by kernel_rfl) (by kernel_rfl) (F5_calls h)

/- bulkhead/script.Merge -/
def F6 (a0 a1 : Value) (w : World) (K : Value → World → Prop) : Prop :=
  pLoop [a0, a1, (.slice none 0 0)] w fun go1 vs1 w =>  -- slots 0 1 5
    pV (lenS (nth vs1 0)) fun t7_1 =>
    pV (lenS (nth vs1 1)) fun t9_2 =>
    pV (binV .add t7_1 t9_2) fun t10_3 =>
    pV (binV .gtr t10_3 (.int .i64 0)) fun t11_4 =>
    pIf t11_4
    (pJoin (fun J2 =>
        pDraw w fun w =>
        pV (lenS (nth vs1 1)) fun t13_5 =>
        pV (binV .eql t13_5 (.int .i64 0)) fun t14_6 =>
        pSC false t14_6 w (fun J3 =>
          pV (lenS (nth vs1 0)) fun t17_7 =>
          pV (binV .gtr t17_7 (.int .i64 0)) fun t18_8 =>
          pSC true t18_8 w (fun J4 =>
            pV (idxV 4 (nth vs1 0) (.int .i64 0)) fun t21_9 =>
            pV (fldA 0 t21_9) fun t22_10 =>
            pV (ldV false 1 w t22_10) fun t23_11 =>
            pV (idxV 4 (nth vs1 1) (.int .i64 0)) fun t25_12 =>
            pV (fldA 0 t25_12) fun t26_13 =>
            pV (ldV false 1 w t26_13) fun t27_14 =>
            pV (binV .leq t23_11 t27_14) fun t28_15 =>
            J4 t28_15 w)
          (fun t29_16 w =>
          J3 t29_16 w))
        (fun t30_17 w =>
        pIf t30_17
        (pDraw w fun w =>
          pV (idxV 4 (nth vs1 0) (.int .i64 0)) fun t33_18 =>
          pV (ldV true 4 w t33_18) fun t34_19 =>
          pCall Try.prog 18 [t34_19] w fun t35_20 w =>
          pE (mkE 42 4 [t35_20] w) fun t36_21 w =>
          pE (semE Try.prog (Builtin.append_ #[22, 22] 22 #[(nth vs1 2), t36_21]) w) fun t37_22 w =>
          pV (slV 4 (nth vs1 0) (some (.int .i64 1)) none none) fun t39_23 =>
          J2 [t39_23, (nth vs1 1), t37_22] w)
        (pDraw w fun w =>
          pV (idxV 4 (nth vs1 1) (.int .i64 0)) fun t42_24 =>
          pV (ldV true 4 w t42_24) fun t43_25 =>
          pCall Try.prog 18 [t43_25] w fun t44_26 w =>
          pE (mkE 42 4 [t44_26] w) fun t45_27 w =>
          pE (semE Try.prog (Builtin.append_ #[22, 22] 22 #[(nth vs1 2), t45_27]) w) fun t46_28 w =>
          pV (slV 4 (nth vs1 1) (some (.int .i64 1)) none none) fun t48_29 =>
          J2 [(nth vs1 0), t48_29, t46_28] w)))
      (fun vs2 w =>
        go1 [(nth vs2 0), (nth vs2 1), (nth vs2 2)] w))
    (K (nth vs1 2) w)

def an6 : An := (.seq (.reg [] (.one .nil)) (.seq (.reg [] (.one .nil)) (.seq (.blk (.loop [0, 1, 5] (.seq (.seq (.reg [] (.one (.one (.one (.one (.one (.one .nil))))))) (.cond .leaf .leaf)) (.blkJ [0, 1, 5] (.seq (.reg [0, 1, 3, 7, 15, 31, 63, 127, 255, 511, 1023, 2047, 255, 4351, 12543, 28927, 65535, 131071, 262143] (.one (.one (.one (.one (.sc false (.one (.one (.one (.one (.sc true (.one (.one (.one (.one (.one (.one (.one (.one (.one .nil))))))))) .nil))))) .nil)))))) (.cond (.reg [0, 0, 2, 6, 14, 30, 63, 0, 128, 127, 1023] (.one (.one (.one (.one (.one (.one (.one (.one (.one (.one (.one .nil)))))))))))) (.reg [0, 0, 2, 6, 14, 30, 63, 0, 128, 127, 1023] (.one (.one (.one (.one (.one (.one (.one (.one (.one (.one (.one .nil)))))))))))))))))) (.seq (.reg [] (.one (.one .nil))) .leaf))))

theorem F6_eq : @F6 = fun a0 a1 w K => vcFun Try.prog an6 (Try.f6.body.getD .skip) Try.f6.results.toList 2 [a0, a1] w K := by kernel_rfl

theorem F6_calls {a0 a1 : Value} {w : World} {K : Value → World → Prop} (h : F6 a0 a1 w K) : Calls Try.prog 6 #[a0, a1] w (retK K) := by
  rw [F6_eq] at h
  exact calls_of_vc (f := 6) (fn := Try.f6) (args := [a0, a1]) Try.func6 (by kernel_rfl) (by kernel_rfl) rfl (by kernel_rfl) h

theorem F6_pc {a0 a1 : Value} {w : World} {K : Value → World → Prop} (h : F6 a0 a1 w K) : pCall Try.prog 6 [a0, a1] w K := by
  exact pCall_of (fn := Try.f6) (c := Try.f6.body.getD .skip) Try.func6 (by kernel_rfl) (by kernel_rfl) (F6_calls h)

/- bulkhead/script.Cut -/
def F7 (a0 a1 a2 : Value) (w : World) (K : Value → World → Prop) : Prop :=
  pV (lenS a0) fun t11_1 =>
  pLoop [(.slice none 0 0), (.int .i64 0)] w fun go1 vs1 w =>  -- slots 7 12
    pV (binV .lss (nth vs1 1) t11_1) fun t13_2 =>
    pIf t13_2
    (pJoin (fun J2 =>
        pV (idxV 4 a0 (nth vs1 1)) fun t14_3 =>
        pV (ldV true 4 w t14_3) fun t15_4 =>
        pE (boxE 42 (.agg #[(.int .i64 0), (.int .i64 0), (.int .i64 0), (.slice none 0 0)]) w) fun t9_5 w =>
        pU (stE 4 t9_5 t15_4 w) fun w =>
        pV (fldA 0 t9_5) fun t16_6 =>
        pV (ldV false 1 w t16_6) fun t17_7 =>
        pV (binV .geq t17_7 a1) fun t19_8 =>
        pSC true t19_8 w (fun J3 =>
          pV (fldA 0 t9_5) fun t21_9 =>
          pV (ldV false 1 w t21_9) fun t22_10 =>
          pV (binV .lss t22_10 a2) fun t24_11 =>
          J3 t24_11 w)
        (fun t25_12 w =>
        pIf t25_12
        (pV (ldV true 4 w t9_5) fun t27_13 =>
          pCall Try.prog 18 [t27_13] w fun t28_14 w =>
          pE (mkE 42 4 [t28_14] w) fun t29_15 w =>
          pE (semE Try.prog (Builtin.append_ #[22, 22] 22 #[(nth vs1 0), t29_15]) w) fun t30_16 w =>
          J2 [t30_16] w)
        (J2 [(nth vs1 0)] w)))
      (fun vs2 w =>
        pV (binV .add (nth vs1 1) (.int .i64 1)) fun t31_17 =>
        go1 [(nth vs2 0), t31_17] w))
    (K (nth vs1 0) w)

def an7 : An := (.seq (.reg [] (.one .nil)) (.seq (.reg [] (.one .nil)) (.seq (.seq (.reg [] (.one (.one (.one .nil)))) (.blk (.loop [7, 12] (.seq (.reg [] (.one .nil)) (.seq (.cond .leaf .leaf) (.seq (.blkJ [7] (.seq (.reg [] (.one (.one (.one (.one .nil))))) (.seq (.reg [] (.one (.one (.one (.one (.one (.sc true (.one (.one (.one (.one .nil)))) .nil))))))) (.cond (.reg [] (.one (.one (.one (.one (.one (.one .nil))))))) .leaf)))) (.reg [] (.one (.one .nil))))))))) (.seq (.reg [] (.one (.one .nil))) .leaf))))

theorem F7_eq : @F7 = fun a0 a1 a2 w K => vcFun Try.prog an7 (Try.f7.body.getD .skip) Try.f7.results.toList 3 [a0, a1, a2] w K := by kernel_rfl

theorem F7_calls {a0 a1 a2 : Value} {w : World} {K : Value → World → Prop} (h : F7 a0 a1 a2 w K) : Calls Try.prog 7 #[a0, a1, a2] w (retK K) := by
  rw [F7_eq] at h
  exact calls_of_vc (f := 7) (fn := Try.f7) (args := [a0, a1, a2]) Try.func7 (by kernel_rfl) (by kernel_rfl) rfl (by kernel_rfl) h

theorem F7_pc {a0 a1 a2 : Value} {w : World} {K : Value → World → Prop} (h : F7 a0 a1 a2 w K) : pCall Try.prog 7 [a0, a1, a2] w K := by
  exact pCall_of (fn := Try.f7) (c := Try.f7.body.getD .skip) Try.func7 (by kernel_rfl) (by kernel_rfl) (F7_calls h)

/- bulkhead/bulkheadref21.Merge -/
def F8 (a0 a1 : Value) (w : World) (K : Value → World → Prop) : Prop :=
  pLoop [(.slice none 0 0), (.int .i64 0), (.int .i64 0)] w fun go1 vs1 w =>  -- slots 5 6 7
    pV (lenS a0) fun t10_1 =>
    pV (binV .lss (nth vs1 1) t10_1) fun t11_2 =>
    pSC false t11_2 w (fun J2 =>
      pV (lenS a1) fun t15_3 =>
      pV (binV .lss (nth vs1 2) t15_3) fun t16_4 =>
      J2 t16_4 w)
    (fun t17_5 w =>
    pIf t17_5
    (pJoin (fun J3 =>
        pDraw w fun w =>
        pV (lenS a1) fun t20_6 =>
        pV (binV .geq (nth vs1 2) t20_6) fun t21_7 =>
        pSC false t21_7 w (fun J4 =>
          pV (lenS a0) fun t25_8 =>
          pV (binV .lss (nth vs1 1) t25_8) fun t26_9 =>
          pSC true t26_9 w (fun J5 =>
            pV (idxV 4 a0 (nth vs1 1)) fun t30_10 =>
            pV (fldA 0 t30_10) fun t31_11 =>
            pV (ldV false 1 w t31_11) fun t32_12 =>
            pV (idxV 4 a1 (nth vs1 2)) fun t35_13 =>
            pV (fldA 0 t35_13) fun t36_14 =>
            pV (ldV false 1 w t36_14) fun t37_15 =>
            pV (binV .leq t32_12 t37_15) fun t38_16 =>
            J5 t38_16 w)
          (fun t39_17 w =>
          J4 t39_17 w))
        (fun t40_18 w =>
        pIf t40_18
        (pV (idxV 4 a0 (nth vs1 1)) fun t44_19 =>
          pV (ldV true 4 w t44_19) fun t45_20 =>
          pCall Try.prog 19 [(nth vs1 0), t45_20] w fun t46_21 w =>
          pV (binV .add (nth vs1 1) (.int .i64 1)) fun t48_22 =>
          J3 [t46_21, t48_22, (nth vs1 2)] w)
        (pV (idxV 4 a1 (nth vs1 2)) fun t52_23 =>
          pV (ldV true 4 w t52_23) fun t53_24 =>
          pCall Try.prog 19 [(nth vs1 0), t53_24] w fun t54_25 w =>
          pV (binV .add (nth vs1 2) (.int .i64 1)) fun t56_26 =>
          J3 [t54_25, (nth vs1 1), t56_26] w)))
      (fun vs3 w =>
        go1 [(nth vs3 0), (nth vs3 1), (nth vs3 2)] w))
    (K (nth vs1 0) w))

def an8 : An := (.seq (.reg [] (.one .nil)) (.seq (.reg [] (.one .nil)) (.seq (.reg [] (.one .nil)) (.seq (.reg [] (.one .nil)) (.seq (.blk (.loop [5, 6, 7] (.seq (.seq (.reg [] (.one (.one (.one (.one (.one (.sc false (.one (.one (.one (.one .nil)))) .nil))))))) (.cond .leaf .leaf)) (.blkJ [5, 6, 7] (.seq (.reg [0, 0, 2, 7, 15, 31, 31, 95, 255, 511, 1023, 1023, 4095, 8191, 16383, 1023, 1023, 99327, 230399, 492543, 1048575, 2097151, 4194303] (.one (.one (.one (.one (.one (.sc false (.one (.one (.one (.one (.one (.sc true (.one (.one (.one (.one (.one (.one (.one (.one (.one (.one (.one .nil))))))))))) .nil)))))) .nil))))))) (.cond (.seq (.reg [] (.one (.one (.one (.one (.one (.one (.one .nil)))))))) (.reg [] (.one (.one (.one .nil))))) (.seq (.reg [] (.one (.one (.one (.one (.one (.one (.one .nil)))))))) (.reg [] (.one (.one (.one .nil))))))))))) (.seq (.reg [] (.one (.one .nil))) .leaf))))))

theorem F8_eq : @F8 = fun a0 a1 w K => vcFun Try.prog an8 (Try.f8.body.getD .skip) Try.f8.results.toList 2 [a0, a1] w K := by kernel_rfl

theorem F8_calls {a0 a1 : Value} {w : World} {K : Value → World → Prop} (h : F8 a0 a1 w K) : Calls Try.prog 8 #[a0, a1] w (retK K) := by
  rw [F8_eq] at h
  exact calls_of_vc (f := 8) (fn := Try.f8) (args := [a0, a1]) Try.func8 (by kernel_rfl) (by kernel_rfl) rfl (by kernel_rfl) h

theorem F8_pc {a0 a1 : Value} {w : World} {K : Value → World → Prop} (h : F8 a0 a1 w K) : pCall Try.prog 8 [a0, a1] w K := by
  exact pCall_of (fn := Try.f8) (c := Try.f8.body.getD .skip) Try.func8 (by kernel_rfl) (by kernel_rfl) (F8_calls h)

/- bulkhead/bulkheadref21.Cut -/
def F9 (a0 a1 a2 : Value) (w : World) (K : Value → World → Prop) : Prop :=
  pLoop [(.slice none 0 0), (.int .i64 0)] w fun go1 vs1 w =>  -- slots 7 8
    pV (lenS a0) fun t11_1 =>
    pV (binV .lss (nth vs1 1) t11_1) fun t12_2 =>
    pIf t12_2
    (pJoin (fun J2 =>
        pV (idxV 4 a0 (nth vs1 1)) fun t17_3 =>
        pV (fldA 0 t17_3) fun t18_4 =>
        pV (ldV false 1 w t18_4) fun t19_5 =>
        pV (binV .geq t19_5 a1) fun t21_6 =>
        pSC true t21_6 w (fun J3 =>
          pV (idxV 4 a0 (nth vs1 1)) fun t25_7 =>
          pV (fldA 0 t25_7) fun t26_8 =>
          pV (ldV false 1 w t26_8) fun t27_9 =>
          pV (binV .lss t27_9 a2) fun t29_10 =>
          J3 t29_10 w)
        (fun t30_11 w =>
        pIf t30_11
        (pV (idxV 4 a0 (nth vs1 1)) fun t34_12 =>
          pV (ldV true 4 w t34_12) fun t35_13 =>
          pCall Try.prog 19 [(nth vs1 0), t35_13] w fun t36_14 w =>
          J2 [t36_14] w)
        (J2 [(nth vs1 0)] w)))
      (fun vs2 w =>
        pV (binV .add (nth vs1 1) (.int .i64 1)) fun t14_15 =>
        go1 [(nth vs2 0), t14_15] w))
    (K (nth vs1 0) w)

def an9 : An := (.seq (.reg [] (.one .nil)) (.seq (.reg [] (.one .nil)) (.seq (.seq (.reg [] (.one .nil)) (.blk (.loop [7, 8] (.seq (.seq (.reg [] (.one (.one (.one (.one .nil))))) (.cond .leaf .leaf)) (.seq (.blkJ [7] (.seq (.reg [] (.one (.one (.one (.one (.one (.one (.one (.one (.sc true (.one (.one (.one (.one (.one (.one (.one .nil))))))) .nil)))))))))) (.cond (.reg [] (.one (.one (.one (.one (.one (.one (.one .nil)))))))) .leaf))) (.reg [] (.one (.one (.one .nil))))))))) (.seq (.reg [] (.one (.one .nil))) .leaf))))

theorem F9_eq : @F9 = fun a0 a1 a2 w K => vcFun Try.prog an9 (Try.f9.body.getD .skip) Try.f9.results.toList 3 [a0, a1, a2] w K := by kernel_rfl

theorem F9_calls {a0 a1 a2 : Value} {w : World} {K : Value → World → Prop} (h : F9 a0 a1 a2 w K) : Calls Try.prog 9 #[a0, a1, a2] w (retK K) := by
  rw [F9_eq] at h
  exact calls_of_vc (f := 9) (fn := Try.f9) (args := [a0, a1, a2]) Try.func9 (by kernel_rfl) (by kernel_rfl) rfl (by kernel_rfl) h

theorem F9_pc {a0 a1 a2 : Value} {w : World} {K : Value → World → Prop} (h : F9 a0 a1 a2 w K) : pCall Try.prog 9 [a0, a1, a2] w K := by
  exact pCall_of (fn := Try.f9) (c := Try.f9.body.getD .skip) Try.func9 (by kernel_rfl) (by kernel_rfl) (F9_calls h)

/- bulkhead/bulkheadref21.Same -/
def F10 (a0 a1 : Value) (w : World) (K : Value → World → Prop) : Prop :=
  pV (lenS a0) fun t7_1 =>
  pV (lenS a1) fun t9_2 =>
  pV (binV .neq t7_1 t9_2) fun t10_3 =>
  pIf t10_3
  (K (.bool false) w)
  (pLoop [(.int .i64 0)] w fun go1 vs1 w =>  -- slots 5
      pV (lenS a0) fun t13_4 =>
      pV (binV .lss (nth vs1 0) t13_4) fun t14_5 =>
      pIf t14_5
      (pDraw w fun w =>
        pV (idxV 4 a0 (nth vs1 0)) fun t19_6 =>
        pV (ldV true 4 w t19_6) fun t20_7 =>
        pV (idxV 4 a1 (nth vs1 0)) fun t23_8 =>
        pV (ldV true 4 w t23_8) fun t24_9 =>
        pCall Try.prog 20 [t20_7, t24_9] w fun t25_10 w =>
        pV (unV .not t25_10) fun t26_11 =>
        pIf t26_11
        (K (.bool false) w)
        (pV (binV .add (nth vs1 0) (.int .i64 1)) fun t16_12 =>
          go1 [t16_12] w))
      (K (.bool true) w))

def an10 : An := (.seq (.reg [] (.one .nil)) (.seq (.seq (.reg [] (.one (.one (.one (.one (.one .nil)))))) (.cond (.seq (.reg [] (.one .nil)) .leaf) .leaf)) (.seq (.seq (.reg [] (.one .nil)) (.blk (.loop [5] (.seq (.seq (.reg [] (.one (.one (.one (.one .nil))))) (.cond .leaf .leaf)) (.seq (.blk (.seq (.reg [0, 0, 3, 7, 0, 0, 48, 112, 255, 511] (.one (.one (.one (.one (.one (.one (.one (.one (.one (.one .nil))))))))))) (.cond (.seq (.reg [] (.one .nil)) .leaf) .leaf))) (.reg [] (.one (.one (.one .nil))))))))) (.seq (.reg [] (.one .nil)) .leaf))))

theorem F10_eq : @F10 = fun a0 a1 w K => vcFun Try.prog an10 (Try.f10.body.getD .skip) Try.f10.results.toList 2 [a0, a1] w K := by kernel_rfl

theorem F10_calls {a0 a1 : Value} {w : World} {K : Value → World → Prop} (h : F10 a0 a1 w K) : Calls Try.prog 10 #[a0, a1] w (retK K) := by
  rw [F10_eq] at h
  exact calls_of_vc (f := 10) (fn := Try.f10) (args := [a0, a1]) Try.func10 (by kernel_rfl) (by kernel_rfl) rfl (by kernel_rfl) h

theorem F10_pc {a0 a1 : Value} {w : World} {K : Value → World → Prop} (h : F10 a0 a1 w K) : pCall Try.prog 10 [a0, a1] w K := by
  exact pCall_of (fn := Try.f10) (c := Try.f10.body.getD .skip) Try.func10 (by kernel_rfl) (by kernel_rfl) (F10_calls h)

/- bulkhead/bulkheadlaw21.spoilt -/
def F11 (a0 : Value) (w : World) (K : Value → World → Prop) : Prop :=
  pLoop [(.int .i64 0)] w fun go1 vs1 w =>  -- slots 3
    pV (lenS a0) fun t16_1 =>
    pV (binV .lss (nth vs1 0) t16_1) fun t17_2 =>
    pIf t17_2
    (pLoop [(.int .i64 0)] w fun go2 vs2 w =>  -- slots 4
        pV (idxV 4 a0 (nth vs1 0)) fun t23_3 =>
        pV (fldA 3 t23_3) fun t24_4 =>
        pV (ldV false 1 w t24_4) fun t25_5 =>
        pV (lenS t25_5) fun t26_6 =>
        pV (binV .lss (nth vs2 0) t26_6) fun t27_7 =>
        pIf t27_7
        (pV (idxV 4 a0 (nth vs1 0)) fun t32_8 =>
          pV (fldA 3 t32_8) fun t33_9 =>
          pV (ldV false 1 w t33_9) fun t34_10 =>
          pV (binV .sub (.int .i64 (-5)) (nth vs1 0)) fun t37_11 =>
          pV (idxV 1 t34_10 (nth vs2 0)) fun t38_12 =>
          pU (stE 1 t38_12 t37_11 w) fun w =>
          pV (binV .add (nth vs2 0) (.int .i64 1)) fun t29_13 =>
          go2 [t29_13] w)
        (pV (binV .add (nth vs1 0) (.int .i64 1)) fun t19_14 =>
          go1 [t19_14] w))
    (pLoop [(.int .i64 0), (.int .i64 0)] w fun go3 vs3 w =>  -- slots 5 6
        pV (lenS a0) fun t41_15 =>
        pV (binV .lss (nth vs3 1) t41_15) fun t42_16 =>
        pIf t42_16
        (pV (idxV 4 a0 (nth vs3 1)) fun t47_17 =>
          pV (fldA 3 t47_17) fun t48_18 =>
          pV (ldV false 1 w t48_18) fun t49_19 =>
          pLoop [t49_19, (.int .i64 0)] w fun go4 vs4 w =>  -- slots 7 8
            pV (binV .lss (nth vs4 1) (.int .i64 64)) fun t51_20 =>
            pIf t51_20
            (pE (mkE 2 1 [(.int .i64 9)] w) fun t55_21 w =>
              pE (semE Try.prog (Builtin.append_ #[40, 40] 40 #[(nth vs4 0), t55_21]) w) fun t56_22 w =>
              pV (binV .add (nth vs4 1) (.int .i64 1)) fun t53_23 =>
              go4 [t56_22, t53_23] w)
            (pV (lenS (nth vs4 0)) fun t59_24 =>
              pV (binV .add (nth vs3 0) t59_24) fun t60_25 =>
              pV (idxV 4 a0 (nth vs3 1)) fun t63_26 =>
              pV (fldA 3 t63_26) fun t64_27 =>
              pV (ldV false 1 w t64_27) fun t65_28 =>
              pV (lenS t65_28) fun t66_29 =>
              pV (binV .sub t60_25 t66_29) fun t67_30 =>
              pV (binV .add (nth vs3 1) (.int .i64 1)) fun t44_31 =>
              go3 [t67_30, t44_31] w))
        (pV (lenS a0) fun t70_32 =>
          pV (binV .mul (.int .i64 64) t70_32) fun t71_33 =>
          pV (binV .eql (nth vs3 0) t71_33) fun t72_34 =>
          pLoop [t72_34, (.int .i64 0)] w fun go5 vs5 w =>  -- slots 9 10
            pV (lenS a0) fun t75_35 =>
            pV (binV .lss (nth vs5 1) t75_35) fun t76_36 =>
            pIf t76_36
            (pLoop [(nth vs5 0), (.int .i64 0)] w fun go6 vs6 w =>  -- slots 9 11
                pV (idxV 4 a0 (nth vs5 1)) fun t82_37 =>
                pV (fldA 3 t82_37) fun t83_38 =>
                pV (ldV false 1 w t83_38) fun t84_39 =>
                pV (lenS t84_39) fun t85_40 =>
                pV (binV .lss (nth vs6 1) t85_40) fun t86_41 =>
                pIf t86_41
                (pSC true (nth vs6 0) w (fun J7 =>
                    pV (idxV 4 a0 (nth vs5 1)) fun t93_42 =>
                    pV (fldA 3 t93_42) fun t94_43 =>
                    pV (ldV false 1 w t94_43) fun t95_44 =>
                    pV (idxV 1 t95_44 (nth vs6 1)) fun t97_45 =>
                    pV (ldV false 1 w t97_45) fun t98_46 =>
                    pV (binV .sub (.int .i64 (-5)) (nth vs5 1)) fun t100_47 =>
                    pV (binV .eql t98_46 t100_47) fun t101_48 =>
                    J7 t101_48 w)
                  (fun t102_49 w =>
                  pV (binV .add (nth vs6 1) (.int .i64 1)) fun t88_50 =>
                  go6 [t102_49, t88_50] w))
                (pV (binV .add (nth vs5 1) (.int .i64 1)) fun t78_51 =>
                  go5 [(nth vs6 0), t78_51] w))
            (pV (lenS a0) fun t104_52 =>
              pLoop [(.int .i64 0)] w fun go8 vs8 w =>  -- slots 12
                pV (binV .lss (nth vs8 0) t104_52) fun t107_53 =>
                pIf t107_53
                (pV (bldV #[(.int .i64 0), (.int .i64 0), (.int .i64 0), (.slice none 0 0)] #[(0, 1), (1, 1), (2, 1), (3, 1)] [(0, (.int .i64 (-9)))]) fun t112_54 =>
                  pV (idxV 4 a0 (nth vs8 0)) fun t113_55 =>
                  pU (stE 4 t113_55 t112_54 w) fun w =>
                  pV (binV .add (nth vs8 0) (.int .i64 1)) fun t109_56 =>
                  go8 [t109_56] w)
                (pLoop [a0, (.int .i64 0)] w fun go9 vs9 w =>  -- slots 0 13
                    pV (binV .lss (nth vs9 1) (.int .i64 64)) fun t115_57 =>
                    pIf t115_57
                    (pV (bldV #[(.int .i64 0), (.int .i64 0), (.int .i64 0), (.slice none 0 0)] #[(0, 1), (1, 1), (2, 1), (3, 1)] [(0, (.int .i64 (-8)))]) fun t119_58 =>
                      pE (mkE 42 4 [t119_58] w) fun t120_59 w =>
                      pE (semE Try.prog (Builtin.append_ #[22, 22] 22 #[(nth vs9 0), t120_59]) w) fun t121_60 w =>
                      pV (binV .add (nth vs9 1) (.int .i64 1)) fun t117_61 =>
                      go9 [t121_60, t117_61] w)
                    (pSC true (nth vs5 0) w (fun J10 =>
                        pV (lenS (nth vs9 0)) fun t125_62 =>
                        pV (binV .add t104_52 (.int .i64 64)) fun t127_63 =>
                        pV (binV .eql t125_62 t127_63) fun t128_64 =>
                        J10 t128_64 w)
                      (fun t129_65 w =>
                      K t129_65 w))))))

def an11 : An := (.seq (.reg [] (.one .nil)) (.seq (.seq (.reg [] (.one .nil)) (.blk (.loop [3] (.seq (.seq (.reg [] (.one (.one (.one (.one .nil))))) (.cond .leaf .leaf)) (.seq (.blk (.seq (.reg [] (.one .nil)) (.blk (.loop [4] (.seq (.seq (.reg [] (.one (.one (.one (.one (.one (.one (.one (.one .nil))))))))) (.cond .leaf .leaf)) (.seq (.blk (.reg [] (.one (.one (.one (.one (.one (.one (.one (.one (.one (.one .nil)))))))))))) (.reg [] (.one (.one (.one .nil)))))))))) (.reg [] (.one (.one (.one .nil))))))))) (.seq (.reg [] (.one .nil)) (.seq (.seq (.reg [] (.one .nil)) (.blk (.loop [5, 6] (.seq (.seq (.reg [] (.one (.one (.one (.one .nil))))) (.cond .leaf .leaf)) (.seq (.blk (.seq (.reg [] (.one (.one (.one (.one (.one (.one .nil))))))) (.seq (.seq (.reg [] (.one .nil)) (.blk (.loop [7, 8] (.seq (.seq (.reg [] (.one (.one .nil))) (.cond .leaf .leaf)) (.seq (.blk (.reg [] (.one (.one (.one (.one .nil)))))) (.reg [] (.one (.one (.one .nil))))))))) (.reg [] (.one (.one (.one (.one (.one (.one (.one (.one (.one (.one (.one (.one .nil)))))))))))))))) (.reg [] (.one (.one (.one .nil))))))))) (.seq (.reg [] (.one (.one (.one (.one (.one (.one .nil))))))) (.seq (.seq (.reg [] (.one .nil)) (.blk (.loop [9, 10] (.seq (.seq (.reg [] (.one (.one (.one (.one .nil))))) (.cond .leaf .leaf)) (.seq (.blk (.seq (.reg [] (.one .nil)) (.blk (.loop [9, 11] (.seq (.seq (.reg [] (.one (.one (.one (.one (.one (.one (.one (.one .nil))))))))) (.cond .leaf .leaf)) (.seq (.blk (.reg [] (.one (.one (.sc true (.one (.one (.one (.one (.one (.one (.one (.one (.one (.one (.one .nil))))))))))) (.one .nil)))))) (.reg [] (.one (.one (.one .nil)))))))))) (.reg [] (.one (.one (.one .nil))))))))) (.seq (.reg [] (.one (.one (.one .nil)))) (.seq (.seq (.reg [] (.one .nil)) (.blk (.loop [12] (.seq (.seq (.reg [] (.one (.one (.one .nil)))) (.cond .leaf .leaf)) (.seq (.blk (.reg [] (.one (.one (.one (.one (.one .nil))))))) (.reg [] (.one (.one (.one .nil))))))))) (.seq (.seq (.reg [] (.one .nil)) (.blk (.loop [0, 13] (.seq (.seq (.reg [] (.one (.one .nil))) (.cond .leaf .leaf)) (.seq (.blk (.reg [] (.one (.one (.one (.one (.one .nil))))))) (.reg [] (.one (.one (.one .nil))))))))) (.seq (.reg [] (.one (.one (.sc true (.one (.one (.one (.one (.one .nil))))) (.one .nil))))) .leaf))))))))))

theorem F11_eq : @F11 = fun a0 w K => vcFun Try.prog an11 (Try.f11.body.getD .skip) Try.f11.results.toList 1 [a0] w K := by kernel_rfl

theorem F11_calls {a0 : Value} {w : World} {K : Value → World → Prop} (h : F11 a0 w K) : Calls Try.prog 11 #[a0] w (retK K) := by
  rw [F11_eq] at h
  exact calls_of_vc (f := 11) (fn := Try.f11) (args := [a0]) Try.func11 (by kernel_rfl) (by kernel_rfl) rfl (by kernel_rfl) h

theorem F11_pc {a0 : Value} {w : World} {K : Value → World → Prop} (h : F11 a0 w K) : pCall Try.prog 11 [a0] w K := by
  exact pCall_of (fn := Try.f11) (c := Try.f11.body.getD .skip) Try.func11 (by kernel_rfl) (by kernel_rfl) (F11_calls h)

/- bulkhead/bulkheadlaw21.left -/
def F12 (a0 a1 a2 : Value) (w : World) (K : Value → World → Prop) : Prop :=
  pCall Try.prog 5 [a2] w fun t13_1 w =>
  pV (extV t13_1 0) fun _ =>
  pV (extV t13_1 1) fun t15_3 =>
  pV (lenS a0) fun t17_4 =>
  pV (lenS a2) fun t19_5 =>
  pV (binV .neq t17_4 t19_5) fun t20_6 =>
  pSC false t20_6 w (fun J1 =>
    pCall Try.prog 10 [a1, t15_3] w fun t24_7 w =>
    pV (unV .not t24_7) fun t25_8 =>
    J1 t25_8 w)
  (fun t26_9 w =>
  pSC false t26_9 w (fun J2 =>
    pCall Try.prog 10 [a0, a2] w fun t30_10 w =>
    pV (unV .not t30_10) fun t31_11 =>
    J2 t31_11 w)
  (fun t32_12 w =>
  pIf t32_12
  (K (.bool false) w)
  (pV (lenS a2) fun t35_13 =>
    pV (binV .add t35_13 (.int .i64 8)) fun t36_14 =>
    pV (slV 4 a0 none (some t36_14) none) fun t37_15 =>
    pV (lenS a2) fun t39_16 =>
    pLoop [t39_16] w fun go3 vs3 w =>  -- slots 10
      pV (lenS t37_15) fun t42_17 =>
      pV (binV .lss (nth vs3 0) t42_17) fun t43_18 =>
      pIf t43_18
      (pV (idxV 4 t37_15 (nth vs3 0)) fun t48_19 =>
        pV (fldA 0 t48_19) fun t49_20 =>
        pV (ldV false 1 w t49_20) fun t50_21 =>
        pV (binV .neq t50_21 (.int .i64 77)) fun t51_22 =>
        pIf t51_22
        (K (.bool false) w)
        (pV (binV .add (nth vs3 0) (.int .i64 1)) fun t45_23 =>
          go3 [t45_23] w))
      (K (.bool true) w))))

def an12 : An := (.seq (.reg [] (.one .nil)) (.seq (.reg [] (.one (.one (.one (.one (.one (.one (.one .nil)))))))) (.seq (.seq (.reg [] (.one (.one (.one (.one (.one (.one (.sc false (.one (.one (.one (.one .nil)))) (.one (.sc false (.one (.one (.one (.one .nil)))) .nil)))))))))) (.cond (.seq (.reg [] (.one .nil)) .leaf) .leaf)) (.seq (.reg [] (.one (.one (.one (.one (.one (.one .nil))))))) (.seq (.seq (.reg [] (.one (.one (.one .nil)))) (.blk (.loop [10] (.seq (.seq (.reg [] (.one (.one (.one (.one .nil))))) (.cond .leaf .leaf)) (.seq (.blk (.seq (.reg [] (.one (.one (.one (.one (.one (.one .nil))))))) (.cond (.seq (.reg [] (.one .nil)) .leaf) .leaf))) (.reg [] (.one (.one (.one .nil))))))))) (.seq (.reg [] (.one .nil)) .leaf))))))

theorem F12_eq : @F12 = fun a0 a1 a2 w K => vcFun Try.prog an12 (Try.f12.body.getD .skip) Try.f12.results.toList 3 [a0, a1, a2] w K := by kernel_rfl

theorem F12_calls {a0 a1 a2 : Value} {w : World} {K : Value → World → Prop} (h : F12 a0 a1 a2 w K) : Calls Try.prog 12 #[a0, a1, a2] w (retK K) := by
  rw [F12_eq] at h
  exact calls_of_vc (f := 12) (fn := Try.f12) (args := [a0, a1, a2]) Try.func12 (by kernel_rfl) (by kernel_rfl) rfl (by kernel_rfl) h

theorem F12_pc {a0 a1 a2 : Value} {w : World} {K : Value → World → Prop} (h : F12 a0 a1 a2 w K) : pCall Try.prog 12 [a0, a1, a2] w K := by
  exact pCall_of (fn := Try.f12) (c := Try.f12.body.getD .skip) Try.func12 (by kernel_rfl) (by kernel_rfl) (F12_calls h)

/- bulkhead/bulkheadlaw21.turned -/
def F13 (a0 : Value) (w : World) (K : Value → World → Prop) : Prop :=
  pLoop [(.int .i64 0)] w fun go1 vs1 w =>  -- slots 2
    pV (lenS a0) fun t8_1 =>
    pV (binV .quo t8_1 (.int .i64 2)) fun t9_2 =>
    pV (binV .lss (nth vs1 0) t9_2) fun t10_3 =>
    pIf t10_3
    (pV (idxV 4 a0 (nth vs1 0)) fun t15_4 =>
      pV (ldV true 4 w t15_4) fun t16_5 =>
      pE (boxE 42 (.agg #[(.int .i64 0), (.int .i64 0), (.int .i64 0), (.slice none 0 0)]) w) fun t3_6 w =>
      pU (stE 4 t3_6 t16_5 w) fun w =>
      pV (lenS a0) fun t21_7 =>
      pV (binV .sub t21_7 (.int .i64 1)) fun t22_8 =>
      pV (binV .sub t22_8 (nth vs1 0)) fun t24_9 =>
      pV (idxV 4 a0 t24_9) fun t25_10 =>
      pV (ldV true 4 w t25_10) fun t26_11 =>
      pV (idxV 4 a0 (nth vs1 0)) fun t27_12 =>
      pU (stE 4 t27_12 t26_11 w) fun w =>
      pV (lenS a0) fun t30_13 =>
      pV (binV .sub t30_13 (.int .i64 1)) fun t31_14 =>
      pV (binV .sub t31_14 (nth vs1 0)) fun t33_15 =>
      pV (ldV true 4 w t3_6) fun t34_16 =>
      pV (idxV 4 a0 t33_15) fun t35_17 =>
      pU (stE 4 t35_17 t34_16 w) fun w =>
      pV (binV .add (nth vs1 0) (.int .i64 1)) fun t12_18 =>
      go1 [t12_18] w)
    (pLoop [(.int .i64 0)] w fun go2 vs2 w =>  -- slots 4
        pV (lenS a0) fun t38_19 =>
        pV (binV .lss (nth vs2 0) t38_19) fun t39_20 =>
        pIf t39_20
        (pLoop [(.int .i64 0)] w fun go3 vs3 w =>  -- slots 5
            pV (idxV 4 a0 (nth vs2 0)) fun t45_21 =>
            pV (fldA 3 t45_21) fun t46_22 =>
            pV (ldV false 1 w t46_22) fun t47_23 =>
            pV (lenS t47_23) fun t48_24 =>
            pV (binV .lss (nth vs3 0) t48_24) fun t49_25 =>
            pIf t49_25
            (pDraw w fun w =>
              pV (idxV 4 a0 (nth vs2 0)) fun t54_26 =>
              pV (fldA 3 t54_26) fun t55_27 =>
              pV (ldV false 1 w t55_27) fun t56_28 =>
              pV (idxV 4 a0 (nth vs2 0)) fun t60_29 =>
              pV (fldA 3 t60_29) fun t61_30 =>
              pV (ldV false 1 w t61_30) fun t62_31 =>
              pV (idxV 1 t62_31 (nth vs3 0)) fun t64_32 =>
              pV (ldV false 1 w t64_32) fun t65_33 =>
              pV (binV .sub (.int .i64 (-1)) t65_33) fun t66_34 =>
              pV (idxV 1 t56_28 (nth vs3 0)) fun t67_35 =>
              pU (stE 1 t67_35 t66_34 w) fun w =>
              pV (binV .add (nth vs3 0) (.int .i64 1)) fun t51_36 =>
              go3 [t51_36] w)
            (pV (binV .add (nth vs2 0) (.int .i64 1)) fun t41_37 =>
              go2 [t41_37] w))
        (K (.tuple #[]) w))

def an13 : An := (.seq (.seq (.reg [] (.one .nil)) (.blk (.loop [2] (.seq (.seq (.reg [] (.one (.one (.one (.one (.one .nil)))))) (.cond .leaf .leaf)) (.seq (.blk (.seq (.reg [] (.one (.one (.one (.one (.one (.one .nil))))))) (.seq (.reg [] (.one (.one (.one (.one (.one (.one (.one (.one (.one (.one (.one (.one .nil))))))))))))) (.reg [] (.one (.one (.one (.one (.one (.one (.one (.one (.one .nil))))))))))))) (.reg [] (.one (.one (.one .nil))))))))) (.seq (.reg [] (.one .nil)) (.blk (.loop [4] (.seq (.seq (.reg [] (.one (.one (.one (.one .nil))))) (.cond .leaf .leaf)) (.seq (.blk (.seq (.reg [] (.one .nil)) (.blk (.loop [5] (.seq (.seq (.reg [] (.one (.one (.one (.one (.one (.one (.one (.one .nil))))))))) (.cond .leaf .leaf)) (.seq (.blk (.reg [0, 0, 3, 7, 15, 0, 0, 0, 192, 448, 960, 0, 4032, 8128, 16320, 32767, 65535] (.one (.one (.one (.one (.one (.one (.one (.one (.one (.one (.one (.one (.one (.one (.one (.one (.one .nil))))))))))))))))))) (.reg [] (.one (.one (.one .nil)))))))))) (.reg [] (.one (.one (.one .nil))))))))))

theorem F13_eq : @F13 = fun a0 w K => vcFun Try.prog an13 (Try.f13.body.getD .skip) Try.f13.results.toList 1 [a0] w K := by kernel_rfl

theorem F13_calls {a0 : Value} {w : World} {K : Value → World → Prop} (h : F13 a0 w K) : Calls Try.prog 13 #[a0] w (retK K) := by
  rw [F13_eq] at h
  exact calls_of_vc (f := 13) (fn := Try.f13) (args := [a0]) Try.func13 (by kernel_rfl) (by kernel_rfl) rfl (by kernel_rfl) h

theorem F13_pc {a0 : Value} {w : World} {K : Value → World → Prop} (h : F13 a0 w K) : pCall Try.prog 13 [a0] w K := by
  exact pCall_of (fn := Try.f13) (c := Try.f13.body.getD .skip) Try.func13 (by kernel_rfl) (by kernel_rfl) (F13_calls h)

/- bulkhead/bulkheadlaw21.encodes -/
def F14 (a0 : Value) (w : World) (K : Value → World → Prop) : Prop :=
  pCall Try.prog 5 [a0] w fun t18_1 w =>
  pV (extV t18_1 0) fun t19_2 =>
  pV (extV t18_1 1) fun t20_3 =>
  pCall Try.prog 21 [t19_2] w fun t23_4 w =>
  pV (extV t23_4 0) fun t24_5 =>
  pV (extV t23_4 1) fun t25_6 =>
  pCall Try.prog 21 [t19_2] w fun t28_7 w =>
  pV (extV t28_7 0) fun t29_8 =>
  pV (extV t28_7 1) fun t30_9 =>
  pCall Try.prog 22 [a0] w fun t33_10 w =>
  pV (extV t33_10 0) fun t34_11 =>
  pV (extV t33_10 1) fun t35_12 =>
  pCall Try.prog 17 [t24_5, t34_11] w fun t38_13 w =>
  pV (unV .not t38_13) fun t39_14 =>
  pSC false t39_14 w (fun J1 =>
    pCall Try.prog 17 [t29_8, t34_11] w fun t43_15 w =>
    pV (unV .not t43_15) fun t44_16 =>
    J1 t44_16 w)
  (fun t45_17 w =>
  pSC false t45_17 w (fun J2 =>
    pV (binV .neq t25_6 t35_12) fun t49_18 =>
    J2 t49_18 w)
  (fun t50_19 w =>
  pSC false t50_19 w (fun J3 =>
    pV (binV .neq t30_9 t35_12) fun t54_20 =>
    J3 t54_20 w)
  (fun t55_21 w =>
  pSC false t55_21 w (fun J4 =>
    pCall Try.prog 12 [t19_2, t20_3, a0] w fun t60_22 w =>
    pV (unV .not t60_22) fun t61_23 =>
    J4 t61_23 w)
  (fun t62_24 w =>
  pIf t62_24
  (K (.bool false) w)
  (pCall Try.prog 23 [t24_5] w fun t64_25 w =>
    pV (lenS t34_11) fun t67_26 =>
    pV (binV .add t67_26 (.int .i64 64)) fun t68_27 =>
    pV (binV .neq t64_25 t68_27) fun t69_28 =>
    pSC false t69_28 w (fun J5 =>
      pCall Try.prog 17 [t29_8, t34_11] w fun t73_29 w =>
      pV (unV .not t73_29) fun t74_30 =>
      J5 t74_30 w)
    (fun t75_31 w =>
    pSC false t75_31 w (fun J6 =>
      pCall Try.prog 12 [t19_2, t20_3, a0] w fun t80_32 w =>
      pV (unV .not t80_32) fun t81_33 =>
      J6 t81_33 w)
    (fun t82_34 w =>
    pIf t82_34
    (K (.bool false) w)
    (pCall Try.prog 13 [t19_2] w fun _ w =>
      pCall Try.prog 22 [t19_2] w fun t87_36 w =>
      pV (extV t87_36 0) fun t88_37 =>
      pV (extV t87_36 1) fun t89_38 =>
      pCall Try.prog 21 [t19_2] w fun t92_39 w =>
      pV (extV t92_39 0) fun t93_40 =>
      pV (extV t92_39 1) fun t94_41 =>
      pCall Try.prog 17 [t93_40, t88_37] w fun t97_42 w =>
      pSC true t97_42 w (fun J7 =>
        pV (binV .eql t94_41 t89_38) fun t101_43 =>
        J7 t101_43 w)
      (fun t102_44 w =>
      K t102_44 w)))))))))

def an14 : An := (.seq (.reg [] (.one .nil)) (.seq (.reg [] (.one (.one (.one (.one (.one (.one (.one .nil)))))))) (.seq (.reg [] (.one (.one (.one (.one (.one (.one (.one .nil)))))))) (.seq (.reg [] (.one (.one (.one (.one (.one (.one (.one .nil)))))))) (.seq (.reg [] (.one (.one (.one (.one (.one (.one (.one .nil)))))))) (.seq (.seq (.reg [] (.one (.one (.one (.one (.one (.sc false (.one (.one (.one (.one .nil)))) (.one (.sc false (.one (.one (.one .nil))) (.one (.sc false (.one (.one (.one .nil))) (.one (.sc false (.one (.one (.one (.one (.one .nil))))) .nil))))))))))))) (.cond (.seq (.reg [] (.one .nil)) .leaf) .leaf)) (.seq (.reg [] (.one (.one (.one .nil)))) (.seq (.seq (.reg [] (.one (.one (.one (.one (.one (.one (.sc false (.one (.one (.one (.one .nil)))) (.one (.sc false (.one (.one (.one (.one (.one .nil))))) .nil)))))))))) (.cond (.seq (.reg [] (.one .nil)) .leaf) .leaf)) (.seq (.reg [] (.one (.one .nil))) (.seq (.reg [] (.one (.one (.one (.one (.one (.one (.one .nil)))))))) (.seq (.reg [] (.one (.one (.one (.one (.one (.one (.one .nil)))))))) (.seq (.reg [] (.one (.one (.one (.one (.sc true (.one (.one (.one .nil))) (.one .nil))))))) .leaf))))))))))))

theorem F14_eq : @F14 = fun a0 w K => vcFun Try.prog an14 (Try.f14.body.getD .skip) Try.f14.results.toList 1 [a0] w K := by kernel_rfl

theorem F14_calls {a0 : Value} {w : World} {K : Value → World → Prop} (h : F14 a0 w K) : Calls Try.prog 14 #[a0] w (retK K) := by
  rw [F14_eq] at h
  exact calls_of_vc (f := 14) (fn := Try.f14) (args := [a0]) Try.func14 (by kernel_rfl) (by kernel_rfl) rfl (by kernel_rfl) h

theorem F14_pc {a0 : Value} {w : World} {K : Value → World → Prop} (h : F14 a0 w K) : pCall Try.prog 14 [a0] w K := by
  exact pCall_of (fn := Try.f14) (c := Try.f14.body.getD .skip) Try.func14 (by kernel_rfl) (by kernel_rfl) (F14_calls h)

/- bulkhead/script.Decode -/
def F15 (a0 : Value) (w : World) (K : Value → World → Prop) : Prop :=
  pCall Try.prog 24 [(.int .u8 3), a0] w fun t11_1 w =>
  pV (extV t11_1 0) fun t12_2 =>
  pV (extV t11_1 1) fun t13_3 =>
  pV (binV .neq t13_3 (.int .i64 0)) fun t15_4 =>
  pIf t15_4
  (K (.tuple #[(.slice none 0 0), t13_3]) w)
  (pCall Try.prog 25 [t12_2] w fun t18_5 w =>
    pCall Try.prog 26 [t18_5] w fun t20_6 w =>
    pV (binV .gtr t20_6 (.int .i64 65536)) fun t21_7 =>
    pIf t21_7
    (K (.tuple #[(.slice none 0 0), (.int .i64 1)]) w)
    (pCall Try.prog 25 [t12_2] w fun t23_8 w =>
      pCall Try.prog 27 [t23_8, (.int .i64 65536), (.func (.func 28) #[] #[])] w fun t25_9 w =>
      pCall Try.prog 29 [t23_8] w fun t27_10 w =>
      pV (binV .neq t27_10 (.int .i64 0)) fun t28_11 =>
      pIf t28_11
      (K (.tuple #[(.slice none 0 0), (.int .i64 20)]) w)
      (K (.tuple #[t25_9, (.int .i64 0)]) w)))

def an15 : An := (.seq (.reg [] (.one (.one .nil))) (.seq (.reg [] (.one (.one (.one (.one (.one (.one (.one .nil)))))))) (.seq (.seq (.reg [] (.one (.one .nil))) (.cond (.seq (.reg [] (.one (.one (.one .nil)))) .leaf) .leaf)) (.seq (.seq (.reg [] (.one (.one (.one .nil)))) (.seq (.reg [] (.one (.one (.one .nil)))) (.cond (.seq (.reg [] (.one (.one .nil))) .leaf) .leaf))) (.seq (.reg [] (.one (.one (.one .nil)))) (.seq (.reg [] (.one (.one (.one .nil)))) (.seq (.seq (.reg [] (.one (.one (.one .nil)))) (.cond (.seq (.reg [] (.one (.one .nil))) .leaf) .leaf)) (.seq (.reg [] (.one (.one (.one .nil)))) .leaf))))))))

theorem F15_eq : @F15 = fun a0 w K => vcFun Try.prog an15 (Try.f15.body.getD .skip) Try.f15.results.toList 1 [a0] w K := by kernel_rfl

theorem F15_calls {a0 : Value} {w : World} {K : Value → World → Prop} (h : F15 a0 w K) : Calls Try.prog 15 #[a0] w (retK K) := by
  rw [F15_eq] at h
  exact calls_of_vc (f := 15) (fn := Try.f15) (args := [a0]) Try.func15 (by kernel_rfl) (by kernel_rfl) rfl (by kernel_rfl) h

theorem F15_pc {a0 : Value} {w : World} {K : Value → World → Prop} (h : F15 a0 w K) : pCall Try.prog 15 [a0] w K := by
  exact pCall_of (fn := Try.f15) (c := Try.f15.body.getD .skip) Try.func15 (by kernel_rfl) (by kernel_rfl) (F15_calls h)

/- bulkhead/bulkheadref21.Decode -/
def F16 (a0 : Value) (w : World) (K : Value → World → Prop) : Prop :=
  pCall Try.prog 30 [(.int .u8 3), a0] w fun t11_1 w =>
  pV (extV t11_1 0) fun t12_2 =>
  pV (extV t11_1 1) fun t13_3 =>
  pV (binV .neq t13_3 (.int .i64 0)) fun t15_4 =>
  pIf t15_4
  (K (.tuple #[(.slice none 0 0), t13_3]) w)
  (pV (lenS t12_2) fun t18_5 =>
    pV (binV .geq t18_5 (.int .i64 4)) fun t19_6 =>
    pSC true t19_6 w (fun J1 =>
      pCall Try.prog 31 [t12_2, (.int .i64 0), (.int .i64 4)] w fun t22_7 w =>
      pV (binV .gtr t22_7 (.int .u64 65536)) fun t23_8 =>
      J1 t23_8 w)
    (fun t24_9 w =>
    pIf t24_9
    (K (.tuple #[(.slice none 0 0), (.int .i64 1)]) w)
    (pCall Try.prog 32 [t12_2] w fun t26_10 w =>
      pCall Try.prog 22 [t26_10] w fun t29_11 w =>
      pV (extV t29_11 0) fun t30_12 =>
      pV (extV t29_11 1) fun t31_13 =>
      pV (binV .neq t31_13 (.int .i64 0)) fun t33_14 =>
      pSC false t33_14 w (fun J2 =>
        pCall Try.prog 33 [t30_12, a0] w fun t37_15 w =>
        pV (unV .not t37_15) fun t38_16 =>
        J2 t38_16 w)
      (fun t39_17 w =>
      pIf t39_17
      (K (.tuple #[(.slice none 0 0), (.int .i64 20)]) w)
      (K (.tuple #[t26_10, (.int .i64 0)]) w)))))

def an16 : An := (.seq (.reg [] (.one (.one .nil))) (.seq (.reg [] (.one (.one (.one (.one (.one (.one (.one .nil)))))))) (.seq (.seq (.reg [] (.one (.one .nil))) (.cond (.seq (.reg [] (.one (.one (.one .nil)))) .leaf) .leaf)) (.seq (.seq (.reg [] (.one (.one (.one (.one (.sc true (.one (.one (.one .nil))) .nil)))))) (.cond (.seq (.reg [] (.one (.one .nil))) .leaf) .leaf)) (.seq (.reg [] (.one (.one (.one .nil)))) (.seq (.reg [] (.one (.one (.one (.one (.one (.one (.one .nil)))))))) (.seq (.seq (.reg [] (.one (.one (.one (.sc false (.one (.one (.one (.one .nil)))) .nil))))) (.cond (.seq (.reg [] (.one (.one .nil))) .leaf) .leaf)) (.seq (.reg [] (.one (.one (.one .nil)))) .leaf))))))))

theorem F16_eq : @F16 = fun a0 w K => vcFun Try.prog an16 (Try.f16.body.getD .skip) Try.f16.results.toList 1 [a0] w K := by kernel_rfl

theorem F16_calls {a0 : Value} {w : World} {K : Value → World → Prop} (h : F16 a0 w K) : Calls Try.prog 16 #[a0] w (retK K) := by
  rw [F16_eq] at h
  exact calls_of_vc (f := 16) (fn := Try.f16) (args := [a0]) Try.func16 (by kernel_rfl) (by kernel_rfl) rfl (by kernel_rfl) h

theorem F16_pc {a0 : Value} {w : World} {K : Value → World → Prop} (h : F16 a0 w K) : pCall Try.prog 16 [a0] w K := by
  exact pCall_of (fn := Try.f16) (c := Try.f16.body.getD .skip) Try.func16 (by kernel_rfl) (by kernel_rfl) (F16_calls h)

/- bulkhead/bulkheadlaw21.same -/
def F17 (a0 a1 : Value) (w : World) (K : Value → World → Prop) : Prop :=
  pV (lenS a0) fun t7_1 =>
  pV (lenS a1) fun t9_2 =>
  pV (binV .neq t7_1 t9_2) fun t10_3 =>
  pIf t10_3
  (K (.bool false) w)
  (pLoop [(.int .i64 0)] w fun go1 vs1 w =>  -- slots 5
      pV (lenS a0) fun t13_4 =>
      pV (binV .lss (nth vs1 0) t13_4) fun t14_5 =>
      pIf t14_5
      (pDraw w fun w =>
        pV (idxV 1 a0 (nth vs1 0)) fun t19_6 =>
        pV (ldV false 1 w t19_6) fun t20_7 =>
        pV (idxV 1 a1 (nth vs1 0)) fun t23_8 =>
        pV (ldV false 1 w t23_8) fun t24_9 =>
        pV (binV .neq t20_7 t24_9) fun t25_10 =>
        pIf t25_10
        (K (.bool false) w)
        (pV (binV .add (nth vs1 0) (.int .i64 1)) fun t16_11 =>
          go1 [t16_11] w))
      (K (.bool true) w))

def an17 : An := (.seq (.reg [] (.one .nil)) (.seq (.seq (.reg [] (.one (.one (.one (.one (.one .nil)))))) (.cond (.seq (.reg [] (.one .nil)) .leaf) .leaf)) (.seq (.seq (.reg [] (.one .nil)) (.blk (.loop [5] (.seq (.seq (.reg [] (.one (.one (.one (.one .nil))))) (.cond .leaf .leaf)) (.seq (.blk (.seq (.reg [0, 0, 3, 7, 0, 0, 48, 112, 255] (.one (.one (.one (.one (.one (.one (.one (.one (.one .nil)))))))))) (.cond (.seq (.reg [] (.one .nil)) .leaf) .leaf))) (.reg [] (.one (.one (.one .nil))))))))) (.seq (.reg [] (.one .nil)) .leaf))))

theorem F17_eq : @F17 = fun a0 a1 w K => vcFun Try.prog an17 (Try.f17.body.getD .skip) Try.f17.results.toList 2 [a0, a1] w K := by kernel_rfl

theorem F17_calls {a0 a1 : Value} {w : World} {K : Value → World → Prop} (h : F17 a0 a1 w K) : Calls Try.prog 17 #[a0, a1] w (retK K) := by
  rw [F17_eq] at h
  exact calls_of_vc (f := 17) (fn := Try.f17) (args := [a0, a1]) Try.func17 (by kernel_rfl) (by kernel_rfl) rfl (by kernel_rfl) h

theorem F17_pc {a0 a1 : Value} {w : World} {K : Value → World → Prop} (h : F17 a0 a1 w K) : pCall Try.prog 17 [a0, a1] w K := by
  exact pCall_of (fn := Try.f17) (c := Try.f17.body.getD .skip) Try.func17 (by kernel_rfl) (by kernel_rfl) (F17_calls h)

/- bulkhead/script.own -/
def F18 (a0 : Value) (w : World) (K : Value → World → Prop) : Prop :=
  pE (boxE 42 a0 w) fun t1_1 w =>
  pE (boxE 42 (.agg #[(.int .i64 0), (.int .i64 0), (.int .i64 0), (.slice none 0 0)]) w) fun t2_2 w =>
  pV (fldA 3 t1_1) fun t3_3 =>
  pV (ldV false 1 w t3_3) fun t4_4 =>
  pCall Try.prog 34 [t4_4] w fun t5_5 w =>
  pV (fldA 3 t1_1) fun t6_6 =>
  pU (stE 1 t6_6 t5_5 w) fun w =>
  pV (ldV true 4 w t1_1) fun t7_7 =>
  pU (stE 4 t2_2 t7_7 w) fun w =>
  pV (ldV true 4 w t2_2) fun tr_8 =>
  K tr_8 w

def an18 : An := (.seq (.reg [] (.one (.one .nil))) (.seq (.reg [] (.one (.one (.one (.one (.one .nil)))))) (.seq (.reg [] (.one (.one .nil))) .leaf)))

theorem F18_eq : @F18 = fun a0 w K => vcFun Try.prog an18 (Try.f18.body.getD .skip) Try.f18.results.toList 1 [a0] w K := by kernel_rfl

theorem F18_calls {a0 : Value} {w : World} {K : Value → World → Prop} (h : F18 a0 w K) : Calls Try.prog 18 #[a0] w (retK K) := by
  rw [F18_eq] at h
  exact calls_of_vc (f := 18) (fn := Try.f18) (args := [a0]) Try.func18 (by kernel_rfl) (by kernel_rfl) rfl (by kernel_rfl) h

theorem F18_pc {a0 : Value} {w : World} {K : Value → World → Prop} (h : F18 a0 w K) : pCall Try.prog 18 [a0] w K := by
  exact pCall_of (fn := Try.f18) (c := Try.f18.body.getD .skip) Try.func18 (by kernel_rfl) (by kernel_rfl) (F18_calls h)

/- bulkhead/bulkheadref21.with -/
def F19 (a0 a1 : Value) (w : World) (K : Value → World → Prop) : Prop :=
  pE (boxE 42 a1 w) fun t3_1 w =>
  pV (fldA 3 t3_1) fun t5_2 =>
  pV (ldV false 1 w t5_2) fun t6_3 =>
  pCall Try.prog 35 [t6_3] w fun t7_4 w =>
  pV (fldA 3 t3_1) fun t8_5 =>
  pU (stE 1 t8_5 t7_4 w) fun w =>
  pV (ldV true 4 w t3_1) fun t10_6 =>
  pE (mkE 42 4 [t10_6] w) fun t11_7 w =>
  pE (semE Try.prog (Builtin.append_ #[22, 22] 22 #[a0, t11_7]) w) fun t12_8 w =>
  K t12_8 w

def an19 : An := (.seq (.reg [] (.one (.one .nil))) (.seq (.reg [] (.one (.one (.one (.one (.one .nil)))))) (.seq (.reg [] (.one (.one (.one (.one (.one .nil)))))) .leaf)))

theorem F19_eq : @F19 = fun a0 a1 w K => vcFun Try.prog an19 (Try.f19.body.getD .skip) Try.f19.results.toList 2 [a0, a1] w K := by kernel_rfl

theorem F19_calls {a0 a1 : Value} {w : World} {K : Value → World → Prop} (h : F19 a0 a1 w K) : Calls Try.prog 19 #[a0, a1] w (retK K) := by
  rw [F19_eq] at h
  exact calls_of_vc (f := 19) (fn := Try.f19) (args := [a0, a1]) Try.func19 (by kernel_rfl) (by kernel_rfl) rfl (by kernel_rfl) h

theorem F19_pc {a0 a1 : Value} {w : World} {K : Value → World → Prop} (h : F19 a0 a1 w K) : pCall Try.prog 19 [a0, a1] w K := by
  exact pCall_of (fn := Try.f19) (c := Try.f19.body.getD .skip) Try.func19 (by kernel_rfl) (by kernel_rfl) (F19_calls h)

/- bulkhead/bulkheadref21.SameInput -/
def F20 (a0 a1 : Value) (w : World) (K : Value → World → Prop) : Prop :=
  pE (boxE 42 a0 w) fun t2_1 w =>
  pE (boxE 42 a1 w) fun t3_2 w =>
  pV (fldA 0 t2_1) fun t6_3 =>
  pV (ldV false 1 w t6_3) fun t7_4 =>
  pV (fldA 0 t3_2) fun t8_5 =>
  pV (ldV false 1 w t8_5) fun t9_6 =>
  pV (binV .neq t7_4 t9_6) fun t10_7 =>
  pSC false t10_7 w (fun J1 =>
    pV (fldA 1 t2_1) fun t12_8 =>
    pV (ldV false 1 w t12_8) fun t13_9 =>
    pV (fldA 1 t3_2) fun t14_10 =>
    pV (ldV false 1 w t14_10) fun t15_11 =>
    pV (binV .neq t13_9 t15_11) fun t16_12 =>
    J1 t16_12 w)
  (fun t17_13 w =>
  pSC false t17_13 w (fun J2 =>
    pV (fldA 2 t2_1) fun t19_14 =>
    pV (ldV false 1 w t19_14) fun t20_15 =>
    pV (fldA 2 t3_2) fun t21_16 =>
    pV (ldV false 1 w t21_16) fun t22_17 =>
    pV (binV .neq t20_15 t22_17) fun t23_18 =>
    J2 t23_18 w)
  (fun t24_19 w =>
  pSC false t24_19 w (fun J3 =>
    pV (fldA 3 t2_1) fun t26_20 =>
    pV (ldV false 1 w t26_20) fun t27_21 =>
    pV (lenS t27_21) fun t28_22 =>
    pV (fldA 3 t3_2) fun t29_23 =>
    pV (ldV false 1 w t29_23) fun t30_24 =>
    pV (lenS t30_24) fun t31_25 =>
    pV (binV .neq t28_22 t31_25) fun t32_26 =>
    J3 t32_26 w)
  (fun t33_27 w =>
  pIf t33_27
  (K (.bool false) w)
  (pLoop [(.int .i64 0)] w fun go4 vs4 w =>  -- slots 5
      pV (fldA 3 t2_1) fun t35_28 =>
      pV (ldV false 1 w t35_28) fun t36_29 =>
      pV (lenS t36_29) fun t37_30 =>
      pV (binV .lss (nth vs4 0) t37_30) fun t38_31 =>
      pIf t38_31
      (pDraw w fun w =>
        pV (fldA 3 t2_1) fun t41_32 =>
        pV (ldV false 1 w t41_32) fun t42_33 =>
        pV (idxV 1 t42_33 (nth vs4 0)) fun t44_34 =>
        pV (ldV false 1 w t44_34) fun t45_35 =>
        pV (fldA 3 t3_2) fun t46_36 =>
        pV (ldV false 1 w t46_36) fun t47_37 =>
        pV (idxV 1 t47_37 (nth vs4 0)) fun t49_38 =>
        pV (ldV false 1 w t49_38) fun t50_39 =>
        pV (binV .neq t45_35 t50_39) fun t51_40 =>
        pIf t51_40
        (K (.bool false) w)
        (pV (binV .add (nth vs4 0) (.int .i64 1)) fun t40_41 =>
          go4 [t40_41] w))
      (K (.bool true) w)))))

def an20 : An := (.seq (.reg [] (.one (.one (.one .nil)))) (.seq (.seq (.reg [] (.one (.one (.one (.one (.one (.one (.sc false (.one (.one (.one (.one (.one .nil))))) (.one (.sc false (.one (.one (.one (.one (.one .nil))))) (.one (.sc false (.one (.one (.one (.one (.one (.one (.one .nil))))))) .nil)))))))))))) (.cond (.seq (.reg [] (.one .nil)) .leaf) .leaf)) (.seq (.seq (.reg [] (.one .nil)) (.blk (.loop [5] (.seq (.seq (.reg [] (.one (.one (.one (.one (.one .nil)))))) (.cond .leaf .leaf)) (.seq (.blk (.seq (.reg [0, 1, 0, 7, 15, 0, 32, 0, 224, 480, 1023] (.one (.one (.one (.one (.one (.one (.one (.one (.one (.one (.one .nil)))))))))))) (.cond (.seq (.reg [] (.one .nil)) .leaf) .leaf))) (.reg [] (.one (.one (.one .nil))))))))) (.seq (.reg [] (.one .nil)) .leaf))))

theorem F20_eq : @F20 = fun a0 a1 w K => vcFun Try.prog an20 (Try.f20.body.getD .skip) Try.f20.results.toList 2 [a0, a1] w K := by kernel_rfl

theorem F20_calls {a0 a1 : Value} {w : World} {K : Value → World → Prop} (h : F20 a0 a1 w K) : Calls Try.prog 20 #[a0, a1] w (retK K) := by
  rw [F20_eq] at h
  exact calls_of_vc (f := 20) (fn := Try.f20) (args := [a0, a1]) Try.func20 (by kernel_rfl) (by kernel_rfl) rfl (by kernel_rfl) h

theorem F20_pc {a0 a1 : Value} {w : World} {K : Value → World → Prop} (h : F20 a0 a1 w K) : pCall Try.prog 20 [a0, a1] w K := by
  exact pCall_of (fn := Try.f20) (c := Try.f20.body.getD .skip) Try.func20 (by kernel_rfl) (by kernel_rfl) (F20_calls h)

/- bulkhead/script.Encode -/
def F21 (a0 : Value) (w : World) (K : Value → World → Prop) : Prop :=
  pCall Try.prog 36 [] w fun t7_1 w =>
  pCall Try.prog 37 [t7_1, a0, (.int .i64 65536), (.func (.func 38) #[] #[])] w fun _ w =>
  pCall Try.prog 39 [t7_1] w fun t13_3 w =>
  pV (extV t13_3 0) fun t14_4 =>
  pV (extV t13_3 1) fun t15_5 =>
  pV (binV .neq t15_5 (.int .i64 0)) fun t17_6 =>
  pIf t17_6
  (K (.tuple #[(.slice none 0 0), (.int .i64 1)]) w)
  (pCall Try.prog 40 [(.int .u8 3), t14_4] w fun t19_7 w =>
    pV (extV t19_7 0) fun t20_8 =>
    pV (extV t19_7 1) fun t21_9 =>
    K (.tuple #[t20_8, t21_9]) w)

def an21 : An := (.seq (.reg [] (.one (.one .nil))) (.seq (.reg [] (.one (.one .nil))) (.seq (.reg [] (.one (.one (.one .nil)))) (.seq (.reg [] (.one (.one (.one (.one (.one (.one (.one .nil)))))))) (.seq (.seq (.reg [] (.one (.one .nil))) (.cond (.seq (.reg [] (.one (.one .nil))) .leaf) .leaf)) (.seq (.reg [] (.one (.one (.one (.one (.one (.one .nil))))))) .leaf))))))

theorem F21_eq : @F21 = fun a0 w K => vcFun Try.prog an21 (Try.f21.body.getD .skip) Try.f21.results.toList 1 [a0] w K := by kernel_rfl

theorem F21_calls {a0 : Value} {w : World} {K : Value → World → Prop} (h : F21 a0 w K) : Calls Try.prog 21 #[a0] w (retK K) := by
  rw [F21_eq] at h
  exact calls_of_vc (f := 21) (fn := Try.f21) (args := [a0]) Try.func21 (by kernel_rfl) (by kernel_rfl) rfl (by kernel_rfl) h

theorem F21_pc {a0 : Value} {w : World} {K : Value → World → Prop} (h : F21 a0 w K) : pCall Try.prog 21 [a0] w K := by
  exact pCall_of (fn := Try.f21) (c := Try.f21.body.getD .skip) Try.func21 (by kernel_rfl) (by kernel_rfl) (F21_calls h)

/- bulkhead/bulkheadref21.Encode -/
def F22 (a0 : Value) (w : World) (K : Value → World → Prop) : Prop :=
  pV (lenS a0) fun t7_1 =>
  pV (binV .gtr t7_1 (.int .i64 65536)) fun t8_2 =>
  pIf t8_2
  (K (.tuple #[(.slice none 0 0), (.int .i64 1)]) w)
  (pCall Try.prog 41 [a0] w fun t11_3 w =>
    pV (extV t11_3 0) fun t12_4 =>
    pV (extV t11_3 1) fun t13_5 =>
    pV (unV .not t13_5) fun t15_6 =>
    pIf t15_6
    (K (.tuple #[(.slice none 0 0), (.int .i64 1)]) w)
    (pCall Try.prog 42 [(.int .u8 3), t12_4] w fun t17_7 w =>
      pV (extV t17_7 0) fun t18_8 =>
      pV (extV t17_7 1) fun t19_9 =>
      K (.tuple #[t18_8, t19_9]) w))

def an22 : An := (.seq (.reg [] (.one (.one .nil))) (.seq (.seq (.reg [] (.one (.one (.one .nil)))) (.cond (.seq (.reg [] (.one (.one .nil))) .leaf) .leaf)) (.seq (.reg [] (.one (.one (.one (.one (.one (.one (.one .nil)))))))) (.seq (.seq (.reg [] (.one (.one .nil))) (.cond (.seq (.reg [] (.one (.one .nil))) .leaf) .leaf)) (.seq (.reg [] (.one (.one (.one (.one (.one (.one .nil))))))) .leaf)))))

theorem F22_eq : @F22 = fun a0 w K => vcFun Try.prog an22 (Try.f22.body.getD .skip) Try.f22.results.toList 1 [a0] w K := by kernel_rfl

theorem F22_calls {a0 : Value} {w : World} {K : Value → World → Prop} (h : F22 a0 w K) : Calls Try.prog 22 #[a0] w (retK K) := by
  rw [F22_eq] at h
  exact calls_of_vc (f := 22) (fn := Try.f22) (args := [a0]) Try.func22 (by kernel_rfl) (by kernel_rfl) rfl (by kernel_rfl) h

theorem F22_pc {a0 : Value} {w : World} {K : Value → World → Prop} (h : F22 a0 w K) : pCall Try.prog 22 [a0] w K := by
  exact pCall_of (fn := Try.f22) (c := Try.f22.body.getD .skip) Try.func22 (by kernel_rfl) (by kernel_rfl) (F22_calls h)

/- bulkhead/bulkheadlaw21.over -/
def F23 (a0 : Value) (w : World) (K : Value → World → Prop) : Prop :=
  pLoop [(.int .i64 0)] w fun go1 vs1 w =>  -- slots 3
    pV (lenS a0) fun t7_1 =>
    pV (binV .lss (nth vs1 0) t7_1) fun t8_2 =>
    pIf t8_2
    (pV (idxV 1 a0 (nth vs1 0)) fun t13_3 =>
      pU (stE 1 t13_3 (.int .u8 9) w) fun w =>
      pV (binV .add (nth vs1 0) (.int .i64 1)) fun t10_4 =>
      go1 [t10_4] w)
    (pLoop [a0, (.int .i64 0)] w fun go2 vs2 w =>  -- slots 0 4
        pV (binV .lss (nth vs2 1) (.int .i64 64)) fun t15_5 =>
        pIf t15_5
        (pE (mkE 5 1 [(.int .u8 8)] w) fun t19_6 w =>
          pE (semE Try.prog (Builtin.append_ #[32, 32] 32 #[(nth vs2 0), t19_6]) w) fun t20_7 w =>
          pV (binV .add (nth vs2 1) (.int .i64 1)) fun t17_8 =>
          go2 [t20_7, t17_8] w)
        (pV (lenS (nth vs2 0)) fun t22_9 =>
          K t22_9 w))

def an23 : An := (.seq (.reg [] (.one .nil)) (.seq (.seq (.reg [] (.one .nil)) (.blk (.loop [3] (.seq (.seq (.reg [] (.one (.one (.one (.one .nil))))) (.cond .leaf .leaf)) (.seq (.blk (.reg [] (.one (.one (.one (.one .nil)))))) (.reg [] (.one (.one (.one .nil))))))))) (.seq (.seq (.reg [] (.one .nil)) (.blk (.loop [0, 4] (.seq (.seq (.reg [] (.one (.one .nil))) (.cond .leaf .leaf)) (.seq (.blk (.reg [] (.one (.one (.one (.one .nil)))))) (.reg [] (.one (.one (.one .nil))))))))) (.seq (.reg [] (.one (.one (.one .nil)))) .leaf))))

theorem F23_eq : @F23 = fun a0 w K => vcFun Try.prog an23 (Try.f23.body.getD .skip) Try.f23.results.toList 1 [a0] w K := by kernel_rfl

theorem F23_calls {a0 : Value} {w : World} {K : Value → World → Prop} (h : F23 a0 w K) : Calls Try.prog 23 #[a0] w (retK K) := by
  rw [F23_eq] at h
  exact calls_of_vc (f := 23) (fn := Try.f23) (args := [a0]) Try.func23 (by kernel_rfl) (by kernel_rfl) rfl (by kernel_rfl) h

theorem F23_pc {a0 : Value} {w : World} {K : Value → World → Prop} (h : F23 a0 w K) : pCall Try.prog 23 [a0] w K := by
  exact pCall_of (fn := Try.f23) (c := Try.f23.body.getD .skip) Try.func23 (by kernel_rfl) (by kernel_rfl) (F23_calls h)

/- bulkhead/codec.Unseal -/
def F24 (a0 a1 : Value) (w : World) (K : Value → World → Prop) : Prop :=
  pV (lenS a1) fun t11_1 =>
  pV (binV .gtr t11_1 (.int .i64 4194316)) fun t12_2 =>
  pIf t12_2
  (K (.tuple #[(.slice none 0 0), (.int .i64 1)]) w)
  (pV (lenS a1) fun t15_3 =>
    pV (binV .lss t15_3 (.int .i64 12)) fun t16_4 =>
    pIf t16_4
    (K (.tuple #[(.slice none 0 0), (.int .i64 20)]) w)
    (pV (lenS a1) fun t19_5 =>
      pV (binV .sub t19_5 (.int .i64 4)) fun t20_6 =>
      pV (slV 1 a1 (some (.int .i64 8)) (some t20_6) none) fun t21_7 =>
      pCall Try.prog 40 [a0, t21_7] w fun t25_8 w =>
      pV (extV t25_8 0) fun t26_9 =>
      pV (extV t25_8 1) fun _ =>
      pCall Try.prog 43 [t26_9, a1] w fun t30_11 w =>
      pV (unV .not t30_11) fun t31_12 =>
      pIf t31_12
      (K (.tuple #[(.slice none 0 0), (.int .i64 20)]) w)
      (pCall Try.prog 44 [t21_7] w fun t33_13 w =>
        K (.tuple #[t33_13, (.int .i64 0)]) w)))

def an24 : An := (.seq (.reg [] (.one (.one .nil))) (.seq (.blk (.seq (.reg [] (.one (.one (.one (.one .nil))))) (.cond (.seq (.reg [] (.one (.one .nil))) .leaf) (.seq (.reg [] (.one (.one (.one (.one .nil))))) (.cond (.seq (.reg [] (.one (.one .nil))) .leaf) .leaf))))) (.seq (.reg [] (.one (.one (.one (.one (.one (.one .nil))))))) (.seq (.reg [] (.one (.one (.one (.one (.one (.one (.one (.one .nil))))))))) (.seq (.seq (.reg [] (.one (.one (.one (.one .nil))))) (.cond (.seq (.reg [] (.one (.one .nil))) .leaf) .leaf)) (.seq (.reg [] (.one (.one (.one (.one .nil))))) .leaf))))))

theorem F24_eq : @F24 = fun a0 a1 w K => vcFun Try.prog an24 (Try.f24.body.getD .skip) Try.f24.results.toList 2 [a0, a1] w K := by kernel_rfl

theorem F24_calls {a0 a1 : Value} {w : World} {K : Value → World → Prop} (h : F24 a0 a1 w K) : Calls Try.prog 24 #[a0, a1] w (retK K) := by
  rw [F24_eq] at h
  exact calls_of_vc (f := 24) (fn := Try.f24) (args := [a0, a1]) Try.func24 (by kernel_rfl) (by kernel_rfl) rfl (by kernel_rfl) h

theorem F24_pc {a0 a1 : Value} {w : World} {K : Value → World → Prop} (h : F24 a0 a1 w K) : pCall Try.prog 24 [a0, a1] w K := by
  exact pCall_of (fn := Try.f24) (c := Try.f24.body.getD .skip) Try.func24 (by kernel_rfl) (by kernel_rfl) (F24_calls h)

/- bulkhead/codec.NewReader -/
def F25 (a0 : Value) (w : World) (K : Value → World → Prop) : Prop :=
  pCall Try.prog 44 [a0] w fun t4_1 w =>
  pV (bldV #[(.slice none 0 0), (.int .i64 0)] #[(0, 1), (1, 1)] [(0, t4_1)]) fun t5_2 =>
  pE (boxE 72 t5_2 w) fun t6_3 w =>
  K t6_3 w

def an25 : An := (.seq (.reg [] (.one .nil)) (.seq (.reg [] (.one (.one (.one (.one (.one .nil)))))) .leaf))

theorem F25_eq : @F25 = fun a0 w K => vcFun Try.prog an25 (Try.f25.body.getD .skip) Try.f25.results.toList 1 [a0] w K := by kernel_rfl

theorem F25_calls {a0 : Value} {w : World} {K : Value → World → Prop} (h : F25 a0 w K) : Calls Try.prog 25 #[a0] w (retK K) := by
  rw [F25_eq] at h
  exact calls_of_vc (f := 25) (fn := Try.f25) (args := [a0]) Try.func25 (by kernel_rfl) (by kernel_rfl) rfl (by kernel_rfl) h

theorem F25_pc {a0 : Value} {w : World} {K : Value → World → Prop} (h : F25 a0 w K) : pCall Try.prog 25 [a0] w K := by
  exact pCall_of (fn := Try.f25) (c := Try.f25.body.getD .skip) Try.func25 (by kernel_rfl) (by kernel_rfl) (F25_calls h)

/- (*bulkhead/codec.Reader).U32 -/
def F26 (a0 : Value) (w : World) (K : Value → World → Prop) : Prop :=
  pCall Try.prog 45 [a0, (.int .i64 4)] w fun t4_1 w =>
  pV (convV .i64 t4_1) fun t5_2 =>
  K t5_2 w

def an26 : An := (.seq (.reg [] (.one .nil)) (.seq (.reg [] (.one (.one (.one (.one .nil))))) .leaf))

theorem F26_eq : @F26 = fun a0 w K => vcFun Try.prog an26 (Try.f26.body.getD .skip) Try.f26.results.toList 1 [a0] w K := by kernel_rfl

theorem F26_calls {a0 : Value} {w : World} {K : Value → World → Prop} (h : F26 a0 w K) : Calls Try.prog 26 #[a0] w (retK K) := by
  rw [F26_eq] at h
  exact calls_of_vc (f := 26) (fn := Try.f26) (args := [a0]) Try.func26 (by kernel_rfl) (by kernel_rfl) rfl (by kernel_rfl) h

theorem F26_pc {a0 : Value} {w : World} {K : Value → World → Prop} (h : F26 a0 w K) : pCall Try.prog 26 [a0] w K := by
  exact pCall_of (fn := Try.f26) (c := Try.f26.body.getD .skip) Try.func26 (by kernel_rfl) (by kernel_rfl) (F26_calls h)

/- bulkhead/codec.GetList[bulkhead/api.Input] -/
def F27 (a0 a1 a2 : Value) (w : World) (K : Value → World → Prop) : Prop :=
  pV (nilC a0) fun t11_1 =>
  pV (fldA 1 t11_1) fun t12_2 =>
  pV (ldV false 1 w t12_2) fun t13_3 =>
  pV (binV .neq t13_3 (.int .i64 0)) fun t14_4 =>
  pIf t14_4
  (K (.slice none 0 0) w)
  (pV (nilC a0) fun t16_5 =>
    pV (ldV true 2 w t16_5) fun t17_6 =>
    pE (boxE 72 (.agg #[(.slice none 0 0), (.int .i64 0)]) w) fun t7_7 w =>
    pU (stE 2 t7_7 t17_6 w) fun w =>
    pCall Try.prog 26 [t7_7] w fun t18_8 w =>
    pV (fldA 1 t7_7) fun t20_9 =>
    pV (ldV false 1 w t20_9) fun t21_10 =>
    pV (binV .neq t21_10 (.int .i64 0)) fun t22_11 =>
    pIf t22_11
    (pV (fldA 1 t7_7) fun t24_12 =>
      pV (ldV false 1 w t24_12) fun t25_13 =>
      pV (nilC a0) fun t26_14 =>
      pV (fldA 1 t26_14) fun t27_15 =>
      pU (stE 1 t27_15 t25_13 w) fun w =>
      K (.slice none 0 0) w)
    (pV (binV .gtr t18_8 a1) fun t31_16 =>
      pIf t31_16
      (pV (nilC a0) fun t33_17 =>
        pV (fldA 1 t33_17) fun t34_18 =>
        pU (stE 1 t34_18 (.int .i64 1) w) fun w =>
        K (.slice none 0 0) w)
      (pV (fldA 0 t7_7) fun t37_19 =>
        pV (ldV false 1 w t37_19) fun t38_20 =>
        pV (lenS t38_20) fun t39_21 =>
        pV (binV .gtr t18_8 t39_21) fun t40_22 =>
        pIf t40_22
        (pV (nilC a0) fun t42_23 =>
          pV (fldA 1 t42_23) fun t43_24 =>
          pU (stE 1 t43_24 (.int .i64 20) w) fun w =>
          K (.slice none 0 0) w)
        (pV (ldV true 2 w t7_7) fun t45_25 =>
          pV (nilC a0) fun t46_26 =>
          pU (stE 2 t46_26 t45_25 w) fun w =>
          pLoop [(.slice none 0 0), (.int .i64 0)] w fun go1 vs1 w =>  -- slots 9 48
            pV (binV .lss (nth vs1 1) t18_8) fun t49_27 =>
            pIf t49_27
            (pCallV Try.prog a2 [a0] w fun t53_28 w =>
              pE (mkE 42 4 [t53_28] w) fun t54_29 w =>
              pE (semE Try.prog (Builtin.append_ #[22, 22] 22 #[(nth vs1 0), t54_29]) w) fun t55_30 w =>
              pV (nilC a0) fun t57_31 =>
              pV (fldA 1 t57_31) fun t58_32 =>
              pV (ldV false 1 w t58_32) fun t59_33 =>
              pV (binV .neq t59_33 (.int .i64 0)) fun t60_34 =>
              pIf t60_34
              (K (.slice none 0 0) w)
              (pV (binV .add (nth vs1 1) (.int .i64 1)) fun t61_35 =>
                go1 [t55_30, t61_35] w))
            (pCall Try.prog 46 [(nth vs1 0)] w fun t63_36 w =>
              K t63_36 w)))))

def an27 : An := (.seq (.reg [] (.one .nil)) (.seq (.seq (.reg [] (.one (.one (.one (.one (.one .nil)))))) (.cond (.seq (.reg [] (.one .nil)) .leaf) .leaf)) (.seq (.reg [] (.one (.one (.one (.one (.one .nil)))))) (.seq (.reg [] (.one (.one .nil))) (.seq (.blk (.seq (.reg [] (.one (.one (.one (.one .nil))))) (.cond (.seq (.reg [] (.one (.one (.one (.one (.one (.one .nil))))))) (.seq (.reg [] (.one .nil)) .leaf)) (.seq (.reg [] (.one (.one (.one (.one .nil))))) (.cond (.seq (.reg [] (.one (.one (.one (.one .nil))))) (.seq (.reg [] (.one .nil)) .leaf)) (.seq (.reg [] (.one (.one (.one (.one (.one (.one .nil))))))) (.cond (.seq (.reg [] (.one (.one (.one (.one .nil))))) (.seq (.reg [] (.one .nil)) .leaf)) .leaf))))))) (.seq (.reg [] (.one (.one (.one (.one .nil))))) (.seq (.reg [] (.one .nil)) (.seq (.seq (.reg [] (.one (.one .nil))) (.blk (.loop [9, 48] (.seq (.reg [] (.one .nil)) (.seq (.cond .leaf .leaf) (.seq (.blk (.seq (.reg [] (.one (.one (.one (.one (.one (.one (.one .nil)))))))) (.seq (.reg [] (.one (.one (.one (.one (.one .nil)))))) (.cond (.seq (.reg [] (.one .nil)) .leaf) .leaf)))) (.reg [] (.one (.one .nil))))))))) (.seq (.reg [] (.one (.one (.one .nil)))) .leaf)))))))))

theorem F27_eq : @F27 = fun a0 a1 a2 w K => vcFun Try.prog an27 (Try.f27.body.getD .skip) Try.f27.results.toList 3 [a0, a1, a2] w K := by kernel_rfl

theorem F27_calls {a0 a1 a2 : Value} {w : World} {K : Value → World → Prop} (h : F27 a0 a1 a2 w K) : Calls Try.prog 27 #[a0, a1, a2] w (retK K) := by
  rw [F27_eq] at h
  exact calls_of_vc (f := 27) (fn := Try.f27) (args := [a0, a1, a2]) Try.func27 (by kernel_rfl) (by kernel_rfl) rfl (by kernel_rfl) h

theorem F27_pc {a0 a1 a2 : Value} {w : World} {K : Value → World → Prop} (h : F27 a0 a1 a2 w K) : pCall Try.prog 27 [a0, a1, a2] w K := by
  exact pCall_of (fn := Try.f27) (c := Try.f27.body.getD .skip) Try.func27 (by kernel_rfl) (by kernel_rfl) (F27_calls h)

/- bulkhead/script.get -/
def F28 (a0 : Value) (w : World) (K : Value → World → Prop) : Prop :=
  pE (boxE 42 (.agg #[(.int .i64 0), (.int .i64 0), (.int .i64 0), (.slice none 0 0)]) w) fun t2_1 w =>
  pCall Try.prog 47 [a0] w fun t4_2 w =>
  pCall Try.prog 47 [a0] w fun t6_3 w =>
  pCall Try.prog 47 [a0] w fun t8_4 w =>
  pCall Try.prog 48 [a0, (.int .i64 4194316), (.func (.func 47) #[] #[])] w fun t10_5 w =>
  pV (bldV #[(.int .i64 0), (.int .i64 0), (.int .i64 0), (.slice none 0 0)] #[(0, 1), (1, 1), (2, 1), (3, 1)] [(0, t4_2), (1, t6_3), (2, t8_4), (3, t10_5)]) fun t11_6 =>
  pU (stE 4 t2_1 t11_6 w) fun w =>
  pV (ldV true 4 w t2_1) fun tr_7 =>
  K tr_7 w

def an28 : An := (.seq (.reg [] (.one .nil)) (.seq (.reg [] (.one (.one (.one (.one (.one (.one (.one (.one (.one (.one .nil))))))))))) .leaf))

theorem F28_eq : @F28 = fun a0 w K => vcFun Try.prog an28 (Try.f28.body.getD .skip) Try.f28.results.toList 1 [a0] w K := by kernel_rfl

theorem F28_calls {a0 : Value} {w : World} {K : Value → World → Prop} (h : F28 a0 w K) : Calls Try.prog 28 #[a0] w (retK K) := by
  rw [F28_eq] at h
  exact calls_of_vc (f := 28) (fn := Try.f28) (args := [a0]) Try.func28 (by kernel_rfl) (by kernel_rfl) rfl (by kernel_rfl) h

theorem F28_pc {a0 : Value} {w : World} {K : Value → World → Prop} (h : F28 a0 w K) : pCall Try.prog 28 [a0] w K := by
  exact pCall_of (fn := Try.f28) (c := Try.f28.body.getD .skip) Try.func28 (by kernel_rfl) (by kernel_rfl) (F28_calls h)

/- (*bulkhead/codec.Reader).Done -/
def F29 (a0 : Value) (w : World) (K : Value → World → Prop) : Prop :=
  pV (nilC a0) fun t4_1 =>
  pV (fldA 1 t4_1) fun t5_2 =>
  pV (ldV false 1 w t5_2) fun t6_3 =>
  pV (binV .eql t6_3 (.int .i64 0)) fun t7_4 =>
  pSC true t7_4 w (fun J1 =>
    pV (nilC a0) fun t10_5 =>
    pV (fldA 0 t10_5) fun t11_6 =>
    pV (ldV false 1 w t11_6) fun t12_7 =>
    pV (lenS t12_7) fun t13_8 =>
    pV (binV .gtr t13_8 (.int .i64 0)) fun t14_9 =>
    J1 t14_9 w)
  (fun t15_10 w =>
  pIf t15_10
  (K (.int .i64 20) w)
  (pV (nilC a0) fun t17_11 =>
    pV (fldA 1 t17_11) fun t18_12 =>
    pV (ldV false 1 w t18_12) fun t19_13 =>
    K t19_13 w))

def an29 : An := (.seq (.reg [] (.one .nil)) (.seq (.seq (.reg [] (.one (.one (.one (.one (.one (.one (.sc true (.one (.one (.one (.one (.one (.one .nil)))))) .nil)))))))) (.cond (.seq (.reg [] (.one .nil)) .leaf) .leaf)) (.seq (.reg [] (.one (.one (.one (.one (.one .nil)))))) .leaf)))

theorem F29_eq : @F29 = fun a0 w K => vcFun Try.prog an29 (Try.f29.body.getD .skip) Try.f29.results.toList 1 [a0] w K := by kernel_rfl

theorem F29_calls {a0 : Value} {w : World} {K : Value → World → Prop} (h : F29 a0 w K) : Calls Try.prog 29 #[a0] w (retK K) := by
  rw [F29_eq] at h
  exact calls_of_vc (f := 29) (fn := Try.f29) (args := [a0]) Try.func29 (by kernel_rfl) (by kernel_rfl) rfl (by kernel_rfl) h

theorem F29_pc {a0 : Value} {w : World} {K : Value → World → Prop} (h : F29 a0 w K) : pCall Try.prog 29 [a0] w K := by
  exact pCall_of (fn := Try.f29) (c := Try.f29.body.getD .skip) Try.func29 (by kernel_rfl) (by kernel_rfl) (F29_calls h)

/- bulkhead/bulkheadref02.Unseal -/
def F30 (a0 a1 : Value) (w : World) (K : Value → World → Prop) : Prop :=
  pV (lenS a1) fun t11_1 =>
  pV (binV .gtr t11_1 (.int .i64 4194316)) fun t12_2 =>
  pIf t12_2
  (K (.tuple #[(.slice none 0 0), (.int .i64 1)]) w)
  (pV (lenS a1) fun t14_3 =>
    pV (binV .lss t14_3 (.int .i64 12)) fun t15_4 =>
    pIf t15_4
    (K (.tuple #[(.slice none 0 0), (.int .i64 20)]) w)
    (pV (lenS a1) fun t19_5 =>
      pV (binV .sub t19_5 (.int .i64 4)) fun t20_6 =>
      pV (slV 1 a1 (some (.int .i64 8)) (some t20_6) none) fun t21_7 =>
      pE (semE Try.prog (Builtin.append_ #[32, 32] 32 #[(.slice none 0 0), t21_7]) w) fun t22_8 w =>
      pCall Try.prog 42 [a0, t22_8] w fun t26_9 w =>
      pV (extV t26_9 0) fun t27_10 =>
      pV (extV t26_9 1) fun _ =>
      pLoop [(.int .i64 0)] w fun go1 vs1 w =>  -- slots 9
        pV (lenS a1) fun t31_12 =>
        pV (binV .lss (nth vs1 0) t31_12) fun t32_13 =>
        pIf t32_13
        (pDraw w fun w =>
          pV (idxV 1 t27_10 (nth vs1 0)) fun t37_14 =>
          pV (ldV false 1 w t37_14) fun t38_15 =>
          pV (idxV 1 a1 (nth vs1 0)) fun t41_16 =>
          pV (ldV false 1 w t41_16) fun t42_17 =>
          pV (binV .neq t38_15 t42_17) fun t43_18 =>
          pIf t43_18
          (K (.tuple #[(.slice none 0 0), (.int .i64 20)]) w)
          (pV (binV .add (nth vs1 0) (.int .i64 1)) fun t34_19 =>
            go1 [t34_19] w))
        (K (.tuple #[t22_8, (.int .i64 0)]) w)))

def an30 : An := (.seq (.reg [] (.one (.one .nil))) (.seq (.seq (.reg [] (.one (.one (.one .nil)))) (.cond (.seq (.reg [] (.one (.one .nil))) .leaf) .leaf)) (.seq (.seq (.reg [] (.one (.one (.one .nil)))) (.cond (.seq (.reg [] (.one (.one .nil))) .leaf) .leaf)) (.seq (.reg [] (.one .nil)) (.seq (.reg [] (.one (.one (.one (.one (.one (.one (.one (.one .nil))))))))) (.seq (.reg [] (.one (.one (.one (.one (.one (.one (.one (.one .nil))))))))) (.seq (.seq (.reg [] (.one .nil)) (.blk (.loop [9] (.seq (.seq (.reg [] (.one (.one (.one (.one .nil))))) (.cond .leaf .leaf)) (.seq (.blk (.seq (.reg [0, 0, 3, 7, 0, 0, 48, 112, 255] (.one (.one (.one (.one (.one (.one (.one (.one (.one .nil)))))))))) (.cond (.seq (.reg [] (.one (.one .nil))) .leaf) .leaf))) (.reg [] (.one (.one (.one .nil))))))))) (.seq (.reg [] (.one (.one (.one .nil)))) .leaf))))))))

theorem F30_eq : @F30 = fun a0 a1 w K => vcFun Try.prog an30 (Try.f30.body.getD .skip) Try.f30.results.toList 2 [a0, a1] w K := by kernel_rfl

theorem F30_calls {a0 a1 : Value} {w : World} {K : Value → World → Prop} (h : F30 a0 a1 w K) : Calls Try.prog 30 #[a0, a1] w (retK K) := by
  rw [F30_eq] at h
  exact calls_of_vc (f := 30) (fn := Try.f30) (args := [a0, a1]) Try.func30 (by kernel_rfl) (by kernel_rfl) rfl (by kernel_rfl) h

theorem F30_pc {a0 a1 : Value} {w : World} {K : Value → World → Prop} (h : F30 a0 a1 w K) : pCall Try.prog 30 [a0, a1] w K := by
  exact pCall_of (fn := Try.f30) (c := Try.f30.body.getD .skip) Try.func30 (by kernel_rfl) (by kernel_rfl) (F30_calls h)

/- bulkhead/bulkheadref21.at -/
def F31 (a0 a1 a2 : Value) (w : World) (K : Value → World → Prop) : Prop :=
  pLoop [(.int .u64 0), a1] w fun go1 vs1 w =>  -- slots 7 8
    pV (binV .add a1 a2) fun t13_1 =>
    pV (binV .lss (nth vs1 1) t13_1) fun t14_2 =>
    pIf t14_2
    (pJoin (fun J2 =>
        pV (binV .mul (nth vs1 0) (.int .u64 256)) fun t18_3 =>
        pV (lenS a0) fun t21_4 =>
        pV (binV .lss (nth vs1 1) t21_4) fun t22_5 =>
        pIf t22_5
        (pV (idxV 1 a0 (nth vs1 1)) fun t26_6 =>
          pV (ldV false 1 w t26_6) fun t27_7 =>
          pV (convV .u64 t27_7) fun t28_8 =>
          pV (binV .add t18_3 t28_8) fun t29_9 =>
          J2 [t29_9] w)
        (J2 [t18_3] w))
      (fun vs2 w =>
        pV (binV .add (nth vs1 1) (.int .i64 1)) fun t16_10 =>
        go1 [(nth vs2 0), t16_10] w))
    (K (nth vs1 0) w)

def an31 : An := (.seq (.reg [] (.one .nil)) (.seq (.reg [] (.one .nil)) (.seq (.seq (.reg [] (.one (.one .nil))) (.blk (.loop [7, 8] (.seq (.seq (.reg [] (.one (.one (.one (.one (.one .nil)))))) (.cond .leaf .leaf)) (.seq (.blkJ [7] (.seq (.reg [] (.one (.one (.one .nil)))) (.seq (.reg [] (.one (.one (.one (.one .nil))))) (.cond (.reg [] (.one (.one (.one (.one (.one (.one (.one (.one .nil))))))))) .leaf)))) (.reg [] (.one (.one (.one .nil))))))))) (.seq (.reg [] (.one (.one .nil))) .leaf))))

theorem F31_eq : @F31 = fun a0 a1 a2 w K => vcFun Try.prog an31 (Try.f31.body.getD .skip) Try.f31.results.toList 3 [a0, a1, a2] w K := by kernel_rfl

theorem F31_calls {a0 a1 a2 : Value} {w : World} {K : Value → World → Prop} (h : F31 a0 a1 a2 w K) : Calls Try.prog 31 #[a0, a1, a2] w (retK K) := by
  rw [F31_eq] at h
  exact calls_of_vc (f := 31) (fn := Try.f31) (args := [a0, a1, a2]) Try.func31 (by kernel_rfl) (by kernel_rfl) rfl (by kernel_rfl) h

theorem F31_pc {a0 a1 a2 : Value} {w : World} {K : Value → World → Prop} (h : F31 a0 a1 a2 w K) : pCall Try.prog 31 [a0, a1, a2] w K := by
  exact pCall_of (fn := Try.f31) (c := Try.f31.body.getD .skip) Try.func31 (by kernel_rfl) (by kernel_rfl) (F31_calls h)

/- bulkhead/bulkheadref21.list -/
def F32 (a0 : Value) (w : World) (K : Value → World → Prop) : Prop :=
  pCall Try.prog 31 [a0, (.int .i64 0), (.int .i64 4)] w fun t11_1 w =>
  pLoop [(.slice none 0 0), (.int .i64 4), (.int .u64 0)] w fun go1 vs1 w =>  -- slots 3 4 6
    pV (binV .lss (nth vs1 2) t11_1) fun t14_2 =>
    pSC true t14_2 w (fun J2 =>
      pV (lenS a0) fun t18_3 =>
      pV (binV .lss (nth vs1 1) t18_3) fun t19_4 =>
      J2 t19_4 w)
    (fun t20_5 w =>
    pIf t20_5
    (pCall Try.prog 31 [a0, (nth vs1 1), (.int .i64 8)] w fun t25_6 w =>
      pV (convV .i64 t25_6) fun t26_7 =>
      pV (binV .add (nth vs1 1) (.int .i64 8)) fun t29_8 =>
      pCall Try.prog 31 [a0, t29_8, (.int .i64 8)] w fun t30_9 w =>
      pV (convV .i64 t30_9) fun t31_10 =>
      pV (binV .add (nth vs1 1) (.int .i64 16)) fun t34_11 =>
      pCall Try.prog 31 [a0, t34_11, (.int .i64 8)] w fun t35_12 w =>
      pV (convV .i64 t35_12) fun t36_13 =>
      pV (bldV #[(.int .i64 0), (.int .i64 0), (.int .i64 0), (.slice none 0 0)] #[(0, 1), (1, 1), (2, 1), (3, 1)] [(0, t26_7), (1, t31_10), (2, t36_13)]) fun t37_14 =>
      pE (boxE 42 (.agg #[(.int .i64 0), (.int .i64 0), (.int .i64 0), (.slice none 0 0)]) w) fun t7_15 w =>
      pU (stE 4 t7_15 t37_14 w) fun w =>
      pV (binV .add (nth vs1 1) (.int .i64 24)) fun t40_16 =>
      pCall Try.prog 31 [a0, t40_16, (.int .i64 4)] w fun t41_17 w =>
      pV (binV .add (nth vs1 1) (.int .i64 28)) fun t43_18 =>
      pLoop [t43_18, (.int .u64 0)] w fun go3 vs3 w =>  -- slots 4 9
        pV (binV .lss (nth vs3 1) t41_17) fun t46_19 =>
        pSC true t46_19 w (fun J4 =>
          pV (lenS a0) fun t50_20 =>
          pV (binV .lss (nth vs3 0) t50_20) fun t51_21 =>
          J4 t51_21 w)
        (fun t52_22 w =>
        pIf t52_22
        (pDraw w fun w =>
          pV (fldA 3 t7_15) fun t55_23 =>
          pV (ldV false 1 w t55_23) fun t56_24 =>
          pKept [(false, 1, t55_23)] w (fun J5 =>
            pCall Try.prog 31 [a0, (nth vs3 0), (.int .i64 8)] w fun t59_26 w =>
            J5 t59_26 w)
          (fun t59_25 w =>
          pV (convV .i64 t59_25) fun t60_27 =>
          pKept [(false, 1, t55_23)] w (fun J6 =>
            pE (mkE 2 1 [t60_27] w) fun t61_29 w =>
            J6 t61_29 w)
          (fun t61_28 w =>
          pE (semE Try.prog (Builtin.append_ #[40, 40] 40 #[t56_24, t61_28]) w) fun t62_30 w =>
          pV (fldA 3 t7_15) fun t63_31 =>
          pU (stE 1 t63_31 t62_30 w) fun w =>
          pV (binV .add (nth vs3 0) (.int .i64 8)) fun t65_32 =>
          pV (binV .add (nth vs3 1) (.int .u64 1)) fun t54_33 =>
          go3 [t65_32, t54_33] w)))
        (pV (ldV true 4 w t7_15) fun t67_34 =>
          pE (mkE 42 4 [t67_34] w) fun t68_35 w =>
          pE (semE Try.prog (Builtin.append_ #[22, 22] 22 #[(nth vs1 0), t68_35]) w) fun t69_36 w =>
          pV (binV .add (nth vs1 2) (.int .u64 1)) fun t22_37 =>
          go1 [t69_36, (nth vs3 0), t22_37] w)))
    (K (nth vs1 0) w))

def an32 : An := (.seq (.reg [] (.one .nil)) (.seq (.reg [] (.one .nil)) (.seq (.reg [] (.one .nil)) (.seq (.reg [] (.one (.one (.one .nil)))) (.seq (.seq (.reg [] (.one .nil)) (.blk (.loop [3, 4, 6] (.seq (.seq (.reg [] (.one (.one (.one (.one (.sc true (.one (.one (.one (.one .nil)))) .nil)))))) (.cond .leaf .leaf)) (.seq (.blk (.seq (.reg [] (.one (.one (.one (.one (.one (.one (.one (.one (.one (.one (.one (.one (.one (.one (.one (.one (.one .nil)))))))))))))))))) (.seq (.reg [] (.one (.one (.one (.one (.one .nil)))))) (.seq (.reg [] (.one (.one (.one .nil)))) (.seq (.seq (.reg [] (.one .nil)) (.blk (.loop [4, 9] (.seq (.seq (.reg [] (.one (.one (.one (.one (.sc true (.one (.one (.one (.one .nil)))) .nil)))))) (.cond .leaf .leaf)) (.seq (.blk (.seq (.regp [0, 1, 2, 3, 4, 5, 6, 7, 8, 9] [0, 1, 0, 0, 12, 28, 60, 127, 255, 511] (.one (.one (.one (.one (.onek [1] (.one (.onek [1] (.one (.one (.one .nil))))))))))) (.reg [] (.one (.one (.one .nil)))))) (.reg [] (.one (.one (.one .nil))))))))) (.reg [] (.one (.one (.one (.one (.one .nil))))))))))) (.reg [] (.one (.one (.one .nil))))))))) (.seq (.reg [] (.one (.one .nil))) .leaf))))))

theorem F32_eq : @F32 = fun a0 w K => vcFun Try.prog an32 (Try.f32.body.getD .skip) Try.f32.results.toList 1 [a0] w K := by kernel_rfl

theorem F32_calls {a0 : Value} {w : World} {K : Value → World → Prop} (h : F32 a0 w K) : Calls Try.prog 32 #[a0] w (retK K) := by
  rw [F32_eq] at h
  exact calls_of_vc (f := 32) (fn := Try.f32) (args := [a0]) Try.func32 (by kernel_rfl) (by kernel_rfl) rfl (by kernel_rfl) h

theorem F32_pc {a0 : Value} {w : World} {K : Value → World → Prop} (h : F32 a0 w K) : pCall Try.prog 32 [a0] w K := by
  exact pCall_of (fn := Try.f32) (c := Try.f32.body.getD .skip) Try.func32 (by kernel_rfl) (by kernel_rfl) (F32_calls h)

/- bulkhead/bulkheadref21.same -/
def F33 (a0 a1 : Value) (w : World) (K : Value → World → Prop) : Prop :=
  pV (lenS a0) fun t7_1 =>
  pV (lenS a1) fun t9_2 =>
  pV (binV .neq t7_1 t9_2) fun t10_3 =>
  pIf t10_3
  (K (.bool false) w)
  (pLoop [(.int .i64 0)] w fun go1 vs1 w =>  -- slots 5
      pV (lenS a0) fun t13_4 =>
      pV (binV .lss (nth vs1 0) t13_4) fun t14_5 =>
      pIf t14_5
      (pDraw w fun w =>
        pV (idxV 1 a0 (nth vs1 0)) fun t19_6 =>
        pV (ldV false 1 w t19_6) fun t20_7 =>
        pV (idxV 1 a1 (nth vs1 0)) fun t23_8 =>
        pV (ldV false 1 w t23_8) fun t24_9 =>
        pV (binV .neq t20_7 t24_9) fun t25_10 =>
        pIf t25_10
        (K (.bool false) w)
        (pV (binV .add (nth vs1 0) (.int .i64 1)) fun t16_11 =>
          go1 [t16_11] w))
      (K (.bool true) w))

def an33 : An := (.seq (.reg [] (.one .nil)) (.seq (.seq (.reg [] (.one (.one (.one (.one (.one .nil)))))) (.cond (.seq (.reg [] (.one .nil)) .leaf) .leaf)) (.seq (.seq (.reg [] (.one .nil)) (.blk (.loop [5] (.seq (.seq (.reg [] (.one (.one (.one (.one .nil))))) (.cond .leaf .leaf)) (.seq (.blk (.seq (.reg [0, 0, 3, 7, 0, 0, 48, 112, 255] (.one (.one (.one (.one (.one (.one (.one (.one (.one .nil)))))))))) (.cond (.seq (.reg [] (.one .nil)) .leaf) .leaf))) (.reg [] (.one (.one (.one .nil))))))))) (.seq (.reg [] (.one .nil)) .leaf))))

theorem F33_eq : @F33 = fun a0 a1 w K => vcFun Try.prog an33 (Try.f33.body.getD .skip) Try.f33.results.toList 2 [a0, a1] w K := by kernel_rfl

theorem F33_calls {a0 a1 : Value} {w : World} {K : Value → World → Prop} (h : F33 a0 a1 w K) : Calls Try.prog 33 #[a0, a1] w (retK K) := by
  rw [F33_eq] at h
  exact calls_of_vc (f := 33) (fn := Try.f33) (args := [a0, a1]) Try.func33 (by kernel_rfl) (by kernel_rfl) rfl (by kernel_rfl) h

theorem F33_pc {a0 a1 : Value} {w : World} {K : Value → World → Prop} (h : F33 a0 a1 w K) : pCall Try.prog 33 [a0, a1] w K := by
  exact pCall_of (fn := Try.f33) (c := Try.f33.body.getD .skip) Try.func33 (by kernel_rfl) (by kernel_rfl) (F33_calls h)

/- slices.Clone[[]int64,int64] -/
def F34 (a0 : Value) (w : World) (K : Value → World → Prop) : Prop :=
  pV (nilV .eql (isNilS a0 (.slice none 0 0))) fun t4_1 =>
  pIf t4_1
  (K (.slice none 0 0) w)
  (pE (mkE 2 1 [] w) fun t5_2 w =>
    pE (semE Try.prog (Builtin.append_ #[40, 40] 40 #[t5_2, a0]) w) fun t7_3 w =>
    K t7_3 w)

def an34 : An := (.seq (.reg [] (.one .nil)) (.seq (.seq (.reg [] (.one (.one .nil))) (.cond (.seq (.reg [] (.one .nil)) .leaf) .leaf)) (.seq (.reg [] (.one (.one (.one (.one .nil))))) .leaf)))

theorem F34_eq : @F34 = fun a0 w K => vcFun Try.prog an34 (Try.f34.body.getD .skip) Try.f34.results.toList 1 [a0] w K := by kernel_rfl

theorem F34_calls {a0 : Value} {w : World} {K : Value → World → Prop} (h : F34 a0 w K) : Calls Try.prog 34 #[a0] w (retK K) := by
  rw [F34_eq] at h
  exact calls_of_vc (f := 34) (fn := Try.f34) (args := [a0]) Try.func34 (by kernel_rfl) (by kernel_rfl) rfl (by kernel_rfl) h

theorem F34_pc {a0 : Value} {w : World} {K : Value → World → Prop} (h : F34 a0 w K) : pCall Try.prog 34 [a0] w K := by
  exact pCall_of (fn := Try.f34) (c := Try.f34.body.getD .skip) Try.func34 (by kernel_rfl) (by kernel_rfl) (F34_calls h)

/- bulkhead/bulkheadref21.words -/
def F35 (a0 : Value) (w : World) (K : Value → World → Prop) : Prop :=
  pE (semE Try.prog (Builtin.append_ #[40, 40] 40 #[(.slice none 0 0), a0]) w) fun t6_1 w =>
  K t6_1 w

def an35 : An := (.seq (.reg [] (.one .nil)) (.seq (.reg [] (.one .nil)) (.seq (.reg [] (.one (.one (.one (.one .nil))))) .leaf)))

theorem F35_eq : @F35 = fun a0 w K => vcFun Try.prog an35 (Try.f35.body.getD .skip) Try.f35.results.toList 1 [a0] w K := by kernel_rfl

theorem F35_calls {a0 : Value} {w : World} {K : Value → World → Prop} (h : F35 a0 w K) : Calls Try.prog 35 #[a0] w (retK K) := by
  rw [F35_eq] at h
  exact calls_of_vc (f := 35) (fn := Try.f35) (args := [a0]) Try.func35 (by kernel_rfl) (by kernel_rfl) rfl (by kernel_rfl) h

theorem F35_pc {a0 : Value} {w : World} {K : Value → World → Prop} (h : F35 a0 w K) : pCall Try.prog 35 [a0] w K := by
  exact pCall_of (fn := Try.f35) (c := Try.f35.body.getD .skip) Try.func35 (by kernel_rfl) (by kernel_rfl) (F35_calls h)

/- bulkhead/codec.NewWriter -/
def F36 (w : World) (K : Value → World → Prop) : Prop :=
  pV (bldV #[(.slice none 0 0), (.int .i64 0)] #[(0, 1), (1, 1)] []) fun t1_1 =>
  pE (boxE 79 t1_1 w) fun t2_2 w =>
  K t2_2 w

def an36 : An := (.seq (.reg [] (.one .nil)) (.seq (.reg [] (.one (.one (.one .nil)))) .leaf))

theorem F36_eq : @F36 = fun w K => vcFun Try.prog an36 (Try.f36.body.getD .skip) Try.f36.results.toList 0 [] w K := by kernel_rfl

theorem F36_calls {w : World} {K : Value → World → Prop} (h : F36 w K) : Calls Try.prog 36 #[] w (retK K) := by
  rw [F36_eq] at h
  exact calls_of_vc (f := 36) (fn := Try.f36) (args := []) Try.func36 (by kernel_rfl) (by kernel_rfl) rfl (by kernel_rfl) h

theorem F36_pc {w : World} {K : Value → World → Prop} (h : F36 w K) : pCall Try.prog 36 [] w K := by
  exact pCall_of (fn := Try.f36) (c := Try.f36.body.getD .skip) Try.func36 (by kernel_rfl) (by kernel_rfl) (F36_calls h)

/- bulkhead/codec.PutList[bulkhead/api.Input] -/
def F37 (a0 a1 a2 a3 : Value) (w : World) (K : Value → World → Prop) : Prop :=
  pE (boxE 22 a1 w) fun t5_1 w =>
  pE (boxE 3 a2 w) fun t6_2 w =>
  pCall Try.prog 49 [a0, (.func (.func 50) #[] #[t5_1, t6_2])] w fun _ w =>
  pV (ldV false 1 w t5_1) fun t13_4 =>
  pV (lenS t13_4) fun t14_5 =>
  pLoop [(.int .i64 0)] w fun go1 vs1 w =>  -- slots 15
    pV (binV .lss (nth vs1 0) t14_5) fun t16_6 =>
    pIf t16_6
    (pV (idxV 4 t13_4 (nth vs1 0)) fun t17_7 =>
      pV (ldV true 4 w t17_7) fun t18_8 =>
      pE (boxE 42 (.agg #[(.int .i64 0), (.int .i64 0), (.int .i64 0), (.slice none 0 0)]) w) fun t9_9 w =>
      pU (stE 4 t9_9 t18_8 w) fun w =>
      pV (nilC a0) fun t20_10 =>
      pV (fldA 1 t20_10) fun t21_11 =>
      pV (ldV false 1 w t21_11) fun t22_12 =>
      pV (binV .neq t22_12 (.int .i64 0)) fun t23_13 =>
      pIf t23_13
      (K (.tuple #[]) w)
      (pV (ldV true 4 w t9_9) fun t26_14 =>
        pCallV Try.prog a3 [a0, t26_14] w fun _ w =>
        pV (binV .add (nth vs1 0) (.int .i64 1)) fun t28_16 =>
        go1 [t28_16] w))
    (K (.tuple #[]) w)

def an37 : An := (.seq (.reg [] (.one (.one .nil))) (.seq (.reg [] (.one (.one (.one .nil)))) (.seq (.reg [] (.one (.one (.one .nil)))) (.blk (.loop [15] (.seq (.reg [] (.one .nil)) (.seq (.cond .leaf .leaf) (.seq (.blk (.seq (.reg [] (.one (.one (.one (.one .nil))))) (.seq (.seq (.reg [] (.one (.one (.one (.one (.one .nil)))))) (.cond .leaf .leaf)) (.reg [] (.one (.one (.one (.one .nil)))))))) (.reg [] (.one (.one .nil)))))))))))

theorem F37_eq : @F37 = fun a0 a1 a2 a3 w K => vcFun Try.prog an37 (Try.f37.body.getD .skip) Try.f37.results.toList 4 [a0, a1, a2, a3] w K := by kernel_rfl

theorem F37_calls {a0 a1 a2 a3 : Value} {w : World} {K : Value → World → Prop} (h : F37 a0 a1 a2 a3 w K) : Calls Try.prog 37 #[a0, a1, a2, a3] w (retK K) := by
  rw [F37_eq] at h
  exact calls_of_vc (f := 37) (fn := Try.f37) (args := [a0, a1, a2, a3]) Try.func37 (by kernel_rfl) (by kernel_rfl) rfl (by kernel_rfl) h

theorem F37_pc {a0 a1 a2 a3 : Value} {w : World} {K : Value → World → Prop} (h : F37 a0 a1 a2 a3 w K) : pCall Try.prog 37 [a0, a1, a2, a3] w K := by
  exact pCall_of (fn := Try.f37) (c := Try.f37.body.getD .skip) Try.func37 (by kernel_rfl) (by kernel_rfl) (F37_calls h)

/- bulkhead/script.put -/
def F38 (a0 a1 : Value) (w : World) (K : Value → World → Prop) : Prop :=
  pE (boxE 42 a1 w) fun t3_1 w =>
  pV (fldA 0 t3_1) fun t5_2 =>
  pV (ldV false 1 w t5_2) fun t6_3 =>
  pCall Try.prog 52 [a0, t6_3] w fun _ w =>
  pV (fldA 1 t3_1) fun t9_5 =>
  pV (ldV false 1 w t9_5) fun t10_6 =>
  pCall Try.prog 52 [a0, t10_6] w fun _ w =>
  pV (fldA 2 t3_1) fun t13_8 =>
  pV (ldV false 1 w t13_8) fun t14_9 =>
  pCall Try.prog 52 [a0, t14_9] w fun _ w =>
  pV (fldA 3 t3_1) fun t17_11 =>
  pV (ldV false 1 w t17_11) fun t18_12 =>
  pCall Try.prog 53 [a0, t18_12, (.int .i64 4194316), (.func (.func 52) #[] #[])] w fun _ w =>
  K (.tuple #[]) w

def an38 : An := (.seq (.reg [] (.one .nil)) (.seq (.reg [] (.one (.one (.one (.one .nil))))) (.seq (.reg [] (.one (.one (.one (.one .nil))))) (.seq (.reg [] (.one (.one (.one (.one .nil))))) (.reg [] (.one (.one (.one (.one .nil)))))))))

theorem F38_eq : @F38 = fun a0 a1 w K => vcFun Try.prog an38 (Try.f38.body.getD .skip) Try.f38.results.toList 2 [a0, a1] w K := by kernel_rfl

theorem F38_calls {a0 a1 : Value} {w : World} {K : Value → World → Prop} (h : F38 a0 a1 w K) : Calls Try.prog 38 #[a0, a1] w (retK K) := by
  rw [F38_eq] at h
  exact calls_of_vc (f := 38) (fn := Try.f38) (args := [a0, a1]) Try.func38 (by kernel_rfl) (by kernel_rfl) rfl (by kernel_rfl) h

theorem F38_pc {a0 a1 : Value} {w : World} {K : Value → World → Prop} (h : F38 a0 a1 w K) : pCall Try.prog 38 [a0, a1] w K := by
  exact pCall_of (fn := Try.f38) (c := Try.f38.body.getD .skip) Try.func38 (by kernel_rfl) (by kernel_rfl) (F38_calls h)

/- (*bulkhead/codec.Writer).Done -/
def F39 (a0 : Value) (w : World) (K : Value → World → Prop) : Prop :=
  pV (nilC a0) fun t5_1 =>
  pV (fldA 1 t5_1) fun t6_2 =>
  pV (ldV false 1 w t6_2) fun t7_3 =>
  pV (binV .neq t7_3 (.int .i64 0)) fun t8_4 =>
  pIf t8_4
  (pDraw w fun w =>
    pV (nilC a0) fun t10_5 =>
    pV (fldA 1 t10_5) fun t11_6 =>
    pV (ldV false 1 w t11_6) fun t12_7 =>
    K (.tuple #[(.slice none 0 0), t12_7]) w)
  (pV (nilC a0) fun t14_8 =>
    pV (fldA 0 t14_8) fun t15_9 =>
    pV (ldV false 1 w t15_9) fun t16_10 =>
    pCall Try.prog 44 [t16_10] w fun t17_11 w =>
    K (.tuple #[t17_11, (.int .i64 0)]) w)

def an39 : An := (.seq (.reg [] (.one (.one .nil))) (.seq (.seq (.reg [] (.one (.one (.one (.one (.one .nil)))))) (.cond (.seq (.reg [0, 1, 3, 7, 0, 31, 1, 2, 3, 4, 0, 5] (.one (.one (.one (.one (.one (.one .nil))))))) .leaf) .leaf)) (.seq (.reg [] (.one (.one (.one (.one (.one (.one (.one .nil)))))))) .leaf)))

theorem F39_eq : @F39 = fun a0 w K => vcFun Try.prog an39 (Try.f39.body.getD .skip) Try.f39.results.toList 1 [a0] w K := by kernel_rfl

theorem F39_calls {a0 : Value} {w : World} {K : Value → World → Prop} (h : F39 a0 w K) : Calls Try.prog 39 #[a0] w (retK K) := by
  rw [F39_eq] at h
  exact calls_of_vc (f := 39) (fn := Try.f39) (args := [a0]) Try.func39 (by kernel_rfl) (by kernel_rfl) rfl (by kernel_rfl) h

theorem F39_pc {a0 : Value} {w : World} {K : Value → World → Prop} (h : F39 a0 w K) : pCall Try.prog 39 [a0] w K := by
  exact pCall_of (fn := Try.f39) (c := Try.f39.body.getD .skip) Try.func39 (by kernel_rfl) (by kernel_rfl) (F39_calls h)

/- bulkhead/codec.Seal -/
def F40 (a0 a1 : Value) (w : World) (K : Value → World → Prop) : Prop :=
  pV (lenS a1) fun t9_1 =>
  pV (binV .gtr t9_1 (.int .i64 4194304)) fun t10_2 =>
  pIf t10_2
  (K (.tuple #[(.slice none 0 0), (.int .i64 1)]) w)
  (pE (mkE 5 1 [(.int .u8 66), (.int .u8 75), a0, (.int .u8 1)] w) fun t12_3 w =>
    pV (lenS a1) fun t14_4 =>
    pV (convV .u64 t14_4) fun t15_5 =>
    pCall Try.prog 51 [t15_5, (.int .i64 4)] w fun t16_6 w =>
    pE (semE Try.prog (Builtin.append_ #[32, 32] 32 #[t12_3, t16_6]) w) fun t17_7 w =>
    pE (semE Try.prog (Builtin.append_ #[32, 32] 32 #[t17_7, a1]) w) fun t20_8 w =>
    pCall Try.prog 54 [t20_8] w fun t22_9 w =>
    pV (convV .u8 t22_9) fun t25_10 =>
    pV (binV .shr t22_9 (.int .u64 8)) fun t27_11 =>
    pV (convV .u8 t27_11) fun t28_12 =>
    pV (binV .shr t22_9 (.int .u64 16)) fun t30_13 =>
    pV (convV .u8 t30_13) fun t31_14 =>
    pV (binV .shr t22_9 (.int .u64 24)) fun t33_15 =>
    pV (convV .u8 t33_15) fun t34_16 =>
    pE (mkE 5 1 [t25_10, t28_12, t31_14, t34_16] w) fun t35_17 w =>
    pE (semE Try.prog (Builtin.append_ #[32, 32] 32 #[t20_8, t35_17]) w) fun t36_18 w =>
    K (.tuple #[t36_18, (.int .i64 0)]) w)

def an40 : An := (.seq (.reg [] (.one (.one .nil))) (.seq (.seq (.reg [] (.one (.one (.one .nil)))) (.cond (.seq (.reg [] (.one (.one .nil))) .leaf) .leaf)) (.seq (.reg [] (.one (.one (.one (.one (.one (.one (.one (.one .nil))))))))) (.seq (.reg [] (.one (.one (.one (.one .nil))))) (.seq (.reg [] (.one (.one (.one .nil)))) (.seq (.reg [] (.one (.one (.one (.one (.one (.one (.one (.one (.one (.one (.one (.one (.one (.one (.one (.one .nil))))))))))))))))) .leaf))))))

theorem F40_eq : @F40 = fun a0 a1 w K => vcFun Try.prog an40 (Try.f40.body.getD .skip) Try.f40.results.toList 2 [a0, a1] w K := by kernel_rfl

theorem F40_calls {a0 a1 : Value} {w : World} {K : Value → World → Prop} (h : F40 a0 a1 w K) : Calls Try.prog 40 #[a0, a1] w (retK K) := by
  rw [F40_eq] at h
  exact calls_of_vc (f := 40) (fn := Try.f40) (args := [a0, a1]) Try.func40 (by kernel_rfl) (by kernel_rfl) rfl (by kernel_rfl) h

theorem F40_pc {a0 a1 : Value} {w : World} {K : Value → World → Prop} (h : F40 a0 a1 w K) : pCall Try.prog 40 [a0, a1] w K := by
  exact pCall_of (fn := Try.f40) (c := Try.f40.body.getD .skip) Try.func40 (by kernel_rfl) (by kernel_rfl) (F40_calls h)

/- bulkhead/bulkheadref21.body -/
def F41 (a0 : Value) (w : World) (K : Value → World → Prop) : Prop :=
  pV (lenS a0) fun t9_1 =>
  pV (convV .u64 t9_1) fun t10_2 =>
  pCall Try.prog 55 [t10_2, (.int .i64 4)] w fun t11_3 w =>
  pLoop [t11_3, (.int .i64 0)] w fun go1 vs1 w =>  -- slots 4 5
    pV (lenS a0) fun t14_4 =>
    pV (binV .lss (nth vs1 1) t14_4) fun t15_5 =>
    pIf t15_5
    (pV (idxV 4 a0 (nth vs1 1)) fun t20_6 =>
      pV (ldV true 4 w t20_6) fun t21_7 =>
      pE (boxE 42 (.agg #[(.int .i64 0), (.int .i64 0), (.int .i64 0), (.slice none 0 0)]) w) fun t6_8 w =>
      pU (stE 4 t6_8 t21_7 w) fun w =>
      pV (lenS (nth vs1 0)) fun t23_9 =>
      pV (binV .add t23_9 (.int .i64 28)) fun t24_10 =>
      pV (fldA 3 t6_8) fun t25_11 =>
      pV (ldV false 1 w t25_11) fun t26_12 =>
      pV (lenS t26_12) fun t27_13 =>
      pV (binV .mul (.int .i64 8) t27_13) fun t28_14 =>
      pV (binV .add t24_10 t28_14) fun t29_15 =>
      pV (binV .gtr t29_15 (.int .i64 4194304)) fun t30_16 =>
      pIf t30_16
      (K (.tuple #[(.slice none 0 0), (.bool false)]) w)
      (pV (fldA 0 t6_8) fun t32_17 =>
        pV (ldV false 1 w t32_17) fun t33_18 =>
        pCall Try.prog 56 [t33_18] w fun t34_19 w =>
        pE (semE Try.prog (Builtin.append_ #[32, 32] 32 #[(nth vs1 0), t34_19]) w) fun t35_20 w =>
        pV (fldA 1 t6_8) fun t37_21 =>
        pV (ldV false 1 w t37_21) fun t38_22 =>
        pCall Try.prog 56 [t38_22] w fun t39_23 w =>
        pE (semE Try.prog (Builtin.append_ #[32, 32] 32 #[t35_20, t39_23]) w) fun t40_24 w =>
        pV (fldA 2 t6_8) fun t42_25 =>
        pV (ldV false 1 w t42_25) fun t43_26 =>
        pCall Try.prog 56 [t43_26] w fun t44_27 w =>
        pE (semE Try.prog (Builtin.append_ #[32, 32] 32 #[t40_24, t44_27]) w) fun t45_28 w =>
        pV (fldA 3 t6_8) fun t47_29 =>
        pV (ldV false 1 w t47_29) fun t48_30 =>
        pV (lenS t48_30) fun t49_31 =>
        pV (convV .u64 t49_31) fun t50_32 =>
        pCall Try.prog 55 [t50_32, (.int .i64 4)] w fun t51_33 w =>
        pE (semE Try.prog (Builtin.append_ #[32, 32] 32 #[t45_28, t51_33]) w) fun t52_34 w =>
        pLoop [t52_34, (.int .i64 0)] w fun go2 vs2 w =>  -- slots 4 7
          pV (fldA 3 t6_8) fun t54_35 =>
          pV (ldV false 1 w t54_35) fun t55_36 =>
          pV (lenS t55_36) fun t56_37 =>
          pV (binV .lss (nth vs2 1) t56_37) fun t57_38 =>
          pIf t57_38
          (pV (fldA 3 t6_8) fun t61_39 =>
            pV (ldV false 1 w t61_39) fun t62_40 =>
            pV (idxV 1 t62_40 (nth vs2 1)) fun t64_41 =>
            pV (ldV false 1 w t64_41) fun t65_42 =>
            pCall Try.prog 56 [t65_42] w fun t66_43 w =>
            pE (semE Try.prog (Builtin.append_ #[32, 32] 32 #[(nth vs2 0), t66_43]) w) fun t67_44 w =>
            pV (binV .add (nth vs2 1) (.int .i64 1)) fun t59_45 =>
            go2 [t67_44, t59_45] w)
          (pV (binV .add (nth vs1 1) (.int .i64 1)) fun t17_46 =>
            go1 [(nth vs2 0), t17_46] w)))
    (K (.tuple #[(nth vs1 0), (.bool true)]) w)

def an41 : An := (.seq (.reg [] (.one (.one .nil))) (.seq (.reg [] (.one (.one (.one (.one (.one .nil)))))) (.seq (.seq (.reg [] (.one .nil)) (.blk (.loop [4, 5] (.seq (.seq (.reg [] (.one (.one (.one (.one .nil))))) (.cond .leaf .leaf)) (.seq (.blk (.seq (.reg [] (.one (.one (.one (.one (.one (.one .nil))))))) (.seq (.seq (.reg [] (.one (.one (.one (.one (.one (.one (.one (.one (.one .nil)))))))))) (.cond (.seq (.reg [] (.one (.one .nil))) .leaf) .leaf)) (.seq (.reg [] (.one (.one (.one (.one (.one (.one .nil))))))) (.seq (.reg [] (.one (.one (.one (.one (.one (.one .nil))))))) (.seq (.reg [] (.one (.one (.one (.one (.one (.one .nil))))))) (.seq (.reg [] (.one (.one (.one (.one (.one (.one (.one (.one .nil))))))))) (.seq (.reg [] (.one .nil)) (.blk (.loop [4, 7] (.seq (.seq (.reg [] (.one (.one (.one (.one (.one .nil)))))) (.cond .leaf .leaf)) (.seq (.blk (.reg [] (.one (.one (.one (.one (.one (.one (.one (.one (.one .nil))))))))))) (.reg [] (.one (.one (.one .nil)))))))))))))))) (.reg [] (.one (.one (.one .nil))))))))) (.seq (.reg [] (.one (.one (.one .nil)))) .leaf))))

theorem F41_eq : @F41 = fun a0 w K => vcFun Try.prog an41 (Try.f41.body.getD .skip) Try.f41.results.toList 1 [a0] w K := by kernel_rfl

theorem F41_calls {a0 : Value} {w : World} {K : Value → World → Prop} (h : F41 a0 w K) : Calls Try.prog 41 #[a0] w (retK K) := by
  rw [F41_eq] at h
  exact calls_of_vc (f := 41) (fn := Try.f41) (args := [a0]) Try.func41 (by kernel_rfl) (by kernel_rfl) rfl (by kernel_rfl) h

theorem F41_pc {a0 : Value} {w : World} {K : Value → World → Prop} (h : F41 a0 w K) : pCall Try.prog 41 [a0] w K := by
  exact pCall_of (fn := Try.f41) (c := Try.f41.body.getD .skip) Try.func41 (by kernel_rfl) (by kernel_rfl) (F41_calls h)

/- bulkhead/bulkheadref02.Seal -/
def F42 (a0 a1 : Value) (w : World) (K : Value → World → Prop) : Prop :=
  pV (lenS a1) fun t10_1 =>
  pV (binV .gtr t10_1 (.int .i64 4194304)) fun t11_2 =>
  pIf t11_2
  (K (.tuple #[(.slice none 0 0), (.int .i64 1)]) w)
  (pE (mkE 5 1 [(.int .u8 66), (.int .u8 75), a0, (.int .u8 1)] w) fun t13_3 w =>
    pV (lenS a1) fun t16_4 =>
    pV (convV .u64 t16_4) fun t17_5 =>
    pCall Try.prog 55 [t17_5, (.int .i64 4)] w fun t18_6 w =>
    pE (semE Try.prog (Builtin.append_ #[32, 32] 32 #[t13_3, t18_6]) w) fun t19_7 w =>
    pE (semE Try.prog (Builtin.append_ #[32, 32] 32 #[t19_7, a1]) w) fun t22_8 w =>
    pCall Try.prog 57 [t22_8] w fun t24_9 w =>
    pLoop [t22_8, (.int .i64 0)] w fun go1 vs1 w =>  -- slots 6 8
      pV (binV .lss (nth vs1 1) (.int .i64 4)) fun t26_10 =>
      pIf t26_10
      (pV (binV .mul (.int .i64 8) (nth vs1 1)) fun t32_11 =>
        pV (binV .shr t24_9 t32_11) fun t33_12 =>
        pV (convV .u8 t33_12) fun t34_13 =>
        pE (mkE 5 1 [t34_13] w) fun t35_14 w =>
        pE (semE Try.prog (Builtin.append_ #[32, 32] 32 #[(nth vs1 0), t35_14]) w) fun t36_15 w =>
        pV (binV .add (nth vs1 1) (.int .i64 1)) fun t28_16 =>
        go1 [t36_15, t28_16] w)
      (K (.tuple #[(nth vs1 0), (.int .i64 0)]) w))

def an42 : An := (.seq (.reg [] (.one (.one .nil))) (.seq (.seq (.reg [] (.one (.one (.one .nil)))) (.cond (.seq (.reg [] (.one (.one .nil))) .leaf) .leaf)) (.seq (.reg [] (.one (.one (.one .nil)))) (.seq (.reg [] (.one (.one (.one (.one (.one (.one (.one .nil)))))))) (.seq (.reg [] (.one (.one (.one (.one .nil))))) (.seq (.reg [] (.one (.one (.one .nil)))) (.seq (.seq (.reg [] (.one .nil)) (.blk (.loop [6, 8] (.seq (.seq (.reg [] (.one (.one .nil))) (.cond .leaf .leaf)) (.seq (.blk (.reg [] (.one (.one (.one (.one (.one (.one (.one (.one (.one .nil))))))))))) (.reg [] (.one (.one (.one .nil))))))))) (.seq (.reg [] (.one (.one (.one .nil)))) .leaf))))))))

theorem F42_eq : @F42 = fun a0 a1 w K => vcFun Try.prog an42 (Try.f42.body.getD .skip) Try.f42.results.toList 2 [a0, a1] w K := by kernel_rfl

theorem F42_calls {a0 a1 : Value} {w : World} {K : Value → World → Prop} (h : F42 a0 a1 w K) : Calls Try.prog 42 #[a0, a1] w (retK K) := by
  rw [F42_eq] at h
  exact calls_of_vc (f := 42) (fn := Try.f42) (args := [a0, a1]) Try.func42 (by kernel_rfl) (by kernel_rfl) rfl (by kernel_rfl) h

theorem F42_pc {a0 a1 : Value} {w : World} {K : Value → World → Prop} (h : F42 a0 a1 w K) : pCall Try.prog 42 [a0, a1] w K := by
  exact pCall_of (fn := Try.f42) (c := Try.f42.body.getD .skip) Try.func42 (by kernel_rfl) (by kernel_rfl) (F42_calls h)

/- bytes.Equal -/
def F43 (a0 a1 : Value) (w : World) (K : Value → World → Prop) : Prop :=
  pE (semE Try.prog (convert 32 9 a0) w) fun t6_1 w =>
  pE (semE Try.prog (convert 32 9 a1) w) fun t8_2 w =>
  pV (binV .eql t6_1 t8_2) fun t9_3 =>
  K t9_3 w

def an43 : An := (.seq (.reg [] (.one .nil)) (.seq (.reg [] (.one (.one (.one (.one (.one (.one .nil))))))) .leaf))

theorem F43_eq : @F43 = fun a0 a1 w K => vcFun Try.prog an43 (Try.f43.body.getD .skip) Try.f43.results.toList 2 [a0, a1] w K := by kernel_rfl

theorem F43_calls {a0 a1 : Value} {w : World} {K : Value → World → Prop} (h : F43 a0 a1 w K) : Calls Try.prog 43 #[a0, a1] w (retK K) := by
  rw [F43_eq] at h
  exact calls_of_vc (f := 43) (fn := Try.f43) (args := [a0, a1]) Try.func43 (by kernel_rfl) (by kernel_rfl) rfl (by kernel_rfl) h

theorem F43_pc {a0 a1 : Value} {w : World} {K : Value → World → Prop} (h : F43 a0 a1 w K) : pCall Try.prog 43 [a0, a1] w K := by
  exact pCall_of (fn := Try.f43) (c := Try.f43.body.getD .skip) Try.func43 (by kernel_rfl) (by kernel_rfl) (F43_calls h)

/- bytes.Clone -/
def F44 (a0 : Value) (w : World) (K : Value → World → Prop) : Prop :=
  pV (nilV .eql (isNilS a0 (.slice none 0 0))) fun t4_1 =>
  pIf t4_1
  (K (.slice none 0 0) w)
  (pE (mkE 5 1 [] w) fun t5_2 w =>
    pE (semE Try.prog (Builtin.append_ #[32, 32] 32 #[t5_2, a0]) w) fun t7_3 w =>
    K t7_3 w)

def an44 : An := (.seq (.reg [] (.one .nil)) (.seq (.seq (.reg [] (.one (.one .nil))) (.cond (.seq (.reg [] (.one .nil)) .leaf) .leaf)) (.seq (.reg [] (.one (.one (.one (.one .nil))))) .leaf)))

theorem F44_eq : @F44 = fun a0 w K => vcFun Try.prog an44 (Try.f44.body.getD .skip) Try.f44.results.toList 1 [a0] w K := by kernel_rfl

theorem F44_calls {a0 : Value} {w : World} {K : Value → World → Prop} (h : F44 a0 w K) : Calls Try.prog 44 #[a0] w (retK K) := by
  rw [F44_eq] at h
  exact calls_of_vc (f := 44) (fn := Try.f44) (args := [a0]) Try.func44 (by kernel_rfl) (by kernel_rfl) rfl (by kernel_rfl) h

theorem F44_pc {a0 : Value} {w : World} {K : Value → World → Prop} (h : F44 a0 w K) : pCall Try.prog 44 [a0] w K := by
  exact pCall_of (fn := Try.f44) (c := Try.f44.body.getD .skip) Try.func44 (by kernel_rfl) (by kernel_rfl) (F44_calls h)

/- (*bulkhead/codec.Reader).number -/
def F45 (a0 a1 : Value) (w : World) (K : Value → World → Prop) : Prop :=
  pCall Try.prog 58 [a0, a1] w fun t10_1 w =>
  pV (lenS t10_1) fun t11_2 =>
  pLoop [(.int .u64 0), (.int .i64 0)] w fun go1 vs1 w =>  -- slots 5 12
    pV (binV .lss (nth vs1 1) t11_2) fun t13_3 =>
    pIf t13_3
    (pV (idxV 1 t10_1 (nth vs1 1)) fun t14_4 =>
      pV (ldV false 1 w t14_4) fun t15_5 =>
      pV (binV .shl (nth vs1 0) (.int .u64 8)) fun t17_6 =>
      pV (convV .u64 t15_5) fun t19_7 =>
      pV (binV .or t17_6 t19_7) fun t20_8 =>
      pV (binV .add (nth vs1 1) (.int .i64 1)) fun t21_9 =>
      go1 [t20_8, t21_9] w)
    (K (nth vs1 0) w)

def an45 : An := (.seq (.reg [] (.one .nil)) (.seq (.reg [] (.one .nil)) (.seq (.seq (.reg [] (.one (.one (.one (.one (.one .nil)))))) (.blk (.loop [5, 12] (.seq (.reg [] (.one .nil)) (.seq (.cond .leaf .leaf) (.seq (.blk (.seq (.reg [] (.one (.one (.one .nil)))) (.reg [] (.one (.one (.one (.one (.one (.one .nil))))))))) (.reg [] (.one (.one .nil))))))))) (.seq (.reg [] (.one (.one .nil))) .leaf))))

theorem F45_eq : @F45 = fun a0 a1 w K => vcFun Try.prog an45 (Try.f45.body.getD .skip) Try.f45.results.toList 2 [a0, a1] w K := by kernel_rfl

theorem F45_calls {a0 a1 : Value} {w : World} {K : Value → World → Prop} (h : F45 a0 a1 w K) : Calls Try.prog 45 #[a0, a1] w (retK K) := by
  rw [F45_eq] at h
  exact calls_of_vc (f := 45) (fn := Try.f45) (args := [a0, a1]) Try.func45 (by kernel_rfl) (by kernel_rfl) rfl (by kernel_rfl) h

theorem F45_pc {a0 a1 : Value} {w : World} {K : Value → World → Prop} (h : F45 a0 a1 w K) : pCall Try.prog 45 [a0, a1] w K := by
  exact pCall_of (fn := Try.f45) (c := Try.f45.body.getD .skip) Try.func45 (by kernel_rfl) (by kernel_rfl) (F45_calls h)

/- slices.Clip[[]bulkhead/api.Input,bulkhead/api.Input] -/
def F46 (a0 : Value) (w : World) (K : Value → World → Prop) : Prop :=
  pV (lenS a0) fun t5_1 =>
  pV (lenS a0) fun t7_2 =>
  pV (slV 4 a0 none (some t5_1) (some t7_2)) fun t8_3 =>
  K t8_3 w

def an46 : An := (.seq (.reg [] (.one .nil)) (.seq (.reg [] (.one (.one (.one (.one (.one (.one (.one .nil)))))))) .leaf))

theorem F46_eq : @F46 = fun a0 w K => vcFun Try.prog an46 (Try.f46.body.getD .skip) Try.f46.results.toList 1 [a0] w K := by kernel_rfl

theorem F46_calls {a0 : Value} {w : World} {K : Value → World → Prop} (h : F46 a0 w K) : Calls Try.prog 46 #[a0] w (retK K) := by
  rw [F46_eq] at h
  exact calls_of_vc (f := 46) (fn := Try.f46) (args := [a0]) Try.func46 (by kernel_rfl) (by kernel_rfl) rfl (by kernel_rfl) h

theorem F46_pc {a0 : Value} {w : World} {K : Value → World → Prop} (h : F46 a0 w K) : pCall Try.prog 46 [a0] w K := by
  exact pCall_of (fn := Try.f46) (c := Try.f46.body.getD .skip) Try.func46 (by kernel_rfl) (by kernel_rfl) (F46_calls h)

/- (*bulkhead/codec.Reader).I64 -/
def F47 (a0 : Value) (w : World) (K : Value → World → Prop) : Prop :=
  pCall Try.prog 45 [a0, (.int .i64 8)] w fun t4_1 w =>
  pV (convV .i64 t4_1) fun t5_2 =>
  K t5_2 w

def an47 : An := (.seq (.reg [] (.one .nil)) (.seq (.reg [] (.one (.one (.one (.one .nil))))) .leaf))

theorem F47_eq : @F47 = fun a0 w K => vcFun Try.prog an47 (Try.f47.body.getD .skip) Try.f47.results.toList 1 [a0] w K := by kernel_rfl

theorem F47_calls {a0 : Value} {w : World} {K : Value → World → Prop} (h : F47 a0 w K) : Calls Try.prog 47 #[a0] w (retK K) := by
  rw [F47_eq] at h
  exact calls_of_vc (f := 47) (fn := Try.f47) (args := [a0]) Try.func47 (by kernel_rfl) (by kernel_rfl) rfl (by kernel_rfl) h

theorem F47_pc {a0 : Value} {w : World} {K : Value → World → Prop} (h : F47 a0 w K) : pCall Try.prog 47 [a0] w K := by
  exact pCall_of (fn := Try.f47) (c := Try.f47.body.getD .skip) Try.func47 (by kernel_rfl) (by kernel_rfl) (F47_calls h)

/- bulkhead/codec.GetList[int64] -/
def F48 (a0 a1 a2 : Value) (w : World) (K : Value → World → Prop) : Prop :=
  pV (nilC a0) fun t11_1 =>
  pV (fldA 1 t11_1) fun t12_2 =>
  pV (ldV false 1 w t12_2) fun t13_3 =>
  pV (binV .neq t13_3 (.int .i64 0)) fun t14_4 =>
  pIf t14_4
  (K (.slice none 0 0) w)
  (pV (nilC a0) fun t16_5 =>
    pV (ldV true 2 w t16_5) fun t17_6 =>
    pE (boxE 72 (.agg #[(.slice none 0 0), (.int .i64 0)]) w) fun t7_7 w =>
    pU (stE 2 t7_7 t17_6 w) fun w =>
    pCall Try.prog 26 [t7_7] w fun t18_8 w =>
    pV (fldA 1 t7_7) fun t20_9 =>
    pV (ldV false 1 w t20_9) fun t21_10 =>
    pV (binV .neq t21_10 (.int .i64 0)) fun t22_11 =>
    pIf t22_11
    (pV (fldA 1 t7_7) fun t24_12 =>
      pV (ldV false 1 w t24_12) fun t25_13 =>
      pV (nilC a0) fun t26_14 =>
      pV (fldA 1 t26_14) fun t27_15 =>
      pU (stE 1 t27_15 t25_13 w) fun w =>
      K (.slice none 0 0) w)
    (pV (binV .gtr t18_8 a1) fun t31_16 =>
      pIf t31_16
      (pV (nilC a0) fun t33_17 =>
        pV (fldA 1 t33_17) fun t34_18 =>
        pU (stE 1 t34_18 (.int .i64 1) w) fun w =>
        K (.slice none 0 0) w)
      (pV (fldA 0 t7_7) fun t37_19 =>
        pV (ldV false 1 w t37_19) fun t38_20 =>
        pV (lenS t38_20) fun t39_21 =>
        pV (binV .gtr t18_8 t39_21) fun t40_22 =>
        pIf t40_22
        (pV (nilC a0) fun t42_23 =>
          pV (fldA 1 t42_23) fun t43_24 =>
          pU (stE 1 t43_24 (.int .i64 20) w) fun w =>
          K (.slice none 0 0) w)
        (pV (ldV true 2 w t7_7) fun t45_25 =>
          pV (nilC a0) fun t46_26 =>
          pU (stE 2 t46_26 t45_25 w) fun w =>
          pLoop [(.slice none 0 0), (.int .i64 0)] w fun go1 vs1 w =>  -- slots 9 48
            pV (binV .lss (nth vs1 1) t18_8) fun t49_27 =>
            pIf t49_27
            (pCallV Try.prog a2 [a0] w fun t53_28 w =>
              pE (mkE 2 1 [t53_28] w) fun t54_29 w =>
              pE (semE Try.prog (Builtin.append_ #[40, 40] 40 #[(nth vs1 0), t54_29]) w) fun t55_30 w =>
              pV (nilC a0) fun t57_31 =>
              pV (fldA 1 t57_31) fun t58_32 =>
              pV (ldV false 1 w t58_32) fun t59_33 =>
              pV (binV .neq t59_33 (.int .i64 0)) fun t60_34 =>
              pIf t60_34
              (K (.slice none 0 0) w)
              (pV (binV .add (nth vs1 1) (.int .i64 1)) fun t61_35 =>
                go1 [t55_30, t61_35] w))
            (pCall Try.prog 59 [(nth vs1 0)] w fun t63_36 w =>
              K t63_36 w)))))

def an48 : An := (.seq (.reg [] (.one .nil)) (.seq (.seq (.reg [] (.one (.one (.one (.one (.one .nil)))))) (.cond (.seq (.reg [] (.one .nil)) .leaf) .leaf)) (.seq (.reg [] (.one (.one (.one (.one (.one .nil)))))) (.seq (.reg [] (.one (.one .nil))) (.seq (.blk (.seq (.reg [] (.one (.one (.one (.one .nil))))) (.cond (.seq (.reg [] (.one (.one (.one (.one (.one (.one .nil))))))) (.seq (.reg [] (.one .nil)) .leaf)) (.seq (.reg [] (.one (.one (.one (.one .nil))))) (.cond (.seq (.reg [] (.one (.one (.one (.one .nil))))) (.seq (.reg [] (.one .nil)) .leaf)) (.seq (.reg [] (.one (.one (.one (.one (.one (.one .nil))))))) (.cond (.seq (.reg [] (.one (.one (.one (.one .nil))))) (.seq (.reg [] (.one .nil)) .leaf)) .leaf))))))) (.seq (.reg [] (.one (.one (.one (.one .nil))))) (.seq (.reg [] (.one .nil)) (.seq (.seq (.reg [] (.one (.one .nil))) (.blk (.loop [9, 48] (.seq (.reg [] (.one .nil)) (.seq (.cond .leaf .leaf) (.seq (.blk (.seq (.reg [] (.one (.one (.one (.one (.one (.one (.one .nil)))))))) (.seq (.reg [] (.one (.one (.one (.one (.one .nil)))))) (.cond (.seq (.reg [] (.one .nil)) .leaf) .leaf)))) (.reg [] (.one (.one .nil))))))))) (.seq (.reg [] (.one (.one (.one .nil)))) .leaf)))))))))

theorem F48_eq : @F48 = fun a0 a1 a2 w K => vcFun Try.prog an48 (Try.f48.body.getD .skip) Try.f48.results.toList 3 [a0, a1, a2] w K := by kernel_rfl

theorem F48_calls {a0 a1 a2 : Value} {w : World} {K : Value → World → Prop} (h : F48 a0 a1 a2 w K) : Calls Try.prog 48 #[a0, a1, a2] w (retK K) := by
  rw [F48_eq] at h
  exact calls_of_vc (f := 48) (fn := Try.f48) (args := [a0, a1, a2]) Try.func48 (by kernel_rfl) (by kernel_rfl) rfl (by kernel_rfl) h

theorem F48_pc {a0 a1 a2 : Value} {w : World} {K : Value → World → Prop} (h : F48 a0 a1 a2 w K) : pCall Try.prog 48 [a0, a1, a2] w K := by
  exact pCall_of (fn := Try.f48) (c := Try.f48.body.getD .skip) Try.func48 (by kernel_rfl) (by kernel_rfl) (F48_calls h)

/- (*bulkhead/codec.Writer).do -/
def F49 (a0 a1 : Value) (w : World) (K : Value → World → Prop) : Prop :=
  pV (nilC a0) fun t7_1 =>
  pV (fldA 1 t7_1) fun t8_2 =>
  pV (ldV false 1 w t8_2) fun t9_3 =>
  pV (binV .neq t9_3 (.int .i64 0)) fun t10_4 =>
  pIf t10_4
  (K (.tuple #[]) w)
  (pCallV Try.prog a1 [] w fun t13_5 w =>
    pV (extV t13_5 0) fun t14_6 =>
    pV (extV t13_5 1) fun t15_7 =>
    pV (binV .neq t15_7 (.int .i64 0)) fun t17_8 =>
    pIf t17_8
    (pV (nilC a0) fun t20_9 =>
      pV (fldA 1 t20_9) fun t21_10 =>
      pU (stE 1 t21_10 t15_7 w) fun w =>
      K (.tuple #[]) w)
    (pV (nilC a0) fun t24_11 =>
      pV (fldA 0 t24_11) fun t25_12 =>
      pV (ldV false 1 w t25_12) fun t26_13 =>
      pE (semE Try.prog (Builtin.append_ #[32, 32] 32 #[t26_13, t14_6]) w) fun t28_14 w =>
      pV (nilC a0) fun t29_15 =>
      pV (fldA 0 t29_15) fun t30_16 =>
      pU (stE 1 t30_16 t28_14 w) fun w =>
      K (.tuple #[]) w))

def an49 : An := (.seq (.seq (.reg [] (.one (.one (.one (.one (.one .nil)))))) (.cond .leaf .leaf)) (.seq (.reg [] (.one (.one (.one (.one (.one (.one (.one .nil)))))))) (.seq (.seq (.reg [] (.one (.one .nil))) (.cond (.seq (.reg [] (.one (.one (.one (.one (.one .nil)))))) .leaf) .leaf)) (.reg [] (.one (.one (.one (.one (.one (.one (.one (.one (.one (.one .nil))))))))))))))

theorem F49_eq : @F49 = fun a0 a1 w K => vcFun Try.prog an49 (Try.f49.body.getD .skip) Try.f49.results.toList 2 [a0, a1] w K := by kernel_rfl

theorem F49_calls {a0 a1 : Value} {w : World} {K : Value → World → Prop} (h : F49 a0 a1 w K) : Calls Try.prog 49 #[a0, a1] w (retK K) := by
  rw [F49_eq] at h
  exact calls_of_vc (f := 49) (fn := Try.f49) (args := [a0, a1]) Try.func49 (by kernel_rfl) (by kernel_rfl) rfl (by kernel_rfl) h

theorem F49_pc {a0 a1 : Value} {w : World} {K : Value → World → Prop} (h : F49 a0 a1 w K) : pCall Try.prog 49 [a0, a1] w K := by
  exact pCall_of (fn := Try.f49) (c := Try.f49.body.getD .skip) Try.func49 (by kernel_rfl) (by kernel_rfl) (F49_calls h)

/- bulkhead/codec.PutList[bulkhead/api.Input]$1 -/
def F50 (a0 a1 : Value) (w : World) (K : Value → World → Prop) : Prop :=
  pV (ldV false 1 w a0) fun t4_1 =>
  pV (lenS t4_1) fun t5_2 =>
  pV (ldV false 1 w a1) fun t6_3 =>
  pV (binV .gtr t5_2 t6_3) fun t7_4 =>
  pIf t7_4
  (K (.tuple #[(.slice none 0 0), (.int .i64 1)]) w)
  (pV (ldV false 1 w a0) fun t8_5 =>
    pV (lenS t8_5) fun t9_6 =>
    pV (convV .u64 t9_6) fun t10_7 =>
    pCall Try.prog 51 [t10_7, (.int .i64 4)] w fun t11_8 w =>
    K (.tuple #[t11_8, (.int .i64 0)]) w)

def an50 : An := (.seq (.reg [] (.one (.one .nil))) (.seq (.seq (.reg [] (.one (.one (.one (.one .nil))))) (.cond (.seq (.reg [] (.one (.one .nil))) .leaf) .leaf)) (.seq (.reg [] (.one (.one (.one (.one (.one (.one .nil))))))) .leaf)))

theorem F50_eq : @F50 = fun a0 a1 w K => vcFun Try.prog an50 (Try.f50.body.getD .skip) Try.f50.results.toList 2 [a0, a1] w K := by kernel_rfl

theorem F50_calls {a0 a1 : Value} {w : World} {K : Value → World → Prop} (h : F50 a0 a1 w K) : Calls Try.prog 50 #[a0, a1] w (retK K) := by
  rw [F50_eq] at h
  exact calls_of_vc (f := 50) (fn := Try.f50) (args := [a0, a1]) Try.func50 (by kernel_rfl) (by kernel_rfl) rfl (by kernel_rfl) h

theorem F50_pc {a0 a1 : Value} {w : World} {K : Value → World → Prop} (h : F50 a0 a1 w K) : pCall Try.prog 50 [a0, a1] w K := by
  exact pCall_of (fn := Try.f50) (c := Try.f50.body.getD .skip) Try.func50 (by kernel_rfl) (by kernel_rfl) (F50_calls h)

/- bulkhead/codec.big -/
def F51 (a0 a1 : Value) (w : World) (K : Value → World → Prop) : Prop :=
  pE (semE Try.prog (Instr.makeSlice 32 a1 a1) w) fun t8_1 w =>
  pV (lenS t8_1) fun t10_2 =>
  pLoop [(.int .i64 0)] w fun go1 vs1 w =>  -- slots 11
    pV (binV .lss (nth vs1 0) t10_2) fun t12_3 =>
    pIf t12_3
    (pV (binV .sub a1 (.int .i64 1)) fun t18_4 =>
      pV (binV .sub t18_4 (nth vs1 0)) fun t20_5 =>
      pV (binV .mul (.int .i64 8) t20_5) fun t21_6 =>
      pV (binV .shr a0 t21_6) fun t22_7 =>
      pV (convV .u8 t22_7) fun t23_8 =>
      pV (idxV 1 t8_1 (nth vs1 0)) fun t24_9 =>
      pU (stE 1 t24_9 t23_8 w) fun w =>
      pV (binV .add (nth vs1 0) (.int .i64 1)) fun t25_10 =>
      go1 [t25_10] w)
    (K t8_1 w)

def an51 : An := (.seq (.reg [] (.one .nil)) (.seq (.reg [] (.one (.one (.one .nil)))) (.seq (.seq (.reg [] (.one (.one (.one .nil)))) (.blk (.loop [11] (.seq (.reg [] (.one .nil)) (.seq (.cond .leaf .leaf) (.seq (.blk (.seq (.reg [] (.one (.one .nil))) (.reg [] (.one (.one (.one (.one (.one (.one (.one (.one (.one (.one (.one (.one .nil))))))))))))))) (.reg [] (.one (.one .nil))))))))) (.seq (.reg [] (.one (.one .nil))) .leaf))))

theorem F51_eq : @F51 = fun a0 a1 w K => vcFun Try.prog an51 (Try.f51.body.getD .skip) Try.f51.results.toList 2 [a0, a1] w K := by kernel_rfl

theorem F51_calls {a0 a1 : Value} {w : World} {K : Value → World → Prop} (h : F51 a0 a1 w K) : Calls Try.prog 51 #[a0, a1] w (retK K) := by
  rw [F51_eq] at h
  exact calls_of_vc (f := 51) (fn := Try.f51) (args := [a0, a1]) Try.func51 (by kernel_rfl) (by kernel_rfl) rfl (by kernel_rfl) h

theorem F51_pc {a0 a1 : Value} {w : World} {K : Value → World → Prop} (h : F51 a0 a1 w K) : pCall Try.prog 51 [a0, a1] w K := by
  exact pCall_of (fn := Try.f51) (c := Try.f51.body.getD .skip) Try.func51 (by kernel_rfl) (by kernel_rfl) (F51_calls h)

/- (*bulkhead/codec.Writer).I64 -/
def F52 (a0 a1 : Value) (w : World) (K : Value → World → Prop) : Prop :=
  pE (boxE 2 a1 w) fun t3_1 w =>
  pCall Try.prog 49 [a0, (.func (.func 60) #[] #[t3_1])] w fun _ w =>
  K (.tuple #[]) w

def an52 : An := (.seq (.reg [] (.one .nil)) (.reg [] (.one (.one (.one .nil)))))

theorem F52_eq : @F52 = fun a0 a1 w K => vcFun Try.prog an52 (Try.f52.body.getD .skip) Try.f52.results.toList 2 [a0, a1] w K := by kernel_rfl

theorem F52_calls {a0 a1 : Value} {w : World} {K : Value → World → Prop} (h : F52 a0 a1 w K) : Calls Try.prog 52 #[a0, a1] w (retK K) := by
  rw [F52_eq] at h
  exact calls_of_vc (f := 52) (fn := Try.f52) (args := [a0, a1]) Try.func52 (by kernel_rfl) (by kernel_rfl) rfl (by kernel_rfl) h

theorem F52_pc {a0 a1 : Value} {w : World} {K : Value → World → Prop} (h : F52 a0 a1 w K) : pCall Try.prog 52 [a0, a1] w K := by
  exact pCall_of (fn := Try.f52) (c := Try.f52.body.getD .skip) Try.func52 (by kernel_rfl) (by kernel_rfl) (F52_calls h)

/- bulkhead/codec.PutList[int64] -/
def F53 (a0 a1 a2 a3 : Value) (w : World) (K : Value → World → Prop) : Prop :=
  pE (boxE 40 a1 w) fun t5_1 w =>
  pE (boxE 3 a2 w) fun t6_2 w =>
  pCall Try.prog 49 [a0, (.func (.func 61) #[] #[t5_1, t6_2])] w fun _ w =>
  pV (ldV false 1 w t5_1) fun t13_4 =>
  pV (lenS t13_4) fun t14_5 =>
  pLoop [(.int .i64 0)] w fun go1 vs1 w =>  -- slots 15
    pV (binV .lss (nth vs1 0) t14_5) fun t16_6 =>
    pIf t16_6
    (pV (idxV 1 t13_4 (nth vs1 0)) fun t17_7 =>
      pV (ldV false 1 w t17_7) fun t18_8 =>
      pV (nilC a0) fun t20_9 =>
      pV (fldA 1 t20_9) fun t21_10 =>
      pV (ldV false 1 w t21_10) fun t22_11 =>
      pV (binV .neq t22_11 (.int .i64 0)) fun t23_12 =>
      pIf t23_12
      (K (.tuple #[]) w)
      (pCallV Try.prog a3 [a0, t18_8] w fun _ w =>
        pV (binV .add (nth vs1 0) (.int .i64 1)) fun t28_14 =>
        go1 [t28_14] w))
    (K (.tuple #[]) w)

def an53 : An := (.seq (.reg [] (.one (.one .nil))) (.seq (.reg [] (.one (.one (.one .nil)))) (.seq (.reg [] (.one (.one (.one .nil)))) (.blk (.loop [15] (.seq (.reg [] (.one .nil)) (.seq (.cond .leaf .leaf) (.seq (.blk (.seq (.reg [] (.one (.one (.one .nil)))) (.seq (.seq (.reg [] (.one (.one (.one (.one (.one .nil)))))) (.cond .leaf .leaf)) (.reg [] (.one (.one (.one (.one .nil)))))))) (.reg [] (.one (.one .nil)))))))))))

theorem F53_eq : @F53 = fun a0 a1 a2 a3 w K => vcFun Try.prog an53 (Try.f53.body.getD .skip) Try.f53.results.toList 4 [a0, a1, a2, a3] w K := by kernel_rfl

theorem F53_calls {a0 a1 a2 a3 : Value} {w : World} {K : Value → World → Prop} (h : F53 a0 a1 a2 a3 w K) : Calls Try.prog 53 #[a0, a1, a2, a3] w (retK K) := by
  rw [F53_eq] at h
  exact calls_of_vc (f := 53) (fn := Try.f53) (args := [a0, a1, a2, a3]) Try.func53 (by kernel_rfl) (by kernel_rfl) rfl (by kernel_rfl) h

theorem F53_pc {a0 a1 a2 a3 : Value} {w : World} {K : Value → World → Prop} (h : F53 a0 a1 a2 a3 w K) : pCall Try.prog 53 [a0, a1, a2, a3] w K := by
  exact pCall_of (fn := Try.f53) (c := Try.f53.body.getD .skip) Try.func53 (by kernel_rfl) (by kernel_rfl) (F53_calls h)

/- bulkhead/codec.Sum -/
def F54 (a0 : Value) (w : World) (K : Value → World → Prop) : Prop :=
  pV (lenS a0) fun t7_1 =>
  pLoop [(.int .u32 4294967295), (.int .i64 0)] w fun go1 vs1 w =>  -- slots 3 8
    pV (binV .lss (nth vs1 1) t7_1) fun t9_2 =>
    pIf t9_2
    (pV (idxV 1 a0 (nth vs1 1)) fun t10_3 =>
      pV (ldV false 1 w t10_3) fun t11_4 =>
      pV (convV .u32 t11_4) fun t14_5 =>
      pV (binV .xor (nth vs1 0) t14_5) fun t15_6 =>
      pLoop [t15_6, (.int .i64 0)] w fun go2 vs2 w =>  -- slots 3 16
        pV (binV .lss (nth vs2 1) (.int .i64 8)) fun t17_7 =>
        pIf t17_7
        (pV (binV .shr (nth vs2 0) (.int .u64 1)) fun t19_8 =>
          pV (binV .and (nth vs2 0) (.int .u32 1)) fun t21_9 =>
          pV (binV .mul (.int .u32 3988292384) t21_9) fun t22_10 =>
          pV (binV .xor t19_8 t22_10) fun t23_11 =>
          pV (binV .add (nth vs2 1) (.int .i64 1)) fun t24_12 =>
          go2 [t23_11, t24_12] w)
        (pV (binV .add (nth vs1 1) (.int .i64 1)) fun t25_13 =>
          go1 [(nth vs2 0), t25_13] w))
    (pV (unV .xor (nth vs1 0)) fun t27_14 =>
      K t27_14 w)

def an54 : An := (.seq (.reg [] (.one .nil)) (.seq (.reg [] (.one .nil)) (.seq (.seq (.reg [] (.one (.one (.one .nil)))) (.blk (.loop [3, 8] (.seq (.reg [] (.one .nil)) (.seq (.cond .leaf .leaf) (.seq (.blk (.seq (.reg [] (.one (.one (.one .nil)))) (.seq (.reg [] (.one (.one (.one (.one (.one .nil)))))) (.seq (.reg [] (.one .nil)) (.blk (.loop [3, 16] (.seq (.reg [] (.one .nil)) (.seq (.cond .leaf .leaf) (.seq (.blk (.reg [] (.one (.one (.one (.one (.one (.one (.one .nil))))))))) (.reg [] (.one (.one .nil)))))))))))) (.reg [] (.one (.one .nil))))))))) (.seq (.reg [] (.one (.one (.one .nil)))) .leaf))))

theorem F54_eq : @F54 = fun a0 w K => vcFun Try.prog an54 (Try.f54.body.getD .skip) Try.f54.results.toList 1 [a0] w K := by kernel_rfl

theorem F54_calls {a0 : Value} {w : World} {K : Value → World → Prop} (h : F54 a0 w K) : Calls Try.prog 54 #[a0] w (retK K) := by
  rw [F54_eq] at h
  exact calls_of_vc (f := 54) (fn := Try.f54) (args := [a0]) Try.func54 (by kernel_rfl) (by kernel_rfl) rfl (by kernel_rfl) h

theorem F54_pc {a0 : Value} {w : World} {K : Value → World → Prop} (h : F54 a0 w K) : pCall Try.prog 54 [a0] w K := by
  exact pCall_of (fn := Try.f54) (c := Try.f54.body.getD .skip) Try.func54 (by kernel_rfl) (by kernel_rfl) (F54_calls h)

/- bulkhead/bulkheadref02.Number -/
def F55 (a0 a1 : Value) (w : World) (K : Value → World → Prop) : Prop :=
  pV (binV .sub a1 (.int .i64 1)) fun t8_1 =>
  pLoop [(.slice none 0 0), t8_1] w fun go1 vs1 w =>  -- slots 5 6
    pV (binV .geq (nth vs1 1) (.int .i64 0)) fun t10_2 =>
    pIf t10_2
    (pV (binV .mul (.int .i64 8) (nth vs1 1)) fun t16_3 =>
      pV (binV .shr a0 t16_3) fun t17_4 =>
      pV (convV .u8 t17_4) fun t18_5 =>
      pE (mkE 5 1 [t18_5] w) fun t19_6 w =>
      pE (semE Try.prog (Builtin.append_ #[32, 32] 32 #[(nth vs1 0), t19_6]) w) fun t20_7 w =>
      pV (binV .sub (nth vs1 1) (.int .i64 1)) fun t12_8 =>
      go1 [t20_7, t12_8] w)
    (K (nth vs1 0) w)

def an55 : An := (.seq (.reg [] (.one .nil)) (.seq (.reg [] (.one .nil)) (.seq (.seq (.reg [] (.one (.one (.one .nil)))) (.blk (.loop [5, 6] (.seq (.seq (.reg [] (.one (.one .nil))) (.cond .leaf .leaf)) (.seq (.blk (.reg [] (.one (.one (.one (.one (.one (.one (.one (.one (.one .nil))))))))))) (.reg [] (.one (.one (.one .nil))))))))) (.seq (.reg [] (.one (.one .nil))) .leaf))))

theorem F55_eq : @F55 = fun a0 a1 w K => vcFun Try.prog an55 (Try.f55.body.getD .skip) Try.f55.results.toList 2 [a0, a1] w K := by kernel_rfl

theorem F55_calls {a0 a1 : Value} {w : World} {K : Value → World → Prop} (h : F55 a0 a1 w K) : Calls Try.prog 55 #[a0, a1] w (retK K) := by
  rw [F55_eq] at h
  exact calls_of_vc (f := 55) (fn := Try.f55) (args := [a0, a1]) Try.func55 (by kernel_rfl) (by kernel_rfl) rfl (by kernel_rfl) h

theorem F55_pc {a0 a1 : Value} {w : World} {K : Value → World → Prop} (h : F55 a0 a1 w K) : pCall Try.prog 55 [a0, a1] w K := by
  exact pCall_of (fn := Try.f55) (c := Try.f55.body.getD .skip) Try.func55 (by kernel_rfl) (by kernel_rfl) (F55_calls h)

/- bulkhead/bulkheadref21.number -/
def F56 (a0 : Value) (w : World) (K : Value → World → Prop) : Prop :=
  pV (convV .u64 a0) fun t4_1 =>
  pCall Try.prog 55 [t4_1, (.int .i64 8)] w fun t5_2 w =>
  K t5_2 w

def an56 : An := (.seq (.reg [] (.one .nil)) (.seq (.reg [] (.one (.one (.one (.one .nil))))) .leaf))

theorem F56_eq : @F56 = fun a0 w K => vcFun Try.prog an56 (Try.f56.body.getD .skip) Try.f56.results.toList 1 [a0] w K := by kernel_rfl

theorem F56_calls {a0 : Value} {w : World} {K : Value → World → Prop} (h : F56 a0 w K) : Calls Try.prog 56 #[a0] w (retK K) := by
  rw [F56_eq] at h
  exact calls_of_vc (f := 56) (fn := Try.f56) (args := [a0]) Try.func56 (by kernel_rfl) (by kernel_rfl) rfl (by kernel_rfl) h

theorem F56_pc {a0 : Value} {w : World} {K : Value → World → Prop} (h : F56 a0 w K) : pCall Try.prog 56 [a0] w K := by
  exact pCall_of (fn := Try.f56) (c := Try.f56.body.getD .skip) Try.func56 (by kernel_rfl) (by kernel_rfl) (F56_calls h)

/- bulkhead/bulkheadref02.Sum -/
def F57 (a0 : Value) (w : World) (K : Value → World → Prop) : Prop :=
  pLoop [(.int .u32 4294967295), (.int .i64 0)] w fun go1 vs1 w =>  -- slots 3 4
    pV (lenS a0) fun t10_1 =>
    pV (binV .lss (nth vs1 1) t10_1) fun t11_2 =>
    pIf t11_2
    (pLoop [(nth vs1 0), (.int .i64 0)] w fun go2 vs2 w =>  -- slots 3 5
        pV (binV .lss (nth vs2 1) (.int .i64 8)) fun t15_3 =>
        pIf t15_3
        (pJoin (fun J3 =>
            pV (idxV 1 a0 (nth vs1 1)) fun t20_4 =>
            pV (ldV false 1 w t20_4) fun t21_5 =>
            pV (binV .shr t21_5 (nth vs2 1)) fun t23_6 =>
            pV (convV .u32 t23_6) fun t24_7 =>
            pV (binV .rem t24_7 (.int .u32 2)) fun t25_8 =>
            pV (binV .rem (nth vs2 0) (.int .u32 2)) fun t27_9 =>
            pV (binV .neq t27_9 t25_8) fun t29_10 =>
            pV (binV .quo (nth vs2 0) (.int .u32 2)) fun t31_11 =>
            pIf t29_10
            (pV (binV .xor t31_11 (.int .u32 3988292384)) fun t34_12 =>
              J3 [t34_12] w)
            (J3 [t31_11] w))
          (fun vs3 w =>
            pV (binV .add (nth vs2 1) (.int .i64 1)) fun t17_13 =>
            go2 [(nth vs3 0), t17_13] w))
        (pV (binV .add (nth vs1 1) (.int .i64 1)) fun t13_14 =>
          go1 [(nth vs2 0), t13_14] w))
    (pV (binV .sub (.int .u32 4294967295) (nth vs1 0)) fun t36_15 =>
      K t36_15 w)

def an57 : An := (.seq (.reg [] (.one .nil)) (.seq (.reg [] (.one .nil)) (.seq (.seq (.reg [] (.one .nil)) (.blk (.loop [3, 4] (.seq (.seq (.reg [] (.one (.one (.one (.one .nil))))) (.cond .leaf .leaf)) (.seq (.blk (.seq (.reg [] (.one .nil)) (.blk (.loop [3, 5] (.seq (.seq (.reg [] (.one (.one .nil))) (.cond .leaf .leaf)) (.seq (.blkJ [3] (.seq (.reg [] (.one (.one (.one (.one (.one (.one (.one (.one (.one .nil)))))))))) (.seq (.reg [] (.one (.one (.one (.one (.one .nil)))))) (.seq (.reg [] (.one (.one (.one .nil)))) (.seq (.reg [] (.one .nil)) (.cond (.reg [] (.one (.one (.one .nil)))) .leaf)))))) (.reg [] (.one (.one (.one .nil)))))))))) (.reg [] (.one (.one (.one .nil))))))))) (.seq (.reg [] (.one (.one (.one .nil)))) .leaf))))

theorem F57_eq : @F57 = fun a0 w K => vcFun Try.prog an57 (Try.f57.body.getD .skip) Try.f57.results.toList 1 [a0] w K := by kernel_rfl

theorem F57_calls {a0 : Value} {w : World} {K : Value → World → Prop} (h : F57 a0 w K) : Calls Try.prog 57 #[a0] w (retK K) := by
  rw [F57_eq] at h
  exact calls_of_vc (f := 57) (fn := Try.f57) (args := [a0]) Try.func57 (by kernel_rfl) (by kernel_rfl) rfl (by kernel_rfl) h

theorem F57_pc {a0 : Value} {w : World} {K : Value → World → Prop} (h : F57 a0 w K) : pCall Try.prog 57 [a0] w K := by
  exact pCall_of (fn := Try.f57) (c := Try.f57.body.getD .skip) Try.func57 (by kernel_rfl) (by kernel_rfl) (F57_calls h)

/- (*bulkhead/codec.Reader).take -/
def F58 (a0 a1 : Value) (w : World) (K : Value → World → Prop) : Prop :=
  pJoin (fun J1 =>
    pV (nilC a0) fun t7_1 =>
    pV (fldA 1 t7_1) fun t8_2 =>
    pV (ldV false 1 w t8_2) fun t9_3 =>
    pV (binV .eql t9_3 (.int .i64 0)) fun t10_4 =>
    pSC true t10_4 w (fun J2 =>
      pV (binV .lss a1 (.int .i64 0)) fun t13_5 =>
      pSC false t13_5 w (fun J3 =>
        pV (nilC a0) fun t17_6 =>
        pV (fldA 0 t17_6) fun t18_7 =>
        pV (ldV false 1 w t18_7) fun t19_8 =>
        pV (lenS t19_8) fun t20_9 =>
        pV (binV .gtr a1 t20_9) fun t21_10 =>
        J3 t21_10 w)
      (fun t22_11 w =>
      J2 t22_11 w))
    (fun t23_12 w =>
    pIf t23_12
    (pV (nilC a0) fun t25_13 =>
      pV (fldA 1 t25_13) fun t26_14 =>
      pU (stE 1 t26_14 (.int .i64 20) w) fun w =>
      J1 [] w)
    (J1 [] w)))
  (fun vs1 w =>
    pV (nilC a0) fun t28_15 =>
    pV (fldA 1 t28_15) fun t29_16 =>
    pV (ldV false 1 w t29_16) fun t30_17 =>
    pV (binV .neq t30_17 (.int .i64 0)) fun t31_18 =>
    pIf t31_18
    (K (.slice none 0 0) w)
    (pV (nilC a0) fun t33_19 =>
      pV (fldA 0 t33_19) fun t34_20 =>
      pV (ldV false 1 w t34_20) fun t35_21 =>
      pV (slV 1 t35_21 none (some a1) (some a1)) fun t38_22 =>
      pV (nilC a0) fun t41_23 =>
      pV (fldA 0 t41_23) fun t42_24 =>
      pV (ldV false 1 w t42_24) fun t43_25 =>
      pV (slV 1 t43_25 (some a1) none none) fun t45_26 =>
      pV (nilC a0) fun t46_27 =>
      pV (fldA 0 t46_27) fun t47_28 =>
      pU (stE 1 t47_28 t45_26 w) fun w =>
      K t38_22 w))

def an58 : An := (.seq (.reg [] (.one .nil)) (.join [] (.seq (.reg [] (.one (.one (.one (.one (.one (.one (.sc true (.one (.one (.one (.sc false (.one (.one (.one (.one (.one (.one (.one .nil))))))) .nil)))) .nil)))))))) (.cond (.reg [] (.one (.one (.one (.one .nil))))) .leaf)) (.seq (.seq (.reg [] (.one (.one (.one (.one (.one .nil)))))) (.cond (.seq (.reg [] (.one .nil)) .leaf) .leaf)) (.seq (.reg [] (.one (.one (.one (.one (.one (.one (.one (.one .nil))))))))) (.seq (.reg [] (.one (.one (.one (.one (.one (.one (.one (.one (.one (.one .nil))))))))))) (.seq (.reg [] (.one (.one .nil))) .leaf))))))

theorem F58_eq : @F58 = fun a0 a1 w K => vcFun Try.prog an58 (Try.f58.body.getD .skip) Try.f58.results.toList 2 [a0, a1] w K := by kernel_rfl

theorem F58_calls {a0 a1 : Value} {w : World} {K : Value → World → Prop} (h : F58 a0 a1 w K) : Calls Try.prog 58 #[a0, a1] w (retK K) := by
  rw [F58_eq] at h
  exact calls_of_vc (f := 58) (fn := Try.f58) (args := [a0, a1]) Try.func58 (by kernel_rfl) (by kernel_rfl) rfl (by kernel_rfl) h

theorem F58_pc {a0 a1 : Value} {w : World} {K : Value → World → Prop} (h : F58 a0 a1 w K) : pCall Try.prog 58 [a0, a1] w K := by
  exact pCall_of (fn := Try.f58) (c := Try.f58.body.getD .skip) Try.func58 (by kernel_rfl) (by kernel_rfl) (F58_calls h)

/- slices.Clip[[]int64,int64] -/
def F59 (a0 : Value) (w : World) (K : Value → World → Prop) : Prop :=
  pV (lenS a0) fun t5_1 =>
  pV (lenS a0) fun t7_2 =>
  pV (slV 1 a0 none (some t5_1) (some t7_2)) fun t8_3 =>
  K t8_3 w

def an59 : An := (.seq (.reg [] (.one .nil)) (.seq (.reg [] (.one (.one (.one (.one (.one (.one (.one .nil)))))))) .leaf))

theorem F59_eq : @F59 = fun a0 w K => vcFun Try.prog an59 (Try.f59.body.getD .skip) Try.f59.results.toList 1 [a0] w K := by kernel_rfl

theorem F59_calls {a0 : Value} {w : World} {K : Value → World → Prop} (h : F59 a0 w K) : Calls Try.prog 59 #[a0] w (retK K) := by
  rw [F59_eq] at h
  exact calls_of_vc (f := 59) (fn := Try.f59) (args := [a0]) Try.func59 (by kernel_rfl) (by kernel_rfl) rfl (by kernel_rfl) h

theorem F59_pc {a0 : Value} {w : World} {K : Value → World → Prop} (h : F59 a0 w K) : pCall Try.prog 59 [a0] w K := by
  exact pCall_of (fn := Try.f59) (c := Try.f59.body.getD .skip) Try.func59 (by kernel_rfl) (by kernel_rfl) (F59_calls h)

/- (*bulkhead/codec.Writer).I64$1 -/
def F60 (a0 : Value) (w : World) (K : Value → World → Prop) : Prop :=
  pV (ldV false 1 w a0) fun t3_1 =>
  pV (convV .u64 t3_1) fun t4_2 =>
  pCall Try.prog 51 [t4_2, (.int .i64 8)] w fun t5_3 w =>
  K (.tuple #[t5_3, (.int .i64 0)]) w

def an60 : An := (.seq (.reg [] (.one (.one .nil))) (.seq (.reg [] (.one (.one (.one (.one (.one .nil)))))) .leaf))

theorem F60_eq : @F60 = fun a0 w K => vcFun Try.prog an60 (Try.f60.body.getD .skip) Try.f60.results.toList 1 [a0] w K := by kernel_rfl

theorem F60_calls {a0 : Value} {w : World} {K : Value → World → Prop} (h : F60 a0 w K) : Calls Try.prog 60 #[a0] w (retK K) := by
  rw [F60_eq] at h
  exact calls_of_vc (f := 60) (fn := Try.f60) (args := [a0]) Try.func60 (by kernel_rfl) (by kernel_rfl) rfl (by kernel_rfl) h

theorem F60_pc {a0 : Value} {w : World} {K : Value → World → Prop} (h : F60 a0 w K) : pCall Try.prog 60 [a0] w K := by
  exact pCall_of (fn := Try.f60) (c := Try.f60.body.getD .skip) Try.func60 (by kernel_rfl) (by kernel_rfl) (F60_calls h)

/- bulkhead/codec.PutList[int64]$1 -/
def F61 (a0 a1 : Value) (w : World) (K : Value → World → Prop) : Prop :=
  pV (ldV false 1 w a0) fun t4_1 =>
  pV (lenS t4_1) fun t5_2 =>
  pV (ldV false 1 w a1) fun t6_3 =>
  pV (binV .gtr t5_2 t6_3) fun t7_4 =>
  pIf t7_4
  (K (.tuple #[(.slice none 0 0), (.int .i64 1)]) w)
  (pV (ldV false 1 w a0) fun t8_5 =>
    pV (lenS t8_5) fun t9_6 =>
    pV (convV .u64 t9_6) fun t10_7 =>
    pCall Try.prog 51 [t10_7, (.int .i64 4)] w fun t11_8 w =>
    K (.tuple #[t11_8, (.int .i64 0)]) w)

def an61 : An := (.seq (.reg [] (.one (.one .nil))) (.seq (.seq (.reg [] (.one (.one (.one (.one .nil))))) (.cond (.seq (.reg [] (.one (.one .nil))) .leaf) .leaf)) (.seq (.reg [] (.one (.one (.one (.one (.one (.one .nil))))))) .leaf)))

theorem F61_eq : @F61 = fun a0 a1 w K => vcFun Try.prog an61 (Try.f61.body.getD .skip) Try.f61.results.toList 2 [a0, a1] w K := by kernel_rfl

theorem F61_calls {a0 a1 : Value} {w : World} {K : Value → World → Prop} (h : F61 a0 a1 w K) : Calls Try.prog 61 #[a0, a1] w (retK K) := by
  rw [F61_eq] at h
  exact calls_of_vc (f := 61) (fn := Try.f61) (args := [a0, a1]) Try.func61 (by kernel_rfl) (by kernel_rfl) rfl (by kernel_rfl) h

theorem F61_pc {a0 a1 : Value} {w : World} {K : Value → World → Prop} (h : F61 a0 a1 w K) : pCall Try.prog 61 [a0, a1] w K := by
  exact pCall_of (fn := Try.f61) (c := Try.f61.body.getD .skip) Try.func61 (by kernel_rfl) (by kernel_rfl) (F61_calls h)

end Go.Proofs.Ytcghhhjklihpkaa
