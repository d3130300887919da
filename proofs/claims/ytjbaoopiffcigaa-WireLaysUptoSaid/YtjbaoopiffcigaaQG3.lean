/- Layer 25: codes by their parts. Conditions: none. -/
import Derived.Test.YtjbaoopiffcigaaQG2
set_option linter.unusedVariables false
namespace Go.L25
open Go Go.Eng Go.Proofs
set_option maxRecDepth 100000

noncomputable def c70_0 : Code := Try.f70.body.getD .skip
noncomputable def n70_0 : S → RS := run (annT 70) c70_0
noncomputable def c70_1 : Code := gL c70_0
noncomputable def n70_1 : S → RS := run (annT 70) c70_1
noncomputable def o70_1 : {l : List Oper // (gO c70_1).toList = l} := ⟨_, by conv => (lhs; whnf)⟩
noncomputable def c70_2 : Code := gR c70_0
noncomputable def n70_2 : S → RS := run (annT 70) c70_2
noncomputable def c70_3 : Code := gL c70_2
noncomputable def n70_3 : S → RS := run (annT 70) c70_3
noncomputable def o70_3 : {l : List Oper // (gO c70_3).toList = l} := ⟨_, by conv => (lhs; whnf)⟩
noncomputable def c70_4 : Code := gR c70_2
noncomputable def n70_4 : S → RS := run (annT 70) c70_4
noncomputable def c70_5 : Code := gL c70_4
noncomputable def n70_5 : S → RS := run (annT 70) c70_5
noncomputable def c70_6 : Code := gL c70_5
noncomputable def n70_6 : S → RS := run (annT 70) c70_6
noncomputable def o70_6 : {l : List Oper // (gO c70_6).toList = l} := ⟨_, by conv => (lhs; whnf)⟩
noncomputable def c70_7 : Code := gR c70_5
noncomputable def n70_7 : S → RS := run (annT 70) c70_7
noncomputable def c70_8 : Code := gB c70_7
noncomputable def n70_8 : S → RS := run (annT 70) c70_8
noncomputable def c70_9 : Code := gB c70_8
noncomputable def n70_9 : S → RS := run (annT 70) c70_9
noncomputable def c70_10 : Code := gL c70_9
noncomputable def n70_10 : S → RS := run (annT 70) c70_10
noncomputable def c70_11 : Code := gL c70_10
noncomputable def n70_11 : S → RS := run (annT 70) c70_11
noncomputable def o70_11 : {l : List Oper // (gO c70_11).toList = l} := ⟨_, by conv => (lhs; whnf)⟩
noncomputable def c70_12 : Code := gR c70_10
noncomputable def n70_12 : S → RS := run (annT 70) c70_12
noncomputable def c70_13 : Code := gT c70_12
noncomputable def n70_13 : S → RS := run (annT 70) c70_13
noncomputable def c70_14 : Code := gF c70_12
noncomputable def n70_14 : S → RS := run (annT 70) c70_14
noncomputable def c70_15 : Code := gR c70_9
noncomputable def n70_15 : S → RS := run (annT 70) c70_15
noncomputable def c70_16 : Code := gL c70_15
noncomputable def n70_16 : S → RS := run (annT 70) c70_16
noncomputable def c70_17 : Code := gB c70_16
noncomputable def n70_17 : S → RS := run (annT 70) c70_17
noncomputable def c70_18 : Code := gL c70_17
noncomputable def n70_18 : S → RS := run (annT 70) c70_18
noncomputable def o70_18 : {l : List Oper // (gO c70_18).toList = l} := ⟨_, by conv => (lhs; whnf)⟩
noncomputable def c70_19 : Code := gR c70_17
noncomputable def n70_19 : S → RS := run (annT 70) c70_19
noncomputable def c70_20 : Code := gL c70_19
noncomputable def n70_20 : S → RS := run (annT 70) c70_20
noncomputable def o70_20 : {l : List Oper // (gO c70_20).toList = l} := ⟨_, by conv => (lhs; whnf)⟩
noncomputable def c70_21 : Code := gR c70_19
noncomputable def n70_21 : S → RS := run (annT 70) c70_21
noncomputable def c70_22 : Code := gT c70_21
noncomputable def n70_22 : S → RS := run (annT 70) c70_22
noncomputable def o70_22 : {l : List Oper // (gO c70_22).toList = l} := ⟨_, by conv => (lhs; whnf)⟩
noncomputable def c70_23 : Code := gF c70_21
noncomputable def n70_23 : S → RS := run (annT 70) c70_23
noncomputable def c70_24 : Code := gR c70_15
noncomputable def n70_24 : S → RS := run (annT 70) c70_24
noncomputable def o70_24 : {l : List Oper // (gO c70_24).toList = l} := ⟨_, by conv => (lhs; whnf)⟩
noncomputable def c70_25 : Code := gR c70_4
noncomputable def n70_25 : S → RS := run (annT 70) c70_25
noncomputable def c70_26 : Code := gL c70_25
noncomputable def n70_26 : S → RS := run (annT 70) c70_26
noncomputable def o70_26 : {l : List Oper // (gO c70_26).toList = l} := ⟨_, by conv => (lhs; whnf)⟩
noncomputable def c70_27 : Code := gR c70_25
noncomputable def n70_27 : S → RS := run (annT 70) c70_27
theorem r_n70_1 (s : S) : n70_1 s = behK 6 (stepsO X (annT 70) C (gO c70_1) o70_1.1 s) := q_region (annT 70) s 0 _ false rfl _ _ rfl rfl o70_1.2
theorem g_o70_1 (j : Nat) : gdst (gO c70_1) j = (o70_1.1[j]?).bind Oper.dst := gd_eq o70_1.2 j
theorem r_n70_3 (s : S) : n70_3 s = behK 38 (stepsO X (annT 70) C (gO c70_3) o70_3.1 s) := q_region (annT 70) s 1 _ false rfl _ _ rfl rfl o70_3.2
theorem g_o70_3 (j : Nat) : gdst (gO c70_3) j = (o70_3.1[j]?).bind Oper.dst := gd_eq o70_3.2 j
theorem r_n70_6 (s : S) : n70_6 s = behK 102 (stepsO X (annT 70) C (gO c70_6) o70_6.1 s) := q_region (annT 70) s 2 _ false rfl _ _ rfl rfl o70_6.2
theorem g_o70_6 (j : Nat) : gdst (gO c70_6) j = (o70_6.1[j]?).bind Oper.dst := gd_eq o70_6.2 j
theorem r_n70_11 (s : S) : n70_11 s = behK 65638 (stepsO X (annT 70) C (gO c70_11) o70_11.1 s) := q_region (annT 70) s 3 _ false rfl _ _ rfl rfl o70_11.2
theorem g_o70_11 (j : Nat) : gdst (gO c70_11) j = (o70_11.1[j]?).bind Oper.dst := gd_eq o70_11.2 j
theorem r_n70_13 (s : S) : n70_13 s = some (.norm, s) := run_skip _ s
theorem r_n70_14 (s : S) : n70_14 s = some (.exit 0, s) := run_exit _ s 0
theorem r_n70_12 (s : S) : n70_12 s = condK (opv s.t (.tmp 16)) n70_13 n70_14 s := q_cond _ c70_13 c70_14 s (.tmp 16)
theorem r_n70_10 (s : S) : n70_10 s = contK n70_12 (n70_11 s) := q_seq _ c70_11 c70_12 s
theorem r_n70_18 (s : S) : n70_18 s = behK 230 (stepsO X (annT 70) C (gO c70_18) o70_18.1 s) := q_region (annT 70) s 5 _ false rfl _ _ rfl rfl o70_18.2
theorem g_o70_18 (j : Nat) : gdst (gO c70_18) j = (o70_18.1[j]?).bind Oper.dst := gd_eq o70_18.2 j
theorem r_n70_20 (s : S) : n70_20 s = behK 536871142 (stepsO X (annT 70) C (gO c70_20) o70_20.1 s) := q_region (annT 70) s 6 _ false rfl _ _ rfl rfl o70_20.2
theorem g_o70_20 (j : Nat) : gdst (gO c70_20) j = (o70_20.1[j]?).bind Oper.dst := gd_eq o70_20.2 j
theorem r_n70_22 (s : S) : n70_22 s = behK 102 (stepsO X (annT 70) C (gO c70_22) o70_22.1 s) := q_region (annT 70) s 7 _ false rfl _ _ rfl rfl o70_22.2
theorem g_o70_22 (j : Nat) : gdst (gO c70_22) j = (o70_22.1[j]?).bind Oper.dst := gd_eq o70_22.2 j
theorem r_n70_23 (s : S) : n70_23 s = some (.norm, s) := run_skip _ s
theorem r_n70_21 (s : S) : n70_21 s = condK (opv s.t (.tmp 29)) n70_22 n70_23 s := q_cond _ c70_22 c70_23 s (.tmp 29)
theorem r_n70_19 (s : S) : n70_19 s = contK n70_21 (n70_20 s) := q_seq _ c70_20 c70_21 s
theorem r_n70_17 (s : S) : n70_17 s = contK n70_19 (n70_18 s) := q_seq _ c70_18 c70_19 s
theorem r_n70_16 (s : S) : n70_16 s = blkK 1 (n70_17 s) := q_block _ c70_17 s 1
theorem r_n70_24 (s : S) : n70_24 s = behK 102 (stepsO X (annT 70) C (gO c70_24) o70_24.1 s) := q_region (annT 70) s 4 _ false rfl _ _ rfl rfl o70_24.2
theorem g_o70_24 (j : Nat) : gdst (gO c70_24) j = (o70_24.1[j]?).bind Oper.dst := gd_eq o70_24.2 j
theorem r_n70_15 (s : S) : n70_15 s = contK n70_24 (n70_16 s) := q_seq _ c70_16 c70_24 s
theorem r_n70_9 (s : S) : n70_9 s = contK n70_15 (n70_10 s) := q_seq _ c70_10 c70_15 s
theorem r_n70_8 (s : S) : n70_8 s = loopK 102 s.st.length n70_8 (n70_9 s) := q_loop (annT 70) c70_9 s _ _ rfl rfl
theorem r_n70_7 (s : S) : n70_7 s = blkK 0 (n70_8 s) := q_block _ c70_8 s 0
theorem r_n70_5 (s : S) : n70_5 s = contK n70_7 (n70_6 s) := q_seq _ c70_6 c70_7 s
theorem r_n70_26 (s : S) : n70_26 s = behK 16 (stepsO X (annT 70) C (gO c70_26) o70_26.1 s) := q_region (annT 70) s 8 _ false rfl _ _ rfl rfl o70_26.2
theorem g_o70_26 (j : Nat) : gdst (gO c70_26) j = (o70_26.1[j]?).bind Oper.dst := gd_eq o70_26.2 j
theorem r_n70_27 (s : S) : n70_27 s = some (.ret, s) := run_ret _ s
theorem r_n70_25 (s : S) : n70_25 s = contK n70_27 (n70_26 s) := q_seq _ c70_26 c70_27 s
theorem r_n70_4 (s : S) : n70_4 s = contK n70_25 (n70_5 s) := q_seq _ c70_5 c70_25 s
theorem r_n70_2 (s : S) : n70_2 s = contK n70_4 (n70_3 s) := q_seq _ c70_3 c70_4 s
theorem r_n70_0 (s : S) : n70_0 s = contK n70_2 (n70_1 s) := q_seq _ c70_1 c70_2 s
theorem va_70 : (annT 70).virt = [] := rfl
theorem wa_70 : (annT 70).wr = [] := rfl
theorem ya_70 : (annT 70).ty = [] := rfl
theorem cv_70 (call : Eng.Call) (wr : Bool) (args : List AV) (st : Store) : callV X call wr 70 args st = cvP call wr 70 args st (fzAll (fz false st 6) args) := cv_pure rfl rfl call wr args st
theorem p70 (ds : List D) : pureCall C 70 ds = ((n70_0 ⟨argsT 0 (ds.map .d), []⟩).bind (bodyR [.tmp 4])).bind prOf := P_eq Try.f70 rfl rfl rfl rfl ds
theorem q70 (vs : List AV) (st : Store) : C 70 vs st = (n70_0 ⟨argsT 0 vs, st⟩).bind (bodyR [.tmp 4]) := C_eq Try.f70 rfl rfl rfl rfl vs st
attribute [go_sem] r_n70_1 g_o70_1 o70_1 r_n70_3 g_o70_3 o70_3 r_n70_6 g_o70_6 o70_6 r_n70_11 g_o70_11 o70_11 r_n70_13 r_n70_14 r_n70_12 r_n70_10 r_n70_18 g_o70_18 o70_18 r_n70_20 g_o70_20 o70_20 r_n70_22 g_o70_22 o70_22 r_n70_23 r_n70_21 r_n70_19 r_n70_17 r_n70_16 r_n70_24 g_o70_24 o70_24 r_n70_15 r_n70_9 r_n70_7 r_n70_5 r_n70_26 g_o70_26 o70_26 r_n70_27 r_n70_25 r_n70_4 r_n70_2 r_n70_0 va_70 wa_70 ya_70 cv_70

noncomputable def c45_0 : Code := Try.f45.body.getD .skip
noncomputable def n45_0 : S → RS := run (annT 45) c45_0
noncomputable def c45_1 : Code := gL c45_0
noncomputable def n45_1 : S → RS := run (annT 45) c45_1
noncomputable def o45_1 : {l : List Oper // (gO c45_1).toList = l} := ⟨_, by conv => (lhs; whnf)⟩
noncomputable def c45_2 : Code := gR c45_0
noncomputable def n45_2 : S → RS := run (annT 45) c45_2
noncomputable def c45_3 : Code := gL c45_2
noncomputable def n45_3 : S → RS := run (annT 45) c45_3
noncomputable def o45_3 : {l : List Oper // (gO c45_3).toList = l} := ⟨_, by conv => (lhs; whnf)⟩
noncomputable def c45_4 : Code := gR c45_2
noncomputable def n45_4 : S → RS := run (annT 45) c45_4
theorem r_n45_1 (s : S) : n45_1 s = behK 2 (stepsO X (annT 45) C (gO c45_1) o45_1.1 s) := q_region (annT 45) s 0 _ false rfl _ _ rfl rfl o45_1.2
theorem g_o45_1 (j : Nat) : gdst (gO c45_1) j = (o45_1.1[j]?).bind Oper.dst := gd_eq o45_1.2 j
theorem r_n45_3 (s : S) : n45_3 s = behK 4 (stepsO X (annT 45) C (gO c45_3) o45_3.1 s) := q_region (annT 45) s 1 _ false rfl _ _ rfl rfl o45_3.2
theorem g_o45_3 (j : Nat) : gdst (gO c45_3) j = (o45_3.1[j]?).bind Oper.dst := gd_eq o45_3.2 j
theorem r_n45_4 (s : S) : n45_4 s = some (.ret, s) := run_ret _ s
theorem r_n45_2 (s : S) : n45_2 s = contK n45_4 (n45_3 s) := q_seq _ c45_3 c45_4 s
theorem r_n45_0 (s : S) : n45_0 s = contK n45_2 (n45_1 s) := q_seq _ c45_1 c45_2 s
theorem va_45 : (annT 45).virt = [] := rfl
theorem wa_45 : (annT 45).wr = [] := rfl
theorem ya_45 : (annT 45).ty = [] := rfl
theorem cv_45 (call : Eng.Call) (wr : Bool) (args : List AV) (st : Store) : callV X call wr 45 args st = cvP call wr 45 args st (fzAll (fz false st 6) args) := cv_pure rfl rfl call wr args st
theorem p45 (ds : List D) : pureCall C 45 ds = ((n45_0 ⟨argsT 0 (ds.map .d), []⟩).bind (bodyR [.tmp 2])).bind prOf := P_eq Try.f45 rfl rfl rfl rfl ds
theorem q45 (vs : List AV) (st : Store) : C 45 vs st = (n45_0 ⟨argsT 0 vs, st⟩).bind (bodyR [.tmp 2]) := C_eq Try.f45 rfl rfl rfl rfl vs st
attribute [go_sem] r_n45_1 g_o45_1 o45_1 r_n45_3 g_o45_3 o45_3 r_n45_4 r_n45_2 r_n45_0 va_45 wa_45 ya_45 cv_45

noncomputable def c71_0 : Code := Try.f71.body.getD .skip
noncomputable def n71_0 : S → RS := run (annT 71) c71_0
noncomputable def c71_1 : Code := gL c71_0
noncomputable def n71_1 : S → RS := run (annT 71) c71_1
noncomputable def o71_1 : {l : List Oper // (gO c71_1).toList = l} := ⟨_, by conv => (lhs; whnf)⟩
noncomputable def c71_2 : Code := gR c71_0
noncomputable def n71_2 : S → RS := run (annT 71) c71_2
noncomputable def c71_3 : Code := gL c71_2
noncomputable def n71_3 : S → RS := run (annT 71) c71_3
noncomputable def o71_3 : {l : List Oper // (gO c71_3).toList = l} := ⟨_, by conv => (lhs; whnf)⟩
noncomputable def c71_4 : Code := gR c71_2
noncomputable def n71_4 : S → RS := run (annT 71) c71_4
noncomputable def c71_5 : Code := gL c71_4
noncomputable def n71_5 : S → RS := run (annT 71) c71_5
noncomputable def c71_6 : Code := gL c71_5
noncomputable def n71_6 : S → RS := run (annT 71) c71_6
noncomputable def o71_6 : {l : List Oper // (gO c71_6).toList = l} := ⟨_, by conv => (lhs; whnf)⟩
noncomputable def c71_7 : Code := gR c71_5
noncomputable def n71_7 : S → RS := run (annT 71) c71_7
noncomputable def c71_8 : Code := gB c71_7
noncomputable def n71_8 : S → RS := run (annT 71) c71_8
noncomputable def c71_9 : Code := gB c71_8
noncomputable def n71_9 : S → RS := run (annT 71) c71_9
noncomputable def c71_10 : Code := gL c71_9
noncomputable def n71_10 : S → RS := run (annT 71) c71_10
noncomputable def c71_11 : Code := gL c71_10
noncomputable def n71_11 : S → RS := run (annT 71) c71_11
noncomputable def o71_11 : {l : List Oper // (gO c71_11).toList = l} := ⟨_, by conv => (lhs; whnf)⟩
noncomputable def c71_12 : Code := gR c71_10
noncomputable def n71_12 : S → RS := run (annT 71) c71_12
noncomputable def c71_13 : Code := gT c71_12
noncomputable def n71_13 : S → RS := run (annT 71) c71_13
noncomputable def c71_14 : Code := gF c71_12
noncomputable def n71_14 : S → RS := run (annT 71) c71_14
noncomputable def c71_15 : Code := gR c71_9
noncomputable def n71_15 : S → RS := run (annT 71) c71_15
noncomputable def c71_16 : Code := gL c71_15
noncomputable def n71_16 : S → RS := run (annT 71) c71_16
noncomputable def c71_17 : Code := gB c71_16
noncomputable def n71_17 : S → RS := run (annT 71) c71_17
noncomputable def o71_17 : {l : List Oper // (gO c71_17).toList = l} := ⟨_, by conv => (lhs; whnf)⟩
noncomputable def c71_18 : Code := gR c71_15
noncomputable def n71_18 : S → RS := run (annT 71) c71_18
noncomputable def o71_18 : {l : List Oper // (gO c71_18).toList = l} := ⟨_, by conv => (lhs; whnf)⟩
noncomputable def c71_19 : Code := gR c71_4
noncomputable def n71_19 : S → RS := run (annT 71) c71_19
noncomputable def c71_20 : Code := gL c71_19
noncomputable def n71_20 : S → RS := run (annT 71) c71_20
noncomputable def c71_21 : Code := gL c71_20
noncomputable def n71_21 : S → RS := run (annT 71) c71_21
noncomputable def o71_21 : {l : List Oper // (gO c71_21).toList = l} := ⟨_, by conv => (lhs; whnf)⟩
noncomputable def c71_22 : Code := gR c71_20
noncomputable def n71_22 : S → RS := run (annT 71) c71_22
noncomputable def c71_23 : Code := gT c71_22
noncomputable def n71_23 : S → RS := run (annT 71) c71_23
noncomputable def c71_24 : Code := gL c71_23
noncomputable def n71_24 : S → RS := run (annT 71) c71_24
noncomputable def o71_24 : {l : List Oper // (gO c71_24).toList = l} := ⟨_, by conv => (lhs; whnf)⟩
noncomputable def c71_25 : Code := gR c71_23
noncomputable def n71_25 : S → RS := run (annT 71) c71_25
noncomputable def c71_26 : Code := gF c71_22
noncomputable def n71_26 : S → RS := run (annT 71) c71_26
noncomputable def c71_27 : Code := gR c71_19
noncomputable def n71_27 : S → RS := run (annT 71) c71_27
noncomputable def c71_28 : Code := gL c71_27
noncomputable def n71_28 : S → RS := run (annT 71) c71_28
noncomputable def o71_28 : {l : List Oper // (gO c71_28).toList = l} := ⟨_, by conv => (lhs; whnf)⟩
noncomputable def c71_29 : Code := gR c71_27
noncomputable def n71_29 : S → RS := run (annT 71) c71_29
theorem r_n71_1 (s : S) : n71_1 s = behK 2 (stepsO X (annT 71) C (gO c71_1) o71_1.1 s) := q_region (annT 71) s 0 _ false rfl _ _ rfl rfl o71_1.2
theorem g_o71_1 (j : Nat) : gdst (gO c71_1) j = (o71_1.1[j]?).bind Oper.dst := gd_eq o71_1.2 j
theorem r_n71_3 (s : S) : n71_3 s = behK 10 (stepsO X (annT 71) C (gO c71_3) o71_3.1 s) := q_region (annT 71) s 1 _ false rfl _ _ rfl rfl o71_3.2
theorem g_o71_3 (j : Nat) : gdst (gO c71_3) j = (o71_3.1[j]?).bind Oper.dst := gd_eq o71_3.2 j
theorem r_n71_6 (s : S) : n71_6 s = behK 26 (stepsO X (annT 71) C (gO c71_6) o71_6.1 s) := q_region (annT 71) s 2 _ false rfl _ _ rfl rfl o71_6.2
theorem g_o71_6 (j : Nat) : gdst (gO c71_6) j = (o71_6.1[j]?).bind Oper.dst := gd_eq o71_6.2 j
theorem r_n71_11 (s : S) : n71_11 s = behK 8218 (stepsO X (annT 71) C (gO c71_11) o71_11.1 s) := q_region (annT 71) s 3 _ false rfl _ _ rfl rfl o71_11.2
theorem g_o71_11 (j : Nat) : gdst (gO c71_11) j = (o71_11.1[j]?).bind Oper.dst := gd_eq o71_11.2 j
theorem r_n71_13 (s : S) : n71_13 s = some (.norm, s) := run_skip _ s
theorem r_n71_14 (s : S) : n71_14 s = some (.exit 0, s) := run_exit _ s 0
theorem r_n71_12 (s : S) : n71_12 s = condK (opv s.t (.tmp 13)) n71_13 n71_14 s := q_cond _ c71_13 c71_14 s (.tmp 13)
theorem r_n71_10 (s : S) : n71_10 s = contK n71_12 (n71_11 s) := q_seq _ c71_11 c71_12 s
theorem r_n71_17 (s : S) : n71_17 s = behK 26 (stepsO X (annT 71) C (gO c71_17) o71_17.1 s) := q_region (annT 71) s 5 _ false rfl _ _ rfl rfl o71_17.2
theorem g_o71_17 (j : Nat) : gdst (gO c71_17) j = (o71_17.1[j]?).bind Oper.dst := gd_eq o71_17.2 j
theorem r_n71_16 (s : S) : n71_16 s = blkK 1 (n71_17 s) := q_block _ c71_17 s 1
theorem r_n71_18 (s : S) : n71_18 s = behK 26 (stepsO X (annT 71) C (gO c71_18) o71_18.1 s) := q_region (annT 71) s 4 _ false rfl _ _ rfl rfl o71_18.2
theorem g_o71_18 (j : Nat) : gdst (gO c71_18) j = (o71_18.1[j]?).bind Oper.dst := gd_eq o71_18.2 j
theorem r_n71_15 (s : S) : n71_15 s = contK n71_18 (n71_16 s) := q_seq _ c71_16 c71_18 s
theorem r_n71_9 (s : S) : n71_9 s = contK n71_15 (n71_10 s) := q_seq _ c71_10 c71_15 s
theorem r_n71_8 (s : S) : n71_8 s = loopK 26 s.st.length n71_8 (n71_9 s) := q_loop (annT 71) c71_9 s _ _ rfl rfl
theorem r_n71_7 (s : S) : n71_7 s = blkK 0 (n71_8 s) := q_block _ c71_8 s 0
theorem r_n71_5 (s : S) : n71_5 s = contK n71_7 (n71_6 s) := q_seq _ c71_6 c71_7 s
theorem r_n71_21 (s : S) : n71_21 s = behK 33554440 (stepsO X (annT 71) C (gO c71_21) o71_21.1 s) := q_region (annT 71) s 6 _ false rfl _ _ rfl rfl o71_21.2
theorem g_o71_21 (j : Nat) : gdst (gO c71_21) j = (o71_21.1[j]?).bind Oper.dst := gd_eq o71_21.2 j
theorem r_n71_24 (s : S) : n71_24 s = behK 4 (stepsO X (annT 71) C (gO c71_24) o71_24.1 s) := q_region (annT 71) s 7 _ false rfl _ _ rfl rfl o71_24.2
theorem g_o71_24 (j : Nat) : gdst (gO c71_24) j = (o71_24.1[j]?).bind Oper.dst := gd_eq o71_24.2 j
theorem r_n71_25 (s : S) : n71_25 s = some (.ret, s) := run_ret _ s
theorem r_n71_23 (s : S) : n71_23 s = contK n71_25 (n71_24 s) := q_seq _ c71_24 c71_25 s
theorem r_n71_26 (s : S) : n71_26 s = some (.norm, s) := run_skip _ s
theorem r_n71_22 (s : S) : n71_22 s = condK (opv s.t (.tmp 25)) n71_23 n71_26 s := q_cond _ c71_23 c71_26 s (.tmp 25)
theorem r_n71_20 (s : S) : n71_20 s = contK n71_22 (n71_21 s) := q_seq _ c71_21 c71_22 s
theorem r_n71_28 (s : S) : n71_28 s = behK 4 (stepsO X (annT 71) C (gO c71_28) o71_28.1 s) := q_region (annT 71) s 8 _ false rfl _ _ rfl rfl o71_28.2
theorem g_o71_28 (j : Nat) : gdst (gO c71_28) j = (o71_28.1[j]?).bind Oper.dst := gd_eq o71_28.2 j
theorem r_n71_29 (s : S) : n71_29 s = some (.ret, s) := run_ret _ s
theorem r_n71_27 (s : S) : n71_27 s = contK n71_29 (n71_28 s) := q_seq _ c71_28 c71_29 s
theorem r_n71_19 (s : S) : n71_19 s = contK n71_27 (n71_20 s) := q_seq _ c71_20 c71_27 s
theorem r_n71_4 (s : S) : n71_4 s = contK n71_19 (n71_5 s) := q_seq _ c71_5 c71_19 s
theorem r_n71_2 (s : S) : n71_2 s = contK n71_4 (n71_3 s) := q_seq _ c71_3 c71_4 s
theorem r_n71_0 (s : S) : n71_0 s = contK n71_2 (n71_1 s) := q_seq _ c71_1 c71_2 s
theorem va_71 : (annT 71).virt = [] := rfl
theorem wa_71 : (annT 71).wr = [] := rfl
theorem ya_71 : (annT 71).ty = [] := rfl
theorem cv_71 (call : Eng.Call) (wr : Bool) (args : List AV) (st : Store) : callV X call wr 71 args st = cvP call wr 71 args st (fzAll (fz false st 6) args) := cv_pure rfl rfl call wr args st
theorem p71 (ds : List D) : pureCall C 71 ds = ((n71_0 ⟨argsT 0 (ds.map .d), []⟩).bind (bodyR [.tmp 2])).bind prOf := P_eq Try.f71 rfl rfl rfl rfl ds
theorem q71 (vs : List AV) (st : Store) : C 71 vs st = (n71_0 ⟨argsT 0 vs, st⟩).bind (bodyR [.tmp 2]) := C_eq Try.f71 rfl rfl rfl rfl vs st
attribute [go_sem] r_n71_1 g_o71_1 o71_1 r_n71_3 g_o71_3 o71_3 r_n71_6 g_o71_6 o71_6 r_n71_11 g_o71_11 o71_11 r_n71_13 r_n71_14 r_n71_12 r_n71_10 r_n71_17 g_o71_17 o71_17 r_n71_16 r_n71_18 g_o71_18 o71_18 r_n71_15 r_n71_9 r_n71_7 r_n71_5 r_n71_21 g_o71_21 o71_21 r_n71_24 g_o71_24 o71_24 r_n71_25 r_n71_23 r_n71_26 r_n71_22 r_n71_20 r_n71_28 g_o71_28 o71_28 r_n71_29 r_n71_27 r_n71_19 r_n71_4 r_n71_2 r_n71_0 va_71 wa_71 ya_71 cv_71

noncomputable def c46_0 : Code := Try.f46.body.getD .skip
noncomputable def n46_0 : S → RS := run (annT 46) c46_0
noncomputable def c46_1 : Code := gL c46_0
noncomputable def n46_1 : S → RS := run (annT 46) c46_1
noncomputable def o46_1 : {l : List Oper // (gO c46_1).toList = l} := ⟨_, by conv => (lhs; whnf)⟩
noncomputable def c46_2 : Code := gR c46_0
noncomputable def n46_2 : S → RS := run (annT 46) c46_2
noncomputable def c46_3 : Code := gL c46_2
noncomputable def n46_3 : S → RS := run (annT 46) c46_3
noncomputable def c46_4 : Code := gL c46_3
noncomputable def n46_4 : S → RS := run (annT 46) c46_4
noncomputable def o46_4 : {l : List Oper // (gO c46_4).toList = l} := ⟨_, by conv => (lhs; whnf)⟩
noncomputable def c46_5 : Code := gR c46_3
noncomputable def n46_5 : S → RS := run (annT 46) c46_5
noncomputable def c46_6 : Code := gT c46_5
noncomputable def n46_6 : S → RS := run (annT 46) c46_6
noncomputable def c46_7 : Code := gL c46_6
noncomputable def n46_7 : S → RS := run (annT 46) c46_7
noncomputable def o46_7 : {l : List Oper // (gO c46_7).toList = l} := ⟨_, by conv => (lhs; whnf)⟩
noncomputable def c46_8 : Code := gR c46_6
noncomputable def n46_8 : S → RS := run (annT 46) c46_8
noncomputable def c46_9 : Code := gF c46_5
noncomputable def n46_9 : S → RS := run (annT 46) c46_9
noncomputable def c46_10 : Code := gR c46_2
noncomputable def n46_10 : S → RS := run (annT 46) c46_10
noncomputable def c46_11 : Code := gL c46_10
noncomputable def n46_11 : S → RS := run (annT 46) c46_11
noncomputable def o46_11 : {l : List Oper // (gO c46_11).toList = l} := ⟨_, by conv => (lhs; whnf)⟩
noncomputable def c46_12 : Code := gR c46_10
noncomputable def n46_12 : S → RS := run (annT 46) c46_12
theorem r_n46_1 (s : S) : n46_1 s = behK 2 (stepsO X (annT 46) C (gO c46_1) o46_1.1 s) := q_region (annT 46) s 0 _ false rfl _ _ rfl rfl o46_1.2
theorem g_o46_1 (j : Nat) : gdst (gO c46_1) j = (o46_1.1[j]?).bind Oper.dst := gd_eq o46_1.2 j
theorem r_n46_4 (s : S) : n46_4 s = behK 34 (stepsO X (annT 46) C (gO c46_4) o46_4.1 s) := q_region (annT 46) s 1 _ false rfl _ _ rfl rfl o46_4.2
theorem g_o46_4 (j : Nat) : gdst (gO c46_4) j = (o46_4.1[j]?).bind Oper.dst := gd_eq o46_4.2 j
theorem r_n46_7 (s : S) : n46_7 s = behK 4 (stepsO X (annT 46) C (gO c46_7) o46_7.1 s) := q_region (annT 46) s 2 _ false rfl _ _ rfl rfl o46_7.2
theorem g_o46_7 (j : Nat) : gdst (gO c46_7) j = (o46_7.1[j]?).bind Oper.dst := gd_eq o46_7.2 j
theorem r_n46_8 (s : S) : n46_8 s = some (.ret, s) := run_ret _ s
theorem r_n46_6 (s : S) : n46_6 s = contK n46_8 (n46_7 s) := q_seq _ c46_7 c46_8 s
theorem r_n46_9 (s : S) : n46_9 s = some (.norm, s) := run_skip _ s
theorem r_n46_5 (s : S) : n46_5 s = condK (opv s.t (.tmp 5)) n46_6 n46_9 s := q_cond _ c46_6 c46_9 s (.tmp 5)
theorem r_n46_3 (s : S) : n46_3 s = contK n46_5 (n46_4 s) := q_seq _ c46_4 c46_5 s
theorem r_n46_11 (s : S) : n46_11 s = behK 4 (stepsO X (annT 46) C (gO c46_11) o46_11.1 s) := q_region (annT 46) s 3 _ false rfl _ _ rfl rfl o46_11.2
theorem g_o46_11 (j : Nat) : gdst (gO c46_11) j = (o46_11.1[j]?).bind Oper.dst := gd_eq o46_11.2 j
theorem r_n46_12 (s : S) : n46_12 s = some (.ret, s) := run_ret _ s
theorem r_n46_10 (s : S) : n46_10 s = contK n46_12 (n46_11 s) := q_seq _ c46_11 c46_12 s
theorem r_n46_2 (s : S) : n46_2 s = contK n46_10 (n46_3 s) := q_seq _ c46_3 c46_10 s
theorem r_n46_0 (s : S) : n46_0 s = contK n46_2 (n46_1 s) := q_seq _ c46_1 c46_2 s
theorem va_46 : (annT 46).virt = [] := rfl
theorem wa_46 : (annT 46).wr = [] := rfl
theorem ya_46 : (annT 46).ty = [] := rfl
theorem cv_46 (call : Eng.Call) (wr : Bool) (args : List AV) (st : Store) : callV X call wr 46 args st = cvP call wr 46 args st (fzAll (fz false st 6) args) := cv_pure rfl rfl call wr args st
theorem p46 (ds : List D) : pureCall C 46 ds = ((n46_0 ⟨argsT 0 (ds.map .d), []⟩).bind (bodyR [.tmp 2])).bind prOf := P_eq Try.f46 rfl rfl rfl rfl ds
theorem q46 (vs : List AV) (st : Store) : C 46 vs st = (n46_0 ⟨argsT 0 vs, st⟩).bind (bodyR [.tmp 2]) := C_eq Try.f46 rfl rfl rfl rfl vs st
attribute [go_sem] r_n46_1 g_o46_1 o46_1 r_n46_4 g_o46_4 o46_4 r_n46_7 g_o46_7 o46_7 r_n46_8 r_n46_6 r_n46_9 r_n46_5 r_n46_3 r_n46_11 g_o46_11 o46_11 r_n46_12 r_n46_10 r_n46_2 r_n46_0 va_46 wa_46 ya_46 cv_46

noncomputable def c33_0 : Code := Try.f33.body.getD .skip
noncomputable def n33_0 : S → RS := run (annT 33) c33_0
noncomputable def c33_1 : Code := gL c33_0
noncomputable def n33_1 : S → RS := run (annT 33) c33_1
noncomputable def o33_1 : {l : List Oper // (gO c33_1).toList = l} := ⟨_, by conv => (lhs; whnf)⟩
noncomputable def c33_2 : Code := gR c33_0
noncomputable def n33_2 : S → RS := run (annT 33) c33_2
noncomputable def c33_3 : Code := gL c33_2
noncomputable def n33_3 : S → RS := run (annT 33) c33_3
noncomputable def c33_4 : Code := gL c33_3
noncomputable def n33_4 : S → RS := run (annT 33) c33_4
noncomputable def o33_4 : {l : List Oper // (gO c33_4).toList = l} := ⟨_, by conv => (lhs; whnf)⟩
noncomputable def c33_5 : Code := gR c33_3
noncomputable def n33_5 : S → RS := run (annT 33) c33_5
noncomputable def c33_6 : Code := gT c33_5
noncomputable def n33_6 : S → RS := run (annT 33) c33_6
noncomputable def c33_7 : Code := gL c33_6
noncomputable def n33_7 : S → RS := run (annT 33) c33_7
noncomputable def o33_7 : {l : List Oper // (gO c33_7).toList = l} := ⟨_, by conv => (lhs; whnf)⟩
noncomputable def c33_8 : Code := gR c33_6
noncomputable def n33_8 : S → RS := run (annT 33) c33_8
noncomputable def c33_9 : Code := gF c33_5
noncomputable def n33_9 : S → RS := run (annT 33) c33_9
noncomputable def c33_10 : Code := gR c33_2
noncomputable def n33_10 : S → RS := run (annT 33) c33_10
noncomputable def c33_11 : Code := gL c33_10
noncomputable def n33_11 : S → RS := run (annT 33) c33_11
noncomputable def c33_12 : Code := gL c33_11
noncomputable def n33_12 : S → RS := run (annT 33) c33_12
noncomputable def o33_12 : {l : List Oper // (gO c33_12).toList = l} := ⟨_, by conv => (lhs; whnf)⟩
noncomputable def c33_13 : Code := gR c33_11
noncomputable def n33_13 : S → RS := run (annT 33) c33_13
noncomputable def c33_14 : Code := gB c33_13
noncomputable def n33_14 : S → RS := run (annT 33) c33_14
noncomputable def c33_15 : Code := gB c33_14
noncomputable def n33_15 : S → RS := run (annT 33) c33_15
noncomputable def c33_16 : Code := gL c33_15
noncomputable def n33_16 : S → RS := run (annT 33) c33_16
noncomputable def c33_17 : Code := gL c33_16
noncomputable def n33_17 : S → RS := run (annT 33) c33_17
noncomputable def o33_17 : {l : List Oper // (gO c33_17).toList = l} := ⟨_, by conv => (lhs; whnf)⟩
noncomputable def c33_18 : Code := gR c33_16
noncomputable def n33_18 : S → RS := run (annT 33) c33_18
noncomputable def c33_19 : Code := gT c33_18
noncomputable def n33_19 : S → RS := run (annT 33) c33_19
noncomputable def c33_20 : Code := gF c33_18
noncomputable def n33_20 : S → RS := run (annT 33) c33_20
noncomputable def c33_21 : Code := gR c33_15
noncomputable def n33_21 : S → RS := run (annT 33) c33_21
noncomputable def c33_22 : Code := gL c33_21
noncomputable def n33_22 : S → RS := run (annT 33) c33_22
noncomputable def c33_23 : Code := gB c33_22
noncomputable def n33_23 : S → RS := run (annT 33) c33_23
noncomputable def c33_24 : Code := gL c33_23
noncomputable def n33_24 : S → RS := run (annT 33) c33_24
noncomputable def o33_24 : {l : List Oper // (gO c33_24).toList = l} := ⟨_, by conv => (lhs; whnf)⟩
noncomputable def c33_25 : Code := gR c33_23
noncomputable def n33_25 : S → RS := run (annT 33) c33_25
noncomputable def c33_26 : Code := gT c33_25
noncomputable def n33_26 : S → RS := run (annT 33) c33_26
noncomputable def c33_27 : Code := gL c33_26
noncomputable def n33_27 : S → RS := run (annT 33) c33_27
noncomputable def o33_27 : {l : List Oper // (gO c33_27).toList = l} := ⟨_, by conv => (lhs; whnf)⟩
noncomputable def c33_28 : Code := gR c33_26
noncomputable def n33_28 : S → RS := run (annT 33) c33_28
noncomputable def c33_29 : Code := gF c33_25
noncomputable def n33_29 : S → RS := run (annT 33) c33_29
noncomputable def c33_30 : Code := gR c33_21
noncomputable def n33_30 : S → RS := run (annT 33) c33_30
noncomputable def o33_30 : {l : List Oper // (gO c33_30).toList = l} := ⟨_, by conv => (lhs; whnf)⟩
noncomputable def c33_31 : Code := gR c33_10
noncomputable def n33_31 : S → RS := run (annT 33) c33_31
noncomputable def c33_32 : Code := gL c33_31
noncomputable def n33_32 : S → RS := run (annT 33) c33_32
noncomputable def o33_32 : {l : List Oper // (gO c33_32).toList = l} := ⟨_, by conv => (lhs; whnf)⟩
noncomputable def c33_33 : Code := gR c33_31
noncomputable def n33_33 : S → RS := run (annT 33) c33_33
theorem r_n33_1 (s : S) : n33_1 s = behK 12 (stepsO X (annT 33) C (gO c33_1) o33_1.1 s) := q_region (annT 33) s 0 _ false rfl _ _ rfl rfl o33_1.2
theorem g_o33_1 (j : Nat) : gdst (gO c33_1) j = (o33_1.1[j]?).bind Oper.dst := gd_eq o33_1.2 j
theorem r_n33_4 (s : S) : n33_4 s = behK 1099511627788 (stepsO X (annT 33) C (gO c33_4) o33_4.1 s) := q_region (annT 33) s 1 _ false rfl _ _ rfl rfl o33_4.2
theorem g_o33_4 (j : Nat) : gdst (gO c33_4) j = (o33_4.1[j]?).bind Oper.dst := gd_eq o33_4.2 j
theorem r_n33_7 (s : S) : n33_7 s = behK 16 (stepsO X (annT 33) C (gO c33_7) o33_7.1 s) := q_region (annT 33) s 2 _ false rfl _ _ rfl rfl o33_7.2
theorem g_o33_7 (j : Nat) : gdst (gO c33_7) j = (o33_7.1[j]?).bind Oper.dst := gd_eq o33_7.2 j
theorem r_n33_8 (s : S) : n33_8 s = some (.ret, s) := run_ret _ s
theorem r_n33_6 (s : S) : n33_6 s = contK n33_8 (n33_7 s) := q_seq _ c33_7 c33_8 s
theorem r_n33_9 (s : S) : n33_9 s = some (.norm, s) := run_skip _ s
theorem r_n33_5 (s : S) : n33_5 s = condK (opv s.t (.tmp 40)) n33_6 n33_9 s := q_cond _ c33_6 c33_9 s (.tmp 40)
theorem r_n33_3 (s : S) : n33_3 s = contK n33_5 (n33_4 s) := q_seq _ c33_4 c33_5 s
theorem r_n33_12 (s : S) : n33_12 s = behK 44 (stepsO X (annT 33) C (gO c33_12) o33_12.1 s) := q_region (annT 33) s 3 _ false rfl _ _ rfl rfl o33_12.2
theorem g_o33_12 (j : Nat) : gdst (gO c33_12) j = (o33_12.1[j]?).bind Oper.dst := gd_eq o33_12.2 j
theorem r_n33_17 (s : S) : n33_17 s = behK 35184372088876 (stepsO X (annT 33) C (gO c33_17) o33_17.1 s) := q_region (annT 33) s 4 _ false rfl _ _ rfl rfl o33_17.2
theorem g_o33_17 (j : Nat) : gdst (gO c33_17) j = (o33_17.1[j]?).bind Oper.dst := gd_eq o33_17.2 j
theorem r_n33_19 (s : S) : n33_19 s = some (.norm, s) := run_skip _ s
theorem r_n33_20 (s : S) : n33_20 s = some (.exit 0, s) := run_exit _ s 0
theorem r_n33_18 (s : S) : n33_18 s = condK (opv s.t (.tmp 45)) n33_19 n33_20 s := q_cond _ c33_19 c33_20 s (.tmp 45)
theorem r_n33_16 (s : S) : n33_16 s = contK n33_18 (n33_17 s) := q_seq _ c33_17 c33_18 s
theorem r_n33_24 (s : S) : n33_24 s = behK 288230376151711788 (stepsO X (annT 33) C (gO c33_24) o33_24.1 s) := q_region (annT 33) s 6 _ true rfl _ _ rfl rfl o33_24.2
theorem g_o33_24 (j : Nat) : gdst (gO c33_24) j = (o33_24.1[j]?).bind Oper.dst := gd_eq o33_24.2 j
theorem r_n33_27 (s : S) : n33_27 s = behK 16 (stepsO X (annT 33) C (gO c33_27) o33_27.1 s) := q_region (annT 33) s 7 _ false rfl _ _ rfl rfl o33_27.2
theorem g_o33_27 (j : Nat) : gdst (gO c33_27) j = (o33_27.1[j]?).bind Oper.dst := gd_eq o33_27.2 j
theorem r_n33_28 (s : S) : n33_28 s = some (.ret, s) := run_ret _ s
theorem r_n33_26 (s : S) : n33_26 s = contK n33_28 (n33_27 s) := q_seq _ c33_27 c33_28 s
theorem r_n33_29 (s : S) : n33_29 s = some (.norm, s) := run_skip _ s
theorem r_n33_25 (s : S) : n33_25 s = condK (opv s.t (.tmp 58)) n33_26 n33_29 s := q_cond _ c33_26 c33_29 s (.tmp 58)
theorem r_n33_23 (s : S) : n33_23 s = contK n33_25 (n33_24 s) := q_seq _ c33_24 c33_25 s
theorem r_n33_22 (s : S) : n33_22 s = blkK 1 (n33_23 s) := q_block _ c33_23 s 1
theorem r_n33_30 (s : S) : n33_30 s = behK 44 (stepsO X (annT 33) C (gO c33_30) o33_30.1 s) := q_region (annT 33) s 5 _ false rfl _ _ rfl rfl o33_30.2
theorem g_o33_30 (j : Nat) : gdst (gO c33_30) j = (o33_30.1[j]?).bind Oper.dst := gd_eq o33_30.2 j
theorem r_n33_21 (s : S) : n33_21 s = contK n33_30 (n33_22 s) := q_seq _ c33_22 c33_30 s
theorem r_n33_15 (s : S) : n33_15 s = contK n33_21 (n33_16 s) := q_seq _ c33_16 c33_21 s
theorem r_n33_14 (s : S) : n33_14 s = loopK 44 s.st.length n33_14 (n33_15 s) := q_loop (annT 33) c33_15 s _ _ rfl rfl
theorem r_n33_13 (s : S) : n33_13 s = blkK 0 (n33_14 s) := q_block _ c33_14 s 0
theorem r_n33_11 (s : S) : n33_11 s = contK n33_13 (n33_12 s) := q_seq _ c33_12 c33_13 s
theorem r_n33_32 (s : S) : n33_32 s = behK 16 (stepsO X (annT 33) C (gO c33_32) o33_32.1 s) := q_region (annT 33) s 8 _ false rfl _ _ rfl rfl o33_32.2
theorem g_o33_32 (j : Nat) : gdst (gO c33_32) j = (o33_32.1[j]?).bind Oper.dst := gd_eq o33_32.2 j
theorem r_n33_33 (s : S) : n33_33 s = some (.ret, s) := run_ret _ s
theorem r_n33_31 (s : S) : n33_31 s = contK n33_33 (n33_32 s) := q_seq _ c33_32 c33_33 s
theorem r_n33_10 (s : S) : n33_10 s = contK n33_31 (n33_11 s) := q_seq _ c33_11 c33_31 s
theorem r_n33_2 (s : S) : n33_2 s = contK n33_10 (n33_3 s) := q_seq _ c33_3 c33_10 s
theorem r_n33_0 (s : S) : n33_0 s = contK n33_2 (n33_1 s) := q_seq _ c33_1 c33_2 s
theorem va_33 : (annT 33).virt = [] := rfl
theorem wa_33 : (annT 33).wr = [] := rfl
theorem ya_33 : (annT 33).ty = [] := rfl
theorem cv_33 (call : Eng.Call) (wr : Bool) (args : List AV) (st : Store) : callV X call wr 33 args st = cvP call wr 33 args st (fzAll (fz false st 6) args) := cv_pure rfl rfl call wr args st
theorem p33 (ds : List D) : pureCall C 33 ds = ((n33_0 ⟨argsT 0 (ds.map .d), []⟩).bind (bodyR [.tmp 4])).bind prOf := P_eq Try.f33 rfl rfl rfl rfl ds
theorem q33 (vs : List AV) (st : Store) : C 33 vs st = (n33_0 ⟨argsT 0 vs, st⟩).bind (bodyR [.tmp 4]) := C_eq Try.f33 rfl rfl rfl rfl vs st
attribute [go_sem] r_n33_1 g_o33_1 o33_1 r_n33_4 g_o33_4 o33_4 r_n33_7 g_o33_7 o33_7 r_n33_8 r_n33_6 r_n33_9 r_n33_5 r_n33_3 r_n33_12 g_o33_12 o33_12 r_n33_17 g_o33_17 o33_17 r_n33_19 r_n33_20 r_n33_18 r_n33_16 r_n33_24 g_o33_24 o33_24 r_n33_27 g_o33_27 o33_27 r_n33_28 r_n33_26 r_n33_29 r_n33_25 r_n33_23 r_n33_22 r_n33_30 g_o33_30 o33_30 r_n33_21 r_n33_15 r_n33_13 r_n33_11 r_n33_32 g_o33_32 o33_32 r_n33_33 r_n33_31 r_n33_10 r_n33_2 r_n33_0 va_33 wa_33 ya_33 cv_33

noncomputable def c89_0 : Code := Try.f89.body.getD .skip
noncomputable def n89_0 : S → RS := run (annT 89) c89_0
noncomputable def c89_1 : Code := gL c89_0
noncomputable def n89_1 : S → RS := run (annT 89) c89_1
noncomputable def o89_1 : {l : List Oper // (gO c89_1).toList = l} := ⟨_, by conv => (lhs; whnf)⟩
noncomputable def c89_2 : Code := gR c89_0
noncomputable def n89_2 : S → RS := run (annT 89) c89_2
noncomputable def c89_3 : Code := gL c89_2
noncomputable def n89_3 : S → RS := run (annT 89) c89_3
noncomputable def c89_4 : Code := gL c89_3
noncomputable def n89_4 : S → RS := run (annT 89) c89_4
noncomputable def o89_4 : {l : List Oper // (gO c89_4).toList = l} := ⟨_, by conv => (lhs; whnf)⟩
noncomputable def c89_5 : Code := gR c89_3
noncomputable def n89_5 : S → RS := run (annT 89) c89_5
noncomputable def c89_6 : Code := gT c89_5
noncomputable def n89_6 : S → RS := run (annT 89) c89_6
noncomputable def c89_7 : Code := gL c89_6
noncomputable def n89_7 : S → RS := run (annT 89) c89_7
noncomputable def o89_7 : {l : List Oper // (gO c89_7).toList = l} := ⟨_, by conv => (lhs; whnf)⟩
noncomputable def c89_8 : Code := gR c89_6
noncomputable def n89_8 : S → RS := run (annT 89) c89_8
noncomputable def c89_9 : Code := gF c89_5
noncomputable def n89_9 : S → RS := run (annT 89) c89_9
noncomputable def c89_10 : Code := gR c89_2
noncomputable def n89_10 : S → RS := run (annT 89) c89_10
noncomputable def c89_11 : Code := gL c89_10
noncomputable def n89_11 : S → RS := run (annT 89) c89_11
noncomputable def o89_11 : {l : List Oper // (gO c89_11).toList = l} := ⟨_, by conv => (lhs; whnf)⟩
noncomputable def c89_12 : Code := gR c89_10
noncomputable def n89_12 : S → RS := run (annT 89) c89_12
theorem r_n89_1 (s : S) : n89_1 s = behK 62 (stepsO X (annT 89) C (gO c89_1) o89_1.1 s) := q_region (annT 89) s 0 _ false rfl _ _ rfl rfl o89_1.2
theorem g_o89_1 (j : Nat) : gdst (gO c89_1) j = (o89_1.1[j]?).bind Oper.dst := gd_eq o89_1.2 j
theorem r_n89_4 (s : S) : n89_4 s = behK 68719476776 (stepsO X (annT 89) C (gO c89_4) o89_4.1 s) := q_region (annT 89) s 1 _ false rfl _ _ rfl rfl o89_4.2
theorem g_o89_4 (j : Nat) : gdst (gO c89_4) j = (o89_4.1[j]?).bind Oper.dst := gd_eq o89_4.2 j
theorem r_n89_7 (s : S) : n89_7 s = behK 1024 (stepsO X (annT 89) C (gO c89_7) o89_7.1 s) := q_region (annT 89) s 2 _ false rfl _ _ rfl rfl o89_7.2
theorem g_o89_7 (j : Nat) : gdst (gO c89_7) j = (o89_7.1[j]?).bind Oper.dst := gd_eq o89_7.2 j
theorem r_n89_8 (s : S) : n89_8 s = some (.ret, s) := run_ret _ s
theorem r_n89_6 (s : S) : n89_6 s = contK n89_8 (n89_7 s) := q_seq _ c89_7 c89_8 s
theorem r_n89_9 (s : S) : n89_9 s = some (.norm, s) := run_skip _ s
theorem r_n89_5 (s : S) : n89_5 s = condK (opv s.t (.tmp 36)) n89_6 n89_9 s := q_cond _ c89_6 c89_9 s (.tmp 36)
theorem r_n89_3 (s : S) : n89_3 s = contK n89_5 (n89_4 s) := q_seq _ c89_4 c89_5 s
theorem r_n89_11 (s : S) : n89_11 s = behK 1024 (stepsO X (annT 89) C (gO c89_11) o89_11.1 s) := q_region (annT 89) s 3 _ false rfl _ _ rfl rfl o89_11.2
theorem g_o89_11 (j : Nat) : gdst (gO c89_11) j = (o89_11.1[j]?).bind Oper.dst := gd_eq o89_11.2 j
theorem r_n89_12 (s : S) : n89_12 s = some (.ret, s) := run_ret _ s
theorem r_n89_10 (s : S) : n89_10 s = contK n89_12 (n89_11 s) := q_seq _ c89_11 c89_12 s
theorem r_n89_2 (s : S) : n89_2 s = contK n89_10 (n89_3 s) := q_seq _ c89_3 c89_10 s
theorem r_n89_0 (s : S) : n89_0 s = contK n89_2 (n89_1 s) := q_seq _ c89_1 c89_2 s
theorem va_89 : (annT 89).virt = [] := rfl
theorem wa_89 : (annT 89).wr = [] := rfl
theorem ya_89 : (annT 89).ty = [] := rfl
theorem cv_89 (call : Eng.Call) (wr : Bool) (args : List AV) (st : Store) : callV X call wr 89 args st = cvP call wr 89 args st (fzAll (fz false st 6) args) := cv_pure rfl rfl call wr args st
theorem p89 (ds : List D) : pureCall C 89 ds = ((n89_0 ⟨argsT 0 (ds.map .d), []⟩).bind (bodyR [.tmp 10])).bind prOf := P_eq Try.f89 rfl rfl rfl rfl ds
theorem q89 (vs : List AV) (st : Store) : C 89 vs st = (n89_0 ⟨argsT 0 vs, st⟩).bind (bodyR [.tmp 10]) := C_eq Try.f89 rfl rfl rfl rfl vs st
attribute [go_sem] r_n89_1 g_o89_1 o89_1 r_n89_4 g_o89_4 o89_4 r_n89_7 g_o89_7 o89_7 r_n89_8 r_n89_6 r_n89_9 r_n89_5 r_n89_3 r_n89_11 g_o89_11 o89_11 r_n89_12 r_n89_10 r_n89_2 r_n89_0 va_89 wa_89 ya_89 cv_89

noncomputable def c88_0 : Code := Try.f88.body.getD .skip
noncomputable def n88_0 : S → RS := run (annT 88) c88_0
noncomputable def c88_1 : Code := gL c88_0
noncomputable def n88_1 : S → RS := run (annT 88) c88_1
noncomputable def o88_1 : {l : List Oper // (gO c88_1).toList = l} := ⟨_, by conv => (lhs; whnf)⟩
noncomputable def c88_2 : Code := gR c88_0
noncomputable def n88_2 : S → RS := run (annT 88) c88_2
noncomputable def c88_3 : Code := gL c88_2
noncomputable def n88_3 : S → RS := run (annT 88) c88_3
noncomputable def c88_4 : Code := gL c88_3
noncomputable def n88_4 : S → RS := run (annT 88) c88_4
noncomputable def o88_4 : {l : List Oper // (gO c88_4).toList = l} := ⟨_, by conv => (lhs; whnf)⟩
noncomputable def c88_5 : Code := gR c88_3
noncomputable def n88_5 : S → RS := run (annT 88) c88_5
noncomputable def c88_6 : Code := gT c88_5
noncomputable def n88_6 : S → RS := run (annT 88) c88_6
noncomputable def c88_7 : Code := gL c88_6
noncomputable def n88_7 : S → RS := run (annT 88) c88_7
noncomputable def o88_7 : {l : List Oper // (gO c88_7).toList = l} := ⟨_, by conv => (lhs; whnf)⟩
noncomputable def c88_8 : Code := gR c88_6
noncomputable def n88_8 : S → RS := run (annT 88) c88_8
noncomputable def c88_9 : Code := gF c88_5
noncomputable def n88_9 : S → RS := run (annT 88) c88_9
noncomputable def c88_10 : Code := gR c88_2
noncomputable def n88_10 : S → RS := run (annT 88) c88_10
noncomputable def c88_11 : Code := gL c88_10
noncomputable def n88_11 : S → RS := run (annT 88) c88_11
noncomputable def c88_12 : Code := gL c88_11
noncomputable def n88_12 : S → RS := run (annT 88) c88_12
noncomputable def o88_12 : {l : List Oper // (gO c88_12).toList = l} := ⟨_, by conv => (lhs; whnf)⟩
noncomputable def c88_13 : Code := gR c88_11
noncomputable def n88_13 : S → RS := run (annT 88) c88_13
noncomputable def c88_14 : Code := gB c88_13
noncomputable def n88_14 : S → RS := run (annT 88) c88_14
noncomputable def c88_15 : Code := gB c88_14
noncomputable def n88_15 : S → RS := run (annT 88) c88_15
noncomputable def c88_16 : Code := gL c88_15
noncomputable def n88_16 : S → RS := run (annT 88) c88_16
noncomputable def c88_17 : Code := gL c88_16
noncomputable def n88_17 : S → RS := run (annT 88) c88_17
noncomputable def o88_17 : {l : List Oper // (gO c88_17).toList = l} := ⟨_, by conv => (lhs; whnf)⟩
noncomputable def c88_18 : Code := gR c88_16
noncomputable def n88_18 : S → RS := run (annT 88) c88_18
noncomputable def c88_19 : Code := gT c88_18
noncomputable def n88_19 : S → RS := run (annT 88) c88_19
noncomputable def c88_20 : Code := gF c88_18
noncomputable def n88_20 : S → RS := run (annT 88) c88_20
noncomputable def c88_21 : Code := gR c88_15
noncomputable def n88_21 : S → RS := run (annT 88) c88_21
noncomputable def c88_22 : Code := gL c88_21
noncomputable def n88_22 : S → RS := run (annT 88) c88_22
noncomputable def c88_23 : Code := gB c88_22
noncomputable def n88_23 : S → RS := run (annT 88) c88_23
noncomputable def c88_24 : Code := gL c88_23
noncomputable def n88_24 : S → RS := run (annT 88) c88_24
noncomputable def o88_24 : {l : List Oper // (gO c88_24).toList = l} := ⟨_, by conv => (lhs; whnf)⟩
noncomputable def c88_25 : Code := gR c88_23
noncomputable def n88_25 : S → RS := run (annT 88) c88_25
noncomputable def c88_26 : Code := gL c88_25
noncomputable def n88_26 : S → RS := run (annT 88) c88_26
noncomputable def o88_26 : {l : List Oper // (gO c88_26).toList = l} := ⟨_, by conv => (lhs; whnf)⟩
noncomputable def c88_27 : Code := gR c88_25
noncomputable def n88_27 : S → RS := run (annT 88) c88_27
noncomputable def c88_28 : Code := gL c88_27
noncomputable def n88_28 : S → RS := run (annT 88) c88_28
noncomputable def o88_28 : {l : List Oper // (gO c88_28).toList = l} := ⟨_, by conv => (lhs; whnf)⟩
noncomputable def c88_29 : Code := gR c88_27
noncomputable def n88_29 : S → RS := run (annT 88) c88_29
noncomputable def c88_30 : Code := gT c88_29
noncomputable def n88_30 : S → RS := run (annT 88) c88_30
noncomputable def c88_31 : Code := gL c88_30
noncomputable def n88_31 : S → RS := run (annT 88) c88_31
noncomputable def o88_31 : {l : List Oper // (gO c88_31).toList = l} := ⟨_, by conv => (lhs; whnf)⟩
noncomputable def c88_32 : Code := gR c88_30
noncomputable def n88_32 : S → RS := run (annT 88) c88_32
noncomputable def c88_33 : Code := gF c88_29
noncomputable def n88_33 : S → RS := run (annT 88) c88_33
noncomputable def c88_34 : Code := gR c88_21
noncomputable def n88_34 : S → RS := run (annT 88) c88_34
noncomputable def o88_34 : {l : List Oper // (gO c88_34).toList = l} := ⟨_, by conv => (lhs; whnf)⟩
noncomputable def c88_35 : Code := gR c88_10
noncomputable def n88_35 : S → RS := run (annT 88) c88_35
noncomputable def c88_36 : Code := gL c88_35
noncomputable def n88_36 : S → RS := run (annT 88) c88_36
noncomputable def o88_36 : {l : List Oper // (gO c88_36).toList = l} := ⟨_, by conv => (lhs; whnf)⟩
noncomputable def c88_37 : Code := gR c88_35
noncomputable def n88_37 : S → RS := run (annT 88) c88_37
theorem r_n88_1 (s : S) : n88_1 s = behK 1 (stepsO X (annT 88) C (gO c88_1) o88_1.1 s) := q_region (annT 88) s 0 _ false rfl _ _ rfl rfl o88_1.2
theorem g_o88_1 (j : Nat) : gdst (gO c88_1) j = (o88_1.1[j]?).bind Oper.dst := gd_eq o88_1.2 j
theorem r_n88_4 (s : S) : n88_4 s = behK 8193 (stepsO X (annT 88) C (gO c88_4) o88_4.1 s) := q_region (annT 88) s 1 _ false rfl _ _ rfl rfl o88_4.2
theorem g_o88_4 (j : Nat) : gdst (gO c88_4) j = (o88_4.1[j]?).bind Oper.dst := gd_eq o88_4.2 j
theorem r_n88_7 (s : S) : n88_7 s = behK 4 (stepsO X (annT 88) C (gO c88_7) o88_7.1 s) := q_region (annT 88) s 2 _ false rfl _ _ rfl rfl o88_7.2
theorem g_o88_7 (j : Nat) : gdst (gO c88_7) j = (o88_7.1[j]?).bind Oper.dst := gd_eq o88_7.2 j
theorem r_n88_8 (s : S) : n88_8 s = some (.ret, s) := run_ret _ s
theorem r_n88_6 (s : S) : n88_6 s = contK n88_8 (n88_7 s) := q_seq _ c88_7 c88_8 s
theorem r_n88_9 (s : S) : n88_9 s = some (.norm, s) := run_skip _ s
theorem r_n88_5 (s : S) : n88_5 s = condK (opv s.t (.tmp 13)) n88_6 n88_9 s := q_cond _ c88_6 c88_9 s (.tmp 13)
theorem r_n88_3 (s : S) : n88_3 s = contK n88_5 (n88_4 s) := q_seq _ c88_4 c88_5 s
theorem r_n88_12 (s : S) : n88_12 s = behK 9 (stepsO X (annT 88) C (gO c88_12) o88_12.1 s) := q_region (annT 88) s 3 _ false rfl _ _ rfl rfl o88_12.2
theorem g_o88_12 (j : Nat) : gdst (gO c88_12) j = (o88_12.1[j]?).bind Oper.dst := gd_eq o88_12.2 j
theorem r_n88_17 (s : S) : n88_17 s = behK 131081 (stepsO X (annT 88) C (gO c88_17) o88_17.1 s) := q_region (annT 88) s 4 _ false rfl _ _ rfl rfl o88_17.2
theorem g_o88_17 (j : Nat) : gdst (gO c88_17) j = (o88_17.1[j]?).bind Oper.dst := gd_eq o88_17.2 j
theorem r_n88_19 (s : S) : n88_19 s = some (.norm, s) := run_skip _ s
theorem r_n88_20 (s : S) : n88_20 s = some (.exit 0, s) := run_exit _ s 0
theorem r_n88_18 (s : S) : n88_18 s = condK (opv s.t (.tmp 17)) n88_19 n88_20 s := q_cond _ c88_19 c88_20 s (.tmp 17)
theorem r_n88_16 (s : S) : n88_16 s = contK n88_18 (n88_17 s) := q_seq _ c88_17 c88_18 s
theorem r_n88_24 (s : S) : n88_24 s = behK 25 (stepsO X (annT 88) C (gO c88_24) o88_24.1 s) := q_region (annT 88) s 6 _ false rfl _ _ rfl rfl o88_24.2
theorem g_o88_24 (j : Nat) : gdst (gO c88_24) j = (o88_24.1[j]?).bind Oper.dst := gd_eq o88_24.2 j
theorem r_n88_26 (s : S) : n88_26 s = behK 57 (stepsO X (annT 88) C (gO c88_26) o88_26.1 s) := q_region (annT 88) s 7 _ false rfl _ _ rfl rfl o88_26.2
theorem g_o88_26 (j : Nat) : gdst (gO c88_26) j = (o88_26.1[j]?).bind Oper.dst := gd_eq o88_26.2 j
theorem r_n88_28 (s : S) : n88_28 s = behK 36028797018963977 (stepsO X (annT 88) C (gO c88_28) o88_28.1 s) := q_region (annT 88) s 8 _ false rfl _ _ rfl rfl o88_28.2
theorem g_o88_28 (j : Nat) : gdst (gO c88_28) j = (o88_28.1[j]?).bind Oper.dst := gd_eq o88_28.2 j
theorem r_n88_31 (s : S) : n88_31 s = behK 4 (stepsO X (annT 88) C (gO c88_31) o88_31.1 s) := q_region (annT 88) s 9 _ false rfl _ _ rfl rfl o88_31.2
theorem g_o88_31 (j : Nat) : gdst (gO c88_31) j = (o88_31.1[j]?).bind Oper.dst := gd_eq o88_31.2 j
theorem r_n88_32 (s : S) : n88_32 s = some (.ret, s) := run_ret _ s
theorem r_n88_30 (s : S) : n88_30 s = contK n88_32 (n88_31 s) := q_seq _ c88_31 c88_32 s
theorem r_n88_33 (s : S) : n88_33 s = some (.norm, s) := run_skip _ s
theorem r_n88_29 (s : S) : n88_29 s = condK (opv s.t (.tmp 55)) n88_30 n88_33 s := q_cond _ c88_30 c88_33 s (.tmp 55)
theorem r_n88_27 (s : S) : n88_27 s = contK n88_29 (n88_28 s) := q_seq _ c88_28 c88_29 s
theorem r_n88_25 (s : S) : n88_25 s = contK n88_27 (n88_26 s) := q_seq _ c88_26 c88_27 s
theorem r_n88_23 (s : S) : n88_23 s = contK n88_25 (n88_24 s) := q_seq _ c88_24 c88_25 s
theorem r_n88_22 (s : S) : n88_22 s = blkK 1 (n88_23 s) := q_block _ c88_23 s 1
theorem r_n88_34 (s : S) : n88_34 s = behK 9 (stepsO X (annT 88) C (gO c88_34) o88_34.1 s) := q_region (annT 88) s 5 _ false rfl _ _ rfl rfl o88_34.2
theorem g_o88_34 (j : Nat) : gdst (gO c88_34) j = (o88_34.1[j]?).bind Oper.dst := gd_eq o88_34.2 j
theorem r_n88_21 (s : S) : n88_21 s = contK n88_34 (n88_22 s) := q_seq _ c88_22 c88_34 s
theorem r_n88_15 (s : S) : n88_15 s = contK n88_21 (n88_16 s) := q_seq _ c88_16 c88_21 s
theorem r_n88_14 (s : S) : n88_14 s = loopK 9 s.st.length n88_14 (n88_15 s) := q_loop (annT 88) c88_15 s _ _ rfl rfl
theorem r_n88_13 (s : S) : n88_13 s = blkK 0 (n88_14 s) := q_block _ c88_14 s 0
theorem r_n88_11 (s : S) : n88_11 s = contK n88_13 (n88_12 s) := q_seq _ c88_12 c88_13 s
theorem r_n88_36 (s : S) : n88_36 s = behK 4 (stepsO X (annT 88) C (gO c88_36) o88_36.1 s) := q_region (annT 88) s 10 _ false rfl _ _ rfl rfl o88_36.2
theorem g_o88_36 (j : Nat) : gdst (gO c88_36) j = (o88_36.1[j]?).bind Oper.dst := gd_eq o88_36.2 j
theorem r_n88_37 (s : S) : n88_37 s = some (.ret, s) := run_ret _ s
theorem r_n88_35 (s : S) : n88_35 s = contK n88_37 (n88_36 s) := q_seq _ c88_36 c88_37 s
theorem r_n88_10 (s : S) : n88_10 s = contK n88_35 (n88_11 s) := q_seq _ c88_11 c88_35 s
theorem r_n88_2 (s : S) : n88_2 s = contK n88_10 (n88_3 s) := q_seq _ c88_3 c88_10 s
theorem r_n88_0 (s : S) : n88_0 s = contK n88_2 (n88_1 s) := q_seq _ c88_1 c88_2 s
theorem va_88 : (annT 88).virt = [] := rfl
theorem wa_88 : (annT 88).wr = [] := rfl
theorem ya_88 : (annT 88).ty = [] := rfl
theorem cv_88 (call : Eng.Call) (wr : Bool) (args : List AV) (st : Store) : callV X call wr 88 args st = cvP call wr 88 args st (fzAll (fz false st 6) args) := cv_pure rfl rfl call wr args st
theorem p88 (ds : List D) : pureCall C 88 ds = ((n88_0 ⟨argsT 0 (ds.map .d), []⟩).bind (bodyR [.tmp 2])).bind prOf := P_eq Try.f88 rfl rfl rfl rfl ds
theorem q88 (vs : List AV) (st : Store) : C 88 vs st = (n88_0 ⟨argsT 0 vs, st⟩).bind (bodyR [.tmp 2]) := C_eq Try.f88 rfl rfl rfl rfl vs st
attribute [go_sem] r_n88_1 g_o88_1 o88_1 r_n88_4 g_o88_4 o88_4 r_n88_7 g_o88_7 o88_7 r_n88_8 r_n88_6 r_n88_9 r_n88_5 r_n88_3 r_n88_12 g_o88_12 o88_12 r_n88_17 g_o88_17 o88_17 r_n88_19 r_n88_20 r_n88_18 r_n88_16 r_n88_24 g_o88_24 o88_24 r_n88_26 g_o88_26 o88_26 r_n88_28 g_o88_28 o88_28 r_n88_31 g_o88_31 o88_31 r_n88_32 r_n88_30 r_n88_33 r_n88_29 r_n88_27 r_n88_25 r_n88_23 r_n88_22 r_n88_34 g_o88_34 o88_34 r_n88_21 r_n88_15 r_n88_13 r_n88_11 r_n88_36 g_o88_36 o88_36 r_n88_37 r_n88_35 r_n88_10 r_n88_2 r_n88_0 va_88 wa_88 ya_88 cv_88

noncomputable def c97_0 : Code := Try.f97.body.getD .skip
noncomputable def n97_0 : S → RS := run (annT 97) c97_0
noncomputable def c97_1 : Code := gL c97_0
noncomputable def n97_1 : S → RS := run (annT 97) c97_1
noncomputable def o97_1 : {l : List Oper // (gO c97_1).toList = l} := ⟨_, by conv => (lhs; whnf)⟩
noncomputable def c97_2 : Code := gR c97_0
noncomputable def n97_2 : S → RS := run (annT 97) c97_2
noncomputable def c97_3 : Code := gL c97_2
noncomputable def n97_3 : S → RS := run (annT 97) c97_3
noncomputable def o97_3 : {l : List Oper // (gO c97_3).toList = l} := ⟨_, by conv => (lhs; whnf)⟩
noncomputable def c97_4 : Code := gR c97_2
noncomputable def n97_4 : S → RS := run (annT 97) c97_4
noncomputable def c97_5 : Code := gL c97_4
noncomputable def n97_5 : S → RS := run (annT 97) c97_5
noncomputable def c97_6 : Code := gL c97_5
noncomputable def n97_6 : S → RS := run (annT 97) c97_6
noncomputable def o97_6 : {l : List Oper // (gO c97_6).toList = l} := ⟨_, by conv => (lhs; whnf)⟩
noncomputable def c97_7 : Code := gR c97_5
noncomputable def n97_7 : S → RS := run (annT 97) c97_7
noncomputable def c97_8 : Code := gT c97_7
noncomputable def n97_8 : S → RS := run (annT 97) c97_8
noncomputable def o97_8 : {l : List Oper // (gO c97_8).toList = l} := ⟨_, by conv => (lhs; whnf)⟩
noncomputable def c97_9 : Code := gF c97_7
noncomputable def n97_9 : S → RS := run (annT 97) c97_9
noncomputable def c97_10 : Code := gR c97_4
noncomputable def n97_10 : S → RS := run (annT 97) c97_10
noncomputable def c97_11 : Code := gL c97_10
noncomputable def n97_11 : S → RS := run (annT 97) c97_11
noncomputable def c97_12 : Code := gL c97_11
noncomputable def n97_12 : S → RS := run (annT 97) c97_12
noncomputable def o97_12 : {l : List Oper // (gO c97_12).toList = l} := ⟨_, by conv => (lhs; whnf)⟩
noncomputable def c97_13 : Code := gR c97_11
noncomputable def n97_13 : S → RS := run (annT 97) c97_13
noncomputable def c97_14 : Code := gT c97_13
noncomputable def n97_14 : S → RS := run (annT 97) c97_14
noncomputable def o97_14 : {l : List Oper // (gO c97_14).toList = l} := ⟨_, by conv => (lhs; whnf)⟩
noncomputable def c97_15 : Code := gF c97_13
noncomputable def n97_15 : S → RS := run (annT 97) c97_15
noncomputable def c97_16 : Code := gR c97_10
noncomputable def n97_16 : S → RS := run (annT 97) c97_16
noncomputable def c97_17 : Code := gL c97_16
noncomputable def n97_17 : S → RS := run (annT 97) c97_17
noncomputable def c97_18 : Code := gL c97_17
noncomputable def n97_18 : S → RS := run (annT 97) c97_18
noncomputable def o97_18 : {l : List Oper // (gO c97_18).toList = l} := ⟨_, by conv => (lhs; whnf)⟩
noncomputable def c97_19 : Code := gR c97_17
noncomputable def n97_19 : S → RS := run (annT 97) c97_19
noncomputable def c97_20 : Code := gT c97_19
noncomputable def n97_20 : S → RS := run (annT 97) c97_20
noncomputable def c97_21 : Code := gL c97_20
noncomputable def n97_21 : S → RS := run (annT 97) c97_21
noncomputable def o97_21 : {l : List Oper // (gO c97_21).toList = l} := ⟨_, by conv => (lhs; whnf)⟩
noncomputable def c97_22 : Code := gR c97_20
noncomputable def n97_22 : S → RS := run (annT 97) c97_22
noncomputable def c97_23 : Code := gF c97_19
noncomputable def n97_23 : S → RS := run (annT 97) c97_23
noncomputable def c97_24 : Code := gR c97_16
noncomputable def n97_24 : S → RS := run (annT 97) c97_24
noncomputable def c97_25 : Code := gL c97_24
noncomputable def n97_25 : S → RS := run (annT 97) c97_25
noncomputable def c97_26 : Code := gL c97_25
noncomputable def n97_26 : S → RS := run (annT 97) c97_26
noncomputable def o97_26 : {l : List Oper // (gO c97_26).toList = l} := ⟨_, by conv => (lhs; whnf)⟩
noncomputable def c97_27 : Code := gR c97_25
noncomputable def n97_27 : S → RS := run (annT 97) c97_27
noncomputable def c97_28 : Code := gB c97_27
noncomputable def n97_28 : S → RS := run (annT 97) c97_28
noncomputable def c97_29 : Code := gB c97_28
noncomputable def n97_29 : S → RS := run (annT 97) c97_29
noncomputable def c97_30 : Code := gL c97_29
noncomputable def n97_30 : S → RS := run (annT 97) c97_30
noncomputable def c97_31 : Code := gL c97_30
noncomputable def n97_31 : S → RS := run (annT 97) c97_31
noncomputable def o97_31 : {l : List Oper // (gO c97_31).toList = l} := ⟨_, by conv => (lhs; whnf)⟩
noncomputable def c97_32 : Code := gR c97_30
noncomputable def n97_32 : S → RS := run (annT 97) c97_32
noncomputable def c97_33 : Code := gT c97_32
noncomputable def n97_33 : S → RS := run (annT 97) c97_33
noncomputable def c97_34 : Code := gF c97_32
noncomputable def n97_34 : S → RS := run (annT 97) c97_34
noncomputable def c97_35 : Code := gR c97_29
noncomputable def n97_35 : S → RS := run (annT 97) c97_35
noncomputable def c97_36 : Code := gL c97_35
noncomputable def n97_36 : S → RS := run (annT 97) c97_36
noncomputable def c97_37 : Code := gB c97_36
noncomputable def n97_37 : S → RS := run (annT 97) c97_37
noncomputable def c97_38 : Code := gL c97_37
noncomputable def n97_38 : S → RS := run (annT 97) c97_38
noncomputable def o97_38 : {l : List Oper // (gO c97_38).toList = l} := ⟨_, by conv => (lhs; whnf)⟩
noncomputable def c97_39 : Code := gR c97_37
noncomputable def n97_39 : S → RS := run (annT 97) c97_39
noncomputable def c97_40 : Code := gT c97_39
noncomputable def n97_40 : S → RS := run (annT 97) c97_40
noncomputable def c97_41 : Code := gL c97_40
noncomputable def n97_41 : S → RS := run (annT 97) c97_41
noncomputable def o97_41 : {l : List Oper // (gO c97_41).toList = l} := ⟨_, by conv => (lhs; whnf)⟩
noncomputable def c97_42 : Code := gR c97_40
noncomputable def n97_42 : S → RS := run (annT 97) c97_42
noncomputable def c97_43 : Code := gF c97_39
noncomputable def n97_43 : S → RS := run (annT 97) c97_43
noncomputable def c97_44 : Code := gR c97_35
noncomputable def n97_44 : S → RS := run (annT 97) c97_44
noncomputable def o97_44 : {l : List Oper // (gO c97_44).toList = l} := ⟨_, by conv => (lhs; whnf)⟩
noncomputable def c97_45 : Code := gR c97_24
noncomputable def n97_45 : S → RS := run (annT 97) c97_45
noncomputable def c97_46 : Code := gL c97_45
noncomputable def n97_46 : S → RS := run (annT 97) c97_46
noncomputable def o97_46 : {l : List Oper // (gO c97_46).toList = l} := ⟨_, by conv => (lhs; whnf)⟩
noncomputable def c97_47 : Code := gR c97_45
noncomputable def n97_47 : S → RS := run (annT 97) c97_47
theorem r_n97_1 (s : S) : n97_1 s = behK 2 (stepsO X (annT 97) C (gO c97_1) o97_1.1 s) := q_region (annT 97) s 0 _ false rfl _ _ rfl rfl o97_1.2
theorem g_o97_1 (j : Nat) : gdst (gO c97_1) j = (o97_1.1[j]?).bind Oper.dst := gd_eq o97_1.2 j
theorem r_n97_3 (s : S) : n97_3 s = behK 10 (stepsO X (annT 97) C (gO c97_3) o97_3.1 s) := q_region (annT 97) s 1 _ false rfl _ _ rfl rfl o97_3.2
theorem g_o97_3 (j : Nat) : gdst (gO c97_3) j = (o97_3.1[j]?).bind Oper.dst := gd_eq o97_3.2 j
theorem r_n97_6 (s : S) : n97_6 s = behK 522 (stepsO X (annT 97) C (gO c97_6) o97_6.1 s) := q_region (annT 97) s 2 _ false rfl _ _ rfl rfl o97_6.2
theorem g_o97_6 (j : Nat) : gdst (gO c97_6) j = (o97_6.1[j]?).bind Oper.dst := gd_eq o97_6.2 j
theorem r_n97_8 (s : S) : n97_8 s = behK 10 (stepsO X (annT 97) C (gO c97_8) o97_8.1 s) := q_region (annT 97) s 3 _ false rfl _ _ rfl rfl o97_8.2
theorem g_o97_8 (j : Nat) : gdst (gO c97_8) j = (o97_8.1[j]?).bind Oper.dst := gd_eq o97_8.2 j
theorem r_n97_9 (s : S) : n97_9 s = some (.norm, s) := run_skip _ s
theorem r_n97_7 (s : S) : n97_7 s = condK (opv s.t (.tmp 9)) n97_8 n97_9 s := q_cond _ c97_8 c97_9 s (.tmp 9)
theorem r_n97_5 (s : S) : n97_5 s = contK n97_7 (n97_6 s) := q_seq _ c97_6 c97_7 s
theorem r_n97_12 (s : S) : n97_12 s = behK 8202 (stepsO X (annT 97) C (gO c97_12) o97_12.1 s) := q_region (annT 97) s 4 _ false rfl _ _ rfl rfl o97_12.2
theorem g_o97_12 (j : Nat) : gdst (gO c97_12) j = (o97_12.1[j]?).bind Oper.dst := gd_eq o97_12.2 j
theorem r_n97_14 (s : S) : n97_14 s = behK 10 (stepsO X (annT 97) C (gO c97_14) o97_14.1 s) := q_region (annT 97) s 5 _ false rfl _ _ rfl rfl o97_14.2
theorem g_o97_14 (j : Nat) : gdst (gO c97_14) j = (o97_14.1[j]?).bind Oper.dst := gd_eq o97_14.2 j
theorem r_n97_15 (s : S) : n97_15 s = some (.norm, s) := run_skip _ s
theorem r_n97_13 (s : S) : n97_13 s = condK (opv s.t (.tmp 13)) n97_14 n97_15 s := q_cond _ c97_14 c97_15 s (.tmp 13)
theorem r_n97_11 (s : S) : n97_11 s = contK n97_13 (n97_12 s) := q_seq _ c97_12 c97_13 s
theorem r_n97_18 (s : S) : n97_18 s = behK 2199023255554 (stepsO X (annT 97) C (gO c97_18) o97_18.1 s) := q_region (annT 97) s 6 _ false rfl _ _ rfl rfl o97_18.2
theorem g_o97_18 (j : Nat) : gdst (gO c97_18) j = (o97_18.1[j]?).bind Oper.dst := gd_eq o97_18.2 j
theorem r_n97_21 (s : S) : n97_21 s = behK 4 (stepsO X (annT 97) C (gO c97_21) o97_21.1 s) := q_region (annT 97) s 7 _ false rfl _ _ rfl rfl o97_21.2
theorem g_o97_21 (j : Nat) : gdst (gO c97_21) j = (o97_21.1[j]?).bind Oper.dst := gd_eq o97_21.2 j
theorem r_n97_22 (s : S) : n97_22 s = some (.ret, s) := run_ret _ s
theorem r_n97_20 (s : S) : n97_20 s = contK n97_22 (n97_21 s) := q_seq _ c97_21 c97_22 s
theorem r_n97_23 (s : S) : n97_23 s = some (.norm, s) := run_skip _ s
theorem r_n97_19 (s : S) : n97_19 s = condK (opv s.t (.tmp 41)) n97_20 n97_23 s := q_cond _ c97_20 c97_23 s (.tmp 41)
theorem r_n97_17 (s : S) : n97_17 s = contK n97_19 (n97_18 s) := q_seq _ c97_18 c97_19 s
theorem r_n97_26 (s : S) : n97_26 s = behK 18 (stepsO X (annT 97) C (gO c97_26) o97_26.1 s) := q_region (annT 97) s 8 _ false rfl _ _ rfl rfl o97_26.2
theorem g_o97_26 (j : Nat) : gdst (gO c97_26) j = (o97_26.1[j]?).bind Oper.dst := gd_eq o97_26.2 j
theorem r_n97_31 (s : S) : n97_31 s = behK 70368744177682 (stepsO X (annT 97) C (gO c97_31) o97_31.1 s) := q_region (annT 97) s 9 _ false rfl _ _ rfl rfl o97_31.2
theorem g_o97_31 (j : Nat) : gdst (gO c97_31) j = (o97_31.1[j]?).bind Oper.dst := gd_eq o97_31.2 j
theorem r_n97_33 (s : S) : n97_33 s = some (.norm, s) := run_skip _ s
theorem r_n97_34 (s : S) : n97_34 s = some (.exit 0, s) := run_exit _ s 0
theorem r_n97_32 (s : S) : n97_32 s = condK (opv s.t (.tmp 46)) n97_33 n97_34 s := q_cond _ c97_33 c97_34 s (.tmp 46)
theorem r_n97_30 (s : S) : n97_30 s = contK n97_32 (n97_31 s) := q_seq _ c97_31 c97_32 s
theorem r_n97_38 (s : S) : n97_38 s = behK 36028797018963986 (stepsO X (annT 97) C (gO c97_38) o97_38.1 s) := q_region (annT 97) s 11 _ false rfl _ _ rfl rfl o97_38.2
theorem g_o97_38 (j : Nat) : gdst (gO c97_38) j = (o97_38.1[j]?).bind Oper.dst := gd_eq o97_38.2 j
theorem r_n97_41 (s : S) : n97_41 s = behK 4 (stepsO X (annT 97) C (gO c97_41) o97_41.1 s) := q_region (annT 97) s 12 _ false rfl _ _ rfl rfl o97_41.2
theorem g_o97_41 (j : Nat) : gdst (gO c97_41) j = (o97_41.1[j]?).bind Oper.dst := gd_eq o97_41.2 j
theorem r_n97_42 (s : S) : n97_42 s = some (.ret, s) := run_ret _ s
theorem r_n97_40 (s : S) : n97_40 s = contK n97_42 (n97_41 s) := q_seq _ c97_41 c97_42 s
theorem r_n97_43 (s : S) : n97_43 s = some (.norm, s) := run_skip _ s
theorem r_n97_39 (s : S) : n97_39 s = condK (opv s.t (.tmp 55)) n97_40 n97_43 s := q_cond _ c97_40 c97_43 s (.tmp 55)
theorem r_n97_37 (s : S) : n97_37 s = contK n97_39 (n97_38 s) := q_seq _ c97_38 c97_39 s
theorem r_n97_36 (s : S) : n97_36 s = blkK 1 (n97_37 s) := q_block _ c97_37 s 1
theorem r_n97_44 (s : S) : n97_44 s = behK 18 (stepsO X (annT 97) C (gO c97_44) o97_44.1 s) := q_region (annT 97) s 10 _ false rfl _ _ rfl rfl o97_44.2
theorem g_o97_44 (j : Nat) : gdst (gO c97_44) j = (o97_44.1[j]?).bind Oper.dst := gd_eq o97_44.2 j
theorem r_n97_35 (s : S) : n97_35 s = contK n97_44 (n97_36 s) := q_seq _ c97_36 c97_44 s
theorem r_n97_29 (s : S) : n97_29 s = contK n97_35 (n97_30 s) := q_seq _ c97_30 c97_35 s
theorem r_n97_28 (s : S) : n97_28 s = loopK 18 s.st.length n97_28 (n97_29 s) := q_loop (annT 97) c97_29 s _ _ rfl rfl
theorem r_n97_27 (s : S) : n97_27 s = blkK 0 (n97_28 s) := q_block _ c97_28 s 0
theorem r_n97_25 (s : S) : n97_25 s = contK n97_27 (n97_26 s) := q_seq _ c97_26 c97_27 s
theorem r_n97_46 (s : S) : n97_46 s = behK 4 (stepsO X (annT 97) C (gO c97_46) o97_46.1 s) := q_region (annT 97) s 13 _ false rfl _ _ rfl rfl o97_46.2
theorem g_o97_46 (j : Nat) : gdst (gO c97_46) j = (o97_46.1[j]?).bind Oper.dst := gd_eq o97_46.2 j
theorem r_n97_47 (s : S) : n97_47 s = some (.ret, s) := run_ret _ s
theorem r_n97_45 (s : S) : n97_45 s = contK n97_47 (n97_46 s) := q_seq _ c97_46 c97_47 s
theorem r_n97_24 (s : S) : n97_24 s = contK n97_45 (n97_25 s) := q_seq _ c97_25 c97_45 s
theorem r_n97_16 (s : S) : n97_16 s = contK n97_24 (n97_17 s) := q_seq _ c97_17 c97_24 s
theorem r_n97_10 (s : S) : n97_10 s = contK n97_16 (n97_11 s) := q_seq _ c97_11 c97_16 s
theorem r_n97_4 (s : S) : n97_4 s = contK n97_10 (n97_5 s) := q_seq _ c97_5 c97_10 s
theorem r_n97_2 (s : S) : n97_2 s = contK n97_4 (n97_3 s) := q_seq _ c97_3 c97_4 s
theorem r_n97_0 (s : S) : n97_0 s = contK n97_2 (n97_1 s) := q_seq _ c97_1 c97_2 s
theorem va_97 : (annT 97).virt = [] := rfl
theorem wa_97 : (annT 97).wr = [] := rfl
theorem ya_97 : (annT 97).ty = [] := rfl
theorem cv_97 (call : Eng.Call) (wr : Bool) (args : List AV) (st : Store) : callV X call wr 97 args st = cvP call wr 97 args st (fzAll (fz false st 6) args) := cv_pure rfl rfl call wr args st
theorem p97 (ds : List D) : pureCall C 97 ds = ((n97_0 ⟨argsT 0 (ds.map .d), []⟩).bind (bodyR [.tmp 2])).bind prOf := P_eq Try.f97 rfl rfl rfl rfl ds
theorem q97 (vs : List AV) (st : Store) : C 97 vs st = (n97_0 ⟨argsT 0 vs, st⟩).bind (bodyR [.tmp 2]) := C_eq Try.f97 rfl rfl rfl rfl vs st
attribute [go_sem] r_n97_1 g_o97_1 o97_1 r_n97_3 g_o97_3 o97_3 r_n97_6 g_o97_6 o97_6 r_n97_8 g_o97_8 o97_8 r_n97_9 r_n97_7 r_n97_5 r_n97_12 g_o97_12 o97_12 r_n97_14 g_o97_14 o97_14 r_n97_15 r_n97_13 r_n97_11 r_n97_18 g_o97_18 o97_18 r_n97_21 g_o97_21 o97_21 r_n97_22 r_n97_20 r_n97_23 r_n97_19 r_n97_17 r_n97_26 g_o97_26 o97_26 r_n97_31 g_o97_31 o97_31 r_n97_33 r_n97_34 r_n97_32 r_n97_30 r_n97_38 g_o97_38 o97_38 r_n97_41 g_o97_41 o97_41 r_n97_42 r_n97_40 r_n97_43 r_n97_39 r_n97_37 r_n97_36 r_n97_44 g_o97_44 o97_44 r_n97_35 r_n97_29 r_n97_27 r_n97_25 r_n97_46 g_o97_46 o97_46 r_n97_47 r_n97_45 r_n97_24 r_n97_16 r_n97_10 r_n97_4 r_n97_2 r_n97_0 va_97 wa_97 ya_97 cv_97

noncomputable def c90_0 : Code := Try.f90.body.getD .skip
noncomputable def n90_0 : S → RS := run (annT 90) c90_0
noncomputable def c90_1 : Code := gL c90_0
noncomputable def n90_1 : S → RS := run (annT 90) c90_1
noncomputable def o90_1 : {l : List Oper // (gO c90_1).toList = l} := ⟨_, by conv => (lhs; whnf)⟩
noncomputable def c90_2 : Code := gR c90_0
noncomputable def n90_2 : S → RS := run (annT 90) c90_2
noncomputable def c90_3 : Code := gL c90_2
noncomputable def n90_3 : S → RS := run (annT 90) c90_3
noncomputable def c90_4 : Code := gL c90_3
noncomputable def n90_4 : S → RS := run (annT 90) c90_4
noncomputable def o90_4 : {l : List Oper // (gO c90_4).toList = l} := ⟨_, by conv => (lhs; whnf)⟩
noncomputable def c90_5 : Code := gR c90_3
noncomputable def n90_5 : S → RS := run (annT 90) c90_5
noncomputable def c90_6 : Code := gT c90_5
noncomputable def n90_6 : S → RS := run (annT 90) c90_6
noncomputable def c90_7 : Code := gL c90_6
noncomputable def n90_7 : S → RS := run (annT 90) c90_7
noncomputable def o90_7 : {l : List Oper // (gO c90_7).toList = l} := ⟨_, by conv => (lhs; whnf)⟩
noncomputable def c90_8 : Code := gR c90_6
noncomputable def n90_8 : S → RS := run (annT 90) c90_8
noncomputable def c90_9 : Code := gF c90_5
noncomputable def n90_9 : S → RS := run (annT 90) c90_9
noncomputable def c90_10 : Code := gR c90_2
noncomputable def n90_10 : S → RS := run (annT 90) c90_10
noncomputable def c90_11 : Code := gL c90_10
noncomputable def n90_11 : S → RS := run (annT 90) c90_11
noncomputable def c90_12 : Code := gL c90_11
noncomputable def n90_12 : S → RS := run (annT 90) c90_12
noncomputable def o90_12 : {l : List Oper // (gO c90_12).toList = l} := ⟨_, by conv => (lhs; whnf)⟩
noncomputable def c90_13 : Code := gR c90_11
noncomputable def n90_13 : S → RS := run (annT 90) c90_13
noncomputable def c90_14 : Code := gB c90_13
noncomputable def n90_14 : S → RS := run (annT 90) c90_14
noncomputable def c90_15 : Code := gB c90_14
noncomputable def n90_15 : S → RS := run (annT 90) c90_15
noncomputable def c90_16 : Code := gL c90_15
noncomputable def n90_16 : S → RS := run (annT 90) c90_16
noncomputable def c90_17 : Code := gL c90_16
noncomputable def n90_17 : S → RS := run (annT 90) c90_17
noncomputable def o90_17 : {l : List Oper // (gO c90_17).toList = l} := ⟨_, by conv => (lhs; whnf)⟩
noncomputable def c90_18 : Code := gR c90_16
noncomputable def n90_18 : S → RS := run (annT 90) c90_18
noncomputable def c90_19 : Code := gT c90_18
noncomputable def n90_19 : S → RS := run (annT 90) c90_19
noncomputable def c90_20 : Code := gF c90_18
noncomputable def n90_20 : S → RS := run (annT 90) c90_20
noncomputable def c90_21 : Code := gR c90_15
noncomputable def n90_21 : S → RS := run (annT 90) c90_21
noncomputable def c90_22 : Code := gL c90_21
noncomputable def n90_22 : S → RS := run (annT 90) c90_22
noncomputable def c90_23 : Code := gB c90_22
noncomputable def n90_23 : S → RS := run (annT 90) c90_23
noncomputable def c90_24 : Code := gL c90_23
noncomputable def n90_24 : S → RS := run (annT 90) c90_24
noncomputable def o90_24 : {l : List Oper // (gO c90_24).toList = l} := ⟨_, by conv => (lhs; whnf)⟩
noncomputable def c90_25 : Code := gR c90_23
noncomputable def n90_25 : S → RS := run (annT 90) c90_25
noncomputable def c90_26 : Code := gT c90_25
noncomputable def n90_26 : S → RS := run (annT 90) c90_26
noncomputable def c90_27 : Code := gL c90_26
noncomputable def n90_27 : S → RS := run (annT 90) c90_27
noncomputable def o90_27 : {l : List Oper // (gO c90_27).toList = l} := ⟨_, by conv => (lhs; whnf)⟩
noncomputable def c90_28 : Code := gR c90_26
noncomputable def n90_28 : S → RS := run (annT 90) c90_28
noncomputable def c90_29 : Code := gF c90_25
noncomputable def n90_29 : S → RS := run (annT 90) c90_29
noncomputable def c90_30 : Code := gR c90_21
noncomputable def n90_30 : S → RS := run (annT 90) c90_30
noncomputable def o90_30 : {l : List Oper // (gO c90_30).toList = l} := ⟨_, by conv => (lhs; whnf)⟩
noncomputable def c90_31 : Code := gR c90_10
noncomputable def n90_31 : S → RS := run (annT 90) c90_31
noncomputable def c90_32 : Code := gL c90_31
noncomputable def n90_32 : S → RS := run (annT 90) c90_32
noncomputable def o90_32 : {l : List Oper // (gO c90_32).toList = l} := ⟨_, by conv => (lhs; whnf)⟩
noncomputable def c90_33 : Code := gR c90_31
noncomputable def n90_33 : S → RS := run (annT 90) c90_33
theorem r_n90_1 (s : S) : n90_1 s = behK 2 (stepsO X (annT 90) C (gO c90_1) o90_1.1 s) := q_region (annT 90) s 0 _ false rfl _ _ rfl rfl o90_1.2
theorem g_o90_1 (j : Nat) : gdst (gO c90_1) j = (o90_1.1[j]?).bind Oper.dst := gd_eq o90_1.2 j
theorem r_n90_4 (s : S) : n90_4 s = behK 262146 (stepsO X (annT 90) C (gO c90_4) o90_4.1 s) := q_region (annT 90) s 1 _ false rfl _ _ rfl rfl o90_4.2
theorem g_o90_4 (j : Nat) : gdst (gO c90_4) j = (o90_4.1[j]?).bind Oper.dst := gd_eq o90_4.2 j
theorem r_n90_7 (s : S) : n90_7 s = behK 4 (stepsO X (annT 90) C (gO c90_7) o90_7.1 s) := q_region (annT 90) s 2 _ false rfl _ _ rfl rfl o90_7.2
theorem g_o90_7 (j : Nat) : gdst (gO c90_7) j = (o90_7.1[j]?).bind Oper.dst := gd_eq o90_7.2 j
theorem r_n90_8 (s : S) : n90_8 s = some (.ret, s) := run_ret _ s
theorem r_n90_6 (s : S) : n90_6 s = contK n90_8 (n90_7 s) := q_seq _ c90_7 c90_8 s
theorem r_n90_9 (s : S) : n90_9 s = some (.norm, s) := run_skip _ s
theorem r_n90_5 (s : S) : n90_5 s = condK (opv s.t (.tmp 18)) n90_6 n90_9 s := q_cond _ c90_6 c90_9 s (.tmp 18)
theorem r_n90_3 (s : S) : n90_3 s = contK n90_5 (n90_4 s) := q_seq _ c90_4 c90_5 s
theorem r_n90_12 (s : S) : n90_12 s = behK 10 (stepsO X (annT 90) C (gO c90_12) o90_12.1 s) := q_region (annT 90) s 3 _ false rfl _ _ rfl rfl o90_12.2
theorem g_o90_12 (j : Nat) : gdst (gO c90_12) j = (o90_12.1[j]?).bind Oper.dst := gd_eq o90_12.2 j
theorem r_n90_17 (s : S) : n90_17 s = behK 8388618 (stepsO X (annT 90) C (gO c90_17) o90_17.1 s) := q_region (annT 90) s 4 _ false rfl _ _ rfl rfl o90_17.2
theorem g_o90_17 (j : Nat) : gdst (gO c90_17) j = (o90_17.1[j]?).bind Oper.dst := gd_eq o90_17.2 j
theorem r_n90_19 (s : S) : n90_19 s = some (.norm, s) := run_skip _ s
theorem r_n90_20 (s : S) : n90_20 s = some (.exit 0, s) := run_exit _ s 0
theorem r_n90_18 (s : S) : n90_18 s = condK (opv s.t (.tmp 23)) n90_19 n90_20 s := q_cond _ c90_19 c90_20 s (.tmp 23)
theorem r_n90_16 (s : S) : n90_16 s = contK n90_18 (n90_17 s) := q_seq _ c90_17 c90_18 s
theorem r_n90_24 (s : S) : n90_24 s = behK 4294967306 (stepsO X (annT 90) C (gO c90_24) o90_24.1 s) := q_region (annT 90) s 6 _ false rfl _ _ rfl rfl o90_24.2
theorem g_o90_24 (j : Nat) : gdst (gO c90_24) j = (o90_24.1[j]?).bind Oper.dst := gd_eq o90_24.2 j
theorem r_n90_27 (s : S) : n90_27 s = behK 4 (stepsO X (annT 90) C (gO c90_27) o90_27.1 s) := q_region (annT 90) s 7 _ false rfl _ _ rfl rfl o90_27.2
theorem g_o90_27 (j : Nat) : gdst (gO c90_27) j = (o90_27.1[j]?).bind Oper.dst := gd_eq o90_27.2 j
theorem r_n90_28 (s : S) : n90_28 s = some (.ret, s) := run_ret _ s
theorem r_n90_26 (s : S) : n90_26 s = contK n90_28 (n90_27 s) := q_seq _ c90_27 c90_28 s
theorem r_n90_29 (s : S) : n90_29 s = some (.norm, s) := run_skip _ s
theorem r_n90_25 (s : S) : n90_25 s = condK (opv s.t (.tmp 32)) n90_26 n90_29 s := q_cond _ c90_26 c90_29 s (.tmp 32)
theorem r_n90_23 (s : S) : n90_23 s = contK n90_25 (n90_24 s) := q_seq _ c90_24 c90_25 s
theorem r_n90_22 (s : S) : n90_22 s = blkK 1 (n90_23 s) := q_block _ c90_23 s 1
theorem r_n90_30 (s : S) : n90_30 s = behK 10 (stepsO X (annT 90) C (gO c90_30) o90_30.1 s) := q_region (annT 90) s 5 _ false rfl _ _ rfl rfl o90_30.2
theorem g_o90_30 (j : Nat) : gdst (gO c90_30) j = (o90_30.1[j]?).bind Oper.dst := gd_eq o90_30.2 j
theorem r_n90_21 (s : S) : n90_21 s = contK n90_30 (n90_22 s) := q_seq _ c90_22 c90_30 s
theorem r_n90_15 (s : S) : n90_15 s = contK n90_21 (n90_16 s) := q_seq _ c90_16 c90_21 s
theorem r_n90_14 (s : S) : n90_14 s = loopK 10 s.st.length n90_14 (n90_15 s) := q_loop (annT 90) c90_15 s _ _ rfl rfl
theorem r_n90_13 (s : S) : n90_13 s = blkK 0 (n90_14 s) := q_block _ c90_14 s 0
theorem r_n90_11 (s : S) : n90_11 s = contK n90_13 (n90_12 s) := q_seq _ c90_12 c90_13 s
theorem r_n90_32 (s : S) : n90_32 s = behK 4 (stepsO X (annT 90) C (gO c90_32) o90_32.1 s) := q_region (annT 90) s 8 _ false rfl _ _ rfl rfl o90_32.2
theorem g_o90_32 (j : Nat) : gdst (gO c90_32) j = (o90_32.1[j]?).bind Oper.dst := gd_eq o90_32.2 j
theorem r_n90_33 (s : S) : n90_33 s = some (.ret, s) := run_ret _ s
theorem r_n90_31 (s : S) : n90_31 s = contK n90_33 (n90_32 s) := q_seq _ c90_32 c90_33 s
theorem r_n90_10 (s : S) : n90_10 s = contK n90_31 (n90_11 s) := q_seq _ c90_11 c90_31 s
theorem r_n90_2 (s : S) : n90_2 s = contK n90_10 (n90_3 s) := q_seq _ c90_3 c90_10 s
theorem r_n90_0 (s : S) : n90_0 s = contK n90_2 (n90_1 s) := q_seq _ c90_1 c90_2 s
theorem va_90 : (annT 90).virt = [] := rfl
theorem wa_90 : (annT 90).wr = [] := rfl
theorem ya_90 : (annT 90).ty = [] := rfl
theorem cv_90 (call : Eng.Call) (wr : Bool) (args : List AV) (st : Store) : callV X call wr 90 args st = cvP call wr 90 args st (fzAll (fz false st 6) args) := cv_pure rfl rfl call wr args st
theorem p90 (ds : List D) : pureCall C 90 ds = ((n90_0 ⟨argsT 0 (ds.map .d), []⟩).bind (bodyR [.tmp 2])).bind prOf := P_eq Try.f90 rfl rfl rfl rfl ds
theorem q90 (vs : List AV) (st : Store) : C 90 vs st = (n90_0 ⟨argsT 0 vs, st⟩).bind (bodyR [.tmp 2]) := C_eq Try.f90 rfl rfl rfl rfl vs st
attribute [go_sem] r_n90_1 g_o90_1 o90_1 r_n90_4 g_o90_4 o90_4 r_n90_7 g_o90_7 o90_7 r_n90_8 r_n90_6 r_n90_9 r_n90_5 r_n90_3 r_n90_12 g_o90_12 o90_12 r_n90_17 g_o90_17 o90_17 r_n90_19 r_n90_20 r_n90_18 r_n90_16 r_n90_24 g_o90_24 o90_24 r_n90_27 g_o90_27 o90_27 r_n90_28 r_n90_26 r_n90_29 r_n90_25 r_n90_23 r_n90_22 r_n90_30 g_o90_30 o90_30 r_n90_21 r_n90_15 r_n90_13 r_n90_11 r_n90_32 g_o90_32 o90_32 r_n90_33 r_n90_31 r_n90_10 r_n90_2 r_n90_0 va_90 wa_90 ya_90 cv_90

noncomputable def c72_0 : Code := Try.f72.body.getD .skip
noncomputable def n72_0 : S → RS := run (annT 72) c72_0
noncomputable def c72_1 : Code := gL c72_0
noncomputable def n72_1 : S → RS := run (annT 72) c72_1
noncomputable def o72_1 : {l : List Oper // (gO c72_1).toList = l} := ⟨_, by conv => (lhs; whnf)⟩
noncomputable def c72_2 : Code := gR c72_0
noncomputable def n72_2 : S → RS := run (annT 72) c72_2
noncomputable def c72_3 : Code := gL c72_2
noncomputable def n72_3 : S → RS := run (annT 72) c72_3
noncomputable def o72_3 : {l : List Oper // (gO c72_3).toList = l} := ⟨_, by conv => (lhs; whnf)⟩
noncomputable def c72_4 : Code := gR c72_2
noncomputable def n72_4 : S → RS := run (annT 72) c72_4
noncomputable def c72_5 : Code := gL c72_4
noncomputable def n72_5 : S → RS := run (annT 72) c72_5
noncomputable def c72_6 : Code := gL c72_5
noncomputable def n72_6 : S → RS := run (annT 72) c72_6
noncomputable def o72_6 : {l : List Oper // (gO c72_6).toList = l} := ⟨_, by conv => (lhs; whnf)⟩
noncomputable def c72_7 : Code := gR c72_5
noncomputable def n72_7 : S → RS := run (annT 72) c72_7
noncomputable def c72_8 : Code := gB c72_7
noncomputable def n72_8 : S → RS := run (annT 72) c72_8
noncomputable def c72_9 : Code := gL c72_8
noncomputable def n72_9 : S → RS := run (annT 72) c72_9
noncomputable def c72_10 : Code := gL c72_9
noncomputable def n72_10 : S → RS := run (annT 72) c72_10
noncomputable def o72_10 : {l : List Oper // (gO c72_10).toList = l} := ⟨_, by conv => (lhs; whnf)⟩
noncomputable def c72_11 : Code := gR c72_9
noncomputable def n72_11 : S → RS := run (annT 72) c72_11
noncomputable def c72_12 : Code := gT c72_11
noncomputable def n72_12 : S → RS := run (annT 72) c72_12
noncomputable def c72_13 : Code := gF c72_11
noncomputable def n72_13 : S → RS := run (annT 72) c72_13
noncomputable def o72_13 : {l : List Oper // (gO c72_13).toList = l} := ⟨_, by conv => (lhs; whnf)⟩
noncomputable def c72_14 : Code := gR c72_8
noncomputable def n72_14 : S → RS := run (annT 72) c72_14
noncomputable def c72_15 : Code := gT c72_14
noncomputable def n72_15 : S → RS := run (annT 72) c72_15
noncomputable def c72_16 : Code := gL c72_15
noncomputable def n72_16 : S → RS := run (annT 72) c72_16
noncomputable def o72_16 : {l : List Oper // (gO c72_16).toList = l} := ⟨_, by conv => (lhs; whnf)⟩
noncomputable def c72_17 : Code := gR c72_15
noncomputable def n72_17 : S → RS := run (annT 72) c72_17
noncomputable def c72_18 : Code := gF c72_14
noncomputable def n72_18 : S → RS := run (annT 72) c72_18
noncomputable def c72_19 : Code := gL c72_18
noncomputable def n72_19 : S → RS := run (annT 72) c72_19
noncomputable def o72_19 : {l : List Oper // (gO c72_19).toList = l} := ⟨_, by conv => (lhs; whnf)⟩
noncomputable def c72_20 : Code := gR c72_18
noncomputable def n72_20 : S → RS := run (annT 72) c72_20
noncomputable def c72_21 : Code := gT c72_20
noncomputable def n72_21 : S → RS := run (annT 72) c72_21
noncomputable def c72_22 : Code := gL c72_21
noncomputable def n72_22 : S → RS := run (annT 72) c72_22
noncomputable def o72_22 : {l : List Oper // (gO c72_22).toList = l} := ⟨_, by conv => (lhs; whnf)⟩
noncomputable def c72_23 : Code := gR c72_21
noncomputable def n72_23 : S → RS := run (annT 72) c72_23
noncomputable def c72_24 : Code := gF c72_20
noncomputable def n72_24 : S → RS := run (annT 72) c72_24
noncomputable def c72_25 : Code := gR c72_4
noncomputable def n72_25 : S → RS := run (annT 72) c72_25
noncomputable def c72_26 : Code := gL c72_25
noncomputable def n72_26 : S → RS := run (annT 72) c72_26
noncomputable def c72_27 : Code := gL c72_26
noncomputable def n72_27 : S → RS := run (annT 72) c72_27
noncomputable def o72_27 : {l : List Oper // (gO c72_27).toList = l} := ⟨_, by conv => (lhs; whnf)⟩
noncomputable def c72_28 : Code := gR c72_26
noncomputable def n72_28 : S → RS := run (annT 72) c72_28
noncomputable def c72_29 : Code := gT c72_28
noncomputable def n72_29 : S → RS := run (annT 72) c72_29
noncomputable def c72_30 : Code := gL c72_29
noncomputable def n72_30 : S → RS := run (annT 72) c72_30
noncomputable def o72_30 : {l : List Oper // (gO c72_30).toList = l} := ⟨_, by conv => (lhs; whnf)⟩
noncomputable def c72_31 : Code := gR c72_29
noncomputable def n72_31 : S → RS := run (annT 72) c72_31
noncomputable def c72_32 : Code := gF c72_28
noncomputable def n72_32 : S → RS := run (annT 72) c72_32
noncomputable def c72_33 : Code := gR c72_25
noncomputable def n72_33 : S → RS := run (annT 72) c72_33
noncomputable def c72_34 : Code := gL c72_33
noncomputable def n72_34 : S → RS := run (annT 72) c72_34
noncomputable def c72_35 : Code := gL c72_34
noncomputable def n72_35 : S → RS := run (annT 72) c72_35
noncomputable def o72_35 : {l : List Oper // (gO c72_35).toList = l} := ⟨_, by conv => (lhs; whnf)⟩
noncomputable def c72_36 : Code := gR c72_34
noncomputable def n72_36 : S → RS := run (annT 72) c72_36
noncomputable def c72_37 : Code := gB c72_36
noncomputable def n72_37 : S → RS := run (annT 72) c72_37
noncomputable def c72_38 : Code := gL c72_37
noncomputable def n72_38 : S → RS := run (annT 72) c72_38
noncomputable def c72_39 : Code := gL c72_38
noncomputable def n72_39 : S → RS := run (annT 72) c72_39
noncomputable def o72_39 : {l : List Oper // (gO c72_39).toList = l} := ⟨_, by conv => (lhs; whnf)⟩
noncomputable def c72_40 : Code := gR c72_38
noncomputable def n72_40 : S → RS := run (annT 72) c72_40
noncomputable def c72_41 : Code := gT c72_40
noncomputable def n72_41 : S → RS := run (annT 72) c72_41
noncomputable def c72_42 : Code := gF c72_40
noncomputable def n72_42 : S → RS := run (annT 72) c72_42
noncomputable def c72_43 : Code := gL c72_42
noncomputable def n72_43 : S → RS := run (annT 72) c72_43
noncomputable def o72_43 : {l : List Oper // (gO c72_43).toList = l} := ⟨_, by conv => (lhs; whnf)⟩
noncomputable def c72_44 : Code := gR c72_42
noncomputable def n72_44 : S → RS := run (annT 72) c72_44
noncomputable def c72_45 : Code := gT c72_44
noncomputable def n72_45 : S → RS := run (annT 72) c72_45
noncomputable def c72_46 : Code := gF c72_44
noncomputable def n72_46 : S → RS := run (annT 72) c72_46
noncomputable def c72_47 : Code := gL c72_46
noncomputable def n72_47 : S → RS := run (annT 72) c72_47
noncomputable def o72_47 : {l : List Oper // (gO c72_47).toList = l} := ⟨_, by conv => (lhs; whnf)⟩
noncomputable def c72_48 : Code := gR c72_46
noncomputable def n72_48 : S → RS := run (annT 72) c72_48
noncomputable def c72_49 : Code := gT c72_48
noncomputable def n72_49 : S → RS := run (annT 72) c72_49
noncomputable def c72_50 : Code := gF c72_48
noncomputable def n72_50 : S → RS := run (annT 72) c72_50
noncomputable def o72_50 : {l : List Oper // (gO c72_50).toList = l} := ⟨_, by conv => (lhs; whnf)⟩
noncomputable def c72_51 : Code := gR c72_37
noncomputable def n72_51 : S → RS := run (annT 72) c72_51
noncomputable def c72_52 : Code := gT c72_51
noncomputable def n72_52 : S → RS := run (annT 72) c72_52
noncomputable def c72_53 : Code := gL c72_52
noncomputable def n72_53 : S → RS := run (annT 72) c72_53
noncomputable def o72_53 : {l : List Oper // (gO c72_53).toList = l} := ⟨_, by conv => (lhs; whnf)⟩
noncomputable def c72_54 : Code := gR c72_52
noncomputable def n72_54 : S → RS := run (annT 72) c72_54
noncomputable def c72_55 : Code := gF c72_51
noncomputable def n72_55 : S → RS := run (annT 72) c72_55
noncomputable def c72_56 : Code := gL c72_55
noncomputable def n72_56 : S → RS := run (annT 72) c72_56
noncomputable def o72_56 : {l : List Oper // (gO c72_56).toList = l} := ⟨_, by conv => (lhs; whnf)⟩
noncomputable def c72_57 : Code := gR c72_55
noncomputable def n72_57 : S → RS := run (annT 72) c72_57
noncomputable def c72_58 : Code := gT c72_57
noncomputable def n72_58 : S → RS := run (annT 72) c72_58
noncomputable def c72_59 : Code := gL c72_58
noncomputable def n72_59 : S → RS := run (annT 72) c72_59
noncomputable def o72_59 : {l : List Oper // (gO c72_59).toList = l} := ⟨_, by conv => (lhs; whnf)⟩
noncomputable def c72_60 : Code := gR c72_58
noncomputable def n72_60 : S → RS := run (annT 72) c72_60
noncomputable def c72_61 : Code := gF c72_57
noncomputable def n72_61 : S → RS := run (annT 72) c72_61
noncomputable def c72_62 : Code := gL c72_61
noncomputable def n72_62 : S → RS := run (annT 72) c72_62
noncomputable def o72_62 : {l : List Oper // (gO c72_62).toList = l} := ⟨_, by conv => (lhs; whnf)⟩
noncomputable def c72_63 : Code := gR c72_61
noncomputable def n72_63 : S → RS := run (annT 72) c72_63
noncomputable def c72_64 : Code := gT c72_63
noncomputable def n72_64 : S → RS := run (annT 72) c72_64
noncomputable def c72_65 : Code := gL c72_64
noncomputable def n72_65 : S → RS := run (annT 72) c72_65
noncomputable def o72_65 : {l : List Oper // (gO c72_65).toList = l} := ⟨_, by conv => (lhs; whnf)⟩
noncomputable def c72_66 : Code := gR c72_64
noncomputable def n72_66 : S → RS := run (annT 72) c72_66
noncomputable def c72_67 : Code := gF c72_63
noncomputable def n72_67 : S → RS := run (annT 72) c72_67
noncomputable def c72_68 : Code := gL c72_67
noncomputable def n72_68 : S → RS := run (annT 72) c72_68
noncomputable def o72_68 : {l : List Oper // (gO c72_68).toList = l} := ⟨_, by conv => (lhs; whnf)⟩
noncomputable def c72_69 : Code := gR c72_67
noncomputable def n72_69 : S → RS := run (annT 72) c72_69
noncomputable def c72_70 : Code := gT c72_69
noncomputable def n72_70 : S → RS := run (annT 72) c72_70
noncomputable def c72_71 : Code := gL c72_70
noncomputable def n72_71 : S → RS := run (annT 72) c72_71
noncomputable def o72_71 : {l : List Oper // (gO c72_71).toList = l} := ⟨_, by conv => (lhs; whnf)⟩
noncomputable def c72_72 : Code := gR c72_70
noncomputable def n72_72 : S → RS := run (annT 72) c72_72
noncomputable def c72_73 : Code := gL c72_72
noncomputable def n72_73 : S → RS := run (annT 72) c72_73
noncomputable def o72_73 : {l : List Oper // (gO c72_73).toList = l} := ⟨_, by conv => (lhs; whnf)⟩
noncomputable def c72_74 : Code := gR c72_72
noncomputable def n72_74 : S → RS := run (annT 72) c72_74
noncomputable def c72_75 : Code := gF c72_69
noncomputable def n72_75 : S → RS := run (annT 72) c72_75
noncomputable def c72_76 : Code := gR c72_33
noncomputable def n72_76 : S → RS := run (annT 72) c72_76
noncomputable def c72_77 : Code := gL c72_76
noncomputable def n72_77 : S → RS := run (annT 72) c72_77
noncomputable def o72_77 : {l : List Oper // (gO c72_77).toList = l} := ⟨_, by conv => (lhs; whnf)⟩
noncomputable def c72_78 : Code := gR c72_76
noncomputable def n72_78 : S → RS := run (annT 72) c72_78
theorem r_n72_1 (s : S) : n72_1 s = behK 2 (stepsO X (annT 72) C (gO c72_1) o72_1.1 s) := q_region (annT 72) s 0 _ false rfl _ _ rfl rfl o72_1.2
theorem g_o72_1 (j : Nat) : gdst (gO c72_1) j = (o72_1.1[j]?).bind Oper.dst := gd_eq o72_1.2 j
theorem r_n72_3 (s : S) : n72_3 s = behK 10 (stepsO X (annT 72) C (gO c72_3) o72_3.1 s) := q_region (annT 72) s 1 _ false rfl _ _ rfl rfl o72_3.2
theorem g_o72_3 (j : Nat) : gdst (gO c72_3) j = (o72_3.1[j]?).bind Oper.dst := gd_eq o72_3.2 j
theorem r_n72_6 (s : S) : n72_6 s = behK 522 (stepsO X (annT 72) C (gO c72_6) o72_6.1 s) := q_region (annT 72) s 2 _ false rfl _ _ rfl rfl o72_6.2
theorem g_o72_6 (j : Nat) : gdst (gO c72_6) j = (o72_6.1[j]?).bind Oper.dst := gd_eq o72_6.2 j
theorem r_n72_10 (s : S) : n72_10 s = behK 1546 (stepsO X (annT 72) C (gO c72_10) o72_10.1 s) := q_region (annT 72) s 3 _ false rfl _ _ rfl rfl o72_10.2
theorem g_o72_10 (j : Nat) : gdst (gO c72_10) j = (o72_10.1[j]?).bind Oper.dst := gd_eq o72_10.2 j
theorem r_n72_12 (s : S) : n72_12 s = some (.norm, s) := run_skip _ s
theorem r_n72_13 (s : S) : n72_13 s = behK 1546 (stepsO X (annT 72) C (gO c72_13) o72_13.1 s) := q_region (annT 72) s 4 _ false rfl _ _ rfl rfl o72_13.2
theorem g_o72_13 (j : Nat) : gdst (gO c72_13) j = (o72_13.1[j]?).bind Oper.dst := gd_eq o72_13.2 j
theorem r_n72_11 (s : S) : n72_11 s = condK (opv s.t (.tmp 10)) n72_12 n72_13 s := q_cond _ c72_12 c72_13 s (.tmp 10)
theorem r_n72_9 (s : S) : n72_9 s = contK n72_11 (n72_10 s) := q_seq _ c72_10 c72_11 s
theorem r_n72_16 (s : S) : n72_16 s = behK 4 (stepsO X (annT 72) C (gO c72_16) o72_16.1 s) := q_region (annT 72) s 5 _ false rfl _ _ rfl rfl o72_16.2
theorem g_o72_16 (j : Nat) : gdst (gO c72_16) j = (o72_16.1[j]?).bind Oper.dst := gd_eq o72_16.2 j
theorem r_n72_17 (s : S) : n72_17 s = some (.ret, s) := run_ret _ s
theorem r_n72_15 (s : S) : n72_15 s = contK n72_17 (n72_16 s) := q_seq _ c72_16 c72_17 s
theorem r_n72_19 (s : S) : n72_19 s = behK 32778 (stepsO X (annT 72) C (gO c72_19) o72_19.1 s) := q_region (annT 72) s 6 _ false rfl _ _ rfl rfl o72_19.2
theorem g_o72_19 (j : Nat) : gdst (gO c72_19) j = (o72_19.1[j]?).bind Oper.dst := gd_eq o72_19.2 j
theorem r_n72_22 (s : S) : n72_22 s = behK 4 (stepsO X (annT 72) C (gO c72_22) o72_22.1 s) := q_region (annT 72) s 7 _ false rfl _ _ rfl rfl o72_22.2
theorem g_o72_22 (j : Nat) : gdst (gO c72_22) j = (o72_22.1[j]?).bind Oper.dst := gd_eq o72_22.2 j
theorem r_n72_23 (s : S) : n72_23 s = some (.ret, s) := run_ret _ s
theorem r_n72_21 (s : S) : n72_21 s = contK n72_23 (n72_22 s) := q_seq _ c72_22 c72_23 s
theorem r_n72_24 (s : S) : n72_24 s = some (.norm, s) := run_skip _ s
theorem r_n72_20 (s : S) : n72_20 s = condK (opv s.t (.tmp 15)) n72_21 n72_24 s := q_cond _ c72_21 c72_24 s (.tmp 15)
theorem r_n72_18 (s : S) : n72_18 s = contK n72_20 (n72_19 s) := q_seq _ c72_19 c72_20 s
theorem r_n72_14 (s : S) : n72_14 s = condK (opv s.t (.tmp 10)) n72_15 n72_18 s := q_cond _ c72_15 c72_18 s (.tmp 10)
theorem r_n72_8 (s : S) : n72_8 s = contK n72_14 (n72_9 s) := q_seq _ c72_9 c72_14 s
theorem r_n72_7 (s : S) : n72_7 s = blkK 0 (n72_8 s) := q_block _ c72_8 s 0
theorem r_n72_5 (s : S) : n72_5 s = contK n72_7 (n72_6 s) := q_seq _ c72_6 c72_7 s
theorem r_n72_27 (s : S) : n72_27 s = behK 17179869194 (stepsO X (annT 72) C (gO c72_27) o72_27.1 s) := q_region (annT 72) s 8 _ false rfl _ _ rfl rfl o72_27.2
theorem g_o72_27 (j : Nat) : gdst (gO c72_27) j = (o72_27.1[j]?).bind Oper.dst := gd_eq o72_27.2 j
theorem r_n72_30 (s : S) : n72_30 s = behK 4 (stepsO X (annT 72) C (gO c72_30) o72_30.1 s) := q_region (annT 72) s 9 _ false rfl _ _ rfl rfl o72_30.2
theorem g_o72_30 (j : Nat) : gdst (gO c72_30) j = (o72_30.1[j]?).bind Oper.dst := gd_eq o72_30.2 j
theorem r_n72_31 (s : S) : n72_31 s = some (.ret, s) := run_ret _ s
theorem r_n72_29 (s : S) : n72_29 s = contK n72_31 (n72_30 s) := q_seq _ c72_30 c72_31 s
theorem r_n72_32 (s : S) : n72_32 s = some (.norm, s) := run_skip _ s
theorem r_n72_28 (s : S) : n72_28 s = condK (opv s.t (.tmp 34)) n72_29 n72_32 s := q_cond _ c72_29 c72_32 s (.tmp 34)
theorem r_n72_26 (s : S) : n72_26 s = contK n72_28 (n72_27 s) := q_seq _ c72_27 c72_28 s
theorem r_n72_35 (s : S) : n72_35 s = behK 68719476746 (stepsO X (annT 72) C (gO c72_35) o72_35.1 s) := q_region (annT 72) s 10 _ false rfl _ _ rfl rfl o72_35.2
theorem g_o72_35 (j : Nat) : gdst (gO c72_35) j = (o72_35.1[j]?).bind Oper.dst := gd_eq o72_35.2 j
theorem r_n72_39 (s : S) : n72_39 s = behK 206158430218 (stepsO X (annT 72) C (gO c72_39) o72_39.1 s) := q_region (annT 72) s 11 _ false rfl _ _ rfl rfl o72_39.2
theorem g_o72_39 (j : Nat) : gdst (gO c72_39) j = (o72_39.1[j]?).bind Oper.dst := gd_eq o72_39.2 j
theorem r_n72_41 (s : S) : n72_41 s = some (.norm, s) := run_skip _ s
theorem r_n72_43 (s : S) : n72_43 s = behK 206158430218 (stepsO X (annT 72) C (gO c72_43) o72_43.1 s) := q_region (annT 72) s 12 _ false rfl _ _ rfl rfl o72_43.2
theorem g_o72_43 (j : Nat) : gdst (gO c72_43) j = (o72_43.1[j]?).bind Oper.dst := gd_eq o72_43.2 j
theorem r_n72_45 (s : S) : n72_45 s = some (.norm, s) := run_skip _ s
theorem r_n72_47 (s : S) : n72_47 s = behK 206158430218 (stepsO X (annT 72) C (gO c72_47) o72_47.1 s) := q_region (annT 72) s 13 _ false rfl _ _ rfl rfl o72_47.2
theorem g_o72_47 (j : Nat) : gdst (gO c72_47) j = (o72_47.1[j]?).bind Oper.dst := gd_eq o72_47.2 j
theorem r_n72_49 (s : S) : n72_49 s = some (.norm, s) := run_skip _ s
theorem r_n72_50 (s : S) : n72_50 s = behK 206158430218 (stepsO X (annT 72) C (gO c72_50) o72_50.1 s) := q_region (annT 72) s 14 _ false rfl _ _ rfl rfl o72_50.2
theorem g_o72_50 (j : Nat) : gdst (gO c72_50) j = (o72_50.1[j]?).bind Oper.dst := gd_eq o72_50.2 j
theorem r_n72_48 (s : S) : n72_48 s = condK (opv s.t (.tmp 37)) n72_49 n72_50 s := q_cond _ c72_49 c72_50 s (.tmp 37)
theorem r_n72_46 (s : S) : n72_46 s = contK n72_48 (n72_47 s) := q_seq _ c72_47 c72_48 s
theorem r_n72_44 (s : S) : n72_44 s = condK (opv s.t (.tmp 37)) n72_45 n72_46 s := q_cond _ c72_45 c72_46 s (.tmp 37)
theorem r_n72_42 (s : S) : n72_42 s = contK n72_44 (n72_43 s) := q_seq _ c72_43 c72_44 s
theorem r_n72_40 (s : S) : n72_40 s = condK (opv s.t (.tmp 37)) n72_41 n72_42 s := q_cond _ c72_41 c72_42 s (.tmp 37)
theorem r_n72_38 (s : S) : n72_38 s = contK n72_40 (n72_39 s) := q_seq _ c72_39 c72_40 s
theorem r_n72_53 (s : S) : n72_53 s = behK 4 (stepsO X (annT 72) C (gO c72_53) o72_53.1 s) := q_region (annT 72) s 15 _ false rfl _ _ rfl rfl o72_53.2
theorem g_o72_53 (j : Nat) : gdst (gO c72_53) j = (o72_53.1[j]?).bind Oper.dst := gd_eq o72_53.2 j
theorem r_n72_54 (s : S) : n72_54 s = some (.ret, s) := run_ret _ s
theorem r_n72_52 (s : S) : n72_52 s = contK n72_54 (n72_53 s) := q_seq _ c72_53 c72_54 s
theorem r_n72_56 (s : S) : n72_56 s = behK 140806207832074 (stepsO X (annT 72) C (gO c72_56) o72_56.1 s) := q_region (annT 72) s 16 _ false rfl _ _ rfl rfl o72_56.2
theorem g_o72_56 (j : Nat) : gdst (gO c72_56) j = (o72_56.1[j]?).bind Oper.dst := gd_eq o72_56.2 j
theorem r_n72_59 (s : S) : n72_59 s = behK 4 (stepsO X (annT 72) C (gO c72_59) o72_59.1 s) := q_region (annT 72) s 17 _ false rfl _ _ rfl rfl o72_59.2
theorem g_o72_59 (j : Nat) : gdst (gO c72_59) j = (o72_59.1[j]?).bind Oper.dst := gd_eq o72_59.2 j
theorem r_n72_60 (s : S) : n72_60 s = some (.ret, s) := run_ret _ s
theorem r_n72_58 (s : S) : n72_58 s = contK n72_60 (n72_59 s) := q_seq _ c72_59 c72_60 s
theorem r_n72_62 (s : S) : n72_62 s = behK 18014467228958730 (stepsO X (annT 72) C (gO c72_62) o72_62.1 s) := q_region (annT 72) s 18 _ false rfl _ _ rfl rfl o72_62.2
theorem g_o72_62 (j : Nat) : gdst (gO c72_62) j = (o72_62.1[j]?).bind Oper.dst := gd_eq o72_62.2 j
theorem r_n72_65 (s : S) : n72_65 s = behK 4 (stepsO X (annT 72) C (gO c72_65) o72_65.1 s) := q_region (annT 72) s 19 _ false rfl _ _ rfl rfl o72_65.2
theorem g_o72_65 (j : Nat) : gdst (gO c72_65) j = (o72_65.1[j]?).bind Oper.dst := gd_eq o72_65.2 j
theorem r_n72_66 (s : S) : n72_66 s = some (.ret, s) := run_ret _ s
theorem r_n72_64 (s : S) : n72_64 s = contK n72_66 (n72_65 s) := q_seq _ c72_65 c72_66 s
theorem r_n72_68 (s : S) : n72_68 s = behK 73786976294838206474 (stepsO X (annT 72) C (gO c72_68) o72_68.1 s) := q_region (annT 72) s 20 _ false rfl _ _ rfl rfl o72_68.2
theorem g_o72_68 (j : Nat) : gdst (gO c72_68) j = (o72_68.1[j]?).bind Oper.dst := gd_eq o72_68.2 j
theorem r_n72_71 (s : S) : n72_71 s = behK 26 (stepsO X (annT 72) C (gO c72_71) o72_71.1 s) := q_region (annT 72) s 21 _ false rfl _ _ rfl rfl o72_71.2
theorem g_o72_71 (j : Nat) : gdst (gO c72_71) j = (o72_71.1[j]?).bind Oper.dst := gd_eq o72_71.2 j
theorem r_n72_73 (s : S) : n72_73 s = behK 4 (stepsO X (annT 72) C (gO c72_73) o72_73.1 s) := q_region (annT 72) s 22 _ false rfl _ _ rfl rfl o72_73.2
theorem g_o72_73 (j : Nat) : gdst (gO c72_73) j = (o72_73.1[j]?).bind Oper.dst := gd_eq o72_73.2 j
theorem r_n72_74 (s : S) : n72_74 s = some (.ret, s) := run_ret _ s
theorem r_n72_72 (s : S) : n72_72 s = contK n72_74 (n72_73 s) := q_seq _ c72_73 c72_74 s
theorem r_n72_70 (s : S) : n72_70 s = contK n72_72 (n72_71 s) := q_seq _ c72_71 c72_72 s
theorem r_n72_75 (s : S) : n72_75 s = some (.norm, s) := run_skip _ s
theorem r_n72_69 (s : S) : n72_69 s = condK (opv s.t (.tmp 66)) n72_70 n72_75 s := q_cond _ c72_70 c72_75 s (.tmp 66)
theorem r_n72_67 (s : S) : n72_67 s = contK n72_69 (n72_68 s) := q_seq _ c72_68 c72_69 s
theorem r_n72_63 (s : S) : n72_63 s = condK (opv s.t (.tmp 54)) n72_64 n72_67 s := q_cond _ c72_64 c72_67 s (.tmp 54)
theorem r_n72_61 (s : S) : n72_61 s = contK n72_63 (n72_62 s) := q_seq _ c72_62 c72_63 s
theorem r_n72_57 (s : S) : n72_57 s = condK (opv s.t (.tmp 47)) n72_58 n72_61 s := q_cond _ c72_58 c72_61 s (.tmp 47)
theorem r_n72_55 (s : S) : n72_55 s = contK n72_57 (n72_56 s) := q_seq _ c72_56 c72_57 s
theorem r_n72_51 (s : S) : n72_51 s = condK (opv s.t (.tmp 37)) n72_52 n72_55 s := q_cond _ c72_52 c72_55 s (.tmp 37)
theorem r_n72_37 (s : S) : n72_37 s = contK n72_51 (n72_38 s) := q_seq _ c72_38 c72_51 s
theorem r_n72_36 (s : S) : n72_36 s = blkK 1 (n72_37 s) := q_block _ c72_37 s 1
theorem r_n72_34 (s : S) : n72_34 s = contK n72_36 (n72_35 s) := q_seq _ c72_35 c72_36 s
theorem r_n72_77 (s : S) : n72_77 s = behK 4 (stepsO X (annT 72) C (gO c72_77) o72_77.1 s) := q_region (annT 72) s 23 _ false rfl _ _ rfl rfl o72_77.2
theorem g_o72_77 (j : Nat) : gdst (gO c72_77) j = (o72_77.1[j]?).bind Oper.dst := gd_eq o72_77.2 j
theorem r_n72_78 (s : S) : n72_78 s = some (.ret, s) := run_ret _ s
theorem r_n72_76 (s : S) : n72_76 s = contK n72_78 (n72_77 s) := q_seq _ c72_77 c72_78 s
theorem r_n72_33 (s : S) : n72_33 s = contK n72_76 (n72_34 s) := q_seq _ c72_34 c72_76 s
theorem r_n72_25 (s : S) : n72_25 s = contK n72_33 (n72_26 s) := q_seq _ c72_26 c72_33 s
theorem r_n72_4 (s : S) : n72_4 s = contK n72_25 (n72_5 s) := q_seq _ c72_5 c72_25 s
theorem r_n72_2 (s : S) : n72_2 s = contK n72_4 (n72_3 s) := q_seq _ c72_3 c72_4 s
theorem r_n72_0 (s : S) : n72_0 s = contK n72_2 (n72_1 s) := q_seq _ c72_1 c72_2 s
theorem va_72 : (annT 72).virt = [] := rfl
theorem wa_72 : (annT 72).wr = [] := rfl
theorem ya_72 : (annT 72).ty = [] := rfl
theorem cv_72 (call : Eng.Call) (wr : Bool) (args : List AV) (st : Store) : callV X call wr 72 args st = cvP call wr 72 args st (fzAll (fz false st 6) args) := cv_pure rfl rfl call wr args st
theorem p72 (ds : List D) : pureCall C 72 ds = ((n72_0 ⟨argsT 0 (ds.map .d), []⟩).bind (bodyR [.tmp 2])).bind prOf := P_eq Try.f72 rfl rfl rfl rfl ds
theorem q72 (vs : List AV) (st : Store) : C 72 vs st = (n72_0 ⟨argsT 0 vs, st⟩).bind (bodyR [.tmp 2]) := C_eq Try.f72 rfl rfl rfl rfl vs st
attribute [go_sem] r_n72_1 g_o72_1 o72_1 r_n72_3 g_o72_3 o72_3 r_n72_6 g_o72_6 o72_6 r_n72_10 g_o72_10 o72_10 r_n72_12 r_n72_13 g_o72_13 o72_13 r_n72_11 r_n72_9 r_n72_16 g_o72_16 o72_16 r_n72_17 r_n72_15 r_n72_19 g_o72_19 o72_19 r_n72_22 g_o72_22 o72_22 r_n72_23 r_n72_21 r_n72_24 r_n72_20 r_n72_18 r_n72_14 r_n72_8 r_n72_7 r_n72_5 r_n72_27 g_o72_27 o72_27 r_n72_30 g_o72_30 o72_30 r_n72_31 r_n72_29 r_n72_32 r_n72_28 r_n72_26 r_n72_35 g_o72_35 o72_35 r_n72_39 g_o72_39 o72_39 r_n72_41 r_n72_43 g_o72_43 o72_43 r_n72_45 r_n72_47 g_o72_47 o72_47 r_n72_49 r_n72_50 g_o72_50 o72_50 r_n72_48 r_n72_46 r_n72_44 r_n72_42 r_n72_40 r_n72_38 r_n72_53 g_o72_53 o72_53 r_n72_54 r_n72_52 r_n72_56 g_o72_56 o72_56 r_n72_59 g_o72_59 o72_59 r_n72_60 r_n72_58 r_n72_62 g_o72_62 o72_62 r_n72_65 g_o72_65 o72_65 r_n72_66 r_n72_64 r_n72_68 g_o72_68 o72_68 r_n72_71 g_o72_71 o72_71 r_n72_73 g_o72_73 o72_73 r_n72_74 r_n72_72 r_n72_70 r_n72_75 r_n72_69 r_n72_67 r_n72_63 r_n72_61 r_n72_57 r_n72_55 r_n72_51 r_n72_37 r_n72_36 r_n72_34 r_n72_77 g_o72_77 o72_77 r_n72_78 r_n72_76 r_n72_33 r_n72_25 r_n72_4 r_n72_2 r_n72_0 va_72 wa_72 ya_72 cv_72

noncomputable def c47_0 : Code := Try.f47.body.getD .skip
noncomputable def n47_0 : S → RS := run (annT 47) c47_0
noncomputable def c47_1 : Code := gL c47_0
noncomputable def n47_1 : S → RS := run (annT 47) c47_1
noncomputable def o47_1 : {l : List Oper // (gO c47_1).toList = l} := ⟨_, by conv => (lhs; whnf)⟩
noncomputable def c47_2 : Code := gR c47_0
noncomputable def n47_2 : S → RS := run (annT 47) c47_2
noncomputable def c47_3 : Code := gL c47_2
noncomputable def n47_3 : S → RS := run (annT 47) c47_3
noncomputable def c47_4 : Code := gL c47_3
noncomputable def n47_4 : S → RS := run (annT 47) c47_4
noncomputable def o47_4 : {l : List Oper // (gO c47_4).toList = l} := ⟨_, by conv => (lhs; whnf)⟩
noncomputable def c47_5 : Code := gR c47_3
noncomputable def n47_5 : S → RS := run (annT 47) c47_5
noncomputable def c47_6 : Code := gB c47_5
noncomputable def n47_6 : S → RS := run (annT 47) c47_6
noncomputable def c47_7 : Code := gB c47_6
noncomputable def n47_7 : S → RS := run (annT 47) c47_7
noncomputable def c47_8 : Code := gL c47_7
noncomputable def n47_8 : S → RS := run (annT 47) c47_8
noncomputable def c47_9 : Code := gL c47_8
noncomputable def n47_9 : S → RS := run (annT 47) c47_9
noncomputable def o47_9 : {l : List Oper // (gO c47_9).toList = l} := ⟨_, by conv => (lhs; whnf)⟩
noncomputable def c47_10 : Code := gR c47_8
noncomputable def n47_10 : S → RS := run (annT 47) c47_10
noncomputable def c47_11 : Code := gT c47_10
noncomputable def n47_11 : S → RS := run (annT 47) c47_11
noncomputable def c47_12 : Code := gF c47_10
noncomputable def n47_12 : S → RS := run (annT 47) c47_12
noncomputable def c47_13 : Code := gR c47_7
noncomputable def n47_13 : S → RS := run (annT 47) c47_13
noncomputable def c47_14 : Code := gL c47_13
noncomputable def n47_14 : S → RS := run (annT 47) c47_14
noncomputable def c47_15 : Code := gB c47_14
noncomputable def n47_15 : S → RS := run (annT 47) c47_15
noncomputable def c47_16 : Code := gL c47_15
noncomputable def n47_16 : S → RS := run (annT 47) c47_16
noncomputable def o47_16 : {l : List Oper // (gO c47_16).toList = l} := ⟨_, by conv => (lhs; whnf)⟩
noncomputable def c47_17 : Code := gR c47_15
noncomputable def n47_17 : S → RS := run (annT 47) c47_17
noncomputable def c47_18 : Code := gT c47_17
noncomputable def n47_18 : S → RS := run (annT 47) c47_18
noncomputable def c47_19 : Code := gL c47_18
noncomputable def n47_19 : S → RS := run (annT 47) c47_19
noncomputable def o47_19 : {l : List Oper // (gO c47_19).toList = l} := ⟨_, by conv => (lhs; whnf)⟩
noncomputable def c47_20 : Code := gR c47_18
noncomputable def n47_20 : S → RS := run (annT 47) c47_20
noncomputable def c47_21 : Code := gF c47_17
noncomputable def n47_21 : S → RS := run (annT 47) c47_21
noncomputable def c47_22 : Code := gR c47_13
noncomputable def n47_22 : S → RS := run (annT 47) c47_22
noncomputable def o47_22 : {l : List Oper // (gO c47_22).toList = l} := ⟨_, by conv => (lhs; whnf)⟩
noncomputable def c47_23 : Code := gR c47_2
noncomputable def n47_23 : S → RS := run (annT 47) c47_23
noncomputable def c47_24 : Code := gL c47_23
noncomputable def n47_24 : S → RS := run (annT 47) c47_24
noncomputable def o47_24 : {l : List Oper // (gO c47_24).toList = l} := ⟨_, by conv => (lhs; whnf)⟩
noncomputable def c47_25 : Code := gR c47_23
noncomputable def n47_25 : S → RS := run (annT 47) c47_25
theorem r_n47_1 (s : S) : n47_1 s = behK 2 (stepsO X (annT 47) C (gO c47_1) o47_1.1 s) := q_region (annT 47) s 0 _ false rfl _ _ rfl rfl o47_1.2
theorem g_o47_1 (j : Nat) : gdst (gO c47_1) j = (o47_1.1[j]?).bind Oper.dst := gd_eq o47_1.2 j
theorem r_n47_4 (s : S) : n47_4 s = behK 10 (stepsO X (annT 47) C (gO c47_4) o47_4.1 s) := q_region (annT 47) s 1 _ false rfl _ _ rfl rfl o47_4.2
theorem g_o47_4 (j : Nat) : gdst (gO c47_4) j = (o47_4.1[j]?).bind Oper.dst := gd_eq o47_4.2 j
theorem r_n47_9 (s : S) : n47_9 s = behK 266 (stepsO X (annT 47) C (gO c47_9) o47_9.1 s) := q_region (annT 47) s 2 _ false rfl _ _ rfl rfl o47_9.2
theorem g_o47_9 (j : Nat) : gdst (gO c47_9) j = (o47_9.1[j]?).bind Oper.dst := gd_eq o47_9.2 j
theorem r_n47_11 (s : S) : n47_11 s = some (.norm, s) := run_skip _ s
theorem r_n47_12 (s : S) : n47_12 s = some (.exit 0, s) := run_exit _ s 0
theorem r_n47_10 (s : S) : n47_10 s = condK (opv s.t (.tmp 8)) n47_11 n47_12 s := q_cond _ c47_11 c47_12 s (.tmp 8)
theorem r_n47_8 (s : S) : n47_8 s = contK n47_10 (n47_9 s) := q_seq _ c47_9 c47_10 s
theorem r_n47_16 (s : S) : n47_16 s = behK 131082 (stepsO X (annT 47) C (gO c47_16) o47_16.1 s) := q_region (annT 47) s 4 _ false rfl _ _ rfl rfl o47_16.2
theorem g_o47_16 (j : Nat) : gdst (gO c47_16) j = (o47_16.1[j]?).bind Oper.dst := gd_eq o47_16.2 j
theorem r_n47_19 (s : S) : n47_19 s = behK 4 (stepsO X (annT 47) C (gO c47_19) o47_19.1 s) := q_region (annT 47) s 5 _ false rfl _ _ rfl rfl o47_19.2
theorem g_o47_19 (j : Nat) : gdst (gO c47_19) j = (o47_19.1[j]?).bind Oper.dst := gd_eq o47_19.2 j
theorem r_n47_20 (s : S) : n47_20 s = some (.ret, s) := run_ret _ s
theorem r_n47_18 (s : S) : n47_18 s = contK n47_20 (n47_19 s) := q_seq _ c47_19 c47_20 s
theorem r_n47_21 (s : S) : n47_21 s = some (.norm, s) := run_skip _ s
theorem r_n47_17 (s : S) : n47_17 s = condK (opv s.t (.tmp 17)) n47_18 n47_21 s := q_cond _ c47_18 c47_21 s (.tmp 17)
theorem r_n47_15 (s : S) : n47_15 s = contK n47_17 (n47_16 s) := q_seq _ c47_16 c47_17 s
theorem r_n47_14 (s : S) : n47_14 s = blkK 1 (n47_15 s) := q_block _ c47_15 s 1
theorem r_n47_22 (s : S) : n47_22 s = behK 10 (stepsO X (annT 47) C (gO c47_22) o47_22.1 s) := q_region (annT 47) s 3 _ false rfl _ _ rfl rfl o47_22.2
theorem g_o47_22 (j : Nat) : gdst (gO c47_22) j = (o47_22.1[j]?).bind Oper.dst := gd_eq o47_22.2 j
theorem r_n47_13 (s : S) : n47_13 s = contK n47_22 (n47_14 s) := q_seq _ c47_14 c47_22 s
theorem r_n47_7 (s : S) : n47_7 s = contK n47_13 (n47_8 s) := q_seq _ c47_8 c47_13 s
theorem r_n47_6 (s : S) : n47_6 s = loopK 10 s.st.length n47_6 (n47_7 s) := q_loop (annT 47) c47_7 s _ _ rfl rfl
theorem r_n47_5 (s : S) : n47_5 s = blkK 0 (n47_6 s) := q_block _ c47_6 s 0
theorem r_n47_3 (s : S) : n47_3 s = contK n47_5 (n47_4 s) := q_seq _ c47_4 c47_5 s
theorem r_n47_24 (s : S) : n47_24 s = behK 4 (stepsO X (annT 47) C (gO c47_24) o47_24.1 s) := q_region (annT 47) s 6 _ false rfl _ _ rfl rfl o47_24.2
theorem g_o47_24 (j : Nat) : gdst (gO c47_24) j = (o47_24.1[j]?).bind Oper.dst := gd_eq o47_24.2 j
theorem r_n47_25 (s : S) : n47_25 s = some (.ret, s) := run_ret _ s
theorem r_n47_23 (s : S) : n47_23 s = contK n47_25 (n47_24 s) := q_seq _ c47_24 c47_25 s
theorem r_n47_2 (s : S) : n47_2 s = contK n47_23 (n47_3 s) := q_seq _ c47_3 c47_23 s
theorem r_n47_0 (s : S) : n47_0 s = contK n47_2 (n47_1 s) := q_seq _ c47_1 c47_2 s
theorem va_47 : (annT 47).virt = [] := rfl
theorem wa_47 : (annT 47).wr = [] := rfl
theorem ya_47 : (annT 47).ty = [] := rfl
theorem cv_47 (call : Eng.Call) (wr : Bool) (args : List AV) (st : Store) : callV X call wr 47 args st = cvP call wr 47 args st (fzAll (fz false st 6) args) := cv_pure rfl rfl call wr args st
theorem p47 (ds : List D) : pureCall C 47 ds = ((n47_0 ⟨argsT 0 (ds.map .d), []⟩).bind (bodyR [.tmp 2])).bind prOf := P_eq Try.f47 rfl rfl rfl rfl ds
theorem q47 (vs : List AV) (st : Store) : C 47 vs st = (n47_0 ⟨argsT 0 vs, st⟩).bind (bodyR [.tmp 2]) := C_eq Try.f47 rfl rfl rfl rfl vs st
attribute [go_sem] r_n47_1 g_o47_1 o47_1 r_n47_4 g_o47_4 o47_4 r_n47_9 g_o47_9 o47_9 r_n47_11 r_n47_12 r_n47_10 r_n47_8 r_n47_16 g_o47_16 o47_16 r_n47_19 g_o47_19 o47_19 r_n47_20 r_n47_18 r_n47_21 r_n47_17 r_n47_15 r_n47_14 r_n47_22 g_o47_22 o47_22 r_n47_13 r_n47_7 r_n47_5 r_n47_3 r_n47_24 g_o47_24 o47_24 r_n47_25 r_n47_23 r_n47_2 r_n47_0 va_47 wa_47 ya_47 cv_47

noncomputable def c24_0 : Code := Try.f24.body.getD .skip
noncomputable def n24_0 : S → RS := run (annT 24) c24_0
noncomputable def c24_1 : Code := gL c24_0
noncomputable def n24_1 : S → RS := run (annT 24) c24_1
noncomputable def o24_1 : {l : List Oper // (gO c24_1).toList = l} := ⟨_, by conv => (lhs; whnf)⟩
noncomputable def c24_2 : Code := gR c24_0
noncomputable def n24_2 : S → RS := run (annT 24) c24_2
noncomputable def c24_3 : Code := gL c24_2
noncomputable def n24_3 : S → RS := run (annT 24) c24_3
noncomputable def c24_4 : Code := gL c24_3
noncomputable def n24_4 : S → RS := run (annT 24) c24_4
noncomputable def o24_4 : {l : List Oper // (gO c24_4).toList = l} := ⟨_, by conv => (lhs; whnf)⟩
noncomputable def c24_5 : Code := gR c24_3
noncomputable def n24_5 : S → RS := run (annT 24) c24_5
noncomputable def c24_6 : Code := gT c24_5
noncomputable def n24_6 : S → RS := run (annT 24) c24_6
noncomputable def c24_7 : Code := gL c24_6
noncomputable def n24_7 : S → RS := run (annT 24) c24_7
noncomputable def o24_7 : {l : List Oper // (gO c24_7).toList = l} := ⟨_, by conv => (lhs; whnf)⟩
noncomputable def c24_8 : Code := gR c24_6
noncomputable def n24_8 : S → RS := run (annT 24) c24_8
noncomputable def c24_9 : Code := gF c24_5
noncomputable def n24_9 : S → RS := run (annT 24) c24_9
noncomputable def c24_10 : Code := gR c24_2
noncomputable def n24_10 : S → RS := run (annT 24) c24_10
noncomputable def c24_11 : Code := gL c24_10
noncomputable def n24_11 : S → RS := run (annT 24) c24_11
noncomputable def o24_11 : {l : List Oper // (gO c24_11).toList = l} := ⟨_, by conv => (lhs; whnf)⟩
noncomputable def c24_12 : Code := gR c24_10
noncomputable def n24_12 : S → RS := run (annT 24) c24_12
theorem r_n24_1 (s : S) : n24_1 s = behK 2 (stepsO X (annT 24) C (gO c24_1) o24_1.1 s) := q_region (annT 24) s 0 _ false rfl _ _ rfl rfl o24_1.2
theorem g_o24_1 (j : Nat) : gdst (gO c24_1) j = (o24_1.1[j]?).bind Oper.dst := gd_eq o24_1.2 j
theorem r_n24_4 (s : S) : n24_4 s = behK 32768 (stepsO X (annT 24) C (gO c24_4) o24_4.1 s) := q_region (annT 24) s 1 _ false rfl _ _ rfl rfl o24_4.2
theorem g_o24_4 (j : Nat) : gdst (gO c24_4) j = (o24_4.1[j]?).bind Oper.dst := gd_eq o24_4.2 j
theorem r_n24_7 (s : S) : n24_7 s = behK 4 (stepsO X (annT 24) C (gO c24_7) o24_7.1 s) := q_region (annT 24) s 2 _ false rfl _ _ rfl rfl o24_7.2
theorem g_o24_7 (j : Nat) : gdst (gO c24_7) j = (o24_7.1[j]?).bind Oper.dst := gd_eq o24_7.2 j
theorem r_n24_8 (s : S) : n24_8 s = some (.ret, s) := run_ret _ s
theorem r_n24_6 (s : S) : n24_6 s = contK n24_8 (n24_7 s) := q_seq _ c24_7 c24_8 s
theorem r_n24_9 (s : S) : n24_9 s = some (.norm, s) := run_skip _ s
theorem r_n24_5 (s : S) : n24_5 s = condK (opv s.t (.tmp 15)) n24_6 n24_9 s := q_cond _ c24_6 c24_9 s (.tmp 15)
theorem r_n24_3 (s : S) : n24_3 s = contK n24_5 (n24_4 s) := q_seq _ c24_4 c24_5 s
theorem r_n24_11 (s : S) : n24_11 s = behK 4 (stepsO X (annT 24) C (gO c24_11) o24_11.1 s) := q_region (annT 24) s 3 _ false rfl _ _ rfl rfl o24_11.2
theorem g_o24_11 (j : Nat) : gdst (gO c24_11) j = (o24_11.1[j]?).bind Oper.dst := gd_eq o24_11.2 j
theorem r_n24_12 (s : S) : n24_12 s = some (.ret, s) := run_ret _ s
theorem r_n24_10 (s : S) : n24_10 s = contK n24_12 (n24_11 s) := q_seq _ c24_11 c24_12 s
theorem r_n24_2 (s : S) : n24_2 s = contK n24_10 (n24_3 s) := q_seq _ c24_3 c24_10 s
theorem r_n24_0 (s : S) : n24_0 s = contK n24_2 (n24_1 s) := q_seq _ c24_1 c24_2 s
theorem va_24 : (annT 24).virt = [] := rfl
theorem wa_24 : (annT 24).wr = [] := rfl
theorem ya_24 : (annT 24).ty = [] := rfl
theorem cv_24 (call : Eng.Call) (wr : Bool) (args : List AV) (st : Store) : callV X call wr 24 args st = cvP call wr 24 args st (fzAll (fz false st 6) args) := cv_pure rfl rfl call wr args st
theorem p24 (ds : List D) : pureCall C 24 ds = ((n24_0 ⟨argsT 0 (ds.map .d), []⟩).bind (bodyR [.tmp 2])).bind prOf := P_eq Try.f24 rfl rfl rfl rfl ds
theorem q24 (vs : List AV) (st : Store) : C 24 vs st = (n24_0 ⟨argsT 0 vs, st⟩).bind (bodyR [.tmp 2]) := C_eq Try.f24 rfl rfl rfl rfl vs st
attribute [go_sem] r_n24_1 g_o24_1 o24_1 r_n24_4 g_o24_4 o24_4 r_n24_7 g_o24_7 o24_7 r_n24_8 r_n24_6 r_n24_9 r_n24_5 r_n24_3 r_n24_11 g_o24_11 o24_11 r_n24_12 r_n24_10 r_n24_2 r_n24_0 va_24 wa_24 ya_24 cv_24
end Go.L25
