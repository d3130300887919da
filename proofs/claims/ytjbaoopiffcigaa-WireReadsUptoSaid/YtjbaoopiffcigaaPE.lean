/- Layer 25: codes by their parts. Conditions: none. -/
import Derived.Test.YtjbaoopiffcigaaPC
set_option linter.unusedVariables false
namespace Go.L25
open Go Go.Eng Go.Proofs
set_option maxRecDepth 100000
noncomputable section
variable (s : S) (j : Nat)
noncomputable def c70_0 : Code := Try.f70.body.getD .skip
noncomputable def A70 := run (annT 70)
def n70_0 := A70 c70_0
def c70_1 := gL c70_0
def n70_1 := A70 c70_1
def o70_1 : OL c70_1 := ⟨_, by conv => (lhs; whnf)⟩
def c70_2 := gR c70_0
def n70_2 := A70 c70_2
def c70_3 := gL c70_2
def n70_3 := A70 c70_3
def o70_3 : OL c70_3 := ⟨_, by conv => (lhs; whnf)⟩
def c70_4 := gR c70_2
def n70_4 := A70 c70_4
def c70_5 := gL c70_4
def n70_5 := A70 c70_5
def c70_6 := gL c70_5
def n70_6 := A70 c70_6
def o70_6 : OL c70_6 := ⟨_, by conv => (lhs; whnf)⟩
def c70_7 := gR c70_5
def n70_7 := A70 c70_7
def c70_8 := gB c70_7
def n70_8 := A70 c70_8
def c70_9 := gB c70_8
def n70_9 := A70 c70_9
def c70_10 := gL c70_9
def n70_10 := A70 c70_10
def c70_11 := gL c70_10
def n70_11 := A70 c70_11
def o70_11 : OL c70_11 := ⟨_, by conv => (lhs; whnf)⟩
def c70_12 := gR c70_10
def n70_12 := A70 c70_12
def c70_13 := gT c70_12
def n70_13 := A70 c70_13
def c70_14 := gF c70_12
def n70_14 := A70 c70_14
def c70_15 := gR c70_9
def n70_15 := A70 c70_15
def c70_16 := gL c70_15
def n70_16 := A70 c70_16
def c70_17 := gB c70_16
def n70_17 := A70 c70_17
def c70_18 := gL c70_17
def n70_18 := A70 c70_18
def o70_18 : OL c70_18 := ⟨_, by conv => (lhs; whnf)⟩
def c70_19 := gR c70_17
def n70_19 := A70 c70_19
def c70_20 := gL c70_19
def n70_20 := A70 c70_20
def o70_20 : OL c70_20 := ⟨_, by conv => (lhs; whnf)⟩
def c70_21 := gR c70_19
def n70_21 := A70 c70_21
def c70_22 := gT c70_21
def n70_22 := A70 c70_22
def o70_22 : OL c70_22 := ⟨_, by conv => (lhs; whnf)⟩
def c70_23 := gF c70_21
def n70_23 := A70 c70_23
def c70_24 := gR c70_15
def n70_24 := A70 c70_24
def o70_24 : OL c70_24 := ⟨_, by conv => (lhs; whnf)⟩
def c70_25 := gR c70_4
def n70_25 := A70 c70_25
def c70_26 := gL c70_25
def n70_26 := A70 c70_26
def o70_26 : OL c70_26 := ⟨_, by conv => (lhs; whnf)⟩
def c70_27 := gR c70_25
def n70_27 := A70 c70_27
theorem r_n70_1 : n70_1 s = behK 6 (stepsO X (annT 70) C (gO c70_1) o70_1.1 s) := q_region (annT 70) s 0 _ false rfl _ _ rfl rfl o70_1.2
theorem g_o70_1 : gdst (gO c70_1) j = (o70_1.1[j]?).bind Oper.dst := gd_eq o70_1.2 j
theorem r_n70_3 : n70_3 s = behK 38 (stepsO X (annT 70) C (gO c70_3) o70_3.1 s) := q_region (annT 70) s 1 _ false rfl _ _ rfl rfl o70_3.2
theorem g_o70_3 : gdst (gO c70_3) j = (o70_3.1[j]?).bind Oper.dst := gd_eq o70_3.2 j
theorem r_n70_6 : n70_6 s = behK 102 (stepsO X (annT 70) C (gO c70_6) o70_6.1 s) := q_region (annT 70) s 2 _ false rfl _ _ rfl rfl o70_6.2
theorem g_o70_6 : gdst (gO c70_6) j = (o70_6.1[j]?).bind Oper.dst := gd_eq o70_6.2 j
theorem r_n70_11 : n70_11 s = behK 65638 (stepsO X (annT 70) C (gO c70_11) o70_11.1 s) := q_region (annT 70) s 3 _ false rfl _ _ rfl rfl o70_11.2
theorem g_o70_11 : gdst (gO c70_11) j = (o70_11.1[j]?).bind Oper.dst := gd_eq o70_11.2 j
theorem r_n70_13 : n70_13 s = some (.norm, s) := run_skip _ s
theorem r_n70_14 : n70_14 s = some (.exit 0, s) := run_exit _ s 0
theorem r_n70_12 : n70_12 s = condK (opv s.t (.tmp 16)) n70_13 n70_14 s := q_cond _ c70_13 c70_14 s (.tmp 16)
theorem r_n70_10 : n70_10 s = contK n70_12 (n70_11 s) := q_seq _ c70_11 c70_12 s
theorem r_n70_18 : n70_18 s = behK 230 (stepsO X (annT 70) C (gO c70_18) o70_18.1 s) := q_region (annT 70) s 5 _ false rfl _ _ rfl rfl o70_18.2
theorem g_o70_18 : gdst (gO c70_18) j = (o70_18.1[j]?).bind Oper.dst := gd_eq o70_18.2 j
theorem r_n70_20 : n70_20 s = behK 536871142 (stepsO X (annT 70) C (gO c70_20) o70_20.1 s) := q_region (annT 70) s 6 _ false rfl _ _ rfl rfl o70_20.2
theorem g_o70_20 : gdst (gO c70_20) j = (o70_20.1[j]?).bind Oper.dst := gd_eq o70_20.2 j
theorem r_n70_22 : n70_22 s = behK 102 (stepsO X (annT 70) C (gO c70_22) o70_22.1 s) := q_region (annT 70) s 7 _ false rfl _ _ rfl rfl o70_22.2
theorem g_o70_22 : gdst (gO c70_22) j = (o70_22.1[j]?).bind Oper.dst := gd_eq o70_22.2 j
theorem r_n70_23 : n70_23 s = some (.norm, s) := run_skip _ s
theorem r_n70_21 : n70_21 s = condK (opv s.t (.tmp 29)) n70_22 n70_23 s := q_cond _ c70_22 c70_23 s (.tmp 29)
theorem r_n70_19 : n70_19 s = contK n70_21 (n70_20 s) := q_seq _ c70_20 c70_21 s
theorem r_n70_17 : n70_17 s = contK n70_19 (n70_18 s) := q_seq _ c70_18 c70_19 s
theorem r_n70_16 : n70_16 s = blkK 1 (n70_17 s) := q_block _ c70_17 s 1
theorem r_n70_24 : n70_24 s = behK 102 (stepsO X (annT 70) C (gO c70_24) o70_24.1 s) := q_region (annT 70) s 4 _ false rfl _ _ rfl rfl o70_24.2
theorem g_o70_24 : gdst (gO c70_24) j = (o70_24.1[j]?).bind Oper.dst := gd_eq o70_24.2 j
theorem r_n70_15 : n70_15 s = contK n70_24 (n70_16 s) := q_seq _ c70_16 c70_24 s
theorem r_n70_9 : n70_9 s = contK n70_15 (n70_10 s) := q_seq _ c70_10 c70_15 s
theorem r_n70_8 : n70_8 s = loopK 102 s.st.length n70_8 (n70_9 s) := q_loop (annT 70) c70_9 s _ _ rfl rfl
theorem r_n70_7 : n70_7 s = blkK 0 (n70_8 s) := q_block _ c70_8 s 0
theorem r_n70_5 : n70_5 s = contK n70_7 (n70_6 s) := q_seq _ c70_6 c70_7 s
theorem r_n70_26 : n70_26 s = behK 16 (stepsO X (annT 70) C (gO c70_26) o70_26.1 s) := q_region (annT 70) s 8 _ false rfl _ _ rfl rfl o70_26.2
theorem g_o70_26 : gdst (gO c70_26) j = (o70_26.1[j]?).bind Oper.dst := gd_eq o70_26.2 j
theorem r_n70_27 : n70_27 s = some (.ret, s) := run_ret _ s
theorem r_n70_25 : n70_25 s = contK n70_27 (n70_26 s) := q_seq _ c70_26 c70_27 s
theorem r_n70_4 : n70_4 s = contK n70_25 (n70_5 s) := q_seq _ c70_5 c70_25 s
theorem r_n70_2 : n70_2 s = contK n70_4 (n70_3 s) := q_seq _ c70_3 c70_4 s
theorem r_n70_0 : n70_0 s = contK n70_2 (n70_1 s) := q_seq _ c70_1 c70_2 s
theorem va_70 : (annT 70).virt = [] := rfl
theorem wa_70 : (annT 70).wr = [] := rfl
theorem ya_70 : (annT 70).ty = [] := rfl
theorem cv_70 (call : Eng.Call) (wr : Bool) (args : List AV) (st : Store) : callV X call wr 70 args st = cvP call wr 70 args st (fzAll (fz false st 6) args) := cv_pure rfl rfl call wr args st
theorem p70 (ds : List D) : pureCall C 70 ds = ((n70_0 ⟨argsT 0 (ds.map .d), []⟩).bind (bodyR [.tmp 4])).bind prOf := P_eq Try.f70 rfl rfl rfl rfl ds
theorem q70 (vs : List AV) (st : Store) : C 70 vs st = (n70_0 ⟨argsT 0 vs, st⟩).bind (bodyR [.tmp 4]) := C_eq Try.f70 rfl rfl rfl rfl vs st
attribute [go_sem] r_n70_1 g_o70_1 o70_1 r_n70_3 g_o70_3 o70_3 r_n70_6 g_o70_6 o70_6 r_n70_11 g_o70_11 o70_11 r_n70_13 r_n70_14 r_n70_12 r_n70_10 r_n70_18 g_o70_18 o70_18 r_n70_20 g_o70_20 o70_20 r_n70_22 g_o70_22 o70_22 r_n70_23 r_n70_21 r_n70_19 r_n70_17 r_n70_16 r_n70_24 g_o70_24 o70_24 r_n70_15 r_n70_9 r_n70_7 r_n70_5 r_n70_26 g_o70_26 o70_26 r_n70_27 r_n70_25 r_n70_4 r_n70_2 r_n70_0 va_70 wa_70 ya_70 cv_70
noncomputable def c45_0 : Code := Try.f45.body.getD .skip
noncomputable def A45 := run (annT 45)
def n45_0 := A45 c45_0
def c45_1 := gL c45_0
def n45_1 := A45 c45_1
def o45_1 : OL c45_1 := ⟨_, by conv => (lhs; whnf)⟩
def c45_2 := gR c45_0
def n45_2 := A45 c45_2
def c45_3 := gL c45_2
def n45_3 := A45 c45_3
def o45_3 : OL c45_3 := ⟨_, by conv => (lhs; whnf)⟩
def c45_4 := gR c45_2
def n45_4 := A45 c45_4
theorem r_n45_1 : n45_1 s = behK 2 (stepsO X (annT 45) C (gO c45_1) o45_1.1 s) := q_region (annT 45) s 0 _ false rfl _ _ rfl rfl o45_1.2
theorem g_o45_1 : gdst (gO c45_1) j = (o45_1.1[j]?).bind Oper.dst := gd_eq o45_1.2 j
theorem r_n45_3 : n45_3 s = behK 4 (stepsO X (annT 45) C (gO c45_3) o45_3.1 s) := q_region (annT 45) s 1 _ false rfl _ _ rfl rfl o45_3.2
theorem g_o45_3 : gdst (gO c45_3) j = (o45_3.1[j]?).bind Oper.dst := gd_eq o45_3.2 j
theorem r_n45_4 : n45_4 s = some (.ret, s) := run_ret _ s
theorem r_n45_2 : n45_2 s = contK n45_4 (n45_3 s) := q_seq _ c45_3 c45_4 s
theorem r_n45_0 : n45_0 s = contK n45_2 (n45_1 s) := q_seq _ c45_1 c45_2 s
theorem va_45 : (annT 45).virt = [] := rfl
theorem wa_45 : (annT 45).wr = [] := rfl
theorem ya_45 : (annT 45).ty = [] := rfl
theorem cv_45 (call : Eng.Call) (wr : Bool) (args : List AV) (st : Store) : callV X call wr 45 args st = cvP call wr 45 args st (fzAll (fz false st 6) args) := cv_pure rfl rfl call wr args st
theorem p45 (ds : List D) : pureCall C 45 ds = ((n45_0 ⟨argsT 0 (ds.map .d), []⟩).bind (bodyR [.tmp 2])).bind prOf := P_eq Try.f45 rfl rfl rfl rfl ds
theorem q45 (vs : List AV) (st : Store) : C 45 vs st = (n45_0 ⟨argsT 0 vs, st⟩).bind (bodyR [.tmp 2]) := C_eq Try.f45 rfl rfl rfl rfl vs st
attribute [go_sem] r_n45_1 g_o45_1 o45_1 r_n45_3 g_o45_3 o45_3 r_n45_4 r_n45_2 r_n45_0 va_45 wa_45 ya_45 cv_45
noncomputable def c71_0 : Code := Try.f71.body.getD .skip
noncomputable def A71 := run (annT 71)
def n71_0 := A71 c71_0
def c71_1 := gL c71_0
def n71_1 := A71 c71_1
def o71_1 : OL c71_1 := ⟨_, by conv => (lhs; whnf)⟩
def c71_2 := gR c71_0
def n71_2 := A71 c71_2
def c71_3 := gL c71_2
def n71_3 := A71 c71_3
def o71_3 : OL c71_3 := ⟨_, by conv => (lhs; whnf)⟩
def c71_4 := gR c71_2
def n71_4 := A71 c71_4
def c71_5 := gL c71_4
def n71_5 := A71 c71_5
def c71_6 := gL c71_5
def n71_6 := A71 c71_6
def o71_6 : OL c71_6 := ⟨_, by conv => (lhs; whnf)⟩
def c71_7 := gR c71_5
def n71_7 := A71 c71_7
def c71_8 := gB c71_7
def n71_8 := A71 c71_8
def c71_9 := gB c71_8
def n71_9 := A71 c71_9
def c71_10 := gL c71_9
def n71_10 := A71 c71_10
def c71_11 := gL c71_10
def n71_11 := A71 c71_11
def o71_11 : OL c71_11 := ⟨_, by conv => (lhs; whnf)⟩
def c71_12 := gR c71_10
def n71_12 := A71 c71_12
def c71_13 := gT c71_12
def n71_13 := A71 c71_13
def c71_14 := gF c71_12
def n71_14 := A71 c71_14
def c71_15 := gR c71_9
def n71_15 := A71 c71_15
def c71_16 := gL c71_15
def n71_16 := A71 c71_16
def c71_17 := gB c71_16
def n71_17 := A71 c71_17
def o71_17 : OL c71_17 := ⟨_, by conv => (lhs; whnf)⟩
def c71_18 := gR c71_15
def n71_18 := A71 c71_18
def o71_18 : OL c71_18 := ⟨_, by conv => (lhs; whnf)⟩
def c71_19 := gR c71_4
def n71_19 := A71 c71_19
def c71_20 := gL c71_19
def n71_20 := A71 c71_20
def c71_21 := gL c71_20
def n71_21 := A71 c71_21
def o71_21 : OL c71_21 := ⟨_, by conv => (lhs; whnf)⟩
def c71_22 := gR c71_20
def n71_22 := A71 c71_22
def c71_23 := gT c71_22
def n71_23 := A71 c71_23
def c71_24 := gL c71_23
def n71_24 := A71 c71_24
def o71_24 : OL c71_24 := ⟨_, by conv => (lhs; whnf)⟩
def c71_25 := gR c71_23
def n71_25 := A71 c71_25
def c71_26 := gF c71_22
def n71_26 := A71 c71_26
def c71_27 := gR c71_19
def n71_27 := A71 c71_27
def c71_28 := gL c71_27
def n71_28 := A71 c71_28
def o71_28 : OL c71_28 := ⟨_, by conv => (lhs; whnf)⟩
def c71_29 := gR c71_27
def n71_29 := A71 c71_29
theorem r_n71_1 : n71_1 s = behK 2 (stepsO X (annT 71) C (gO c71_1) o71_1.1 s) := q_region (annT 71) s 0 _ false rfl _ _ rfl rfl o71_1.2
theorem g_o71_1 : gdst (gO c71_1) j = (o71_1.1[j]?).bind Oper.dst := gd_eq o71_1.2 j
theorem r_n71_3 : n71_3 s = behK 10 (stepsO X (annT 71) C (gO c71_3) o71_3.1 s) := q_region (annT 71) s 1 _ false rfl _ _ rfl rfl o71_3.2
theorem g_o71_3 : gdst (gO c71_3) j = (o71_3.1[j]?).bind Oper.dst := gd_eq o71_3.2 j
theorem r_n71_6 : n71_6 s = behK 26 (stepsO X (annT 71) C (gO c71_6) o71_6.1 s) := q_region (annT 71) s 2 _ false rfl _ _ rfl rfl o71_6.2
theorem g_o71_6 : gdst (gO c71_6) j = (o71_6.1[j]?).bind Oper.dst := gd_eq o71_6.2 j
theorem r_n71_11 : n71_11 s = behK 8218 (stepsO X (annT 71) C (gO c71_11) o71_11.1 s) := q_region (annT 71) s 3 _ false rfl _ _ rfl rfl o71_11.2
theorem g_o71_11 : gdst (gO c71_11) j = (o71_11.1[j]?).bind Oper.dst := gd_eq o71_11.2 j
theorem r_n71_13 : n71_13 s = some (.norm, s) := run_skip _ s
theorem r_n71_14 : n71_14 s = some (.exit 0, s) := run_exit _ s 0
theorem r_n71_12 : n71_12 s = condK (opv s.t (.tmp 13)) n71_13 n71_14 s := q_cond _ c71_13 c71_14 s (.tmp 13)
theorem r_n71_10 : n71_10 s = contK n71_12 (n71_11 s) := q_seq _ c71_11 c71_12 s
theorem r_n71_17 : n71_17 s = behK 26 (stepsO X (annT 71) C (gO c71_17) o71_17.1 s) := q_region (annT 71) s 5 _ false rfl _ _ rfl rfl o71_17.2
theorem g_o71_17 : gdst (gO c71_17) j = (o71_17.1[j]?).bind Oper.dst := gd_eq o71_17.2 j
theorem r_n71_16 : n71_16 s = blkK 1 (n71_17 s) := q_block _ c71_17 s 1
theorem r_n71_18 : n71_18 s = behK 26 (stepsO X (annT 71) C (gO c71_18) o71_18.1 s) := q_region (annT 71) s 4 _ false rfl _ _ rfl rfl o71_18.2
theorem g_o71_18 : gdst (gO c71_18) j = (o71_18.1[j]?).bind Oper.dst := gd_eq o71_18.2 j
theorem r_n71_15 : n71_15 s = contK n71_18 (n71_16 s) := q_seq _ c71_16 c71_18 s
theorem r_n71_9 : n71_9 s = contK n71_15 (n71_10 s) := q_seq _ c71_10 c71_15 s
theorem r_n71_8 : n71_8 s = loopK 26 s.st.length n71_8 (n71_9 s) := q_loop (annT 71) c71_9 s _ _ rfl rfl
theorem r_n71_7 : n71_7 s = blkK 0 (n71_8 s) := q_block _ c71_8 s 0
theorem r_n71_5 : n71_5 s = contK n71_7 (n71_6 s) := q_seq _ c71_6 c71_7 s
theorem r_n71_21 : n71_21 s = behK 33554440 (stepsO X (annT 71) C (gO c71_21) o71_21.1 s) := q_region (annT 71) s 6 _ false rfl _ _ rfl rfl o71_21.2
theorem g_o71_21 : gdst (gO c71_21) j = (o71_21.1[j]?).bind Oper.dst := gd_eq o71_21.2 j
theorem r_n71_24 : n71_24 s = behK 4 (stepsO X (annT 71) C (gO c71_24) o71_24.1 s) := q_region (annT 71) s 7 _ false rfl _ _ rfl rfl o71_24.2
theorem g_o71_24 : gdst (gO c71_24) j = (o71_24.1[j]?).bind Oper.dst := gd_eq o71_24.2 j
theorem r_n71_25 : n71_25 s = some (.ret, s) := run_ret _ s
theorem r_n71_23 : n71_23 s = contK n71_25 (n71_24 s) := q_seq _ c71_24 c71_25 s
theorem r_n71_26 : n71_26 s = some (.norm, s) := run_skip _ s
theorem r_n71_22 : n71_22 s = condK (opv s.t (.tmp 25)) n71_23 n71_26 s := q_cond _ c71_23 c71_26 s (.tmp 25)
theorem r_n71_20 : n71_20 s = contK n71_22 (n71_21 s) := q_seq _ c71_21 c71_22 s
theorem r_n71_28 : n71_28 s = behK 4 (stepsO X (annT 71) C (gO c71_28) o71_28.1 s) := q_region (annT 71) s 8 _ false rfl _ _ rfl rfl o71_28.2
theorem g_o71_28 : gdst (gO c71_28) j = (o71_28.1[j]?).bind Oper.dst := gd_eq o71_28.2 j
theorem r_n71_29 : n71_29 s = some (.ret, s) := run_ret _ s
theorem r_n71_27 : n71_27 s = contK n71_29 (n71_28 s) := q_seq _ c71_28 c71_29 s
theorem r_n71_19 : n71_19 s = contK n71_27 (n71_20 s) := q_seq _ c71_20 c71_27 s
theorem r_n71_4 : n71_4 s = contK n71_19 (n71_5 s) := q_seq _ c71_5 c71_19 s
theorem r_n71_2 : n71_2 s = contK n71_4 (n71_3 s) := q_seq _ c71_3 c71_4 s
theorem r_n71_0 : n71_0 s = contK n71_2 (n71_1 s) := q_seq _ c71_1 c71_2 s
theorem va_71 : (annT 71).virt = [] := rfl
theorem wa_71 : (annT 71).wr = [] := rfl
theorem ya_71 : (annT 71).ty = [] := rfl
theorem cv_71 (call : Eng.Call) (wr : Bool) (args : List AV) (st : Store) : callV X call wr 71 args st = cvP call wr 71 args st (fzAll (fz false st 6) args) := cv_pure rfl rfl call wr args st
theorem p71 (ds : List D) : pureCall C 71 ds = ((n71_0 ⟨argsT 0 (ds.map .d), []⟩).bind (bodyR [.tmp 2])).bind prOf := P_eq Try.f71 rfl rfl rfl rfl ds
theorem q71 (vs : List AV) (st : Store) : C 71 vs st = (n71_0 ⟨argsT 0 vs, st⟩).bind (bodyR [.tmp 2]) := C_eq Try.f71 rfl rfl rfl rfl vs st
attribute [go_sem] r_n71_1 g_o71_1 o71_1 r_n71_3 g_o71_3 o71_3 r_n71_6 g_o71_6 o71_6 r_n71_11 g_o71_11 o71_11 r_n71_13 r_n71_14 r_n71_12 r_n71_10 r_n71_17 g_o71_17 o71_17 r_n71_16 r_n71_18 g_o71_18 o71_18 r_n71_15 r_n71_9 r_n71_7 r_n71_5 r_n71_21 g_o71_21 o71_21 r_n71_24 g_o71_24 o71_24 r_n71_25 r_n71_23 r_n71_26 r_n71_22 r_n71_20 r_n71_28 g_o71_28 o71_28 r_n71_29 r_n71_27 r_n71_19 r_n71_4 r_n71_2 r_n71_0 va_71 wa_71 ya_71 cv_71
noncomputable def c46_0 : Code := Try.f46.body.getD .skip
noncomputable def A46 := run (annT 46)
def n46_0 := A46 c46_0
def c46_1 := gL c46_0
def n46_1 := A46 c46_1
def o46_1 : OL c46_1 := ⟨_, by conv => (lhs; whnf)⟩
def c46_2 := gR c46_0
def n46_2 := A46 c46_2
def c46_3 := gL c46_2
def n46_3 := A46 c46_3
def c46_4 := gL c46_3
def n46_4 := A46 c46_4
def o46_4 : OL c46_4 := ⟨_, by conv => (lhs; whnf)⟩
def c46_5 := gR c46_3
def n46_5 := A46 c46_5
def c46_6 := gT c46_5
def n46_6 := A46 c46_6
def c46_7 := gL c46_6
def n46_7 := A46 c46_7
def o46_7 : OL c46_7 := ⟨_, by conv => (lhs; whnf)⟩
def c46_8 := gR c46_6
def n46_8 := A46 c46_8
def c46_9 := gF c46_5
def n46_9 := A46 c46_9
def c46_10 := gR c46_2
def n46_10 := A46 c46_10
def c46_11 := gL c46_10
def n46_11 := A46 c46_11
def o46_11 : OL c46_11 := ⟨_, by conv => (lhs; whnf)⟩
def c46_12 := gR c46_10
def n46_12 := A46 c46_12
theorem r_n46_1 : n46_1 s = behK 2 (stepsO X (annT 46) C (gO c46_1) o46_1.1 s) := q_region (annT 46) s 0 _ false rfl _ _ rfl rfl o46_1.2
theorem g_o46_1 : gdst (gO c46_1) j = (o46_1.1[j]?).bind Oper.dst := gd_eq o46_1.2 j
theorem r_n46_4 : n46_4 s = behK 34 (stepsO X (annT 46) C (gO c46_4) o46_4.1 s) := q_region (annT 46) s 1 _ false rfl _ _ rfl rfl o46_4.2
theorem g_o46_4 : gdst (gO c46_4) j = (o46_4.1[j]?).bind Oper.dst := gd_eq o46_4.2 j
theorem r_n46_7 : n46_7 s = behK 4 (stepsO X (annT 46) C (gO c46_7) o46_7.1 s) := q_region (annT 46) s 2 _ false rfl _ _ rfl rfl o46_7.2
theorem g_o46_7 : gdst (gO c46_7) j = (o46_7.1[j]?).bind Oper.dst := gd_eq o46_7.2 j
theorem r_n46_8 : n46_8 s = some (.ret, s) := run_ret _ s
theorem r_n46_6 : n46_6 s = contK n46_8 (n46_7 s) := q_seq _ c46_7 c46_8 s
theorem r_n46_9 : n46_9 s = some (.norm, s) := run_skip _ s
theorem r_n46_5 : n46_5 s = condK (opv s.t (.tmp 5)) n46_6 n46_9 s := q_cond _ c46_6 c46_9 s (.tmp 5)
theorem r_n46_3 : n46_3 s = contK n46_5 (n46_4 s) := q_seq _ c46_4 c46_5 s
theorem r_n46_11 : n46_11 s = behK 4 (stepsO X (annT 46) C (gO c46_11) o46_11.1 s) := q_region (annT 46) s 3 _ false rfl _ _ rfl rfl o46_11.2
theorem g_o46_11 : gdst (gO c46_11) j = (o46_11.1[j]?).bind Oper.dst := gd_eq o46_11.2 j
theorem r_n46_12 : n46_12 s = some (.ret, s) := run_ret _ s
theorem r_n46_10 : n46_10 s = contK n46_12 (n46_11 s) := q_seq _ c46_11 c46_12 s
theorem r_n46_2 : n46_2 s = contK n46_10 (n46_3 s) := q_seq _ c46_3 c46_10 s
theorem r_n46_0 : n46_0 s = contK n46_2 (n46_1 s) := q_seq _ c46_1 c46_2 s
theorem va_46 : (annT 46).virt = [] := rfl
theorem wa_46 : (annT 46).wr = [] := rfl
theorem ya_46 : (annT 46).ty = [] := rfl
theorem cv_46 (call : Eng.Call) (wr : Bool) (args : List AV) (st : Store) : callV X call wr 46 args st = cvP call wr 46 args st (fzAll (fz false st 6) args) := cv_pure rfl rfl call wr args st
theorem p46 (ds : List D) : pureCall C 46 ds = ((n46_0 ⟨argsT 0 (ds.map .d), []⟩).bind (bodyR [.tmp 2])).bind prOf := P_eq Try.f46 rfl rfl rfl rfl ds
theorem q46 (vs : List AV) (st : Store) : C 46 vs st = (n46_0 ⟨argsT 0 vs, st⟩).bind (bodyR [.tmp 2]) := C_eq Try.f46 rfl rfl rfl rfl vs st
attribute [go_sem] r_n46_1 g_o46_1 o46_1 r_n46_4 g_o46_4 o46_4 r_n46_7 g_o46_7 o46_7 r_n46_8 r_n46_6 r_n46_9 r_n46_5 r_n46_3 r_n46_11 g_o46_11 o46_11 r_n46_12 r_n46_10 r_n46_2 r_n46_0 va_46 wa_46 ya_46 cv_46
noncomputable def c88_0 : Code := Try.f88.body.getD .skip
noncomputable def A88 := run (annT 88)
def n88_0 := A88 c88_0
def c88_1 := gL c88_0
def n88_1 := A88 c88_1
def o88_1 : OL c88_1 := ⟨_, by conv => (lhs; whnf)⟩
def c88_2 := gR c88_0
def n88_2 := A88 c88_2
def c88_3 := gL c88_2
def n88_3 := A88 c88_3
def c88_4 := gL c88_3
def n88_4 := A88 c88_4
def o88_4 : OL c88_4 := ⟨_, by conv => (lhs; whnf)⟩
def c88_5 := gR c88_3
def n88_5 := A88 c88_5
def c88_6 := gT c88_5
def n88_6 := A88 c88_6
def c88_7 := gL c88_6
def n88_7 := A88 c88_7
def o88_7 : OL c88_7 := ⟨_, by conv => (lhs; whnf)⟩
def c88_8 := gR c88_6
def n88_8 := A88 c88_8
def c88_9 := gF c88_5
def n88_9 := A88 c88_9
def c88_10 := gR c88_2
def n88_10 := A88 c88_10
def c88_11 := gL c88_10
def n88_11 := A88 c88_11
def c88_12 := gL c88_11
def n88_12 := A88 c88_12
def o88_12 : OL c88_12 := ⟨_, by conv => (lhs; whnf)⟩
def c88_13 := gR c88_11
def n88_13 := A88 c88_13
def c88_14 := gB c88_13
def n88_14 := A88 c88_14
def c88_15 := gB c88_14
def n88_15 := A88 c88_15
def c88_16 := gL c88_15
def n88_16 := A88 c88_16
def c88_17 := gL c88_16
def n88_17 := A88 c88_17
def o88_17 : OL c88_17 := ⟨_, by conv => (lhs; whnf)⟩
def c88_18 := gR c88_16
def n88_18 := A88 c88_18
def c88_19 := gT c88_18
def n88_19 := A88 c88_19
def c88_20 := gF c88_18
def n88_20 := A88 c88_20
def c88_21 := gR c88_15
def n88_21 := A88 c88_21
def c88_22 := gL c88_21
def n88_22 := A88 c88_22
def c88_23 := gB c88_22
def n88_23 := A88 c88_23
def c88_24 := gL c88_23
def n88_24 := A88 c88_24
def o88_24 : OL c88_24 := ⟨_, by conv => (lhs; whnf)⟩
def c88_25 := gR c88_23
def n88_25 := A88 c88_25
def c88_26 := gL c88_25
def n88_26 := A88 c88_26
def o88_26 : OL c88_26 := ⟨_, by conv => (lhs; whnf)⟩
def c88_27 := gR c88_25
def n88_27 := A88 c88_27
def c88_28 := gL c88_27
def n88_28 := A88 c88_28
def o88_28 : OL c88_28 := ⟨_, by conv => (lhs; whnf)⟩
def c88_29 := gR c88_27
def n88_29 := A88 c88_29
def c88_30 := gT c88_29
def n88_30 := A88 c88_30
def c88_31 := gL c88_30
def n88_31 := A88 c88_31
def o88_31 : OL c88_31 := ⟨_, by conv => (lhs; whnf)⟩
def c88_32 := gR c88_30
def n88_32 := A88 c88_32
def c88_33 := gF c88_29
def n88_33 := A88 c88_33
def c88_34 := gR c88_21
def n88_34 := A88 c88_34
def o88_34 : OL c88_34 := ⟨_, by conv => (lhs; whnf)⟩
def c88_35 := gR c88_10
def n88_35 := A88 c88_35
def c88_36 := gL c88_35
def n88_36 := A88 c88_36
def o88_36 : OL c88_36 := ⟨_, by conv => (lhs; whnf)⟩
def c88_37 := gR c88_35
def n88_37 := A88 c88_37
theorem r_n88_1 : n88_1 s = behK 1 (stepsO X (annT 88) C (gO c88_1) o88_1.1 s) := q_region (annT 88) s 0 _ false rfl _ _ rfl rfl o88_1.2
theorem g_o88_1 : gdst (gO c88_1) j = (o88_1.1[j]?).bind Oper.dst := gd_eq o88_1.2 j
theorem r_n88_4 : n88_4 s = behK 8193 (stepsO X (annT 88) C (gO c88_4) o88_4.1 s) := q_region (annT 88) s 1 _ false rfl _ _ rfl rfl o88_4.2
theorem g_o88_4 : gdst (gO c88_4) j = (o88_4.1[j]?).bind Oper.dst := gd_eq o88_4.2 j
theorem r_n88_7 : n88_7 s = behK 4 (stepsO X (annT 88) C (gO c88_7) o88_7.1 s) := q_region (annT 88) s 2 _ false rfl _ _ rfl rfl o88_7.2
theorem g_o88_7 : gdst (gO c88_7) j = (o88_7.1[j]?).bind Oper.dst := gd_eq o88_7.2 j
theorem r_n88_8 : n88_8 s = some (.ret, s) := run_ret _ s
theorem r_n88_6 : n88_6 s = contK n88_8 (n88_7 s) := q_seq _ c88_7 c88_8 s
theorem r_n88_9 : n88_9 s = some (.norm, s) := run_skip _ s
theorem r_n88_5 : n88_5 s = condK (opv s.t (.tmp 13)) n88_6 n88_9 s := q_cond _ c88_6 c88_9 s (.tmp 13)
theorem r_n88_3 : n88_3 s = contK n88_5 (n88_4 s) := q_seq _ c88_4 c88_5 s
theorem r_n88_12 : n88_12 s = behK 9 (stepsO X (annT 88) C (gO c88_12) o88_12.1 s) := q_region (annT 88) s 3 _ false rfl _ _ rfl rfl o88_12.2
theorem g_o88_12 : gdst (gO c88_12) j = (o88_12.1[j]?).bind Oper.dst := gd_eq o88_12.2 j
theorem r_n88_17 : n88_17 s = behK 131081 (stepsO X (annT 88) C (gO c88_17) o88_17.1 s) := q_region (annT 88) s 4 _ false rfl _ _ rfl rfl o88_17.2
theorem g_o88_17 : gdst (gO c88_17) j = (o88_17.1[j]?).bind Oper.dst := gd_eq o88_17.2 j
theorem r_n88_19 : n88_19 s = some (.norm, s) := run_skip _ s
theorem r_n88_20 : n88_20 s = some (.exit 0, s) := run_exit _ s 0
theorem r_n88_18 : n88_18 s = condK (opv s.t (.tmp 17)) n88_19 n88_20 s := q_cond _ c88_19 c88_20 s (.tmp 17)
theorem r_n88_16 : n88_16 s = contK n88_18 (n88_17 s) := q_seq _ c88_17 c88_18 s
theorem r_n88_24 : n88_24 s = behK 25 (stepsO X (annT 88) C (gO c88_24) o88_24.1 s) := q_region (annT 88) s 6 _ false rfl _ _ rfl rfl o88_24.2
theorem g_o88_24 : gdst (gO c88_24) j = (o88_24.1[j]?).bind Oper.dst := gd_eq o88_24.2 j
theorem r_n88_26 : n88_26 s = behK 57 (stepsO X (annT 88) C (gO c88_26) o88_26.1 s) := q_region (annT 88) s 7 _ false rfl _ _ rfl rfl o88_26.2
theorem g_o88_26 : gdst (gO c88_26) j = (o88_26.1[j]?).bind Oper.dst := gd_eq o88_26.2 j
theorem r_n88_28 : n88_28 s = behK 36028797018963977 (stepsO X (annT 88) C (gO c88_28) o88_28.1 s) := q_region (annT 88) s 8 _ false rfl _ _ rfl rfl o88_28.2
theorem g_o88_28 : gdst (gO c88_28) j = (o88_28.1[j]?).bind Oper.dst := gd_eq o88_28.2 j
theorem r_n88_31 : n88_31 s = behK 4 (stepsO X (annT 88) C (gO c88_31) o88_31.1 s) := q_region (annT 88) s 9 _ false rfl _ _ rfl rfl o88_31.2
theorem g_o88_31 : gdst (gO c88_31) j = (o88_31.1[j]?).bind Oper.dst := gd_eq o88_31.2 j
theorem r_n88_32 : n88_32 s = some (.ret, s) := run_ret _ s
theorem r_n88_30 : n88_30 s = contK n88_32 (n88_31 s) := q_seq _ c88_31 c88_32 s
theorem r_n88_33 : n88_33 s = some (.norm, s) := run_skip _ s
theorem r_n88_29 : n88_29 s = condK (opv s.t (.tmp 55)) n88_30 n88_33 s := q_cond _ c88_30 c88_33 s (.tmp 55)
theorem r_n88_27 : n88_27 s = contK n88_29 (n88_28 s) := q_seq _ c88_28 c88_29 s
theorem r_n88_25 : n88_25 s = contK n88_27 (n88_26 s) := q_seq _ c88_26 c88_27 s
theorem r_n88_23 : n88_23 s = contK n88_25 (n88_24 s) := q_seq _ c88_24 c88_25 s
theorem r_n88_22 : n88_22 s = blkK 1 (n88_23 s) := q_block _ c88_23 s 1
theorem r_n88_34 : n88_34 s = behK 9 (stepsO X (annT 88) C (gO c88_34) o88_34.1 s) := q_region (annT 88) s 5 _ false rfl _ _ rfl rfl o88_34.2
theorem g_o88_34 : gdst (gO c88_34) j = (o88_34.1[j]?).bind Oper.dst := gd_eq o88_34.2 j
theorem r_n88_21 : n88_21 s = contK n88_34 (n88_22 s) := q_seq _ c88_22 c88_34 s
theorem r_n88_15 : n88_15 s = contK n88_21 (n88_16 s) := q_seq _ c88_16 c88_21 s
theorem r_n88_14 : n88_14 s = loopK 9 s.st.length n88_14 (n88_15 s) := q_loop (annT 88) c88_15 s _ _ rfl rfl
theorem r_n88_13 : n88_13 s = blkK 0 (n88_14 s) := q_block _ c88_14 s 0
theorem r_n88_11 : n88_11 s = contK n88_13 (n88_12 s) := q_seq _ c88_12 c88_13 s
theorem r_n88_36 : n88_36 s = behK 4 (stepsO X (annT 88) C (gO c88_36) o88_36.1 s) := q_region (annT 88) s 10 _ false rfl _ _ rfl rfl o88_36.2
theorem g_o88_36 : gdst (gO c88_36) j = (o88_36.1[j]?).bind Oper.dst := gd_eq o88_36.2 j
theorem r_n88_37 : n88_37 s = some (.ret, s) := run_ret _ s
theorem r_n88_35 : n88_35 s = contK n88_37 (n88_36 s) := q_seq _ c88_36 c88_37 s
theorem r_n88_10 : n88_10 s = contK n88_35 (n88_11 s) := q_seq _ c88_11 c88_35 s
theorem r_n88_2 : n88_2 s = contK n88_10 (n88_3 s) := q_seq _ c88_3 c88_10 s
theorem r_n88_0 : n88_0 s = contK n88_2 (n88_1 s) := q_seq _ c88_1 c88_2 s
theorem va_88 : (annT 88).virt = [] := rfl
theorem wa_88 : (annT 88).wr = [] := rfl
theorem ya_88 : (annT 88).ty = [] := rfl
theorem cv_88 (call : Eng.Call) (wr : Bool) (args : List AV) (st : Store) : callV X call wr 88 args st = cvP call wr 88 args st (fzAll (fz false st 6) args) := cv_pure rfl rfl call wr args st
theorem p88 (ds : List D) : pureCall C 88 ds = ((n88_0 ⟨argsT 0 (ds.map .d), []⟩).bind (bodyR [.tmp 2])).bind prOf := P_eq Try.f88 rfl rfl rfl rfl ds
theorem q88 (vs : List AV) (st : Store) : C 88 vs st = (n88_0 ⟨argsT 0 vs, st⟩).bind (bodyR [.tmp 2]) := C_eq Try.f88 rfl rfl rfl rfl vs st
attribute [go_sem] r_n88_1 g_o88_1 o88_1 r_n88_4 g_o88_4 o88_4 r_n88_7 g_o88_7 o88_7 r_n88_8 r_n88_6 r_n88_9 r_n88_5 r_n88_3 r_n88_12 g_o88_12 o88_12 r_n88_17 g_o88_17 o88_17 r_n88_19 r_n88_20 r_n88_18 r_n88_16 r_n88_24 g_o88_24 o88_24 r_n88_26 g_o88_26 o88_26 r_n88_28 g_o88_28 o88_28 r_n88_31 g_o88_31 o88_31 r_n88_32 r_n88_30 r_n88_33 r_n88_29 r_n88_27 r_n88_25 r_n88_23 r_n88_22 r_n88_34 g_o88_34 o88_34 r_n88_21 r_n88_15 r_n88_13 r_n88_11 r_n88_36 g_o88_36 o88_36 r_n88_37 r_n88_35 r_n88_10 r_n88_2 r_n88_0 va_88 wa_88 ya_88 cv_88
noncomputable def c89_0 : Code := Try.f89.body.getD .skip
noncomputable def A89 := run (annT 89)
def n89_0 := A89 c89_0
def c89_1 := gL c89_0
def n89_1 := A89 c89_1
def o89_1 : OL c89_1 := ⟨_, by conv => (lhs; whnf)⟩
def c89_2 := gR c89_0
def n89_2 := A89 c89_2
def c89_3 := gL c89_2
def n89_3 := A89 c89_3
def c89_4 := gL c89_3
def n89_4 := A89 c89_4
def o89_4 : OL c89_4 := ⟨_, by conv => (lhs; whnf)⟩
def c89_5 := gR c89_3
def n89_5 := A89 c89_5
def c89_6 := gT c89_5
def n89_6 := A89 c89_6
def c89_7 := gL c89_6
def n89_7 := A89 c89_7
def o89_7 : OL c89_7 := ⟨_, by conv => (lhs; whnf)⟩
def c89_8 := gR c89_6
def n89_8 := A89 c89_8
def c89_9 := gF c89_5
def n89_9 := A89 c89_9
def c89_10 := gR c89_2
def n89_10 := A89 c89_10
def c89_11 := gL c89_10
def n89_11 := A89 c89_11
def o89_11 : OL c89_11 := ⟨_, by conv => (lhs; whnf)⟩
def c89_12 := gR c89_10
def n89_12 := A89 c89_12
theorem r_n89_1 : n89_1 s = behK 62 (stepsO X (annT 89) C (gO c89_1) o89_1.1 s) := q_region (annT 89) s 0 _ false rfl _ _ rfl rfl o89_1.2
theorem g_o89_1 : gdst (gO c89_1) j = (o89_1.1[j]?).bind Oper.dst := gd_eq o89_1.2 j
theorem r_n89_4 : n89_4 s = behK 68719476776 (stepsO X (annT 89) C (gO c89_4) o89_4.1 s) := q_region (annT 89) s 1 _ false rfl _ _ rfl rfl o89_4.2
theorem g_o89_4 : gdst (gO c89_4) j = (o89_4.1[j]?).bind Oper.dst := gd_eq o89_4.2 j
theorem r_n89_7 : n89_7 s = behK 1024 (stepsO X (annT 89) C (gO c89_7) o89_7.1 s) := q_region (annT 89) s 2 _ false rfl _ _ rfl rfl o89_7.2
theorem g_o89_7 : gdst (gO c89_7) j = (o89_7.1[j]?).bind Oper.dst := gd_eq o89_7.2 j
theorem r_n89_8 : n89_8 s = some (.ret, s) := run_ret _ s
theorem r_n89_6 : n89_6 s = contK n89_8 (n89_7 s) := q_seq _ c89_7 c89_8 s
theorem r_n89_9 : n89_9 s = some (.norm, s) := run_skip _ s
theorem r_n89_5 : n89_5 s = condK (opv s.t (.tmp 36)) n89_6 n89_9 s := q_cond _ c89_6 c89_9 s (.tmp 36)
theorem r_n89_3 : n89_3 s = contK n89_5 (n89_4 s) := q_seq _ c89_4 c89_5 s
theorem r_n89_11 : n89_11 s = behK 1024 (stepsO X (annT 89) C (gO c89_11) o89_11.1 s) := q_region (annT 89) s 3 _ false rfl _ _ rfl rfl o89_11.2
theorem g_o89_11 : gdst (gO c89_11) j = (o89_11.1[j]?).bind Oper.dst := gd_eq o89_11.2 j
theorem r_n89_12 : n89_12 s = some (.ret, s) := run_ret _ s
theorem r_n89_10 : n89_10 s = contK n89_12 (n89_11 s) := q_seq _ c89_11 c89_12 s
theorem r_n89_2 : n89_2 s = contK n89_10 (n89_3 s) := q_seq _ c89_3 c89_10 s
theorem r_n89_0 : n89_0 s = contK n89_2 (n89_1 s) := q_seq _ c89_1 c89_2 s
theorem va_89 : (annT 89).virt = [] := rfl
theorem wa_89 : (annT 89).wr = [] := rfl
theorem ya_89 : (annT 89).ty = [] := rfl
theorem cv_89 (call : Eng.Call) (wr : Bool) (args : List AV) (st : Store) : callV X call wr 89 args st = cvP call wr 89 args st (fzAll (fz false st 6) args) := cv_pure rfl rfl call wr args st
theorem p89 (ds : List D) : pureCall C 89 ds = ((n89_0 ⟨argsT 0 (ds.map .d), []⟩).bind (bodyR [.tmp 10])).bind prOf := P_eq Try.f89 rfl rfl rfl rfl ds
theorem q89 (vs : List AV) (st : Store) : C 89 vs st = (n89_0 ⟨argsT 0 vs, st⟩).bind (bodyR [.tmp 10]) := C_eq Try.f89 rfl rfl rfl rfl vs st
attribute [go_sem] r_n89_1 g_o89_1 o89_1 r_n89_4 g_o89_4 o89_4 r_n89_7 g_o89_7 o89_7 r_n89_8 r_n89_6 r_n89_9 r_n89_5 r_n89_3 r_n89_11 g_o89_11 o89_11 r_n89_12 r_n89_10 r_n89_2 r_n89_0 va_89 wa_89 ya_89 cv_89
noncomputable def c97_0 : Code := Try.f97.body.getD .skip
noncomputable def A97 := run (annT 97)
def n97_0 := A97 c97_0
def c97_1 := gL c97_0
def n97_1 := A97 c97_1
def o97_1 : OL c97_1 := ⟨_, by conv => (lhs; whnf)⟩
def c97_2 := gR c97_0
def n97_2 := A97 c97_2
def c97_3 := gL c97_2
def n97_3 := A97 c97_3
def o97_3 : OL c97_3 := ⟨_, by conv => (lhs; whnf)⟩
def c97_4 := gR c97_2
def n97_4 := A97 c97_4
def c97_5 := gL c97_4
def n97_5 := A97 c97_5
def c97_6 := gL c97_5
def n97_6 := A97 c97_6
def o97_6 : OL c97_6 := ⟨_, by conv => (lhs; whnf)⟩
def c97_7 := gR c97_5
def n97_7 := A97 c97_7
def c97_8 := gT c97_7
def n97_8 := A97 c97_8
def o97_8 : OL c97_8 := ⟨_, by conv => (lhs; whnf)⟩
def c97_9 := gF c97_7
def n97_9 := A97 c97_9
def c97_10 := gR c97_4
def n97_10 := A97 c97_10
def c97_11 := gL c97_10
def n97_11 := A97 c97_11
def c97_12 := gL c97_11
def n97_12 := A97 c97_12
def o97_12 : OL c97_12 := ⟨_, by conv => (lhs; whnf)⟩
def c97_13 := gR c97_11
def n97_13 := A97 c97_13
def c97_14 := gT c97_13
def n97_14 := A97 c97_14
def o97_14 : OL c97_14 := ⟨_, by conv => (lhs; whnf)⟩
def c97_15 := gF c97_13
def n97_15 := A97 c97_15
def c97_16 := gR c97_10
def n97_16 := A97 c97_16
def c97_17 := gL c97_16
def n97_17 := A97 c97_17
def c97_18 := gL c97_17
def n97_18 := A97 c97_18
def o97_18 : OL c97_18 := ⟨_, by conv => (lhs; whnf)⟩
def c97_19 := gR c97_17
def n97_19 := A97 c97_19
def c97_20 := gT c97_19
def n97_20 := A97 c97_20
def c97_21 := gL c97_20
def n97_21 := A97 c97_21
def o97_21 : OL c97_21 := ⟨_, by conv => (lhs; whnf)⟩
def c97_22 := gR c97_20
def n97_22 := A97 c97_22
def c97_23 := gF c97_19
def n97_23 := A97 c97_23
def c97_24 := gR c97_16
def n97_24 := A97 c97_24
def c97_25 := gL c97_24
def n97_25 := A97 c97_25
def c97_26 := gL c97_25
def n97_26 := A97 c97_26
def o97_26 : OL c97_26 := ⟨_, by conv => (lhs; whnf)⟩
def c97_27 := gR c97_25
def n97_27 := A97 c97_27
def c97_28 := gB c97_27
def n97_28 := A97 c97_28
def c97_29 := gB c97_28
def n97_29 := A97 c97_29
def c97_30 := gL c97_29
def n97_30 := A97 c97_30
def c97_31 := gL c97_30
def n97_31 := A97 c97_31
def o97_31 : OL c97_31 := ⟨_, by conv => (lhs; whnf)⟩
def c97_32 := gR c97_30
def n97_32 := A97 c97_32
def c97_33 := gT c97_32
def n97_33 := A97 c97_33
def c97_34 := gF c97_32
def n97_34 := A97 c97_34
def c97_35 := gR c97_29
def n97_35 := A97 c97_35
def c97_36 := gL c97_35
def n97_36 := A97 c97_36
def c97_37 := gB c97_36
def n97_37 := A97 c97_37
def c97_38 := gL c97_37
def n97_38 := A97 c97_38
def o97_38 : OL c97_38 := ⟨_, by conv => (lhs; whnf)⟩
def c97_39 := gR c97_37
def n97_39 := A97 c97_39
def c97_40 := gT c97_39
def n97_40 := A97 c97_40
def c97_41 := gL c97_40
def n97_41 := A97 c97_41
def o97_41 : OL c97_41 := ⟨_, by conv => (lhs; whnf)⟩
def c97_42 := gR c97_40
def n97_42 := A97 c97_42
def c97_43 := gF c97_39
def n97_43 := A97 c97_43
def c97_44 := gR c97_35
def n97_44 := A97 c97_44
def o97_44 : OL c97_44 := ⟨_, by conv => (lhs; whnf)⟩
def c97_45 := gR c97_24
def n97_45 := A97 c97_45
def c97_46 := gL c97_45
def n97_46 := A97 c97_46
def o97_46 : OL c97_46 := ⟨_, by conv => (lhs; whnf)⟩
def c97_47 := gR c97_45
def n97_47 := A97 c97_47
theorem r_n97_1 : n97_1 s = behK 2 (stepsO X (annT 97) C (gO c97_1) o97_1.1 s) := q_region (annT 97) s 0 _ false rfl _ _ rfl rfl o97_1.2
theorem g_o97_1 : gdst (gO c97_1) j = (o97_1.1[j]?).bind Oper.dst := gd_eq o97_1.2 j
theorem r_n97_3 : n97_3 s = behK 10 (stepsO X (annT 97) C (gO c97_3) o97_3.1 s) := q_region (annT 97) s 1 _ false rfl _ _ rfl rfl o97_3.2
theorem g_o97_3 : gdst (gO c97_3) j = (o97_3.1[j]?).bind Oper.dst := gd_eq o97_3.2 j
theorem r_n97_6 : n97_6 s = behK 522 (stepsO X (annT 97) C (gO c97_6) o97_6.1 s) := q_region (annT 97) s 2 _ false rfl _ _ rfl rfl o97_6.2
theorem g_o97_6 : gdst (gO c97_6) j = (o97_6.1[j]?).bind Oper.dst := gd_eq o97_6.2 j
theorem r_n97_8 : n97_8 s = behK 10 (stepsO X (annT 97) C (gO c97_8) o97_8.1 s) := q_region (annT 97) s 3 _ false rfl _ _ rfl rfl o97_8.2
theorem g_o97_8 : gdst (gO c97_8) j = (o97_8.1[j]?).bind Oper.dst := gd_eq o97_8.2 j
theorem r_n97_9 : n97_9 s = some (.norm, s) := run_skip _ s
theorem r_n97_7 : n97_7 s = condK (opv s.t (.tmp 9)) n97_8 n97_9 s := q_cond _ c97_8 c97_9 s (.tmp 9)
theorem r_n97_5 : n97_5 s = contK n97_7 (n97_6 s) := q_seq _ c97_6 c97_7 s
theorem r_n97_12 : n97_12 s = behK 8202 (stepsO X (annT 97) C (gO c97_12) o97_12.1 s) := q_region (annT 97) s 4 _ false rfl _ _ rfl rfl o97_12.2
theorem g_o97_12 : gdst (gO c97_12) j = (o97_12.1[j]?).bind Oper.dst := gd_eq o97_12.2 j
theorem r_n97_14 : n97_14 s = behK 10 (stepsO X (annT 97) C (gO c97_14) o97_14.1 s) := q_region (annT 97) s 5 _ false rfl _ _ rfl rfl o97_14.2
theorem g_o97_14 : gdst (gO c97_14) j = (o97_14.1[j]?).bind Oper.dst := gd_eq o97_14.2 j
theorem r_n97_15 : n97_15 s = some (.norm, s) := run_skip _ s
theorem r_n97_13 : n97_13 s = condK (opv s.t (.tmp 13)) n97_14 n97_15 s := q_cond _ c97_14 c97_15 s (.tmp 13)
theorem r_n97_11 : n97_11 s = contK n97_13 (n97_12 s) := q_seq _ c97_12 c97_13 s
theorem r_n97_18 : n97_18 s = behK 2199023255554 (stepsO X (annT 97) C (gO c97_18) o97_18.1 s) := q_region (annT 97) s 6 _ false rfl _ _ rfl rfl o97_18.2
theorem g_o97_18 : gdst (gO c97_18) j = (o97_18.1[j]?).bind Oper.dst := gd_eq o97_18.2 j
theorem r_n97_21 : n97_21 s = behK 4 (stepsO X (annT 97) C (gO c97_21) o97_21.1 s) := q_region (annT 97) s 7 _ false rfl _ _ rfl rfl o97_21.2
theorem g_o97_21 : gdst (gO c97_21) j = (o97_21.1[j]?).bind Oper.dst := gd_eq o97_21.2 j
theorem r_n97_22 : n97_22 s = some (.ret, s) := run_ret _ s
theorem r_n97_20 : n97_20 s = contK n97_22 (n97_21 s) := q_seq _ c97_21 c97_22 s
theorem r_n97_23 : n97_23 s = some (.norm, s) := run_skip _ s
theorem r_n97_19 : n97_19 s = condK (opv s.t (.tmp 41)) n97_20 n97_23 s := q_cond _ c97_20 c97_23 s (.tmp 41)
theorem r_n97_17 : n97_17 s = contK n97_19 (n97_18 s) := q_seq _ c97_18 c97_19 s
theorem r_n97_26 : n97_26 s = behK 18 (stepsO X (annT 97) C (gO c97_26) o97_26.1 s) := q_region (annT 97) s 8 _ false rfl _ _ rfl rfl o97_26.2
theorem g_o97_26 : gdst (gO c97_26) j = (o97_26.1[j]?).bind Oper.dst := gd_eq o97_26.2 j
theorem r_n97_31 : n97_31 s = behK 70368744177682 (stepsO X (annT 97) C (gO c97_31) o97_31.1 s) := q_region (annT 97) s 9 _ false rfl _ _ rfl rfl o97_31.2
theorem g_o97_31 : gdst (gO c97_31) j = (o97_31.1[j]?).bind Oper.dst := gd_eq o97_31.2 j
theorem r_n97_33 : n97_33 s = some (.norm, s) := run_skip _ s
theorem r_n97_34 : n97_34 s = some (.exit 0, s) := run_exit _ s 0
theorem r_n97_32 : n97_32 s = condK (opv s.t (.tmp 46)) n97_33 n97_34 s := q_cond _ c97_33 c97_34 s (.tmp 46)
theorem r_n97_30 : n97_30 s = contK n97_32 (n97_31 s) := q_seq _ c97_31 c97_32 s
theorem r_n97_38 : n97_38 s = behK 36028797018963986 (stepsO X (annT 97) C (gO c97_38) o97_38.1 s) := q_region (annT 97) s 11 _ false rfl _ _ rfl rfl o97_38.2
theorem g_o97_38 : gdst (gO c97_38) j = (o97_38.1[j]?).bind Oper.dst := gd_eq o97_38.2 j
theorem r_n97_41 : n97_41 s = behK 4 (stepsO X (annT 97) C (gO c97_41) o97_41.1 s) := q_region (annT 97) s 12 _ false rfl _ _ rfl rfl o97_41.2
theorem g_o97_41 : gdst (gO c97_41) j = (o97_41.1[j]?).bind Oper.dst := gd_eq o97_41.2 j
theorem r_n97_42 : n97_42 s = some (.ret, s) := run_ret _ s
theorem r_n97_40 : n97_40 s = contK n97_42 (n97_41 s) := q_seq _ c97_41 c97_42 s
theorem r_n97_43 : n97_43 s = some (.norm, s) := run_skip _ s
theorem r_n97_39 : n97_39 s = condK (opv s.t (.tmp 55)) n97_40 n97_43 s := q_cond _ c97_40 c97_43 s (.tmp 55)
theorem r_n97_37 : n97_37 s = contK n97_39 (n97_38 s) := q_seq _ c97_38 c97_39 s
theorem r_n97_36 : n97_36 s = blkK 1 (n97_37 s) := q_block _ c97_37 s 1
theorem r_n97_44 : n97_44 s = behK 18 (stepsO X (annT 97) C (gO c97_44) o97_44.1 s) := q_region (annT 97) s 10 _ false rfl _ _ rfl rfl o97_44.2
theorem g_o97_44 : gdst (gO c97_44) j = (o97_44.1[j]?).bind Oper.dst := gd_eq o97_44.2 j
theorem r_n97_35 : n97_35 s = contK n97_44 (n97_36 s) := q_seq _ c97_36 c97_44 s
theorem r_n97_29 : n97_29 s = contK n97_35 (n97_30 s) := q_seq _ c97_30 c97_35 s
theorem r_n97_28 : n97_28 s = loopK 18 s.st.length n97_28 (n97_29 s) := q_loop (annT 97) c97_29 s _ _ rfl rfl
theorem r_n97_27 : n97_27 s = blkK 0 (n97_28 s) := q_block _ c97_28 s 0
theorem r_n97_25 : n97_25 s = contK n97_27 (n97_26 s) := q_seq _ c97_26 c97_27 s
theorem r_n97_46 : n97_46 s = behK 4 (stepsO X (annT 97) C (gO c97_46) o97_46.1 s) := q_region (annT 97) s 13 _ false rfl _ _ rfl rfl o97_46.2
theorem g_o97_46 : gdst (gO c97_46) j = (o97_46.1[j]?).bind Oper.dst := gd_eq o97_46.2 j
theorem r_n97_47 : n97_47 s = some (.ret, s) := run_ret _ s
theorem r_n97_45 : n97_45 s = contK n97_47 (n97_46 s) := q_seq _ c97_46 c97_47 s
theorem r_n97_24 : n97_24 s = contK n97_45 (n97_25 s) := q_seq _ c97_25 c97_45 s
theorem r_n97_16 : n97_16 s = contK n97_24 (n97_17 s) := q_seq _ c97_17 c97_24 s
theorem r_n97_10 : n97_10 s = contK n97_16 (n97_11 s) := q_seq _ c97_11 c97_16 s
theorem r_n97_4 : n97_4 s = contK n97_10 (n97_5 s) := q_seq _ c97_5 c97_10 s
theorem r_n97_2 : n97_2 s = contK n97_4 (n97_3 s) := q_seq _ c97_3 c97_4 s
theorem r_n97_0 : n97_0 s = contK n97_2 (n97_1 s) := q_seq _ c97_1 c97_2 s
theorem va_97 : (annT 97).virt = [] := rfl
theorem wa_97 : (annT 97).wr = [] := rfl
theorem ya_97 : (annT 97).ty = [] := rfl
theorem cv_97 (call : Eng.Call) (wr : Bool) (args : List AV) (st : Store) : callV X call wr 97 args st = cvP call wr 97 args st (fzAll (fz false st 6) args) := cv_pure rfl rfl call wr args st
theorem p97 (ds : List D) : pureCall C 97 ds = ((n97_0 ⟨argsT 0 (ds.map .d), []⟩).bind (bodyR [.tmp 2])).bind prOf := P_eq Try.f97 rfl rfl rfl rfl ds
theorem q97 (vs : List AV) (st : Store) : C 97 vs st = (n97_0 ⟨argsT 0 vs, st⟩).bind (bodyR [.tmp 2]) := C_eq Try.f97 rfl rfl rfl rfl vs st
attribute [go_sem] r_n97_1 g_o97_1 o97_1 r_n97_3 g_o97_3 o97_3 r_n97_6 g_o97_6 o97_6 r_n97_8 g_o97_8 o97_8 r_n97_9 r_n97_7 r_n97_5 r_n97_12 g_o97_12 o97_12 r_n97_14 g_o97_14 o97_14 r_n97_15 r_n97_13 r_n97_11 r_n97_18 g_o97_18 o97_18 r_n97_21 g_o97_21 o97_21 r_n97_22 r_n97_20 r_n97_23 r_n97_19 r_n97_17 r_n97_26 g_o97_26 o97_26 r_n97_31 g_o97_31 o97_31 r_n97_33 r_n97_34 r_n97_32 r_n97_30 r_n97_38 g_o97_38 o97_38 r_n97_41 g_o97_41 o97_41 r_n97_42 r_n97_40 r_n97_43 r_n97_39 r_n97_37 r_n97_36 r_n97_44 g_o97_44 o97_44 r_n97_35 r_n97_29 r_n97_27 r_n97_25 r_n97_46 g_o97_46 o97_46 r_n97_47 r_n97_45 r_n97_24 r_n97_16 r_n97_10 r_n97_4 r_n97_2 r_n97_0 va_97 wa_97 ya_97 cv_97
noncomputable def c90_0 : Code := Try.f90.body.getD .skip
noncomputable def A90 := run (annT 90)
def n90_0 := A90 c90_0
def c90_1 := gL c90_0
def n90_1 := A90 c90_1
def o90_1 : OL c90_1 := ⟨_, by conv => (lhs; whnf)⟩
def c90_2 := gR c90_0
def n90_2 := A90 c90_2
def c90_3 := gL c90_2
def n90_3 := A90 c90_3
def c90_4 := gL c90_3
def n90_4 := A90 c90_4
def o90_4 : OL c90_4 := ⟨_, by conv => (lhs; whnf)⟩
def c90_5 := gR c90_3
def n90_5 := A90 c90_5
def c90_6 := gT c90_5
def n90_6 := A90 c90_6
def c90_7 := gL c90_6
def n90_7 := A90 c90_7
def o90_7 : OL c90_7 := ⟨_, by conv => (lhs; whnf)⟩
def c90_8 := gR c90_6
def n90_8 := A90 c90_8
def c90_9 := gF c90_5
def n90_9 := A90 c90_9
def c90_10 := gR c90_2
def n90_10 := A90 c90_10
def c90_11 := gL c90_10
def n90_11 := A90 c90_11
def c90_12 := gL c90_11
def n90_12 := A90 c90_12
def o90_12 : OL c90_12 := ⟨_, by conv => (lhs; whnf)⟩
def c90_13 := gR c90_11
def n90_13 := A90 c90_13
def c90_14 := gB c90_13
def n90_14 := A90 c90_14
def c90_15 := gB c90_14
def n90_15 := A90 c90_15
def c90_16 := gL c90_15
def n90_16 := A90 c90_16
def c90_17 := gL c90_16
def n90_17 := A90 c90_17
def o90_17 : OL c90_17 := ⟨_, by conv => (lhs; whnf)⟩
def c90_18 := gR c90_16
def n90_18 := A90 c90_18
def c90_19 := gT c90_18
def n90_19 := A90 c90_19
def c90_20 := gF c90_18
def n90_20 := A90 c90_20
def c90_21 := gR c90_15
def n90_21 := A90 c90_21
def c90_22 := gL c90_21
def n90_22 := A90 c90_22
def c90_23 := gB c90_22
def n90_23 := A90 c90_23
def c90_24 := gL c90_23
def n90_24 := A90 c90_24
def o90_24 : OL c90_24 := ⟨_, by conv => (lhs; whnf)⟩
def c90_25 := gR c90_23
def n90_25 := A90 c90_25
def c90_26 := gT c90_25
def n90_26 := A90 c90_26
def c90_27 := gL c90_26
def n90_27 := A90 c90_27
def o90_27 : OL c90_27 := ⟨_, by conv => (lhs; whnf)⟩
def c90_28 := gR c90_26
def n90_28 := A90 c90_28
def c90_29 := gF c90_25
def n90_29 := A90 c90_29
def c90_30 := gR c90_21
def n90_30 := A90 c90_30
def o90_30 : OL c90_30 := ⟨_, by conv => (lhs; whnf)⟩
def c90_31 := gR c90_10
def n90_31 := A90 c90_31
def c90_32 := gL c90_31
def n90_32 := A90 c90_32
def o90_32 : OL c90_32 := ⟨_, by conv => (lhs; whnf)⟩
def c90_33 := gR c90_31
def n90_33 := A90 c90_33
theorem r_n90_1 : n90_1 s = behK 2 (stepsO X (annT 90) C (gO c90_1) o90_1.1 s) := q_region (annT 90) s 0 _ false rfl _ _ rfl rfl o90_1.2
theorem g_o90_1 : gdst (gO c90_1) j = (o90_1.1[j]?).bind Oper.dst := gd_eq o90_1.2 j
theorem r_n90_4 : n90_4 s = behK 262146 (stepsO X (annT 90) C (gO c90_4) o90_4.1 s) := q_region (annT 90) s 1 _ false rfl _ _ rfl rfl o90_4.2
theorem g_o90_4 : gdst (gO c90_4) j = (o90_4.1[j]?).bind Oper.dst := gd_eq o90_4.2 j
theorem r_n90_7 : n90_7 s = behK 4 (stepsO X (annT 90) C (gO c90_7) o90_7.1 s) := q_region (annT 90) s 2 _ false rfl _ _ rfl rfl o90_7.2
theorem g_o90_7 : gdst (gO c90_7) j = (o90_7.1[j]?).bind Oper.dst := gd_eq o90_7.2 j
theorem r_n90_8 : n90_8 s = some (.ret, s) := run_ret _ s
theorem r_n90_6 : n90_6 s = contK n90_8 (n90_7 s) := q_seq _ c90_7 c90_8 s
theorem r_n90_9 : n90_9 s = some (.norm, s) := run_skip _ s
theorem r_n90_5 : n90_5 s = condK (opv s.t (.tmp 18)) n90_6 n90_9 s := q_cond _ c90_6 c90_9 s (.tmp 18)
theorem r_n90_3 : n90_3 s = contK n90_5 (n90_4 s) := q_seq _ c90_4 c90_5 s
theorem r_n90_12 : n90_12 s = behK 10 (stepsO X (annT 90) C (gO c90_12) o90_12.1 s) := q_region (annT 90) s 3 _ false rfl _ _ rfl rfl o90_12.2
theorem g_o90_12 : gdst (gO c90_12) j = (o90_12.1[j]?).bind Oper.dst := gd_eq o90_12.2 j
theorem r_n90_17 : n90_17 s = behK 8388618 (stepsO X (annT 90) C (gO c90_17) o90_17.1 s) := q_region (annT 90) s 4 _ false rfl _ _ rfl rfl o90_17.2
theorem g_o90_17 : gdst (gO c90_17) j = (o90_17.1[j]?).bind Oper.dst := gd_eq o90_17.2 j
theorem r_n90_19 : n90_19 s = some (.norm, s) := run_skip _ s
theorem r_n90_20 : n90_20 s = some (.exit 0, s) := run_exit _ s 0
theorem r_n90_18 : n90_18 s = condK (opv s.t (.tmp 23)) n90_19 n90_20 s := q_cond _ c90_19 c90_20 s (.tmp 23)
theorem r_n90_16 : n90_16 s = contK n90_18 (n90_17 s) := q_seq _ c90_17 c90_18 s
theorem r_n90_24 : n90_24 s = behK 4294967306 (stepsO X (annT 90) C (gO c90_24) o90_24.1 s) := q_region (annT 90) s 6 _ false rfl _ _ rfl rfl o90_24.2
theorem g_o90_24 : gdst (gO c90_24) j = (o90_24.1[j]?).bind Oper.dst := gd_eq o90_24.2 j
theorem r_n90_27 : n90_27 s = behK 4 (stepsO X (annT 90) C (gO c90_27) o90_27.1 s) := q_region (annT 90) s 7 _ false rfl _ _ rfl rfl o90_27.2
theorem g_o90_27 : gdst (gO c90_27) j = (o90_27.1[j]?).bind Oper.dst := gd_eq o90_27.2 j
theorem r_n90_28 : n90_28 s = some (.ret, s) := run_ret _ s
theorem r_n90_26 : n90_26 s = contK n90_28 (n90_27 s) := q_seq _ c90_27 c90_28 s
theorem r_n90_29 : n90_29 s = some (.norm, s) := run_skip _ s
theorem r_n90_25 : n90_25 s = condK (opv s.t (.tmp 32)) n90_26 n90_29 s := q_cond _ c90_26 c90_29 s (.tmp 32)
theorem r_n90_23 : n90_23 s = contK n90_25 (n90_24 s) := q_seq _ c90_24 c90_25 s
theorem r_n90_22 : n90_22 s = blkK 1 (n90_23 s) := q_block _ c90_23 s 1
theorem r_n90_30 : n90_30 s = behK 10 (stepsO X (annT 90) C (gO c90_30) o90_30.1 s) := q_region (annT 90) s 5 _ false rfl _ _ rfl rfl o90_30.2
theorem g_o90_30 : gdst (gO c90_30) j = (o90_30.1[j]?).bind Oper.dst := gd_eq o90_30.2 j
theorem r_n90_21 : n90_21 s = contK n90_30 (n90_22 s) := q_seq _ c90_22 c90_30 s
theorem r_n90_15 : n90_15 s = contK n90_21 (n90_16 s) := q_seq _ c90_16 c90_21 s
theorem r_n90_14 : n90_14 s = loopK 10 s.st.length n90_14 (n90_15 s) := q_loop (annT 90) c90_15 s _ _ rfl rfl
theorem r_n90_13 : n90_13 s = blkK 0 (n90_14 s) := q_block _ c90_14 s 0
theorem r_n90_11 : n90_11 s = contK n90_13 (n90_12 s) := q_seq _ c90_12 c90_13 s
theorem r_n90_32 : n90_32 s = behK 4 (stepsO X (annT 90) C (gO c90_32) o90_32.1 s) := q_region (annT 90) s 8 _ false rfl _ _ rfl rfl o90_32.2
theorem g_o90_32 : gdst (gO c90_32) j = (o90_32.1[j]?).bind Oper.dst := gd_eq o90_32.2 j
theorem r_n90_33 : n90_33 s = some (.ret, s) := run_ret _ s
theorem r_n90_31 : n90_31 s = contK n90_33 (n90_32 s) := q_seq _ c90_32 c90_33 s
theorem r_n90_10 : n90_10 s = contK n90_31 (n90_11 s) := q_seq _ c90_11 c90_31 s
theorem r_n90_2 : n90_2 s = contK n90_10 (n90_3 s) := q_seq _ c90_3 c90_10 s
theorem r_n90_0 : n90_0 s = contK n90_2 (n90_1 s) := q_seq _ c90_1 c90_2 s
theorem va_90 : (annT 90).virt = [] := rfl
theorem wa_90 : (annT 90).wr = [] := rfl
theorem ya_90 : (annT 90).ty = [] := rfl
theorem cv_90 (call : Eng.Call) (wr : Bool) (args : List AV) (st : Store) : callV X call wr 90 args st = cvP call wr 90 args st (fzAll (fz false st 6) args) := cv_pure rfl rfl call wr args st
theorem p90 (ds : List D) : pureCall C 90 ds = ((n90_0 ⟨argsT 0 (ds.map .d), []⟩).bind (bodyR [.tmp 2])).bind prOf := P_eq Try.f90 rfl rfl rfl rfl ds
theorem q90 (vs : List AV) (st : Store) : C 90 vs st = (n90_0 ⟨argsT 0 vs, st⟩).bind (bodyR [.tmp 2]) := C_eq Try.f90 rfl rfl rfl rfl vs st
attribute [go_sem] r_n90_1 g_o90_1 o90_1 r_n90_4 g_o90_4 o90_4 r_n90_7 g_o90_7 o90_7 r_n90_8 r_n90_6 r_n90_9 r_n90_5 r_n90_3 r_n90_12 g_o90_12 o90_12 r_n90_17 g_o90_17 o90_17 r_n90_19 r_n90_20 r_n90_18 r_n90_16 r_n90_24 g_o90_24 o90_24 r_n90_27 g_o90_27 o90_27 r_n90_28 r_n90_26 r_n90_29 r_n90_25 r_n90_23 r_n90_22 r_n90_30 g_o90_30 o90_30 r_n90_21 r_n90_15 r_n90_13 r_n90_11 r_n90_32 g_o90_32 o90_32 r_n90_33 r_n90_31 r_n90_10 r_n90_2 r_n90_0 va_90 wa_90 ya_90 cv_90
noncomputable def c72_0 : Code := Try.f72.body.getD .skip
noncomputable def A72 := run (annT 72)
def n72_0 := A72 c72_0
def c72_1 := gL c72_0
def n72_1 := A72 c72_1
def o72_1 : OL c72_1 := ⟨_, by conv => (lhs; whnf)⟩
def c72_2 := gR c72_0
def n72_2 := A72 c72_2
def c72_3 := gL c72_2
def n72_3 := A72 c72_3
def o72_3 : OL c72_3 := ⟨_, by conv => (lhs; whnf)⟩
def c72_4 := gR c72_2
def n72_4 := A72 c72_4
def c72_5 := gL c72_4
def n72_5 := A72 c72_5
def c72_6 := gL c72_5
def n72_6 := A72 c72_6
def o72_6 : OL c72_6 := ⟨_, by conv => (lhs; whnf)⟩
def c72_7 := gR c72_5
def n72_7 := A72 c72_7
def c72_8 := gB c72_7
def n72_8 := A72 c72_8
def c72_9 := gL c72_8
def n72_9 := A72 c72_9
def c72_10 := gL c72_9
def n72_10 := A72 c72_10
def o72_10 : OL c72_10 := ⟨_, by conv => (lhs; whnf)⟩
def c72_11 := gR c72_9
def n72_11 := A72 c72_11
def c72_12 := gT c72_11
def n72_12 := A72 c72_12
def c72_13 := gF c72_11
def n72_13 := A72 c72_13
def o72_13 : OL c72_13 := ⟨_, by conv => (lhs; whnf)⟩
def c72_14 := gR c72_8
def n72_14 := A72 c72_14
def c72_15 := gT c72_14
def n72_15 := A72 c72_15
def c72_16 := gL c72_15
def n72_16 := A72 c72_16
def o72_16 : OL c72_16 := ⟨_, by conv => (lhs; whnf)⟩
def c72_17 := gR c72_15
def n72_17 := A72 c72_17
def c72_18 := gF c72_14
def n72_18 := A72 c72_18
def c72_19 := gL c72_18
def n72_19 := A72 c72_19
def o72_19 : OL c72_19 := ⟨_, by conv => (lhs; whnf)⟩
def c72_20 := gR c72_18
def n72_20 := A72 c72_20
def c72_21 := gT c72_20
def n72_21 := A72 c72_21
def c72_22 := gL c72_21
def n72_22 := A72 c72_22
def o72_22 : OL c72_22 := ⟨_, by conv => (lhs; whnf)⟩
def c72_23 := gR c72_21
def n72_23 := A72 c72_23
def c72_24 := gF c72_20
def n72_24 := A72 c72_24
def c72_25 := gR c72_4
def n72_25 := A72 c72_25
def c72_26 := gL c72_25
def n72_26 := A72 c72_26
def c72_27 := gL c72_26
def n72_27 := A72 c72_27
def o72_27 : OL c72_27 := ⟨_, by conv => (lhs; whnf)⟩
def c72_28 := gR c72_26
def n72_28 := A72 c72_28
def c72_29 := gT c72_28
def n72_29 := A72 c72_29
def c72_30 := gL c72_29
def n72_30 := A72 c72_30
def o72_30 : OL c72_30 := ⟨_, by conv => (lhs; whnf)⟩
def c72_31 := gR c72_29
def n72_31 := A72 c72_31
def c72_32 := gF c72_28
def n72_32 := A72 c72_32
def c72_33 := gR c72_25
def n72_33 := A72 c72_33
def c72_34 := gL c72_33
def n72_34 := A72 c72_34
def c72_35 := gL c72_34
def n72_35 := A72 c72_35
def o72_35 : OL c72_35 := ⟨_, by conv => (lhs; whnf)⟩
def c72_36 := gR c72_34
def n72_36 := A72 c72_36
def c72_37 := gB c72_36
def n72_37 := A72 c72_37
def c72_38 := gL c72_37
def n72_38 := A72 c72_38
def c72_39 := gL c72_38
def n72_39 := A72 c72_39
def o72_39 : OL c72_39 := ⟨_, by conv => (lhs; whnf)⟩
def c72_40 := gR c72_38
def n72_40 := A72 c72_40
def c72_41 := gT c72_40
def n72_41 := A72 c72_41
def c72_42 := gF c72_40
def n72_42 := A72 c72_42
def c72_43 := gL c72_42
def n72_43 := A72 c72_43
def o72_43 : OL c72_43 := ⟨_, by conv => (lhs; whnf)⟩
def c72_44 := gR c72_42
def n72_44 := A72 c72_44
def c72_45 := gT c72_44
def n72_45 := A72 c72_45
def c72_46 := gF c72_44
def n72_46 := A72 c72_46
def c72_47 := gL c72_46
def n72_47 := A72 c72_47
def o72_47 : OL c72_47 := ⟨_, by conv => (lhs; whnf)⟩
def c72_48 := gR c72_46
def n72_48 := A72 c72_48
def c72_49 := gT c72_48
def n72_49 := A72 c72_49
def c72_50 := gF c72_48
def n72_50 := A72 c72_50
def o72_50 : OL c72_50 := ⟨_, by conv => (lhs; whnf)⟩
def c72_51 := gR c72_37
def n72_51 := A72 c72_51
def c72_52 := gT c72_51
def n72_52 := A72 c72_52
def c72_53 := gL c72_52
def n72_53 := A72 c72_53
def o72_53 : OL c72_53 := ⟨_, by conv => (lhs; whnf)⟩
def c72_54 := gR c72_52
def n72_54 := A72 c72_54
def c72_55 := gF c72_51
def n72_55 := A72 c72_55
def c72_56 := gL c72_55
def n72_56 := A72 c72_56
def o72_56 : OL c72_56 := ⟨_, by conv => (lhs; whnf)⟩
def c72_57 := gR c72_55
def n72_57 := A72 c72_57
def c72_58 := gT c72_57
def n72_58 := A72 c72_58
def c72_59 := gL c72_58
def n72_59 := A72 c72_59
def o72_59 : OL c72_59 := ⟨_, by conv => (lhs; whnf)⟩
def c72_60 := gR c72_58
def n72_60 := A72 c72_60
def c72_61 := gF c72_57
def n72_61 := A72 c72_61
def c72_62 := gL c72_61
def n72_62 := A72 c72_62
def o72_62 : OL c72_62 := ⟨_, by conv => (lhs; whnf)⟩
def c72_63 := gR c72_61
def n72_63 := A72 c72_63
def c72_64 := gT c72_63
def n72_64 := A72 c72_64
def c72_65 := gL c72_64
def n72_65 := A72 c72_65
def o72_65 : OL c72_65 := ⟨_, by conv => (lhs; whnf)⟩
def c72_66 := gR c72_64
def n72_66 := A72 c72_66
def c72_67 := gF c72_63
def n72_67 := A72 c72_67
def c72_68 := gL c72_67
def n72_68 := A72 c72_68
def o72_68 : OL c72_68 := ⟨_, by conv => (lhs; whnf)⟩
def c72_69 := gR c72_67
def n72_69 := A72 c72_69
def c72_70 := gT c72_69
def n72_70 := A72 c72_70
def c72_71 := gL c72_70
def n72_71 := A72 c72_71
def o72_71 : OL c72_71 := ⟨_, by conv => (lhs; whnf)⟩
def c72_72 := gR c72_70
def n72_72 := A72 c72_72
def c72_73 := gL c72_72
def n72_73 := A72 c72_73
def o72_73 : OL c72_73 := ⟨_, by conv => (lhs; whnf)⟩
def c72_74 := gR c72_72
def n72_74 := A72 c72_74
def c72_75 := gF c72_69
def n72_75 := A72 c72_75
def c72_76 := gR c72_33
def n72_76 := A72 c72_76
def c72_77 := gL c72_76
def n72_77 := A72 c72_77
def o72_77 : OL c72_77 := ⟨_, by conv => (lhs; whnf)⟩
def c72_78 := gR c72_76
def n72_78 := A72 c72_78
theorem r_n72_1 : n72_1 s = behK 2 (stepsO X (annT 72) C (gO c72_1) o72_1.1 s) := q_region (annT 72) s 0 _ false rfl _ _ rfl rfl o72_1.2
theorem g_o72_1 : gdst (gO c72_1) j = (o72_1.1[j]?).bind Oper.dst := gd_eq o72_1.2 j
theorem r_n72_3 : n72_3 s = behK 10 (stepsO X (annT 72) C (gO c72_3) o72_3.1 s) := q_region (annT 72) s 1 _ false rfl _ _ rfl rfl o72_3.2
theorem g_o72_3 : gdst (gO c72_3) j = (o72_3.1[j]?).bind Oper.dst := gd_eq o72_3.2 j
theorem r_n72_6 : n72_6 s = behK 522 (stepsO X (annT 72) C (gO c72_6) o72_6.1 s) := q_region (annT 72) s 2 _ false rfl _ _ rfl rfl o72_6.2
theorem g_o72_6 : gdst (gO c72_6) j = (o72_6.1[j]?).bind Oper.dst := gd_eq o72_6.2 j
theorem r_n72_10 : n72_10 s = behK 1546 (stepsO X (annT 72) C (gO c72_10) o72_10.1 s) := q_region (annT 72) s 3 _ false rfl _ _ rfl rfl o72_10.2
theorem g_o72_10 : gdst (gO c72_10) j = (o72_10.1[j]?).bind Oper.dst := gd_eq o72_10.2 j
theorem r_n72_12 : n72_12 s = some (.norm, s) := run_skip _ s
theorem r_n72_13 : n72_13 s = behK 1546 (stepsO X (annT 72) C (gO c72_13) o72_13.1 s) := q_region (annT 72) s 4 _ false rfl _ _ rfl rfl o72_13.2
theorem g_o72_13 : gdst (gO c72_13) j = (o72_13.1[j]?).bind Oper.dst := gd_eq o72_13.2 j
theorem r_n72_11 : n72_11 s = condK (opv s.t (.tmp 10)) n72_12 n72_13 s := q_cond _ c72_12 c72_13 s (.tmp 10)
theorem r_n72_9 : n72_9 s = contK n72_11 (n72_10 s) := q_seq _ c72_10 c72_11 s
theorem r_n72_16 : n72_16 s = behK 4 (stepsO X (annT 72) C (gO c72_16) o72_16.1 s) := q_region (annT 72) s 5 _ false rfl _ _ rfl rfl o72_16.2
theorem g_o72_16 : gdst (gO c72_16) j = (o72_16.1[j]?).bind Oper.dst := gd_eq o72_16.2 j
theorem r_n72_17 : n72_17 s = some (.ret, s) := run_ret _ s
theorem r_n72_15 : n72_15 s = contK n72_17 (n72_16 s) := q_seq _ c72_16 c72_17 s
theorem r_n72_19 : n72_19 s = behK 32778 (stepsO X (annT 72) C (gO c72_19) o72_19.1 s) := q_region (annT 72) s 6 _ false rfl _ _ rfl rfl o72_19.2
theorem g_o72_19 : gdst (gO c72_19) j = (o72_19.1[j]?).bind Oper.dst := gd_eq o72_19.2 j
theorem r_n72_22 : n72_22 s = behK 4 (stepsO X (annT 72) C (gO c72_22) o72_22.1 s) := q_region (annT 72) s 7 _ false rfl _ _ rfl rfl o72_22.2
theorem g_o72_22 : gdst (gO c72_22) j = (o72_22.1[j]?).bind Oper.dst := gd_eq o72_22.2 j
theorem r_n72_23 : n72_23 s = some (.ret, s) := run_ret _ s
theorem r_n72_21 : n72_21 s = contK n72_23 (n72_22 s) := q_seq _ c72_22 c72_23 s
theorem r_n72_24 : n72_24 s = some (.norm, s) := run_skip _ s
theorem r_n72_20 : n72_20 s = condK (opv s.t (.tmp 15)) n72_21 n72_24 s := q_cond _ c72_21 c72_24 s (.tmp 15)
theorem r_n72_18 : n72_18 s = contK n72_20 (n72_19 s) := q_seq _ c72_19 c72_20 s
theorem r_n72_14 : n72_14 s = condK (opv s.t (.tmp 10)) n72_15 n72_18 s := q_cond _ c72_15 c72_18 s (.tmp 10)
theorem r_n72_8 : n72_8 s = contK n72_14 (n72_9 s) := q_seq _ c72_9 c72_14 s
theorem r_n72_7 : n72_7 s = blkK 0 (n72_8 s) := q_block _ c72_8 s 0
theorem r_n72_5 : n72_5 s = contK n72_7 (n72_6 s) := q_seq _ c72_6 c72_7 s
theorem r_n72_27 : n72_27 s = behK 17179869194 (stepsO X (annT 72) C (gO c72_27) o72_27.1 s) := q_region (annT 72) s 8 _ false rfl _ _ rfl rfl o72_27.2
theorem g_o72_27 : gdst (gO c72_27) j = (o72_27.1[j]?).bind Oper.dst := gd_eq o72_27.2 j
theorem r_n72_30 : n72_30 s = behK 4 (stepsO X (annT 72) C (gO c72_30) o72_30.1 s) := q_region (annT 72) s 9 _ false rfl _ _ rfl rfl o72_30.2
theorem g_o72_30 : gdst (gO c72_30) j = (o72_30.1[j]?).bind Oper.dst := gd_eq o72_30.2 j
theorem r_n72_31 : n72_31 s = some (.ret, s) := run_ret _ s
theorem r_n72_29 : n72_29 s = contK n72_31 (n72_30 s) := q_seq _ c72_30 c72_31 s
theorem r_n72_32 : n72_32 s = some (.norm, s) := run_skip _ s
theorem r_n72_28 : n72_28 s = condK (opv s.t (.tmp 34)) n72_29 n72_32 s := q_cond _ c72_29 c72_32 s (.tmp 34)
theorem r_n72_26 : n72_26 s = contK n72_28 (n72_27 s) := q_seq _ c72_27 c72_28 s
theorem r_n72_35 : n72_35 s = behK 68719476746 (stepsO X (annT 72) C (gO c72_35) o72_35.1 s) := q_region (annT 72) s 10 _ false rfl _ _ rfl rfl o72_35.2
theorem g_o72_35 : gdst (gO c72_35) j = (o72_35.1[j]?).bind Oper.dst := gd_eq o72_35.2 j
theorem r_n72_39 : n72_39 s = behK 206158430218 (stepsO X (annT 72) C (gO c72_39) o72_39.1 s) := q_region (annT 72) s 11 _ false rfl _ _ rfl rfl o72_39.2
theorem g_o72_39 : gdst (gO c72_39) j = (o72_39.1[j]?).bind Oper.dst := gd_eq o72_39.2 j
theorem r_n72_41 : n72_41 s = some (.norm, s) := run_skip _ s
theorem r_n72_43 : n72_43 s = behK 206158430218 (stepsO X (annT 72) C (gO c72_43) o72_43.1 s) := q_region (annT 72) s 12 _ false rfl _ _ rfl rfl o72_43.2
theorem g_o72_43 : gdst (gO c72_43) j = (o72_43.1[j]?).bind Oper.dst := gd_eq o72_43.2 j
theorem r_n72_45 : n72_45 s = some (.norm, s) := run_skip _ s
theorem r_n72_47 : n72_47 s = behK 206158430218 (stepsO X (annT 72) C (gO c72_47) o72_47.1 s) := q_region (annT 72) s 13 _ false rfl _ _ rfl rfl o72_47.2
theorem g_o72_47 : gdst (gO c72_47) j = (o72_47.1[j]?).bind Oper.dst := gd_eq o72_47.2 j
theorem r_n72_49 : n72_49 s = some (.norm, s) := run_skip _ s
theorem r_n72_50 : n72_50 s = behK 206158430218 (stepsO X (annT 72) C (gO c72_50) o72_50.1 s) := q_region (annT 72) s 14 _ false rfl _ _ rfl rfl o72_50.2
theorem g_o72_50 : gdst (gO c72_50) j = (o72_50.1[j]?).bind Oper.dst := gd_eq o72_50.2 j
theorem r_n72_48 : n72_48 s = condK (opv s.t (.tmp 37)) n72_49 n72_50 s := q_cond _ c72_49 c72_50 s (.tmp 37)
theorem r_n72_46 : n72_46 s = contK n72_48 (n72_47 s) := q_seq _ c72_47 c72_48 s
theorem r_n72_44 : n72_44 s = condK (opv s.t (.tmp 37)) n72_45 n72_46 s := q_cond _ c72_45 c72_46 s (.tmp 37)
theorem r_n72_42 : n72_42 s = contK n72_44 (n72_43 s) := q_seq _ c72_43 c72_44 s
theorem r_n72_40 : n72_40 s = condK (opv s.t (.tmp 37)) n72_41 n72_42 s := q_cond _ c72_41 c72_42 s (.tmp 37)
theorem r_n72_38 : n72_38 s = contK n72_40 (n72_39 s) := q_seq _ c72_39 c72_40 s
theorem r_n72_53 : n72_53 s = behK 4 (stepsO X (annT 72) C (gO c72_53) o72_53.1 s) := q_region (annT 72) s 15 _ false rfl _ _ rfl rfl o72_53.2
theorem g_o72_53 : gdst (gO c72_53) j = (o72_53.1[j]?).bind Oper.dst := gd_eq o72_53.2 j
theorem r_n72_54 : n72_54 s = some (.ret, s) := run_ret _ s
theorem r_n72_52 : n72_52 s = contK n72_54 (n72_53 s) := q_seq _ c72_53 c72_54 s
theorem r_n72_56 : n72_56 s = behK 140806207832074 (stepsO X (annT 72) C (gO c72_56) o72_56.1 s) := q_region (annT 72) s 16 _ false rfl _ _ rfl rfl o72_56.2
theorem g_o72_56 : gdst (gO c72_56) j = (o72_56.1[j]?).bind Oper.dst := gd_eq o72_56.2 j
theorem r_n72_59 : n72_59 s = behK 4 (stepsO X (annT 72) C (gO c72_59) o72_59.1 s) := q_region (annT 72) s 17 _ false rfl _ _ rfl rfl o72_59.2
theorem g_o72_59 : gdst (gO c72_59) j = (o72_59.1[j]?).bind Oper.dst := gd_eq o72_59.2 j
theorem r_n72_60 : n72_60 s = some (.ret, s) := run_ret _ s
theorem r_n72_58 : n72_58 s = contK n72_60 (n72_59 s) := q_seq _ c72_59 c72_60 s
theorem r_n72_62 : n72_62 s = behK 18014467228958730 (stepsO X (annT 72) C (gO c72_62) o72_62.1 s) := q_region (annT 72) s 18 _ false rfl _ _ rfl rfl o72_62.2
theorem g_o72_62 : gdst (gO c72_62) j = (o72_62.1[j]?).bind Oper.dst := gd_eq o72_62.2 j
theorem r_n72_65 : n72_65 s = behK 4 (stepsO X (annT 72) C (gO c72_65) o72_65.1 s) := q_region (annT 72) s 19 _ false rfl _ _ rfl rfl o72_65.2
theorem g_o72_65 : gdst (gO c72_65) j = (o72_65.1[j]?).bind Oper.dst := gd_eq o72_65.2 j
theorem r_n72_66 : n72_66 s = some (.ret, s) := run_ret _ s
theorem r_n72_64 : n72_64 s = contK n72_66 (n72_65 s) := q_seq _ c72_65 c72_66 s
theorem r_n72_68 : n72_68 s = behK 73786976294838206474 (stepsO X (annT 72) C (gO c72_68) o72_68.1 s) := q_region (annT 72) s 20 _ false rfl _ _ rfl rfl o72_68.2
theorem g_o72_68 : gdst (gO c72_68) j = (o72_68.1[j]?).bind Oper.dst := gd_eq o72_68.2 j
theorem r_n72_71 : n72_71 s = behK 26 (stepsO X (annT 72) C (gO c72_71) o72_71.1 s) := q_region (annT 72) s 21 _ false rfl _ _ rfl rfl o72_71.2
theorem g_o72_71 : gdst (gO c72_71) j = (o72_71.1[j]?).bind Oper.dst := gd_eq o72_71.2 j
theorem r_n72_73 : n72_73 s = behK 4 (stepsO X (annT 72) C (gO c72_73) o72_73.1 s) := q_region (annT 72) s 22 _ false rfl _ _ rfl rfl o72_73.2
theorem g_o72_73 : gdst (gO c72_73) j = (o72_73.1[j]?).bind Oper.dst := gd_eq o72_73.2 j
theorem r_n72_74 : n72_74 s = some (.ret, s) := run_ret _ s
theorem r_n72_72 : n72_72 s = contK n72_74 (n72_73 s) := q_seq _ c72_73 c72_74 s
theorem r_n72_70 : n72_70 s = contK n72_72 (n72_71 s) := q_seq _ c72_71 c72_72 s
theorem r_n72_75 : n72_75 s = some (.norm, s) := run_skip _ s
theorem r_n72_69 : n72_69 s = condK (opv s.t (.tmp 66)) n72_70 n72_75 s := q_cond _ c72_70 c72_75 s (.tmp 66)
theorem r_n72_67 : n72_67 s = contK n72_69 (n72_68 s) := q_seq _ c72_68 c72_69 s
theorem r_n72_63 : n72_63 s = condK (opv s.t (.tmp 54)) n72_64 n72_67 s := q_cond _ c72_64 c72_67 s (.tmp 54)
theorem r_n72_61 : n72_61 s = contK n72_63 (n72_62 s) := q_seq _ c72_62 c72_63 s
theorem r_n72_57 : n72_57 s = condK (opv s.t (.tmp 47)) n72_58 n72_61 s := q_cond _ c72_58 c72_61 s (.tmp 47)
theorem r_n72_55 : n72_55 s = contK n72_57 (n72_56 s) := q_seq _ c72_56 c72_57 s
theorem r_n72_51 : n72_51 s = condK (opv s.t (.tmp 37)) n72_52 n72_55 s := q_cond _ c72_52 c72_55 s (.tmp 37)
theorem r_n72_37 : n72_37 s = contK n72_51 (n72_38 s) := q_seq _ c72_38 c72_51 s
theorem r_n72_36 : n72_36 s = blkK 1 (n72_37 s) := q_block _ c72_37 s 1
theorem r_n72_34 : n72_34 s = contK n72_36 (n72_35 s) := q_seq _ c72_35 c72_36 s
theorem r_n72_77 : n72_77 s = behK 4 (stepsO X (annT 72) C (gO c72_77) o72_77.1 s) := q_region (annT 72) s 23 _ false rfl _ _ rfl rfl o72_77.2
theorem g_o72_77 : gdst (gO c72_77) j = (o72_77.1[j]?).bind Oper.dst := gd_eq o72_77.2 j
theorem r_n72_78 : n72_78 s = some (.ret, s) := run_ret _ s
theorem r_n72_76 : n72_76 s = contK n72_78 (n72_77 s) := q_seq _ c72_77 c72_78 s
theorem r_n72_33 : n72_33 s = contK n72_76 (n72_34 s) := q_seq _ c72_34 c72_76 s
theorem r_n72_25 : n72_25 s = contK n72_33 (n72_26 s) := q_seq _ c72_26 c72_33 s
theorem r_n72_4 : n72_4 s = contK n72_25 (n72_5 s) := q_seq _ c72_5 c72_25 s
theorem r_n72_2 : n72_2 s = contK n72_4 (n72_3 s) := q_seq _ c72_3 c72_4 s
theorem r_n72_0 : n72_0 s = contK n72_2 (n72_1 s) := q_seq _ c72_1 c72_2 s
theorem va_72 : (annT 72).virt = [] := rfl
theorem wa_72 : (annT 72).wr = [] := rfl
theorem ya_72 : (annT 72).ty = [] := rfl
theorem cv_72 (call : Eng.Call) (wr : Bool) (args : List AV) (st : Store) : callV X call wr 72 args st = cvP call wr 72 args st (fzAll (fz false st 6) args) := cv_pure rfl rfl call wr args st
theorem p72 (ds : List D) : pureCall C 72 ds = ((n72_0 ⟨argsT 0 (ds.map .d), []⟩).bind (bodyR [.tmp 2])).bind prOf := P_eq Try.f72 rfl rfl rfl rfl ds
theorem q72 (vs : List AV) (st : Store) : C 72 vs st = (n72_0 ⟨argsT 0 vs, st⟩).bind (bodyR [.tmp 2]) := C_eq Try.f72 rfl rfl rfl rfl vs st
attribute [go_sem] r_n72_1 g_o72_1 o72_1 r_n72_3 g_o72_3 o72_3 r_n72_6 g_o72_6 o72_6 r_n72_10 g_o72_10 o72_10 r_n72_12 r_n72_13 g_o72_13 o72_13 r_n72_11 r_n72_9 r_n72_16 g_o72_16 o72_16 r_n72_17 r_n72_15 r_n72_19 g_o72_19 o72_19 r_n72_22 g_o72_22 o72_22 r_n72_23 r_n72_21 r_n72_24 r_n72_20 r_n72_18 r_n72_14 r_n72_8 r_n72_7 r_n72_5 r_n72_27 g_o72_27 o72_27 r_n72_30 g_o72_30 o72_30 r_n72_31 r_n72_29 r_n72_32 r_n72_28 r_n72_26 r_n72_35 g_o72_35 o72_35 r_n72_39 g_o72_39 o72_39 r_n72_41 r_n72_43 g_o72_43 o72_43 r_n72_45 r_n72_47 g_o72_47 o72_47 r_n72_49 r_n72_50 g_o72_50 o72_50 r_n72_48 r_n72_46 r_n72_44 r_n72_42 r_n72_40 r_n72_38 r_n72_53 g_o72_53 o72_53 r_n72_54 r_n72_52 r_n72_56 g_o72_56 o72_56 r_n72_59 g_o72_59 o72_59 r_n72_60 r_n72_58 r_n72_62 g_o72_62 o72_62 r_n72_65 g_o72_65 o72_65 r_n72_66 r_n72_64 r_n72_68 g_o72_68 o72_68 r_n72_71 g_o72_71 o72_71 r_n72_73 g_o72_73 o72_73 r_n72_74 r_n72_72 r_n72_70 r_n72_75 r_n72_69 r_n72_67 r_n72_63 r_n72_61 r_n72_57 r_n72_55 r_n72_51 r_n72_37 r_n72_36 r_n72_34 r_n72_77 g_o72_77 o72_77 r_n72_78 r_n72_76 r_n72_33 r_n72_25 r_n72_4 r_n72_2 r_n72_0 va_72 wa_72 ya_72 cv_72
noncomputable def c47_0 : Code := Try.f47.body.getD .skip
noncomputable def A47 := run (annT 47)
def n47_0 := A47 c47_0
def c47_1 := gL c47_0
def n47_1 := A47 c47_1
def o47_1 : OL c47_1 := ⟨_, by conv => (lhs; whnf)⟩
def c47_2 := gR c47_0
def n47_2 := A47 c47_2
def c47_3 := gL c47_2
def n47_3 := A47 c47_3
def c47_4 := gL c47_3
def n47_4 := A47 c47_4
def o47_4 : OL c47_4 := ⟨_, by conv => (lhs; whnf)⟩
def c47_5 := gR c47_3
def n47_5 := A47 c47_5
def c47_6 := gB c47_5
def n47_6 := A47 c47_6
def c47_7 := gB c47_6
def n47_7 := A47 c47_7
def c47_8 := gL c47_7
def n47_8 := A47 c47_8
def c47_9 := gL c47_8
def n47_9 := A47 c47_9
def o47_9 : OL c47_9 := ⟨_, by conv => (lhs; whnf)⟩
def c47_10 := gR c47_8
def n47_10 := A47 c47_10
def c47_11 := gT c47_10
def n47_11 := A47 c47_11
def c47_12 := gF c47_10
def n47_12 := A47 c47_12
def c47_13 := gR c47_7
def n47_13 := A47 c47_13
def c47_14 := gL c47_13
def n47_14 := A47 c47_14
def c47_15 := gB c47_14
def n47_15 := A47 c47_15
def c47_16 := gL c47_15
def n47_16 := A47 c47_16
def o47_16 : OL c47_16 := ⟨_, by conv => (lhs; whnf)⟩
def c47_17 := gR c47_15
def n47_17 := A47 c47_17
def c47_18 := gT c47_17
def n47_18 := A47 c47_18
def c47_19 := gL c47_18
def n47_19 := A47 c47_19
def o47_19 : OL c47_19 := ⟨_, by conv => (lhs; whnf)⟩
def c47_20 := gR c47_18
def n47_20 := A47 c47_20
def c47_21 := gF c47_17
def n47_21 := A47 c47_21
def c47_22 := gR c47_13
def n47_22 := A47 c47_22
def o47_22 : OL c47_22 := ⟨_, by conv => (lhs; whnf)⟩
def c47_23 := gR c47_2
def n47_23 := A47 c47_23
def c47_24 := gL c47_23
def n47_24 := A47 c47_24
def o47_24 : OL c47_24 := ⟨_, by conv => (lhs; whnf)⟩
def c47_25 := gR c47_23
def n47_25 := A47 c47_25
theorem r_n47_1 : n47_1 s = behK 2 (stepsO X (annT 47) C (gO c47_1) o47_1.1 s) := q_region (annT 47) s 0 _ false rfl _ _ rfl rfl o47_1.2
theorem g_o47_1 : gdst (gO c47_1) j = (o47_1.1[j]?).bind Oper.dst := gd_eq o47_1.2 j
theorem r_n47_4 : n47_4 s = behK 10 (stepsO X (annT 47) C (gO c47_4) o47_4.1 s) := q_region (annT 47) s 1 _ false rfl _ _ rfl rfl o47_4.2
theorem g_o47_4 : gdst (gO c47_4) j = (o47_4.1[j]?).bind Oper.dst := gd_eq o47_4.2 j
theorem r_n47_9 : n47_9 s = behK 266 (stepsO X (annT 47) C (gO c47_9) o47_9.1 s) := q_region (annT 47) s 2 _ false rfl _ _ rfl rfl o47_9.2
theorem g_o47_9 : gdst (gO c47_9) j = (o47_9.1[j]?).bind Oper.dst := gd_eq o47_9.2 j
theorem r_n47_11 : n47_11 s = some (.norm, s) := run_skip _ s
theorem r_n47_12 : n47_12 s = some (.exit 0, s) := run_exit _ s 0
theorem r_n47_10 : n47_10 s = condK (opv s.t (.tmp 8)) n47_11 n47_12 s := q_cond _ c47_11 c47_12 s (.tmp 8)
theorem r_n47_8 : n47_8 s = contK n47_10 (n47_9 s) := q_seq _ c47_9 c47_10 s
theorem r_n47_16 : n47_16 s = behK 131082 (stepsO X (annT 47) C (gO c47_16) o47_16.1 s) := q_region (annT 47) s 4 _ false rfl _ _ rfl rfl o47_16.2
theorem g_o47_16 : gdst (gO c47_16) j = (o47_16.1[j]?).bind Oper.dst := gd_eq o47_16.2 j
theorem r_n47_19 : n47_19 s = behK 4 (stepsO X (annT 47) C (gO c47_19) o47_19.1 s) := q_region (annT 47) s 5 _ false rfl _ _ rfl rfl o47_19.2
theorem g_o47_19 : gdst (gO c47_19) j = (o47_19.1[j]?).bind Oper.dst := gd_eq o47_19.2 j
theorem r_n47_20 : n47_20 s = some (.ret, s) := run_ret _ s
theorem r_n47_18 : n47_18 s = contK n47_20 (n47_19 s) := q_seq _ c47_19 c47_20 s
theorem r_n47_21 : n47_21 s = some (.norm, s) := run_skip _ s
theorem r_n47_17 : n47_17 s = condK (opv s.t (.tmp 17)) n47_18 n47_21 s := q_cond _ c47_18 c47_21 s (.tmp 17)
theorem r_n47_15 : n47_15 s = contK n47_17 (n47_16 s) := q_seq _ c47_16 c47_17 s
theorem r_n47_14 : n47_14 s = blkK 1 (n47_15 s) := q_block _ c47_15 s 1
theorem r_n47_22 : n47_22 s = behK 10 (stepsO X (annT 47) C (gO c47_22) o47_22.1 s) := q_region (annT 47) s 3 _ false rfl _ _ rfl rfl o47_22.2
theorem g_o47_22 : gdst (gO c47_22) j = (o47_22.1[j]?).bind Oper.dst := gd_eq o47_22.2 j
theorem r_n47_13 : n47_13 s = contK n47_22 (n47_14 s) := q_seq _ c47_14 c47_22 s
theorem r_n47_7 : n47_7 s = contK n47_13 (n47_8 s) := q_seq _ c47_8 c47_13 s
theorem r_n47_6 : n47_6 s = loopK 10 s.st.length n47_6 (n47_7 s) := q_loop (annT 47) c47_7 s _ _ rfl rfl
theorem r_n47_5 : n47_5 s = blkK 0 (n47_6 s) := q_block _ c47_6 s 0
theorem r_n47_3 : n47_3 s = contK n47_5 (n47_4 s) := q_seq _ c47_4 c47_5 s
theorem r_n47_24 : n47_24 s = behK 4 (stepsO X (annT 47) C (gO c47_24) o47_24.1 s) := q_region (annT 47) s 6 _ false rfl _ _ rfl rfl o47_24.2
theorem g_o47_24 : gdst (gO c47_24) j = (o47_24.1[j]?).bind Oper.dst := gd_eq o47_24.2 j
theorem r_n47_25 : n47_25 s = some (.ret, s) := run_ret _ s
theorem r_n47_23 : n47_23 s = contK n47_25 (n47_24 s) := q_seq _ c47_24 c47_25 s
theorem r_n47_2 : n47_2 s = contK n47_23 (n47_3 s) := q_seq _ c47_3 c47_23 s
theorem r_n47_0 : n47_0 s = contK n47_2 (n47_1 s) := q_seq _ c47_1 c47_2 s
theorem va_47 : (annT 47).virt = [] := rfl
theorem wa_47 : (annT 47).wr = [] := rfl
theorem ya_47 : (annT 47).ty = [] := rfl
theorem cv_47 (call : Eng.Call) (wr : Bool) (args : List AV) (st : Store) : callV X call wr 47 args st = cvP call wr 47 args st (fzAll (fz false st 6) args) := cv_pure rfl rfl call wr args st
theorem p47 (ds : List D) : pureCall C 47 ds = ((n47_0 ⟨argsT 0 (ds.map .d), []⟩).bind (bodyR [.tmp 2])).bind prOf := P_eq Try.f47 rfl rfl rfl rfl ds
theorem q47 (vs : List AV) (st : Store) : C 47 vs st = (n47_0 ⟨argsT 0 vs, st⟩).bind (bodyR [.tmp 2]) := C_eq Try.f47 rfl rfl rfl rfl vs st
attribute [go_sem] r_n47_1 g_o47_1 o47_1 r_n47_4 g_o47_4 o47_4 r_n47_9 g_o47_9 o47_9 r_n47_11 r_n47_12 r_n47_10 r_n47_8 r_n47_16 g_o47_16 o47_16 r_n47_19 g_o47_19 o47_19 r_n47_20 r_n47_18 r_n47_21 r_n47_17 r_n47_15 r_n47_14 r_n47_22 g_o47_22 o47_22 r_n47_13 r_n47_7 r_n47_5 r_n47_3 r_n47_24 g_o47_24 o47_24 r_n47_25 r_n47_23 r_n47_2 r_n47_0 va_47 wa_47 ya_47 cv_47
noncomputable def c24_0 : Code := Try.f24.body.getD .skip
noncomputable def A24 := run (annT 24)
def n24_0 := A24 c24_0
def c24_1 := gL c24_0
def n24_1 := A24 c24_1
def o24_1 : OL c24_1 := ⟨_, by conv => (lhs; whnf)⟩
def c24_2 := gR c24_0
def n24_2 := A24 c24_2
def c24_3 := gL c24_2
def n24_3 := A24 c24_3
def c24_4 := gL c24_3
def n24_4 := A24 c24_4
def o24_4 : OL c24_4 := ⟨_, by conv => (lhs; whnf)⟩
def c24_5 := gR c24_3
def n24_5 := A24 c24_5
def c24_6 := gT c24_5
def n24_6 := A24 c24_6
def c24_7 := gL c24_6
def n24_7 := A24 c24_7
def o24_7 : OL c24_7 := ⟨_, by conv => (lhs; whnf)⟩
def c24_8 := gR c24_6
def n24_8 := A24 c24_8
def c24_9 := gF c24_5
def n24_9 := A24 c24_9
def c24_10 := gR c24_2
def n24_10 := A24 c24_10
def c24_11 := gL c24_10
def n24_11 := A24 c24_11
def o24_11 : OL c24_11 := ⟨_, by conv => (lhs; whnf)⟩
def c24_12 := gR c24_10
def n24_12 := A24 c24_12
theorem r_n24_1 : n24_1 s = behK 2 (stepsO X (annT 24) C (gO c24_1) o24_1.1 s) := q_region (annT 24) s 0 _ false rfl _ _ rfl rfl o24_1.2
theorem g_o24_1 : gdst (gO c24_1) j = (o24_1.1[j]?).bind Oper.dst := gd_eq o24_1.2 j
theorem r_n24_4 : n24_4 s = behK 32768 (stepsO X (annT 24) C (gO c24_4) o24_4.1 s) := q_region (annT 24) s 1 _ false rfl _ _ rfl rfl o24_4.2
theorem g_o24_4 : gdst (gO c24_4) j = (o24_4.1[j]?).bind Oper.dst := gd_eq o24_4.2 j
theorem r_n24_7 : n24_7 s = behK 4 (stepsO X (annT 24) C (gO c24_7) o24_7.1 s) := q_region (annT 24) s 2 _ false rfl _ _ rfl rfl o24_7.2
theorem g_o24_7 : gdst (gO c24_7) j = (o24_7.1[j]?).bind Oper.dst := gd_eq o24_7.2 j
theorem r_n24_8 : n24_8 s = some (.ret, s) := run_ret _ s
theorem r_n24_6 : n24_6 s = contK n24_8 (n24_7 s) := q_seq _ c24_7 c24_8 s
theorem r_n24_9 : n24_9 s = some (.norm, s) := run_skip _ s
theorem r_n24_5 : n24_5 s = condK (opv s.t (.tmp 15)) n24_6 n24_9 s := q_cond _ c24_6 c24_9 s (.tmp 15)
theorem r_n24_3 : n24_3 s = contK n24_5 (n24_4 s) := q_seq _ c24_4 c24_5 s
theorem r_n24_11 : n24_11 s = behK 4 (stepsO X (annT 24) C (gO c24_11) o24_11.1 s) := q_region (annT 24) s 3 _ false rfl _ _ rfl rfl o24_11.2
theorem g_o24_11 : gdst (gO c24_11) j = (o24_11.1[j]?).bind Oper.dst := gd_eq o24_11.2 j
theorem r_n24_12 : n24_12 s = some (.ret, s) := run_ret _ s
theorem r_n24_10 : n24_10 s = contK n24_12 (n24_11 s) := q_seq _ c24_11 c24_12 s
theorem r_n24_2 : n24_2 s = contK n24_10 (n24_3 s) := q_seq _ c24_3 c24_10 s
theorem r_n24_0 : n24_0 s = contK n24_2 (n24_1 s) := q_seq _ c24_1 c24_2 s
theorem va_24 : (annT 24).virt = [] := rfl
theorem wa_24 : (annT 24).wr = [] := rfl
theorem ya_24 : (annT 24).ty = [] := rfl
theorem cv_24 (call : Eng.Call) (wr : Bool) (args : List AV) (st : Store) : callV X call wr 24 args st = cvP call wr 24 args st (fzAll (fz false st 6) args) := cv_pure rfl rfl call wr args st
theorem p24 (ds : List D) : pureCall C 24 ds = ((n24_0 ⟨argsT 0 (ds.map .d), []⟩).bind (bodyR [.tmp 2])).bind prOf := P_eq Try.f24 rfl rfl rfl rfl ds
theorem q24 (vs : List AV) (st : Store) : C 24 vs st = (n24_0 ⟨argsT 0 vs, st⟩).bind (bodyR [.tmp 2]) := C_eq Try.f24 rfl rfl rfl rfl vs st
attribute [go_sem] r_n24_1 g_o24_1 o24_1 r_n24_4 g_o24_4 o24_4 r_n24_7 g_o24_7 o24_7 r_n24_8 r_n24_6 r_n24_9 r_n24_5 r_n24_3 r_n24_11 g_o24_11 o24_11 r_n24_12 r_n24_10 r_n24_2 r_n24_0 va_24 wa_24 ya_24 cv_24
noncomputable def c48_0 : Code := Try.f48.body.getD .skip
noncomputable def A48 := run (annT 48)
def n48_0 := A48 c48_0
def c48_1 := gL c48_0
def n48_1 := A48 c48_1
def o48_1 : OL c48_1 := ⟨_, by conv => (lhs; whnf)⟩
def c48_2 := gR c48_0
def n48_2 := A48 c48_2
def c48_3 := gL c48_2
def n48_3 := A48 c48_3
def o48_3 : OL c48_3 := ⟨_, by conv => (lhs; whnf)⟩
def c48_4 := gR c48_2
def n48_4 := A48 c48_4
theorem r_n48_1 : n48_1 s = behK 19 (stepsO X (annT 48) C (gO c48_1) o48_1.1 s) := q_region (annT 48) s 0 _ false rfl _ _ rfl rfl o48_1.2
theorem g_o48_1 : gdst (gO c48_1) j = (o48_1.1[j]?).bind Oper.dst := gd_eq o48_1.2 j
theorem r_n48_3 : n48_3 s = behK 16 (stepsO X (annT 48) C (gO c48_3) o48_3.1 s) := q_region (annT 48) s 1 _ false rfl _ _ rfl rfl o48_3.2
theorem g_o48_3 : gdst (gO c48_3) j = (o48_3.1[j]?).bind Oper.dst := gd_eq o48_3.2 j
theorem r_n48_4 : n48_4 s = some (.ret, s) := run_ret _ s
theorem r_n48_2 : n48_2 s = contK n48_4 (n48_3 s) := q_seq _ c48_3 c48_4 s
theorem r_n48_0 : n48_0 s = contK n48_2 (n48_1 s) := q_seq _ c48_1 c48_2 s
theorem va_48 : (annT 48).virt = [] := rfl
theorem wa_48 : (annT 48).wr = [] := rfl
theorem ya_48 : (annT 48).ty = [] := rfl
theorem cv_48 (call : Eng.Call) (wr : Bool) (args : List AV) (st : Store) : callV X call wr 48 args st = cvP call wr 48 args st (fzAll (fz false st 6) args) := cv_pure rfl rfl call wr args st
theorem p48 (ds : List D) : pureCall C 48 ds = ((n48_0 ⟨argsT 0 (ds.map .d), []⟩).bind (bodyR [.cell 4 32])).bind prOf := P_eq Try.f48 rfl rfl rfl rfl ds
theorem q48 (vs : List AV) (st : Store) : C 48 vs st = (n48_0 ⟨argsT 0 vs, st⟩).bind (bodyR [.cell 4 32]) := C_eq Try.f48 rfl rfl rfl rfl vs st
attribute [go_sem] r_n48_1 g_o48_1 o48_1 r_n48_3 g_o48_3 o48_3 r_n48_4 r_n48_2 r_n48_0 va_48 wa_48 ya_48 cv_48
noncomputable def c49_0 : Code := Try.f49.body.getD .skip
noncomputable def A49 := run (annT 49)
def n49_0 := A49 c49_0
def c49_1 := gL c49_0
def n49_1 := A49 c49_1
def o49_1 : OL c49_1 := ⟨_, by conv => (lhs; whnf)⟩
def c49_2 := gR c49_0
def n49_2 := A49 c49_2
def c49_3 := gL c49_2
def n49_3 := A49 c49_3
def o49_3 : OL c49_3 := ⟨_, by conv => (lhs; whnf)⟩
def c49_4 := gR c49_2
def n49_4 := A49 c49_4
theorem r_n49_1 : n49_1 s = behK 5 (stepsO X (annT 49) C (gO c49_1) o49_1.1 s) := q_region (annT 49) s 0 _ false rfl _ _ rfl rfl o49_1.2
theorem g_o49_1 : gdst (gO c49_1) j = (o49_1.1[j]?).bind Oper.dst := gd_eq o49_1.2 j
theorem r_n49_3 : n49_3 s = behK 4 (stepsO X (annT 49) C (gO c49_3) o49_3.1 s) := q_region (annT 49) s 1 _ false rfl _ _ rfl rfl o49_3.2
theorem g_o49_3 : gdst (gO c49_3) j = (o49_3.1[j]?).bind Oper.dst := gd_eq o49_3.2 j
theorem r_n49_4 : n49_4 s = some (.ret, s) := run_ret _ s
theorem r_n49_2 : n49_2 s = contK n49_4 (n49_3 s) := q_seq _ c49_3 c49_4 s
theorem r_n49_0 : n49_0 s = contK n49_2 (n49_1 s) := q_seq _ c49_1 c49_2 s
theorem va_49 : (annT 49).virt = [] := rfl
theorem wa_49 : (annT 49).wr = [] := rfl
theorem ya_49 : (annT 49).ty = [] := rfl
theorem cv_49 (call : Eng.Call) (wr : Bool) (args : List AV) (st : Store) : callV X call wr 49 args st = cvP call wr 49 args st (fzAll (fz false st 6) args) := cv_pure rfl rfl call wr args st
theorem p49 (ds : List D) : pureCall C 49 ds = ((n49_0 ⟨argsT 0 (ds.map .d), []⟩).bind (bodyR [.cell 2 32])).bind prOf := P_eq Try.f49 rfl rfl rfl rfl ds
theorem q49 (vs : List AV) (st : Store) : C 49 vs st = (n49_0 ⟨argsT 0 vs, st⟩).bind (bodyR [.cell 2 32]) := C_eq Try.f49 rfl rfl rfl rfl vs st
attribute [go_sem] r_n49_1 g_o49_1 o49_1 r_n49_3 g_o49_3 o49_3 r_n49_4 r_n49_2 r_n49_0 va_49 wa_49 ya_49 cv_49
noncomputable def c25_0 : Code := Try.f25.body.getD .skip
noncomputable def A25 := run (annT 25)
def n25_0 := A25 c25_0
def c25_1 := gL c25_0
def n25_1 := A25 c25_1
def o25_1 : OL c25_1 := ⟨_, by conv => (lhs; whnf)⟩
def c25_2 := gR c25_0
def n25_2 := A25 c25_2
def c25_3 := gL c25_2
def n25_3 := A25 c25_3
def o25_3 : OL c25_3 := ⟨_, by conv => (lhs; whnf)⟩
def c25_4 := gR c25_2
def n25_4 := A25 c25_4
def c25_5 := gL c25_4
def n25_5 := A25 c25_5
def c25_6 := gL c25_5
def n25_6 := A25 c25_6
def o25_6 : OL c25_6 := ⟨_, by conv => (lhs; whnf)⟩
def c25_7 := gR c25_5
def n25_7 := A25 c25_7
def c25_8 := gB c25_7
def n25_8 := A25 c25_8
def c25_9 := gL c25_8
def n25_9 := A25 c25_9
def c25_10 := gL c25_9
def n25_10 := A25 c25_10
def o25_10 : OL c25_10 := ⟨_, by conv => (lhs; whnf)⟩
def c25_11 := gR c25_9
def n25_11 := A25 c25_11
def c25_12 := gT c25_11
def n25_12 := A25 c25_12
def c25_13 := gF c25_11
def n25_13 := A25 c25_13
def c25_14 := gL c25_13
def n25_14 := A25 c25_14
def o25_14 : OL c25_14 := ⟨_, by conv => (lhs; whnf)⟩
def c25_15 := gR c25_13
def n25_15 := A25 c25_15
def c25_16 := gT c25_15
def n25_16 := A25 c25_16
def c25_17 := gF c25_15
def n25_17 := A25 c25_17
def o25_17 : OL c25_17 := ⟨_, by conv => (lhs; whnf)⟩
def c25_18 := gR c25_8
def n25_18 := A25 c25_18
def c25_19 := gT c25_18
def n25_19 := A25 c25_19
def c25_20 := gL c25_19
def n25_20 := A25 c25_20
def o25_20 : OL c25_20 := ⟨_, by conv => (lhs; whnf)⟩
def c25_21 := gR c25_19
def n25_21 := A25 c25_21
def c25_22 := gB c25_21
def n25_22 := A25 c25_22
def c25_23 := gB c25_22
def n25_23 := A25 c25_23
def c25_24 := gL c25_23
def n25_24 := A25 c25_24
def c25_25 := gL c25_24
def n25_25 := A25 c25_25
def o25_25 : OL c25_25 := ⟨_, by conv => (lhs; whnf)⟩
def c25_26 := gR c25_24
def n25_26 := A25 c25_26
def c25_27 := gT c25_26
def n25_27 := A25 c25_27
def c25_28 := gF c25_26
def n25_28 := A25 c25_28
def c25_29 := gR c25_23
def n25_29 := A25 c25_29
def c25_30 := gL c25_29
def n25_30 := A25 c25_30
def c25_31 := gB c25_30
def n25_31 := A25 c25_31
def o25_31 : OL c25_31 := ⟨_, by conv => (lhs; whnf)⟩
def c25_32 := gR c25_29
def n25_32 := A25 c25_32
def o25_32 : OL c25_32 := ⟨_, by conv => (lhs; whnf)⟩
def c25_33 := gF c25_18
def n25_33 := A25 c25_33
def c25_34 := gL c25_33
def n25_34 := A25 c25_34
def o25_34 : OL c25_34 := ⟨_, by conv => (lhs; whnf)⟩
def c25_35 := gR c25_33
def n25_35 := A25 c25_35
def c25_36 := gT c25_35
def n25_36 := A25 c25_36
def c25_37 := gL c25_36
def n25_37 := A25 c25_37
def o25_37 : OL c25_37 := ⟨_, by conv => (lhs; whnf)⟩
def c25_38 := gR c25_36
def n25_38 := A25 c25_38
def c25_39 := gF c25_35
def n25_39 := A25 c25_39
def c25_40 := gL c25_39
def n25_40 := A25 c25_40
def o25_40 : OL c25_40 := ⟨_, by conv => (lhs; whnf)⟩
def c25_41 := gR c25_39
def n25_41 := A25 c25_41
def c25_42 := gT c25_41
def n25_42 := A25 c25_42
def c25_43 := gL c25_42
def n25_43 := A25 c25_43
def o25_43 : OL c25_43 := ⟨_, by conv => (lhs; whnf)⟩
def c25_44 := gR c25_42
def n25_44 := A25 c25_44
def c25_45 := gL c25_44
def n25_45 := A25 c25_45
def c25_46 := gL c25_45
def n25_46 := A25 c25_46
def o25_46 : OL c25_46 := ⟨_, by conv => (lhs; whnf)⟩
def c25_47 := gR c25_45
def n25_47 := A25 c25_47
def c25_48 := gT c25_47
def n25_48 := A25 c25_48
def o25_48 : OL c25_48 := ⟨_, by conv => (lhs; whnf)⟩
def c25_49 := gF c25_47
def n25_49 := A25 c25_49
def c25_50 := gR c25_44
def n25_50 := A25 c25_50
def c25_51 := gL c25_50
def n25_51 := A25 c25_51
def c25_52 := gL c25_51
def n25_52 := A25 c25_52
def o25_52 : OL c25_52 := ⟨_, by conv => (lhs; whnf)⟩
def c25_53 := gR c25_51
def n25_53 := A25 c25_53
def c25_54 := gB c25_53
def n25_54 := A25 c25_54
def c25_55 := gB c25_54
def n25_55 := A25 c25_55
def c25_56 := gL c25_55
def n25_56 := A25 c25_56
def c25_57 := gL c25_56
def n25_57 := A25 c25_57
def o25_57 : OL c25_57 := ⟨_, by conv => (lhs; whnf)⟩
def c25_58 := gR c25_56
def n25_58 := A25 c25_58
def c25_59 := gT c25_58
def n25_59 := A25 c25_59
def c25_60 := gF c25_58
def n25_60 := A25 c25_60
def c25_61 := gR c25_55
def n25_61 := A25 c25_61
def c25_62 := gL c25_61
def n25_62 := A25 c25_62
def c25_63 := gB c25_62
def n25_63 := A25 c25_63
def o25_63 : OL c25_63 := ⟨_, by conv => (lhs; whnf)⟩
def c25_64 := gR c25_61
def n25_64 := A25 c25_64
def o25_64 : OL c25_64 := ⟨_, by conv => (lhs; whnf)⟩
def c25_65 := gR c25_50
def n25_65 := A25 c25_65
def c25_66 := gL c25_65
def n25_66 := A25 c25_66
def c25_67 := gL c25_66
def n25_67 := A25 c25_67
def o25_67 : OL c25_67 := ⟨_, by conv => (lhs; whnf)⟩
def c25_68 := gR c25_66
def n25_68 := A25 c25_68
def c25_69 := gT c25_68
def n25_69 := A25 c25_69
def o25_69 : OL c25_69 := ⟨_, by conv => (lhs; whnf)⟩
def c25_70 := gF c25_68
def n25_70 := A25 c25_70
def c25_71 := gR c25_65
def n25_71 := A25 c25_71
def o25_71 : OL c25_71 := ⟨_, by conv => (lhs; whnf)⟩
def c25_72 := gF c25_41
def n25_72 := A25 c25_72
def c25_73 := gL c25_72
def n25_73 := A25 c25_73
def o25_73 : OL c25_73 := ⟨_, by conv => (lhs; whnf)⟩
def c25_74 := gR c25_72
def n25_74 := A25 c25_74
def c25_75 := gT c25_74
def n25_75 := A25 c25_75
def c25_76 := gL c25_75
def n25_76 := A25 c25_76
def c25_77 := gL c25_76
def n25_77 := A25 c25_77
def o25_77 : OL c25_77 := ⟨_, by conv => (lhs; whnf)⟩
def c25_78 := gR c25_76
def n25_78 := A25 c25_78
def c25_79 := gT c25_78
def n25_79 := A25 c25_79
def o25_79 : OL c25_79 := ⟨_, by conv => (lhs; whnf)⟩
def c25_80 := gF c25_78
def n25_80 := A25 c25_80
def c25_81 := gR c25_75
def n25_81 := A25 c25_81
def c25_82 := gL c25_81
def n25_82 := A25 c25_82
def c25_83 := gL c25_82
def n25_83 := A25 c25_83
def o25_83 : OL c25_83 := ⟨_, by conv => (lhs; whnf)⟩
def c25_84 := gR c25_82
def n25_84 := A25 c25_84
def c25_85 := gT c25_84
def n25_85 := A25 c25_85
def o25_85 : OL c25_85 := ⟨_, by conv => (lhs; whnf)⟩
def c25_86 := gF c25_84
def n25_86 := A25 c25_86
def c25_87 := gR c25_81
def n25_87 := A25 c25_87
def c25_88 := gL c25_87
def n25_88 := A25 c25_88
def o25_88 : OL c25_88 := ⟨_, by conv => (lhs; whnf)⟩
def c25_89 := gR c25_87
def n25_89 := A25 c25_89
def c25_90 := gL c25_89
def n25_90 := A25 c25_90
def o25_90 : OL c25_90 := ⟨_, by conv => (lhs; whnf)⟩
def c25_91 := gR c25_89
def n25_91 := A25 c25_91
def c25_92 := gT c25_91
def n25_92 := A25 c25_92
def o25_92 : OL c25_92 := ⟨_, by conv => (lhs; whnf)⟩
def c25_93 := gF c25_91
def n25_93 := A25 c25_93
def c25_94 := gF c25_74
def n25_94 := A25 c25_94
def o25_94 : OL c25_94 := ⟨_, by conv => (lhs; whnf)⟩
def c25_95 := gR c25_4
def n25_95 := A25 c25_95
def c25_96 := gL c25_95
def n25_96 := A25 c25_96
def o25_96 : OL c25_96 := ⟨_, by conv => (lhs; whnf)⟩
def c25_97 := gR c25_95
def n25_97 := A25 c25_97
theorem r_n25_1 : n25_1 s = behK 6 (stepsO X (annT 25) C (gO c25_1) o25_1.1 s) := q_region (annT 25) s 0 _ false rfl _ _ rfl rfl o25_1.2
theorem g_o25_1 : gdst (gO c25_1) j = (o25_1.1[j]?).bind Oper.dst := gd_eq o25_1.2 j
theorem r_n25_3 : n25_3 s = behK 14 (stepsO X (annT 25) C (gO c25_3) o25_3.1 s) := q_region (annT 25) s 1 _ false rfl _ _ rfl rfl o25_3.2
theorem g_o25_3 : gdst (gO c25_3) j = (o25_3.1[j]?).bind Oper.dst := gd_eq o25_3.2 j
theorem r_n25_6 : n25_6 s = behK 2062 (stepsO X (annT 25) C (gO c25_6) o25_6.1 s) := q_region (annT 25) s 2 _ false rfl _ _ rfl rfl o25_6.2
theorem g_o25_6 : gdst (gO c25_6) j = (o25_6.1[j]?).bind Oper.dst := gd_eq o25_6.2 j
theorem r_n25_10 : n25_10 s = behK 1050638 (stepsO X (annT 25) C (gO c25_10) o25_10.1 s) := q_region (annT 25) s 4 _ false rfl _ _ rfl rfl o25_10.2
theorem g_o25_10 : gdst (gO c25_10) j = (o25_10.1[j]?).bind Oper.dst := gd_eq o25_10.2 j
theorem r_n25_12 : n25_12 s = some (.norm, s) := run_skip _ s
theorem r_n25_14 : n25_14 s = behK 1050638 (stepsO X (annT 25) C (gO c25_14) o25_14.1 s) := q_region (annT 25) s 5 _ false rfl _ _ rfl rfl o25_14.2
theorem g_o25_14 : gdst (gO c25_14) j = (o25_14.1[j]?).bind Oper.dst := gd_eq o25_14.2 j
theorem r_n25_16 : n25_16 s = some (.norm, s) := run_skip _ s
theorem r_n25_17 : n25_17 s = behK 1050638 (stepsO X (annT 25) C (gO c25_17) o25_17.1 s) := q_region (annT 25) s 6 _ false rfl _ _ rfl rfl o25_17.2
theorem g_o25_17 : gdst (gO c25_17) j = (o25_17.1[j]?).bind Oper.dst := gd_eq o25_17.2 j
theorem r_n25_15 : n25_15 s = condK (opv s.t (.tmp 20)) n25_16 n25_17 s := q_cond _ c25_16 c25_17 s (.tmp 20)
theorem r_n25_13 : n25_13 s = contK n25_15 (n25_14 s) := q_seq _ c25_14 c25_15 s
theorem r_n25_11 : n25_11 s = condK (opv s.t (.tmp 20)) n25_12 n25_13 s := q_cond _ c25_12 c25_13 s (.tmp 20)
theorem r_n25_9 : n25_9 s = contK n25_11 (n25_10 s) := q_seq _ c25_10 c25_11 s
theorem r_n25_20 : n25_20 s = behK 30 (stepsO X (annT 25) C (gO c25_20) o25_20.1 s) := q_region (annT 25) s 7 _ false rfl _ _ rfl rfl o25_20.2
theorem g_o25_20 : gdst (gO c25_20) j = (o25_20.1[j]?).bind Oper.dst := gd_eq o25_20.2 j
theorem r_n25_25 : n25_25 s = behK 268435486 (stepsO X (annT 25) C (gO c25_25) o25_25.1 s) := q_region (annT 25) s 8 _ false rfl _ _ rfl rfl o25_25.2
theorem g_o25_25 : gdst (gO c25_25) j = (o25_25.1[j]?).bind Oper.dst := gd_eq o25_25.2 j
theorem r_n25_27 : n25_27 s = some (.norm, s) := run_skip _ s
theorem r_n25_28 : n25_28 s = some (.exit 1, s) := run_exit _ s 1
theorem r_n25_26 : n25_26 s = condK (opv s.t (.tmp 28)) n25_27 n25_28 s := q_cond _ c25_27 c25_28 s (.tmp 28)
theorem r_n25_24 : n25_24 s = contK n25_26 (n25_25 s) := q_seq _ c25_25 c25_26 s
theorem r_n25_31 : n25_31 s = behK 30 (stepsO X (annT 25) C (gO c25_31) o25_31.1 s) := q_region (annT 25) s 10 _ true rfl _ _ rfl rfl o25_31.2
theorem g_o25_31 : gdst (gO c25_31) j = (o25_31.1[j]?).bind Oper.dst := gd_eq o25_31.2 j
theorem r_n25_30 : n25_30 s = blkK 2 (n25_31 s) := q_block _ c25_31 s 2
theorem r_n25_32 : n25_32 s = behK 30 (stepsO X (annT 25) C (gO c25_32) o25_32.1 s) := q_region (annT 25) s 9 _ false rfl _ _ rfl rfl o25_32.2
theorem g_o25_32 : gdst (gO c25_32) j = (o25_32.1[j]?).bind Oper.dst := gd_eq o25_32.2 j
theorem r_n25_29 : n25_29 s = contK n25_32 (n25_30 s) := q_seq _ c25_30 c25_32 s
theorem r_n25_23 : n25_23 s = contK n25_29 (n25_24 s) := q_seq _ c25_24 c25_29 s
theorem r_n25_22 : n25_22 s = loopK 30 s.st.length n25_22 (n25_23 s) := q_loop (annT 25) c25_23 s _ _ rfl rfl
theorem r_n25_21 : n25_21 s = blkK 1 (n25_22 s) := q_block _ c25_22 s 1
theorem r_n25_19 : n25_19 s = contK n25_21 (n25_20 s) := q_seq _ c25_20 c25_21 s
theorem r_n25_34 : n25_34 s = behK 4398046513166 (stepsO X (annT 25) C (gO c25_34) o25_34.1 s) := q_region (annT 25) s 11 _ false rfl _ _ rfl rfl o25_34.2
theorem g_o25_34 : gdst (gO c25_34) j = (o25_34.1[j]?).bind Oper.dst := gd_eq o25_34.2 j
theorem r_n25_37 : n25_37 s = behK 4 (stepsO X (annT 25) C (gO c25_37) o25_37.1 s) := q_region (annT 25) s 12 _ false rfl _ _ rfl rfl o25_37.2
theorem g_o25_37 : gdst (gO c25_37) j = (o25_37.1[j]?).bind Oper.dst := gd_eq o25_37.2 j
theorem r_n25_38 : n25_38 s = some (.ret, s) := run_ret _ s
theorem r_n25_36 : n25_36 s = contK n25_38 (n25_37 s) := q_seq _ c25_37 c25_38 s
theorem r_n25_40 : n25_40 s = behK 140737488357390 (stepsO X (annT 25) C (gO c25_40) o25_40.1 s) := q_region (annT 25) s 13 _ false rfl _ _ rfl rfl o25_40.2
theorem g_o25_40 : gdst (gO c25_40) j = (o25_40.1[j]?).bind Oper.dst := gd_eq o25_40.2 j
theorem r_n25_43 : n25_43 s = behK 46 (stepsO X (annT 25) C (gO c25_43) o25_43.1 s) := q_region (annT 25) s 14 _ false rfl _ _ rfl rfl o25_43.2
theorem g_o25_43 : gdst (gO c25_43) j = (o25_43.1[j]?).bind Oper.dst := gd_eq o25_43.2 j
theorem r_n25_46 : n25_46 s = behK 4503599627370542 (stepsO X (annT 25) C (gO c25_46) o25_46.1 s) := q_region (annT 25) s 15 _ false rfl _ _ rfl rfl o25_46.2
theorem g_o25_46 : gdst (gO c25_46) j = (o25_46.1[j]?).bind Oper.dst := gd_eq o25_46.2 j
theorem r_n25_48 : n25_48 s = behK 46 (stepsO X (annT 25) C (gO c25_48) o25_48.1 s) := q_region (annT 25) s 16 _ true rfl _ _ rfl rfl o25_48.2
theorem g_o25_48 : gdst (gO c25_48) j = (o25_48.1[j]?).bind Oper.dst := gd_eq o25_48.2 j
theorem r_n25_49 : n25_49 s = some (.norm, s) := run_skip _ s
theorem r_n25_47 : n25_47 s = condK (opv s.t (.tmp 52)) n25_48 n25_49 s := q_cond _ c25_48 c25_49 s (.tmp 52)
theorem r_n25_45 : n25_45 s = contK n25_47 (n25_46 s) := q_seq _ c25_46 c25_47 s
theorem r_n25_52 : n25_52 s = behK 110 (stepsO X (annT 25) C (gO c25_52) o25_52.1 s) := q_region (annT 25) s 17 _ false rfl _ _ rfl rfl o25_52.2
theorem g_o25_52 : gdst (gO c25_52) j = (o25_52.1[j]?).bind Oper.dst := gd_eq o25_52.2 j
theorem r_n25_57 : n25_57 s = behK 147573952589676413038 (stepsO X (annT 25) C (gO c25_57) o25_57.1 s) := q_region (annT 25) s 18 _ false rfl _ _ rfl rfl o25_57.2
theorem g_o25_57 : gdst (gO c25_57) j = (o25_57.1[j]?).bind Oper.dst := gd_eq o25_57.2 j
theorem r_n25_59 : n25_59 s = some (.norm, s) := run_skip _ s
theorem r_n25_60 : n25_60 s = some (.exit 3, s) := run_exit _ s 3
theorem r_n25_58 : n25_58 s = condK (opv s.t (.tmp 67)) n25_59 n25_60 s := q_cond _ c25_59 c25_60 s (.tmp 67)
theorem r_n25_56 : n25_56 s = contK n25_58 (n25_57 s) := q_seq _ c25_57 c25_58 s
theorem r_n25_63 : n25_63 s = behK 110 (stepsO X (annT 25) C (gO c25_63) o25_63.1 s) := q_region (annT 25) s 20 _ true rfl _ _ rfl rfl o25_63.2
theorem g_o25_63 : gdst (gO c25_63) j = (o25_63.1[j]?).bind Oper.dst := gd_eq o25_63.2 j
theorem r_n25_62 : n25_62 s = blkK 4 (n25_63 s) := q_block _ c25_63 s 4
theorem r_n25_64 : n25_64 s = behK 110 (stepsO X (annT 25) C (gO c25_64) o25_64.1 s) := q_region (annT 25) s 19 _ false rfl _ _ rfl rfl o25_64.2
theorem g_o25_64 : gdst (gO c25_64) j = (o25_64.1[j]?).bind Oper.dst := gd_eq o25_64.2 j
theorem r_n25_61 : n25_61 s = contK n25_64 (n25_62 s) := q_seq _ c25_62 c25_64 s
theorem r_n25_55 : n25_55 s = contK n25_61 (n25_56 s) := q_seq _ c25_56 c25_61 s
theorem r_n25_54 : n25_54 s = loopK 110 s.st.length n25_54 (n25_55 s) := q_loop (annT 25) c25_55 s _ _ rfl rfl
theorem r_n25_53 : n25_53 s = blkK 3 (n25_54 s) := q_block _ c25_54 s 3
theorem r_n25_51 : n25_51 s = contK n25_53 (n25_52 s) := q_seq _ c25_52 c25_53 s
theorem r_n25_67 : n25_67 s = behK 19342813113834066795298862 (stepsO X (annT 25) C (gO c25_67) o25_67.1 s) := q_region (annT 25) s 21 _ false rfl _ _ rfl rfl o25_67.2
theorem g_o25_67 : gdst (gO c25_67) j = (o25_67.1[j]?).bind Oper.dst := gd_eq o25_67.2 j
theorem r_n25_69 : n25_69 s = behK 46 (stepsO X (annT 25) C (gO c25_69) o25_69.1 s) := q_region (annT 25) s 22 _ true rfl _ _ rfl rfl o25_69.2
theorem g_o25_69 : gdst (gO c25_69) j = (o25_69.1[j]?).bind Oper.dst := gd_eq o25_69.2 j
theorem r_n25_70 : n25_70 s = some (.norm, s) := run_skip _ s
theorem r_n25_68 : n25_68 s = condK (opv s.t (.tmp 84)) n25_69 n25_70 s := q_cond _ c25_69 c25_70 s (.tmp 84)
theorem r_n25_66 : n25_66 s = contK n25_68 (n25_67 s) := q_seq _ c25_67 c25_68 s
theorem r_n25_71 : n25_71 s = behK 12 (stepsO X (annT 25) C (gO c25_71) o25_71.1 s) := q_region (annT 25) s 23 _ true rfl _ _ rfl rfl o25_71.2
theorem g_o25_71 : gdst (gO c25_71) j = (o25_71.1[j]?).bind Oper.dst := gd_eq o25_71.2 j
theorem r_n25_65 : n25_65 s = contK n25_71 (n25_66 s) := q_seq _ c25_66 c25_71 s
theorem r_n25_50 : n25_50 s = contK n25_65 (n25_51 s) := q_seq _ c25_51 c25_65 s
theorem r_n25_44 : n25_44 s = contK n25_50 (n25_45 s) := q_seq _ c25_45 c25_50 s
theorem r_n25_42 : n25_42 s = contK n25_44 (n25_43 s) := q_seq _ c25_43 c25_44 s
theorem r_n25_73 : n25_73 s = behK 1267650600228229401496703205390 (stepsO X (annT 25) C (gO c25_73) o25_73.1 s) := q_region (annT 25) s 24 _ false rfl _ _ rfl rfl o25_73.2
theorem g_o25_73 : gdst (gO c25_73) j = (o25_73.1[j]?).bind Oper.dst := gd_eq o25_73.2 j
theorem r_n25_77 : n25_77 s = behK 20282409603651670423947251286030 (stepsO X (annT 25) C (gO c25_77) o25_77.1 s) := q_region (annT 25) s 25 _ false rfl _ _ rfl rfl o25_77.2
theorem g_o25_77 : gdst (gO c25_77) j = (o25_77.1[j]?).bind Oper.dst := gd_eq o25_77.2 j
theorem r_n25_79 : n25_79 s = behK 14 (stepsO X (annT 25) C (gO c25_79) o25_79.1 s) := q_region (annT 25) s 26 _ true rfl _ _ rfl rfl o25_79.2
theorem g_o25_79 : gdst (gO c25_79) j = (o25_79.1[j]?).bind Oper.dst := gd_eq o25_79.2 j
theorem r_n25_80 : n25_80 s = some (.norm, s) := run_skip _ s
theorem r_n25_78 : n25_78 s = condK (opv s.t (.tmp 104)) n25_79 n25_80 s := q_cond _ c25_79 c25_80 s (.tmp 104)
theorem r_n25_76 : n25_76 s = contK n25_78 (n25_77 s) := q_seq _ c25_77 c25_78 s
theorem r_n25_83 : n25_83 s = behK 41538374868278621028243970633760782 (stepsO X (annT 25) C (gO c25_83) o25_83.1 s) := q_region (annT 25) s 27 _ false rfl _ _ rfl rfl o25_83.2
theorem g_o25_83 : gdst (gO c25_83) j = (o25_83.1[j]?).bind Oper.dst := gd_eq o25_83.2 j
theorem r_n25_85 : n25_85 s = behK 14 (stepsO X (annT 25) C (gO c25_85) o25_85.1 s) := q_region (annT 25) s 28 _ true rfl _ _ rfl rfl o25_85.2
theorem g_o25_85 : gdst (gO c25_85) j = (o25_85.1[j]?).bind Oper.dst := gd_eq o25_85.2 j
theorem r_n25_86 : n25_86 s = some (.norm, s) := run_skip _ s
theorem r_n25_84 : n25_84 s = condK (opv s.t (.tmp 115)) n25_85 n25_86 s := q_cond _ c25_85 c25_86 s (.tmp 115)
theorem r_n25_82 : n25_82 s = contK n25_84 (n25_83 s) := q_seq _ c25_83 c25_84 s
theorem r_n25_88 : n25_88 s = behK 14 (stepsO X (annT 25) C (gO c25_88) o25_88.1 s) := q_region (annT 25) s 29 _ true rfl _ _ rfl rfl o25_88.2
theorem g_o25_88 : gdst (gO c25_88) j = (o25_88.1[j]?).bind Oper.dst := gd_eq o25_88.2 j
theorem r_n25_90 : n25_90 s = behK 10889035741470030830827987437816582766604 (stepsO X (annT 25) C (gO c25_90) o25_90.1 s) := q_region (annT 25) s 30 _ false rfl _ _ rfl rfl o25_90.2
theorem g_o25_90 : gdst (gO c25_90) j = (o25_90.1[j]?).bind Oper.dst := gd_eq o25_90.2 j
theorem r_n25_92 : n25_92 s = behK 12 (stepsO X (annT 25) C (gO c25_92) o25_92.1 s) := q_region (annT 25) s 31 _ true rfl _ _ rfl rfl o25_92.2
theorem g_o25_92 : gdst (gO c25_92) j = (o25_92.1[j]?).bind Oper.dst := gd_eq o25_92.2 j
theorem r_n25_93 : n25_93 s = some (.norm, s) := run_skip _ s
theorem r_n25_91 : n25_91 s = condK (opv s.t (.tmp 133)) n25_92 n25_93 s := q_cond _ c25_92 c25_93 s (.tmp 133)
theorem r_n25_89 : n25_89 s = contK n25_91 (n25_90 s) := q_seq _ c25_90 c25_91 s
theorem r_n25_87 : n25_87 s = contK n25_89 (n25_88 s) := q_seq _ c25_88 c25_89 s
theorem r_n25_81 : n25_81 s = contK n25_87 (n25_82 s) := q_seq _ c25_82 c25_87 s
theorem r_n25_75 : n25_75 s = contK n25_81 (n25_76 s) := q_seq _ c25_76 c25_81 s
theorem r_n25_94 : n25_94 s = behK 12 (stepsO X (annT 25) C (gO c25_94) o25_94.1 s) := q_region (annT 25) s 3 _ true rfl _ _ rfl rfl o25_94.2
theorem g_o25_94 : gdst (gO c25_94) j = (o25_94.1[j]?).bind Oper.dst := gd_eq o25_94.2 j
theorem r_n25_74 : n25_74 s = condK (opv s.t (.tmp 100)) n25_75 n25_94 s := q_cond _ c25_75 c25_94 s (.tmp 100)
theorem r_n25_72 : n25_72 s = contK n25_74 (n25_73 s) := q_seq _ c25_73 c25_74 s
theorem r_n25_41 : n25_41 s = condK (opv s.t (.tmp 47)) n25_42 n25_72 s := q_cond _ c25_42 c25_72 s (.tmp 47)
theorem r_n25_39 : n25_39 s = contK n25_41 (n25_40 s) := q_seq _ c25_40 c25_41 s
theorem r_n25_35 : n25_35 s = condK (opv s.t (.tmp 42)) n25_36 n25_39 s := q_cond _ c25_36 c25_39 s (.tmp 42)
theorem r_n25_33 : n25_33 s = contK n25_35 (n25_34 s) := q_seq _ c25_34 c25_35 s
theorem r_n25_18 : n25_18 s = condK (opv s.t (.tmp 20)) n25_19 n25_33 s := q_cond _ c25_19 c25_33 s (.tmp 20)
theorem r_n25_8 : n25_8 s = contK n25_18 (n25_9 s) := q_seq _ c25_9 c25_18 s
theorem r_n25_7 : n25_7 s = blkK 0 (n25_8 s) := q_block _ c25_8 s 0
theorem r_n25_5 : n25_5 s = contK n25_7 (n25_6 s) := q_seq _ c25_6 c25_7 s
theorem r_n25_96 : n25_96 s = behK 4 (stepsO X (annT 25) C (gO c25_96) o25_96.1 s) := q_region (annT 25) s 32 _ false rfl _ _ rfl rfl o25_96.2
theorem g_o25_96 : gdst (gO c25_96) j = (o25_96.1[j]?).bind Oper.dst := gd_eq o25_96.2 j
theorem r_n25_97 : n25_97 s = some (.ret, s) := run_ret _ s
theorem r_n25_95 : n25_95 s = contK n25_97 (n25_96 s) := q_seq _ c25_96 c25_97 s
theorem r_n25_4 : n25_4 s = contK n25_95 (n25_5 s) := q_seq _ c25_5 c25_95 s
theorem r_n25_2 : n25_2 s = contK n25_4 (n25_3 s) := q_seq _ c25_3 c25_4 s
theorem r_n25_0 : n25_0 s = contK n25_2 (n25_1 s) := q_seq _ c25_1 c25_2 s
theorem va_25 : (annT 25).virt = [] := rfl
theorem wa_25 : (annT 25).wr = [] := rfl
theorem ya_25 : (annT 25).ty = [] := rfl
theorem cv_25 (call : Eng.Call) (wr : Bool) (args : List AV) (st : Store) : callV X call wr 25 args st = cvP call wr 25 args st (fzAll (fz false st 6) args) := cv_pure rfl rfl call wr args st
theorem p25 (ds : List D) : pureCall C 25 ds = ((n25_0 ⟨argsT 0 (ds.map .d), []⟩).bind (bodyR [.cell 2 32])).bind prOf := P_eq Try.f25 rfl rfl rfl rfl ds
theorem q25 (vs : List AV) (st : Store) : C 25 vs st = (n25_0 ⟨argsT 0 vs, st⟩).bind (bodyR [.cell 2 32]) := C_eq Try.f25 rfl rfl rfl rfl vs st
attribute [go_sem] r_n25_1 g_o25_1 o25_1 r_n25_3 g_o25_3 o25_3 r_n25_6 g_o25_6 o25_6 r_n25_10 g_o25_10 o25_10 r_n25_12 r_n25_14 g_o25_14 o25_14 r_n25_16 r_n25_17 g_o25_17 o25_17 r_n25_15 r_n25_13 r_n25_11 r_n25_9 r_n25_20 g_o25_20 o25_20 r_n25_25 g_o25_25 o25_25 r_n25_27 r_n25_28 r_n25_26 r_n25_24 r_n25_31 g_o25_31 o25_31 r_n25_30 r_n25_32 g_o25_32 o25_32 r_n25_29 r_n25_23 r_n25_21 r_n25_19 r_n25_34 g_o25_34 o25_34 r_n25_37 g_o25_37 o25_37 r_n25_38 r_n25_36 r_n25_40 g_o25_40 o25_40 r_n25_43 g_o25_43 o25_43 r_n25_46 g_o25_46 o25_46 r_n25_48 g_o25_48 o25_48 r_n25_49 r_n25_47 r_n25_45 r_n25_52 g_o25_52 o25_52 r_n25_57 g_o25_57 o25_57 r_n25_59 r_n25_60 r_n25_58 r_n25_56 r_n25_63 g_o25_63 o25_63 r_n25_62 r_n25_64 g_o25_64 o25_64 r_n25_61 r_n25_55 r_n25_53 r_n25_51 r_n25_67 g_o25_67 o25_67 r_n25_69 g_o25_69 o25_69 r_n25_70 r_n25_68 r_n25_66 r_n25_71 g_o25_71 o25_71 r_n25_65 r_n25_50 r_n25_44 r_n25_42 r_n25_73 g_o25_73 o25_73 r_n25_77 g_o25_77 o25_77 r_n25_79 g_o25_79 o25_79 r_n25_80 r_n25_78 r_n25_76 r_n25_83 g_o25_83 o25_83 r_n25_85 g_o25_85 o25_85 r_n25_86 r_n25_84 r_n25_82 r_n25_88 g_o25_88 o25_88 r_n25_90 g_o25_90 o25_90 r_n25_92 g_o25_92 o25_92 r_n25_93 r_n25_91 r_n25_89 r_n25_87 r_n25_81 r_n25_75 r_n25_94 g_o25_94 o25_94 r_n25_74 r_n25_72 r_n25_41 r_n25_39 r_n25_35 r_n25_33 r_n25_18 r_n25_8 r_n25_7 r_n25_5 r_n25_96 g_o25_96 o25_96 r_n25_97 r_n25_95 r_n25_4 r_n25_2 r_n25_0 va_25 wa_25 ya_25 cv_25
noncomputable def c26_0 : Code := Try.f26.body.getD .skip
noncomputable def A26 := run (annT 26)
def n26_0 := A26 c26_0
def c26_1 := gL c26_0
def n26_1 := A26 c26_1
def o26_1 : OL c26_1 := ⟨_, by conv => (lhs; whnf)⟩
def c26_2 := gR c26_0
def n26_2 := A26 c26_2
def c26_3 := gL c26_2
def n26_3 := A26 c26_3
def c26_4 := gL c26_3
def n26_4 := A26 c26_4
def o26_4 : OL c26_4 := ⟨_, by conv => (lhs; whnf)⟩
def c26_5 := gR c26_3
def n26_5 := A26 c26_5
def c26_6 := gT c26_5
def n26_6 := A26 c26_6
def c26_7 := gL c26_6
def n26_7 := A26 c26_7
def o26_7 : OL c26_7 := ⟨_, by conv => (lhs; whnf)⟩
def c26_8 := gR c26_6
def n26_8 := A26 c26_8
def c26_9 := gF c26_5
def n26_9 := A26 c26_9
def c26_10 := gR c26_2
def n26_10 := A26 c26_10
def c26_11 := gL c26_10
def n26_11 := A26 c26_11
def c26_12 := gL c26_11
def n26_12 := A26 c26_12
def o26_12 : OL c26_12 := ⟨_, by conv => (lhs; whnf)⟩
def c26_13 := gR c26_11
def n26_13 := A26 c26_13
def c26_14 := gB c26_13
def n26_14 := A26 c26_14
def c26_15 := gB c26_14
def n26_15 := A26 c26_15
def c26_16 := gL c26_15
def n26_16 := A26 c26_16
def c26_17 := gL c26_16
def n26_17 := A26 c26_17
def o26_17 : OL c26_17 := ⟨_, by conv => (lhs; whnf)⟩
def c26_18 := gR c26_16
def n26_18 := A26 c26_18
def c26_19 := gT c26_18
def n26_19 := A26 c26_19
def c26_20 := gF c26_18
def n26_20 := A26 c26_20
def c26_21 := gR c26_15
def n26_21 := A26 c26_21
def c26_22 := gL c26_21
def n26_22 := A26 c26_22
def c26_23 := gB c26_22
def n26_23 := A26 c26_23
def c26_24 := gL c26_23
def n26_24 := A26 c26_24
def o26_24 : OL c26_24 := ⟨_, by conv => (lhs; whnf)⟩
def c26_25 := gR c26_23
def n26_25 := A26 c26_25
def c26_26 := gT c26_25
def n26_26 := A26 c26_26
def c26_27 := gL c26_26
def n26_27 := A26 c26_27
def o26_27 : OL c26_27 := ⟨_, by conv => (lhs; whnf)⟩
def c26_28 := gR c26_26
def n26_28 := A26 c26_28
def c26_29 := gF c26_25
def n26_29 := A26 c26_29
def c26_30 := gR c26_21
def n26_30 := A26 c26_30
def o26_30 : OL c26_30 := ⟨_, by conv => (lhs; whnf)⟩
def c26_31 := gR c26_10
def n26_31 := A26 c26_31
def c26_32 := gL c26_31
def n26_32 := A26 c26_32
def o26_32 : OL c26_32 := ⟨_, by conv => (lhs; whnf)⟩
def c26_33 := gR c26_31
def n26_33 := A26 c26_33
theorem r_n26_1 : n26_1 s = behK 3 (stepsO X (annT 26) C (gO c26_1) o26_1.1 s) := q_region (annT 26) s 0 _ false rfl _ _ rfl rfl o26_1.2
theorem g_o26_1 : gdst (gO c26_1) j = (o26_1.1[j]?).bind Oper.dst := gd_eq o26_1.2 j
theorem r_n26_4 : n26_4 s = behK 1027 (stepsO X (annT 26) C (gO c26_4) o26_4.1 s) := q_region (annT 26) s 1 _ false rfl _ _ rfl rfl o26_4.2
theorem g_o26_4 : gdst (gO c26_4) j = (o26_4.1[j]?).bind Oper.dst := gd_eq o26_4.2 j
theorem r_n26_7 : n26_7 s = behK 16 (stepsO X (annT 26) C (gO c26_7) o26_7.1 s) := q_region (annT 26) s 2 _ false rfl _ _ rfl rfl o26_7.2
theorem g_o26_7 : gdst (gO c26_7) j = (o26_7.1[j]?).bind Oper.dst := gd_eq o26_7.2 j
theorem r_n26_8 : n26_8 s = some (.ret, s) := run_ret _ s
theorem r_n26_6 : n26_6 s = contK n26_8 (n26_7 s) := q_seq _ c26_7 c26_8 s
theorem r_n26_9 : n26_9 s = some (.norm, s) := run_skip _ s
theorem r_n26_5 : n26_5 s = condK (opv s.t (.tmp 10)) n26_6 n26_9 s := q_cond _ c26_6 c26_9 s (.tmp 10)
theorem r_n26_3 : n26_3 s = contK n26_5 (n26_4 s) := q_seq _ c26_4 c26_5 s
theorem r_n26_12 : n26_12 s = behK 35 (stepsO X (annT 26) C (gO c26_12) o26_12.1 s) := q_region (annT 26) s 3 _ false rfl _ _ rfl rfl o26_12.2
theorem g_o26_12 : gdst (gO c26_12) j = (o26_12.1[j]?).bind Oper.dst := gd_eq o26_12.2 j
theorem r_n26_17 : n26_17 s = behK 16419 (stepsO X (annT 26) C (gO c26_17) o26_17.1 s) := q_region (annT 26) s 4 _ false rfl _ _ rfl rfl o26_17.2
theorem g_o26_17 : gdst (gO c26_17) j = (o26_17.1[j]?).bind Oper.dst := gd_eq o26_17.2 j
theorem r_n26_19 : n26_19 s = some (.norm, s) := run_skip _ s
theorem r_n26_20 : n26_20 s = some (.exit 0, s) := run_exit _ s 0
theorem r_n26_18 : n26_18 s = condK (opv s.t (.tmp 14)) n26_19 n26_20 s := q_cond _ c26_19 c26_20 s (.tmp 14)
theorem r_n26_16 : n26_16 s = contK n26_18 (n26_17 s) := q_seq _ c26_17 c26_18 s
theorem r_n26_24 : n26_24 s = behK 67108899 (stepsO X (annT 26) C (gO c26_24) o26_24.1 s) := q_region (annT 26) s 6 _ true rfl _ _ rfl rfl o26_24.2
theorem g_o26_24 : gdst (gO c26_24) j = (o26_24.1[j]?).bind Oper.dst := gd_eq o26_24.2 j
theorem r_n26_27 : n26_27 s = behK 16 (stepsO X (annT 26) C (gO c26_27) o26_27.1 s) := q_region (annT 26) s 7 _ false rfl _ _ rfl rfl o26_27.2
theorem g_o26_27 : gdst (gO c26_27) j = (o26_27.1[j]?).bind Oper.dst := gd_eq o26_27.2 j
theorem r_n26_28 : n26_28 s = some (.ret, s) := run_ret _ s
theorem r_n26_26 : n26_26 s = contK n26_28 (n26_27 s) := q_seq _ c26_27 c26_28 s
theorem r_n26_29 : n26_29 s = some (.norm, s) := run_skip _ s
theorem r_n26_25 : n26_25 s = condK (opv s.t (.tmp 26)) n26_26 n26_29 s := q_cond _ c26_26 c26_29 s (.tmp 26)
theorem r_n26_23 : n26_23 s = contK n26_25 (n26_24 s) := q_seq _ c26_24 c26_25 s
theorem r_n26_22 : n26_22 s = blkK 1 (n26_23 s) := q_block _ c26_23 s 1
theorem r_n26_30 : n26_30 s = behK 35 (stepsO X (annT 26) C (gO c26_30) o26_30.1 s) := q_region (annT 26) s 5 _ false rfl _ _ rfl rfl o26_30.2
theorem g_o26_30 : gdst (gO c26_30) j = (o26_30.1[j]?).bind Oper.dst := gd_eq o26_30.2 j
theorem r_n26_21 : n26_21 s = contK n26_30 (n26_22 s) := q_seq _ c26_22 c26_30 s
theorem r_n26_15 : n26_15 s = contK n26_21 (n26_16 s) := q_seq _ c26_16 c26_21 s
theorem r_n26_14 : n26_14 s = loopK 35 s.st.length n26_14 (n26_15 s) := q_loop (annT 26) c26_15 s _ _ rfl rfl
theorem r_n26_13 : n26_13 s = blkK 0 (n26_14 s) := q_block _ c26_14 s 0
theorem r_n26_11 : n26_11 s = contK n26_13 (n26_12 s) := q_seq _ c26_12 c26_13 s
theorem r_n26_32 : n26_32 s = behK 16 (stepsO X (annT 26) C (gO c26_32) o26_32.1 s) := q_region (annT 26) s 8 _ false rfl _ _ rfl rfl o26_32.2
theorem g_o26_32 : gdst (gO c26_32) j = (o26_32.1[j]?).bind Oper.dst := gd_eq o26_32.2 j
theorem r_n26_33 : n26_33 s = some (.ret, s) := run_ret _ s
theorem r_n26_31 : n26_31 s = contK n26_33 (n26_32 s) := q_seq _ c26_32 c26_33 s
theorem r_n26_10 : n26_10 s = contK n26_31 (n26_11 s) := q_seq _ c26_11 c26_31 s
theorem r_n26_2 : n26_2 s = contK n26_10 (n26_3 s) := q_seq _ c26_3 c26_10 s
theorem r_n26_0 : n26_0 s = contK n26_2 (n26_1 s) := q_seq _ c26_1 c26_2 s
theorem va_26 : (annT 26).virt = [] := rfl
theorem wa_26 : (annT 26).wr = [] := rfl
theorem ya_26 : (annT 26).ty = [] := rfl
theorem cv_26 (call : Eng.Call) (wr : Bool) (args : List AV) (st : Store) : callV X call wr 26 args st = cvP call wr 26 args st (fzAll (fz false st 6) args) := cv_pure rfl rfl call wr args st
theorem p26 (ds : List D) : pureCall C 26 ds = ((n26_0 ⟨argsT 0 (ds.map .d), []⟩).bind (bodyR [.tmp 4])).bind prOf := P_eq Try.f26 rfl rfl rfl rfl ds
theorem q26 (vs : List AV) (st : Store) : C 26 vs st = (n26_0 ⟨argsT 0 vs, st⟩).bind (bodyR [.tmp 4]) := C_eq Try.f26 rfl rfl rfl rfl vs st
attribute [go_sem] r_n26_1 g_o26_1 o26_1 r_n26_4 g_o26_4 o26_4 r_n26_7 g_o26_7 o26_7 r_n26_8 r_n26_6 r_n26_9 r_n26_5 r_n26_3 r_n26_12 g_o26_12 o26_12 r_n26_17 g_o26_17 o26_17 r_n26_19 r_n26_20 r_n26_18 r_n26_16 r_n26_24 g_o26_24 o26_24 r_n26_27 g_o26_27 o26_27 r_n26_28 r_n26_26 r_n26_29 r_n26_25 r_n26_23 r_n26_22 r_n26_30 g_o26_30 o26_30 r_n26_21 r_n26_15 r_n26_13 r_n26_11 r_n26_32 g_o26_32 o26_32 r_n26_33 r_n26_31 r_n26_10 r_n26_2 r_n26_0 va_26 wa_26 ya_26 cv_26
noncomputable def c11_0 : Code := Try.f11.body.getD .skip
noncomputable def A11 := run (annT 11)
def n11_0 := A11 c11_0
def c11_1 := gL c11_0
def n11_1 := A11 c11_1
def o11_1 : OL c11_1 := ⟨_, by conv => (lhs; whnf)⟩
def c11_2 := gR c11_0
def n11_2 := A11 c11_2
def c11_3 := gL c11_2
def n11_3 := A11 c11_3
def o11_3 : OL c11_3 := ⟨_, by conv => (lhs; whnf)⟩
def c11_4 := gR c11_2
def n11_4 := A11 c11_4
theorem r_n11_1 : n11_1 s = behK 12 (stepsO X (annT 11) C (gO c11_1) o11_1.1 s) := q_region (annT 11) s 0 _ false rfl _ _ rfl rfl o11_1.2
theorem g_o11_1 : gdst (gO c11_1) j = (o11_1.1[j]?).bind Oper.dst := gd_eq o11_1.2 j
theorem r_n11_3 : n11_3 s = behK 16 (stepsO X (annT 11) C (gO c11_3) o11_3.1 s) := q_region (annT 11) s 1 _ false rfl _ _ rfl rfl o11_3.2
theorem g_o11_3 : gdst (gO c11_3) j = (o11_3.1[j]?).bind Oper.dst := gd_eq o11_3.2 j
theorem r_n11_4 : n11_4 s = some (.ret, s) := run_ret _ s
theorem r_n11_2 : n11_2 s = contK n11_4 (n11_3 s) := q_seq _ c11_3 c11_4 s
theorem r_n11_0 : n11_0 s = contK n11_2 (n11_1 s) := q_seq _ c11_1 c11_2 s
theorem va_11 : (annT 11).virt = [] := rfl
theorem wa_11 : (annT 11).wr = [] := rfl
theorem ya_11 : (annT 11).ty = [] := rfl
theorem cv_11 (call : Eng.Call) (wr : Bool) (args : List AV) (st : Store) : callV X call wr 11 args st = cvP call wr 11 args st (fzAll (fz false st 6) args) := cv_pure rfl rfl call wr args st
theorem p11 (ds : List D) : pureCall C 11 ds = ((n11_0 ⟨argsT 0 (ds.map .d), []⟩).bind (bodyR [.tmp 4])).bind prOf := P_eq Try.f11 rfl rfl rfl rfl ds
theorem q11 (vs : List AV) (st : Store) : C 11 vs st = (n11_0 ⟨argsT 0 vs, st⟩).bind (bodyR [.tmp 4]) := C_eq Try.f11 rfl rfl rfl rfl vs st
attribute [go_sem] r_n11_1 g_o11_1 o11_1 r_n11_3 g_o11_3 o11_3 r_n11_4 r_n11_2 r_n11_0 va_11 wa_11 ya_11 cv_11
noncomputable def c30_0 : Code := Try.f30.body.getD .skip
noncomputable def A30 := run (annT 30)
def n30_0 := A30 c30_0
def c30_1 := gL c30_0
def n30_1 := A30 c30_1
def o30_1 : OL c30_1 := ⟨_, by conv => (lhs; whnf)⟩
def c30_2 := gR c30_0
def n30_2 := A30 c30_2
def c30_3 := gL c30_2
def n30_3 := A30 c30_3
def o30_3 : OL c30_3 := ⟨_, by conv => (lhs; whnf)⟩
def c30_4 := gR c30_2
def n30_4 := A30 c30_4
def c30_5 := gL c30_4
def n30_5 := A30 c30_5
def o30_5 : OL c30_5 := ⟨_, by conv => (lhs; whnf)⟩
def c30_6 := gR c30_4
def n30_6 := A30 c30_6
def c30_7 := gL c30_6
def n30_7 := A30 c30_7
def c30_8 := gL c30_7
def n30_8 := A30 c30_8
def o30_8 : OL c30_8 := ⟨_, by conv => (lhs; whnf)⟩
def c30_9 := gR c30_7
def n30_9 := A30 c30_9
def c30_10 := gB c30_9
def n30_10 := A30 c30_10
def c30_11 := gL c30_10
def n30_11 := A30 c30_11
def c30_12 := gL c30_11
def n30_12 := A30 c30_12
def o30_12 : OL c30_12 := ⟨_, by conv => (lhs; whnf)⟩
def c30_13 := gR c30_11
def n30_13 := A30 c30_13
def c30_14 := gT c30_13
def n30_14 := A30 c30_14
def c30_15 := gF c30_13
def n30_15 := A30 c30_15
def c30_16 := gL c30_15
def n30_16 := A30 c30_16
def o30_16 : OL c30_16 := ⟨_, by conv => (lhs; whnf)⟩
def c30_17 := gR c30_15
def n30_17 := A30 c30_17
def c30_18 := gT c30_17
def n30_18 := A30 c30_18
def c30_19 := gF c30_17
def n30_19 := A30 c30_19
def o30_19 : OL c30_19 := ⟨_, by conv => (lhs; whnf)⟩
def c30_20 := gR c30_10
def n30_20 := A30 c30_20
def c30_21 := gT c30_20
def n30_21 := A30 c30_21
def c30_22 := gL c30_21
def n30_22 := A30 c30_22
def o30_22 : OL c30_22 := ⟨_, by conv => (lhs; whnf)⟩
def c30_23 := gR c30_21
def n30_23 := A30 c30_23
def c30_24 := gB c30_23
def n30_24 := A30 c30_24
def c30_25 := gB c30_24
def n30_25 := A30 c30_25
def c30_26 := gL c30_25
def n30_26 := A30 c30_26
def c30_27 := gL c30_26
def n30_27 := A30 c30_27
def o30_27 : OL c30_27 := ⟨_, by conv => (lhs; whnf)⟩
def c30_28 := gR c30_26
def n30_28 := A30 c30_28
def c30_29 := gT c30_28
def n30_29 := A30 c30_29
def c30_30 := gF c30_28
def n30_30 := A30 c30_30
def c30_31 := gR c30_25
def n30_31 := A30 c30_31
def c30_32 := gL c30_31
def n30_32 := A30 c30_32
def c30_33 := gB c30_32
def n30_33 := A30 c30_33
def o30_33 : OL c30_33 := ⟨_, by conv => (lhs; whnf)⟩
def c30_34 := gR c30_31
def n30_34 := A30 c30_34
def o30_34 : OL c30_34 := ⟨_, by conv => (lhs; whnf)⟩
def c30_35 := gF c30_20
def n30_35 := A30 c30_35
def c30_36 := gL c30_35
def n30_36 := A30 c30_36
def o30_36 : OL c30_36 := ⟨_, by conv => (lhs; whnf)⟩
def c30_37 := gR c30_35
def n30_37 := A30 c30_37
def c30_38 := gT c30_37
def n30_38 := A30 c30_38
def o30_38 : OL c30_38 := ⟨_, by conv => (lhs; whnf)⟩
def c30_39 := gF c30_37
def n30_39 := A30 c30_39
def c30_40 := gL c30_39
def n30_40 := A30 c30_40
def o30_40 : OL c30_40 := ⟨_, by conv => (lhs; whnf)⟩
def c30_41 := gR c30_39
def n30_41 := A30 c30_41
def c30_42 := gT c30_41
def n30_42 := A30 c30_42
def c30_43 := gL c30_42
def n30_43 := A30 c30_43
def o30_43 : OL c30_43 := ⟨_, by conv => (lhs; whnf)⟩
def c30_44 := gR c30_42
def n30_44 := A30 c30_44
def c30_45 := gT c30_44
def n30_45 := A30 c30_45
def c30_46 := gL c30_45
def n30_46 := A30 c30_46
def o30_46 : OL c30_46 := ⟨_, by conv => (lhs; whnf)⟩
def c30_47 := gR c30_45
def n30_47 := A30 c30_47
def o30_47 : OL c30_47 := ⟨_, by conv => (lhs; whnf)⟩
def c30_48 := gF c30_44
def n30_48 := A30 c30_48
def c30_49 := gF c30_41
def n30_49 := A30 c30_49
def c30_50 := gL c30_49
def n30_50 := A30 c30_50
def o30_50 : OL c30_50 := ⟨_, by conv => (lhs; whnf)⟩
def c30_51 := gR c30_49
def n30_51 := A30 c30_51
def c30_52 := gT c30_51
def n30_52 := A30 c30_52
def c30_53 := gL c30_52
def n30_53 := A30 c30_53
def o30_53 : OL c30_53 := ⟨_, by conv => (lhs; whnf)⟩
def c30_54 := gR c30_52
def n30_54 := A30 c30_54
def c30_55 := gB c30_54
def n30_55 := A30 c30_55
def c30_56 := gB c30_55
def n30_56 := A30 c30_56
def c30_57 := gL c30_56
def n30_57 := A30 c30_57
def c30_58 := gL c30_57
def n30_58 := A30 c30_58
def o30_58 : OL c30_58 := ⟨_, by conv => (lhs; whnf)⟩
def c30_59 := gR c30_57
def n30_59 := A30 c30_59
def c30_60 := gT c30_59
def n30_60 := A30 c30_60
def c30_61 := gF c30_59
def n30_61 := A30 c30_61
def c30_62 := gR c30_56
def n30_62 := A30 c30_62
def c30_63 := gL c30_62
def n30_63 := A30 c30_63
def c30_64 := gB c30_63
def n30_64 := A30 c30_64
def c30_65 := gL c30_64
def n30_65 := A30 c30_65
def o30_65 : OL c30_65 := ⟨_, by conv => (lhs; whnf)⟩
def c30_66 := gR c30_64
def n30_66 := A30 c30_66
def c30_67 := gL c30_66
def n30_67 := A30 c30_67
def o30_67 : OL c30_67 := ⟨_, by conv => (lhs; whnf)⟩
def c30_68 := gR c30_66
def n30_68 := A30 c30_68
def c30_69 := gB c30_68
def n30_69 := A30 c30_69
def c30_70 := gL c30_69
def n30_70 := A30 c30_70
def o30_70 : OL c30_70 := ⟨_, by conv => (lhs; whnf)⟩
def c30_71 := gR c30_69
def n30_71 := A30 c30_71
def c30_72 := gT c30_71
def n30_72 := A30 c30_72
def o30_72 : OL c30_72 := ⟨_, by conv => (lhs; whnf)⟩
def c30_73 := gF c30_71
def n30_73 := A30 c30_73
def c30_74 := gL c30_73
def n30_74 := A30 c30_74
def o30_74 : OL c30_74 := ⟨_, by conv => (lhs; whnf)⟩
def c30_75 := gR c30_73
def n30_75 := A30 c30_75
def c30_76 := gT c30_75
def n30_76 := A30 c30_76
def o30_76 : OL c30_76 := ⟨_, by conv => (lhs; whnf)⟩
def c30_77 := gF c30_75
def n30_77 := A30 c30_77
def c30_78 := gL c30_77
def n30_78 := A30 c30_78
def o30_78 : OL c30_78 := ⟨_, by conv => (lhs; whnf)⟩
def c30_79 := gR c30_77
def n30_79 := A30 c30_79
def c30_80 := gT c30_79
def n30_80 := A30 c30_80
def o30_80 : OL c30_80 := ⟨_, by conv => (lhs; whnf)⟩
def c30_81 := gF c30_79
def n30_81 := A30 c30_81
def c30_82 := gL c30_81
def n30_82 := A30 c30_82
def o30_82 : OL c30_82 := ⟨_, by conv => (lhs; whnf)⟩
def c30_83 := gR c30_81
def n30_83 := A30 c30_83
def c30_84 := gT c30_83
def n30_84 := A30 c30_84
def o30_84 : OL c30_84 := ⟨_, by conv => (lhs; whnf)⟩
def c30_85 := gF c30_83
def n30_85 := A30 c30_85
def c30_86 := gR c30_62
def n30_86 := A30 c30_86
def o30_86 : OL c30_86 := ⟨_, by conv => (lhs; whnf)⟩
def c30_87 := gF c30_51
def n30_87 := A30 c30_87
def c30_88 := gL c30_87
def n30_88 := A30 c30_88
def o30_88 : OL c30_88 := ⟨_, by conv => (lhs; whnf)⟩
def c30_89 := gR c30_87
def n30_89 := A30 c30_89
def c30_90 := gT c30_89
def n30_90 := A30 c30_90
def c30_91 := gL c30_90
def n30_91 := A30 c30_91
def o30_91 : OL c30_91 := ⟨_, by conv => (lhs; whnf)⟩
def c30_92 := gR c30_90
def n30_92 := A30 c30_92
def o30_92 : OL c30_92 := ⟨_, by conv => (lhs; whnf)⟩
def c30_93 := gF c30_89
def n30_93 := A30 c30_93
def c30_94 := gR c30_6
def n30_94 := A30 c30_94
def c30_95 := gL c30_94
def n30_95 := A30 c30_95
def o30_95 : OL c30_95 := ⟨_, by conv => (lhs; whnf)⟩
def c30_96 := gR c30_94
def n30_96 := A30 c30_96
theorem r_n30_1 : n30_1 s = behK 22 (stepsO X (annT 30) C (gO c30_1) o30_1.1 s) := q_region (annT 30) s 0 _ false rfl _ _ rfl rfl o30_1.2
theorem g_o30_1 : gdst (gO c30_1) j = (o30_1.1[j]?).bind Oper.dst := gd_eq o30_1.2 j
theorem r_n30_3 : n30_3 s = behK 54 (stepsO X (annT 30) C (gO c30_3) o30_3.1 s) := q_region (annT 30) s 1 _ false rfl _ _ rfl rfl o30_3.2
theorem g_o30_3 : gdst (gO c30_3) j = (o30_3.1[j]?).bind Oper.dst := gd_eq o30_3.2 j
theorem r_n30_5 : n30_5 s = behK 118 (stepsO X (annT 30) C (gO c30_5) o30_5.1 s) := q_region (annT 30) s 2 _ false rfl _ _ rfl rfl o30_5.2
theorem g_o30_5 : gdst (gO c30_5) j = (o30_5.1[j]?).bind Oper.dst := gd_eq o30_5.2 j
theorem r_n30_8 : n30_8 s = behK 131190 (stepsO X (annT 30) C (gO c30_8) o30_8.1 s) := q_region (annT 30) s 3 _ false rfl _ _ rfl rfl o30_8.2
theorem g_o30_8 : gdst (gO c30_8) j = (o30_8.1[j]?).bind Oper.dst := gd_eq o30_8.2 j
theorem r_n30_12 : n30_12 s = behK 8590065782 (stepsO X (annT 30) C (gO c30_12) o30_12.1 s) := q_region (annT 30) s 7 _ false rfl _ _ rfl rfl o30_12.2
theorem g_o30_12 : gdst (gO c30_12) j = (o30_12.1[j]?).bind Oper.dst := gd_eq o30_12.2 j
theorem r_n30_14 : n30_14 s = some (.norm, s) := run_skip _ s
theorem r_n30_16 : n30_16 s = behK 8590065782 (stepsO X (annT 30) C (gO c30_16) o30_16.1 s) := q_region (annT 30) s 8 _ false rfl _ _ rfl rfl o30_16.2
theorem g_o30_16 : gdst (gO c30_16) j = (o30_16.1[j]?).bind Oper.dst := gd_eq o30_16.2 j
theorem r_n30_18 : n30_18 s = some (.norm, s) := run_skip _ s
theorem r_n30_19 : n30_19 s = behK 8590065782 (stepsO X (annT 30) C (gO c30_19) o30_19.1 s) := q_region (annT 30) s 9 _ false rfl _ _ rfl rfl o30_19.2
theorem g_o30_19 : gdst (gO c30_19) j = (o30_19.1[j]?).bind Oper.dst := gd_eq o30_19.2 j
theorem r_n30_17 : n30_17 s = condK (opv s.t (.tmp 33)) n30_18 n30_19 s := q_cond _ c30_18 c30_19 s (.tmp 33)
theorem r_n30_15 : n30_15 s = contK n30_17 (n30_16 s) := q_seq _ c30_16 c30_17 s
theorem r_n30_13 : n30_13 s = condK (opv s.t (.tmp 33)) n30_14 n30_15 s := q_cond _ c30_14 c30_15 s (.tmp 33)
theorem r_n30_11 : n30_11 s = contK n30_13 (n30_12 s) := q_seq _ c30_12 c30_13 s
theorem r_n30_22 : n30_22 s = behK 246 (stepsO X (annT 30) C (gO c30_22) o30_22.1 s) := q_region (annT 30) s 10 _ false rfl _ _ rfl rfl o30_22.2
theorem g_o30_22 : gdst (gO c30_22) j = (o30_22.1[j]?).bind Oper.dst := gd_eq o30_22.2 j
theorem r_n30_27 : n30_27 s = behK 8796093022454 (stepsO X (annT 30) C (gO c30_27) o30_27.1 s) := q_region (annT 30) s 11 _ false rfl _ _ rfl rfl o30_27.2
theorem g_o30_27 : gdst (gO c30_27) j = (o30_27.1[j]?).bind Oper.dst := gd_eq o30_27.2 j
theorem r_n30_29 : n30_29 s = some (.norm, s) := run_skip _ s
theorem r_n30_30 : n30_30 s = some (.exit 1, s) := run_exit _ s 1
theorem r_n30_28 : n30_28 s = condK (opv s.t (.tmp 43)) n30_29 n30_30 s := q_cond _ c30_29 c30_30 s (.tmp 43)
theorem r_n30_26 : n30_26 s = contK n30_28 (n30_27 s) := q_seq _ c30_27 c30_28 s
theorem r_n30_33 : n30_33 s = behK 246 (stepsO X (annT 30) C (gO c30_33) o30_33.1 s) := q_region (annT 30) s 13 _ true rfl _ _ rfl rfl o30_33.2
theorem g_o30_33 : gdst (gO c30_33) j = (o30_33.1[j]?).bind Oper.dst := gd_eq o30_33.2 j
theorem r_n30_32 : n30_32 s = blkK 2 (n30_33 s) := q_block _ c30_33 s 2
theorem r_n30_34 : n30_34 s = behK 246 (stepsO X (annT 30) C (gO c30_34) o30_34.1 s) := q_region (annT 30) s 12 _ false rfl _ _ rfl rfl o30_34.2
theorem g_o30_34 : gdst (gO c30_34) j = (o30_34.1[j]?).bind Oper.dst := gd_eq o30_34.2 j
theorem r_n30_31 : n30_31 s = contK n30_34 (n30_32 s) := q_seq _ c30_32 c30_34 s
theorem r_n30_25 : n30_25 s = contK n30_31 (n30_26 s) := q_seq _ c30_26 c30_31 s
theorem r_n30_24 : n30_24 s = loopK 246 s.st.length n30_24 (n30_25 s) := q_loop (annT 30) c30_25 s _ _ rfl rfl
theorem r_n30_23 : n30_23 s = blkK 1 (n30_24 s) := q_block _ c30_24 s 1
theorem r_n30_21 : n30_21 s = contK n30_23 (n30_22 s) := q_seq _ c30_22 c30_23 s
theorem r_n30_36 : n30_36 s = behK 576460752303554676 (stepsO X (annT 30) C (gO c30_36) o30_36.1 s) := q_region (annT 30) s 14 _ false rfl _ _ rfl rfl o30_36.2
theorem g_o30_36 : gdst (gO c30_36) j = (o30_36.1[j]?).bind Oper.dst := gd_eq o30_36.2 j
theorem r_n30_38 : n30_38 s = behK 48 (stepsO X (annT 30) C (gO c30_38) o30_38.1 s) := q_region (annT 30) s 15 _ false rfl _ _ rfl rfl o30_38.2
theorem g_o30_38 : gdst (gO c30_38) j = (o30_38.1[j]?).bind Oper.dst := gd_eq o30_38.2 j
theorem r_n30_40 : n30_40 s = behK 36893488147419234420 (stepsO X (annT 30) C (gO c30_40) o30_40.1 s) := q_region (annT 30) s 16 _ false rfl _ _ rfl rfl o30_40.2
theorem g_o30_40 : gdst (gO c30_40) j = (o30_40.1[j]?).bind Oper.dst := gd_eq o30_40.2 j
theorem r_n30_43 : n30_43 s = behK 295147905179352825908 (stepsO X (annT 30) C (gO c30_43) o30_43.1 s) := q_region (annT 30) s 17 _ false rfl _ _ rfl rfl o30_43.2
theorem g_o30_43 : gdst (gO c30_43) j = (o30_43.1[j]?).bind Oper.dst := gd_eq o30_43.2 j
theorem r_n30_46 : n30_46 s = behK 52 (stepsO X (annT 30) C (gO c30_46) o30_46.1 s) := q_region (annT 30) s 18 _ false rfl _ _ rfl rfl o30_46.2
theorem g_o30_46 : gdst (gO c30_46) j = (o30_46.1[j]?).bind Oper.dst := gd_eq o30_46.2 j
theorem r_n30_47 : n30_47 s = behK 48 (stepsO X (annT 30) C (gO c30_47) o30_47.1 s) := q_region (annT 30) s 19 _ false rfl _ _ rfl rfl o30_47.2
theorem g_o30_47 : gdst (gO c30_47) j = (o30_47.1[j]?).bind Oper.dst := gd_eq o30_47.2 j
theorem r_n30_45 : n30_45 s = contK n30_47 (n30_46 s) := q_seq _ c30_46 c30_47 s
theorem r_n30_48 : n30_48 s = some (.norm, s) := run_skip _ s
theorem r_n30_44 : n30_44 s = condK (opv s.t (.tmp 68)) n30_45 n30_48 s := q_cond _ c30_45 c30_48 s (.tmp 68)
theorem r_n30_42 : n30_42 s = contK n30_44 (n30_43 s) := q_seq _ c30_43 c30_44 s
theorem r_n30_50 : n30_50 s = behK 9671406556917033397649524 (stepsO X (annT 30) C (gO c30_50) o30_50.1 s) := q_region (annT 30) s 20 _ false rfl _ _ rfl rfl o30_50.2
theorem g_o30_50 : gdst (gO c30_50) j = (o30_50.1[j]?).bind Oper.dst := gd_eq o30_50.2 j
theorem r_n30_53 : n30_53 s = behK 372 (stepsO X (annT 30) C (gO c30_53) o30_53.1 s) := q_region (annT 30) s 21 _ false rfl _ _ rfl rfl o30_53.2
theorem g_o30_53 : gdst (gO c30_53) j = (o30_53.1[j]?).bind Oper.dst := gd_eq o30_53.2 j
theorem r_n30_58 : n30_58 s = behK 154742504910672534362390900 (stepsO X (annT 30) C (gO c30_58) o30_58.1 s) := q_region (annT 30) s 22 _ false rfl _ _ rfl rfl o30_58.2
theorem g_o30_58 : gdst (gO c30_58) j = (o30_58.1[j]?).bind Oper.dst := gd_eq o30_58.2 j
theorem r_n30_60 : n30_60 s = some (.norm, s) := run_skip _ s
theorem r_n30_61 : n30_61 s = some (.exit 3, s) := run_exit _ s 3
theorem r_n30_59 : n30_59 s = condK (opv s.t (.tmp 87)) n30_60 n30_61 s := q_cond _ c30_60 c30_61 s (.tmp 87)
theorem r_n30_57 : n30_57 s = contK n30_59 (n30_58 s) := q_seq _ c30_58 c30_59 s
theorem r_n30_65 : n30_65 s = behK 884 (stepsO X (annT 30) C (gO c30_65) o30_65.1 s) := q_region (annT 30) s 24 _ false rfl _ _ rfl rfl o30_65.2
theorem g_o30_65 : gdst (gO c30_65) j = (o30_65.1[j]?).bind Oper.dst := gd_eq o30_65.2 j
theorem r_n30_67 : n30_67 s = behK 79228162514264337593543951220 (stepsO X (annT 30) C (gO c30_67) o30_67.1 s) := q_region (annT 30) s 25 _ false rfl _ _ rfl rfl o30_67.2
theorem g_o30_67 : gdst (gO c30_67) j = (o30_67.1[j]?).bind Oper.dst := gd_eq o30_67.2 j
theorem r_n30_70 : n30_70 s = behK 237684487542793012780631851892 (stepsO X (annT 30) C (gO c30_70) o30_70.1 s) := q_region (annT 30) s 26 _ false rfl _ _ rfl rfl o30_70.2
theorem g_o30_70 : gdst (gO c30_70) j = (o30_70.1[j]?).bind Oper.dst := gd_eq o30_70.2 j
theorem r_n30_72 : n30_72 s = behK 372 (stepsO X (annT 30) C (gO c30_72) o30_72.1 s) := q_region (annT 30) s 27 _ false rfl _ _ rfl rfl o30_72.2
theorem g_o30_72 : gdst (gO c30_72) j = (o30_72.1[j]?).bind Oper.dst := gd_eq o30_72.2 j
theorem r_n30_74 : n30_74 s = behK 10220432964340099549567169594228 (stepsO X (annT 30) C (gO c30_74) o30_74.1 s) := q_region (annT 30) s 28 _ false rfl _ _ rfl rfl o30_74.2
theorem g_o30_74 : gdst (gO c30_74) j = (o30_74.1[j]?).bind Oper.dst := gd_eq o30_74.2 j
theorem r_n30_76 : n30_76 s = behK 372 (stepsO X (annT 30) C (gO c30_76) o30_76.1 s) := q_region (annT 30) s 29 _ false rfl _ _ rfl rfl o30_76.2
theorem g_o30_76 : gdst (gO c30_76) j = (o30_76.1[j]?).bind Oper.dst := gd_eq o30_76.2 j
theorem r_n30_78 : n30_78 s = behK 649116335479367717903905585103732 (stepsO X (annT 30) C (gO c30_78) o30_78.1 s) := q_region (annT 30) s 30 _ false rfl _ _ rfl rfl o30_78.2
theorem g_o30_78 : gdst (gO c30_78) j = (o30_78.1[j]?).bind Oper.dst := gd_eq o30_78.2 j
theorem r_n30_80 : n30_80 s = behK 372 (stepsO X (annT 30) C (gO c30_80) o30_80.1 s) := q_region (annT 30) s 31 _ false rfl _ _ rfl rfl o30_80.2
theorem g_o30_80 : gdst (gO c30_80) j = (o30_80.1[j]?).bind Oper.dst := gd_eq o30_80.2 j
theorem r_n30_82 : n30_82 s = behK 20769187434139310514121985316881268 (stepsO X (annT 30) C (gO c30_82) o30_82.1 s) := q_region (annT 30) s 32 _ false rfl _ _ rfl rfl o30_82.2
theorem g_o30_82 : gdst (gO c30_82) j = (o30_82.1[j]?).bind Oper.dst := gd_eq o30_82.2 j
theorem r_n30_84 : n30_84 s = behK 372 (stepsO X (annT 30) C (gO c30_84) o30_84.1 s) := q_region (annT 30) s 33 _ false rfl _ _ rfl rfl o30_84.2
theorem g_o30_84 : gdst (gO c30_84) j = (o30_84.1[j]?).bind Oper.dst := gd_eq o30_84.2 j
theorem r_n30_85 : n30_85 s = some (.norm, s) := run_skip _ s
theorem r_n30_83 : n30_83 s = condK (opv s.t (.tmp 114)) n30_84 n30_85 s := q_cond _ c30_84 c30_85 s (.tmp 114)
theorem r_n30_81 : n30_81 s = contK n30_83 (n30_82 s) := q_seq _ c30_82 c30_83 s
theorem r_n30_79 : n30_79 s = condK (opv s.t (.tmp 109)) n30_80 n30_81 s := q_cond _ c30_80 c30_81 s (.tmp 109)
theorem r_n30_77 : n30_77 s = contK n30_79 (n30_78 s) := q_seq _ c30_78 c30_79 s
theorem r_n30_75 : n30_75 s = condK (opv s.t (.tmp 103)) n30_76 n30_77 s := q_cond _ c30_76 c30_77 s (.tmp 103)
theorem r_n30_73 : n30_73 s = contK n30_75 (n30_74 s) := q_seq _ c30_74 c30_75 s
theorem r_n30_71 : n30_71 s = condK (opv s.t (.tmp 97)) n30_72 n30_73 s := q_cond _ c30_72 c30_73 s (.tmp 97)
theorem r_n30_69 : n30_69 s = contK n30_71 (n30_70 s) := q_seq _ c30_70 c30_71 s
theorem r_n30_68 : n30_68 s = blkK 5 (n30_69 s) := q_block _ c30_69 s 5
theorem r_n30_66 : n30_66 s = contK n30_68 (n30_67 s) := q_seq _ c30_67 c30_68 s
theorem r_n30_64 : n30_64 s = contK n30_66 (n30_65 s) := q_seq _ c30_65 c30_66 s
theorem r_n30_63 : n30_63 s = blkK 4 (n30_64 s) := q_block _ c30_64 s 4
theorem r_n30_86 : n30_86 s = behK 372 (stepsO X (annT 30) C (gO c30_86) o30_86.1 s) := q_region (annT 30) s 23 _ false rfl _ _ rfl rfl o30_86.2
theorem g_o30_86 : gdst (gO c30_86) j = (o30_86.1[j]?).bind Oper.dst := gd_eq o30_86.2 j
theorem r_n30_62 : n30_62 s = contK n30_86 (n30_63 s) := q_seq _ c30_63 c30_86 s
theorem r_n30_56 : n30_56 s = contK n30_62 (n30_57 s) := q_seq _ c30_57 c30_62 s
theorem r_n30_55 : n30_55 s = loopK 372 s.st.length n30_55 (n30_56 s) := q_loop (annT 30) c30_56 s _ _ rfl rfl
theorem r_n30_54 : n30_54 s = blkK 3 (n30_55 s) := q_block _ c30_55 s 3
theorem r_n30_52 : n30_52 s = contK n30_54 (n30_53 s) := q_seq _ c30_53 c30_54 s
theorem r_n30_88 : n30_88 s = behK 524340 (stepsO X (annT 30) C (gO c30_88) o30_88.1 s) := q_region (annT 30) s 4 _ false rfl _ _ rfl rfl o30_88.2
theorem g_o30_88 : gdst (gO c30_88) j = (o30_88.1[j]?).bind Oper.dst := gd_eq o30_88.2 j
theorem r_n30_91 : n30_91 s = behK 52 (stepsO X (annT 30) C (gO c30_91) o30_91.1 s) := q_region (annT 30) s 5 _ false rfl _ _ rfl rfl o30_91.2
theorem g_o30_91 : gdst (gO c30_91) j = (o30_91.1[j]?).bind Oper.dst := gd_eq o30_91.2 j
theorem r_n30_92 : n30_92 s = behK 48 (stepsO X (annT 30) C (gO c30_92) o30_92.1 s) := q_region (annT 30) s 6 _ false rfl _ _ rfl rfl o30_92.2
theorem g_o30_92 : gdst (gO c30_92) j = (o30_92.1[j]?).bind Oper.dst := gd_eq o30_92.2 j
theorem r_n30_90 : n30_90 s = contK n30_92 (n30_91 s) := q_seq _ c30_91 c30_92 s
theorem r_n30_93 : n30_93 s = some (.norm, s) := run_skip _ s
theorem r_n30_89 : n30_89 s = condK (opv s.t (.tmp 19)) n30_90 n30_93 s := q_cond _ c30_90 c30_93 s (.tmp 19)
theorem r_n30_87 : n30_87 s = contK n30_89 (n30_88 s) := q_seq _ c30_88 c30_89 s
theorem r_n30_51 : n30_51 s = condK (opv s.t (.tmp 83)) n30_52 n30_87 s := q_cond _ c30_52 c30_87 s (.tmp 83)
theorem r_n30_49 : n30_49 s = contK n30_51 (n30_50 s) := q_seq _ c30_50 c30_51 s
theorem r_n30_41 : n30_41 s = condK (opv s.t (.tmp 65)) n30_42 n30_49 s := q_cond _ c30_42 c30_49 s (.tmp 65)
theorem r_n30_39 : n30_39 s = contK n30_41 (n30_40 s) := q_seq _ c30_40 c30_41 s
theorem r_n30_37 : n30_37 s = condK (opv s.t (.tmp 59)) n30_38 n30_39 s := q_cond _ c30_38 c30_39 s (.tmp 59)
theorem r_n30_35 : n30_35 s = contK n30_37 (n30_36 s) := q_seq _ c30_36 c30_37 s
theorem r_n30_20 : n30_20 s = condK (opv s.t (.tmp 33)) n30_21 n30_35 s := q_cond _ c30_21 c30_35 s (.tmp 33)
theorem r_n30_10 : n30_10 s = contK n30_20 (n30_11 s) := q_seq _ c30_11 c30_20 s
theorem r_n30_9 : n30_9 s = blkK 0 (n30_10 s) := q_block _ c30_10 s 0
theorem r_n30_7 : n30_7 s = contK n30_9 (n30_8 s) := q_seq _ c30_8 c30_9 s
theorem r_n30_95 : n30_95 s = behK 16 (stepsO X (annT 30) C (gO c30_95) o30_95.1 s) := q_region (annT 30) s 34 _ false rfl _ _ rfl rfl o30_95.2
theorem g_o30_95 : gdst (gO c30_95) j = (o30_95.1[j]?).bind Oper.dst := gd_eq o30_95.2 j
theorem r_n30_96 : n30_96 s = some (.ret, s) := run_ret _ s
theorem r_n30_94 : n30_94 s = contK n30_96 (n30_95 s) := q_seq _ c30_95 c30_96 s
theorem r_n30_6 : n30_6 s = contK n30_94 (n30_7 s) := q_seq _ c30_7 c30_94 s
theorem r_n30_4 : n30_4 s = contK n30_6 (n30_5 s) := q_seq _ c30_5 c30_6 s
theorem r_n30_2 : n30_2 s = contK n30_4 (n30_3 s) := q_seq _ c30_3 c30_4 s
theorem r_n30_0 : n30_0 s = contK n30_2 (n30_1 s) := q_seq _ c30_1 c30_2 s
theorem va_30 : (annT 30).virt = [] := rfl
theorem wa_30 : (annT 30).wr = [] := rfl
theorem ya_30 : (annT 30).ty = [] := rfl
theorem cv_30 (call : Eng.Call) (wr : Bool) (args : List AV) (st : Store) : callV X call wr 30 args st = cvP call wr 30 args st (fzAll (fz false st 6) args) := cv_pure rfl rfl call wr args st
theorem p30 (ds : List D) : pureCall C 30 ds = ((n30_0 ⟨argsT 0 (ds.map .d), []⟩).bind (bodyR [.cell 4 27])).bind prOf := P_eq Try.f30 rfl rfl rfl rfl ds
theorem q30 (vs : List AV) (st : Store) : C 30 vs st = (n30_0 ⟨argsT 0 vs, st⟩).bind (bodyR [.cell 4 27]) := C_eq Try.f30 rfl rfl rfl rfl vs st
attribute [go_sem] r_n30_1 g_o30_1 o30_1 r_n30_3 g_o30_3 o30_3 r_n30_5 g_o30_5 o30_5 r_n30_8 g_o30_8 o30_8 r_n30_12 g_o30_12 o30_12 r_n30_14 r_n30_16 g_o30_16 o30_16 r_n30_18 r_n30_19 g_o30_19 o30_19 r_n30_17 r_n30_15 r_n30_13 r_n30_11 r_n30_22 g_o30_22 o30_22 r_n30_27 g_o30_27 o30_27 r_n30_29 r_n30_30 r_n30_28 r_n30_26 r_n30_33 g_o30_33 o30_33 r_n30_32 r_n30_34 g_o30_34 o30_34 r_n30_31 r_n30_25 r_n30_23 r_n30_21 r_n30_36 g_o30_36 o30_36 r_n30_38 g_o30_38 o30_38 r_n30_40 g_o30_40 o30_40 r_n30_43 g_o30_43 o30_43 r_n30_46 g_o30_46 o30_46 r_n30_47 g_o30_47 o30_47 r_n30_45 r_n30_48 r_n30_44 r_n30_42 r_n30_50 g_o30_50 o30_50 r_n30_53 g_o30_53 o30_53 r_n30_58 g_o30_58 o30_58 r_n30_60 r_n30_61 r_n30_59 r_n30_57 r_n30_65 g_o30_65 o30_65 r_n30_67 g_o30_67 o30_67 r_n30_70 g_o30_70 o30_70 r_n30_72 g_o30_72 o30_72 r_n30_74 g_o30_74 o30_74 r_n30_76 g_o30_76 o30_76 r_n30_78 g_o30_78 o30_78 r_n30_80 g_o30_80 o30_80 r_n30_82 g_o30_82 o30_82 r_n30_84 g_o30_84 o30_84 r_n30_85 r_n30_83 r_n30_81 r_n30_79 r_n30_77 r_n30_75 r_n30_73 r_n30_71 r_n30_69 r_n30_68 r_n30_66 r_n30_64 r_n30_63 r_n30_86 g_o30_86 o30_86 r_n30_62 r_n30_56 r_n30_54 r_n30_52 r_n30_88 g_o30_88 o30_88 r_n30_91 g_o30_91 o30_91 r_n30_92 g_o30_92 o30_92 r_n30_90 r_n30_93 r_n30_89 r_n30_87 r_n30_51 r_n30_49 r_n30_41 r_n30_39 r_n30_37 r_n30_35 r_n30_20 r_n30_10 r_n30_9 r_n30_7 r_n30_95 g_o30_95 o30_95 r_n30_96 r_n30_94 r_n30_6 r_n30_4 r_n30_2 r_n30_0 va_30 wa_30 ya_30 cv_30
noncomputable def c31_0 : Code := Try.f31.body.getD .skip
noncomputable def A31 := run (annT 31)
def n31_0 := A31 c31_0
def c31_1 := gL c31_0
def n31_1 := A31 c31_1
def o31_1 : OL c31_1 := ⟨_, by conv => (lhs; whnf)⟩
def c31_2 := gR c31_0
def n31_2 := A31 c31_2
def c31_3 := gL c31_2
def n31_3 := A31 c31_3
def o31_3 : OL c31_3 := ⟨_, by conv => (lhs; whnf)⟩
def c31_4 := gR c31_2
def n31_4 := A31 c31_4
def c31_5 := gL c31_4
def n31_5 := A31 c31_5
def o31_5 : OL c31_5 := ⟨_, by conv => (lhs; whnf)⟩
def c31_6 := gR c31_4
def n31_6 := A31 c31_6
def c31_7 := gL c31_6
def n31_7 := A31 c31_7
def c31_8 := gL c31_7
def n31_8 := A31 c31_8
def o31_8 : OL c31_8 := ⟨_, by conv => (lhs; whnf)⟩
def c31_9 := gR c31_7
def n31_9 := A31 c31_9
def c31_10 := gT c31_9
def n31_10 := A31 c31_10
def c31_11 := gL c31_10
def n31_11 := A31 c31_11
def o31_11 : OL c31_11 := ⟨_, by conv => (lhs; whnf)⟩
def c31_12 := gR c31_10
def n31_12 := A31 c31_12
def c31_13 := gF c31_9
def n31_13 := A31 c31_13
def c31_14 := gR c31_6
def n31_14 := A31 c31_14
def c31_15 := gL c31_14
def n31_15 := A31 c31_15
def c31_16 := gL c31_15
def n31_16 := A31 c31_16
def o31_16 : OL c31_16 := ⟨_, by conv => (lhs; whnf)⟩
def c31_17 := gR c31_15
def n31_17 := A31 c31_17
def c31_18 := gB c31_17
def n31_18 := A31 c31_18
def c31_19 := gL c31_18
def n31_19 := A31 c31_19
def c31_20 := gL c31_19
def n31_20 := A31 c31_20
def o31_20 : OL c31_20 := ⟨_, by conv => (lhs; whnf)⟩
def c31_21 := gR c31_19
def n31_21 := A31 c31_21
def c31_22 := gT c31_21
def n31_22 := A31 c31_22
def c31_23 := gF c31_21
def n31_23 := A31 c31_23
def c31_24 := gL c31_23
def n31_24 := A31 c31_24
def o31_24 : OL c31_24 := ⟨_, by conv => (lhs; whnf)⟩
def c31_25 := gR c31_23
def n31_25 := A31 c31_25
def c31_26 := gT c31_25
def n31_26 := A31 c31_26
def c31_27 := gF c31_25
def n31_27 := A31 c31_27
def o31_27 : OL c31_27 := ⟨_, by conv => (lhs; whnf)⟩
def c31_28 := gR c31_18
def n31_28 := A31 c31_28
def c31_29 := gT c31_28
def n31_29 := A31 c31_29
def c31_30 := gL c31_29
def n31_30 := A31 c31_30
def o31_30 : OL c31_30 := ⟨_, by conv => (lhs; whnf)⟩
def c31_31 := gR c31_29
def n31_31 := A31 c31_31
def c31_32 := gL c31_31
def n31_32 := A31 c31_32
def c31_33 := gL c31_32
def n31_33 := A31 c31_33
def o31_33 : OL c31_33 := ⟨_, by conv => (lhs; whnf)⟩
def c31_34 := gR c31_32
def n31_34 := A31 c31_34
def c31_35 := gB c31_34
def n31_35 := A31 c31_35
def c31_36 := gB c31_35
def n31_36 := A31 c31_36
def c31_37 := gL c31_36
def n31_37 := A31 c31_37
def c31_38 := gL c31_37
def n31_38 := A31 c31_38
def o31_38 : OL c31_38 := ⟨_, by conv => (lhs; whnf)⟩
def c31_39 := gR c31_37
def n31_39 := A31 c31_39
def c31_40 := gT c31_39
def n31_40 := A31 c31_40
def c31_41 := gF c31_39
def n31_41 := A31 c31_41
def c31_42 := gR c31_36
def n31_42 := A31 c31_42
def c31_43 := gL c31_42
def n31_43 := A31 c31_43
def c31_44 := gB c31_43
def n31_44 := A31 c31_44
def o31_44 : OL c31_44 := ⟨_, by conv => (lhs; whnf)⟩
def c31_45 := gR c31_42
def n31_45 := A31 c31_45
def o31_45 : OL c31_45 := ⟨_, by conv => (lhs; whnf)⟩
def c31_46 := gR c31_31
def n31_46 := A31 c31_46
def o31_46 : OL c31_46 := ⟨_, by conv => (lhs; whnf)⟩
def c31_47 := gF c31_28
def n31_47 := A31 c31_47
def c31_48 := gL c31_47
def n31_48 := A31 c31_48
def o31_48 : OL c31_48 := ⟨_, by conv => (lhs; whnf)⟩
def c31_49 := gR c31_47
def n31_49 := A31 c31_49
def c31_50 := gT c31_49
def n31_50 := A31 c31_50
def o31_50 : OL c31_50 := ⟨_, by conv => (lhs; whnf)⟩
def c31_51 := gF c31_49
def n31_51 := A31 c31_51
def c31_52 := gL c31_51
def n31_52 := A31 c31_52
def o31_52 : OL c31_52 := ⟨_, by conv => (lhs; whnf)⟩
def c31_53 := gR c31_51
def n31_53 := A31 c31_53
def c31_54 := gT c31_53
def n31_54 := A31 c31_54
def c31_55 := gL c31_54
def n31_55 := A31 c31_55
def o31_55 : OL c31_55 := ⟨_, by conv => (lhs; whnf)⟩
def c31_56 := gR c31_54
def n31_56 := A31 c31_56
def c31_57 := gL c31_56
def n31_57 := A31 c31_57
def c31_58 := gL c31_57
def n31_58 := A31 c31_58
def o31_58 : OL c31_58 := ⟨_, by conv => (lhs; whnf)⟩
def c31_59 := gR c31_57
def n31_59 := A31 c31_59
def c31_60 := gB c31_59
def n31_60 := A31 c31_60
def c31_61 := gB c31_60
def n31_61 := A31 c31_61
def c31_62 := gL c31_61
def n31_62 := A31 c31_62
def c31_63 := gL c31_62
def n31_63 := A31 c31_63
def o31_63 : OL c31_63 := ⟨_, by conv => (lhs; whnf)⟩
def c31_64 := gR c31_62
def n31_64 := A31 c31_64
def c31_65 := gT c31_64
def n31_65 := A31 c31_65
def c31_66 := gF c31_64
def n31_66 := A31 c31_66
def c31_67 := gR c31_61
def n31_67 := A31 c31_67
def c31_68 := gL c31_67
def n31_68 := A31 c31_68
def c31_69 := gB c31_68
def n31_69 := A31 c31_69
def c31_70 := gL c31_69
def n31_70 := A31 c31_70
def o31_70 : OL c31_70 := ⟨_, by conv => (lhs; whnf)⟩
def c31_71 := gR c31_69
def n31_71 := A31 c31_71
def c31_72 := gL c31_71
def n31_72 := A31 c31_72
def c31_73 := gL c31_72
def n31_73 := A31 c31_73
def o31_73 : OL c31_73 := ⟨_, by conv => (lhs; whnf)⟩
def c31_74 := gR c31_72
def n31_74 := A31 c31_74
def c31_75 := gT c31_74
def n31_75 := A31 c31_75
def o31_75 : OL c31_75 := ⟨_, by conv => (lhs; whnf)⟩
def c31_76 := gF c31_74
def n31_76 := A31 c31_76
def c31_77 := gR c31_71
def n31_77 := A31 c31_77
def c31_78 := gL c31_77
def n31_78 := A31 c31_78
def c31_79 := gL c31_78
def n31_79 := A31 c31_79
def o31_79 : OL c31_79 := ⟨_, by conv => (lhs; whnf)⟩
def c31_80 := gR c31_78
def n31_80 := A31 c31_80
def c31_81 := gT c31_80
def n31_81 := A31 c31_81
def o31_81 : OL c31_81 := ⟨_, by conv => (lhs; whnf)⟩
def c31_82 := gF c31_80
def n31_82 := A31 c31_82
def c31_83 := gR c31_77
def n31_83 := A31 c31_83
def c31_84 := gL c31_83
def n31_84 := A31 c31_84
def o31_84 : OL c31_84 := ⟨_, by conv => (lhs; whnf)⟩
def c31_85 := gR c31_83
def n31_85 := A31 c31_85
def c31_86 := gL c31_85
def n31_86 := A31 c31_86
def o31_86 : OL c31_86 := ⟨_, by conv => (lhs; whnf)⟩
def c31_87 := gR c31_85
def n31_87 := A31 c31_87
def c31_88 := gT c31_87
def n31_88 := A31 c31_88
def o31_88 : OL c31_88 := ⟨_, by conv => (lhs; whnf)⟩
def c31_89 := gF c31_87
def n31_89 := A31 c31_89
def c31_90 := gR c31_67
def n31_90 := A31 c31_90
def o31_90 : OL c31_90 := ⟨_, by conv => (lhs; whnf)⟩
def c31_91 := gR c31_56
def n31_91 := A31 c31_91
def o31_91 : OL c31_91 := ⟨_, by conv => (lhs; whnf)⟩
def c31_92 := gF c31_53
def n31_92 := A31 c31_92
def c31_93 := gL c31_92
def n31_93 := A31 c31_93
def o31_93 : OL c31_93 := ⟨_, by conv => (lhs; whnf)⟩
def c31_94 := gR c31_92
def n31_94 := A31 c31_94
def c31_95 := gT c31_94
def n31_95 := A31 c31_95
def c31_96 := gL c31_95
def n31_96 := A31 c31_96
def o31_96 : OL c31_96 := ⟨_, by conv => (lhs; whnf)⟩
def c31_97 := gR c31_95
def n31_97 := A31 c31_97
def c31_98 := gL c31_97
def n31_98 := A31 c31_98
def o31_98 : OL c31_98 := ⟨_, by conv => (lhs; whnf)⟩
def c31_99 := gR c31_97
def n31_99 := A31 c31_99
def o31_99 : OL c31_99 := ⟨_, by conv => (lhs; whnf)⟩
def c31_100 := gF c31_94
def n31_100 := A31 c31_100
def c31_101 := gR c31_14
def n31_101 := A31 c31_101
def c31_102 := gL c31_101
def n31_102 := A31 c31_102
def o31_102 : OL c31_102 := ⟨_, by conv => (lhs; whnf)⟩
def c31_103 := gR c31_101
def n31_103 := A31 c31_103
theorem r_n31_1 : n31_1 s = behK 22 (stepsO X (annT 31) C (gO c31_1) o31_1.1 s) := q_region (annT 31) s 0 _ false rfl _ _ rfl rfl o31_1.2
theorem g_o31_1 : gdst (gO c31_1) j = (o31_1.1[j]?).bind Oper.dst := gd_eq o31_1.2 j
theorem r_n31_3 : n31_3 s = behK 54 (stepsO X (annT 31) C (gO c31_3) o31_3.1 s) := q_region (annT 31) s 1 _ false rfl _ _ rfl rfl o31_3.2
theorem g_o31_3 : gdst (gO c31_3) j = (o31_3.1[j]?).bind Oper.dst := gd_eq o31_3.2 j
theorem r_n31_5 : n31_5 s = behK 118 (stepsO X (annT 31) C (gO c31_5) o31_5.1 s) := q_region (annT 31) s 2 _ false rfl _ _ rfl rfl o31_5.2
theorem g_o31_5 : gdst (gO c31_5) j = (o31_5.1[j]?).bind Oper.dst := gd_eq o31_5.2 j
theorem r_n31_8 : n31_8 s = behK 524406 (stepsO X (annT 31) C (gO c31_8) o31_8.1 s) := q_region (annT 31) s 3 _ false rfl _ _ rfl rfl o31_8.2
theorem g_o31_8 : gdst (gO c31_8) j = (o31_8.1[j]?).bind Oper.dst := gd_eq o31_8.2 j
theorem r_n31_11 : n31_11 s = behK 16 (stepsO X (annT 31) C (gO c31_11) o31_11.1 s) := q_region (annT 31) s 4 _ false rfl _ _ rfl rfl o31_11.2
theorem g_o31_11 : gdst (gO c31_11) j = (o31_11.1[j]?).bind Oper.dst := gd_eq o31_11.2 j
theorem r_n31_12 : n31_12 s = some (.ret, s) := run_ret _ s
theorem r_n31_10 : n31_10 s = contK n31_12 (n31_11 s) := q_seq _ c31_11 c31_12 s
theorem r_n31_13 : n31_13 s = some (.norm, s) := run_skip _ s
theorem r_n31_9 : n31_9 s = condK (opv s.t (.tmp 19)) n31_10 n31_13 s := q_cond _ c31_10 c31_13 s (.tmp 19)
theorem r_n31_7 : n31_7 s = contK n31_9 (n31_8 s) := q_seq _ c31_8 c31_9 s
theorem r_n31_16 : n31_16 s = behK 4194422 (stepsO X (annT 31) C (gO c31_16) o31_16.1 s) := q_region (annT 31) s 5 _ false rfl _ _ rfl rfl o31_16.2
theorem g_o31_16 : gdst (gO c31_16) j = (o31_16.1[j]?).bind Oper.dst := gd_eq o31_16.2 j
theorem r_n31_20 : n31_20 s = behK 1099515822198 (stepsO X (annT 31) C (gO c31_20) o31_20.1 s) := q_region (annT 31) s 10 _ false rfl _ _ rfl rfl o31_20.2
theorem g_o31_20 : gdst (gO c31_20) j = (o31_20.1[j]?).bind Oper.dst := gd_eq o31_20.2 j
theorem r_n31_22 : n31_22 s = some (.norm, s) := run_skip _ s
theorem r_n31_24 : n31_24 s = behK 1099515822198 (stepsO X (annT 31) C (gO c31_24) o31_24.1 s) := q_region (annT 31) s 11 _ false rfl _ _ rfl rfl o31_24.2
theorem g_o31_24 : gdst (gO c31_24) j = (o31_24.1[j]?).bind Oper.dst := gd_eq o31_24.2 j
theorem r_n31_26 : n31_26 s = some (.norm, s) := run_skip _ s
theorem r_n31_27 : n31_27 s = behK 1099515822198 (stepsO X (annT 31) C (gO c31_27) o31_27.1 s) := q_region (annT 31) s 12 _ false rfl _ _ rfl rfl o31_27.2
theorem g_o31_27 : gdst (gO c31_27) j = (o31_27.1[j]?).bind Oper.dst := gd_eq o31_27.2 j
theorem r_n31_25 : n31_25 s = condK (opv s.t (.tmp 40)) n31_26 n31_27 s := q_cond _ c31_26 c31_27 s (.tmp 40)
theorem r_n31_23 : n31_23 s = contK n31_25 (n31_24 s) := q_seq _ c31_24 c31_25 s
theorem r_n31_21 : n31_21 s = condK (opv s.t (.tmp 40)) n31_22 n31_23 s := q_cond _ c31_22 c31_23 s (.tmp 40)
theorem r_n31_19 : n31_19 s = contK n31_21 (n31_20 s) := q_seq _ c31_20 c31_21 s
theorem r_n31_30 : n31_30 s = behK 246 (stepsO X (annT 31) C (gO c31_30) o31_30.1 s) := q_region (annT 31) s 13 _ false rfl _ _ rfl rfl o31_30.2
theorem g_o31_30 : gdst (gO c31_30) j = (o31_30.1[j]?).bind Oper.dst := gd_eq o31_30.2 j
theorem r_n31_33 : n31_33 s = behK 502 (stepsO X (annT 31) C (gO c31_33) o31_33.1 s) := q_region (annT 31) s 14 _ false rfl _ _ rfl rfl o31_33.2
theorem g_o31_33 : gdst (gO c31_33) j = (o31_33.1[j]?).bind Oper.dst := gd_eq o31_33.2 j
theorem r_n31_38 : n31_38 s = behK 70368744178166 (stepsO X (annT 31) C (gO c31_38) o31_38.1 s) := q_region (annT 31) s 15 _ false rfl _ _ rfl rfl o31_38.2
theorem g_o31_38 : gdst (gO c31_38) j = (o31_38.1[j]?).bind Oper.dst := gd_eq o31_38.2 j
theorem r_n31_40 : n31_40 s = some (.norm, s) := run_skip _ s
theorem r_n31_41 : n31_41 s = some (.exit 1, s) := run_exit _ s 1
theorem r_n31_39 : n31_39 s = condK (opv s.t (.tmp 46)) n31_40 n31_41 s := q_cond _ c31_40 c31_41 s (.tmp 46)
theorem r_n31_37 : n31_37 s = contK n31_39 (n31_38 s) := q_seq _ c31_38 c31_39 s
theorem r_n31_44 : n31_44 s = behK 502 (stepsO X (annT 31) C (gO c31_44) o31_44.1 s) := q_region (annT 31) s 17 _ false rfl _ _ rfl rfl o31_44.2
theorem g_o31_44 : gdst (gO c31_44) j = (o31_44.1[j]?).bind Oper.dst := gd_eq o31_44.2 j
theorem r_n31_43 : n31_43 s = blkK 2 (n31_44 s) := q_block _ c31_44 s 2
theorem r_n31_45 : n31_45 s = behK 502 (stepsO X (annT 31) C (gO c31_45) o31_45.1 s) := q_region (annT 31) s 16 _ false rfl _ _ rfl rfl o31_45.2
theorem g_o31_45 : gdst (gO c31_45) j = (o31_45.1[j]?).bind Oper.dst := gd_eq o31_45.2 j
theorem r_n31_42 : n31_42 s = contK n31_45 (n31_43 s) := q_seq _ c31_43 c31_45 s
theorem r_n31_36 : n31_36 s = contK n31_42 (n31_37 s) := q_seq _ c31_37 c31_42 s
theorem r_n31_35 : n31_35 s = loopK 502 s.st.length n31_35 (n31_36 s) := q_loop (annT 31) c31_36 s _ _ rfl rfl
theorem r_n31_34 : n31_34 s = blkK 1 (n31_35 s) := q_block _ c31_35 s 1
theorem r_n31_32 : n31_32 s = contK n31_34 (n31_33 s) := q_seq _ c31_33 c31_34 s
theorem r_n31_46 : n31_46 s = behK 48 (stepsO X (annT 31) C (gO c31_46) o31_46.1 s) := q_region (annT 31) s 18 _ false rfl _ _ rfl rfl o31_46.2
theorem g_o31_46 : gdst (gO c31_46) j = (o31_46.1[j]?).bind Oper.dst := gd_eq o31_46.2 j
theorem r_n31_31 : n31_31 s = contK n31_46 (n31_32 s) := q_seq _ c31_32 c31_46 s
theorem r_n31_29 : n31_29 s = contK n31_31 (n31_30 s) := q_seq _ c31_30 c31_31 s
theorem r_n31_48 : n31_48 s = behK 4611686018431582324 (stepsO X (annT 31) C (gO c31_48) o31_48.1 s) := q_region (annT 31) s 19 _ false rfl _ _ rfl rfl o31_48.2
theorem g_o31_48 : gdst (gO c31_48) j = (o31_48.1[j]?).bind Oper.dst := gd_eq o31_48.2 j
theorem r_n31_50 : n31_50 s = behK 48 (stepsO X (annT 31) C (gO c31_50) o31_50.1 s) := q_region (annT 31) s 20 _ false rfl _ _ rfl rfl o31_50.2
theorem g_o31_50 : gdst (gO c31_50) j = (o31_50.1[j]?).bind Oper.dst := gd_eq o31_50.2 j
theorem r_n31_52 : n31_52 s = behK 295147905179352825972 (stepsO X (annT 31) C (gO c31_52) o31_52.1 s) := q_region (annT 31) s 21 _ false rfl _ _ rfl rfl o31_52.2
theorem g_o31_52 : gdst (gO c31_52) j = (o31_52.1[j]?).bind Oper.dst := gd_eq o31_52.2 j
theorem r_n31_55 : n31_55 s = behK 628 (stepsO X (annT 31) C (gO c31_55) o31_55.1 s) := q_region (annT 31) s 22 _ false rfl _ _ rfl rfl o31_55.2
theorem g_o31_55 : gdst (gO c31_55) j = (o31_55.1[j]?).bind Oper.dst := gd_eq o31_55.2 j
theorem r_n31_58 : n31_58 s = behK 1652 (stepsO X (annT 31) C (gO c31_58) o31_58.1 s) := q_region (annT 31) s 23 _ false rfl _ _ rfl rfl o31_58.2
theorem g_o31_58 : gdst (gO c31_58) j = (o31_58.1[j]?).bind Oper.dst := gd_eq o31_58.2 j
theorem r_n31_63 : n31_63 s = behK 4722366482869645215348 (stepsO X (annT 31) C (gO c31_63) o31_63.1 s) := q_region (annT 31) s 24 _ false rfl _ _ rfl rfl o31_63.2
theorem g_o31_63 : gdst (gO c31_63) j = (o31_63.1[j]?).bind Oper.dst := gd_eq o31_63.2 j
theorem r_n31_65 : n31_65 s = some (.norm, s) := run_skip _ s
theorem r_n31_66 : n31_66 s = some (.exit 3, s) := run_exit _ s 3
theorem r_n31_64 : n31_64 s = condK (opv s.t (.tmp 72)) n31_65 n31_66 s := q_cond _ c31_65 c31_66 s (.tmp 72)
theorem r_n31_62 : n31_62 s = contK n31_64 (n31_63 s) := q_seq _ c31_63 c31_64 s
theorem r_n31_70 : n31_70 s = behK 3700 (stepsO X (annT 31) C (gO c31_70) o31_70.1 s) := q_region (annT 31) s 26 _ false rfl _ _ rfl rfl o31_70.2
theorem g_o31_70 : gdst (gO c31_70) j = (o31_70.1[j]?).bind Oper.dst := gd_eq o31_70.2 j
theorem r_n31_73 : n31_73 s = behK 154742504910672534362394228 (stepsO X (annT 31) C (gO c31_73) o31_73.1 s) := q_region (annT 31) s 27 _ false rfl _ _ rfl rfl o31_73.2
theorem g_o31_73 : gdst (gO c31_73) j = (o31_73.1[j]?).bind Oper.dst := gd_eq o31_73.2 j
theorem r_n31_75 : n31_75 s = behK 3700 (stepsO X (annT 31) C (gO c31_75) o31_75.1 s) := q_region (annT 31) s 28 _ false rfl _ _ rfl rfl o31_75.2
theorem g_o31_75 : gdst (gO c31_75) j = (o31_75.1[j]?).bind Oper.dst := gd_eq o31_75.2 j
theorem r_n31_76 : n31_76 s = some (.norm, s) := run_skip _ s
theorem r_n31_74 : n31_74 s = condK (opv s.t (.tmp 87)) n31_75 n31_76 s := q_cond _ c31_75 c31_76 s (.tmp 87)
theorem r_n31_72 : n31_72 s = contK n31_74 (n31_73 s) := q_seq _ c31_73 c31_74 s
theorem r_n31_79 : n31_79 s = behK 40564819207303340847894502575732 (stepsO X (annT 31) C (gO c31_79) o31_79.1 s) := q_region (annT 31) s 29 _ false rfl _ _ rfl rfl o31_79.2
theorem g_o31_79 : gdst (gO c31_79) j = (o31_79.1[j]?).bind Oper.dst := gd_eq o31_79.2 j
theorem r_n31_81 : n31_81 s = behK 3700 (stepsO X (annT 31) C (gO c31_81) o31_81.1 s) := q_region (annT 31) s 30 _ false rfl _ _ rfl rfl o31_81.2
theorem g_o31_81 : gdst (gO c31_81) j = (o31_81.1[j]?).bind Oper.dst := gd_eq o31_81.2 j
theorem r_n31_82 : n31_82 s = some (.norm, s) := run_skip _ s
theorem r_n31_80 : n31_80 s = condK (opv s.t (.tmp 105)) n31_81 n31_82 s := q_cond _ c31_81 c31_82 s (.tmp 105)
theorem r_n31_78 : n31_78 s = contK n31_80 (n31_79 s) := q_seq _ c31_79 c31_80 s
theorem r_n31_84 : n31_84 s = behK 7796 (stepsO X (annT 31) C (gO c31_84) o31_84.1 s) := q_region (annT 31) s 31 _ false rfl _ _ rfl rfl o31_84.2
theorem g_o31_84 : gdst (gO c31_84) j = (o31_84.1[j]?).bind Oper.dst := gd_eq o31_84.2 j
theorem r_n31_86 : n31_86 s = behK 348449143727040986586495598010130648534644 (stepsO X (annT 31) C (gO c31_86) o31_86.1 s) := q_region (annT 31) s 32 _ false rfl _ _ rfl rfl o31_86.2
theorem g_o31_86 : gdst (gO c31_86) j = (o31_86.1[j]?).bind Oper.dst := gd_eq o31_86.2 j
theorem r_n31_88 : n31_88 s = behK 1652 (stepsO X (annT 31) C (gO c31_88) o31_88.1 s) := q_region (annT 31) s 33 _ false rfl _ _ rfl rfl o31_88.2
theorem g_o31_88 : gdst (gO c31_88) j = (o31_88.1[j]?).bind Oper.dst := gd_eq o31_88.2 j
theorem r_n31_89 : n31_89 s = some (.norm, s) := run_skip _ s
theorem r_n31_87 : n31_87 s = condK (opv s.t (.tmp 138)) n31_88 n31_89 s := q_cond _ c31_88 c31_89 s (.tmp 138)
theorem r_n31_85 : n31_85 s = contK n31_87 (n31_86 s) := q_seq _ c31_86 c31_87 s
theorem r_n31_83 : n31_83 s = contK n31_85 (n31_84 s) := q_seq _ c31_84 c31_85 s
theorem r_n31_77 : n31_77 s = contK n31_83 (n31_78 s) := q_seq _ c31_78 c31_83 s
theorem r_n31_71 : n31_71 s = contK n31_77 (n31_72 s) := q_seq _ c31_72 c31_77 s
theorem r_n31_69 : n31_69 s = contK n31_71 (n31_70 s) := q_seq _ c31_70 c31_71 s
theorem r_n31_68 : n31_68 s = blkK 4 (n31_69 s) := q_block _ c31_69 s 4
theorem r_n31_90 : n31_90 s = behK 1652 (stepsO X (annT 31) C (gO c31_90) o31_90.1 s) := q_region (annT 31) s 25 _ false rfl _ _ rfl rfl o31_90.2
theorem g_o31_90 : gdst (gO c31_90) j = (o31_90.1[j]?).bind Oper.dst := gd_eq o31_90.2 j
theorem r_n31_67 : n31_67 s = contK n31_90 (n31_68 s) := q_seq _ c31_68 c31_90 s
theorem r_n31_61 : n31_61 s = contK n31_67 (n31_62 s) := q_seq _ c31_62 c31_67 s
theorem r_n31_60 : n31_60 s = loopK 1652 s.st.length n31_60 (n31_61 s) := q_loop (annT 31) c31_61 s _ _ rfl rfl
theorem r_n31_59 : n31_59 s = blkK 3 (n31_60 s) := q_block _ c31_60 s 3
theorem r_n31_57 : n31_57 s = contK n31_59 (n31_58 s) := q_seq _ c31_58 c31_59 s
theorem r_n31_91 : n31_91 s = behK 48 (stepsO X (annT 31) C (gO c31_91) o31_91.1 s) := q_region (annT 31) s 34 _ false rfl _ _ rfl rfl o31_91.2
theorem g_o31_91 : gdst (gO c31_91) j = (o31_91.1[j]?).bind Oper.dst := gd_eq o31_91.2 j
theorem r_n31_56 : n31_56 s = contK n31_91 (n31_57 s) := q_seq _ c31_57 c31_91 s
theorem r_n31_54 : n31_54 s = contK n31_56 (n31_55 s) := q_seq _ c31_55 c31_56 s
theorem r_n31_93 : n31_93 s = behK 16777268 (stepsO X (annT 31) C (gO c31_93) o31_93.1 s) := q_region (annT 31) s 6 _ false rfl _ _ rfl rfl o31_93.2
theorem g_o31_93 : gdst (gO c31_93) j = (o31_93.1[j]?).bind Oper.dst := gd_eq o31_93.2 j
theorem r_n31_96 : n31_96 s = behK 8244 (stepsO X (annT 31) C (gO c31_96) o31_96.1 s) := q_region (annT 31) s 7 _ false rfl _ _ rfl rfl o31_96.2
theorem g_o31_96 : gdst (gO c31_96) j = (o31_96.1[j]?).bind Oper.dst := gd_eq o31_96.2 j
theorem r_n31_98 : n31_98 s = behK 8244 (stepsO X (annT 31) C (gO c31_98) o31_98.1 s) := q_region (annT 31) s 8 _ false rfl _ _ rfl rfl o31_98.2
theorem g_o31_98 : gdst (gO c31_98) j = (o31_98.1[j]?).bind Oper.dst := gd_eq o31_98.2 j
theorem r_n31_99 : n31_99 s = behK 48 (stepsO X (annT 31) C (gO c31_99) o31_99.1 s) := q_region (annT 31) s 9 _ true rfl _ _ rfl rfl o31_99.2
theorem g_o31_99 : gdst (gO c31_99) j = (o31_99.1[j]?).bind Oper.dst := gd_eq o31_99.2 j
theorem r_n31_97 : n31_97 s = contK n31_99 (n31_98 s) := q_seq _ c31_98 c31_99 s
theorem r_n31_95 : n31_95 s = contK n31_97 (n31_96 s) := q_seq _ c31_96 c31_97 s
theorem r_n31_100 : n31_100 s = some (.norm, s) := run_skip _ s
theorem r_n31_94 : n31_94 s = condK (opv s.t (.tmp 24)) n31_95 n31_100 s := q_cond _ c31_95 c31_100 s (.tmp 24)
theorem r_n31_92 : n31_92 s = contK n31_94 (n31_93 s) := q_seq _ c31_93 c31_94 s
theorem r_n31_53 : n31_53 s = condK (opv s.t (.tmp 68)) n31_54 n31_92 s := q_cond _ c31_54 c31_92 s (.tmp 68)
theorem r_n31_51 : n31_51 s = contK n31_53 (n31_52 s) := q_seq _ c31_52 c31_53 s
theorem r_n31_49 : n31_49 s = condK (opv s.t (.tmp 62)) n31_50 n31_51 s := q_cond _ c31_50 c31_51 s (.tmp 62)
theorem r_n31_47 : n31_47 s = contK n31_49 (n31_48 s) := q_seq _ c31_48 c31_49 s
theorem r_n31_28 : n31_28 s = condK (opv s.t (.tmp 40)) n31_29 n31_47 s := q_cond _ c31_29 c31_47 s (.tmp 40)
theorem r_n31_18 : n31_18 s = contK n31_28 (n31_19 s) := q_seq _ c31_19 c31_28 s
theorem r_n31_17 : n31_17 s = blkK 0 (n31_18 s) := q_block _ c31_18 s 0
theorem r_n31_15 : n31_15 s = contK n31_17 (n31_16 s) := q_seq _ c31_16 c31_17 s
theorem r_n31_102 : n31_102 s = behK 16 (stepsO X (annT 31) C (gO c31_102) o31_102.1 s) := q_region (annT 31) s 35 _ false rfl _ _ rfl rfl o31_102.2
theorem g_o31_102 : gdst (gO c31_102) j = (o31_102.1[j]?).bind Oper.dst := gd_eq o31_102.2 j
theorem r_n31_103 : n31_103 s = some (.ret, s) := run_ret _ s
theorem r_n31_101 : n31_101 s = contK n31_103 (n31_102 s) := q_seq _ c31_102 c31_103 s
theorem r_n31_14 : n31_14 s = contK n31_101 (n31_15 s) := q_seq _ c31_15 c31_101 s
theorem r_n31_6 : n31_6 s = contK n31_14 (n31_7 s) := q_seq _ c31_7 c31_14 s
theorem r_n31_4 : n31_4 s = contK n31_6 (n31_5 s) := q_seq _ c31_5 c31_6 s
theorem r_n31_2 : n31_2 s = contK n31_4 (n31_3 s) := q_seq _ c31_3 c31_4 s
theorem r_n31_0 : n31_0 s = contK n31_2 (n31_1 s) := q_seq _ c31_1 c31_2 s
theorem va_31 : (annT 31).virt = [] := rfl
theorem wa_31 : (annT 31).wr = [] := rfl
theorem ya_31 : (annT 31).ty = [] := rfl
theorem cv_31 (call : Eng.Call) (wr : Bool) (args : List AV) (st : Store) : callV X call wr 31 args st = cvP call wr 31 args st (fzAll (fz false st 6) args) := cv_pure rfl rfl call wr args st
theorem p31 (ds : List D) : pureCall C 31 ds = ((n31_0 ⟨argsT 0 (ds.map .d), []⟩).bind (bodyR [.cell 4 32])).bind prOf := P_eq Try.f31 rfl rfl rfl rfl ds
theorem q31 (vs : List AV) (st : Store) : C 31 vs st = (n31_0 ⟨argsT 0 vs, st⟩).bind (bodyR [.cell 4 32]) := C_eq Try.f31 rfl rfl rfl rfl vs st
attribute [go_sem] r_n31_1 g_o31_1 o31_1 r_n31_3 g_o31_3 o31_3 r_n31_5 g_o31_5 o31_5 r_n31_8 g_o31_8 o31_8 r_n31_11 g_o31_11 o31_11 r_n31_12 r_n31_10 r_n31_13 r_n31_9 r_n31_7 r_n31_16 g_o31_16 o31_16 r_n31_20 g_o31_20 o31_20 r_n31_22 r_n31_24 g_o31_24 o31_24 r_n31_26 r_n31_27 g_o31_27 o31_27 r_n31_25 r_n31_23 r_n31_21 r_n31_19 r_n31_30 g_o31_30 o31_30 r_n31_33 g_o31_33 o31_33 r_n31_38 g_o31_38 o31_38 r_n31_40 r_n31_41 r_n31_39 r_n31_37 r_n31_44 g_o31_44 o31_44 r_n31_43 r_n31_45 g_o31_45 o31_45 r_n31_42 r_n31_36 r_n31_34 r_n31_32 r_n31_46 g_o31_46 o31_46 r_n31_31 r_n31_29 r_n31_48 g_o31_48 o31_48 r_n31_50 g_o31_50 o31_50 r_n31_52 g_o31_52 o31_52 r_n31_55 g_o31_55 o31_55 r_n31_58 g_o31_58 o31_58 r_n31_63 g_o31_63 o31_63 r_n31_65 r_n31_66 r_n31_64 r_n31_62 r_n31_70 g_o31_70 o31_70 r_n31_73 g_o31_73 o31_73 r_n31_75 g_o31_75 o31_75 r_n31_76 r_n31_74 r_n31_72 r_n31_79 g_o31_79 o31_79 r_n31_81 g_o31_81 o31_81 r_n31_82 r_n31_80 r_n31_78 r_n31_84 g_o31_84 o31_84 r_n31_86 g_o31_86 o31_86 r_n31_88 g_o31_88 o31_88 r_n31_89 r_n31_87 r_n31_85 r_n31_83 r_n31_77 r_n31_71 r_n31_69 r_n31_68 r_n31_90 g_o31_90 o31_90 r_n31_67 r_n31_61 r_n31_59 r_n31_57 r_n31_91 g_o31_91 o31_91 r_n31_56 r_n31_54 r_n31_93 g_o31_93 o31_93 r_n31_96 g_o31_96 o31_96 r_n31_98 g_o31_98 o31_98 r_n31_99 g_o31_99 o31_99 r_n31_97 r_n31_95 r_n31_100 r_n31_94 r_n31_92 r_n31_53 r_n31_51 r_n31_49 r_n31_47 r_n31_28 r_n31_18 r_n31_17 r_n31_15 r_n31_102 g_o31_102 o31_102 r_n31_103 r_n31_101 r_n31_14 r_n31_6 r_n31_4 r_n31_2 r_n31_0 va_31 wa_31 ya_31 cv_31
noncomputable def c53_0 : Code := Try.f53.body.getD .skip
noncomputable def A53 := run (annT 53)
def n53_0 := A53 c53_0
def c53_1 := gL c53_0
def n53_1 := A53 c53_1
def o53_1 : OL c53_1 := ⟨_, by conv => (lhs; whnf)⟩
def c53_2 := gR c53_0
def n53_2 := A53 c53_2
def c53_3 := gL c53_2
def n53_3 := A53 c53_3
def o53_3 : OL c53_3 := ⟨_, by conv => (lhs; whnf)⟩
def c53_4 := gR c53_2
def n53_4 := A53 c53_4
def c53_5 := gL c53_4
def n53_5 := A53 c53_5
def c53_6 := gL c53_5
def n53_6 := A53 c53_6
def o53_6 : OL c53_6 := ⟨_, by conv => (lhs; whnf)⟩
def c53_7 := gR c53_5
def n53_7 := A53 c53_7
def c53_8 := gB c53_7
def n53_8 := A53 c53_8
def c53_9 := gB c53_8
def n53_9 := A53 c53_9
def c53_10 := gL c53_9
def n53_10 := A53 c53_10
def c53_11 := gL c53_10
def n53_11 := A53 c53_11
def o53_11 : OL c53_11 := ⟨_, by conv => (lhs; whnf)⟩
def c53_12 := gR c53_10
def n53_12 := A53 c53_12
def c53_13 := gT c53_12
def n53_13 := A53 c53_13
def c53_14 := gF c53_12
def n53_14 := A53 c53_14
def c53_15 := gR c53_9
def n53_15 := A53 c53_15
def c53_16 := gL c53_15
def n53_16 := A53 c53_16
def c53_17 := gB c53_16
def n53_17 := A53 c53_17
def c53_18 := gL c53_17
def n53_18 := A53 c53_18
def o53_18 : OL c53_18 := ⟨_, by conv => (lhs; whnf)⟩
def c53_19 := gR c53_17
def n53_19 := A53 c53_19
def c53_20 := gB c53_19
def n53_20 := A53 c53_20
def c53_21 := gL c53_20
def n53_21 := A53 c53_21
def o53_21 : OL c53_21 := ⟨_, by conv => (lhs; whnf)⟩
def c53_22 := gR c53_20
def n53_22 := A53 c53_22
def c53_23 := gT c53_22
def n53_23 := A53 c53_23
def c53_24 := gL c53_23
def n53_24 := A53 c53_24
def o53_24 : OL c53_24 := ⟨_, by conv => (lhs; whnf)⟩
def c53_25 := gR c53_23
def n53_25 := A53 c53_25
def o53_25 : OL c53_25 := ⟨_, by conv => (lhs; whnf)⟩
def c53_26 := gF c53_22
def n53_26 := A53 c53_26
def c53_27 := gL c53_26
def n53_27 := A53 c53_27
def o53_27 : OL c53_27 := ⟨_, by conv => (lhs; whnf)⟩
def c53_28 := gR c53_26
def n53_28 := A53 c53_28
def c53_29 := gT c53_28
def n53_29 := A53 c53_29
def o53_29 : OL c53_29 := ⟨_, by conv => (lhs; whnf)⟩
def c53_30 := gF c53_28
def n53_30 := A53 c53_30
def c53_31 := gL c53_30
def n53_31 := A53 c53_31
def o53_31 : OL c53_31 := ⟨_, by conv => (lhs; whnf)⟩
def c53_32 := gR c53_30
def n53_32 := A53 c53_32
def c53_33 := gT c53_32
def n53_33 := A53 c53_33
def c53_34 := gL c53_33
def n53_34 := A53 c53_34
def o53_34 : OL c53_34 := ⟨_, by conv => (lhs; whnf)⟩
def c53_35 := gR c53_33
def n53_35 := A53 c53_35
def o53_35 : OL c53_35 := ⟨_, by conv => (lhs; whnf)⟩
def c53_36 := gF c53_32
def n53_36 := A53 c53_36
def c53_37 := gR c53_15
def n53_37 := A53 c53_37
def o53_37 : OL c53_37 := ⟨_, by conv => (lhs; whnf)⟩
def c53_38 := gR c53_4
def n53_38 := A53 c53_38
def c53_39 := gL c53_38
def n53_39 := A53 c53_39
def o53_39 : OL c53_39 := ⟨_, by conv => (lhs; whnf)⟩
def c53_40 := gR c53_38
def n53_40 := A53 c53_40
theorem r_n53_1 : n53_1 s = behK 5 (stepsO X (annT 53) C (gO c53_1) o53_1.1 s) := q_region (annT 53) s 0 _ false rfl _ _ rfl rfl o53_1.2
theorem g_o53_1 : gdst (gO c53_1) j = (o53_1.1[j]?).bind Oper.dst := gd_eq o53_1.2 j
theorem r_n53_3 : n53_3 s = behK 13 (stepsO X (annT 53) C (gO c53_3) o53_3.1 s) := q_region (annT 53) s 1 _ false rfl _ _ rfl rfl o53_3.2
theorem g_o53_3 : gdst (gO c53_3) j = (o53_3.1[j]?).bind Oper.dst := gd_eq o53_3.2 j
theorem r_n53_6 : n53_6 s = behK 29 (stepsO X (annT 53) C (gO c53_6) o53_6.1 s) := q_region (annT 53) s 2 _ false rfl _ _ rfl rfl o53_6.2
theorem g_o53_6 : gdst (gO c53_6) j = (o53_6.1[j]?).bind Oper.dst := gd_eq o53_6.2 j
theorem r_n53_11 : n53_11 s = behK 541 (stepsO X (annT 53) C (gO c53_11) o53_11.1 s) := q_region (annT 53) s 3 _ false rfl _ _ rfl rfl o53_11.2
theorem g_o53_11 : gdst (gO c53_11) j = (o53_11.1[j]?).bind Oper.dst := gd_eq o53_11.2 j
theorem r_n53_13 : n53_13 s = some (.norm, s) := run_skip _ s
theorem r_n53_14 : n53_14 s = some (.exit 0, s) := run_exit _ s 0
theorem r_n53_12 : n53_12 s = condK (opv s.t (.tmp 9)) n53_13 n53_14 s := q_cond _ c53_13 c53_14 s (.tmp 9)
theorem r_n53_10 : n53_10 s = contK n53_12 (n53_11 s) := q_seq _ c53_11 c53_12 s
theorem r_n53_18 : n53_18 s = behK 65565 (stepsO X (annT 53) C (gO c53_18) o53_18.1 s) := q_region (annT 53) s 5 _ false rfl _ _ rfl rfl o53_18.2
theorem g_o53_18 : gdst (gO c53_18) j = (o53_18.1[j]?).bind Oper.dst := gd_eq o53_18.2 j
theorem r_n53_21 : n53_21 s = behK 196637 (stepsO X (annT 53) C (gO c53_21) o53_21.1 s) := q_region (annT 53) s 6 _ false rfl _ _ rfl rfl o53_21.2
theorem g_o53_21 : gdst (gO c53_21) j = (o53_21.1[j]?).bind Oper.dst := gd_eq o53_21.2 j
theorem r_n53_24 : n53_24 s = behK 29 (stepsO X (annT 53) C (gO c53_24) o53_24.1 s) := q_region (annT 53) s 7 _ false rfl _ _ rfl rfl o53_24.2
theorem g_o53_24 : gdst (gO c53_24) j = (o53_24.1[j]?).bind Oper.dst := gd_eq o53_24.2 j
theorem r_n53_25 : n53_25 s = behK 29 (stepsO X (annT 53) C (gO c53_25) o53_25.1 s) := q_region (annT 53) s 8 _ false rfl _ _ rfl rfl o53_25.2
theorem g_o53_25 : gdst (gO c53_25) j = (o53_25.1[j]?).bind Oper.dst := gd_eq o53_25.2 j
theorem r_n53_23 : n53_23 s = contK n53_25 (n53_24 s) := q_seq _ c53_24 c53_25 s
theorem r_n53_27 : n53_27 s = behK 67174429 (stepsO X (annT 53) C (gO c53_27) o53_27.1 s) := q_region (annT 53) s 9 _ false rfl _ _ rfl rfl o53_27.2
theorem g_o53_27 : gdst (gO c53_27) j = (o53_27.1[j]?).bind Oper.dst := gd_eq o53_27.2 j
theorem r_n53_29 : n53_29 s = behK 29 (stepsO X (annT 53) C (gO c53_29) o53_29.1 s) := q_region (annT 53) s 10 _ true rfl _ _ rfl rfl o53_29.2
theorem g_o53_29 : gdst (gO c53_29) j = (o53_29.1[j]?).bind Oper.dst := gd_eq o53_29.2 j
theorem r_n53_31 : n53_31 s = behK 274877906973 (stepsO X (annT 53) C (gO c53_31) o53_31.1 s) := q_region (annT 53) s 11 _ false rfl _ _ rfl rfl o53_31.2
theorem g_o53_31 : gdst (gO c53_31) j = (o53_31.1[j]?).bind Oper.dst := gd_eq o53_31.2 j
theorem r_n53_34 : n53_34 s = behK 29 (stepsO X (annT 53) C (gO c53_34) o53_34.1 s) := q_region (annT 53) s 12 _ false rfl _ _ rfl rfl o53_34.2
theorem g_o53_34 : gdst (gO c53_34) j = (o53_34.1[j]?).bind Oper.dst := gd_eq o53_34.2 j
theorem r_n53_35 : n53_35 s = behK 29 (stepsO X (annT 53) C (gO c53_35) o53_35.1 s) := q_region (annT 53) s 13 _ false rfl _ _ rfl rfl o53_35.2
theorem g_o53_35 : gdst (gO c53_35) j = (o53_35.1[j]?).bind Oper.dst := gd_eq o53_35.2 j
theorem r_n53_33 : n53_33 s = contK n53_35 (n53_34 s) := q_seq _ c53_34 c53_35 s
theorem r_n53_36 : n53_36 s = some (.norm, s) := run_skip _ s
theorem r_n53_32 : n53_32 s = condK (opv s.t (.tmp 38)) n53_33 n53_36 s := q_cond _ c53_33 c53_36 s (.tmp 38)
theorem r_n53_30 : n53_30 s = contK n53_32 (n53_31 s) := q_seq _ c53_31 c53_32 s
theorem r_n53_28 : n53_28 s = condK (opv s.t (.tmp 26)) n53_29 n53_30 s := q_cond _ c53_29 c53_30 s (.tmp 26)
theorem r_n53_26 : n53_26 s = contK n53_28 (n53_27 s) := q_seq _ c53_27 c53_28 s
theorem r_n53_22 : n53_22 s = condK (opv s.t (.tmp 17)) n53_23 n53_26 s := q_cond _ c53_23 c53_26 s (.tmp 17)
theorem r_n53_20 : n53_20 s = contK n53_22 (n53_21 s) := q_seq _ c53_21 c53_22 s
theorem r_n53_19 : n53_19 s = blkK 2 (n53_20 s) := q_block _ c53_20 s 2
theorem r_n53_17 : n53_17 s = contK n53_19 (n53_18 s) := q_seq _ c53_18 c53_19 s
theorem r_n53_16 : n53_16 s = blkK 1 (n53_17 s) := q_block _ c53_17 s 1
theorem r_n53_37 : n53_37 s = behK 29 (stepsO X (annT 53) C (gO c53_37) o53_37.1 s) := q_region (annT 53) s 4 _ false rfl _ _ rfl rfl o53_37.2
theorem g_o53_37 : gdst (gO c53_37) j = (o53_37.1[j]?).bind Oper.dst := gd_eq o53_37.2 j
theorem r_n53_15 : n53_15 s = contK n53_37 (n53_16 s) := q_seq _ c53_16 c53_37 s
theorem r_n53_9 : n53_9 s = contK n53_15 (n53_10 s) := q_seq _ c53_10 c53_15 s
theorem r_n53_8 : n53_8 s = loopK 29 s.st.length n53_8 (n53_9 s) := q_loop (annT 53) c53_9 s _ _ rfl rfl
theorem r_n53_7 : n53_7 s = blkK 0 (n53_8 s) := q_block _ c53_8 s 0
theorem r_n53_5 : n53_5 s = contK n53_7 (n53_6 s) := q_seq _ c53_6 c53_7 s
theorem r_n53_39 : n53_39 s = behK 4 (stepsO X (annT 53) C (gO c53_39) o53_39.1 s) := q_region (annT 53) s 14 _ false rfl _ _ rfl rfl o53_39.2
theorem g_o53_39 : gdst (gO c53_39) j = (o53_39.1[j]?).bind Oper.dst := gd_eq o53_39.2 j
theorem r_n53_40 : n53_40 s = some (.ret, s) := run_ret _ s
theorem r_n53_38 : n53_38 s = contK n53_40 (n53_39 s) := q_seq _ c53_39 c53_40 s
theorem r_n53_4 : n53_4 s = contK n53_38 (n53_5 s) := q_seq _ c53_5 c53_38 s
theorem r_n53_2 : n53_2 s = contK n53_4 (n53_3 s) := q_seq _ c53_3 c53_4 s
theorem r_n53_0 : n53_0 s = contK n53_2 (n53_1 s) := q_seq _ c53_1 c53_2 s
theorem va_53 : (annT 53).virt = [] := rfl
theorem wa_53 : (annT 53).wr = [] := rfl
theorem ya_53 : (annT 53).ty = [] := rfl
theorem cv_53 (call : Eng.Call) (wr : Bool) (args : List AV) (st : Store) : callV X call wr 53 args st = cvP call wr 53 args st (fzAll (fz false st 6) args) := cv_pure rfl rfl call wr args st
theorem p53 (ds : List D) : pureCall C 53 ds = ((n53_0 ⟨argsT 0 (ds.map .d), []⟩).bind (bodyR [.cell 2 24])).bind prOf := P_eq Try.f53 rfl rfl rfl rfl ds
theorem q53 (vs : List AV) (st : Store) : C 53 vs st = (n53_0 ⟨argsT 0 vs, st⟩).bind (bodyR [.cell 2 24]) := C_eq Try.f53 rfl rfl rfl rfl vs st
attribute [go_sem] r_n53_1 g_o53_1 o53_1 r_n53_3 g_o53_3 o53_3 r_n53_6 g_o53_6 o53_6 r_n53_11 g_o53_11 o53_11 r_n53_13 r_n53_14 r_n53_12 r_n53_10 r_n53_18 g_o53_18 o53_18 r_n53_21 g_o53_21 o53_21 r_n53_24 g_o53_24 o53_24 r_n53_25 g_o53_25 o53_25 r_n53_23 r_n53_27 g_o53_27 o53_27 r_n53_29 g_o53_29 o53_29 r_n53_31 g_o53_31 o53_31 r_n53_34 g_o53_34 o53_34 r_n53_35 g_o53_35 o53_35 r_n53_33 r_n53_36 r_n53_32 r_n53_30 r_n53_28 r_n53_26 r_n53_22 r_n53_20 r_n53_19 r_n53_17 r_n53_16 r_n53_37 g_o53_37 o53_37 r_n53_15 r_n53_9 r_n53_7 r_n53_5 r_n53_39 g_o53_39 o53_39 r_n53_40 r_n53_38 r_n53_4 r_n53_2 r_n53_0 va_53 wa_53 ya_53 cv_53
noncomputable def c14_0 : Code := Try.f14.body.getD .skip
noncomputable def A14 := run (annT 14)
def n14_0 := A14 c14_0
def c14_1 := gL c14_0
def n14_1 := A14 c14_1
def o14_1 : OL c14_1 := ⟨_, by conv => (lhs; whnf)⟩
def c14_2 := gR c14_0
def n14_2 := A14 c14_2
def c14_3 := gL c14_2
def n14_3 := A14 c14_3
def o14_3 : OL c14_3 := ⟨_, by conv => (lhs; whnf)⟩
def c14_4 := gR c14_2
def n14_4 := A14 c14_4
def c14_5 := gL c14_4
def n14_5 := A14 c14_5
def c14_6 := gL c14_5
def n14_6 := A14 c14_6
def o14_6 : OL c14_6 := ⟨_, by conv => (lhs; whnf)⟩
def c14_7 := gR c14_5
def n14_7 := A14 c14_7
def c14_8 := gT c14_7
def n14_8 := A14 c14_8
def c14_9 := gL c14_8
def n14_9 := A14 c14_9
def o14_9 : OL c14_9 := ⟨_, by conv => (lhs; whnf)⟩
def c14_10 := gR c14_8
def n14_10 := A14 c14_10
def c14_11 := gF c14_7
def n14_11 := A14 c14_11
def c14_12 := gR c14_4
def n14_12 := A14 c14_12
def c14_13 := gL c14_12
def n14_13 := A14 c14_13
def o14_13 : OL c14_13 := ⟨_, by conv => (lhs; whnf)⟩
def c14_14 := gR c14_12
def n14_14 := A14 c14_14
theorem r_n14_1 : n14_1 s = behK 6 (stepsO X (annT 14) C (gO c14_1) o14_1.1 s) := q_region (annT 14) s 0 _ false rfl _ _ rfl rfl o14_1.2
theorem g_o14_1 : gdst (gO c14_1) j = (o14_1.1[j]?).bind Oper.dst := gd_eq o14_1.2 j
theorem r_n14_3 : n14_3 s = behK 22 (stepsO X (annT 14) C (gO c14_3) o14_3.1 s) := q_region (annT 14) s 1 _ false rfl _ _ rfl rfl o14_3.2
theorem g_o14_3 : gdst (gO c14_3) j = (o14_3.1[j]?).bind Oper.dst := gd_eq o14_3.2 j
theorem r_n14_6 : n14_6 s = behK 131092 (stepsO X (annT 14) C (gO c14_6) o14_6.1 s) := q_region (annT 14) s 2 _ true rfl _ _ rfl rfl o14_6.2
theorem g_o14_6 : gdst (gO c14_6) j = (o14_6.1[j]?).bind Oper.dst := gd_eq o14_6.2 j
theorem r_n14_9 : n14_9 s = behK 12 (stepsO X (annT 14) C (gO c14_9) o14_9.1 s) := q_region (annT 14) s 3 _ false rfl _ _ rfl rfl o14_9.2
theorem g_o14_9 : gdst (gO c14_9) j = (o14_9.1[j]?).bind Oper.dst := gd_eq o14_9.2 j
theorem r_n14_10 : n14_10 s = some (.ret, s) := run_ret _ s
theorem r_n14_8 : n14_8 s = contK n14_10 (n14_9 s) := q_seq _ c14_9 c14_10 s
theorem r_n14_11 : n14_11 s = some (.norm, s) := run_skip _ s
theorem r_n14_7 : n14_7 s = condK (opv s.t (.tmp 17)) n14_8 n14_11 s := q_cond _ c14_8 c14_11 s (.tmp 17)
theorem r_n14_5 : n14_5 s = contK n14_7 (n14_6 s) := q_seq _ c14_6 c14_7 s
theorem r_n14_13 : n14_13 s = behK 12 (stepsO X (annT 14) C (gO c14_13) o14_13.1 s) := q_region (annT 14) s 4 _ false rfl _ _ rfl rfl o14_13.2
theorem g_o14_13 : gdst (gO c14_13) j = (o14_13.1[j]?).bind Oper.dst := gd_eq o14_13.2 j
theorem r_n14_14 : n14_14 s = some (.ret, s) := run_ret _ s
theorem r_n14_12 : n14_12 s = contK n14_14 (n14_13 s) := q_seq _ c14_13 c14_14 s
theorem r_n14_4 : n14_4 s = contK n14_12 (n14_5 s) := q_seq _ c14_5 c14_12 s
theorem r_n14_2 : n14_2 s = contK n14_4 (n14_3 s) := q_seq _ c14_3 c14_4 s
theorem r_n14_0 : n14_0 s = contK n14_2 (n14_1 s) := q_seq _ c14_1 c14_2 s
theorem va_14 : (annT 14).virt = [] := rfl
theorem wa_14 : (annT 14).wr = [] := rfl
theorem ya_14 : (annT 14).ty = [] := rfl
theorem cv_14 (call : Eng.Call) (wr : Bool) (args : List AV) (st : Store) : callV X call wr 14 args st = cvP call wr 14 args st (fzAll (fz false st 6) args) := cv_pure rfl rfl call wr args st
theorem p14 (ds : List D) : pureCall C 14 ds = ((n14_0 ⟨argsT 0 (ds.map .d), []⟩).bind (bodyR [.cell 2 27, .tmp 3])).bind prOf := P_eq Try.f14 rfl rfl rfl rfl ds
theorem q14 (vs : List AV) (st : Store) : C 14 vs st = (n14_0 ⟨argsT 0 vs, st⟩).bind (bodyR [.cell 2 27, .tmp 3]) := C_eq Try.f14 rfl rfl rfl rfl vs st
attribute [go_sem] r_n14_1 g_o14_1 o14_1 r_n14_3 g_o14_3 o14_3 r_n14_6 g_o14_6 o14_6 r_n14_9 g_o14_9 o14_9 r_n14_10 r_n14_8 r_n14_11 r_n14_7 r_n14_5 r_n14_13 g_o14_13 o14_13 r_n14_14 r_n14_12 r_n14_4 r_n14_2 r_n14_0 va_14 wa_14 ya_14 cv_14
noncomputable def c4_0 : Code := Try.f4.body.getD .skip
noncomputable def A4 := run (annT 4)
def n4_0 := A4 c4_0
def c4_1 := gL c4_0
def n4_1 := A4 c4_1
def o4_1 : OL c4_1 := ⟨_, by conv => (lhs; whnf)⟩
def c4_2 := gR c4_0
def n4_2 := A4 c4_2
def c4_3 := gL c4_2
def n4_3 := A4 c4_3
def c4_4 := gL c4_3
def n4_4 := A4 c4_4
def o4_4 : OL c4_4 := ⟨_, by conv => (lhs; whnf)⟩
def c4_5 := gR c4_3
def n4_5 := A4 c4_5
def c4_6 := gT c4_5
def n4_6 := A4 c4_6
def c4_7 := gL c4_6
def n4_7 := A4 c4_7
def o4_7 : OL c4_7 := ⟨_, by conv => (lhs; whnf)⟩
def c4_8 := gR c4_6
def n4_8 := A4 c4_8
def c4_9 := gF c4_5
def n4_9 := A4 c4_9
def c4_10 := gR c4_2
def n4_10 := A4 c4_10
def c4_11 := gL c4_10
def n4_11 := A4 c4_11
def o4_11 : OL c4_11 := ⟨_, by conv => (lhs; whnf)⟩
def c4_12 := gR c4_10
def n4_12 := A4 c4_12
def c4_13 := gL c4_12
def n4_13 := A4 c4_13
def o4_13 : OL c4_13 := ⟨_, by conv => (lhs; whnf)⟩
def c4_14 := gR c4_12
def n4_14 := A4 c4_14
def c4_15 := gL c4_14
def n4_15 := A4 c4_15
def o4_15 : OL c4_15 := ⟨_, by conv => (lhs; whnf)⟩
def c4_16 := gR c4_14
def n4_16 := A4 c4_16
def c4_17 := gL c4_16
def n4_17 := A4 c4_17
def o4_17 : OL c4_17 := ⟨_, by conv => (lhs; whnf)⟩
def c4_18 := gR c4_16
def n4_18 := A4 c4_18
def c4_19 := gL c4_18
def n4_19 := A4 c4_19
def o4_19 : OL c4_19 := ⟨_, by conv => (lhs; whnf)⟩
def c4_20 := gR c4_18
def n4_20 := A4 c4_20
theorem r_n4_1 : n4_1 s = behK 2 (stepsO X (annT 4) C (gO c4_1) o4_1.1 s) := q_region (annT 4) s 0 _ false rfl _ _ rfl rfl o4_1.2
theorem g_o4_1 : gdst (gO c4_1) j = (o4_1.1[j]?).bind Oper.dst := gd_eq o4_1.2 j
theorem r_n4_4 : n4_4 s = behK 8194 (stepsO X (annT 4) C (gO c4_4) o4_4.1 s) := q_region (annT 4) s 1 _ false rfl _ _ rfl rfl o4_4.2
theorem g_o4_4 : gdst (gO c4_4) j = (o4_4.1[j]?).bind Oper.dst := gd_eq o4_4.2 j
theorem r_n4_7 : n4_7 s = behK 4 (stepsO X (annT 4) C (gO c4_7) o4_7.1 s) := q_region (annT 4) s 2 _ false rfl _ _ rfl rfl o4_7.2
theorem g_o4_7 : gdst (gO c4_7) j = (o4_7.1[j]?).bind Oper.dst := gd_eq o4_7.2 j
theorem r_n4_8 : n4_8 s = some (.ret, s) := run_ret _ s
theorem r_n4_6 : n4_6 s = contK n4_8 (n4_7 s) := q_seq _ c4_7 c4_8 s
theorem r_n4_9 : n4_9 s = some (.norm, s) := run_skip _ s
theorem r_n4_5 : n4_5 s = condK (opv s.t (.tmp 13)) n4_6 n4_9 s := q_cond _ c4_6 c4_9 s (.tmp 13)
theorem r_n4_3 : n4_3 s = contK n4_5 (n4_4 s) := q_seq _ c4_4 c4_5 s
theorem r_n4_11 : n4_11 s = behK 26 (stepsO X (annT 4) C (gO c4_11) o4_11.1 s) := q_region (annT 4) s 3 _ false rfl _ _ rfl rfl o4_11.2
theorem g_o4_11 : gdst (gO c4_11) j = (o4_11.1[j]?).bind Oper.dst := gd_eq o4_11.2 j
theorem r_n4_13 : n4_13 s = behK 122 (stepsO X (annT 4) C (gO c4_13) o4_13.1 s) := q_region (annT 4) s 4 _ false rfl _ _ rfl rfl o4_13.2
theorem g_o4_13 : gdst (gO c4_13) j = (o4_13.1[j]?).bind Oper.dst := gd_eq o4_13.2 j
theorem r_n4_15 : n4_15 s = behK 506 (stepsO X (annT 4) C (gO c4_15) o4_15.1 s) := q_region (annT 4) s 5 _ false rfl _ _ rfl rfl o4_15.2
theorem g_o4_15 : gdst (gO c4_15) j = (o4_15.1[j]?).bind Oper.dst := gd_eq o4_15.2 j
theorem r_n4_17 : n4_17 s = behK 2042 (stepsO X (annT 4) C (gO c4_17) o4_17.1 s) := q_region (annT 4) s 6 _ false rfl _ _ rfl rfl o4_17.2
theorem g_o4_17 : gdst (gO c4_17) j = (o4_17.1[j]?).bind Oper.dst := gd_eq o4_17.2 j
theorem r_n4_19 : n4_19 s = behK 4 (stepsO X (annT 4) C (gO c4_19) o4_19.1 s) := q_region (annT 4) s 7 _ true rfl _ _ rfl rfl o4_19.2
theorem g_o4_19 : gdst (gO c4_19) j = (o4_19.1[j]?).bind Oper.dst := gd_eq o4_19.2 j
theorem r_n4_20 : n4_20 s = some (.ret, s) := run_ret _ s
theorem r_n4_18 : n4_18 s = contK n4_20 (n4_19 s) := q_seq _ c4_19 c4_20 s
theorem r_n4_16 : n4_16 s = contK n4_18 (n4_17 s) := q_seq _ c4_17 c4_18 s
theorem r_n4_14 : n4_14 s = contK n4_16 (n4_15 s) := q_seq _ c4_15 c4_16 s
theorem r_n4_12 : n4_12 s = contK n4_14 (n4_13 s) := q_seq _ c4_13 c4_14 s
theorem r_n4_10 : n4_10 s = contK n4_12 (n4_11 s) := q_seq _ c4_11 c4_12 s
theorem r_n4_2 : n4_2 s = contK n4_10 (n4_3 s) := q_seq _ c4_3 c4_10 s
theorem r_n4_0 : n4_0 s = contK n4_2 (n4_1 s) := q_seq _ c4_1 c4_2 s
theorem va_4 : (annT 4).virt = [] := rfl
theorem wa_4 : (annT 4).wr = [] := rfl
theorem ya_4 : (annT 4).ty = [] := rfl
theorem cv_4 (call : Eng.Call) (wr : Bool) (args : List AV) (st : Store) : callV X call wr 4 args st = cvP call wr 4 args st (fzAll (fz false st 6) args) := cv_pure rfl rfl call wr args st
theorem p4 (ds : List D) : pureCall C 4 ds = ((n4_0 ⟨argsT 0 (ds.map .d), []⟩).bind (bodyR [.tmp 2])).bind prOf := P_eq Try.f4 rfl rfl rfl rfl ds
theorem q4 (vs : List AV) (st : Store) : C 4 vs st = (n4_0 ⟨argsT 0 vs, st⟩).bind (bodyR [.tmp 2]) := C_eq Try.f4 rfl rfl rfl rfl vs st
attribute [go_sem] r_n4_1 g_o4_1 o4_1 r_n4_4 g_o4_4 o4_4 r_n4_7 g_o4_7 o4_7 r_n4_8 r_n4_6 r_n4_9 r_n4_5 r_n4_3 r_n4_11 g_o4_11 o4_11 r_n4_13 g_o4_13 o4_13 r_n4_15 g_o4_15 o4_15 r_n4_17 g_o4_17 o4_17 r_n4_19 g_o4_19 o4_19 r_n4_20 r_n4_18 r_n4_16 r_n4_14 r_n4_12 r_n4_10 r_n4_2 r_n4_0 va_4 wa_4 ya_4 cv_4
end
end Go.L25
