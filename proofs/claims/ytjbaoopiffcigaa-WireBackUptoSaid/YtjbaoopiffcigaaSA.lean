/- Layer 25: codes by their parts. Conditions: none. -/
import Derived.Test.YtjbaoopiffcigaaPC
set_option linter.unusedVariables false
namespace Go.L25
open Go Go.Eng Go.Proofs
set_option maxRecDepth 100000
noncomputable section
variable (s : S) (j : Nat)
noncomputable def c63_0 : Code := Try.f63.body.getD .skip
noncomputable def A63 := run (annT 63)
def n63_0 := A63 c63_0
def c63_1 := gL c63_0
def n63_1 := A63 c63_1
def o63_1 : OL c63_1 := ⟨_, by conv => (lhs; whnf)⟩
def c63_2 := gR c63_0
def n63_2 := A63 c63_2
def c63_3 := gL c63_2
def n63_3 := A63 c63_3
def c63_4 := gB c63_3
def n63_4 := A63 c63_4
def c63_5 := gL c63_4
def n63_5 := A63 c63_5
def o63_5 : OL c63_5 := ⟨_, by conv => (lhs; whnf)⟩
def c63_6 := gR c63_4
def n63_6 := A63 c63_6
def c63_7 := gT c63_6
def n63_7 := A63 c63_7
def c63_8 := gL c63_7
def n63_8 := A63 c63_8
def o63_8 : OL c63_8 := ⟨_, by conv => (lhs; whnf)⟩
def c63_9 := gR c63_7
def n63_9 := A63 c63_9
def c63_10 := gF c63_6
def n63_10 := A63 c63_10
def c63_11 := gL c63_10
def n63_11 := A63 c63_11
def o63_11 : OL c63_11 := ⟨_, by conv => (lhs; whnf)⟩
def c63_12 := gR c63_10
def n63_12 := A63 c63_12
def c63_13 := gT c63_12
def n63_13 := A63 c63_13
def c63_14 := gL c63_13
def n63_14 := A63 c63_14
def o63_14 : OL c63_14 := ⟨_, by conv => (lhs; whnf)⟩
def c63_15 := gR c63_13
def n63_15 := A63 c63_15
def c63_16 := gF c63_12
def n63_16 := A63 c63_16
def c63_17 := gR c63_2
def n63_17 := A63 c63_17
def c63_18 := gL c63_17
def n63_18 := A63 c63_18
def o63_18 : OL c63_18 := ⟨_, by conv => (lhs; whnf)⟩
def c63_19 := gR c63_17
def n63_19 := A63 c63_19
theorem r_n63_1 : n63_1 s = behK 1 (stepsO X (annT 63) C (gO c63_1) o63_1.1 s) := q_region (annT 63) s 0 _ false rfl _ _ rfl rfl o63_1.2
theorem g_o63_1 : gdst (gO c63_1) j = (o63_1.1[j]?).bind Oper.dst := gd_eq o63_1.2 j
theorem r_n63_5 : n63_5 s = behK 9 (stepsO X (annT 63) C (gO c63_5) o63_5.1 s) := q_region (annT 63) s 1 _ false rfl _ _ rfl rfl o63_5.2
theorem g_o63_5 : gdst (gO c63_5) j = (o63_5.1[j]?).bind Oper.dst := gd_eq o63_5.2 j
theorem r_n63_8 : n63_8 s = behK 4 (stepsO X (annT 63) C (gO c63_8) o63_8.1 s) := q_region (annT 63) s 2 _ false rfl _ _ rfl rfl o63_8.2
theorem g_o63_8 : gdst (gO c63_8) j = (o63_8.1[j]?).bind Oper.dst := gd_eq o63_8.2 j
theorem r_n63_9 : n63_9 s = some (.ret, s) := run_ret _ s
theorem r_n63_7 : n63_7 s = contK n63_9 (n63_8 s) := q_seq _ c63_8 c63_9 s
theorem r_n63_11 : n63_11 s = behK 1025 (stepsO X (annT 63) C (gO c63_11) o63_11.1 s) := q_region (annT 63) s 3 _ false rfl _ _ rfl rfl o63_11.2
theorem g_o63_11 : gdst (gO c63_11) j = (o63_11.1[j]?).bind Oper.dst := gd_eq o63_11.2 j
theorem r_n63_14 : n63_14 s = behK 4 (stepsO X (annT 63) C (gO c63_14) o63_14.1 s) := q_region (annT 63) s 4 _ false rfl _ _ rfl rfl o63_14.2
theorem g_o63_14 : gdst (gO c63_14) j = (o63_14.1[j]?).bind Oper.dst := gd_eq o63_14.2 j
theorem r_n63_15 : n63_15 s = some (.ret, s) := run_ret _ s
theorem r_n63_13 : n63_13 s = contK n63_15 (n63_14 s) := q_seq _ c63_14 c63_15 s
theorem r_n63_16 : n63_16 s = some (.norm, s) := run_skip _ s
theorem r_n63_12 : n63_12 s = condK (opv s.t (.tmp 10)) n63_13 n63_16 s := q_cond _ c63_13 c63_16 s (.tmp 10)
theorem r_n63_10 : n63_10 s = contK n63_12 (n63_11 s) := q_seq _ c63_11 c63_12 s
theorem r_n63_6 : n63_6 s = condK (opv s.t (.tmp 3)) n63_7 n63_10 s := q_cond _ c63_7 c63_10 s (.tmp 3)
theorem r_n63_4 : n63_4 s = contK n63_6 (n63_5 s) := q_seq _ c63_5 c63_6 s
theorem r_n63_3 : n63_3 s = blkK 0 (n63_4 s) := q_block _ c63_4 s 0
theorem r_n63_18 : n63_18 s = behK 4 (stepsO X (annT 63) C (gO c63_18) o63_18.1 s) := q_region (annT 63) s 5 _ false rfl _ _ rfl rfl o63_18.2
theorem g_o63_18 : gdst (gO c63_18) j = (o63_18.1[j]?).bind Oper.dst := gd_eq o63_18.2 j
theorem r_n63_19 : n63_19 s = some (.ret, s) := run_ret _ s
theorem r_n63_17 : n63_17 s = contK n63_19 (n63_18 s) := q_seq _ c63_18 c63_19 s
theorem r_n63_2 : n63_2 s = contK n63_17 (n63_3 s) := q_seq _ c63_3 c63_17 s
theorem r_n63_0 : n63_0 s = contK n63_2 (n63_1 s) := q_seq _ c63_1 c63_2 s
theorem va_63 : (annT 63).virt = [] := rfl
theorem wa_63 : (annT 63).wr = [] := rfl
theorem ya_63 : (annT 63).ty = [] := rfl
theorem cv_63 (call : Eng.Call) (wr : Bool) (args : List AV) (st : Store) : callV X call wr 63 args st = cvP call wr 63 args st (fzAll (fz false st 6) args) := cv_pure rfl rfl call wr args st
theorem p63 (ds : List D) : pureCall C 63 ds = ((n63_0 ⟨argsT 0 (ds.map .d), []⟩).bind (bodyR [.tmp 2])).bind prOf := P_eq Try.f63 rfl rfl rfl rfl ds
theorem q63 (vs : List AV) (st : Store) : C 63 vs st = (n63_0 ⟨argsT 0 vs, st⟩).bind (bodyR [.tmp 2]) := C_eq Try.f63 rfl rfl rfl rfl vs st
attribute [go_sem] r_n63_1 g_o63_1 o63_1 r_n63_5 g_o63_5 o63_5 r_n63_8 g_o63_8 o63_8 r_n63_9 r_n63_7 r_n63_11 g_o63_11 o63_11 r_n63_14 g_o63_14 o63_14 r_n63_15 r_n63_13 r_n63_16 r_n63_12 r_n63_10 r_n63_6 r_n63_4 r_n63_3 r_n63_18 g_o63_18 o63_18 r_n63_19 r_n63_17 r_n63_2 r_n63_0 va_63 wa_63 ya_63 cv_63
noncomputable def c64_0 : Code := Try.f64.body.getD .skip
noncomputable def A64 := run (annT 64)
def n64_0 := A64 c64_0
def c64_1 := gL c64_0
def n64_1 := A64 c64_1
def o64_1 : OL c64_1 := ⟨_, by conv => (lhs; whnf)⟩
def c64_2 := gR c64_0
def n64_2 := A64 c64_2
def c64_3 := gB c64_2
def n64_3 := A64 c64_3
def c64_4 := gL c64_3
def n64_4 := A64 c64_4
def o64_4 : OL c64_4 := ⟨_, by conv => (lhs; whnf)⟩
def c64_5 := gR c64_3
def n64_5 := A64 c64_5
def c64_6 := gL c64_5
def n64_6 := A64 c64_6
def c64_7 := gL c64_6
def n64_7 := A64 c64_7
def o64_7 : OL c64_7 := ⟨_, by conv => (lhs; whnf)⟩
def c64_8 := gR c64_6
def n64_8 := A64 c64_8
def c64_9 := gT c64_8
def n64_9 := A64 c64_9
def c64_10 := gF c64_8
def n64_10 := A64 c64_10
def c64_11 := gR c64_5
def n64_11 := A64 c64_11
def c64_12 := gL c64_11
def n64_12 := A64 c64_12
def o64_12 : OL c64_12 := ⟨_, by conv => (lhs; whnf)⟩
def c64_13 := gR c64_11
def n64_13 := A64 c64_13
def c64_14 := gL c64_13
def n64_14 := A64 c64_14
def o64_14 : OL c64_14 := ⟨_, by conv => (lhs; whnf)⟩
def c64_15 := gR c64_13
def n64_15 := A64 c64_15
def c64_16 := gL c64_15
def n64_16 := A64 c64_16
def c64_17 := gL c64_16
def n64_17 := A64 c64_17
def o64_17 : OL c64_17 := ⟨_, by conv => (lhs; whnf)⟩
def c64_18 := gR c64_16
def n64_18 := A64 c64_18
def c64_19 := gT c64_18
def n64_19 := A64 c64_19
def c64_20 := gL c64_19
def n64_20 := A64 c64_20
def o64_20 : OL c64_20 := ⟨_, by conv => (lhs; whnf)⟩
def c64_21 := gR c64_19
def n64_21 := A64 c64_21
def c64_22 := gF c64_18
def n64_22 := A64 c64_22
def c64_23 := gR c64_15
def n64_23 := A64 c64_23
def c64_24 := gL c64_23
def n64_24 := A64 c64_24
def o64_24 : OL c64_24 := ⟨_, by conv => (lhs; whnf)⟩
def c64_25 := gR c64_23
def n64_25 := A64 c64_25
def c64_26 := gL c64_25
def n64_26 := A64 c64_26
def c64_27 := gL c64_26
def n64_27 := A64 c64_27
def o64_27 : OL c64_27 := ⟨_, by conv => (lhs; whnf)⟩
def c64_28 := gR c64_26
def n64_28 := A64 c64_28
def c64_29 := gT c64_28
def n64_29 := A64 c64_29
def c64_30 := gF c64_28
def n64_30 := A64 c64_30
def c64_31 := gR c64_25
def n64_31 := A64 c64_31
def c64_32 := gL c64_31
def n64_32 := A64 c64_32
def c64_33 := gL c64_32
def n64_33 := A64 c64_33
def o64_33 : OL c64_33 := ⟨_, by conv => (lhs; whnf)⟩
def c64_34 := gR c64_32
def n64_34 := A64 c64_34
def c64_35 := gT c64_34
def n64_35 := A64 c64_35
def c64_36 := gF c64_34
def n64_36 := A64 c64_36
def c64_37 := gR c64_31
def n64_37 := A64 c64_37
def c64_38 := gL c64_37
def n64_38 := A64 c64_38
def o64_38 : OL c64_38 := ⟨_, by conv => (lhs; whnf)⟩
def c64_39 := gR c64_37
def n64_39 := A64 c64_39
def c64_40 := gL c64_39
def n64_40 := A64 c64_40
def c64_41 := gL c64_40
def n64_41 := A64 c64_41
def o64_41 : OL c64_41 := ⟨_, by conv => (lhs; whnf)⟩
def c64_42 := gR c64_40
def n64_42 := A64 c64_42
def c64_43 := gT c64_42
def n64_43 := A64 c64_43
def o64_43 : OL c64_43 := ⟨_, by conv => (lhs; whnf)⟩
def c64_44 := gF c64_42
def n64_44 := A64 c64_44
def c64_45 := gR c64_39
def n64_45 := A64 c64_45
def c64_46 := gL c64_45
def n64_46 := A64 c64_46
def c64_47 := gL c64_46
def n64_47 := A64 c64_47
def o64_47 : OL c64_47 := ⟨_, by conv => (lhs; whnf)⟩
def c64_48 := gR c64_46
def n64_48 := A64 c64_48
def c64_49 := gT c64_48
def n64_49 := A64 c64_49
def c64_50 := gF c64_48
def n64_50 := A64 c64_50
def c64_51 := gR c64_45
def n64_51 := A64 c64_51
def c64_52 := gL c64_51
def n64_52 := A64 c64_52
def c64_53 := gL c64_52
def n64_53 := A64 c64_53
def o64_53 : OL c64_53 := ⟨_, by conv => (lhs; whnf)⟩
def c64_54 := gR c64_52
def n64_54 := A64 c64_54
def c64_55 := gR c64_51
def n64_55 := A64 c64_55
def c64_56 := gL c64_55
def n64_56 := A64 c64_56
def c64_57 := gR c64_55
def n64_57 := A64 c64_57
def c64_58 := gL c64_57
def n64_58 := A64 c64_58
def c64_59 := gL c64_58
def n64_59 := A64 c64_59
def o64_59 : OL c64_59 := ⟨_, by conv => (lhs; whnf)⟩
def c64_60 := gR c64_58
def n64_60 := A64 c64_60
def c64_61 := gR c64_57
def n64_61 := A64 c64_61
def c64_62 := gL c64_61
def n64_62 := A64 c64_62
def c64_63 := gR c64_61
def n64_63 := A64 c64_63
def c64_64 := gL c64_63
def n64_64 := A64 c64_64
def o64_64 : OL c64_64 := ⟨_, by conv => (lhs; whnf)⟩
def c64_65 := gR c64_63
def n64_65 := A64 c64_65
theorem r_n64_1 : n64_1 s = behK 3 (stepsO X (annT 64) C (gO c64_1) o64_1.1 s) := q_region (annT 64) s 0 _ false rfl _ _ rfl rfl o64_1.2
theorem g_o64_1 : gdst (gO c64_1) j = (o64_1.1[j]?).bind Oper.dst := gd_eq o64_1.2 j
theorem r_n64_4 : n64_4 s = behK 3 (stepsO X (annT 64) C (gO c64_4) o64_4.1 s) := q_region (annT 64) s 1 _ false rfl _ _ rfl rfl o64_4.2
theorem g_o64_4 : gdst (gO c64_4) j = (o64_4.1[j]?).bind Oper.dst := gd_eq o64_4.2 j
theorem r_n64_7 : n64_7 s = behK 4099 (stepsO X (annT 64) C (gO c64_7) o64_7.1 s) := q_region (annT 64) s 2 _ false rfl _ _ rfl rfl o64_7.2
theorem g_o64_7 : gdst (gO c64_7) j = (o64_7.1[j]?).bind Oper.dst := gd_eq o64_7.2 j
theorem r_n64_9 : n64_9 s = some (.goto 0, s) := run_goto _ s 0
theorem r_n64_10 : n64_10 s = some (.norm, s) := run_skip _ s
theorem r_n64_8 : n64_8 s = condK (opv s.t (.tmp 12)) n64_9 n64_10 s := q_cond _ c64_9 c64_10 s (.tmp 12)
theorem r_n64_6 : n64_6 s = contK n64_8 (n64_7 s) := q_seq _ c64_7 c64_8 s
theorem r_n64_12 : n64_12 s = behK 131 (stepsO X (annT 64) C (gO c64_12) o64_12.1 s) := q_region (annT 64) s 3 _ false rfl _ _ rfl rfl o64_12.2
theorem g_o64_12 : gdst (gO c64_12) j = (o64_12.1[j]?).bind Oper.dst := gd_eq o64_12.2 j
theorem r_n64_14 : n64_14 s = behK 131 (stepsO X (annT 64) C (gO c64_14) o64_14.1 s) := q_region (annT 64) s 4 _ false rfl _ _ rfl rfl o64_14.2
theorem g_o64_14 : gdst (gO c64_14) j = (o64_14.1[j]?).bind Oper.dst := gd_eq o64_14.2 j
theorem r_n64_17 : n64_17 s = behK 1048707 (stepsO X (annT 64) C (gO c64_17) o64_17.1 s) := q_region (annT 64) s 5 _ false rfl _ _ rfl rfl o64_17.2
theorem g_o64_17 : gdst (gO c64_17) j = (o64_17.1[j]?).bind Oper.dst := gd_eq o64_17.2 j
theorem r_n64_20 : n64_20 s = behK 112 (stepsO X (annT 64) C (gO c64_20) o64_20.1 s) := q_region (annT 64) s 6 _ false rfl _ _ rfl rfl o64_20.2
theorem g_o64_20 : gdst (gO c64_20) j = (o64_20.1[j]?).bind Oper.dst := gd_eq o64_20.2 j
theorem r_n64_21 : n64_21 s = some (.ret, s) := run_ret _ s
theorem r_n64_19 : n64_19 s = contK n64_21 (n64_20 s) := q_seq _ c64_20 c64_21 s
theorem r_n64_22 : n64_22 s = some (.norm, s) := run_skip _ s
theorem r_n64_18 : n64_18 s = condK (opv s.t (.tmp 20)) n64_19 n64_22 s := q_cond _ c64_19 c64_22 s (.tmp 20)
theorem r_n64_16 : n64_16 s = contK n64_18 (n64_17 s) := q_seq _ c64_17 c64_18 s
theorem r_n64_24 : n64_24 s = behK 259 (stepsO X (annT 64) C (gO c64_24) o64_24.1 s) := q_region (annT 64) s 7 _ false rfl _ _ rfl rfl o64_24.2
theorem g_o64_24 : gdst (gO c64_24) j = (o64_24.1[j]?).bind Oper.dst := gd_eq o64_24.2 j
theorem r_n64_27 : n64_27 s = behK 1073742083 (stepsO X (annT 64) C (gO c64_27) o64_27.1 s) := q_region (annT 64) s 8 _ false rfl _ _ rfl rfl o64_27.2
theorem g_o64_27 : gdst (gO c64_27) j = (o64_27.1[j]?).bind Oper.dst := gd_eq o64_27.2 j
theorem r_n64_29 : n64_29 s = some (.goto 1, s) := run_goto _ s 1
theorem r_n64_30 : n64_30 s = some (.norm, s) := run_skip _ s
theorem r_n64_28 : n64_28 s = condK (opv s.t (.tmp 30)) n64_29 n64_30 s := q_cond _ c64_29 c64_30 s (.tmp 30)
theorem r_n64_26 : n64_26 s = contK n64_28 (n64_27 s) := q_seq _ c64_27 c64_28 s
theorem r_n64_33 : n64_33 s = behK 68719476995 (stepsO X (annT 64) C (gO c64_33) o64_33.1 s) := q_region (annT 64) s 9 _ false rfl _ _ rfl rfl o64_33.2
theorem g_o64_33 : gdst (gO c64_33) j = (o64_33.1[j]?).bind Oper.dst := gd_eq o64_33.2 j
theorem r_n64_35 : n64_35 s = some (.goto 0, s) := run_goto _ s 0
theorem r_n64_36 : n64_36 s = some (.norm, s) := run_skip _ s
theorem r_n64_34 : n64_34 s = condK (opv s.t (.tmp 36)) n64_35 n64_36 s := q_cond _ c64_35 c64_36 s (.tmp 36)
theorem r_n64_32 : n64_32 s = contK n64_34 (n64_33 s) := q_seq _ c64_33 c64_34 s
theorem r_n64_38 : n64_38 s = behK 387 (stepsO X (annT 64) C (gO c64_38) o64_38.1 s) := q_region (annT 64) s 10 _ false rfl _ _ rfl rfl o64_38.2
theorem g_o64_38 : gdst (gO c64_38) j = (o64_38.1[j]?).bind Oper.dst := gd_eq o64_38.2 j
theorem r_n64_41 : n64_41 s = behK 4398046511491 (stepsO X (annT 64) C (gO c64_41) o64_41.1 s) := q_region (annT 64) s 11 _ false rfl _ _ rfl rfl o64_41.2
theorem g_o64_41 : gdst (gO c64_41) j = (o64_41.1[j]?).bind Oper.dst := gd_eq o64_41.2 j
theorem r_n64_43 : n64_43 s = behK 386 (stepsO X (annT 64) C (gO c64_43) o64_43.1 s) := q_region (annT 64) s 12 _ false rfl _ _ rfl rfl o64_43.2
theorem g_o64_43 : gdst (gO c64_43) j = (o64_43.1[j]?).bind Oper.dst := gd_eq o64_43.2 j
theorem r_n64_44 : n64_44 s = some (.norm, s) := run_skip _ s
theorem r_n64_42 : n64_42 s = condK (opv s.t (.tmp 42)) n64_43 n64_44 s := q_cond _ c64_43 c64_44 s (.tmp 42)
theorem r_n64_40 : n64_40 s = contK n64_42 (n64_41 s) := q_seq _ c64_41 c64_42 s
theorem r_n64_47 : n64_47 s = behK 72057594037928322 (stepsO X (annT 64) C (gO c64_47) o64_47.1 s) := q_region (annT 64) s 13 _ false rfl _ _ rfl rfl o64_47.2
theorem g_o64_47 : gdst (gO c64_47) j = (o64_47.1[j]?).bind Oper.dst := gd_eq o64_47.2 j
theorem r_n64_49 : n64_49 s = some (.goto 1, s) := run_goto _ s 1
theorem r_n64_50 : n64_50 s = some (.norm, s) := run_skip _ s
theorem r_n64_48 : n64_48 s = condK (opv s.t (.tmp 56)) n64_49 n64_50 s := q_cond _ c64_49 c64_50 s (.tmp 56)
theorem r_n64_46 : n64_46 s = contK n64_48 (n64_47 s) := q_seq _ c64_47 c64_48 s
theorem r_n64_53 : n64_53 s = behK 112 (stepsO X (annT 64) C (gO c64_53) o64_53.1 s) := q_region (annT 64) s 14 _ false rfl _ _ rfl rfl o64_53.2
theorem g_o64_53 : gdst (gO c64_53) j = (o64_53.1[j]?).bind Oper.dst := gd_eq o64_53.2 j
theorem r_n64_54 : n64_54 s = some (.ret, s) := run_ret _ s
theorem r_n64_52 : n64_52 s = contK n64_54 (n64_53 s) := q_seq _ c64_53 c64_54 s
theorem r_n64_56 : n64_56 s = some (.norm, s) := run_label _ s 0
theorem r_n64_59 : n64_59 s = behK 112 (stepsO X (annT 64) C (gO c64_59) o64_59.1 s) := q_region (annT 64) s 15 _ false rfl _ _ rfl rfl o64_59.2
theorem g_o64_59 : gdst (gO c64_59) j = (o64_59.1[j]?).bind Oper.dst := gd_eq o64_59.2 j
theorem r_n64_60 : n64_60 s = some (.ret, s) := run_ret _ s
theorem r_n64_58 : n64_58 s = contK n64_60 (n64_59 s) := q_seq _ c64_59 c64_60 s
theorem r_n64_62 : n64_62 s = some (.norm, s) := run_label _ s 1
theorem r_n64_64 : n64_64 s = behK 112 (stepsO X (annT 64) C (gO c64_64) o64_64.1 s) := q_region (annT 64) s 16 _ false rfl _ _ rfl rfl o64_64.2
theorem g_o64_64 : gdst (gO c64_64) j = (o64_64.1[j]?).bind Oper.dst := gd_eq o64_64.2 j
theorem r_n64_65 : n64_65 s = some (.ret, s) := run_ret _ s
theorem r_n64_63 : n64_63 s = contK n64_65 (n64_64 s) := q_seq _ c64_64 c64_65 s
theorem r_n64_61 : n64_61 s = contK n64_63 (n64_62 s) := q_seq _ c64_62 c64_63 s
theorem r_n64_57 : n64_57 s = contK n64_61 (n64_58 s) := q_seq _ c64_58 c64_61 s
theorem r_n64_55 : n64_55 s = contK n64_57 (n64_56 s) := q_seq _ c64_56 c64_57 s
theorem r_n64_51 : n64_51 s = contK n64_55 (n64_52 s) := q_seq _ c64_52 c64_55 s
theorem r_n64_45 : n64_45 s = contK n64_51 (n64_46 s) := q_seq _ c64_46 c64_51 s
theorem r_n64_39 : n64_39 s = contK n64_45 (n64_40 s) := q_seq _ c64_40 c64_45 s
theorem r_n64_37 : n64_37 s = contK n64_39 (n64_38 s) := q_seq _ c64_38 c64_39 s
theorem r_n64_31 : n64_31 s = contK n64_37 (n64_32 s) := q_seq _ c64_32 c64_37 s
theorem r_n64_25 : n64_25 s = contK n64_31 (n64_26 s) := q_seq _ c64_26 c64_31 s
theorem r_n64_23 : n64_23 s = contK n64_25 (n64_24 s) := q_seq _ c64_24 c64_25 s
theorem r_n64_15 : n64_15 s = contK n64_23 (n64_16 s) := q_seq _ c64_16 c64_23 s
theorem r_n64_13 : n64_13 s = contK n64_15 (n64_14 s) := q_seq _ c64_14 c64_15 s
theorem r_n64_11 : n64_11 s = contK n64_13 (n64_12 s) := q_seq _ c64_12 c64_13 s
theorem r_n64_5 : n64_5 s = contK n64_11 (n64_6 s) := q_seq _ c64_6 c64_11 s
theorem r_n64_3 : n64_3 s = contK n64_5 (n64_4 s) := q_seq _ c64_4 c64_5 s
theorem r_n64_2 : n64_2 s = (n64_3 s).bind fun r => match r.1 with
    | .goto l => (match findLabel c64_3 l with
      | some rest => (run (annT 64) rest r.2).bind fun r => match r.1 with
        | .goto _ => none
        | e => some (e, r.2)
      | none => none)
    | e => some (e, r.2) := run_scope (annT 64) c64_3 s
theorem r_n64_0 : n64_0 s = contK n64_2 (n64_1 s) := q_seq _ c64_1 c64_2 s
theorem va_64 : (annT 64).virt = [] := rfl
theorem wa_64 : (annT 64).wr = [] := rfl
theorem ya_64 : (annT 64).ty = [] := rfl
theorem cv_64 (call : Eng.Call) (wr : Bool) (args : List AV) (st : Store) : callV X call wr 64 args st = cvP call wr 64 args st (fzAll (fz false st 6) args) := cv_pure rfl rfl call wr args st
theorem p64 (ds : List D) : pureCall C 64 ds = ((n64_0 ⟨argsT 0 (ds.map .d), []⟩).bind (bodyR [.tmp 4, .tmp 5, .tmp 6])).bind prOf := P_eq Try.f64 rfl rfl rfl rfl ds
theorem q64 (vs : List AV) (st : Store) : C 64 vs st = (n64_0 ⟨argsT 0 vs, st⟩).bind (bodyR [.tmp 4, .tmp 5, .tmp 6]) := C_eq Try.f64 rfl rfl rfl rfl vs st
attribute [go_sem] r_n64_1 g_o64_1 o64_1 r_n64_4 g_o64_4 o64_4 r_n64_7 g_o64_7 o64_7 r_n64_9 r_n64_10 r_n64_8 r_n64_6 r_n64_12 g_o64_12 o64_12 r_n64_14 g_o64_14 o64_14 r_n64_17 g_o64_17 o64_17 r_n64_20 g_o64_20 o64_20 r_n64_21 r_n64_19 r_n64_22 r_n64_18 r_n64_16 r_n64_24 g_o64_24 o64_24 r_n64_27 g_o64_27 o64_27 r_n64_29 r_n64_30 r_n64_28 r_n64_26 r_n64_33 g_o64_33 o64_33 r_n64_35 r_n64_36 r_n64_34 r_n64_32 r_n64_38 g_o64_38 o64_38 r_n64_41 g_o64_41 o64_41 r_n64_43 g_o64_43 o64_43 r_n64_44 r_n64_42 r_n64_40 r_n64_47 g_o64_47 o64_47 r_n64_49 r_n64_50 r_n64_48 r_n64_46 r_n64_53 g_o64_53 o64_53 r_n64_54 r_n64_52 r_n64_56 r_n64_59 g_o64_59 o64_59 r_n64_60 r_n64_58 r_n64_62 r_n64_64 g_o64_64 o64_64 r_n64_65 r_n64_63 r_n64_61 r_n64_57 r_n64_55 r_n64_51 r_n64_45 r_n64_39 r_n64_37 r_n64_31 r_n64_25 r_n64_23 r_n64_15 r_n64_13 r_n64_11 r_n64_5 r_n64_3 r_n64_2 r_n64_0 va_64 wa_64 ya_64 cv_64
noncomputable def c40_0 : Code := Try.f40.body.getD .skip
noncomputable def A40 := run (annT 40)
def n40_0 := A40 c40_0
def c40_1 := gL c40_0
def n40_1 := A40 c40_1
def o40_1 : OL c40_1 := ⟨_, by conv => (lhs; whnf)⟩
def c40_2 := gR c40_0
def n40_2 := A40 c40_2
def c40_3 := gL c40_2
def n40_3 := A40 c40_3
def c40_4 := gL c40_3
def n40_4 := A40 c40_4
def o40_4 : OL c40_4 := ⟨_, by conv => (lhs; whnf)⟩
def c40_5 := gR c40_3
def n40_5 := A40 c40_5
def c40_6 := gT c40_5
def n40_6 := A40 c40_6
def c40_7 := gL c40_6
def n40_7 := A40 c40_7
def o40_7 : OL c40_7 := ⟨_, by conv => (lhs; whnf)⟩
def c40_8 := gR c40_6
def n40_8 := A40 c40_8
def c40_9 := gF c40_5
def n40_9 := A40 c40_9
def c40_10 := gR c40_2
def n40_10 := A40 c40_10
def c40_11 := gL c40_10
def n40_11 := A40 c40_11
def o40_11 : OL c40_11 := ⟨_, by conv => (lhs; whnf)⟩
def c40_12 := gR c40_10
def n40_12 := A40 c40_12
def c40_13 := gL c40_12
def n40_13 := A40 c40_13
def o40_13 : OL c40_13 := ⟨_, by conv => (lhs; whnf)⟩
def c40_14 := gR c40_12
def n40_14 := A40 c40_14
def c40_15 := gL c40_14
def n40_15 := A40 c40_15
def c40_16 := gL c40_15
def n40_16 := A40 c40_16
def o40_16 : OL c40_16 := ⟨_, by conv => (lhs; whnf)⟩
def c40_17 := gR c40_15
def n40_17 := A40 c40_17
def c40_18 := gT c40_17
def n40_18 := A40 c40_18
def c40_19 := gL c40_18
def n40_19 := A40 c40_19
def o40_19 : OL c40_19 := ⟨_, by conv => (lhs; whnf)⟩
def c40_20 := gR c40_18
def n40_20 := A40 c40_20
def c40_21 := gF c40_17
def n40_21 := A40 c40_21
def c40_22 := gR c40_14
def n40_22 := A40 c40_22
def c40_23 := gL c40_22
def n40_23 := A40 c40_23
def o40_23 : OL c40_23 := ⟨_, by conv => (lhs; whnf)⟩
def c40_24 := gR c40_22
def n40_24 := A40 c40_24
def c40_25 := gL c40_24
def n40_25 := A40 c40_25
def c40_26 := gB c40_25
def n40_26 := A40 c40_26
def c40_27 := gL c40_26
def n40_27 := A40 c40_27
def o40_27 : OL c40_27 := ⟨_, by conv => (lhs; whnf)⟩
def c40_28 := gR c40_26
def n40_28 := A40 c40_28
def c40_29 := gT c40_28
def n40_29 := A40 c40_29
def c40_30 := gL c40_29
def n40_30 := A40 c40_30
def o40_30 : OL c40_30 := ⟨_, by conv => (lhs; whnf)⟩
def c40_31 := gR c40_29
def n40_31 := A40 c40_31
def c40_32 := gF c40_28
def n40_32 := A40 c40_32
def c40_33 := gL c40_32
def n40_33 := A40 c40_33
def o40_33 : OL c40_33 := ⟨_, by conv => (lhs; whnf)⟩
def c40_34 := gR c40_32
def n40_34 := A40 c40_34
def c40_35 := gT c40_34
def n40_35 := A40 c40_35
def c40_36 := gL c40_35
def n40_36 := A40 c40_36
def o40_36 : OL c40_36 := ⟨_, by conv => (lhs; whnf)⟩
def c40_37 := gR c40_35
def n40_37 := A40 c40_37
def c40_38 := gF c40_34
def n40_38 := A40 c40_38
def c40_39 := gL c40_38
def n40_39 := A40 c40_39
def o40_39 : OL c40_39 := ⟨_, by conv => (lhs; whnf)⟩
def c40_40 := gR c40_38
def n40_40 := A40 c40_40
def c40_41 := gT c40_40
def n40_41 := A40 c40_41
def c40_42 := gL c40_41
def n40_42 := A40 c40_42
def o40_42 : OL c40_42 := ⟨_, by conv => (lhs; whnf)⟩
def c40_43 := gR c40_41
def n40_43 := A40 c40_43
def c40_44 := gF c40_40
def n40_44 := A40 c40_44
def c40_45 := gR c40_24
def n40_45 := A40 c40_45
def c40_46 := gL c40_45
def n40_46 := A40 c40_46
def o40_46 : OL c40_46 := ⟨_, by conv => (lhs; whnf)⟩
def c40_47 := gR c40_45
def n40_47 := A40 c40_47
def c40_48 := gL c40_47
def n40_48 := A40 c40_48
def c40_49 := gL c40_48
def n40_49 := A40 c40_49
def o40_49 : OL c40_49 := ⟨_, by conv => (lhs; whnf)⟩
def c40_50 := gR c40_48
def n40_50 := A40 c40_50
def c40_51 := gT c40_50
def n40_51 := A40 c40_51
def c40_52 := gL c40_51
def n40_52 := A40 c40_52
def o40_52 : OL c40_52 := ⟨_, by conv => (lhs; whnf)⟩
def c40_53 := gR c40_51
def n40_53 := A40 c40_53
def c40_54 := gL c40_53
def n40_54 := A40 c40_54
def o40_54 : OL c40_54 := ⟨_, by conv => (lhs; whnf)⟩
def c40_55 := gR c40_53
def n40_55 := A40 c40_55
def c40_56 := gF c40_50
def n40_56 := A40 c40_56
def c40_57 := gR c40_47
def n40_57 := A40 c40_57
def c40_58 := gL c40_57
def n40_58 := A40 c40_58
def c40_59 := gL c40_58
def n40_59 := A40 c40_59
def o40_59 : OL c40_59 := ⟨_, by conv => (lhs; whnf)⟩
def c40_60 := gR c40_58
def n40_60 := A40 c40_60
def c40_61 := gT c40_60
def n40_61 := A40 c40_61
def c40_62 := gL c40_61
def n40_62 := A40 c40_62
def o40_62 : OL c40_62 := ⟨_, by conv => (lhs; whnf)⟩
def c40_63 := gR c40_61
def n40_63 := A40 c40_63
def c40_64 := gF c40_60
def n40_64 := A40 c40_64
def c40_65 := gR c40_57
def n40_65 := A40 c40_65
def c40_66 := gL c40_65
def n40_66 := A40 c40_66
def o40_66 : OL c40_66 := ⟨_, by conv => (lhs; whnf)⟩
def c40_67 := gR c40_65
def n40_67 := A40 c40_67
def c40_68 := gL c40_67
def n40_68 := A40 c40_68
def c40_69 := gL c40_68
def n40_69 := A40 c40_69
def o40_69 : OL c40_69 := ⟨_, by conv => (lhs; whnf)⟩
def c40_70 := gR c40_68
def n40_70 := A40 c40_70
def c40_71 := gT c40_70
def n40_71 := A40 c40_71
def c40_72 := gL c40_71
def n40_72 := A40 c40_72
def o40_72 : OL c40_72 := ⟨_, by conv => (lhs; whnf)⟩
def c40_73 := gR c40_71
def n40_73 := A40 c40_73
def c40_74 := gF c40_70
def n40_74 := A40 c40_74
def c40_75 := gR c40_67
def n40_75 := A40 c40_75
def c40_76 := gL c40_75
def n40_76 := A40 c40_76
def o40_76 : OL c40_76 := ⟨_, by conv => (lhs; whnf)⟩
def c40_77 := gR c40_75
def n40_77 := A40 c40_77
def c40_78 := gL c40_77
def n40_78 := A40 c40_78
def o40_78 : OL c40_78 := ⟨_, by conv => (lhs; whnf)⟩
def c40_79 := gR c40_77
def n40_79 := A40 c40_79
theorem r_n40_1 : n40_1 s = behK 71 (stepsO X (annT 40) C (gO c40_1) o40_1.1 s) := q_region (annT 40) s 0 _ false rfl _ _ rfl rfl o40_1.2
theorem g_o40_1 : gdst (gO c40_1) j = (o40_1.1[j]?).bind Oper.dst := gd_eq o40_1.2 j
theorem r_n40_4 : n40_4 s = behK 524359 (stepsO X (annT 40) C (gO c40_4) o40_4.1 s) := q_region (annT 40) s 1 _ false rfl _ _ rfl rfl o40_4.2
theorem g_o40_4 : gdst (gO c40_4) j = (o40_4.1[j]?).bind Oper.dst := gd_eq o40_4.2 j
theorem r_n40_7 : n40_7 s = behK 448 (stepsO X (annT 40) C (gO c40_7) o40_7.1 s) := q_region (annT 40) s 2 _ false rfl _ _ rfl rfl o40_7.2
theorem g_o40_7 : gdst (gO c40_7) j = (o40_7.1[j]?).bind Oper.dst := gd_eq o40_7.2 j
theorem r_n40_8 : n40_8 s = some (.ret, s) := run_ret _ s
theorem r_n40_6 : n40_6 s = contK n40_8 (n40_7 s) := q_seq _ c40_7 c40_8 s
theorem r_n40_9 : n40_9 s = some (.norm, s) := run_skip _ s
theorem r_n40_5 : n40_5 s = condK (opv s.t (.tmp 19)) n40_6 n40_9 s := q_cond _ c40_6 c40_9 s (.tmp 19)
theorem r_n40_3 : n40_3 s = contK n40_5 (n40_4 s) := q_seq _ c40_4 c40_5 s
theorem r_n40_11 : n40_11 s = behK 583 (stepsO X (annT 40) C (gO c40_11) o40_11.1 s) := q_region (annT 40) s 3 _ false rfl _ _ rfl rfl o40_11.2
theorem g_o40_11 : gdst (gO c40_11) j = (o40_11.1[j]?).bind Oper.dst := gd_eq o40_11.2 j
theorem r_n40_13 : n40_13 s = behK 1095 (stepsO X (annT 40) C (gO c40_13) o40_13.1 s) := q_region (annT 40) s 4 _ false rfl _ _ rfl rfl o40_13.2
theorem g_o40_13 : gdst (gO c40_13) j = (o40_13.1[j]?).bind Oper.dst := gd_eq o40_13.2 j
theorem r_n40_16 : n40_16 s = behK 34359739463 (stepsO X (annT 40) C (gO c40_16) o40_16.1 s) := q_region (annT 40) s 5 _ false rfl _ _ rfl rfl o40_16.2
theorem g_o40_16 : gdst (gO c40_16) j = (o40_16.1[j]?).bind Oper.dst := gd_eq o40_16.2 j
theorem r_n40_19 : n40_19 s = behK 448 (stepsO X (annT 40) C (gO c40_19) o40_19.1 s) := q_region (annT 40) s 6 _ false rfl _ _ rfl rfl o40_19.2
theorem g_o40_19 : gdst (gO c40_19) j = (o40_19.1[j]?).bind Oper.dst := gd_eq o40_19.2 j
theorem r_n40_20 : n40_20 s = some (.ret, s) := run_ret _ s
theorem r_n40_18 : n40_18 s = contK n40_20 (n40_19 s) := q_seq _ c40_19 c40_20 s
theorem r_n40_21 : n40_21 s = some (.norm, s) := run_skip _ s
theorem r_n40_17 : n40_17 s = condK (opv s.t (.tmp 35)) n40_18 n40_21 s := q_cond _ c40_18 c40_21 s (.tmp 35)
theorem r_n40_15 : n40_15 s = contK n40_17 (n40_16 s) := q_seq _ c40_16 c40_17 s
theorem r_n40_23 : n40_23 s = behK 15431 (stepsO X (annT 40) C (gO c40_23) o40_23.1 s) := q_region (annT 40) s 7 _ false rfl _ _ rfl rfl o40_23.2
theorem g_o40_23 : gdst (gO c40_23) j = (o40_23.1[j]?).bind Oper.dst := gd_eq o40_23.2 j
theorem r_n40_27 : n40_27 s = behK 35184372104263 (stepsO X (annT 40) C (gO c40_27) o40_27.1 s) := q_region (annT 40) s 8 _ false rfl _ _ rfl rfl o40_27.2
theorem g_o40_27 : gdst (gO c40_27) j = (o40_27.1[j]?).bind Oper.dst := gd_eq o40_27.2 j
theorem r_n40_30 : n40_30 s = behK 448 (stepsO X (annT 40) C (gO c40_30) o40_30.1 s) := q_region (annT 40) s 9 _ false rfl _ _ rfl rfl o40_30.2
theorem g_o40_30 : gdst (gO c40_30) j = (o40_30.1[j]?).bind Oper.dst := gd_eq o40_30.2 j
theorem r_n40_31 : n40_31 s = some (.ret, s) := run_ret _ s
theorem r_n40_29 : n40_29 s = contK n40_31 (n40_30 s) := q_seq _ c40_30 c40_31 s
theorem r_n40_33 : n40_33 s = behK 1125899906849863 (stepsO X (annT 40) C (gO c40_33) o40_33.1 s) := q_region (annT 40) s 10 _ false rfl _ _ rfl rfl o40_33.2
theorem g_o40_33 : gdst (gO c40_33) j = (o40_33.1[j]?).bind Oper.dst := gd_eq o40_33.2 j
theorem r_n40_36 : n40_36 s = behK 448 (stepsO X (annT 40) C (gO c40_36) o40_36.1 s) := q_region (annT 40) s 11 _ false rfl _ _ rfl rfl o40_36.2
theorem g_o40_36 : gdst (gO c40_36) j = (o40_36.1[j]?).bind Oper.dst := gd_eq o40_36.2 j
theorem r_n40_37 : n40_37 s = some (.ret, s) := run_ret _ s
theorem r_n40_35 : n40_35 s = contK n40_37 (n40_36 s) := q_seq _ c40_36 c40_37 s
theorem r_n40_39 : n40_39 s = behK 288230376151718981 (stepsO X (annT 40) C (gO c40_39) o40_39.1 s) := q_region (annT 40) s 12 _ false rfl _ _ rfl rfl o40_39.2
theorem g_o40_39 : gdst (gO c40_39) j = (o40_39.1[j]?).bind Oper.dst := gd_eq o40_39.2 j
theorem r_n40_42 : n40_42 s = behK 448 (stepsO X (annT 40) C (gO c40_42) o40_42.1 s) := q_region (annT 40) s 13 _ false rfl _ _ rfl rfl o40_42.2
theorem g_o40_42 : gdst (gO c40_42) j = (o40_42.1[j]?).bind Oper.dst := gd_eq o40_42.2 j
theorem r_n40_43 : n40_43 s = some (.ret, s) := run_ret _ s
theorem r_n40_41 : n40_41 s = contK n40_43 (n40_42 s) := q_seq _ c40_42 c40_43 s
theorem r_n40_44 : n40_44 s = some (.norm, s) := run_skip _ s
theorem r_n40_40 : n40_40 s = condK (opv s.t (.tmp 58)) n40_41 n40_44 s := q_cond _ c40_41 c40_44 s (.tmp 58)
theorem r_n40_38 : n40_38 s = contK n40_40 (n40_39 s) := q_seq _ c40_39 c40_40 s
theorem r_n40_34 : n40_34 s = condK (opv s.t (.tmp 50)) n40_35 n40_38 s := q_cond _ c40_35 c40_38 s (.tmp 50)
theorem r_n40_32 : n40_32 s = contK n40_34 (n40_33 s) := q_seq _ c40_33 c40_34 s
theorem r_n40_28 : n40_28 s = condK (opv s.t (.tmp 45)) n40_29 n40_32 s := q_cond _ c40_29 c40_32 s (.tmp 45)
theorem r_n40_26 : n40_26 s = contK n40_28 (n40_27 s) := q_seq _ c40_27 c40_28 s
theorem r_n40_25 : n40_25 s = blkK 0 (n40_26 s) := q_block _ c40_26 s 0
theorem r_n40_46 : n40_46 s = behK 23620 (stepsO X (annT 40) C (gO c40_46) o40_46.1 s) := q_region (annT 40) s 14 _ false rfl _ _ rfl rfl o40_46.2
theorem g_o40_46 : gdst (gO c40_46) j = (o40_46.1[j]?).bind Oper.dst := gd_eq o40_46.2 j
theorem r_n40_49 : n40_49 s = behK 18889465931478580878404 (stepsO X (annT 40) C (gO c40_49) o40_49.1 s) := q_region (annT 40) s 15 _ false rfl _ _ rfl rfl o40_49.2
theorem g_o40_49 : gdst (gO c40_49) j = (o40_49.1[j]?).bind Oper.dst := gd_eq o40_49.2 j
theorem r_n40_52 : n40_52 s = behK 7232 (stepsO X (annT 40) C (gO c40_52) o40_52.1 s) := q_region (annT 40) s 16 _ false rfl _ _ rfl rfl o40_52.2
theorem g_o40_52 : gdst (gO c40_52) j = (o40_52.1[j]?).bind Oper.dst := gd_eq o40_52.2 j
theorem r_n40_54 : n40_54 s = behK 448 (stepsO X (annT 40) C (gO c40_54) o40_54.1 s) := q_region (annT 40) s 17 _ false rfl _ _ rfl rfl o40_54.2
theorem g_o40_54 : gdst (gO c40_54) j = (o40_54.1[j]?).bind Oper.dst := gd_eq o40_54.2 j
theorem r_n40_55 : n40_55 s = some (.ret, s) := run_ret _ s
theorem r_n40_53 : n40_53 s = contK n40_55 (n40_54 s) := q_seq _ c40_54 c40_55 s
theorem r_n40_51 : n40_51 s = contK n40_53 (n40_52 s) := q_seq _ c40_52 c40_53 s
theorem r_n40_56 : n40_56 s = some (.norm, s) := run_skip _ s
theorem r_n40_50 : n40_50 s = condK (opv s.t (.tmp 74)) n40_51 n40_56 s := q_cond _ c40_51 c40_56 s (.tmp 74)
theorem r_n40_48 : n40_48 s = contK n40_50 (n40_49 s) := q_seq _ c40_49 c40_50 s
theorem r_n40_59 : n40_59 s = behK 77371252455336267181218884 (stepsO X (annT 40) C (gO c40_59) o40_59.1 s) := q_region (annT 40) s 18 _ false rfl _ _ rfl rfl o40_59.2
theorem g_o40_59 : gdst (gO c40_59) j = (o40_59.1[j]?).bind Oper.dst := gd_eq o40_59.2 j
theorem r_n40_62 : n40_62 s = behK 448 (stepsO X (annT 40) C (gO c40_62) o40_62.1 s) := q_region (annT 40) s 19 _ false rfl _ _ rfl rfl o40_62.2
theorem g_o40_62 : gdst (gO c40_62) j = (o40_62.1[j]?).bind Oper.dst := gd_eq o40_62.2 j
theorem r_n40_63 : n40_63 s = some (.ret, s) := run_ret _ s
theorem r_n40_61 : n40_61 s = contK n40_63 (n40_62 s) := q_seq _ c40_62 c40_63 s
theorem r_n40_64 : n40_64 s = some (.norm, s) := run_skip _ s
theorem r_n40_60 : n40_60 s = condK (opv s.t (.tmp 86)) n40_61 n40_64 s := q_cond _ c40_61 c40_64 s (.tmp 86)
theorem r_n40_58 : n40_58 s = contK n40_60 (n40_59 s) := q_seq _ c40_59 c40_60 s
theorem r_n40_66 : n40_66 s = behK 48192 (stepsO X (annT 40) C (gO c40_66) o40_66.1 s) := q_region (annT 40) s 20 _ false rfl _ _ rfl rfl o40_66.2
theorem g_o40_66 : gdst (gO c40_66) j = (o40_66.1[j]?).bind Oper.dst := gd_eq o40_66.2 j
theorem r_n40_69 : n40_69 s = behK 79228162514264337593543998528 (stepsO X (annT 40) C (gO c40_69) o40_69.1 s) := q_region (annT 40) s 21 _ false rfl _ _ rfl rfl o40_69.2
theorem g_o40_69 : gdst (gO c40_69) j = (o40_69.1[j]?).bind Oper.dst := gd_eq o40_69.2 j
theorem r_n40_72 : n40_72 s = behK 448 (stepsO X (annT 40) C (gO c40_72) o40_72.1 s) := q_region (annT 40) s 22 _ false rfl _ _ rfl rfl o40_72.2
theorem g_o40_72 : gdst (gO c40_72) j = (o40_72.1[j]?).bind Oper.dst := gd_eq o40_72.2 j
theorem r_n40_73 : n40_73 s = some (.ret, s) := run_ret _ s
theorem r_n40_71 : n40_71 s = contK n40_73 (n40_72 s) := q_seq _ c40_72 c40_73 s
theorem r_n40_74 : n40_74 s = some (.norm, s) := run_skip _ s
theorem r_n40_70 : n40_70 s = condK (opv s.t (.tmp 96)) n40_71 n40_74 s := q_cond _ c40_71 c40_74 s (.tmp 96)
theorem r_n40_68 : n40_68 s = contK n40_70 (n40_69 s) := q_seq _ c40_69 c40_70 s
theorem r_n40_76 : n40_76 s = behK 7232 (stepsO X (annT 40) C (gO c40_76) o40_76.1 s) := q_region (annT 40) s 23 _ false rfl _ _ rfl rfl o40_76.2
theorem g_o40_76 : gdst (gO c40_76) j = (o40_76.1[j]?).bind Oper.dst := gd_eq o40_76.2 j
theorem r_n40_78 : n40_78 s = behK 448 (stepsO X (annT 40) C (gO c40_78) o40_78.1 s) := q_region (annT 40) s 24 _ false rfl _ _ rfl rfl o40_78.2
theorem g_o40_78 : gdst (gO c40_78) j = (o40_78.1[j]?).bind Oper.dst := gd_eq o40_78.2 j
theorem r_n40_79 : n40_79 s = some (.ret, s) := run_ret _ s
theorem r_n40_77 : n40_77 s = contK n40_79 (n40_78 s) := q_seq _ c40_78 c40_79 s
theorem r_n40_75 : n40_75 s = contK n40_77 (n40_76 s) := q_seq _ c40_76 c40_77 s
theorem r_n40_67 : n40_67 s = contK n40_75 (n40_68 s) := q_seq _ c40_68 c40_75 s
theorem r_n40_65 : n40_65 s = contK n40_67 (n40_66 s) := q_seq _ c40_66 c40_67 s
theorem r_n40_57 : n40_57 s = contK n40_65 (n40_58 s) := q_seq _ c40_58 c40_65 s
theorem r_n40_47 : n40_47 s = contK n40_57 (n40_48 s) := q_seq _ c40_48 c40_57 s
theorem r_n40_45 : n40_45 s = contK n40_47 (n40_46 s) := q_seq _ c40_46 c40_47 s
theorem r_n40_24 : n40_24 s = contK n40_45 (n40_25 s) := q_seq _ c40_25 c40_45 s
theorem r_n40_22 : n40_22 s = contK n40_24 (n40_23 s) := q_seq _ c40_23 c40_24 s
theorem r_n40_14 : n40_14 s = contK n40_22 (n40_15 s) := q_seq _ c40_15 c40_22 s
theorem r_n40_12 : n40_12 s = contK n40_14 (n40_13 s) := q_seq _ c40_13 c40_14 s
theorem r_n40_10 : n40_10 s = contK n40_12 (n40_11 s) := q_seq _ c40_11 c40_12 s
theorem r_n40_2 : n40_2 s = contK n40_10 (n40_3 s) := q_seq _ c40_3 c40_10 s
theorem r_n40_0 : n40_0 s = contK n40_2 (n40_1 s) := q_seq _ c40_1 c40_2 s
theorem va_40 : (annT 40).virt = [] := rfl
theorem wa_40 : (annT 40).wr = [] := rfl
theorem ya_40 : (annT 40).ty = [] := rfl
theorem cv_40 (call : Eng.Call) (wr : Bool) (args : List AV) (st : Store) : callV X call wr 40 args st = cvP call wr 40 args st (fzAll (fz false st 6) args) := cv_pure rfl rfl call wr args st
theorem p40 (ds : List D) : pureCall C 40 ds = ((n40_0 ⟨argsT 0 (ds.map .d), []⟩).bind (bodyR [.cell 6 32, .tmp 7, .tmp 8])).bind prOf := P_eq Try.f40 rfl rfl rfl rfl ds
theorem q40 (vs : List AV) (st : Store) : C 40 vs st = (n40_0 ⟨argsT 0 vs, st⟩).bind (bodyR [.cell 6 32, .tmp 7, .tmp 8]) := C_eq Try.f40 rfl rfl rfl rfl vs st
attribute [go_sem] r_n40_1 g_o40_1 o40_1 r_n40_4 g_o40_4 o40_4 r_n40_7 g_o40_7 o40_7 r_n40_8 r_n40_6 r_n40_9 r_n40_5 r_n40_3 r_n40_11 g_o40_11 o40_11 r_n40_13 g_o40_13 o40_13 r_n40_16 g_o40_16 o40_16 r_n40_19 g_o40_19 o40_19 r_n40_20 r_n40_18 r_n40_21 r_n40_17 r_n40_15 r_n40_23 g_o40_23 o40_23 r_n40_27 g_o40_27 o40_27 r_n40_30 g_o40_30 o40_30 r_n40_31 r_n40_29 r_n40_33 g_o40_33 o40_33 r_n40_36 g_o40_36 o40_36 r_n40_37 r_n40_35 r_n40_39 g_o40_39 o40_39 r_n40_42 g_o40_42 o40_42 r_n40_43 r_n40_41 r_n40_44 r_n40_40 r_n40_38 r_n40_34 r_n40_32 r_n40_28 r_n40_26 r_n40_25 r_n40_46 g_o40_46 o40_46 r_n40_49 g_o40_49 o40_49 r_n40_52 g_o40_52 o40_52 r_n40_54 g_o40_54 o40_54 r_n40_55 r_n40_53 r_n40_51 r_n40_56 r_n40_50 r_n40_48 r_n40_59 g_o40_59 o40_59 r_n40_62 g_o40_62 o40_62 r_n40_63 r_n40_61 r_n40_64 r_n40_60 r_n40_58 r_n40_66 g_o40_66 o40_66 r_n40_69 g_o40_69 o40_69 r_n40_72 g_o40_72 o40_72 r_n40_73 r_n40_71 r_n40_74 r_n40_70 r_n40_68 r_n40_76 g_o40_76 o40_76 r_n40_78 g_o40_78 o40_78 r_n40_79 r_n40_77 r_n40_75 r_n40_67 r_n40_65 r_n40_57 r_n40_47 r_n40_45 r_n40_24 r_n40_22 r_n40_14 r_n40_12 r_n40_10 r_n40_2 r_n40_0 va_40 wa_40 ya_40 cv_40
noncomputable def c65_0 : Code := Try.f65.body.getD .skip
noncomputable def A65 := run (annT 65)
def n65_0 := A65 c65_0
def c65_1 := gL c65_0
def n65_1 := A65 c65_1
def o65_1 : OL c65_1 := ⟨_, by conv => (lhs; whnf)⟩
def c65_2 := gR c65_0
def n65_2 := A65 c65_2
def c65_3 := gL c65_2
def n65_3 := A65 c65_3
def o65_3 : OL c65_3 := ⟨_, by conv => (lhs; whnf)⟩
def c65_4 := gR c65_2
def n65_4 := A65 c65_4
def c65_5 := gL c65_4
def n65_5 := A65 c65_5
def c65_6 := gL c65_5
def n65_6 := A65 c65_6
def o65_6 : OL c65_6 := ⟨_, by conv => (lhs; whnf)⟩
def c65_7 := gR c65_5
def n65_7 := A65 c65_7
def c65_8 := gB c65_7
def n65_8 := A65 c65_8
def c65_9 := gB c65_8
def n65_9 := A65 c65_9
def c65_10 := gL c65_9
def n65_10 := A65 c65_10
def c65_11 := gL c65_10
def n65_11 := A65 c65_11
def o65_11 : OL c65_11 := ⟨_, by conv => (lhs; whnf)⟩
def c65_12 := gR c65_10
def n65_12 := A65 c65_12
def c65_13 := gT c65_12
def n65_13 := A65 c65_13
def c65_14 := gF c65_12
def n65_14 := A65 c65_14
def c65_15 := gR c65_9
def n65_15 := A65 c65_15
def c65_16 := gB c65_15
def n65_16 := A65 c65_16
def c65_17 := gL c65_16
def n65_17 := A65 c65_17
def o65_17 : OL c65_17 := ⟨_, by conv => (lhs; whnf)⟩
def c65_18 := gR c65_16
def n65_18 := A65 c65_18
def c65_19 := gL c65_18
def n65_19 := A65 c65_19
def c65_20 := gL c65_19
def n65_20 := A65 c65_20
def o65_20 : OL c65_20 := ⟨_, by conv => (lhs; whnf)⟩
def c65_21 := gR c65_19
def n65_21 := A65 c65_21
def c65_22 := gT c65_21
def n65_22 := A65 c65_22
def c65_23 := gL c65_22
def n65_23 := A65 c65_23
def o65_23 : OL c65_23 := ⟨_, by conv => (lhs; whnf)⟩
def c65_24 := gR c65_22
def n65_24 := A65 c65_24
def c65_25 := gF c65_21
def n65_25 := A65 c65_25
def c65_26 := gR c65_18
def n65_26 := A65 c65_26
def c65_27 := gL c65_26
def n65_27 := A65 c65_27
def o65_27 : OL c65_27 := ⟨_, by conv => (lhs; whnf)⟩
def c65_28 := gR c65_26
def n65_28 := A65 c65_28
def o65_28 : OL c65_28 := ⟨_, by conv => (lhs; whnf)⟩
def c65_29 := gR c65_4
def n65_29 := A65 c65_29
def c65_30 := gL c65_29
def n65_30 := A65 c65_30
def o65_30 : OL c65_30 := ⟨_, by conv => (lhs; whnf)⟩
def c65_31 := gR c65_29
def n65_31 := A65 c65_31
theorem r_n65_1 : n65_1 s = behK 3 (stepsO X (annT 65) C (gO c65_1) o65_1.1 s) := q_region (annT 65) s 0 _ false rfl _ _ rfl rfl o65_1.2
theorem g_o65_1 : gdst (gO c65_1) j = (o65_1.1[j]?).bind Oper.dst := gd_eq o65_1.2 j
theorem r_n65_3 : n65_3 s = behK 67 (stepsO X (annT 65) C (gO c65_3) o65_3.1 s) := q_region (annT 65) s 1 _ false rfl _ _ rfl rfl o65_3.2
theorem g_o65_3 : gdst (gO c65_3) j = (o65_3.1[j]?).bind Oper.dst := gd_eq o65_3.2 j
theorem r_n65_6 : n65_6 s = behK 195 (stepsO X (annT 65) C (gO c65_6) o65_6.1 s) := q_region (annT 65) s 2 _ false rfl _ _ rfl rfl o65_6.2
theorem g_o65_6 : gdst (gO c65_6) j = (o65_6.1[j]?).bind Oper.dst := gd_eq o65_6.2 j
theorem r_n65_11 : n65_11 s = behK 16579 (stepsO X (annT 65) C (gO c65_11) o65_11.1 s) := q_region (annT 65) s 3 _ false rfl _ _ rfl rfl o65_11.2
theorem g_o65_11 : gdst (gO c65_11) j = (o65_11.1[j]?).bind Oper.dst := gd_eq o65_11.2 j
theorem r_n65_13 : n65_13 s = some (.norm, s) := run_skip _ s
theorem r_n65_14 : n65_14 s = some (.exit 0, s) := run_exit _ s 0
theorem r_n65_12 : n65_12 s = condK (opv s.t (.tmp 14)) n65_13 n65_14 s := q_cond _ c65_13 c65_14 s (.tmp 14)
theorem r_n65_10 : n65_10 s = contK n65_12 (n65_11 s) := q_seq _ c65_11 c65_12 s
theorem r_n65_17 : n65_17 s = behK 1859 (stepsO X (annT 65) C (gO c65_17) o65_17.1 s) := q_region (annT 65) s 4 _ false rfl _ _ rfl rfl o65_17.2
theorem g_o65_17 : gdst (gO c65_17) j = (o65_17.1[j]?).bind Oper.dst := gd_eq o65_17.2 j
theorem r_n65_20 : n65_20 s = behK 16779075 (stepsO X (annT 65) C (gO c65_20) o65_20.1 s) := q_region (annT 65) s 5 _ false rfl _ _ rfl rfl o65_20.2
theorem g_o65_20 : gdst (gO c65_20) j = (o65_20.1[j]?).bind Oper.dst := gd_eq o65_20.2 j
theorem r_n65_23 : n65_23 s = behK 48 (stepsO X (annT 65) C (gO c65_23) o65_23.1 s) := q_region (annT 65) s 6 _ false rfl _ _ rfl rfl o65_23.2
theorem g_o65_23 : gdst (gO c65_23) j = (o65_23.1[j]?).bind Oper.dst := gd_eq o65_23.2 j
theorem r_n65_24 : n65_24 s = some (.ret, s) := run_ret _ s
theorem r_n65_22 : n65_22 s = contK n65_24 (n65_23 s) := q_seq _ c65_23 c65_24 s
theorem r_n65_25 : n65_25 s = some (.norm, s) := run_skip _ s
theorem r_n65_21 : n65_21 s = condK (opv s.t (.tmp 24)) n65_22 n65_25 s := q_cond _ c65_22 c65_25 s (.tmp 24)
theorem r_n65_19 : n65_19 s = contK n65_21 (n65_20 s) := q_seq _ c65_20 c65_21 s
theorem r_n65_27 : n65_27 s = behK 579 (stepsO X (annT 65) C (gO c65_27) o65_27.1 s) := q_region (annT 65) s 7 _ false rfl _ _ rfl rfl o65_27.2
theorem g_o65_27 : gdst (gO c65_27) j = (o65_27.1[j]?).bind Oper.dst := gd_eq o65_27.2 j
theorem r_n65_28 : n65_28 s = behK 195 (stepsO X (annT 65) C (gO c65_28) o65_28.1 s) := q_region (annT 65) s 8 _ false rfl _ _ rfl rfl o65_28.2
theorem g_o65_28 : gdst (gO c65_28) j = (o65_28.1[j]?).bind Oper.dst := gd_eq o65_28.2 j
theorem r_n65_26 : n65_26 s = contK n65_28 (n65_27 s) := q_seq _ c65_27 c65_28 s
theorem r_n65_18 : n65_18 s = contK n65_26 (n65_19 s) := q_seq _ c65_19 c65_26 s
theorem r_n65_16 : n65_16 s = contK n65_18 (n65_17 s) := q_seq _ c65_17 c65_18 s
theorem r_n65_15 : n65_15 s = blkK 1 (n65_16 s) := q_block _ c65_16 s 1
theorem r_n65_9 : n65_9 s = contK n65_15 (n65_10 s) := q_seq _ c65_10 c65_15 s
theorem r_n65_8 : n65_8 s = loopK 195 s.st.length n65_8 (n65_9 s) := q_loop (annT 65) c65_9 s _ _ rfl rfl
theorem r_n65_7 : n65_7 s = blkK 0 (n65_8 s) := q_block _ c65_8 s 0
theorem r_n65_5 : n65_5 s = contK n65_7 (n65_6 s) := q_seq _ c65_6 c65_7 s
theorem r_n65_30 : n65_30 s = behK 48 (stepsO X (annT 65) C (gO c65_30) o65_30.1 s) := q_region (annT 65) s 9 _ false rfl _ _ rfl rfl o65_30.2
theorem g_o65_30 : gdst (gO c65_30) j = (o65_30.1[j]?).bind Oper.dst := gd_eq o65_30.2 j
theorem r_n65_31 : n65_31 s = some (.ret, s) := run_ret _ s
theorem r_n65_29 : n65_29 s = contK n65_31 (n65_30 s) := q_seq _ c65_30 c65_31 s
theorem r_n65_4 : n65_4 s = contK n65_29 (n65_5 s) := q_seq _ c65_5 c65_29 s
theorem r_n65_2 : n65_2 s = contK n65_4 (n65_3 s) := q_seq _ c65_3 c65_4 s
theorem r_n65_0 : n65_0 s = contK n65_2 (n65_1 s) := q_seq _ c65_1 c65_2 s
theorem va_65 : (annT 65).virt = [] := rfl
theorem wa_65 : (annT 65).wr = [] := rfl
theorem ya_65 : (annT 65).ty = [] := rfl
theorem cv_65 (call : Eng.Call) (wr : Bool) (args : List AV) (st : Store) : callV X call wr 65 args st = cvP call wr 65 args st (fzAll (fz false st 6) args) := cv_pure rfl rfl call wr args st
theorem p65 (ds : List D) : pureCall C 65 ds = ((n65_0 ⟨argsT 0 (ds.map .d), []⟩).bind (bodyR [.tmp 4, .tmp 5])).bind prOf := P_eq Try.f65 rfl rfl rfl rfl ds
theorem q65 (vs : List AV) (st : Store) : C 65 vs st = (n65_0 ⟨argsT 0 vs, st⟩).bind (bodyR [.tmp 4, .tmp 5]) := C_eq Try.f65 rfl rfl rfl rfl vs st
attribute [go_sem] r_n65_1 g_o65_1 o65_1 r_n65_3 g_o65_3 o65_3 r_n65_6 g_o65_6 o65_6 r_n65_11 g_o65_11 o65_11 r_n65_13 r_n65_14 r_n65_12 r_n65_10 r_n65_17 g_o65_17 o65_17 r_n65_20 g_o65_20 o65_20 r_n65_23 g_o65_23 o65_23 r_n65_24 r_n65_22 r_n65_25 r_n65_21 r_n65_19 r_n65_27 g_o65_27 o65_27 r_n65_28 g_o65_28 o65_28 r_n65_26 r_n65_18 r_n65_16 r_n65_15 r_n65_9 r_n65_7 r_n65_5 r_n65_30 g_o65_30 o65_30 r_n65_31 r_n65_29 r_n65_4 r_n65_2 r_n65_0 va_65 wa_65 ya_65 cv_65
noncomputable def c22_0 : Code := Try.f22.body.getD .skip
noncomputable def A22 := run (annT 22)
def n22_0 := A22 c22_0
def c22_1 := gL c22_0
def n22_1 := A22 c22_1
def o22_1 : OL c22_1 := ⟨_, by conv => (lhs; whnf)⟩
def c22_2 := gR c22_0
def n22_2 := A22 c22_2
def c22_3 := gL c22_2
def n22_3 := A22 c22_3
def c22_4 := gL c22_3
def n22_4 := A22 c22_4
def o22_4 : OL c22_4 := ⟨_, by conv => (lhs; whnf)⟩
def c22_5 := gR c22_3
def n22_5 := A22 c22_5
def c22_6 := gT c22_5
def n22_6 := A22 c22_6
def c22_7 := gL c22_6
def n22_7 := A22 c22_7
def o22_7 : OL c22_7 := ⟨_, by conv => (lhs; whnf)⟩
def c22_8 := gR c22_6
def n22_8 := A22 c22_8
def c22_9 := gF c22_5
def n22_9 := A22 c22_9
def c22_10 := gR c22_2
def n22_10 := A22 c22_10
def c22_11 := gL c22_10
def n22_11 := A22 c22_11
def o22_11 : OL c22_11 := ⟨_, by conv => (lhs; whnf)⟩
def c22_12 := gR c22_10
def n22_12 := A22 c22_12
theorem r_n22_1 : n22_1 s = behK 19 (stepsO X (annT 22) C (gO c22_1) o22_1.1 s) := q_region (annT 22) s 0 _ false rfl _ _ rfl rfl o22_1.2
theorem g_o22_1 : gdst (gO c22_1) j = (o22_1.1[j]?).bind Oper.dst := gd_eq o22_1.2 j
theorem r_n22_4 : n22_4 s = behK 16403 (stepsO X (annT 22) C (gO c22_4) o22_4.1 s) := q_region (annT 22) s 1 _ false rfl _ _ rfl rfl o22_4.2
theorem g_o22_4 : gdst (gO c22_4) j = (o22_4.1[j]?).bind Oper.dst := gd_eq o22_4.2 j
theorem r_n22_7 : n22_7 s = behK 112 (stepsO X (annT 22) C (gO c22_7) o22_7.1 s) := q_region (annT 22) s 2 _ false rfl _ _ rfl rfl o22_7.2
theorem g_o22_7 : gdst (gO c22_7) j = (o22_7.1[j]?).bind Oper.dst := gd_eq o22_7.2 j
theorem r_n22_8 : n22_8 s = some (.ret, s) := run_ret _ s
theorem r_n22_6 : n22_6 s = contK n22_8 (n22_7 s) := q_seq _ c22_7 c22_8 s
theorem r_n22_9 : n22_9 s = some (.norm, s) := run_skip _ s
theorem r_n22_5 : n22_5 s = condK (opv s.t (.tmp 14)) n22_6 n22_9 s := q_cond _ c22_6 c22_9 s (.tmp 14)
theorem r_n22_3 : n22_3 s = contK n22_5 (n22_4 s) := q_seq _ c22_4 c22_5 s
theorem r_n22_11 : n22_11 s = behK 112 (stepsO X (annT 22) C (gO c22_11) o22_11.1 s) := q_region (annT 22) s 3 _ false rfl _ _ rfl rfl o22_11.2
theorem g_o22_11 : gdst (gO c22_11) j = (o22_11.1[j]?).bind Oper.dst := gd_eq o22_11.2 j
theorem r_n22_12 : n22_12 s = some (.ret, s) := run_ret _ s
theorem r_n22_10 : n22_10 s = contK n22_12 (n22_11 s) := q_seq _ c22_11 c22_12 s
theorem r_n22_2 : n22_2 s = contK n22_10 (n22_3 s) := q_seq _ c22_3 c22_10 s
theorem r_n22_0 : n22_0 s = contK n22_2 (n22_1 s) := q_seq _ c22_1 c22_2 s
theorem va_22 : (annT 22).virt = [] := rfl
theorem wa_22 : (annT 22).wr = [] := rfl
theorem ya_22 : (annT 22).ty = [] := rfl
theorem cv_22 (call : Eng.Call) (wr : Bool) (args : List AV) (st : Store) : callV X call wr 22 args st = cvP call wr 22 args st (fzAll (fz false st 6) args) := cv_pure rfl rfl call wr args st
theorem p22 (ds : List D) : pureCall C 22 ds = ((n22_0 ⟨argsT 0 (ds.map .d), []⟩).bind (bodyR [.cell 4 32, .tmp 5, .tmp 6])).bind prOf := P_eq Try.f22 rfl rfl rfl rfl ds
theorem q22 (vs : List AV) (st : Store) : C 22 vs st = (n22_0 ⟨argsT 0 vs, st⟩).bind (bodyR [.cell 4 32, .tmp 5, .tmp 6]) := C_eq Try.f22 rfl rfl rfl rfl vs st
attribute [go_sem] r_n22_1 g_o22_1 o22_1 r_n22_4 g_o22_4 o22_4 r_n22_7 g_o22_7 o22_7 r_n22_8 r_n22_6 r_n22_9 r_n22_5 r_n22_3 r_n22_11 g_o22_11 o22_11 r_n22_12 r_n22_10 r_n22_2 r_n22_0 va_22 wa_22 ya_22 cv_22
noncomputable def c80_0 : Code := Try.f80.body.getD .skip
noncomputable def A80 := run (annT 80)
def n80_0 := A80 c80_0
def c80_1 := gL c80_0
def n80_1 := A80 c80_1
def o80_1 : OL c80_1 := ⟨_, by conv => (lhs; whnf)⟩
def c80_2 := gR c80_0
def n80_2 := A80 c80_2
def c80_3 := gL c80_2
def n80_3 := A80 c80_3
def c80_4 := gL c80_3
def n80_4 := A80 c80_4
def o80_4 : OL c80_4 := ⟨_, by conv => (lhs; whnf)⟩
def c80_5 := gR c80_3
def n80_5 := A80 c80_5
def c80_6 := gT c80_5
def n80_6 := A80 c80_6
def c80_7 := gL c80_6
def n80_7 := A80 c80_7
def o80_7 : OL c80_7 := ⟨_, by conv => (lhs; whnf)⟩
def c80_8 := gR c80_6
def n80_8 := A80 c80_8
def c80_9 := gF c80_5
def n80_9 := A80 c80_9
def c80_10 := gR c80_2
def n80_10 := A80 c80_10
def c80_11 := gL c80_10
def n80_11 := A80 c80_11
def o80_11 : OL c80_11 := ⟨_, by conv => (lhs; whnf)⟩
def c80_12 := gR c80_10
def n80_12 := A80 c80_12
def c80_13 := gL c80_12
def n80_13 := A80 c80_13
def c80_14 := gL c80_13
def n80_14 := A80 c80_14
def o80_14 : OL c80_14 := ⟨_, by conv => (lhs; whnf)⟩
def c80_15 := gR c80_13
def n80_15 := A80 c80_15
def c80_16 := gB c80_15
def n80_16 := A80 c80_16
def c80_17 := gB c80_16
def n80_17 := A80 c80_17
def c80_18 := gL c80_17
def n80_18 := A80 c80_18
def o80_18 : OL c80_18 := ⟨_, by conv => (lhs; whnf)⟩
def c80_19 := gR c80_17
def n80_19 := A80 c80_19
def c80_20 := gL c80_19
def n80_20 := A80 c80_20
def c80_21 := gT c80_20
def n80_21 := A80 c80_21
def c80_22 := gF c80_20
def n80_22 := A80 c80_22
def c80_23 := gR c80_19
def n80_23 := A80 c80_23
def c80_24 := gL c80_23
def n80_24 := A80 c80_24
def c80_25 := gB c80_24
def n80_25 := A80 c80_25
def c80_26 := gL c80_25
def n80_26 := A80 c80_26
def o80_26 : OL c80_26 := ⟨_, by conv => (lhs; whnf)⟩
def c80_27 := gR c80_25
def n80_27 := A80 c80_27
def o80_27 : OL c80_27 := ⟨_, by conv => (lhs; whnf)⟩
def c80_28 := gR c80_23
def n80_28 := A80 c80_28
def o80_28 : OL c80_28 := ⟨_, by conv => (lhs; whnf)⟩
def c80_29 := gR c80_12
def n80_29 := A80 c80_29
def c80_30 := gL c80_29
def n80_30 := A80 c80_30
def o80_30 : OL c80_30 := ⟨_, by conv => (lhs; whnf)⟩
def c80_31 := gR c80_29
def n80_31 := A80 c80_31
theorem r_n80_1 : n80_1 s = behK 6 (stepsO X (annT 80) C (gO c80_1) o80_1.1 s) := q_region (annT 80) s 0 _ false rfl _ _ rfl rfl o80_1.2
theorem g_o80_1 : gdst (gO c80_1) j = (o80_1.1[j]?).bind Oper.dst := gd_eq o80_1.2 j
theorem r_n80_4 : n80_4 s = behK 518 (stepsO X (annT 80) C (gO c80_4) o80_4.1 s) := q_region (annT 80) s 1 _ false rfl _ _ rfl rfl o80_4.2
theorem g_o80_4 : gdst (gO c80_4) j = (o80_4.1[j]?).bind Oper.dst := gd_eq o80_4.2 j
theorem r_n80_7 : n80_7 s = behK 16 (stepsO X (annT 80) C (gO c80_7) o80_7.1 s) := q_region (annT 80) s 2 _ false rfl _ _ rfl rfl o80_7.2
theorem g_o80_7 : gdst (gO c80_7) j = (o80_7.1[j]?).bind Oper.dst := gd_eq o80_7.2 j
theorem r_n80_8 : n80_8 s = some (.ret, s) := run_ret _ s
theorem r_n80_6 : n80_6 s = contK n80_8 (n80_7 s) := q_seq _ c80_7 c80_8 s
theorem r_n80_9 : n80_9 s = some (.norm, s) := run_skip _ s
theorem r_n80_5 : n80_5 s = condK (opv s.t (.tmp 9)) n80_6 n80_9 s := q_cond _ c80_6 c80_9 s (.tmp 9)
theorem r_n80_3 : n80_3 s = contK n80_5 (n80_4 s) := q_seq _ c80_4 c80_5 s
theorem r_n80_11 : n80_11 s = behK 38 (stepsO X (annT 80) C (gO c80_11) o80_11.1 s) := q_region (annT 80) s 3 _ false rfl _ _ rfl rfl o80_11.2
theorem g_o80_11 : gdst (gO c80_11) j = (o80_11.1[j]?).bind Oper.dst := gd_eq o80_11.2 j
theorem r_n80_14 : n80_14 s = behK 14370 (stepsO X (annT 80) C (gO c80_14) o80_14.1 s) := q_region (annT 80) s 4 _ false rfl _ _ rfl rfl o80_14.2
theorem g_o80_14 : gdst (gO c80_14) j = (o80_14.1[j]?).bind Oper.dst := gd_eq o80_14.2 j
theorem r_n80_18 : n80_18 s = behK 30754 (stepsO X (annT 80) C (gO c80_18) o80_18.1 s) := q_region (annT 80) s 5 _ false rfl _ _ rfl rfl o80_18.2
theorem g_o80_18 : gdst (gO c80_18) j = (o80_18.1[j]?).bind Oper.dst := gd_eq o80_18.2 j
theorem r_n80_21 : n80_21 s = some (.norm, s) := run_skip _ s
theorem r_n80_22 : n80_22 s = some (.exit 0, s) := run_exit _ s 0
theorem r_n80_20 : n80_20 s = condK (opv s.t (.tmp 14)) n80_21 n80_22 s := q_cond _ c80_21 c80_22 s (.tmp 14)
theorem r_n80_26 : n80_26 s = behK 14498 (stepsO X (annT 80) C (gO c80_26) o80_26.1 s) := q_region (annT 80) s 6 _ false rfl _ _ rfl rfl o80_26.2
theorem g_o80_26 : gdst (gO c80_26) j = (o80_26.1[j]?).bind Oper.dst := gd_eq o80_26.2 j
theorem r_n80_27 : n80_27 s = behK 14370 (stepsO X (annT 80) C (gO c80_27) o80_27.1 s) := q_region (annT 80) s 7 _ false rfl _ _ rfl rfl o80_27.2
theorem g_o80_27 : gdst (gO c80_27) j = (o80_27.1[j]?).bind Oper.dst := gd_eq o80_27.2 j
theorem r_n80_25 : n80_25 s = contK n80_27 (n80_26 s) := q_seq _ c80_26 c80_27 s
theorem r_n80_24 : n80_24 s = blkK 1 (n80_25 s) := q_block _ c80_25 s 1
theorem r_n80_28 : n80_28 s = behK 14370 (stepsO X (annT 80) C (gO c80_28) o80_28.1 s) := q_region (annT 80) s 8 _ false rfl _ _ rfl rfl o80_28.2
theorem g_o80_28 : gdst (gO c80_28) j = (o80_28.1[j]?).bind Oper.dst := gd_eq o80_28.2 j
theorem r_n80_23 : n80_23 s = contK n80_28 (n80_24 s) := q_seq _ c80_24 c80_28 s
theorem r_n80_19 : n80_19 s = contK n80_23 (n80_20 s) := q_seq _ c80_20 c80_23 s
theorem r_n80_17 : n80_17 s = contK n80_19 (n80_18 s) := q_seq _ c80_18 c80_19 s
theorem r_n80_16 : n80_16 s = loopK 14370 s.st.length n80_16 (n80_17 s) := q_loop (annT 80) c80_17 s _ _ rfl rfl
theorem r_n80_15 : n80_15 s = blkK 0 (n80_16 s) := q_block _ c80_16 s 0
theorem r_n80_13 : n80_13 s = contK n80_15 (n80_14 s) := q_seq _ c80_14 c80_15 s
theorem r_n80_30 : n80_30 s = behK 16 (stepsO X (annT 80) C (gO c80_30) o80_30.1 s) := q_region (annT 80) s 9 _ false rfl _ _ rfl rfl o80_30.2
theorem g_o80_30 : gdst (gO c80_30) j = (o80_30.1[j]?).bind Oper.dst := gd_eq o80_30.2 j
theorem r_n80_31 : n80_31 s = some (.ret, s) := run_ret _ s
theorem r_n80_29 : n80_29 s = contK n80_31 (n80_30 s) := q_seq _ c80_30 c80_31 s
theorem r_n80_12 : n80_12 s = contK n80_29 (n80_13 s) := q_seq _ c80_13 c80_29 s
theorem r_n80_10 : n80_10 s = contK n80_12 (n80_11 s) := q_seq _ c80_11 c80_12 s
theorem r_n80_2 : n80_2 s = contK n80_10 (n80_3 s) := q_seq _ c80_3 c80_10 s
theorem r_n80_0 : n80_0 s = contK n80_2 (n80_1 s) := q_seq _ c80_1 c80_2 s
theorem va_80 : (annT 80).virt = [] := rfl
theorem wa_80 : (annT 80).wr = [] := rfl
theorem ya_80 : (annT 80).ty = [] := rfl
theorem cv_80 (call : Eng.Call) (wr : Bool) (args : List AV) (st : Store) : callV X call wr 80 args st = cvP call wr 80 args st (fzAll (fz false st 6) args) := cv_pure rfl rfl call wr args st
theorem p80 (ds : List D) : pureCall C 80 ds = ((n80_0 ⟨argsT 0 (ds.map .d), []⟩).bind (bodyR [.tmp 4])).bind prOf := P_eq Try.f80 rfl rfl rfl rfl ds
theorem q80 (vs : List AV) (st : Store) : C 80 vs st = (n80_0 ⟨argsT 0 vs, st⟩).bind (bodyR [.tmp 4]) := C_eq Try.f80 rfl rfl rfl rfl vs st
attribute [go_sem] r_n80_1 g_o80_1 o80_1 r_n80_4 g_o80_4 o80_4 r_n80_7 g_o80_7 o80_7 r_n80_8 r_n80_6 r_n80_9 r_n80_5 r_n80_3 r_n80_11 g_o80_11 o80_11 r_n80_14 g_o80_14 o80_14 r_n80_18 g_o80_18 o80_18 r_n80_21 r_n80_22 r_n80_20 r_n80_26 g_o80_26 o80_26 r_n80_27 g_o80_27 o80_27 r_n80_25 r_n80_24 r_n80_28 g_o80_28 o80_28 r_n80_23 r_n80_19 r_n80_17 r_n80_15 r_n80_13 r_n80_30 g_o80_30 o80_30 r_n80_31 r_n80_29 r_n80_12 r_n80_10 r_n80_2 r_n80_0 va_80 wa_80 ya_80 cv_80
noncomputable def c59_0 : Code := Try.f59.body.getD .skip
noncomputable def A59 := run (annT 59)
def n59_0 := A59 c59_0
def c59_1 := gL c59_0
def n59_1 := A59 c59_1
def o59_1 : OL c59_1 := ⟨_, by conv => (lhs; whnf)⟩
def c59_2 := gR c59_0
def n59_2 := A59 c59_2
def c59_3 := gL c59_2
def n59_3 := A59 c59_3
def o59_3 : OL c59_3 := ⟨_, by conv => (lhs; whnf)⟩
def c59_4 := gR c59_2
def n59_4 := A59 c59_4
theorem r_n59_1 : n59_1 s = behK 2 (stepsO X (annT 59) C (gO c59_1) o59_1.1 s) := q_region (annT 59) s 0 _ false rfl _ _ rfl rfl o59_1.2
theorem g_o59_1 : gdst (gO c59_1) j = (o59_1.1[j]?).bind Oper.dst := gd_eq o59_1.2 j
theorem r_n59_3 : n59_3 s = behK 4 (stepsO X (annT 59) C (gO c59_3) o59_3.1 s) := q_region (annT 59) s 1 _ false rfl _ _ rfl rfl o59_3.2
theorem g_o59_3 : gdst (gO c59_3) j = (o59_3.1[j]?).bind Oper.dst := gd_eq o59_3.2 j
theorem r_n59_4 : n59_4 s = some (.ret, s) := run_ret _ s
theorem r_n59_2 : n59_2 s = contK n59_4 (n59_3 s) := q_seq _ c59_3 c59_4 s
theorem r_n59_0 : n59_0 s = contK n59_2 (n59_1 s) := q_seq _ c59_1 c59_2 s
theorem va_59 : (annT 59).virt = [] := rfl
theorem wa_59 : (annT 59).wr = [] := rfl
theorem ya_59 : (annT 59).ty = [] := rfl
theorem cv_59 (call : Eng.Call) (wr : Bool) (args : List AV) (st : Store) : callV X call wr 59 args st = cvP call wr 59 args st (fzAll (fz false st 6) args) := cv_pure rfl rfl call wr args st
theorem p59 (ds : List D) : pureCall C 59 ds = ((n59_0 ⟨argsT 0 (ds.map .d), []⟩).bind (bodyR [.tmp 2])).bind prOf := P_eq Try.f59 rfl rfl rfl rfl ds
theorem q59 (vs : List AV) (st : Store) : C 59 vs st = (n59_0 ⟨argsT 0 vs, st⟩).bind (bodyR [.tmp 2]) := C_eq Try.f59 rfl rfl rfl rfl vs st
attribute [go_sem] r_n59_1 g_o59_1 o59_1 r_n59_3 g_o59_3 o59_3 r_n59_4 r_n59_2 r_n59_0 va_59 wa_59 ya_59 cv_59
noncomputable def c60_0 : Code := Try.f60.body.getD .skip
noncomputable def A60 := run (annT 60)
def n60_0 := A60 c60_0
def c60_1 := gL c60_0
def n60_1 := A60 c60_1
def o60_1 : OL c60_1 := ⟨_, by conv => (lhs; whnf)⟩
def c60_2 := gR c60_0
def n60_2 := A60 c60_2
def c60_3 := gL c60_2
def n60_3 := A60 c60_3
def c60_4 := gL c60_3
def n60_4 := A60 c60_4
def o60_4 : OL c60_4 := ⟨_, by conv => (lhs; whnf)⟩
def c60_5 := gR c60_3
def n60_5 := A60 c60_5
def c60_6 := gT c60_5
def n60_6 := A60 c60_6
def c60_7 := gL c60_6
def n60_7 := A60 c60_7
def o60_7 : OL c60_7 := ⟨_, by conv => (lhs; whnf)⟩
def c60_8 := gR c60_6
def n60_8 := A60 c60_8
def c60_9 := gF c60_5
def n60_9 := A60 c60_9
def c60_10 := gR c60_2
def n60_10 := A60 c60_10
def c60_11 := gL c60_10
def n60_11 := A60 c60_11
def c60_12 := gL c60_11
def n60_12 := A60 c60_12
def o60_12 : OL c60_12 := ⟨_, by conv => (lhs; whnf)⟩
def c60_13 := gR c60_11
def n60_13 := A60 c60_13
def c60_14 := gT c60_13
def n60_14 := A60 c60_14
def c60_15 := gL c60_14
def n60_15 := A60 c60_15
def o60_15 : OL c60_15 := ⟨_, by conv => (lhs; whnf)⟩
def c60_16 := gR c60_14
def n60_16 := A60 c60_16
def c60_17 := gF c60_13
def n60_17 := A60 c60_17
def c60_18 := gR c60_10
def n60_18 := A60 c60_18
def c60_19 := gL c60_18
def n60_19 := A60 c60_19
def c60_20 := gL c60_19
def n60_20 := A60 c60_20
def o60_20 : OL c60_20 := ⟨_, by conv => (lhs; whnf)⟩
def c60_21 := gR c60_19
def n60_21 := A60 c60_21
def c60_22 := gB c60_21
def n60_22 := A60 c60_22
def c60_23 := gB c60_22
def n60_23 := A60 c60_23
def c60_24 := gL c60_23
def n60_24 := A60 c60_24
def o60_24 : OL c60_24 := ⟨_, by conv => (lhs; whnf)⟩
def c60_25 := gR c60_23
def n60_25 := A60 c60_25
def c60_26 := gL c60_25
def n60_26 := A60 c60_26
def c60_27 := gT c60_26
def n60_27 := A60 c60_27
def c60_28 := gF c60_26
def n60_28 := A60 c60_28
def c60_29 := gR c60_25
def n60_29 := A60 c60_29
def c60_30 := gL c60_29
def n60_30 := A60 c60_30
def c60_31 := gB c60_30
def n60_31 := A60 c60_31
def c60_32 := gL c60_31
def n60_32 := A60 c60_32
def o60_32 : OL c60_32 := ⟨_, by conv => (lhs; whnf)⟩
def c60_33 := gR c60_31
def n60_33 := A60 c60_33
def c60_34 := gL c60_33
def n60_34 := A60 c60_34
def o60_34 : OL c60_34 := ⟨_, by conv => (lhs; whnf)⟩
def c60_35 := gR c60_33
def n60_35 := A60 c60_35
def c60_36 := gT c60_35
def n60_36 := A60 c60_36
def c60_37 := gL c60_36
def n60_37 := A60 c60_37
def o60_37 : OL c60_37 := ⟨_, by conv => (lhs; whnf)⟩
def c60_38 := gR c60_36
def n60_38 := A60 c60_38
def c60_39 := gF c60_35
def n60_39 := A60 c60_39
def c60_40 := gR c60_29
def n60_40 := A60 c60_40
def o60_40 : OL c60_40 := ⟨_, by conv => (lhs; whnf)⟩
def c60_41 := gR c60_18
def n60_41 := A60 c60_41
def c60_42 := gL c60_41
def n60_42 := A60 c60_42
def o60_42 : OL c60_42 := ⟨_, by conv => (lhs; whnf)⟩
def c60_43 := gR c60_41
def n60_43 := A60 c60_43
theorem r_n60_1 : n60_1 s = behK 2 (stepsO X (annT 60) C (gO c60_1) o60_1.1 s) := q_region (annT 60) s 0 _ false rfl _ _ rfl rfl o60_1.2
theorem g_o60_1 : gdst (gO c60_1) j = (o60_1.1[j]?).bind Oper.dst := gd_eq o60_1.2 j
theorem r_n60_4 : n60_4 s = behK 4194306 (stepsO X (annT 60) C (gO c60_4) o60_4.1 s) := q_region (annT 60) s 1 _ false rfl _ _ rfl rfl o60_4.2
theorem g_o60_4 : gdst (gO c60_4) j = (o60_4.1[j]?).bind Oper.dst := gd_eq o60_4.2 j
theorem r_n60_7 : n60_7 s = behK 4 (stepsO X (annT 60) C (gO c60_7) o60_7.1 s) := q_region (annT 60) s 2 _ false rfl _ _ rfl rfl o60_7.2
theorem g_o60_7 : gdst (gO c60_7) j = (o60_7.1[j]?).bind Oper.dst := gd_eq o60_7.2 j
theorem r_n60_8 : n60_8 s = some (.ret, s) := run_ret _ s
theorem r_n60_6 : n60_6 s = contK n60_8 (n60_7 s) := q_seq _ c60_7 c60_8 s
theorem r_n60_9 : n60_9 s = some (.norm, s) := run_skip _ s
theorem r_n60_5 : n60_5 s = condK (opv s.t (.tmp 22)) n60_6 n60_9 s := q_cond _ c60_6 c60_9 s (.tmp 22)
theorem r_n60_3 : n60_3 s = contK n60_5 (n60_4 s) := q_seq _ c60_4 c60_5 s
theorem r_n60_12 : n60_12 s = behK 1099511627778 (stepsO X (annT 60) C (gO c60_12) o60_12.1 s) := q_region (annT 60) s 3 _ false rfl _ _ rfl rfl o60_12.2
theorem g_o60_12 : gdst (gO c60_12) j = (o60_12.1[j]?).bind Oper.dst := gd_eq o60_12.2 j
theorem r_n60_15 : n60_15 s = behK 4 (stepsO X (annT 60) C (gO c60_15) o60_15.1 s) := q_region (annT 60) s 4 _ false rfl _ _ rfl rfl o60_15.2
theorem g_o60_15 : gdst (gO c60_15) j = (o60_15.1[j]?).bind Oper.dst := gd_eq o60_15.2 j
theorem r_n60_16 : n60_16 s = some (.ret, s) := run_ret _ s
theorem r_n60_14 : n60_14 s = contK n60_16 (n60_15 s) := q_seq _ c60_15 c60_16 s
theorem r_n60_17 : n60_17 s = some (.norm, s) := run_skip _ s
theorem r_n60_13 : n60_13 s = condK (opv s.t (.tmp 40)) n60_14 n60_17 s := q_cond _ c60_14 c60_17 s (.tmp 40)
theorem r_n60_11 : n60_11 s = contK n60_13 (n60_12 s) := q_seq _ c60_12 c60_13 s
theorem r_n60_20 : n60_20 s = behK 30786325577728 (stepsO X (annT 60) C (gO c60_20) o60_20.1 s) := q_region (annT 60) s 5 _ false rfl _ _ rfl rfl o60_20.2
theorem g_o60_20 : gdst (gO c60_20) j = (o60_20.1[j]?).bind Oper.dst := gd_eq o60_20.2 j
theorem r_n60_24 : n60_24 s = behK 65970697666560 (stepsO X (annT 60) C (gO c60_24) o60_24.1 s) := q_region (annT 60) s 6 _ false rfl _ _ rfl rfl o60_24.2
theorem g_o60_24 : gdst (gO c60_24) j = (o60_24.1[j]?).bind Oper.dst := gd_eq o60_24.2 j
theorem r_n60_27 : n60_27 s = some (.norm, s) := run_skip _ s
theorem r_n60_28 : n60_28 s = some (.exit 0, s) := run_exit _ s 0
theorem r_n60_26 : n60_26 s = condK (opv s.t (.tmp 45)) n60_27 n60_28 s := q_cond _ c60_27 c60_28 s (.tmp 45)
theorem r_n60_32 : n60_32 s = behK 30786325577744 (stepsO X (annT 60) C (gO c60_32) o60_32.1 s) := q_region (annT 60) s 7 _ false rfl _ _ rfl rfl o60_32.2
theorem g_o60_32 : gdst (gO c60_32) j = (o60_32.1[j]?).bind Oper.dst := gd_eq o60_32.2 j
theorem r_n60_34 : n60_34 s = behK 1156686232420352 (stepsO X (annT 60) C (gO c60_34) o60_34.1 s) := q_region (annT 60) s 8 _ false rfl _ _ rfl rfl o60_34.2
theorem g_o60_34 : gdst (gO c60_34) j = (o60_34.1[j]?).bind Oper.dst := gd_eq o60_34.2 j
theorem r_n60_37 : n60_37 s = behK 4 (stepsO X (annT 60) C (gO c60_37) o60_37.1 s) := q_region (annT 60) s 9 _ false rfl _ _ rfl rfl o60_37.2
theorem g_o60_37 : gdst (gO c60_37) j = (o60_37.1[j]?).bind Oper.dst := gd_eq o60_37.2 j
theorem r_n60_38 : n60_38 s = some (.ret, s) := run_ret _ s
theorem r_n60_36 : n60_36 s = contK n60_38 (n60_37 s) := q_seq _ c60_37 c60_38 s
theorem r_n60_39 : n60_39 s = some (.norm, s) := run_skip _ s
theorem r_n60_35 : n60_35 s = condK (opv s.t (.tmp 50)) n60_36 n60_39 s := q_cond _ c60_36 c60_39 s (.tmp 50)
theorem r_n60_33 : n60_33 s = contK n60_35 (n60_34 s) := q_seq _ c60_34 c60_35 s
theorem r_n60_31 : n60_31 s = contK n60_33 (n60_32 s) := q_seq _ c60_32 c60_33 s
theorem r_n60_30 : n60_30 s = blkK 1 (n60_31 s) := q_block _ c60_31 s 1
theorem r_n60_40 : n60_40 s = behK 30786325577728 (stepsO X (annT 60) C (gO c60_40) o60_40.1 s) := q_region (annT 60) s 10 _ false rfl _ _ rfl rfl o60_40.2
theorem g_o60_40 : gdst (gO c60_40) j = (o60_40.1[j]?).bind Oper.dst := gd_eq o60_40.2 j
theorem r_n60_29 : n60_29 s = contK n60_40 (n60_30 s) := q_seq _ c60_30 c60_40 s
theorem r_n60_25 : n60_25 s = contK n60_29 (n60_26 s) := q_seq _ c60_26 c60_29 s
theorem r_n60_23 : n60_23 s = contK n60_25 (n60_24 s) := q_seq _ c60_24 c60_25 s
theorem r_n60_22 : n60_22 s = loopK 30786325577728 s.st.length n60_22 (n60_23 s) := q_loop (annT 60) c60_23 s _ _ rfl rfl
theorem r_n60_21 : n60_21 s = blkK 0 (n60_22 s) := q_block _ c60_22 s 0
theorem r_n60_19 : n60_19 s = contK n60_21 (n60_20 s) := q_seq _ c60_20 c60_21 s
theorem r_n60_42 : n60_42 s = behK 4 (stepsO X (annT 60) C (gO c60_42) o60_42.1 s) := q_region (annT 60) s 11 _ false rfl _ _ rfl rfl o60_42.2
theorem g_o60_42 : gdst (gO c60_42) j = (o60_42.1[j]?).bind Oper.dst := gd_eq o60_42.2 j
theorem r_n60_43 : n60_43 s = some (.ret, s) := run_ret _ s
theorem r_n60_41 : n60_41 s = contK n60_43 (n60_42 s) := q_seq _ c60_42 c60_43 s
theorem r_n60_18 : n60_18 s = contK n60_41 (n60_19 s) := q_seq _ c60_19 c60_41 s
theorem r_n60_10 : n60_10 s = contK n60_18 (n60_11 s) := q_seq _ c60_11 c60_18 s
theorem r_n60_2 : n60_2 s = contK n60_10 (n60_3 s) := q_seq _ c60_3 c60_10 s
theorem r_n60_0 : n60_0 s = contK n60_2 (n60_1 s) := q_seq _ c60_1 c60_2 s
theorem va_60 : (annT 60).virt = [] := rfl
theorem wa_60 : (annT 60).wr = [] := rfl
theorem ya_60 : (annT 60).ty = [] := rfl
theorem cv_60 (call : Eng.Call) (wr : Bool) (args : List AV) (st : Store) : callV X call wr 60 args st = cvP call wr 60 args st (fzAll (fz false st 6) args) := cv_pure rfl rfl call wr args st
theorem p60 (ds : List D) : pureCall C 60 ds = ((n60_0 ⟨argsT 0 (ds.map .d), []⟩).bind (bodyR [.tmp 2])).bind prOf := P_eq Try.f60 rfl rfl rfl rfl ds
theorem q60 (vs : List AV) (st : Store) : C 60 vs st = (n60_0 ⟨argsT 0 vs, st⟩).bind (bodyR [.tmp 2]) := C_eq Try.f60 rfl rfl rfl rfl vs st
attribute [go_sem] r_n60_1 g_o60_1 o60_1 r_n60_4 g_o60_4 o60_4 r_n60_7 g_o60_7 o60_7 r_n60_8 r_n60_6 r_n60_9 r_n60_5 r_n60_3 r_n60_12 g_o60_12 o60_12 r_n60_15 g_o60_15 o60_15 r_n60_16 r_n60_14 r_n60_17 r_n60_13 r_n60_11 r_n60_20 g_o60_20 o60_20 r_n60_24 g_o60_24 o60_24 r_n60_27 r_n60_28 r_n60_26 r_n60_32 g_o60_32 o60_32 r_n60_34 g_o60_34 o60_34 r_n60_37 g_o60_37 o60_37 r_n60_38 r_n60_36 r_n60_39 r_n60_35 r_n60_33 r_n60_31 r_n60_30 r_n60_40 g_o60_40 o60_40 r_n60_29 r_n60_25 r_n60_23 r_n60_21 r_n60_19 r_n60_42 g_o60_42 o60_42 r_n60_43 r_n60_41 r_n60_18 r_n60_10 r_n60_2 r_n60_0 va_60 wa_60 ya_60 cv_60
noncomputable def c81_0 : Code := Try.f81.body.getD .skip
noncomputable def A81 := run (annT 81)
def n81_0 := A81 c81_0
def c81_1 := gL c81_0
def n81_1 := A81 c81_1
def o81_1 : OL c81_1 := ⟨_, by conv => (lhs; whnf)⟩
def c81_2 := gR c81_0
def n81_2 := A81 c81_2
def c81_3 := gL c81_2
def n81_3 := A81 c81_3
def o81_3 : OL c81_3 := ⟨_, by conv => (lhs; whnf)⟩
def c81_4 := gR c81_2
def n81_4 := A81 c81_4
theorem r_n81_1 : n81_1 s = behK 1 (stepsO X (annT 81) C (gO c81_1) o81_1.1 s) := q_region (annT 81) s 0 _ false rfl _ _ rfl rfl o81_1.2
theorem g_o81_1 : gdst (gO c81_1) j = (o81_1.1[j]?).bind Oper.dst := gd_eq o81_1.2 j
theorem r_n81_3 : n81_3 s = behK 4 (stepsO X (annT 81) C (gO c81_3) o81_3.1 s) := q_region (annT 81) s 1 _ false rfl _ _ rfl rfl o81_3.2
theorem g_o81_3 : gdst (gO c81_3) j = (o81_3.1[j]?).bind Oper.dst := gd_eq o81_3.2 j
theorem r_n81_4 : n81_4 s = some (.ret, s) := run_ret _ s
theorem r_n81_2 : n81_2 s = contK n81_4 (n81_3 s) := q_seq _ c81_3 c81_4 s
theorem r_n81_0 : n81_0 s = contK n81_2 (n81_1 s) := q_seq _ c81_1 c81_2 s
theorem va_81 : (annT 81).virt = [] := rfl
theorem wa_81 : (annT 81).wr = [] := rfl
theorem ya_81 : (annT 81).ty = [] := rfl
theorem cv_81 (call : Eng.Call) (wr : Bool) (args : List AV) (st : Store) : callV X call wr 81 args st = (call 81 args st).map (trimR st.length) := cv_imp rfl rfl call wr args st
theorem p81 (ds : List D) : pureCall C 81 ds = ((n81_0 ⟨argsT 0 (ds.map .d), []⟩).bind (bodyR [.tmp 2])).bind prOf := P_eq Try.f81 rfl rfl rfl rfl ds
theorem q81 (vs : List AV) (st : Store) : C 81 vs st = (n81_0 ⟨argsT 0 vs, st⟩).bind (bodyR [.tmp 2]) := C_eq Try.f81 rfl rfl rfl rfl vs st
attribute [go_sem] r_n81_1 g_o81_1 o81_1 r_n81_3 g_o81_3 o81_3 r_n81_4 r_n81_2 r_n81_0 va_81 wa_81 ya_81 cv_81
noncomputable def c82_0 : Code := Try.f82.body.getD .skip
noncomputable def A82 := run (annT 82)
def n82_0 := A82 c82_0
def c82_1 := gL c82_0
def n82_1 := A82 c82_1
def o82_1 : OL c82_1 := ⟨_, by conv => (lhs; whnf)⟩
def c82_2 := gR c82_0
def n82_2 := A82 c82_2
def c82_3 := gL c82_2
def n82_3 := A82 c82_3
def o82_3 : OL c82_3 := ⟨_, by conv => (lhs; whnf)⟩
def c82_4 := gR c82_2
def n82_4 := A82 c82_4
def c82_5 := gL c82_4
def n82_5 := A82 c82_5
def o82_5 : OL c82_5 := ⟨_, by conv => (lhs; whnf)⟩
def c82_6 := gR c82_4
def n82_6 := A82 c82_6
def c82_7 := gL c82_6
def n82_7 := A82 c82_7
def o82_7 : OL c82_7 := ⟨_, by conv => (lhs; whnf)⟩
def c82_8 := gR c82_6
def n82_8 := A82 c82_8
theorem r_n82_1 : n82_1 s = behK 3 (stepsO X (annT 82) C (gO c82_1) o82_1.1 s) := q_region (annT 82) s 0 _ false rfl _ _ rfl rfl o82_1.2
theorem g_o82_1 : gdst (gO c82_1) j = (o82_1.1[j]?).bind Oper.dst := gd_eq o82_1.2 j
theorem r_n82_3 : n82_3 s = behK 3 (stepsO X (annT 82) C (gO c82_3) o82_3.1 s) := q_region (annT 82) s 1 _ false rfl _ _ rfl rfl o82_3.2
theorem g_o82_3 : gdst (gO c82_3) j = (o82_3.1[j]?).bind Oper.dst := gd_eq o82_3.2 j
theorem r_n82_5 : n82_5 s = behK 2 (stepsO X (annT 82) C (gO c82_5) o82_5.1 s) := q_region (annT 82) s 2 _ false rfl _ _ rfl rfl o82_5.2
theorem g_o82_5 : gdst (gO c82_5) j = (o82_5.1[j]?).bind Oper.dst := gd_eq o82_5.2 j
theorem r_n82_7 : n82_7 s = behK 48 (stepsO X (annT 82) C (gO c82_7) o82_7.1 s) := q_region (annT 82) s 3 _ false rfl _ _ rfl rfl o82_7.2
theorem g_o82_7 : gdst (gO c82_7) j = (o82_7.1[j]?).bind Oper.dst := gd_eq o82_7.2 j
theorem r_n82_8 : n82_8 s = some (.ret, s) := run_ret _ s
theorem r_n82_6 : n82_6 s = contK n82_8 (n82_7 s) := q_seq _ c82_7 c82_8 s
theorem r_n82_4 : n82_4 s = contK n82_6 (n82_5 s) := q_seq _ c82_5 c82_6 s
theorem r_n82_2 : n82_2 s = contK n82_4 (n82_3 s) := q_seq _ c82_3 c82_4 s
theorem r_n82_0 : n82_0 s = contK n82_2 (n82_1 s) := q_seq _ c82_1 c82_2 s
theorem va_82 : (annT 82).virt = [] := rfl
theorem wa_82 : (annT 82).wr = [] := rfl
theorem ya_82 : (annT 82).ty = [14] := rfl
theorem cv_82 (call : Eng.Call) (wr : Bool) (args : List AV) (st : Store) : callV X call wr 82 args st = (call 82 args st).map (trimR st.length) := cv_imp rfl rfl call wr args st
theorem p82 (ds : List D) : pureCall C 82 ds = ((n82_0 ⟨argsT 0 (ds.map .d), []⟩).bind (bodyR [.tmp 4, .tmp 5])).bind prOf := P_eq Try.f82 rfl rfl rfl rfl ds
theorem q82 (vs : List AV) (st : Store) : C 82 vs st = (n82_0 ⟨argsT 0 vs, st⟩).bind (bodyR [.tmp 4, .tmp 5]) := C_eq Try.f82 rfl rfl rfl rfl vs st
attribute [go_sem] r_n82_1 g_o82_1 o82_1 r_n82_3 g_o82_3 o82_3 r_n82_5 g_o82_5 o82_5 r_n82_7 g_o82_7 o82_7 r_n82_8 r_n82_6 r_n82_4 r_n82_2 r_n82_0 va_82 wa_82 ya_82 cv_82
noncomputable def c62_0 : Code := Try.f62.body.getD .skip
noncomputable def A62 := run (annT 62)
def n62_0 := A62 c62_0
def c62_1 := gL c62_0
def n62_1 := A62 c62_1
def o62_1 : OL c62_1 := ⟨_, by conv => (lhs; whnf)⟩
def c62_2 := gR c62_0
def n62_2 := A62 c62_2
def c62_3 := gL c62_2
def n62_3 := A62 c62_3
def o62_3 : OL c62_3 := ⟨_, by conv => (lhs; whnf)⟩
def c62_4 := gR c62_2
def n62_4 := A62 c62_4
def c62_5 := gT c62_4
def n62_5 := A62 c62_5
def o62_5 : OL c62_5 := ⟨_, by conv => (lhs; whnf)⟩
def c62_6 := gF c62_4
def n62_6 := A62 c62_6
theorem r_n62_1 : n62_1 s = behK 3 (stepsO X (annT 62) C (gO c62_1) o62_1.1 s) := q_region (annT 62) s 0 _ false rfl _ _ rfl rfl o62_1.2
theorem g_o62_1 : gdst (gO c62_1) j = (o62_1.1[j]?).bind Oper.dst := gd_eq o62_1.2 j
theorem r_n62_3 : n62_3 s = behK 33554435 (stepsO X (annT 62) C (gO c62_3) o62_3.1 s) := q_region (annT 62) s 1 _ false rfl _ _ rfl rfl o62_3.2
theorem g_o62_3 : gdst (gO c62_3) j = (o62_3.1[j]?).bind Oper.dst := gd_eq o62_3.2 j
theorem r_n62_5 : n62_5 s = behK 0 (stepsO X (annT 62) C (gO c62_5) o62_5.1 s) := q_region (annT 62) s 2 _ false rfl _ _ rfl rfl o62_5.2
theorem g_o62_5 : gdst (gO c62_5) j = (o62_5.1[j]?).bind Oper.dst := gd_eq o62_5.2 j
theorem r_n62_6 : n62_6 s = some (.norm, s) := run_skip _ s
theorem r_n62_4 : n62_4 s = condK (opv s.t (.tmp 25)) n62_5 n62_6 s := q_cond _ c62_5 c62_6 s (.tmp 25)
theorem r_n62_2 : n62_2 s = contK n62_4 (n62_3 s) := q_seq _ c62_3 c62_4 s
theorem r_n62_0 : n62_0 s = contK n62_2 (n62_1 s) := q_seq _ c62_1 c62_2 s
theorem va_62 : (annT 62).virt = [] := rfl
theorem wa_62 : (annT 62).wr = [] := rfl
theorem ya_62 : (annT 62).ty = [] := rfl
theorem cv_62 (call : Eng.Call) (wr : Bool) (args : List AV) (st : Store) : callV X call wr 62 args st = (call 62 args st).map (trimR st.length) := cv_imp rfl rfl call wr args st
theorem p62 (ds : List D) : pureCall C 62 ds = ((n62_0 ⟨argsT 0 (ds.map .d), []⟩).bind (bodyR [])).bind prOf := P_eq Try.f62 rfl rfl rfl rfl ds
theorem q62 (vs : List AV) (st : Store) : C 62 vs st = (n62_0 ⟨argsT 0 vs, st⟩).bind (bodyR []) := C_eq Try.f62 rfl rfl rfl rfl vs st
attribute [go_sem] r_n62_1 g_o62_1 o62_1 r_n62_3 g_o62_3 o62_3 r_n62_5 g_o62_5 o62_5 r_n62_6 r_n62_4 r_n62_2 r_n62_0 va_62 wa_62 ya_62 cv_62
noncomputable def c38_0 : Code := Try.f38.body.getD .skip
noncomputable def A38 := run (annT 38)
def n38_0 := A38 c38_0
def c38_1 := gL c38_0
def n38_1 := A38 c38_1
def o38_1 : OL c38_1 := ⟨_, by conv => (lhs; whnf)⟩
def c38_2 := gR c38_0
def n38_2 := A38 c38_2
def c38_3 := gL c38_2
def n38_3 := A38 c38_3
def c38_4 := gL c38_3
def n38_4 := A38 c38_4
def o38_4 : OL c38_4 := ⟨_, by conv => (lhs; whnf)⟩
def c38_5 := gR c38_3
def n38_5 := A38 c38_5
def c38_6 := gT c38_5
def n38_6 := A38 c38_6
def c38_7 := gF c38_5
def n38_7 := A38 c38_7
def c38_8 := gR c38_2
def n38_8 := A38 c38_8
def c38_9 := gL c38_8
def n38_9 := A38 c38_9
def o38_9 : OL c38_9 := ⟨_, by conv => (lhs; whnf)⟩
def c38_10 := gR c38_8
def n38_10 := A38 c38_10
def c38_11 := gL c38_10
def n38_11 := A38 c38_11
def o38_11 : OL c38_11 := ⟨_, by conv => (lhs; whnf)⟩
def c38_12 := gR c38_10
def n38_12 := A38 c38_12
def c38_13 := gL c38_12
def n38_13 := A38 c38_13
def c38_14 := gL c38_13
def n38_14 := A38 c38_14
def o38_14 : OL c38_14 := ⟨_, by conv => (lhs; whnf)⟩
def c38_15 := gR c38_13
def n38_15 := A38 c38_15
def c38_16 := gT c38_15
def n38_16 := A38 c38_16
def c38_17 := gL c38_16
def n38_17 := A38 c38_17
def o38_17 : OL c38_17 := ⟨_, by conv => (lhs; whnf)⟩
def c38_18 := gR c38_16
def n38_18 := A38 c38_18
def c38_19 := gL c38_18
def n38_19 := A38 c38_19
def o38_19 : OL c38_19 := ⟨_, by conv => (lhs; whnf)⟩
def c38_20 := gR c38_18
def n38_20 := A38 c38_20
def c38_21 := gL c38_20
def n38_21 := A38 c38_21
def c38_22 := gL c38_21
def n38_22 := A38 c38_22
def o38_22 : OL c38_22 := ⟨_, by conv => (lhs; whnf)⟩
def c38_23 := gR c38_21
def n38_23 := A38 c38_23
def c38_24 := gB c38_23
def n38_24 := A38 c38_24
def c38_25 := gB c38_24
def n38_25 := A38 c38_25
def c38_26 := gL c38_25
def n38_26 := A38 c38_26
def o38_26 : OL c38_26 := ⟨_, by conv => (lhs; whnf)⟩
def c38_27 := gR c38_25
def n38_27 := A38 c38_27
def c38_28 := gL c38_27
def n38_28 := A38 c38_28
def c38_29 := gT c38_28
def n38_29 := A38 c38_29
def c38_30 := gF c38_28
def n38_30 := A38 c38_30
def c38_31 := gR c38_27
def n38_31 := A38 c38_31
def c38_32 := gL c38_31
def n38_32 := A38 c38_32
def c38_33 := gB c38_32
def n38_33 := A38 c38_33
def c38_34 := gL c38_33
def n38_34 := A38 c38_34
def o38_34 : OL c38_34 := ⟨_, by conv => (lhs; whnf)⟩
def c38_35 := gR c38_33
def n38_35 := A38 c38_35
def o38_35 : OL c38_35 := ⟨_, by conv => (lhs; whnf)⟩
def c38_36 := gR c38_31
def n38_36 := A38 c38_36
def o38_36 : OL c38_36 := ⟨_, by conv => (lhs; whnf)⟩
def c38_37 := gR c38_20
def n38_37 := A38 c38_37
def c38_38 := gL c38_37
def n38_38 := A38 c38_38
def o38_38 : OL c38_38 := ⟨_, by conv => (lhs; whnf)⟩
def c38_39 := gR c38_37
def n38_39 := A38 c38_39
def o38_39 : OL c38_39 := ⟨_, by conv => (lhs; whnf)⟩
def c38_40 := gF c38_15
def n38_40 := A38 c38_40
def c38_41 := gR c38_12
def n38_41 := A38 c38_41
def c38_42 := gL c38_41
def n38_42 := A38 c38_42
def o38_42 : OL c38_42 := ⟨_, by conv => (lhs; whnf)⟩
def c38_43 := gR c38_41
def n38_43 := A38 c38_43
def c38_44 := gL c38_43
def n38_44 := A38 c38_44
def o38_44 : OL c38_44 := ⟨_, by conv => (lhs; whnf)⟩
def c38_45 := gR c38_43
def n38_45 := A38 c38_45
def o38_45 : OL c38_45 := ⟨_, by conv => (lhs; whnf)⟩
theorem r_n38_1 : n38_1 s = behK 9 (stepsO X (annT 38) C (gO c38_1) o38_1.1 s) := q_region (annT 38) s 0 _ false rfl _ _ rfl rfl o38_1.2
theorem g_o38_1 : gdst (gO c38_1) j = (o38_1.1[j]?).bind Oper.dst := gd_eq o38_1.2 j
theorem r_n38_4 : n38_4 s = behK 4105 (stepsO X (annT 38) C (gO c38_4) o38_4.1 s) := q_region (annT 38) s 1 _ false rfl _ _ rfl rfl o38_4.2
theorem g_o38_4 : gdst (gO c38_4) j = (o38_4.1[j]?).bind Oper.dst := gd_eq o38_4.2 j
theorem r_n38_6 : n38_6 s = some (.ret, s) := run_ret _ s
theorem r_n38_7 : n38_7 s = some (.norm, s) := run_skip _ s
theorem r_n38_5 : n38_5 s = condK (opv s.t (.tmp 12)) n38_6 n38_7 s := q_cond _ c38_6 c38_7 s (.tmp 12)
theorem r_n38_3 : n38_3 s = contK n38_5 (n38_4 s) := q_seq _ c38_4 c38_5 s
theorem r_n38_9 : n38_9 s = behK 25 (stepsO X (annT 38) C (gO c38_9) o38_9.1 s) := q_region (annT 38) s 2 _ false rfl _ _ rfl rfl o38_9.2
theorem g_o38_9 : gdst (gO c38_9) j = (o38_9.1[j]?).bind Oper.dst := gd_eq o38_9.2 j
theorem r_n38_11 : n38_11 s = behK 57 (stepsO X (annT 38) C (gO c38_11) o38_11.1 s) := q_region (annT 38) s 3 _ false rfl _ _ rfl rfl o38_11.2
theorem g_o38_11 : gdst (gO c38_11) j = (o38_11.1[j]?).bind Oper.dst := gd_eq o38_11.2 j
theorem r_n38_14 : n38_14 s = behK 8388665 (stepsO X (annT 38) C (gO c38_14) o38_14.1 s) := q_region (annT 38) s 4 _ false rfl _ _ rfl rfl o38_14.2
theorem g_o38_14 : gdst (gO c38_14) j = (o38_14.1[j]?).bind Oper.dst := gd_eq o38_14.2 j
theorem r_n38_17 : n38_17 s = behK 25 (stepsO X (annT 38) C (gO c38_17) o38_17.1 s) := q_region (annT 38) s 5 _ false rfl _ _ rfl rfl o38_17.2
theorem g_o38_17 : gdst (gO c38_17) j = (o38_17.1[j]?).bind Oper.dst := gd_eq o38_17.2 j
theorem r_n38_19 : n38_19 s = behK 89 (stepsO X (annT 38) C (gO c38_19) o38_19.1 s) := q_region (annT 38) s 6 _ false rfl _ _ rfl rfl o38_19.2
theorem g_o38_19 : gdst (gO c38_19) j = (o38_19.1[j]?).bind Oper.dst := gd_eq o38_19.2 j
theorem r_n38_22 : n38_22 s = behK 939524177 (stepsO X (annT 38) C (gO c38_22) o38_22.1 s) := q_region (annT 38) s 7 _ false rfl _ _ rfl rfl o38_22.2
theorem g_o38_22 : gdst (gO c38_22) j = (o38_22.1[j]?).bind Oper.dst := gd_eq o38_22.2 j
theorem r_n38_26 : n38_26 s = behK 2013266001 (stepsO X (annT 38) C (gO c38_26) o38_26.1 s) := q_region (annT 38) s 8 _ false rfl _ _ rfl rfl o38_26.2
theorem g_o38_26 : gdst (gO c38_26) j = (o38_26.1[j]?).bind Oper.dst := gd_eq o38_26.2 j
theorem r_n38_29 : n38_29 s = some (.norm, s) := run_skip _ s
theorem r_n38_30 : n38_30 s = some (.exit 0, s) := run_exit _ s 0
theorem r_n38_28 : n38_28 s = condK (opv s.t (.tmp 30)) n38_29 n38_30 s := q_cond _ c38_29 c38_30 s (.tmp 30)
theorem r_n38_34 : n38_34 s = behK 939524433 (stepsO X (annT 38) C (gO c38_34) o38_34.1 s) := q_region (annT 38) s 9 _ false rfl _ _ rfl rfl o38_34.2
theorem g_o38_34 : gdst (gO c38_34) j = (o38_34.1[j]?).bind Oper.dst := gd_eq o38_34.2 j
theorem r_n38_35 : n38_35 s = behK 939524177 (stepsO X (annT 38) C (gO c38_35) o38_35.1 s) := q_region (annT 38) s 10 _ false rfl _ _ rfl rfl o38_35.2
theorem g_o38_35 : gdst (gO c38_35) j = (o38_35.1[j]?).bind Oper.dst := gd_eq o38_35.2 j
theorem r_n38_33 : n38_33 s = contK n38_35 (n38_34 s) := q_seq _ c38_34 c38_35 s
theorem r_n38_32 : n38_32 s = blkK 1 (n38_33 s) := q_block _ c38_33 s 1
theorem r_n38_36 : n38_36 s = behK 939524177 (stepsO X (annT 38) C (gO c38_36) o38_36.1 s) := q_region (annT 38) s 11 _ false rfl _ _ rfl rfl o38_36.2
theorem g_o38_36 : gdst (gO c38_36) j = (o38_36.1[j]?).bind Oper.dst := gd_eq o38_36.2 j
theorem r_n38_31 : n38_31 s = contK n38_36 (n38_32 s) := q_seq _ c38_32 c38_36 s
theorem r_n38_27 : n38_27 s = contK n38_31 (n38_28 s) := q_seq _ c38_28 c38_31 s
theorem r_n38_25 : n38_25 s = contK n38_27 (n38_26 s) := q_seq _ c38_26 c38_27 s
theorem r_n38_24 : n38_24 s = loopK 939524177 s.st.length n38_24 (n38_25 s) := q_loop (annT 38) c38_25 s _ _ rfl rfl
theorem r_n38_23 : n38_23 s = blkK 0 (n38_24 s) := q_block _ c38_24 s 0
theorem r_n38_21 : n38_21 s = contK n38_23 (n38_22 s) := q_seq _ c38_22 c38_23 s
theorem r_n38_38 : n38_38 s = behK 81 (stepsO X (annT 38) C (gO c38_38) o38_38.1 s) := q_region (annT 38) s 12 _ false rfl _ _ rfl rfl o38_38.2
theorem g_o38_38 : gdst (gO c38_38) j = (o38_38.1[j]?).bind Oper.dst := gd_eq o38_38.2 j
theorem r_n38_39 : n38_39 s = behK 49 (stepsO X (annT 38) C (gO c38_39) o38_39.1 s) := q_region (annT 38) s 13 _ false rfl _ _ rfl rfl o38_39.2
theorem g_o38_39 : gdst (gO c38_39) j = (o38_39.1[j]?).bind Oper.dst := gd_eq o38_39.2 j
theorem r_n38_37 : n38_37 s = contK n38_39 (n38_38 s) := q_seq _ c38_38 c38_39 s
theorem r_n38_20 : n38_20 s = contK n38_37 (n38_21 s) := q_seq _ c38_21 c38_37 s
theorem r_n38_18 : n38_18 s = contK n38_20 (n38_19 s) := q_seq _ c38_19 c38_20 s
theorem r_n38_16 : n38_16 s = contK n38_18 (n38_17 s) := q_seq _ c38_17 c38_18 s
theorem r_n38_40 : n38_40 s = some (.norm, s) := run_skip _ s
theorem r_n38_15 : n38_15 s = condK (opv s.t (.tmp 23)) n38_16 n38_40 s := q_cond _ c38_16 c38_40 s (.tmp 23)
theorem r_n38_13 : n38_13 s = contK n38_15 (n38_14 s) := q_seq _ c38_14 c38_15 s
theorem r_n38_42 : n38_42 s = behK 33 (stepsO X (annT 38) C (gO c38_42) o38_42.1 s) := q_region (annT 38) s 14 _ false rfl _ _ rfl rfl o38_42.2
theorem g_o38_42 : gdst (gO c38_42) j = (o38_42.1[j]?).bind Oper.dst := gd_eq o38_42.2 j
theorem r_n38_44 : n38_44 s = behK 33 (stepsO X (annT 38) C (gO c38_44) o38_44.1 s) := q_region (annT 38) s 15 _ false rfl _ _ rfl rfl o38_44.2
theorem g_o38_44 : gdst (gO c38_44) j = (o38_44.1[j]?).bind Oper.dst := gd_eq o38_44.2 j
theorem r_n38_45 : n38_45 s = behK 0 (stepsO X (annT 38) C (gO c38_45) o38_45.1 s) := q_region (annT 38) s 16 _ false rfl _ _ rfl rfl o38_45.2
theorem g_o38_45 : gdst (gO c38_45) j = (o38_45.1[j]?).bind Oper.dst := gd_eq o38_45.2 j
theorem r_n38_43 : n38_43 s = contK n38_45 (n38_44 s) := q_seq _ c38_44 c38_45 s
theorem r_n38_41 : n38_41 s = contK n38_43 (n38_42 s) := q_seq _ c38_42 c38_43 s
theorem r_n38_12 : n38_12 s = contK n38_41 (n38_13 s) := q_seq _ c38_13 c38_41 s
theorem r_n38_10 : n38_10 s = contK n38_12 (n38_11 s) := q_seq _ c38_11 c38_12 s
theorem r_n38_8 : n38_8 s = contK n38_10 (n38_9 s) := q_seq _ c38_9 c38_10 s
theorem r_n38_2 : n38_2 s = contK n38_8 (n38_3 s) := q_seq _ c38_3 c38_8 s
theorem r_n38_0 : n38_0 s = contK n38_2 (n38_1 s) := q_seq _ c38_1 c38_2 s
theorem va_38 : (annT 38).virt = [] := rfl
theorem wa_38 : (annT 38).wr = [] := rfl
theorem ya_38 : (annT 38).ty = [6] := rfl
theorem cv_38 (call : Eng.Call) (wr : Bool) (args : List AV) (st : Store) : callV X call wr 38 args st = (call 38 args st).map (trimR st.length) := cv_imp rfl rfl call wr args st
theorem p38 (ds : List D) : pureCall C 38 ds = ((n38_0 ⟨argsT 0 (ds.map .d), []⟩).bind (bodyR [])).bind prOf := P_eq Try.f38 rfl rfl rfl rfl ds
theorem q38 (vs : List AV) (st : Store) : C 38 vs st = (n38_0 ⟨argsT 0 vs, st⟩).bind (bodyR []) := C_eq Try.f38 rfl rfl rfl rfl vs st
attribute [go_sem] r_n38_1 g_o38_1 o38_1 r_n38_4 g_o38_4 o38_4 r_n38_6 r_n38_7 r_n38_5 r_n38_3 r_n38_9 g_o38_9 o38_9 r_n38_11 g_o38_11 o38_11 r_n38_14 g_o38_14 o38_14 r_n38_17 g_o38_17 o38_17 r_n38_19 g_o38_19 o38_19 r_n38_22 g_o38_22 o38_22 r_n38_26 g_o38_26 o38_26 r_n38_29 r_n38_30 r_n38_28 r_n38_34 g_o38_34 o38_34 r_n38_35 g_o38_35 o38_35 r_n38_33 r_n38_32 r_n38_36 g_o38_36 o38_36 r_n38_31 r_n38_27 r_n38_25 r_n38_23 r_n38_21 r_n38_38 g_o38_38 o38_38 r_n38_39 g_o38_39 o38_39 r_n38_37 r_n38_20 r_n38_18 r_n38_16 r_n38_40 r_n38_15 r_n38_13 r_n38_42 g_o38_42 o38_42 r_n38_44 g_o38_44 o38_44 r_n38_45 g_o38_45 o38_45 r_n38_43 r_n38_41 r_n38_12 r_n38_10 r_n38_8 r_n38_2 r_n38_0 va_38 wa_38 ya_38 cv_38
noncomputable def c61_0 : Code := Try.f61.body.getD .skip
noncomputable def A61 := run (annT 61)
def n61_0 := A61 c61_0
def c61_1 := gL c61_0
def n61_1 := A61 c61_1
def o61_1 : OL c61_1 := ⟨_, by conv => (lhs; whnf)⟩
def c61_2 := gR c61_0
def n61_2 := A61 c61_2
def c61_3 := gL c61_2
def n61_3 := A61 c61_3
def o61_3 : OL c61_3 := ⟨_, by conv => (lhs; whnf)⟩
def c61_4 := gR c61_2
def n61_4 := A61 c61_4
def c61_5 := gL c61_4
def n61_5 := A61 c61_5
def o61_5 : OL c61_5 := ⟨_, by conv => (lhs; whnf)⟩
def c61_6 := gR c61_4
def n61_6 := A61 c61_6
def c61_7 := gL c61_6
def n61_7 := A61 c61_7
def o61_7 : OL c61_7 := ⟨_, by conv => (lhs; whnf)⟩
def c61_8 := gR c61_6
def n61_8 := A61 c61_8
theorem r_n61_1 : n61_1 s = behK 2 (stepsO X (annT 61) C (gO c61_1) o61_1.1 s) := q_region (annT 61) s 0 _ false rfl _ _ rfl rfl o61_1.2
theorem g_o61_1 : gdst (gO c61_1) j = (o61_1.1[j]?).bind Oper.dst := gd_eq o61_1.2 j
theorem r_n61_3 : n61_3 s = behK 18 (stepsO X (annT 61) C (gO c61_3) o61_3.1 s) := q_region (annT 61) s 1 _ false rfl _ _ rfl rfl o61_3.2
theorem g_o61_3 : gdst (gO c61_3) j = (o61_3.1[j]?).bind Oper.dst := gd_eq o61_3.2 j
theorem r_n61_5 : n61_5 s = behK 16 (stepsO X (annT 61) C (gO c61_5) o61_5.1 s) := q_region (annT 61) s 2 _ false rfl _ _ rfl rfl o61_5.2
theorem g_o61_5 : gdst (gO c61_5) j = (o61_5.1[j]?).bind Oper.dst := gd_eq o61_5.2 j
theorem r_n61_7 : n61_7 s = behK 12 (tailK (annT 61) (gO c61_7) (o61_7.1.drop 0) (stepsO X (annT 61) C (gO c61_7) (o61_7.1.take 0) s)) := q_regionE (annT 61) s 3 _ true 0 rfl _ _ rfl rfl o61_7.2
theorem g_o61_7 : gdst (gO c61_7) j = (o61_7.1[j]?).bind Oper.dst := gd_eq o61_7.2 j
theorem r_n61_8 : n61_8 s = some (.ret, s) := run_ret _ s
theorem r_n61_6 : n61_6 s = contK n61_8 (n61_7 s) := q_seq _ c61_7 c61_8 s
theorem r_n61_4 : n61_4 s = contK n61_6 (n61_5 s) := q_seq _ c61_5 c61_6 s
theorem r_n61_2 : n61_2 s = contK n61_4 (n61_3 s) := q_seq _ c61_3 c61_4 s
theorem r_n61_0 : n61_0 s = contK n61_2 (n61_1 s) := q_seq _ c61_1 c61_2 s
theorem va_61 : (annT 61).virt = [] := rfl
theorem wa_61 : (annT 61).wr = [] := rfl
theorem ya_61 : (annT 61).ty = [4] := rfl
theorem cv_61 (call : Eng.Call) (wr : Bool) (args : List AV) (st : Store) : callV X call wr 61 args st = cvP call wr 61 args st (fzAll (fz false st 6) args) := cv_pure rfl rfl call wr args st
theorem p61 (ds : List D) : pureCall C 61 ds = ((n61_0 ⟨argsT 0 (ds.map .d), []⟩).bind (bodyR [.tmp 2, .tmp 3])).bind prOf := P_eq Try.f61 rfl rfl rfl rfl ds
theorem q61 (vs : List AV) (st : Store) : C 61 vs st = (n61_0 ⟨argsT 0 vs, st⟩).bind (bodyR [.tmp 2, .tmp 3]) := C_eq Try.f61 rfl rfl rfl rfl vs st
attribute [go_sem] r_n61_1 g_o61_1 o61_1 r_n61_3 g_o61_3 o61_3 r_n61_5 g_o61_5 o61_5 r_n61_7 g_o61_7 o61_7 r_n61_8 r_n61_6 r_n61_4 r_n61_2 r_n61_0 va_61 wa_61 ya_61 cv_61
noncomputable def c37_0 : Code := Try.f37.body.getD .skip
noncomputable def A37 := run (annT 37)
def n37_0 := A37 c37_0
def c37_1 := gL c37_0
def n37_1 := A37 c37_1
def o37_1 : OL c37_1 := ⟨_, by conv => (lhs; whnf)⟩
def c37_2 := gR c37_0
def n37_2 := A37 c37_2
def c37_3 := gL c37_2
def n37_3 := A37 c37_3
def c37_4 := gB c37_3
def n37_4 := A37 c37_4
def c37_5 := gL c37_4
def n37_5 := A37 c37_5
def o37_5 : OL c37_5 := ⟨_, by conv => (lhs; whnf)⟩
def c37_6 := gR c37_4
def n37_6 := A37 c37_6
def c37_7 := gT c37_6
def n37_7 := A37 c37_7
def c37_8 := gL c37_7
def n37_8 := A37 c37_8
def o37_8 : OL c37_8 := ⟨_, by conv => (lhs; whnf)⟩
def c37_9 := gR c37_7
def n37_9 := A37 c37_9
def c37_10 := gF c37_6
def n37_10 := A37 c37_10
def c37_11 := gL c37_10
def n37_11 := A37 c37_11
def o37_11 : OL c37_11 := ⟨_, by conv => (lhs; whnf)⟩
def c37_12 := gR c37_10
def n37_12 := A37 c37_12
def c37_13 := gT c37_12
def n37_13 := A37 c37_13
def c37_14 := gL c37_13
def n37_14 := A37 c37_14
def o37_14 : OL c37_14 := ⟨_, by conv => (lhs; whnf)⟩
def c37_15 := gR c37_13
def n37_15 := A37 c37_15
def c37_16 := gF c37_12
def n37_16 := A37 c37_16
def c37_17 := gR c37_2
def n37_17 := A37 c37_17
def c37_18 := gL c37_17
def n37_18 := A37 c37_18
def c37_19 := gL c37_18
def n37_19 := A37 c37_19
def o37_19 : OL c37_19 := ⟨_, by conv => (lhs; whnf)⟩
def c37_20 := gR c37_18
def n37_20 := A37 c37_20
def c37_21 := gL c37_20
def n37_21 := A37 c37_21
def o37_21 : OL c37_21 := ⟨_, by conv => (lhs; whnf)⟩
def c37_22 := gR c37_20
def n37_22 := A37 c37_22
def c37_23 := gT c37_22
def n37_23 := A37 c37_23
def c37_24 := gL c37_23
def n37_24 := A37 c37_24
def o37_24 : OL c37_24 := ⟨_, by conv => (lhs; whnf)⟩
def c37_25 := gR c37_23
def n37_25 := A37 c37_25
def c37_26 := gF c37_22
def n37_26 := A37 c37_26
def c37_27 := gR c37_17
def n37_27 := A37 c37_27
def c37_28 := gL c37_27
def n37_28 := A37 c37_28
def o37_28 : OL c37_28 := ⟨_, by conv => (lhs; whnf)⟩
def c37_29 := gR c37_27
def n37_29 := A37 c37_29
theorem r_n37_1 : n37_1 s = behK 2 (stepsO X (annT 37) C (gO c37_1) o37_1.1 s) := q_region (annT 37) s 0 _ false rfl _ _ rfl rfl o37_1.2
theorem g_o37_1 : gdst (gO c37_1) j = (o37_1.1[j]?).bind Oper.dst := gd_eq o37_1.2 j
theorem r_n37_5 : n37_5 s = behK 34 (stepsO X (annT 37) C (gO c37_5) o37_5.1 s) := q_region (annT 37) s 1 _ false rfl _ _ rfl rfl o37_5.2
theorem g_o37_5 : gdst (gO c37_5) j = (o37_5.1[j]?).bind Oper.dst := gd_eq o37_5.2 j
theorem r_n37_8 : n37_8 s = behK 4 (stepsO X (annT 37) C (gO c37_8) o37_8.1 s) := q_region (annT 37) s 2 _ false rfl _ _ rfl rfl o37_8.2
theorem g_o37_8 : gdst (gO c37_8) j = (o37_8.1[j]?).bind Oper.dst := gd_eq o37_8.2 j
theorem r_n37_9 : n37_9 s = some (.ret, s) := run_ret _ s
theorem r_n37_7 : n37_7 s = contK n37_9 (n37_8 s) := q_seq _ c37_8 c37_9 s
theorem r_n37_11 : n37_11 s = behK 514 (stepsO X (annT 37) C (gO c37_11) o37_11.1 s) := q_region (annT 37) s 3 _ false rfl _ _ rfl rfl o37_11.2
theorem g_o37_11 : gdst (gO c37_11) j = (o37_11.1[j]?).bind Oper.dst := gd_eq o37_11.2 j
theorem r_n37_14 : n37_14 s = behK 4 (stepsO X (annT 37) C (gO c37_14) o37_14.1 s) := q_region (annT 37) s 4 _ false rfl _ _ rfl rfl o37_14.2
theorem g_o37_14 : gdst (gO c37_14) j = (o37_14.1[j]?).bind Oper.dst := gd_eq o37_14.2 j
theorem r_n37_15 : n37_15 s = some (.ret, s) := run_ret _ s
theorem r_n37_13 : n37_13 s = contK n37_15 (n37_14 s) := q_seq _ c37_14 c37_15 s
theorem r_n37_16 : n37_16 s = some (.norm, s) := run_skip _ s
theorem r_n37_12 : n37_12 s = condK (opv s.t (.tmp 9)) n37_13 n37_16 s := q_cond _ c37_13 c37_16 s (.tmp 9)
theorem r_n37_10 : n37_10 s = contK n37_12 (n37_11 s) := q_seq _ c37_11 c37_12 s
theorem r_n37_6 : n37_6 s = condK (opv s.t (.tmp 5)) n37_7 n37_10 s := q_cond _ c37_7 c37_10 s (.tmp 5)
theorem r_n37_4 : n37_4 s = contK n37_6 (n37_5 s) := q_seq _ c37_5 c37_6 s
theorem r_n37_3 : n37_3 s = blkK 0 (n37_4 s) := q_block _ c37_4 s 0
theorem r_n37_19 : n37_19 s = behK 16 (stepsO X (annT 37) C (gO c37_19) o37_19.1 s) := q_region (annT 37) s 5 _ false rfl _ _ rfl rfl o37_19.2
theorem g_o37_19 : gdst (gO c37_19) j = (o37_19.1[j]?).bind Oper.dst := gd_eq o37_19.2 j
theorem r_n37_21 : n37_21 s = behK 524288 (stepsO X (annT 37) C (gO c37_21) o37_21.1 s) := q_region (annT 37) s 6 _ false rfl _ _ rfl rfl o37_21.2
theorem g_o37_21 : gdst (gO c37_21) j = (o37_21.1[j]?).bind Oper.dst := gd_eq o37_21.2 j
theorem r_n37_24 : n37_24 s = behK 4 (stepsO X (annT 37) C (gO c37_24) o37_24.1 s) := q_region (annT 37) s 7 _ false rfl _ _ rfl rfl o37_24.2
theorem g_o37_24 : gdst (gO c37_24) j = (o37_24.1[j]?).bind Oper.dst := gd_eq o37_24.2 j
theorem r_n37_25 : n37_25 s = some (.ret, s) := run_ret _ s
theorem r_n37_23 : n37_23 s = contK n37_25 (n37_24 s) := q_seq _ c37_24 c37_25 s
theorem r_n37_26 : n37_26 s = some (.norm, s) := run_skip _ s
theorem r_n37_22 : n37_22 s = condK (opv s.t (.tmp 19)) n37_23 n37_26 s := q_cond _ c37_23 c37_26 s (.tmp 19)
theorem r_n37_20 : n37_20 s = contK n37_22 (n37_21 s) := q_seq _ c37_21 c37_22 s
theorem r_n37_18 : n37_18 s = contK n37_20 (n37_19 s) := q_seq _ c37_19 c37_20 s
theorem r_n37_28 : n37_28 s = behK 4 (stepsO X (annT 37) C (gO c37_28) o37_28.1 s) := q_region (annT 37) s 8 _ false rfl _ _ rfl rfl o37_28.2
theorem g_o37_28 : gdst (gO c37_28) j = (o37_28.1[j]?).bind Oper.dst := gd_eq o37_28.2 j
theorem r_n37_29 : n37_29 s = some (.ret, s) := run_ret _ s
theorem r_n37_27 : n37_27 s = contK n37_29 (n37_28 s) := q_seq _ c37_28 c37_29 s
theorem r_n37_17 : n37_17 s = contK n37_27 (n37_18 s) := q_seq _ c37_18 c37_27 s
theorem r_n37_2 : n37_2 s = contK n37_17 (n37_3 s) := q_seq _ c37_3 c37_17 s
theorem r_n37_0 : n37_0 s = contK n37_2 (n37_1 s) := q_seq _ c37_1 c37_2 s
theorem va_37 : (annT 37).virt = [] := rfl
theorem wa_37 : (annT 37).wr = [] := rfl
theorem ya_37 : (annT 37).ty = [] := rfl
theorem cv_37 (call : Eng.Call) (wr : Bool) (args : List AV) (st : Store) : callV X call wr 37 args st = cvP call wr 37 args st (fzAll (fz false st 6) args) := cv_pure rfl rfl call wr args st
theorem p37 (ds : List D) : pureCall C 37 ds = ((n37_0 ⟨argsT 0 (ds.map .d), []⟩).bind (bodyR [.tmp 2])).bind prOf := P_eq Try.f37 rfl rfl rfl rfl ds
theorem q37 (vs : List AV) (st : Store) : C 37 vs st = (n37_0 ⟨argsT 0 vs, st⟩).bind (bodyR [.tmp 2]) := C_eq Try.f37 rfl rfl rfl rfl vs st
attribute [go_sem] r_n37_1 g_o37_1 o37_1 r_n37_5 g_o37_5 o37_5 r_n37_8 g_o37_8 o37_8 r_n37_9 r_n37_7 r_n37_11 g_o37_11 o37_11 r_n37_14 g_o37_14 o37_14 r_n37_15 r_n37_13 r_n37_16 r_n37_12 r_n37_10 r_n37_6 r_n37_4 r_n37_3 r_n37_19 g_o37_19 o37_19 r_n37_21 g_o37_21 o37_21 r_n37_24 g_o37_24 o37_24 r_n37_25 r_n37_23 r_n37_26 r_n37_22 r_n37_20 r_n37_18 r_n37_28 g_o37_28 o37_28 r_n37_29 r_n37_27 r_n37_17 r_n37_2 r_n37_0 va_37 wa_37 ya_37 cv_37
noncomputable def c21_0 : Code := Try.f21.body.getD .skip
noncomputable def A21 := run (annT 21)
def n21_0 := A21 c21_0
def c21_1 := gL c21_0
def n21_1 := A21 c21_1
def o21_1 : OL c21_1 := ⟨_, by conv => (lhs; whnf)⟩
def c21_2 := gR c21_0
def n21_2 := A21 c21_2
def c21_3 := gL c21_2
def n21_3 := A21 c21_3
def c21_4 := gL c21_3
def n21_4 := A21 c21_4
def o21_4 : OL c21_4 := ⟨_, by conv => (lhs; whnf)⟩
def c21_5 := gR c21_3
def n21_5 := A21 c21_5
def c21_6 := gB c21_5
def n21_6 := A21 c21_6
def c21_7 := gB c21_6
def n21_7 := A21 c21_7
def c21_8 := gL c21_7
def n21_8 := A21 c21_8
def o21_8 : OL c21_8 := ⟨_, by conv => (lhs; whnf)⟩
def c21_9 := gR c21_7
def n21_9 := A21 c21_9
def c21_10 := gL c21_9
def n21_10 := A21 c21_10
def c21_11 := gT c21_10
def n21_11 := A21 c21_11
def c21_12 := gF c21_10
def n21_12 := A21 c21_12
def c21_13 := gR c21_9
def n21_13 := A21 c21_13
def c21_14 := gL c21_13
def n21_14 := A21 c21_14
def c21_15 := gB c21_14
def n21_15 := A21 c21_15
def c21_16 := gL c21_15
def n21_16 := A21 c21_16
def o21_16 : OL c21_16 := ⟨_, by conv => (lhs; whnf)⟩
def c21_17 := gR c21_15
def n21_17 := A21 c21_17
def c21_18 := gL c21_17
def n21_18 := A21 c21_18
def o21_18 : OL c21_18 := ⟨_, by conv => (lhs; whnf)⟩
def c21_19 := gR c21_17
def n21_19 := A21 c21_19
def c21_20 := gL c21_19
def n21_20 := A21 c21_20
def o21_20 : OL c21_20 := ⟨_, by conv => (lhs; whnf)⟩
def c21_21 := gR c21_19
def n21_21 := A21 c21_21
def c21_22 := gT c21_21
def n21_22 := A21 c21_22
def c21_23 := gL c21_22
def n21_23 := A21 c21_23
def o21_23 : OL c21_23 := ⟨_, by conv => (lhs; whnf)⟩
def c21_24 := gR c21_22
def n21_24 := A21 c21_24
def c21_25 := gF c21_21
def n21_25 := A21 c21_25
def c21_26 := gR c21_13
def n21_26 := A21 c21_26
def o21_26 : OL c21_26 := ⟨_, by conv => (lhs; whnf)⟩
def c21_27 := gR c21_2
def n21_27 := A21 c21_27
def c21_28 := gL c21_27
def n21_28 := A21 c21_28
def o21_28 : OL c21_28 := ⟨_, by conv => (lhs; whnf)⟩
def c21_29 := gR c21_27
def n21_29 := A21 c21_29
def c21_30 := gL c21_29
def n21_30 := A21 c21_30
def c21_31 := gL c21_30
def n21_31 := A21 c21_31
def o21_31 : OL c21_31 := ⟨_, by conv => (lhs; whnf)⟩
def c21_32 := gR c21_30
def n21_32 := A21 c21_32
def c21_33 := gB c21_32
def n21_33 := A21 c21_33
def c21_34 := gB c21_33
def n21_34 := A21 c21_34
def c21_35 := gL c21_34
def n21_35 := A21 c21_35
def o21_35 : OL c21_35 := ⟨_, by conv => (lhs; whnf)⟩
def c21_36 := gR c21_34
def n21_36 := A21 c21_36
def c21_37 := gL c21_36
def n21_37 := A21 c21_37
def c21_38 := gT c21_37
def n21_38 := A21 c21_38
def c21_39 := gF c21_37
def n21_39 := A21 c21_39
def c21_40 := gR c21_36
def n21_40 := A21 c21_40
def c21_41 := gL c21_40
def n21_41 := A21 c21_41
def c21_42 := gB c21_41
def n21_42 := A21 c21_42
def c21_43 := gL c21_42
def n21_43 := A21 c21_43
def o21_43 : OL c21_43 := ⟨_, by conv => (lhs; whnf)⟩
def c21_44 := gR c21_42
def n21_44 := A21 c21_44
def o21_44 : OL c21_44 := ⟨_, by conv => (lhs; whnf)⟩
def c21_45 := gR c21_40
def n21_45 := A21 c21_45
def o21_45 : OL c21_45 := ⟨_, by conv => (lhs; whnf)⟩
def c21_46 := gR c21_29
def n21_46 := A21 c21_46
def c21_47 := gL c21_46
def n21_47 := A21 c21_47
def c21_48 := gL c21_47
def n21_48 := A21 c21_48
def o21_48 : OL c21_48 := ⟨_, by conv => (lhs; whnf)⟩
def c21_49 := gR c21_47
def n21_49 := A21 c21_49
def c21_50 := gT c21_49
def n21_50 := A21 c21_50
def c21_51 := gL c21_50
def n21_51 := A21 c21_51
def o21_51 : OL c21_51 := ⟨_, by conv => (lhs; whnf)⟩
def c21_52 := gR c21_50
def n21_52 := A21 c21_52
def c21_53 := gF c21_49
def n21_53 := A21 c21_53
def c21_54 := gR c21_46
def n21_54 := A21 c21_54
def c21_55 := gL c21_54
def n21_55 := A21 c21_55
def o21_55 : OL c21_55 := ⟨_, by conv => (lhs; whnf)⟩
def c21_56 := gR c21_54
def n21_56 := A21 c21_56
theorem r_n21_1 : n21_1 s = behK 1 (stepsO X (annT 21) C (gO c21_1) o21_1.1 s) := q_region (annT 21) s 0 _ false rfl _ _ rfl rfl o21_1.2
theorem g_o21_1 : gdst (gO c21_1) j = (o21_1.1[j]?).bind Oper.dst := gd_eq o21_1.2 j
theorem r_n21_4 : n21_4 s = behK 7169 (stepsO X (annT 21) C (gO c21_4) o21_4.1 s) := q_region (annT 21) s 1 _ false rfl _ _ rfl rfl o21_4.2
theorem g_o21_4 : gdst (gO c21_4) j = (o21_4.1[j]?).bind Oper.dst := gd_eq o21_4.2 j
theorem r_n21_8 : n21_8 s = behK 15361 (stepsO X (annT 21) C (gO c21_8) o21_8.1 s) := q_region (annT 21) s 2 _ false rfl _ _ rfl rfl o21_8.2
theorem g_o21_8 : gdst (gO c21_8) j = (o21_8.1[j]?).bind Oper.dst := gd_eq o21_8.2 j
theorem r_n21_11 : n21_11 s = some (.norm, s) := run_skip _ s
theorem r_n21_12 : n21_12 s = some (.exit 0, s) := run_exit _ s 0
theorem r_n21_10 : n21_10 s = condK (opv s.t (.tmp 13)) n21_11 n21_12 s := q_cond _ c21_11 c21_12 s (.tmp 13)
theorem r_n21_16 : n21_16 s = behK 7201 (stepsO X (annT 21) C (gO c21_16) o21_16.1 s) := q_region (annT 21) s 3 _ false rfl _ _ rfl rfl o21_16.2
theorem g_o21_16 : gdst (gO c21_16) j = (o21_16.1[j]?).bind Oper.dst := gd_eq o21_16.2 j
theorem r_n21_18 : n21_18 s = behK 7233 (stepsO X (annT 21) C (gO c21_18) o21_18.1 s) := q_region (annT 21) s 4 _ false rfl _ _ rfl rfl o21_18.2
theorem g_o21_18 : gdst (gO c21_18) j = (o21_18.1[j]?).bind Oper.dst := gd_eq o21_18.2 j
theorem r_n21_20 : n21_20 s = behK 531521 (stepsO X (annT 21) C (gO c21_20) o21_20.1 s) := q_region (annT 21) s 5 _ false rfl _ _ rfl rfl o21_20.2
theorem g_o21_20 : gdst (gO c21_20) j = (o21_20.1[j]?).bind Oper.dst := gd_eq o21_20.2 j
theorem r_n21_23 : n21_23 s = behK 12 (stepsO X (annT 21) C (gO c21_23) o21_23.1 s) := q_region (annT 21) s 6 _ false rfl _ _ rfl rfl o21_23.2
theorem g_o21_23 : gdst (gO c21_23) j = (o21_23.1[j]?).bind Oper.dst := gd_eq o21_23.2 j
theorem r_n21_24 : n21_24 s = some (.ret, s) := run_ret _ s
theorem r_n21_22 : n21_22 s = contK n21_24 (n21_23 s) := q_seq _ c21_23 c21_24 s
theorem r_n21_25 : n21_25 s = some (.norm, s) := run_skip _ s
theorem r_n21_21 : n21_21 s = condK (opv s.t (.tmp 19)) n21_22 n21_25 s := q_cond _ c21_22 c21_25 s (.tmp 19)
theorem r_n21_19 : n21_19 s = contK n21_21 (n21_20 s) := q_seq _ c21_20 c21_21 s
theorem r_n21_17 : n21_17 s = contK n21_19 (n21_18 s) := q_seq _ c21_18 c21_19 s
theorem r_n21_15 : n21_15 s = contK n21_17 (n21_16 s) := q_seq _ c21_16 c21_17 s
theorem r_n21_14 : n21_14 s = blkK 1 (n21_15 s) := q_block _ c21_15 s 1
theorem r_n21_26 : n21_26 s = behK 7169 (stepsO X (annT 21) C (gO c21_26) o21_26.1 s) := q_region (annT 21) s 7 _ false rfl _ _ rfl rfl o21_26.2
theorem g_o21_26 : gdst (gO c21_26) j = (o21_26.1[j]?).bind Oper.dst := gd_eq o21_26.2 j
theorem r_n21_13 : n21_13 s = contK n21_26 (n21_14 s) := q_seq _ c21_14 c21_26 s
theorem r_n21_9 : n21_9 s = contK n21_13 (n21_10 s) := q_seq _ c21_10 c21_13 s
theorem r_n21_7 : n21_7 s = contK n21_9 (n21_8 s) := q_seq _ c21_8 c21_9 s
theorem r_n21_6 : n21_6 s = loopK 7169 s.st.length n21_6 (n21_7 s) := q_loop (annT 21) c21_7 s _ _ rfl rfl
theorem r_n21_5 : n21_5 s = blkK 0 (n21_6 s) := q_block _ c21_6 s 0
theorem r_n21_3 : n21_3 s = contK n21_5 (n21_4 s) := q_seq _ c21_4 c21_5 s
theorem r_n21_28 : n21_28 s = behK 129 (stepsO X (annT 21) C (gO c21_28) o21_28.1 s) := q_region (annT 21) s 8 _ false rfl _ _ rfl rfl o21_28.2
theorem g_o21_28 : gdst (gO c21_28) j = (o21_28.1[j]?).bind Oper.dst := gd_eq o21_28.2 j
theorem r_n21_31 : n21_31 s = behK 29360256 (stepsO X (annT 21) C (gO c21_31) o21_31.1 s) := q_region (annT 21) s 9 _ false rfl _ _ rfl rfl o21_31.2
theorem g_o21_31 : gdst (gO c21_31) j = (o21_31.1[j]?).bind Oper.dst := gd_eq o21_31.2 j
theorem r_n21_35 : n21_35 s = behK 62914688 (stepsO X (annT 21) C (gO c21_35) o21_35.1 s) := q_region (annT 21) s 10 _ false rfl _ _ rfl rfl o21_35.2
theorem g_o21_35 : gdst (gO c21_35) j = (o21_35.1[j]?).bind Oper.dst := gd_eq o21_35.2 j
theorem r_n21_38 : n21_38 s = some (.norm, s) := run_skip _ s
theorem r_n21_39 : n21_39 s = some (.exit 2, s) := run_exit _ s 2
theorem r_n21_37 : n21_37 s = condK (opv s.t (.tmp 25)) n21_38 n21_39 s := q_cond _ c21_38 c21_39 s (.tmp 25)
theorem r_n21_43 : n21_43 s = behK 29360768 (stepsO X (annT 21) C (gO c21_43) o21_43.1 s) := q_region (annT 21) s 11 _ false rfl _ _ rfl rfl o21_43.2
theorem g_o21_43 : gdst (gO c21_43) j = (o21_43.1[j]?).bind Oper.dst := gd_eq o21_43.2 j
theorem r_n21_44 : n21_44 s = behK 29360256 (stepsO X (annT 21) C (gO c21_44) o21_44.1 s) := q_region (annT 21) s 12 _ false rfl _ _ rfl rfl o21_44.2
theorem g_o21_44 : gdst (gO c21_44) j = (o21_44.1[j]?).bind Oper.dst := gd_eq o21_44.2 j
theorem r_n21_42 : n21_42 s = contK n21_44 (n21_43 s) := q_seq _ c21_43 c21_44 s
theorem r_n21_41 : n21_41 s = blkK 3 (n21_42 s) := q_block _ c21_42 s 3
theorem r_n21_45 : n21_45 s = behK 29360256 (stepsO X (annT 21) C (gO c21_45) o21_45.1 s) := q_region (annT 21) s 13 _ false rfl _ _ rfl rfl o21_45.2
theorem g_o21_45 : gdst (gO c21_45) j = (o21_45.1[j]?).bind Oper.dst := gd_eq o21_45.2 j
theorem r_n21_40 : n21_40 s = contK n21_45 (n21_41 s) := q_seq _ c21_41 c21_45 s
theorem r_n21_36 : n21_36 s = contK n21_40 (n21_37 s) := q_seq _ c21_37 c21_40 s
theorem r_n21_34 : n21_34 s = contK n21_36 (n21_35 s) := q_seq _ c21_35 c21_36 s
theorem r_n21_33 : n21_33 s = loopK 29360256 s.st.length n21_33 (n21_34 s) := q_loop (annT 21) c21_34 s _ _ rfl rfl
theorem r_n21_32 : n21_32 s = blkK 2 (n21_33 s) := q_block _ c21_33 s 2
theorem r_n21_30 : n21_30 s = contK n21_32 (n21_31 s) := q_seq _ c21_31 c21_32 s
theorem r_n21_48 : n21_48 s = behK 4294967424 (stepsO X (annT 21) C (gO c21_48) o21_48.1 s) := q_region (annT 21) s 14 _ false rfl _ _ rfl rfl o21_48.2
theorem g_o21_48 : gdst (gO c21_48) j = (o21_48.1[j]?).bind Oper.dst := gd_eq o21_48.2 j
theorem r_n21_51 : n21_51 s = behK 12 (stepsO X (annT 21) C (gO c21_51) o21_51.1 s) := q_region (annT 21) s 15 _ false rfl _ _ rfl rfl o21_51.2
theorem g_o21_51 : gdst (gO c21_51) j = (o21_51.1[j]?).bind Oper.dst := gd_eq o21_51.2 j
theorem r_n21_52 : n21_52 s = some (.ret, s) := run_ret _ s
theorem r_n21_50 : n21_50 s = contK n21_52 (n21_51 s) := q_seq _ c21_51 c21_52 s
theorem r_n21_53 : n21_53 s = some (.norm, s) := run_skip _ s
theorem r_n21_49 : n21_49 s = condK (opv s.t (.tmp 32)) n21_50 n21_53 s := q_cond _ c21_50 c21_53 s (.tmp 32)
theorem r_n21_47 : n21_47 s = contK n21_49 (n21_48 s) := q_seq _ c21_48 c21_49 s
theorem r_n21_55 : n21_55 s = behK 12 (stepsO X (annT 21) C (gO c21_55) o21_55.1 s) := q_region (annT 21) s 16 _ false rfl _ _ rfl rfl o21_55.2
theorem g_o21_55 : gdst (gO c21_55) j = (o21_55.1[j]?).bind Oper.dst := gd_eq o21_55.2 j
theorem r_n21_56 : n21_56 s = some (.ret, s) := run_ret _ s
theorem r_n21_54 : n21_54 s = contK n21_56 (n21_55 s) := q_seq _ c21_55 c21_56 s
theorem r_n21_46 : n21_46 s = contK n21_54 (n21_47 s) := q_seq _ c21_47 c21_54 s
theorem r_n21_29 : n21_29 s = contK n21_46 (n21_30 s) := q_seq _ c21_30 c21_46 s
theorem r_n21_27 : n21_27 s = contK n21_29 (n21_28 s) := q_seq _ c21_28 c21_29 s
theorem r_n21_2 : n21_2 s = contK n21_27 (n21_3 s) := q_seq _ c21_3 c21_27 s
theorem r_n21_0 : n21_0 s = contK n21_2 (n21_1 s) := q_seq _ c21_1 c21_2 s
theorem va_21 : (annT 21).virt = [] := rfl
theorem wa_21 : (annT 21).wr = [] := rfl
theorem ya_21 : (annT 21).ty = [7] := rfl
theorem cv_21 (call : Eng.Call) (wr : Bool) (args : List AV) (st : Store) : callV X call wr 21 args st = cvP call wr 21 args st (fzAll (fz false st 6) args) := cv_pure rfl rfl call wr args st
theorem p21 (ds : List D) : pureCall C 21 ds = ((n21_0 ⟨argsT 0 (ds.map .d), []⟩).bind (bodyR [.tmp 2, .tmp 3])).bind prOf := P_eq Try.f21 rfl rfl rfl rfl ds
theorem q21 (vs : List AV) (st : Store) : C 21 vs st = (n21_0 ⟨argsT 0 vs, st⟩).bind (bodyR [.tmp 2, .tmp 3]) := C_eq Try.f21 rfl rfl rfl rfl vs st
attribute [go_sem] r_n21_1 g_o21_1 o21_1 r_n21_4 g_o21_4 o21_4 r_n21_8 g_o21_8 o21_8 r_n21_11 r_n21_12 r_n21_10 r_n21_16 g_o21_16 o21_16 r_n21_18 g_o21_18 o21_18 r_n21_20 g_o21_20 o21_20 r_n21_23 g_o21_23 o21_23 r_n21_24 r_n21_22 r_n21_25 r_n21_21 r_n21_19 r_n21_17 r_n21_15 r_n21_14 r_n21_26 g_o21_26 o21_26 r_n21_13 r_n21_9 r_n21_7 r_n21_5 r_n21_3 r_n21_28 g_o21_28 o21_28 r_n21_31 g_o21_31 o21_31 r_n21_35 g_o21_35 o21_35 r_n21_38 r_n21_39 r_n21_37 r_n21_43 g_o21_43 o21_43 r_n21_44 g_o21_44 o21_44 r_n21_42 r_n21_41 r_n21_45 g_o21_45 o21_45 r_n21_40 r_n21_36 r_n21_34 r_n21_32 r_n21_30 r_n21_48 g_o21_48 o21_48 r_n21_51 g_o21_51 o21_51 r_n21_52 r_n21_50 r_n21_53 r_n21_49 r_n21_47 r_n21_55 g_o21_55 o21_55 r_n21_56 r_n21_54 r_n21_46 r_n21_29 r_n21_27 r_n21_2 r_n21_0 va_21 wa_21 ya_21 cv_21
noncomputable def c7_0 : Code := Try.f7.body.getD .skip
noncomputable def A7 := run (annT 7)
def n7_0 := A7 c7_0
def c7_1 := gL c7_0
def n7_1 := A7 c7_1
def o7_1 : OL c7_1 := ⟨_, by conv => (lhs; whnf)⟩
def c7_2 := gR c7_0
def n7_2 := A7 c7_2
def c7_3 := gL c7_2
def n7_3 := A7 c7_3
def o7_3 : OL c7_3 := ⟨_, by conv => (lhs; whnf)⟩
def c7_4 := gR c7_2
def n7_4 := A7 c7_4
def c7_5 := gL c7_4
def n7_5 := A7 c7_5
def o7_5 : OL c7_5 := ⟨_, by conv => (lhs; whnf)⟩
def c7_6 := gR c7_4
def n7_6 := A7 c7_6
def c7_7 := gL c7_6
def n7_7 := A7 c7_7
def c7_8 := gL c7_7
def n7_8 := A7 c7_8
def o7_8 : OL c7_8 := ⟨_, by conv => (lhs; whnf)⟩
def c7_9 := gR c7_7
def n7_9 := A7 c7_9
def c7_10 := gT c7_9
def n7_10 := A7 c7_10
def c7_11 := gL c7_10
def n7_11 := A7 c7_11
def o7_11 : OL c7_11 := ⟨_, by conv => (lhs; whnf)⟩
def c7_12 := gR c7_10
def n7_12 := A7 c7_12
def c7_13 := gF c7_9
def n7_13 := A7 c7_13
def c7_14 := gR c7_6
def n7_14 := A7 c7_14
def c7_15 := gL c7_14
def n7_15 := A7 c7_15
def c7_16 := gL c7_15
def n7_16 := A7 c7_16
def o7_16 : OL c7_16 := ⟨_, by conv => (lhs; whnf)⟩
def c7_17 := gR c7_15
def n7_17 := A7 c7_17
def c7_18 := gB c7_17
def n7_18 := A7 c7_18
def c7_19 := gB c7_18
def n7_19 := A7 c7_19
def c7_20 := gL c7_19
def n7_20 := A7 c7_20
def c7_21 := gL c7_20
def n7_21 := A7 c7_21
def o7_21 : OL c7_21 := ⟨_, by conv => (lhs; whnf)⟩
def c7_22 := gR c7_20
def n7_22 := A7 c7_22
def c7_23 := gT c7_22
def n7_23 := A7 c7_23
def c7_24 := gF c7_22
def n7_24 := A7 c7_24
def c7_25 := gR c7_19
def n7_25 := A7 c7_25
def c7_26 := gL c7_25
def n7_26 := A7 c7_26
def c7_27 := gB c7_26
def n7_27 := A7 c7_27
def c7_28 := gL c7_27
def n7_28 := A7 c7_28
def o7_28 : OL c7_28 := ⟨_, by conv => (lhs; whnf)⟩
def c7_29 := gR c7_27
def n7_29 := A7 c7_29
def c7_30 := gT c7_29
def n7_30 := A7 c7_30
def c7_31 := gL c7_30
def n7_31 := A7 c7_31
def o7_31 : OL c7_31 := ⟨_, by conv => (lhs; whnf)⟩
def c7_32 := gR c7_30
def n7_32 := A7 c7_32
def c7_33 := gF c7_29
def n7_33 := A7 c7_33
def c7_34 := gR c7_25
def n7_34 := A7 c7_34
def o7_34 : OL c7_34 := ⟨_, by conv => (lhs; whnf)⟩
def c7_35 := gR c7_14
def n7_35 := A7 c7_35
def c7_36 := gL c7_35
def n7_36 := A7 c7_36
def c7_37 := gL c7_36
def n7_37 := A7 c7_37
def o7_37 : OL c7_37 := ⟨_, by conv => (lhs; whnf)⟩
def c7_38 := gR c7_36
def n7_38 := A7 c7_38
def c7_39 := gB c7_38
def n7_39 := A7 c7_39
def c7_40 := gB c7_39
def n7_40 := A7 c7_40
def c7_41 := gL c7_40
def n7_41 := A7 c7_41
def c7_42 := gL c7_41
def n7_42 := A7 c7_42
def o7_42 : OL c7_42 := ⟨_, by conv => (lhs; whnf)⟩
def c7_43 := gR c7_41
def n7_43 := A7 c7_43
def c7_44 := gT c7_43
def n7_44 := A7 c7_44
def c7_45 := gF c7_43
def n7_45 := A7 c7_45
def c7_46 := gR c7_40
def n7_46 := A7 c7_46
def c7_47 := gL c7_46
def n7_47 := A7 c7_47
def c7_48 := gB c7_47
def n7_48 := A7 c7_48
def o7_48 : OL c7_48 := ⟨_, by conv => (lhs; whnf)⟩
def c7_49 := gR c7_46
def n7_49 := A7 c7_49
def o7_49 : OL c7_49 := ⟨_, by conv => (lhs; whnf)⟩
def c7_50 := gR c7_35
def n7_50 := A7 c7_50
def c7_51 := gL c7_50
def n7_51 := A7 c7_51
def o7_51 : OL c7_51 := ⟨_, by conv => (lhs; whnf)⟩
def c7_52 := gR c7_50
def n7_52 := A7 c7_52
theorem r_n7_1 : n7_1 s = behK 6 (stepsO X (annT 7) C (gO c7_1) o7_1.1 s) := q_region (annT 7) s 0 _ false rfl _ _ rfl rfl o7_1.2
theorem g_o7_1 : gdst (gO c7_1) j = (o7_1.1[j]?).bind Oper.dst := gd_eq o7_1.2 j
theorem r_n7_3 : n7_3 s = behK 6 (stepsO X (annT 7) C (gO c7_3) o7_3.1 s) := q_region (annT 7) s 1 _ false rfl _ _ rfl rfl o7_3.2
theorem g_o7_3 : gdst (gO c7_3) j = (o7_3.1[j]?).bind Oper.dst := gd_eq o7_3.2 j
theorem r_n7_5 : n7_5 s = behK 38 (stepsO X (annT 7) C (gO c7_5) o7_5.1 s) := q_region (annT 7) s 2 _ false rfl _ _ rfl rfl o7_5.2
theorem g_o7_5 : gdst (gO c7_5) j = (o7_5.1[j]?).bind Oper.dst := gd_eq o7_5.2 j
theorem r_n7_8 : n7_8 s = behK 549755813894 (stepsO X (annT 7) C (gO c7_8) o7_8.1 s) := q_region (annT 7) s 3 _ false rfl _ _ rfl rfl o7_8.2
theorem g_o7_8 : gdst (gO c7_8) j = (o7_8.1[j]?).bind Oper.dst := gd_eq o7_8.2 j
theorem r_n7_11 : n7_11 s = behK 16 (stepsO X (annT 7) C (gO c7_11) o7_11.1 s) := q_region (annT 7) s 4 _ false rfl _ _ rfl rfl o7_11.2
theorem g_o7_11 : gdst (gO c7_11) j = (o7_11.1[j]?).bind Oper.dst := gd_eq o7_11.2 j
theorem r_n7_12 : n7_12 s = some (.ret, s) := run_ret _ s
theorem r_n7_10 : n7_10 s = contK n7_12 (n7_11 s) := q_seq _ c7_11 c7_12 s
theorem r_n7_13 : n7_13 s = some (.norm, s) := run_skip _ s
theorem r_n7_9 : n7_9 s = condK (opv s.t (.tmp 39)) n7_10 n7_13 s := q_cond _ c7_10 c7_13 s (.tmp 39)
theorem r_n7_7 : n7_7 s = contK n7_9 (n7_8 s) := q_seq _ c7_8 c7_9 s
theorem r_n7_16 : n7_16 s = behK 70 (stepsO X (annT 7) C (gO c7_16) o7_16.1 s) := q_region (annT 7) s 5 _ false rfl _ _ rfl rfl o7_16.2
theorem g_o7_16 : gdst (gO c7_16) j = (o7_16.1[j]?).bind Oper.dst := gd_eq o7_16.2 j
theorem r_n7_21 : n7_21 s = behK 35184372088902 (stepsO X (annT 7) C (gO c7_21) o7_21.1 s) := q_region (annT 7) s 6 _ false rfl _ _ rfl rfl o7_21.2
theorem g_o7_21 : gdst (gO c7_21) j = (o7_21.1[j]?).bind Oper.dst := gd_eq o7_21.2 j
theorem r_n7_23 : n7_23 s = some (.norm, s) := run_skip _ s
theorem r_n7_24 : n7_24 s = some (.exit 0, s) := run_exit _ s 0
theorem r_n7_22 : n7_22 s = condK (opv s.t (.tmp 45)) n7_23 n7_24 s := q_cond _ c7_23 c7_24 s (.tmp 45)
theorem r_n7_20 : n7_20 s = contK n7_22 (n7_21 s) := q_seq _ c7_21 c7_22 s
theorem r_n7_28 : n7_28 s = behK 36028797018964038 (stepsO X (annT 7) C (gO c7_28) o7_28.1 s) := q_region (annT 7) s 8 _ false rfl _ _ rfl rfl o7_28.2
theorem g_o7_28 : gdst (gO c7_28) j = (o7_28.1[j]?).bind Oper.dst := gd_eq o7_28.2 j
theorem r_n7_31 : n7_31 s = behK 16 (stepsO X (annT 7) C (gO c7_31) o7_31.1 s) := q_region (annT 7) s 9 _ false rfl _ _ rfl rfl o7_31.2
theorem g_o7_31 : gdst (gO c7_31) j = (o7_31.1[j]?).bind Oper.dst := gd_eq o7_31.2 j
theorem r_n7_32 : n7_32 s = some (.ret, s) := run_ret _ s
theorem r_n7_30 : n7_30 s = contK n7_32 (n7_31 s) := q_seq _ c7_31 c7_32 s
theorem r_n7_33 : n7_33 s = some (.norm, s) := run_skip _ s
theorem r_n7_29 : n7_29 s = condK (opv s.t (.tmp 55)) n7_30 n7_33 s := q_cond _ c7_30 c7_33 s (.tmp 55)
theorem r_n7_27 : n7_27 s = contK n7_29 (n7_28 s) := q_seq _ c7_28 c7_29 s
theorem r_n7_26 : n7_26 s = blkK 1 (n7_27 s) := q_block _ c7_27 s 1
theorem r_n7_34 : n7_34 s = behK 70 (stepsO X (annT 7) C (gO c7_34) o7_34.1 s) := q_region (annT 7) s 7 _ false rfl _ _ rfl rfl o7_34.2
theorem g_o7_34 : gdst (gO c7_34) j = (o7_34.1[j]?).bind Oper.dst := gd_eq o7_34.2 j
theorem r_n7_25 : n7_25 s = contK n7_34 (n7_26 s) := q_seq _ c7_26 c7_34 s
theorem r_n7_19 : n7_19 s = contK n7_25 (n7_20 s) := q_seq _ c7_20 c7_25 s
theorem r_n7_18 : n7_18 s = loopK 70 s.st.length n7_18 (n7_19 s) := q_loop (annT 7) c7_19 s _ _ rfl rfl
theorem r_n7_17 : n7_17 s = blkK 0 (n7_18 s) := q_block _ c7_18 s 0
theorem r_n7_15 : n7_15 s = contK n7_17 (n7_16 s) := q_seq _ c7_16 c7_17 s
theorem r_n7_37 : n7_37 s = behK 134 (stepsO X (annT 7) C (gO c7_37) o7_37.1 s) := q_region (annT 7) s 10 _ false rfl _ _ rfl rfl o7_37.2
theorem g_o7_37 : gdst (gO c7_37) j = (o7_37.1[j]?).bind Oper.dst := gd_eq o7_37.2 j
theorem r_n7_42 : n7_42 s = behK 18446744073709551750 (stepsO X (annT 7) C (gO c7_42) o7_42.1 s) := q_region (annT 7) s 11 _ false rfl _ _ rfl rfl o7_42.2
theorem g_o7_42 : gdst (gO c7_42) j = (o7_42.1[j]?).bind Oper.dst := gd_eq o7_42.2 j
theorem r_n7_44 : n7_44 s = some (.norm, s) := run_skip _ s
theorem r_n7_45 : n7_45 s = some (.exit 2, s) := run_exit _ s 2
theorem r_n7_43 : n7_43 s = condK (opv s.t (.tmp 64)) n7_44 n7_45 s := q_cond _ c7_44 c7_45 s (.tmp 64)
theorem r_n7_41 : n7_41 s = contK n7_43 (n7_42 s) := q_seq _ c7_42 c7_43 s
theorem r_n7_48 : n7_48 s = behK 134 (stepsO X (annT 7) C (gO c7_48) o7_48.1 s) := q_region (annT 7) s 13 _ false rfl _ _ rfl rfl o7_48.2
theorem g_o7_48 : gdst (gO c7_48) j = (o7_48.1[j]?).bind Oper.dst := gd_eq o7_48.2 j
theorem r_n7_47 : n7_47 s = blkK 3 (n7_48 s) := q_block _ c7_48 s 3
theorem r_n7_49 : n7_49 s = behK 134 (stepsO X (annT 7) C (gO c7_49) o7_49.1 s) := q_region (annT 7) s 12 _ false rfl _ _ rfl rfl o7_49.2
theorem g_o7_49 : gdst (gO c7_49) j = (o7_49.1[j]?).bind Oper.dst := gd_eq o7_49.2 j
theorem r_n7_46 : n7_46 s = contK n7_49 (n7_47 s) := q_seq _ c7_47 c7_49 s
theorem r_n7_40 : n7_40 s = contK n7_46 (n7_41 s) := q_seq _ c7_41 c7_46 s
theorem r_n7_39 : n7_39 s = loopK 134 s.st.length n7_39 (n7_40 s) := q_loop (annT 7) c7_40 s _ _ rfl rfl
theorem r_n7_38 : n7_38 s = blkK 2 (n7_39 s) := q_block _ c7_39 s 2
theorem r_n7_36 : n7_36 s = contK n7_38 (n7_37 s) := q_seq _ c7_37 c7_38 s
theorem r_n7_51 : n7_51 s = behK 16 (stepsO X (annT 7) C (gO c7_51) o7_51.1 s) := q_region (annT 7) s 14 _ false rfl _ _ rfl rfl o7_51.2
theorem g_o7_51 : gdst (gO c7_51) j = (o7_51.1[j]?).bind Oper.dst := gd_eq o7_51.2 j
theorem r_n7_52 : n7_52 s = some (.ret, s) := run_ret _ s
theorem r_n7_50 : n7_50 s = contK n7_52 (n7_51 s) := q_seq _ c7_51 c7_52 s
theorem r_n7_35 : n7_35 s = contK n7_50 (n7_36 s) := q_seq _ c7_36 c7_50 s
theorem r_n7_14 : n7_14 s = contK n7_35 (n7_15 s) := q_seq _ c7_15 c7_35 s
theorem r_n7_6 : n7_6 s = contK n7_14 (n7_7 s) := q_seq _ c7_7 c7_14 s
theorem r_n7_4 : n7_4 s = contK n7_6 (n7_5 s) := q_seq _ c7_5 c7_6 s
theorem r_n7_2 : n7_2 s = contK n7_4 (n7_3 s) := q_seq _ c7_3 c7_4 s
theorem r_n7_0 : n7_0 s = contK n7_2 (n7_1 s) := q_seq _ c7_1 c7_2 s
theorem va_7 : (annT 7).virt = [] := rfl
theorem wa_7 : (annT 7).wr = [] := rfl
theorem ya_7 : (annT 7).ty = [] := rfl
theorem cv_7 (call : Eng.Call) (wr : Bool) (args : List AV) (st : Store) : callV X call wr 7 args st = cvP call wr 7 args st (fzAll (fz false st 6) args) := cv_pure rfl rfl call wr args st
theorem p7 (ds : List D) : pureCall C 7 ds = ((n7_0 ⟨argsT 0 (ds.map .d), []⟩).bind (bodyR [.tmp 4])).bind prOf := P_eq Try.f7 rfl rfl rfl rfl ds
theorem q7 (vs : List AV) (st : Store) : C 7 vs st = (n7_0 ⟨argsT 0 vs, st⟩).bind (bodyR [.tmp 4]) := C_eq Try.f7 rfl rfl rfl rfl vs st
attribute [go_sem] r_n7_1 g_o7_1 o7_1 r_n7_3 g_o7_3 o7_3 r_n7_5 g_o7_5 o7_5 r_n7_8 g_o7_8 o7_8 r_n7_11 g_o7_11 o7_11 r_n7_12 r_n7_10 r_n7_13 r_n7_9 r_n7_7 r_n7_16 g_o7_16 o7_16 r_n7_21 g_o7_21 o7_21 r_n7_23 r_n7_24 r_n7_22 r_n7_20 r_n7_28 g_o7_28 o7_28 r_n7_31 g_o7_31 o7_31 r_n7_32 r_n7_30 r_n7_33 r_n7_29 r_n7_27 r_n7_26 r_n7_34 g_o7_34 o7_34 r_n7_25 r_n7_19 r_n7_17 r_n7_15 r_n7_37 g_o7_37 o7_37 r_n7_42 g_o7_42 o7_42 r_n7_44 r_n7_45 r_n7_43 r_n7_41 r_n7_48 g_o7_48 o7_48 r_n7_47 r_n7_49 g_o7_49 o7_49 r_n7_46 r_n7_40 r_n7_38 r_n7_36 r_n7_51 g_o7_51 o7_51 r_n7_52 r_n7_50 r_n7_35 r_n7_14 r_n7_6 r_n7_4 r_n7_2 r_n7_0 va_7 wa_7 ya_7 cv_7
noncomputable def c6_0 : Code := Try.f6.body.getD .skip
noncomputable def A6 := run (annT 6)
def n6_0 := A6 c6_0
def c6_1 := gL c6_0
def n6_1 := A6 c6_1
def o6_1 : OL c6_1 := ⟨_, by conv => (lhs; whnf)⟩
def c6_2 := gR c6_0
def n6_2 := A6 c6_2
def c6_3 := gL c6_2
def n6_3 := A6 c6_3
def c6_4 := gL c6_3
def n6_4 := A6 c6_4
def o6_4 : OL c6_4 := ⟨_, by conv => (lhs; whnf)⟩
def c6_5 := gR c6_3
def n6_5 := A6 c6_5
def c6_6 := gT c6_5
def n6_6 := A6 c6_6
def c6_7 := gL c6_6
def n6_7 := A6 c6_7
def o6_7 : OL c6_7 := ⟨_, by conv => (lhs; whnf)⟩
def c6_8 := gR c6_6
def n6_8 := A6 c6_8
def c6_9 := gF c6_5
def n6_9 := A6 c6_9
def c6_10 := gR c6_2
def n6_10 := A6 c6_10
def c6_11 := gL c6_10
def n6_11 := A6 c6_11
def o6_11 : OL c6_11 := ⟨_, by conv => (lhs; whnf)⟩
def c6_12 := gR c6_10
def n6_12 := A6 c6_12
def c6_13 := gL c6_12
def n6_13 := A6 c6_13
def c6_14 := gL c6_13
def n6_14 := A6 c6_14
def o6_14 : OL c6_14 := ⟨_, by conv => (lhs; whnf)⟩
def c6_15 := gR c6_13
def n6_15 := A6 c6_15
def c6_16 := gT c6_15
def n6_16 := A6 c6_16
def c6_17 := gL c6_16
def n6_17 := A6 c6_17
def o6_17 : OL c6_17 := ⟨_, by conv => (lhs; whnf)⟩
def c6_18 := gR c6_16
def n6_18 := A6 c6_18
def c6_19 := gF c6_15
def n6_19 := A6 c6_19
def c6_20 := gR c6_12
def n6_20 := A6 c6_20
def c6_21 := gL c6_20
def n6_21 := A6 c6_21
def o6_21 : OL c6_21 := ⟨_, by conv => (lhs; whnf)⟩
def c6_22 := gR c6_20
def n6_22 := A6 c6_22
def c6_23 := gL c6_22
def n6_23 := A6 c6_23
def c6_24 := gL c6_23
def n6_24 := A6 c6_24
def o6_24 : OL c6_24 := ⟨_, by conv => (lhs; whnf)⟩
def c6_25 := gR c6_23
def n6_25 := A6 c6_25
def c6_26 := gT c6_25
def n6_26 := A6 c6_26
def c6_27 := gL c6_26
def n6_27 := A6 c6_27
def o6_27 : OL c6_27 := ⟨_, by conv => (lhs; whnf)⟩
def c6_28 := gR c6_26
def n6_28 := A6 c6_28
def c6_29 := gF c6_25
def n6_29 := A6 c6_29
def c6_30 := gR c6_22
def n6_30 := A6 c6_30
def c6_31 := gL c6_30
def n6_31 := A6 c6_31
def o6_31 : OL c6_31 := ⟨_, by conv => (lhs; whnf)⟩
def c6_32 := gR c6_30
def n6_32 := A6 c6_32
def c6_33 := gL c6_32
def n6_33 := A6 c6_33
def c6_34 := gL c6_33
def n6_34 := A6 c6_34
def o6_34 : OL c6_34 := ⟨_, by conv => (lhs; whnf)⟩
def c6_35 := gR c6_33
def n6_35 := A6 c6_35
def c6_36 := gT c6_35
def n6_36 := A6 c6_36
def c6_37 := gL c6_36
def n6_37 := A6 c6_37
def o6_37 : OL c6_37 := ⟨_, by conv => (lhs; whnf)⟩
def c6_38 := gR c6_36
def n6_38 := A6 c6_38
def c6_39 := gF c6_35
def n6_39 := A6 c6_39
def c6_40 := gR c6_32
def n6_40 := A6 c6_40
def c6_41 := gL c6_40
def n6_41 := A6 c6_41
def o6_41 : OL c6_41 := ⟨_, by conv => (lhs; whnf)⟩
def c6_42 := gR c6_40
def n6_42 := A6 c6_42
def c6_43 := gL c6_42
def n6_43 := A6 c6_43
def o6_43 : OL c6_43 := ⟨_, by conv => (lhs; whnf)⟩
def c6_44 := gR c6_42
def n6_44 := A6 c6_44
def c6_45 := gL c6_44
def n6_45 := A6 c6_45
def o6_45 : OL c6_45 := ⟨_, by conv => (lhs; whnf)⟩
def c6_46 := gR c6_44
def n6_46 := A6 c6_46
theorem r_n6_1 : n6_1 s = behK 2 (stepsO X (annT 6) C (gO c6_1) o6_1.1 s) := q_region (annT 6) s 0 _ false rfl _ _ rfl rfl o6_1.2
theorem g_o6_1 : gdst (gO c6_1) j = (o6_1.1[j]?).bind Oper.dst := gd_eq o6_1.2 j
theorem r_n6_4 : n6_4 s = behK 65538 (stepsO X (annT 6) C (gO c6_4) o6_4.1 s) := q_region (annT 6) s 1 _ false rfl _ _ rfl rfl o6_4.2
theorem g_o6_4 : gdst (gO c6_4) j = (o6_4.1[j]?).bind Oper.dst := gd_eq o6_4.2 j
theorem r_n6_7 : n6_7 s = behK 4 (stepsO X (annT 6) C (gO c6_7) o6_7.1 s) := q_region (annT 6) s 2 _ false rfl _ _ rfl rfl o6_7.2
theorem g_o6_7 : gdst (gO c6_7) j = (o6_7.1[j]?).bind Oper.dst := gd_eq o6_7.2 j
theorem r_n6_8 : n6_8 s = some (.ret, s) := run_ret _ s
theorem r_n6_6 : n6_6 s = contK n6_8 (n6_7 s) := q_seq _ c6_7 c6_8 s
theorem r_n6_9 : n6_9 s = some (.norm, s) := run_skip _ s
theorem r_n6_5 : n6_5 s = condK (opv s.t (.tmp 16)) n6_6 n6_9 s := q_cond _ c6_6 c6_9 s (.tmp 16)
theorem r_n6_3 : n6_3 s = contK n6_5 (n6_4 s) := q_seq _ c6_4 c6_5 s
theorem r_n6_11 : n6_11 s = behK 26 (stepsO X (annT 6) C (gO c6_11) o6_11.1 s) := q_region (annT 6) s 3 _ false rfl _ _ rfl rfl o6_11.2
theorem g_o6_11 : gdst (gO c6_11) j = (o6_11.1[j]?).bind Oper.dst := gd_eq o6_11.2 j
theorem r_n6_14 : n6_14 s = behK 16777242 (stepsO X (annT 6) C (gO c6_14) o6_14.1 s) := q_region (annT 6) s 4 _ false rfl _ _ rfl rfl o6_14.2
theorem g_o6_14 : gdst (gO c6_14) j = (o6_14.1[j]?).bind Oper.dst := gd_eq o6_14.2 j
theorem r_n6_17 : n6_17 s = behK 4 (stepsO X (annT 6) C (gO c6_17) o6_17.1 s) := q_region (annT 6) s 5 _ false rfl _ _ rfl rfl o6_17.2
theorem g_o6_17 : gdst (gO c6_17) j = (o6_17.1[j]?).bind Oper.dst := gd_eq o6_17.2 j
theorem r_n6_18 : n6_18 s = some (.ret, s) := run_ret _ s
theorem r_n6_16 : n6_16 s = contK n6_18 (n6_17 s) := q_seq _ c6_17 c6_18 s
theorem r_n6_19 : n6_19 s = some (.norm, s) := run_skip _ s
theorem r_n6_15 : n6_15 s = condK (opv s.t (.tmp 24)) n6_16 n6_19 s := q_cond _ c6_16 c6_19 s (.tmp 24)
theorem r_n6_13 : n6_13 s = contK n6_15 (n6_14 s) := q_seq _ c6_14 c6_15 s
theorem r_n6_21 : n6_21 s = behK 106 (stepsO X (annT 6) C (gO c6_21) o6_21.1 s) := q_region (annT 6) s 6 _ false rfl _ _ rfl rfl o6_21.2
theorem g_o6_21 : gdst (gO c6_21) j = (o6_21.1[j]?).bind Oper.dst := gd_eq o6_21.2 j
theorem r_n6_24 : n6_24 s = behK 140737488355338 (stepsO X (annT 6) C (gO c6_24) o6_24.1 s) := q_region (annT 6) s 7 _ false rfl _ _ rfl rfl o6_24.2
theorem g_o6_24 : gdst (gO c6_24) j = (o6_24.1[j]?).bind Oper.dst := gd_eq o6_24.2 j
theorem r_n6_27 : n6_27 s = behK 4 (stepsO X (annT 6) C (gO c6_27) o6_27.1 s) := q_region (annT 6) s 8 _ false rfl _ _ rfl rfl o6_27.2
theorem g_o6_27 : gdst (gO c6_27) j = (o6_27.1[j]?).bind Oper.dst := gd_eq o6_27.2 j
theorem r_n6_28 : n6_28 s = some (.ret, s) := run_ret _ s
theorem r_n6_26 : n6_26 s = contK n6_28 (n6_27 s) := q_seq _ c6_27 c6_28 s
theorem r_n6_29 : n6_29 s = some (.norm, s) := run_skip _ s
theorem r_n6_25 : n6_25 s = condK (opv s.t (.tmp 47)) n6_26 n6_29 s := q_cond _ c6_26 c6_29 s (.tmp 47)
theorem r_n6_23 : n6_23 s = contK n6_25 (n6_24 s) := q_seq _ c6_24 c6_25 s
theorem r_n6_31 : n6_31 s = behK 386 (stepsO X (annT 6) C (gO c6_31) o6_31.1 s) := q_region (annT 6) s 9 _ false rfl _ _ rfl rfl o6_31.2
theorem g_o6_31 : gdst (gO c6_31) j = (o6_31.1[j]?).bind Oper.dst := gd_eq o6_31.2 j
theorem r_n6_34 : n6_34 s = behK 36028797018964354 (stepsO X (annT 6) C (gO c6_34) o6_34.1 s) := q_region (annT 6) s 10 _ false rfl _ _ rfl rfl o6_34.2
theorem g_o6_34 : gdst (gO c6_34) j = (o6_34.1[j]?).bind Oper.dst := gd_eq o6_34.2 j
theorem r_n6_37 : n6_37 s = behK 4 (stepsO X (annT 6) C (gO c6_37) o6_37.1 s) := q_region (annT 6) s 11 _ false rfl _ _ rfl rfl o6_37.2
theorem g_o6_37 : gdst (gO c6_37) j = (o6_37.1[j]?).bind Oper.dst := gd_eq o6_37.2 j
theorem r_n6_38 : n6_38 s = some (.ret, s) := run_ret _ s
theorem r_n6_36 : n6_36 s = contK n6_38 (n6_37 s) := q_seq _ c6_37 c6_38 s
theorem r_n6_39 : n6_39 s = some (.norm, s) := run_skip _ s
theorem r_n6_35 : n6_35 s = condK (opv s.t (.tmp 55)) n6_36 n6_39 s := q_cond _ c6_36 c6_39 s (.tmp 55)
theorem r_n6_33 : n6_33 s = contK n6_35 (n6_34 s) := q_seq _ c6_34 c6_35 s
theorem r_n6_41 : n6_41 s = behK 3714 (stepsO X (annT 6) C (gO c6_41) o6_41.1 s) := q_region (annT 6) s 12 _ false rfl _ _ rfl rfl o6_41.2
theorem g_o6_41 : gdst (gO c6_41) j = (o6_41.1[j]?).bind Oper.dst := gd_eq o6_41.2 j
theorem r_n6_43 : n6_43 s = behK 15490 (stepsO X (annT 6) C (gO c6_43) o6_43.1 s) := q_region (annT 6) s 13 _ false rfl _ _ rfl rfl o6_43.2
theorem g_o6_43 : gdst (gO c6_43) j = (o6_43.1[j]?).bind Oper.dst := gd_eq o6_43.2 j
theorem r_n6_45 : n6_45 s = behK 4 (stepsO X (annT 6) C (gO c6_45) o6_45.1 s) := q_region (annT 6) s 14 _ false rfl _ _ rfl rfl o6_45.2
theorem g_o6_45 : gdst (gO c6_45) j = (o6_45.1[j]?).bind Oper.dst := gd_eq o6_45.2 j
theorem r_n6_46 : n6_46 s = some (.ret, s) := run_ret _ s
theorem r_n6_44 : n6_44 s = contK n6_46 (n6_45 s) := q_seq _ c6_45 c6_46 s
theorem r_n6_42 : n6_42 s = contK n6_44 (n6_43 s) := q_seq _ c6_43 c6_44 s
theorem r_n6_40 : n6_40 s = contK n6_42 (n6_41 s) := q_seq _ c6_41 c6_42 s
theorem r_n6_32 : n6_32 s = contK n6_40 (n6_33 s) := q_seq _ c6_33 c6_40 s
theorem r_n6_30 : n6_30 s = contK n6_32 (n6_31 s) := q_seq _ c6_31 c6_32 s
theorem r_n6_22 : n6_22 s = contK n6_30 (n6_23 s) := q_seq _ c6_23 c6_30 s
theorem r_n6_20 : n6_20 s = contK n6_22 (n6_21 s) := q_seq _ c6_21 c6_22 s
theorem r_n6_12 : n6_12 s = contK n6_20 (n6_13 s) := q_seq _ c6_13 c6_20 s
theorem r_n6_10 : n6_10 s = contK n6_12 (n6_11 s) := q_seq _ c6_11 c6_12 s
theorem r_n6_2 : n6_2 s = contK n6_10 (n6_3 s) := q_seq _ c6_3 c6_10 s
theorem r_n6_0 : n6_0 s = contK n6_2 (n6_1 s) := q_seq _ c6_1 c6_2 s
theorem va_6 : (annT 6).virt = [] := rfl
theorem wa_6 : (annT 6).wr = [] := rfl
theorem ya_6 : (annT 6).ty = [] := rfl
theorem cv_6 (call : Eng.Call) (wr : Bool) (args : List AV) (st : Store) : callV X call wr 6 args st = cvP call wr 6 args st (fzAll (fz false st 6) args) := cv_pure rfl rfl call wr args st
theorem p6 (ds : List D) : pureCall C 6 ds = ((n6_0 ⟨argsT 0 (ds.map .d), []⟩).bind (bodyR [.tmp 2])).bind prOf := P_eq Try.f6 rfl rfl rfl rfl ds
theorem q6 (vs : List AV) (st : Store) : C 6 vs st = (n6_0 ⟨argsT 0 vs, st⟩).bind (bodyR [.tmp 2]) := C_eq Try.f6 rfl rfl rfl rfl vs st
attribute [go_sem] r_n6_1 g_o6_1 o6_1 r_n6_4 g_o6_4 o6_4 r_n6_7 g_o6_7 o6_7 r_n6_8 r_n6_6 r_n6_9 r_n6_5 r_n6_3 r_n6_11 g_o6_11 o6_11 r_n6_14 g_o6_14 o6_14 r_n6_17 g_o6_17 o6_17 r_n6_18 r_n6_16 r_n6_19 r_n6_15 r_n6_13 r_n6_21 g_o6_21 o6_21 r_n6_24 g_o6_24 o6_24 r_n6_27 g_o6_27 o6_27 r_n6_28 r_n6_26 r_n6_29 r_n6_25 r_n6_23 r_n6_31 g_o6_31 o6_31 r_n6_34 g_o6_34 o6_34 r_n6_37 g_o6_37 o6_37 r_n6_38 r_n6_36 r_n6_39 r_n6_35 r_n6_33 r_n6_41 g_o6_41 o6_41 r_n6_43 g_o6_43 o6_43 r_n6_45 g_o6_45 o6_45 r_n6_46 r_n6_44 r_n6_42 r_n6_40 r_n6_32 r_n6_30 r_n6_22 r_n6_20 r_n6_12 r_n6_10 r_n6_2 r_n6_0 va_6 wa_6 ya_6 cv_6
end
end Go.L25
