/- Layer 25: codes by their parts. Conditions: none. -/
import Derived.Test.YtjbaoopiffcigaaPC
set_option linter.unusedVariables false
namespace Go.L25
open Go Go.Eng Go.Proofs
set_option maxRecDepth 100000
noncomputable section
variable (s : S) (j : Nat)
noncomputable def c18_0 : Code := Try.f18.body.getD .skip
noncomputable def A18 := run (annT 18)
def n18_0 := A18 c18_0
def c18_1 := gL c18_0
def n18_1 := A18 c18_1
def o18_1 : OL c18_1 := ⟨_, by conv => (lhs; whnf)⟩
def c18_2 := gR c18_0
def n18_2 := A18 c18_2
def c18_3 := gL c18_2
def n18_3 := A18 c18_3
def o18_3 : OL c18_3 := ⟨_, by conv => (lhs; whnf)⟩
def c18_4 := gR c18_2
def n18_4 := A18 c18_4
def c18_5 := gL c18_4
def n18_5 := A18 c18_5
def c18_6 := gL c18_5
def n18_6 := A18 c18_6
def o18_6 : OL c18_6 := ⟨_, by conv => (lhs; whnf)⟩
def c18_7 := gR c18_5
def n18_7 := A18 c18_7
def c18_8 := gB c18_7
def n18_8 := A18 c18_8
def c18_9 := gB c18_8
def n18_9 := A18 c18_9
def c18_10 := gL c18_9
def n18_10 := A18 c18_10
def o18_10 : OL c18_10 := ⟨_, by conv => (lhs; whnf)⟩
def c18_11 := gR c18_9
def n18_11 := A18 c18_11
def c18_12 := gL c18_11
def n18_12 := A18 c18_12
def c18_13 := gT c18_12
def n18_13 := A18 c18_13
def c18_14 := gF c18_12
def n18_14 := A18 c18_14
def c18_15 := gR c18_11
def n18_15 := A18 c18_15
def c18_16 := gL c18_15
def n18_16 := A18 c18_16
def c18_17 := gB c18_16
def n18_17 := A18 c18_17
def c18_18 := gL c18_17
def n18_18 := A18 c18_18
def o18_18 : OL c18_18 := ⟨_, by conv => (lhs; whnf)⟩
def c18_19 := gR c18_17
def n18_19 := A18 c18_19
def c18_20 := gL c18_19
def n18_20 := A18 c18_20
def o18_20 : OL c18_20 := ⟨_, by conv => (lhs; whnf)⟩
def c18_21 := gR c18_19
def n18_21 := A18 c18_21
def c18_22 := gT c18_21
def n18_22 := A18 c18_22
def o18_22 : OL c18_22 := ⟨_, by conv => (lhs; whnf)⟩
def c18_23 := gF c18_21
def n18_23 := A18 c18_23
def c18_24 := gR c18_15
def n18_24 := A18 c18_24
def o18_24 : OL c18_24 := ⟨_, by conv => (lhs; whnf)⟩
def c18_25 := gR c18_4
def n18_25 := A18 c18_25
def c18_26 := gL c18_25
def n18_26 := A18 c18_26
def o18_26 : OL c18_26 := ⟨_, by conv => (lhs; whnf)⟩
def c18_27 := gR c18_25
def n18_27 := A18 c18_27
theorem r_n18_1 : n18_1 s = behK 1 (stepsO X (annT 18) C (gO c18_1) o18_1.1 s) := q_region (annT 18) s 0 _ false rfl _ _ rfl rfl o18_1.2
theorem g_o18_1 : gdst (gO c18_1) j = (o18_1.1[j]?).bind Oper.dst := gd_eq o18_1.2 j
theorem r_n18_3 : n18_3 s = behK 8 (stepsO X (annT 18) C (gO c18_3) o18_3.1 s) := q_region (annT 18) s 1 _ false rfl _ _ rfl rfl o18_3.2
theorem g_o18_3 : gdst (gO c18_3) j = (o18_3.1[j]?).bind Oper.dst := gd_eq o18_3.2 j
theorem r_n18_6 : n18_6 s = behK 1800 (stepsO X (annT 18) C (gO c18_6) o18_6.1 s) := q_region (annT 18) s 2 _ false rfl _ _ rfl rfl o18_6.2
theorem g_o18_6 : gdst (gO c18_6) j = (o18_6.1[j]?).bind Oper.dst := gd_eq o18_6.2 j
theorem r_n18_10 : n18_10 s = behK 3848 (stepsO X (annT 18) C (gO c18_10) o18_10.1 s) := q_region (annT 18) s 3 _ false rfl _ _ rfl rfl o18_10.2
theorem g_o18_10 : gdst (gO c18_10) j = (o18_10.1[j]?).bind Oper.dst := gd_eq o18_10.2 j
theorem r_n18_13 : n18_13 s = some (.norm, s) := run_skip _ s
theorem r_n18_14 : n18_14 s = some (.exit 0, s) := run_exit _ s 0
theorem r_n18_12 : n18_12 s = condK (opv s.t (.tmp 11)) n18_13 n18_14 s := q_cond _ c18_13 c18_14 s (.tmp 11)
theorem r_n18_18 : n18_18 s = behK 1848 (stepsO X (annT 18) C (gO c18_18) o18_18.1 s) := q_region (annT 18) s 4 _ false rfl _ _ rfl rfl o18_18.2
theorem g_o18_18 : gdst (gO c18_18) j = (o18_18.1[j]?).bind Oper.dst := gd_eq o18_18.2 j
theorem r_n18_20 : n18_20 s = behK 1050424 (stepsO X (annT 18) C (gO c18_20) o18_20.1 s) := q_region (annT 18) s 5 _ false rfl _ _ rfl rfl o18_20.2
theorem g_o18_20 : gdst (gO c18_20) j = (o18_20.1[j]?).bind Oper.dst := gd_eq o18_20.2 j
theorem r_n18_22 : n18_22 s = behK 1800 (stepsO X (annT 18) C (gO c18_22) o18_22.1 s) := q_region (annT 18) s 6 _ false rfl _ _ rfl rfl o18_22.2
theorem g_o18_22 : gdst (gO c18_22) j = (o18_22.1[j]?).bind Oper.dst := gd_eq o18_22.2 j
theorem r_n18_23 : n18_23 s = some (.norm, s) := run_skip _ s
theorem r_n18_21 : n18_21 s = condK (opv s.t (.tmp 20)) n18_22 n18_23 s := q_cond _ c18_22 c18_23 s (.tmp 20)
theorem r_n18_19 : n18_19 s = contK n18_21 (n18_20 s) := q_seq _ c18_20 c18_21 s
theorem r_n18_17 : n18_17 s = contK n18_19 (n18_18 s) := q_seq _ c18_18 c18_19 s
theorem r_n18_16 : n18_16 s = blkK 1 (n18_17 s) := q_block _ c18_17 s 1
theorem r_n18_24 : n18_24 s = behK 1800 (stepsO X (annT 18) C (gO c18_24) o18_24.1 s) := q_region (annT 18) s 7 _ false rfl _ _ rfl rfl o18_24.2
theorem g_o18_24 : gdst (gO c18_24) j = (o18_24.1[j]?).bind Oper.dst := gd_eq o18_24.2 j
theorem r_n18_15 : n18_15 s = contK n18_24 (n18_16 s) := q_seq _ c18_16 c18_24 s
theorem r_n18_11 : n18_11 s = contK n18_15 (n18_12 s) := q_seq _ c18_12 c18_15 s
theorem r_n18_9 : n18_9 s = contK n18_11 (n18_10 s) := q_seq _ c18_10 c18_11 s
theorem r_n18_8 : n18_8 s = loopK 1800 s.st.length n18_8 (n18_9 s) := q_loop (annT 18) c18_9 s _ _ rfl rfl
theorem r_n18_7 : n18_7 s = blkK 0 (n18_8 s) := q_block _ c18_8 s 0
theorem r_n18_5 : n18_5 s = contK n18_7 (n18_6 s) := q_seq _ c18_6 c18_7 s
theorem r_n18_26 : n18_26 s = behK 4 (stepsO X (annT 18) C (gO c18_26) o18_26.1 s) := q_region (annT 18) s 8 _ false rfl _ _ rfl rfl o18_26.2
theorem g_o18_26 : gdst (gO c18_26) j = (o18_26.1[j]?).bind Oper.dst := gd_eq o18_26.2 j
theorem r_n18_27 : n18_27 s = some (.ret, s) := run_ret _ s
theorem r_n18_25 : n18_25 s = contK n18_27 (n18_26 s) := q_seq _ c18_26 c18_27 s
theorem r_n18_4 : n18_4 s = contK n18_25 (n18_5 s) := q_seq _ c18_5 c18_25 s
theorem r_n18_2 : n18_2 s = contK n18_4 (n18_3 s) := q_seq _ c18_3 c18_4 s
theorem r_n18_0 : n18_0 s = contK n18_2 (n18_1 s) := q_seq _ c18_1 c18_2 s
theorem va_18 : (annT 18).virt = [] := rfl
theorem wa_18 : (annT 18).wr = [2, 3, 4, 5, 6, 7, 8, 9, 10, 11, 12, 13, 14] := rfl
theorem ya_18 : (annT 18).ty = [] := rfl
theorem cv_18 (call : Eng.Call) (wr : Bool) (args : List AV) (st : Store) : callV X call wr 18 args st = cvP call wr 18 args st (fzAll (fz false st 6) args) := cv_pure rfl rfl call wr args st
theorem p18 (ds : List D) : pureCall C 18 ds = ((n18_0 ⟨argsT 0 (ds.map .d), []⟩).bind (bodyR [.tmp 2])).bind prOf := P_eq Try.f18 rfl rfl rfl rfl ds
theorem q18 (vs : List AV) (st : Store) : C 18 vs st = (n18_0 ⟨argsT 0 vs, st⟩).bind (bodyR [.tmp 2]) := C_eq Try.f18 rfl rfl rfl rfl vs st
attribute [go_sem] r_n18_1 g_o18_1 o18_1 r_n18_3 g_o18_3 o18_3 r_n18_6 g_o18_6 o18_6 r_n18_10 g_o18_10 o18_10 r_n18_13 r_n18_14 r_n18_12 r_n18_18 g_o18_18 o18_18 r_n18_20 g_o18_20 o18_20 r_n18_22 g_o18_22 o18_22 r_n18_23 r_n18_21 r_n18_19 r_n18_17 r_n18_16 r_n18_24 g_o18_24 o18_24 r_n18_15 r_n18_11 r_n18_9 r_n18_7 r_n18_5 r_n18_26 g_o18_26 o18_26 r_n18_27 r_n18_25 r_n18_4 r_n18_2 r_n18_0 va_18 wa_18 ya_18 cv_18
noncomputable def c19_0 : Code := Try.f19.body.getD .skip
noncomputable def A19 := run (annT 19)
def n19_0 := A19 c19_0
def c19_1 := gL c19_0
def n19_1 := A19 c19_1
def o19_1 : OL c19_1 := ⟨_, by conv => (lhs; whnf)⟩
def c19_2 := gR c19_0
def n19_2 := A19 c19_2
def c19_3 := gL c19_2
def n19_3 := A19 c19_3
def o19_3 : OL c19_3 := ⟨_, by conv => (lhs; whnf)⟩
def c19_4 := gR c19_2
def n19_4 := A19 c19_4
def c19_5 := gL c19_4
def n19_5 := A19 c19_5
def c19_6 := gL c19_5
def n19_6 := A19 c19_6
def o19_6 : OL c19_6 := ⟨_, by conv => (lhs; whnf)⟩
def c19_7 := gR c19_5
def n19_7 := A19 c19_7
def c19_8 := gB c19_7
def n19_8 := A19 c19_8
def c19_9 := gB c19_8
def n19_9 := A19 c19_9
def c19_10 := gL c19_9
def n19_10 := A19 c19_10
def c19_11 := gL c19_10
def n19_11 := A19 c19_11
def o19_11 : OL c19_11 := ⟨_, by conv => (lhs; whnf)⟩
def c19_12 := gR c19_10
def n19_12 := A19 c19_12
def c19_13 := gT c19_12
def n19_13 := A19 c19_13
def c19_14 := gF c19_12
def n19_14 := A19 c19_14
def c19_15 := gR c19_9
def n19_15 := A19 c19_15
def c19_16 := gL c19_15
def n19_16 := A19 c19_16
def c19_17 := gB c19_16
def n19_17 := A19 c19_17
def c19_18 := gL c19_17
def n19_18 := A19 c19_18
def o19_18 : OL c19_18 := ⟨_, by conv => (lhs; whnf)⟩
def c19_19 := gR c19_17
def n19_19 := A19 c19_19
def c19_20 := gT c19_19
def n19_20 := A19 c19_20
def o19_20 : OL c19_20 := ⟨_, by conv => (lhs; whnf)⟩
def c19_21 := gF c19_19
def n19_21 := A19 c19_21
def c19_22 := gR c19_15
def n19_22 := A19 c19_22
def o19_22 : OL c19_22 := ⟨_, by conv => (lhs; whnf)⟩
def c19_23 := gR c19_4
def n19_23 := A19 c19_23
def c19_24 := gL c19_23
def n19_24 := A19 c19_24
def o19_24 : OL c19_24 := ⟨_, by conv => (lhs; whnf)⟩
def c19_25 := gR c19_23
def n19_25 := A19 c19_25
theorem r_n19_1 : n19_1 s = behK 1 (stepsO X (annT 19) C (gO c19_1) o19_1.1 s) := q_region (annT 19) s 0 _ false rfl _ _ rfl rfl o19_1.2
theorem g_o19_1 : gdst (gO c19_1) j = (o19_1.1[j]?).bind Oper.dst := gd_eq o19_1.2 j
theorem r_n19_3 : n19_3 s = behK 8 (stepsO X (annT 19) C (gO c19_3) o19_3.1 s) := q_region (annT 19) s 1 _ false rfl _ _ rfl rfl o19_3.2
theorem g_o19_3 : gdst (gO c19_3) j = (o19_3.1[j]?).bind Oper.dst := gd_eq o19_3.2 j
theorem r_n19_6 : n19_6 s = behK 24 (stepsO X (annT 19) C (gO c19_6) o19_6.1 s) := q_region (annT 19) s 2 _ false rfl _ _ rfl rfl o19_6.2
theorem g_o19_6 : gdst (gO c19_6) j = (o19_6.1[j]?).bind Oper.dst := gd_eq o19_6.2 j
theorem r_n19_11 : n19_11 s = behK 1048 (stepsO X (annT 19) C (gO c19_11) o19_11.1 s) := q_region (annT 19) s 3 _ false rfl _ _ rfl rfl o19_11.2
theorem g_o19_11 : gdst (gO c19_11) j = (o19_11.1[j]?).bind Oper.dst := gd_eq o19_11.2 j
theorem r_n19_13 : n19_13 s = some (.norm, s) := run_skip _ s
theorem r_n19_14 : n19_14 s = some (.exit 0, s) := run_exit _ s 0
theorem r_n19_12 : n19_12 s = condK (opv s.t (.tmp 10)) n19_13 n19_14 s := q_cond _ c19_13 c19_14 s (.tmp 10)
theorem r_n19_10 : n19_10 s = contK n19_12 (n19_11 s) := q_seq _ c19_11 c19_12 s
theorem r_n19_18 : n19_18 s = behK 16777240 (stepsO X (annT 19) C (gO c19_18) o19_18.1 s) := q_region (annT 19) s 5 _ false rfl _ _ rfl rfl o19_18.2
theorem g_o19_18 : gdst (gO c19_18) j = (o19_18.1[j]?).bind Oper.dst := gd_eq o19_18.2 j
theorem r_n19_20 : n19_20 s = behK 24 (stepsO X (annT 19) C (gO c19_20) o19_20.1 s) := q_region (annT 19) s 6 _ false rfl _ _ rfl rfl o19_20.2
theorem g_o19_20 : gdst (gO c19_20) j = (o19_20.1[j]?).bind Oper.dst := gd_eq o19_20.2 j
theorem r_n19_21 : n19_21 s = some (.norm, s) := run_skip _ s
theorem r_n19_19 : n19_19 s = condK (opv s.t (.tmp 24)) n19_20 n19_21 s := q_cond _ c19_20 c19_21 s (.tmp 24)
theorem r_n19_17 : n19_17 s = contK n19_19 (n19_18 s) := q_seq _ c19_18 c19_19 s
theorem r_n19_16 : n19_16 s = blkK 1 (n19_17 s) := q_block _ c19_17 s 1
theorem r_n19_22 : n19_22 s = behK 24 (stepsO X (annT 19) C (gO c19_22) o19_22.1 s) := q_region (annT 19) s 4 _ false rfl _ _ rfl rfl o19_22.2
theorem g_o19_22 : gdst (gO c19_22) j = (o19_22.1[j]?).bind Oper.dst := gd_eq o19_22.2 j
theorem r_n19_15 : n19_15 s = contK n19_22 (n19_16 s) := q_seq _ c19_16 c19_22 s
theorem r_n19_9 : n19_9 s = contK n19_15 (n19_10 s) := q_seq _ c19_10 c19_15 s
theorem r_n19_8 : n19_8 s = loopK 24 s.st.length n19_8 (n19_9 s) := q_loop (annT 19) c19_9 s _ _ rfl rfl
theorem r_n19_7 : n19_7 s = blkK 0 (n19_8 s) := q_block _ c19_8 s 0
theorem r_n19_5 : n19_5 s = contK n19_7 (n19_6 s) := q_seq _ c19_6 c19_7 s
theorem r_n19_24 : n19_24 s = behK 4 (stepsO X (annT 19) C (gO c19_24) o19_24.1 s) := q_region (annT 19) s 7 _ false rfl _ _ rfl rfl o19_24.2
theorem g_o19_24 : gdst (gO c19_24) j = (o19_24.1[j]?).bind Oper.dst := gd_eq o19_24.2 j
theorem r_n19_25 : n19_25 s = some (.ret, s) := run_ret _ s
theorem r_n19_23 : n19_23 s = contK n19_25 (n19_24 s) := q_seq _ c19_24 c19_25 s
theorem r_n19_4 : n19_4 s = contK n19_23 (n19_5 s) := q_seq _ c19_5 c19_23 s
theorem r_n19_2 : n19_2 s = contK n19_4 (n19_3 s) := q_seq _ c19_3 c19_4 s
theorem r_n19_0 : n19_0 s = contK n19_2 (n19_1 s) := q_seq _ c19_1 c19_2 s
theorem va_19 : (annT 19).virt = [] := rfl
theorem wa_19 : (annT 19).wr = [2, 3, 4, 5, 6, 7, 8, 9, 10, 11, 12, 13, 14] := rfl
theorem ya_19 : (annT 19).ty = [] := rfl
theorem cv_19 (call : Eng.Call) (wr : Bool) (args : List AV) (st : Store) : callV X call wr 19 args st = cvP call wr 19 args st (fzAll (fz false st 6) args) := cv_pure rfl rfl call wr args st
theorem p19 (ds : List D) : pureCall C 19 ds = ((n19_0 ⟨argsT 0 (ds.map .d), []⟩).bind (bodyR [.tmp 2])).bind prOf := P_eq Try.f19 rfl rfl rfl rfl ds
theorem q19 (vs : List AV) (st : Store) : C 19 vs st = (n19_0 ⟨argsT 0 vs, st⟩).bind (bodyR [.tmp 2]) := C_eq Try.f19 rfl rfl rfl rfl vs st
attribute [go_sem] r_n19_1 g_o19_1 o19_1 r_n19_3 g_o19_3 o19_3 r_n19_6 g_o19_6 o19_6 r_n19_11 g_o19_11 o19_11 r_n19_13 r_n19_14 r_n19_12 r_n19_10 r_n19_18 g_o19_18 o19_18 r_n19_20 g_o19_20 o19_20 r_n19_21 r_n19_19 r_n19_17 r_n19_16 r_n19_22 g_o19_22 o19_22 r_n19_15 r_n19_9 r_n19_7 r_n19_5 r_n19_24 g_o19_24 o19_24 r_n19_25 r_n19_23 r_n19_4 r_n19_2 r_n19_0 va_19 wa_19 ya_19 cv_19
noncomputable def c12_0 : Code := Try.f12.body.getD .skip
noncomputable def A12 := run (annT 12)
def n12_0 := A12 c12_0
def c12_1 := gL c12_0
def n12_1 := A12 c12_1
def o12_1 : OL c12_1 := ⟨_, by conv => (lhs; whnf)⟩
def c12_2 := gR c12_0
def n12_2 := A12 c12_2
def c12_3 := gL c12_2
def n12_3 := A12 c12_3
def o12_3 : OL c12_3 := ⟨_, by conv => (lhs; whnf)⟩
def c12_4 := gR c12_2
def n12_4 := A12 c12_4
def c12_5 := gL c12_4
def n12_5 := A12 c12_5
def c12_6 := gL c12_5
def n12_6 := A12 c12_6
def o12_6 : OL c12_6 := ⟨_, by conv => (lhs; whnf)⟩
def c12_7 := gR c12_5
def n12_7 := A12 c12_7
def c12_8 := gT c12_7
def n12_8 := A12 c12_8
def c12_9 := gL c12_8
def n12_9 := A12 c12_9
def o12_9 : OL c12_9 := ⟨_, by conv => (lhs; whnf)⟩
def c12_10 := gR c12_8
def n12_10 := A12 c12_10
def c12_11 := gF c12_7
def n12_11 := A12 c12_11
def c12_12 := gR c12_4
def n12_12 := A12 c12_12
def c12_13 := gL c12_12
def n12_13 := A12 c12_13
def c12_14 := gL c12_13
def n12_14 := A12 c12_14
def o12_14 : OL c12_14 := ⟨_, by conv => (lhs; whnf)⟩
def c12_15 := gR c12_13
def n12_15 := A12 c12_15
def c12_16 := gB c12_15
def n12_16 := A12 c12_16
def c12_17 := gB c12_16
def n12_17 := A12 c12_17
def c12_18 := gL c12_17
def n12_18 := A12 c12_18
def c12_19 := gL c12_18
def n12_19 := A12 c12_19
def o12_19 : OL c12_19 := ⟨_, by conv => (lhs; whnf)⟩
def c12_20 := gR c12_18
def n12_20 := A12 c12_20
def c12_21 := gT c12_20
def n12_21 := A12 c12_21
def c12_22 := gF c12_20
def n12_22 := A12 c12_22
def c12_23 := gR c12_17
def n12_23 := A12 c12_23
def c12_24 := gL c12_23
def n12_24 := A12 c12_24
def c12_25 := gB c12_24
def n12_25 := A12 c12_25
def o12_25 : OL c12_25 := ⟨_, by conv => (lhs; whnf)⟩
def c12_26 := gR c12_23
def n12_26 := A12 c12_26
def o12_26 : OL c12_26 := ⟨_, by conv => (lhs; whnf)⟩
def c12_27 := gR c12_12
def n12_27 := A12 c12_27
def c12_28 := gL c12_27
def n12_28 := A12 c12_28
def o12_28 : OL c12_28 := ⟨_, by conv => (lhs; whnf)⟩
def c12_29 := gR c12_27
def n12_29 := A12 c12_29
theorem r_n12_1 : n12_1 s = behK 6 (stepsO X (annT 12) C (gO c12_1) o12_1.1 s) := q_region (annT 12) s 0 _ false rfl _ _ rfl rfl o12_1.2
theorem g_o12_1 : gdst (gO c12_1) j = (o12_1.1[j]?).bind Oper.dst := gd_eq o12_1.2 j
theorem r_n12_3 : n12_3 s = behK 6 (stepsO X (annT 12) C (gO c12_3) o12_3.1 s) := q_region (annT 12) s 1 _ false rfl _ _ rfl rfl o12_3.2
theorem g_o12_3 : gdst (gO c12_3) j = (o12_3.1[j]?).bind Oper.dst := gd_eq o12_3.2 j
theorem r_n12_6 : n12_6 s = behK 2054 (stepsO X (annT 12) C (gO c12_6) o12_6.1 s) := q_region (annT 12) s 2 _ false rfl _ _ rfl rfl o12_6.2
theorem g_o12_6 : gdst (gO c12_6) j = (o12_6.1[j]?).bind Oper.dst := gd_eq o12_6.2 j
theorem r_n12_9 : n12_9 s = behK 16 (stepsO X (annT 12) C (gO c12_9) o12_9.1 s) := q_region (annT 12) s 3 _ false rfl _ _ rfl rfl o12_9.2
theorem g_o12_9 : gdst (gO c12_9) j = (o12_9.1[j]?).bind Oper.dst := gd_eq o12_9.2 j
theorem r_n12_10 : n12_10 s = some (.ret, s) := run_ret _ s
theorem r_n12_8 : n12_8 s = contK n12_10 (n12_9 s) := q_seq _ c12_9 c12_10 s
theorem r_n12_11 : n12_11 s = some (.norm, s) := run_skip _ s
theorem r_n12_7 : n12_7 s = condK (opv s.t (.tmp 11)) n12_8 n12_11 s := q_cond _ c12_8 c12_11 s (.tmp 11)
theorem r_n12_5 : n12_5 s = contK n12_7 (n12_6 s) := q_seq _ c12_6 c12_7 s
theorem r_n12_14 : n12_14 s = behK 38 (stepsO X (annT 12) C (gO c12_14) o12_14.1 s) := q_region (annT 12) s 4 _ false rfl _ _ rfl rfl o12_14.2
theorem g_o12_14 : gdst (gO c12_14) j = (o12_14.1[j]?).bind Oper.dst := gd_eq o12_14.2 j
theorem r_n12_19 : n12_19 s = behK 1048614 (stepsO X (annT 12) C (gO c12_19) o12_19.1 s) := q_region (annT 12) s 5 _ false rfl _ _ rfl rfl o12_19.2
theorem g_o12_19 : gdst (gO c12_19) j = (o12_19.1[j]?).bind Oper.dst := gd_eq o12_19.2 j
theorem r_n12_21 : n12_21 s = some (.norm, s) := run_skip _ s
theorem r_n12_22 : n12_22 s = some (.exit 0, s) := run_exit _ s 0
theorem r_n12_20 : n12_20 s = condK (opv s.t (.tmp 20)) n12_21 n12_22 s := q_cond _ c12_21 c12_22 s (.tmp 20)
theorem r_n12_18 : n12_18 s = contK n12_20 (n12_19 s) := q_seq _ c12_19 c12_20 s
theorem r_n12_25 : n12_25 s = behK 38 (stepsO X (annT 12) C (gO c12_25) o12_25.1 s) := q_region (annT 12) s 7 _ false rfl _ _ rfl rfl o12_25.2
theorem g_o12_25 : gdst (gO c12_25) j = (o12_25.1[j]?).bind Oper.dst := gd_eq o12_25.2 j
theorem r_n12_24 : n12_24 s = blkK 1 (n12_25 s) := q_block _ c12_25 s 1
theorem r_n12_26 : n12_26 s = behK 38 (stepsO X (annT 12) C (gO c12_26) o12_26.1 s) := q_region (annT 12) s 6 _ false rfl _ _ rfl rfl o12_26.2
theorem g_o12_26 : gdst (gO c12_26) j = (o12_26.1[j]?).bind Oper.dst := gd_eq o12_26.2 j
theorem r_n12_23 : n12_23 s = contK n12_26 (n12_24 s) := q_seq _ c12_24 c12_26 s
theorem r_n12_17 : n12_17 s = contK n12_23 (n12_18 s) := q_seq _ c12_18 c12_23 s
theorem r_n12_16 : n12_16 s = loopK 38 s.st.length n12_16 (n12_17 s) := q_loop (annT 12) c12_17 s _ _ rfl rfl
theorem r_n12_15 : n12_15 s = blkK 0 (n12_16 s) := q_block _ c12_16 s 0
theorem r_n12_13 : n12_13 s = contK n12_15 (n12_14 s) := q_seq _ c12_14 c12_15 s
theorem r_n12_28 : n12_28 s = behK 16 (stepsO X (annT 12) C (gO c12_28) o12_28.1 s) := q_region (annT 12) s 8 _ false rfl _ _ rfl rfl o12_28.2
theorem g_o12_28 : gdst (gO c12_28) j = (o12_28.1[j]?).bind Oper.dst := gd_eq o12_28.2 j
theorem r_n12_29 : n12_29 s = some (.ret, s) := run_ret _ s
theorem r_n12_27 : n12_27 s = contK n12_29 (n12_28 s) := q_seq _ c12_28 c12_29 s
theorem r_n12_12 : n12_12 s = contK n12_27 (n12_13 s) := q_seq _ c12_13 c12_27 s
theorem r_n12_4 : n12_4 s = contK n12_12 (n12_5 s) := q_seq _ c12_5 c12_12 s
theorem r_n12_2 : n12_2 s = contK n12_4 (n12_3 s) := q_seq _ c12_3 c12_4 s
theorem r_n12_0 : n12_0 s = contK n12_2 (n12_1 s) := q_seq _ c12_1 c12_2 s
theorem va_12 : (annT 12).virt = [] := rfl
theorem wa_12 : (annT 12).wr = [] := rfl
theorem ya_12 : (annT 12).ty = [] := rfl
theorem cv_12 (call : Eng.Call) (wr : Bool) (args : List AV) (st : Store) : callV X call wr 12 args st = cvP call wr 12 args st (fzAll (fz false st 6) args) := cv_pure rfl rfl call wr args st
theorem p12 (ds : List D) : pureCall C 12 ds = ((n12_0 ⟨argsT 0 (ds.map .d), []⟩).bind (bodyR [.tmp 4])).bind prOf := P_eq Try.f12 rfl rfl rfl rfl ds
theorem q12 (vs : List AV) (st : Store) : C 12 vs st = (n12_0 ⟨argsT 0 vs, st⟩).bind (bodyR [.tmp 4]) := C_eq Try.f12 rfl rfl rfl rfl vs st
attribute [go_sem] r_n12_1 g_o12_1 o12_1 r_n12_3 g_o12_3 o12_3 r_n12_6 g_o12_6 o12_6 r_n12_9 g_o12_9 o12_9 r_n12_10 r_n12_8 r_n12_11 r_n12_7 r_n12_5 r_n12_14 g_o12_14 o12_14 r_n12_19 g_o12_19 o12_19 r_n12_21 r_n12_22 r_n12_20 r_n12_18 r_n12_25 g_o12_25 o12_25 r_n12_24 r_n12_26 g_o12_26 o12_26 r_n12_23 r_n12_17 r_n12_15 r_n12_13 r_n12_28 g_o12_28 o12_28 r_n12_29 r_n12_27 r_n12_12 r_n12_4 r_n12_2 r_n12_0 va_12 wa_12 ya_12 cv_12
noncomputable def c32_0 : Code := Try.f32.body.getD .skip
noncomputable def A32 := run (annT 32)
def n32_0 := A32 c32_0
def c32_1 := gL c32_0
def n32_1 := A32 c32_1
def o32_1 : OL c32_1 := ⟨_, by conv => (lhs; whnf)⟩
def c32_2 := gR c32_0
def n32_2 := A32 c32_2
def c32_3 := gL c32_2
def n32_3 := A32 c32_3
def o32_3 : OL c32_3 := ⟨_, by conv => (lhs; whnf)⟩
def c32_4 := gR c32_2
def n32_4 := A32 c32_4
theorem r_n32_1 : n32_1 s = behK 30 (stepsO X (annT 32) C (gO c32_1) o32_1.1 s) := q_region (annT 32) s 0 _ false rfl _ _ rfl rfl o32_1.2
theorem g_o32_1 : gdst (gO c32_1) j = (o32_1.1[j]?).bind Oper.dst := gd_eq o32_1.2 j
theorem r_n32_3 : n32_3 s = behK 256 (stepsO X (annT 32) C (gO c32_3) o32_3.1 s) := q_region (annT 32) s 1 _ false rfl _ _ rfl rfl o32_3.2
theorem g_o32_3 : gdst (gO c32_3) j = (o32_3.1[j]?).bind Oper.dst := gd_eq o32_3.2 j
theorem r_n32_4 : n32_4 s = some (.ret, s) := run_ret _ s
theorem r_n32_2 : n32_2 s = contK n32_4 (n32_3 s) := q_seq _ c32_3 c32_4 s
theorem r_n32_0 : n32_0 s = contK n32_2 (n32_1 s) := q_seq _ c32_1 c32_2 s
theorem va_32 : (annT 32).virt = [] := rfl
theorem wa_32 : (annT 32).wr = [] := rfl
theorem ya_32 : (annT 32).ty = [] := rfl
theorem cv_32 (call : Eng.Call) (wr : Bool) (args : List AV) (st : Store) : callV X call wr 32 args st = cvP call wr 32 args st (fzAll (fz false st 6) args) := cv_pure rfl rfl call wr args st
theorem p32 (ds : List D) : pureCall C 32 ds = ((n32_0 ⟨argsT 0 (ds.map .d), []⟩).bind (bodyR [.tmp 8])).bind prOf := P_eq Try.f32 rfl rfl rfl rfl ds
theorem q32 (vs : List AV) (st : Store) : C 32 vs st = (n32_0 ⟨argsT 0 vs, st⟩).bind (bodyR [.tmp 8]) := C_eq Try.f32 rfl rfl rfl rfl vs st
attribute [go_sem] r_n32_1 g_o32_1 o32_1 r_n32_3 g_o32_3 o32_3 r_n32_4 r_n32_2 r_n32_0 va_32 wa_32 ya_32 cv_32
noncomputable def c15_0 : Code := Try.f15.body.getD .skip
noncomputable def A15 := run (annT 15)
def n15_0 := A15 c15_0
def c15_1 := gL c15_0
def n15_1 := A15 c15_1
def o15_1 : OL c15_1 := ⟨_, by conv => (lhs; whnf)⟩
def c15_2 := gR c15_0
def n15_2 := A15 c15_2
def c15_3 := gL c15_2
def n15_3 := A15 c15_3
def c15_4 := gL c15_3
def n15_4 := A15 c15_4
def o15_4 : OL c15_4 := ⟨_, by conv => (lhs; whnf)⟩
def c15_5 := gR c15_3
def n15_5 := A15 c15_5
def c15_6 := gT c15_5
def n15_6 := A15 c15_6
def c15_7 := gL c15_6
def n15_7 := A15 c15_7
def o15_7 : OL c15_7 := ⟨_, by conv => (lhs; whnf)⟩
def c15_8 := gR c15_6
def n15_8 := A15 c15_8
def c15_9 := gF c15_5
def n15_9 := A15 c15_9
def c15_10 := gR c15_2
def n15_10 := A15 c15_10
def c15_11 := gL c15_10
def n15_11 := A15 c15_11
def o15_11 : OL c15_11 := ⟨_, by conv => (lhs; whnf)⟩
def c15_12 := gR c15_10
def n15_12 := A15 c15_12
theorem r_n15_1 : n15_1 s = behK 2 (stepsO X (annT 15) C (gO c15_1) o15_1.1 s) := q_region (annT 15) s 0 _ false rfl _ _ rfl rfl o15_1.2
theorem g_o15_1 : gdst (gO c15_1) j = (o15_1.1[j]?).bind Oper.dst := gd_eq o15_1.2 j
theorem r_n15_4 : n15_4 s = behK 66 (stepsO X (annT 15) C (gO c15_4) o15_4.1 s) := q_region (annT 15) s 1 _ false rfl _ _ rfl rfl o15_4.2
theorem g_o15_4 : gdst (gO c15_4) j = (o15_4.1[j]?).bind Oper.dst := gd_eq o15_4.2 j
theorem r_n15_7 : n15_7 s = behK 12 (stepsO X (annT 15) C (gO c15_7) o15_7.1 s) := q_region (annT 15) s 2 _ false rfl _ _ rfl rfl o15_7.2
theorem g_o15_7 : gdst (gO c15_7) j = (o15_7.1[j]?).bind Oper.dst := gd_eq o15_7.2 j
theorem r_n15_8 : n15_8 s = some (.ret, s) := run_ret _ s
theorem r_n15_6 : n15_6 s = contK n15_8 (n15_7 s) := q_seq _ c15_7 c15_8 s
theorem r_n15_9 : n15_9 s = some (.norm, s) := run_skip _ s
theorem r_n15_5 : n15_5 s = condK (opv s.t (.tmp 6)) n15_6 n15_9 s := q_cond _ c15_6 c15_9 s (.tmp 6)
theorem r_n15_3 : n15_3 s = contK n15_5 (n15_4 s) := q_seq _ c15_4 c15_5 s
theorem r_n15_11 : n15_11 s = behK 12 (stepsO X (annT 15) C (gO c15_11) o15_11.1 s) := q_region (annT 15) s 3 _ false rfl _ _ rfl rfl o15_11.2
theorem g_o15_11 : gdst (gO c15_11) j = (o15_11.1[j]?).bind Oper.dst := gd_eq o15_11.2 j
theorem r_n15_12 : n15_12 s = some (.ret, s) := run_ret _ s
theorem r_n15_10 : n15_10 s = contK n15_12 (n15_11 s) := q_seq _ c15_11 c15_12 s
theorem r_n15_2 : n15_2 s = contK n15_10 (n15_3 s) := q_seq _ c15_3 c15_10 s
theorem r_n15_0 : n15_0 s = contK n15_2 (n15_1 s) := q_seq _ c15_1 c15_2 s
theorem va_15 : (annT 15).virt = [] := rfl
theorem wa_15 : (annT 15).wr = [] := rfl
theorem ya_15 : (annT 15).ty = [] := rfl
theorem cv_15 (call : Eng.Call) (wr : Bool) (args : List AV) (st : Store) : callV X call wr 15 args st = cvP call wr 15 args st (fzAll (fz false st 6) args) := cv_pure rfl rfl call wr args st
theorem p15 (ds : List D) : pureCall C 15 ds = ((n15_0 ⟨argsT 0 (ds.map .d), []⟩).bind (bodyR [.tmp 2, .tmp 3])).bind prOf := P_eq Try.f15 rfl rfl rfl rfl ds
theorem q15 (vs : List AV) (st : Store) : C 15 vs st = (n15_0 ⟨argsT 0 vs, st⟩).bind (bodyR [.tmp 2, .tmp 3]) := C_eq Try.f15 rfl rfl rfl rfl vs st
attribute [go_sem] r_n15_1 g_o15_1 o15_1 r_n15_4 g_o15_4 o15_4 r_n15_7 g_o15_7 o15_7 r_n15_8 r_n15_6 r_n15_9 r_n15_5 r_n15_3 r_n15_11 g_o15_11 o15_11 r_n15_12 r_n15_10 r_n15_2 r_n15_0 va_15 wa_15 ya_15 cv_15
noncomputable def c16_0 : Code := Try.f16.body.getD .skip
noncomputable def A16 := run (annT 16)
def n16_0 := A16 c16_0
def c16_1 := gL c16_0
def n16_1 := A16 c16_1
def o16_1 : OL c16_1 := ⟨_, by conv => (lhs; whnf)⟩
def c16_2 := gR c16_0
def n16_2 := A16 c16_2
def c16_3 := gL c16_2
def n16_3 := A16 c16_3
def c16_4 := gL c16_3
def n16_4 := A16 c16_4
def o16_4 : OL c16_4 := ⟨_, by conv => (lhs; whnf)⟩
def c16_5 := gR c16_3
def n16_5 := A16 c16_5
def c16_6 := gT c16_5
def n16_6 := A16 c16_6
def c16_7 := gL c16_6
def n16_7 := A16 c16_7
def o16_7 : OL c16_7 := ⟨_, by conv => (lhs; whnf)⟩
def c16_8 := gR c16_6
def n16_8 := A16 c16_8
def c16_9 := gF c16_5
def n16_9 := A16 c16_9
def c16_10 := gR c16_2
def n16_10 := A16 c16_10
def c16_11 := gL c16_10
def n16_11 := A16 c16_11
def o16_11 : OL c16_11 := ⟨_, by conv => (lhs; whnf)⟩
def c16_12 := gR c16_10
def n16_12 := A16 c16_12
theorem r_n16_1 : n16_1 s = behK 2 (stepsO X (annT 16) C (gO c16_1) o16_1.1 s) := q_region (annT 16) s 0 _ false rfl _ _ rfl rfl o16_1.2
theorem g_o16_1 : gdst (gO c16_1) j = (o16_1.1[j]?).bind Oper.dst := gd_eq o16_1.2 j
theorem r_n16_4 : n16_4 s = behK 32770 (stepsO X (annT 16) C (gO c16_4) o16_4.1 s) := q_region (annT 16) s 1 _ false rfl _ _ rfl rfl o16_4.2
theorem g_o16_4 : gdst (gO c16_4) j = (o16_4.1[j]?).bind Oper.dst := gd_eq o16_4.2 j
theorem r_n16_7 : n16_7 s = behK 12 (stepsO X (annT 16) C (gO c16_7) o16_7.1 s) := q_region (annT 16) s 2 _ false rfl _ _ rfl rfl o16_7.2
theorem g_o16_7 : gdst (gO c16_7) j = (o16_7.1[j]?).bind Oper.dst := gd_eq o16_7.2 j
theorem r_n16_8 : n16_8 s = some (.ret, s) := run_ret _ s
theorem r_n16_6 : n16_6 s = contK n16_8 (n16_7 s) := q_seq _ c16_7 c16_8 s
theorem r_n16_9 : n16_9 s = some (.norm, s) := run_skip _ s
theorem r_n16_5 : n16_5 s = condK (opv s.t (.tmp 15)) n16_6 n16_9 s := q_cond _ c16_6 c16_9 s (.tmp 15)
theorem r_n16_3 : n16_3 s = contK n16_5 (n16_4 s) := q_seq _ c16_4 c16_5 s
theorem r_n16_11 : n16_11 s = behK 12 (stepsO X (annT 16) C (gO c16_11) o16_11.1 s) := q_region (annT 16) s 3 _ false rfl _ _ rfl rfl o16_11.2
theorem g_o16_11 : gdst (gO c16_11) j = (o16_11.1[j]?).bind Oper.dst := gd_eq o16_11.2 j
theorem r_n16_12 : n16_12 s = some (.ret, s) := run_ret _ s
theorem r_n16_10 : n16_10 s = contK n16_12 (n16_11 s) := q_seq _ c16_11 c16_12 s
theorem r_n16_2 : n16_2 s = contK n16_10 (n16_3 s) := q_seq _ c16_3 c16_10 s
theorem r_n16_0 : n16_0 s = contK n16_2 (n16_1 s) := q_seq _ c16_1 c16_2 s
theorem va_16 : (annT 16).virt = [] := rfl
theorem wa_16 : (annT 16).wr = [] := rfl
theorem ya_16 : (annT 16).ty = [] := rfl
theorem cv_16 (call : Eng.Call) (wr : Bool) (args : List AV) (st : Store) : callV X call wr 16 args st = cvP call wr 16 args st (fzAll (fz false st 6) args) := cv_pure rfl rfl call wr args st
theorem p16 (ds : List D) : pureCall C 16 ds = ((n16_0 ⟨argsT 0 (ds.map .d), []⟩).bind (bodyR [.tmp 2, .tmp 3])).bind prOf := P_eq Try.f16 rfl rfl rfl rfl ds
theorem q16 (vs : List AV) (st : Store) : C 16 vs st = (n16_0 ⟨argsT 0 vs, st⟩).bind (bodyR [.tmp 2, .tmp 3]) := C_eq Try.f16 rfl rfl rfl rfl vs st
attribute [go_sem] r_n16_1 g_o16_1 o16_1 r_n16_4 g_o16_4 o16_4 r_n16_7 g_o16_7 o16_7 r_n16_8 r_n16_6 r_n16_9 r_n16_5 r_n16_3 r_n16_11 g_o16_11 o16_11 r_n16_12 r_n16_10 r_n16_2 r_n16_0 va_16 wa_16 ya_16 cv_16
noncomputable def c28_0 : Code := Try.f28.body.getD .skip
noncomputable def A28 := run (annT 28)
def n28_0 := A28 c28_0
def c28_1 := gL c28_0
def n28_1 := A28 c28_1
def o28_1 : OL c28_1 := ⟨_, by conv => (lhs; whnf)⟩
def c28_2 := gR c28_0
def n28_2 := A28 c28_2
def c28_3 := gL c28_2
def n28_3 := A28 c28_3
def c28_4 := gL c28_3
def n28_4 := A28 c28_4
def o28_4 : OL c28_4 := ⟨_, by conv => (lhs; whnf)⟩
def c28_5 := gR c28_3
def n28_5 := A28 c28_5
def c28_6 := gB c28_5
def n28_6 := A28 c28_6
def c28_7 := gB c28_6
def n28_7 := A28 c28_7
def c28_8 := gL c28_7
def n28_8 := A28 c28_8
def o28_8 : OL c28_8 := ⟨_, by conv => (lhs; whnf)⟩
def c28_9 := gR c28_7
def n28_9 := A28 c28_9
def c28_10 := gL c28_9
def n28_10 := A28 c28_10
def c28_11 := gT c28_10
def n28_11 := A28 c28_11
def c28_12 := gF c28_10
def n28_12 := A28 c28_12
def c28_13 := gR c28_9
def n28_13 := A28 c28_13
def c28_14 := gL c28_13
def n28_14 := A28 c28_14
def c28_15 := gB c28_14
def n28_15 := A28 c28_15
def c28_16 := gL c28_15
def n28_16 := A28 c28_16
def o28_16 : OL c28_16 := ⟨_, by conv => (lhs; whnf)⟩
def c28_17 := gR c28_15
def n28_17 := A28 c28_17
def c28_18 := gL c28_17
def n28_18 := A28 c28_18
def o28_18 : OL c28_18 := ⟨_, by conv => (lhs; whnf)⟩
def c28_19 := gR c28_17
def n28_19 := A28 c28_19
def c28_20 := gT c28_19
def n28_20 := A28 c28_20
def c28_21 := gL c28_20
def n28_21 := A28 c28_21
def o28_21 : OL c28_21 := ⟨_, by conv => (lhs; whnf)⟩
def c28_22 := gR c28_20
def n28_22 := A28 c28_22
def c28_23 := gF c28_19
def n28_23 := A28 c28_23
def c28_24 := gR c28_13
def n28_24 := A28 c28_24
def o28_24 : OL c28_24 := ⟨_, by conv => (lhs; whnf)⟩
def c28_25 := gR c28_2
def n28_25 := A28 c28_25
def c28_26 := gL c28_25
def n28_26 := A28 c28_26
def o28_26 : OL c28_26 := ⟨_, by conv => (lhs; whnf)⟩
def c28_27 := gR c28_25
def n28_27 := A28 c28_27
theorem r_n28_1 : n28_1 s = behK 1 (stepsO X (annT 28) C (gO c28_1) o28_1.1 s) := q_region (annT 28) s 0 _ false rfl _ _ rfl rfl o28_1.2
theorem g_o28_1 : gdst (gO c28_1) j = (o28_1.1[j]?).bind Oper.dst := gd_eq o28_1.2 j
theorem r_n28_4 : n28_4 s = behK 224 (stepsO X (annT 28) C (gO c28_4) o28_4.1 s) := q_region (annT 28) s 1 _ false rfl _ _ rfl rfl o28_4.2
theorem g_o28_4 : gdst (gO c28_4) j = (o28_4.1[j]?).bind Oper.dst := gd_eq o28_4.2 j
theorem r_n28_8 : n28_8 s = behK 480 (stepsO X (annT 28) C (gO c28_8) o28_8.1 s) := q_region (annT 28) s 2 _ false rfl _ _ rfl rfl o28_8.2
theorem g_o28_8 : gdst (gO c28_8) j = (o28_8.1[j]?).bind Oper.dst := gd_eq o28_8.2 j
theorem r_n28_11 : n28_11 s = some (.norm, s) := run_skip _ s
theorem r_n28_12 : n28_12 s = some (.exit 0, s) := run_exit _ s 0
theorem r_n28_10 : n28_10 s = condK (opv s.t (.tmp 8)) n28_11 n28_12 s := q_cond _ c28_11 c28_12 s (.tmp 8)
theorem r_n28_16 : n28_16 s = behK 240 (stepsO X (annT 28) C (gO c28_16) o28_16.1 s) := q_region (annT 28) s 3 _ false rfl _ _ rfl rfl o28_16.2
theorem g_o28_16 : gdst (gO c28_16) j = (o28_16.1[j]?).bind Oper.dst := gd_eq o28_16.2 j
theorem r_n28_18 : n28_18 s = behK 268435680 (stepsO X (annT 28) C (gO c28_18) o28_18.1 s) := q_region (annT 28) s 4 _ false rfl _ _ rfl rfl o28_18.2
theorem g_o28_18 : gdst (gO c28_18) j = (o28_18.1[j]?).bind Oper.dst := gd_eq o28_18.2 j
theorem r_n28_21 : n28_21 s = behK 4 (stepsO X (annT 28) C (gO c28_21) o28_21.1 s) := q_region (annT 28) s 5 _ false rfl _ _ rfl rfl o28_21.2
theorem g_o28_21 : gdst (gO c28_21) j = (o28_21.1[j]?).bind Oper.dst := gd_eq o28_21.2 j
theorem r_n28_22 : n28_22 s = some (.ret, s) := run_ret _ s
theorem r_n28_20 : n28_20 s = contK n28_22 (n28_21 s) := q_seq _ c28_21 c28_22 s
theorem r_n28_23 : n28_23 s = some (.norm, s) := run_skip _ s
theorem r_n28_19 : n28_19 s = condK (opv s.t (.tmp 28)) n28_20 n28_23 s := q_cond _ c28_20 c28_23 s (.tmp 28)
theorem r_n28_17 : n28_17 s = contK n28_19 (n28_18 s) := q_seq _ c28_18 c28_19 s
theorem r_n28_15 : n28_15 s = contK n28_17 (n28_16 s) := q_seq _ c28_16 c28_17 s
theorem r_n28_14 : n28_14 s = blkK 1 (n28_15 s) := q_block _ c28_15 s 1
theorem r_n28_24 : n28_24 s = behK 224 (stepsO X (annT 28) C (gO c28_24) o28_24.1 s) := q_region (annT 28) s 6 _ false rfl _ _ rfl rfl o28_24.2
theorem g_o28_24 : gdst (gO c28_24) j = (o28_24.1[j]?).bind Oper.dst := gd_eq o28_24.2 j
theorem r_n28_13 : n28_13 s = contK n28_24 (n28_14 s) := q_seq _ c28_14 c28_24 s
theorem r_n28_9 : n28_9 s = contK n28_13 (n28_10 s) := q_seq _ c28_10 c28_13 s
theorem r_n28_7 : n28_7 s = contK n28_9 (n28_8 s) := q_seq _ c28_8 c28_9 s
theorem r_n28_6 : n28_6 s = loopK 224 s.st.length n28_6 (n28_7 s) := q_loop (annT 28) c28_7 s _ _ rfl rfl
theorem r_n28_5 : n28_5 s = blkK 0 (n28_6 s) := q_block _ c28_6 s 0
theorem r_n28_3 : n28_3 s = contK n28_5 (n28_4 s) := q_seq _ c28_4 c28_5 s
theorem r_n28_26 : n28_26 s = behK 4 (stepsO X (annT 28) C (gO c28_26) o28_26.1 s) := q_region (annT 28) s 7 _ false rfl _ _ rfl rfl o28_26.2
theorem g_o28_26 : gdst (gO c28_26) j = (o28_26.1[j]?).bind Oper.dst := gd_eq o28_26.2 j
theorem r_n28_27 : n28_27 s = some (.ret, s) := run_ret _ s
theorem r_n28_25 : n28_25 s = contK n28_27 (n28_26 s) := q_seq _ c28_26 c28_27 s
theorem r_n28_2 : n28_2 s = contK n28_25 (n28_3 s) := q_seq _ c28_3 c28_25 s
theorem r_n28_0 : n28_0 s = contK n28_2 (n28_1 s) := q_seq _ c28_1 c28_2 s
theorem va_28 : (annT 28).virt = [] := rfl
theorem wa_28 : (annT 28).wr = [] := rfl
theorem ya_28 : (annT 28).ty = [] := rfl
theorem cv_28 (call : Eng.Call) (wr : Bool) (args : List AV) (st : Store) : callV X call wr 28 args st = cvP call wr 28 args st (fzAll (fz false st 6) args) := cv_pure rfl rfl call wr args st
theorem p28 (ds : List D) : pureCall C 28 ds = ((n28_0 ⟨argsT 0 (ds.map .d), []⟩).bind (bodyR [.tmp 2])).bind prOf := P_eq Try.f28 rfl rfl rfl rfl ds
theorem q28 (vs : List AV) (st : Store) : C 28 vs st = (n28_0 ⟨argsT 0 vs, st⟩).bind (bodyR [.tmp 2]) := C_eq Try.f28 rfl rfl rfl rfl vs st
attribute [go_sem] r_n28_1 g_o28_1 o28_1 r_n28_4 g_o28_4 o28_4 r_n28_8 g_o28_8 o28_8 r_n28_11 r_n28_12 r_n28_10 r_n28_16 g_o28_16 o28_16 r_n28_18 g_o28_18 o28_18 r_n28_21 g_o28_21 o28_21 r_n28_22 r_n28_20 r_n28_23 r_n28_19 r_n28_17 r_n28_15 r_n28_14 r_n28_24 g_o28_24 o28_24 r_n28_13 r_n28_9 r_n28_7 r_n28_5 r_n28_3 r_n28_26 g_o28_26 o28_26 r_n28_27 r_n28_25 r_n28_2 r_n28_0 va_28 wa_28 ya_28 cv_28
noncomputable def c29_0 : Code := Try.f29.body.getD .skip
noncomputable def A29 := run (annT 29)
def n29_0 := A29 c29_0
def c29_1 := gL c29_0
def n29_1 := A29 c29_1
def o29_1 : OL c29_1 := ⟨_, by conv => (lhs; whnf)⟩
def c29_2 := gR c29_0
def n29_2 := A29 c29_2
def c29_3 := gL c29_2
def n29_3 := A29 c29_3
def c29_4 := gL c29_3
def n29_4 := A29 c29_4
def o29_4 : OL c29_4 := ⟨_, by conv => (lhs; whnf)⟩
def c29_5 := gR c29_3
def n29_5 := A29 c29_5
def c29_6 := gT c29_5
def n29_6 := A29 c29_6
def c29_7 := gL c29_6
def n29_7 := A29 c29_7
def o29_7 : OL c29_7 := ⟨_, by conv => (lhs; whnf)⟩
def c29_8 := gR c29_6
def n29_8 := A29 c29_8
def c29_9 := gF c29_5
def n29_9 := A29 c29_9
def c29_10 := gR c29_2
def n29_10 := A29 c29_10
def c29_11 := gL c29_10
def n29_11 := A29 c29_11
def c29_12 := gL c29_11
def n29_12 := A29 c29_12
def o29_12 : OL c29_12 := ⟨_, by conv => (lhs; whnf)⟩
def c29_13 := gR c29_11
def n29_13 := A29 c29_13
def c29_14 := gB c29_13
def n29_14 := A29 c29_14
def c29_15 := gB c29_14
def n29_15 := A29 c29_15
def c29_16 := gL c29_15
def n29_16 := A29 c29_16
def o29_16 : OL c29_16 := ⟨_, by conv => (lhs; whnf)⟩
def c29_17 := gR c29_15
def n29_17 := A29 c29_17
def c29_18 := gL c29_17
def n29_18 := A29 c29_18
def c29_19 := gT c29_18
def n29_19 := A29 c29_19
def c29_20 := gF c29_18
def n29_20 := A29 c29_20
def c29_21 := gR c29_17
def n29_21 := A29 c29_21
def c29_22 := gL c29_21
def n29_22 := A29 c29_22
def c29_23 := gB c29_22
def n29_23 := A29 c29_23
def c29_24 := gL c29_23
def n29_24 := A29 c29_24
def o29_24 : OL c29_24 := ⟨_, by conv => (lhs; whnf)⟩
def c29_25 := gR c29_23
def n29_25 := A29 c29_25
def c29_26 := gL c29_25
def n29_26 := A29 c29_26
def o29_26 : OL c29_26 := ⟨_, by conv => (lhs; whnf)⟩
def c29_27 := gR c29_25
def n29_27 := A29 c29_27
def c29_28 := gT c29_27
def n29_28 := A29 c29_28
def c29_29 := gL c29_28
def n29_29 := A29 c29_29
def o29_29 : OL c29_29 := ⟨_, by conv => (lhs; whnf)⟩
def c29_30 := gR c29_28
def n29_30 := A29 c29_30
def c29_31 := gF c29_27
def n29_31 := A29 c29_31
def c29_32 := gR c29_21
def n29_32 := A29 c29_32
def o29_32 : OL c29_32 := ⟨_, by conv => (lhs; whnf)⟩
def c29_33 := gR c29_10
def n29_33 := A29 c29_33
def c29_34 := gL c29_33
def n29_34 := A29 c29_34
def o29_34 : OL c29_34 := ⟨_, by conv => (lhs; whnf)⟩
def c29_35 := gR c29_33
def n29_35 := A29 c29_35
theorem r_n29_1 : n29_1 s = behK 2 (stepsO X (annT 29) C (gO c29_1) o29_1.1 s) := q_region (annT 29) s 0 _ false rfl _ _ rfl rfl o29_1.2
theorem g_o29_1 : gdst (gO c29_1) j = (o29_1.1[j]?).bind Oper.dst := gd_eq o29_1.2 j
theorem r_n29_4 : n29_4 s = behK 258 (stepsO X (annT 29) C (gO c29_4) o29_4.1 s) := q_region (annT 29) s 1 _ false rfl _ _ rfl rfl o29_4.2
theorem g_o29_4 : gdst (gO c29_4) j = (o29_4.1[j]?).bind Oper.dst := gd_eq o29_4.2 j
theorem r_n29_7 : n29_7 s = behK 4 (stepsO X (annT 29) C (gO c29_7) o29_7.1 s) := q_region (annT 29) s 2 _ false rfl _ _ rfl rfl o29_7.2
theorem g_o29_7 : gdst (gO c29_7) j = (o29_7.1[j]?).bind Oper.dst := gd_eq o29_7.2 j
theorem r_n29_8 : n29_8 s = some (.ret, s) := run_ret _ s
theorem r_n29_6 : n29_6 s = contK n29_8 (n29_7 s) := q_seq _ c29_7 c29_8 s
theorem r_n29_9 : n29_9 s = some (.norm, s) := run_skip _ s
theorem r_n29_5 : n29_5 s = condK (opv s.t (.tmp 8)) n29_6 n29_9 s := q_cond _ c29_6 c29_9 s (.tmp 8)
theorem r_n29_3 : n29_3 s = contK n29_5 (n29_4 s) := q_seq _ c29_4 c29_5 s
theorem r_n29_12 : n29_12 s = behK 7168 (stepsO X (annT 29) C (gO c29_12) o29_12.1 s) := q_region (annT 29) s 3 _ false rfl _ _ rfl rfl o29_12.2
theorem g_o29_12 : gdst (gO c29_12) j = (o29_12.1[j]?).bind Oper.dst := gd_eq o29_12.2 j
theorem r_n29_16 : n29_16 s = behK 15360 (stepsO X (annT 29) C (gO c29_16) o29_16.1 s) := q_region (annT 29) s 4 _ false rfl _ _ rfl rfl o29_16.2
theorem g_o29_16 : gdst (gO c29_16) j = (o29_16.1[j]?).bind Oper.dst := gd_eq o29_16.2 j
theorem r_n29_19 : n29_19 s = some (.norm, s) := run_skip _ s
theorem r_n29_20 : n29_20 s = some (.exit 0, s) := run_exit _ s 0
theorem r_n29_18 : n29_18 s = condK (opv s.t (.tmp 13)) n29_19 n29_20 s := q_cond _ c29_19 c29_20 s (.tmp 13)
theorem r_n29_24 : n29_24 s = behK 7184 (stepsO X (annT 29) C (gO c29_24) o29_24.1 s) := q_region (annT 29) s 5 _ false rfl _ _ rfl rfl o29_24.2
theorem g_o29_24 : gdst (gO c29_24) j = (o29_24.1[j]?).bind Oper.dst := gd_eq o29_24.2 j
theorem r_n29_26 : n29_26 s = behK 269312 (stepsO X (annT 29) C (gO c29_26) o29_26.1 s) := q_region (annT 29) s 6 _ false rfl _ _ rfl rfl o29_26.2
theorem g_o29_26 : gdst (gO c29_26) j = (o29_26.1[j]?).bind Oper.dst := gd_eq o29_26.2 j
theorem r_n29_29 : n29_29 s = behK 4 (stepsO X (annT 29) C (gO c29_29) o29_29.1 s) := q_region (annT 29) s 7 _ false rfl _ _ rfl rfl o29_29.2
theorem g_o29_29 : gdst (gO c29_29) j = (o29_29.1[j]?).bind Oper.dst := gd_eq o29_29.2 j
theorem r_n29_30 : n29_30 s = some (.ret, s) := run_ret _ s
theorem r_n29_28 : n29_28 s = contK n29_30 (n29_29 s) := q_seq _ c29_29 c29_30 s
theorem r_n29_31 : n29_31 s = some (.norm, s) := run_skip _ s
theorem r_n29_27 : n29_27 s = condK (opv s.t (.tmp 18)) n29_28 n29_31 s := q_cond _ c29_28 c29_31 s (.tmp 18)
theorem r_n29_25 : n29_25 s = contK n29_27 (n29_26 s) := q_seq _ c29_26 c29_27 s
theorem r_n29_23 : n29_23 s = contK n29_25 (n29_24 s) := q_seq _ c29_24 c29_25 s
theorem r_n29_22 : n29_22 s = blkK 1 (n29_23 s) := q_block _ c29_23 s 1
theorem r_n29_32 : n29_32 s = behK 7168 (stepsO X (annT 29) C (gO c29_32) o29_32.1 s) := q_region (annT 29) s 8 _ false rfl _ _ rfl rfl o29_32.2
theorem g_o29_32 : gdst (gO c29_32) j = (o29_32.1[j]?).bind Oper.dst := gd_eq o29_32.2 j
theorem r_n29_21 : n29_21 s = contK n29_32 (n29_22 s) := q_seq _ c29_22 c29_32 s
theorem r_n29_17 : n29_17 s = contK n29_21 (n29_18 s) := q_seq _ c29_18 c29_21 s
theorem r_n29_15 : n29_15 s = contK n29_17 (n29_16 s) := q_seq _ c29_16 c29_17 s
theorem r_n29_14 : n29_14 s = loopK 7168 s.st.length n29_14 (n29_15 s) := q_loop (annT 29) c29_15 s _ _ rfl rfl
theorem r_n29_13 : n29_13 s = blkK 0 (n29_14 s) := q_block _ c29_14 s 0
theorem r_n29_11 : n29_11 s = contK n29_13 (n29_12 s) := q_seq _ c29_12 c29_13 s
theorem r_n29_34 : n29_34 s = behK 4 (stepsO X (annT 29) C (gO c29_34) o29_34.1 s) := q_region (annT 29) s 9 _ false rfl _ _ rfl rfl o29_34.2
theorem g_o29_34 : gdst (gO c29_34) j = (o29_34.1[j]?).bind Oper.dst := gd_eq o29_34.2 j
theorem r_n29_35 : n29_35 s = some (.ret, s) := run_ret _ s
theorem r_n29_33 : n29_33 s = contK n29_35 (n29_34 s) := q_seq _ c29_34 c29_35 s
theorem r_n29_10 : n29_10 s = contK n29_33 (n29_11 s) := q_seq _ c29_11 c29_33 s
theorem r_n29_2 : n29_2 s = contK n29_10 (n29_3 s) := q_seq _ c29_3 c29_10 s
theorem r_n29_0 : n29_0 s = contK n29_2 (n29_1 s) := q_seq _ c29_1 c29_2 s
theorem va_29 : (annT 29).virt = [] := rfl
theorem wa_29 : (annT 29).wr = [] := rfl
theorem ya_29 : (annT 29).ty = [] := rfl
theorem cv_29 (call : Eng.Call) (wr : Bool) (args : List AV) (st : Store) : callV X call wr 29 args st = cvP call wr 29 args st (fzAll (fz false st 6) args) := cv_pure rfl rfl call wr args st
theorem p29 (ds : List D) : pureCall C 29 ds = ((n29_0 ⟨argsT 0 (ds.map .d), []⟩).bind (bodyR [.tmp 2])).bind prOf := P_eq Try.f29 rfl rfl rfl rfl ds
theorem q29 (vs : List AV) (st : Store) : C 29 vs st = (n29_0 ⟨argsT 0 vs, st⟩).bind (bodyR [.tmp 2]) := C_eq Try.f29 rfl rfl rfl rfl vs st
attribute [go_sem] r_n29_1 g_o29_1 o29_1 r_n29_4 g_o29_4 o29_4 r_n29_7 g_o29_7 o29_7 r_n29_8 r_n29_6 r_n29_9 r_n29_5 r_n29_3 r_n29_12 g_o29_12 o29_12 r_n29_16 g_o29_16 o29_16 r_n29_19 r_n29_20 r_n29_18 r_n29_24 g_o29_24 o29_24 r_n29_26 g_o29_26 o29_26 r_n29_29 g_o29_29 o29_29 r_n29_30 r_n29_28 r_n29_31 r_n29_27 r_n29_25 r_n29_23 r_n29_22 r_n29_32 g_o29_32 o29_32 r_n29_21 r_n29_17 r_n29_15 r_n29_13 r_n29_11 r_n29_34 g_o29_34 o29_34 r_n29_35 r_n29_33 r_n29_10 r_n29_2 r_n29_0 va_29 wa_29 ya_29 cv_29
noncomputable def c27_0 : Code := Try.f27.body.getD .skip
noncomputable def A27 := run (annT 27)
def n27_0 := A27 c27_0
def c27_1 := gL c27_0
def n27_1 := A27 c27_1
def o27_1 : OL c27_1 := ⟨_, by conv => (lhs; whnf)⟩
def c27_2 := gR c27_0
def n27_2 := A27 c27_2
def c27_3 := gL c27_2
def n27_3 := A27 c27_3
def o27_3 : OL c27_3 := ⟨_, by conv => (lhs; whnf)⟩
def c27_4 := gR c27_2
def n27_4 := A27 c27_4
def c27_5 := gL c27_4
def n27_5 := A27 c27_5
def c27_6 := gL c27_5
def n27_6 := A27 c27_6
def o27_6 : OL c27_6 := ⟨_, by conv => (lhs; whnf)⟩
def c27_7 := gR c27_5
def n27_7 := A27 c27_7
def c27_8 := gT c27_7
def n27_8 := A27 c27_8
def c27_9 := gL c27_8
def n27_9 := A27 c27_9
def o27_9 : OL c27_9 := ⟨_, by conv => (lhs; whnf)⟩
def c27_10 := gR c27_8
def n27_10 := A27 c27_10
def c27_11 := gF c27_7
def n27_11 := A27 c27_11
def c27_12 := gR c27_4
def n27_12 := A27 c27_12
def c27_13 := gL c27_12
def n27_13 := A27 c27_13
def c27_14 := gL c27_13
def n27_14 := A27 c27_14
def o27_14 : OL c27_14 := ⟨_, by conv => (lhs; whnf)⟩
def c27_15 := gR c27_13
def n27_15 := A27 c27_15
def c27_16 := gB c27_15
def n27_16 := A27 c27_16
def c27_17 := gL c27_16
def n27_17 := A27 c27_17
def c27_18 := gL c27_17
def n27_18 := A27 c27_18
def o27_18 : OL c27_18 := ⟨_, by conv => (lhs; whnf)⟩
def c27_19 := gR c27_17
def n27_19 := A27 c27_19
def c27_20 := gT c27_19
def n27_20 := A27 c27_20
def c27_21 := gF c27_19
def n27_21 := A27 c27_21
def c27_22 := gL c27_21
def n27_22 := A27 c27_22
def o27_22 : OL c27_22 := ⟨_, by conv => (lhs; whnf)⟩
def c27_23 := gR c27_21
def n27_23 := A27 c27_23
def c27_24 := gT c27_23
def n27_24 := A27 c27_24
def c27_25 := gF c27_23
def n27_25 := A27 c27_25
def o27_25 : OL c27_25 := ⟨_, by conv => (lhs; whnf)⟩
def c27_26 := gR c27_16
def n27_26 := A27 c27_26
def c27_27 := gT c27_26
def n27_27 := A27 c27_27
def c27_28 := gL c27_27
def n27_28 := A27 c27_28
def c27_29 := gL c27_28
def n27_29 := A27 c27_29
def o27_29 : OL c27_29 := ⟨_, by conv => (lhs; whnf)⟩
def c27_30 := gR c27_28
def n27_30 := A27 c27_30
def c27_31 := gB c27_30
def n27_31 := A27 c27_31
def c27_32 := gB c27_31
def n27_32 := A27 c27_32
def c27_33 := gL c27_32
def n27_33 := A27 c27_33
def o27_33 : OL c27_33 := ⟨_, by conv => (lhs; whnf)⟩
def c27_34 := gR c27_32
def n27_34 := A27 c27_34
def c27_35 := gL c27_34
def n27_35 := A27 c27_35
def c27_36 := gT c27_35
def n27_36 := A27 c27_36
def c27_37 := gF c27_35
def n27_37 := A27 c27_37
def c27_38 := gR c27_34
def n27_38 := A27 c27_38
def c27_39 := gL c27_38
def n27_39 := A27 c27_39
def c27_40 := gB c27_39
def n27_40 := A27 c27_40
def c27_41 := gL c27_40
def n27_41 := A27 c27_41
def o27_41 : OL c27_41 := ⟨_, by conv => (lhs; whnf)⟩
def c27_42 := gR c27_40
def n27_42 := A27 c27_42
def c27_43 := gL c27_42
def n27_43 := A27 c27_43
def o27_43 : OL c27_43 := ⟨_, by conv => (lhs; whnf)⟩
def c27_44 := gR c27_42
def n27_44 := A27 c27_44
def c27_45 := gL c27_44
def n27_45 := A27 c27_45
def c27_46 := gL c27_45
def n27_46 := A27 c27_46
def o27_46 : OL c27_46 := ⟨_, by conv => (lhs; whnf)⟩
def c27_47 := gR c27_45
def n27_47 := A27 c27_47
def c27_48 := gT c27_47
def n27_48 := A27 c27_48
def c27_49 := gL c27_48
def n27_49 := A27 c27_49
def o27_49 : OL c27_49 := ⟨_, by conv => (lhs; whnf)⟩
def c27_50 := gR c27_48
def n27_50 := A27 c27_50
def c27_51 := gF c27_47
def n27_51 := A27 c27_51
def c27_52 := gR c27_44
def n27_52 := A27 c27_52
def o27_52 : OL c27_52 := ⟨_, by conv => (lhs; whnf)⟩
def c27_53 := gR c27_38
def n27_53 := A27 c27_53
def o27_53 : OL c27_53 := ⟨_, by conv => (lhs; whnf)⟩
def c27_54 := gR c27_27
def n27_54 := A27 c27_54
def c27_55 := gL c27_54
def n27_55 := A27 c27_55
def o27_55 : OL c27_55 := ⟨_, by conv => (lhs; whnf)⟩
def c27_56 := gR c27_54
def n27_56 := A27 c27_56
def c27_57 := gF c27_26
def n27_57 := A27 c27_57
def c27_58 := gL c27_57
def n27_58 := A27 c27_58
def o27_58 : OL c27_58 := ⟨_, by conv => (lhs; whnf)⟩
def c27_59 := gR c27_57
def n27_59 := A27 c27_59
def c27_60 := gT c27_59
def n27_60 := A27 c27_60
def c27_61 := gL c27_60
def n27_61 := A27 c27_61
def o27_61 : OL c27_61 := ⟨_, by conv => (lhs; whnf)⟩
def c27_62 := gR c27_60
def n27_62 := A27 c27_62
def c27_63 := gL c27_62
def n27_63 := A27 c27_63
def o27_63 : OL c27_63 := ⟨_, by conv => (lhs; whnf)⟩
def c27_64 := gR c27_62
def n27_64 := A27 c27_64
def c27_65 := gF c27_59
def n27_65 := A27 c27_65
def c27_66 := gL c27_65
def n27_66 := A27 c27_66
def o27_66 : OL c27_66 := ⟨_, by conv => (lhs; whnf)⟩
def c27_67 := gR c27_65
def n27_67 := A27 c27_67
def c27_68 := gT c27_67
def n27_68 := A27 c27_68
def c27_69 := gL c27_68
def n27_69 := A27 c27_69
def o27_69 : OL c27_69 := ⟨_, by conv => (lhs; whnf)⟩
def c27_70 := gR c27_68
def n27_70 := A27 c27_70
def c27_71 := gL c27_70
def n27_71 := A27 c27_71
def o27_71 : OL c27_71 := ⟨_, by conv => (lhs; whnf)⟩
def c27_72 := gR c27_70
def n27_72 := A27 c27_72
def c27_73 := gF c27_67
def n27_73 := A27 c27_73
def c27_74 := gL c27_73
def n27_74 := A27 c27_74
def o27_74 : OL c27_74 := ⟨_, by conv => (lhs; whnf)⟩
def c27_75 := gR c27_73
def n27_75 := A27 c27_75
def c27_76 := gT c27_75
def n27_76 := A27 c27_76
def c27_77 := gL c27_76
def n27_77 := A27 c27_77
def o27_77 : OL c27_77 := ⟨_, by conv => (lhs; whnf)⟩
def c27_78 := gR c27_76
def n27_78 := A27 c27_78
def c27_79 := gL c27_78
def n27_79 := A27 c27_79
def o27_79 : OL c27_79 := ⟨_, by conv => (lhs; whnf)⟩
def c27_80 := gR c27_78
def n27_80 := A27 c27_80
def c27_81 := gF c27_75
def n27_81 := A27 c27_81
def c27_82 := gR c27_12
def n27_82 := A27 c27_82
def c27_83 := gL c27_82
def n27_83 := A27 c27_83
def o27_83 : OL c27_83 := ⟨_, by conv => (lhs; whnf)⟩
def c27_84 := gR c27_82
def n27_84 := A27 c27_84
def c27_85 := gL c27_84
def n27_85 := A27 c27_85
def o27_85 : OL c27_85 := ⟨_, by conv => (lhs; whnf)⟩
def c27_86 := gR c27_84
def n27_86 := A27 c27_86
theorem r_n27_1 : n27_1 s = behK 22 (stepsO X (annT 27) C (gO c27_1) o27_1.1 s) := q_region (annT 27) s 0 _ false rfl _ _ rfl rfl o27_1.2
theorem g_o27_1 : gdst (gO c27_1) j = (o27_1.1[j]?).bind Oper.dst := gd_eq o27_1.2 j
theorem r_n27_3 : n27_3 s = behK 86 (stepsO X (annT 27) C (gO c27_3) o27_3.1 s) := q_region (annT 27) s 1 _ false rfl _ _ rfl rfl o27_3.2
theorem g_o27_3 : gdst (gO c27_3) j = (o27_3.1[j]?).bind Oper.dst := gd_eq o27_3.2 j
theorem r_n27_6 : n27_6 s = behK 2147483734 (stepsO X (annT 27) C (gO c27_6) o27_6.1 s) := q_region (annT 27) s 2 _ false rfl _ _ rfl rfl o27_6.2
theorem g_o27_6 : gdst (gO c27_6) j = (o27_6.1[j]?).bind Oper.dst := gd_eq o27_6.2 j
theorem r_n27_9 : n27_9 s = behK 48 (stepsO X (annT 27) C (gO c27_9) o27_9.1 s) := q_region (annT 27) s 3 _ false rfl _ _ rfl rfl o27_9.2
theorem g_o27_9 : gdst (gO c27_9) j = (o27_9.1[j]?).bind Oper.dst := gd_eq o27_9.2 j
theorem r_n27_10 : n27_10 s = some (.ret, s) := run_ret _ s
theorem r_n27_8 : n27_8 s = contK n27_10 (n27_9 s) := q_seq _ c27_9 c27_10 s
theorem r_n27_11 : n27_11 s = some (.norm, s) := run_skip _ s
theorem r_n27_7 : n27_7 s = condK (opv s.t (.tmp 31)) n27_8 n27_11 s := q_cond _ c27_8 c27_11 s (.tmp 31)
theorem r_n27_5 : n27_5 s = contK n27_7 (n27_6 s) := q_seq _ c27_6 c27_7 s
theorem r_n27_14 : n27_14 s = behK 17179869270 (stepsO X (annT 27) C (gO c27_14) o27_14.1 s) := q_region (annT 27) s 4 _ false rfl _ _ rfl rfl o27_14.2
theorem g_o27_14 : gdst (gO c27_14) j = (o27_14.1[j]?).bind Oper.dst := gd_eq o27_14.2 j
theorem r_n27_18 : n27_18 s = behK 51539607638 (stepsO X (annT 27) C (gO c27_18) o27_18.1 s) := q_region (annT 27) s 5 _ false rfl _ _ rfl rfl o27_18.2
theorem g_o27_18 : gdst (gO c27_18) j = (o27_18.1[j]?).bind Oper.dst := gd_eq o27_18.2 j
theorem r_n27_20 : n27_20 s = some (.norm, s) := run_skip _ s
theorem r_n27_22 : n27_22 s = behK 51539607638 (stepsO X (annT 27) C (gO c27_22) o27_22.1 s) := q_region (annT 27) s 6 _ false rfl _ _ rfl rfl o27_22.2
theorem g_o27_22 : gdst (gO c27_22) j = (o27_22.1[j]?).bind Oper.dst := gd_eq o27_22.2 j
theorem r_n27_24 : n27_24 s = some (.norm, s) := run_skip _ s
theorem r_n27_25 : n27_25 s = behK 51539607638 (stepsO X (annT 27) C (gO c27_25) o27_25.1 s) := q_region (annT 27) s 7 _ false rfl _ _ rfl rfl o27_25.2
theorem g_o27_25 : gdst (gO c27_25) j = (o27_25.1[j]?).bind Oper.dst := gd_eq o27_25.2 j
theorem r_n27_23 : n27_23 s = condK (opv s.t (.tmp 35)) n27_24 n27_25 s := q_cond _ c27_24 c27_25 s (.tmp 35)
theorem r_n27_21 : n27_21 s = contK n27_23 (n27_22 s) := q_seq _ c27_22 c27_23 s
theorem r_n27_19 : n27_19 s = condK (opv s.t (.tmp 35)) n27_20 n27_21 s := q_cond _ c27_20 c27_21 s (.tmp 35)
theorem r_n27_17 : n27_17 s = contK n27_19 (n27_18 s) := q_seq _ c27_18 c27_19 s
theorem r_n27_29 : n27_29 s = behK 7696581394514 (stepsO X (annT 27) C (gO c27_29) o27_29.1 s) := q_region (annT 27) s 8 _ false rfl _ _ rfl rfl o27_29.2
theorem g_o27_29 : gdst (gO c27_29) j = (o27_29.1[j]?).bind Oper.dst := gd_eq o27_29.2 j
theorem r_n27_33 : n27_33 s = behK 16492674416722 (stepsO X (annT 27) C (gO c27_33) o27_33.1 s) := q_region (annT 27) s 9 _ false rfl _ _ rfl rfl o27_33.2
theorem g_o27_33 : gdst (gO c27_33) j = (o27_33.1[j]?).bind Oper.dst := gd_eq o27_33.2 j
theorem r_n27_36 : n27_36 s = some (.norm, s) := run_skip _ s
theorem r_n27_37 : n27_37 s = some (.exit 1, s) := run_exit _ s 1
theorem r_n27_35 : n27_35 s = condK (opv s.t (.tmp 43)) n27_36 n27_37 s := q_cond _ c27_36 c27_37 s (.tmp 43)
theorem r_n27_41 : n27_41 s = behK 7696581394770 (stepsO X (annT 27) C (gO c27_41) o27_41.1 s) := q_region (annT 27) s 10 _ false rfl _ _ rfl rfl o27_41.2
theorem g_o27_41 : gdst (gO c27_41) j = (o27_41.1[j]?).bind Oper.dst := gd_eq o27_41.2 j
theorem r_n27_43 : n27_43 s = behK 7696581396050 (stepsO X (annT 27) C (gO c27_43) o27_43.1 s) := q_region (annT 27) s 11 _ false rfl _ _ rfl rfl o27_43.2
theorem g_o27_43 : gdst (gO c27_43) j = (o27_43.1[j]?).bind Oper.dst := gd_eq o27_43.2 j
theorem r_n27_46 : n27_46 s = behK 18022095090877010 (stepsO X (annT 27) C (gO c27_46) o27_46.1 s) := q_region (annT 27) s 12 _ false rfl _ _ rfl rfl o27_46.2
theorem g_o27_46 : gdst (gO c27_46) j = (o27_46.1[j]?).bind Oper.dst := gd_eq o27_46.2 j
theorem r_n27_49 : n27_49 s = behK 48 (stepsO X (annT 27) C (gO c27_49) o27_49.1 s) := q_region (annT 27) s 13 _ false rfl _ _ rfl rfl o27_49.2
theorem g_o27_49 : gdst (gO c27_49) j = (o27_49.1[j]?).bind Oper.dst := gd_eq o27_49.2 j
theorem r_n27_50 : n27_50 s = some (.ret, s) := run_ret _ s
theorem r_n27_48 : n27_48 s = contK n27_50 (n27_49 s) := q_seq _ c27_49 c27_50 s
theorem r_n27_51 : n27_51 s = some (.norm, s) := run_skip _ s
theorem r_n27_47 : n27_47 s = condK (opv s.t (.tmp 54)) n27_48 n27_51 s := q_cond _ c27_48 c27_51 s (.tmp 54)
theorem r_n27_45 : n27_45 s = contK n27_47 (n27_46 s) := q_seq _ c27_46 c27_47 s
theorem r_n27_52 : n27_52 s = behK 7696581394514 (tailK (annT 27) (gO c27_52) (o27_52.1.drop 6) (stepsO X (annT 27) C (gO c27_52) (o27_52.1.take 6) s)) := q_regionE (annT 27) s 14 _ true 6 rfl _ _ rfl rfl o27_52.2
theorem g_o27_52 : gdst (gO c27_52) j = (o27_52.1[j]?).bind Oper.dst := gd_eq o27_52.2 j
theorem r_n27_44 : n27_44 s = contK n27_52 (n27_45 s) := q_seq _ c27_45 c27_52 s
theorem r_n27_42 : n27_42 s = contK n27_44 (n27_43 s) := q_seq _ c27_43 c27_44 s
theorem r_n27_40 : n27_40 s = contK n27_42 (n27_41 s) := q_seq _ c27_41 c27_42 s
theorem r_n27_39 : n27_39 s = blkK 2 (n27_40 s) := q_block _ c27_40 s 2
theorem r_n27_53 : n27_53 s = behK 7696581394514 (stepsO X (annT 27) C (gO c27_53) o27_53.1 s) := q_region (annT 27) s 15 _ false rfl _ _ rfl rfl o27_53.2
theorem g_o27_53 : gdst (gO c27_53) j = (o27_53.1[j]?).bind Oper.dst := gd_eq o27_53.2 j
theorem r_n27_38 : n27_38 s = contK n27_53 (n27_39 s) := q_seq _ c27_39 c27_53 s
theorem r_n27_34 : n27_34 s = contK n27_38 (n27_35 s) := q_seq _ c27_35 c27_38 s
theorem r_n27_32 : n27_32 s = contK n27_34 (n27_33 s) := q_seq _ c27_33 c27_34 s
theorem r_n27_31 : n27_31 s = loopK 7696581394514 s.st.length n27_31 (n27_32 s) := q_loop (annT 27) c27_32 s _ _ rfl rfl
theorem r_n27_30 : n27_30 s = blkK 1 (n27_31 s) := q_block _ c27_31 s 1
theorem r_n27_28 : n27_28 s = contK n27_30 (n27_29 s) := q_seq _ c27_29 c27_30 s
theorem r_n27_55 : n27_55 s = behK 48 (stepsO X (annT 27) C (gO c27_55) o27_55.1 s) := q_region (annT 27) s 16 _ false rfl _ _ rfl rfl o27_55.2
theorem g_o27_55 : gdst (gO c27_55) j = (o27_55.1[j]?).bind Oper.dst := gd_eq o27_55.2 j
theorem r_n27_56 : n27_56 s = some (.ret, s) := run_ret _ s
theorem r_n27_54 : n27_54 s = contK n27_56 (n27_55 s) := q_seq _ c27_55 c27_56 s
theorem r_n27_27 : n27_27 s = contK n27_54 (n27_28 s) := q_seq _ c27_28 c27_54 s
theorem r_n27_58 : n27_58 s = behK 73786976312018075732 (stepsO X (annT 27) C (gO c27_58) o27_58.1 s) := q_region (annT 27) s 17 _ false rfl _ _ rfl rfl o27_58.2
theorem g_o27_58 : gdst (gO c27_58) j = (o27_58.1[j]?).bind Oper.dst := gd_eq o27_58.2 j
theorem r_n27_61 : n27_61 s = behK 84 (stepsO X (annT 27) C (gO c27_61) o27_61.1 s) := q_region (annT 27) s 18 _ false rfl _ _ rfl rfl o27_61.2
theorem g_o27_61 : gdst (gO c27_61) j = (o27_61.1[j]?).bind Oper.dst := gd_eq o27_61.2 j
theorem r_n27_63 : n27_63 s = behK 48 (tailK (annT 27) (gO c27_63) (o27_63.1.drop 0) (stepsO X (annT 27) C (gO c27_63) (o27_63.1.take 0) s)) := q_regionE (annT 27) s 19 _ true 0 rfl _ _ rfl rfl o27_63.2
theorem g_o27_63 : gdst (gO c27_63) j = (o27_63.1[j]?).bind Oper.dst := gd_eq o27_63.2 j
theorem r_n27_64 : n27_64 s = some (.ret, s) := run_ret _ s
theorem r_n27_62 : n27_62 s = contK n27_64 (n27_63 s) := q_seq _ c27_63 c27_64 s
theorem r_n27_60 : n27_60 s = contK n27_62 (n27_61 s) := q_seq _ c27_61 c27_62 s
theorem r_n27_66 : n27_66 s = behK 151115727451845826707540 (stepsO X (annT 27) C (gO c27_66) o27_66.1 s) := q_region (annT 27) s 20 _ false rfl _ _ rfl rfl o27_66.2
theorem g_o27_66 : gdst (gO c27_66) j = (o27_66.1[j]?).bind Oper.dst := gd_eq o27_66.2 j
theorem r_n27_69 : n27_69 s = behK 2128 (stepsO X (annT 27) C (gO c27_69) o27_69.1 s) := q_region (annT 27) s 21 _ false rfl _ _ rfl rfl o27_69.2
theorem g_o27_69 : gdst (gO c27_69) j = (o27_69.1[j]?).bind Oper.dst := gd_eq o27_69.2 j
theorem r_n27_71 : n27_71 s = behK 48 (stepsO X (annT 27) C (gO c27_71) o27_71.1 s) := q_region (annT 27) s 22 _ false rfl _ _ rfl rfl o27_71.2
theorem g_o27_71 : gdst (gO c27_71) j = (o27_71.1[j]?).bind Oper.dst := gd_eq o27_71.2 j
theorem r_n27_72 : n27_72 s = some (.ret, s) := run_ret _ s
theorem r_n27_70 : n27_70 s = contK n27_72 (n27_71 s) := q_seq _ c27_71 c27_72 s
theorem r_n27_68 : n27_68 s = contK n27_70 (n27_69 s) := q_seq _ c27_69 c27_70 s
theorem r_n27_74 : n27_74 s = behK 9671406556917033397649492 (stepsO X (annT 27) C (gO c27_74) o27_74.1 s) := q_region (annT 27) s 23 _ false rfl _ _ rfl rfl o27_74.2
theorem g_o27_74 : gdst (gO c27_74) j = (o27_74.1[j]?).bind Oper.dst := gd_eq o27_74.2 j
theorem r_n27_77 : n27_77 s = behK 4176 (stepsO X (annT 27) C (gO c27_77) o27_77.1 s) := q_region (annT 27) s 24 _ false rfl _ _ rfl rfl o27_77.2
theorem g_o27_77 : gdst (gO c27_77) j = (o27_77.1[j]?).bind Oper.dst := gd_eq o27_77.2 j
theorem r_n27_79 : n27_79 s = behK 48 (stepsO X (annT 27) C (gO c27_79) o27_79.1 s) := q_region (annT 27) s 25 _ false rfl _ _ rfl rfl o27_79.2
theorem g_o27_79 : gdst (gO c27_79) j = (o27_79.1[j]?).bind Oper.dst := gd_eq o27_79.2 j
theorem r_n27_80 : n27_80 s = some (.ret, s) := run_ret _ s
theorem r_n27_78 : n27_78 s = contK n27_80 (n27_79 s) := q_seq _ c27_79 c27_80 s
theorem r_n27_76 : n27_76 s = contK n27_78 (n27_77 s) := q_seq _ c27_77 c27_78 s
theorem r_n27_81 : n27_81 s = some (.norm, s) := run_skip _ s
theorem r_n27_75 : n27_75 s = condK (opv s.t (.tmp 83)) n27_76 n27_81 s := q_cond _ c27_76 c27_81 s (.tmp 83)
theorem r_n27_73 : n27_73 s = contK n27_75 (n27_74 s) := q_seq _ c27_74 c27_75 s
theorem r_n27_67 : n27_67 s = condK (opv s.t (.tmp 77)) n27_68 n27_73 s := q_cond _ c27_68 c27_73 s (.tmp 77)
theorem r_n27_65 : n27_65 s = contK n27_67 (n27_66 s) := q_seq _ c27_66 c27_67 s
theorem r_n27_59 : n27_59 s = condK (opv s.t (.tmp 66)) n27_60 n27_65 s := q_cond _ c27_60 c27_65 s (.tmp 66)
theorem r_n27_57 : n27_57 s = contK n27_59 (n27_58 s) := q_seq _ c27_58 c27_59 s
theorem r_n27_26 : n27_26 s = condK (opv s.t (.tmp 35)) n27_27 n27_57 s := q_cond _ c27_27 c27_57 s (.tmp 35)
theorem r_n27_16 : n27_16 s = contK n27_26 (n27_17 s) := q_seq _ c27_17 c27_26 s
theorem r_n27_15 : n27_15 s = blkK 0 (n27_16 s) := q_block _ c27_16 s 0
theorem r_n27_13 : n27_13 s = contK n27_15 (n27_14 s) := q_seq _ c27_14 c27_15 s
theorem r_n27_83 : n27_83 s = behK 8272 (stepsO X (annT 27) C (gO c27_83) o27_83.1 s) := q_region (annT 27) s 26 _ false rfl _ _ rfl rfl o27_83.2
theorem g_o27_83 : gdst (gO c27_83) j = (o27_83.1[j]?).bind Oper.dst := gd_eq o27_83.2 j
theorem r_n27_85 : n27_85 s = behK 48 (stepsO X (annT 27) C (gO c27_85) o27_85.1 s) := q_region (annT 27) s 27 _ false rfl _ _ rfl rfl o27_85.2
theorem g_o27_85 : gdst (gO c27_85) j = (o27_85.1[j]?).bind Oper.dst := gd_eq o27_85.2 j
theorem r_n27_86 : n27_86 s = some (.ret, s) := run_ret _ s
theorem r_n27_84 : n27_84 s = contK n27_86 (n27_85 s) := q_seq _ c27_85 c27_86 s
theorem r_n27_82 : n27_82 s = contK n27_84 (n27_83 s) := q_seq _ c27_83 c27_84 s
theorem r_n27_12 : n27_12 s = contK n27_82 (n27_13 s) := q_seq _ c27_13 c27_82 s
theorem r_n27_4 : n27_4 s = contK n27_12 (n27_5 s) := q_seq _ c27_5 c27_12 s
theorem r_n27_2 : n27_2 s = contK n27_4 (n27_3 s) := q_seq _ c27_3 c27_4 s
theorem r_n27_0 : n27_0 s = contK n27_2 (n27_1 s) := q_seq _ c27_1 c27_2 s
theorem va_27 : (annT 27).virt = [] := rfl
theorem wa_27 : (annT 27).wr = [61] := rfl
theorem ya_27 : (annT 27).ty = [] := rfl
theorem cv_27 (call : Eng.Call) (wr : Bool) (args : List AV) (st : Store) : callV X call wr 27 args st = cvP call wr 27 args st (fzAll (fz false st 6) args) := cv_pure rfl rfl call wr args st
theorem p27 (ds : List D) : pureCall C 27 ds = ((n27_0 ⟨argsT 0 (ds.map .d), []⟩).bind (bodyR [.cell 4 27, .tmp 5])).bind prOf := P_eq Try.f27 rfl rfl rfl rfl ds
theorem q27 (vs : List AV) (st : Store) : C 27 vs st = (n27_0 ⟨argsT 0 vs, st⟩).bind (bodyR [.cell 4 27, .tmp 5]) := C_eq Try.f27 rfl rfl rfl rfl vs st
attribute [go_sem] r_n27_1 g_o27_1 o27_1 r_n27_3 g_o27_3 o27_3 r_n27_6 g_o27_6 o27_6 r_n27_9 g_o27_9 o27_9 r_n27_10 r_n27_8 r_n27_11 r_n27_7 r_n27_5 r_n27_14 g_o27_14 o27_14 r_n27_18 g_o27_18 o27_18 r_n27_20 r_n27_22 g_o27_22 o27_22 r_n27_24 r_n27_25 g_o27_25 o27_25 r_n27_23 r_n27_21 r_n27_19 r_n27_17 r_n27_29 g_o27_29 o27_29 r_n27_33 g_o27_33 o27_33 r_n27_36 r_n27_37 r_n27_35 r_n27_41 g_o27_41 o27_41 r_n27_43 g_o27_43 o27_43 r_n27_46 g_o27_46 o27_46 r_n27_49 g_o27_49 o27_49 r_n27_50 r_n27_48 r_n27_51 r_n27_47 r_n27_45 r_n27_52 g_o27_52 o27_52 r_n27_44 r_n27_42 r_n27_40 r_n27_39 r_n27_53 g_o27_53 o27_53 r_n27_38 r_n27_34 r_n27_32 r_n27_30 r_n27_28 r_n27_55 g_o27_55 o27_55 r_n27_56 r_n27_54 r_n27_27 r_n27_58 g_o27_58 o27_58 r_n27_61 g_o27_61 o27_61 r_n27_63 g_o27_63 o27_63 r_n27_64 r_n27_62 r_n27_60 r_n27_66 g_o27_66 o27_66 r_n27_69 g_o27_69 o27_69 r_n27_71 g_o27_71 o27_71 r_n27_72 r_n27_70 r_n27_68 r_n27_74 g_o27_74 o27_74 r_n27_77 g_o27_77 o27_77 r_n27_79 g_o27_79 o27_79 r_n27_80 r_n27_78 r_n27_76 r_n27_81 r_n27_75 r_n27_73 r_n27_67 r_n27_65 r_n27_59 r_n27_57 r_n27_26 r_n27_16 r_n27_15 r_n27_13 r_n27_83 g_o27_83 o27_83 r_n27_85 g_o27_85 o27_85 r_n27_86 r_n27_84 r_n27_82 r_n27_12 r_n27_4 r_n27_2 r_n27_0 va_27 wa_27 ya_27 cv_27
noncomputable def c13_0 : Code := Try.f13.body.getD .skip
noncomputable def A13 := run (annT 13)
def n13_0 := A13 c13_0
def c13_1 := gL c13_0
def n13_1 := A13 c13_1
def o13_1 : OL c13_1 := ⟨_, by conv => (lhs; whnf)⟩
def c13_2 := gR c13_0
def n13_2 := A13 c13_2
def c13_3 := gL c13_2
def n13_3 := A13 c13_3
def o13_3 : OL c13_3 := ⟨_, by conv => (lhs; whnf)⟩
def c13_4 := gR c13_2
def n13_4 := A13 c13_4
def c13_5 := gL c13_4
def n13_5 := A13 c13_5
def c13_6 := gL c13_5
def n13_6 := A13 c13_6
def o13_6 : OL c13_6 := ⟨_, by conv => (lhs; whnf)⟩
def c13_7 := gR c13_5
def n13_7 := A13 c13_7
def c13_8 := gT c13_7
def n13_8 := A13 c13_8
def c13_9 := gL c13_8
def n13_9 := A13 c13_9
def o13_9 : OL c13_9 := ⟨_, by conv => (lhs; whnf)⟩
def c13_10 := gR c13_8
def n13_10 := A13 c13_10
def c13_11 := gF c13_7
def n13_11 := A13 c13_11
def c13_12 := gR c13_4
def n13_12 := A13 c13_12
def c13_13 := gL c13_12
def n13_13 := A13 c13_13
def o13_13 : OL c13_13 := ⟨_, by conv => (lhs; whnf)⟩
def c13_14 := gR c13_12
def n13_14 := A13 c13_14
theorem r_n13_1 : n13_1 s = behK 6 (stepsO X (annT 13) C (gO c13_1) o13_1.1 s) := q_region (annT 13) s 0 _ false rfl _ _ rfl rfl o13_1.2
theorem g_o13_1 : gdst (gO c13_1) j = (o13_1.1[j]?).bind Oper.dst := gd_eq o13_1.2 j
theorem r_n13_3 : n13_3 s = behK 54 (stepsO X (annT 13) C (gO c13_3) o13_3.1 s) := q_region (annT 13) s 1 _ false rfl _ _ rfl rfl o13_3.2
theorem g_o13_3 : gdst (gO c13_3) j = (o13_3.1[j]?).bind Oper.dst := gd_eq o13_3.2 j
theorem r_n13_6 : n13_6 s = behK 268435476 (stepsO X (annT 13) C (gO c13_6) o13_6.1 s) := q_region (annT 13) s 2 _ false rfl _ _ rfl rfl o13_6.2
theorem g_o13_6 : gdst (gO c13_6) j = (o13_6.1[j]?).bind Oper.dst := gd_eq o13_6.2 j
theorem r_n13_9 : n13_9 s = behK 12 (stepsO X (annT 13) C (gO c13_9) o13_9.1 s) := q_region (annT 13) s 3 _ false rfl _ _ rfl rfl o13_9.2
theorem g_o13_9 : gdst (gO c13_9) j = (o13_9.1[j]?).bind Oper.dst := gd_eq o13_9.2 j
theorem r_n13_10 : n13_10 s = some (.ret, s) := run_ret _ s
theorem r_n13_8 : n13_8 s = contK n13_10 (n13_9 s) := q_seq _ c13_9 c13_10 s
theorem r_n13_11 : n13_11 s = some (.norm, s) := run_skip _ s
theorem r_n13_7 : n13_7 s = condK (opv s.t (.tmp 28)) n13_8 n13_11 s := q_cond _ c13_8 c13_11 s (.tmp 28)
theorem r_n13_5 : n13_5 s = contK n13_7 (n13_6 s) := q_seq _ c13_6 c13_7 s
theorem r_n13_13 : n13_13 s = behK 12 (stepsO X (annT 13) C (gO c13_13) o13_13.1 s) := q_region (annT 13) s 4 _ false rfl _ _ rfl rfl o13_13.2
theorem g_o13_13 : gdst (gO c13_13) j = (o13_13.1[j]?).bind Oper.dst := gd_eq o13_13.2 j
theorem r_n13_14 : n13_14 s = some (.ret, s) := run_ret _ s
theorem r_n13_12 : n13_12 s = contK n13_14 (n13_13 s) := q_seq _ c13_13 c13_14 s
theorem r_n13_4 : n13_4 s = contK n13_12 (n13_5 s) := q_seq _ c13_5 c13_12 s
theorem r_n13_2 : n13_2 s = contK n13_4 (n13_3 s) := q_seq _ c13_3 c13_4 s
theorem r_n13_0 : n13_0 s = contK n13_2 (n13_1 s) := q_seq _ c13_1 c13_2 s
theorem va_13 : (annT 13).virt = [] := rfl
theorem wa_13 : (annT 13).wr = [] := rfl
theorem ya_13 : (annT 13).ty = [] := rfl
theorem cv_13 (call : Eng.Call) (wr : Bool) (args : List AV) (st : Store) : callV X call wr 13 args st = cvP call wr 13 args st (fzAll (fz false st 6) args) := cv_pure rfl rfl call wr args st
theorem p13 (ds : List D) : pureCall C 13 ds = ((n13_0 ⟨argsT 0 (ds.map .d), []⟩).bind (bodyR [.cell 2 27, .tmp 3])).bind prOf := P_eq Try.f13 rfl rfl rfl rfl ds
theorem q13 (vs : List AV) (st : Store) : C 13 vs st = (n13_0 ⟨argsT 0 vs, st⟩).bind (bodyR [.cell 2 27, .tmp 3]) := C_eq Try.f13 rfl rfl rfl rfl vs st
attribute [go_sem] r_n13_1 g_o13_1 o13_1 r_n13_3 g_o13_3 o13_3 r_n13_6 g_o13_6 o13_6 r_n13_9 g_o13_9 o13_9 r_n13_10 r_n13_8 r_n13_11 r_n13_7 r_n13_5 r_n13_13 g_o13_13 o13_13 r_n13_14 r_n13_12 r_n13_4 r_n13_2 r_n13_0 va_13 wa_13 ya_13 cv_13
noncomputable def c50_0 : Code := Try.f50.body.getD .skip
noncomputable def A50 := run (annT 50)
def n50_0 := A50 c50_0
def c50_1 := gL c50_0
def n50_1 := A50 c50_1
def o50_1 : OL c50_1 := ⟨_, by conv => (lhs; whnf)⟩
def c50_2 := gR c50_0
def n50_2 := A50 c50_2
def c50_3 := gL c50_2
def n50_3 := A50 c50_3
def o50_3 : OL c50_3 := ⟨_, by conv => (lhs; whnf)⟩
def c50_4 := gR c50_2
def n50_4 := A50 c50_4
def c50_5 := gL c50_4
def n50_5 := A50 c50_5
def c50_6 := gL c50_5
def n50_6 := A50 c50_6
def o50_6 : OL c50_6 := ⟨_, by conv => (lhs; whnf)⟩
def c50_7 := gR c50_5
def n50_7 := A50 c50_7
def c50_8 := gT c50_7
def n50_8 := A50 c50_8
def c50_9 := gL c50_8
def n50_9 := A50 c50_9
def o50_9 : OL c50_9 := ⟨_, by conv => (lhs; whnf)⟩
def c50_10 := gR c50_8
def n50_10 := A50 c50_10
def c50_11 := gF c50_7
def n50_11 := A50 c50_11
def c50_12 := gR c50_4
def n50_12 := A50 c50_12
def c50_13 := gL c50_12
def n50_13 := A50 c50_13
def o50_13 : OL c50_13 := ⟨_, by conv => (lhs; whnf)⟩
def c50_14 := gR c50_12
def n50_14 := A50 c50_14
def c50_15 := gL c50_14
def n50_15 := A50 c50_15
def o50_15 : OL c50_15 := ⟨_, by conv => (lhs; whnf)⟩
def c50_16 := gR c50_14
def n50_16 := A50 c50_16
def c50_17 := gL c50_16
def n50_17 := A50 c50_17
def o50_17 : OL c50_17 := ⟨_, by conv => (lhs; whnf)⟩
def c50_18 := gR c50_16
def n50_18 := A50 c50_18
def c50_19 := gL c50_18
def n50_19 := A50 c50_19
def c50_20 := gL c50_19
def n50_20 := A50 c50_20
def o50_20 : OL c50_20 := ⟨_, by conv => (lhs; whnf)⟩
def c50_21 := gR c50_19
def n50_21 := A50 c50_21
def c50_22 := gB c50_21
def n50_22 := A50 c50_22
def c50_23 := gB c50_22
def n50_23 := A50 c50_23
def c50_24 := gL c50_23
def n50_24 := A50 c50_24
def o50_24 : OL c50_24 := ⟨_, by conv => (lhs; whnf)⟩
def c50_25 := gR c50_23
def n50_25 := A50 c50_25
def c50_26 := gL c50_25
def n50_26 := A50 c50_26
def c50_27 := gT c50_26
def n50_27 := A50 c50_27
def c50_28 := gF c50_26
def n50_28 := A50 c50_28
def c50_29 := gR c50_25
def n50_29 := A50 c50_29
def c50_30 := gL c50_29
def n50_30 := A50 c50_30
def c50_31 := gB c50_30
def n50_31 := A50 c50_31
def c50_32 := gL c50_31
def n50_32 := A50 c50_32
def o50_32 : OL c50_32 := ⟨_, by conv => (lhs; whnf)⟩
def c50_33 := gR c50_31
def n50_33 := A50 c50_33
def c50_34 := gB c50_33
def n50_34 := A50 c50_34
def c50_35 := gL c50_34
def n50_35 := A50 c50_35
def o50_35 : OL c50_35 := ⟨_, by conv => (lhs; whnf)⟩
def c50_36 := gR c50_34
def n50_36 := A50 c50_36
def c50_37 := gT c50_36
def n50_37 := A50 c50_37
def o50_37 : OL c50_37 := ⟨_, by conv => (lhs; whnf)⟩
def c50_38 := gF c50_36
def n50_38 := A50 c50_38
def c50_39 := gL c50_38
def n50_39 := A50 c50_39
def o50_39 : OL c50_39 := ⟨_, by conv => (lhs; whnf)⟩
def c50_40 := gR c50_38
def n50_40 := A50 c50_40
def c50_41 := gT c50_40
def n50_41 := A50 c50_41
def o50_41 : OL c50_41 := ⟨_, by conv => (lhs; whnf)⟩
def c50_42 := gF c50_40
def n50_42 := A50 c50_42
def c50_43 := gL c50_42
def n50_43 := A50 c50_43
def o50_43 : OL c50_43 := ⟨_, by conv => (lhs; whnf)⟩
def c50_44 := gR c50_42
def n50_44 := A50 c50_44
def c50_45 := gT c50_44
def n50_45 := A50 c50_45
def o50_45 : OL c50_45 := ⟨_, by conv => (lhs; whnf)⟩
def c50_46 := gF c50_44
def n50_46 := A50 c50_46
def c50_47 := gL c50_46
def n50_47 := A50 c50_47
def o50_47 : OL c50_47 := ⟨_, by conv => (lhs; whnf)⟩
def c50_48 := gR c50_46
def n50_48 := A50 c50_48
def c50_49 := gR c50_29
def n50_49 := A50 c50_49
def o50_49 : OL c50_49 := ⟨_, by conv => (lhs; whnf)⟩
def c50_50 := gR c50_18
def n50_50 := A50 c50_50
def c50_51 := gL c50_50
def n50_51 := A50 c50_51
def o50_51 : OL c50_51 := ⟨_, by conv => (lhs; whnf)⟩
def c50_52 := gR c50_50
def n50_52 := A50 c50_52
theorem r_n50_1 : n50_1 s = behK 9 (stepsO X (annT 50) C (gO c50_1) o50_1.1 s) := q_region (annT 50) s 0 _ false rfl _ _ rfl rfl o50_1.2
theorem g_o50_1 : gdst (gO c50_1) j = (o50_1.1[j]?).bind Oper.dst := gd_eq o50_1.2 j
theorem r_n50_3 : n50_3 s = behK 33 (stepsO X (annT 50) C (gO c50_3) o50_3.1 s) := q_region (annT 50) s 1 _ false rfl _ _ rfl rfl o50_3.2
theorem g_o50_3 : gdst (gO c50_3) j = (o50_3.1[j]?).bind Oper.dst := gd_eq o50_3.2 j
theorem r_n50_6 : n50_6 s = behK 34359738401 (stepsO X (annT 50) C (gO c50_6) o50_6.1 s) := q_region (annT 50) s 2 _ false rfl _ _ rfl rfl o50_6.2
theorem g_o50_6 : gdst (gO c50_6) j = (o50_6.1[j]?).bind Oper.dst := gd_eq o50_6.2 j
theorem r_n50_9 : n50_9 s = behK 16 (stepsO X (annT 50) C (gO c50_9) o50_9.1 s) := q_region (annT 50) s 3 _ false rfl _ _ rfl rfl o50_9.2
theorem g_o50_9 : gdst (gO c50_9) j = (o50_9.1[j]?).bind Oper.dst := gd_eq o50_9.2 j
theorem r_n50_10 : n50_10 s = some (.ret, s) := run_ret _ s
theorem r_n50_8 : n50_8 s = contK n50_10 (n50_9 s) := q_seq _ c50_9 c50_10 s
theorem r_n50_11 : n50_11 s = some (.norm, s) := run_skip _ s
theorem r_n50_7 : n50_7 s = condK (opv s.t (.tmp 35)) n50_8 n50_11 s := q_cond _ c50_8 c50_11 s (.tmp 35)
theorem r_n50_5 : n50_5 s = contK n50_7 (n50_6 s) := q_seq _ c50_6 c50_7 s
theorem r_n50_13 : n50_13 s = behK 225 (stepsO X (annT 50) C (gO c50_13) o50_13.1 s) := q_region (annT 50) s 4 _ false rfl _ _ rfl rfl o50_13.2
theorem g_o50_13 : gdst (gO c50_13) j = (o50_13.1[j]?).bind Oper.dst := gd_eq o50_13.2 j
theorem r_n50_15 : n50_15 s = behK 161 (stepsO X (annT 50) C (gO c50_15) o50_15.1 s) := q_region (annT 50) s 5 _ false rfl _ _ rfl rfl o50_15.2
theorem g_o50_15 : gdst (gO c50_15) j = (o50_15.1[j]?).bind Oper.dst := gd_eq o50_15.2 j
theorem r_n50_17 : n50_17 s = behK 385 (stepsO X (annT 50) C (gO c50_17) o50_17.1 s) := q_region (annT 50) s 6 _ false rfl _ _ rfl rfl o50_17.2
theorem g_o50_17 : gdst (gO c50_17) j = (o50_17.1[j]?).bind Oper.dst := gd_eq o50_17.2 j
theorem r_n50_20 : n50_20 s = behK 15762598695797121 (stepsO X (annT 50) C (gO c50_20) o50_20.1 s) := q_region (annT 50) s 7 _ false rfl _ _ rfl rfl o50_20.2
theorem g_o50_20 : gdst (gO c50_20) j = (o50_20.1[j]?).bind Oper.dst := gd_eq o50_20.2 j
theorem r_n50_24 : n50_24 s = behK 33776997205279105 (stepsO X (annT 50) C (gO c50_24) o50_24.1 s) := q_region (annT 50) s 8 _ false rfl _ _ rfl rfl o50_24.2
theorem g_o50_24 : gdst (gO c50_24) j = (o50_24.1[j]?).bind Oper.dst := gd_eq o50_24.2 j
theorem r_n50_27 : n50_27 s = some (.norm, s) := run_skip _ s
theorem r_n50_28 : n50_28 s = some (.exit 0, s) := run_exit _ s 0
theorem r_n50_26 : n50_26 s = condK (opv s.t (.tmp 54)) n50_27 n50_28 s := q_cond _ c50_27 c50_28 s (.tmp 54)
theorem r_n50_32 : n50_32 s = behK 15762598695798657 (stepsO X (annT 50) C (gO c50_32) o50_32.1 s) := q_region (annT 50) s 9 _ false rfl _ _ rfl rfl o50_32.2
theorem g_o50_32 : gdst (gO c50_32) j = (o50_32.1[j]?).bind Oper.dst := gd_eq o50_32.2 j
theorem r_n50_35 : n50_35 s = behK 303992974847510401 (stepsO X (annT 50) C (gO c50_35) o50_35.1 s) := q_region (annT 50) s 11 _ false rfl _ _ rfl rfl o50_35.2
theorem g_o50_35 : gdst (gO c50_35) j = (o50_35.1[j]?).bind Oper.dst := gd_eq o50_35.2 j
theorem r_n50_37 : n50_37 s = behK 15762598695797121 (stepsO X (annT 50) C (gO c50_37) o50_37.1 s) := q_region (annT 50) s 12 _ false rfl _ _ rfl rfl o50_37.2
theorem g_o50_37 : gdst (gO c50_37) j = (o50_37.1[j]?).bind Oper.dst := gd_eq o50_37.2 j
theorem r_n50_39 : n50_39 s = behK 37778947625555857508225 (stepsO X (annT 50) C (gO c50_39) o50_39.1 s) := q_region (annT 50) s 13 _ false rfl _ _ rfl rfl o50_39.2
theorem g_o50_39 : gdst (gO c50_39) j = (o50_39.1[j]?).bind Oper.dst := gd_eq o50_39.2 j
theorem r_n50_41 : n50_41 s = behK 15762598695797121 (stepsO X (annT 50) C (gO c50_41) o50_41.1 s) := q_region (annT 50) s 14 _ true rfl _ _ rfl rfl o50_41.2
theorem g_o50_41 : gdst (gO c50_41) j = (o50_41.1[j]?).bind Oper.dst := gd_eq o50_41.2 j
theorem r_n50_43 : n50_43 s = behK 2475880078586523148494046593 (stepsO X (annT 50) C (gO c50_43) o50_43.1 s) := q_region (annT 50) s 15 _ false rfl _ _ rfl rfl o50_43.2
theorem g_o50_43 : gdst (gO c50_43) j = (o50_43.1[j]?).bind Oper.dst := gd_eq o50_43.2 j
theorem r_n50_45 : n50_45 s = behK 15762598695797121 (stepsO X (annT 50) C (gO c50_45) o50_45.1 s) := q_region (annT 50) s 16 _ false rfl _ _ rfl rfl o50_45.2
theorem g_o50_45 : gdst (gO c50_45) j = (o50_45.1[j]?).bind Oper.dst := gd_eq o50_45.2 j
theorem r_n50_47 : n50_47 s = behK 16 (stepsO X (annT 50) C (gO c50_47) o50_47.1 s) := q_region (annT 50) s 10 _ false rfl _ _ rfl rfl o50_47.2
theorem g_o50_47 : gdst (gO c50_47) j = (o50_47.1[j]?).bind Oper.dst := gd_eq o50_47.2 j
theorem r_n50_48 : n50_48 s = some (.ret, s) := run_ret _ s
theorem r_n50_46 : n50_46 s = contK n50_48 (n50_47 s) := q_seq _ c50_47 c50_48 s
theorem r_n50_44 : n50_44 s = condK (opv s.t (.tmp 91)) n50_45 n50_46 s := q_cond _ c50_45 c50_46 s (.tmp 91)
theorem r_n50_42 : n50_42 s = contK n50_44 (n50_43 s) := q_seq _ c50_43 c50_44 s
theorem r_n50_40 : n50_40 s = condK (opv s.t (.tmp 75)) n50_41 n50_42 s := q_cond _ c50_41 c50_42 s (.tmp 75)
theorem r_n50_38 : n50_38 s = contK n50_40 (n50_39 s) := q_seq _ c50_39 c50_40 s
theorem r_n50_36 : n50_36 s = condK (opv s.t (.tmp 58)) n50_37 n50_38 s := q_cond _ c50_37 c50_38 s (.tmp 58)
theorem r_n50_34 : n50_34 s = contK n50_36 (n50_35 s) := q_seq _ c50_35 c50_36 s
theorem r_n50_33 : n50_33 s = blkK 2 (n50_34 s) := q_block _ c50_34 s 2
theorem r_n50_31 : n50_31 s = contK n50_33 (n50_32 s) := q_seq _ c50_32 c50_33 s
theorem r_n50_30 : n50_30 s = blkK 1 (n50_31 s) := q_block _ c50_31 s 1
theorem r_n50_49 : n50_49 s = behK 15762598695797121 (stepsO X (annT 50) C (gO c50_49) o50_49.1 s) := q_region (annT 50) s 17 _ false rfl _ _ rfl rfl o50_49.2
theorem g_o50_49 : gdst (gO c50_49) j = (o50_49.1[j]?).bind Oper.dst := gd_eq o50_49.2 j
theorem r_n50_29 : n50_29 s = contK n50_49 (n50_30 s) := q_seq _ c50_30 c50_49 s
theorem r_n50_25 : n50_25 s = contK n50_29 (n50_26 s) := q_seq _ c50_26 c50_29 s
theorem r_n50_23 : n50_23 s = contK n50_25 (n50_24 s) := q_seq _ c50_24 c50_25 s
theorem r_n50_22 : n50_22 s = loopK 15762598695797121 s.st.length n50_22 (n50_23 s) := q_loop (annT 50) c50_23 s _ _ rfl rfl
theorem r_n50_21 : n50_21 s = blkK 0 (n50_22 s) := q_block _ c50_22 s 0
theorem r_n50_19 : n50_19 s = contK n50_21 (n50_20 s) := q_seq _ c50_20 c50_21 s
theorem r_n50_51 : n50_51 s = behK 16 (stepsO X (annT 50) C (gO c50_51) o50_51.1 s) := q_region (annT 50) s 18 _ false rfl _ _ rfl rfl o50_51.2
theorem g_o50_51 : gdst (gO c50_51) j = (o50_51.1[j]?).bind Oper.dst := gd_eq o50_51.2 j
theorem r_n50_52 : n50_52 s = some (.ret, s) := run_ret _ s
theorem r_n50_50 : n50_50 s = contK n50_52 (n50_51 s) := q_seq _ c50_51 c50_52 s
theorem r_n50_18 : n50_18 s = contK n50_50 (n50_19 s) := q_seq _ c50_19 c50_50 s
theorem r_n50_16 : n50_16 s = contK n50_18 (n50_17 s) := q_seq _ c50_17 c50_18 s
theorem r_n50_14 : n50_14 s = contK n50_16 (n50_15 s) := q_seq _ c50_15 c50_16 s
theorem r_n50_12 : n50_12 s = contK n50_14 (n50_13 s) := q_seq _ c50_13 c50_14 s
theorem r_n50_4 : n50_4 s = contK n50_12 (n50_5 s) := q_seq _ c50_5 c50_12 s
theorem r_n50_2 : n50_2 s = contK n50_4 (n50_3 s) := q_seq _ c50_3 c50_4 s
theorem r_n50_0 : n50_0 s = contK n50_2 (n50_1 s) := q_seq _ c50_1 c50_2 s
theorem va_50 : (annT 50).virt = [] := rfl
theorem wa_50 : (annT 50).wr = [] := rfl
theorem ya_50 : (annT 50).ty = [] := rfl
theorem cv_50 (call : Eng.Call) (wr : Bool) (args : List AV) (st : Store) : callV X call wr 50 args st = (call 50 args st).map (trimR st.length) := cv_imp rfl rfl call wr args st
theorem p50 (ds : List D) : pureCall C 50 ds = ((n50_0 ⟨argsT 0 (ds.map .d), []⟩).bind (bodyR [.tmp 4])).bind prOf := P_eq Try.f50 rfl rfl rfl rfl ds
theorem q50 (vs : List AV) (st : Store) : C 50 vs st = (n50_0 ⟨argsT 0 vs, st⟩).bind (bodyR [.tmp 4]) := C_eq Try.f50 rfl rfl rfl rfl vs st
attribute [go_sem] r_n50_1 g_o50_1 o50_1 r_n50_3 g_o50_3 o50_3 r_n50_6 g_o50_6 o50_6 r_n50_9 g_o50_9 o50_9 r_n50_10 r_n50_8 r_n50_11 r_n50_7 r_n50_5 r_n50_13 g_o50_13 o50_13 r_n50_15 g_o50_15 o50_15 r_n50_17 g_o50_17 o50_17 r_n50_20 g_o50_20 o50_20 r_n50_24 g_o50_24 o50_24 r_n50_27 r_n50_28 r_n50_26 r_n50_32 g_o50_32 o50_32 r_n50_35 g_o50_35 o50_35 r_n50_37 g_o50_37 o50_37 r_n50_39 g_o50_39 o50_39 r_n50_41 g_o50_41 o50_41 r_n50_43 g_o50_43 o50_43 r_n50_45 g_o50_45 o50_45 r_n50_47 g_o50_47 o50_47 r_n50_48 r_n50_46 r_n50_44 r_n50_42 r_n50_40 r_n50_38 r_n50_36 r_n50_34 r_n50_33 r_n50_31 r_n50_30 r_n50_49 g_o50_49 o50_49 r_n50_29 r_n50_25 r_n50_23 r_n50_21 r_n50_19 r_n50_51 g_o50_51 o50_51 r_n50_52 r_n50_50 r_n50_18 r_n50_16 r_n50_14 r_n50_12 r_n50_4 r_n50_2 r_n50_0 va_50 wa_50 ya_50 cv_50
noncomputable def c51_0 : Code := Try.f51.body.getD .skip
noncomputable def A51 := run (annT 51)
def n51_0 := A51 c51_0
def c51_1 := gL c51_0
def n51_1 := A51 c51_1
def o51_1 : OL c51_1 := ⟨_, by conv => (lhs; whnf)⟩
def c51_2 := gR c51_0
def n51_2 := A51 c51_2
def c51_3 := gL c51_2
def n51_3 := A51 c51_3
def o51_3 : OL c51_3 := ⟨_, by conv => (lhs; whnf)⟩
def c51_4 := gR c51_2
def n51_4 := A51 c51_4
def c51_5 := gL c51_4
def n51_5 := A51 c51_5
def o51_5 : OL c51_5 := ⟨_, by conv => (lhs; whnf)⟩
def c51_6 := gR c51_4
def n51_6 := A51 c51_6
def c51_7 := gL c51_6
def n51_7 := A51 c51_7
def c51_8 := gL c51_7
def n51_8 := A51 c51_8
def o51_8 : OL c51_8 := ⟨_, by conv => (lhs; whnf)⟩
def c51_9 := gR c51_7
def n51_9 := A51 c51_9
def c51_10 := gB c51_9
def n51_10 := A51 c51_10
def c51_11 := gB c51_10
def n51_11 := A51 c51_11
def c51_12 := gL c51_11
def n51_12 := A51 c51_12
def o51_12 : OL c51_12 := ⟨_, by conv => (lhs; whnf)⟩
def c51_13 := gR c51_11
def n51_13 := A51 c51_13
def c51_14 := gL c51_13
def n51_14 := A51 c51_14
def c51_15 := gT c51_14
def n51_15 := A51 c51_15
def c51_16 := gF c51_14
def n51_16 := A51 c51_16
def c51_17 := gR c51_13
def n51_17 := A51 c51_17
def c51_18 := gL c51_17
def n51_18 := A51 c51_18
def c51_19 := gB c51_18
def n51_19 := A51 c51_19
def c51_20 := gL c51_19
def n51_20 := A51 c51_20
def o51_20 : OL c51_20 := ⟨_, by conv => (lhs; whnf)⟩
def c51_21 := gR c51_19
def n51_21 := A51 c51_21
def c51_22 := gL c51_21
def n51_22 := A51 c51_22
def c51_23 := gL c51_22
def n51_23 := A51 c51_23
def o51_23 : OL c51_23 := ⟨_, by conv => (lhs; whnf)⟩
def c51_24 := gR c51_22
def n51_24 := A51 c51_24
def c51_25 := gT c51_24
def n51_25 := A51 c51_25
def c51_26 := gL c51_25
def n51_26 := A51 c51_26
def o51_26 : OL c51_26 := ⟨_, by conv => (lhs; whnf)⟩
def c51_27 := gR c51_25
def n51_27 := A51 c51_27
def c51_28 := gF c51_24
def n51_28 := A51 c51_28
def c51_29 := gR c51_21
def n51_29 := A51 c51_29
def c51_30 := gL c51_29
def n51_30 := A51 c51_30
def o51_30 : OL c51_30 := ⟨_, by conv => (lhs; whnf)⟩
def c51_31 := gR c51_29
def n51_31 := A51 c51_31
def c51_32 := gL c51_31
def n51_32 := A51 c51_32
def o51_32 : OL c51_32 := ⟨_, by conv => (lhs; whnf)⟩
def c51_33 := gR c51_31
def n51_33 := A51 c51_33
def c51_34 := gB c51_33
def n51_34 := A51 c51_34
def c51_35 := gL c51_34
def n51_35 := A51 c51_35
def o51_35 : OL c51_35 := ⟨_, by conv => (lhs; whnf)⟩
def c51_36 := gR c51_34
def n51_36 := A51 c51_36
def c51_37 := gT c51_36
def n51_37 := A51 c51_37
def c51_38 := gL c51_37
def n51_38 := A51 c51_38
def o51_38 : OL c51_38 := ⟨_, by conv => (lhs; whnf)⟩
def c51_39 := gR c51_37
def n51_39 := A51 c51_39
def c51_40 := gL c51_39
def n51_40 := A51 c51_40
def o51_40 : OL c51_40 := ⟨_, by conv => (lhs; whnf)⟩
def c51_41 := gR c51_39
def n51_41 := A51 c51_41
def c51_42 := gT c51_41
def n51_42 := A51 c51_42
def c51_43 := gL c51_42
def n51_43 := A51 c51_43
def o51_43 : OL c51_43 := ⟨_, by conv => (lhs; whnf)⟩
def c51_44 := gR c51_42
def n51_44 := A51 c51_44
def c51_45 := gF c51_41
def n51_45 := A51 c51_45
def c51_46 := gF c51_36
def n51_46 := A51 c51_46
def c51_47 := gL c51_46
def n51_47 := A51 c51_47
def o51_47 : OL c51_47 := ⟨_, by conv => (lhs; whnf)⟩
def c51_48 := gR c51_46
def n51_48 := A51 c51_48
def c51_49 := gT c51_48
def n51_49 := A51 c51_49
def c51_50 := gL c51_49
def n51_50 := A51 c51_50
def o51_50 : OL c51_50 := ⟨_, by conv => (lhs; whnf)⟩
def c51_51 := gR c51_49
def n51_51 := A51 c51_51
def c51_52 := gL c51_51
def n51_52 := A51 c51_52
def o51_52 : OL c51_52 := ⟨_, by conv => (lhs; whnf)⟩
def c51_53 := gR c51_51
def n51_53 := A51 c51_53
def c51_54 := gT c51_53
def n51_54 := A51 c51_54
def c51_55 := gL c51_54
def n51_55 := A51 c51_55
def o51_55 : OL c51_55 := ⟨_, by conv => (lhs; whnf)⟩
def c51_56 := gR c51_54
def n51_56 := A51 c51_56
def c51_57 := gF c51_53
def n51_57 := A51 c51_57
def c51_58 := gF c51_48
def n51_58 := A51 c51_58
def c51_59 := gL c51_58
def n51_59 := A51 c51_59
def o51_59 : OL c51_59 := ⟨_, by conv => (lhs; whnf)⟩
def c51_60 := gR c51_58
def n51_60 := A51 c51_60
def c51_61 := gT c51_60
def n51_61 := A51 c51_61
def o51_61 : OL c51_61 := ⟨_, by conv => (lhs; whnf)⟩
def c51_62 := gF c51_60
def n51_62 := A51 c51_62
def c51_63 := gL c51_62
def n51_63 := A51 c51_63
def o51_63 : OL c51_63 := ⟨_, by conv => (lhs; whnf)⟩
def c51_64 := gR c51_62
def n51_64 := A51 c51_64
def c51_65 := gL c51_64
def n51_65 := A51 c51_65
def c51_66 := gL c51_65
def n51_66 := A51 c51_66
def o51_66 : OL c51_66 := ⟨_, by conv => (lhs; whnf)⟩
def c51_67 := gR c51_65
def n51_67 := A51 c51_67
def c51_68 := gT c51_67
def n51_68 := A51 c51_68
def c51_69 := gL c51_68
def n51_69 := A51 c51_69
def o51_69 : OL c51_69 := ⟨_, by conv => (lhs; whnf)⟩
def c51_70 := gR c51_68
def n51_70 := A51 c51_70
def c51_71 := gF c51_67
def n51_71 := A51 c51_71
def c51_72 := gR c51_64
def n51_72 := A51 c51_72
def o51_72 : OL c51_72 := ⟨_, by conv => (lhs; whnf)⟩
def c51_73 := gR c51_17
def n51_73 := A51 c51_73
def o51_73 : OL c51_73 := ⟨_, by conv => (lhs; whnf)⟩
def c51_74 := gR c51_6
def n51_74 := A51 c51_74
def c51_75 := gL c51_74
def n51_75 := A51 c51_75
def o51_75 : OL c51_75 := ⟨_, by conv => (lhs; whnf)⟩
def c51_76 := gR c51_74
def n51_76 := A51 c51_76
theorem r_n51_1 : n51_1 s = behK 9 (stepsO X (annT 51) C (gO c51_1) o51_1.1 s) := q_region (annT 51) s 0 _ false rfl _ _ rfl rfl o51_1.2
theorem g_o51_1 : gdst (gO c51_1) j = (o51_1.1[j]?).bind Oper.dst := gd_eq o51_1.2 j
theorem r_n51_3 : n51_3 s = behK 41 (stepsO X (annT 51) C (gO c51_3) o51_3.1 s) := q_region (annT 51) s 1 _ false rfl _ _ rfl rfl o51_3.2
theorem g_o51_3 : gdst (gO c51_3) j = (o51_3.1[j]?).bind Oper.dst := gd_eq o51_3.2 j
theorem r_n51_5 : n51_5 s = behK 105 (stepsO X (annT 51) C (gO c51_5) o51_5.1 s) := q_region (annT 51) s 2 _ false rfl _ _ rfl rfl o51_5.2
theorem g_o51_5 : gdst (gO c51_5) j = (o51_5.1[j]?).bind Oper.dst := gd_eq o51_5.2 j
theorem r_n51_8 : n51_8 s = behK 28769 (stepsO X (annT 51) C (gO c51_8) o51_8.1 s) := q_region (annT 51) s 3 _ false rfl _ _ rfl rfl o51_8.2
theorem g_o51_8 : gdst (gO c51_8) j = (o51_8.1[j]?).bind Oper.dst := gd_eq o51_8.2 j
theorem r_n51_12 : n51_12 s = behK 61537 (stepsO X (annT 51) C (gO c51_12) o51_12.1 s) := q_region (annT 51) s 4 _ false rfl _ _ rfl rfl o51_12.2
theorem g_o51_12 : gdst (gO c51_12) j = (o51_12.1[j]?).bind Oper.dst := gd_eq o51_12.2 j
theorem r_n51_15 : n51_15 s = some (.norm, s) := run_skip _ s
theorem r_n51_16 : n51_16 s = some (.exit 0, s) := run_exit _ s 0
theorem r_n51_14 : n51_14 s = condK (opv s.t (.tmp 15)) n51_15 n51_16 s := q_cond _ c51_15 c51_16 s (.tmp 15)
theorem r_n51_20 : n51_20 s = behK 29025 (stepsO X (annT 51) C (gO c51_20) o51_20.1 s) := q_region (annT 51) s 5 _ false rfl _ _ rfl rfl o51_20.2
theorem g_o51_20 : gdst (gO c51_20) j = (o51_20.1[j]?).bind Oper.dst := gd_eq o51_20.2 j
theorem r_n51_23 : n51_23 s = behK 68719505729 (stepsO X (annT 51) C (gO c51_23) o51_23.1 s) := q_region (annT 51) s 6 _ false rfl _ _ rfl rfl o51_23.2
theorem g_o51_23 : gdst (gO c51_23) j = (o51_23.1[j]?).bind Oper.dst := gd_eq o51_23.2 j
theorem r_n51_26 : n51_26 s = behK 16 (stepsO X (annT 51) C (gO c51_26) o51_26.1 s) := q_region (annT 51) s 7 _ false rfl _ _ rfl rfl o51_26.2
theorem g_o51_26 : gdst (gO c51_26) j = (o51_26.1[j]?).bind Oper.dst := gd_eq o51_26.2 j
theorem r_n51_27 : n51_27 s = some (.ret, s) := run_ret _ s
theorem r_n51_25 : n51_25 s = contK n51_27 (n51_26 s) := q_seq _ c51_26 c51_27 s
theorem r_n51_28 : n51_28 s = some (.norm, s) := run_skip _ s
theorem r_n51_24 : n51_24 s = condK (opv s.t (.tmp 36)) n51_25 n51_28 s := q_cond _ c51_25 c51_28 s (.tmp 36)
theorem r_n51_22 : n51_22 s = contK n51_24 (n51_23 s) := q_seq _ c51_23 c51_24 s
theorem r_n51_30 : n51_30 s = behK 29025 (stepsO X (annT 51) C (gO c51_30) o51_30.1 s) := q_region (annT 51) s 8 _ false rfl _ _ rfl rfl o51_30.2
theorem g_o51_30 : gdst (gO c51_30) j = (o51_30.1[j]?).bind Oper.dst := gd_eq o51_30.2 j
theorem r_n51_32 : n51_32 s = behK 1099511656801 (stepsO X (annT 51) C (gO c51_32) o51_32.1 s) := q_region (annT 51) s 9 _ false rfl _ _ rfl rfl o51_32.2
theorem g_o51_32 : gdst (gO c51_32) j = (o51_32.1[j]?).bind Oper.dst := gd_eq o51_32.2 j
theorem r_n51_35 : n51_35 s = behK 144116287587512673 (stepsO X (annT 51) C (gO c51_35) o51_35.1 s) := q_region (annT 51) s 14 _ false rfl _ _ rfl rfl o51_35.2
theorem g_o51_35 : gdst (gO c51_35) j = (o51_35.1[j]?).bind Oper.dst := gd_eq o51_35.2 j
theorem r_n51_38 : n51_38 s = behK 28769 (stepsO X (annT 51) C (gO c51_38) o51_38.1 s) := q_region (annT 51) s 15 _ false rfl _ _ rfl rfl o51_38.2
theorem g_o51_38 : gdst (gO c51_38) j = (o51_38.1[j]?).bind Oper.dst := gd_eq o51_38.2 j
theorem r_n51_40 : n51_40 s = behK 590295810358705680481 (stepsO X (annT 51) C (gO c51_40) o51_40.1 s) := q_region (annT 51) s 16 _ false rfl _ _ rfl rfl o51_40.2
theorem g_o51_40 : gdst (gO c51_40) j = (o51_40.1[j]?).bind Oper.dst := gd_eq o51_40.2 j
theorem r_n51_43 : n51_43 s = behK 16 (stepsO X (annT 51) C (gO c51_43) o51_43.1 s) := q_region (annT 51) s 17 _ false rfl _ _ rfl rfl o51_43.2
theorem g_o51_43 : gdst (gO c51_43) j = (o51_43.1[j]?).bind Oper.dst := gd_eq o51_43.2 j
theorem r_n51_44 : n51_44 s = some (.ret, s) := run_ret _ s
theorem r_n51_42 : n51_42 s = contK n51_44 (n51_43 s) := q_seq _ c51_43 c51_44 s
theorem r_n51_45 : n51_45 s = some (.norm, s) := run_skip _ s
theorem r_n51_41 : n51_41 s = condK (opv s.t (.tmp 69)) n51_42 n51_45 s := q_cond _ c51_42 c51_45 s (.tmp 69)
theorem r_n51_39 : n51_39 s = contK n51_41 (n51_40 s) := q_seq _ c51_40 c51_41 s
theorem r_n51_37 : n51_37 s = contK n51_39 (n51_38 s) := q_seq _ c51_38 c51_39 s
theorem r_n51_47 : n51_47 s = behK 1180591621816922960225 (stepsO X (annT 51) C (gO c51_47) o51_47.1 s) := q_region (annT 51) s 18 _ false rfl _ _ rfl rfl o51_47.2
theorem g_o51_47 : gdst (gO c51_47) j = (o51_47.1[j]?).bind Oper.dst := gd_eq o51_47.2 j
theorem r_n51_50 : n51_50 s = behK 28769 (stepsO X (annT 51) C (gO c51_50) o51_50.1 s) := q_region (annT 51) s 19 _ false rfl _ _ rfl rfl o51_50.2
theorem g_o51_50 : gdst (gO c51_50) j = (o51_50.1[j]?).bind Oper.dst := gd_eq o51_50.2 j
theorem r_n51_52 : n51_52 s = behK 4835703278458516698853473 (stepsO X (annT 51) C (gO c51_52) o51_52.1 s) := q_region (annT 51) s 20 _ false rfl _ _ rfl rfl o51_52.2
theorem g_o51_52 : gdst (gO c51_52) j = (o51_52.1[j]?).bind Oper.dst := gd_eq o51_52.2 j
theorem r_n51_55 : n51_55 s = behK 16 (stepsO X (annT 51) C (gO c51_55) o51_55.1 s) := q_region (annT 51) s 21 _ false rfl _ _ rfl rfl o51_55.2
theorem g_o51_55 : gdst (gO c51_55) j = (o51_55.1[j]?).bind Oper.dst := gd_eq o51_55.2 j
theorem r_n51_56 : n51_56 s = some (.ret, s) := run_ret _ s
theorem r_n51_54 : n51_54 s = contK n51_56 (n51_55 s) := q_seq _ c51_55 c51_56 s
theorem r_n51_57 : n51_57 s = some (.norm, s) := run_skip _ s
theorem r_n51_53 : n51_53 s = condK (opv s.t (.tmp 82)) n51_54 n51_57 s := q_cond _ c51_54 c51_57 s (.tmp 82)
theorem r_n51_51 : n51_51 s = contK n51_53 (n51_52 s) := q_seq _ c51_52 c51_53 s
theorem r_n51_49 : n51_49 s = contK n51_51 (n51_50 s) := q_seq _ c51_50 c51_51 s
theorem r_n51_59 : n51_59 s = behK 9671406556917033397678433 (stepsO X (annT 51) C (gO c51_59) o51_59.1 s) := q_region (annT 51) s 22 _ false rfl _ _ rfl rfl o51_59.2
theorem g_o51_59 : gdst (gO c51_59) j = (o51_59.1[j]?).bind Oper.dst := gd_eq o51_59.2 j
theorem r_n51_61 : n51_61 s = behK 28769 (stepsO X (annT 51) C (gO c51_61) o51_61.1 s) := q_region (annT 51) s 23 _ false rfl _ _ rfl rfl o51_61.2
theorem g_o51_61 : gdst (gO c51_61) j = (o51_61.1[j]?).bind Oper.dst := gd_eq o51_61.2 j
theorem r_n51_63 : n51_63 s = behK 30561 (stepsO X (annT 51) C (gO c51_63) o51_63.1 s) := q_region (annT 51) s 10 _ false rfl _ _ rfl rfl o51_63.2
theorem g_o51_63 : gdst (gO c51_63) j = (o51_63.1[j]?).bind Oper.dst := gd_eq o51_63.2 j
theorem r_n51_66 : n51_66 s = behK 4503599627399777 (stepsO X (annT 51) C (gO c51_66) o51_66.1 s) := q_region (annT 51) s 11 _ false rfl _ _ rfl rfl o51_66.2
theorem g_o51_66 : gdst (gO c51_66) j = (o51_66.1[j]?).bind Oper.dst := gd_eq o51_66.2 j
theorem r_n51_69 : n51_69 s = behK 16 (stepsO X (annT 51) C (gO c51_69) o51_69.1 s) := q_region (annT 51) s 12 _ false rfl _ _ rfl rfl o51_69.2
theorem g_o51_69 : gdst (gO c51_69) j = (o51_69.1[j]?).bind Oper.dst := gd_eq o51_69.2 j
theorem r_n51_70 : n51_70 s = some (.ret, s) := run_ret _ s
theorem r_n51_68 : n51_68 s = contK n51_70 (n51_69 s) := q_seq _ c51_69 c51_70 s
theorem r_n51_71 : n51_71 s = some (.norm, s) := run_skip _ s
theorem r_n51_67 : n51_67 s = condK (opv s.t (.tmp 52)) n51_68 n51_71 s := q_cond _ c51_68 c51_71 s (.tmp 52)
theorem r_n51_65 : n51_65 s = contK n51_67 (n51_66 s) := q_seq _ c51_66 c51_67 s
theorem r_n51_72 : n51_72 s = behK 28769 (stepsO X (annT 51) C (gO c51_72) o51_72.1 s) := q_region (annT 51) s 13 _ false rfl _ _ rfl rfl o51_72.2
theorem g_o51_72 : gdst (gO c51_72) j = (o51_72.1[j]?).bind Oper.dst := gd_eq o51_72.2 j
theorem r_n51_64 : n51_64 s = contK n51_72 (n51_65 s) := q_seq _ c51_65 c51_72 s
theorem r_n51_62 : n51_62 s = contK n51_64 (n51_63 s) := q_seq _ c51_63 c51_64 s
theorem r_n51_60 : n51_60 s = condK (opv s.t (.tmp 83)) n51_61 n51_62 s := q_cond _ c51_61 c51_62 s (.tmp 83)
theorem r_n51_58 : n51_58 s = contK n51_60 (n51_59 s) := q_seq _ c51_59 c51_60 s
theorem r_n51_48 : n51_48 s = condK (opv s.t (.tmp 70)) n51_49 n51_58 s := q_cond _ c51_49 c51_58 s (.tmp 70)
theorem r_n51_46 : n51_46 s = contK n51_48 (n51_47 s) := q_seq _ c51_47 c51_48 s
theorem r_n51_36 : n51_36 s = condK (opv s.t (.tmp 57)) n51_37 n51_46 s := q_cond _ c51_37 c51_46 s (.tmp 57)
theorem r_n51_34 : n51_34 s = contK n51_36 (n51_35 s) := q_seq _ c51_35 c51_36 s
theorem r_n51_33 : n51_33 s = blkK 2 (n51_34 s) := q_block _ c51_34 s 2
theorem r_n51_31 : n51_31 s = contK n51_33 (n51_32 s) := q_seq _ c51_32 c51_33 s
theorem r_n51_29 : n51_29 s = contK n51_31 (n51_30 s) := q_seq _ c51_30 c51_31 s
theorem r_n51_21 : n51_21 s = contK n51_29 (n51_22 s) := q_seq _ c51_22 c51_29 s
theorem r_n51_19 : n51_19 s = contK n51_21 (n51_20 s) := q_seq _ c51_20 c51_21 s
theorem r_n51_18 : n51_18 s = blkK 1 (n51_19 s) := q_block _ c51_19 s 1
theorem r_n51_73 : n51_73 s = behK 28769 (stepsO X (annT 51) C (gO c51_73) o51_73.1 s) := q_region (annT 51) s 24 _ false rfl _ _ rfl rfl o51_73.2
theorem g_o51_73 : gdst (gO c51_73) j = (o51_73.1[j]?).bind Oper.dst := gd_eq o51_73.2 j
theorem r_n51_17 : n51_17 s = contK n51_73 (n51_18 s) := q_seq _ c51_18 c51_73 s
theorem r_n51_13 : n51_13 s = contK n51_17 (n51_14 s) := q_seq _ c51_14 c51_17 s
theorem r_n51_11 : n51_11 s = contK n51_13 (n51_12 s) := q_seq _ c51_12 c51_13 s
theorem r_n51_10 : n51_10 s = loopK 28769 s.st.length n51_10 (n51_11 s) := q_loop (annT 51) c51_11 s _ _ rfl rfl
theorem r_n51_9 : n51_9 s = blkK 0 (n51_10 s) := q_block _ c51_10 s 0
theorem r_n51_7 : n51_7 s = contK n51_9 (n51_8 s) := q_seq _ c51_8 c51_9 s
theorem r_n51_75 : n51_75 s = behK 16 (stepsO X (annT 51) C (gO c51_75) o51_75.1 s) := q_region (annT 51) s 25 _ false rfl _ _ rfl rfl o51_75.2
theorem g_o51_75 : gdst (gO c51_75) j = (o51_75.1[j]?).bind Oper.dst := gd_eq o51_75.2 j
theorem r_n51_76 : n51_76 s = some (.ret, s) := run_ret _ s
theorem r_n51_74 : n51_74 s = contK n51_76 (n51_75 s) := q_seq _ c51_75 c51_76 s
theorem r_n51_6 : n51_6 s = contK n51_74 (n51_7 s) := q_seq _ c51_7 c51_74 s
theorem r_n51_4 : n51_4 s = contK n51_6 (n51_5 s) := q_seq _ c51_5 c51_6 s
theorem r_n51_2 : n51_2 s = contK n51_4 (n51_3 s) := q_seq _ c51_3 c51_4 s
theorem r_n51_0 : n51_0 s = contK n51_2 (n51_1 s) := q_seq _ c51_1 c51_2 s
theorem va_51 : (annT 51).virt = [] := rfl
theorem wa_51 : (annT 51).wr = [] := rfl
theorem ya_51 : (annT 51).ty = [] := rfl
theorem cv_51 (call : Eng.Call) (wr : Bool) (args : List AV) (st : Store) : callV X call wr 51 args st = (call 51 args st).map (trimR st.length) := cv_imp rfl rfl call wr args st
theorem p51 (ds : List D) : pureCall C 51 ds = ((n51_0 ⟨argsT 0 (ds.map .d), []⟩).bind (bodyR [.tmp 4])).bind prOf := P_eq Try.f51 rfl rfl rfl rfl ds
theorem q51 (vs : List AV) (st : Store) : C 51 vs st = (n51_0 ⟨argsT 0 vs, st⟩).bind (bodyR [.tmp 4]) := C_eq Try.f51 rfl rfl rfl rfl vs st
attribute [go_sem] r_n51_1 g_o51_1 o51_1 r_n51_3 g_o51_3 o51_3 r_n51_5 g_o51_5 o51_5 r_n51_8 g_o51_8 o51_8 r_n51_12 g_o51_12 o51_12 r_n51_15 r_n51_16 r_n51_14 r_n51_20 g_o51_20 o51_20 r_n51_23 g_o51_23 o51_23 r_n51_26 g_o51_26 o51_26 r_n51_27 r_n51_25 r_n51_28 r_n51_24 r_n51_22 r_n51_30 g_o51_30 o51_30 r_n51_32 g_o51_32 o51_32 r_n51_35 g_o51_35 o51_35 r_n51_38 g_o51_38 o51_38 r_n51_40 g_o51_40 o51_40 r_n51_43 g_o51_43 o51_43 r_n51_44 r_n51_42 r_n51_45 r_n51_41 r_n51_39 r_n51_37 r_n51_47 g_o51_47 o51_47 r_n51_50 g_o51_50 o51_50 r_n51_52 g_o51_52 o51_52 r_n51_55 g_o51_55 o51_55 r_n51_56 r_n51_54 r_n51_57 r_n51_53 r_n51_51 r_n51_49 r_n51_59 g_o51_59 o51_59 r_n51_61 g_o51_61 o51_61 r_n51_63 g_o51_63 o51_63 r_n51_66 g_o51_66 o51_66 r_n51_69 g_o51_69 o51_69 r_n51_70 r_n51_68 r_n51_71 r_n51_67 r_n51_65 r_n51_72 g_o51_72 o51_72 r_n51_64 r_n51_62 r_n51_60 r_n51_58 r_n51_48 r_n51_46 r_n51_36 r_n51_34 r_n51_33 r_n51_31 r_n51_29 r_n51_21 r_n51_19 r_n51_18 r_n51_73 g_o51_73 o51_73 r_n51_17 r_n51_13 r_n51_11 r_n51_9 r_n51_7 r_n51_75 g_o51_75 o51_75 r_n51_76 r_n51_74 r_n51_6 r_n51_4 r_n51_2 r_n51_0 va_51 wa_51 ya_51 cv_51
noncomputable def c52_0 : Code := Try.f52.body.getD .skip
noncomputable def A52 := run (annT 52)
def n52_0 := A52 c52_0
def c52_1 := gL c52_0
def n52_1 := A52 c52_1
def o52_1 : OL c52_1 := ⟨_, by conv => (lhs; whnf)⟩
def c52_2 := gR c52_0
def n52_2 := A52 c52_2
def c52_3 := gL c52_2
def n52_3 := A52 c52_3
def o52_3 : OL c52_3 := ⟨_, by conv => (lhs; whnf)⟩
def c52_4 := gR c52_2
def n52_4 := A52 c52_4
def c52_5 := gL c52_4
def n52_5 := A52 c52_5
def c52_6 := gL c52_5
def n52_6 := A52 c52_6
def o52_6 : OL c52_6 := ⟨_, by conv => (lhs; whnf)⟩
def c52_7 := gR c52_5
def n52_7 := A52 c52_7
def c52_8 := gT c52_7
def n52_8 := A52 c52_8
def c52_9 := gL c52_8
def n52_9 := A52 c52_9
def o52_9 : OL c52_9 := ⟨_, by conv => (lhs; whnf)⟩
def c52_10 := gR c52_8
def n52_10 := A52 c52_10
def c52_11 := gF c52_7
def n52_11 := A52 c52_11
def c52_12 := gR c52_4
def n52_12 := A52 c52_12
def c52_13 := gL c52_12
def n52_13 := A52 c52_13
def o52_13 : OL c52_13 := ⟨_, by conv => (lhs; whnf)⟩
def c52_14 := gR c52_12
def n52_14 := A52 c52_14
def c52_15 := gL c52_14
def n52_15 := A52 c52_15
def o52_15 : OL c52_15 := ⟨_, by conv => (lhs; whnf)⟩
def c52_16 := gR c52_14
def n52_16 := A52 c52_16
def c52_17 := gL c52_16
def n52_17 := A52 c52_17
def o52_17 : OL c52_17 := ⟨_, by conv => (lhs; whnf)⟩
def c52_18 := gR c52_16
def n52_18 := A52 c52_18
theorem r_n52_1 : n52_1 s = behK 9 (stepsO X (annT 52) C (gO c52_1) o52_1.1 s) := q_region (annT 52) s 0 _ false rfl _ _ rfl rfl o52_1.2
theorem g_o52_1 : gdst (gO c52_1) j = (o52_1.1[j]?).bind Oper.dst := gd_eq o52_1.2 j
theorem r_n52_3 : n52_3 s = behK 33 (stepsO X (annT 52) C (gO c52_3) o52_3.1 s) := q_region (annT 52) s 1 _ false rfl _ _ rfl rfl o52_3.2
theorem g_o52_3 : gdst (gO c52_3) j = (o52_3.1[j]?).bind Oper.dst := gd_eq o52_3.2 j
theorem r_n52_6 : n52_6 s = behK 16777249 (stepsO X (annT 52) C (gO c52_6) o52_6.1 s) := q_region (annT 52) s 2 _ false rfl _ _ rfl rfl o52_6.2
theorem g_o52_6 : gdst (gO c52_6) j = (o52_6.1[j]?).bind Oper.dst := gd_eq o52_6.2 j
theorem r_n52_9 : n52_9 s = behK 16 (stepsO X (annT 52) C (gO c52_9) o52_9.1 s) := q_region (annT 52) s 3 _ false rfl _ _ rfl rfl o52_9.2
theorem g_o52_9 : gdst (gO c52_9) j = (o52_9.1[j]?).bind Oper.dst := gd_eq o52_9.2 j
theorem r_n52_10 : n52_10 s = some (.ret, s) := run_ret _ s
theorem r_n52_8 : n52_8 s = contK n52_10 (n52_9 s) := q_seq _ c52_9 c52_10 s
theorem r_n52_11 : n52_11 s = some (.norm, s) := run_skip _ s
theorem r_n52_7 : n52_7 s = condK (opv s.t (.tmp 24)) n52_8 n52_11 s := q_cond _ c52_8 c52_11 s (.tmp 24)
theorem r_n52_5 : n52_5 s = contK n52_7 (n52_6 s) := q_seq _ c52_6 c52_7 s
theorem r_n52_13 : n52_13 s = behK 225 (stepsO X (annT 52) C (gO c52_13) o52_13.1 s) := q_region (annT 52) s 4 _ false rfl _ _ rfl rfl o52_13.2
theorem g_o52_13 : gdst (gO c52_13) j = (o52_13.1[j]?).bind Oper.dst := gd_eq o52_13.2 j
theorem r_n52_15 : n52_15 s = behK 128 (stepsO X (annT 52) C (gO c52_15) o52_15.1 s) := q_region (annT 52) s 5 _ false rfl _ _ rfl rfl o52_15.2
theorem g_o52_15 : gdst (gO c52_15) j = (o52_15.1[j]?).bind Oper.dst := gd_eq o52_15.2 j
theorem r_n52_17 : n52_17 s = behK 16 (stepsO X (annT 52) C (gO c52_17) o52_17.1 s) := q_region (annT 52) s 6 _ false rfl _ _ rfl rfl o52_17.2
theorem g_o52_17 : gdst (gO c52_17) j = (o52_17.1[j]?).bind Oper.dst := gd_eq o52_17.2 j
theorem r_n52_18 : n52_18 s = some (.ret, s) := run_ret _ s
theorem r_n52_16 : n52_16 s = contK n52_18 (n52_17 s) := q_seq _ c52_17 c52_18 s
theorem r_n52_14 : n52_14 s = contK n52_16 (n52_15 s) := q_seq _ c52_15 c52_16 s
theorem r_n52_12 : n52_12 s = contK n52_14 (n52_13 s) := q_seq _ c52_13 c52_14 s
theorem r_n52_4 : n52_4 s = contK n52_12 (n52_5 s) := q_seq _ c52_5 c52_12 s
theorem r_n52_2 : n52_2 s = contK n52_4 (n52_3 s) := q_seq _ c52_3 c52_4 s
theorem r_n52_0 : n52_0 s = contK n52_2 (n52_1 s) := q_seq _ c52_1 c52_2 s
theorem va_52 : (annT 52).virt = [] := rfl
theorem wa_52 : (annT 52).wr = [] := rfl
theorem ya_52 : (annT 52).ty = [] := rfl
theorem cv_52 (call : Eng.Call) (wr : Bool) (args : List AV) (st : Store) : callV X call wr 52 args st = (call 52 args st).map (trimR st.length) := cv_imp rfl rfl call wr args st
theorem p52 (ds : List D) : pureCall C 52 ds = ((n52_0 ⟨argsT 0 (ds.map .d), []⟩).bind (bodyR [.tmp 4])).bind prOf := P_eq Try.f52 rfl rfl rfl rfl ds
theorem q52 (vs : List AV) (st : Store) : C 52 vs st = (n52_0 ⟨argsT 0 vs, st⟩).bind (bodyR [.tmp 4]) := C_eq Try.f52 rfl rfl rfl rfl vs st
attribute [go_sem] r_n52_1 g_o52_1 o52_1 r_n52_3 g_o52_3 o52_3 r_n52_6 g_o52_6 o52_6 r_n52_9 g_o52_9 o52_9 r_n52_10 r_n52_8 r_n52_11 r_n52_7 r_n52_5 r_n52_13 g_o52_13 o52_13 r_n52_15 g_o52_15 o52_15 r_n52_17 g_o52_17 o52_17 r_n52_18 r_n52_16 r_n52_14 r_n52_12 r_n52_4 r_n52_2 r_n52_0 va_52 wa_52 ya_52 cv_52
noncomputable def c91_0 : Code := Try.f91.body.getD .skip
noncomputable def A91 := run (annT 91)
def n91_0 := A91 c91_0
def c91_1 := gL c91_0
def n91_1 := A91 c91_1
def o91_1 : OL c91_1 := ⟨_, by conv => (lhs; whnf)⟩
def c91_2 := gR c91_0
def n91_2 := A91 c91_2
def c91_3 := gL c91_2
def n91_3 := A91 c91_3
def o91_3 : OL c91_3 := ⟨_, by conv => (lhs; whnf)⟩
def c91_4 := gR c91_2
def n91_4 := A91 c91_4
theorem r_n91_1 : n91_1 s = behK 2 (stepsO X (annT 91) C (gO c91_1) o91_1.1 s) := q_region (annT 91) s 0 _ false rfl _ _ rfl rfl o91_1.2
theorem g_o91_1 : gdst (gO c91_1) j = (o91_1.1[j]?).bind Oper.dst := gd_eq o91_1.2 j
theorem r_n91_3 : n91_3 s = behK 4 (stepsO X (annT 91) C (gO c91_3) o91_3.1 s) := q_region (annT 91) s 1 _ false rfl _ _ rfl rfl o91_3.2
theorem g_o91_3 : gdst (gO c91_3) j = (o91_3.1[j]?).bind Oper.dst := gd_eq o91_3.2 j
theorem r_n91_4 : n91_4 s = some (.ret, s) := run_ret _ s
theorem r_n91_2 : n91_2 s = contK n91_4 (n91_3 s) := q_seq _ c91_3 c91_4 s
theorem r_n91_0 : n91_0 s = contK n91_2 (n91_1 s) := q_seq _ c91_1 c91_2 s
theorem va_91 : (annT 91).virt = [] := rfl
theorem wa_91 : (annT 91).wr = [] := rfl
theorem ya_91 : (annT 91).ty = [] := rfl
theorem cv_91 (call : Eng.Call) (wr : Bool) (args : List AV) (st : Store) : callV X call wr 91 args st = cvP call wr 91 args st (fzAll (fz false st 6) args) := cv_pure rfl rfl call wr args st
theorem p91 (ds : List D) : pureCall C 91 ds = ((n91_0 ⟨argsT 0 (ds.map .d), []⟩).bind (bodyR [.tmp 2])).bind prOf := P_eq Try.f91 rfl rfl rfl rfl ds
theorem q91 (vs : List AV) (st : Store) : C 91 vs st = (n91_0 ⟨argsT 0 vs, st⟩).bind (bodyR [.tmp 2]) := C_eq Try.f91 rfl rfl rfl rfl vs st
attribute [go_sem] r_n91_1 g_o91_1 o91_1 r_n91_3 g_o91_3 o91_3 r_n91_4 r_n91_2 r_n91_0 va_91 wa_91 ya_91 cv_91
noncomputable def c73_0 : Code := Try.f73.body.getD .skip
noncomputable def A73 := run (annT 73)
def n73_0 := A73 c73_0
def c73_1 := gL c73_0
def n73_1 := A73 c73_1
def o73_1 : OL c73_1 := ⟨_, by conv => (lhs; whnf)⟩
def c73_2 := gR c73_0
def n73_2 := A73 c73_2
def c73_3 := gL c73_2
def n73_3 := A73 c73_3
def c73_4 := gL c73_3
def n73_4 := A73 c73_4
def o73_4 : OL c73_4 := ⟨_, by conv => (lhs; whnf)⟩
def c73_5 := gR c73_3
def n73_5 := A73 c73_5
def c73_6 := gT c73_5
def n73_6 := A73 c73_6
def c73_7 := gL c73_6
def n73_7 := A73 c73_7
def o73_7 : OL c73_7 := ⟨_, by conv => (lhs; whnf)⟩
def c73_8 := gR c73_6
def n73_8 := A73 c73_8
def c73_9 := gF c73_5
def n73_9 := A73 c73_9
def c73_10 := gR c73_2
def n73_10 := A73 c73_10
def c73_11 := gL c73_10
def n73_11 := A73 c73_11
def o73_11 : OL c73_11 := ⟨_, by conv => (lhs; whnf)⟩
def c73_12 := gR c73_10
def n73_12 := A73 c73_12
theorem r_n73_1 : n73_1 s = behK 2 (stepsO X (annT 73) C (gO c73_1) o73_1.1 s) := q_region (annT 73) s 0 _ false rfl _ _ rfl rfl o73_1.2
theorem g_o73_1 : gdst (gO c73_1) j = (o73_1.1[j]?).bind Oper.dst := gd_eq o73_1.2 j
theorem r_n73_4 : n73_4 s = behK 4098 (stepsO X (annT 73) C (gO c73_4) o73_4.1 s) := q_region (annT 73) s 1 _ false rfl _ _ rfl rfl o73_4.2
theorem g_o73_4 : gdst (gO c73_4) j = (o73_4.1[j]?).bind Oper.dst := gd_eq o73_4.2 j
theorem r_n73_7 : n73_7 s = behK 12 (stepsO X (annT 73) C (gO c73_7) o73_7.1 s) := q_region (annT 73) s 2 _ false rfl _ _ rfl rfl o73_7.2
theorem g_o73_7 : gdst (gO c73_7) j = (o73_7.1[j]?).bind Oper.dst := gd_eq o73_7.2 j
theorem r_n73_8 : n73_8 s = some (.ret, s) := run_ret _ s
theorem r_n73_6 : n73_6 s = contK n73_8 (n73_7 s) := q_seq _ c73_7 c73_8 s
theorem r_n73_9 : n73_9 s = some (.norm, s) := run_skip _ s
theorem r_n73_5 : n73_5 s = condK (opv s.t (.tmp 12)) n73_6 n73_9 s := q_cond _ c73_6 c73_9 s (.tmp 12)
theorem r_n73_3 : n73_3 s = contK n73_5 (n73_4 s) := q_seq _ c73_4 c73_5 s
theorem r_n73_11 : n73_11 s = behK 12 (stepsO X (annT 73) C (gO c73_11) o73_11.1 s) := q_region (annT 73) s 3 _ false rfl _ _ rfl rfl o73_11.2
theorem g_o73_11 : gdst (gO c73_11) j = (o73_11.1[j]?).bind Oper.dst := gd_eq o73_11.2 j
theorem r_n73_12 : n73_12 s = some (.ret, s) := run_ret _ s
theorem r_n73_10 : n73_10 s = contK n73_12 (n73_11 s) := q_seq _ c73_11 c73_12 s
theorem r_n73_2 : n73_2 s = contK n73_10 (n73_3 s) := q_seq _ c73_3 c73_10 s
theorem r_n73_0 : n73_0 s = contK n73_2 (n73_1 s) := q_seq _ c73_1 c73_2 s
theorem va_73 : (annT 73).virt = [] := rfl
theorem wa_73 : (annT 73).wr = [] := rfl
theorem ya_73 : (annT 73).ty = [] := rfl
theorem cv_73 (call : Eng.Call) (wr : Bool) (args : List AV) (st : Store) : callV X call wr 73 args st = cvP call wr 73 args st (fzAll (fz false st 6) args) := cv_pure rfl rfl call wr args st
theorem p73 (ds : List D) : pureCall C 73 ds = ((n73_0 ⟨argsT 0 (ds.map .d), []⟩).bind (bodyR [.tmp 2, .tmp 3])).bind prOf := P_eq Try.f73 rfl rfl rfl rfl ds
theorem q73 (vs : List AV) (st : Store) : C 73 vs st = (n73_0 ⟨argsT 0 vs, st⟩).bind (bodyR [.tmp 2, .tmp 3]) := C_eq Try.f73 rfl rfl rfl rfl vs st
attribute [go_sem] r_n73_1 g_o73_1 o73_1 r_n73_4 g_o73_4 o73_4 r_n73_7 g_o73_7 o73_7 r_n73_8 r_n73_6 r_n73_9 r_n73_5 r_n73_3 r_n73_11 g_o73_11 o73_11 r_n73_12 r_n73_10 r_n73_2 r_n73_0 va_73 wa_73 ya_73 cv_73
noncomputable def c17_0 : Code := Try.f17.body.getD .skip
noncomputable def A17 := run (annT 17)
def n17_0 := A17 c17_0
def c17_1 := gL c17_0
def n17_1 := A17 c17_1
def o17_1 : OL c17_1 := ⟨_, by conv => (lhs; whnf)⟩
def c17_2 := gR c17_0
def n17_2 := A17 c17_2
def c17_3 := gL c17_2
def n17_3 := A17 c17_3
def c17_4 := gL c17_3
def n17_4 := A17 c17_4
def o17_4 : OL c17_4 := ⟨_, by conv => (lhs; whnf)⟩
def c17_5 := gR c17_3
def n17_5 := A17 c17_5
def c17_6 := gT c17_5
def n17_6 := A17 c17_6
def c17_7 := gL c17_6
def n17_7 := A17 c17_7
def o17_7 : OL c17_7 := ⟨_, by conv => (lhs; whnf)⟩
def c17_8 := gR c17_6
def n17_8 := A17 c17_8
def c17_9 := gF c17_5
def n17_9 := A17 c17_9
def c17_10 := gR c17_2
def n17_10 := A17 c17_10
def c17_11 := gL c17_10
def n17_11 := A17 c17_11
def c17_12 := gL c17_11
def n17_12 := A17 c17_12
def o17_12 : OL c17_12 := ⟨_, by conv => (lhs; whnf)⟩
def c17_13 := gR c17_11
def n17_13 := A17 c17_13
def c17_14 := gB c17_13
def n17_14 := A17 c17_14
def c17_15 := gB c17_14
def n17_15 := A17 c17_15
def c17_16 := gL c17_15
def n17_16 := A17 c17_16
def c17_17 := gL c17_16
def n17_17 := A17 c17_17
def o17_17 : OL c17_17 := ⟨_, by conv => (lhs; whnf)⟩
def c17_18 := gR c17_16
def n17_18 := A17 c17_18
def c17_19 := gT c17_18
def n17_19 := A17 c17_19
def c17_20 := gF c17_18
def n17_20 := A17 c17_20
def c17_21 := gR c17_15
def n17_21 := A17 c17_21
def c17_22 := gL c17_21
def n17_22 := A17 c17_22
def c17_23 := gB c17_22
def n17_23 := A17 c17_23
def c17_24 := gL c17_23
def n17_24 := A17 c17_24
def o17_24 : OL c17_24 := ⟨_, by conv => (lhs; whnf)⟩
def c17_25 := gR c17_23
def n17_25 := A17 c17_25
def c17_26 := gT c17_25
def n17_26 := A17 c17_26
def c17_27 := gL c17_26
def n17_27 := A17 c17_27
def o17_27 : OL c17_27 := ⟨_, by conv => (lhs; whnf)⟩
def c17_28 := gR c17_26
def n17_28 := A17 c17_28
def c17_29 := gF c17_25
def n17_29 := A17 c17_29
def c17_30 := gR c17_21
def n17_30 := A17 c17_30
def o17_30 : OL c17_30 := ⟨_, by conv => (lhs; whnf)⟩
def c17_31 := gR c17_10
def n17_31 := A17 c17_31
def c17_32 := gL c17_31
def n17_32 := A17 c17_32
def o17_32 : OL c17_32 := ⟨_, by conv => (lhs; whnf)⟩
def c17_33 := gR c17_31
def n17_33 := A17 c17_33
theorem r_n17_1 : n17_1 s = behK 12 (stepsO X (annT 17) C (gO c17_1) o17_1.1 s) := q_region (annT 17) s 0 _ false rfl _ _ rfl rfl o17_1.2
theorem g_o17_1 : gdst (gO c17_1) j = (o17_1.1[j]?).bind Oper.dst := gd_eq o17_1.2 j
theorem r_n17_4 : n17_4 s = behK 36028797018963980 (stepsO X (annT 17) C (gO c17_4) o17_4.1 s) := q_region (annT 17) s 1 _ false rfl _ _ rfl rfl o17_4.2
theorem g_o17_4 : gdst (gO c17_4) j = (o17_4.1[j]?).bind Oper.dst := gd_eq o17_4.2 j
theorem r_n17_7 : n17_7 s = behK 16 (stepsO X (annT 17) C (gO c17_7) o17_7.1 s) := q_region (annT 17) s 2 _ false rfl _ _ rfl rfl o17_7.2
theorem g_o17_7 : gdst (gO c17_7) j = (o17_7.1[j]?).bind Oper.dst := gd_eq o17_7.2 j
theorem r_n17_8 : n17_8 s = some (.ret, s) := run_ret _ s
theorem r_n17_6 : n17_6 s = contK n17_8 (n17_7 s) := q_seq _ c17_7 c17_8 s
theorem r_n17_9 : n17_9 s = some (.norm, s) := run_skip _ s
theorem r_n17_5 : n17_5 s = condK (opv s.t (.tmp 55)) n17_6 n17_9 s := q_cond _ c17_6 c17_9 s (.tmp 55)
theorem r_n17_3 : n17_3 s = contK n17_5 (n17_4 s) := q_seq _ c17_4 c17_5 s
theorem r_n17_12 : n17_12 s = behK 44 (stepsO X (annT 17) C (gO c17_12) o17_12.1 s) := q_region (annT 17) s 3 _ false rfl _ _ rfl rfl o17_12.2
theorem g_o17_12 : gdst (gO c17_12) j = (o17_12.1[j]?).bind Oper.dst := gd_eq o17_12.2 j
theorem r_n17_17 : n17_17 s = behK 1152921504606847020 (stepsO X (annT 17) C (gO c17_17) o17_17.1 s) := q_region (annT 17) s 4 _ false rfl _ _ rfl rfl o17_17.2
theorem g_o17_17 : gdst (gO c17_17) j = (o17_17.1[j]?).bind Oper.dst := gd_eq o17_17.2 j
theorem r_n17_19 : n17_19 s = some (.norm, s) := run_skip _ s
theorem r_n17_20 : n17_20 s = some (.exit 0, s) := run_exit _ s 0
theorem r_n17_18 : n17_18 s = condK (opv s.t (.tmp 60)) n17_19 n17_20 s := q_cond _ c17_19 c17_20 s (.tmp 60)
theorem r_n17_16 : n17_16 s = contK n17_18 (n17_17 s) := q_seq _ c17_17 c17_18 s
theorem r_n17_24 : n17_24 s = behK 18889465931478580854828 (stepsO X (annT 17) C (gO c17_24) o17_24.1 s) := q_region (annT 17) s 6 _ true rfl _ _ rfl rfl o17_24.2
theorem g_o17_24 : gdst (gO c17_24) j = (o17_24.1[j]?).bind Oper.dst := gd_eq o17_24.2 j
theorem r_n17_27 : n17_27 s = behK 16 (stepsO X (annT 17) C (gO c17_27) o17_27.1 s) := q_region (annT 17) s 7 _ false rfl _ _ rfl rfl o17_27.2
theorem g_o17_27 : gdst (gO c17_27) j = (o17_27.1[j]?).bind Oper.dst := gd_eq o17_27.2 j
theorem r_n17_28 : n17_28 s = some (.ret, s) := run_ret _ s
theorem r_n17_26 : n17_26 s = contK n17_28 (n17_27 s) := q_seq _ c17_27 c17_28 s
theorem r_n17_29 : n17_29 s = some (.norm, s) := run_skip _ s
theorem r_n17_25 : n17_25 s = condK (opv s.t (.tmp 74)) n17_26 n17_29 s := q_cond _ c17_26 c17_29 s (.tmp 74)
theorem r_n17_23 : n17_23 s = contK n17_25 (n17_24 s) := q_seq _ c17_24 c17_25 s
theorem r_n17_22 : n17_22 s = blkK 1 (n17_23 s) := q_block _ c17_23 s 1
theorem r_n17_30 : n17_30 s = behK 44 (stepsO X (annT 17) C (gO c17_30) o17_30.1 s) := q_region (annT 17) s 5 _ false rfl _ _ rfl rfl o17_30.2
theorem g_o17_30 : gdst (gO c17_30) j = (o17_30.1[j]?).bind Oper.dst := gd_eq o17_30.2 j
theorem r_n17_21 : n17_21 s = contK n17_30 (n17_22 s) := q_seq _ c17_22 c17_30 s
theorem r_n17_15 : n17_15 s = contK n17_21 (n17_16 s) := q_seq _ c17_16 c17_21 s
theorem r_n17_14 : n17_14 s = loopK 44 s.st.length n17_14 (n17_15 s) := q_loop (annT 17) c17_15 s _ _ rfl rfl
theorem r_n17_13 : n17_13 s = blkK 0 (n17_14 s) := q_block _ c17_14 s 0
theorem r_n17_11 : n17_11 s = contK n17_13 (n17_12 s) := q_seq _ c17_12 c17_13 s
theorem r_n17_32 : n17_32 s = behK 16 (stepsO X (annT 17) C (gO c17_32) o17_32.1 s) := q_region (annT 17) s 8 _ false rfl _ _ rfl rfl o17_32.2
theorem g_o17_32 : gdst (gO c17_32) j = (o17_32.1[j]?).bind Oper.dst := gd_eq o17_32.2 j
theorem r_n17_33 : n17_33 s = some (.ret, s) := run_ret _ s
theorem r_n17_31 : n17_31 s = contK n17_33 (n17_32 s) := q_seq _ c17_32 c17_33 s
theorem r_n17_10 : n17_10 s = contK n17_31 (n17_11 s) := q_seq _ c17_11 c17_31 s
theorem r_n17_2 : n17_2 s = contK n17_10 (n17_3 s) := q_seq _ c17_3 c17_10 s
theorem r_n17_0 : n17_0 s = contK n17_2 (n17_1 s) := q_seq _ c17_1 c17_2 s
theorem va_17 : (annT 17).virt = [] := rfl
theorem wa_17 : (annT 17).wr = [] := rfl
theorem ya_17 : (annT 17).ty = [] := rfl
theorem cv_17 (call : Eng.Call) (wr : Bool) (args : List AV) (st : Store) : callV X call wr 17 args st = cvP call wr 17 args st (fzAll (fz false st 6) args) := cv_pure rfl rfl call wr args st
theorem p17 (ds : List D) : pureCall C 17 ds = ((n17_0 ⟨argsT 0 (ds.map .d), []⟩).bind (bodyR [.tmp 4])).bind prOf := P_eq Try.f17 rfl rfl rfl rfl ds
theorem q17 (vs : List AV) (st : Store) : C 17 vs st = (n17_0 ⟨argsT 0 vs, st⟩).bind (bodyR [.tmp 4]) := C_eq Try.f17 rfl rfl rfl rfl vs st
attribute [go_sem] r_n17_1 g_o17_1 o17_1 r_n17_4 g_o17_4 o17_4 r_n17_7 g_o17_7 o17_7 r_n17_8 r_n17_6 r_n17_9 r_n17_5 r_n17_3 r_n17_12 g_o17_12 o17_12 r_n17_17 g_o17_17 o17_17 r_n17_19 r_n17_20 r_n17_18 r_n17_16 r_n17_24 g_o17_24 o17_24 r_n17_27 g_o17_27 o17_27 r_n17_28 r_n17_26 r_n17_29 r_n17_25 r_n17_23 r_n17_22 r_n17_30 g_o17_30 o17_30 r_n17_21 r_n17_15 r_n17_13 r_n17_11 r_n17_32 g_o17_32 o17_32 r_n17_33 r_n17_31 r_n17_10 r_n17_2 r_n17_0 va_17 wa_17 ya_17 cv_17
noncomputable def c33_0 : Code := Try.f33.body.getD .skip
noncomputable def A33 := run (annT 33)
def n33_0 := A33 c33_0
def c33_1 := gL c33_0
def n33_1 := A33 c33_1
def o33_1 : OL c33_1 := ⟨_, by conv => (lhs; whnf)⟩
def c33_2 := gR c33_0
def n33_2 := A33 c33_2
def c33_3 := gL c33_2
def n33_3 := A33 c33_3
def c33_4 := gL c33_3
def n33_4 := A33 c33_4
def o33_4 : OL c33_4 := ⟨_, by conv => (lhs; whnf)⟩
def c33_5 := gR c33_3
def n33_5 := A33 c33_5
def c33_6 := gT c33_5
def n33_6 := A33 c33_6
def c33_7 := gL c33_6
def n33_7 := A33 c33_7
def o33_7 : OL c33_7 := ⟨_, by conv => (lhs; whnf)⟩
def c33_8 := gR c33_6
def n33_8 := A33 c33_8
def c33_9 := gF c33_5
def n33_9 := A33 c33_9
def c33_10 := gR c33_2
def n33_10 := A33 c33_10
def c33_11 := gL c33_10
def n33_11 := A33 c33_11
def c33_12 := gL c33_11
def n33_12 := A33 c33_12
def o33_12 : OL c33_12 := ⟨_, by conv => (lhs; whnf)⟩
def c33_13 := gR c33_11
def n33_13 := A33 c33_13
def c33_14 := gB c33_13
def n33_14 := A33 c33_14
def c33_15 := gB c33_14
def n33_15 := A33 c33_15
def c33_16 := gL c33_15
def n33_16 := A33 c33_16
def c33_17 := gL c33_16
def n33_17 := A33 c33_17
def o33_17 : OL c33_17 := ⟨_, by conv => (lhs; whnf)⟩
def c33_18 := gR c33_16
def n33_18 := A33 c33_18
def c33_19 := gT c33_18
def n33_19 := A33 c33_19
def c33_20 := gF c33_18
def n33_20 := A33 c33_20
def c33_21 := gR c33_15
def n33_21 := A33 c33_21
def c33_22 := gL c33_21
def n33_22 := A33 c33_22
def c33_23 := gB c33_22
def n33_23 := A33 c33_23
def c33_24 := gL c33_23
def n33_24 := A33 c33_24
def o33_24 : OL c33_24 := ⟨_, by conv => (lhs; whnf)⟩
def c33_25 := gR c33_23
def n33_25 := A33 c33_25
def c33_26 := gT c33_25
def n33_26 := A33 c33_26
def c33_27 := gL c33_26
def n33_27 := A33 c33_27
def o33_27 : OL c33_27 := ⟨_, by conv => (lhs; whnf)⟩
def c33_28 := gR c33_26
def n33_28 := A33 c33_28
def c33_29 := gF c33_25
def n33_29 := A33 c33_29
def c33_30 := gR c33_21
def n33_30 := A33 c33_30
def o33_30 : OL c33_30 := ⟨_, by conv => (lhs; whnf)⟩
def c33_31 := gR c33_10
def n33_31 := A33 c33_31
def c33_32 := gL c33_31
def n33_32 := A33 c33_32
def o33_32 : OL c33_32 := ⟨_, by conv => (lhs; whnf)⟩
def c33_33 := gR c33_31
def n33_33 := A33 c33_33
theorem r_n33_1 : n33_1 s = behK 12 (stepsO X (annT 33) C (gO c33_1) o33_1.1 s) := q_region (annT 33) s 0 _ false rfl _ _ rfl rfl o33_1.2
theorem g_o33_1 : gdst (gO c33_1) j = (o33_1.1[j]?).bind Oper.dst := gd_eq o33_1.2 j
theorem r_n33_4 : n33_4 s = behK 1099511627788 (stepsO X (annT 33) C (gO c33_4) o33_4.1 s) := q_region (annT 33) s 1 _ false rfl _ _ rfl rfl o33_4.2
theorem g_o33_4 : gdst (gO c33_4) j = (o33_4.1[j]?).bind Oper.dst := gd_eq o33_4.2 j
theorem r_n33_7 : n33_7 s = behK 16 (stepsO X (annT 33) C (gO c33_7) o33_7.1 s) := q_region (annT 33) s 2 _ false rfl _ _ rfl rfl o33_7.2
theorem g_o33_7 : gdst (gO c33_7) j = (o33_7.1[j]?).bind Oper.dst := gd_eq o33_7.2 j
theorem r_n33_8 : n33_8 s = some (.ret, s) := run_ret _ s
theorem r_n33_6 : n33_6 s = contK n33_8 (n33_7 s) := q_seq _ c33_7 c33_8 s
theorem r_n33_9 : n33_9 s = some (.norm, s) := run_skip _ s
theorem r_n33_5 : n33_5 s = condK (opv s.t (.tmp 40)) n33_6 n33_9 s := q_cond _ c33_6 c33_9 s (.tmp 40)
theorem r_n33_3 : n33_3 s = contK n33_5 (n33_4 s) := q_seq _ c33_4 c33_5 s
theorem r_n33_12 : n33_12 s = behK 44 (stepsO X (annT 33) C (gO c33_12) o33_12.1 s) := q_region (annT 33) s 3 _ false rfl _ _ rfl rfl o33_12.2
theorem g_o33_12 : gdst (gO c33_12) j = (o33_12.1[j]?).bind Oper.dst := gd_eq o33_12.2 j
theorem r_n33_17 : n33_17 s = behK 35184372088876 (stepsO X (annT 33) C (gO c33_17) o33_17.1 s) := q_region (annT 33) s 4 _ false rfl _ _ rfl rfl o33_17.2
theorem g_o33_17 : gdst (gO c33_17) j = (o33_17.1[j]?).bind Oper.dst := gd_eq o33_17.2 j
theorem r_n33_19 : n33_19 s = some (.norm, s) := run_skip _ s
theorem r_n33_20 : n33_20 s = some (.exit 0, s) := run_exit _ s 0
theorem r_n33_18 : n33_18 s = condK (opv s.t (.tmp 45)) n33_19 n33_20 s := q_cond _ c33_19 c33_20 s (.tmp 45)
theorem r_n33_16 : n33_16 s = contK n33_18 (n33_17 s) := q_seq _ c33_17 c33_18 s
theorem r_n33_24 : n33_24 s = behK 288230376151711788 (stepsO X (annT 33) C (gO c33_24) o33_24.1 s) := q_region (annT 33) s 6 _ true rfl _ _ rfl rfl o33_24.2
theorem g_o33_24 : gdst (gO c33_24) j = (o33_24.1[j]?).bind Oper.dst := gd_eq o33_24.2 j
theorem r_n33_27 : n33_27 s = behK 16 (stepsO X (annT 33) C (gO c33_27) o33_27.1 s) := q_region (annT 33) s 7 _ false rfl _ _ rfl rfl o33_27.2
theorem g_o33_27 : gdst (gO c33_27) j = (o33_27.1[j]?).bind Oper.dst := gd_eq o33_27.2 j
theorem r_n33_28 : n33_28 s = some (.ret, s) := run_ret _ s
theorem r_n33_26 : n33_26 s = contK n33_28 (n33_27 s) := q_seq _ c33_27 c33_28 s
theorem r_n33_29 : n33_29 s = some (.norm, s) := run_skip _ s
theorem r_n33_25 : n33_25 s = condK (opv s.t (.tmp 58)) n33_26 n33_29 s := q_cond _ c33_26 c33_29 s (.tmp 58)
theorem r_n33_23 : n33_23 s = contK n33_25 (n33_24 s) := q_seq _ c33_24 c33_25 s
theorem r_n33_22 : n33_22 s = blkK 1 (n33_23 s) := q_block _ c33_23 s 1
theorem r_n33_30 : n33_30 s = behK 44 (stepsO X (annT 33) C (gO c33_30) o33_30.1 s) := q_region (annT 33) s 5 _ false rfl _ _ rfl rfl o33_30.2
theorem g_o33_30 : gdst (gO c33_30) j = (o33_30.1[j]?).bind Oper.dst := gd_eq o33_30.2 j
theorem r_n33_21 : n33_21 s = contK n33_30 (n33_22 s) := q_seq _ c33_22 c33_30 s
theorem r_n33_15 : n33_15 s = contK n33_21 (n33_16 s) := q_seq _ c33_16 c33_21 s
theorem r_n33_14 : n33_14 s = loopK 44 s.st.length n33_14 (n33_15 s) := q_loop (annT 33) c33_15 s _ _ rfl rfl
theorem r_n33_13 : n33_13 s = blkK 0 (n33_14 s) := q_block _ c33_14 s 0
theorem r_n33_11 : n33_11 s = contK n33_13 (n33_12 s) := q_seq _ c33_12 c33_13 s
theorem r_n33_32 : n33_32 s = behK 16 (stepsO X (annT 33) C (gO c33_32) o33_32.1 s) := q_region (annT 33) s 8 _ false rfl _ _ rfl rfl o33_32.2
theorem g_o33_32 : gdst (gO c33_32) j = (o33_32.1[j]?).bind Oper.dst := gd_eq o33_32.2 j
theorem r_n33_33 : n33_33 s = some (.ret, s) := run_ret _ s
theorem r_n33_31 : n33_31 s = contK n33_33 (n33_32 s) := q_seq _ c33_32 c33_33 s
theorem r_n33_10 : n33_10 s = contK n33_31 (n33_11 s) := q_seq _ c33_11 c33_31 s
theorem r_n33_2 : n33_2 s = contK n33_10 (n33_3 s) := q_seq _ c33_3 c33_10 s
theorem r_n33_0 : n33_0 s = contK n33_2 (n33_1 s) := q_seq _ c33_1 c33_2 s
theorem va_33 : (annT 33).virt = [] := rfl
theorem wa_33 : (annT 33).wr = [] := rfl
theorem ya_33 : (annT 33).ty = [] := rfl
theorem cv_33 (call : Eng.Call) (wr : Bool) (args : List AV) (st : Store) : callV X call wr 33 args st = cvP call wr 33 args st (fzAll (fz false st 6) args) := cv_pure rfl rfl call wr args st
theorem p33 (ds : List D) : pureCall C 33 ds = ((n33_0 ⟨argsT 0 (ds.map .d), []⟩).bind (bodyR [.tmp 4])).bind prOf := P_eq Try.f33 rfl rfl rfl rfl ds
theorem q33 (vs : List AV) (st : Store) : C 33 vs st = (n33_0 ⟨argsT 0 vs, st⟩).bind (bodyR [.tmp 4]) := C_eq Try.f33 rfl rfl rfl rfl vs st
attribute [go_sem] r_n33_1 g_o33_1 o33_1 r_n33_4 g_o33_4 o33_4 r_n33_7 g_o33_7 o33_7 r_n33_8 r_n33_6 r_n33_9 r_n33_5 r_n33_3 r_n33_12 g_o33_12 o33_12 r_n33_17 g_o33_17 o33_17 r_n33_19 r_n33_20 r_n33_18 r_n33_16 r_n33_24 g_o33_24 o33_24 r_n33_27 g_o33_27 o33_27 r_n33_28 r_n33_26 r_n33_29 r_n33_25 r_n33_23 r_n33_22 r_n33_30 g_o33_30 o33_30 r_n33_21 r_n33_15 r_n33_13 r_n33_11 r_n33_32 g_o33_32 o33_32 r_n33_33 r_n33_31 r_n33_10 r_n33_2 r_n33_0 va_33 wa_33 ya_33 cv_33
end
end Go.L25
