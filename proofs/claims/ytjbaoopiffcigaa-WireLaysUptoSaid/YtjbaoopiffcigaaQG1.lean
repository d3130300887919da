/- Layer 25: codes by their parts. Conditions: none. -/
import Derived.Test.YtjbaoopiffcigaaQL1
set_option linter.unusedVariables false
namespace Go.L25
open Go Go.Eng Go.Proofs
set_option maxRecDepth 100000

noncomputable def c34_0 : Code := Try.f34.body.getD .skip
noncomputable def n34_0 : S → RS := run (annT 34) c34_0
noncomputable def c34_1 : Code := gL c34_0
noncomputable def n34_1 : S → RS := run (annT 34) c34_1
noncomputable def o34_1 : {l : List Oper // (gO c34_1).toList = l} := ⟨_, by conv => (lhs; whnf)⟩
noncomputable def c34_2 : Code := gR c34_0
noncomputable def n34_2 : S → RS := run (annT 34) c34_2
noncomputable def c34_3 : Code := gL c34_2
noncomputable def n34_3 : S → RS := run (annT 34) c34_3
noncomputable def o34_3 : {l : List Oper // (gO c34_3).toList = l} := ⟨_, by conv => (lhs; whnf)⟩
noncomputable def c34_4 : Code := gR c34_2
noncomputable def n34_4 : S → RS := run (annT 34) c34_4
theorem r_n34_1 (s : S) : n34_1 s = behK 2 (stepsO X (annT 34) C (gO c34_1) o34_1.1 s) := q_region (annT 34) s 0 _ false rfl _ _ rfl rfl o34_1.2
theorem g_o34_1 (j : Nat) : gdst (gO c34_1) j = (o34_1.1[j]?).bind Oper.dst := gd_eq o34_1.2 j
theorem r_n34_3 (s : S) : n34_3 s = behK 4 (stepsO X (annT 34) C (gO c34_3) o34_3.1 s) := q_region (annT 34) s 1 _ false rfl _ _ rfl rfl o34_3.2
theorem g_o34_3 (j : Nat) : gdst (gO c34_3) j = (o34_3.1[j]?).bind Oper.dst := gd_eq o34_3.2 j
theorem r_n34_4 (s : S) : n34_4 s = some (.ret, s) := run_ret _ s
theorem r_n34_2 (s : S) : n34_2 s = contK n34_4 (n34_3 s) := q_seq _ c34_3 c34_4 s
theorem r_n34_0 (s : S) : n34_0 s = contK n34_2 (n34_1 s) := q_seq _ c34_1 c34_2 s
theorem va_34 : (annT 34).virt = [] := rfl
theorem wa_34 : (annT 34).wr = [] := rfl
theorem ya_34 : (annT 34).ty = [] := rfl
theorem cv_34 (call : Eng.Call) (wr : Bool) (args : List AV) (st : Store) : callV X call wr 34 args st = cvP call wr 34 args st (fzAll (fz false st 6) args) := cv_pure rfl rfl call wr args st
theorem p34 (ds : List D) : pureCall C 34 ds = ((n34_0 ⟨argsT 0 (ds.map .d), []⟩).bind (bodyR [.tmp 2])).bind prOf := P_eq Try.f34 rfl rfl rfl rfl ds
theorem q34 (vs : List AV) (st : Store) : C 34 vs st = (n34_0 ⟨argsT 0 vs, st⟩).bind (bodyR [.tmp 2]) := C_eq Try.f34 rfl rfl rfl rfl vs st
attribute [go_sem] r_n34_1 g_o34_1 o34_1 r_n34_3 g_o34_3 o34_3 r_n34_4 r_n34_2 r_n34_0 va_34 wa_34 ya_34 cv_34

noncomputable def c35_0 : Code := Try.f35.body.getD .skip
noncomputable def n35_0 : S → RS := run (annT 35) c35_0
noncomputable def c35_1 : Code := gL c35_0
noncomputable def n35_1 : S → RS := run (annT 35) c35_1
noncomputable def o35_1 : {l : List Oper // (gO c35_1).toList = l} := ⟨_, by conv => (lhs; whnf)⟩
noncomputable def c35_2 : Code := gR c35_0
noncomputable def n35_2 : S → RS := run (annT 35) c35_2
noncomputable def c35_3 : Code := gL c35_2
noncomputable def n35_3 : S → RS := run (annT 35) c35_3
noncomputable def c35_4 : Code := gL c35_3
noncomputable def n35_4 : S → RS := run (annT 35) c35_4
noncomputable def o35_4 : {l : List Oper // (gO c35_4).toList = l} := ⟨_, by conv => (lhs; whnf)⟩
noncomputable def c35_5 : Code := gR c35_3
noncomputable def n35_5 : S → RS := run (annT 35) c35_5
noncomputable def c35_6 : Code := gT c35_5
noncomputable def n35_6 : S → RS := run (annT 35) c35_6
noncomputable def c35_7 : Code := gL c35_6
noncomputable def n35_7 : S → RS := run (annT 35) c35_7
noncomputable def o35_7 : {l : List Oper // (gO c35_7).toList = l} := ⟨_, by conv => (lhs; whnf)⟩
noncomputable def c35_8 : Code := gR c35_6
noncomputable def n35_8 : S → RS := run (annT 35) c35_8
noncomputable def c35_9 : Code := gF c35_5
noncomputable def n35_9 : S → RS := run (annT 35) c35_9
noncomputable def c35_10 : Code := gR c35_2
noncomputable def n35_10 : S → RS := run (annT 35) c35_10
noncomputable def c35_11 : Code := gL c35_10
noncomputable def n35_11 : S → RS := run (annT 35) c35_11
noncomputable def o35_11 : {l : List Oper // (gO c35_11).toList = l} := ⟨_, by conv => (lhs; whnf)⟩
noncomputable def c35_12 : Code := gR c35_10
noncomputable def n35_12 : S → RS := run (annT 35) c35_12
theorem r_n35_1 (s : S) : n35_1 s = behK 2 (stepsO X (annT 35) C (gO c35_1) o35_1.1 s) := q_region (annT 35) s 0 _ false rfl _ _ rfl rfl o35_1.2
theorem g_o35_1 (j : Nat) : gdst (gO c35_1) j = (o35_1.1[j]?).bind Oper.dst := gd_eq o35_1.2 j
theorem r_n35_4 (s : S) : n35_4 s = behK 34 (stepsO X (annT 35) C (gO c35_4) o35_4.1 s) := q_region (annT 35) s 1 _ false rfl _ _ rfl rfl o35_4.2
theorem g_o35_4 (j : Nat) : gdst (gO c35_4) j = (o35_4.1[j]?).bind Oper.dst := gd_eq o35_4.2 j
theorem r_n35_7 (s : S) : n35_7 s = behK 4 (stepsO X (annT 35) C (gO c35_7) o35_7.1 s) := q_region (annT 35) s 2 _ false rfl _ _ rfl rfl o35_7.2
theorem g_o35_7 (j : Nat) : gdst (gO c35_7) j = (o35_7.1[j]?).bind Oper.dst := gd_eq o35_7.2 j
theorem r_n35_8 (s : S) : n35_8 s = some (.ret, s) := run_ret _ s
theorem r_n35_6 (s : S) : n35_6 s = contK n35_8 (n35_7 s) := q_seq _ c35_7 c35_8 s
theorem r_n35_9 (s : S) : n35_9 s = some (.norm, s) := run_skip _ s
theorem r_n35_5 (s : S) : n35_5 s = condK (opv s.t (.tmp 5)) n35_6 n35_9 s := q_cond _ c35_6 c35_9 s (.tmp 5)
theorem r_n35_3 (s : S) : n35_3 s = contK n35_5 (n35_4 s) := q_seq _ c35_4 c35_5 s
theorem r_n35_11 (s : S) : n35_11 s = behK 4 (stepsO X (annT 35) C (gO c35_11) o35_11.1 s) := q_region (annT 35) s 3 _ false rfl _ _ rfl rfl o35_11.2
theorem g_o35_11 (j : Nat) : gdst (gO c35_11) j = (o35_11.1[j]?).bind Oper.dst := gd_eq o35_11.2 j
theorem r_n35_12 (s : S) : n35_12 s = some (.ret, s) := run_ret _ s
theorem r_n35_10 (s : S) : n35_10 s = contK n35_12 (n35_11 s) := q_seq _ c35_11 c35_12 s
theorem r_n35_2 (s : S) : n35_2 s = contK n35_10 (n35_3 s) := q_seq _ c35_3 c35_10 s
theorem r_n35_0 (s : S) : n35_0 s = contK n35_2 (n35_1 s) := q_seq _ c35_1 c35_2 s
theorem va_35 : (annT 35).virt = [] := rfl
theorem wa_35 : (annT 35).wr = [] := rfl
theorem ya_35 : (annT 35).ty = [] := rfl
theorem cv_35 (call : Eng.Call) (wr : Bool) (args : List AV) (st : Store) : callV X call wr 35 args st = cvP call wr 35 args st (fzAll (fz false st 6) args) := cv_pure rfl rfl call wr args st
theorem p35 (ds : List D) : pureCall C 35 ds = ((n35_0 ⟨argsT 0 (ds.map .d), []⟩).bind (bodyR [.tmp 2])).bind prOf := P_eq Try.f35 rfl rfl rfl rfl ds
theorem q35 (vs : List AV) (st : Store) : C 35 vs st = (n35_0 ⟨argsT 0 vs, st⟩).bind (bodyR [.tmp 2]) := C_eq Try.f35 rfl rfl rfl rfl vs st
attribute [go_sem] r_n35_1 g_o35_1 o35_1 r_n35_4 g_o35_4 o35_4 r_n35_7 g_o35_7 o35_7 r_n35_8 r_n35_6 r_n35_9 r_n35_5 r_n35_3 r_n35_11 g_o35_11 o35_11 r_n35_12 r_n35_10 r_n35_2 r_n35_0 va_35 wa_35 ya_35 cv_35

noncomputable def c54_0 : Code := Try.f54.body.getD .skip
noncomputable def n54_0 : S → RS := run (annT 54) c54_0
noncomputable def c54_1 : Code := gL c54_0
noncomputable def n54_1 : S → RS := run (annT 54) c54_1
noncomputable def o54_1 : {l : List Oper // (gO c54_1).toList = l} := ⟨_, by conv => (lhs; whnf)⟩
noncomputable def c54_2 : Code := gR c54_0
noncomputable def n54_2 : S → RS := run (annT 54) c54_2
noncomputable def c54_3 : Code := gL c54_2
noncomputable def n54_3 : S → RS := run (annT 54) c54_3
noncomputable def o54_3 : {l : List Oper // (gO c54_3).toList = l} := ⟨_, by conv => (lhs; whnf)⟩
noncomputable def c54_4 : Code := gR c54_2
noncomputable def n54_4 : S → RS := run (annT 54) c54_4
noncomputable def c54_5 : Code := gL c54_4
noncomputable def n54_5 : S → RS := run (annT 54) c54_5
noncomputable def c54_6 : Code := gL c54_5
noncomputable def n54_6 : S → RS := run (annT 54) c54_6
noncomputable def o54_6 : {l : List Oper // (gO c54_6).toList = l} := ⟨_, by conv => (lhs; whnf)⟩
noncomputable def c54_7 : Code := gR c54_5
noncomputable def n54_7 : S → RS := run (annT 54) c54_7
noncomputable def c54_8 : Code := gB c54_7
noncomputable def n54_8 : S → RS := run (annT 54) c54_8
noncomputable def c54_9 : Code := gB c54_8
noncomputable def n54_9 : S → RS := run (annT 54) c54_9
noncomputable def c54_10 : Code := gL c54_9
noncomputable def n54_10 : S → RS := run (annT 54) c54_10
noncomputable def c54_11 : Code := gL c54_10
noncomputable def n54_11 : S → RS := run (annT 54) c54_11
noncomputable def o54_11 : {l : List Oper // (gO c54_11).toList = l} := ⟨_, by conv => (lhs; whnf)⟩
noncomputable def c54_12 : Code := gR c54_10
noncomputable def n54_12 : S → RS := run (annT 54) c54_12
noncomputable def c54_13 : Code := gT c54_12
noncomputable def n54_13 : S → RS := run (annT 54) c54_13
noncomputable def c54_14 : Code := gF c54_12
noncomputable def n54_14 : S → RS := run (annT 54) c54_14
noncomputable def c54_15 : Code := gR c54_9
noncomputable def n54_15 : S → RS := run (annT 54) c54_15
noncomputable def c54_16 : Code := gL c54_15
noncomputable def n54_16 : S → RS := run (annT 54) c54_16
noncomputable def c54_17 : Code := gB c54_16
noncomputable def n54_17 : S → RS := run (annT 54) c54_17
noncomputable def o54_17 : {l : List Oper // (gO c54_17).toList = l} := ⟨_, by conv => (lhs; whnf)⟩
noncomputable def c54_18 : Code := gR c54_15
noncomputable def n54_18 : S → RS := run (annT 54) c54_18
noncomputable def o54_18 : {l : List Oper // (gO c54_18).toList = l} := ⟨_, by conv => (lhs; whnf)⟩
noncomputable def c54_19 : Code := gR c54_4
noncomputable def n54_19 : S → RS := run (annT 54) c54_19
noncomputable def c54_20 : Code := gL c54_19
noncomputable def n54_20 : S → RS := run (annT 54) c54_20
noncomputable def o54_20 : {l : List Oper // (gO c54_20).toList = l} := ⟨_, by conv => (lhs; whnf)⟩
noncomputable def c54_21 : Code := gR c54_19
noncomputable def n54_21 : S → RS := run (annT 54) c54_21
theorem r_n54_1 (s : S) : n54_1 s = behK 6 (stepsO X (annT 54) C (gO c54_1) o54_1.1 s) := q_region (annT 54) s 0 _ false rfl _ _ rfl rfl o54_1.2
theorem g_o54_1 (j : Nat) : gdst (gO c54_1) j = (o54_1.1[j]?).bind Oper.dst := gd_eq o54_1.2 j
theorem r_n54_3 (s : S) : n54_3 s = behK 38 (stepsO X (annT 54) C (gO c54_3) o54_3.1 s) := q_region (annT 54) s 1 _ false rfl _ _ rfl rfl o54_3.2
theorem g_o54_3 (j : Nat) : gdst (gO c54_3) j = (o54_3.1[j]?).bind Oper.dst := gd_eq o54_3.2 j
theorem r_n54_6 (s : S) : n54_6 s = behK 102 (stepsO X (annT 54) C (gO c54_6) o54_6.1 s) := q_region (annT 54) s 2 _ false rfl _ _ rfl rfl o54_6.2
theorem g_o54_6 (j : Nat) : gdst (gO c54_6) j = (o54_6.1[j]?).bind Oper.dst := gd_eq o54_6.2 j
theorem r_n54_11 (s : S) : n54_11 s = behK 32870 (stepsO X (annT 54) C (gO c54_11) o54_11.1 s) := q_region (annT 54) s 3 _ false rfl _ _ rfl rfl o54_11.2
theorem g_o54_11 (j : Nat) : gdst (gO c54_11) j = (o54_11.1[j]?).bind Oper.dst := gd_eq o54_11.2 j
theorem r_n54_13 (s : S) : n54_13 s = some (.norm, s) := run_skip _ s
theorem r_n54_14 (s : S) : n54_14 s = some (.exit 0, s) := run_exit _ s 0
theorem r_n54_12 (s : S) : n54_12 s = condK (opv s.t (.tmp 15)) n54_13 n54_14 s := q_cond _ c54_13 c54_14 s (.tmp 15)
theorem r_n54_10 (s : S) : n54_10 s = contK n54_12 (n54_11 s) := q_seq _ c54_11 c54_12 s
theorem r_n54_17 (s : S) : n54_17 s = behK 102 (stepsO X (annT 54) C (gO c54_17) o54_17.1 s) := q_region (annT 54) s 5 _ false rfl _ _ rfl rfl o54_17.2
theorem g_o54_17 (j : Nat) : gdst (gO c54_17) j = (o54_17.1[j]?).bind Oper.dst := gd_eq o54_17.2 j
theorem r_n54_16 (s : S) : n54_16 s = blkK 1 (n54_17 s) := q_block _ c54_17 s 1
theorem r_n54_18 (s : S) : n54_18 s = behK 102 (stepsO X (annT 54) C (gO c54_18) o54_18.1 s) := q_region (annT 54) s 4 _ false rfl _ _ rfl rfl o54_18.2
theorem g_o54_18 (j : Nat) : gdst (gO c54_18) j = (o54_18.1[j]?).bind Oper.dst := gd_eq o54_18.2 j
theorem r_n54_15 (s : S) : n54_15 s = contK n54_18 (n54_16 s) := q_seq _ c54_16 c54_18 s
theorem r_n54_9 (s : S) : n54_9 s = contK n54_15 (n54_10 s) := q_seq _ c54_10 c54_15 s
theorem r_n54_8 (s : S) : n54_8 s = loopK 102 s.st.length n54_8 (n54_9 s) := q_loop (annT 54) c54_9 s _ _ rfl rfl
theorem r_n54_7 (s : S) : n54_7 s = blkK 0 (n54_8 s) := q_block _ c54_8 s 0
theorem r_n54_5 (s : S) : n54_5 s = contK n54_7 (n54_6 s) := q_seq _ c54_6 c54_7 s
theorem r_n54_20 (s : S) : n54_20 s = behK 16 (stepsO X (annT 54) C (gO c54_20) o54_20.1 s) := q_region (annT 54) s 6 _ false rfl _ _ rfl rfl o54_20.2
theorem g_o54_20 (j : Nat) : gdst (gO c54_20) j = (o54_20.1[j]?).bind Oper.dst := gd_eq o54_20.2 j
theorem r_n54_21 (s : S) : n54_21 s = some (.ret, s) := run_ret _ s
theorem r_n54_19 (s : S) : n54_19 s = contK n54_21 (n54_20 s) := q_seq _ c54_20 c54_21 s
theorem r_n54_4 (s : S) : n54_4 s = contK n54_19 (n54_5 s) := q_seq _ c54_5 c54_19 s
theorem r_n54_2 (s : S) : n54_2 s = contK n54_4 (n54_3 s) := q_seq _ c54_3 c54_4 s
theorem r_n54_0 (s : S) : n54_0 s = contK n54_2 (n54_1 s) := q_seq _ c54_1 c54_2 s
theorem va_54 : (annT 54).virt = [] := rfl
theorem wa_54 : (annT 54).wr = [] := rfl
theorem ya_54 : (annT 54).ty = [] := rfl
theorem cv_54 (call : Eng.Call) (wr : Bool) (args : List AV) (st : Store) : callV X call wr 54 args st = cvP call wr 54 args st (fzAll (fz false st 6) args) := cv_pure rfl rfl call wr args st
theorem p54 (ds : List D) : pureCall C 54 ds = ((n54_0 ⟨argsT 0 (ds.map .d), []⟩).bind (bodyR [.tmp 4])).bind prOf := P_eq Try.f54 rfl rfl rfl rfl ds
theorem q54 (vs : List AV) (st : Store) : C 54 vs st = (n54_0 ⟨argsT 0 vs, st⟩).bind (bodyR [.tmp 4]) := C_eq Try.f54 rfl rfl rfl rfl vs st
attribute [go_sem] r_n54_1 g_o54_1 o54_1 r_n54_3 g_o54_3 o54_3 r_n54_6 g_o54_6 o54_6 r_n54_11 g_o54_11 o54_11 r_n54_13 r_n54_14 r_n54_12 r_n54_10 r_n54_17 g_o54_17 o54_17 r_n54_16 r_n54_18 g_o54_18 o54_18 r_n54_15 r_n54_9 r_n54_7 r_n54_5 r_n54_20 g_o54_20 o54_20 r_n54_21 r_n54_19 r_n54_4 r_n54_2 r_n54_0 va_54 wa_54 ya_54 cv_54

noncomputable def c55_0 : Code := Try.f55.body.getD .skip
noncomputable def n55_0 : S → RS := run (annT 55) c55_0
noncomputable def c55_1 : Code := gL c55_0
noncomputable def n55_1 : S → RS := run (annT 55) c55_1
noncomputable def o55_1 : {l : List Oper // (gO c55_1).toList = l} := ⟨_, by conv => (lhs; whnf)⟩
noncomputable def c55_2 : Code := gR c55_0
noncomputable def n55_2 : S → RS := run (annT 55) c55_2
noncomputable def c55_3 : Code := gL c55_2
noncomputable def n55_3 : S → RS := run (annT 55) c55_3
noncomputable def o55_3 : {l : List Oper // (gO c55_3).toList = l} := ⟨_, by conv => (lhs; whnf)⟩
noncomputable def c55_4 : Code := gR c55_2
noncomputable def n55_4 : S → RS := run (annT 55) c55_4
noncomputable def c55_5 : Code := gL c55_4
noncomputable def n55_5 : S → RS := run (annT 55) c55_5
noncomputable def c55_6 : Code := gL c55_5
noncomputable def n55_6 : S → RS := run (annT 55) c55_6
noncomputable def o55_6 : {l : List Oper // (gO c55_6).toList = l} := ⟨_, by conv => (lhs; whnf)⟩
noncomputable def c55_7 : Code := gR c55_5
noncomputable def n55_7 : S → RS := run (annT 55) c55_7
noncomputable def c55_8 : Code := gB c55_7
noncomputable def n55_8 : S → RS := run (annT 55) c55_8
noncomputable def c55_9 : Code := gB c55_8
noncomputable def n55_9 : S → RS := run (annT 55) c55_9
noncomputable def c55_10 : Code := gL c55_9
noncomputable def n55_10 : S → RS := run (annT 55) c55_10
noncomputable def c55_11 : Code := gL c55_10
noncomputable def n55_11 : S → RS := run (annT 55) c55_11
noncomputable def o55_11 : {l : List Oper // (gO c55_11).toList = l} := ⟨_, by conv => (lhs; whnf)⟩
noncomputable def c55_12 : Code := gR c55_10
noncomputable def n55_12 : S → RS := run (annT 55) c55_12
noncomputable def c55_13 : Code := gT c55_12
noncomputable def n55_13 : S → RS := run (annT 55) c55_13
noncomputable def c55_14 : Code := gF c55_12
noncomputable def n55_14 : S → RS := run (annT 55) c55_14
noncomputable def c55_15 : Code := gR c55_9
noncomputable def n55_15 : S → RS := run (annT 55) c55_15
noncomputable def c55_16 : Code := gL c55_15
noncomputable def n55_16 : S → RS := run (annT 55) c55_16
noncomputable def c55_17 : Code := gB c55_16
noncomputable def n55_17 : S → RS := run (annT 55) c55_17
noncomputable def o55_17 : {l : List Oper // (gO c55_17).toList = l} := ⟨_, by conv => (lhs; whnf)⟩
noncomputable def c55_18 : Code := gR c55_15
noncomputable def n55_18 : S → RS := run (annT 55) c55_18
noncomputable def o55_18 : {l : List Oper // (gO c55_18).toList = l} := ⟨_, by conv => (lhs; whnf)⟩
noncomputable def c55_19 : Code := gR c55_4
noncomputable def n55_19 : S → RS := run (annT 55) c55_19
noncomputable def c55_20 : Code := gL c55_19
noncomputable def n55_20 : S → RS := run (annT 55) c55_20
noncomputable def o55_20 : {l : List Oper // (gO c55_20).toList = l} := ⟨_, by conv => (lhs; whnf)⟩
noncomputable def c55_21 : Code := gR c55_19
noncomputable def n55_21 : S → RS := run (annT 55) c55_21
theorem r_n55_1 (s : S) : n55_1 s = behK 6 (stepsO X (annT 55) C (gO c55_1) o55_1.1 s) := q_region (annT 55) s 0 _ false rfl _ _ rfl rfl o55_1.2
theorem g_o55_1 (j : Nat) : gdst (gO c55_1) j = (o55_1.1[j]?).bind Oper.dst := gd_eq o55_1.2 j
theorem r_n55_3 (s : S) : n55_3 s = behK 6 (stepsO X (annT 55) C (gO c55_3) o55_3.1 s) := q_region (annT 55) s 1 _ false rfl _ _ rfl rfl o55_3.2
theorem g_o55_3 (j : Nat) : gdst (gO c55_3) j = (o55_3.1[j]?).bind Oper.dst := gd_eq o55_3.2 j
theorem r_n55_6 (s : S) : n55_6 s = behK 38 (stepsO X (annT 55) C (gO c55_6) o55_6.1 s) := q_region (annT 55) s 2 _ false rfl _ _ rfl rfl o55_6.2
theorem g_o55_6 (j : Nat) : gdst (gO c55_6) j = (o55_6.1[j]?).bind Oper.dst := gd_eq o55_6.2 j
theorem r_n55_11 (s : S) : n55_11 s = behK 65574 (stepsO X (annT 55) C (gO c55_11) o55_11.1 s) := q_region (annT 55) s 3 _ false rfl _ _ rfl rfl o55_11.2
theorem g_o55_11 (j : Nat) : gdst (gO c55_11) j = (o55_11.1[j]?).bind Oper.dst := gd_eq o55_11.2 j
theorem r_n55_13 (s : S) : n55_13 s = some (.norm, s) := run_skip _ s
theorem r_n55_14 (s : S) : n55_14 s = some (.exit 0, s) := run_exit _ s 0
theorem r_n55_12 (s : S) : n55_12 s = condK (opv s.t (.tmp 16)) n55_13 n55_14 s := q_cond _ c55_13 c55_14 s (.tmp 16)
theorem r_n55_10 (s : S) : n55_10 s = contK n55_12 (n55_11 s) := q_seq _ c55_11 c55_12 s
theorem r_n55_17 (s : S) : n55_17 s = behK 38 (stepsO X (annT 55) C (gO c55_17) o55_17.1 s) := q_region (annT 55) s 5 _ false rfl _ _ rfl rfl o55_17.2
theorem g_o55_17 (j : Nat) : gdst (gO c55_17) j = (o55_17.1[j]?).bind Oper.dst := gd_eq o55_17.2 j
theorem r_n55_16 (s : S) : n55_16 s = blkK 1 (n55_17 s) := q_block _ c55_17 s 1
theorem r_n55_18 (s : S) : n55_18 s = behK 38 (stepsO X (annT 55) C (gO c55_18) o55_18.1 s) := q_region (annT 55) s 4 _ false rfl _ _ rfl rfl o55_18.2
theorem g_o55_18 (j : Nat) : gdst (gO c55_18) j = (o55_18.1[j]?).bind Oper.dst := gd_eq o55_18.2 j
theorem r_n55_15 (s : S) : n55_15 s = contK n55_18 (n55_16 s) := q_seq _ c55_16 c55_18 s
theorem r_n55_9 (s : S) : n55_9 s = contK n55_15 (n55_10 s) := q_seq _ c55_10 c55_15 s
theorem r_n55_8 (s : S) : n55_8 s = loopK 38 s.st.length n55_8 (n55_9 s) := q_loop (annT 55) c55_9 s _ _ rfl rfl
theorem r_n55_7 (s : S) : n55_7 s = blkK 0 (n55_8 s) := q_block _ c55_8 s 0
theorem r_n55_5 (s : S) : n55_5 s = contK n55_7 (n55_6 s) := q_seq _ c55_6 c55_7 s
theorem r_n55_20 (s : S) : n55_20 s = behK 16 (stepsO X (annT 55) C (gO c55_20) o55_20.1 s) := q_region (annT 55) s 6 _ false rfl _ _ rfl rfl o55_20.2
theorem g_o55_20 (j : Nat) : gdst (gO c55_20) j = (o55_20.1[j]?).bind Oper.dst := gd_eq o55_20.2 j
theorem r_n55_21 (s : S) : n55_21 s = some (.ret, s) := run_ret _ s
theorem r_n55_19 (s : S) : n55_19 s = contK n55_21 (n55_20 s) := q_seq _ c55_20 c55_21 s
theorem r_n55_4 (s : S) : n55_4 s = contK n55_19 (n55_5 s) := q_seq _ c55_5 c55_19 s
theorem r_n55_2 (s : S) : n55_2 s = contK n55_4 (n55_3 s) := q_seq _ c55_3 c55_4 s
theorem r_n55_0 (s : S) : n55_0 s = contK n55_2 (n55_1 s) := q_seq _ c55_1 c55_2 s
theorem va_55 : (annT 55).virt = [] := rfl
theorem wa_55 : (annT 55).wr = [] := rfl
theorem ya_55 : (annT 55).ty = [] := rfl
theorem cv_55 (call : Eng.Call) (wr : Bool) (args : List AV) (st : Store) : callV X call wr 55 args st = cvP call wr 55 args st (fzAll (fz false st 6) args) := cv_pure rfl rfl call wr args st
theorem p55 (ds : List D) : pureCall C 55 ds = ((n55_0 ⟨argsT 0 (ds.map .d), []⟩).bind (bodyR [.tmp 4])).bind prOf := P_eq Try.f55 rfl rfl rfl rfl ds
theorem q55 (vs : List AV) (st : Store) : C 55 vs st = (n55_0 ⟨argsT 0 vs, st⟩).bind (bodyR [.tmp 4]) := C_eq Try.f55 rfl rfl rfl rfl vs st
attribute [go_sem] r_n55_1 g_o55_1 o55_1 r_n55_3 g_o55_3 o55_3 r_n55_6 g_o55_6 o55_6 r_n55_11 g_o55_11 o55_11 r_n55_13 r_n55_14 r_n55_12 r_n55_10 r_n55_17 g_o55_17 o55_17 r_n55_16 r_n55_18 g_o55_18 o55_18 r_n55_15 r_n55_9 r_n55_7 r_n55_5 r_n55_20 g_o55_20 o55_20 r_n55_21 r_n55_19 r_n55_4 r_n55_2 r_n55_0 va_55 wa_55 ya_55 cv_55

noncomputable def c75_0 : Code := Try.f75.body.getD .skip
noncomputable def n75_0 : S → RS := run (annT 75) c75_0
noncomputable def c75_1 : Code := gL c75_0
noncomputable def n75_1 : S → RS := run (annT 75) c75_1
noncomputable def o75_1 : {l : List Oper // (gO c75_1).toList = l} := ⟨_, by conv => (lhs; whnf)⟩
noncomputable def c75_2 : Code := gR c75_0
noncomputable def n75_2 : S → RS := run (annT 75) c75_2
noncomputable def c75_3 : Code := gL c75_2
noncomputable def n75_3 : S → RS := run (annT 75) c75_3
noncomputable def c75_4 : Code := gL c75_3
noncomputable def n75_4 : S → RS := run (annT 75) c75_4
noncomputable def o75_4 : {l : List Oper // (gO c75_4).toList = l} := ⟨_, by conv => (lhs; whnf)⟩
noncomputable def c75_5 : Code := gR c75_3
noncomputable def n75_5 : S → RS := run (annT 75) c75_5
noncomputable def c75_6 : Code := gT c75_5
noncomputable def n75_6 : S → RS := run (annT 75) c75_6
noncomputable def c75_7 : Code := gL c75_6
noncomputable def n75_7 : S → RS := run (annT 75) c75_7
noncomputable def o75_7 : {l : List Oper // (gO c75_7).toList = l} := ⟨_, by conv => (lhs; whnf)⟩
noncomputable def c75_8 : Code := gR c75_6
noncomputable def n75_8 : S → RS := run (annT 75) c75_8
noncomputable def c75_9 : Code := gF c75_5
noncomputable def n75_9 : S → RS := run (annT 75) c75_9
noncomputable def c75_10 : Code := gR c75_2
noncomputable def n75_10 : S → RS := run (annT 75) c75_10
noncomputable def c75_11 : Code := gL c75_10
noncomputable def n75_11 : S → RS := run (annT 75) c75_11
noncomputable def c75_12 : Code := gL c75_11
noncomputable def n75_12 : S → RS := run (annT 75) c75_12
noncomputable def o75_12 : {l : List Oper // (gO c75_12).toList = l} := ⟨_, by conv => (lhs; whnf)⟩
noncomputable def c75_13 : Code := gR c75_11
noncomputable def n75_13 : S → RS := run (annT 75) c75_13
noncomputable def c75_14 : Code := gB c75_13
noncomputable def n75_14 : S → RS := run (annT 75) c75_14
noncomputable def c75_15 : Code := gB c75_14
noncomputable def n75_15 : S → RS := run (annT 75) c75_15
noncomputable def c75_16 : Code := gL c75_15
noncomputable def n75_16 : S → RS := run (annT 75) c75_16
noncomputable def c75_17 : Code := gL c75_16
noncomputable def n75_17 : S → RS := run (annT 75) c75_17
noncomputable def o75_17 : {l : List Oper // (gO c75_17).toList = l} := ⟨_, by conv => (lhs; whnf)⟩
noncomputable def c75_18 : Code := gR c75_16
noncomputable def n75_18 : S → RS := run (annT 75) c75_18
noncomputable def c75_19 : Code := gT c75_18
noncomputable def n75_19 : S → RS := run (annT 75) c75_19
noncomputable def c75_20 : Code := gF c75_18
noncomputable def n75_20 : S → RS := run (annT 75) c75_20
noncomputable def c75_21 : Code := gR c75_15
noncomputable def n75_21 : S → RS := run (annT 75) c75_21
noncomputable def c75_22 : Code := gL c75_21
noncomputable def n75_22 : S → RS := run (annT 75) c75_22
noncomputable def c75_23 : Code := gB c75_22
noncomputable def n75_23 : S → RS := run (annT 75) c75_23
noncomputable def c75_24 : Code := gL c75_23
noncomputable def n75_24 : S → RS := run (annT 75) c75_24
noncomputable def o75_24 : {l : List Oper // (gO c75_24).toList = l} := ⟨_, by conv => (lhs; whnf)⟩
noncomputable def c75_25 : Code := gR c75_23
noncomputable def n75_25 : S → RS := run (annT 75) c75_25
noncomputable def c75_26 : Code := gL c75_25
noncomputable def n75_26 : S → RS := run (annT 75) c75_26
noncomputable def o75_26 : {l : List Oper // (gO c75_26).toList = l} := ⟨_, by conv => (lhs; whnf)⟩
noncomputable def c75_27 : Code := gR c75_25
noncomputable def n75_27 : S → RS := run (annT 75) c75_27
noncomputable def c75_28 : Code := gT c75_27
noncomputable def n75_28 : S → RS := run (annT 75) c75_28
noncomputable def c75_29 : Code := gL c75_28
noncomputable def n75_29 : S → RS := run (annT 75) c75_29
noncomputable def o75_29 : {l : List Oper // (gO c75_29).toList = l} := ⟨_, by conv => (lhs; whnf)⟩
noncomputable def c75_30 : Code := gR c75_28
noncomputable def n75_30 : S → RS := run (annT 75) c75_30
noncomputable def c75_31 : Code := gF c75_27
noncomputable def n75_31 : S → RS := run (annT 75) c75_31
noncomputable def c75_32 : Code := gR c75_21
noncomputable def n75_32 : S → RS := run (annT 75) c75_32
noncomputable def o75_32 : {l : List Oper // (gO c75_32).toList = l} := ⟨_, by conv => (lhs; whnf)⟩
noncomputable def c75_33 : Code := gR c75_10
noncomputable def n75_33 : S → RS := run (annT 75) c75_33
noncomputable def c75_34 : Code := gL c75_33
noncomputable def n75_34 : S → RS := run (annT 75) c75_34
noncomputable def o75_34 : {l : List Oper // (gO c75_34).toList = l} := ⟨_, by conv => (lhs; whnf)⟩
noncomputable def c75_35 : Code := gR c75_33
noncomputable def n75_35 : S → RS := run (annT 75) c75_35
theorem r_n75_1 (s : S) : n75_1 s = behK 1 (stepsO X (annT 75) C (gO c75_1) o75_1.1 s) := q_region (annT 75) s 0 _ false rfl _ _ rfl rfl o75_1.2
theorem g_o75_1 (j : Nat) : gdst (gO c75_1) j = (o75_1.1[j]?).bind Oper.dst := gd_eq o75_1.2 j
theorem r_n75_4 (s : S) : n75_4 s = behK 131073 (stepsO X (annT 75) C (gO c75_4) o75_4.1 s) := q_region (annT 75) s 1 _ false rfl _ _ rfl rfl o75_4.2
theorem g_o75_4 (j : Nat) : gdst (gO c75_4) j = (o75_4.1[j]?).bind Oper.dst := gd_eq o75_4.2 j
theorem r_n75_7 (s : S) : n75_7 s = behK 4 (stepsO X (annT 75) C (gO c75_7) o75_7.1 s) := q_region (annT 75) s 2 _ false rfl _ _ rfl rfl o75_7.2
theorem g_o75_7 (j : Nat) : gdst (gO c75_7) j = (o75_7.1[j]?).bind Oper.dst := gd_eq o75_7.2 j
theorem r_n75_8 (s : S) : n75_8 s = some (.ret, s) := run_ret _ s
theorem r_n75_6 (s : S) : n75_6 s = contK n75_8 (n75_7 s) := q_seq _ c75_7 c75_8 s
theorem r_n75_9 (s : S) : n75_9 s = some (.norm, s) := run_skip _ s
theorem r_n75_5 (s : S) : n75_5 s = condK (opv s.t (.tmp 17)) n75_6 n75_9 s := q_cond _ c75_6 c75_9 s (.tmp 17)
theorem r_n75_3 (s : S) : n75_3 s = contK n75_5 (n75_4 s) := q_seq _ c75_4 c75_5 s
theorem r_n75_12 (s : S) : n75_12 s = behK 9 (stepsO X (annT 75) C (gO c75_12) o75_12.1 s) := q_region (annT 75) s 3 _ false rfl _ _ rfl rfl o75_12.2
theorem g_o75_12 (j : Nat) : gdst (gO c75_12) j = (o75_12.1[j]?).bind Oper.dst := gd_eq o75_12.2 j
theorem r_n75_17 (s : S) : n75_17 s = behK 2097161 (stepsO X (annT 75) C (gO c75_17) o75_17.1 s) := q_region (annT 75) s 4 _ false rfl _ _ rfl rfl o75_17.2
theorem g_o75_17 (j : Nat) : gdst (gO c75_17) j = (o75_17.1[j]?).bind Oper.dst := gd_eq o75_17.2 j
theorem r_n75_19 (s : S) : n75_19 s = some (.norm, s) := run_skip _ s
theorem r_n75_20 (s : S) : n75_20 s = some (.exit 0, s) := run_exit _ s 0
theorem r_n75_18 (s : S) : n75_18 s = condK (opv s.t (.tmp 21)) n75_19 n75_20 s := q_cond _ c75_19 c75_20 s (.tmp 21)
theorem r_n75_16 (s : S) : n75_16 s = contK n75_18 (n75_17 s) := q_seq _ c75_17 c75_18 s
theorem r_n75_24 (s : S) : n75_24 s = behK 25 (stepsO X (annT 75) C (gO c75_24) o75_24.1 s) := q_region (annT 75) s 6 _ false rfl _ _ rfl rfl o75_24.2
theorem g_o75_24 (j : Nat) : gdst (gO c75_24) j = (o75_24.1[j]?).bind Oper.dst := gd_eq o75_24.2 j
theorem r_n75_26 (s : S) : n75_26 s = behK 2199023255561 (stepsO X (annT 75) C (gO c75_26) o75_26.1 s) := q_region (annT 75) s 7 _ false rfl _ _ rfl rfl o75_26.2
theorem g_o75_26 (j : Nat) : gdst (gO c75_26) j = (o75_26.1[j]?).bind Oper.dst := gd_eq o75_26.2 j
theorem r_n75_29 (s : S) : n75_29 s = behK 4 (stepsO X (annT 75) C (gO c75_29) o75_29.1 s) := q_region (annT 75) s 8 _ false rfl _ _ rfl rfl o75_29.2
theorem g_o75_29 (j : Nat) : gdst (gO c75_29) j = (o75_29.1[j]?).bind Oper.dst := gd_eq o75_29.2 j
theorem r_n75_30 (s : S) : n75_30 s = some (.ret, s) := run_ret _ s
theorem r_n75_28 (s : S) : n75_28 s = contK n75_30 (n75_29 s) := q_seq _ c75_29 c75_30 s
theorem r_n75_31 (s : S) : n75_31 s = some (.norm, s) := run_skip _ s
theorem r_n75_27 (s : S) : n75_27 s = condK (opv s.t (.tmp 41)) n75_28 n75_31 s := q_cond _ c75_28 c75_31 s (.tmp 41)
theorem r_n75_25 (s : S) : n75_25 s = contK n75_27 (n75_26 s) := q_seq _ c75_26 c75_27 s
theorem r_n75_23 (s : S) : n75_23 s = contK n75_25 (n75_24 s) := q_seq _ c75_24 c75_25 s
theorem r_n75_22 (s : S) : n75_22 s = blkK 1 (n75_23 s) := q_block _ c75_23 s 1
theorem r_n75_32 (s : S) : n75_32 s = behK 9 (stepsO X (annT 75) C (gO c75_32) o75_32.1 s) := q_region (annT 75) s 5 _ false rfl _ _ rfl rfl o75_32.2
theorem g_o75_32 (j : Nat) : gdst (gO c75_32) j = (o75_32.1[j]?).bind Oper.dst := gd_eq o75_32.2 j
theorem r_n75_21 (s : S) : n75_21 s = contK n75_32 (n75_22 s) := q_seq _ c75_22 c75_32 s
theorem r_n75_15 (s : S) : n75_15 s = contK n75_21 (n75_16 s) := q_seq _ c75_16 c75_21 s
theorem r_n75_14 (s : S) : n75_14 s = loopK 9 s.st.length n75_14 (n75_15 s) := q_loop (annT 75) c75_15 s _ _ rfl rfl
theorem r_n75_13 (s : S) : n75_13 s = blkK 0 (n75_14 s) := q_block _ c75_14 s 0
theorem r_n75_11 (s : S) : n75_11 s = contK n75_13 (n75_12 s) := q_seq _ c75_12 c75_13 s
theorem r_n75_34 (s : S) : n75_34 s = behK 4 (stepsO X (annT 75) C (gO c75_34) o75_34.1 s) := q_region (annT 75) s 9 _ false rfl _ _ rfl rfl o75_34.2
theorem g_o75_34 (j : Nat) : gdst (gO c75_34) j = (o75_34.1[j]?).bind Oper.dst := gd_eq o75_34.2 j
theorem r_n75_35 (s : S) : n75_35 s = some (.ret, s) := run_ret _ s
theorem r_n75_33 (s : S) : n75_33 s = contK n75_35 (n75_34 s) := q_seq _ c75_34 c75_35 s
theorem r_n75_10 (s : S) : n75_10 s = contK n75_33 (n75_11 s) := q_seq _ c75_11 c75_33 s
theorem r_n75_2 (s : S) : n75_2 s = contK n75_10 (n75_3 s) := q_seq _ c75_3 c75_10 s
theorem r_n75_0 (s : S) : n75_0 s = contK n75_2 (n75_1 s) := q_seq _ c75_1 c75_2 s
theorem va_75 : (annT 75).virt = [] := rfl
theorem wa_75 : (annT 75).wr = [] := rfl
theorem ya_75 : (annT 75).ty = [] := rfl
theorem cv_75 (call : Eng.Call) (wr : Bool) (args : List AV) (st : Store) : callV X call wr 75 args st = cvP call wr 75 args st (fzAll (fz false st 6) args) := cv_pure rfl rfl call wr args st
theorem p75 (ds : List D) : pureCall C 75 ds = ((n75_0 ⟨argsT 0 (ds.map .d), []⟩).bind (bodyR [.tmp 2])).bind prOf := P_eq Try.f75 rfl rfl rfl rfl ds
theorem q75 (vs : List AV) (st : Store) : C 75 vs st = (n75_0 ⟨argsT 0 vs, st⟩).bind (bodyR [.tmp 2]) := C_eq Try.f75 rfl rfl rfl rfl vs st
attribute [go_sem] r_n75_1 g_o75_1 o75_1 r_n75_4 g_o75_4 o75_4 r_n75_7 g_o75_7 o75_7 r_n75_8 r_n75_6 r_n75_9 r_n75_5 r_n75_3 r_n75_12 g_o75_12 o75_12 r_n75_17 g_o75_17 o75_17 r_n75_19 r_n75_20 r_n75_18 r_n75_16 r_n75_24 g_o75_24 o75_24 r_n75_26 g_o75_26 o75_26 r_n75_29 g_o75_29 o75_29 r_n75_30 r_n75_28 r_n75_31 r_n75_27 r_n75_25 r_n75_23 r_n75_22 r_n75_32 g_o75_32 o75_32 r_n75_21 r_n75_15 r_n75_13 r_n75_11 r_n75_34 g_o75_34 o75_34 r_n75_35 r_n75_33 r_n75_10 r_n75_2 r_n75_0 va_75 wa_75 ya_75 cv_75

noncomputable def c92_0 : Code := Try.f92.body.getD .skip
noncomputable def n92_0 : S → RS := run (annT 92) c92_0
noncomputable def c92_1 : Code := gL c92_0
noncomputable def n92_1 : S → RS := run (annT 92) c92_1
noncomputable def o92_1 : {l : List Oper // (gO c92_1).toList = l} := ⟨_, by conv => (lhs; whnf)⟩
noncomputable def c92_2 : Code := gR c92_0
noncomputable def n92_2 : S → RS := run (annT 92) c92_2
noncomputable def c92_3 : Code := gL c92_2
noncomputable def n92_3 : S → RS := run (annT 92) c92_3
noncomputable def o92_3 : {l : List Oper // (gO c92_3).toList = l} := ⟨_, by conv => (lhs; whnf)⟩
noncomputable def c92_4 : Code := gR c92_2
noncomputable def n92_4 : S → RS := run (annT 92) c92_4
theorem r_n92_1 (s : S) : n92_1 s = behK 1 (stepsO X (annT 92) C (gO c92_1) o92_1.1 s) := q_region (annT 92) s 0 _ false rfl _ _ rfl rfl o92_1.2
theorem g_o92_1 (j : Nat) : gdst (gO c92_1) j = (o92_1.1[j]?).bind Oper.dst := gd_eq o92_1.2 j
theorem r_n92_3 (s : S) : n92_3 s = behK 4 (stepsO X (annT 92) C (gO c92_3) o92_3.1 s) := q_region (annT 92) s 1 _ false rfl _ _ rfl rfl o92_3.2
theorem g_o92_3 (j : Nat) : gdst (gO c92_3) j = (o92_3.1[j]?).bind Oper.dst := gd_eq o92_3.2 j
theorem r_n92_4 (s : S) : n92_4 s = some (.ret, s) := run_ret _ s
theorem r_n92_2 (s : S) : n92_2 s = contK n92_4 (n92_3 s) := q_seq _ c92_3 c92_4 s
theorem r_n92_0 (s : S) : n92_0 s = contK n92_2 (n92_1 s) := q_seq _ c92_1 c92_2 s
theorem va_92 : (annT 92).virt = [] := rfl
theorem wa_92 : (annT 92).wr = [] := rfl
theorem ya_92 : (annT 92).ty = [] := rfl
theorem cv_92 (call : Eng.Call) (wr : Bool) (args : List AV) (st : Store) : callV X call wr 92 args st = cvP call wr 92 args st (fzAll (fz false st 6) args) := cv_pure rfl rfl call wr args st
theorem p92 (ds : List D) : pureCall C 92 ds = ((n92_0 ⟨argsT 0 (ds.map .d), []⟩).bind (bodyR [.tmp 2])).bind prOf := P_eq Try.f92 rfl rfl rfl rfl ds
theorem q92 (vs : List AV) (st : Store) : C 92 vs st = (n92_0 ⟨argsT 0 vs, st⟩).bind (bodyR [.tmp 2]) := C_eq Try.f92 rfl rfl rfl rfl vs st
attribute [go_sem] r_n92_1 g_o92_1 o92_1 r_n92_3 g_o92_3 o92_3 r_n92_4 r_n92_2 r_n92_0 va_92 wa_92 ya_92 cv_92

noncomputable def c94_0 : Code := Try.f94.body.getD .skip
noncomputable def n94_0 : S → RS := run (annT 94) c94_0
noncomputable def c94_1 : Code := gL c94_0
noncomputable def n94_1 : S → RS := run (annT 94) c94_1
noncomputable def o94_1 : {l : List Oper // (gO c94_1).toList = l} := ⟨_, by conv => (lhs; whnf)⟩
noncomputable def c94_2 : Code := gR c94_0
noncomputable def n94_2 : S → RS := run (annT 94) c94_2
noncomputable def c94_3 : Code := gL c94_2
noncomputable def n94_3 : S → RS := run (annT 94) c94_3
noncomputable def o94_3 : {l : List Oper // (gO c94_3).toList = l} := ⟨_, by conv => (lhs; whnf)⟩
noncomputable def c94_4 : Code := gR c94_2
noncomputable def n94_4 : S → RS := run (annT 94) c94_4
theorem r_n94_1 (s : S) : n94_1 s = behK 1 (stepsO X (annT 94) C (gO c94_1) o94_1.1 s) := q_region (annT 94) s 0 _ false rfl _ _ rfl rfl o94_1.2
theorem g_o94_1 (j : Nat) : gdst (gO c94_1) j = (o94_1.1[j]?).bind Oper.dst := gd_eq o94_1.2 j
theorem r_n94_3 (s : S) : n94_3 s = behK 4 (stepsO X (annT 94) C (gO c94_3) o94_3.1 s) := q_region (annT 94) s 1 _ false rfl _ _ rfl rfl o94_3.2
theorem g_o94_3 (j : Nat) : gdst (gO c94_3) j = (o94_3.1[j]?).bind Oper.dst := gd_eq o94_3.2 j
theorem r_n94_4 (s : S) : n94_4 s = some (.ret, s) := run_ret _ s
theorem r_n94_2 (s : S) : n94_2 s = contK n94_4 (n94_3 s) := q_seq _ c94_3 c94_4 s
theorem r_n94_0 (s : S) : n94_0 s = contK n94_2 (n94_1 s) := q_seq _ c94_1 c94_2 s
theorem va_94 : (annT 94).virt = [] := rfl
theorem wa_94 : (annT 94).wr = [] := rfl
theorem ya_94 : (annT 94).ty = [] := rfl
theorem cv_94 (call : Eng.Call) (wr : Bool) (args : List AV) (st : Store) : callV X call wr 94 args st = cvP call wr 94 args st (fzAll (fz false st 6) args) := cv_pure rfl rfl call wr args st
theorem p94 (ds : List D) : pureCall C 94 ds = ((n94_0 ⟨argsT 0 (ds.map .d), []⟩).bind (bodyR [.tmp 2])).bind prOf := P_eq Try.f94 rfl rfl rfl rfl ds
theorem q94 (vs : List AV) (st : Store) : C 94 vs st = (n94_0 ⟨argsT 0 vs, st⟩).bind (bodyR [.tmp 2]) := C_eq Try.f94 rfl rfl rfl rfl vs st
attribute [go_sem] r_n94_1 g_o94_1 o94_1 r_n94_3 g_o94_3 o94_3 r_n94_4 r_n94_2 r_n94_0 va_94 wa_94 ya_94 cv_94

noncomputable def c98_0 : Code := Try.f98.body.getD .skip
noncomputable def n98_0 : S → RS := run (annT 98) c98_0
noncomputable def c98_1 : Code := gL c98_0
noncomputable def n98_1 : S → RS := run (annT 98) c98_1
noncomputable def o98_1 : {l : List Oper // (gO c98_1).toList = l} := ⟨_, by conv => (lhs; whnf)⟩
noncomputable def c98_2 : Code := gR c98_0
noncomputable def n98_2 : S → RS := run (annT 98) c98_2
noncomputable def c98_3 : Code := gL c98_2
noncomputable def n98_3 : S → RS := run (annT 98) c98_3
noncomputable def c98_4 : Code := gL c98_3
noncomputable def n98_4 : S → RS := run (annT 98) c98_4
noncomputable def o98_4 : {l : List Oper // (gO c98_4).toList = l} := ⟨_, by conv => (lhs; whnf)⟩
noncomputable def c98_5 : Code := gR c98_3
noncomputable def n98_5 : S → RS := run (annT 98) c98_5
noncomputable def c98_6 : Code := gB c98_5
noncomputable def n98_6 : S → RS := run (annT 98) c98_6
noncomputable def c98_7 : Code := gB c98_6
noncomputable def n98_7 : S → RS := run (annT 98) c98_7
noncomputable def c98_8 : Code := gL c98_7
noncomputable def n98_8 : S → RS := run (annT 98) c98_8
noncomputable def o98_8 : {l : List Oper // (gO c98_8).toList = l} := ⟨_, by conv => (lhs; whnf)⟩
noncomputable def c98_9 : Code := gR c98_7
noncomputable def n98_9 : S → RS := run (annT 98) c98_9
noncomputable def c98_10 : Code := gL c98_9
noncomputable def n98_10 : S → RS := run (annT 98) c98_10
noncomputable def c98_11 : Code := gT c98_10
noncomputable def n98_11 : S → RS := run (annT 98) c98_11
noncomputable def c98_12 : Code := gF c98_10
noncomputable def n98_12 : S → RS := run (annT 98) c98_12
noncomputable def c98_13 : Code := gR c98_9
noncomputable def n98_13 : S → RS := run (annT 98) c98_13
noncomputable def c98_14 : Code := gL c98_13
noncomputable def n98_14 : S → RS := run (annT 98) c98_14
noncomputable def c98_15 : Code := gB c98_14
noncomputable def n98_15 : S → RS := run (annT 98) c98_15
noncomputable def c98_16 : Code := gL c98_15
noncomputable def n98_16 : S → RS := run (annT 98) c98_16
noncomputable def o98_16 : {l : List Oper // (gO c98_16).toList = l} := ⟨_, by conv => (lhs; whnf)⟩
noncomputable def c98_17 : Code := gR c98_15
noncomputable def n98_17 : S → RS := run (annT 98) c98_17
noncomputable def c98_18 : Code := gL c98_17
noncomputable def n98_18 : S → RS := run (annT 98) c98_18
noncomputable def o98_18 : {l : List Oper // (gO c98_18).toList = l} := ⟨_, by conv => (lhs; whnf)⟩
noncomputable def c98_19 : Code := gR c98_17
noncomputable def n98_19 : S → RS := run (annT 98) c98_19
noncomputable def c98_20 : Code := gT c98_19
noncomputable def n98_20 : S → RS := run (annT 98) c98_20
noncomputable def c98_21 : Code := gL c98_20
noncomputable def n98_21 : S → RS := run (annT 98) c98_21
noncomputable def o98_21 : {l : List Oper // (gO c98_21).toList = l} := ⟨_, by conv => (lhs; whnf)⟩
noncomputable def c98_22 : Code := gR c98_20
noncomputable def n98_22 : S → RS := run (annT 98) c98_22
noncomputable def c98_23 : Code := gF c98_19
noncomputable def n98_23 : S → RS := run (annT 98) c98_23
noncomputable def c98_24 : Code := gR c98_13
noncomputable def n98_24 : S → RS := run (annT 98) c98_24
noncomputable def o98_24 : {l : List Oper // (gO c98_24).toList = l} := ⟨_, by conv => (lhs; whnf)⟩
noncomputable def c98_25 : Code := gR c98_2
noncomputable def n98_25 : S → RS := run (annT 98) c98_25
noncomputable def c98_26 : Code := gL c98_25
noncomputable def n98_26 : S → RS := run (annT 98) c98_26
noncomputable def o98_26 : {l : List Oper // (gO c98_26).toList = l} := ⟨_, by conv => (lhs; whnf)⟩
noncomputable def c98_27 : Code := gR c98_25
noncomputable def n98_27 : S → RS := run (annT 98) c98_27
theorem r_n98_1 (s : S) : n98_1 s = behK 3 (stepsO X (annT 98) C (gO c98_1) o98_1.1 s) := q_region (annT 98) s 0 _ false rfl _ _ rfl rfl o98_1.2
theorem g_o98_1 (j : Nat) : gdst (gO c98_1) j = (o98_1.1[j]?).bind Oper.dst := gd_eq o98_1.2 j
theorem r_n98_4 (s : S) : n98_4 s = behK 387 (stepsO X (annT 98) C (gO c98_4) o98_4.1 s) := q_region (annT 98) s 1 _ false rfl _ _ rfl rfl o98_4.2
theorem g_o98_4 (j : Nat) : gdst (gO c98_4) j = (o98_4.1[j]?).bind Oper.dst := gd_eq o98_4.2 j
theorem r_n98_8 (s : S) : n98_8 s = behK 899 (stepsO X (annT 98) C (gO c98_8) o98_8.1 s) := q_region (annT 98) s 2 _ false rfl _ _ rfl rfl o98_8.2
theorem g_o98_8 (j : Nat) : gdst (gO c98_8) j = (o98_8.1[j]?).bind Oper.dst := gd_eq o98_8.2 j
theorem r_n98_11 (s : S) : n98_11 s = some (.norm, s) := run_skip _ s
theorem r_n98_12 (s : S) : n98_12 s = some (.exit 0, s) := run_exit _ s 0
theorem r_n98_10 (s : S) : n98_10 s = condK (opv s.t (.tmp 9)) n98_11 n98_12 s := q_cond _ c98_11 c98_12 s (.tmp 9)
theorem r_n98_16 (s : S) : n98_16 s = behK 419 (stepsO X (annT 98) C (gO c98_16) o98_16.1 s) := q_region (annT 98) s 3 _ false rfl _ _ rfl rfl o98_16.2
theorem g_o98_16 (j : Nat) : gdst (gO c98_16) j = (o98_16.1[j]?).bind Oper.dst := gd_eq o98_16.2 j
theorem r_n98_18 (s : S) : n98_18 s = behK 65955 (stepsO X (annT 98) C (gO c98_18) o98_18.1 s) := q_region (annT 98) s 4 _ false rfl _ _ rfl rfl o98_18.2
theorem g_o98_18 (j : Nat) : gdst (gO c98_18) j = (o98_18.1[j]?).bind Oper.dst := gd_eq o98_18.2 j
theorem r_n98_21 (s : S) : n98_21 s = behK 16 (stepsO X (annT 98) C (gO c98_21) o98_21.1 s) := q_region (annT 98) s 5 _ false rfl _ _ rfl rfl o98_21.2
theorem g_o98_21 (j : Nat) : gdst (gO c98_21) j = (o98_21.1[j]?).bind Oper.dst := gd_eq o98_21.2 j
theorem r_n98_22 (s : S) : n98_22 s = some (.ret, s) := run_ret _ s
theorem r_n98_20 (s : S) : n98_20 s = contK n98_22 (n98_21 s) := q_seq _ c98_21 c98_22 s
theorem r_n98_23 (s : S) : n98_23 s = some (.norm, s) := run_skip _ s
theorem r_n98_19 (s : S) : n98_19 s = condK (opv s.t (.tmp 16)) n98_20 n98_23 s := q_cond _ c98_20 c98_23 s (.tmp 16)
theorem r_n98_17 (s : S) : n98_17 s = contK n98_19 (n98_18 s) := q_seq _ c98_18 c98_19 s
theorem r_n98_15 (s : S) : n98_15 s = contK n98_17 (n98_16 s) := q_seq _ c98_16 c98_17 s
theorem r_n98_14 (s : S) : n98_14 s = blkK 1 (n98_15 s) := q_block _ c98_15 s 1
theorem r_n98_24 (s : S) : n98_24 s = behK 387 (stepsO X (annT 98) C (gO c98_24) o98_24.1 s) := q_region (annT 98) s 6 _ false rfl _ _ rfl rfl o98_24.2
theorem g_o98_24 (j : Nat) : gdst (gO c98_24) j = (o98_24.1[j]?).bind Oper.dst := gd_eq o98_24.2 j
theorem r_n98_13 (s : S) : n98_13 s = contK n98_24 (n98_14 s) := q_seq _ c98_14 c98_24 s
theorem r_n98_9 (s : S) : n98_9 s = contK n98_13 (n98_10 s) := q_seq _ c98_10 c98_13 s
theorem r_n98_7 (s : S) : n98_7 s = contK n98_9 (n98_8 s) := q_seq _ c98_8 c98_9 s
theorem r_n98_6 (s : S) : n98_6 s = loopK 387 s.st.length n98_6 (n98_7 s) := q_loop (annT 98) c98_7 s _ _ rfl rfl
theorem r_n98_5 (s : S) : n98_5 s = blkK 0 (n98_6 s) := q_block _ c98_6 s 0
theorem r_n98_3 (s : S) : n98_3 s = contK n98_5 (n98_4 s) := q_seq _ c98_4 c98_5 s
theorem r_n98_26 (s : S) : n98_26 s = behK 16 (stepsO X (annT 98) C (gO c98_26) o98_26.1 s) := q_region (annT 98) s 7 _ false rfl _ _ rfl rfl o98_26.2
theorem g_o98_26 (j : Nat) : gdst (gO c98_26) j = (o98_26.1[j]?).bind Oper.dst := gd_eq o98_26.2 j
theorem r_n98_27 (s : S) : n98_27 s = some (.ret, s) := run_ret _ s
theorem r_n98_25 (s : S) : n98_25 s = contK n98_27 (n98_26 s) := q_seq _ c98_26 c98_27 s
theorem r_n98_2 (s : S) : n98_2 s = contK n98_25 (n98_3 s) := q_seq _ c98_3 c98_25 s
theorem r_n98_0 (s : S) : n98_0 s = contK n98_2 (n98_1 s) := q_seq _ c98_1 c98_2 s
theorem va_98 : (annT 98).virt = [] := rfl
theorem wa_98 : (annT 98).wr = [] := rfl
theorem ya_98 : (annT 98).ty = [] := rfl
theorem cv_98 (call : Eng.Call) (wr : Bool) (args : List AV) (st : Store) : callV X call wr 98 args st = cvP call wr 98 args st (fzAll (fz false st 6) args) := cv_pure rfl rfl call wr args st
theorem p98 (ds : List D) : pureCall C 98 ds = ((n98_0 ⟨argsT 0 (ds.map .d), []⟩).bind (bodyR [.tmp 4])).bind prOf := P_eq Try.f98 rfl rfl rfl rfl ds
theorem q98 (vs : List AV) (st : Store) : C 98 vs st = (n98_0 ⟨argsT 0 vs, st⟩).bind (bodyR [.tmp 4]) := C_eq Try.f98 rfl rfl rfl rfl vs st
attribute [go_sem] r_n98_1 g_o98_1 o98_1 r_n98_4 g_o98_4 o98_4 r_n98_8 g_o98_8 o98_8 r_n98_11 r_n98_12 r_n98_10 r_n98_16 g_o98_16 o98_16 r_n98_18 g_o98_18 o98_18 r_n98_21 g_o98_21 o98_21 r_n98_22 r_n98_20 r_n98_23 r_n98_19 r_n98_17 r_n98_15 r_n98_14 r_n98_24 g_o98_24 o98_24 r_n98_13 r_n98_9 r_n98_7 r_n98_5 r_n98_3 r_n98_26 g_o98_26 o98_26 r_n98_27 r_n98_25 r_n98_2 r_n98_0 va_98 wa_98 ya_98 cv_98

noncomputable def c93_0 : Code := Try.f93.body.getD .skip
noncomputable def n93_0 : S → RS := run (annT 93) c93_0
noncomputable def c93_1 : Code := gL c93_0
noncomputable def n93_1 : S → RS := run (annT 93) c93_1
noncomputable def o93_1 : {l : List Oper // (gO c93_1).toList = l} := ⟨_, by conv => (lhs; whnf)⟩
noncomputable def c93_2 : Code := gR c93_0
noncomputable def n93_2 : S → RS := run (annT 93) c93_2
noncomputable def c93_3 : Code := gL c93_2
noncomputable def n93_3 : S → RS := run (annT 93) c93_3
noncomputable def o93_3 : {l : List Oper // (gO c93_3).toList = l} := ⟨_, by conv => (lhs; whnf)⟩
noncomputable def c93_4 : Code := gR c93_2
noncomputable def n93_4 : S → RS := run (annT 93) c93_4
theorem r_n93_1 (s : S) : n93_1 s = behK 3 (stepsO X (annT 93) C (gO c93_1) o93_1.1 s) := q_region (annT 93) s 0 _ false rfl _ _ rfl rfl o93_1.2
theorem g_o93_1 (j : Nat) : gdst (gO c93_1) j = (o93_1.1[j]?).bind Oper.dst := gd_eq o93_1.2 j
theorem r_n93_3 (s : S) : n93_3 s = behK 16 (stepsO X (annT 93) C (gO c93_3) o93_3.1 s) := q_region (annT 93) s 1 _ false rfl _ _ rfl rfl o93_3.2
theorem g_o93_3 (j : Nat) : gdst (gO c93_3) j = (o93_3.1[j]?).bind Oper.dst := gd_eq o93_3.2 j
theorem r_n93_4 (s : S) : n93_4 s = some (.ret, s) := run_ret _ s
theorem r_n93_2 (s : S) : n93_2 s = contK n93_4 (n93_3 s) := q_seq _ c93_3 c93_4 s
theorem r_n93_0 (s : S) : n93_0 s = contK n93_2 (n93_1 s) := q_seq _ c93_1 c93_2 s
theorem va_93 : (annT 93).virt = [] := rfl
theorem wa_93 : (annT 93).wr = [] := rfl
theorem ya_93 : (annT 93).ty = [] := rfl
theorem cv_93 (call : Eng.Call) (wr : Bool) (args : List AV) (st : Store) : callV X call wr 93 args st = cvP call wr 93 args st (fzAll (fz false st 6) args) := cv_pure rfl rfl call wr args st
theorem p93 (ds : List D) : pureCall C 93 ds = ((n93_0 ⟨argsT 0 (ds.map .d), []⟩).bind (bodyR [.tmp 4])).bind prOf := P_eq Try.f93 rfl rfl rfl rfl ds
theorem q93 (vs : List AV) (st : Store) : C 93 vs st = (n93_0 ⟨argsT 0 vs, st⟩).bind (bodyR [.tmp 4]) := C_eq Try.f93 rfl rfl rfl rfl vs st
attribute [go_sem] r_n93_1 g_o93_1 o93_1 r_n93_3 g_o93_3 o93_3 r_n93_4 r_n93_2 r_n93_0 va_93 wa_93 ya_93 cv_93

noncomputable def c99_0 : Code := Try.f99.body.getD .skip
noncomputable def n99_0 : S → RS := run (annT 99) c99_0
noncomputable def c99_1 : Code := gL c99_0
noncomputable def n99_1 : S → RS := run (annT 99) c99_1
noncomputable def o99_1 : {l : List Oper // (gO c99_1).toList = l} := ⟨_, by conv => (lhs; whnf)⟩
noncomputable def c99_2 : Code := gR c99_0
noncomputable def n99_2 : S → RS := run (annT 99) c99_2
noncomputable def c99_3 : Code := gL c99_2
noncomputable def n99_3 : S → RS := run (annT 99) c99_3
noncomputable def c99_4 : Code := gL c99_3
noncomputable def n99_4 : S → RS := run (annT 99) c99_4
noncomputable def o99_4 : {l : List Oper // (gO c99_4).toList = l} := ⟨_, by conv => (lhs; whnf)⟩
noncomputable def c99_5 : Code := gR c99_3
noncomputable def n99_5 : S → RS := run (annT 99) c99_5
noncomputable def c99_6 : Code := gB c99_5
noncomputable def n99_6 : S → RS := run (annT 99) c99_6
noncomputable def c99_7 : Code := gB c99_6
noncomputable def n99_7 : S → RS := run (annT 99) c99_7
noncomputable def c99_8 : Code := gL c99_7
noncomputable def n99_8 : S → RS := run (annT 99) c99_8
noncomputable def o99_8 : {l : List Oper // (gO c99_8).toList = l} := ⟨_, by conv => (lhs; whnf)⟩
noncomputable def c99_9 : Code := gR c99_7
noncomputable def n99_9 : S → RS := run (annT 99) c99_9
noncomputable def c99_10 : Code := gL c99_9
noncomputable def n99_10 : S → RS := run (annT 99) c99_10
noncomputable def c99_11 : Code := gT c99_10
noncomputable def n99_11 : S → RS := run (annT 99) c99_11
noncomputable def c99_12 : Code := gF c99_10
noncomputable def n99_12 : S → RS := run (annT 99) c99_12
noncomputable def c99_13 : Code := gR c99_9
noncomputable def n99_13 : S → RS := run (annT 99) c99_13
noncomputable def c99_14 : Code := gL c99_13
noncomputable def n99_14 : S → RS := run (annT 99) c99_14
noncomputable def c99_15 : Code := gB c99_14
noncomputable def n99_15 : S → RS := run (annT 99) c99_15
noncomputable def c99_16 : Code := gL c99_15
noncomputable def n99_16 : S → RS := run (annT 99) c99_16
noncomputable def o99_16 : {l : List Oper // (gO c99_16).toList = l} := ⟨_, by conv => (lhs; whnf)⟩
noncomputable def c99_17 : Code := gR c99_15
noncomputable def n99_17 : S → RS := run (annT 99) c99_17
noncomputable def c99_18 : Code := gL c99_17
noncomputable def n99_18 : S → RS := run (annT 99) c99_18
noncomputable def o99_18 : {l : List Oper // (gO c99_18).toList = l} := ⟨_, by conv => (lhs; whnf)⟩
noncomputable def c99_19 : Code := gR c99_17
noncomputable def n99_19 : S → RS := run (annT 99) c99_19
noncomputable def c99_20 : Code := gT c99_19
noncomputable def n99_20 : S → RS := run (annT 99) c99_20
noncomputable def c99_21 : Code := gL c99_20
noncomputable def n99_21 : S → RS := run (annT 99) c99_21
noncomputable def o99_21 : {l : List Oper // (gO c99_21).toList = l} := ⟨_, by conv => (lhs; whnf)⟩
noncomputable def c99_22 : Code := gR c99_20
noncomputable def n99_22 : S → RS := run (annT 99) c99_22
noncomputable def c99_23 : Code := gF c99_19
noncomputable def n99_23 : S → RS := run (annT 99) c99_23
noncomputable def c99_24 : Code := gR c99_13
noncomputable def n99_24 : S → RS := run (annT 99) c99_24
noncomputable def o99_24 : {l : List Oper // (gO c99_24).toList = l} := ⟨_, by conv => (lhs; whnf)⟩
noncomputable def c99_25 : Code := gR c99_2
noncomputable def n99_25 : S → RS := run (annT 99) c99_25
noncomputable def c99_26 : Code := gL c99_25
noncomputable def n99_26 : S → RS := run (annT 99) c99_26
noncomputable def o99_26 : {l : List Oper // (gO c99_26).toList = l} := ⟨_, by conv => (lhs; whnf)⟩
noncomputable def c99_27 : Code := gR c99_25
noncomputable def n99_27 : S → RS := run (annT 99) c99_27
theorem r_n99_1 (s : S) : n99_1 s = behK 3 (stepsO X (annT 99) C (gO c99_1) o99_1.1 s) := q_region (annT 99) s 0 _ false rfl _ _ rfl rfl o99_1.2
theorem g_o99_1 (j : Nat) : gdst (gO c99_1) j = (o99_1.1[j]?).bind Oper.dst := gd_eq o99_1.2 j
theorem r_n99_4 (s : S) : n99_4 s = behK 387 (stepsO X (annT 99) C (gO c99_4) o99_4.1 s) := q_region (annT 99) s 1 _ false rfl _ _ rfl rfl o99_4.2
theorem g_o99_4 (j : Nat) : gdst (gO c99_4) j = (o99_4.1[j]?).bind Oper.dst := gd_eq o99_4.2 j
theorem r_n99_8 (s : S) : n99_8 s = behK 899 (stepsO X (annT 99) C (gO c99_8) o99_8.1 s) := q_region (annT 99) s 2 _ false rfl _ _ rfl rfl o99_8.2
theorem g_o99_8 (j : Nat) : gdst (gO c99_8) j = (o99_8.1[j]?).bind Oper.dst := gd_eq o99_8.2 j
theorem r_n99_11 (s : S) : n99_11 s = some (.norm, s) := run_skip _ s
theorem r_n99_12 (s : S) : n99_12 s = some (.exit 0, s) := run_exit _ s 0
theorem r_n99_10 (s : S) : n99_10 s = condK (opv s.t (.tmp 9)) n99_11 n99_12 s := q_cond _ c99_11 c99_12 s (.tmp 9)
theorem r_n99_16 (s : S) : n99_16 s = behK 419 (stepsO X (annT 99) C (gO c99_16) o99_16.1 s) := q_region (annT 99) s 3 _ false rfl _ _ rfl rfl o99_16.2
theorem g_o99_16 (j : Nat) : gdst (gO c99_16) j = (o99_16.1[j]?).bind Oper.dst := gd_eq o99_16.2 j
theorem r_n99_18 (s : S) : n99_18 s = behK 65955 (stepsO X (annT 99) C (gO c99_18) o99_18.1 s) := q_region (annT 99) s 4 _ false rfl _ _ rfl rfl o99_18.2
theorem g_o99_18 (j : Nat) : gdst (gO c99_18) j = (o99_18.1[j]?).bind Oper.dst := gd_eq o99_18.2 j
theorem r_n99_21 (s : S) : n99_21 s = behK 16 (stepsO X (annT 99) C (gO c99_21) o99_21.1 s) := q_region (annT 99) s 5 _ false rfl _ _ rfl rfl o99_21.2
theorem g_o99_21 (j : Nat) : gdst (gO c99_21) j = (o99_21.1[j]?).bind Oper.dst := gd_eq o99_21.2 j
theorem r_n99_22 (s : S) : n99_22 s = some (.ret, s) := run_ret _ s
theorem r_n99_20 (s : S) : n99_20 s = contK n99_22 (n99_21 s) := q_seq _ c99_21 c99_22 s
theorem r_n99_23 (s : S) : n99_23 s = some (.norm, s) := run_skip _ s
theorem r_n99_19 (s : S) : n99_19 s = condK (opv s.t (.tmp 16)) n99_20 n99_23 s := q_cond _ c99_20 c99_23 s (.tmp 16)
theorem r_n99_17 (s : S) : n99_17 s = contK n99_19 (n99_18 s) := q_seq _ c99_18 c99_19 s
theorem r_n99_15 (s : S) : n99_15 s = contK n99_17 (n99_16 s) := q_seq _ c99_16 c99_17 s
theorem r_n99_14 (s : S) : n99_14 s = blkK 1 (n99_15 s) := q_block _ c99_15 s 1
theorem r_n99_24 (s : S) : n99_24 s = behK 387 (stepsO X (annT 99) C (gO c99_24) o99_24.1 s) := q_region (annT 99) s 6 _ false rfl _ _ rfl rfl o99_24.2
theorem g_o99_24 (j : Nat) : gdst (gO c99_24) j = (o99_24.1[j]?).bind Oper.dst := gd_eq o99_24.2 j
theorem r_n99_13 (s : S) : n99_13 s = contK n99_24 (n99_14 s) := q_seq _ c99_14 c99_24 s
theorem r_n99_9 (s : S) : n99_9 s = contK n99_13 (n99_10 s) := q_seq _ c99_10 c99_13 s
theorem r_n99_7 (s : S) : n99_7 s = contK n99_9 (n99_8 s) := q_seq _ c99_8 c99_9 s
theorem r_n99_6 (s : S) : n99_6 s = loopK 387 s.st.length n99_6 (n99_7 s) := q_loop (annT 99) c99_7 s _ _ rfl rfl
theorem r_n99_5 (s : S) : n99_5 s = blkK 0 (n99_6 s) := q_block _ c99_6 s 0
theorem r_n99_3 (s : S) : n99_3 s = contK n99_5 (n99_4 s) := q_seq _ c99_4 c99_5 s
theorem r_n99_26 (s : S) : n99_26 s = behK 16 (stepsO X (annT 99) C (gO c99_26) o99_26.1 s) := q_region (annT 99) s 7 _ false rfl _ _ rfl rfl o99_26.2
theorem g_o99_26 (j : Nat) : gdst (gO c99_26) j = (o99_26.1[j]?).bind Oper.dst := gd_eq o99_26.2 j
theorem r_n99_27 (s : S) : n99_27 s = some (.ret, s) := run_ret _ s
theorem r_n99_25 (s : S) : n99_25 s = contK n99_27 (n99_26 s) := q_seq _ c99_26 c99_27 s
theorem r_n99_2 (s : S) : n99_2 s = contK n99_25 (n99_3 s) := q_seq _ c99_3 c99_25 s
theorem r_n99_0 (s : S) : n99_0 s = contK n99_2 (n99_1 s) := q_seq _ c99_1 c99_2 s
theorem va_99 : (annT 99).virt = [] := rfl
theorem wa_99 : (annT 99).wr = [] := rfl
theorem ya_99 : (annT 99).ty = [] := rfl
theorem cv_99 (call : Eng.Call) (wr : Bool) (args : List AV) (st : Store) : callV X call wr 99 args st = cvP call wr 99 args st (fzAll (fz false st 6) args) := cv_pure rfl rfl call wr args st
theorem p99 (ds : List D) : pureCall C 99 ds = ((n99_0 ⟨argsT 0 (ds.map .d), []⟩).bind (bodyR [.tmp 4])).bind prOf := P_eq Try.f99 rfl rfl rfl rfl ds
theorem q99 (vs : List AV) (st : Store) : C 99 vs st = (n99_0 ⟨argsT 0 vs, st⟩).bind (bodyR [.tmp 4]) := C_eq Try.f99 rfl rfl rfl rfl vs st
attribute [go_sem] r_n99_1 g_o99_1 o99_1 r_n99_4 g_o99_4 o99_4 r_n99_8 g_o99_8 o99_8 r_n99_11 r_n99_12 r_n99_10 r_n99_16 g_o99_16 o99_16 r_n99_18 g_o99_18 o99_18 r_n99_21 g_o99_21 o99_21 r_n99_22 r_n99_20 r_n99_23 r_n99_19 r_n99_17 r_n99_15 r_n99_14 r_n99_24 g_o99_24 o99_24 r_n99_13 r_n99_9 r_n99_7 r_n99_5 r_n99_3 r_n99_26 g_o99_26 o99_26 r_n99_27 r_n99_25 r_n99_2 r_n99_0 va_99 wa_99 ya_99 cv_99

noncomputable def c95_0 : Code := Try.f95.body.getD .skip
noncomputable def n95_0 : S → RS := run (annT 95) c95_0
noncomputable def c95_1 : Code := gL c95_0
noncomputable def n95_1 : S → RS := run (annT 95) c95_1
noncomputable def o95_1 : {l : List Oper // (gO c95_1).toList = l} := ⟨_, by conv => (lhs; whnf)⟩
noncomputable def c95_2 : Code := gR c95_0
noncomputable def n95_2 : S → RS := run (annT 95) c95_2
noncomputable def c95_3 : Code := gL c95_2
noncomputable def n95_3 : S → RS := run (annT 95) c95_3
noncomputable def o95_3 : {l : List Oper // (gO c95_3).toList = l} := ⟨_, by conv => (lhs; whnf)⟩
noncomputable def c95_4 : Code := gR c95_2
noncomputable def n95_4 : S → RS := run (annT 95) c95_4
theorem r_n95_1 (s : S) : n95_1 s = behK 3 (stepsO X (annT 95) C (gO c95_1) o95_1.1 s) := q_region (annT 95) s 0 _ false rfl _ _ rfl rfl o95_1.2
theorem g_o95_1 (j : Nat) : gdst (gO c95_1) j = (o95_1.1[j]?).bind Oper.dst := gd_eq o95_1.2 j
theorem r_n95_3 (s : S) : n95_3 s = behK 16 (stepsO X (annT 95) C (gO c95_3) o95_3.1 s) := q_region (annT 95) s 1 _ false rfl _ _ rfl rfl o95_3.2
theorem g_o95_3 (j : Nat) : gdst (gO c95_3) j = (o95_3.1[j]?).bind Oper.dst := gd_eq o95_3.2 j
theorem r_n95_4 (s : S) : n95_4 s = some (.ret, s) := run_ret _ s
theorem r_n95_2 (s : S) : n95_2 s = contK n95_4 (n95_3 s) := q_seq _ c95_3 c95_4 s
theorem r_n95_0 (s : S) : n95_0 s = contK n95_2 (n95_1 s) := q_seq _ c95_1 c95_2 s
theorem va_95 : (annT 95).virt = [] := rfl
theorem wa_95 : (annT 95).wr = [] := rfl
theorem ya_95 : (annT 95).ty = [] := rfl
theorem cv_95 (call : Eng.Call) (wr : Bool) (args : List AV) (st : Store) : callV X call wr 95 args st = cvP call wr 95 args st (fzAll (fz false st 6) args) := cv_pure rfl rfl call wr args st
theorem p95 (ds : List D) : pureCall C 95 ds = ((n95_0 ⟨argsT 0 (ds.map .d), []⟩).bind (bodyR [.tmp 4])).bind prOf := P_eq Try.f95 rfl rfl rfl rfl ds
theorem q95 (vs : List AV) (st : Store) : C 95 vs st = (n95_0 ⟨argsT 0 vs, st⟩).bind (bodyR [.tmp 4]) := C_eq Try.f95 rfl rfl rfl rfl vs st
attribute [go_sem] r_n95_1 g_o95_1 o95_1 r_n95_3 g_o95_3 o95_3 r_n95_4 r_n95_2 r_n95_0 va_95 wa_95 ya_95 cv_95

noncomputable def c74_0 : Code := Try.f74.body.getD .skip
noncomputable def n74_0 : S → RS := run (annT 74) c74_0
noncomputable def c74_1 : Code := gL c74_0
noncomputable def n74_1 : S → RS := run (annT 74) c74_1
noncomputable def o74_1 : {l : List Oper // (gO c74_1).toList = l} := ⟨_, by conv => (lhs; whnf)⟩
noncomputable def c74_2 : Code := gR c74_0
noncomputable def n74_2 : S → RS := run (annT 74) c74_2
noncomputable def c74_3 : Code := gL c74_2
noncomputable def n74_3 : S → RS := run (annT 74) c74_3
noncomputable def o74_3 : {l : List Oper // (gO c74_3).toList = l} := ⟨_, by conv => (lhs; whnf)⟩
noncomputable def c74_4 : Code := gR c74_2
noncomputable def n74_4 : S → RS := run (annT 74) c74_4
theorem r_n74_1 (s : S) : n74_1 s = behK 2 (stepsO X (annT 74) C (gO c74_1) o74_1.1 s) := q_region (annT 74) s 0 _ false rfl _ _ rfl rfl o74_1.2
theorem g_o74_1 (j : Nat) : gdst (gO c74_1) j = (o74_1.1[j]?).bind Oper.dst := gd_eq o74_1.2 j
theorem r_n74_3 (s : S) : n74_3 s = behK 4 (stepsO X (annT 74) C (gO c74_3) o74_3.1 s) := q_region (annT 74) s 1 _ false rfl _ _ rfl rfl o74_3.2
theorem g_o74_3 (j : Nat) : gdst (gO c74_3) j = (o74_3.1[j]?).bind Oper.dst := gd_eq o74_3.2 j
theorem r_n74_4 (s : S) : n74_4 s = some (.ret, s) := run_ret _ s
theorem r_n74_2 (s : S) : n74_2 s = contK n74_4 (n74_3 s) := q_seq _ c74_3 c74_4 s
theorem r_n74_0 (s : S) : n74_0 s = contK n74_2 (n74_1 s) := q_seq _ c74_1 c74_2 s
theorem va_74 : (annT 74).virt = [] := rfl
theorem wa_74 : (annT 74).wr = [] := rfl
theorem ya_74 : (annT 74).ty = [] := rfl
theorem cv_74 (call : Eng.Call) (wr : Bool) (args : List AV) (st : Store) : callV X call wr 74 args st = cvP call wr 74 args st (fzAll (fz false st 6) args) := cv_pure rfl rfl call wr args st
theorem p74 (ds : List D) : pureCall C 74 ds = ((n74_0 ⟨argsT 0 (ds.map .d), []⟩).bind (bodyR [.tmp 2])).bind prOf := P_eq Try.f74 rfl rfl rfl rfl ds
theorem q74 (vs : List AV) (st : Store) : C 74 vs st = (n74_0 ⟨argsT 0 vs, st⟩).bind (bodyR [.tmp 2]) := C_eq Try.f74 rfl rfl rfl rfl vs st
attribute [go_sem] r_n74_1 g_o74_1 o74_1 r_n74_3 g_o74_3 o74_3 r_n74_4 r_n74_2 r_n74_0 va_74 wa_74 ya_74 cv_74

noncomputable def c76_0 : Code := Try.f76.body.getD .skip
noncomputable def n76_0 : S → RS := run (annT 76) c76_0
noncomputable def c76_1 : Code := gL c76_0
noncomputable def n76_1 : S → RS := run (annT 76) c76_1
noncomputable def o76_1 : {l : List Oper // (gO c76_1).toList = l} := ⟨_, by conv => (lhs; whnf)⟩
noncomputable def c76_2 : Code := gR c76_0
noncomputable def n76_2 : S → RS := run (annT 76) c76_2
noncomputable def c76_3 : Code := gL c76_2
noncomputable def n76_3 : S → RS := run (annT 76) c76_3
noncomputable def c76_4 : Code := gB c76_3
noncomputable def n76_4 : S → RS := run (annT 76) c76_4
noncomputable def c76_5 : Code := gL c76_4
noncomputable def n76_5 : S → RS := run (annT 76) c76_5
noncomputable def c76_6 : Code := gL c76_5
noncomputable def n76_6 : S → RS := run (annT 76) c76_6
noncomputable def o76_6 : {l : List Oper // (gO c76_6).toList = l} := ⟨_, by conv => (lhs; whnf)⟩
noncomputable def c76_7 : Code := gR c76_5
noncomputable def n76_7 : S → RS := run (annT 76) c76_7
noncomputable def c76_8 : Code := gT c76_7
noncomputable def n76_8 : S → RS := run (annT 76) c76_8
noncomputable def c76_9 : Code := gF c76_7
noncomputable def n76_9 : S → RS := run (annT 76) c76_9
noncomputable def o76_9 : {l : List Oper // (gO c76_9).toList = l} := ⟨_, by conv => (lhs; whnf)⟩
noncomputable def c76_10 : Code := gR c76_4
noncomputable def n76_10 : S → RS := run (annT 76) c76_10
noncomputable def c76_11 : Code := gT c76_10
noncomputable def n76_11 : S → RS := run (annT 76) c76_11
noncomputable def c76_12 : Code := gL c76_11
noncomputable def n76_12 : S → RS := run (annT 76) c76_12
noncomputable def o76_12 : {l : List Oper // (gO c76_12).toList = l} := ⟨_, by conv => (lhs; whnf)⟩
noncomputable def c76_13 : Code := gR c76_11
noncomputable def n76_13 : S → RS := run (annT 76) c76_13
noncomputable def c76_14 : Code := gF c76_10
noncomputable def n76_14 : S → RS := run (annT 76) c76_14
noncomputable def c76_15 : Code := gL c76_14
noncomputable def n76_15 : S → RS := run (annT 76) c76_15
noncomputable def c76_16 : Code := gL c76_15
noncomputable def n76_16 : S → RS := run (annT 76) c76_16
noncomputable def o76_16 : {l : List Oper // (gO c76_16).toList = l} := ⟨_, by conv => (lhs; whnf)⟩
noncomputable def c76_17 : Code := gR c76_15
noncomputable def n76_17 : S → RS := run (annT 76) c76_17
noncomputable def c76_18 : Code := gT c76_17
noncomputable def n76_18 : S → RS := run (annT 76) c76_18
noncomputable def c76_19 : Code := gF c76_17
noncomputable def n76_19 : S → RS := run (annT 76) c76_19
noncomputable def c76_20 : Code := gL c76_19
noncomputable def n76_20 : S → RS := run (annT 76) c76_20
noncomputable def o76_20 : {l : List Oper // (gO c76_20).toList = l} := ⟨_, by conv => (lhs; whnf)⟩
noncomputable def c76_21 : Code := gR c76_19
noncomputable def n76_21 : S → RS := run (annT 76) c76_21
noncomputable def c76_22 : Code := gT c76_21
noncomputable def n76_22 : S → RS := run (annT 76) c76_22
noncomputable def c76_23 : Code := gF c76_21
noncomputable def n76_23 : S → RS := run (annT 76) c76_23
noncomputable def o76_23 : {l : List Oper // (gO c76_23).toList = l} := ⟨_, by conv => (lhs; whnf)⟩
noncomputable def c76_24 : Code := gR c76_14
noncomputable def n76_24 : S → RS := run (annT 76) c76_24
noncomputable def c76_25 : Code := gT c76_24
noncomputable def n76_25 : S → RS := run (annT 76) c76_25
noncomputable def c76_26 : Code := gL c76_25
noncomputable def n76_26 : S → RS := run (annT 76) c76_26
noncomputable def o76_26 : {l : List Oper // (gO c76_26).toList = l} := ⟨_, by conv => (lhs; whnf)⟩
noncomputable def c76_27 : Code := gR c76_25
noncomputable def n76_27 : S → RS := run (annT 76) c76_27
noncomputable def c76_28 : Code := gF c76_24
noncomputable def n76_28 : S → RS := run (annT 76) c76_28
noncomputable def c76_29 : Code := gR c76_2
noncomputable def n76_29 : S → RS := run (annT 76) c76_29
noncomputable def c76_30 : Code := gL c76_29
noncomputable def n76_30 : S → RS := run (annT 76) c76_30
noncomputable def o76_30 : {l : List Oper // (gO c76_30).toList = l} := ⟨_, by conv => (lhs; whnf)⟩
noncomputable def c76_31 : Code := gR c76_29
noncomputable def n76_31 : S → RS := run (annT 76) c76_31
theorem r_n76_1 (s : S) : n76_1 s = behK 2 (stepsO X (annT 76) C (gO c76_1) o76_1.1 s) := q_region (annT 76) s 0 _ false rfl _ _ rfl rfl o76_1.2
theorem g_o76_1 (j : Nat) : gdst (gO c76_1) j = (o76_1.1[j]?).bind Oper.dst := gd_eq o76_1.2 j
theorem r_n76_6 (s : S) : n76_6 s = behK 10 (stepsO X (annT 76) C (gO c76_6) o76_6.1 s) := q_region (annT 76) s 1 _ false rfl _ _ rfl rfl o76_6.2
theorem g_o76_6 (j : Nat) : gdst (gO c76_6) j = (o76_6.1[j]?).bind Oper.dst := gd_eq o76_6.2 j
theorem r_n76_8 (s : S) : n76_8 s = some (.norm, s) := run_skip _ s
theorem r_n76_9 (s : S) : n76_9 s = behK 10 (stepsO X (annT 76) C (gO c76_9) o76_9.1 s) := q_region (annT 76) s 2 _ false rfl _ _ rfl rfl o76_9.2
theorem g_o76_9 (j : Nat) : gdst (gO c76_9) j = (o76_9.1[j]?).bind Oper.dst := gd_eq o76_9.2 j
theorem r_n76_7 (s : S) : n76_7 s = condK (opv s.t (.tmp 3)) n76_8 n76_9 s := q_cond _ c76_8 c76_9 s (.tmp 3)
theorem r_n76_5 (s : S) : n76_5 s = contK n76_7 (n76_6 s) := q_seq _ c76_6 c76_7 s
theorem r_n76_12 (s : S) : n76_12 s = behK 4 (stepsO X (annT 76) C (gO c76_12) o76_12.1 s) := q_region (annT 76) s 3 _ false rfl _ _ rfl rfl o76_12.2
theorem g_o76_12 (j : Nat) : gdst (gO c76_12) j = (o76_12.1[j]?).bind Oper.dst := gd_eq o76_12.2 j
theorem r_n76_13 (s : S) : n76_13 s = some (.ret, s) := run_ret _ s
theorem r_n76_11 (s : S) : n76_11 s = contK n76_13 (n76_12 s) := q_seq _ c76_12 c76_13 s
theorem r_n76_16 (s : S) : n76_16 s = behK 4194306 (stepsO X (annT 76) C (gO c76_16) o76_16.1 s) := q_region (annT 76) s 4 _ false rfl _ _ rfl rfl o76_16.2
theorem g_o76_16 (j : Nat) : gdst (gO c76_16) j = (o76_16.1[j]?).bind Oper.dst := gd_eq o76_16.2 j
theorem r_n76_18 (s : S) : n76_18 s = some (.norm, s) := run_skip _ s
theorem r_n76_20 (s : S) : n76_20 s = behK 4194306 (stepsO X (annT 76) C (gO c76_20) o76_20.1 s) := q_region (annT 76) s 5 _ false rfl _ _ rfl rfl o76_20.2
theorem g_o76_20 (j : Nat) : gdst (gO c76_20) j = (o76_20.1[j]?).bind Oper.dst := gd_eq o76_20.2 j
theorem r_n76_22 (s : S) : n76_22 s = some (.norm, s) := run_skip _ s
theorem r_n76_23 (s : S) : n76_23 s = behK 4194304 (stepsO X (annT 76) C (gO c76_23) o76_23.1 s) := q_region (annT 76) s 6 _ false rfl _ _ rfl rfl o76_23.2
theorem g_o76_23 (j : Nat) : gdst (gO c76_23) j = (o76_23.1[j]?).bind Oper.dst := gd_eq o76_23.2 j
theorem r_n76_21 (s : S) : n76_21 s = condK (opv s.t (.tmp 22)) n76_22 n76_23 s := q_cond _ c76_22 c76_23 s (.tmp 22)
theorem r_n76_19 (s : S) : n76_19 s = contK n76_21 (n76_20 s) := q_seq _ c76_20 c76_21 s
theorem r_n76_17 (s : S) : n76_17 s = condK (opv s.t (.tmp 22)) n76_18 n76_19 s := q_cond _ c76_18 c76_19 s (.tmp 22)
theorem r_n76_15 (s : S) : n76_15 s = contK n76_17 (n76_16 s) := q_seq _ c76_16 c76_17 s
theorem r_n76_26 (s : S) : n76_26 s = behK 4 (stepsO X (annT 76) C (gO c76_26) o76_26.1 s) := q_region (annT 76) s 7 _ false rfl _ _ rfl rfl o76_26.2
theorem g_o76_26 (j : Nat) : gdst (gO c76_26) j = (o76_26.1[j]?).bind Oper.dst := gd_eq o76_26.2 j
theorem r_n76_27 (s : S) : n76_27 s = some (.ret, s) := run_ret _ s
theorem r_n76_25 (s : S) : n76_25 s = contK n76_27 (n76_26 s) := q_seq _ c76_26 c76_27 s
theorem r_n76_28 (s : S) : n76_28 s = some (.norm, s) := run_skip _ s
theorem r_n76_24 (s : S) : n76_24 s = condK (opv s.t (.tmp 22)) n76_25 n76_28 s := q_cond _ c76_25 c76_28 s (.tmp 22)
theorem r_n76_14 (s : S) : n76_14 s = contK n76_24 (n76_15 s) := q_seq _ c76_15 c76_24 s
theorem r_n76_10 (s : S) : n76_10 s = condK (opv s.t (.tmp 3)) n76_11 n76_14 s := q_cond _ c76_11 c76_14 s (.tmp 3)
theorem r_n76_4 (s : S) : n76_4 s = contK n76_10 (n76_5 s) := q_seq _ c76_5 c76_10 s
theorem r_n76_3 (s : S) : n76_3 s = blkK 0 (n76_4 s) := q_block _ c76_4 s 0
theorem r_n76_30 (s : S) : n76_30 s = behK 4 (stepsO X (annT 76) C (gO c76_30) o76_30.1 s) := q_region (annT 76) s 8 _ false rfl _ _ rfl rfl o76_30.2
theorem g_o76_30 (j : Nat) : gdst (gO c76_30) j = (o76_30.1[j]?).bind Oper.dst := gd_eq o76_30.2 j
theorem r_n76_31 (s : S) : n76_31 s = some (.ret, s) := run_ret _ s
theorem r_n76_29 (s : S) : n76_29 s = contK n76_31 (n76_30 s) := q_seq _ c76_30 c76_31 s
theorem r_n76_2 (s : S) : n76_2 s = contK n76_29 (n76_3 s) := q_seq _ c76_3 c76_29 s
theorem r_n76_0 (s : S) : n76_0 s = contK n76_2 (n76_1 s) := q_seq _ c76_1 c76_2 s
theorem va_76 : (annT 76).virt = [] := rfl
theorem wa_76 : (annT 76).wr = [] := rfl
theorem ya_76 : (annT 76).ty = [] := rfl
theorem cv_76 (call : Eng.Call) (wr : Bool) (args : List AV) (st : Store) : callV X call wr 76 args st = cvP call wr 76 args st (fzAll (fz false st 6) args) := cv_pure rfl rfl call wr args st
theorem p76 (ds : List D) : pureCall C 76 ds = ((n76_0 ⟨argsT 0 (ds.map .d), []⟩).bind (bodyR [.tmp 2])).bind prOf := P_eq Try.f76 rfl rfl rfl rfl ds
theorem q76 (vs : List AV) (st : Store) : C 76 vs st = (n76_0 ⟨argsT 0 vs, st⟩).bind (bodyR [.tmp 2]) := C_eq Try.f76 rfl rfl rfl rfl vs st
attribute [go_sem] r_n76_1 g_o76_1 o76_1 r_n76_6 g_o76_6 o76_6 r_n76_8 r_n76_9 g_o76_9 o76_9 r_n76_7 r_n76_5 r_n76_12 g_o76_12 o76_12 r_n76_13 r_n76_11 r_n76_16 g_o76_16 o76_16 r_n76_18 r_n76_20 g_o76_20 o76_20 r_n76_22 r_n76_23 g_o76_23 o76_23 r_n76_21 r_n76_19 r_n76_17 r_n76_15 r_n76_26 g_o76_26 o76_26 r_n76_27 r_n76_25 r_n76_28 r_n76_24 r_n76_14 r_n76_10 r_n76_4 r_n76_3 r_n76_30 g_o76_30 o76_30 r_n76_31 r_n76_29 r_n76_2 r_n76_0 va_76 wa_76 ya_76 cv_76

noncomputable def c77_0 : Code := Try.f77.body.getD .skip
noncomputable def n77_0 : S → RS := run (annT 77) c77_0
noncomputable def c77_1 : Code := gL c77_0
noncomputable def n77_1 : S → RS := run (annT 77) c77_1
noncomputable def o77_1 : {l : List Oper // (gO c77_1).toList = l} := ⟨_, by conv => (lhs; whnf)⟩
noncomputable def c77_2 : Code := gR c77_0
noncomputable def n77_2 : S → RS := run (annT 77) c77_2
noncomputable def c77_3 : Code := gL c77_2
noncomputable def n77_3 : S → RS := run (annT 77) c77_3
noncomputable def o77_3 : {l : List Oper // (gO c77_3).toList = l} := ⟨_, by conv => (lhs; whnf)⟩
noncomputable def c77_4 : Code := gR c77_2
noncomputable def n77_4 : S → RS := run (annT 77) c77_4
noncomputable def c77_5 : Code := gL c77_4
noncomputable def n77_5 : S → RS := run (annT 77) c77_5
noncomputable def o77_5 : {l : List Oper // (gO c77_5).toList = l} := ⟨_, by conv => (lhs; whnf)⟩
noncomputable def c77_6 : Code := gR c77_4
noncomputable def n77_6 : S → RS := run (annT 77) c77_6
theorem r_n77_1 (s : S) : n77_1 s = behK 2 (stepsO X (annT 77) C (gO c77_1) o77_1.1 s) := q_region (annT 77) s 0 _ false rfl _ _ rfl rfl o77_1.2
theorem g_o77_1 (j : Nat) : gdst (gO c77_1) j = (o77_1.1[j]?).bind Oper.dst := gd_eq o77_1.2 j
theorem r_n77_3 (s : S) : n77_3 s = behK 10 (stepsO X (annT 77) C (gO c77_3) o77_3.1 s) := q_region (annT 77) s 1 _ false rfl _ _ rfl rfl o77_3.2
theorem g_o77_3 (j : Nat) : gdst (gO c77_3) j = (o77_3.1[j]?).bind Oper.dst := gd_eq o77_3.2 j
theorem r_n77_5 (s : S) : n77_5 s = behK 4 (stepsO X (annT 77) C (gO c77_5) o77_5.1 s) := q_region (annT 77) s 2 _ false rfl _ _ rfl rfl o77_5.2
theorem g_o77_5 (j : Nat) : gdst (gO c77_5) j = (o77_5.1[j]?).bind Oper.dst := gd_eq o77_5.2 j
theorem r_n77_6 (s : S) : n77_6 s = some (.ret, s) := run_ret _ s
theorem r_n77_4 (s : S) : n77_4 s = contK n77_6 (n77_5 s) := q_seq _ c77_5 c77_6 s
theorem r_n77_2 (s : S) : n77_2 s = contK n77_4 (n77_3 s) := q_seq _ c77_3 c77_4 s
theorem r_n77_0 (s : S) : n77_0 s = contK n77_2 (n77_1 s) := q_seq _ c77_1 c77_2 s
theorem va_77 : (annT 77).virt = [] := rfl
theorem wa_77 : (annT 77).wr = [] := rfl
theorem ya_77 : (annT 77).ty = [] := rfl
theorem cv_77 (call : Eng.Call) (wr : Bool) (args : List AV) (st : Store) : callV X call wr 77 args st = cvP call wr 77 args st (fzAll (fz false st 6) args) := cv_pure rfl rfl call wr args st
theorem p77 (ds : List D) : pureCall C 77 ds = ((n77_0 ⟨argsT 0 (ds.map .d), []⟩).bind (bodyR [.tmp 2])).bind prOf := P_eq Try.f77 rfl rfl rfl rfl ds
theorem q77 (vs : List AV) (st : Store) : C 77 vs st = (n77_0 ⟨argsT 0 vs, st⟩).bind (bodyR [.tmp 2]) := C_eq Try.f77 rfl rfl rfl rfl vs st
attribute [go_sem] r_n77_1 g_o77_1 o77_1 r_n77_3 g_o77_3 o77_3 r_n77_5 g_o77_5 o77_5 r_n77_6 r_n77_4 r_n77_2 r_n77_0 va_77 wa_77 ya_77 cv_77

noncomputable def c78_0 : Code := Try.f78.body.getD .skip
noncomputable def n78_0 : S → RS := run (annT 78) c78_0
noncomputable def c78_1 : Code := gL c78_0
noncomputable def n78_1 : S → RS := run (annT 78) c78_1
noncomputable def o78_1 : {l : List Oper // (gO c78_1).toList = l} := ⟨_, by conv => (lhs; whnf)⟩
noncomputable def c78_2 : Code := gR c78_0
noncomputable def n78_2 : S → RS := run (annT 78) c78_2
noncomputable def c78_3 : Code := gL c78_2
noncomputable def n78_3 : S → RS := run (annT 78) c78_3
noncomputable def o78_3 : {l : List Oper // (gO c78_3).toList = l} := ⟨_, by conv => (lhs; whnf)⟩
noncomputable def c78_4 : Code := gR c78_2
noncomputable def n78_4 : S → RS := run (annT 78) c78_4
theorem r_n78_1 (s : S) : n78_1 s = behK 1 (stepsO X (annT 78) C (gO c78_1) o78_1.1 s) := q_region (annT 78) s 0 _ false rfl _ _ rfl rfl o78_1.2
theorem g_o78_1 (j : Nat) : gdst (gO c78_1) j = (o78_1.1[j]?).bind Oper.dst := gd_eq o78_1.2 j
theorem r_n78_3 (s : S) : n78_3 s = behK 4 (stepsO X (annT 78) C (gO c78_3) o78_3.1 s) := q_region (annT 78) s 1 _ false rfl _ _ rfl rfl o78_3.2
theorem g_o78_3 (j : Nat) : gdst (gO c78_3) j = (o78_3.1[j]?).bind Oper.dst := gd_eq o78_3.2 j
theorem r_n78_4 (s : S) : n78_4 s = some (.ret, s) := run_ret _ s
theorem r_n78_2 (s : S) : n78_2 s = contK n78_4 (n78_3 s) := q_seq _ c78_3 c78_4 s
theorem r_n78_0 (s : S) : n78_0 s = contK n78_2 (n78_1 s) := q_seq _ c78_1 c78_2 s
theorem va_78 : (annT 78).virt = [] := rfl
theorem wa_78 : (annT 78).wr = [] := rfl
theorem ya_78 : (annT 78).ty = [] := rfl
theorem cv_78 (call : Eng.Call) (wr : Bool) (args : List AV) (st : Store) : callV X call wr 78 args st = cvP call wr 78 args st (fzAll (fz false st 6) args) := cv_pure rfl rfl call wr args st
theorem p78 (ds : List D) : pureCall C 78 ds = ((n78_0 ⟨argsT 0 (ds.map .d), []⟩).bind (bodyR [.tmp 2])).bind prOf := P_eq Try.f78 rfl rfl rfl rfl ds
theorem q78 (vs : List AV) (st : Store) : C 78 vs st = (n78_0 ⟨argsT 0 vs, st⟩).bind (bodyR [.tmp 2]) := C_eq Try.f78 rfl rfl rfl rfl vs st
attribute [go_sem] r_n78_1 g_o78_1 o78_1 r_n78_3 g_o78_3 o78_3 r_n78_4 r_n78_2 r_n78_0 va_78 wa_78 ya_78 cv_78

noncomputable def c56_0 : Code := Try.f56.body.getD .skip
noncomputable def n56_0 : S → RS := run (annT 56) c56_0
noncomputable def c56_1 : Code := gL c56_0
noncomputable def n56_1 : S → RS := run (annT 56) c56_1
noncomputable def o56_1 : {l : List Oper // (gO c56_1).toList = l} := ⟨_, by conv => (lhs; whnf)⟩
noncomputable def c56_2 : Code := gR c56_0
noncomputable def n56_2 : S → RS := run (annT 56) c56_2
noncomputable def c56_3 : Code := gL c56_2
noncomputable def n56_3 : S → RS := run (annT 56) c56_3
noncomputable def o56_3 : {l : List Oper // (gO c56_3).toList = l} := ⟨_, by conv => (lhs; whnf)⟩
noncomputable def c56_4 : Code := gR c56_2
noncomputable def n56_4 : S → RS := run (annT 56) c56_4
noncomputable def c56_5 : Code := gL c56_4
noncomputable def n56_5 : S → RS := run (annT 56) c56_5
noncomputable def o56_5 : {l : List Oper // (gO c56_5).toList = l} := ⟨_, by conv => (lhs; whnf)⟩
noncomputable def c56_6 : Code := gR c56_4
noncomputable def n56_6 : S → RS := run (annT 56) c56_6
noncomputable def c56_7 : Code := gL c56_6
noncomputable def n56_7 : S → RS := run (annT 56) c56_7
noncomputable def o56_7 : {l : List Oper // (gO c56_7).toList = l} := ⟨_, by conv => (lhs; whnf)⟩
noncomputable def c56_8 : Code := gR c56_6
noncomputable def n56_8 : S → RS := run (annT 56) c56_8
noncomputable def c56_9 : Code := gL c56_8
noncomputable def n56_9 : S → RS := run (annT 56) c56_9
noncomputable def c56_10 : Code := gL c56_9
noncomputable def n56_10 : S → RS := run (annT 56) c56_10
noncomputable def o56_10 : {l : List Oper // (gO c56_10).toList = l} := ⟨_, by conv => (lhs; whnf)⟩
noncomputable def c56_11 : Code := gR c56_9
noncomputable def n56_11 : S → RS := run (annT 56) c56_11
noncomputable def c56_12 : Code := gB c56_11
noncomputable def n56_12 : S → RS := run (annT 56) c56_12
noncomputable def c56_13 : Code := gL c56_12
noncomputable def n56_13 : S → RS := run (annT 56) c56_13
noncomputable def c56_14 : Code := gL c56_13
noncomputable def n56_14 : S → RS := run (annT 56) c56_14
noncomputable def o56_14 : {l : List Oper // (gO c56_14).toList = l} := ⟨_, by conv => (lhs; whnf)⟩
noncomputable def c56_15 : Code := gR c56_13
noncomputable def n56_15 : S → RS := run (annT 56) c56_15
noncomputable def c56_16 : Code := gT c56_15
noncomputable def n56_16 : S → RS := run (annT 56) c56_16
noncomputable def c56_17 : Code := gF c56_15
noncomputable def n56_17 : S → RS := run (annT 56) c56_17
noncomputable def c56_18 : Code := gL c56_17
noncomputable def n56_18 : S → RS := run (annT 56) c56_18
noncomputable def o56_18 : {l : List Oper // (gO c56_18).toList = l} := ⟨_, by conv => (lhs; whnf)⟩
noncomputable def c56_19 : Code := gR c56_17
noncomputable def n56_19 : S → RS := run (annT 56) c56_19
noncomputable def c56_20 : Code := gT c56_19
noncomputable def n56_20 : S → RS := run (annT 56) c56_20
noncomputable def c56_21 : Code := gF c56_19
noncomputable def n56_21 : S → RS := run (annT 56) c56_21
noncomputable def o56_21 : {l : List Oper // (gO c56_21).toList = l} := ⟨_, by conv => (lhs; whnf)⟩
noncomputable def c56_22 : Code := gR c56_12
noncomputable def n56_22 : S → RS := run (annT 56) c56_22
noncomputable def c56_23 : Code := gT c56_22
noncomputable def n56_23 : S → RS := run (annT 56) c56_23
noncomputable def c56_24 : Code := gL c56_23
noncomputable def n56_24 : S → RS := run (annT 56) c56_24
noncomputable def o56_24 : {l : List Oper // (gO c56_24).toList = l} := ⟨_, by conv => (lhs; whnf)⟩
noncomputable def c56_25 : Code := gR c56_23
noncomputable def n56_25 : S → RS := run (annT 56) c56_25
noncomputable def c56_26 : Code := gF c56_22
noncomputable def n56_26 : S → RS := run (annT 56) c56_26
noncomputable def c56_27 : Code := gL c56_26
noncomputable def n56_27 : S → RS := run (annT 56) c56_27
noncomputable def c56_28 : Code := gL c56_27
noncomputable def n56_28 : S → RS := run (annT 56) c56_28
noncomputable def o56_28 : {l : List Oper // (gO c56_28).toList = l} := ⟨_, by conv => (lhs; whnf)⟩
noncomputable def c56_29 : Code := gR c56_27
noncomputable def n56_29 : S → RS := run (annT 56) c56_29
noncomputable def c56_30 : Code := gT c56_29
noncomputable def n56_30 : S → RS := run (annT 56) c56_30
noncomputable def c56_31 : Code := gF c56_29
noncomputable def n56_31 : S → RS := run (annT 56) c56_31
noncomputable def c56_32 : Code := gL c56_31
noncomputable def n56_32 : S → RS := run (annT 56) c56_32
noncomputable def o56_32 : {l : List Oper // (gO c56_32).toList = l} := ⟨_, by conv => (lhs; whnf)⟩
noncomputable def c56_33 : Code := gR c56_31
noncomputable def n56_33 : S → RS := run (annT 56) c56_33
noncomputable def c56_34 : Code := gT c56_33
noncomputable def n56_34 : S → RS := run (annT 56) c56_34
noncomputable def c56_35 : Code := gF c56_33
noncomputable def n56_35 : S → RS := run (annT 56) c56_35
noncomputable def c56_36 : Code := gL c56_35
noncomputable def n56_36 : S → RS := run (annT 56) c56_36
noncomputable def o56_36 : {l : List Oper // (gO c56_36).toList = l} := ⟨_, by conv => (lhs; whnf)⟩
noncomputable def c56_37 : Code := gR c56_35
noncomputable def n56_37 : S → RS := run (annT 56) c56_37
noncomputable def c56_38 : Code := gT c56_37
noncomputable def n56_38 : S → RS := run (annT 56) c56_38
noncomputable def c56_39 : Code := gF c56_37
noncomputable def n56_39 : S → RS := run (annT 56) c56_39
noncomputable def o56_39 : {l : List Oper // (gO c56_39).toList = l} := ⟨_, by conv => (lhs; whnf)⟩
noncomputable def c56_40 : Code := gR c56_26
noncomputable def n56_40 : S → RS := run (annT 56) c56_40
noncomputable def c56_41 : Code := gT c56_40
noncomputable def n56_41 : S → RS := run (annT 56) c56_41
noncomputable def c56_42 : Code := gL c56_41
noncomputable def n56_42 : S → RS := run (annT 56) c56_42
noncomputable def o56_42 : {l : List Oper // (gO c56_42).toList = l} := ⟨_, by conv => (lhs; whnf)⟩
noncomputable def c56_43 : Code := gR c56_41
noncomputable def n56_43 : S → RS := run (annT 56) c56_43
noncomputable def c56_44 : Code := gF c56_40
noncomputable def n56_44 : S → RS := run (annT 56) c56_44
noncomputable def c56_45 : Code := gL c56_44
noncomputable def n56_45 : S → RS := run (annT 56) c56_45
noncomputable def o56_45 : {l : List Oper // (gO c56_45).toList = l} := ⟨_, by conv => (lhs; whnf)⟩
noncomputable def c56_46 : Code := gR c56_44
noncomputable def n56_46 : S → RS := run (annT 56) c56_46
noncomputable def c56_47 : Code := gT c56_46
noncomputable def n56_47 : S → RS := run (annT 56) c56_47
noncomputable def c56_48 : Code := gL c56_47
noncomputable def n56_48 : S → RS := run (annT 56) c56_48
noncomputable def o56_48 : {l : List Oper // (gO c56_48).toList = l} := ⟨_, by conv => (lhs; whnf)⟩
noncomputable def c56_49 : Code := gR c56_47
noncomputable def n56_49 : S → RS := run (annT 56) c56_49
noncomputable def c56_50 : Code := gF c56_46
noncomputable def n56_50 : S → RS := run (annT 56) c56_50
noncomputable def c56_51 : Code := gL c56_50
noncomputable def n56_51 : S → RS := run (annT 56) c56_51
noncomputable def o56_51 : {l : List Oper // (gO c56_51).toList = l} := ⟨_, by conv => (lhs; whnf)⟩
noncomputable def c56_52 : Code := gR c56_50
noncomputable def n56_52 : S → RS := run (annT 56) c56_52
noncomputable def c56_53 : Code := gT c56_52
noncomputable def n56_53 : S → RS := run (annT 56) c56_53
noncomputable def c56_54 : Code := gL c56_53
noncomputable def n56_54 : S → RS := run (annT 56) c56_54
noncomputable def o56_54 : {l : List Oper // (gO c56_54).toList = l} := ⟨_, by conv => (lhs; whnf)⟩
noncomputable def c56_55 : Code := gR c56_53
noncomputable def n56_55 : S → RS := run (annT 56) c56_55
noncomputable def c56_56 : Code := gF c56_52
noncomputable def n56_56 : S → RS := run (annT 56) c56_56
noncomputable def c56_57 : Code := gL c56_56
noncomputable def n56_57 : S → RS := run (annT 56) c56_57
noncomputable def o56_57 : {l : List Oper // (gO c56_57).toList = l} := ⟨_, by conv => (lhs; whnf)⟩
noncomputable def c56_58 : Code := gR c56_56
noncomputable def n56_58 : S → RS := run (annT 56) c56_58
noncomputable def c56_59 : Code := gT c56_58
noncomputable def n56_59 : S → RS := run (annT 56) c56_59
noncomputable def c56_60 : Code := gL c56_59
noncomputable def n56_60 : S → RS := run (annT 56) c56_60
noncomputable def o56_60 : {l : List Oper // (gO c56_60).toList = l} := ⟨_, by conv => (lhs; whnf)⟩
noncomputable def c56_61 : Code := gR c56_59
noncomputable def n56_61 : S → RS := run (annT 56) c56_61
noncomputable def c56_62 : Code := gF c56_58
noncomputable def n56_62 : S → RS := run (annT 56) c56_62
noncomputable def c56_63 : Code := gR c56_8
noncomputable def n56_63 : S → RS := run (annT 56) c56_63
noncomputable def c56_64 : Code := gL c56_63
noncomputable def n56_64 : S → RS := run (annT 56) c56_64
noncomputable def o56_64 : {l : List Oper // (gO c56_64).toList = l} := ⟨_, by conv => (lhs; whnf)⟩
noncomputable def c56_65 : Code := gR c56_63
noncomputable def n56_65 : S → RS := run (annT 56) c56_65
theorem r_n56_1 (s : S) : n56_1 s = behK 2 (stepsO X (annT 56) C (gO c56_1) o56_1.1 s) := q_region (annT 56) s 0 _ false rfl _ _ rfl rfl o56_1.2
theorem g_o56_1 (j : Nat) : gdst (gO c56_1) j = (o56_1.1[j]?).bind Oper.dst := gd_eq o56_1.2 j
theorem r_n56_3 (s : S) : n56_3 s = behK 10 (stepsO X (annT 56) C (gO c56_3) o56_3.1 s) := q_region (annT 56) s 1 _ false rfl _ _ rfl rfl o56_3.2
theorem g_o56_3 (j : Nat) : gdst (gO c56_3) j = (o56_3.1[j]?).bind Oper.dst := gd_eq o56_3.2 j
theorem r_n56_5 (s : S) : n56_5 s = behK 26 (stepsO X (annT 56) C (gO c56_5) o56_5.1 s) := q_region (annT 56) s 2 _ false rfl _ _ rfl rfl o56_5.2
theorem g_o56_5 (j : Nat) : gdst (gO c56_5) j = (o56_5.1[j]?).bind Oper.dst := gd_eq o56_5.2 j
theorem r_n56_7 (s : S) : n56_7 s = behK 58 (stepsO X (annT 56) C (gO c56_7) o56_7.1 s) := q_region (annT 56) s 3 _ false rfl _ _ rfl rfl o56_7.2
theorem g_o56_7 (j : Nat) : gdst (gO c56_7) j = (o56_7.1[j]?).bind Oper.dst := gd_eq o56_7.2 j
theorem r_n56_10 (s : S) : n56_10 s = behK 4194362 (stepsO X (annT 56) C (gO c56_10) o56_10.1 s) := q_region (annT 56) s 4 _ false rfl _ _ rfl rfl o56_10.2
theorem g_o56_10 (j : Nat) : gdst (gO c56_10) j = (o56_10.1[j]?).bind Oper.dst := gd_eq o56_10.2 j
theorem r_n56_14 (s : S) : n56_14 s = behK 12582970 (stepsO X (annT 56) C (gO c56_14) o56_14.1 s) := q_region (annT 56) s 5 _ false rfl _ _ rfl rfl o56_14.2
theorem g_o56_14 (j : Nat) : gdst (gO c56_14) j = (o56_14.1[j]?).bind Oper.dst := gd_eq o56_14.2 j
theorem r_n56_16 (s : S) : n56_16 s = some (.norm, s) := run_skip _ s
theorem r_n56_18 (s : S) : n56_18 s = behK 12582970 (stepsO X (annT 56) C (gO c56_18) o56_18.1 s) := q_region (annT 56) s 6 _ false rfl _ _ rfl rfl o56_18.2
theorem g_o56_18 (j : Nat) : gdst (gO c56_18) j = (o56_18.1[j]?).bind Oper.dst := gd_eq o56_18.2 j
theorem r_n56_20 (s : S) : n56_20 s = some (.norm, s) := run_skip _ s
theorem r_n56_21 (s : S) : n56_21 s = behK 12582970 (stepsO X (annT 56) C (gO c56_21) o56_21.1 s) := q_region (annT 56) s 7 _ false rfl _ _ rfl rfl o56_21.2
theorem g_o56_21 (j : Nat) : gdst (gO c56_21) j = (o56_21.1[j]?).bind Oper.dst := gd_eq o56_21.2 j
theorem r_n56_19 (s : S) : n56_19 s = condK (opv s.t (.tmp 23)) n56_20 n56_21 s := q_cond _ c56_20 c56_21 s (.tmp 23)
theorem r_n56_17 (s : S) : n56_17 s = contK n56_19 (n56_18 s) := q_seq _ c56_18 c56_19 s
theorem r_n56_15 (s : S) : n56_15 s = condK (opv s.t (.tmp 23)) n56_16 n56_17 s := q_cond _ c56_16 c56_17 s (.tmp 23)
theorem r_n56_13 (s : S) : n56_13 s = contK n56_15 (n56_14 s) := q_seq _ c56_14 c56_15 s
theorem r_n56_24 (s : S) : n56_24 s = behK 4 (stepsO X (annT 56) C (gO c56_24) o56_24.1 s) := q_region (annT 56) s 8 _ false rfl _ _ rfl rfl o56_24.2
theorem g_o56_24 (j : Nat) : gdst (gO c56_24) j = (o56_24.1[j]?).bind Oper.dst := gd_eq o56_24.2 j
theorem r_n56_25 (s : S) : n56_25 s = some (.ret, s) := run_ret _ s
theorem r_n56_23 (s : S) : n56_23 s = contK n56_25 (n56_24 s) := q_seq _ c56_24 c56_25 s
theorem r_n56_28 (s : S) : n56_28 s = behK 1125899911036986 (stepsO X (annT 56) C (gO c56_28) o56_28.1 s) := q_region (annT 56) s 9 _ false rfl _ _ rfl rfl o56_28.2
theorem g_o56_28 (j : Nat) : gdst (gO c56_28) j = (o56_28.1[j]?).bind Oper.dst := gd_eq o56_28.2 j
theorem r_n56_30 (s : S) : n56_30 s = some (.norm, s) := run_skip _ s
theorem r_n56_32 (s : S) : n56_32 s = behK 1125899911036986 (stepsO X (annT 56) C (gO c56_32) o56_32.1 s) := q_region (annT 56) s 10 _ false rfl _ _ rfl rfl o56_32.2
theorem g_o56_32 (j : Nat) : gdst (gO c56_32) j = (o56_32.1[j]?).bind Oper.dst := gd_eq o56_32.2 j
theorem r_n56_34 (s : S) : n56_34 s = some (.norm, s) := run_skip _ s
theorem r_n56_36 (s : S) : n56_36 s = behK 1125899911036986 (stepsO X (annT 56) C (gO c56_36) o56_36.1 s) := q_region (annT 56) s 11 _ false rfl _ _ rfl rfl o56_36.2
theorem g_o56_36 (j : Nat) : gdst (gO c56_36) j = (o56_36.1[j]?).bind Oper.dst := gd_eq o56_36.2 j
theorem r_n56_38 (s : S) : n56_38 s = some (.norm, s) := run_skip _ s
theorem r_n56_39 (s : S) : n56_39 s = behK 1125899911036986 (stepsO X (annT 56) C (gO c56_39) o56_39.1 s) := q_region (annT 56) s 12 _ false rfl _ _ rfl rfl o56_39.2
theorem g_o56_39 (j : Nat) : gdst (gO c56_39) j = (o56_39.1[j]?).bind Oper.dst := gd_eq o56_39.2 j
theorem r_n56_37 (s : S) : n56_37 s = condK (opv s.t (.tmp 50)) n56_38 n56_39 s := q_cond _ c56_38 c56_39 s (.tmp 50)
theorem r_n56_35 (s : S) : n56_35 s = contK n56_37 (n56_36 s) := q_seq _ c56_36 c56_37 s
theorem r_n56_33 (s : S) : n56_33 s = condK (opv s.t (.tmp 50)) n56_34 n56_35 s := q_cond _ c56_34 c56_35 s (.tmp 50)
theorem r_n56_31 (s : S) : n56_31 s = contK n56_33 (n56_32 s) := q_seq _ c56_32 c56_33 s
theorem r_n56_29 (s : S) : n56_29 s = condK (opv s.t (.tmp 50)) n56_30 n56_31 s := q_cond _ c56_30 c56_31 s (.tmp 50)
theorem r_n56_27 (s : S) : n56_27 s = contK n56_29 (n56_28 s) := q_seq _ c56_28 c56_29 s
theorem r_n56_42 (s : S) : n56_42 s = behK 4 (stepsO X (annT 56) C (gO c56_42) o56_42.1 s) := q_region (annT 56) s 13 _ false rfl _ _ rfl rfl o56_42.2
theorem g_o56_42 (j : Nat) : gdst (gO c56_42) j = (o56_42.1[j]?).bind Oper.dst := gd_eq o56_42.2 j
theorem r_n56_43 (s : S) : n56_43 s = some (.ret, s) := run_ret _ s
theorem r_n56_41 (s : S) : n56_41 s = contK n56_43 (n56_42 s) := q_seq _ c56_42 c56_43 s
theorem r_n56_45 (s : S) : n56_45 s = behK 9444732965739294621754 (stepsO X (annT 56) C (gO c56_45) o56_45.1 s) := q_region (annT 56) s 14 _ false rfl _ _ rfl rfl o56_45.2
theorem g_o56_45 (j : Nat) : gdst (gO c56_45) j = (o56_45.1[j]?).bind Oper.dst := gd_eq o56_45.2 j
theorem r_n56_48 (s : S) : n56_48 s = behK 4 (stepsO X (annT 56) C (gO c56_48) o56_48.1 s) := q_region (annT 56) s 15 _ false rfl _ _ rfl rfl o56_48.2
theorem g_o56_48 (j : Nat) : gdst (gO c56_48) j = (o56_48.1[j]?).bind Oper.dst := gd_eq o56_48.2 j
theorem r_n56_49 (s : S) : n56_49 s = some (.ret, s) := run_ret _ s
theorem r_n56_47 (s : S) : n56_47 s = contK n56_49 (n56_48 s) := q_seq _ c56_48 c56_49 s
theorem r_n56_51 (s : S) : n56_51 s = behK 4951760157141521099600691258 (stepsO X (annT 56) C (gO c56_51) o56_51.1 s) := q_region (annT 56) s 16 _ false rfl _ _ rfl rfl o56_51.2
theorem g_o56_51 (j : Nat) : gdst (gO c56_51) j = (o56_51.1[j]?).bind Oper.dst := gd_eq o56_51.2 j
theorem r_n56_54 (s : S) : n56_54 s = behK 4 (stepsO X (annT 56) C (gO c56_54) o56_54.1 s) := q_region (annT 56) s 17 _ false rfl _ _ rfl rfl o56_54.2
theorem g_o56_54 (j : Nat) : gdst (gO c56_54) j = (o56_54.1[j]?).bind Oper.dst := gd_eq o56_54.2 j
theorem r_n56_55 (s : S) : n56_55 s = some (.ret, s) := run_ret _ s
theorem r_n56_53 (s : S) : n56_53 s = contK n56_55 (n56_54 s) := q_seq _ c56_54 c56_55 s
theorem r_n56_57 (s : S) : n56_57 s = behK 664613997892457936451903530140172338 (stepsO X (annT 56) C (gO c56_57) o56_57.1 s) := q_region (annT 56) s 18 _ false rfl _ _ rfl rfl o56_57.2
theorem g_o56_57 (j : Nat) : gdst (gO c56_57) j = (o56_57.1[j]?).bind Oper.dst := gd_eq o56_57.2 j
theorem r_n56_60 (s : S) : n56_60 s = behK 4 (stepsO X (annT 56) C (gO c56_60) o56_60.1 s) := q_region (annT 56) s 19 _ false rfl _ _ rfl rfl o56_60.2
theorem g_o56_60 (j : Nat) : gdst (gO c56_60) j = (o56_60.1[j]?).bind Oper.dst := gd_eq o56_60.2 j
theorem r_n56_61 (s : S) : n56_61 s = some (.ret, s) := run_ret _ s
theorem r_n56_59 (s : S) : n56_59 s = contK n56_61 (n56_60 s) := q_seq _ c56_60 c56_61 s
theorem r_n56_62 (s : S) : n56_62 s = some (.norm, s) := run_skip _ s
theorem r_n56_58 (s : S) : n56_58 s = condK (opv s.t (.tmp 119)) n56_59 n56_62 s := q_cond _ c56_59 c56_62 s (.tmp 119)
theorem r_n56_56 (s : S) : n56_56 s = contK n56_58 (n56_57 s) := q_seq _ c56_57 c56_58 s
theorem r_n56_52 (s : S) : n56_52 s = condK (opv s.t (.tmp 92)) n56_53 n56_56 s := q_cond _ c56_53 c56_56 s (.tmp 92)
theorem r_n56_50 (s : S) : n56_50 s = contK n56_52 (n56_51 s) := q_seq _ c56_51 c56_52 s
theorem r_n56_46 (s : S) : n56_46 s = condK (opv s.t (.tmp 73)) n56_47 n56_50 s := q_cond _ c56_47 c56_50 s (.tmp 73)
theorem r_n56_44 (s : S) : n56_44 s = contK n56_46 (n56_45 s) := q_seq _ c56_45 c56_46 s
theorem r_n56_40 (s : S) : n56_40 s = condK (opv s.t (.tmp 50)) n56_41 n56_44 s := q_cond _ c56_41 c56_44 s (.tmp 50)
theorem r_n56_26 (s : S) : n56_26 s = contK n56_40 (n56_27 s) := q_seq _ c56_27 c56_40 s
theorem r_n56_22 (s : S) : n56_22 s = condK (opv s.t (.tmp 23)) n56_23 n56_26 s := q_cond _ c56_23 c56_26 s (.tmp 23)
theorem r_n56_12 (s : S) : n56_12 s = contK n56_22 (n56_13 s) := q_seq _ c56_13 c56_22 s
theorem r_n56_11 (s : S) : n56_11 s = blkK 0 (n56_12 s) := q_block _ c56_12 s 0
theorem r_n56_9 (s : S) : n56_9 s = contK n56_11 (n56_10 s) := q_seq _ c56_10 c56_11 s
theorem r_n56_64 (s : S) : n56_64 s = behK 4 (stepsO X (annT 56) C (gO c56_64) o56_64.1 s) := q_region (annT 56) s 20 _ false rfl _ _ rfl rfl o56_64.2
theorem g_o56_64 (j : Nat) : gdst (gO c56_64) j = (o56_64.1[j]?).bind Oper.dst := gd_eq o56_64.2 j
theorem r_n56_65 (s : S) : n56_65 s = some (.ret, s) := run_ret _ s
theorem r_n56_63 (s : S) : n56_63 s = contK n56_65 (n56_64 s) := q_seq _ c56_64 c56_65 s
theorem r_n56_8 (s : S) : n56_8 s = contK n56_63 (n56_9 s) := q_seq _ c56_9 c56_63 s
theorem r_n56_6 (s : S) : n56_6 s = contK n56_8 (n56_7 s) := q_seq _ c56_7 c56_8 s
theorem r_n56_4 (s : S) : n56_4 s = contK n56_6 (n56_5 s) := q_seq _ c56_5 c56_6 s
theorem r_n56_2 (s : S) : n56_2 s = contK n56_4 (n56_3 s) := q_seq _ c56_3 c56_4 s
theorem r_n56_0 (s : S) : n56_0 s = contK n56_2 (n56_1 s) := q_seq _ c56_1 c56_2 s
theorem va_56 : (annT 56).virt = [] := rfl
theorem wa_56 : (annT 56).wr = [] := rfl
theorem ya_56 : (annT 56).ty = [] := rfl
theorem cv_56 (call : Eng.Call) (wr : Bool) (args : List AV) (st : Store) : callV X call wr 56 args st = cvP call wr 56 args st (fzAll (fz false st 6) args) := cv_pure rfl rfl call wr args st
theorem p56 (ds : List D) : pureCall C 56 ds = ((n56_0 ⟨argsT 0 (ds.map .d), []⟩).bind (bodyR [.tmp 2])).bind prOf := P_eq Try.f56 rfl rfl rfl rfl ds
theorem q56 (vs : List AV) (st : Store) : C 56 vs st = (n56_0 ⟨argsT 0 vs, st⟩).bind (bodyR [.tmp 2]) := C_eq Try.f56 rfl rfl rfl rfl vs st
attribute [go_sem] r_n56_1 g_o56_1 o56_1 r_n56_3 g_o56_3 o56_3 r_n56_5 g_o56_5 o56_5 r_n56_7 g_o56_7 o56_7 r_n56_10 g_o56_10 o56_10 r_n56_14 g_o56_14 o56_14 r_n56_16 r_n56_18 g_o56_18 o56_18 r_n56_20 r_n56_21 g_o56_21 o56_21 r_n56_19 r_n56_17 r_n56_15 r_n56_13 r_n56_24 g_o56_24 o56_24 r_n56_25 r_n56_23 r_n56_28 g_o56_28 o56_28 r_n56_30 r_n56_32 g_o56_32 o56_32 r_n56_34 r_n56_36 g_o56_36 o56_36 r_n56_38 r_n56_39 g_o56_39 o56_39 r_n56_37 r_n56_35 r_n56_33 r_n56_31 r_n56_29 r_n56_27 r_n56_42 g_o56_42 o56_42 r_n56_43 r_n56_41 r_n56_45 g_o56_45 o56_45 r_n56_48 g_o56_48 o56_48 r_n56_49 r_n56_47 r_n56_51 g_o56_51 o56_51 r_n56_54 g_o56_54 o56_54 r_n56_55 r_n56_53 r_n56_57 g_o56_57 o56_57 r_n56_60 g_o56_60 o56_60 r_n56_61 r_n56_59 r_n56_62 r_n56_58 r_n56_56 r_n56_52 r_n56_50 r_n56_46 r_n56_44 r_n56_40 r_n56_26 r_n56_22 r_n56_12 r_n56_11 r_n56_9 r_n56_64 g_o56_64 o56_64 r_n56_65 r_n56_63 r_n56_8 r_n56_6 r_n56_4 r_n56_2 r_n56_0 va_56 wa_56 ya_56 cv_56

noncomputable def c79_0 : Code := Try.f79.body.getD .skip
noncomputable def n79_0 : S → RS := run (annT 79) c79_0
noncomputable def c79_1 : Code := gL c79_0
noncomputable def n79_1 : S → RS := run (annT 79) c79_1
noncomputable def o79_1 : {l : List Oper // (gO c79_1).toList = l} := ⟨_, by conv => (lhs; whnf)⟩
noncomputable def c79_2 : Code := gR c79_0
noncomputable def n79_2 : S → RS := run (annT 79) c79_2
noncomputable def c79_3 : Code := gL c79_2
noncomputable def n79_3 : S → RS := run (annT 79) c79_3
noncomputable def c79_4 : Code := gL c79_3
noncomputable def n79_4 : S → RS := run (annT 79) c79_4
noncomputable def o79_4 : {l : List Oper // (gO c79_4).toList = l} := ⟨_, by conv => (lhs; whnf)⟩
noncomputable def c79_5 : Code := gR c79_3
noncomputable def n79_5 : S → RS := run (annT 79) c79_5
noncomputable def c79_6 : Code := gB c79_5
noncomputable def n79_6 : S → RS := run (annT 79) c79_6
noncomputable def c79_7 : Code := gB c79_6
noncomputable def n79_7 : S → RS := run (annT 79) c79_7
noncomputable def c79_8 : Code := gL c79_7
noncomputable def n79_8 : S → RS := run (annT 79) c79_8
noncomputable def o79_8 : {l : List Oper // (gO c79_8).toList = l} := ⟨_, by conv => (lhs; whnf)⟩
noncomputable def c79_9 : Code := gR c79_7
noncomputable def n79_9 : S → RS := run (annT 79) c79_9
noncomputable def c79_10 : Code := gL c79_9
noncomputable def n79_10 : S → RS := run (annT 79) c79_10
noncomputable def c79_11 : Code := gT c79_10
noncomputable def n79_11 : S → RS := run (annT 79) c79_11
noncomputable def c79_12 : Code := gF c79_10
noncomputable def n79_12 : S → RS := run (annT 79) c79_12
noncomputable def c79_13 : Code := gR c79_9
noncomputable def n79_13 : S → RS := run (annT 79) c79_13
noncomputable def c79_14 : Code := gL c79_13
noncomputable def n79_14 : S → RS := run (annT 79) c79_14
noncomputable def c79_15 : Code := gB c79_14
noncomputable def n79_15 : S → RS := run (annT 79) c79_15
noncomputable def c79_16 : Code := gL c79_15
noncomputable def n79_16 : S → RS := run (annT 79) c79_16
noncomputable def o79_16 : {l : List Oper // (gO c79_16).toList = l} := ⟨_, by conv => (lhs; whnf)⟩
noncomputable def c79_17 : Code := gR c79_15
noncomputable def n79_17 : S → RS := run (annT 79) c79_17
noncomputable def c79_18 : Code := gL c79_17
noncomputable def n79_18 : S → RS := run (annT 79) c79_18
noncomputable def o79_18 : {l : List Oper // (gO c79_18).toList = l} := ⟨_, by conv => (lhs; whnf)⟩
noncomputable def c79_19 : Code := gR c79_17
noncomputable def n79_19 : S → RS := run (annT 79) c79_19
noncomputable def c79_20 : Code := gT c79_19
noncomputable def n79_20 : S → RS := run (annT 79) c79_20
noncomputable def c79_21 : Code := gL c79_20
noncomputable def n79_21 : S → RS := run (annT 79) c79_21
noncomputable def o79_21 : {l : List Oper // (gO c79_21).toList = l} := ⟨_, by conv => (lhs; whnf)⟩
noncomputable def c79_22 : Code := gR c79_20
noncomputable def n79_22 : S → RS := run (annT 79) c79_22
noncomputable def c79_23 : Code := gF c79_19
noncomputable def n79_23 : S → RS := run (annT 79) c79_23
noncomputable def c79_24 : Code := gR c79_13
noncomputable def n79_24 : S → RS := run (annT 79) c79_24
noncomputable def o79_24 : {l : List Oper // (gO c79_24).toList = l} := ⟨_, by conv => (lhs; whnf)⟩
noncomputable def c79_25 : Code := gR c79_2
noncomputable def n79_25 : S → RS := run (annT 79) c79_25
noncomputable def c79_26 : Code := gL c79_25
noncomputable def n79_26 : S → RS := run (annT 79) c79_26
noncomputable def o79_26 : {l : List Oper // (gO c79_26).toList = l} := ⟨_, by conv => (lhs; whnf)⟩
noncomputable def c79_27 : Code := gR c79_25
noncomputable def n79_27 : S → RS := run (annT 79) c79_27
theorem r_n79_1 (s : S) : n79_1 s = behK 3 (stepsO X (annT 79) C (gO c79_1) o79_1.1 s) := q_region (annT 79) s 0 _ false rfl _ _ rfl rfl o79_1.2
theorem g_o79_1 (j : Nat) : gdst (gO c79_1) j = (o79_1.1[j]?).bind Oper.dst := gd_eq o79_1.2 j
theorem r_n79_4 (s : S) : n79_4 s = behK 387 (stepsO X (annT 79) C (gO c79_4) o79_4.1 s) := q_region (annT 79) s 1 _ false rfl _ _ rfl rfl o79_4.2
theorem g_o79_4 (j : Nat) : gdst (gO c79_4) j = (o79_4.1[j]?).bind Oper.dst := gd_eq o79_4.2 j
theorem r_n79_8 (s : S) : n79_8 s = behK 899 (stepsO X (annT 79) C (gO c79_8) o79_8.1 s) := q_region (annT 79) s 2 _ false rfl _ _ rfl rfl o79_8.2
theorem g_o79_8 (j : Nat) : gdst (gO c79_8) j = (o79_8.1[j]?).bind Oper.dst := gd_eq o79_8.2 j
theorem r_n79_11 (s : S) : n79_11 s = some (.norm, s) := run_skip _ s
theorem r_n79_12 (s : S) : n79_12 s = some (.exit 0, s) := run_exit _ s 0
theorem r_n79_10 (s : S) : n79_10 s = condK (opv s.t (.tmp 9)) n79_11 n79_12 s := q_cond _ c79_11 c79_12 s (.tmp 9)
theorem r_n79_16 (s : S) : n79_16 s = behK 419 (stepsO X (annT 79) C (gO c79_16) o79_16.1 s) := q_region (annT 79) s 3 _ false rfl _ _ rfl rfl o79_16.2
theorem g_o79_16 (j : Nat) : gdst (gO c79_16) j = (o79_16.1[j]?).bind Oper.dst := gd_eq o79_16.2 j
theorem r_n79_18 (s : S) : n79_18 s = behK 65955 (stepsO X (annT 79) C (gO c79_18) o79_18.1 s) := q_region (annT 79) s 4 _ false rfl _ _ rfl rfl o79_18.2
theorem g_o79_18 (j : Nat) : gdst (gO c79_18) j = (o79_18.1[j]?).bind Oper.dst := gd_eq o79_18.2 j
theorem r_n79_21 (s : S) : n79_21 s = behK 16 (stepsO X (annT 79) C (gO c79_21) o79_21.1 s) := q_region (annT 79) s 5 _ false rfl _ _ rfl rfl o79_21.2
theorem g_o79_21 (j : Nat) : gdst (gO c79_21) j = (o79_21.1[j]?).bind Oper.dst := gd_eq o79_21.2 j
theorem r_n79_22 (s : S) : n79_22 s = some (.ret, s) := run_ret _ s
theorem r_n79_20 (s : S) : n79_20 s = contK n79_22 (n79_21 s) := q_seq _ c79_21 c79_22 s
theorem r_n79_23 (s : S) : n79_23 s = some (.norm, s) := run_skip _ s
theorem r_n79_19 (s : S) : n79_19 s = condK (opv s.t (.tmp 16)) n79_20 n79_23 s := q_cond _ c79_20 c79_23 s (.tmp 16)
theorem r_n79_17 (s : S) : n79_17 s = contK n79_19 (n79_18 s) := q_seq _ c79_18 c79_19 s
theorem r_n79_15 (s : S) : n79_15 s = contK n79_17 (n79_16 s) := q_seq _ c79_16 c79_17 s
theorem r_n79_14 (s : S) : n79_14 s = blkK 1 (n79_15 s) := q_block _ c79_15 s 1
theorem r_n79_24 (s : S) : n79_24 s = behK 387 (stepsO X (annT 79) C (gO c79_24) o79_24.1 s) := q_region (annT 79) s 6 _ false rfl _ _ rfl rfl o79_24.2
theorem g_o79_24 (j : Nat) : gdst (gO c79_24) j = (o79_24.1[j]?).bind Oper.dst := gd_eq o79_24.2 j
theorem r_n79_13 (s : S) : n79_13 s = contK n79_24 (n79_14 s) := q_seq _ c79_14 c79_24 s
theorem r_n79_9 (s : S) : n79_9 s = contK n79_13 (n79_10 s) := q_seq _ c79_10 c79_13 s
theorem r_n79_7 (s : S) : n79_7 s = contK n79_9 (n79_8 s) := q_seq _ c79_8 c79_9 s
theorem r_n79_6 (s : S) : n79_6 s = loopK 387 s.st.length n79_6 (n79_7 s) := q_loop (annT 79) c79_7 s _ _ rfl rfl
theorem r_n79_5 (s : S) : n79_5 s = blkK 0 (n79_6 s) := q_block _ c79_6 s 0
theorem r_n79_3 (s : S) : n79_3 s = contK n79_5 (n79_4 s) := q_seq _ c79_4 c79_5 s
theorem r_n79_26 (s : S) : n79_26 s = behK 16 (stepsO X (annT 79) C (gO c79_26) o79_26.1 s) := q_region (annT 79) s 7 _ false rfl _ _ rfl rfl o79_26.2
theorem g_o79_26 (j : Nat) : gdst (gO c79_26) j = (o79_26.1[j]?).bind Oper.dst := gd_eq o79_26.2 j
theorem r_n79_27 (s : S) : n79_27 s = some (.ret, s) := run_ret _ s
theorem r_n79_25 (s : S) : n79_25 s = contK n79_27 (n79_26 s) := q_seq _ c79_26 c79_27 s
theorem r_n79_2 (s : S) : n79_2 s = contK n79_25 (n79_3 s) := q_seq _ c79_3 c79_25 s
theorem r_n79_0 (s : S) : n79_0 s = contK n79_2 (n79_1 s) := q_seq _ c79_1 c79_2 s
theorem va_79 : (annT 79).virt = [] := rfl
theorem wa_79 : (annT 79).wr = [] := rfl
theorem ya_79 : (annT 79).ty = [] := rfl
theorem cv_79 (call : Eng.Call) (wr : Bool) (args : List AV) (st : Store) : callV X call wr 79 args st = cvP call wr 79 args st (fzAll (fz false st 6) args) := cv_pure rfl rfl call wr args st
theorem p79 (ds : List D) : pureCall C 79 ds = ((n79_0 ⟨argsT 0 (ds.map .d), []⟩).bind (bodyR [.tmp 4])).bind prOf := P_eq Try.f79 rfl rfl rfl rfl ds
theorem q79 (vs : List AV) (st : Store) : C 79 vs st = (n79_0 ⟨argsT 0 vs, st⟩).bind (bodyR [.tmp 4]) := C_eq Try.f79 rfl rfl rfl rfl vs st
attribute [go_sem] r_n79_1 g_o79_1 o79_1 r_n79_4 g_o79_4 o79_4 r_n79_8 g_o79_8 o79_8 r_n79_11 r_n79_12 r_n79_10 r_n79_16 g_o79_16 o79_16 r_n79_18 g_o79_18 o79_18 r_n79_21 g_o79_21 o79_21 r_n79_22 r_n79_20 r_n79_23 r_n79_19 r_n79_17 r_n79_15 r_n79_14 r_n79_24 g_o79_24 o79_24 r_n79_13 r_n79_9 r_n79_7 r_n79_5 r_n79_3 r_n79_26 g_o79_26 o79_26 r_n79_27 r_n79_25 r_n79_2 r_n79_0 va_79 wa_79 ya_79 cv_79

noncomputable def c57_0 : Code := Try.f57.body.getD .skip
noncomputable def n57_0 : S → RS := run (annT 57) c57_0
noncomputable def c57_1 : Code := gL c57_0
noncomputable def n57_1 : S → RS := run (annT 57) c57_1
noncomputable def o57_1 : {l : List Oper // (gO c57_1).toList = l} := ⟨_, by conv => (lhs; whnf)⟩
noncomputable def c57_2 : Code := gR c57_0
noncomputable def n57_2 : S → RS := run (annT 57) c57_2
noncomputable def c57_3 : Code := gL c57_2
noncomputable def n57_3 : S → RS := run (annT 57) c57_3
noncomputable def o57_3 : {l : List Oper // (gO c57_3).toList = l} := ⟨_, by conv => (lhs; whnf)⟩
noncomputable def c57_4 : Code := gR c57_2
noncomputable def n57_4 : S → RS := run (annT 57) c57_4
theorem r_n57_1 (s : S) : n57_1 s = behK 3 (stepsO X (annT 57) C (gO c57_1) o57_1.1 s) := q_region (annT 57) s 0 _ false rfl _ _ rfl rfl o57_1.2
theorem g_o57_1 (j : Nat) : gdst (gO c57_1) j = (o57_1.1[j]?).bind Oper.dst := gd_eq o57_1.2 j
theorem r_n57_3 (s : S) : n57_3 s = behK 16 (stepsO X (annT 57) C (gO c57_3) o57_3.1 s) := q_region (annT 57) s 1 _ false rfl _ _ rfl rfl o57_3.2
theorem g_o57_3 (j : Nat) : gdst (gO c57_3) j = (o57_3.1[j]?).bind Oper.dst := gd_eq o57_3.2 j
theorem r_n57_4 (s : S) : n57_4 s = some (.ret, s) := run_ret _ s
theorem r_n57_2 (s : S) : n57_2 s = contK n57_4 (n57_3 s) := q_seq _ c57_3 c57_4 s
theorem r_n57_0 (s : S) : n57_0 s = contK n57_2 (n57_1 s) := q_seq _ c57_1 c57_2 s
theorem va_57 : (annT 57).virt = [] := rfl
theorem wa_57 : (annT 57).wr = [] := rfl
theorem ya_57 : (annT 57).ty = [] := rfl
theorem cv_57 (call : Eng.Call) (wr : Bool) (args : List AV) (st : Store) : callV X call wr 57 args st = cvP call wr 57 args st (fzAll (fz false st 6) args) := cv_pure rfl rfl call wr args st
theorem p57 (ds : List D) : pureCall C 57 ds = ((n57_0 ⟨argsT 0 (ds.map .d), []⟩).bind (bodyR [.tmp 4])).bind prOf := P_eq Try.f57 rfl rfl rfl rfl ds
theorem q57 (vs : List AV) (st : Store) : C 57 vs st = (n57_0 ⟨argsT 0 vs, st⟩).bind (bodyR [.tmp 4]) := C_eq Try.f57 rfl rfl rfl rfl vs st
attribute [go_sem] r_n57_1 g_o57_1 o57_1 r_n57_3 g_o57_3 o57_3 r_n57_4 r_n57_2 r_n57_0 va_57 wa_57 ya_57 cv_57

noncomputable def c58_0 : Code := Try.f58.body.getD .skip
noncomputable def n58_0 : S → RS := run (annT 58) c58_0
noncomputable def c58_1 : Code := gL c58_0
noncomputable def n58_1 : S → RS := run (annT 58) c58_1
noncomputable def o58_1 : {l : List Oper // (gO c58_1).toList = l} := ⟨_, by conv => (lhs; whnf)⟩
noncomputable def c58_2 : Code := gR c58_0
noncomputable def n58_2 : S → RS := run (annT 58) c58_2
noncomputable def c58_3 : Code := gL c58_2
noncomputable def n58_3 : S → RS := run (annT 58) c58_3
noncomputable def o58_3 : {l : List Oper // (gO c58_3).toList = l} := ⟨_, by conv => (lhs; whnf)⟩
noncomputable def c58_4 : Code := gR c58_2
noncomputable def n58_4 : S → RS := run (annT 58) c58_4
theorem r_n58_1 (s : S) : n58_1 s = behK 2 (stepsO X (annT 58) C (gO c58_1) o58_1.1 s) := q_region (annT 58) s 0 _ false rfl _ _ rfl rfl o58_1.2
theorem g_o58_1 (j : Nat) : gdst (gO c58_1) j = (o58_1.1[j]?).bind Oper.dst := gd_eq o58_1.2 j
theorem r_n58_3 (s : S) : n58_3 s = behK 4 (stepsO X (annT 58) C (gO c58_3) o58_3.1 s) := q_region (annT 58) s 1 _ false rfl _ _ rfl rfl o58_3.2
theorem g_o58_3 (j : Nat) : gdst (gO c58_3) j = (o58_3.1[j]?).bind Oper.dst := gd_eq o58_3.2 j
theorem r_n58_4 (s : S) : n58_4 s = some (.ret, s) := run_ret _ s
theorem r_n58_2 (s : S) : n58_2 s = contK n58_4 (n58_3 s) := q_seq _ c58_3 c58_4 s
theorem r_n58_0 (s : S) : n58_0 s = contK n58_2 (n58_1 s) := q_seq _ c58_1 c58_2 s
theorem va_58 : (annT 58).virt = [] := rfl
theorem wa_58 : (annT 58).wr = [] := rfl
theorem ya_58 : (annT 58).ty = [] := rfl
theorem cv_58 (call : Eng.Call) (wr : Bool) (args : List AV) (st : Store) : callV X call wr 58 args st = cvP call wr 58 args st (fzAll (fz false st 6) args) := cv_pure rfl rfl call wr args st
theorem p58 (ds : List D) : pureCall C 58 ds = ((n58_0 ⟨argsT 0 (ds.map .d), []⟩).bind (bodyR [.tmp 2])).bind prOf := P_eq Try.f58 rfl rfl rfl rfl ds
theorem q58 (vs : List AV) (st : Store) : C 58 vs st = (n58_0 ⟨argsT 0 vs, st⟩).bind (bodyR [.tmp 2]) := C_eq Try.f58 rfl rfl rfl rfl vs st
attribute [go_sem] r_n58_1 g_o58_1 o58_1 r_n58_3 g_o58_3 o58_3 r_n58_4 r_n58_2 r_n58_0 va_58 wa_58 ya_58 cv_58

noncomputable def c36_0 : Code := Try.f36.body.getD .skip
noncomputable def n36_0 : S → RS := run (annT 36) c36_0
noncomputable def c36_1 : Code := gL c36_0
noncomputable def n36_1 : S → RS := run (annT 36) c36_1
noncomputable def o36_1 : {l : List Oper // (gO c36_1).toList = l} := ⟨_, by conv => (lhs; whnf)⟩
noncomputable def c36_2 : Code := gR c36_0
noncomputable def n36_2 : S → RS := run (annT 36) c36_2
noncomputable def c36_3 : Code := gL c36_2
noncomputable def n36_3 : S → RS := run (annT 36) c36_3
noncomputable def o36_3 : {l : List Oper // (gO c36_3).toList = l} := ⟨_, by conv => (lhs; whnf)⟩
noncomputable def c36_4 : Code := gR c36_2
noncomputable def n36_4 : S → RS := run (annT 36) c36_4
theorem r_n36_1 (s : S) : n36_1 s = behK 2 (stepsO X (annT 36) C (gO c36_1) o36_1.1 s) := q_region (annT 36) s 0 _ false rfl _ _ rfl rfl o36_1.2
theorem g_o36_1 (j : Nat) : gdst (gO c36_1) j = (o36_1.1[j]?).bind Oper.dst := gd_eq o36_1.2 j
theorem r_n36_3 (s : S) : n36_3 s = behK 4 (stepsO X (annT 36) C (gO c36_3) o36_3.1 s) := q_region (annT 36) s 1 _ false rfl _ _ rfl rfl o36_3.2
theorem g_o36_3 (j : Nat) : gdst (gO c36_3) j = (o36_3.1[j]?).bind Oper.dst := gd_eq o36_3.2 j
theorem r_n36_4 (s : S) : n36_4 s = some (.ret, s) := run_ret _ s
theorem r_n36_2 (s : S) : n36_2 s = contK n36_4 (n36_3 s) := q_seq _ c36_3 c36_4 s
theorem r_n36_0 (s : S) : n36_0 s = contK n36_2 (n36_1 s) := q_seq _ c36_1 c36_2 s
theorem va_36 : (annT 36).virt = [] := rfl
theorem wa_36 : (annT 36).wr = [] := rfl
theorem ya_36 : (annT 36).ty = [] := rfl
theorem cv_36 (call : Eng.Call) (wr : Bool) (args : List AV) (st : Store) : callV X call wr 36 args st = cvP call wr 36 args st (fzAll (fz false st 6) args) := cv_pure rfl rfl call wr args st
theorem p36 (ds : List D) : pureCall C 36 ds = ((n36_0 ⟨argsT 0 (ds.map .d), []⟩).bind (bodyR [.tmp 2])).bind prOf := P_eq Try.f36 rfl rfl rfl rfl ds
theorem q36 (vs : List AV) (st : Store) : C 36 vs st = (n36_0 ⟨argsT 0 vs, st⟩).bind (bodyR [.tmp 2]) := C_eq Try.f36 rfl rfl rfl rfl vs st
attribute [go_sem] r_n36_1 g_o36_1 o36_1 r_n36_3 g_o36_3 o36_3 r_n36_4 r_n36_2 r_n36_0 va_36 wa_36 ya_36 cv_36

noncomputable def c20_0 : Code := Try.f20.body.getD .skip
noncomputable def n20_0 : S → RS := run (annT 20) c20_0
noncomputable def c20_1 : Code := gL c20_0
noncomputable def n20_1 : S → RS := run (annT 20) c20_1
noncomputable def o20_1 : {l : List Oper // (gO c20_1).toList = l} := ⟨_, by conv => (lhs; whnf)⟩
noncomputable def c20_2 : Code := gR c20_0
noncomputable def n20_2 : S → RS := run (annT 20) c20_2
noncomputable def c20_3 : Code := gL c20_2
noncomputable def n20_3 : S → RS := run (annT 20) c20_3
noncomputable def c20_4 : Code := gL c20_3
noncomputable def n20_4 : S → RS := run (annT 20) c20_4
noncomputable def o20_4 : {l : List Oper // (gO c20_4).toList = l} := ⟨_, by conv => (lhs; whnf)⟩
noncomputable def c20_5 : Code := gR c20_3
noncomputable def n20_5 : S → RS := run (annT 20) c20_5
noncomputable def c20_6 : Code := gT c20_5
noncomputable def n20_6 : S → RS := run (annT 20) c20_6
noncomputable def c20_7 : Code := gL c20_6
noncomputable def n20_7 : S → RS := run (annT 20) c20_7
noncomputable def o20_7 : {l : List Oper // (gO c20_7).toList = l} := ⟨_, by conv => (lhs; whnf)⟩
noncomputable def c20_8 : Code := gR c20_6
noncomputable def n20_8 : S → RS := run (annT 20) c20_8
noncomputable def c20_9 : Code := gF c20_5
noncomputable def n20_9 : S → RS := run (annT 20) c20_9
noncomputable def c20_10 : Code := gR c20_2
noncomputable def n20_10 : S → RS := run (annT 20) c20_10
noncomputable def c20_11 : Code := gL c20_10
noncomputable def n20_11 : S → RS := run (annT 20) c20_11
noncomputable def o20_11 : {l : List Oper // (gO c20_11).toList = l} := ⟨_, by conv => (lhs; whnf)⟩
noncomputable def c20_12 : Code := gR c20_10
noncomputable def n20_12 : S → RS := run (annT 20) c20_12
theorem r_n20_1 (s : S) : n20_1 s = behK 2 (stepsO X (annT 20) C (gO c20_1) o20_1.1 s) := q_region (annT 20) s 0 _ false rfl _ _ rfl rfl o20_1.2
theorem g_o20_1 (j : Nat) : gdst (gO c20_1) j = (o20_1.1[j]?).bind Oper.dst := gd_eq o20_1.2 j
theorem r_n20_4 (s : S) : n20_4 s = behK 32768 (stepsO X (annT 20) C (gO c20_4) o20_4.1 s) := q_region (annT 20) s 1 _ false rfl _ _ rfl rfl o20_4.2
theorem g_o20_4 (j : Nat) : gdst (gO c20_4) j = (o20_4.1[j]?).bind Oper.dst := gd_eq o20_4.2 j
theorem r_n20_7 (s : S) : n20_7 s = behK 4 (stepsO X (annT 20) C (gO c20_7) o20_7.1 s) := q_region (annT 20) s 2 _ false rfl _ _ rfl rfl o20_7.2
theorem g_o20_7 (j : Nat) : gdst (gO c20_7) j = (o20_7.1[j]?).bind Oper.dst := gd_eq o20_7.2 j
theorem r_n20_8 (s : S) : n20_8 s = some (.ret, s) := run_ret _ s
theorem r_n20_6 (s : S) : n20_6 s = contK n20_8 (n20_7 s) := q_seq _ c20_7 c20_8 s
theorem r_n20_9 (s : S) : n20_9 s = some (.norm, s) := run_skip _ s
theorem r_n20_5 (s : S) : n20_5 s = condK (opv s.t (.tmp 15)) n20_6 n20_9 s := q_cond _ c20_6 c20_9 s (.tmp 15)
theorem r_n20_3 (s : S) : n20_3 s = contK n20_5 (n20_4 s) := q_seq _ c20_4 c20_5 s
theorem r_n20_11 (s : S) : n20_11 s = behK 4 (stepsO X (annT 20) C (gO c20_11) o20_11.1 s) := q_region (annT 20) s 3 _ false rfl _ _ rfl rfl o20_11.2
theorem g_o20_11 (j : Nat) : gdst (gO c20_11) j = (o20_11.1[j]?).bind Oper.dst := gd_eq o20_11.2 j
theorem r_n20_12 (s : S) : n20_12 s = some (.ret, s) := run_ret _ s
theorem r_n20_10 (s : S) : n20_10 s = contK n20_12 (n20_11 s) := q_seq _ c20_11 c20_12 s
theorem r_n20_2 (s : S) : n20_2 s = contK n20_10 (n20_3 s) := q_seq _ c20_3 c20_10 s
theorem r_n20_0 (s : S) : n20_0 s = contK n20_2 (n20_1 s) := q_seq _ c20_1 c20_2 s
theorem va_20 : (annT 20).virt = [] := rfl
theorem wa_20 : (annT 20).wr = [] := rfl
theorem ya_20 : (annT 20).ty = [] := rfl
theorem cv_20 (call : Eng.Call) (wr : Bool) (args : List AV) (st : Store) : callV X call wr 20 args st = cvP call wr 20 args st (fzAll (fz false st 6) args) := cv_pure rfl rfl call wr args st
theorem p20 (ds : List D) : pureCall C 20 ds = ((n20_0 ⟨argsT 0 (ds.map .d), []⟩).bind (bodyR [.tmp 2])).bind prOf := P_eq Try.f20 rfl rfl rfl rfl ds
theorem q20 (vs : List AV) (st : Store) : C 20 vs st = (n20_0 ⟨argsT 0 vs, st⟩).bind (bodyR [.tmp 2]) := C_eq Try.f20 rfl rfl rfl rfl vs st
attribute [go_sem] r_n20_1 g_o20_1 o20_1 r_n20_4 g_o20_4 o20_4 r_n20_7 g_o20_7 o20_7 r_n20_8 r_n20_6 r_n20_9 r_n20_5 r_n20_3 r_n20_11 g_o20_11 o20_11 r_n20_12 r_n20_10 r_n20_2 r_n20_0 va_20 wa_20 ya_20 cv_20
end Go.L25
