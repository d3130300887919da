/- Layer 25: codes by their parts. Conditions: none. -/
import Derived.Test.YtjbaoopiffcigaaQG1
set_option linter.unusedVariables false
namespace Go.L25
open Go Go.Eng Go.Proofs
set_option maxRecDepth 100000

noncomputable def c83_0 : Code := Try.f83.body.getD .skip
noncomputable def n83_0 : S → RS := run (annT 83) c83_0
noncomputable def c83_1 : Code := gL c83_0
noncomputable def n83_1 : S → RS := run (annT 83) c83_1
noncomputable def o83_1 : {l : List Oper // (gO c83_1).toList = l} := ⟨_, by conv => (lhs; whnf)⟩
noncomputable def c83_2 : Code := gR c83_0
noncomputable def n83_2 : S → RS := run (annT 83) c83_2
noncomputable def c83_3 : Code := gL c83_2
noncomputable def n83_3 : S → RS := run (annT 83) c83_3
noncomputable def c83_4 : Code := gL c83_3
noncomputable def n83_4 : S → RS := run (annT 83) c83_4
noncomputable def o83_4 : {l : List Oper // (gO c83_4).toList = l} := ⟨_, by conv => (lhs; whnf)⟩
noncomputable def c83_5 : Code := gR c83_3
noncomputable def n83_5 : S → RS := run (annT 83) c83_5
noncomputable def c83_6 : Code := gT c83_5
noncomputable def n83_6 : S → RS := run (annT 83) c83_6
noncomputable def c83_7 : Code := gL c83_6
noncomputable def n83_7 : S → RS := run (annT 83) c83_7
noncomputable def o83_7 : {l : List Oper // (gO c83_7).toList = l} := ⟨_, by conv => (lhs; whnf)⟩
noncomputable def c83_8 : Code := gR c83_6
noncomputable def n83_8 : S → RS := run (annT 83) c83_8
noncomputable def c83_9 : Code := gF c83_5
noncomputable def n83_9 : S → RS := run (annT 83) c83_9
noncomputable def c83_10 : Code := gR c83_2
noncomputable def n83_10 : S → RS := run (annT 83) c83_10
noncomputable def c83_11 : Code := gL c83_10
noncomputable def n83_11 : S → RS := run (annT 83) c83_11
noncomputable def o83_11 : {l : List Oper // (gO c83_11).toList = l} := ⟨_, by conv => (lhs; whnf)⟩
noncomputable def c83_12 : Code := gR c83_10
noncomputable def n83_12 : S → RS := run (annT 83) c83_12
noncomputable def c83_13 : Code := gL c83_12
noncomputable def n83_13 : S → RS := run (annT 83) c83_13
noncomputable def o83_13 : {l : List Oper // (gO c83_13).toList = l} := ⟨_, by conv => (lhs; whnf)⟩
noncomputable def c83_14 : Code := gR c83_12
noncomputable def n83_14 : S → RS := run (annT 83) c83_14
noncomputable def c83_15 : Code := gL c83_14
noncomputable def n83_15 : S → RS := run (annT 83) c83_15
noncomputable def o83_15 : {l : List Oper // (gO c83_15).toList = l} := ⟨_, by conv => (lhs; whnf)⟩
noncomputable def c83_16 : Code := gR c83_14
noncomputable def n83_16 : S → RS := run (annT 83) c83_16
theorem r_n83_1 (s : S) : n83_1 s = behK 71 (stepsO X (annT 83) C (gO c83_1) o83_1.1 s) := q_region (annT 83) s 0 _ false rfl _ _ rfl rfl o83_1.2
theorem g_o83_1 (j : Nat) : gdst (gO c83_1) j = (o83_1.1[j]?).bind Oper.dst := gd_eq o83_1.2 j
theorem r_n83_4 (s : S) : n83_4 s = behK 4194375 (stepsO X (annT 83) C (gO c83_4) o83_4.1 s) := q_region (annT 83) s 1 _ false rfl _ _ rfl rfl o83_4.2
theorem g_o83_4 (j : Nat) : gdst (gO c83_4) j = (o83_4.1[j]?).bind Oper.dst := gd_eq o83_4.2 j
theorem r_n83_7 (s : S) : n83_7 s = behK 192 (stepsO X (annT 83) C (gO c83_7) o83_7.1 s) := q_region (annT 83) s 2 _ false rfl _ _ rfl rfl o83_7.2
theorem g_o83_7 (j : Nat) : gdst (gO c83_7) j = (o83_7.1[j]?).bind Oper.dst := gd_eq o83_7.2 j
theorem r_n83_8 (s : S) : n83_8 s = some (.ret, s) := run_ret _ s
theorem r_n83_6 (s : S) : n83_6 s = contK n83_8 (n83_7 s) := q_seq _ c83_7 c83_8 s
theorem r_n83_9 (s : S) : n83_9 s = some (.norm, s) := run_skip _ s
theorem r_n83_5 (s : S) : n83_5 s = condK (opv s.t (.tmp 22)) n83_6 n83_9 s := q_cond _ c83_6 c83_9 s (.tmp 22)
theorem r_n83_3 (s : S) : n83_3 s = contK n83_5 (n83_4 s) := q_seq _ c83_4 c83_5 s
theorem r_n83_11 (s : S) : n83_11 s = behK 324 (stepsO X (annT 83) C (gO c83_11) o83_11.1 s) := q_region (annT 83) s 3 _ false rfl _ _ rfl rfl o83_11.2
theorem g_o83_11 (j : Nat) : gdst (gO c83_11) j = (o83_11.1[j]?).bind Oper.dst := gd_eq o83_11.2 j
theorem r_n83_13 (s : S) : n83_13 s = behK 320 (stepsO X (annT 83) C (gO c83_13) o83_13.1 s) := q_region (annT 83) s 4 _ false rfl _ _ rfl rfl o83_13.2
theorem g_o83_13 (j : Nat) : gdst (gO c83_13) j = (o83_13.1[j]?).bind Oper.dst := gd_eq o83_13.2 j
theorem r_n83_15 (s : S) : n83_15 s = behK 192 (stepsO X (annT 83) C (gO c83_15) o83_15.1 s) := q_region (annT 83) s 5 _ false rfl _ _ rfl rfl o83_15.2
theorem g_o83_15 (j : Nat) : gdst (gO c83_15) j = (o83_15.1[j]?).bind Oper.dst := gd_eq o83_15.2 j
theorem r_n83_16 (s : S) : n83_16 s = some (.ret, s) := run_ret _ s
theorem r_n83_14 (s : S) : n83_14 s = contK n83_16 (n83_15 s) := q_seq _ c83_15 c83_16 s
theorem r_n83_12 (s : S) : n83_12 s = contK n83_14 (n83_13 s) := q_seq _ c83_13 c83_14 s
theorem r_n83_10 (s : S) : n83_10 s = contK n83_12 (n83_11 s) := q_seq _ c83_11 c83_12 s
theorem r_n83_2 (s : S) : n83_2 s = contK n83_10 (n83_3 s) := q_seq _ c83_3 c83_10 s
theorem r_n83_0 (s : S) : n83_0 s = contK n83_2 (n83_1 s) := q_seq _ c83_1 c83_2 s
theorem va_83 : (annT 83).virt = [] := rfl
theorem wa_83 : (annT 83).wr = [] := rfl
theorem ya_83 : (annT 83).ty = [] := rfl
theorem cv_83 (call : Eng.Call) (wr : Bool) (args : List AV) (st : Store) : callV X call wr 83 args st = (call 83 args st).map (trimR st.length) := cv_imp rfl rfl call wr args st
theorem p83 (ds : List D) : pureCall C 83 ds = ((n83_0 ⟨argsT 0 (ds.map .d), []⟩).bind (bodyR [.cell 6 32, .tmp 7])).bind prOf := P_eq Try.f83 rfl rfl rfl rfl ds
theorem q83 (vs : List AV) (st : Store) : C 83 vs st = (n83_0 ⟨argsT 0 vs, st⟩).bind (bodyR [.cell 6 32, .tmp 7]) := C_eq Try.f83 rfl rfl rfl rfl vs st
attribute [go_sem] r_n83_1 g_o83_1 o83_1 r_n83_4 g_o83_4 o83_4 r_n83_7 g_o83_7 o83_7 r_n83_8 r_n83_6 r_n83_9 r_n83_5 r_n83_3 r_n83_11 g_o83_11 o83_11 r_n83_13 g_o83_13 o83_13 r_n83_15 g_o83_15 o83_15 r_n83_16 r_n83_14 r_n83_12 r_n83_10 r_n83_2 r_n83_0 va_83 wa_83 ya_83 cv_83

noncomputable def c84_0 : Code := Try.f84.body.getD .skip
noncomputable def n84_0 : S → RS := run (annT 84) c84_0
noncomputable def o84_0 : {l : List Oper // (gO c84_0).toList = l} := ⟨_, by conv => (lhs; whnf)⟩
theorem r_n84_0 (s : S) : n84_0 s = behK 0 (stepsO X (annT 84) C (gO c84_0) o84_0.1 s) := q_region (annT 84) s 0 _ false rfl _ _ rfl rfl o84_0.2
theorem g_o84_0 (j : Nat) : gdst (gO c84_0) j = (o84_0.1[j]?).bind Oper.dst := gd_eq o84_0.2 j
theorem va_84 : (annT 84).virt = [] := rfl
theorem wa_84 : (annT 84).wr = [] := rfl
theorem ya_84 : (annT 84).ty = [] := rfl
theorem cv_84 (call : Eng.Call) (wr : Bool) (args : List AV) (st : Store) : callV X call wr 84 args st = (call 84 args st).map (trimR st.length) := cv_imp rfl rfl call wr args st
theorem p84 (ds : List D) : pureCall C 84 ds = ((n84_0 ⟨argsT 0 (ds.map .d), []⟩).bind (bodyR [])).bind prOf := P_eq Try.f84 rfl rfl rfl rfl ds
theorem q84 (vs : List AV) (st : Store) : C 84 vs st = (n84_0 ⟨argsT 0 vs, st⟩).bind (bodyR []) := C_eq Try.f84 rfl rfl rfl rfl vs st
attribute [go_sem] r_n84_0 g_o84_0 o84_0 va_84 wa_84 ya_84 cv_84

noncomputable def c85_0 : Code := Try.f85.body.getD .skip
noncomputable def n85_0 : S → RS := run (annT 85) c85_0
noncomputable def c85_1 : Code := gL c85_0
noncomputable def n85_1 : S → RS := run (annT 85) c85_1
noncomputable def o85_1 : {l : List Oper // (gO c85_1).toList = l} := ⟨_, by conv => (lhs; whnf)⟩
noncomputable def c85_2 : Code := gR c85_0
noncomputable def n85_2 : S → RS := run (annT 85) c85_2
noncomputable def c85_3 : Code := gL c85_2
noncomputable def n85_3 : S → RS := run (annT 85) c85_3
noncomputable def c85_4 : Code := gL c85_3
noncomputable def n85_4 : S → RS := run (annT 85) c85_4
noncomputable def o85_4 : {l : List Oper // (gO c85_4).toList = l} := ⟨_, by conv => (lhs; whnf)⟩
noncomputable def c85_5 : Code := gR c85_3
noncomputable def n85_5 : S → RS := run (annT 85) c85_5
noncomputable def c85_6 : Code := gT c85_5
noncomputable def n85_6 : S → RS := run (annT 85) c85_6
noncomputable def c85_7 : Code := gL c85_6
noncomputable def n85_7 : S → RS := run (annT 85) c85_7
noncomputable def o85_7 : {l : List Oper // (gO c85_7).toList = l} := ⟨_, by conv => (lhs; whnf)⟩
noncomputable def c85_8 : Code := gR c85_6
noncomputable def n85_8 : S → RS := run (annT 85) c85_8
noncomputable def c85_9 : Code := gF c85_5
noncomputable def n85_9 : S → RS := run (annT 85) c85_9
noncomputable def c85_10 : Code := gR c85_2
noncomputable def n85_10 : S → RS := run (annT 85) c85_10
noncomputable def c85_11 : Code := gL c85_10
noncomputable def n85_11 : S → RS := run (annT 85) c85_11
noncomputable def o85_11 : {l : List Oper // (gO c85_11).toList = l} := ⟨_, by conv => (lhs; whnf)⟩
noncomputable def c85_12 : Code := gR c85_10
noncomputable def n85_12 : S → RS := run (annT 85) c85_12
theorem r_n85_1 (s : S) : n85_1 s = behK 1 (stepsO X (annT 85) C (gO c85_1) o85_1.1 s) := q_region (annT 85) s 0 _ false rfl _ _ rfl rfl o85_1.2
theorem g_o85_1 (j : Nat) : gdst (gO c85_1) j = (o85_1.1[j]?).bind Oper.dst := gd_eq o85_1.2 j
theorem r_n85_4 (s : S) : n85_4 s = behK 17 (stepsO X (annT 85) C (gO c85_4) o85_4.1 s) := q_region (annT 85) s 1 _ false rfl _ _ rfl rfl o85_4.2
theorem g_o85_4 (j : Nat) : gdst (gO c85_4) j = (o85_4.1[j]?).bind Oper.dst := gd_eq o85_4.2 j
theorem r_n85_7 (s : S) : n85_7 s = behK 4 (stepsO X (annT 85) C (gO c85_7) o85_7.1 s) := q_region (annT 85) s 2 _ false rfl _ _ rfl rfl o85_7.2
theorem g_o85_7 (j : Nat) : gdst (gO c85_7) j = (o85_7.1[j]?).bind Oper.dst := gd_eq o85_7.2 j
theorem r_n85_8 (s : S) : n85_8 s = some (.ret, s) := run_ret _ s
theorem r_n85_6 (s : S) : n85_6 s = contK n85_8 (n85_7 s) := q_seq _ c85_7 c85_8 s
theorem r_n85_9 (s : S) : n85_9 s = some (.norm, s) := run_skip _ s
theorem r_n85_5 (s : S) : n85_5 s = condK (opv s.t (.tmp 4)) n85_6 n85_9 s := q_cond _ c85_6 c85_9 s (.tmp 4)
theorem r_n85_3 (s : S) : n85_3 s = contK n85_5 (n85_4 s) := q_seq _ c85_4 c85_5 s
theorem r_n85_11 (s : S) : n85_11 s = behK 4 (stepsO X (annT 85) C (gO c85_11) o85_11.1 s) := q_region (annT 85) s 3 _ false rfl _ _ rfl rfl o85_11.2
theorem g_o85_11 (j : Nat) : gdst (gO c85_11) j = (o85_11.1[j]?).bind Oper.dst := gd_eq o85_11.2 j
theorem r_n85_12 (s : S) : n85_12 s = some (.ret, s) := run_ret _ s
theorem r_n85_10 (s : S) : n85_10 s = contK n85_12 (n85_11 s) := q_seq _ c85_11 c85_12 s
theorem r_n85_2 (s : S) : n85_2 s = contK n85_10 (n85_3 s) := q_seq _ c85_3 c85_10 s
theorem r_n85_0 (s : S) : n85_0 s = contK n85_2 (n85_1 s) := q_seq _ c85_1 c85_2 s
theorem va_85 : (annT 85).virt = [] := rfl
theorem wa_85 : (annT 85).wr = [] := rfl
theorem ya_85 : (annT 85).ty = [] := rfl
theorem cv_85 (call : Eng.Call) (wr : Bool) (args : List AV) (st : Store) : callV X call wr 85 args st = (call 85 args st).map (trimR st.length) := cv_imp rfl rfl call wr args st
theorem p85 (ds : List D) : pureCall C 85 ds = ((n85_0 ⟨argsT 0 (ds.map .d), []⟩).bind (bodyR [.tmp 2])).bind prOf := P_eq Try.f85 rfl rfl rfl rfl ds
theorem q85 (vs : List AV) (st : Store) : C 85 vs st = (n85_0 ⟨argsT 0 vs, st⟩).bind (bodyR [.tmp 2]) := C_eq Try.f85 rfl rfl rfl rfl vs st
attribute [go_sem] r_n85_1 g_o85_1 o85_1 r_n85_4 g_o85_4 o85_4 r_n85_7 g_o85_7 o85_7 r_n85_8 r_n85_6 r_n85_9 r_n85_5 r_n85_3 r_n85_11 g_o85_11 o85_11 r_n85_12 r_n85_10 r_n85_2 r_n85_0 va_85 wa_85 ya_85 cv_85

noncomputable def c86_0 : Code := Try.f86.body.getD .skip
noncomputable def n86_0 : S → RS := run (annT 86) c86_0
noncomputable def o86_0 : {l : List Oper // (gO c86_0).toList = l} := ⟨_, by conv => (lhs; whnf)⟩
theorem r_n86_0 (s : S) : n86_0 s = behK 0 (stepsO X (annT 86) C (gO c86_0) o86_0.1 s) := q_region (annT 86) s 0 _ false rfl _ _ rfl rfl o86_0.2
theorem g_o86_0 (j : Nat) : gdst (gO c86_0) j = (o86_0.1[j]?).bind Oper.dst := gd_eq o86_0.2 j
theorem va_86 : (annT 86).virt = [] := rfl
theorem wa_86 : (annT 86).wr = [] := rfl
theorem ya_86 : (annT 86).ty = [] := rfl
theorem cv_86 (call : Eng.Call) (wr : Bool) (args : List AV) (st : Store) : callV X call wr 86 args st = (call 86 args st).map (trimR st.length) := cv_imp rfl rfl call wr args st
theorem p86 (ds : List D) : pureCall C 86 ds = ((n86_0 ⟨argsT 0 (ds.map .d), []⟩).bind (bodyR [])).bind prOf := P_eq Try.f86 rfl rfl rfl rfl ds
theorem q86 (vs : List AV) (st : Store) : C 86 vs st = (n86_0 ⟨argsT 0 vs, st⟩).bind (bodyR []) := C_eq Try.f86 rfl rfl rfl rfl vs st
attribute [go_sem] r_n86_0 g_o86_0 o86_0 va_86 wa_86 ya_86 cv_86

noncomputable def c87_0 : Code := Try.f87.body.getD .skip
noncomputable def n87_0 : S → RS := run (annT 87) c87_0
noncomputable def c87_1 : Code := gL c87_0
noncomputable def n87_1 : S → RS := run (annT 87) c87_1
noncomputable def o87_1 : {l : List Oper // (gO c87_1).toList = l} := ⟨_, by conv => (lhs; whnf)⟩
noncomputable def c87_2 : Code := gR c87_0
noncomputable def n87_2 : S → RS := run (annT 87) c87_2
noncomputable def c87_3 : Code := gL c87_2
noncomputable def n87_3 : S → RS := run (annT 87) c87_3
noncomputable def o87_3 : {l : List Oper // (gO c87_3).toList = l} := ⟨_, by conv => (lhs; whnf)⟩
noncomputable def c87_4 : Code := gR c87_2
noncomputable def n87_4 : S → RS := run (annT 87) c87_4
noncomputable def c87_5 : Code := gT c87_4
noncomputable def n87_5 : S → RS := run (annT 87) c87_5
noncomputable def o87_5 : {l : List Oper // (gO c87_5).toList = l} := ⟨_, by conv => (lhs; whnf)⟩
noncomputable def c87_6 : Code := gF c87_4
noncomputable def n87_6 : S → RS := run (annT 87) c87_6
theorem r_n87_1 (s : S) : n87_1 s = behK 3 (stepsO X (annT 87) C (gO c87_1) o87_1.1 s) := q_region (annT 87) s 0 _ false rfl _ _ rfl rfl o87_1.2
theorem g_o87_1 (j : Nat) : gdst (gO c87_1) j = (o87_1.1[j]?).bind Oper.dst := gd_eq o87_1.2 j
theorem r_n87_3 (s : S) : n87_3 s = behK 65 (stepsO X (annT 87) C (gO c87_3) o87_3.1 s) := q_region (annT 87) s 1 _ false rfl _ _ rfl rfl o87_3.2
theorem g_o87_3 (j : Nat) : gdst (gO c87_3) j = (o87_3.1[j]?).bind Oper.dst := gd_eq o87_3.2 j
theorem r_n87_5 (s : S) : n87_5 s = behK 0 (stepsO X (annT 87) C (gO c87_5) o87_5.1 s) := q_region (annT 87) s 2 _ false rfl _ _ rfl rfl o87_5.2
theorem g_o87_5 (j : Nat) : gdst (gO c87_5) j = (o87_5.1[j]?).bind Oper.dst := gd_eq o87_5.2 j
theorem r_n87_6 (s : S) : n87_6 s = some (.norm, s) := run_skip _ s
theorem r_n87_4 (s : S) : n87_4 s = condK (opv s.t (.tmp 6)) n87_5 n87_6 s := q_cond _ c87_5 c87_6 s (.tmp 6)
theorem r_n87_2 (s : S) : n87_2 s = contK n87_4 (n87_3 s) := q_seq _ c87_3 c87_4 s
theorem r_n87_0 (s : S) : n87_0 s = contK n87_2 (n87_1 s) := q_seq _ c87_1 c87_2 s
theorem va_87 : (annT 87).virt = [] := rfl
theorem wa_87 : (annT 87).wr = [] := rfl
theorem ya_87 : (annT 87).ty = [] := rfl
theorem cv_87 (call : Eng.Call) (wr : Bool) (args : List AV) (st : Store) : callV X call wr 87 args st = (call 87 args st).map (trimR st.length) := cv_imp rfl rfl call wr args st
theorem p87 (ds : List D) : pureCall C 87 ds = ((n87_0 ⟨argsT 0 (ds.map .d), []⟩).bind (bodyR [])).bind prOf := P_eq Try.f87 rfl rfl rfl rfl ds
theorem q87 (vs : List AV) (st : Store) : C 87 vs st = (n87_0 ⟨argsT 0 vs, st⟩).bind (bodyR []) := C_eq Try.f87 rfl rfl rfl rfl vs st
attribute [go_sem] r_n87_1 g_o87_1 o87_1 r_n87_3 g_o87_3 o87_3 r_n87_5 g_o87_5 o87_5 r_n87_6 r_n87_4 r_n87_2 r_n87_0 va_87 wa_87 ya_87 cv_87

noncomputable def c66_0 : Code := Try.f66.body.getD .skip
noncomputable def n66_0 : S → RS := run (annT 66) c66_0
noncomputable def c66_1 : Code := gL c66_0
noncomputable def n66_1 : S → RS := run (annT 66) c66_1
noncomputable def o66_1 : {l : List Oper // (gO c66_1).toList = l} := ⟨_, by conv => (lhs; whnf)⟩
noncomputable def c66_2 : Code := gR c66_0
noncomputable def n66_2 : S → RS := run (annT 66) c66_2
noncomputable def c66_3 : Code := gL c66_2
noncomputable def n66_3 : S → RS := run (annT 66) c66_3
noncomputable def o66_3 : {l : List Oper // (gO c66_3).toList = l} := ⟨_, by conv => (lhs; whnf)⟩
noncomputable def c66_4 : Code := gR c66_2
noncomputable def n66_4 : S → RS := run (annT 66) c66_4
theorem r_n66_1 (s : S) : n66_1 s = behK 99 (stepsO X (annT 66) C (gO c66_1) o66_1.1 s) := q_region (annT 66) s 0 _ false rfl _ _ rfl rfl o66_1.2
theorem g_o66_1 (j : Nat) : gdst (gO c66_1) j = (o66_1.1[j]?).bind Oper.dst := gd_eq o66_1.2 j
theorem r_n66_3 (s : S) : n66_3 s = behK 192 (stepsO X (annT 66) C (gO c66_3) o66_3.1 s) := q_region (annT 66) s 1 _ false rfl _ _ rfl rfl o66_3.2
theorem g_o66_3 (j : Nat) : gdst (gO c66_3) j = (o66_3.1[j]?).bind Oper.dst := gd_eq o66_3.2 j
theorem r_n66_4 (s : S) : n66_4 s = some (.ret, s) := run_ret _ s
theorem r_n66_2 (s : S) : n66_2 s = contK n66_4 (n66_3 s) := q_seq _ c66_3 c66_4 s
theorem r_n66_0 (s : S) : n66_0 s = contK n66_2 (n66_1 s) := q_seq _ c66_1 c66_2 s
theorem va_66 : (annT 66).virt = [] := rfl
theorem wa_66 : (annT 66).wr = [] := rfl
theorem ya_66 : (annT 66).ty = [] := rfl
theorem cv_66 (call : Eng.Call) (wr : Bool) (args : List AV) (st : Store) : callV X call wr 66 args st = (call 66 args st).map (trimR st.length) := cv_imp rfl rfl call wr args st
theorem p66 (ds : List D) : pureCall C 66 ds = ((n66_0 ⟨argsT 0 (ds.map .d), []⟩).bind (bodyR [.cell 6 32, .tmp 7])).bind prOf := P_eq Try.f66 rfl rfl rfl rfl ds
theorem q66 (vs : List AV) (st : Store) : C 66 vs st = (n66_0 ⟨argsT 0 vs, st⟩).bind (bodyR [.cell 6 32, .tmp 7]) := C_eq Try.f66 rfl rfl rfl rfl vs st
attribute [go_sem] r_n66_1 g_o66_1 o66_1 r_n66_3 g_o66_3 o66_3 r_n66_4 r_n66_2 r_n66_0 va_66 wa_66 ya_66 cv_66

noncomputable def c67_0 : Code := Try.f67.body.getD .skip
noncomputable def n67_0 : S → RS := run (annT 67) c67_0
noncomputable def c67_1 : Code := gL c67_0
noncomputable def n67_1 : S → RS := run (annT 67) c67_1
noncomputable def o67_1 : {l : List Oper // (gO c67_1).toList = l} := ⟨_, by conv => (lhs; whnf)⟩
noncomputable def c67_2 : Code := gR c67_0
noncomputable def n67_2 : S → RS := run (annT 67) c67_2
noncomputable def c67_3 : Code := gL c67_2
noncomputable def n67_3 : S → RS := run (annT 67) c67_3
noncomputable def o67_3 : {l : List Oper // (gO c67_3).toList = l} := ⟨_, by conv => (lhs; whnf)⟩
noncomputable def c67_4 : Code := gR c67_2
noncomputable def n67_4 : S → RS := run (annT 67) c67_4
theorem r_n67_1 (s : S) : n67_1 s = behK 99 (stepsO X (annT 67) C (gO c67_1) o67_1.1 s) := q_region (annT 67) s 0 _ false rfl _ _ rfl rfl o67_1.2
theorem g_o67_1 (j : Nat) : gdst (gO c67_1) j = (o67_1.1[j]?).bind Oper.dst := gd_eq o67_1.2 j
theorem r_n67_3 (s : S) : n67_3 s = behK 192 (stepsO X (annT 67) C (gO c67_3) o67_3.1 s) := q_region (annT 67) s 1 _ false rfl _ _ rfl rfl o67_3.2
theorem g_o67_3 (j : Nat) : gdst (gO c67_3) j = (o67_3.1[j]?).bind Oper.dst := gd_eq o67_3.2 j
theorem r_n67_4 (s : S) : n67_4 s = some (.ret, s) := run_ret _ s
theorem r_n67_2 (s : S) : n67_2 s = contK n67_4 (n67_3 s) := q_seq _ c67_3 c67_4 s
theorem r_n67_0 (s : S) : n67_0 s = contK n67_2 (n67_1 s) := q_seq _ c67_1 c67_2 s
theorem va_67 : (annT 67).virt = [] := rfl
theorem wa_67 : (annT 67).wr = [] := rfl
theorem ya_67 : (annT 67).ty = [] := rfl
theorem cv_67 (call : Eng.Call) (wr : Bool) (args : List AV) (st : Store) : callV X call wr 67 args st = cvP call wr 67 args st (fzAll (fz false st 6) args) := cv_pure rfl rfl call wr args st
theorem p67 (ds : List D) : pureCall C 67 ds = ((n67_0 ⟨argsT 0 (ds.map .d), []⟩).bind (bodyR [.cell 6 32, .tmp 7])).bind prOf := P_eq Try.f67 rfl rfl rfl rfl ds
theorem q67 (vs : List AV) (st : Store) : C 67 vs st = (n67_0 ⟨argsT 0 vs, st⟩).bind (bodyR [.cell 6 32, .tmp 7]) := C_eq Try.f67 rfl rfl rfl rfl vs st
attribute [go_sem] r_n67_1 g_o67_1 o67_1 r_n67_3 g_o67_3 o67_3 r_n67_4 r_n67_2 r_n67_0 va_67 wa_67 ya_67 cv_67

noncomputable def c69_0 : Code := Try.f69.body.getD .skip
noncomputable def n69_0 : S → RS := run (annT 69) c69_0
noncomputable def c69_1 : Code := gL c69_0
noncomputable def n69_1 : S → RS := run (annT 69) c69_1
noncomputable def o69_1 : {l : List Oper // (gO c69_1).toList = l} := ⟨_, by conv => (lhs; whnf)⟩
noncomputable def c69_2 : Code := gR c69_0
noncomputable def n69_2 : S → RS := run (annT 69) c69_2
noncomputable def c69_3 : Code := gL c69_2
noncomputable def n69_3 : S → RS := run (annT 69) c69_3
noncomputable def o69_3 : {l : List Oper // (gO c69_3).toList = l} := ⟨_, by conv => (lhs; whnf)⟩
noncomputable def c69_4 : Code := gR c69_2
noncomputable def n69_4 : S → RS := run (annT 69) c69_4
theorem r_n69_1 (s : S) : n69_1 s = behK 99 (stepsO X (annT 69) C (gO c69_1) o69_1.1 s) := q_region (annT 69) s 0 _ false rfl _ _ rfl rfl o69_1.2
theorem g_o69_1 (j : Nat) : gdst (gO c69_1) j = (o69_1.1[j]?).bind Oper.dst := gd_eq o69_1.2 j
theorem r_n69_3 (s : S) : n69_3 s = behK 192 (stepsO X (annT 69) C (gO c69_3) o69_3.1 s) := q_region (annT 69) s 1 _ false rfl _ _ rfl rfl o69_3.2
theorem g_o69_3 (j : Nat) : gdst (gO c69_3) j = (o69_3.1[j]?).bind Oper.dst := gd_eq o69_3.2 j
theorem r_n69_4 (s : S) : n69_4 s = some (.ret, s) := run_ret _ s
theorem r_n69_2 (s : S) : n69_2 s = contK n69_4 (n69_3 s) := q_seq _ c69_3 c69_4 s
theorem r_n69_0 (s : S) : n69_0 s = contK n69_2 (n69_1 s) := q_seq _ c69_1 c69_2 s
theorem va_69 : (annT 69).virt = [] := rfl
theorem wa_69 : (annT 69).wr = [] := rfl
theorem ya_69 : (annT 69).ty = [] := rfl
theorem cv_69 (call : Eng.Call) (wr : Bool) (args : List AV) (st : Store) : callV X call wr 69 args st = cvP call wr 69 args st (fzAll (fz false st 6) args) := cv_pure rfl rfl call wr args st
theorem p69 (ds : List D) : pureCall C 69 ds = ((n69_0 ⟨argsT 0 (ds.map .d), []⟩).bind (bodyR [.cell 6 32, .tmp 7])).bind prOf := P_eq Try.f69 rfl rfl rfl rfl ds
theorem q69 (vs : List AV) (st : Store) : C 69 vs st = (n69_0 ⟨argsT 0 vs, st⟩).bind (bodyR [.cell 6 32, .tmp 7]) := C_eq Try.f69 rfl rfl rfl rfl vs st
attribute [go_sem] r_n69_1 g_o69_1 o69_1 r_n69_3 g_o69_3 o69_3 r_n69_4 r_n69_2 r_n69_0 va_69 wa_69 ya_69 cv_69

noncomputable def c41_0 : Code := Try.f41.body.getD .skip
noncomputable def n41_0 : S → RS := run (annT 41) c41_0
noncomputable def c41_1 : Code := gL c41_0
noncomputable def n41_1 : S → RS := run (annT 41) c41_1
noncomputable def o41_1 : {l : List Oper // (gO c41_1).toList = l} := ⟨_, by conv => (lhs; whnf)⟩
noncomputable def c41_2 : Code := gR c41_0
noncomputable def n41_2 : S → RS := run (annT 41) c41_2
noncomputable def c41_3 : Code := gL c41_2
noncomputable def n41_3 : S → RS := run (annT 41) c41_3
noncomputable def o41_3 : {l : List Oper // (gO c41_3).toList = l} := ⟨_, by conv => (lhs; whnf)⟩
noncomputable def c41_4 : Code := gR c41_2
noncomputable def n41_4 : S → RS := run (annT 41) c41_4
noncomputable def c41_5 : Code := gL c41_4
noncomputable def n41_5 : S → RS := run (annT 41) c41_5
noncomputable def o41_5 : {l : List Oper // (gO c41_5).toList = l} := ⟨_, by conv => (lhs; whnf)⟩
noncomputable def c41_6 : Code := gR c41_4
noncomputable def n41_6 : S → RS := run (annT 41) c41_6
theorem r_n41_1 (s : S) : n41_1 s = behK 19 (stepsO X (annT 41) C (gO c41_1) o41_1.1 s) := q_region (annT 41) s 0 _ false rfl _ _ rfl rfl o41_1.2
theorem g_o41_1 (j : Nat) : gdst (gO c41_1) j = (o41_1.1[j]?).bind Oper.dst := gd_eq o41_1.2 j
theorem r_n41_3 (s : S) : n41_3 s = behK 48 (stepsO X (annT 41) C (gO c41_3) o41_3.1 s) := q_region (annT 41) s 1 _ false rfl _ _ rfl rfl o41_3.2
theorem g_o41_3 (j : Nat) : gdst (gO c41_3) j = (o41_3.1[j]?).bind Oper.dst := gd_eq o41_3.2 j
theorem r_n41_5 (s : S) : n41_5 s = behK 16 (stepsO X (annT 41) C (gO c41_5) o41_5.1 s) := q_region (annT 41) s 2 _ false rfl _ _ rfl rfl o41_5.2
theorem g_o41_5 (j : Nat) : gdst (gO c41_5) j = (o41_5.1[j]?).bind Oper.dst := gd_eq o41_5.2 j
theorem r_n41_6 (s : S) : n41_6 s = some (.ret, s) := run_ret _ s
theorem r_n41_4 (s : S) : n41_4 s = contK n41_6 (n41_5 s) := q_seq _ c41_5 c41_6 s
theorem r_n41_2 (s : S) : n41_2 s = contK n41_4 (n41_3 s) := q_seq _ c41_3 c41_4 s
theorem r_n41_0 (s : S) : n41_0 s = contK n41_2 (n41_1 s) := q_seq _ c41_1 c41_2 s
theorem va_41 : (annT 41).virt = [] := rfl
theorem wa_41 : (annT 41).wr = [] := rfl
theorem ya_41 : (annT 41).ty = [] := rfl
theorem cv_41 (call : Eng.Call) (wr : Bool) (args : List AV) (st : Store) : callV X call wr 41 args st = (call 41 args st).map (trimR st.length) := cv_imp rfl rfl call wr args st
theorem p41 (ds : List D) : pureCall C 41 ds = ((n41_0 ⟨argsT 0 (ds.map .d), []⟩).bind (bodyR [.cell 4 32])).bind prOf := P_eq Try.f41 rfl rfl rfl rfl ds
theorem q41 (vs : List AV) (st : Store) : C 41 vs st = (n41_0 ⟨argsT 0 vs, st⟩).bind (bodyR [.cell 4 32]) := C_eq Try.f41 rfl rfl rfl rfl vs st
attribute [go_sem] r_n41_1 g_o41_1 o41_1 r_n41_3 g_o41_3 o41_3 r_n41_5 g_o41_5 o41_5 r_n41_6 r_n41_4 r_n41_2 r_n41_0 va_41 wa_41 ya_41 cv_41

noncomputable def c42_0 : Code := Try.f42.body.getD .skip
noncomputable def n42_0 : S → RS := run (annT 42) c42_0
noncomputable def c42_1 : Code := gL c42_0
noncomputable def n42_1 : S → RS := run (annT 42) c42_1
noncomputable def o42_1 : {l : List Oper // (gO c42_1).toList = l} := ⟨_, by conv => (lhs; whnf)⟩
noncomputable def c42_2 : Code := gR c42_0
noncomputable def n42_2 : S → RS := run (annT 42) c42_2
noncomputable def c42_3 : Code := gL c42_2
noncomputable def n42_3 : S → RS := run (annT 42) c42_3
noncomputable def o42_3 : {l : List Oper // (gO c42_3).toList = l} := ⟨_, by conv => (lhs; whnf)⟩
noncomputable def c42_4 : Code := gR c42_2
noncomputable def n42_4 : S → RS := run (annT 42) c42_4
noncomputable def c42_5 : Code := gL c42_4
noncomputable def n42_5 : S → RS := run (annT 42) c42_5
noncomputable def o42_5 : {l : List Oper // (gO c42_5).toList = l} := ⟨_, by conv => (lhs; whnf)⟩
noncomputable def c42_6 : Code := gR c42_4
noncomputable def n42_6 : S → RS := run (annT 42) c42_6
theorem r_n42_1 (s : S) : n42_1 s = behK 71 (stepsO X (annT 42) C (gO c42_1) o42_1.1 s) := q_region (annT 42) s 0 _ false rfl _ _ rfl rfl o42_1.2
theorem g_o42_1 (j : Nat) : gdst (gO c42_1) j = (o42_1.1[j]?).bind Oper.dst := gd_eq o42_1.2 j
theorem r_n42_3 (s : S) : n42_3 s = behK 192 (stepsO X (annT 42) C (gO c42_3) o42_3.1 s) := q_region (annT 42) s 1 _ false rfl _ _ rfl rfl o42_3.2
theorem g_o42_3 (j : Nat) : gdst (gO c42_3) j = (o42_3.1[j]?).bind Oper.dst := gd_eq o42_3.2 j
theorem r_n42_5 (s : S) : n42_5 s = behK 64 (stepsO X (annT 42) C (gO c42_5) o42_5.1 s) := q_region (annT 42) s 2 _ false rfl _ _ rfl rfl o42_5.2
theorem g_o42_5 (j : Nat) : gdst (gO c42_5) j = (o42_5.1[j]?).bind Oper.dst := gd_eq o42_5.2 j
theorem r_n42_6 (s : S) : n42_6 s = some (.ret, s) := run_ret _ s
theorem r_n42_4 (s : S) : n42_4 s = contK n42_6 (n42_5 s) := q_seq _ c42_5 c42_6 s
theorem r_n42_2 (s : S) : n42_2 s = contK n42_4 (n42_3 s) := q_seq _ c42_3 c42_4 s
theorem r_n42_0 (s : S) : n42_0 s = contK n42_2 (n42_1 s) := q_seq _ c42_1 c42_2 s
theorem va_42 : (annT 42).virt = [] := rfl
theorem wa_42 : (annT 42).wr = [] := rfl
theorem ya_42 : (annT 42).ty = [] := rfl
theorem cv_42 (call : Eng.Call) (wr : Bool) (args : List AV) (st : Store) : callV X call wr 42 args st = cvP call wr 42 args st (fzAll (fz false st 6) args) := cv_pure rfl rfl call wr args st
theorem p42 (ds : List D) : pureCall C 42 ds = ((n42_0 ⟨argsT 0 (ds.map .d), []⟩).bind (bodyR [.cell 6 32])).bind prOf := P_eq Try.f42 rfl rfl rfl rfl ds
theorem q42 (vs : List AV) (st : Store) : C 42 vs st = (n42_0 ⟨argsT 0 vs, st⟩).bind (bodyR [.cell 6 32]) := C_eq Try.f42 rfl rfl rfl rfl vs st
attribute [go_sem] r_n42_1 g_o42_1 o42_1 r_n42_3 g_o42_3 o42_3 r_n42_5 g_o42_5 o42_5 r_n42_6 r_n42_4 r_n42_2 r_n42_0 va_42 wa_42 ya_42 cv_42

noncomputable def c43_0 : Code := Try.f43.body.getD .skip
noncomputable def n43_0 : S → RS := run (annT 43) c43_0
noncomputable def c43_1 : Code := gL c43_0
noncomputable def n43_1 : S → RS := run (annT 43) c43_1
noncomputable def o43_1 : {l : List Oper // (gO c43_1).toList = l} := ⟨_, by conv => (lhs; whnf)⟩
noncomputable def c43_2 : Code := gR c43_0
noncomputable def n43_2 : S → RS := run (annT 43) c43_2
noncomputable def c43_3 : Code := gL c43_2
noncomputable def n43_3 : S → RS := run (annT 43) c43_3
noncomputable def o43_3 : {l : List Oper // (gO c43_3).toList = l} := ⟨_, by conv => (lhs; whnf)⟩
noncomputable def c43_4 : Code := gR c43_2
noncomputable def n43_4 : S → RS := run (annT 43) c43_4
noncomputable def c43_5 : Code := gL c43_4
noncomputable def n43_5 : S → RS := run (annT 43) c43_5
noncomputable def o43_5 : {l : List Oper // (gO c43_5).toList = l} := ⟨_, by conv => (lhs; whnf)⟩
noncomputable def c43_6 : Code := gR c43_4
noncomputable def n43_6 : S → RS := run (annT 43) c43_6
noncomputable def c43_7 : Code := gL c43_6
noncomputable def n43_7 : S → RS := run (annT 43) c43_7
noncomputable def o43_7 : {l : List Oper // (gO c43_7).toList = l} := ⟨_, by conv => (lhs; whnf)⟩
noncomputable def c43_8 : Code := gR c43_6
noncomputable def n43_8 : S → RS := run (annT 43) c43_8
noncomputable def c43_9 : Code := gL c43_8
noncomputable def n43_9 : S → RS := run (annT 43) c43_9
noncomputable def c43_10 : Code := gL c43_9
noncomputable def n43_10 : S → RS := run (annT 43) c43_10
noncomputable def o43_10 : {l : List Oper // (gO c43_10).toList = l} := ⟨_, by conv => (lhs; whnf)⟩
noncomputable def c43_11 : Code := gR c43_9
noncomputable def n43_11 : S → RS := run (annT 43) c43_11
noncomputable def c43_12 : Code := gB c43_11
noncomputable def n43_12 : S → RS := run (annT 43) c43_12
noncomputable def c43_13 : Code := gB c43_12
noncomputable def n43_13 : S → RS := run (annT 43) c43_13
noncomputable def c43_14 : Code := gL c43_13
noncomputable def n43_14 : S → RS := run (annT 43) c43_14
noncomputable def o43_14 : {l : List Oper // (gO c43_14).toList = l} := ⟨_, by conv => (lhs; whnf)⟩
noncomputable def c43_15 : Code := gR c43_13
noncomputable def n43_15 : S → RS := run (annT 43) c43_15
noncomputable def c43_16 : Code := gL c43_15
noncomputable def n43_16 : S → RS := run (annT 43) c43_16
noncomputable def c43_17 : Code := gT c43_16
noncomputable def n43_17 : S → RS := run (annT 43) c43_17
noncomputable def c43_18 : Code := gF c43_16
noncomputable def n43_18 : S → RS := run (annT 43) c43_18
noncomputable def c43_19 : Code := gR c43_15
noncomputable def n43_19 : S → RS := run (annT 43) c43_19
noncomputable def c43_20 : Code := gL c43_19
noncomputable def n43_20 : S → RS := run (annT 43) c43_20
noncomputable def c43_21 : Code := gB c43_20
noncomputable def n43_21 : S → RS := run (annT 43) c43_21
noncomputable def c43_22 : Code := gL c43_21
noncomputable def n43_22 : S → RS := run (annT 43) c43_22
noncomputable def o43_22 : {l : List Oper // (gO c43_22).toList = l} := ⟨_, by conv => (lhs; whnf)⟩
noncomputable def c43_23 : Code := gR c43_21
noncomputable def n43_23 : S → RS := run (annT 43) c43_23
noncomputable def o43_23 : {l : List Oper // (gO c43_23).toList = l} := ⟨_, by conv => (lhs; whnf)⟩
noncomputable def c43_24 : Code := gR c43_19
noncomputable def n43_24 : S → RS := run (annT 43) c43_24
noncomputable def o43_24 : {l : List Oper // (gO c43_24).toList = l} := ⟨_, by conv => (lhs; whnf)⟩
noncomputable def c43_25 : Code := gR c43_8
noncomputable def n43_25 : S → RS := run (annT 43) c43_25
noncomputable def c43_26 : Code := gL c43_25
noncomputable def n43_26 : S → RS := run (annT 43) c43_26
noncomputable def o43_26 : {l : List Oper // (gO c43_26).toList = l} := ⟨_, by conv => (lhs; whnf)⟩
noncomputable def c43_27 : Code := gR c43_25
noncomputable def n43_27 : S → RS := run (annT 43) c43_27
noncomputable def c43_28 : Code := gL c43_27
noncomputable def n43_28 : S → RS := run (annT 43) c43_28
noncomputable def o43_28 : {l : List Oper // (gO c43_28).toList = l} := ⟨_, by conv => (lhs; whnf)⟩
noncomputable def c43_29 : Code := gR c43_27
noncomputable def n43_29 : S → RS := run (annT 43) c43_29
noncomputable def c43_30 : Code := gL c43_29
noncomputable def n43_30 : S → RS := run (annT 43) c43_30
noncomputable def o43_30 : {l : List Oper // (gO c43_30).toList = l} := ⟨_, by conv => (lhs; whnf)⟩
noncomputable def c43_31 : Code := gR c43_29
noncomputable def n43_31 : S → RS := run (annT 43) c43_31
theorem r_n43_1 (s : S) : n43_1 s = behK 6 (stepsO X (annT 43) C (gO c43_1) o43_1.1 s) := q_region (annT 43) s 0 _ false rfl _ _ rfl rfl o43_1.2
theorem g_o43_1 (j : Nat) : gdst (gO c43_1) j = (o43_1.1[j]?).bind Oper.dst := gd_eq o43_1.2 j
theorem r_n43_3 (s : S) : n43_3 s = behK 14 (stepsO X (annT 43) C (gO c43_3) o43_3.1 s) := q_region (annT 43) s 1 _ false rfl _ _ rfl rfl o43_3.2
theorem g_o43_3 (j : Nat) : gdst (gO c43_3) j = (o43_3.1[j]?).bind Oper.dst := gd_eq o43_3.2 j
theorem r_n43_5 (s : S) : n43_5 s = behK 30 (stepsO X (annT 43) C (gO c43_5) o43_5.1 s) := q_region (annT 43) s 2 _ false rfl _ _ rfl rfl o43_5.2
theorem g_o43_5 (j : Nat) : gdst (gO c43_5) j = (o43_5.1[j]?).bind Oper.dst := gd_eq o43_5.2 j
theorem r_n43_7 (s : S) : n43_7 s = behK 30 (stepsO X (annT 43) C (gO c43_7) o43_7.1 s) := q_region (annT 43) s 3 _ false rfl _ _ rfl rfl o43_7.2
theorem g_o43_7 (j : Nat) : gdst (gO c43_7) j = (o43_7.1[j]?).bind Oper.dst := gd_eq o43_7.2 j
theorem r_n43_10 (s : S) : n43_10 s = behK 7340062 (stepsO X (annT 43) C (gO c43_10) o43_10.1 s) := q_region (annT 43) s 4 _ false rfl _ _ rfl rfl o43_10.2
theorem g_o43_10 (j : Nat) : gdst (gO c43_10) j = (o43_10.1[j]?).bind Oper.dst := gd_eq o43_10.2 j
theorem r_n43_14 (s : S) : n43_14 s = behK 15728670 (stepsO X (annT 43) C (gO c43_14) o43_14.1 s) := q_region (annT 43) s 5 _ false rfl _ _ rfl rfl o43_14.2
theorem g_o43_14 (j : Nat) : gdst (gO c43_14) j = (o43_14.1[j]?).bind Oper.dst := gd_eq o43_14.2 j
theorem r_n43_17 (s : S) : n43_17 s = some (.norm, s) := run_skip _ s
theorem r_n43_18 (s : S) : n43_18 s = some (.exit 0, s) := run_exit _ s 0
theorem r_n43_16 (s : S) : n43_16 s = condK (opv s.t (.tmp 23)) n43_17 n43_18 s := q_cond _ c43_17 c43_18 s (.tmp 23)
theorem r_n43_22 (s : S) : n43_22 s = behK 7340126 (stepsO X (annT 43) C (gO c43_22) o43_22.1 s) := q_region (annT 43) s 6 _ false rfl _ _ rfl rfl o43_22.2
theorem g_o43_22 (j : Nat) : gdst (gO c43_22) j = (o43_22.1[j]?).bind Oper.dst := gd_eq o43_22.2 j
theorem r_n43_23 (s : S) : n43_23 s = behK 7340062 (stepsO X (annT 43) C (gO c43_23) o43_23.1 s) := q_region (annT 43) s 7 _ false rfl _ _ rfl rfl o43_23.2
theorem g_o43_23 (j : Nat) : gdst (gO c43_23) j = (o43_23.1[j]?).bind Oper.dst := gd_eq o43_23.2 j
theorem r_n43_21 (s : S) : n43_21 s = contK n43_23 (n43_22 s) := q_seq _ c43_22 c43_23 s
theorem r_n43_20 (s : S) : n43_20 s = blkK 1 (n43_21 s) := q_block _ c43_21 s 1
theorem r_n43_24 (s : S) : n43_24 s = behK 7340062 (stepsO X (annT 43) C (gO c43_24) o43_24.1 s) := q_region (annT 43) s 8 _ false rfl _ _ rfl rfl o43_24.2
theorem g_o43_24 (j : Nat) : gdst (gO c43_24) j = (o43_24.1[j]?).bind Oper.dst := gd_eq o43_24.2 j
theorem r_n43_19 (s : S) : n43_19 s = contK n43_24 (n43_20 s) := q_seq _ c43_20 c43_24 s
theorem r_n43_15 (s : S) : n43_15 s = contK n43_19 (n43_16 s) := q_seq _ c43_16 c43_19 s
theorem r_n43_13 (s : S) : n43_13 s = contK n43_15 (n43_14 s) := q_seq _ c43_14 c43_15 s
theorem r_n43_12 (s : S) : n43_12 s = loopK 7340062 s.st.length n43_12 (n43_13 s) := q_loop (annT 43) c43_13 s _ _ rfl rfl
theorem r_n43_11 (s : S) : n43_11 s = blkK 0 (n43_12 s) := q_block _ c43_12 s 0
theorem r_n43_9 (s : S) : n43_9 s = contK n43_11 (n43_10 s) := q_seq _ c43_10 c43_11 s
theorem r_n43_26 (s : S) : n43_26 s = behK 14 (stepsO X (annT 43) C (gO c43_26) o43_26.1 s) := q_region (annT 43) s 9 _ false rfl _ _ rfl rfl o43_26.2
theorem g_o43_26 (j : Nat) : gdst (gO c43_26) j = (o43_26.1[j]?).bind Oper.dst := gd_eq o43_26.2 j
theorem r_n43_28 (s : S) : n43_28 s = behK 134 (stepsO X (annT 43) C (gO c43_28) o43_28.1 s) := q_region (annT 43) s 10 _ false rfl _ _ rfl rfl o43_28.2
theorem g_o43_28 (j : Nat) : gdst (gO c43_28) j = (o43_28.1[j]?).bind Oper.dst := gd_eq o43_28.2 j
theorem r_n43_30 (s : S) : n43_30 s = behK 4 (stepsO X (annT 43) C (gO c43_30) o43_30.1 s) := q_region (annT 43) s 11 _ true rfl _ _ rfl rfl o43_30.2
theorem g_o43_30 (j : Nat) : gdst (gO c43_30) j = (o43_30.1[j]?).bind Oper.dst := gd_eq o43_30.2 j
theorem r_n43_31 (s : S) : n43_31 s = some (.ret, s) := run_ret _ s
theorem r_n43_29 (s : S) : n43_29 s = contK n43_31 (n43_30 s) := q_seq _ c43_30 c43_31 s
theorem r_n43_27 (s : S) : n43_27 s = contK n43_29 (n43_28 s) := q_seq _ c43_28 c43_29 s
theorem r_n43_25 (s : S) : n43_25 s = contK n43_27 (n43_26 s) := q_seq _ c43_26 c43_27 s
theorem r_n43_8 (s : S) : n43_8 s = contK n43_25 (n43_9 s) := q_seq _ c43_9 c43_25 s
theorem r_n43_6 (s : S) : n43_6 s = contK n43_8 (n43_7 s) := q_seq _ c43_7 c43_8 s
theorem r_n43_4 (s : S) : n43_4 s = contK n43_6 (n43_5 s) := q_seq _ c43_5 c43_6 s
theorem r_n43_2 (s : S) : n43_2 s = contK n43_4 (n43_3 s) := q_seq _ c43_3 c43_4 s
theorem r_n43_0 (s : S) : n43_0 s = contK n43_2 (n43_1 s) := q_seq _ c43_1 c43_2 s
theorem va_43 : (annT 43).virt = [3] := rfl
theorem wa_43 : (annT 43).wr = [3] := rfl
theorem ya_43 : (annT 43).ty = [] := rfl
theorem cv_43 (call : Eng.Call) (wr : Bool) (args : List AV) (st : Store) : callV X call wr 43 args st = cvP call wr 43 args st (fzAll (fz false st 6) args) := cv_pure rfl rfl call wr args st
theorem p43 (ds : List D) : pureCall C 43 ds = ((n43_0 ⟨argsT 0 (ds.map .d), []⟩).bind (bodyR [.cell 2 32])).bind prOf := P_eq Try.f43 rfl rfl rfl rfl ds
theorem q43 (vs : List AV) (st : Store) : C 43 vs st = (n43_0 ⟨argsT 0 vs, st⟩).bind (bodyR [.cell 2 32]) := C_eq Try.f43 rfl rfl rfl rfl vs st
attribute [go_sem] r_n43_1 g_o43_1 o43_1 r_n43_3 g_o43_3 o43_3 r_n43_5 g_o43_5 o43_5 r_n43_7 g_o43_7 o43_7 r_n43_10 g_o43_10 o43_10 r_n43_14 g_o43_14 o43_14 r_n43_17 r_n43_18 r_n43_16 r_n43_22 g_o43_22 o43_22 r_n43_23 g_o43_23 o43_23 r_n43_21 r_n43_20 r_n43_24 g_o43_24 o43_24 r_n43_19 r_n43_15 r_n43_13 r_n43_11 r_n43_9 r_n43_26 g_o43_26 o43_26 r_n43_28 g_o43_28 o43_28 r_n43_30 g_o43_30 o43_30 r_n43_31 r_n43_29 r_n43_27 r_n43_25 r_n43_8 r_n43_6 r_n43_4 r_n43_2 r_n43_0 va_43 wa_43 ya_43 cv_43

noncomputable def c68_0 : Code := Try.f68.body.getD .skip
noncomputable def n68_0 : S → RS := run (annT 68) c68_0
noncomputable def c68_1 : Code := gL c68_0
noncomputable def n68_1 : S → RS := run (annT 68) c68_1
noncomputable def o68_1 : {l : List Oper // (gO c68_1).toList = l} := ⟨_, by conv => (lhs; whnf)⟩
noncomputable def c68_2 : Code := gR c68_0
noncomputable def n68_2 : S → RS := run (annT 68) c68_2
noncomputable def c68_3 : Code := gT c68_2
noncomputable def n68_3 : S → RS := run (annT 68) c68_3
noncomputable def o68_3 : {l : List Oper // (gO c68_3).toList = l} := ⟨_, by conv => (lhs; whnf)⟩
noncomputable def c68_4 : Code := gF c68_2
noncomputable def n68_4 : S → RS := run (annT 68) c68_4
theorem r_n68_1 (s : S) : n68_1 s = behK 142 (stepsO X (annT 68) C (gO c68_1) o68_1.1 s) := q_region (annT 68) s 0 _ false rfl _ _ rfl rfl o68_1.2
theorem g_o68_1 (j : Nat) : gdst (gO c68_1) j = (o68_1.1[j]?).bind Oper.dst := gd_eq o68_1.2 j
theorem r_n68_3 (s : S) : n68_3 s = behK 0 (tailK (annT 68) (gO c68_3) (o68_3.1.drop 7) (stepsO X (annT 68) C (gO c68_3) (o68_3.1.take 7) s)) := q_regionE (annT 68) s 1 _ true 7 rfl _ _ rfl rfl o68_3.2
theorem g_o68_3 (j : Nat) : gdst (gO c68_3) j = (o68_3.1[j]?).bind Oper.dst := gd_eq o68_3.2 j
theorem r_n68_4 (s : S) : n68_4 s = some (.norm, s) := run_skip _ s
theorem r_n68_2 (s : S) : n68_2 s = condK (opv s.t (.tmp 7)) n68_3 n68_4 s := q_cond _ c68_3 c68_4 s (.tmp 7)
theorem r_n68_0 (s : S) : n68_0 s = contK n68_2 (n68_1 s) := q_seq _ c68_1 c68_2 s
theorem va_68 : (annT 68).virt = [] := rfl
theorem wa_68 : (annT 68).wr = [] := rfl
theorem ya_68 : (annT 68).ty = [] := rfl
theorem cv_68 (call : Eng.Call) (wr : Bool) (args : List AV) (st : Store) : callV X call wr 68 args st = (call 68 args st).map (trimR st.length) := cv_imp rfl rfl call wr args st
theorem p68 (ds : List D) : pureCall C 68 ds = ((n68_0 ⟨argsT 0 (ds.map .d), []⟩).bind (bodyR [])).bind prOf := P_eq Try.f68 rfl rfl rfl rfl ds
theorem q68 (vs : List AV) (st : Store) : C 68 vs st = (n68_0 ⟨argsT 0 vs, st⟩).bind (bodyR []) := C_eq Try.f68 rfl rfl rfl rfl vs st
attribute [go_sem] r_n68_1 g_o68_1 o68_1 r_n68_3 g_o68_3 o68_3 r_n68_4 r_n68_2 r_n68_0 va_68 wa_68 ya_68 cv_68

noncomputable def c44_0 : Code := Try.f44.body.getD .skip
noncomputable def n44_0 : S → RS := run (annT 44) c44_0
noncomputable def c44_1 : Code := gL c44_0
noncomputable def n44_1 : S → RS := run (annT 44) c44_1
noncomputable def o44_1 : {l : List Oper // (gO c44_1).toList = l} := ⟨_, by conv => (lhs; whnf)⟩
noncomputable def c44_2 : Code := gR c44_0
noncomputable def n44_2 : S → RS := run (annT 44) c44_2
noncomputable def c44_3 : Code := gL c44_2
noncomputable def n44_3 : S → RS := run (annT 44) c44_3
noncomputable def o44_3 : {l : List Oper // (gO c44_3).toList = l} := ⟨_, by conv => (lhs; whnf)⟩
noncomputable def c44_4 : Code := gR c44_2
noncomputable def n44_4 : S → RS := run (annT 44) c44_4
noncomputable def c44_5 : Code := gL c44_4
noncomputable def n44_5 : S → RS := run (annT 44) c44_5
noncomputable def c44_6 : Code := gL c44_5
noncomputable def n44_6 : S → RS := run (annT 44) c44_6
noncomputable def o44_6 : {l : List Oper // (gO c44_6).toList = l} := ⟨_, by conv => (lhs; whnf)⟩
noncomputable def c44_7 : Code := gR c44_5
noncomputable def n44_7 : S → RS := run (annT 44) c44_7
noncomputable def c44_8 : Code := gT c44_7
noncomputable def n44_8 : S → RS := run (annT 44) c44_8
noncomputable def o44_8 : {l : List Oper // (gO c44_8).toList = l} := ⟨_, by conv => (lhs; whnf)⟩
noncomputable def c44_9 : Code := gF c44_7
noncomputable def n44_9 : S → RS := run (annT 44) c44_9
noncomputable def c44_10 : Code := gR c44_4
noncomputable def n44_10 : S → RS := run (annT 44) c44_10
noncomputable def c44_11 : Code := gL c44_10
noncomputable def n44_11 : S → RS := run (annT 44) c44_11
noncomputable def c44_12 : Code := gL c44_11
noncomputable def n44_12 : S → RS := run (annT 44) c44_12
noncomputable def o44_12 : {l : List Oper // (gO c44_12).toList = l} := ⟨_, by conv => (lhs; whnf)⟩
noncomputable def c44_13 : Code := gR c44_11
noncomputable def n44_13 : S → RS := run (annT 44) c44_13
noncomputable def c44_14 : Code := gT c44_13
noncomputable def n44_14 : S → RS := run (annT 44) c44_14
noncomputable def o44_14 : {l : List Oper // (gO c44_14).toList = l} := ⟨_, by conv => (lhs; whnf)⟩
noncomputable def c44_15 : Code := gF c44_13
noncomputable def n44_15 : S → RS := run (annT 44) c44_15
noncomputable def c44_16 : Code := gR c44_10
noncomputable def n44_16 : S → RS := run (annT 44) c44_16
noncomputable def c44_17 : Code := gL c44_16
noncomputable def n44_17 : S → RS := run (annT 44) c44_17
noncomputable def o44_17 : {l : List Oper // (gO c44_17).toList = l} := ⟨_, by conv => (lhs; whnf)⟩
noncomputable def c44_18 : Code := gR c44_16
noncomputable def n44_18 : S → RS := run (annT 44) c44_18
noncomputable def c44_19 : Code := gL c44_18
noncomputable def n44_19 : S → RS := run (annT 44) c44_19
noncomputable def c44_20 : Code := gL c44_19
noncomputable def n44_20 : S → RS := run (annT 44) c44_20
noncomputable def o44_20 : {l : List Oper // (gO c44_20).toList = l} := ⟨_, by conv => (lhs; whnf)⟩
noncomputable def c44_21 : Code := gR c44_19
noncomputable def n44_21 : S → RS := run (annT 44) c44_21
noncomputable def c44_22 : Code := gT c44_21
noncomputable def n44_22 : S → RS := run (annT 44) c44_22
noncomputable def c44_23 : Code := gL c44_22
noncomputable def n44_23 : S → RS := run (annT 44) c44_23
noncomputable def o44_23 : {l : List Oper // (gO c44_23).toList = l} := ⟨_, by conv => (lhs; whnf)⟩
noncomputable def c44_24 : Code := gR c44_22
noncomputable def n44_24 : S → RS := run (annT 44) c44_24
noncomputable def o44_24 : {l : List Oper // (gO c44_24).toList = l} := ⟨_, by conv => (lhs; whnf)⟩
noncomputable def c44_25 : Code := gF c44_21
noncomputable def n44_25 : S → RS := run (annT 44) c44_25
noncomputable def c44_26 : Code := gR c44_18
noncomputable def n44_26 : S → RS := run (annT 44) c44_26
noncomputable def c44_27 : Code := gL c44_26
noncomputable def n44_27 : S → RS := run (annT 44) c44_27
noncomputable def o44_27 : {l : List Oper // (gO c44_27).toList = l} := ⟨_, by conv => (lhs; whnf)⟩
noncomputable def c44_28 : Code := gR c44_26
noncomputable def n44_28 : S → RS := run (annT 44) c44_28
theorem r_n44_1 (s : S) : n44_1 s = behK 6 (stepsO X (annT 44) C (gO c44_1) o44_1.1 s) := q_region (annT 44) s 0 _ false rfl _ _ rfl rfl o44_1.2
theorem g_o44_1 (j : Nat) : gdst (gO c44_1) j = (o44_1.1[j]?).bind Oper.dst := gd_eq o44_1.2 j
theorem r_n44_3 (s : S) : n44_3 s = behK 14 (stepsO X (annT 44) C (gO c44_3) o44_3.1 s) := q_region (annT 44) s 1 _ false rfl _ _ rfl rfl o44_3.2
theorem g_o44_3 (j : Nat) : gdst (gO c44_3) j = (o44_3.1[j]?).bind Oper.dst := gd_eq o44_3.2 j
theorem r_n44_6 (s : S) : n44_6 s = behK 270 (stepsO X (annT 44) C (gO c44_6) o44_6.1 s) := q_region (annT 44) s 2 _ false rfl _ _ rfl rfl o44_6.2
theorem g_o44_6 (j : Nat) : gdst (gO c44_6) j = (o44_6.1[j]?).bind Oper.dst := gd_eq o44_6.2 j
theorem r_n44_8 (s : S) : n44_8 s = behK 14 (stepsO X (annT 44) C (gO c44_8) o44_8.1 s) := q_region (annT 44) s 3 _ false rfl _ _ rfl rfl o44_8.2
theorem g_o44_8 (j : Nat) : gdst (gO c44_8) j = (o44_8.1[j]?).bind Oper.dst := gd_eq o44_8.2 j
theorem r_n44_9 (s : S) : n44_9 s = some (.norm, s) := run_skip _ s
theorem r_n44_7 (s : S) : n44_7 s = condK (opv s.t (.tmp 8)) n44_8 n44_9 s := q_cond _ c44_8 c44_9 s (.tmp 8)
theorem r_n44_5 (s : S) : n44_5 s = contK n44_7 (n44_6 s) := q_seq _ c44_6 c44_7 s
theorem r_n44_12 (s : S) : n44_12 s = behK 131086 (stepsO X (annT 44) C (gO c44_12) o44_12.1 s) := q_region (annT 44) s 4 _ false rfl _ _ rfl rfl o44_12.2
theorem g_o44_12 (j : Nat) : gdst (gO c44_12) j = (o44_12.1[j]?).bind Oper.dst := gd_eq o44_12.2 j
theorem r_n44_14 (s : S) : n44_14 s = behK 14 (stepsO X (annT 44) C (gO c44_14) o44_14.1 s) := q_region (annT 44) s 5 _ false rfl _ _ rfl rfl o44_14.2
theorem g_o44_14 (j : Nat) : gdst (gO c44_14) j = (o44_14.1[j]?).bind Oper.dst := gd_eq o44_14.2 j
theorem r_n44_15 (s : S) : n44_15 s = some (.norm, s) := run_skip _ s
theorem r_n44_13 (s : S) : n44_13 s = condK (opv s.t (.tmp 17)) n44_14 n44_15 s := q_cond _ c44_14 c44_15 s (.tmp 17)
theorem r_n44_11 (s : S) : n44_11 s = contK n44_13 (n44_12 s) := q_seq _ c44_12 c44_13 s
theorem r_n44_17 (s : S) : n44_17 s = behK 14 (stepsO X (annT 44) C (gO c44_17) o44_17.1 s) := q_region (annT 44) s 6 _ false rfl _ _ rfl rfl o44_17.2
theorem g_o44_17 (j : Nat) : gdst (gO c44_17) j = (o44_17.1[j]?).bind Oper.dst := gd_eq o44_17.2 j
theorem r_n44_20 (s : S) : n44_20 s = behK 2147483660 (stepsO X (annT 44) C (gO c44_20) o44_20.1 s) := q_region (annT 44) s 7 _ false rfl _ _ rfl rfl o44_20.2
theorem g_o44_20 (j : Nat) : gdst (gO c44_20) j = (o44_20.1[j]?).bind Oper.dst := gd_eq o44_20.2 j
theorem r_n44_23 (s : S) : n44_23 s = behK 28 (stepsO X (annT 44) C (gO c44_23) o44_23.1 s) := q_region (annT 44) s 8 _ false rfl _ _ rfl rfl o44_23.2
theorem g_o44_23 (j : Nat) : gdst (gO c44_23) j = (o44_23.1[j]?).bind Oper.dst := gd_eq o44_23.2 j
theorem r_n44_24 (s : S) : n44_24 s = behK 12 (stepsO X (annT 44) C (gO c44_24) o44_24.1 s) := q_region (annT 44) s 9 _ false rfl _ _ rfl rfl o44_24.2
theorem g_o44_24 (j : Nat) : gdst (gO c44_24) j = (o44_24.1[j]?).bind Oper.dst := gd_eq o44_24.2 j
theorem r_n44_22 (s : S) : n44_22 s = contK n44_24 (n44_23 s) := q_seq _ c44_23 c44_24 s
theorem r_n44_25 (s : S) : n44_25 s = some (.norm, s) := run_skip _ s
theorem r_n44_21 (s : S) : n44_21 s = condK (opv s.t (.tmp 31)) n44_22 n44_25 s := q_cond _ c44_22 c44_25 s (.tmp 31)
theorem r_n44_19 (s : S) : n44_19 s = contK n44_21 (n44_20 s) := q_seq _ c44_20 c44_21 s
theorem r_n44_27 (s : S) : n44_27 s = behK 4 (stepsO X (annT 44) C (gO c44_27) o44_27.1 s) := q_region (annT 44) s 10 _ false rfl _ _ rfl rfl o44_27.2
theorem g_o44_27 (j : Nat) : gdst (gO c44_27) j = (o44_27.1[j]?).bind Oper.dst := gd_eq o44_27.2 j
theorem r_n44_28 (s : S) : n44_28 s = some (.ret, s) := run_ret _ s
theorem r_n44_26 (s : S) : n44_26 s = contK n44_28 (n44_27 s) := q_seq _ c44_27 c44_28 s
theorem r_n44_18 (s : S) : n44_18 s = contK n44_26 (n44_19 s) := q_seq _ c44_19 c44_26 s
theorem r_n44_16 (s : S) : n44_16 s = contK n44_18 (n44_17 s) := q_seq _ c44_17 c44_18 s
theorem r_n44_10 (s : S) : n44_10 s = contK n44_16 (n44_11 s) := q_seq _ c44_11 c44_16 s
theorem r_n44_4 (s : S) : n44_4 s = contK n44_10 (n44_5 s) := q_seq _ c44_5 c44_10 s
theorem r_n44_2 (s : S) : n44_2 s = contK n44_4 (n44_3 s) := q_seq _ c44_3 c44_4 s
theorem r_n44_0 (s : S) : n44_0 s = contK n44_2 (n44_1 s) := q_seq _ c44_1 c44_2 s
theorem va_44 : (annT 44).virt = [] := rfl
theorem wa_44 : (annT 44).wr = [] := rfl
theorem ya_44 : (annT 44).ty = [] := rfl
theorem cv_44 (call : Eng.Call) (wr : Bool) (args : List AV) (st : Store) : callV X call wr 44 args st = cvP call wr 44 args st (fzAll (fz false st 6) args) := cv_pure rfl rfl call wr args st
theorem p44 (ds : List D) : pureCall C 44 ds = ((n44_0 ⟨argsT 0 (ds.map .d), []⟩).bind (bodyR [.cell 2 32])).bind prOf := P_eq Try.f44 rfl rfl rfl rfl ds
theorem q44 (vs : List AV) (st : Store) : C 44 vs st = (n44_0 ⟨argsT 0 vs, st⟩).bind (bodyR [.cell 2 32]) := C_eq Try.f44 rfl rfl rfl rfl vs st
attribute [go_sem] r_n44_1 g_o44_1 o44_1 r_n44_3 g_o44_3 o44_3 r_n44_6 g_o44_6 o44_6 r_n44_8 g_o44_8 o44_8 r_n44_9 r_n44_7 r_n44_5 r_n44_12 g_o44_12 o44_12 r_n44_14 g_o44_14 o44_14 r_n44_15 r_n44_13 r_n44_11 r_n44_17 g_o44_17 o44_17 r_n44_20 g_o44_20 o44_20 r_n44_23 g_o44_23 o44_23 r_n44_24 g_o44_24 o44_24 r_n44_22 r_n44_25 r_n44_21 r_n44_19 r_n44_27 g_o44_27 o44_27 r_n44_28 r_n44_26 r_n44_18 r_n44_16 r_n44_10 r_n44_4 r_n44_2 r_n44_0 va_44 wa_44 ya_44 cv_44

noncomputable def c23_0 : Code := Try.f23.body.getD .skip
noncomputable def n23_0 : S → RS := run (annT 23) c23_0
noncomputable def c23_1 : Code := gL c23_0
noncomputable def n23_1 : S → RS := run (annT 23) c23_1
noncomputable def o23_1 : {l : List Oper // (gO c23_1).toList = l} := ⟨_, by conv => (lhs; whnf)⟩
noncomputable def c23_2 : Code := gR c23_0
noncomputable def n23_2 : S → RS := run (annT 23) c23_2
noncomputable def c23_3 : Code := gL c23_2
noncomputable def n23_3 : S → RS := run (annT 23) c23_3
noncomputable def c23_4 : Code := gL c23_3
noncomputable def n23_4 : S → RS := run (annT 23) c23_4
noncomputable def o23_4 : {l : List Oper // (gO c23_4).toList = l} := ⟨_, by conv => (lhs; whnf)⟩
noncomputable def c23_5 : Code := gR c23_3
noncomputable def n23_5 : S → RS := run (annT 23) c23_5
noncomputable def c23_6 : Code := gB c23_5
noncomputable def n23_6 : S → RS := run (annT 23) c23_6
noncomputable def c23_7 : Code := gL c23_6
noncomputable def n23_7 : S → RS := run (annT 23) c23_7
noncomputable def c23_8 : Code := gL c23_7
noncomputable def n23_8 : S → RS := run (annT 23) c23_8
noncomputable def o23_8 : {l : List Oper // (gO c23_8).toList = l} := ⟨_, by conv => (lhs; whnf)⟩
noncomputable def c23_9 : Code := gR c23_7
noncomputable def n23_9 : S → RS := run (annT 23) c23_9
noncomputable def c23_10 : Code := gT c23_9
noncomputable def n23_10 : S → RS := run (annT 23) c23_10
noncomputable def c23_11 : Code := gF c23_9
noncomputable def n23_11 : S → RS := run (annT 23) c23_11
noncomputable def c23_12 : Code := gL c23_11
noncomputable def n23_12 : S → RS := run (annT 23) c23_12
noncomputable def o23_12 : {l : List Oper // (gO c23_12).toList = l} := ⟨_, by conv => (lhs; whnf)⟩
noncomputable def c23_13 : Code := gR c23_11
noncomputable def n23_13 : S → RS := run (annT 23) c23_13
noncomputable def c23_14 : Code := gT c23_13
noncomputable def n23_14 : S → RS := run (annT 23) c23_14
noncomputable def c23_15 : Code := gF c23_13
noncomputable def n23_15 : S → RS := run (annT 23) c23_15
noncomputable def o23_15 : {l : List Oper // (gO c23_15).toList = l} := ⟨_, by conv => (lhs; whnf)⟩
noncomputable def c23_16 : Code := gR c23_6
noncomputable def n23_16 : S → RS := run (annT 23) c23_16
noncomputable def c23_17 : Code := gT c23_16
noncomputable def n23_17 : S → RS := run (annT 23) c23_17
noncomputable def c23_18 : Code := gL c23_17
noncomputable def n23_18 : S → RS := run (annT 23) c23_18
noncomputable def o23_18 : {l : List Oper // (gO c23_18).toList = l} := ⟨_, by conv => (lhs; whnf)⟩
noncomputable def c23_19 : Code := gR c23_17
noncomputable def n23_19 : S → RS := run (annT 23) c23_19
noncomputable def c23_20 : Code := gL c23_19
noncomputable def n23_20 : S → RS := run (annT 23) c23_20
noncomputable def c23_21 : Code := gL c23_20
noncomputable def n23_21 : S → RS := run (annT 23) c23_21
noncomputable def o23_21 : {l : List Oper // (gO c23_21).toList = l} := ⟨_, by conv => (lhs; whnf)⟩
noncomputable def c23_22 : Code := gR c23_20
noncomputable def n23_22 : S → RS := run (annT 23) c23_22
noncomputable def c23_23 : Code := gB c23_22
noncomputable def n23_23 : S → RS := run (annT 23) c23_23
noncomputable def c23_24 : Code := gB c23_23
noncomputable def n23_24 : S → RS := run (annT 23) c23_24
noncomputable def c23_25 : Code := gL c23_24
noncomputable def n23_25 : S → RS := run (annT 23) c23_25
noncomputable def o23_25 : {l : List Oper // (gO c23_25).toList = l} := ⟨_, by conv => (lhs; whnf)⟩
noncomputable def c23_26 : Code := gR c23_24
noncomputable def n23_26 : S → RS := run (annT 23) c23_26
noncomputable def c23_27 : Code := gL c23_26
noncomputable def n23_27 : S → RS := run (annT 23) c23_27
noncomputable def c23_28 : Code := gT c23_27
noncomputable def n23_28 : S → RS := run (annT 23) c23_28
noncomputable def c23_29 : Code := gF c23_27
noncomputable def n23_29 : S → RS := run (annT 23) c23_29
noncomputable def c23_30 : Code := gR c23_26
noncomputable def n23_30 : S → RS := run (annT 23) c23_30
noncomputable def c23_31 : Code := gL c23_30
noncomputable def n23_31 : S → RS := run (annT 23) c23_31
noncomputable def c23_32 : Code := gB c23_31
noncomputable def n23_32 : S → RS := run (annT 23) c23_32
noncomputable def c23_33 : Code := gL c23_32
noncomputable def n23_33 : S → RS := run (annT 23) c23_33
noncomputable def o23_33 : {l : List Oper // (gO c23_33).toList = l} := ⟨_, by conv => (lhs; whnf)⟩
noncomputable def c23_34 : Code := gR c23_32
noncomputable def n23_34 : S → RS := run (annT 23) c23_34
noncomputable def o23_34 : {l : List Oper // (gO c23_34).toList = l} := ⟨_, by conv => (lhs; whnf)⟩
noncomputable def c23_35 : Code := gR c23_30
noncomputable def n23_35 : S → RS := run (annT 23) c23_35
noncomputable def o23_35 : {l : List Oper // (gO c23_35).toList = l} := ⟨_, by conv => (lhs; whnf)⟩
noncomputable def c23_36 : Code := gR c23_19
noncomputable def n23_36 : S → RS := run (annT 23) c23_36
noncomputable def c23_37 : Code := gL c23_36
noncomputable def n23_37 : S → RS := run (annT 23) c23_37
noncomputable def o23_37 : {l : List Oper // (gO c23_37).toList = l} := ⟨_, by conv => (lhs; whnf)⟩
noncomputable def c23_38 : Code := gR c23_36
noncomputable def n23_38 : S → RS := run (annT 23) c23_38
noncomputable def c23_39 : Code := gF c23_16
noncomputable def n23_39 : S → RS := run (annT 23) c23_39
noncomputable def c23_40 : Code := gL c23_39
noncomputable def n23_40 : S → RS := run (annT 23) c23_40
noncomputable def o23_40 : {l : List Oper // (gO c23_40).toList = l} := ⟨_, by conv => (lhs; whnf)⟩
noncomputable def c23_41 : Code := gR c23_39
noncomputable def n23_41 : S → RS := run (annT 23) c23_41
noncomputable def c23_42 : Code := gT c23_41
noncomputable def n23_42 : S → RS := run (annT 23) c23_42
noncomputable def c23_43 : Code := gL c23_42
noncomputable def n23_43 : S → RS := run (annT 23) c23_43
noncomputable def o23_43 : {l : List Oper // (gO c23_43).toList = l} := ⟨_, by conv => (lhs; whnf)⟩
noncomputable def c23_44 : Code := gR c23_42
noncomputable def n23_44 : S → RS := run (annT 23) c23_44
noncomputable def c23_45 : Code := gF c23_41
noncomputable def n23_45 : S → RS := run (annT 23) c23_45
noncomputable def c23_46 : Code := gL c23_45
noncomputable def n23_46 : S → RS := run (annT 23) c23_46
noncomputable def o23_46 : {l : List Oper // (gO c23_46).toList = l} := ⟨_, by conv => (lhs; whnf)⟩
noncomputable def c23_47 : Code := gR c23_45
noncomputable def n23_47 : S → RS := run (annT 23) c23_47
noncomputable def c23_48 : Code := gT c23_47
noncomputable def n23_48 : S → RS := run (annT 23) c23_48
noncomputable def c23_49 : Code := gL c23_48
noncomputable def n23_49 : S → RS := run (annT 23) c23_49
noncomputable def o23_49 : {l : List Oper // (gO c23_49).toList = l} := ⟨_, by conv => (lhs; whnf)⟩
noncomputable def c23_50 : Code := gR c23_48
noncomputable def n23_50 : S → RS := run (annT 23) c23_50
noncomputable def c23_51 : Code := gF c23_47
noncomputable def n23_51 : S → RS := run (annT 23) c23_51
noncomputable def c23_52 : Code := gL c23_51
noncomputable def n23_52 : S → RS := run (annT 23) c23_52
noncomputable def o23_52 : {l : List Oper // (gO c23_52).toList = l} := ⟨_, by conv => (lhs; whnf)⟩
noncomputable def c23_53 : Code := gR c23_51
noncomputable def n23_53 : S → RS := run (annT 23) c23_53
noncomputable def c23_54 : Code := gT c23_53
noncomputable def n23_54 : S → RS := run (annT 23) c23_54
noncomputable def c23_55 : Code := gL c23_54
noncomputable def n23_55 : S → RS := run (annT 23) c23_55
noncomputable def o23_55 : {l : List Oper // (gO c23_55).toList = l} := ⟨_, by conv => (lhs; whnf)⟩
noncomputable def c23_56 : Code := gR c23_54
noncomputable def n23_56 : S → RS := run (annT 23) c23_56
noncomputable def c23_57 : Code := gF c23_53
noncomputable def n23_57 : S → RS := run (annT 23) c23_57
noncomputable def c23_58 : Code := gR c23_2
noncomputable def n23_58 : S → RS := run (annT 23) c23_58
noncomputable def c23_59 : Code := gL c23_58
noncomputable def n23_59 : S → RS := run (annT 23) c23_59
noncomputable def o23_59 : {l : List Oper // (gO c23_59).toList = l} := ⟨_, by conv => (lhs; whnf)⟩
noncomputable def c23_60 : Code := gR c23_58
noncomputable def n23_60 : S → RS := run (annT 23) c23_60
theorem r_n23_1 (s : S) : n23_1 s = behK 6 (stepsO X (annT 23) C (gO c23_1) o23_1.1 s) := q_region (annT 23) s 0 _ false rfl _ _ rfl rfl o23_1.2
theorem g_o23_1 (j : Nat) : gdst (gO c23_1) j = (o23_1.1[j]?).bind Oper.dst := gd_eq o23_1.2 j
theorem r_n23_4 (s : S) : n23_4 s = behK 134 (stepsO X (annT 23) C (gO c23_4) o23_4.1 s) := q_region (annT 23) s 1 _ false rfl _ _ rfl rfl o23_4.2
theorem g_o23_4 (j : Nat) : gdst (gO c23_4) j = (o23_4.1[j]?).bind Oper.dst := gd_eq o23_4.2 j
theorem r_n23_8 (s : S) : n23_8 s = behK 390 (stepsO X (annT 23) C (gO c23_8) o23_8.1 s) := q_region (annT 23) s 2 _ false rfl _ _ rfl rfl o23_8.2
theorem g_o23_8 (j : Nat) : gdst (gO c23_8) j = (o23_8.1[j]?).bind Oper.dst := gd_eq o23_8.2 j
theorem r_n23_10 (s : S) : n23_10 s = some (.norm, s) := run_skip _ s
theorem r_n23_12 (s : S) : n23_12 s = behK 390 (stepsO X (annT 23) C (gO c23_12) o23_12.1 s) := q_region (annT 23) s 3 _ false rfl _ _ rfl rfl o23_12.2
theorem g_o23_12 (j : Nat) : gdst (gO c23_12) j = (o23_12.1[j]?).bind Oper.dst := gd_eq o23_12.2 j
theorem r_n23_14 (s : S) : n23_14 s = some (.norm, s) := run_skip _ s
theorem r_n23_15 (s : S) : n23_15 s = behK 390 (stepsO X (annT 23) C (gO c23_15) o23_15.1 s) := q_region (annT 23) s 4 _ false rfl _ _ rfl rfl o23_15.2
theorem g_o23_15 (j : Nat) : gdst (gO c23_15) j = (o23_15.1[j]?).bind Oper.dst := gd_eq o23_15.2 j
theorem r_n23_13 (s : S) : n23_13 s = condK (opv s.t (.tmp 8)) n23_14 n23_15 s := q_cond _ c23_14 c23_15 s (.tmp 8)
theorem r_n23_11 (s : S) : n23_11 s = contK n23_13 (n23_12 s) := q_seq _ c23_12 c23_13 s
theorem r_n23_9 (s : S) : n23_9 s = condK (opv s.t (.tmp 8)) n23_10 n23_11 s := q_cond _ c23_10 c23_11 s (.tmp 8)
theorem r_n23_7 (s : S) : n23_7 s = contK n23_9 (n23_8 s) := q_seq _ c23_8 c23_9 s
theorem r_n23_18 (s : S) : n23_18 s = behK 14 (stepsO X (annT 23) C (gO c23_18) o23_18.1 s) := q_region (annT 23) s 5 _ false rfl _ _ rfl rfl o23_18.2
theorem g_o23_18 (j : Nat) : gdst (gO c23_18) j = (o23_18.1[j]?).bind Oper.dst := gd_eq o23_18.2 j
theorem r_n23_21 (s : S) : n23_21 s = behK 57358 (stepsO X (annT 23) C (gO c23_21) o23_21.1 s) := q_region (annT 23) s 6 _ false rfl _ _ rfl rfl o23_21.2
theorem g_o23_21 (j : Nat) : gdst (gO c23_21) j = (o23_21.1[j]?).bind Oper.dst := gd_eq o23_21.2 j
theorem r_n23_25 (s : S) : n23_25 s = behK 122894 (stepsO X (annT 23) C (gO c23_25) o23_25.1 s) := q_region (annT 23) s 7 _ false rfl _ _ rfl rfl o23_25.2
theorem g_o23_25 (j : Nat) : gdst (gO c23_25) j = (o23_25.1[j]?).bind Oper.dst := gd_eq o23_25.2 j
theorem r_n23_28 (s : S) : n23_28 s = some (.norm, s) := run_skip _ s
theorem r_n23_29 (s : S) : n23_29 s = some (.exit 1, s) := run_exit _ s 1
theorem r_n23_27 (s : S) : n23_27 s = condK (opv s.t (.tmp 16)) n23_28 n23_29 s := q_cond _ c23_28 c23_29 s (.tmp 16)
theorem r_n23_33 (s : S) : n23_33 s = behK 57390 (stepsO X (annT 23) C (gO c23_33) o23_33.1 s) := q_region (annT 23) s 8 _ false rfl _ _ rfl rfl o23_33.2
theorem g_o23_33 (j : Nat) : gdst (gO c23_33) j = (o23_33.1[j]?).bind Oper.dst := gd_eq o23_33.2 j
theorem r_n23_34 (s : S) : n23_34 s = behK 57358 (stepsO X (annT 23) C (gO c23_34) o23_34.1 s) := q_region (annT 23) s 9 _ false rfl _ _ rfl rfl o23_34.2
theorem g_o23_34 (j : Nat) : gdst (gO c23_34) j = (o23_34.1[j]?).bind Oper.dst := gd_eq o23_34.2 j
theorem r_n23_32 (s : S) : n23_32 s = contK n23_34 (n23_33 s) := q_seq _ c23_33 c23_34 s
theorem r_n23_31 (s : S) : n23_31 s = blkK 2 (n23_32 s) := q_block _ c23_32 s 2
theorem r_n23_35 (s : S) : n23_35 s = behK 57358 (stepsO X (annT 23) C (gO c23_35) o23_35.1 s) := q_region (annT 23) s 10 _ false rfl _ _ rfl rfl o23_35.2
theorem g_o23_35 (j : Nat) : gdst (gO c23_35) j = (o23_35.1[j]?).bind Oper.dst := gd_eq o23_35.2 j
theorem r_n23_30 (s : S) : n23_30 s = contK n23_35 (n23_31 s) := q_seq _ c23_31 c23_35 s
theorem r_n23_26 (s : S) : n23_26 s = contK n23_30 (n23_27 s) := q_seq _ c23_27 c23_30 s
theorem r_n23_24 (s : S) : n23_24 s = contK n23_26 (n23_25 s) := q_seq _ c23_25 c23_26 s
theorem r_n23_23 (s : S) : n23_23 s = loopK 57358 s.st.length n23_23 (n23_24 s) := q_loop (annT 23) c23_24 s _ _ rfl rfl
theorem r_n23_22 (s : S) : n23_22 s = blkK 1 (n23_23 s) := q_block _ c23_23 s 1
theorem r_n23_20 (s : S) : n23_20 s = contK n23_22 (n23_21 s) := q_seq _ c23_21 c23_22 s
theorem r_n23_37 (s : S) : n23_37 s = behK 4 (stepsO X (annT 23) C (gO c23_37) o23_37.1 s) := q_region (annT 23) s 11 _ false rfl _ _ rfl rfl o23_37.2
theorem g_o23_37 (j : Nat) : gdst (gO c23_37) j = (o23_37.1[j]?).bind Oper.dst := gd_eq o23_37.2 j
theorem r_n23_38 (s : S) : n23_38 s = some (.ret, s) := run_ret _ s
theorem r_n23_36 (s : S) : n23_36 s = contK n23_38 (n23_37 s) := q_seq _ c23_37 c23_38 s
theorem r_n23_19 (s : S) : n23_19 s = contK n23_36 (n23_20 s) := q_seq _ c23_20 c23_36 s
theorem r_n23_17 (s : S) : n23_17 s = contK n23_19 (n23_18 s) := q_seq _ c23_18 c23_19 s
theorem r_n23_40 (s : S) : n23_40 s = behK 536871046 (stepsO X (annT 23) C (gO c23_40) o23_40.1 s) := q_region (annT 23) s 12 _ false rfl _ _ rfl rfl o23_40.2
theorem g_o23_40 (j : Nat) : gdst (gO c23_40) j = (o23_40.1[j]?).bind Oper.dst := gd_eq o23_40.2 j
theorem r_n23_43 (s : S) : n23_43 s = behK 4 (stepsO X (annT 23) C (gO c23_43) o23_43.1 s) := q_region (annT 23) s 13 _ false rfl _ _ rfl rfl o23_43.2
theorem g_o23_43 (j : Nat) : gdst (gO c23_43) j = (o23_43.1[j]?).bind Oper.dst := gd_eq o23_43.2 j
theorem r_n23_44 (s : S) : n23_44 s = some (.ret, s) := run_ret _ s
theorem r_n23_42 (s : S) : n23_42 s = contK n23_44 (n23_43 s) := q_seq _ c23_43 c23_44 s
theorem r_n23_46 (s : S) : n23_46 s = behK 17179869318 (stepsO X (annT 23) C (gO c23_46) o23_46.1 s) := q_region (annT 23) s 14 _ false rfl _ _ rfl rfl o23_46.2
theorem g_o23_46 (j : Nat) : gdst (gO c23_46) j = (o23_46.1[j]?).bind Oper.dst := gd_eq o23_46.2 j
theorem r_n23_49 (s : S) : n23_49 s = behK 4 (stepsO X (annT 23) C (gO c23_49) o23_49.1 s) := q_region (annT 23) s 15 _ false rfl _ _ rfl rfl o23_49.2
theorem g_o23_49 (j : Nat) : gdst (gO c23_49) j = (o23_49.1[j]?).bind Oper.dst := gd_eq o23_49.2 j
theorem r_n23_50 (s : S) : n23_50 s = some (.ret, s) := run_ret _ s
theorem r_n23_48 (s : S) : n23_48 s = contK n23_50 (n23_49 s) := q_seq _ c23_49 c23_50 s
theorem r_n23_52 (s : S) : n23_52 s = behK 274877906950 (stepsO X (annT 23) C (gO c23_52) o23_52.1 s) := q_region (annT 23) s 16 _ false rfl _ _ rfl rfl o23_52.2
theorem g_o23_52 (j : Nat) : gdst (gO c23_52) j = (o23_52.1[j]?).bind Oper.dst := gd_eq o23_52.2 j
theorem r_n23_55 (s : S) : n23_55 s = behK 4 (stepsO X (annT 23) C (gO c23_55) o23_55.1 s) := q_region (annT 23) s 17 _ false rfl _ _ rfl rfl o23_55.2
theorem g_o23_55 (j : Nat) : gdst (gO c23_55) j = (o23_55.1[j]?).bind Oper.dst := gd_eq o23_55.2 j
theorem r_n23_56 (s : S) : n23_56 s = some (.ret, s) := run_ret _ s
theorem r_n23_54 (s : S) : n23_54 s = contK n23_56 (n23_55 s) := q_seq _ c23_55 c23_56 s
theorem r_n23_57 (s : S) : n23_57 s = some (.norm, s) := run_skip _ s
theorem r_n23_53 (s : S) : n23_53 s = condK (opv s.t (.tmp 38)) n23_54 n23_57 s := q_cond _ c23_54 c23_57 s (.tmp 38)
theorem r_n23_51 (s : S) : n23_51 s = contK n23_53 (n23_52 s) := q_seq _ c23_52 c23_53 s
theorem r_n23_47 (s : S) : n23_47 s = condK (opv s.t (.tmp 34)) n23_48 n23_51 s := q_cond _ c23_48 c23_51 s (.tmp 34)
theorem r_n23_45 (s : S) : n23_45 s = contK n23_47 (n23_46 s) := q_seq _ c23_46 c23_47 s
theorem r_n23_41 (s : S) : n23_41 s = condK (opv s.t (.tmp 29)) n23_42 n23_45 s := q_cond _ c23_42 c23_45 s (.tmp 29)
theorem r_n23_39 (s : S) : n23_39 s = contK n23_41 (n23_40 s) := q_seq _ c23_40 c23_41 s
theorem r_n23_16 (s : S) : n23_16 s = condK (opv s.t (.tmp 8)) n23_17 n23_39 s := q_cond _ c23_17 c23_39 s (.tmp 8)
theorem r_n23_6 (s : S) : n23_6 s = contK n23_16 (n23_7 s) := q_seq _ c23_7 c23_16 s
theorem r_n23_5 (s : S) : n23_5 s = blkK 0 (n23_6 s) := q_block _ c23_6 s 0
theorem r_n23_3 (s : S) : n23_3 s = contK n23_5 (n23_4 s) := q_seq _ c23_4 c23_5 s
theorem r_n23_59 (s : S) : n23_59 s = behK 4 (stepsO X (annT 23) C (gO c23_59) o23_59.1 s) := q_region (annT 23) s 18 _ true rfl _ _ rfl rfl o23_59.2
theorem g_o23_59 (j : Nat) : gdst (gO c23_59) j = (o23_59.1[j]?).bind Oper.dst := gd_eq o23_59.2 j
theorem r_n23_60 (s : S) : n23_60 s = some (.ret, s) := run_ret _ s
theorem r_n23_58 (s : S) : n23_58 s = contK n23_60 (n23_59 s) := q_seq _ c23_59 c23_60 s
theorem r_n23_2 (s : S) : n23_2 s = contK n23_58 (n23_3 s) := q_seq _ c23_3 c23_58 s
theorem r_n23_0 (s : S) : n23_0 s = contK n23_2 (n23_1 s) := q_seq _ c23_1 c23_2 s
theorem va_23 : (annT 23).virt = [] := rfl
theorem wa_23 : (annT 23).wr = [] := rfl
theorem ya_23 : (annT 23).ty = [] := rfl
theorem cv_23 (call : Eng.Call) (wr : Bool) (args : List AV) (st : Store) : callV X call wr 23 args st = cvP call wr 23 args st (fzAll (fz false st 6) args) := cv_pure rfl rfl call wr args st
theorem p23 (ds : List D) : pureCall C 23 ds = ((n23_0 ⟨argsT 0 (ds.map .d), []⟩).bind (bodyR [.cell 2 32])).bind prOf := P_eq Try.f23 rfl rfl rfl rfl ds
theorem q23 (vs : List AV) (st : Store) : C 23 vs st = (n23_0 ⟨argsT 0 vs, st⟩).bind (bodyR [.cell 2 32]) := C_eq Try.f23 rfl rfl rfl rfl vs st
attribute [go_sem] r_n23_1 g_o23_1 o23_1 r_n23_4 g_o23_4 o23_4 r_n23_8 g_o23_8 o23_8 r_n23_10 r_n23_12 g_o23_12 o23_12 r_n23_14 r_n23_15 g_o23_15 o23_15 r_n23_13 r_n23_11 r_n23_9 r_n23_7 r_n23_18 g_o23_18 o23_18 r_n23_21 g_o23_21 o23_21 r_n23_25 g_o23_25 o23_25 r_n23_28 r_n23_29 r_n23_27 r_n23_33 g_o23_33 o23_33 r_n23_34 g_o23_34 o23_34 r_n23_32 r_n23_31 r_n23_35 g_o23_35 o23_35 r_n23_30 r_n23_26 r_n23_24 r_n23_22 r_n23_20 r_n23_37 g_o23_37 o23_37 r_n23_38 r_n23_36 r_n23_19 r_n23_17 r_n23_40 g_o23_40 o23_40 r_n23_43 g_o23_43 o23_43 r_n23_44 r_n23_42 r_n23_46 g_o23_46 o23_46 r_n23_49 g_o23_49 o23_49 r_n23_50 r_n23_48 r_n23_52 g_o23_52 o23_52 r_n23_55 g_o23_55 o23_55 r_n23_56 r_n23_54 r_n23_57 r_n23_53 r_n23_51 r_n23_47 r_n23_45 r_n23_41 r_n23_39 r_n23_16 r_n23_6 r_n23_5 r_n23_3 r_n23_59 g_o23_59 o23_59 r_n23_60 r_n23_58 r_n23_2 r_n23_0 va_23 wa_23 ya_23 cv_23

noncomputable def c9_0 : Code := Try.f9.body.getD .skip
noncomputable def n9_0 : S → RS := run (annT 9) c9_0
noncomputable def c9_1 : Code := gL c9_0
noncomputable def n9_1 : S → RS := run (annT 9) c9_1
noncomputable def o9_1 : {l : List Oper // (gO c9_1).toList = l} := ⟨_, by conv => (lhs; whnf)⟩
noncomputable def c9_2 : Code := gR c9_0
noncomputable def n9_2 : S → RS := run (annT 9) c9_2
noncomputable def c9_3 : Code := gL c9_2
noncomputable def n9_3 : S → RS := run (annT 9) c9_3
noncomputable def c9_4 : Code := gL c9_3
noncomputable def n9_4 : S → RS := run (annT 9) c9_4
noncomputable def o9_4 : {l : List Oper // (gO c9_4).toList = l} := ⟨_, by conv => (lhs; whnf)⟩
noncomputable def c9_5 : Code := gR c9_3
noncomputable def n9_5 : S → RS := run (annT 9) c9_5
noncomputable def c9_6 : Code := gL c9_5
noncomputable def n9_6 : S → RS := run (annT 9) c9_6
noncomputable def o9_6 : {l : List Oper // (gO c9_6).toList = l} := ⟨_, by conv => (lhs; whnf)⟩
noncomputable def c9_7 : Code := gR c9_5
noncomputable def n9_7 : S → RS := run (annT 9) c9_7
noncomputable def c9_8 : Code := gT c9_7
noncomputable def n9_8 : S → RS := run (annT 9) c9_8
noncomputable def c9_9 : Code := gL c9_8
noncomputable def n9_9 : S → RS := run (annT 9) c9_9
noncomputable def o9_9 : {l : List Oper // (gO c9_9).toList = l} := ⟨_, by conv => (lhs; whnf)⟩
noncomputable def c9_10 : Code := gR c9_8
noncomputable def n9_10 : S → RS := run (annT 9) c9_10
noncomputable def c9_11 : Code := gF c9_7
noncomputable def n9_11 : S → RS := run (annT 9) c9_11
noncomputable def c9_12 : Code := gR c9_2
noncomputable def n9_12 : S → RS := run (annT 9) c9_12
noncomputable def c9_13 : Code := gL c9_12
noncomputable def n9_13 : S → RS := run (annT 9) c9_13
noncomputable def o9_13 : {l : List Oper // (gO c9_13).toList = l} := ⟨_, by conv => (lhs; whnf)⟩
noncomputable def c9_14 : Code := gR c9_12
noncomputable def n9_14 : S → RS := run (annT 9) c9_14
theorem r_n9_1 (s : S) : n9_1 s = behK 6 (stepsO X (annT 9) C (gO c9_1) o9_1.1 s) := q_region (annT 9) s 0 _ false rfl _ _ rfl rfl o9_1.2
theorem g_o9_1 (j : Nat) : gdst (gO c9_1) j = (o9_1.1[j]?).bind Oper.dst := gd_eq o9_1.2 j
theorem r_n9_4 (s : S) : n9_4 s = behK 22 (stepsO X (annT 9) C (gO c9_4) o9_4.1 s) := q_region (annT 9) s 1 _ false rfl _ _ rfl rfl o9_4.2
theorem g_o9_4 (j : Nat) : gdst (gO c9_4) j = (o9_4.1[j]?).bind Oper.dst := gd_eq o9_4.2 j
theorem r_n9_6 (s : S) : n9_6 s = behK 278 (stepsO X (annT 9) C (gO c9_6) o9_6.1 s) := q_region (annT 9) s 2 _ false rfl _ _ rfl rfl o9_6.2
theorem g_o9_6 (j : Nat) : gdst (gO c9_6) j = (o9_6.1[j]?).bind Oper.dst := gd_eq o9_6.2 j
theorem r_n9_9 (s : S) : n9_9 s = behK 12 (stepsO X (annT 9) C (gO c9_9) o9_9.1 s) := q_region (annT 9) s 3 _ false rfl _ _ rfl rfl o9_9.2
theorem g_o9_9 (j : Nat) : gdst (gO c9_9) j = (o9_9.1[j]?).bind Oper.dst := gd_eq o9_9.2 j
theorem r_n9_10 (s : S) : n9_10 s = some (.ret, s) := run_ret _ s
theorem r_n9_8 (s : S) : n9_8 s = contK n9_10 (n9_9 s) := q_seq _ c9_9 c9_10 s
theorem r_n9_11 (s : S) : n9_11 s = some (.norm, s) := run_skip _ s
theorem r_n9_7 (s : S) : n9_7 s = condK (opv s.t (.tmp 8)) n9_8 n9_11 s := q_cond _ c9_8 c9_11 s (.tmp 8)
theorem r_n9_5 (s : S) : n9_5 s = contK n9_7 (n9_6 s) := q_seq _ c9_6 c9_7 s
theorem r_n9_3 (s : S) : n9_3 s = contK n9_5 (n9_4 s) := q_seq _ c9_4 c9_5 s
theorem r_n9_13 (s : S) : n9_13 s = behK 12 (stepsO X (annT 9) C (gO c9_13) o9_13.1 s) := q_region (annT 9) s 4 _ false rfl _ _ rfl rfl o9_13.2
theorem g_o9_13 (j : Nat) : gdst (gO c9_13) j = (o9_13.1[j]?).bind Oper.dst := gd_eq o9_13.2 j
theorem r_n9_14 (s : S) : n9_14 s = some (.ret, s) := run_ret _ s
theorem r_n9_12 (s : S) : n9_12 s = contK n9_14 (n9_13 s) := q_seq _ c9_13 c9_14 s
theorem r_n9_2 (s : S) : n9_2 s = contK n9_12 (n9_3 s) := q_seq _ c9_3 c9_12 s
theorem r_n9_0 (s : S) : n9_0 s = contK n9_2 (n9_1 s) := q_seq _ c9_1 c9_2 s
theorem va_9 : (annT 9).virt = [] := rfl
theorem wa_9 : (annT 9).wr = [] := rfl
theorem ya_9 : (annT 9).ty = [] := rfl
theorem cv_9 (call : Eng.Call) (wr : Bool) (args : List AV) (st : Store) : callV X call wr 9 args st = cvP call wr 9 args st (fzAll (fz false st 6) args) := cv_pure rfl rfl call wr args st
theorem p9 (ds : List D) : pureCall C 9 ds = ((n9_0 ⟨argsT 0 (ds.map .d), []⟩).bind (bodyR [.cell 2 32, .tmp 3])).bind prOf := P_eq Try.f9 rfl rfl rfl rfl ds
theorem q9 (vs : List AV) (st : Store) : C 9 vs st = (n9_0 ⟨argsT 0 vs, st⟩).bind (bodyR [.cell 2 32, .tmp 3]) := C_eq Try.f9 rfl rfl rfl rfl vs st
attribute [go_sem] r_n9_1 g_o9_1 o9_1 r_n9_4 g_o9_4 o9_4 r_n9_6 g_o9_6 o9_6 r_n9_9 g_o9_9 o9_9 r_n9_10 r_n9_8 r_n9_11 r_n9_7 r_n9_5 r_n9_3 r_n9_13 g_o9_13 o9_13 r_n9_14 r_n9_12 r_n9_2 r_n9_0 va_9 wa_9 ya_9 cv_9
end Go.L25
