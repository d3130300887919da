/- Layer 25: codes by their parts. Conditions: none. -/
import Derived.Test.YtjbaoopiffcigaaPC
set_option linter.unusedVariables false
namespace Go.L25
open Go Go.Eng Go.Proofs
set_option maxRecDepth 100000
noncomputable section
variable (s : S) (j : Nat)
noncomputable def c83_0 : Code := Try.f83.body.getD .skip
noncomputable def A83 := run (annT 83)
def n83_0 := A83 c83_0
def c83_1 := gL c83_0
def n83_1 := A83 c83_1
def o83_1 : OL c83_1 := ⟨_, by conv => (lhs; whnf)⟩
def c83_2 := gR c83_0
def n83_2 := A83 c83_2
def c83_3 := gL c83_2
def n83_3 := A83 c83_3
def c83_4 := gL c83_3
def n83_4 := A83 c83_4
def o83_4 : OL c83_4 := ⟨_, by conv => (lhs; whnf)⟩
def c83_5 := gR c83_3
def n83_5 := A83 c83_5
def c83_6 := gT c83_5
def n83_6 := A83 c83_6
def c83_7 := gL c83_6
def n83_7 := A83 c83_7
def o83_7 : OL c83_7 := ⟨_, by conv => (lhs; whnf)⟩
def c83_8 := gR c83_6
def n83_8 := A83 c83_8
def c83_9 := gF c83_5
def n83_9 := A83 c83_9
def c83_10 := gR c83_2
def n83_10 := A83 c83_10
def c83_11 := gL c83_10
def n83_11 := A83 c83_11
def o83_11 : OL c83_11 := ⟨_, by conv => (lhs; whnf)⟩
def c83_12 := gR c83_10
def n83_12 := A83 c83_12
def c83_13 := gL c83_12
def n83_13 := A83 c83_13
def o83_13 : OL c83_13 := ⟨_, by conv => (lhs; whnf)⟩
def c83_14 := gR c83_12
def n83_14 := A83 c83_14
def c83_15 := gL c83_14
def n83_15 := A83 c83_15
def o83_15 : OL c83_15 := ⟨_, by conv => (lhs; whnf)⟩
def c83_16 := gR c83_14
def n83_16 := A83 c83_16
theorem r_n83_1 : n83_1 s = behK 71 (stepsO X (annT 83) C (gO c83_1) o83_1.1 s) := q_region (annT 83) s 0 _ false rfl _ _ rfl rfl o83_1.2
theorem g_o83_1 : gdst (gO c83_1) j = (o83_1.1[j]?).bind Oper.dst := gd_eq o83_1.2 j
theorem r_n83_4 : n83_4 s = behK 4194375 (stepsO X (annT 83) C (gO c83_4) o83_4.1 s) := q_region (annT 83) s 1 _ false rfl _ _ rfl rfl o83_4.2
theorem g_o83_4 : gdst (gO c83_4) j = (o83_4.1[j]?).bind Oper.dst := gd_eq o83_4.2 j
theorem r_n83_7 : n83_7 s = behK 192 (stepsO X (annT 83) C (gO c83_7) o83_7.1 s) := q_region (annT 83) s 2 _ false rfl _ _ rfl rfl o83_7.2
theorem g_o83_7 : gdst (gO c83_7) j = (o83_7.1[j]?).bind Oper.dst := gd_eq o83_7.2 j
theorem r_n83_8 : n83_8 s = some (.ret, s) := run_ret _ s
theorem r_n83_6 : n83_6 s = contK n83_8 (n83_7 s) := q_seq _ c83_7 c83_8 s
theorem r_n83_9 : n83_9 s = some (.norm, s) := run_skip _ s
theorem r_n83_5 : n83_5 s = condK (opv s.t (.tmp 22)) n83_6 n83_9 s := q_cond _ c83_6 c83_9 s (.tmp 22)
theorem r_n83_3 : n83_3 s = contK n83_5 (n83_4 s) := q_seq _ c83_4 c83_5 s
theorem r_n83_11 : n83_11 s = behK 324 (stepsO X (annT 83) C (gO c83_11) o83_11.1 s) := q_region (annT 83) s 3 _ false rfl _ _ rfl rfl o83_11.2
theorem g_o83_11 : gdst (gO c83_11) j = (o83_11.1[j]?).bind Oper.dst := gd_eq o83_11.2 j
theorem r_n83_13 : n83_13 s = behK 320 (stepsO X (annT 83) C (gO c83_13) o83_13.1 s) := q_region (annT 83) s 4 _ false rfl _ _ rfl rfl o83_13.2
theorem g_o83_13 : gdst (gO c83_13) j = (o83_13.1[j]?).bind Oper.dst := gd_eq o83_13.2 j
theorem r_n83_15 : n83_15 s = behK 192 (stepsO X (annT 83) C (gO c83_15) o83_15.1 s) := q_region (annT 83) s 5 _ false rfl _ _ rfl rfl o83_15.2
theorem g_o83_15 : gdst (gO c83_15) j = (o83_15.1[j]?).bind Oper.dst := gd_eq o83_15.2 j
theorem r_n83_16 : n83_16 s = some (.ret, s) := run_ret _ s
theorem r_n83_14 : n83_14 s = contK n83_16 (n83_15 s) := q_seq _ c83_15 c83_16 s
theorem r_n83_12 : n83_12 s = contK n83_14 (n83_13 s) := q_seq _ c83_13 c83_14 s
theorem r_n83_10 : n83_10 s = contK n83_12 (n83_11 s) := q_seq _ c83_11 c83_12 s
theorem r_n83_2 : n83_2 s = contK n83_10 (n83_3 s) := q_seq _ c83_3 c83_10 s
theorem r_n83_0 : n83_0 s = contK n83_2 (n83_1 s) := q_seq _ c83_1 c83_2 s
theorem va_83 : (annT 83).virt = [] := rfl
theorem wa_83 : (annT 83).wr = [] := rfl
theorem ya_83 : (annT 83).ty = [] := rfl
theorem cv_83 (call : Eng.Call) (wr : Bool) (args : List AV) (st : Store) : callV X call wr 83 args st = (call 83 args st).map (trimR st.length) := cv_imp rfl rfl call wr args st
theorem p83 (ds : List D) : pureCall C 83 ds = ((n83_0 ⟨argsT 0 (ds.map .d), []⟩).bind (bodyR [.cell 6 32, .tmp 7])).bind prOf := P_eq Try.f83 rfl rfl rfl rfl ds
theorem q83 (vs : List AV) (st : Store) : C 83 vs st = (n83_0 ⟨argsT 0 vs, st⟩).bind (bodyR [.cell 6 32, .tmp 7]) := C_eq Try.f83 rfl rfl rfl rfl vs st
attribute [go_sem] r_n83_1 g_o83_1 o83_1 r_n83_4 g_o83_4 o83_4 r_n83_7 g_o83_7 o83_7 r_n83_8 r_n83_6 r_n83_9 r_n83_5 r_n83_3 r_n83_11 g_o83_11 o83_11 r_n83_13 g_o83_13 o83_13 r_n83_15 g_o83_15 o83_15 r_n83_16 r_n83_14 r_n83_12 r_n83_10 r_n83_2 r_n83_0 va_83 wa_83 ya_83 cv_83
noncomputable def c84_0 : Code := Try.f84.body.getD .skip
noncomputable def A84 := run (annT 84)
def n84_0 := A84 c84_0
def o84_0 : OL c84_0 := ⟨_, by conv => (lhs; whnf)⟩
theorem r_n84_0 : n84_0 s = behK 0 (stepsO X (annT 84) C (gO c84_0) o84_0.1 s) := q_region (annT 84) s 0 _ false rfl _ _ rfl rfl o84_0.2
theorem g_o84_0 : gdst (gO c84_0) j = (o84_0.1[j]?).bind Oper.dst := gd_eq o84_0.2 j
theorem va_84 : (annT 84).virt = [] := rfl
theorem wa_84 : (annT 84).wr = [] := rfl
theorem ya_84 : (annT 84).ty = [] := rfl
theorem cv_84 (call : Eng.Call) (wr : Bool) (args : List AV) (st : Store) : callV X call wr 84 args st = (call 84 args st).map (trimR st.length) := cv_imp rfl rfl call wr args st
theorem p84 (ds : List D) : pureCall C 84 ds = ((n84_0 ⟨argsT 0 (ds.map .d), []⟩).bind (bodyR [])).bind prOf := P_eq Try.f84 rfl rfl rfl rfl ds
theorem q84 (vs : List AV) (st : Store) : C 84 vs st = (n84_0 ⟨argsT 0 vs, st⟩).bind (bodyR []) := C_eq Try.f84 rfl rfl rfl rfl vs st
attribute [go_sem] r_n84_0 g_o84_0 o84_0 va_84 wa_84 ya_84 cv_84
noncomputable def c85_0 : Code := Try.f85.body.getD .skip
noncomputable def A85 := run (annT 85)
def n85_0 := A85 c85_0
def c85_1 := gL c85_0
def n85_1 := A85 c85_1
def o85_1 : OL c85_1 := ⟨_, by conv => (lhs; whnf)⟩
def c85_2 := gR c85_0
def n85_2 := A85 c85_2
def c85_3 := gL c85_2
def n85_3 := A85 c85_3
def c85_4 := gL c85_3
def n85_4 := A85 c85_4
def o85_4 : OL c85_4 := ⟨_, by conv => (lhs; whnf)⟩
def c85_5 := gR c85_3
def n85_5 := A85 c85_5
def c85_6 := gT c85_5
def n85_6 := A85 c85_6
def c85_7 := gL c85_6
def n85_7 := A85 c85_7
def o85_7 : OL c85_7 := ⟨_, by conv => (lhs; whnf)⟩
def c85_8 := gR c85_6
def n85_8 := A85 c85_8
def c85_9 := gF c85_5
def n85_9 := A85 c85_9
def c85_10 := gR c85_2
def n85_10 := A85 c85_10
def c85_11 := gL c85_10
def n85_11 := A85 c85_11
def o85_11 : OL c85_11 := ⟨_, by conv => (lhs; whnf)⟩
def c85_12 := gR c85_10
def n85_12 := A85 c85_12
theorem r_n85_1 : n85_1 s = behK 1 (stepsO X (annT 85) C (gO c85_1) o85_1.1 s) := q_region (annT 85) s 0 _ false rfl _ _ rfl rfl o85_1.2
theorem g_o85_1 : gdst (gO c85_1) j = (o85_1.1[j]?).bind Oper.dst := gd_eq o85_1.2 j
theorem r_n85_4 : n85_4 s = behK 17 (stepsO X (annT 85) C (gO c85_4) o85_4.1 s) := q_region (annT 85) s 1 _ false rfl _ _ rfl rfl o85_4.2
theorem g_o85_4 : gdst (gO c85_4) j = (o85_4.1[j]?).bind Oper.dst := gd_eq o85_4.2 j
theorem r_n85_7 : n85_7 s = behK 4 (stepsO X (annT 85) C (gO c85_7) o85_7.1 s) := q_region (annT 85) s 2 _ false rfl _ _ rfl rfl o85_7.2
theorem g_o85_7 : gdst (gO c85_7) j = (o85_7.1[j]?).bind Oper.dst := gd_eq o85_7.2 j
theorem r_n85_8 : n85_8 s = some (.ret, s) := run_ret _ s
theorem r_n85_6 : n85_6 s = contK n85_8 (n85_7 s) := q_seq _ c85_7 c85_8 s
theorem r_n85_9 : n85_9 s = some (.norm, s) := run_skip _ s
theorem r_n85_5 : n85_5 s = condK (opv s.t (.tmp 4)) n85_6 n85_9 s := q_cond _ c85_6 c85_9 s (.tmp 4)
theorem r_n85_3 : n85_3 s = contK n85_5 (n85_4 s) := q_seq _ c85_4 c85_5 s
theorem r_n85_11 : n85_11 s = behK 4 (stepsO X (annT 85) C (gO c85_11) o85_11.1 s) := q_region (annT 85) s 3 _ false rfl _ _ rfl rfl o85_11.2
theorem g_o85_11 : gdst (gO c85_11) j = (o85_11.1[j]?).bind Oper.dst := gd_eq o85_11.2 j
theorem r_n85_12 : n85_12 s = some (.ret, s) := run_ret _ s
theorem r_n85_10 : n85_10 s = contK n85_12 (n85_11 s) := q_seq _ c85_11 c85_12 s
theorem r_n85_2 : n85_2 s = contK n85_10 (n85_3 s) := q_seq _ c85_3 c85_10 s
theorem r_n85_0 : n85_0 s = contK n85_2 (n85_1 s) := q_seq _ c85_1 c85_2 s
theorem va_85 : (annT 85).virt = [] := rfl
theorem wa_85 : (annT 85).wr = [] := rfl
theorem ya_85 : (annT 85).ty = [] := rfl
theorem cv_85 (call : Eng.Call) (wr : Bool) (args : List AV) (st : Store) : callV X call wr 85 args st = (call 85 args st).map (trimR st.length) := cv_imp rfl rfl call wr args st
theorem p85 (ds : List D) : pureCall C 85 ds = ((n85_0 ⟨argsT 0 (ds.map .d), []⟩).bind (bodyR [.tmp 2])).bind prOf := P_eq Try.f85 rfl rfl rfl rfl ds
theorem q85 (vs : List AV) (st : Store) : C 85 vs st = (n85_0 ⟨argsT 0 vs, st⟩).bind (bodyR [.tmp 2]) := C_eq Try.f85 rfl rfl rfl rfl vs st
attribute [go_sem] r_n85_1 g_o85_1 o85_1 r_n85_4 g_o85_4 o85_4 r_n85_7 g_o85_7 o85_7 r_n85_8 r_n85_6 r_n85_9 r_n85_5 r_n85_3 r_n85_11 g_o85_11 o85_11 r_n85_12 r_n85_10 r_n85_2 r_n85_0 va_85 wa_85 ya_85 cv_85
noncomputable def c86_0 : Code := Try.f86.body.getD .skip
noncomputable def A86 := run (annT 86)
def n86_0 := A86 c86_0
def o86_0 : OL c86_0 := ⟨_, by conv => (lhs; whnf)⟩
theorem r_n86_0 : n86_0 s = behK 0 (stepsO X (annT 86) C (gO c86_0) o86_0.1 s) := q_region (annT 86) s 0 _ false rfl _ _ rfl rfl o86_0.2
theorem g_o86_0 : gdst (gO c86_0) j = (o86_0.1[j]?).bind Oper.dst := gd_eq o86_0.2 j
theorem va_86 : (annT 86).virt = [] := rfl
theorem wa_86 : (annT 86).wr = [] := rfl
theorem ya_86 : (annT 86).ty = [] := rfl
theorem cv_86 (call : Eng.Call) (wr : Bool) (args : List AV) (st : Store) : callV X call wr 86 args st = (call 86 args st).map (trimR st.length) := cv_imp rfl rfl call wr args st
theorem p86 (ds : List D) : pureCall C 86 ds = ((n86_0 ⟨argsT 0 (ds.map .d), []⟩).bind (bodyR [])).bind prOf := P_eq Try.f86 rfl rfl rfl rfl ds
theorem q86 (vs : List AV) (st : Store) : C 86 vs st = (n86_0 ⟨argsT 0 vs, st⟩).bind (bodyR []) := C_eq Try.f86 rfl rfl rfl rfl vs st
attribute [go_sem] r_n86_0 g_o86_0 o86_0 va_86 wa_86 ya_86 cv_86
noncomputable def c87_0 : Code := Try.f87.body.getD .skip
noncomputable def A87 := run (annT 87)
def n87_0 := A87 c87_0
def c87_1 := gL c87_0
def n87_1 := A87 c87_1
def o87_1 : OL c87_1 := ⟨_, by conv => (lhs; whnf)⟩
def c87_2 := gR c87_0
def n87_2 := A87 c87_2
def c87_3 := gL c87_2
def n87_3 := A87 c87_3
def o87_3 : OL c87_3 := ⟨_, by conv => (lhs; whnf)⟩
def c87_4 := gR c87_2
def n87_4 := A87 c87_4
def c87_5 := gT c87_4
def n87_5 := A87 c87_5
def o87_5 : OL c87_5 := ⟨_, by conv => (lhs; whnf)⟩
def c87_6 := gF c87_4
def n87_6 := A87 c87_6
theorem r_n87_1 : n87_1 s = behK 3 (stepsO X (annT 87) C (gO c87_1) o87_1.1 s) := q_region (annT 87) s 0 _ false rfl _ _ rfl rfl o87_1.2
theorem g_o87_1 : gdst (gO c87_1) j = (o87_1.1[j]?).bind Oper.dst := gd_eq o87_1.2 j
theorem r_n87_3 : n87_3 s = behK 65 (stepsO X (annT 87) C (gO c87_3) o87_3.1 s) := q_region (annT 87) s 1 _ false rfl _ _ rfl rfl o87_3.2
theorem g_o87_3 : gdst (gO c87_3) j = (o87_3.1[j]?).bind Oper.dst := gd_eq o87_3.2 j
theorem r_n87_5 : n87_5 s = behK 0 (stepsO X (annT 87) C (gO c87_5) o87_5.1 s) := q_region (annT 87) s 2 _ false rfl _ _ rfl rfl o87_5.2
theorem g_o87_5 : gdst (gO c87_5) j = (o87_5.1[j]?).bind Oper.dst := gd_eq o87_5.2 j
theorem r_n87_6 : n87_6 s = some (.norm, s) := run_skip _ s
theorem r_n87_4 : n87_4 s = condK (opv s.t (.tmp 6)) n87_5 n87_6 s := q_cond _ c87_5 c87_6 s (.tmp 6)
theorem r_n87_2 : n87_2 s = contK n87_4 (n87_3 s) := q_seq _ c87_3 c87_4 s
theorem r_n87_0 : n87_0 s = contK n87_2 (n87_1 s) := q_seq _ c87_1 c87_2 s
theorem va_87 : (annT 87).virt = [] := rfl
theorem wa_87 : (annT 87).wr = [] := rfl
theorem ya_87 : (annT 87).ty = [] := rfl
theorem cv_87 (call : Eng.Call) (wr : Bool) (args : List AV) (st : Store) : callV X call wr 87 args st = (call 87 args st).map (trimR st.length) := cv_imp rfl rfl call wr args st
theorem p87 (ds : List D) : pureCall C 87 ds = ((n87_0 ⟨argsT 0 (ds.map .d), []⟩).bind (bodyR [])).bind prOf := P_eq Try.f87 rfl rfl rfl rfl ds
theorem q87 (vs : List AV) (st : Store) : C 87 vs st = (n87_0 ⟨argsT 0 vs, st⟩).bind (bodyR []) := C_eq Try.f87 rfl rfl rfl rfl vs st
attribute [go_sem] r_n87_1 g_o87_1 o87_1 r_n87_3 g_o87_3 o87_3 r_n87_5 g_o87_5 o87_5 r_n87_6 r_n87_4 r_n87_2 r_n87_0 va_87 wa_87 ya_87 cv_87
noncomputable def c66_0 : Code := Try.f66.body.getD .skip
noncomputable def A66 := run (annT 66)
def n66_0 := A66 c66_0
def c66_1 := gL c66_0
def n66_1 := A66 c66_1
def o66_1 : OL c66_1 := ⟨_, by conv => (lhs; whnf)⟩
def c66_2 := gR c66_0
def n66_2 := A66 c66_2
def c66_3 := gL c66_2
def n66_3 := A66 c66_3
def o66_3 : OL c66_3 := ⟨_, by conv => (lhs; whnf)⟩
def c66_4 := gR c66_2
def n66_4 := A66 c66_4
theorem r_n66_1 : n66_1 s = behK 99 (stepsO X (annT 66) C (gO c66_1) o66_1.1 s) := q_region (annT 66) s 0 _ false rfl _ _ rfl rfl o66_1.2
theorem g_o66_1 : gdst (gO c66_1) j = (o66_1.1[j]?).bind Oper.dst := gd_eq o66_1.2 j
theorem r_n66_3 : n66_3 s = behK 192 (stepsO X (annT 66) C (gO c66_3) o66_3.1 s) := q_region (annT 66) s 1 _ false rfl _ _ rfl rfl o66_3.2
theorem g_o66_3 : gdst (gO c66_3) j = (o66_3.1[j]?).bind Oper.dst := gd_eq o66_3.2 j
theorem r_n66_4 : n66_4 s = some (.ret, s) := run_ret _ s
theorem r_n66_2 : n66_2 s = contK n66_4 (n66_3 s) := q_seq _ c66_3 c66_4 s
theorem r_n66_0 : n66_0 s = contK n66_2 (n66_1 s) := q_seq _ c66_1 c66_2 s
theorem va_66 : (annT 66).virt = [] := rfl
theorem wa_66 : (annT 66).wr = [] := rfl
theorem ya_66 : (annT 66).ty = [] := rfl
theorem cv_66 (call : Eng.Call) (wr : Bool) (args : List AV) (st : Store) : callV X call wr 66 args st = (call 66 args st).map (trimR st.length) := cv_imp rfl rfl call wr args st
theorem p66 (ds : List D) : pureCall C 66 ds = ((n66_0 ⟨argsT 0 (ds.map .d), []⟩).bind (bodyR [.cell 6 32, .tmp 7])).bind prOf := P_eq Try.f66 rfl rfl rfl rfl ds
theorem q66 (vs : List AV) (st : Store) : C 66 vs st = (n66_0 ⟨argsT 0 vs, st⟩).bind (bodyR [.cell 6 32, .tmp 7]) := C_eq Try.f66 rfl rfl rfl rfl vs st
attribute [go_sem] r_n66_1 g_o66_1 o66_1 r_n66_3 g_o66_3 o66_3 r_n66_4 r_n66_2 r_n66_0 va_66 wa_66 ya_66 cv_66
noncomputable def c67_0 : Code := Try.f67.body.getD .skip
noncomputable def A67 := run (annT 67)
def n67_0 := A67 c67_0
def c67_1 := gL c67_0
def n67_1 := A67 c67_1
def o67_1 : OL c67_1 := ⟨_, by conv => (lhs; whnf)⟩
def c67_2 := gR c67_0
def n67_2 := A67 c67_2
def c67_3 := gL c67_2
def n67_3 := A67 c67_3
def o67_3 : OL c67_3 := ⟨_, by conv => (lhs; whnf)⟩
def c67_4 := gR c67_2
def n67_4 := A67 c67_4
theorem r_n67_1 : n67_1 s = behK 99 (stepsO X (annT 67) C (gO c67_1) o67_1.1 s) := q_region (annT 67) s 0 _ false rfl _ _ rfl rfl o67_1.2
theorem g_o67_1 : gdst (gO c67_1) j = (o67_1.1[j]?).bind Oper.dst := gd_eq o67_1.2 j
theorem r_n67_3 : n67_3 s = behK 192 (stepsO X (annT 67) C (gO c67_3) o67_3.1 s) := q_region (annT 67) s 1 _ false rfl _ _ rfl rfl o67_3.2
theorem g_o67_3 : gdst (gO c67_3) j = (o67_3.1[j]?).bind Oper.dst := gd_eq o67_3.2 j
theorem r_n67_4 : n67_4 s = some (.ret, s) := run_ret _ s
theorem r_n67_2 : n67_2 s = contK n67_4 (n67_3 s) := q_seq _ c67_3 c67_4 s
theorem r_n67_0 : n67_0 s = contK n67_2 (n67_1 s) := q_seq _ c67_1 c67_2 s
theorem va_67 : (annT 67).virt = [] := rfl
theorem wa_67 : (annT 67).wr = [] := rfl
theorem ya_67 : (annT 67).ty = [] := rfl
theorem cv_67 (call : Eng.Call) (wr : Bool) (args : List AV) (st : Store) : callV X call wr 67 args st = cvP call wr 67 args st (fzAll (fz false st 6) args) := cv_pure rfl rfl call wr args st
theorem p67 (ds : List D) : pureCall C 67 ds = ((n67_0 ⟨argsT 0 (ds.map .d), []⟩).bind (bodyR [.cell 6 32, .tmp 7])).bind prOf := P_eq Try.f67 rfl rfl rfl rfl ds
theorem q67 (vs : List AV) (st : Store) : C 67 vs st = (n67_0 ⟨argsT 0 vs, st⟩).bind (bodyR [.cell 6 32, .tmp 7]) := C_eq Try.f67 rfl rfl rfl rfl vs st
attribute [go_sem] r_n67_1 g_o67_1 o67_1 r_n67_3 g_o67_3 o67_3 r_n67_4 r_n67_2 r_n67_0 va_67 wa_67 ya_67 cv_67
noncomputable def c69_0 : Code := Try.f69.body.getD .skip
noncomputable def A69 := run (annT 69)
def n69_0 := A69 c69_0
def c69_1 := gL c69_0
def n69_1 := A69 c69_1
def o69_1 : OL c69_1 := ⟨_, by conv => (lhs; whnf)⟩
def c69_2 := gR c69_0
def n69_2 := A69 c69_2
def c69_3 := gL c69_2
def n69_3 := A69 c69_3
def o69_3 : OL c69_3 := ⟨_, by conv => (lhs; whnf)⟩
def c69_4 := gR c69_2
def n69_4 := A69 c69_4
theorem r_n69_1 : n69_1 s = behK 99 (stepsO X (annT 69) C (gO c69_1) o69_1.1 s) := q_region (annT 69) s 0 _ false rfl _ _ rfl rfl o69_1.2
theorem g_o69_1 : gdst (gO c69_1) j = (o69_1.1[j]?).bind Oper.dst := gd_eq o69_1.2 j
theorem r_n69_3 : n69_3 s = behK 192 (stepsO X (annT 69) C (gO c69_3) o69_3.1 s) := q_region (annT 69) s 1 _ false rfl _ _ rfl rfl o69_3.2
theorem g_o69_3 : gdst (gO c69_3) j = (o69_3.1[j]?).bind Oper.dst := gd_eq o69_3.2 j
theorem r_n69_4 : n69_4 s = some (.ret, s) := run_ret _ s
theorem r_n69_2 : n69_2 s = contK n69_4 (n69_3 s) := q_seq _ c69_3 c69_4 s
theorem r_n69_0 : n69_0 s = contK n69_2 (n69_1 s) := q_seq _ c69_1 c69_2 s
theorem va_69 : (annT 69).virt = [] := rfl
theorem wa_69 : (annT 69).wr = [] := rfl
theorem ya_69 : (annT 69).ty = [] := rfl
theorem cv_69 (call : Eng.Call) (wr : Bool) (args : List AV) (st : Store) : callV X call wr 69 args st = cvP call wr 69 args st (fzAll (fz false st 6) args) := cv_pure rfl rfl call wr args st
theorem p69 (ds : List D) : pureCall C 69 ds = ((n69_0 ⟨argsT 0 (ds.map .d), []⟩).bind (bodyR [.cell 6 32, .tmp 7])).bind prOf := P_eq Try.f69 rfl rfl rfl rfl ds
theorem q69 (vs : List AV) (st : Store) : C 69 vs st = (n69_0 ⟨argsT 0 vs, st⟩).bind (bodyR [.cell 6 32, .tmp 7]) := C_eq Try.f69 rfl rfl rfl rfl vs st
attribute [go_sem] r_n69_1 g_o69_1 o69_1 r_n69_3 g_o69_3 o69_3 r_n69_4 r_n69_2 r_n69_0 va_69 wa_69 ya_69 cv_69
noncomputable def c41_0 : Code := Try.f41.body.getD .skip
noncomputable def A41 := run (annT 41)
def n41_0 := A41 c41_0
def c41_1 := gL c41_0
def n41_1 := A41 c41_1
def o41_1 : OL c41_1 := ⟨_, by conv => (lhs; whnf)⟩
def c41_2 := gR c41_0
def n41_2 := A41 c41_2
def c41_3 := gL c41_2
def n41_3 := A41 c41_3
def o41_3 : OL c41_3 := ⟨_, by conv => (lhs; whnf)⟩
def c41_4 := gR c41_2
def n41_4 := A41 c41_4
def c41_5 := gL c41_4
def n41_5 := A41 c41_5
def o41_5 : OL c41_5 := ⟨_, by conv => (lhs; whnf)⟩
def c41_6 := gR c41_4
def n41_6 := A41 c41_6
theorem r_n41_1 : n41_1 s = behK 19 (stepsO X (annT 41) C (gO c41_1) o41_1.1 s) := q_region (annT 41) s 0 _ false rfl _ _ rfl rfl o41_1.2
theorem g_o41_1 : gdst (gO c41_1) j = (o41_1.1[j]?).bind Oper.dst := gd_eq o41_1.2 j
theorem r_n41_3 : n41_3 s = behK 48 (stepsO X (annT 41) C (gO c41_3) o41_3.1 s) := q_region (annT 41) s 1 _ false rfl _ _ rfl rfl o41_3.2
theorem g_o41_3 : gdst (gO c41_3) j = (o41_3.1[j]?).bind Oper.dst := gd_eq o41_3.2 j
theorem r_n41_5 : n41_5 s = behK 16 (stepsO X (annT 41) C (gO c41_5) o41_5.1 s) := q_region (annT 41) s 2 _ false rfl _ _ rfl rfl o41_5.2
theorem g_o41_5 : gdst (gO c41_5) j = (o41_5.1[j]?).bind Oper.dst := gd_eq o41_5.2 j
theorem r_n41_6 : n41_6 s = some (.ret, s) := run_ret _ s
theorem r_n41_4 : n41_4 s = contK n41_6 (n41_5 s) := q_seq _ c41_5 c41_6 s
theorem r_n41_2 : n41_2 s = contK n41_4 (n41_3 s) := q_seq _ c41_3 c41_4 s
theorem r_n41_0 : n41_0 s = contK n41_2 (n41_1 s) := q_seq _ c41_1 c41_2 s
theorem va_41 : (annT 41).virt = [] := rfl
theorem wa_41 : (annT 41).wr = [] := rfl
theorem ya_41 : (annT 41).ty = [] := rfl
theorem cv_41 (call : Eng.Call) (wr : Bool) (args : List AV) (st : Store) : callV X call wr 41 args st = (call 41 args st).map (trimR st.length) := cv_imp rfl rfl call wr args st
theorem p41 (ds : List D) : pureCall C 41 ds = ((n41_0 ⟨argsT 0 (ds.map .d), []⟩).bind (bodyR [.cell 4 32])).bind prOf := P_eq Try.f41 rfl rfl rfl rfl ds
theorem q41 (vs : List AV) (st : Store) : C 41 vs st = (n41_0 ⟨argsT 0 vs, st⟩).bind (bodyR [.cell 4 32]) := C_eq Try.f41 rfl rfl rfl rfl vs st
attribute [go_sem] r_n41_1 g_o41_1 o41_1 r_n41_3 g_o41_3 o41_3 r_n41_5 g_o41_5 o41_5 r_n41_6 r_n41_4 r_n41_2 r_n41_0 va_41 wa_41 ya_41 cv_41
noncomputable def c42_0 : Code := Try.f42.body.getD .skip
noncomputable def A42 := run (annT 42)
def n42_0 := A42 c42_0
def c42_1 := gL c42_0
def n42_1 := A42 c42_1
def o42_1 : OL c42_1 := ⟨_, by conv => (lhs; whnf)⟩
def c42_2 := gR c42_0
def n42_2 := A42 c42_2
def c42_3 := gL c42_2
def n42_3 := A42 c42_3
def o42_3 : OL c42_3 := ⟨_, by conv => (lhs; whnf)⟩
def c42_4 := gR c42_2
def n42_4 := A42 c42_4
def c42_5 := gL c42_4
def n42_5 := A42 c42_5
def o42_5 : OL c42_5 := ⟨_, by conv => (lhs; whnf)⟩
def c42_6 := gR c42_4
def n42_6 := A42 c42_6
theorem r_n42_1 : n42_1 s = behK 71 (stepsO X (annT 42) C (gO c42_1) o42_1.1 s) := q_region (annT 42) s 0 _ false rfl _ _ rfl rfl o42_1.2
theorem g_o42_1 : gdst (gO c42_1) j = (o42_1.1[j]?).bind Oper.dst := gd_eq o42_1.2 j
theorem r_n42_3 : n42_3 s = behK 192 (stepsO X (annT 42) C (gO c42_3) o42_3.1 s) := q_region (annT 42) s 1 _ false rfl _ _ rfl rfl o42_3.2
theorem g_o42_3 : gdst (gO c42_3) j = (o42_3.1[j]?).bind Oper.dst := gd_eq o42_3.2 j
theorem r_n42_5 : n42_5 s = behK 64 (stepsO X (annT 42) C (gO c42_5) o42_5.1 s) := q_region (annT 42) s 2 _ false rfl _ _ rfl rfl o42_5.2
theorem g_o42_5 : gdst (gO c42_5) j = (o42_5.1[j]?).bind Oper.dst := gd_eq o42_5.2 j
theorem r_n42_6 : n42_6 s = some (.ret, s) := run_ret _ s
theorem r_n42_4 : n42_4 s = contK n42_6 (n42_5 s) := q_seq _ c42_5 c42_6 s
theorem r_n42_2 : n42_2 s = contK n42_4 (n42_3 s) := q_seq _ c42_3 c42_4 s
theorem r_n42_0 : n42_0 s = contK n42_2 (n42_1 s) := q_seq _ c42_1 c42_2 s
theorem va_42 : (annT 42).virt = [] := rfl
theorem wa_42 : (annT 42).wr = [] := rfl
theorem ya_42 : (annT 42).ty = [] := rfl
theorem cv_42 (call : Eng.Call) (wr : Bool) (args : List AV) (st : Store) : callV X call wr 42 args st = cvP call wr 42 args st (fzAll (fz false st 6) args) := cv_pure rfl rfl call wr args st
theorem p42 (ds : List D) : pureCall C 42 ds = ((n42_0 ⟨argsT 0 (ds.map .d), []⟩).bind (bodyR [.cell 6 32])).bind prOf := P_eq Try.f42 rfl rfl rfl rfl ds
theorem q42 (vs : List AV) (st : Store) : C 42 vs st = (n42_0 ⟨argsT 0 vs, st⟩).bind (bodyR [.cell 6 32]) := C_eq Try.f42 rfl rfl rfl rfl vs st
attribute [go_sem] r_n42_1 g_o42_1 o42_1 r_n42_3 g_o42_3 o42_3 r_n42_5 g_o42_5 o42_5 r_n42_6 r_n42_4 r_n42_2 r_n42_0 va_42 wa_42 ya_42 cv_42
noncomputable def c43_0 : Code := Try.f43.body.getD .skip
noncomputable def A43 := run (annT 43)
def n43_0 := A43 c43_0
def c43_1 := gL c43_0
def n43_1 := A43 c43_1
def o43_1 : OL c43_1 := ⟨_, by conv => (lhs; whnf)⟩
def c43_2 := gR c43_0
def n43_2 := A43 c43_2
def c43_3 := gL c43_2
def n43_3 := A43 c43_3
def o43_3 : OL c43_3 := ⟨_, by conv => (lhs; whnf)⟩
def c43_4 := gR c43_2
def n43_4 := A43 c43_4
def c43_5 := gL c43_4
def n43_5 := A43 c43_5
def o43_5 : OL c43_5 := ⟨_, by conv => (lhs; whnf)⟩
def c43_6 := gR c43_4
def n43_6 := A43 c43_6
def c43_7 := gL c43_6
def n43_7 := A43 c43_7
def o43_7 : OL c43_7 := ⟨_, by conv => (lhs; whnf)⟩
def c43_8 := gR c43_6
def n43_8 := A43 c43_8
def c43_9 := gL c43_8
def n43_9 := A43 c43_9
def c43_10 := gL c43_9
def n43_10 := A43 c43_10
def o43_10 : OL c43_10 := ⟨_, by conv => (lhs; whnf)⟩
def c43_11 := gR c43_9
def n43_11 := A43 c43_11
def c43_12 := gB c43_11
def n43_12 := A43 c43_12
def c43_13 := gB c43_12
def n43_13 := A43 c43_13
def c43_14 := gL c43_13
def n43_14 := A43 c43_14
def o43_14 : OL c43_14 := ⟨_, by conv => (lhs; whnf)⟩
def c43_15 := gR c43_13
def n43_15 := A43 c43_15
def c43_16 := gL c43_15
def n43_16 := A43 c43_16
def c43_17 := gT c43_16
def n43_17 := A43 c43_17
def c43_18 := gF c43_16
def n43_18 := A43 c43_18
def c43_19 := gR c43_15
def n43_19 := A43 c43_19
def c43_20 := gL c43_19
def n43_20 := A43 c43_20
def c43_21 := gB c43_20
def n43_21 := A43 c43_21
def c43_22 := gL c43_21
def n43_22 := A43 c43_22
def o43_22 : OL c43_22 := ⟨_, by conv => (lhs; whnf)⟩
def c43_23 := gR c43_21
def n43_23 := A43 c43_23
def o43_23 : OL c43_23 := ⟨_, by conv => (lhs; whnf)⟩
def c43_24 := gR c43_19
def n43_24 := A43 c43_24
def o43_24 : OL c43_24 := ⟨_, by conv => (lhs; whnf)⟩
def c43_25 := gR c43_8
def n43_25 := A43 c43_25
def c43_26 := gL c43_25
def n43_26 := A43 c43_26
def o43_26 : OL c43_26 := ⟨_, by conv => (lhs; whnf)⟩
def c43_27 := gR c43_25
def n43_27 := A43 c43_27
def c43_28 := gL c43_27
def n43_28 := A43 c43_28
def o43_28 : OL c43_28 := ⟨_, by conv => (lhs; whnf)⟩
def c43_29 := gR c43_27
def n43_29 := A43 c43_29
def c43_30 := gL c43_29
def n43_30 := A43 c43_30
def o43_30 : OL c43_30 := ⟨_, by conv => (lhs; whnf)⟩
def c43_31 := gR c43_29
def n43_31 := A43 c43_31
theorem r_n43_1 : n43_1 s = behK 6 (stepsO X (annT 43) C (gO c43_1) o43_1.1 s) := q_region (annT 43) s 0 _ false rfl _ _ rfl rfl o43_1.2
theorem g_o43_1 : gdst (gO c43_1) j = (o43_1.1[j]?).bind Oper.dst := gd_eq o43_1.2 j
theorem r_n43_3 : n43_3 s = behK 14 (stepsO X (annT 43) C (gO c43_3) o43_3.1 s) := q_region (annT 43) s 1 _ false rfl _ _ rfl rfl o43_3.2
theorem g_o43_3 : gdst (gO c43_3) j = (o43_3.1[j]?).bind Oper.dst := gd_eq o43_3.2 j
theorem r_n43_5 : n43_5 s = behK 30 (stepsO X (annT 43) C (gO c43_5) o43_5.1 s) := q_region (annT 43) s 2 _ false rfl _ _ rfl rfl o43_5.2
theorem g_o43_5 : gdst (gO c43_5) j = (o43_5.1[j]?).bind Oper.dst := gd_eq o43_5.2 j
theorem r_n43_7 : n43_7 s = behK 30 (stepsO X (annT 43) C (gO c43_7) o43_7.1 s) := q_region (annT 43) s 3 _ false rfl _ _ rfl rfl o43_7.2
theorem g_o43_7 : gdst (gO c43_7) j = (o43_7.1[j]?).bind Oper.dst := gd_eq o43_7.2 j
theorem r_n43_10 : n43_10 s = behK 7340062 (stepsO X (annT 43) C (gO c43_10) o43_10.1 s) := q_region (annT 43) s 4 _ false rfl _ _ rfl rfl o43_10.2
theorem g_o43_10 : gdst (gO c43_10) j = (o43_10.1[j]?).bind Oper.dst := gd_eq o43_10.2 j
theorem r_n43_14 : n43_14 s = behK 15728670 (stepsO X (annT 43) C (gO c43_14) o43_14.1 s) := q_region (annT 43) s 5 _ false rfl _ _ rfl rfl o43_14.2
theorem g_o43_14 : gdst (gO c43_14) j = (o43_14.1[j]?).bind Oper.dst := gd_eq o43_14.2 j
theorem r_n43_17 : n43_17 s = some (.norm, s) := run_skip _ s
theorem r_n43_18 : n43_18 s = some (.exit 0, s) := run_exit _ s 0
theorem r_n43_16 : n43_16 s = condK (opv s.t (.tmp 23)) n43_17 n43_18 s := q_cond _ c43_17 c43_18 s (.tmp 23)
theorem r_n43_22 : n43_22 s = behK 7340126 (stepsO X (annT 43) C (gO c43_22) o43_22.1 s) := q_region (annT 43) s 6 _ false rfl _ _ rfl rfl o43_22.2
theorem g_o43_22 : gdst (gO c43_22) j = (o43_22.1[j]?).bind Oper.dst := gd_eq o43_22.2 j
theorem r_n43_23 : n43_23 s = behK 7340062 (stepsO X (annT 43) C (gO c43_23) o43_23.1 s) := q_region (annT 43) s 7 _ false rfl _ _ rfl rfl o43_23.2
theorem g_o43_23 : gdst (gO c43_23) j = (o43_23.1[j]?).bind Oper.dst := gd_eq o43_23.2 j
theorem r_n43_21 : n43_21 s = contK n43_23 (n43_22 s) := q_seq _ c43_22 c43_23 s
theorem r_n43_20 : n43_20 s = blkK 1 (n43_21 s) := q_block _ c43_21 s 1
theorem r_n43_24 : n43_24 s = behK 7340062 (stepsO X (annT 43) C (gO c43_24) o43_24.1 s) := q_region (annT 43) s 8 _ false rfl _ _ rfl rfl o43_24.2
theorem g_o43_24 : gdst (gO c43_24) j = (o43_24.1[j]?).bind Oper.dst := gd_eq o43_24.2 j
theorem r_n43_19 : n43_19 s = contK n43_24 (n43_20 s) := q_seq _ c43_20 c43_24 s
theorem r_n43_15 : n43_15 s = contK n43_19 (n43_16 s) := q_seq _ c43_16 c43_19 s
theorem r_n43_13 : n43_13 s = contK n43_15 (n43_14 s) := q_seq _ c43_14 c43_15 s
theorem r_n43_12 : n43_12 s = loopK 7340062 s.st.length n43_12 (n43_13 s) := q_loop (annT 43) c43_13 s _ _ rfl rfl
theorem r_n43_11 : n43_11 s = blkK 0 (n43_12 s) := q_block _ c43_12 s 0
theorem r_n43_9 : n43_9 s = contK n43_11 (n43_10 s) := q_seq _ c43_10 c43_11 s
theorem r_n43_26 : n43_26 s = behK 14 (stepsO X (annT 43) C (gO c43_26) o43_26.1 s) := q_region (annT 43) s 9 _ false rfl _ _ rfl rfl o43_26.2
theorem g_o43_26 : gdst (gO c43_26) j = (o43_26.1[j]?).bind Oper.dst := gd_eq o43_26.2 j
theorem r_n43_28 : n43_28 s = behK 134 (stepsO X (annT 43) C (gO c43_28) o43_28.1 s) := q_region (annT 43) s 10 _ false rfl _ _ rfl rfl o43_28.2
theorem g_o43_28 : gdst (gO c43_28) j = (o43_28.1[j]?).bind Oper.dst := gd_eq o43_28.2 j
theorem r_n43_30 : n43_30 s = behK 4 (stepsO X (annT 43) C (gO c43_30) o43_30.1 s) := q_region (annT 43) s 11 _ true rfl _ _ rfl rfl o43_30.2
theorem g_o43_30 : gdst (gO c43_30) j = (o43_30.1[j]?).bind Oper.dst := gd_eq o43_30.2 j
theorem r_n43_31 : n43_31 s = some (.ret, s) := run_ret _ s
theorem r_n43_29 : n43_29 s = contK n43_31 (n43_30 s) := q_seq _ c43_30 c43_31 s
theorem r_n43_27 : n43_27 s = contK n43_29 (n43_28 s) := q_seq _ c43_28 c43_29 s
theorem r_n43_25 : n43_25 s = contK n43_27 (n43_26 s) := q_seq _ c43_26 c43_27 s
theorem r_n43_8 : n43_8 s = contK n43_25 (n43_9 s) := q_seq _ c43_9 c43_25 s
theorem r_n43_6 : n43_6 s = contK n43_8 (n43_7 s) := q_seq _ c43_7 c43_8 s
theorem r_n43_4 : n43_4 s = contK n43_6 (n43_5 s) := q_seq _ c43_5 c43_6 s
theorem r_n43_2 : n43_2 s = contK n43_4 (n43_3 s) := q_seq _ c43_3 c43_4 s
theorem r_n43_0 : n43_0 s = contK n43_2 (n43_1 s) := q_seq _ c43_1 c43_2 s
theorem va_43 : (annT 43).virt = [3] := rfl
theorem wa_43 : (annT 43).wr = [3] := rfl
theorem ya_43 : (annT 43).ty = [] := rfl
theorem cv_43 (call : Eng.Call) (wr : Bool) (args : List AV) (st : Store) : callV X call wr 43 args st = cvP call wr 43 args st (fzAll (fz false st 6) args) := cv_pure rfl rfl call wr args st
theorem p43 (ds : List D) : pureCall C 43 ds = ((n43_0 ⟨argsT 0 (ds.map .d), []⟩).bind (bodyR [.cell 2 32])).bind prOf := P_eq Try.f43 rfl rfl rfl rfl ds
theorem q43 (vs : List AV) (st : Store) : C 43 vs st = (n43_0 ⟨argsT 0 vs, st⟩).bind (bodyR [.cell 2 32]) := C_eq Try.f43 rfl rfl rfl rfl vs st
attribute [go_sem] r_n43_1 g_o43_1 o43_1 r_n43_3 g_o43_3 o43_3 r_n43_5 g_o43_5 o43_5 r_n43_7 g_o43_7 o43_7 r_n43_10 g_o43_10 o43_10 r_n43_14 g_o43_14 o43_14 r_n43_17 r_n43_18 r_n43_16 r_n43_22 g_o43_22 o43_22 r_n43_23 g_o43_23 o43_23 r_n43_21 r_n43_20 r_n43_24 g_o43_24 o43_24 r_n43_19 r_n43_15 r_n43_13 r_n43_11 r_n43_9 r_n43_26 g_o43_26 o43_26 r_n43_28 g_o43_28 o43_28 r_n43_30 g_o43_30 o43_30 r_n43_31 r_n43_29 r_n43_27 r_n43_25 r_n43_8 r_n43_6 r_n43_4 r_n43_2 r_n43_0 va_43 wa_43 ya_43 cv_43
noncomputable def c68_0 : Code := Try.f68.body.getD .skip
noncomputable def A68 := run (annT 68)
def n68_0 := A68 c68_0
def c68_1 := gL c68_0
def n68_1 := A68 c68_1
def o68_1 : OL c68_1 := ⟨_, by conv => (lhs; whnf)⟩
def c68_2 := gR c68_0
def n68_2 := A68 c68_2
def c68_3 := gT c68_2
def n68_3 := A68 c68_3
def o68_3 : OL c68_3 := ⟨_, by conv => (lhs; whnf)⟩
def c68_4 := gF c68_2
def n68_4 := A68 c68_4
theorem r_n68_1 : n68_1 s = behK 142 (stepsO X (annT 68) C (gO c68_1) o68_1.1 s) := q_region (annT 68) s 0 _ false rfl _ _ rfl rfl o68_1.2
theorem g_o68_1 : gdst (gO c68_1) j = (o68_1.1[j]?).bind Oper.dst := gd_eq o68_1.2 j
theorem r_n68_3 : n68_3 s = behK 0 (tailK (annT 68) (gO c68_3) (o68_3.1.drop 7) (stepsO X (annT 68) C (gO c68_3) (o68_3.1.take 7) s)) := q_regionE (annT 68) s 1 _ true 7 rfl _ _ rfl rfl o68_3.2
theorem g_o68_3 : gdst (gO c68_3) j = (o68_3.1[j]?).bind Oper.dst := gd_eq o68_3.2 j
theorem r_n68_4 : n68_4 s = some (.norm, s) := run_skip _ s
theorem r_n68_2 : n68_2 s = condK (opv s.t (.tmp 7)) n68_3 n68_4 s := q_cond _ c68_3 c68_4 s (.tmp 7)
theorem r_n68_0 : n68_0 s = contK n68_2 (n68_1 s) := q_seq _ c68_1 c68_2 s
theorem va_68 : (annT 68).virt = [] := rfl
theorem wa_68 : (annT 68).wr = [] := rfl
theorem ya_68 : (annT 68).ty = [] := rfl
theorem cv_68 (call : Eng.Call) (wr : Bool) (args : List AV) (st : Store) : callV X call wr 68 args st = (call 68 args st).map (trimR st.length) := cv_imp rfl rfl call wr args st
theorem p68 (ds : List D) : pureCall C 68 ds = ((n68_0 ⟨argsT 0 (ds.map .d), []⟩).bind (bodyR [])).bind prOf := P_eq Try.f68 rfl rfl rfl rfl ds
theorem q68 (vs : List AV) (st : Store) : C 68 vs st = (n68_0 ⟨argsT 0 vs, st⟩).bind (bodyR []) := C_eq Try.f68 rfl rfl rfl rfl vs st
attribute [go_sem] r_n68_1 g_o68_1 o68_1 r_n68_3 g_o68_3 o68_3 r_n68_4 r_n68_2 r_n68_0 va_68 wa_68 ya_68 cv_68
noncomputable def c44_0 : Code := Try.f44.body.getD .skip
noncomputable def A44 := run (annT 44)
def n44_0 := A44 c44_0
def c44_1 := gL c44_0
def n44_1 := A44 c44_1
def o44_1 : OL c44_1 := ⟨_, by conv => (lhs; whnf)⟩
def c44_2 := gR c44_0
def n44_2 := A44 c44_2
def c44_3 := gL c44_2
def n44_3 := A44 c44_3
def o44_3 : OL c44_3 := ⟨_, by conv => (lhs; whnf)⟩
def c44_4 := gR c44_2
def n44_4 := A44 c44_4
def c44_5 := gL c44_4
def n44_5 := A44 c44_5
def c44_6 := gL c44_5
def n44_6 := A44 c44_6
def o44_6 : OL c44_6 := ⟨_, by conv => (lhs; whnf)⟩
def c44_7 := gR c44_5
def n44_7 := A44 c44_7
def c44_8 := gT c44_7
def n44_8 := A44 c44_8
def o44_8 : OL c44_8 := ⟨_, by conv => (lhs; whnf)⟩
def c44_9 := gF c44_7
def n44_9 := A44 c44_9
def c44_10 := gR c44_4
def n44_10 := A44 c44_10
def c44_11 := gL c44_10
def n44_11 := A44 c44_11
def c44_12 := gL c44_11
def n44_12 := A44 c44_12
def o44_12 : OL c44_12 := ⟨_, by conv => (lhs; whnf)⟩
def c44_13 := gR c44_11
def n44_13 := A44 c44_13
def c44_14 := gT c44_13
def n44_14 := A44 c44_14
def o44_14 : OL c44_14 := ⟨_, by conv => (lhs; whnf)⟩
def c44_15 := gF c44_13
def n44_15 := A44 c44_15
def c44_16 := gR c44_10
def n44_16 := A44 c44_16
def c44_17 := gL c44_16
def n44_17 := A44 c44_17
def o44_17 : OL c44_17 := ⟨_, by conv => (lhs; whnf)⟩
def c44_18 := gR c44_16
def n44_18 := A44 c44_18
def c44_19 := gL c44_18
def n44_19 := A44 c44_19
def c44_20 := gL c44_19
def n44_20 := A44 c44_20
def o44_20 : OL c44_20 := ⟨_, by conv => (lhs; whnf)⟩
def c44_21 := gR c44_19
def n44_21 := A44 c44_21
def c44_22 := gT c44_21
def n44_22 := A44 c44_22
def c44_23 := gL c44_22
def n44_23 := A44 c44_23
def o44_23 : OL c44_23 := ⟨_, by conv => (lhs; whnf)⟩
def c44_24 := gR c44_22
def n44_24 := A44 c44_24
def o44_24 : OL c44_24 := ⟨_, by conv => (lhs; whnf)⟩
def c44_25 := gF c44_21
def n44_25 := A44 c44_25
def c44_26 := gR c44_18
def n44_26 := A44 c44_26
def c44_27 := gL c44_26
def n44_27 := A44 c44_27
def o44_27 : OL c44_27 := ⟨_, by conv => (lhs; whnf)⟩
def c44_28 := gR c44_26
def n44_28 := A44 c44_28
theorem r_n44_1 : n44_1 s = behK 6 (stepsO X (annT 44) C (gO c44_1) o44_1.1 s) := q_region (annT 44) s 0 _ false rfl _ _ rfl rfl o44_1.2
theorem g_o44_1 : gdst (gO c44_1) j = (o44_1.1[j]?).bind Oper.dst := gd_eq o44_1.2 j
theorem r_n44_3 : n44_3 s = behK 14 (stepsO X (annT 44) C (gO c44_3) o44_3.1 s) := q_region (annT 44) s 1 _ false rfl _ _ rfl rfl o44_3.2
theorem g_o44_3 : gdst (gO c44_3) j = (o44_3.1[j]?).bind Oper.dst := gd_eq o44_3.2 j
theorem r_n44_6 : n44_6 s = behK 270 (stepsO X (annT 44) C (gO c44_6) o44_6.1 s) := q_region (annT 44) s 2 _ false rfl _ _ rfl rfl o44_6.2
theorem g_o44_6 : gdst (gO c44_6) j = (o44_6.1[j]?).bind Oper.dst := gd_eq o44_6.2 j
theorem r_n44_8 : n44_8 s = behK 14 (stepsO X (annT 44) C (gO c44_8) o44_8.1 s) := q_region (annT 44) s 3 _ false rfl _ _ rfl rfl o44_8.2
theorem g_o44_8 : gdst (gO c44_8) j = (o44_8.1[j]?).bind Oper.dst := gd_eq o44_8.2 j
theorem r_n44_9 : n44_9 s = some (.norm, s) := run_skip _ s
theorem r_n44_7 : n44_7 s = condK (opv s.t (.tmp 8)) n44_8 n44_9 s := q_cond _ c44_8 c44_9 s (.tmp 8)
theorem r_n44_5 : n44_5 s = contK n44_7 (n44_6 s) := q_seq _ c44_6 c44_7 s
theorem r_n44_12 : n44_12 s = behK 131086 (stepsO X (annT 44) C (gO c44_12) o44_12.1 s) := q_region (annT 44) s 4 _ false rfl _ _ rfl rfl o44_12.2
theorem g_o44_12 : gdst (gO c44_12) j = (o44_12.1[j]?).bind Oper.dst := gd_eq o44_12.2 j
theorem r_n44_14 : n44_14 s = behK 14 (stepsO X (annT 44) C (gO c44_14) o44_14.1 s) := q_region (annT 44) s 5 _ false rfl _ _ rfl rfl o44_14.2
theorem g_o44_14 : gdst (gO c44_14) j = (o44_14.1[j]?).bind Oper.dst := gd_eq o44_14.2 j
theorem r_n44_15 : n44_15 s = some (.norm, s) := run_skip _ s
theorem r_n44_13 : n44_13 s = condK (opv s.t (.tmp 17)) n44_14 n44_15 s := q_cond _ c44_14 c44_15 s (.tmp 17)
theorem r_n44_11 : n44_11 s = contK n44_13 (n44_12 s) := q_seq _ c44_12 c44_13 s
theorem r_n44_17 : n44_17 s = behK 14 (stepsO X (annT 44) C (gO c44_17) o44_17.1 s) := q_region (annT 44) s 6 _ false rfl _ _ rfl rfl o44_17.2
theorem g_o44_17 : gdst (gO c44_17) j = (o44_17.1[j]?).bind Oper.dst := gd_eq o44_17.2 j
theorem r_n44_20 : n44_20 s = behK 2147483660 (stepsO X (annT 44) C (gO c44_20) o44_20.1 s) := q_region (annT 44) s 7 _ false rfl _ _ rfl rfl o44_20.2
theorem g_o44_20 : gdst (gO c44_20) j = (o44_20.1[j]?).bind Oper.dst := gd_eq o44_20.2 j
theorem r_n44_23 : n44_23 s = behK 28 (stepsO X (annT 44) C (gO c44_23) o44_23.1 s) := q_region (annT 44) s 8 _ false rfl _ _ rfl rfl o44_23.2
theorem g_o44_23 : gdst (gO c44_23) j = (o44_23.1[j]?).bind Oper.dst := gd_eq o44_23.2 j
theorem r_n44_24 : n44_24 s = behK 12 (stepsO X (annT 44) C (gO c44_24) o44_24.1 s) := q_region (annT 44) s 9 _ false rfl _ _ rfl rfl o44_24.2
theorem g_o44_24 : gdst (gO c44_24) j = (o44_24.1[j]?).bind Oper.dst := gd_eq o44_24.2 j
theorem r_n44_22 : n44_22 s = contK n44_24 (n44_23 s) := q_seq _ c44_23 c44_24 s
theorem r_n44_25 : n44_25 s = some (.norm, s) := run_skip _ s
theorem r_n44_21 : n44_21 s = condK (opv s.t (.tmp 31)) n44_22 n44_25 s := q_cond _ c44_22 c44_25 s (.tmp 31)
theorem r_n44_19 : n44_19 s = contK n44_21 (n44_20 s) := q_seq _ c44_20 c44_21 s
theorem r_n44_27 : n44_27 s = behK 4 (stepsO X (annT 44) C (gO c44_27) o44_27.1 s) := q_region (annT 44) s 10 _ false rfl _ _ rfl rfl o44_27.2
theorem g_o44_27 : gdst (gO c44_27) j = (o44_27.1[j]?).bind Oper.dst := gd_eq o44_27.2 j
theorem r_n44_28 : n44_28 s = some (.ret, s) := run_ret _ s
theorem r_n44_26 : n44_26 s = contK n44_28 (n44_27 s) := q_seq _ c44_27 c44_28 s
theorem r_n44_18 : n44_18 s = contK n44_26 (n44_19 s) := q_seq _ c44_19 c44_26 s
theorem r_n44_16 : n44_16 s = contK n44_18 (n44_17 s) := q_seq _ c44_17 c44_18 s
theorem r_n44_10 : n44_10 s = contK n44_16 (n44_11 s) := q_seq _ c44_11 c44_16 s
theorem r_n44_4 : n44_4 s = contK n44_10 (n44_5 s) := q_seq _ c44_5 c44_10 s
theorem r_n44_2 : n44_2 s = contK n44_4 (n44_3 s) := q_seq _ c44_3 c44_4 s
theorem r_n44_0 : n44_0 s = contK n44_2 (n44_1 s) := q_seq _ c44_1 c44_2 s
theorem va_44 : (annT 44).virt = [] := rfl
theorem wa_44 : (annT 44).wr = [] := rfl
theorem ya_44 : (annT 44).ty = [] := rfl
theorem cv_44 (call : Eng.Call) (wr : Bool) (args : List AV) (st : Store) : callV X call wr 44 args st = cvP call wr 44 args st (fzAll (fz false st 6) args) := cv_pure rfl rfl call wr args st
theorem p44 (ds : List D) : pureCall C 44 ds = ((n44_0 ⟨argsT 0 (ds.map .d), []⟩).bind (bodyR [.cell 2 32])).bind prOf := P_eq Try.f44 rfl rfl rfl rfl ds
theorem q44 (vs : List AV) (st : Store) : C 44 vs st = (n44_0 ⟨argsT 0 vs, st⟩).bind (bodyR [.cell 2 32]) := C_eq Try.f44 rfl rfl rfl rfl vs st
attribute [go_sem] r_n44_1 g_o44_1 o44_1 r_n44_3 g_o44_3 o44_3 r_n44_6 g_o44_6 o44_6 r_n44_8 g_o44_8 o44_8 r_n44_9 r_n44_7 r_n44_5 r_n44_12 g_o44_12 o44_12 r_n44_14 g_o44_14 o44_14 r_n44_15 r_n44_13 r_n44_11 r_n44_17 g_o44_17 o44_17 r_n44_20 g_o44_20 o44_20 r_n44_23 g_o44_23 o44_23 r_n44_24 g_o44_24 o44_24 r_n44_22 r_n44_25 r_n44_21 r_n44_19 r_n44_27 g_o44_27 o44_27 r_n44_28 r_n44_26 r_n44_18 r_n44_16 r_n44_10 r_n44_4 r_n44_2 r_n44_0 va_44 wa_44 ya_44 cv_44
noncomputable def c23_0 : Code := Try.f23.body.getD .skip
noncomputable def A23 := run (annT 23)
def n23_0 := A23 c23_0
def c23_1 := gL c23_0
def n23_1 := A23 c23_1
def o23_1 : OL c23_1 := ⟨_, by conv => (lhs; whnf)⟩
def c23_2 := gR c23_0
def n23_2 := A23 c23_2
def c23_3 := gL c23_2
def n23_3 := A23 c23_3
def c23_4 := gL c23_3
def n23_4 := A23 c23_4
def o23_4 : OL c23_4 := ⟨_, by conv => (lhs; whnf)⟩
def c23_5 := gR c23_3
def n23_5 := A23 c23_5
def c23_6 := gB c23_5
def n23_6 := A23 c23_6
def c23_7 := gL c23_6
def n23_7 := A23 c23_7
def c23_8 := gL c23_7
def n23_8 := A23 c23_8
def o23_8 : OL c23_8 := ⟨_, by conv => (lhs; whnf)⟩
def c23_9 := gR c23_7
def n23_9 := A23 c23_9
def c23_10 := gT c23_9
def n23_10 := A23 c23_10
def c23_11 := gF c23_9
def n23_11 := A23 c23_11
def c23_12 := gL c23_11
def n23_12 := A23 c23_12
def o23_12 : OL c23_12 := ⟨_, by conv => (lhs; whnf)⟩
def c23_13 := gR c23_11
def n23_13 := A23 c23_13
def c23_14 := gT c23_13
def n23_14 := A23 c23_14
def c23_15 := gF c23_13
def n23_15 := A23 c23_15
def o23_15 : OL c23_15 := ⟨_, by conv => (lhs; whnf)⟩
def c23_16 := gR c23_6
def n23_16 := A23 c23_16
def c23_17 := gT c23_16
def n23_17 := A23 c23_17
def c23_18 := gL c23_17
def n23_18 := A23 c23_18
def o23_18 : OL c23_18 := ⟨_, by conv => (lhs; whnf)⟩
def c23_19 := gR c23_17
def n23_19 := A23 c23_19
def c23_20 := gL c23_19
def n23_20 := A23 c23_20
def c23_21 := gL c23_20
def n23_21 := A23 c23_21
def o23_21 : OL c23_21 := ⟨_, by conv => (lhs; whnf)⟩
def c23_22 := gR c23_20
def n23_22 := A23 c23_22
def c23_23 := gB c23_22
def n23_23 := A23 c23_23
def c23_24 := gB c23_23
def n23_24 := A23 c23_24
def c23_25 := gL c23_24
def n23_25 := A23 c23_25
def o23_25 : OL c23_25 := ⟨_, by conv => (lhs; whnf)⟩
def c23_26 := gR c23_24
def n23_26 := A23 c23_26
def c23_27 := gL c23_26
def n23_27 := A23 c23_27
def c23_28 := gT c23_27
def n23_28 := A23 c23_28
def c23_29 := gF c23_27
def n23_29 := A23 c23_29
def c23_30 := gR c23_26
def n23_30 := A23 c23_30
def c23_31 := gL c23_30
def n23_31 := A23 c23_31
def c23_32 := gB c23_31
def n23_32 := A23 c23_32
def c23_33 := gL c23_32
def n23_33 := A23 c23_33
def o23_33 : OL c23_33 := ⟨_, by conv => (lhs; whnf)⟩
def c23_34 := gR c23_32
def n23_34 := A23 c23_34
def o23_34 : OL c23_34 := ⟨_, by conv => (lhs; whnf)⟩
def c23_35 := gR c23_30
def n23_35 := A23 c23_35
def o23_35 : OL c23_35 := ⟨_, by conv => (lhs; whnf)⟩
def c23_36 := gR c23_19
def n23_36 := A23 c23_36
def c23_37 := gL c23_36
def n23_37 := A23 c23_37
def o23_37 : OL c23_37 := ⟨_, by conv => (lhs; whnf)⟩
def c23_38 := gR c23_36
def n23_38 := A23 c23_38
def c23_39 := gF c23_16
def n23_39 := A23 c23_39
def c23_40 := gL c23_39
def n23_40 := A23 c23_40
def o23_40 : OL c23_40 := ⟨_, by conv => (lhs; whnf)⟩
def c23_41 := gR c23_39
def n23_41 := A23 c23_41
def c23_42 := gT c23_41
def n23_42 := A23 c23_42
def c23_43 := gL c23_42
def n23_43 := A23 c23_43
def o23_43 : OL c23_43 := ⟨_, by conv => (lhs; whnf)⟩
def c23_44 := gR c23_42
def n23_44 := A23 c23_44
def c23_45 := gF c23_41
def n23_45 := A23 c23_45
def c23_46 := gL c23_45
def n23_46 := A23 c23_46
def o23_46 : OL c23_46 := ⟨_, by conv => (lhs; whnf)⟩
def c23_47 := gR c23_45
def n23_47 := A23 c23_47
def c23_48 := gT c23_47
def n23_48 := A23 c23_48
def c23_49 := gL c23_48
def n23_49 := A23 c23_49
def o23_49 : OL c23_49 := ⟨_, by conv => (lhs; whnf)⟩
def c23_50 := gR c23_48
def n23_50 := A23 c23_50
def c23_51 := gF c23_47
def n23_51 := A23 c23_51
def c23_52 := gL c23_51
def n23_52 := A23 c23_52
def o23_52 : OL c23_52 := ⟨_, by conv => (lhs; whnf)⟩
def c23_53 := gR c23_51
def n23_53 := A23 c23_53
def c23_54 := gT c23_53
def n23_54 := A23 c23_54
def c23_55 := gL c23_54
def n23_55 := A23 c23_55
def o23_55 : OL c23_55 := ⟨_, by conv => (lhs; whnf)⟩
def c23_56 := gR c23_54
def n23_56 := A23 c23_56
def c23_57 := gF c23_53
def n23_57 := A23 c23_57
def c23_58 := gR c23_2
def n23_58 := A23 c23_58
def c23_59 := gL c23_58
def n23_59 := A23 c23_59
def o23_59 : OL c23_59 := ⟨_, by conv => (lhs; whnf)⟩
def c23_60 := gR c23_58
def n23_60 := A23 c23_60
theorem r_n23_1 : n23_1 s = behK 6 (stepsO X (annT 23) C (gO c23_1) o23_1.1 s) := q_region (annT 23) s 0 _ false rfl _ _ rfl rfl o23_1.2
theorem g_o23_1 : gdst (gO c23_1) j = (o23_1.1[j]?).bind Oper.dst := gd_eq o23_1.2 j
theorem r_n23_4 : n23_4 s = behK 134 (stepsO X (annT 23) C (gO c23_4) o23_4.1 s) := q_region (annT 23) s 1 _ false rfl _ _ rfl rfl o23_4.2
theorem g_o23_4 : gdst (gO c23_4) j = (o23_4.1[j]?).bind Oper.dst := gd_eq o23_4.2 j
theorem r_n23_8 : n23_8 s = behK 390 (stepsO X (annT 23) C (gO c23_8) o23_8.1 s) := q_region (annT 23) s 2 _ false rfl _ _ rfl rfl o23_8.2
theorem g_o23_8 : gdst (gO c23_8) j = (o23_8.1[j]?).bind Oper.dst := gd_eq o23_8.2 j
theorem r_n23_10 : n23_10 s = some (.norm, s) := run_skip _ s
theorem r_n23_12 : n23_12 s = behK 390 (stepsO X (annT 23) C (gO c23_12) o23_12.1 s) := q_region (annT 23) s 3 _ false rfl _ _ rfl rfl o23_12.2
theorem g_o23_12 : gdst (gO c23_12) j = (o23_12.1[j]?).bind Oper.dst := gd_eq o23_12.2 j
theorem r_n23_14 : n23_14 s = some (.norm, s) := run_skip _ s
theorem r_n23_15 : n23_15 s = behK 390 (stepsO X (annT 23) C (gO c23_15) o23_15.1 s) := q_region (annT 23) s 4 _ false rfl _ _ rfl rfl o23_15.2
theorem g_o23_15 : gdst (gO c23_15) j = (o23_15.1[j]?).bind Oper.dst := gd_eq o23_15.2 j
theorem r_n23_13 : n23_13 s = condK (opv s.t (.tmp 8)) n23_14 n23_15 s := q_cond _ c23_14 c23_15 s (.tmp 8)
theorem r_n23_11 : n23_11 s = contK n23_13 (n23_12 s) := q_seq _ c23_12 c23_13 s
theorem r_n23_9 : n23_9 s = condK (opv s.t (.tmp 8)) n23_10 n23_11 s := q_cond _ c23_10 c23_11 s (.tmp 8)
theorem r_n23_7 : n23_7 s = contK n23_9 (n23_8 s) := q_seq _ c23_8 c23_9 s
theorem r_n23_18 : n23_18 s = behK 14 (stepsO X (annT 23) C (gO c23_18) o23_18.1 s) := q_region (annT 23) s 5 _ false rfl _ _ rfl rfl o23_18.2
theorem g_o23_18 : gdst (gO c23_18) j = (o23_18.1[j]?).bind Oper.dst := gd_eq o23_18.2 j
theorem r_n23_21 : n23_21 s = behK 57358 (stepsO X (annT 23) C (gO c23_21) o23_21.1 s) := q_region (annT 23) s 6 _ false rfl _ _ rfl rfl o23_21.2
theorem g_o23_21 : gdst (gO c23_21) j = (o23_21.1[j]?).bind Oper.dst := gd_eq o23_21.2 j
theorem r_n23_25 : n23_25 s = behK 122894 (stepsO X (annT 23) C (gO c23_25) o23_25.1 s) := q_region (annT 23) s 7 _ false rfl _ _ rfl rfl o23_25.2
theorem g_o23_25 : gdst (gO c23_25) j = (o23_25.1[j]?).bind Oper.dst := gd_eq o23_25.2 j
theorem r_n23_28 : n23_28 s = some (.norm, s) := run_skip _ s
theorem r_n23_29 : n23_29 s = some (.exit 1, s) := run_exit _ s 1
theorem r_n23_27 : n23_27 s = condK (opv s.t (.tmp 16)) n23_28 n23_29 s := q_cond _ c23_28 c23_29 s (.tmp 16)
theorem r_n23_33 : n23_33 s = behK 57390 (stepsO X (annT 23) C (gO c23_33) o23_33.1 s) := q_region (annT 23) s 8 _ false rfl _ _ rfl rfl o23_33.2
theorem g_o23_33 : gdst (gO c23_33) j = (o23_33.1[j]?).bind Oper.dst := gd_eq o23_33.2 j
theorem r_n23_34 : n23_34 s = behK 57358 (stepsO X (annT 23) C (gO c23_34) o23_34.1 s) := q_region (annT 23) s 9 _ false rfl _ _ rfl rfl o23_34.2
theorem g_o23_34 : gdst (gO c23_34) j = (o23_34.1[j]?).bind Oper.dst := gd_eq o23_34.2 j
theorem r_n23_32 : n23_32 s = contK n23_34 (n23_33 s) := q_seq _ c23_33 c23_34 s
theorem r_n23_31 : n23_31 s = blkK 2 (n23_32 s) := q_block _ c23_32 s 2
theorem r_n23_35 : n23_35 s = behK 57358 (stepsO X (annT 23) C (gO c23_35) o23_35.1 s) := q_region (annT 23) s 10 _ false rfl _ _ rfl rfl o23_35.2
theorem g_o23_35 : gdst (gO c23_35) j = (o23_35.1[j]?).bind Oper.dst := gd_eq o23_35.2 j
theorem r_n23_30 : n23_30 s = contK n23_35 (n23_31 s) := q_seq _ c23_31 c23_35 s
theorem r_n23_26 : n23_26 s = contK n23_30 (n23_27 s) := q_seq _ c23_27 c23_30 s
theorem r_n23_24 : n23_24 s = contK n23_26 (n23_25 s) := q_seq _ c23_25 c23_26 s
theorem r_n23_23 : n23_23 s = loopK 57358 s.st.length n23_23 (n23_24 s) := q_loop (annT 23) c23_24 s _ _ rfl rfl
theorem r_n23_22 : n23_22 s = blkK 1 (n23_23 s) := q_block _ c23_23 s 1
theorem r_n23_20 : n23_20 s = contK n23_22 (n23_21 s) := q_seq _ c23_21 c23_22 s
theorem r_n23_37 : n23_37 s = behK 4 (stepsO X (annT 23) C (gO c23_37) o23_37.1 s) := q_region (annT 23) s 11 _ false rfl _ _ rfl rfl o23_37.2
theorem g_o23_37 : gdst (gO c23_37) j = (o23_37.1[j]?).bind Oper.dst := gd_eq o23_37.2 j
theorem r_n23_38 : n23_38 s = some (.ret, s) := run_ret _ s
theorem r_n23_36 : n23_36 s = contK n23_38 (n23_37 s) := q_seq _ c23_37 c23_38 s
theorem r_n23_19 : n23_19 s = contK n23_36 (n23_20 s) := q_seq _ c23_20 c23_36 s
theorem r_n23_17 : n23_17 s = contK n23_19 (n23_18 s) := q_seq _ c23_18 c23_19 s
theorem r_n23_40 : n23_40 s = behK 536871046 (stepsO X (annT 23) C (gO c23_40) o23_40.1 s) := q_region (annT 23) s 12 _ false rfl _ _ rfl rfl o23_40.2
theorem g_o23_40 : gdst (gO c23_40) j = (o23_40.1[j]?).bind Oper.dst := gd_eq o23_40.2 j
theorem r_n23_43 : n23_43 s = behK 4 (stepsO X (annT 23) C (gO c23_43) o23_43.1 s) := q_region (annT 23) s 13 _ false rfl _ _ rfl rfl o23_43.2
theorem g_o23_43 : gdst (gO c23_43) j = (o23_43.1[j]?).bind Oper.dst := gd_eq o23_43.2 j
theorem r_n23_44 : n23_44 s = some (.ret, s) := run_ret _ s
theorem r_n23_42 : n23_42 s = contK n23_44 (n23_43 s) := q_seq _ c23_43 c23_44 s
theorem r_n23_46 : n23_46 s = behK 17179869318 (stepsO X (annT 23) C (gO c23_46) o23_46.1 s) := q_region (annT 23) s 14 _ false rfl _ _ rfl rfl o23_46.2
theorem g_o23_46 : gdst (gO c23_46) j = (o23_46.1[j]?).bind Oper.dst := gd_eq o23_46.2 j
theorem r_n23_49 : n23_49 s = behK 4 (stepsO X (annT 23) C (gO c23_49) o23_49.1 s) := q_region (annT 23) s 15 _ false rfl _ _ rfl rfl o23_49.2
theorem g_o23_49 : gdst (gO c23_49) j = (o23_49.1[j]?).bind Oper.dst := gd_eq o23_49.2 j
theorem r_n23_50 : n23_50 s = some (.ret, s) := run_ret _ s
theorem r_n23_48 : n23_48 s = contK n23_50 (n23_49 s) := q_seq _ c23_49 c23_50 s
theorem r_n23_52 : n23_52 s = behK 274877906950 (stepsO X (annT 23) C (gO c23_52) o23_52.1 s) := q_region (annT 23) s 16 _ false rfl _ _ rfl rfl o23_52.2
theorem g_o23_52 : gdst (gO c23_52) j = (o23_52.1[j]?).bind Oper.dst := gd_eq o23_52.2 j
theorem r_n23_55 : n23_55 s = behK 4 (stepsO X (annT 23) C (gO c23_55) o23_55.1 s) := q_region (annT 23) s 17 _ false rfl _ _ rfl rfl o23_55.2
theorem g_o23_55 : gdst (gO c23_55) j = (o23_55.1[j]?).bind Oper.dst := gd_eq o23_55.2 j
theorem r_n23_56 : n23_56 s = some (.ret, s) := run_ret _ s
theorem r_n23_54 : n23_54 s = contK n23_56 (n23_55 s) := q_seq _ c23_55 c23_56 s
theorem r_n23_57 : n23_57 s = some (.norm, s) := run_skip _ s
theorem r_n23_53 : n23_53 s = condK (opv s.t (.tmp 38)) n23_54 n23_57 s := q_cond _ c23_54 c23_57 s (.tmp 38)
theorem r_n23_51 : n23_51 s = contK n23_53 (n23_52 s) := q_seq _ c23_52 c23_53 s
theorem r_n23_47 : n23_47 s = condK (opv s.t (.tmp 34)) n23_48 n23_51 s := q_cond _ c23_48 c23_51 s (.tmp 34)
theorem r_n23_45 : n23_45 s = contK n23_47 (n23_46 s) := q_seq _ c23_46 c23_47 s
theorem r_n23_41 : n23_41 s = condK (opv s.t (.tmp 29)) n23_42 n23_45 s := q_cond _ c23_42 c23_45 s (.tmp 29)
theorem r_n23_39 : n23_39 s = contK n23_41 (n23_40 s) := q_seq _ c23_40 c23_41 s
theorem r_n23_16 : n23_16 s = condK (opv s.t (.tmp 8)) n23_17 n23_39 s := q_cond _ c23_17 c23_39 s (.tmp 8)
theorem r_n23_6 : n23_6 s = contK n23_16 (n23_7 s) := q_seq _ c23_7 c23_16 s
theorem r_n23_5 : n23_5 s = blkK 0 (n23_6 s) := q_block _ c23_6 s 0
theorem r_n23_3 : n23_3 s = contK n23_5 (n23_4 s) := q_seq _ c23_4 c23_5 s
theorem r_n23_59 : n23_59 s = behK 4 (stepsO X (annT 23) C (gO c23_59) o23_59.1 s) := q_region (annT 23) s 18 _ true rfl _ _ rfl rfl o23_59.2
theorem g_o23_59 : gdst (gO c23_59) j = (o23_59.1[j]?).bind Oper.dst := gd_eq o23_59.2 j
theorem r_n23_60 : n23_60 s = some (.ret, s) := run_ret _ s
theorem r_n23_58 : n23_58 s = contK n23_60 (n23_59 s) := q_seq _ c23_59 c23_60 s
theorem r_n23_2 : n23_2 s = contK n23_58 (n23_3 s) := q_seq _ c23_3 c23_58 s
theorem r_n23_0 : n23_0 s = contK n23_2 (n23_1 s) := q_seq _ c23_1 c23_2 s
theorem va_23 : (annT 23).virt = [] := rfl
theorem wa_23 : (annT 23).wr = [] := rfl
theorem ya_23 : (annT 23).ty = [] := rfl
theorem cv_23 (call : Eng.Call) (wr : Bool) (args : List AV) (st : Store) : callV X call wr 23 args st = cvP call wr 23 args st (fzAll (fz false st 6) args) := cv_pure rfl rfl call wr args st
theorem p23 (ds : List D) : pureCall C 23 ds = ((n23_0 ⟨argsT 0 (ds.map .d), []⟩).bind (bodyR [.cell 2 32])).bind prOf := P_eq Try.f23 rfl rfl rfl rfl ds
theorem q23 (vs : List AV) (st : Store) : C 23 vs st = (n23_0 ⟨argsT 0 vs, st⟩).bind (bodyR [.cell 2 32]) := C_eq Try.f23 rfl rfl rfl rfl vs st
attribute [go_sem] r_n23_1 g_o23_1 o23_1 r_n23_4 g_o23_4 o23_4 r_n23_8 g_o23_8 o23_8 r_n23_10 r_n23_12 g_o23_12 o23_12 r_n23_14 r_n23_15 g_o23_15 o23_15 r_n23_13 r_n23_11 r_n23_9 r_n23_7 r_n23_18 g_o23_18 o23_18 r_n23_21 g_o23_21 o23_21 r_n23_25 g_o23_25 o23_25 r_n23_28 r_n23_29 r_n23_27 r_n23_33 g_o23_33 o23_33 r_n23_34 g_o23_34 o23_34 r_n23_32 r_n23_31 r_n23_35 g_o23_35 o23_35 r_n23_30 r_n23_26 r_n23_24 r_n23_22 r_n23_20 r_n23_37 g_o23_37 o23_37 r_n23_38 r_n23_36 r_n23_19 r_n23_17 r_n23_40 g_o23_40 o23_40 r_n23_43 g_o23_43 o23_43 r_n23_44 r_n23_42 r_n23_46 g_o23_46 o23_46 r_n23_49 g_o23_49 o23_49 r_n23_50 r_n23_48 r_n23_52 g_o23_52 o23_52 r_n23_55 g_o23_55 o23_55 r_n23_56 r_n23_54 r_n23_57 r_n23_53 r_n23_51 r_n23_47 r_n23_45 r_n23_41 r_n23_39 r_n23_16 r_n23_6 r_n23_5 r_n23_3 r_n23_59 g_o23_59 o23_59 r_n23_60 r_n23_58 r_n23_2 r_n23_0 va_23 wa_23 ya_23 cv_23
noncomputable def c9_0 : Code := Try.f9.body.getD .skip
noncomputable def A9 := run (annT 9)
def n9_0 := A9 c9_0
def c9_1 := gL c9_0
def n9_1 := A9 c9_1
def o9_1 : OL c9_1 := ⟨_, by conv => (lhs; whnf)⟩
def c9_2 := gR c9_0
def n9_2 := A9 c9_2
def c9_3 := gL c9_2
def n9_3 := A9 c9_3
def c9_4 := gL c9_3
def n9_4 := A9 c9_4
def o9_4 : OL c9_4 := ⟨_, by conv => (lhs; whnf)⟩
def c9_5 := gR c9_3
def n9_5 := A9 c9_5
def c9_6 := gL c9_5
def n9_6 := A9 c9_6
def o9_6 : OL c9_6 := ⟨_, by conv => (lhs; whnf)⟩
def c9_7 := gR c9_5
def n9_7 := A9 c9_7
def c9_8 := gT c9_7
def n9_8 := A9 c9_8
def c9_9 := gL c9_8
def n9_9 := A9 c9_9
def o9_9 : OL c9_9 := ⟨_, by conv => (lhs; whnf)⟩
def c9_10 := gR c9_8
def n9_10 := A9 c9_10
def c9_11 := gF c9_7
def n9_11 := A9 c9_11
def c9_12 := gR c9_2
def n9_12 := A9 c9_12
def c9_13 := gL c9_12
def n9_13 := A9 c9_13
def o9_13 : OL c9_13 := ⟨_, by conv => (lhs; whnf)⟩
def c9_14 := gR c9_12
def n9_14 := A9 c9_14
theorem r_n9_1 : n9_1 s = behK 6 (stepsO X (annT 9) C (gO c9_1) o9_1.1 s) := q_region (annT 9) s 0 _ false rfl _ _ rfl rfl o9_1.2
theorem g_o9_1 : gdst (gO c9_1) j = (o9_1.1[j]?).bind Oper.dst := gd_eq o9_1.2 j
theorem r_n9_4 : n9_4 s = behK 22 (stepsO X (annT 9) C (gO c9_4) o9_4.1 s) := q_region (annT 9) s 1 _ false rfl _ _ rfl rfl o9_4.2
theorem g_o9_4 : gdst (gO c9_4) j = (o9_4.1[j]?).bind Oper.dst := gd_eq o9_4.2 j
theorem r_n9_6 : n9_6 s = behK 278 (stepsO X (annT 9) C (gO c9_6) o9_6.1 s) := q_region (annT 9) s 2 _ false rfl _ _ rfl rfl o9_6.2
theorem g_o9_6 : gdst (gO c9_6) j = (o9_6.1[j]?).bind Oper.dst := gd_eq o9_6.2 j
theorem r_n9_9 : n9_9 s = behK 12 (stepsO X (annT 9) C (gO c9_9) o9_9.1 s) := q_region (annT 9) s 3 _ false rfl _ _ rfl rfl o9_9.2
theorem g_o9_9 : gdst (gO c9_9) j = (o9_9.1[j]?).bind Oper.dst := gd_eq o9_9.2 j
theorem r_n9_10 : n9_10 s = some (.ret, s) := run_ret _ s
theorem r_n9_8 : n9_8 s = contK n9_10 (n9_9 s) := q_seq _ c9_9 c9_10 s
theorem r_n9_11 : n9_11 s = some (.norm, s) := run_skip _ s
theorem r_n9_7 : n9_7 s = condK (opv s.t (.tmp 8)) n9_8 n9_11 s := q_cond _ c9_8 c9_11 s (.tmp 8)
theorem r_n9_5 : n9_5 s = contK n9_7 (n9_6 s) := q_seq _ c9_6 c9_7 s
theorem r_n9_3 : n9_3 s = contK n9_5 (n9_4 s) := q_seq _ c9_4 c9_5 s
theorem r_n9_13 : n9_13 s = behK 12 (stepsO X (annT 9) C (gO c9_13) o9_13.1 s) := q_region (annT 9) s 4 _ false rfl _ _ rfl rfl o9_13.2
theorem g_o9_13 : gdst (gO c9_13) j = (o9_13.1[j]?).bind Oper.dst := gd_eq o9_13.2 j
theorem r_n9_14 : n9_14 s = some (.ret, s) := run_ret _ s
theorem r_n9_12 : n9_12 s = contK n9_14 (n9_13 s) := q_seq _ c9_13 c9_14 s
theorem r_n9_2 : n9_2 s = contK n9_12 (n9_3 s) := q_seq _ c9_3 c9_12 s
theorem r_n9_0 : n9_0 s = contK n9_2 (n9_1 s) := q_seq _ c9_1 c9_2 s
theorem va_9 : (annT 9).virt = [] := rfl
theorem wa_9 : (annT 9).wr = [] := rfl
theorem ya_9 : (annT 9).ty = [] := rfl
theorem cv_9 (call : Eng.Call) (wr : Bool) (args : List AV) (st : Store) : callV X call wr 9 args st = cvP call wr 9 args st (fzAll (fz false st 6) args) := cv_pure rfl rfl call wr args st
theorem p9 (ds : List D) : pureCall C 9 ds = ((n9_0 ⟨argsT 0 (ds.map .d), []⟩).bind (bodyR [.cell 2 32, .tmp 3])).bind prOf := P_eq Try.f9 rfl rfl rfl rfl ds
theorem q9 (vs : List AV) (st : Store) : C 9 vs st = (n9_0 ⟨argsT 0 vs, st⟩).bind (bodyR [.cell 2 32, .tmp 3]) := C_eq Try.f9 rfl rfl rfl rfl vs st
attribute [go_sem] r_n9_1 g_o9_1 o9_1 r_n9_4 g_o9_4 o9_4 r_n9_6 g_o9_6 o9_6 r_n9_9 g_o9_9 o9_9 r_n9_10 r_n9_8 r_n9_11 r_n9_7 r_n9_5 r_n9_3 r_n9_13 g_o9_13 o9_13 r_n9_14 r_n9_12 r_n9_2 r_n9_0 va_9 wa_9 ya_9 cv_9
noncomputable def c5_0 : Code := Try.f5.body.getD .skip
noncomputable def A5 := run (annT 5)
def n5_0 := A5 c5_0
def c5_1 := gL c5_0
def n5_1 := A5 c5_1
def o5_1 : OL c5_1 := ⟨_, by conv => (lhs; whnf)⟩
def c5_2 := gR c5_0
def n5_2 := A5 c5_2
def c5_3 := gL c5_2
def n5_3 := A5 c5_3
def c5_4 := gL c5_3
def n5_4 := A5 c5_4
def o5_4 : OL c5_4 := ⟨_, by conv => (lhs; whnf)⟩
def c5_5 := gR c5_3
def n5_5 := A5 c5_5
def c5_6 := gT c5_5
def n5_6 := A5 c5_6
def c5_7 := gL c5_6
def n5_7 := A5 c5_7
def o5_7 : OL c5_7 := ⟨_, by conv => (lhs; whnf)⟩
def c5_8 := gR c5_6
def n5_8 := A5 c5_8
def c5_9 := gF c5_5
def n5_9 := A5 c5_9
def c5_10 := gR c5_2
def n5_10 := A5 c5_10
def c5_11 := gL c5_10
def n5_11 := A5 c5_11
def o5_11 : OL c5_11 := ⟨_, by conv => (lhs; whnf)⟩
def c5_12 := gR c5_10
def n5_12 := A5 c5_12
def c5_13 := gL c5_12
def n5_13 := A5 c5_13
def c5_14 := gL c5_13
def n5_14 := A5 c5_14
def o5_14 : OL c5_14 := ⟨_, by conv => (lhs; whnf)⟩
def c5_15 := gR c5_13
def n5_15 := A5 c5_15
def c5_16 := gT c5_15
def n5_16 := A5 c5_16
def c5_17 := gL c5_16
def n5_17 := A5 c5_17
def o5_17 : OL c5_17 := ⟨_, by conv => (lhs; whnf)⟩
def c5_18 := gR c5_16
def n5_18 := A5 c5_18
def c5_19 := gF c5_15
def n5_19 := A5 c5_19
def c5_20 := gR c5_12
def n5_20 := A5 c5_20
def c5_21 := gL c5_20
def n5_21 := A5 c5_21
def o5_21 : OL c5_21 := ⟨_, by conv => (lhs; whnf)⟩
def c5_22 := gR c5_20
def n5_22 := A5 c5_22
def c5_23 := gL c5_22
def n5_23 := A5 c5_23
def o5_23 : OL c5_23 := ⟨_, by conv => (lhs; whnf)⟩
def c5_24 := gR c5_22
def n5_24 := A5 c5_24
def c5_25 := gL c5_24
def n5_25 := A5 c5_25
def o5_25 : OL c5_25 := ⟨_, by conv => (lhs; whnf)⟩
def c5_26 := gR c5_24
def n5_26 := A5 c5_26
theorem r_n5_1 : n5_1 s = behK 2 (stepsO X (annT 5) C (gO c5_1) o5_1.1 s) := q_region (annT 5) s 0 _ false rfl _ _ rfl rfl o5_1.2
theorem g_o5_1 : gdst (gO c5_1) j = (o5_1.1[j]?).bind Oper.dst := gd_eq o5_1.2 j
theorem r_n5_4 : n5_4 s = behK 2050 (stepsO X (annT 5) C (gO c5_4) o5_4.1 s) := q_region (annT 5) s 1 _ false rfl _ _ rfl rfl o5_4.2
theorem g_o5_4 : gdst (gO c5_4) j = (o5_4.1[j]?).bind Oper.dst := gd_eq o5_4.2 j
theorem r_n5_7 : n5_7 s = behK 4 (stepsO X (annT 5) C (gO c5_7) o5_7.1 s) := q_region (annT 5) s 2 _ false rfl _ _ rfl rfl o5_7.2
theorem g_o5_7 : gdst (gO c5_7) j = (o5_7.1[j]?).bind Oper.dst := gd_eq o5_7.2 j
theorem r_n5_8 : n5_8 s = some (.ret, s) := run_ret _ s
theorem r_n5_6 : n5_6 s = contK n5_8 (n5_7 s) := q_seq _ c5_7 c5_8 s
theorem r_n5_9 : n5_9 s = some (.norm, s) := run_skip _ s
theorem r_n5_5 : n5_5 s = condK (opv s.t (.tmp 11)) n5_6 n5_9 s := q_cond _ c5_6 c5_9 s (.tmp 11)
theorem r_n5_3 : n5_3 s = contK n5_5 (n5_4 s) := q_seq _ c5_4 c5_5 s
theorem r_n5_11 : n5_11 s = behK 24 (stepsO X (annT 5) C (gO c5_11) o5_11.1 s) := q_region (annT 5) s 3 _ false rfl _ _ rfl rfl o5_11.2
theorem g_o5_11 : gdst (gO c5_11) j = (o5_11.1[j]?).bind Oper.dst := gd_eq o5_11.2 j
theorem r_n5_14 : n5_14 s = behK 524312 (stepsO X (annT 5) C (gO c5_14) o5_14.1 s) := q_region (annT 5) s 4 _ false rfl _ _ rfl rfl o5_14.2
theorem g_o5_14 : gdst (gO c5_14) j = (o5_14.1[j]?).bind Oper.dst := gd_eq o5_14.2 j
theorem r_n5_17 : n5_17 s = behK 4 (stepsO X (annT 5) C (gO c5_17) o5_17.1 s) := q_region (annT 5) s 5 _ false rfl _ _ rfl rfl o5_17.2
theorem g_o5_17 : gdst (gO c5_17) j = (o5_17.1[j]?).bind Oper.dst := gd_eq o5_17.2 j
theorem r_n5_18 : n5_18 s = some (.ret, s) := run_ret _ s
theorem r_n5_16 : n5_16 s = contK n5_18 (n5_17 s) := q_seq _ c5_17 c5_18 s
theorem r_n5_19 : n5_19 s = some (.norm, s) := run_skip _ s
theorem r_n5_15 : n5_15 s = condK (opv s.t (.tmp 19)) n5_16 n5_19 s := q_cond _ c5_16 c5_19 s (.tmp 19)
theorem r_n5_13 : n5_13 s = contK n5_15 (n5_14 s) := q_seq _ c5_14 c5_15 s
theorem r_n5_21 : n5_21 s = behK 104 (stepsO X (annT 5) C (gO c5_21) o5_21.1 s) := q_region (annT 5) s 6 _ false rfl _ _ rfl rfl o5_21.2
theorem g_o5_21 : gdst (gO c5_21) j = (o5_21.1[j]?).bind Oper.dst := gd_eq o5_21.2 j
theorem r_n5_23 : n5_23 s = behK 456 (stepsO X (annT 5) C (gO c5_23) o5_23.1 s) := q_region (annT 5) s 7 _ false rfl _ _ rfl rfl o5_23.2
theorem g_o5_23 : gdst (gO c5_23) j = (o5_23.1[j]?).bind Oper.dst := gd_eq o5_23.2 j
theorem r_n5_25 : n5_25 s = behK 4 (stepsO X (annT 5) C (gO c5_25) o5_25.1 s) := q_region (annT 5) s 8 _ false rfl _ _ rfl rfl o5_25.2
theorem g_o5_25 : gdst (gO c5_25) j = (o5_25.1[j]?).bind Oper.dst := gd_eq o5_25.2 j
theorem r_n5_26 : n5_26 s = some (.ret, s) := run_ret _ s
theorem r_n5_24 : n5_24 s = contK n5_26 (n5_25 s) := q_seq _ c5_25 c5_26 s
theorem r_n5_22 : n5_22 s = contK n5_24 (n5_23 s) := q_seq _ c5_23 c5_24 s
theorem r_n5_20 : n5_20 s = contK n5_22 (n5_21 s) := q_seq _ c5_21 c5_22 s
theorem r_n5_12 : n5_12 s = contK n5_20 (n5_13 s) := q_seq _ c5_13 c5_20 s
theorem r_n5_10 : n5_10 s = contK n5_12 (n5_11 s) := q_seq _ c5_11 c5_12 s
theorem r_n5_2 : n5_2 s = contK n5_10 (n5_3 s) := q_seq _ c5_3 c5_10 s
theorem r_n5_0 : n5_0 s = contK n5_2 (n5_1 s) := q_seq _ c5_1 c5_2 s
theorem va_5 : (annT 5).virt = [] := rfl
theorem wa_5 : (annT 5).wr = [] := rfl
theorem ya_5 : (annT 5).ty = [] := rfl
theorem cv_5 (call : Eng.Call) (wr : Bool) (args : List AV) (st : Store) : callV X call wr 5 args st = cvP call wr 5 args st (fzAll (fz false st 6) args) := cv_pure rfl rfl call wr args st
theorem p5 (ds : List D) : pureCall C 5 ds = ((n5_0 ⟨argsT 0 (ds.map .d), []⟩).bind (bodyR [.tmp 2])).bind prOf := P_eq Try.f5 rfl rfl rfl rfl ds
theorem q5 (vs : List AV) (st : Store) : C 5 vs st = (n5_0 ⟨argsT 0 vs, st⟩).bind (bodyR [.tmp 2]) := C_eq Try.f5 rfl rfl rfl rfl vs st
attribute [go_sem] r_n5_1 g_o5_1 o5_1 r_n5_4 g_o5_4 o5_4 r_n5_7 g_o5_7 o5_7 r_n5_8 r_n5_6 r_n5_9 r_n5_5 r_n5_3 r_n5_11 g_o5_11 o5_11 r_n5_14 g_o5_14 o5_14 r_n5_17 g_o5_17 o5_17 r_n5_18 r_n5_16 r_n5_19 r_n5_15 r_n5_13 r_n5_21 g_o5_21 o5_21 r_n5_23 g_o5_23 o5_23 r_n5_25 g_o5_25 o5_25 r_n5_26 r_n5_24 r_n5_22 r_n5_20 r_n5_12 r_n5_10 r_n5_2 r_n5_0 va_5 wa_5 ya_5 cv_5
end
end Go.L25
