/- Layer 25: codes by their parts. Conditions: none. -/
import Derived.Test.YtjbaoopiffcigaaG2
set_option linter.unusedVariables false
namespace Go.L25
open Go Go.Eng Go.Proofs
set_option maxRecDepth 100000
attribute [cbv_opaque] annT

@[cbv_eval] theorem ann_70 : annT 70 = { keep := [(0, [1, 2]), (1, [1, 2, 5]), (2, [1, 2, 5, 6]), (3, [1, 2, 5, 6, 16]), (4, [1, 2, 5, 6]), (5, [1, 2, 5, 6, 7]), (6, [1, 2, 5, 6, 7, 29]), (7, [1, 2, 5, 6]), (8, [4])], loops := [(3, [1, 2, 5, 6])] } := rfl
noncomputable def c70_0 : Code := Try.f70.body.getD .skip
noncomputable def n70_0 (s : S) : Option (Ex × S) := run (annT 70) c70_0 s
noncomputable def c70_1 : Code := gL c70_0
noncomputable def n70_1 (s : S) : Option (Ex × S) := run (annT 70) c70_1 s
noncomputable def c70_2 : Code := gR c70_0
noncomputable def n70_2 (s : S) : Option (Ex × S) := run (annT 70) c70_2 s
noncomputable def c70_3 : Code := gL c70_2
noncomputable def n70_3 (s : S) : Option (Ex × S) := run (annT 70) c70_3 s
noncomputable def c70_4 : Code := gR c70_2
noncomputable def n70_4 (s : S) : Option (Ex × S) := run (annT 70) c70_4 s
noncomputable def c70_5 : Code := gL c70_4
noncomputable def n70_5 (s : S) : Option (Ex × S) := run (annT 70) c70_5 s
noncomputable def c70_6 : Code := gL c70_5
noncomputable def n70_6 (s : S) : Option (Ex × S) := run (annT 70) c70_6 s
noncomputable def c70_7 : Code := gR c70_5
noncomputable def n70_7 (s : S) : Option (Ex × S) := run (annT 70) c70_7 s
noncomputable def c70_8 : Code := gB c70_7
noncomputable def n70_8 (s : S) : Option (Ex × S) := run (annT 70) c70_8 s
noncomputable def c70_9 : Code := gB c70_8
noncomputable def n70_9 (s : S) : Option (Ex × S) := run (annT 70) c70_9 s
noncomputable def c70_10 : Code := gL c70_9
noncomputable def n70_10 (s : S) : Option (Ex × S) := run (annT 70) c70_10 s
noncomputable def c70_11 : Code := gL c70_10
noncomputable def n70_11 (s : S) : Option (Ex × S) := run (annT 70) c70_11 s
noncomputable def c70_12 : Code := gR c70_10
noncomputable def n70_12 (s : S) : Option (Ex × S) := run (annT 70) c70_12 s
noncomputable def c70_13 : Code := gT c70_12
noncomputable def n70_13 (s : S) : Option (Ex × S) := run (annT 70) c70_13 s
noncomputable def c70_14 : Code := gF c70_12
noncomputable def n70_14 (s : S) : Option (Ex × S) := run (annT 70) c70_14 s
noncomputable def c70_15 : Code := gR c70_9
noncomputable def n70_15 (s : S) : Option (Ex × S) := run (annT 70) c70_15 s
noncomputable def c70_16 : Code := gL c70_15
noncomputable def n70_16 (s : S) : Option (Ex × S) := run (annT 70) c70_16 s
noncomputable def c70_17 : Code := gB c70_16
noncomputable def n70_17 (s : S) : Option (Ex × S) := run (annT 70) c70_17 s
noncomputable def c70_18 : Code := gL c70_17
noncomputable def n70_18 (s : S) : Option (Ex × S) := run (annT 70) c70_18 s
noncomputable def c70_19 : Code := gR c70_17
noncomputable def n70_19 (s : S) : Option (Ex × S) := run (annT 70) c70_19 s
noncomputable def c70_20 : Code := gL c70_19
noncomputable def n70_20 (s : S) : Option (Ex × S) := run (annT 70) c70_20 s
noncomputable def c70_21 : Code := gR c70_19
noncomputable def n70_21 (s : S) : Option (Ex × S) := run (annT 70) c70_21 s
noncomputable def c70_22 : Code := gT c70_21
noncomputable def n70_22 (s : S) : Option (Ex × S) := run (annT 70) c70_22 s
noncomputable def c70_23 : Code := gF c70_21
noncomputable def n70_23 (s : S) : Option (Ex × S) := run (annT 70) c70_23 s
noncomputable def c70_24 : Code := gR c70_15
noncomputable def n70_24 (s : S) : Option (Ex × S) := run (annT 70) c70_24 s
noncomputable def c70_25 : Code := gR c70_4
noncomputable def n70_25 (s : S) : Option (Ex × S) := run (annT 70) c70_25 s
noncomputable def c70_26 : Code := gL c70_25
noncomputable def n70_26 (s : S) : Option (Ex × S) := run (annT 70) c70_26 s
noncomputable def c70_27 : Code := gR c70_25
noncomputable def n70_27 (s : S) : Option (Ex × S) := run (annT 70) c70_27 s
attribute [cbv_opaque] n70_0 n70_1 n70_2 n70_3 n70_4 n70_5 n70_6 n70_7 n70_8 n70_9 n70_10 n70_11 n70_12 n70_13 n70_14 n70_15 n70_16 n70_17 n70_18 n70_19 n70_20 n70_21 n70_22 n70_23 n70_24 n70_25 n70_26 n70_27
@[cbv_eval] theorem r_n70_1 (s : S) : n70_1 s = (stepsO X (annT 70) C (gO c70_1) (gO c70_1).toList s).map fun s' => (.norm, behindS (annT 70) 0 s') := run_region (annT 70) s 0 (gO c70_1) false rfl
@[cbv_eval] theorem r_n70_3 (s : S) : n70_3 s = (stepsO X (annT 70) C (gO c70_3) (gO c70_3).toList s).map fun s' => (.norm, behindS (annT 70) 1 s') := run_region (annT 70) s 1 (gO c70_3) false rfl
@[cbv_eval] theorem r_n70_6 (s : S) : n70_6 s = (stepsO X (annT 70) C (gO c70_6) (gO c70_6).toList s).map fun s' => (.norm, behindS (annT 70) 2 s') := run_region (annT 70) s 2 (gO c70_6) false rfl
@[cbv_eval] theorem r_n70_11 (s : S) : n70_11 s = (stepsO X (annT 70) C (gO c70_11) (gO c70_11).toList s).map fun s' => (.norm, behindS (annT 70) 3 s') := run_region (annT 70) s 3 (gO c70_11) false rfl
@[cbv_eval] theorem r_n70_13 (s : S) : n70_13 s = some (.norm, s) := run_skip (annT 70) s
@[cbv_eval] theorem r_n70_14 (s : S) : n70_14 s = some (.exit 0, s) := run_exit (annT 70) s 0
@[cbv_eval] theorem r_n70_12 (s : S) : n70_12 s = (asB (opv s.t (gC c70_12))).bind fun t => bif t then n70_13 s else n70_14 s := run_cond (annT 70) c70_13 c70_14 s (gC c70_12)
@[cbv_eval] theorem r_n70_10 (s : S) : n70_10 s = (n70_11 s).bind fun r => match r.1 with
    | .norm => n70_12 r.2
    | e => some (e, r.2) := run_seq (annT 70) c70_11 c70_12 s
@[cbv_eval] theorem r_n70_18 (s : S) : n70_18 s = (stepsO X (annT 70) C (gO c70_18) (gO c70_18).toList s).map fun s' => (.norm, behindS (annT 70) 5 s') := run_region (annT 70) s 5 (gO c70_18) false rfl
@[cbv_eval] theorem r_n70_20 (s : S) : n70_20 s = (stepsO X (annT 70) C (gO c70_20) (gO c70_20).toList s).map fun s' => (.norm, behindS (annT 70) 6 s') := run_region (annT 70) s 6 (gO c70_20) false rfl
@[cbv_eval] theorem r_n70_22 (s : S) : n70_22 s = (stepsO X (annT 70) C (gO c70_22) (gO c70_22).toList s).map fun s' => (.norm, behindS (annT 70) 7 s') := run_region (annT 70) s 7 (gO c70_22) false rfl
@[cbv_eval] theorem r_n70_23 (s : S) : n70_23 s = some (.norm, s) := run_skip (annT 70) s
@[cbv_eval] theorem r_n70_21 (s : S) : n70_21 s = (asB (opv s.t (gC c70_21))).bind fun t => bif t then n70_22 s else n70_23 s := run_cond (annT 70) c70_22 c70_23 s (gC c70_21)
@[cbv_eval] theorem r_n70_19 (s : S) : n70_19 s = (n70_20 s).bind fun r => match r.1 with
    | .norm => n70_21 r.2
    | e => some (e, r.2) := run_seq (annT 70) c70_20 c70_21 s
@[cbv_eval] theorem r_n70_17 (s : S) : n70_17 s = (n70_18 s).bind fun r => match r.1 with
    | .norm => n70_19 r.2
    | e => some (e, r.2) := run_seq (annT 70) c70_18 c70_19 s
@[cbv_eval] theorem r_n70_16 (s : S) : n70_16 s = (n70_17 s).map fun r => match r.1 with
    | .exit j => bif j == 1 then (.norm, r.2) else (.exit j, r.2)
    | e => (e, r.2) := run_block (annT 70) c70_17 s 1
@[cbv_eval] theorem r_n70_24 (s : S) : n70_24 s = (stepsO X (annT 70) C (gO c70_24) (gO c70_24).toList s).map fun s' => (.norm, behindS (annT 70) 4 s') := run_region (annT 70) s 4 (gO c70_24) false rfl
@[cbv_eval] theorem r_n70_15 (s : S) : n70_15 s = (n70_16 s).bind fun r => match r.1 with
    | .norm => n70_24 r.2
    | e => some (e, r.2) := run_seq (annT 70) c70_16 c70_24 s
@[cbv_eval] theorem r_n70_9 (s : S) : n70_9 s = (n70_10 s).bind fun r => match r.1 with
    | .norm => n70_15 r.2
    | e => some (e, r.2) := run_seq (annT 70) c70_10 c70_15 s
theorem r_n70_8 (s : S) : n70_8 s = (n70_9 s).bind fun r => match r.1 with
    | .norm => n70_8 (headS (annT 70) c70_9 s.st.length r.2)
    | e => some (e, r.2) := run_loop (annT 70) c70_9 s
@[cbv_eval] theorem r_n70_7 (s : S) : n70_7 s = (n70_8 s).map fun r => match r.1 with
    | .exit j => bif j == 0 then (.norm, r.2) else (.exit j, r.2)
    | e => (e, r.2) := run_block (annT 70) c70_8 s 0
@[cbv_eval] theorem r_n70_5 (s : S) : n70_5 s = (n70_6 s).bind fun r => match r.1 with
    | .norm => n70_7 r.2
    | e => some (e, r.2) := run_seq (annT 70) c70_6 c70_7 s
@[cbv_eval] theorem r_n70_26 (s : S) : n70_26 s = (stepsO X (annT 70) C (gO c70_26) (gO c70_26).toList s).map fun s' => (.norm, behindS (annT 70) 8 s') := run_region (annT 70) s 8 (gO c70_26) false rfl
@[cbv_eval] theorem r_n70_27 (s : S) : n70_27 s = some (.ret, s) := run_ret (annT 70) s
@[cbv_eval] theorem r_n70_25 (s : S) : n70_25 s = (n70_26 s).bind fun r => match r.1 with
    | .norm => n70_27 r.2
    | e => some (e, r.2) := run_seq (annT 70) c70_26 c70_27 s
@[cbv_eval] theorem r_n70_4 (s : S) : n70_4 s = (n70_5 s).bind fun r => match r.1 with
    | .norm => n70_25 r.2
    | e => some (e, r.2) := run_seq (annT 70) c70_5 c70_25 s
@[cbv_eval] theorem r_n70_2 (s : S) : n70_2 s = (n70_3 s).bind fun r => match r.1 with
    | .norm => n70_4 r.2
    | e => some (e, r.2) := run_seq (annT 70) c70_3 c70_4 s
@[cbv_eval] theorem r_n70_0 (s : S) : n70_0 s = (n70_1 s).bind fun r => match r.1 with
    | .norm => n70_2 r.2
    | e => some (e, r.2) := run_seq (annT 70) c70_1 c70_2 s
theorem p70 (ds : List D) : pureCall C 70 ds = ((n70_0 ⟨argsT 0 (ds.map .d), []⟩).bind (bodyR [.tmp 4])).bind prOf := P_eq Try.f70 rfl rfl rfl rfl ds
theorem q70 (vs : List AV) (st : Store) : C 70 vs st = (n70_0 ⟨argsT 0 vs, st⟩).bind (bodyR [.tmp 4]) := C_eq Try.f70 rfl rfl rfl rfl vs st

@[cbv_eval] theorem ann_45 : annT 45 = { keep := [(0, [1]), (1, [2])], loops := [] } := rfl
noncomputable def c45_0 : Code := Try.f45.body.getD .skip
noncomputable def n45_0 (s : S) : Option (Ex × S) := run (annT 45) c45_0 s
noncomputable def c45_1 : Code := gL c45_0
noncomputable def n45_1 (s : S) : Option (Ex × S) := run (annT 45) c45_1 s
noncomputable def c45_2 : Code := gR c45_0
noncomputable def n45_2 (s : S) : Option (Ex × S) := run (annT 45) c45_2 s
noncomputable def c45_3 : Code := gL c45_2
noncomputable def n45_3 (s : S) : Option (Ex × S) := run (annT 45) c45_3 s
noncomputable def c45_4 : Code := gR c45_2
noncomputable def n45_4 (s : S) : Option (Ex × S) := run (annT 45) c45_4 s
attribute [cbv_opaque] n45_0 n45_1 n45_2 n45_3 n45_4
@[cbv_eval] theorem r_n45_1 (s : S) : n45_1 s = (stepsO X (annT 45) C (gO c45_1) (gO c45_1).toList s).map fun s' => (.norm, behindS (annT 45) 0 s') := run_region (annT 45) s 0 (gO c45_1) false rfl
@[cbv_eval] theorem r_n45_3 (s : S) : n45_3 s = (stepsO X (annT 45) C (gO c45_3) (gO c45_3).toList s).map fun s' => (.norm, behindS (annT 45) 1 s') := run_region (annT 45) s 1 (gO c45_3) false rfl
@[cbv_eval] theorem r_n45_4 (s : S) : n45_4 s = some (.ret, s) := run_ret (annT 45) s
@[cbv_eval] theorem r_n45_2 (s : S) : n45_2 s = (n45_3 s).bind fun r => match r.1 with
    | .norm => n45_4 r.2
    | e => some (e, r.2) := run_seq (annT 45) c45_3 c45_4 s
@[cbv_eval] theorem r_n45_0 (s : S) : n45_0 s = (n45_1 s).bind fun r => match r.1 with
    | .norm => n45_2 r.2
    | e => some (e, r.2) := run_seq (annT 45) c45_1 c45_2 s
theorem p45 (ds : List D) : pureCall C 45 ds = ((n45_0 ⟨argsT 0 (ds.map .d), []⟩).bind (bodyR [.tmp 2])).bind prOf := P_eq Try.f45 rfl rfl rfl rfl ds
theorem q45 (vs : List AV) (st : Store) : C 45 vs st = (n45_0 ⟨argsT 0 vs, st⟩).bind (bodyR [.tmp 2]) := C_eq Try.f45 rfl rfl rfl rfl vs st

@[cbv_eval] theorem ann_71 : annT 71 = { keep := [(0, [1]), (1, [1, 3]), (2, [1, 3, 4]), (3, [1, 3, 4, 13]), (4, [1, 3, 4]), (5, [1, 3, 4]), (6, [3, 25]), (7, [2]), (8, [2])], loops := [(3, [1, 3, 4])] } := rfl
noncomputable def c71_0 : Code := Try.f71.body.getD .skip
noncomputable def n71_0 (s : S) : Option (Ex × S) := run (annT 71) c71_0 s
noncomputable def c71_1 : Code := gL c71_0
noncomputable def n71_1 (s : S) : Option (Ex × S) := run (annT 71) c71_1 s
noncomputable def c71_2 : Code := gR c71_0
noncomputable def n71_2 (s : S) : Option (Ex × S) := run (annT 71) c71_2 s
noncomputable def c71_3 : Code := gL c71_2
noncomputable def n71_3 (s : S) : Option (Ex × S) := run (annT 71) c71_3 s
noncomputable def c71_4 : Code := gR c71_2
noncomputable def n71_4 (s : S) : Option (Ex × S) := run (annT 71) c71_4 s
noncomputable def c71_5 : Code := gL c71_4
noncomputable def n71_5 (s : S) : Option (Ex × S) := run (annT 71) c71_5 s
noncomputable def c71_6 : Code := gL c71_5
noncomputable def n71_6 (s : S) : Option (Ex × S) := run (annT 71) c71_6 s
noncomputable def c71_7 : Code := gR c71_5
noncomputable def n71_7 (s : S) : Option (Ex × S) := run (annT 71) c71_7 s
noncomputable def c71_8 : Code := gB c71_7
noncomputable def n71_8 (s : S) : Option (Ex × S) := run (annT 71) c71_8 s
noncomputable def c71_9 : Code := gB c71_8
noncomputable def n71_9 (s : S) : Option (Ex × S) := run (annT 71) c71_9 s
noncomputable def c71_10 : Code := gL c71_9
noncomputable def n71_10 (s : S) : Option (Ex × S) := run (annT 71) c71_10 s
noncomputable def c71_11 : Code := gL c71_10
noncomputable def n71_11 (s : S) : Option (Ex × S) := run (annT 71) c71_11 s
noncomputable def c71_12 : Code := gR c71_10
noncomputable def n71_12 (s : S) : Option (Ex × S) := run (annT 71) c71_12 s
noncomputable def c71_13 : Code := gT c71_12
noncomputable def n71_13 (s : S) : Option (Ex × S) := run (annT 71) c71_13 s
noncomputable def c71_14 : Code := gF c71_12
noncomputable def n71_14 (s : S) : Option (Ex × S) := run (annT 71) c71_14 s
noncomputable def c71_15 : Code := gR c71_9
noncomputable def n71_15 (s : S) : Option (Ex × S) := run (annT 71) c71_15 s
noncomputable def c71_16 : Code := gL c71_15
noncomputable def n71_16 (s : S) : Option (Ex × S) := run (annT 71) c71_16 s
noncomputable def c71_17 : Code := gB c71_16
noncomputable def n71_17 (s : S) : Option (Ex × S) := run (annT 71) c71_17 s
noncomputable def c71_18 : Code := gR c71_15
noncomputable def n71_18 (s : S) : Option (Ex × S) := run (annT 71) c71_18 s
noncomputable def c71_19 : Code := gR c71_4
noncomputable def n71_19 (s : S) : Option (Ex × S) := run (annT 71) c71_19 s
noncomputable def c71_20 : Code := gL c71_19
noncomputable def n71_20 (s : S) : Option (Ex × S) := run (annT 71) c71_20 s
noncomputable def c71_21 : Code := gL c71_20
noncomputable def n71_21 (s : S) : Option (Ex × S) := run (annT 71) c71_21 s
noncomputable def c71_22 : Code := gR c71_20
noncomputable def n71_22 (s : S) : Option (Ex × S) := run (annT 71) c71_22 s
noncomputable def c71_23 : Code := gT c71_22
noncomputable def n71_23 (s : S) : Option (Ex × S) := run (annT 71) c71_23 s
noncomputable def c71_24 : Code := gL c71_23
noncomputable def n71_24 (s : S) : Option (Ex × S) := run (annT 71) c71_24 s
noncomputable def c71_25 : Code := gR c71_23
noncomputable def n71_25 (s : S) : Option (Ex × S) := run (annT 71) c71_25 s
noncomputable def c71_26 : Code := gF c71_22
noncomputable def n71_26 (s : S) : Option (Ex × S) := run (annT 71) c71_26 s
noncomputable def c71_27 : Code := gR c71_19
noncomputable def n71_27 (s : S) : Option (Ex × S) := run (annT 71) c71_27 s
noncomputable def c71_28 : Code := gL c71_27
noncomputable def n71_28 (s : S) : Option (Ex × S) := run (annT 71) c71_28 s
noncomputable def c71_29 : Code := gR c71_27
noncomputable def n71_29 (s : S) : Option (Ex × S) := run (annT 71) c71_29 s
attribute [cbv_opaque] n71_0 n71_1 n71_2 n71_3 n71_4 n71_5 n71_6 n71_7 n71_8 n71_9 n71_10 n71_11 n71_12 n71_13 n71_14 n71_15 n71_16 n71_17 n71_18 n71_19 n71_20 n71_21 n71_22 n71_23 n71_24 n71_25 n71_26 n71_27 n71_28 n71_29
@[cbv_eval] theorem r_n71_1 (s : S) : n71_1 s = (stepsO X (annT 71) C (gO c71_1) (gO c71_1).toList s).map fun s' => (.norm, behindS (annT 71) 0 s') := run_region (annT 71) s 0 (gO c71_1) false rfl
@[cbv_eval] theorem r_n71_3 (s : S) : n71_3 s = (stepsO X (annT 71) C (gO c71_3) (gO c71_3).toList s).map fun s' => (.norm, behindS (annT 71) 1 s') := run_region (annT 71) s 1 (gO c71_3) false rfl
@[cbv_eval] theorem r_n71_6 (s : S) : n71_6 s = (stepsO X (annT 71) C (gO c71_6) (gO c71_6).toList s).map fun s' => (.norm, behindS (annT 71) 2 s') := run_region (annT 71) s 2 (gO c71_6) false rfl
@[cbv_eval] theorem r_n71_11 (s : S) : n71_11 s = (stepsO X (annT 71) C (gO c71_11) (gO c71_11).toList s).map fun s' => (.norm, behindS (annT 71) 3 s') := run_region (annT 71) s 3 (gO c71_11) false rfl
@[cbv_eval] theorem r_n71_13 (s : S) : n71_13 s = some (.norm, s) := run_skip (annT 71) s
@[cbv_eval] theorem r_n71_14 (s : S) : n71_14 s = some (.exit 0, s) := run_exit (annT 71) s 0
@[cbv_eval] theorem r_n71_12 (s : S) : n71_12 s = (asB (opv s.t (gC c71_12))).bind fun t => bif t then n71_13 s else n71_14 s := run_cond (annT 71) c71_13 c71_14 s (gC c71_12)
@[cbv_eval] theorem r_n71_10 (s : S) : n71_10 s = (n71_11 s).bind fun r => match r.1 with
    | .norm => n71_12 r.2
    | e => some (e, r.2) := run_seq (annT 71) c71_11 c71_12 s
@[cbv_eval] theorem r_n71_17 (s : S) : n71_17 s = (stepsO X (annT 71) C (gO c71_17) (gO c71_17).toList s).map fun s' => (.norm, behindS (annT 71) 5 s') := run_region (annT 71) s 5 (gO c71_17) false rfl
@[cbv_eval] theorem r_n71_16 (s : S) : n71_16 s = (n71_17 s).map fun r => match r.1 with
    | .exit j => bif j == 1 then (.norm, r.2) else (.exit j, r.2)
    | e => (e, r.2) := run_block (annT 71) c71_17 s 1
@[cbv_eval] theorem r_n71_18 (s : S) : n71_18 s = (stepsO X (annT 71) C (gO c71_18) (gO c71_18).toList s).map fun s' => (.norm, behindS (annT 71) 4 s') := run_region (annT 71) s 4 (gO c71_18) false rfl
@[cbv_eval] theorem r_n71_15 (s : S) : n71_15 s = (n71_16 s).bind fun r => match r.1 with
    | .norm => n71_18 r.2
    | e => some (e, r.2) := run_seq (annT 71) c71_16 c71_18 s
@[cbv_eval] theorem r_n71_9 (s : S) : n71_9 s = (n71_10 s).bind fun r => match r.1 with
    | .norm => n71_15 r.2
    | e => some (e, r.2) := run_seq (annT 71) c71_10 c71_15 s
theorem r_n71_8 (s : S) : n71_8 s = (n71_9 s).bind fun r => match r.1 with
    | .norm => n71_8 (headS (annT 71) c71_9 s.st.length r.2)
    | e => some (e, r.2) := run_loop (annT 71) c71_9 s
@[cbv_eval] theorem r_n71_7 (s : S) : n71_7 s = (n71_8 s).map fun r => match r.1 with
    | .exit j => bif j == 0 then (.norm, r.2) else (.exit j, r.2)
    | e => (e, r.2) := run_block (annT 71) c71_8 s 0
@[cbv_eval] theorem r_n71_5 (s : S) : n71_5 s = (n71_6 s).bind fun r => match r.1 with
    | .norm => n71_7 r.2
    | e => some (e, r.2) := run_seq (annT 71) c71_6 c71_7 s
@[cbv_eval] theorem r_n71_21 (s : S) : n71_21 s = (stepsO X (annT 71) C (gO c71_21) (gO c71_21).toList s).map fun s' => (.norm, behindS (annT 71) 6 s') := run_region (annT 71) s 6 (gO c71_21) false rfl
@[cbv_eval] theorem r_n71_24 (s : S) : n71_24 s = (stepsO X (annT 71) C (gO c71_24) (gO c71_24).toList s).map fun s' => (.norm, behindS (annT 71) 7 s') := run_region (annT 71) s 7 (gO c71_24) false rfl
@[cbv_eval] theorem r_n71_25 (s : S) : n71_25 s = some (.ret, s) := run_ret (annT 71) s
@[cbv_eval] theorem r_n71_23 (s : S) : n71_23 s = (n71_24 s).bind fun r => match r.1 with
    | .norm => n71_25 r.2
    | e => some (e, r.2) := run_seq (annT 71) c71_24 c71_25 s
@[cbv_eval] theorem r_n71_26 (s : S) : n71_26 s = some (.norm, s) := run_skip (annT 71) s
@[cbv_eval] theorem r_n71_22 (s : S) : n71_22 s = (asB (opv s.t (gC c71_22))).bind fun t => bif t then n71_23 s else n71_26 s := run_cond (annT 71) c71_23 c71_26 s (gC c71_22)
@[cbv_eval] theorem r_n71_20 (s : S) : n71_20 s = (n71_21 s).bind fun r => match r.1 with
    | .norm => n71_22 r.2
    | e => some (e, r.2) := run_seq (annT 71) c71_21 c71_22 s
@[cbv_eval] theorem r_n71_28 (s : S) : n71_28 s = (stepsO X (annT 71) C (gO c71_28) (gO c71_28).toList s).map fun s' => (.norm, behindS (annT 71) 8 s') := run_region (annT 71) s 8 (gO c71_28) false rfl
@[cbv_eval] theorem r_n71_29 (s : S) : n71_29 s = some (.ret, s) := run_ret (annT 71) s
@[cbv_eval] theorem r_n71_27 (s : S) : n71_27 s = (n71_28 s).bind fun r => match r.1 with
    | .norm => n71_29 r.2
    | e => some (e, r.2) := run_seq (annT 71) c71_28 c71_29 s
@[cbv_eval] theorem r_n71_19 (s : S) : n71_19 s = (n71_20 s).bind fun r => match r.1 with
    | .norm => n71_27 r.2
    | e => some (e, r.2) := run_seq (annT 71) c71_20 c71_27 s
@[cbv_eval] theorem r_n71_4 (s : S) : n71_4 s = (n71_5 s).bind fun r => match r.1 with
    | .norm => n71_19 r.2
    | e => some (e, r.2) := run_seq (annT 71) c71_5 c71_19 s
@[cbv_eval] theorem r_n71_2 (s : S) : n71_2 s = (n71_3 s).bind fun r => match r.1 with
    | .norm => n71_4 r.2
    | e => some (e, r.2) := run_seq (annT 71) c71_3 c71_4 s
@[cbv_eval] theorem r_n71_0 (s : S) : n71_0 s = (n71_1 s).bind fun r => match r.1 with
    | .norm => n71_2 r.2
    | e => some (e, r.2) := run_seq (annT 71) c71_1 c71_2 s
theorem p71 (ds : List D) : pureCall C 71 ds = ((n71_0 ⟨argsT 0 (ds.map .d), []⟩).bind (bodyR [.tmp 2])).bind prOf := P_eq Try.f71 rfl rfl rfl rfl ds
theorem q71 (vs : List AV) (st : Store) : C 71 vs st = (n71_0 ⟨argsT 0 vs, st⟩).bind (bodyR [.tmp 2]) := C_eq Try.f71 rfl rfl rfl rfl vs st

@[cbv_eval] theorem ann_46 : annT 46 = { keep := [(0, [1]), (1, [1, 5]), (2, [2]), (3, [2])], loops := [] } := rfl
noncomputable def c46_0 : Code := Try.f46.body.getD .skip
noncomputable def n46_0 (s : S) : Option (Ex × S) := run (annT 46) c46_0 s
noncomputable def c46_1 : Code := gL c46_0
noncomputable def n46_1 (s : S) : Option (Ex × S) := run (annT 46) c46_1 s
noncomputable def c46_2 : Code := gR c46_0
noncomputable def n46_2 (s : S) : Option (Ex × S) := run (annT 46) c46_2 s
noncomputable def c46_3 : Code := gL c46_2
noncomputable def n46_3 (s : S) : Option (Ex × S) := run (annT 46) c46_3 s
noncomputable def c46_4 : Code := gL c46_3
noncomputable def n46_4 (s : S) : Option (Ex × S) := run (annT 46) c46_4 s
noncomputable def c46_5 : Code := gR c46_3
noncomputable def n46_5 (s : S) : Option (Ex × S) := run (annT 46) c46_5 s
noncomputable def c46_6 : Code := gT c46_5
noncomputable def n46_6 (s : S) : Option (Ex × S) := run (annT 46) c46_6 s
noncomputable def c46_7 : Code := gL c46_6
noncomputable def n46_7 (s : S) : Option (Ex × S) := run (annT 46) c46_7 s
noncomputable def c46_8 : Code := gR c46_6
noncomputable def n46_8 (s : S) : Option (Ex × S) := run (annT 46) c46_8 s
noncomputable def c46_9 : Code := gF c46_5
noncomputable def n46_9 (s : S) : Option (Ex × S) := run (annT 46) c46_9 s
noncomputable def c46_10 : Code := gR c46_2
noncomputable def n46_10 (s : S) : Option (Ex × S) := run (annT 46) c46_10 s
noncomputable def c46_11 : Code := gL c46_10
noncomputable def n46_11 (s : S) : Option (Ex × S) := run (annT 46) c46_11 s
noncomputable def c46_12 : Code := gR c46_10
noncomputable def n46_12 (s : S) : Option (Ex × S) := run (annT 46) c46_12 s
attribute [cbv_opaque] n46_0 n46_1 n46_2 n46_3 n46_4 n46_5 n46_6 n46_7 n46_8 n46_9 n46_10 n46_11 n46_12
@[cbv_eval] theorem r_n46_1 (s : S) : n46_1 s = (stepsO X (annT 46) C (gO c46_1) (gO c46_1).toList s).map fun s' => (.norm, behindS (annT 46) 0 s') := run_region (annT 46) s 0 (gO c46_1) false rfl
@[cbv_eval] theorem r_n46_4 (s : S) : n46_4 s = (stepsO X (annT 46) C (gO c46_4) (gO c46_4).toList s).map fun s' => (.norm, behindS (annT 46) 1 s') := run_region (annT 46) s 1 (gO c46_4) false rfl
@[cbv_eval] theorem r_n46_7 (s : S) : n46_7 s = (stepsO X (annT 46) C (gO c46_7) (gO c46_7).toList s).map fun s' => (.norm, behindS (annT 46) 2 s') := run_region (annT 46) s 2 (gO c46_7) false rfl
@[cbv_eval] theorem r_n46_8 (s : S) : n46_8 s = some (.ret, s) := run_ret (annT 46) s
@[cbv_eval] theorem r_n46_6 (s : S) : n46_6 s = (n46_7 s).bind fun r => match r.1 with
    | .norm => n46_8 r.2
    | e => some (e, r.2) := run_seq (annT 46) c46_7 c46_8 s
@[cbv_eval] theorem r_n46_9 (s : S) : n46_9 s = some (.norm, s) := run_skip (annT 46) s
@[cbv_eval] theorem r_n46_5 (s : S) : n46_5 s = (asB (opv s.t (gC c46_5))).bind fun t => bif t then n46_6 s else n46_9 s := run_cond (annT 46) c46_6 c46_9 s (gC c46_5)
@[cbv_eval] theorem r_n46_3 (s : S) : n46_3 s = (n46_4 s).bind fun r => match r.1 with
    | .norm => n46_5 r.2
    | e => some (e, r.2) := run_seq (annT 46) c46_4 c46_5 s
@[cbv_eval] theorem r_n46_11 (s : S) : n46_11 s = (stepsO X (annT 46) C (gO c46_11) (gO c46_11).toList s).map fun s' => (.norm, behindS (annT 46) 3 s') := run_region (annT 46) s 3 (gO c46_11) false rfl
@[cbv_eval] theorem r_n46_12 (s : S) : n46_12 s = some (.ret, s) := run_ret (annT 46) s
@[cbv_eval] theorem r_n46_10 (s : S) : n46_10 s = (n46_11 s).bind fun r => match r.1 with
    | .norm => n46_12 r.2
    | e => some (e, r.2) := run_seq (annT 46) c46_11 c46_12 s
@[cbv_eval] theorem r_n46_2 (s : S) : n46_2 s = (n46_3 s).bind fun r => match r.1 with
    | .norm => n46_10 r.2
    | e => some (e, r.2) := run_seq (annT 46) c46_3 c46_10 s
@[cbv_eval] theorem r_n46_0 (s : S) : n46_0 s = (n46_1 s).bind fun r => match r.1 with
    | .norm => n46_2 r.2
    | e => some (e, r.2) := run_seq (annT 46) c46_1 c46_2 s
theorem p46 (ds : List D) : pureCall C 46 ds = ((n46_0 ⟨argsT 0 (ds.map .d), []⟩).bind (bodyR [.tmp 2])).bind prOf := P_eq Try.f46 rfl rfl rfl rfl ds
theorem q46 (vs : List AV) (st : Store) : C 46 vs st = (n46_0 ⟨argsT 0 vs, st⟩).bind (bodyR [.tmp 2]) := C_eq Try.f46 rfl rfl rfl rfl vs st

@[cbv_eval] theorem ann_33 : annT 33 = { keep := [(0, [2, 3]), (1, [2, 3, 40]), (2, [4]), (3, [2, 3, 5]), (4, [2, 3, 5, 45]), (5, [2, 3, 5]), (6, [2, 3, 5, 58]), (7, [4]), (8, [4])], loops := [(4, [2, 3, 5])] } := rfl
noncomputable def c33_0 : Code := Try.f33.body.getD .skip
noncomputable def n33_0 (s : S) : Option (Ex × S) := run (annT 33) c33_0 s
noncomputable def c33_1 : Code := gL c33_0
noncomputable def n33_1 (s : S) : Option (Ex × S) := run (annT 33) c33_1 s
noncomputable def c33_2 : Code := gR c33_0
noncomputable def n33_2 (s : S) : Option (Ex × S) := run (annT 33) c33_2 s
noncomputable def c33_3 : Code := gL c33_2
noncomputable def n33_3 (s : S) : Option (Ex × S) := run (annT 33) c33_3 s
noncomputable def c33_4 : Code := gL c33_3
noncomputable def n33_4 (s : S) : Option (Ex × S) := run (annT 33) c33_4 s
noncomputable def c33_5 : Code := gR c33_3
noncomputable def n33_5 (s : S) : Option (Ex × S) := run (annT 33) c33_5 s
noncomputable def c33_6 : Code := gT c33_5
noncomputable def n33_6 (s : S) : Option (Ex × S) := run (annT 33) c33_6 s
noncomputable def c33_7 : Code := gL c33_6
noncomputable def n33_7 (s : S) : Option (Ex × S) := run (annT 33) c33_7 s
noncomputable def c33_8 : Code := gR c33_6
noncomputable def n33_8 (s : S) : Option (Ex × S) := run (annT 33) c33_8 s
noncomputable def c33_9 : Code := gF c33_5
noncomputable def n33_9 (s : S) : Option (Ex × S) := run (annT 33) c33_9 s
noncomputable def c33_10 : Code := gR c33_2
noncomputable def n33_10 (s : S) : Option (Ex × S) := run (annT 33) c33_10 s
noncomputable def c33_11 : Code := gL c33_10
noncomputable def n33_11 (s : S) : Option (Ex × S) := run (annT 33) c33_11 s
noncomputable def c33_12 : Code := gL c33_11
noncomputable def n33_12 (s : S) : Option (Ex × S) := run (annT 33) c33_12 s
noncomputable def c33_13 : Code := gR c33_11
noncomputable def n33_13 (s : S) : Option (Ex × S) := run (annT 33) c33_13 s
noncomputable def c33_14 : Code := gB c33_13
noncomputable def n33_14 (s : S) : Option (Ex × S) := run (annT 33) c33_14 s
noncomputable def c33_15 : Code := gB c33_14
noncomputable def n33_15 (s : S) : Option (Ex × S) := run (annT 33) c33_15 s
noncomputable def c33_16 : Code := gL c33_15
noncomputable def n33_16 (s : S) : Option (Ex × S) := run (annT 33) c33_16 s
noncomputable def c33_17 : Code := gL c33_16
noncomputable def n33_17 (s : S) : Option (Ex × S) := run (annT 33) c33_17 s
noncomputable def c33_18 : Code := gR c33_16
noncomputable def n33_18 (s : S) : Option (Ex × S) := run (annT 33) c33_18 s
noncomputable def c33_19 : Code := gT c33_18
noncomputable def n33_19 (s : S) : Option (Ex × S) := run (annT 33) c33_19 s
noncomputable def c33_20 : Code := gF c33_18
noncomputable def n33_20 (s : S) : Option (Ex × S) := run (annT 33) c33_20 s
noncomputable def c33_21 : Code := gR c33_15
noncomputable def n33_21 (s : S) : Option (Ex × S) := run (annT 33) c33_21 s
noncomputable def c33_22 : Code := gL c33_21
noncomputable def n33_22 (s : S) : Option (Ex × S) := run (annT 33) c33_22 s
noncomputable def c33_23 : Code := gB c33_22
noncomputable def n33_23 (s : S) : Option (Ex × S) := run (annT 33) c33_23 s
noncomputable def c33_24 : Code := gL c33_23
noncomputable def n33_24 (s : S) : Option (Ex × S) := run (annT 33) c33_24 s
noncomputable def c33_25 : Code := gR c33_23
noncomputable def n33_25 (s : S) : Option (Ex × S) := run (annT 33) c33_25 s
noncomputable def c33_26 : Code := gT c33_25
noncomputable def n33_26 (s : S) : Option (Ex × S) := run (annT 33) c33_26 s
noncomputable def c33_27 : Code := gL c33_26
noncomputable def n33_27 (s : S) : Option (Ex × S) := run (annT 33) c33_27 s
noncomputable def c33_28 : Code := gR c33_26
noncomputable def n33_28 (s : S) : Option (Ex × S) := run (annT 33) c33_28 s
noncomputable def c33_29 : Code := gF c33_25
noncomputable def n33_29 (s : S) : Option (Ex × S) := run (annT 33) c33_29 s
noncomputable def c33_30 : Code := gR c33_21
noncomputable def n33_30 (s : S) : Option (Ex × S) := run (annT 33) c33_30 s
noncomputable def c33_31 : Code := gR c33_10
noncomputable def n33_31 (s : S) : Option (Ex × S) := run (annT 33) c33_31 s
noncomputable def c33_32 : Code := gL c33_31
noncomputable def n33_32 (s : S) : Option (Ex × S) := run (annT 33) c33_32 s
noncomputable def c33_33 : Code := gR c33_31
noncomputable def n33_33 (s : S) : Option (Ex × S) := run (annT 33) c33_33 s
attribute [cbv_opaque] n33_0 n33_1 n33_2 n33_3 n33_4 n33_5 n33_6 n33_7 n33_8 n33_9 n33_10 n33_11 n33_12 n33_13 n33_14 n33_15 n33_16 n33_17 n33_18 n33_19 n33_20 n33_21 n33_22 n33_23 n33_24 n33_25 n33_26 n33_27 n33_28 n33_29 n33_30 n33_31 n33_32 n33_33
@[cbv_eval] theorem r_n33_1 (s : S) : n33_1 s = (stepsO X (annT 33) C (gO c33_1) (gO c33_1).toList s).map fun s' => (.norm, behindS (annT 33) 0 s') := run_region (annT 33) s 0 (gO c33_1) false rfl
@[cbv_eval] theorem r_n33_4 (s : S) : n33_4 s = (stepsO X (annT 33) C (gO c33_4) (gO c33_4).toList s).map fun s' => (.norm, behindS (annT 33) 1 s') := run_region (annT 33) s 1 (gO c33_4) false rfl
@[cbv_eval] theorem r_n33_7 (s : S) : n33_7 s = (stepsO X (annT 33) C (gO c33_7) (gO c33_7).toList s).map fun s' => (.norm, behindS (annT 33) 2 s') := run_region (annT 33) s 2 (gO c33_7) false rfl
@[cbv_eval] theorem r_n33_8 (s : S) : n33_8 s = some (.ret, s) := run_ret (annT 33) s
@[cbv_eval] theorem r_n33_6 (s : S) : n33_6 s = (n33_7 s).bind fun r => match r.1 with
    | .norm => n33_8 r.2
    | e => some (e, r.2) := run_seq (annT 33) c33_7 c33_8 s
@[cbv_eval] theorem r_n33_9 (s : S) : n33_9 s = some (.norm, s) := run_skip (annT 33) s
@[cbv_eval] theorem r_n33_5 (s : S) : n33_5 s = (asB (opv s.t (gC c33_5))).bind fun t => bif t then n33_6 s else n33_9 s := run_cond (annT 33) c33_6 c33_9 s (gC c33_5)
@[cbv_eval] theorem r_n33_3 (s : S) : n33_3 s = (n33_4 s).bind fun r => match r.1 with
    | .norm => n33_5 r.2
    | e => some (e, r.2) := run_seq (annT 33) c33_4 c33_5 s
@[cbv_eval] theorem r_n33_12 (s : S) : n33_12 s = (stepsO X (annT 33) C (gO c33_12) (gO c33_12).toList s).map fun s' => (.norm, behindS (annT 33) 3 s') := run_region (annT 33) s 3 (gO c33_12) false rfl
@[cbv_eval] theorem r_n33_17 (s : S) : n33_17 s = (stepsO X (annT 33) C (gO c33_17) (gO c33_17).toList s).map fun s' => (.norm, behindS (annT 33) 4 s') := run_region (annT 33) s 4 (gO c33_17) false rfl
@[cbv_eval] theorem r_n33_19 (s : S) : n33_19 s = some (.norm, s) := run_skip (annT 33) s
@[cbv_eval] theorem r_n33_20 (s : S) : n33_20 s = some (.exit 0, s) := run_exit (annT 33) s 0
@[cbv_eval] theorem r_n33_18 (s : S) : n33_18 s = (asB (opv s.t (gC c33_18))).bind fun t => bif t then n33_19 s else n33_20 s := run_cond (annT 33) c33_19 c33_20 s (gC c33_18)
@[cbv_eval] theorem r_n33_16 (s : S) : n33_16 s = (n33_17 s).bind fun r => match r.1 with
    | .norm => n33_18 r.2
    | e => some (e, r.2) := run_seq (annT 33) c33_17 c33_18 s
@[cbv_eval] theorem r_n33_24 (s : S) : n33_24 s = (stepsO X (annT 33) C (gO c33_24) (gO c33_24).toList s).map fun s' => (.norm, behindS (annT 33) 6 s') := run_region (annT 33) s 6 (gO c33_24) true rfl
@[cbv_eval] theorem r_n33_27 (s : S) : n33_27 s = (stepsO X (annT 33) C (gO c33_27) (gO c33_27).toList s).map fun s' => (.norm, behindS (annT 33) 7 s') := run_region (annT 33) s 7 (gO c33_27) false rfl
@[cbv_eval] theorem r_n33_28 (s : S) : n33_28 s = some (.ret, s) := run_ret (annT 33) s
@[cbv_eval] theorem r_n33_26 (s : S) : n33_26 s = (n33_27 s).bind fun r => match r.1 with
    | .norm => n33_28 r.2
    | e => some (e, r.2) := run_seq (annT 33) c33_27 c33_28 s
@[cbv_eval] theorem r_n33_29 (s : S) : n33_29 s = some (.norm, s) := run_skip (annT 33) s
@[cbv_eval] theorem r_n33_25 (s : S) : n33_25 s = (asB (opv s.t (gC c33_25))).bind fun t => bif t then n33_26 s else n33_29 s := run_cond (annT 33) c33_26 c33_29 s (gC c33_25)
@[cbv_eval] theorem r_n33_23 (s : S) : n33_23 s = (n33_24 s).bind fun r => match r.1 with
    | .norm => n33_25 r.2
    | e => some (e, r.2) := run_seq (annT 33) c33_24 c33_25 s
@[cbv_eval] theorem r_n33_22 (s : S) : n33_22 s = (n33_23 s).map fun r => match r.1 with
    | .exit j => bif j == 1 then (.norm, r.2) else (.exit j, r.2)
    | e => (e, r.2) := run_block (annT 33) c33_23 s 1
@[cbv_eval] theorem r_n33_30 (s : S) : n33_30 s = (stepsO X (annT 33) C (gO c33_30) (gO c33_30).toList s).map fun s' => (.norm, behindS (annT 33) 5 s') := run_region (annT 33) s 5 (gO c33_30) false rfl
@[cbv_eval] theorem r_n33_21 (s : S) : n33_21 s = (n33_22 s).bind fun r => match r.1 with
    | .norm => n33_30 r.2
    | e => some (e, r.2) := run_seq (annT 33) c33_22 c33_30 s
@[cbv_eval] theorem r_n33_15 (s : S) : n33_15 s = (n33_16 s).bind fun r => match r.1 with
    | .norm => n33_21 r.2
    | e => some (e, r.2) := run_seq (annT 33) c33_16 c33_21 s
theorem r_n33_14 (s : S) : n33_14 s = (n33_15 s).bind fun r => match r.1 with
    | .norm => n33_14 (headS (annT 33) c33_15 s.st.length r.2)
    | e => some (e, r.2) := run_loop (annT 33) c33_15 s
@[cbv_eval] theorem r_n33_13 (s : S) : n33_13 s = (n33_14 s).map fun r => match r.1 with
    | .exit j => bif j == 0 then (.norm, r.2) else (.exit j, r.2)
    | e => (e, r.2) := run_block (annT 33) c33_14 s 0
@[cbv_eval] theorem r_n33_11 (s : S) : n33_11 s = (n33_12 s).bind fun r => match r.1 with
    | .norm => n33_13 r.2
    | e => some (e, r.2) := run_seq (annT 33) c33_12 c33_13 s
@[cbv_eval] theorem r_n33_32 (s : S) : n33_32 s = (stepsO X (annT 33) C (gO c33_32) (gO c33_32).toList s).map fun s' => (.norm, behindS (annT 33) 8 s') := run_region (annT 33) s 8 (gO c33_32) false rfl
@[cbv_eval] theorem r_n33_33 (s : S) : n33_33 s = some (.ret, s) := run_ret (annT 33) s
@[cbv_eval] theorem r_n33_31 (s : S) : n33_31 s = (n33_32 s).bind fun r => match r.1 with
    | .norm => n33_33 r.2
    | e => some (e, r.2) := run_seq (annT 33) c33_32 c33_33 s
@[cbv_eval] theorem r_n33_10 (s : S) : n33_10 s = (n33_11 s).bind fun r => match r.1 with
    | .norm => n33_31 r.2
    | e => some (e, r.2) := run_seq (annT 33) c33_11 c33_31 s
@[cbv_eval] theorem r_n33_2 (s : S) : n33_2 s = (n33_3 s).bind fun r => match r.1 with
    | .norm => n33_10 r.2
    | e => some (e, r.2) := run_seq (annT 33) c33_3 c33_10 s
@[cbv_eval] theorem r_n33_0 (s : S) : n33_0 s = (n33_1 s).bind fun r => match r.1 with
    | .norm => n33_2 r.2
    | e => some (e, r.2) := run_seq (annT 33) c33_1 c33_2 s
theorem p33 (ds : List D) : pureCall C 33 ds = ((n33_0 ⟨argsT 0 (ds.map .d), []⟩).bind (bodyR [.tmp 4])).bind prOf := P_eq Try.f33 rfl rfl rfl rfl ds
theorem q33 (vs : List AV) (st : Store) : C 33 vs st = (n33_0 ⟨argsT 0 vs, st⟩).bind (bodyR [.tmp 4]) := C_eq Try.f33 rfl rfl rfl rfl vs st

@[cbv_eval] theorem ann_89 : annT 89 = { keep := [(0, [1, 2, 3, 4, 5]), (1, [3, 5, 36]), (2, [10]), (3, [10])], loops := [] } := rfl
noncomputable def c89_0 : Code := Try.f89.body.getD .skip
noncomputable def n89_0 (s : S) : Option (Ex × S) := run (annT 89) c89_0 s
noncomputable def c89_1 : Code := gL c89_0
noncomputable def n89_1 (s : S) : Option (Ex × S) := run (annT 89) c89_1 s
noncomputable def c89_2 : Code := gR c89_0
noncomputable def n89_2 (s : S) : Option (Ex × S) := run (annT 89) c89_2 s
noncomputable def c89_3 : Code := gL c89_2
noncomputable def n89_3 (s : S) : Option (Ex × S) := run (annT 89) c89_3 s
noncomputable def c89_4 : Code := gL c89_3
noncomputable def n89_4 (s : S) : Option (Ex × S) := run (annT 89) c89_4 s
noncomputable def c89_5 : Code := gR c89_3
noncomputable def n89_5 (s : S) : Option (Ex × S) := run (annT 89) c89_5 s
noncomputable def c89_6 : Code := gT c89_5
noncomputable def n89_6 (s : S) : Option (Ex × S) := run (annT 89) c89_6 s
noncomputable def c89_7 : Code := gL c89_6
noncomputable def n89_7 (s : S) : Option (Ex × S) := run (annT 89) c89_7 s
noncomputable def c89_8 : Code := gR c89_6
noncomputable def n89_8 (s : S) : Option (Ex × S) := run (annT 89) c89_8 s
noncomputable def c89_9 : Code := gF c89_5
noncomputable def n89_9 (s : S) : Option (Ex × S) := run (annT 89) c89_9 s
noncomputable def c89_10 : Code := gR c89_2
noncomputable def n89_10 (s : S) : Option (Ex × S) := run (annT 89) c89_10 s
noncomputable def c89_11 : Code := gL c89_10
noncomputable def n89_11 (s : S) : Option (Ex × S) := run (annT 89) c89_11 s
noncomputable def c89_12 : Code := gR c89_10
noncomputable def n89_12 (s : S) : Option (Ex × S) := run (annT 89) c89_12 s
attribute [cbv_opaque] n89_0 n89_1 n89_2 n89_3 n89_4 n89_5 n89_6 n89_7 n89_8 n89_9 n89_10 n89_11 n89_12
@[cbv_eval] theorem r_n89_1 (s : S) : n89_1 s = (stepsO X (annT 89) C (gO c89_1) (gO c89_1).toList s).map fun s' => (.norm, behindS (annT 89) 0 s') := run_region (annT 89) s 0 (gO c89_1) false rfl
@[cbv_eval] theorem r_n89_4 (s : S) : n89_4 s = (stepsO X (annT 89) C (gO c89_4) (gO c89_4).toList s).map fun s' => (.norm, behindS (annT 89) 1 s') := run_region (annT 89) s 1 (gO c89_4) false rfl
@[cbv_eval] theorem r_n89_7 (s : S) : n89_7 s = (stepsO X (annT 89) C (gO c89_7) (gO c89_7).toList s).map fun s' => (.norm, behindS (annT 89) 2 s') := run_region (annT 89) s 2 (gO c89_7) false rfl
@[cbv_eval] theorem r_n89_8 (s : S) : n89_8 s = some (.ret, s) := run_ret (annT 89) s
@[cbv_eval] theorem r_n89_6 (s : S) : n89_6 s = (n89_7 s).bind fun r => match r.1 with
    | .norm => n89_8 r.2
    | e => some (e, r.2) := run_seq (annT 89) c89_7 c89_8 s
@[cbv_eval] theorem r_n89_9 (s : S) : n89_9 s = some (.norm, s) := run_skip (annT 89) s
@[cbv_eval] theorem r_n89_5 (s : S) : n89_5 s = (asB (opv s.t (gC c89_5))).bind fun t => bif t then n89_6 s else n89_9 s := run_cond (annT 89) c89_6 c89_9 s (gC c89_5)
@[cbv_eval] theorem r_n89_3 (s : S) : n89_3 s = (n89_4 s).bind fun r => match r.1 with
    | .norm => n89_5 r.2
    | e => some (e, r.2) := run_seq (annT 89) c89_4 c89_5 s
@[cbv_eval] theorem r_n89_11 (s : S) : n89_11 s = (stepsO X (annT 89) C (gO c89_11) (gO c89_11).toList s).map fun s' => (.norm, behindS (annT 89) 3 s') := run_region (annT 89) s 3 (gO c89_11) false rfl
@[cbv_eval] theorem r_n89_12 (s : S) : n89_12 s = some (.ret, s) := run_ret (annT 89) s
@[cbv_eval] theorem r_n89_10 (s : S) : n89_10 s = (n89_11 s).bind fun r => match r.1 with
    | .norm => n89_12 r.2
    | e => some (e, r.2) := run_seq (annT 89) c89_11 c89_12 s
@[cbv_eval] theorem r_n89_2 (s : S) : n89_2 s = (n89_3 s).bind fun r => match r.1 with
    | .norm => n89_10 r.2
    | e => some (e, r.2) := run_seq (annT 89) c89_3 c89_10 s
@[cbv_eval] theorem r_n89_0 (s : S) : n89_0 s = (n89_1 s).bind fun r => match r.1 with
    | .norm => n89_2 r.2
    | e => some (e, r.2) := run_seq (annT 89) c89_1 c89_2 s
theorem p89 (ds : List D) : pureCall C 89 ds = ((n89_0 ⟨argsT 0 (ds.map .d), []⟩).bind (bodyR [.tmp 10])).bind prOf := P_eq Try.f89 rfl rfl rfl rfl ds
theorem q89 (vs : List AV) (st : Store) : C 89 vs st = (n89_0 ⟨argsT 0 vs, st⟩).bind (bodyR [.tmp 10]) := C_eq Try.f89 rfl rfl rfl rfl vs st

@[cbv_eval] theorem ann_88 : annT 88 = { keep := [(0, [0]), (1, [0, 13]), (2, [2]), (3, [0, 3]), (4, [0, 3, 17]), (5, [0, 3]), (6, [0, 3, 4]), (7, [0, 3, 4, 5]), (8, [0, 3, 55]), (9, [2]), (10, [2])], loops := [(4, [0, 3])] } := rfl
noncomputable def c88_0 : Code := Try.f88.body.getD .skip
noncomputable def n88_0 (s : S) : Option (Ex × S) := run (annT 88) c88_0 s
noncomputable def c88_1 : Code := gL c88_0
noncomputable def n88_1 (s : S) : Option (Ex × S) := run (annT 88) c88_1 s
noncomputable def c88_2 : Code := gR c88_0
noncomputable def n88_2 (s : S) : Option (Ex × S) := run (annT 88) c88_2 s
noncomputable def c88_3 : Code := gL c88_2
noncomputable def n88_3 (s : S) : Option (Ex × S) := run (annT 88) c88_3 s
noncomputable def c88_4 : Code := gL c88_3
noncomputable def n88_4 (s : S) : Option (Ex × S) := run (annT 88) c88_4 s
noncomputable def c88_5 : Code := gR c88_3
noncomputable def n88_5 (s : S) : Option (Ex × S) := run (annT 88) c88_5 s
noncomputable def c88_6 : Code := gT c88_5
noncomputable def n88_6 (s : S) : Option (Ex × S) := run (annT 88) c88_6 s
noncomputable def c88_7 : Code := gL c88_6
noncomputable def n88_7 (s : S) : Option (Ex × S) := run (annT 88) c88_7 s
noncomputable def c88_8 : Code := gR c88_6
noncomputable def n88_8 (s : S) : Option (Ex × S) := run (annT 88) c88_8 s
noncomputable def c88_9 : Code := gF c88_5
noncomputable def n88_9 (s : S) : Option (Ex × S) := run (annT 88) c88_9 s
noncomputable def c88_10 : Code := gR c88_2
noncomputable def n88_10 (s : S) : Option (Ex × S) := run (annT 88) c88_10 s
noncomputable def c88_11 : Code := gL c88_10
noncomputable def n88_11 (s : S) : Option (Ex × S) := run (annT 88) c88_11 s
noncomputable def c88_12 : Code := gL c88_11
noncomputable def n88_12 (s : S) : Option (Ex × S) := run (annT 88) c88_12 s
noncomputable def c88_13 : Code := gR c88_11
noncomputable def n88_13 (s : S) : Option (Ex × S) := run (annT 88) c88_13 s
noncomputable def c88_14 : Code := gB c88_13
noncomputable def n88_14 (s : S) : Option (Ex × S) := run (annT 88) c88_14 s
noncomputable def c88_15 : Code := gB c88_14
noncomputable def n88_15 (s : S) : Option (Ex × S) := run (annT 88) c88_15 s
noncomputable def c88_16 : Code := gL c88_15
noncomputable def n88_16 (s : S) : Option (Ex × S) := run (annT 88) c88_16 s
noncomputable def c88_17 : Code := gL c88_16
noncomputable def n88_17 (s : S) : Option (Ex × S) := run (annT 88) c88_17 s
noncomputable def c88_18 : Code := gR c88_16
noncomputable def n88_18 (s : S) : Option (Ex × S) := run (annT 88) c88_18 s
noncomputable def c88_19 : Code := gT c88_18
noncomputable def n88_19 (s : S) : Option (Ex × S) := run (annT 88) c88_19 s
noncomputable def c88_20 : Code := gF c88_18
noncomputable def n88_20 (s : S) : Option (Ex × S) := run (annT 88) c88_20 s
noncomputable def c88_21 : Code := gR c88_15
noncomputable def n88_21 (s : S) : Option (Ex × S) := run (annT 88) c88_21 s
noncomputable def c88_22 : Code := gL c88_21
noncomputable def n88_22 (s : S) : Option (Ex × S) := run (annT 88) c88_22 s
noncomputable def c88_23 : Code := gB c88_22
noncomputable def n88_23 (s : S) : Option (Ex × S) := run (annT 88) c88_23 s
noncomputable def c88_24 : Code := gL c88_23
noncomputable def n88_24 (s : S) : Option (Ex × S) := run (annT 88) c88_24 s
noncomputable def c88_25 : Code := gR c88_23
noncomputable def n88_25 (s : S) : Option (Ex × S) := run (annT 88) c88_25 s
noncomputable def c88_26 : Code := gL c88_25
noncomputable def n88_26 (s : S) : Option (Ex × S) := run (annT 88) c88_26 s
noncomputable def c88_27 : Code := gR c88_25
noncomputable def n88_27 (s : S) : Option (Ex × S) := run (annT 88) c88_27 s
noncomputable def c88_28 : Code := gL c88_27
noncomputable def n88_28 (s : S) : Option (Ex × S) := run (annT 88) c88_28 s
noncomputable def c88_29 : Code := gR c88_27
noncomputable def n88_29 (s : S) : Option (Ex × S) := run (annT 88) c88_29 s
noncomputable def c88_30 : Code := gT c88_29
noncomputable def n88_30 (s : S) : Option (Ex × S) := run (annT 88) c88_30 s
noncomputable def c88_31 : Code := gL c88_30
noncomputable def n88_31 (s : S) : Option (Ex × S) := run (annT 88) c88_31 s
noncomputable def c88_32 : Code := gR c88_30
noncomputable def n88_32 (s : S) : Option (Ex × S) := run (annT 88) c88_32 s
noncomputable def c88_33 : Code := gF c88_29
noncomputable def n88_33 (s : S) : Option (Ex × S) := run (annT 88) c88_33 s
noncomputable def c88_34 : Code := gR c88_21
noncomputable def n88_34 (s : S) : Option (Ex × S) := run (annT 88) c88_34 s
noncomputable def c88_35 : Code := gR c88_10
noncomputable def n88_35 (s : S) : Option (Ex × S) := run (annT 88) c88_35 s
noncomputable def c88_36 : Code := gL c88_35
noncomputable def n88_36 (s : S) : Option (Ex × S) := run (annT 88) c88_36 s
noncomputable def c88_37 : Code := gR c88_35
noncomputable def n88_37 (s : S) : Option (Ex × S) := run (annT 88) c88_37 s
attribute [cbv_opaque] n88_0 n88_1 n88_2 n88_3 n88_4 n88_5 n88_6 n88_7 n88_8 n88_9 n88_10 n88_11 n88_12 n88_13 n88_14 n88_15 n88_16 n88_17 n88_18 n88_19 n88_20 n88_21 n88_22 n88_23 n88_24 n88_25 n88_26 n88_27 n88_28 n88_29 n88_30 n88_31 n88_32 n88_33 n88_34 n88_35 n88_36 n88_37
@[cbv_eval] theorem r_n88_1 (s : S) : n88_1 s = (stepsO X (annT 88) C (gO c88_1) (gO c88_1).toList s).map fun s' => (.norm, behindS (annT 88) 0 s') := run_region (annT 88) s 0 (gO c88_1) false rfl
@[cbv_eval] theorem r_n88_4 (s : S) : n88_4 s = (stepsO X (annT 88) C (gO c88_4) (gO c88_4).toList s).map fun s' => (.norm, behindS (annT 88) 1 s') := run_region (annT 88) s 1 (gO c88_4) false rfl
@[cbv_eval] theorem r_n88_7 (s : S) : n88_7 s = (stepsO X (annT 88) C (gO c88_7) (gO c88_7).toList s).map fun s' => (.norm, behindS (annT 88) 2 s') := run_region (annT 88) s 2 (gO c88_7) false rfl
@[cbv_eval] theorem r_n88_8 (s : S) : n88_8 s = some (.ret, s) := run_ret (annT 88) s
@[cbv_eval] theorem r_n88_6 (s : S) : n88_6 s = (n88_7 s).bind fun r => match r.1 with
    | .norm => n88_8 r.2
    | e => some (e, r.2) := run_seq (annT 88) c88_7 c88_8 s
@[cbv_eval] theorem r_n88_9 (s : S) : n88_9 s = some (.norm, s) := run_skip (annT 88) s
@[cbv_eval] theorem r_n88_5 (s : S) : n88_5 s = (asB (opv s.t (gC c88_5))).bind fun t => bif t then n88_6 s else n88_9 s := run_cond (annT 88) c88_6 c88_9 s (gC c88_5)
@[cbv_eval] theorem r_n88_3 (s : S) : n88_3 s = (n88_4 s).bind fun r => match r.1 with
    | .norm => n88_5 r.2
    | e => some (e, r.2) := run_seq (annT 88) c88_4 c88_5 s
@[cbv_eval] theorem r_n88_12 (s : S) : n88_12 s = (stepsO X (annT 88) C (gO c88_12) (gO c88_12).toList s).map fun s' => (.norm, behindS (annT 88) 3 s') := run_region (annT 88) s 3 (gO c88_12) false rfl
@[cbv_eval] theorem r_n88_17 (s : S) : n88_17 s = (stepsO X (annT 88) C (gO c88_17) (gO c88_17).toList s).map fun s' => (.norm, behindS (annT 88) 4 s') := run_region (annT 88) s 4 (gO c88_17) false rfl
@[cbv_eval] theorem r_n88_19 (s : S) : n88_19 s = some (.norm, s) := run_skip (annT 88) s
@[cbv_eval] theorem r_n88_20 (s : S) : n88_20 s = some (.exit 0, s) := run_exit (annT 88) s 0
@[cbv_eval] theorem r_n88_18 (s : S) : n88_18 s = (asB (opv s.t (gC c88_18))).bind fun t => bif t then n88_19 s else n88_20 s := run_cond (annT 88) c88_19 c88_20 s (gC c88_18)
@[cbv_eval] theorem r_n88_16 (s : S) : n88_16 s = (n88_17 s).bind fun r => match r.1 with
    | .norm => n88_18 r.2
    | e => some (e, r.2) := run_seq (annT 88) c88_17 c88_18 s
@[cbv_eval] theorem r_n88_24 (s : S) : n88_24 s = (stepsO X (annT 88) C (gO c88_24) (gO c88_24).toList s).map fun s' => (.norm, behindS (annT 88) 6 s') := run_region (annT 88) s 6 (gO c88_24) false rfl
@[cbv_eval] theorem r_n88_26 (s : S) : n88_26 s = (stepsO X (annT 88) C (gO c88_26) (gO c88_26).toList s).map fun s' => (.norm, behindS (annT 88) 7 s') := run_region (annT 88) s 7 (gO c88_26) false rfl
@[cbv_eval] theorem r_n88_28 (s : S) : n88_28 s = (stepsO X (annT 88) C (gO c88_28) (gO c88_28).toList s).map fun s' => (.norm, behindS (annT 88) 8 s') := run_region (annT 88) s 8 (gO c88_28) false rfl
@[cbv_eval] theorem r_n88_31 (s : S) : n88_31 s = (stepsO X (annT 88) C (gO c88_31) (gO c88_31).toList s).map fun s' => (.norm, behindS (annT 88) 9 s') := run_region (annT 88) s 9 (gO c88_31) false rfl
@[cbv_eval] theorem r_n88_32 (s : S) : n88_32 s = some (.ret, s) := run_ret (annT 88) s
@[cbv_eval] theorem r_n88_30 (s : S) : n88_30 s = (n88_31 s).bind fun r => match r.1 with
    | .norm => n88_32 r.2
    | e => some (e, r.2) := run_seq (annT 88) c88_31 c88_32 s
@[cbv_eval] theorem r_n88_33 (s : S) : n88_33 s = some (.norm, s) := run_skip (annT 88) s
@[cbv_eval] theorem r_n88_29 (s : S) : n88_29 s = (asB (opv s.t (gC c88_29))).bind fun t => bif t then n88_30 s else n88_33 s := run_cond (annT 88) c88_30 c88_33 s (gC c88_29)
@[cbv_eval] theorem r_n88_27 (s : S) : n88_27 s = (n88_28 s).bind fun r => match r.1 with
    | .norm => n88_29 r.2
    | e => some (e, r.2) := run_seq (annT 88) c88_28 c88_29 s
@[cbv_eval] theorem r_n88_25 (s : S) : n88_25 s = (n88_26 s).bind fun r => match r.1 with
    | .norm => n88_27 r.2
    | e => some (e, r.2) := run_seq (annT 88) c88_26 c88_27 s
@[cbv_eval] theorem r_n88_23 (s : S) : n88_23 s = (n88_24 s).bind fun r => match r.1 with
    | .norm => n88_25 r.2
    | e => some (e, r.2) := run_seq (annT 88) c88_24 c88_25 s
@[cbv_eval] theorem r_n88_22 (s : S) : n88_22 s = (n88_23 s).map fun r => match r.1 with
    | .exit j => bif j == 1 then (.norm, r.2) else (.exit j, r.2)
    | e => (e, r.2) := run_block (annT 88) c88_23 s 1
@[cbv_eval] theorem r_n88_34 (s : S) : n88_34 s = (stepsO X (annT 88) C (gO c88_34) (gO c88_34).toList s).map fun s' => (.norm, behindS (annT 88) 5 s') := run_region (annT 88) s 5 (gO c88_34) false rfl
@[cbv_eval] theorem r_n88_21 (s : S) : n88_21 s = (n88_22 s).bind fun r => match r.1 with
    | .norm => n88_34 r.2
    | e => some (e, r.2) := run_seq (annT 88) c88_22 c88_34 s
@[cbv_eval] theorem r_n88_15 (s : S) : n88_15 s = (n88_16 s).bind fun r => match r.1 with
    | .norm => n88_21 r.2
    | e => some (e, r.2) := run_seq (annT 88) c88_16 c88_21 s
theorem r_n88_14 (s : S) : n88_14 s = (n88_15 s).bind fun r => match r.1 with
    | .norm => n88_14 (headS (annT 88) c88_15 s.st.length r.2)
    | e => some (e, r.2) := run_loop (annT 88) c88_15 s
@[cbv_eval] theorem r_n88_13 (s : S) : n88_13 s = (n88_14 s).map fun r => match r.1 with
    | .exit j => bif j == 0 then (.norm, r.2) else (.exit j, r.2)
    | e => (e, r.2) := run_block (annT 88) c88_14 s 0
@[cbv_eval] theorem r_n88_11 (s : S) : n88_11 s = (n88_12 s).bind fun r => match r.1 with
    | .norm => n88_13 r.2
    | e => some (e, r.2) := run_seq (annT 88) c88_12 c88_13 s
@[cbv_eval] theorem r_n88_36 (s : S) : n88_36 s = (stepsO X (annT 88) C (gO c88_36) (gO c88_36).toList s).map fun s' => (.norm, behindS (annT 88) 10 s') := run_region (annT 88) s 10 (gO c88_36) false rfl
@[cbv_eval] theorem r_n88_37 (s : S) : n88_37 s = some (.ret, s) := run_ret (annT 88) s
@[cbv_eval] theorem r_n88_35 (s : S) : n88_35 s = (n88_36 s).bind fun r => match r.1 with
    | .norm => n88_37 r.2
    | e => some (e, r.2) := run_seq (annT 88) c88_36 c88_37 s
@[cbv_eval] theorem r_n88_10 (s : S) : n88_10 s = (n88_11 s).bind fun r => match r.1 with
    | .norm => n88_35 r.2
    | e => some (e, r.2) := run_seq (annT 88) c88_11 c88_35 s
@[cbv_eval] theorem r_n88_2 (s : S) : n88_2 s = (n88_3 s).bind fun r => match r.1 with
    | .norm => n88_10 r.2
    | e => some (e, r.2) := run_seq (annT 88) c88_3 c88_10 s
@[cbv_eval] theorem r_n88_0 (s : S) : n88_0 s = (n88_1 s).bind fun r => match r.1 with
    | .norm => n88_2 r.2
    | e => some (e, r.2) := run_seq (annT 88) c88_1 c88_2 s
theorem p88 (ds : List D) : pureCall C 88 ds = ((n88_0 ⟨argsT 0 (ds.map .d), []⟩).bind (bodyR [.tmp 2])).bind prOf := P_eq Try.f88 rfl rfl rfl rfl ds
theorem q88 (vs : List AV) (st : Store) : C 88 vs st = (n88_0 ⟨argsT 0 vs, st⟩).bind (bodyR [.tmp 2]) := C_eq Try.f88 rfl rfl rfl rfl vs st

@[cbv_eval] theorem ann_97 : annT 97 = { keep := [(0, [1]), (1, [1, 3]), (2, [1, 3, 9]), (3, [1, 3]), (4, [1, 3, 13]), (5, [1, 3]), (6, [1, 41]), (7, [2]), (8, [1, 4]), (9, [1, 4, 46]), (10, [1, 4]), (11, [1, 4, 55]), (12, [2]), (13, [2])], loops := [(9, [1, 4])] } := rfl
noncomputable def c97_0 : Code := Try.f97.body.getD .skip
noncomputable def n97_0 (s : S) : Option (Ex × S) := run (annT 97) c97_0 s
noncomputable def c97_1 : Code := gL c97_0
noncomputable def n97_1 (s : S) : Option (Ex × S) := run (annT 97) c97_1 s
noncomputable def c97_2 : Code := gR c97_0
noncomputable def n97_2 (s : S) : Option (Ex × S) := run (annT 97) c97_2 s
noncomputable def c97_3 : Code := gL c97_2
noncomputable def n97_3 (s : S) : Option (Ex × S) := run (annT 97) c97_3 s
noncomputable def c97_4 : Code := gR c97_2
noncomputable def n97_4 (s : S) : Option (Ex × S) := run (annT 97) c97_4 s
noncomputable def c97_5 : Code := gL c97_4
noncomputable def n97_5 (s : S) : Option (Ex × S) := run (annT 97) c97_5 s
noncomputable def c97_6 : Code := gL c97_5
noncomputable def n97_6 (s : S) : Option (Ex × S) := run (annT 97) c97_6 s
noncomputable def c97_7 : Code := gR c97_5
noncomputable def n97_7 (s : S) : Option (Ex × S) := run (annT 97) c97_7 s
noncomputable def c97_8 : Code := gT c97_7
noncomputable def n97_8 (s : S) : Option (Ex × S) := run (annT 97) c97_8 s
noncomputable def c97_9 : Code := gF c97_7
noncomputable def n97_9 (s : S) : Option (Ex × S) := run (annT 97) c97_9 s
noncomputable def c97_10 : Code := gR c97_4
noncomputable def n97_10 (s : S) : Option (Ex × S) := run (annT 97) c97_10 s
noncomputable def c97_11 : Code := gL c97_10
noncomputable def n97_11 (s : S) : Option (Ex × S) := run (annT 97) c97_11 s
noncomputable def c97_12 : Code := gL c97_11
noncomputable def n97_12 (s : S) : Option (Ex × S) := run (annT 97) c97_12 s
noncomputable def c97_13 : Code := gR c97_11
noncomputable def n97_13 (s : S) : Option (Ex × S) := run (annT 97) c97_13 s
noncomputable def c97_14 : Code := gT c97_13
noncomputable def n97_14 (s : S) : Option (Ex × S) := run (annT 97) c97_14 s
noncomputable def c97_15 : Code := gF c97_13
noncomputable def n97_15 (s : S) : Option (Ex × S) := run (annT 97) c97_15 s
noncomputable def c97_16 : Code := gR c97_10
noncomputable def n97_16 (s : S) : Option (Ex × S) := run (annT 97) c97_16 s
noncomputable def c97_17 : Code := gL c97_16
noncomputable def n97_17 (s : S) : Option (Ex × S) := run (annT 97) c97_17 s
noncomputable def c97_18 : Code := gL c97_17
noncomputable def n97_18 (s : S) : Option (Ex × S) := run (annT 97) c97_18 s
noncomputable def c97_19 : Code := gR c97_17
noncomputable def n97_19 (s : S) : Option (Ex × S) := run (annT 97) c97_19 s
noncomputable def c97_20 : Code := gT c97_19
noncomputable def n97_20 (s : S) : Option (Ex × S) := run (annT 97) c97_20 s
noncomputable def c97_21 : Code := gL c97_20
noncomputable def n97_21 (s : S) : Option (Ex × S) := run (annT 97) c97_21 s
noncomputable def c97_22 : Code := gR c97_20
noncomputable def n97_22 (s : S) : Option (Ex × S) := run (annT 97) c97_22 s
noncomputable def c97_23 : Code := gF c97_19
noncomputable def n97_23 (s : S) : Option (Ex × S) := run (annT 97) c97_23 s
noncomputable def c97_24 : Code := gR c97_16
noncomputable def n97_24 (s : S) : Option (Ex × S) := run (annT 97) c97_24 s
noncomputable def c97_25 : Code := gL c97_24
noncomputable def n97_25 (s : S) : Option (Ex × S) := run (annT 97) c97_25 s
noncomputable def c97_26 : Code := gL c97_25
noncomputable def n97_26 (s : S) : Option (Ex × S) := run (annT 97) c97_26 s
noncomputable def c97_27 : Code := gR c97_25
noncomputable def n97_27 (s : S) : Option (Ex × S) := run (annT 97) c97_27 s
noncomputable def c97_28 : Code := gB c97_27
noncomputable def n97_28 (s : S) : Option (Ex × S) := run (annT 97) c97_28 s
noncomputable def c97_29 : Code := gB c97_28
noncomputable def n97_29 (s : S) : Option (Ex × S) := run (annT 97) c97_29 s
noncomputable def c97_30 : Code := gL c97_29
noncomputable def n97_30 (s : S) : Option (Ex × S) := run (annT 97) c97_30 s
noncomputable def c97_31 : Code := gL c97_30
noncomputable def n97_31 (s : S) : Option (Ex × S) := run (annT 97) c97_31 s
noncomputable def c97_32 : Code := gR c97_30
noncomputable def n97_32 (s : S) : Option (Ex × S) := run (annT 97) c97_32 s
noncomputable def c97_33 : Code := gT c97_32
noncomputable def n97_33 (s : S) : Option (Ex × S) := run (annT 97) c97_33 s
noncomputable def c97_34 : Code := gF c97_32
noncomputable def n97_34 (s : S) : Option (Ex × S) := run (annT 97) c97_34 s
noncomputable def c97_35 : Code := gR c97_29
noncomputable def n97_35 (s : S) : Option (Ex × S) := run (annT 97) c97_35 s
noncomputable def c97_36 : Code := gL c97_35
noncomputable def n97_36 (s : S) : Option (Ex × S) := run (annT 97) c97_36 s
noncomputable def c97_37 : Code := gB c97_36
noncomputable def n97_37 (s : S) : Option (Ex × S) := run (annT 97) c97_37 s
noncomputable def c97_38 : Code := gL c97_37
noncomputable def n97_38 (s : S) : Option (Ex × S) := run (annT 97) c97_38 s
noncomputable def c97_39 : Code := gR c97_37
noncomputable def n97_39 (s : S) : Option (Ex × S) := run (annT 97) c97_39 s
noncomputable def c97_40 : Code := gT c97_39
noncomputable def n97_40 (s : S) : Option (Ex × S) := run (annT 97) c97_40 s
noncomputable def c97_41 : Code := gL c97_40
noncomputable def n97_41 (s : S) : Option (Ex × S) := run (annT 97) c97_41 s
noncomputable def c97_42 : Code := gR c97_40
noncomputable def n97_42 (s : S) : Option (Ex × S) := run (annT 97) c97_42 s
noncomputable def c97_43 : Code := gF c97_39
noncomputable def n97_43 (s : S) : Option (Ex × S) := run (annT 97) c97_43 s
noncomputable def c97_44 : Code := gR c97_35
noncomputable def n97_44 (s : S) : Option (Ex × S) := run (annT 97) c97_44 s
noncomputable def c97_45 : Code := gR c97_24
noncomputable def n97_45 (s : S) : Option (Ex × S) := run (annT 97) c97_45 s
noncomputable def c97_46 : Code := gL c97_45
noncomputable def n97_46 (s : S) : Option (Ex × S) := run (annT 97) c97_46 s
noncomputable def c97_47 : Code := gR c97_45
noncomputable def n97_47 (s : S) : Option (Ex × S) := run (annT 97) c97_47 s
attribute [cbv_opaque] n97_0 n97_1 n97_2 n97_3 n97_4 n97_5 n97_6 n97_7 n97_8 n97_9 n97_10 n97_11 n97_12 n97_13 n97_14 n97_15 n97_16 n97_17 n97_18 n97_19 n97_20 n97_21 n97_22 n97_23 n97_24 n97_25 n97_26 n97_27 n97_28 n97_29 n97_30 n97_31 n97_32 n97_33 n97_34 n97_35 n97_36 n97_37 n97_38 n97_39 n97_40 n97_41 n97_42 n97_43 n97_44 n97_45 n97_46 n97_47
@[cbv_eval] theorem r_n97_1 (s : S) : n97_1 s = (stepsO X (annT 97) C (gO c97_1) (gO c97_1).toList s).map fun s' => (.norm, behindS (annT 97) 0 s') := run_region (annT 97) s 0 (gO c97_1) false rfl
@[cbv_eval] theorem r_n97_3 (s : S) : n97_3 s = (stepsO X (annT 97) C (gO c97_3) (gO c97_3).toList s).map fun s' => (.norm, behindS (annT 97) 1 s') := run_region (annT 97) s 1 (gO c97_3) false rfl
@[cbv_eval] theorem r_n97_6 (s : S) : n97_6 s = (stepsO X (annT 97) C (gO c97_6) (gO c97_6).toList s).map fun s' => (.norm, behindS (annT 97) 2 s') := run_region (annT 97) s 2 (gO c97_6) false rfl
@[cbv_eval] theorem r_n97_8 (s : S) : n97_8 s = (stepsO X (annT 97) C (gO c97_8) (gO c97_8).toList s).map fun s' => (.norm, behindS (annT 97) 3 s') := run_region (annT 97) s 3 (gO c97_8) false rfl
@[cbv_eval] theorem r_n97_9 (s : S) : n97_9 s = some (.norm, s) := run_skip (annT 97) s
@[cbv_eval] theorem r_n97_7 (s : S) : n97_7 s = (asB (opv s.t (gC c97_7))).bind fun t => bif t then n97_8 s else n97_9 s := run_cond (annT 97) c97_8 c97_9 s (gC c97_7)
@[cbv_eval] theorem r_n97_5 (s : S) : n97_5 s = (n97_6 s).bind fun r => match r.1 with
    | .norm => n97_7 r.2
    | e => some (e, r.2) := run_seq (annT 97) c97_6 c97_7 s
@[cbv_eval] theorem r_n97_12 (s : S) : n97_12 s = (stepsO X (annT 97) C (gO c97_12) (gO c97_12).toList s).map fun s' => (.norm, behindS (annT 97) 4 s') := run_region (annT 97) s 4 (gO c97_12) false rfl
@[cbv_eval] theorem r_n97_14 (s : S) : n97_14 s = (stepsO X (annT 97) C (gO c97_14) (gO c97_14).toList s).map fun s' => (.norm, behindS (annT 97) 5 s') := run_region (annT 97) s 5 (gO c97_14) false rfl
@[cbv_eval] theorem r_n97_15 (s : S) : n97_15 s = some (.norm, s) := run_skip (annT 97) s
@[cbv_eval] theorem r_n97_13 (s : S) : n97_13 s = (asB (opv s.t (gC c97_13))).bind fun t => bif t then n97_14 s else n97_15 s := run_cond (annT 97) c97_14 c97_15 s (gC c97_13)
@[cbv_eval] theorem r_n97_11 (s : S) : n97_11 s = (n97_12 s).bind fun r => match r.1 with
    | .norm => n97_13 r.2
    | e => some (e, r.2) := run_seq (annT 97) c97_12 c97_13 s
@[cbv_eval] theorem r_n97_18 (s : S) : n97_18 s = (stepsO X (annT 97) C (gO c97_18) (gO c97_18).toList s).map fun s' => (.norm, behindS (annT 97) 6 s') := run_region (annT 97) s 6 (gO c97_18) false rfl
@[cbv_eval] theorem r_n97_21 (s : S) : n97_21 s = (stepsO X (annT 97) C (gO c97_21) (gO c97_21).toList s).map fun s' => (.norm, behindS (annT 97) 7 s') := run_region (annT 97) s 7 (gO c97_21) false rfl
@[cbv_eval] theorem r_n97_22 (s : S) : n97_22 s = some (.ret, s) := run_ret (annT 97) s
@[cbv_eval] theorem r_n97_20 (s : S) : n97_20 s = (n97_21 s).bind fun r => match r.1 with
    | .norm => n97_22 r.2
    | e => some (e, r.2) := run_seq (annT 97) c97_21 c97_22 s
@[cbv_eval] theorem r_n97_23 (s : S) : n97_23 s = some (.norm, s) := run_skip (annT 97) s
@[cbv_eval] theorem r_n97_19 (s : S) : n97_19 s = (asB (opv s.t (gC c97_19))).bind fun t => bif t then n97_20 s else n97_23 s := run_cond (annT 97) c97_20 c97_23 s (gC c97_19)
@[cbv_eval] theorem r_n97_17 (s : S) : n97_17 s = (n97_18 s).bind fun r => match r.1 with
    | .norm => n97_19 r.2
    | e => some (e, r.2) := run_seq (annT 97) c97_18 c97_19 s
@[cbv_eval] theorem r_n97_26 (s : S) : n97_26 s = (stepsO X (annT 97) C (gO c97_26) (gO c97_26).toList s).map fun s' => (.norm, behindS (annT 97) 8 s') := run_region (annT 97) s 8 (gO c97_26) false rfl
@[cbv_eval] theorem r_n97_31 (s : S) : n97_31 s = (stepsO X (annT 97) C (gO c97_31) (gO c97_31).toList s).map fun s' => (.norm, behindS (annT 97) 9 s') := run_region (annT 97) s 9 (gO c97_31) false rfl
@[cbv_eval] theorem r_n97_33 (s : S) : n97_33 s = some (.norm, s) := run_skip (annT 97) s
@[cbv_eval] theorem r_n97_34 (s : S) : n97_34 s = some (.exit 0, s) := run_exit (annT 97) s 0
@[cbv_eval] theorem r_n97_32 (s : S) : n97_32 s = (asB (opv s.t (gC c97_32))).bind fun t => bif t then n97_33 s else n97_34 s := run_cond (annT 97) c97_33 c97_34 s (gC c97_32)
@[cbv_eval] theorem r_n97_30 (s : S) : n97_30 s = (n97_31 s).bind fun r => match r.1 with
    | .norm => n97_32 r.2
    | e => some (e, r.2) := run_seq (annT 97) c97_31 c97_32 s
@[cbv_eval] theorem r_n97_38 (s : S) : n97_38 s = (stepsO X (annT 97) C (gO c97_38) (gO c97_38).toList s).map fun s' => (.norm, behindS (annT 97) 11 s') := run_region (annT 97) s 11 (gO c97_38) false rfl
@[cbv_eval] theorem r_n97_41 (s : S) : n97_41 s = (stepsO X (annT 97) C (gO c97_41) (gO c97_41).toList s).map fun s' => (.norm, behindS (annT 97) 12 s') := run_region (annT 97) s 12 (gO c97_41) false rfl
@[cbv_eval] theorem r_n97_42 (s : S) : n97_42 s = some (.ret, s) := run_ret (annT 97) s
@[cbv_eval] theorem r_n97_40 (s : S) : n97_40 s = (n97_41 s).bind fun r => match r.1 with
    | .norm => n97_42 r.2
    | e => some (e, r.2) := run_seq (annT 97) c97_41 c97_42 s
@[cbv_eval] theorem r_n97_43 (s : S) : n97_43 s = some (.norm, s) := run_skip (annT 97) s
@[cbv_eval] theorem r_n97_39 (s : S) : n97_39 s = (asB (opv s.t (gC c97_39))).bind fun t => bif t then n97_40 s else n97_43 s := run_cond (annT 97) c97_40 c97_43 s (gC c97_39)
@[cbv_eval] theorem r_n97_37 (s : S) : n97_37 s = (n97_38 s).bind fun r => match r.1 with
    | .norm => n97_39 r.2
    | e => some (e, r.2) := run_seq (annT 97) c97_38 c97_39 s
@[cbv_eval] theorem r_n97_36 (s : S) : n97_36 s = (n97_37 s).map fun r => match r.1 with
    | .exit j => bif j == 1 then (.norm, r.2) else (.exit j, r.2)
    | e => (e, r.2) := run_block (annT 97) c97_37 s 1
@[cbv_eval] theorem r_n97_44 (s : S) : n97_44 s = (stepsO X (annT 97) C (gO c97_44) (gO c97_44).toList s).map fun s' => (.norm, behindS (annT 97) 10 s') := run_region (annT 97) s 10 (gO c97_44) false rfl
@[cbv_eval] theorem r_n97_35 (s : S) : n97_35 s = (n97_36 s).bind fun r => match r.1 with
    | .norm => n97_44 r.2
    | e => some (e, r.2) := run_seq (annT 97) c97_36 c97_44 s
@[cbv_eval] theorem r_n97_29 (s : S) : n97_29 s = (n97_30 s).bind fun r => match r.1 with
    | .norm => n97_35 r.2
    | e => some (e, r.2) := run_seq (annT 97) c97_30 c97_35 s
theorem r_n97_28 (s : S) : n97_28 s = (n97_29 s).bind fun r => match r.1 with
    | .norm => n97_28 (headS (annT 97) c97_29 s.st.length r.2)
    | e => some (e, r.2) := run_loop (annT 97) c97_29 s
@[cbv_eval] theorem r_n97_27 (s : S) : n97_27 s = (n97_28 s).map fun r => match r.1 with
    | .exit j => bif j == 0 then (.norm, r.2) else (.exit j, r.2)
    | e => (e, r.2) := run_block (annT 97) c97_28 s 0
@[cbv_eval] theorem r_n97_25 (s : S) : n97_25 s = (n97_26 s).bind fun r => match r.1 with
    | .norm => n97_27 r.2
    | e => some (e, r.2) := run_seq (annT 97) c97_26 c97_27 s
@[cbv_eval] theorem r_n97_46 (s : S) : n97_46 s = (stepsO X (annT 97) C (gO c97_46) (gO c97_46).toList s).map fun s' => (.norm, behindS (annT 97) 13 s') := run_region (annT 97) s 13 (gO c97_46) false rfl
@[cbv_eval] theorem r_n97_47 (s : S) : n97_47 s = some (.ret, s) := run_ret (annT 97) s
@[cbv_eval] theorem r_n97_45 (s : S) : n97_45 s = (n97_46 s).bind fun r => match r.1 with
    | .norm => n97_47 r.2
    | e => some (e, r.2) := run_seq (annT 97) c97_46 c97_47 s
@[cbv_eval] theorem r_n97_24 (s : S) : n97_24 s = (n97_25 s).bind fun r => match r.1 with
    | .norm => n97_45 r.2
    | e => some (e, r.2) := run_seq (annT 97) c97_25 c97_45 s
@[cbv_eval] theorem r_n97_16 (s : S) : n97_16 s = (n97_17 s).bind fun r => match r.1 with
    | .norm => n97_24 r.2
    | e => some (e, r.2) := run_seq (annT 97) c97_17 c97_24 s
@[cbv_eval] theorem r_n97_10 (s : S) : n97_10 s = (n97_11 s).bind fun r => match r.1 with
    | .norm => n97_16 r.2
    | e => some (e, r.2) := run_seq (annT 97) c97_11 c97_16 s
@[cbv_eval] theorem r_n97_4 (s : S) : n97_4 s = (n97_5 s).bind fun r => match r.1 with
    | .norm => n97_10 r.2
    | e => some (e, r.2) := run_seq (annT 97) c97_5 c97_10 s
@[cbv_eval] theorem r_n97_2 (s : S) : n97_2 s = (n97_3 s).bind fun r => match r.1 with
    | .norm => n97_4 r.2
    | e => some (e, r.2) := run_seq (annT 97) c97_3 c97_4 s
@[cbv_eval] theorem r_n97_0 (s : S) : n97_0 s = (n97_1 s).bind fun r => match r.1 with
    | .norm => n97_2 r.2
    | e => some (e, r.2) := run_seq (annT 97) c97_1 c97_2 s
theorem p97 (ds : List D) : pureCall C 97 ds = ((n97_0 ⟨argsT 0 (ds.map .d), []⟩).bind (bodyR [.tmp 2])).bind prOf := P_eq Try.f97 rfl rfl rfl rfl ds
theorem q97 (vs : List AV) (st : Store) : C 97 vs st = (n97_0 ⟨argsT 0 vs, st⟩).bind (bodyR [.tmp 2]) := C_eq Try.f97 rfl rfl rfl rfl vs st

@[cbv_eval] theorem ann_90 : annT 90 = { keep := [(0, [1]), (1, [1, 18]), (2, [2]), (3, [1, 3]), (4, [1, 3, 23]), (5, [1, 3]), (6, [1, 3, 32]), (7, [2]), (8, [2])], loops := [(4, [1, 3])] } := rfl
noncomputable def c90_0 : Code := Try.f90.body.getD .skip
noncomputable def n90_0 (s : S) : Option (Ex × S) := run (annT 90) c90_0 s
noncomputable def c90_1 : Code := gL c90_0
noncomputable def n90_1 (s : S) : Option (Ex × S) := run (annT 90) c90_1 s
noncomputable def c90_2 : Code := gR c90_0
noncomputable def n90_2 (s : S) : Option (Ex × S) := run (annT 90) c90_2 s
noncomputable def c90_3 : Code := gL c90_2
noncomputable def n90_3 (s : S) : Option (Ex × S) := run (annT 90) c90_3 s
noncomputable def c90_4 : Code := gL c90_3
noncomputable def n90_4 (s : S) : Option (Ex × S) := run (annT 90) c90_4 s
noncomputable def c90_5 : Code := gR c90_3
noncomputable def n90_5 (s : S) : Option (Ex × S) := run (annT 90) c90_5 s
noncomputable def c90_6 : Code := gT c90_5
noncomputable def n90_6 (s : S) : Option (Ex × S) := run (annT 90) c90_6 s
noncomputable def c90_7 : Code := gL c90_6
noncomputable def n90_7 (s : S) : Option (Ex × S) := run (annT 90) c90_7 s
noncomputable def c90_8 : Code := gR c90_6
noncomputable def n90_8 (s : S) : Option (Ex × S) := run (annT 90) c90_8 s
noncomputable def c90_9 : Code := gF c90_5
noncomputable def n90_9 (s : S) : Option (Ex × S) := run (annT 90) c90_9 s
noncomputable def c90_10 : Code := gR c90_2
noncomputable def n90_10 (s : S) : Option (Ex × S) := run (annT 90) c90_10 s
noncomputable def c90_11 : Code := gL c90_10
noncomputable def n90_11 (s : S) : Option (Ex × S) := run (annT 90) c90_11 s
noncomputable def c90_12 : Code := gL c90_11
noncomputable def n90_12 (s : S) : Option (Ex × S) := run (annT 90) c90_12 s
noncomputable def c90_13 : Code := gR c90_11
noncomputable def n90_13 (s : S) : Option (Ex × S) := run (annT 90) c90_13 s
noncomputable def c90_14 : Code := gB c90_13
noncomputable def n90_14 (s : S) : Option (Ex × S) := run (annT 90) c90_14 s
noncomputable def c90_15 : Code := gB c90_14
noncomputable def n90_15 (s : S) : Option (Ex × S) := run (annT 90) c90_15 s
noncomputable def c90_16 : Code := gL c90_15
noncomputable def n90_16 (s : S) : Option (Ex × S) := run (annT 90) c90_16 s
noncomputable def c90_17 : Code := gL c90_16
noncomputable def n90_17 (s : S) : Option (Ex × S) := run (annT 90) c90_17 s
noncomputable def c90_18 : Code := gR c90_16
noncomputable def n90_18 (s : S) : Option (Ex × S) := run (annT 90) c90_18 s
noncomputable def c90_19 : Code := gT c90_18
noncomputable def n90_19 (s : S) : Option (Ex × S) := run (annT 90) c90_19 s
noncomputable def c90_20 : Code := gF c90_18
noncomputable def n90_20 (s : S) : Option (Ex × S) := run (annT 90) c90_20 s
noncomputable def c90_21 : Code := gR c90_15
noncomputable def n90_21 (s : S) : Option (Ex × S) := run (annT 90) c90_21 s
noncomputable def c90_22 : Code := gL c90_21
noncomputable def n90_22 (s : S) : Option (Ex × S) := run (annT 90) c90_22 s
noncomputable def c90_23 : Code := gB c90_22
noncomputable def n90_23 (s : S) : Option (Ex × S) := run (annT 90) c90_23 s
noncomputable def c90_24 : Code := gL c90_23
noncomputable def n90_24 (s : S) : Option (Ex × S) := run (annT 90) c90_24 s
noncomputable def c90_25 : Code := gR c90_23
noncomputable def n90_25 (s : S) : Option (Ex × S) := run (annT 90) c90_25 s
noncomputable def c90_26 : Code := gT c90_25
noncomputable def n90_26 (s : S) : Option (Ex × S) := run (annT 90) c90_26 s
noncomputable def c90_27 : Code := gL c90_26
noncomputable def n90_27 (s : S) : Option (Ex × S) := run (annT 90) c90_27 s
noncomputable def c90_28 : Code := gR c90_26
noncomputable def n90_28 (s : S) : Option (Ex × S) := run (annT 90) c90_28 s
noncomputable def c90_29 : Code := gF c90_25
noncomputable def n90_29 (s : S) : Option (Ex × S) := run (annT 90) c90_29 s
noncomputable def c90_30 : Code := gR c90_21
noncomputable def n90_30 (s : S) : Option (Ex × S) := run (annT 90) c90_30 s
noncomputable def c90_31 : Code := gR c90_10
noncomputable def n90_31 (s : S) : Option (Ex × S) := run (annT 90) c90_31 s
noncomputable def c90_32 : Code := gL c90_31
noncomputable def n90_32 (s : S) : Option (Ex × S) := run (annT 90) c90_32 s
noncomputable def c90_33 : Code := gR c90_31
noncomputable def n90_33 (s : S) : Option (Ex × S) := run (annT 90) c90_33 s
attribute [cbv_opaque] n90_0 n90_1 n90_2 n90_3 n90_4 n90_5 n90_6 n90_7 n90_8 n90_9 n90_10 n90_11 n90_12 n90_13 n90_14 n90_15 n90_16 n90_17 n90_18 n90_19 n90_20 n90_21 n90_22 n90_23 n90_24 n90_25 n90_26 n90_27 n90_28 n90_29 n90_30 n90_31 n90_32 n90_33
@[cbv_eval] theorem r_n90_1 (s : S) : n90_1 s = (stepsO X (annT 90) C (gO c90_1) (gO c90_1).toList s).map fun s' => (.norm, behindS (annT 90) 0 s') := run_region (annT 90) s 0 (gO c90_1) false rfl
@[cbv_eval] theorem r_n90_4 (s : S) : n90_4 s = (stepsO X (annT 90) C (gO c90_4) (gO c90_4).toList s).map fun s' => (.norm, behindS (annT 90) 1 s') := run_region (annT 90) s 1 (gO c90_4) false rfl
@[cbv_eval] theorem r_n90_7 (s : S) : n90_7 s = (stepsO X (annT 90) C (gO c90_7) (gO c90_7).toList s).map fun s' => (.norm, behindS (annT 90) 2 s') := run_region (annT 90) s 2 (gO c90_7) false rfl
@[cbv_eval] theorem r_n90_8 (s : S) : n90_8 s = some (.ret, s) := run_ret (annT 90) s
@[cbv_eval] theorem r_n90_6 (s : S) : n90_6 s = (n90_7 s).bind fun r => match r.1 with
    | .norm => n90_8 r.2
    | e => some (e, r.2) := run_seq (annT 90) c90_7 c90_8 s
@[cbv_eval] theorem r_n90_9 (s : S) : n90_9 s = some (.norm, s) := run_skip (annT 90) s
@[cbv_eval] theorem r_n90_5 (s : S) : n90_5 s = (asB (opv s.t (gC c90_5))).bind fun t => bif t then n90_6 s else n90_9 s := run_cond (annT 90) c90_6 c90_9 s (gC c90_5)
@[cbv_eval] theorem r_n90_3 (s : S) : n90_3 s = (n90_4 s).bind fun r => match r.1 with
    | .norm => n90_5 r.2
    | e => some (e, r.2) := run_seq (annT 90) c90_4 c90_5 s
@[cbv_eval] theorem r_n90_12 (s : S) : n90_12 s = (stepsO X (annT 90) C (gO c90_12) (gO c90_12).toList s).map fun s' => (.norm, behindS (annT 90) 3 s') := run_region (annT 90) s 3 (gO c90_12) false rfl
@[cbv_eval] theorem r_n90_17 (s : S) : n90_17 s = (stepsO X (annT 90) C (gO c90_17) (gO c90_17).toList s).map fun s' => (.norm, behindS (annT 90) 4 s') := run_region (annT 90) s 4 (gO c90_17) false rfl
@[cbv_eval] theorem r_n90_19 (s : S) : n90_19 s = some (.norm, s) := run_skip (annT 90) s
@[cbv_eval] theorem r_n90_20 (s : S) : n90_20 s = some (.exit 0, s) := run_exit (annT 90) s 0
@[cbv_eval] theorem r_n90_18 (s : S) : n90_18 s = (asB (opv s.t (gC c90_18))).bind fun t => bif t then n90_19 s else n90_20 s := run_cond (annT 90) c90_19 c90_20 s (gC c90_18)
@[cbv_eval] theorem r_n90_16 (s : S) : n90_16 s = (n90_17 s).bind fun r => match r.1 with
    | .norm => n90_18 r.2
    | e => some (e, r.2) := run_seq (annT 90) c90_17 c90_18 s
@[cbv_eval] theorem r_n90_24 (s : S) : n90_24 s = (stepsO X (annT 90) C (gO c90_24) (gO c90_24).toList s).map fun s' => (.norm, behindS (annT 90) 6 s') := run_region (annT 90) s 6 (gO c90_24) false rfl
@[cbv_eval] theorem r_n90_27 (s : S) : n90_27 s = (stepsO X (annT 90) C (gO c90_27) (gO c90_27).toList s).map fun s' => (.norm, behindS (annT 90) 7 s') := run_region (annT 90) s 7 (gO c90_27) false rfl
@[cbv_eval] theorem r_n90_28 (s : S) : n90_28 s = some (.ret, s) := run_ret (annT 90) s
@[cbv_eval] theorem r_n90_26 (s : S) : n90_26 s = (n90_27 s).bind fun r => match r.1 with
    | .norm => n90_28 r.2
    | e => some (e, r.2) := run_seq (annT 90) c90_27 c90_28 s
@[cbv_eval] theorem r_n90_29 (s : S) : n90_29 s = some (.norm, s) := run_skip (annT 90) s
@[cbv_eval] theorem r_n90_25 (s : S) : n90_25 s = (asB (opv s.t (gC c90_25))).bind fun t => bif t then n90_26 s else n90_29 s := run_cond (annT 90) c90_26 c90_29 s (gC c90_25)
@[cbv_eval] theorem r_n90_23 (s : S) : n90_23 s = (n90_24 s).bind fun r => match r.1 with
    | .norm => n90_25 r.2
    | e => some (e, r.2) := run_seq (annT 90) c90_24 c90_25 s
@[cbv_eval] theorem r_n90_22 (s : S) : n90_22 s = (n90_23 s).map fun r => match r.1 with
    | .exit j => bif j == 1 then (.norm, r.2) else (.exit j, r.2)
    | e => (e, r.2) := run_block (annT 90) c90_23 s 1
@[cbv_eval] theorem r_n90_30 (s : S) : n90_30 s = (stepsO X (annT 90) C (gO c90_30) (gO c90_30).toList s).map fun s' => (.norm, behindS (annT 90) 5 s') := run_region (annT 90) s 5 (gO c90_30) false rfl
@[cbv_eval] theorem r_n90_21 (s : S) : n90_21 s = (n90_22 s).bind fun r => match r.1 with
    | .norm => n90_30 r.2
    | e => some (e, r.2) := run_seq (annT 90) c90_22 c90_30 s
@[cbv_eval] theorem r_n90_15 (s : S) : n90_15 s = (n90_16 s).bind fun r => match r.1 with
    | .norm => n90_21 r.2
    | e => some (e, r.2) := run_seq (annT 90) c90_16 c90_21 s
theorem r_n90_14 (s : S) : n90_14 s = (n90_15 s).bind fun r => match r.1 with
    | .norm => n90_14 (headS (annT 90) c90_15 s.st.length r.2)
    | e => some (e, r.2) := run_loop (annT 90) c90_15 s
@[cbv_eval] theorem r_n90_13 (s : S) : n90_13 s = (n90_14 s).map fun r => match r.1 with
    | .exit j => bif j == 0 then (.norm, r.2) else (.exit j, r.2)
    | e => (e, r.2) := run_block (annT 90) c90_14 s 0
@[cbv_eval] theorem r_n90_11 (s : S) : n90_11 s = (n90_12 s).bind fun r => match r.1 with
    | .norm => n90_13 r.2
    | e => some (e, r.2) := run_seq (annT 90) c90_12 c90_13 s
@[cbv_eval] theorem r_n90_32 (s : S) : n90_32 s = (stepsO X (annT 90) C (gO c90_32) (gO c90_32).toList s).map fun s' => (.norm, behindS (annT 90) 8 s') := run_region (annT 90) s 8 (gO c90_32) false rfl
@[cbv_eval] theorem r_n90_33 (s : S) : n90_33 s = some (.ret, s) := run_ret (annT 90) s
@[cbv_eval] theorem r_n90_31 (s : S) : n90_31 s = (n90_32 s).bind fun r => match r.1 with
    | .norm => n90_33 r.2
    | e => some (e, r.2) := run_seq (annT 90) c90_32 c90_33 s
@[cbv_eval] theorem r_n90_10 (s : S) : n90_10 s = (n90_11 s).bind fun r => match r.1 with
    | .norm => n90_31 r.2
    | e => some (e, r.2) := run_seq (annT 90) c90_11 c90_31 s
@[cbv_eval] theorem r_n90_2 (s : S) : n90_2 s = (n90_3 s).bind fun r => match r.1 with
    | .norm => n90_10 r.2
    | e => some (e, r.2) := run_seq (annT 90) c90_3 c90_10 s
@[cbv_eval] theorem r_n90_0 (s : S) : n90_0 s = (n90_1 s).bind fun r => match r.1 with
    | .norm => n90_2 r.2
    | e => some (e, r.2) := run_seq (annT 90) c90_1 c90_2 s
theorem p90 (ds : List D) : pureCall C 90 ds = ((n90_0 ⟨argsT 0 (ds.map .d), []⟩).bind (bodyR [.tmp 2])).bind prOf := P_eq Try.f90 rfl rfl rfl rfl ds
theorem q90 (vs : List AV) (st : Store) : C 90 vs st = (n90_0 ⟨argsT 0 vs, st⟩).bind (bodyR [.tmp 2]) := C_eq Try.f90 rfl rfl rfl rfl vs st

@[cbv_eval] theorem ann_72 : annT 72 = { keep := [(0, [1]), (1, [1, 3]), (2, [1, 3, 9]), (3, [1, 3, 9, 10]), (4, [1, 3, 9, 10]), (5, [2]), (6, [1, 3, 15]), (7, [2]), (8, [1, 3, 34]), (9, [2]), (10, [1, 3, 36]), (11, [1, 3, 36, 37]), (12, [1, 3, 36, 37]), (13, [1, 3, 36, 37]), (14, [1, 3, 36, 37]), (15, [2]), (16, [1, 3, 36, 47]), (17, [2]), (18, [1, 3, 36, 54]), (19, [2]), (20, [1, 3, 66]), (21, [1, 3, 4]), (22, [2]), (23, [2])], loops := [] } := rfl
noncomputable def c72_0 : Code := Try.f72.body.getD .skip
noncomputable def n72_0 (s : S) : Option (Ex × S) := run (annT 72) c72_0 s
noncomputable def c72_1 : Code := gL c72_0
noncomputable def n72_1 (s : S) : Option (Ex × S) := run (annT 72) c72_1 s
noncomputable def c72_2 : Code := gR c72_0
noncomputable def n72_2 (s : S) : Option (Ex × S) := run (annT 72) c72_2 s
noncomputable def c72_3 : Code := gL c72_2
noncomputable def n72_3 (s : S) : Option (Ex × S) := run (annT 72) c72_3 s
noncomputable def c72_4 : Code := gR c72_2
noncomputable def n72_4 (s : S) : Option (Ex × S) := run (annT 72) c72_4 s
noncomputable def c72_5 : Code := gL c72_4
noncomputable def n72_5 (s : S) : Option (Ex × S) := run (annT 72) c72_5 s
noncomputable def c72_6 : Code := gL c72_5
noncomputable def n72_6 (s : S) : Option (Ex × S) := run (annT 72) c72_6 s
noncomputable def c72_7 : Code := gR c72_5
noncomputable def n72_7 (s : S) : Option (Ex × S) := run (annT 72) c72_7 s
noncomputable def c72_8 : Code := gB c72_7
noncomputable def n72_8 (s : S) : Option (Ex × S) := run (annT 72) c72_8 s
noncomputable def c72_9 : Code := gL c72_8
noncomputable def n72_9 (s : S) : Option (Ex × S) := run (annT 72) c72_9 s
noncomputable def c72_10 : Code := gL c72_9
noncomputable def n72_10 (s : S) : Option (Ex × S) := run (annT 72) c72_10 s
noncomputable def c72_11 : Code := gR c72_9
noncomputable def n72_11 (s : S) : Option (Ex × S) := run (annT 72) c72_11 s
noncomputable def c72_12 : Code := gT c72_11
noncomputable def n72_12 (s : S) : Option (Ex × S) := run (annT 72) c72_12 s
noncomputable def c72_13 : Code := gF c72_11
noncomputable def n72_13 (s : S) : Option (Ex × S) := run (annT 72) c72_13 s
noncomputable def c72_14 : Code := gR c72_8
noncomputable def n72_14 (s : S) : Option (Ex × S) := run (annT 72) c72_14 s
noncomputable def c72_15 : Code := gT c72_14
noncomputable def n72_15 (s : S) : Option (Ex × S) := run (annT 72) c72_15 s
noncomputable def c72_16 : Code := gL c72_15
noncomputable def n72_16 (s : S) : Option (Ex × S) := run (annT 72) c72_16 s
noncomputable def c72_17 : Code := gR c72_15
noncomputable def n72_17 (s : S) : Option (Ex × S) := run (annT 72) c72_17 s
noncomputable def c72_18 : Code := gF c72_14
noncomputable def n72_18 (s : S) : Option (Ex × S) := run (annT 72) c72_18 s
noncomputable def c72_19 : Code := gL c72_18
noncomputable def n72_19 (s : S) : Option (Ex × S) := run (annT 72) c72_19 s
noncomputable def c72_20 : Code := gR c72_18
noncomputable def n72_20 (s : S) : Option (Ex × S) := run (annT 72) c72_20 s
noncomputable def c72_21 : Code := gT c72_20
noncomputable def n72_21 (s : S) : Option (Ex × S) := run (annT 72) c72_21 s
noncomputable def c72_22 : Code := gL c72_21
noncomputable def n72_22 (s : S) : Option (Ex × S) := run (annT 72) c72_22 s
noncomputable def c72_23 : Code := gR c72_21
noncomputable def n72_23 (s : S) : Option (Ex × S) := run (annT 72) c72_23 s
noncomputable def c72_24 : Code := gF c72_20
noncomputable def n72_24 (s : S) : Option (Ex × S) := run (annT 72) c72_24 s
noncomputable def c72_25 : Code := gR c72_4
noncomputable def n72_25 (s : S) : Option (Ex × S) := run (annT 72) c72_25 s
noncomputable def c72_26 : Code := gL c72_25
noncomputable def n72_26 (s : S) : Option (Ex × S) := run (annT 72) c72_26 s
noncomputable def c72_27 : Code := gL c72_26
noncomputable def n72_27 (s : S) : Option (Ex × S) := run (annT 72) c72_27 s
noncomputable def c72_28 : Code := gR c72_26
noncomputable def n72_28 (s : S) : Option (Ex × S) := run (annT 72) c72_28 s
noncomputable def c72_29 : Code := gT c72_28
noncomputable def n72_29 (s : S) : Option (Ex × S) := run (annT 72) c72_29 s
noncomputable def c72_30 : Code := gL c72_29
noncomputable def n72_30 (s : S) : Option (Ex × S) := run (annT 72) c72_30 s
noncomputable def c72_31 : Code := gR c72_29
noncomputable def n72_31 (s : S) : Option (Ex × S) := run (annT 72) c72_31 s
noncomputable def c72_32 : Code := gF c72_28
noncomputable def n72_32 (s : S) : Option (Ex × S) := run (annT 72) c72_32 s
noncomputable def c72_33 : Code := gR c72_25
noncomputable def n72_33 (s : S) : Option (Ex × S) := run (annT 72) c72_33 s
noncomputable def c72_34 : Code := gL c72_33
noncomputable def n72_34 (s : S) : Option (Ex × S) := run (annT 72) c72_34 s
noncomputable def c72_35 : Code := gL c72_34
noncomputable def n72_35 (s : S) : Option (Ex × S) := run (annT 72) c72_35 s
noncomputable def c72_36 : Code := gR c72_34
noncomputable def n72_36 (s : S) : Option (Ex × S) := run (annT 72) c72_36 s
noncomputable def c72_37 : Code := gB c72_36
noncomputable def n72_37 (s : S) : Option (Ex × S) := run (annT 72) c72_37 s
noncomputable def c72_38 : Code := gL c72_37
noncomputable def n72_38 (s : S) : Option (Ex × S) := run (annT 72) c72_38 s
noncomputable def c72_39 : Code := gL c72_38
noncomputable def n72_39 (s : S) : Option (Ex × S) := run (annT 72) c72_39 s
noncomputable def c72_40 : Code := gR c72_38
noncomputable def n72_40 (s : S) : Option (Ex × S) := run (annT 72) c72_40 s
noncomputable def c72_41 : Code := gT c72_40
noncomputable def n72_41 (s : S) : Option (Ex × S) := run (annT 72) c72_41 s
noncomputable def c72_42 : Code := gF c72_40
noncomputable def n72_42 (s : S) : Option (Ex × S) := run (annT 72) c72_42 s
noncomputable def c72_43 : Code := gL c72_42
noncomputable def n72_43 (s : S) : Option (Ex × S) := run (annT 72) c72_43 s
noncomputable def c72_44 : Code := gR c72_42
noncomputable def n72_44 (s : S) : Option (Ex × S) := run (annT 72) c72_44 s
noncomputable def c72_45 : Code := gT c72_44
noncomputable def n72_45 (s : S) : Option (Ex × S) := run (annT 72) c72_45 s
noncomputable def c72_46 : Code := gF c72_44
noncomputable def n72_46 (s : S) : Option (Ex × S) := run (annT 72) c72_46 s
noncomputable def c72_47 : Code := gL c72_46
noncomputable def n72_47 (s : S) : Option (Ex × S) := run (annT 72) c72_47 s
noncomputable def c72_48 : Code := gR c72_46
noncomputable def n72_48 (s : S) : Option (Ex × S) := run (annT 72) c72_48 s
noncomputable def c72_49 : Code := gT c72_48
noncomputable def n72_49 (s : S) : Option (Ex × S) := run (annT 72) c72_49 s
noncomputable def c72_50 : Code := gF c72_48
noncomputable def n72_50 (s : S) : Option (Ex × S) := run (annT 72) c72_50 s
noncomputable def c72_51 : Code := gR c72_37
noncomputable def n72_51 (s : S) : Option (Ex × S) := run (annT 72) c72_51 s
noncomputable def c72_52 : Code := gT c72_51
noncomputable def n72_52 (s : S) : Option (Ex × S) := run (annT 72) c72_52 s
noncomputable def c72_53 : Code := gL c72_52
noncomputable def n72_53 (s : S) : Option (Ex × S) := run (annT 72) c72_53 s
noncomputable def c72_54 : Code := gR c72_52
noncomputable def n72_54 (s : S) : Option (Ex × S) := run (annT 72) c72_54 s
noncomputable def c72_55 : Code := gF c72_51
noncomputable def n72_55 (s : S) : Option (Ex × S) := run (annT 72) c72_55 s
noncomputable def c72_56 : Code := gL c72_55
noncomputable def n72_56 (s : S) : Option (Ex × S) := run (annT 72) c72_56 s
noncomputable def c72_57 : Code := gR c72_55
noncomputable def n72_57 (s : S) : Option (Ex × S) := run (annT 72) c72_57 s
noncomputable def c72_58 : Code := gT c72_57
noncomputable def n72_58 (s : S) : Option (Ex × S) := run (annT 72) c72_58 s
noncomputable def c72_59 : Code := gL c72_58
noncomputable def n72_59 (s : S) : Option (Ex × S) := run (annT 72) c72_59 s
noncomputable def c72_60 : Code := gR c72_58
noncomputable def n72_60 (s : S) : Option (Ex × S) := run (annT 72) c72_60 s
noncomputable def c72_61 : Code := gF c72_57
noncomputable def n72_61 (s : S) : Option (Ex × S) := run (annT 72) c72_61 s
noncomputable def c72_62 : Code := gL c72_61
noncomputable def n72_62 (s : S) : Option (Ex × S) := run (annT 72) c72_62 s
noncomputable def c72_63 : Code := gR c72_61
noncomputable def n72_63 (s : S) : Option (Ex × S) := run (annT 72) c72_63 s
noncomputable def c72_64 : Code := gT c72_63
noncomputable def n72_64 (s : S) : Option (Ex × S) := run (annT 72) c72_64 s
noncomputable def c72_65 : Code := gL c72_64
noncomputable def n72_65 (s : S) : Option (Ex × S) := run (annT 72) c72_65 s
noncomputable def c72_66 : Code := gR c72_64
noncomputable def n72_66 (s : S) : Option (Ex × S) := run (annT 72) c72_66 s
noncomputable def c72_67 : Code := gF c72_63
noncomputable def n72_67 (s : S) : Option (Ex × S) := run (annT 72) c72_67 s
noncomputable def c72_68 : Code := gL c72_67
noncomputable def n72_68 (s : S) : Option (Ex × S) := run (annT 72) c72_68 s
noncomputable def c72_69 : Code := gR c72_67
noncomputable def n72_69 (s : S) : Option (Ex × S) := run (annT 72) c72_69 s
noncomputable def c72_70 : Code := gT c72_69
noncomputable def n72_70 (s : S) : Option (Ex × S) := run (annT 72) c72_70 s
noncomputable def c72_71 : Code := gL c72_70
noncomputable def n72_71 (s : S) : Option (Ex × S) := run (annT 72) c72_71 s
noncomputable def c72_72 : Code := gR c72_70
noncomputable def n72_72 (s : S) : Option (Ex × S) := run (annT 72) c72_72 s
noncomputable def c72_73 : Code := gL c72_72
noncomputable def n72_73 (s : S) : Option (Ex × S) := run (annT 72) c72_73 s
noncomputable def c72_74 : Code := gR c72_72
noncomputable def n72_74 (s : S) : Option (Ex × S) := run (annT 72) c72_74 s
noncomputable def c72_75 : Code := gF c72_69
noncomputable def n72_75 (s : S) : Option (Ex × S) := run (annT 72) c72_75 s
noncomputable def c72_76 : Code := gR c72_33
noncomputable def n72_76 (s : S) : Option (Ex × S) := run (annT 72) c72_76 s
noncomputable def c72_77 : Code := gL c72_76
noncomputable def n72_77 (s : S) : Option (Ex × S) := run (annT 72) c72_77 s
noncomputable def c72_78 : Code := gR c72_76
noncomputable def n72_78 (s : S) : Option (Ex × S) := run (annT 72) c72_78 s
attribute [cbv_opaque] n72_0 n72_1 n72_2 n72_3 n72_4 n72_5 n72_6 n72_7 n72_8 n72_9 n72_10 n72_11 n72_12 n72_13 n72_14 n72_15 n72_16 n72_17 n72_18 n72_19 n72_20 n72_21 n72_22 n72_23 n72_24 n72_25 n72_26 n72_27 n72_28 n72_29 n72_30 n72_31 n72_32 n72_33 n72_34 n72_35 n72_36 n72_37 n72_38 n72_39 n72_40 n72_41 n72_42 n72_43 n72_44 n72_45 n72_46 n72_47 n72_48 n72_49 n72_50 n72_51 n72_52 n72_53 n72_54 n72_55 n72_56 n72_57 n72_58 n72_59 n72_60 n72_61 n72_62 n72_63 n72_64 n72_65 n72_66 n72_67 n72_68 n72_69 n72_70 n72_71 n72_72 n72_73 n72_74 n72_75 n72_76 n72_77 n72_78
@[cbv_eval] theorem r_n72_1 (s : S) : n72_1 s = (stepsO X (annT 72) C (gO c72_1) (gO c72_1).toList s).map fun s' => (.norm, behindS (annT 72) 0 s') := run_region (annT 72) s 0 (gO c72_1) false rfl
@[cbv_eval] theorem r_n72_3 (s : S) : n72_3 s = (stepsO X (annT 72) C (gO c72_3) (gO c72_3).toList s).map fun s' => (.norm, behindS (annT 72) 1 s') := run_region (annT 72) s 1 (gO c72_3) false rfl
@[cbv_eval] theorem r_n72_6 (s : S) : n72_6 s = (stepsO X (annT 72) C (gO c72_6) (gO c72_6).toList s).map fun s' => (.norm, behindS (annT 72) 2 s') := run_region (annT 72) s 2 (gO c72_6) false rfl
@[cbv_eval] theorem r_n72_10 (s : S) : n72_10 s = (stepsO X (annT 72) C (gO c72_10) (gO c72_10).toList s).map fun s' => (.norm, behindS (annT 72) 3 s') := run_region (annT 72) s 3 (gO c72_10) false rfl
@[cbv_eval] theorem r_n72_12 (s : S) : n72_12 s = some (.norm, s) := run_skip (annT 72) s
@[cbv_eval] theorem r_n72_13 (s : S) : n72_13 s = (stepsO X (annT 72) C (gO c72_13) (gO c72_13).toList s).map fun s' => (.norm, behindS (annT 72) 4 s') := run_region (annT 72) s 4 (gO c72_13) false rfl
@[cbv_eval] theorem r_n72_11 (s : S) : n72_11 s = (asB (opv s.t (gC c72_11))).bind fun t => bif t then n72_12 s else n72_13 s := run_cond (annT 72) c72_12 c72_13 s (gC c72_11)
@[cbv_eval] theorem r_n72_9 (s : S) : n72_9 s = (n72_10 s).bind fun r => match r.1 with
    | .norm => n72_11 r.2
    | e => some (e, r.2) := run_seq (annT 72) c72_10 c72_11 s
@[cbv_eval] theorem r_n72_16 (s : S) : n72_16 s = (stepsO X (annT 72) C (gO c72_16) (gO c72_16).toList s).map fun s' => (.norm, behindS (annT 72) 5 s') := run_region (annT 72) s 5 (gO c72_16) false rfl
@[cbv_eval] theorem r_n72_17 (s : S) : n72_17 s = some (.ret, s) := run_ret (annT 72) s
@[cbv_eval] theorem r_n72_15 (s : S) : n72_15 s = (n72_16 s).bind fun r => match r.1 with
    | .norm => n72_17 r.2
    | e => some (e, r.2) := run_seq (annT 72) c72_16 c72_17 s
@[cbv_eval] theorem r_n72_19 (s : S) : n72_19 s = (stepsO X (annT 72) C (gO c72_19) (gO c72_19).toList s).map fun s' => (.norm, behindS (annT 72) 6 s') := run_region (annT 72) s 6 (gO c72_19) false rfl
@[cbv_eval] theorem r_n72_22 (s : S) : n72_22 s = (stepsO X (annT 72) C (gO c72_22) (gO c72_22).toList s).map fun s' => (.norm, behindS (annT 72) 7 s') := run_region (annT 72) s 7 (gO c72_22) false rfl
@[cbv_eval] theorem r_n72_23 (s : S) : n72_23 s = some (.ret, s) := run_ret (annT 72) s
@[cbv_eval] theorem r_n72_21 (s : S) : n72_21 s = (n72_22 s).bind fun r => match r.1 with
    | .norm => n72_23 r.2
    | e => some (e, r.2) := run_seq (annT 72) c72_22 c72_23 s
@[cbv_eval] theorem r_n72_24 (s : S) : n72_24 s = some (.norm, s) := run_skip (annT 72) s
@[cbv_eval] theorem r_n72_20 (s : S) : n72_20 s = (asB (opv s.t (gC c72_20))).bind fun t => bif t then n72_21 s else n72_24 s := run_cond (annT 72) c72_21 c72_24 s (gC c72_20)
@[cbv_eval] theorem r_n72_18 (s : S) : n72_18 s = (n72_19 s).bind fun r => match r.1 with
    | .norm => n72_20 r.2
    | e => some (e, r.2) := run_seq (annT 72) c72_19 c72_20 s
@[cbv_eval] theorem r_n72_14 (s : S) : n72_14 s = (asB (opv s.t (gC c72_14))).bind fun t => bif t then n72_15 s else n72_18 s := run_cond (annT 72) c72_15 c72_18 s (gC c72_14)
@[cbv_eval] theorem r_n72_8 (s : S) : n72_8 s = (n72_9 s).bind fun r => match r.1 with
    | .norm => n72_14 r.2
    | e => some (e, r.2) := run_seq (annT 72) c72_9 c72_14 s
@[cbv_eval] theorem r_n72_7 (s : S) : n72_7 s = (n72_8 s).map fun r => match r.1 with
    | .exit j => bif j == 0 then (.norm, r.2) else (.exit j, r.2)
    | e => (e, r.2) := run_block (annT 72) c72_8 s 0
@[cbv_eval] theorem r_n72_5 (s : S) : n72_5 s = (n72_6 s).bind fun r => match r.1 with
    | .norm => n72_7 r.2
    | e => some (e, r.2) := run_seq (annT 72) c72_6 c72_7 s
@[cbv_eval] theorem r_n72_27 (s : S) : n72_27 s = (stepsO X (annT 72) C (gO c72_27) (gO c72_27).toList s).map fun s' => (.norm, behindS (annT 72) 8 s') := run_region (annT 72) s 8 (gO c72_27) false rfl
@[cbv_eval] theorem r_n72_30 (s : S) : n72_30 s = (stepsO X (annT 72) C (gO c72_30) (gO c72_30).toList s).map fun s' => (.norm, behindS (annT 72) 9 s') := run_region (annT 72) s 9 (gO c72_30) false rfl
@[cbv_eval] theorem r_n72_31 (s : S) : n72_31 s = some (.ret, s) := run_ret (annT 72) s
@[cbv_eval] theorem r_n72_29 (s : S) : n72_29 s = (n72_30 s).bind fun r => match r.1 with
    | .norm => n72_31 r.2
    | e => some (e, r.2) := run_seq (annT 72) c72_30 c72_31 s
@[cbv_eval] theorem r_n72_32 (s : S) : n72_32 s = some (.norm, s) := run_skip (annT 72) s
@[cbv_eval] theorem r_n72_28 (s : S) : n72_28 s = (asB (opv s.t (gC c72_28))).bind fun t => bif t then n72_29 s else n72_32 s := run_cond (annT 72) c72_29 c72_32 s (gC c72_28)
@[cbv_eval] theorem r_n72_26 (s : S) : n72_26 s = (n72_27 s).bind fun r => match r.1 with
    | .norm => n72_28 r.2
    | e => some (e, r.2) := run_seq (annT 72) c72_27 c72_28 s
@[cbv_eval] theorem r_n72_35 (s : S) : n72_35 s = (stepsO X (annT 72) C (gO c72_35) (gO c72_35).toList s).map fun s' => (.norm, behindS (annT 72) 10 s') := run_region (annT 72) s 10 (gO c72_35) false rfl
@[cbv_eval] theorem r_n72_39 (s : S) : n72_39 s = (stepsO X (annT 72) C (gO c72_39) (gO c72_39).toList s).map fun s' => (.norm, behindS (annT 72) 11 s') := run_region (annT 72) s 11 (gO c72_39) false rfl
@[cbv_eval] theorem r_n72_41 (s : S) : n72_41 s = some (.norm, s) := run_skip (annT 72) s
@[cbv_eval] theorem r_n72_43 (s : S) : n72_43 s = (stepsO X (annT 72) C (gO c72_43) (gO c72_43).toList s).map fun s' => (.norm, behindS (annT 72) 12 s') := run_region (annT 72) s 12 (gO c72_43) false rfl
@[cbv_eval] theorem r_n72_45 (s : S) : n72_45 s = some (.norm, s) := run_skip (annT 72) s
@[cbv_eval] theorem r_n72_47 (s : S) : n72_47 s = (stepsO X (annT 72) C (gO c72_47) (gO c72_47).toList s).map fun s' => (.norm, behindS (annT 72) 13 s') := run_region (annT 72) s 13 (gO c72_47) false rfl
@[cbv_eval] theorem r_n72_49 (s : S) : n72_49 s = some (.norm, s) := run_skip (annT 72) s
@[cbv_eval] theorem r_n72_50 (s : S) : n72_50 s = (stepsO X (annT 72) C (gO c72_50) (gO c72_50).toList s).map fun s' => (.norm, behindS (annT 72) 14 s') := run_region (annT 72) s 14 (gO c72_50) false rfl
@[cbv_eval] theorem r_n72_48 (s : S) : n72_48 s = (asB (opv s.t (gC c72_48))).bind fun t => bif t then n72_49 s else n72_50 s := run_cond (annT 72) c72_49 c72_50 s (gC c72_48)
@[cbv_eval] theorem r_n72_46 (s : S) : n72_46 s = (n72_47 s).bind fun r => match r.1 with
    | .norm => n72_48 r.2
    | e => some (e, r.2) := run_seq (annT 72) c72_47 c72_48 s
@[cbv_eval] theorem r_n72_44 (s : S) : n72_44 s = (asB (opv s.t (gC c72_44))).bind fun t => bif t then n72_45 s else n72_46 s := run_cond (annT 72) c72_45 c72_46 s (gC c72_44)
@[cbv_eval] theorem r_n72_42 (s : S) : n72_42 s = (n72_43 s).bind fun r => match r.1 with
    | .norm => n72_44 r.2
    | e => some (e, r.2) := run_seq (annT 72) c72_43 c72_44 s
@[cbv_eval] theorem r_n72_40 (s : S) : n72_40 s = (asB (opv s.t (gC c72_40))).bind fun t => bif t then n72_41 s else n72_42 s := run_cond (annT 72) c72_41 c72_42 s (gC c72_40)
@[cbv_eval] theorem r_n72_38 (s : S) : n72_38 s = (n72_39 s).bind fun r => match r.1 with
    | .norm => n72_40 r.2
    | e => some (e, r.2) := run_seq (annT 72) c72_39 c72_40 s
@[cbv_eval] theorem r_n72_53 (s : S) : n72_53 s = (stepsO X (annT 72) C (gO c72_53) (gO c72_53).toList s).map fun s' => (.norm, behindS (annT 72) 15 s') := run_region (annT 72) s 15 (gO c72_53) false rfl
@[cbv_eval] theorem r_n72_54 (s : S) : n72_54 s = some (.ret, s) := run_ret (annT 72) s
@[cbv_eval] theorem r_n72_52 (s : S) : n72_52 s = (n72_53 s).bind fun r => match r.1 with
    | .norm => n72_54 r.2
    | e => some (e, r.2) := run_seq (annT 72) c72_53 c72_54 s
@[cbv_eval] theorem r_n72_56 (s : S) : n72_56 s = (stepsO X (annT 72) C (gO c72_56) (gO c72_56).toList s).map fun s' => (.norm, behindS (annT 72) 16 s') := run_region (annT 72) s 16 (gO c72_56) false rfl
@[cbv_eval] theorem r_n72_59 (s : S) : n72_59 s = (stepsO X (annT 72) C (gO c72_59) (gO c72_59).toList s).map fun s' => (.norm, behindS (annT 72) 17 s') := run_region (annT 72) s 17 (gO c72_59) false rfl
@[cbv_eval] theorem r_n72_60 (s : S) : n72_60 s = some (.ret, s) := run_ret (annT 72) s
@[cbv_eval] theorem r_n72_58 (s : S) : n72_58 s = (n72_59 s).bind fun r => match r.1 with
    | .norm => n72_60 r.2
    | e => some (e, r.2) := run_seq (annT 72) c72_59 c72_60 s
@[cbv_eval] theorem r_n72_62 (s : S) : n72_62 s = (stepsO X (annT 72) C (gO c72_62) (gO c72_62).toList s).map fun s' => (.norm, behindS (annT 72) 18 s') := run_region (annT 72) s 18 (gO c72_62) false rfl
@[cbv_eval] theorem r_n72_65 (s : S) : n72_65 s = (stepsO X (annT 72) C (gO c72_65) (gO c72_65).toList s).map fun s' => (.norm, behindS (annT 72) 19 s') := run_region (annT 72) s 19 (gO c72_65) false rfl
@[cbv_eval] theorem r_n72_66 (s : S) : n72_66 s = some (.ret, s) := run_ret (annT 72) s
@[cbv_eval] theorem r_n72_64 (s : S) : n72_64 s = (n72_65 s).bind fun r => match r.1 with
    | .norm => n72_66 r.2
    | e => some (e, r.2) := run_seq (annT 72) c72_65 c72_66 s
@[cbv_eval] theorem r_n72_68 (s : S) : n72_68 s = (stepsO X (annT 72) C (gO c72_68) (gO c72_68).toList s).map fun s' => (.norm, behindS (annT 72) 20 s') := run_region (annT 72) s 20 (gO c72_68) false rfl
@[cbv_eval] theorem r_n72_71 (s : S) : n72_71 s = (stepsO X (annT 72) C (gO c72_71) (gO c72_71).toList s).map fun s' => (.norm, behindS (annT 72) 21 s') := run_region (annT 72) s 21 (gO c72_71) false rfl
@[cbv_eval] theorem r_n72_73 (s : S) : n72_73 s = (stepsO X (annT 72) C (gO c72_73) (gO c72_73).toList s).map fun s' => (.norm, behindS (annT 72) 22 s') := run_region (annT 72) s 22 (gO c72_73) false rfl
@[cbv_eval] theorem r_n72_74 (s : S) : n72_74 s = some (.ret, s) := run_ret (annT 72) s
@[cbv_eval] theorem r_n72_72 (s : S) : n72_72 s = (n72_73 s).bind fun r => match r.1 with
    | .norm => n72_74 r.2
    | e => some (e, r.2) := run_seq (annT 72) c72_73 c72_74 s
@[cbv_eval] theorem r_n72_70 (s : S) : n72_70 s = (n72_71 s).bind fun r => match r.1 with
    | .norm => n72_72 r.2
    | e => some (e, r.2) := run_seq (annT 72) c72_71 c72_72 s
@[cbv_eval] theorem r_n72_75 (s : S) : n72_75 s = some (.norm, s) := run_skip (annT 72) s
@[cbv_eval] theorem r_n72_69 (s : S) : n72_69 s = (asB (opv s.t (gC c72_69))).bind fun t => bif t then n72_70 s else n72_75 s := run_cond (annT 72) c72_70 c72_75 s (gC c72_69)
@[cbv_eval] theorem r_n72_67 (s : S) : n72_67 s = (n72_68 s).bind fun r => match r.1 with
    | .norm => n72_69 r.2
    | e => some (e, r.2) := run_seq (annT 72) c72_68 c72_69 s
@[cbv_eval] theorem r_n72_63 (s : S) : n72_63 s = (asB (opv s.t (gC c72_63))).bind fun t => bif t then n72_64 s else n72_67 s := run_cond (annT 72) c72_64 c72_67 s (gC c72_63)
@[cbv_eval] theorem r_n72_61 (s : S) : n72_61 s = (n72_62 s).bind fun r => match r.1 with
    | .norm => n72_63 r.2
    | e => some (e, r.2) := run_seq (annT 72) c72_62 c72_63 s
@[cbv_eval] theorem r_n72_57 (s : S) : n72_57 s = (asB (opv s.t (gC c72_57))).bind fun t => bif t then n72_58 s else n72_61 s := run_cond (annT 72) c72_58 c72_61 s (gC c72_57)
@[cbv_eval] theorem r_n72_55 (s : S) : n72_55 s = (n72_56 s).bind fun r => match r.1 with
    | .norm => n72_57 r.2
    | e => some (e, r.2) := run_seq (annT 72) c72_56 c72_57 s
@[cbv_eval] theorem r_n72_51 (s : S) : n72_51 s = (asB (opv s.t (gC c72_51))).bind fun t => bif t then n72_52 s else n72_55 s := run_cond (annT 72) c72_52 c72_55 s (gC c72_51)
@[cbv_eval] theorem r_n72_37 (s : S) : n72_37 s = (n72_38 s).bind fun r => match r.1 with
    | .norm => n72_51 r.2
    | e => some (e, r.2) := run_seq (annT 72) c72_38 c72_51 s
@[cbv_eval] theorem r_n72_36 (s : S) : n72_36 s = (n72_37 s).map fun r => match r.1 with
    | .exit j => bif j == 1 then (.norm, r.2) else (.exit j, r.2)
    | e => (e, r.2) := run_block (annT 72) c72_37 s 1
@[cbv_eval] theorem r_n72_34 (s : S) : n72_34 s = (n72_35 s).bind fun r => match r.1 with
    | .norm => n72_36 r.2
    | e => some (e, r.2) := run_seq (annT 72) c72_35 c72_36 s
@[cbv_eval] theorem r_n72_77 (s : S) : n72_77 s = (stepsO X (annT 72) C (gO c72_77) (gO c72_77).toList s).map fun s' => (.norm, behindS (annT 72) 23 s') := run_region (annT 72) s 23 (gO c72_77) false rfl
@[cbv_eval] theorem r_n72_78 (s : S) : n72_78 s = some (.ret, s) := run_ret (annT 72) s
@[cbv_eval] theorem r_n72_76 (s : S) : n72_76 s = (n72_77 s).bind fun r => match r.1 with
    | .norm => n72_78 r.2
    | e => some (e, r.2) := run_seq (annT 72) c72_77 c72_78 s
@[cbv_eval] theorem r_n72_33 (s : S) : n72_33 s = (n72_34 s).bind fun r => match r.1 with
    | .norm => n72_76 r.2
    | e => some (e, r.2) := run_seq (annT 72) c72_34 c72_76 s
@[cbv_eval] theorem r_n72_25 (s : S) : n72_25 s = (n72_26 s).bind fun r => match r.1 with
    | .norm => n72_33 r.2
    | e => some (e, r.2) := run_seq (annT 72) c72_26 c72_33 s
@[cbv_eval] theorem r_n72_4 (s : S) : n72_4 s = (n72_5 s).bind fun r => match r.1 with
    | .norm => n72_25 r.2
    | e => some (e, r.2) := run_seq (annT 72) c72_5 c72_25 s
@[cbv_eval] theorem r_n72_2 (s : S) : n72_2 s = (n72_3 s).bind fun r => match r.1 with
    | .norm => n72_4 r.2
    | e => some (e, r.2) := run_seq (annT 72) c72_3 c72_4 s
@[cbv_eval] theorem r_n72_0 (s : S) : n72_0 s = (n72_1 s).bind fun r => match r.1 with
    | .norm => n72_2 r.2
    | e => some (e, r.2) := run_seq (annT 72) c72_1 c72_2 s
theorem p72 (ds : List D) : pureCall C 72 ds = ((n72_0 ⟨argsT 0 (ds.map .d), []⟩).bind (bodyR [.tmp 2])).bind prOf := P_eq Try.f72 rfl rfl rfl rfl ds
theorem q72 (vs : List AV) (st : Store) : C 72 vs st = (n72_0 ⟨argsT 0 vs, st⟩).bind (bodyR [.tmp 2]) := C_eq Try.f72 rfl rfl rfl rfl vs st

@[cbv_eval] theorem ann_47 : annT 47 = { keep := [(0, [1]), (1, [1, 3]), (2, [1, 3, 8]), (3, [1, 3]), (4, [1, 3, 17]), (5, [2]), (6, [2])], loops := [(2, [1, 3])] } := rfl
noncomputable def c47_0 : Code := Try.f47.body.getD .skip
noncomputable def n47_0 (s : S) : Option (Ex × S) := run (annT 47) c47_0 s
noncomputable def c47_1 : Code := gL c47_0
noncomputable def n47_1 (s : S) : Option (Ex × S) := run (annT 47) c47_1 s
noncomputable def c47_2 : Code := gR c47_0
noncomputable def n47_2 (s : S) : Option (Ex × S) := run (annT 47) c47_2 s
noncomputable def c47_3 : Code := gL c47_2
noncomputable def n47_3 (s : S) : Option (Ex × S) := run (annT 47) c47_3 s
noncomputable def c47_4 : Code := gL c47_3
noncomputable def n47_4 (s : S) : Option (Ex × S) := run (annT 47) c47_4 s
noncomputable def c47_5 : Code := gR c47_3
noncomputable def n47_5 (s : S) : Option (Ex × S) := run (annT 47) c47_5 s
noncomputable def c47_6 : Code := gB c47_5
noncomputable def n47_6 (s : S) : Option (Ex × S) := run (annT 47) c47_6 s
noncomputable def c47_7 : Code := gB c47_6
noncomputable def n47_7 (s : S) : Option (Ex × S) := run (annT 47) c47_7 s
noncomputable def c47_8 : Code := gL c47_7
noncomputable def n47_8 (s : S) : Option (Ex × S) := run (annT 47) c47_8 s
noncomputable def c47_9 : Code := gL c47_8
noncomputable def n47_9 (s : S) : Option (Ex × S) := run (annT 47) c47_9 s
noncomputable def c47_10 : Code := gR c47_8
noncomputable def n47_10 (s : S) : Option (Ex × S) := run (annT 47) c47_10 s
noncomputable def c47_11 : Code := gT c47_10
noncomputable def n47_11 (s : S) : Option (Ex × S) := run (annT 47) c47_11 s
noncomputable def c47_12 : Code := gF c47_10
noncomputable def n47_12 (s : S) : Option (Ex × S) := run (annT 47) c47_12 s
noncomputable def c47_13 : Code := gR c47_7
noncomputable def n47_13 (s : S) : Option (Ex × S) := run (annT 47) c47_13 s
noncomputable def c47_14 : Code := gL c47_13
noncomputable def n47_14 (s : S) : Option (Ex × S) := run (annT 47) c47_14 s
noncomputable def c47_15 : Code := gB c47_14
noncomputable def n47_15 (s : S) : Option (Ex × S) := run (annT 47) c47_15 s
noncomputable def c47_16 : Code := gL c47_15
noncomputable def n47_16 (s : S) : Option (Ex × S) := run (annT 47) c47_16 s
noncomputable def c47_17 : Code := gR c47_15
noncomputable def n47_17 (s : S) : Option (Ex × S) := run (annT 47) c47_17 s
noncomputable def c47_18 : Code := gT c47_17
noncomputable def n47_18 (s : S) : Option (Ex × S) := run (annT 47) c47_18 s
noncomputable def c47_19 : Code := gL c47_18
noncomputable def n47_19 (s : S) : Option (Ex × S) := run (annT 47) c47_19 s
noncomputable def c47_20 : Code := gR c47_18
noncomputable def n47_20 (s : S) : Option (Ex × S) := run (annT 47) c47_20 s
noncomputable def c47_21 : Code := gF c47_17
noncomputable def n47_21 (s : S) : Option (Ex × S) := run (annT 47) c47_21 s
noncomputable def c47_22 : Code := gR c47_13
noncomputable def n47_22 (s : S) : Option (Ex × S) := run (annT 47) c47_22 s
noncomputable def c47_23 : Code := gR c47_2
noncomputable def n47_23 (s : S) : Option (Ex × S) := run (annT 47) c47_23 s
noncomputable def c47_24 : Code := gL c47_23
noncomputable def n47_24 (s : S) : Option (Ex × S) := run (annT 47) c47_24 s
noncomputable def c47_25 : Code := gR c47_23
noncomputable def n47_25 (s : S) : Option (Ex × S) := run (annT 47) c47_25 s
attribute [cbv_opaque] n47_0 n47_1 n47_2 n47_3 n47_4 n47_5 n47_6 n47_7 n47_8 n47_9 n47_10 n47_11 n47_12 n47_13 n47_14 n47_15 n47_16 n47_17 n47_18 n47_19 n47_20 n47_21 n47_22 n47_23 n47_24 n47_25
@[cbv_eval] theorem r_n47_1 (s : S) : n47_1 s = (stepsO X (annT 47) C (gO c47_1) (gO c47_1).toList s).map fun s' => (.norm, behindS (annT 47) 0 s') := run_region (annT 47) s 0 (gO c47_1) false rfl
@[cbv_eval] theorem r_n47_4 (s : S) : n47_4 s = (stepsO X (annT 47) C (gO c47_4) (gO c47_4).toList s).map fun s' => (.norm, behindS (annT 47) 1 s') := run_region (annT 47) s 1 (gO c47_4) false rfl
@[cbv_eval] theorem r_n47_9 (s : S) : n47_9 s = (stepsO X (annT 47) C (gO c47_9) (gO c47_9).toList s).map fun s' => (.norm, behindS (annT 47) 2 s') := run_region (annT 47) s 2 (gO c47_9) false rfl
@[cbv_eval] theorem r_n47_11 (s : S) : n47_11 s = some (.norm, s) := run_skip (annT 47) s
@[cbv_eval] theorem r_n47_12 (s : S) : n47_12 s = some (.exit 0, s) := run_exit (annT 47) s 0
@[cbv_eval] theorem r_n47_10 (s : S) : n47_10 s = (asB (opv s.t (gC c47_10))).bind fun t => bif t then n47_11 s else n47_12 s := run_cond (annT 47) c47_11 c47_12 s (gC c47_10)
@[cbv_eval] theorem r_n47_8 (s : S) : n47_8 s = (n47_9 s).bind fun r => match r.1 with
    | .norm => n47_10 r.2
    | e => some (e, r.2) := run_seq (annT 47) c47_9 c47_10 s
@[cbv_eval] theorem r_n47_16 (s : S) : n47_16 s = (stepsO X (annT 47) C (gO c47_16) (gO c47_16).toList s).map fun s' => (.norm, behindS (annT 47) 4 s') := run_region (annT 47) s 4 (gO c47_16) false rfl
@[cbv_eval] theorem r_n47_19 (s : S) : n47_19 s = (stepsO X (annT 47) C (gO c47_19) (gO c47_19).toList s).map fun s' => (.norm, behindS (annT 47) 5 s') := run_region (annT 47) s 5 (gO c47_19) false rfl
@[cbv_eval] theorem r_n47_20 (s : S) : n47_20 s = some (.ret, s) := run_ret (annT 47) s
@[cbv_eval] theorem r_n47_18 (s : S) : n47_18 s = (n47_19 s).bind fun r => match r.1 with
    | .norm => n47_20 r.2
    | e => some (e, r.2) := run_seq (annT 47) c47_19 c47_20 s
@[cbv_eval] theorem r_n47_21 (s : S) : n47_21 s = some (.norm, s) := run_skip (annT 47) s
@[cbv_eval] theorem r_n47_17 (s : S) : n47_17 s = (asB (opv s.t (gC c47_17))).bind fun t => bif t then n47_18 s else n47_21 s := run_cond (annT 47) c47_18 c47_21 s (gC c47_17)
@[cbv_eval] theorem r_n47_15 (s : S) : n47_15 s = (n47_16 s).bind fun r => match r.1 with
    | .norm => n47_17 r.2
    | e => some (e, r.2) := run_seq (annT 47) c47_16 c47_17 s
@[cbv_eval] theorem r_n47_14 (s : S) : n47_14 s = (n47_15 s).map fun r => match r.1 with
    | .exit j => bif j == 1 then (.norm, r.2) else (.exit j, r.2)
    | e => (e, r.2) := run_block (annT 47) c47_15 s 1
@[cbv_eval] theorem r_n47_22 (s : S) : n47_22 s = (stepsO X (annT 47) C (gO c47_22) (gO c47_22).toList s).map fun s' => (.norm, behindS (annT 47) 3 s') := run_region (annT 47) s 3 (gO c47_22) false rfl
@[cbv_eval] theorem r_n47_13 (s : S) : n47_13 s = (n47_14 s).bind fun r => match r.1 with
    | .norm => n47_22 r.2
    | e => some (e, r.2) := run_seq (annT 47) c47_14 c47_22 s
@[cbv_eval] theorem r_n47_7 (s : S) : n47_7 s = (n47_8 s).bind fun r => match r.1 with
    | .norm => n47_13 r.2
    | e => some (e, r.2) := run_seq (annT 47) c47_8 c47_13 s
theorem r_n47_6 (s : S) : n47_6 s = (n47_7 s).bind fun r => match r.1 with
    | .norm => n47_6 (headS (annT 47) c47_7 s.st.length r.2)
    | e => some (e, r.2) := run_loop (annT 47) c47_7 s
@[cbv_eval] theorem r_n47_5 (s : S) : n47_5 s = (n47_6 s).map fun r => match r.1 with
    | .exit j => bif j == 0 then (.norm, r.2) else (.exit j, r.2)
    | e => (e, r.2) := run_block (annT 47) c47_6 s 0
@[cbv_eval] theorem r_n47_3 (s : S) : n47_3 s = (n47_4 s).bind fun r => match r.1 with
    | .norm => n47_5 r.2
    | e => some (e, r.2) := run_seq (annT 47) c47_4 c47_5 s
@[cbv_eval] theorem r_n47_24 (s : S) : n47_24 s = (stepsO X (annT 47) C (gO c47_24) (gO c47_24).toList s).map fun s' => (.norm, behindS (annT 47) 6 s') := run_region (annT 47) s 6 (gO c47_24) false rfl
@[cbv_eval] theorem r_n47_25 (s : S) : n47_25 s = some (.ret, s) := run_ret (annT 47) s
@[cbv_eval] theorem r_n47_23 (s : S) : n47_23 s = (n47_24 s).bind fun r => match r.1 with
    | .norm => n47_25 r.2
    | e => some (e, r.2) := run_seq (annT 47) c47_24 c47_25 s
@[cbv_eval] theorem r_n47_2 (s : S) : n47_2 s = (n47_3 s).bind fun r => match r.1 with
    | .norm => n47_23 r.2
    | e => some (e, r.2) := run_seq (annT 47) c47_3 c47_23 s
@[cbv_eval] theorem r_n47_0 (s : S) : n47_0 s = (n47_1 s).bind fun r => match r.1 with
    | .norm => n47_2 r.2
    | e => some (e, r.2) := run_seq (annT 47) c47_1 c47_2 s
theorem p47 (ds : List D) : pureCall C 47 ds = ((n47_0 ⟨argsT 0 (ds.map .d), []⟩).bind (bodyR [.tmp 2])).bind prOf := P_eq Try.f47 rfl rfl rfl rfl ds
theorem q47 (vs : List AV) (st : Store) : C 47 vs st = (n47_0 ⟨argsT 0 vs, st⟩).bind (bodyR [.tmp 2]) := C_eq Try.f47 rfl rfl rfl rfl vs st

@[cbv_eval] theorem ann_24 : annT 24 = { keep := [(0, [1]), (1, [15]), (2, [2]), (3, [2])], loops := [] } := rfl
noncomputable def c24_0 : Code := Try.f24.body.getD .skip
noncomputable def n24_0 (s : S) : Option (Ex × S) := run (annT 24) c24_0 s
noncomputable def c24_1 : Code := gL c24_0
noncomputable def n24_1 (s : S) : Option (Ex × S) := run (annT 24) c24_1 s
noncomputable def c24_2 : Code := gR c24_0
noncomputable def n24_2 (s : S) : Option (Ex × S) := run (annT 24) c24_2 s
noncomputable def c24_3 : Code := gL c24_2
noncomputable def n24_3 (s : S) : Option (Ex × S) := run (annT 24) c24_3 s
noncomputable def c24_4 : Code := gL c24_3
noncomputable def n24_4 (s : S) : Option (Ex × S) := run (annT 24) c24_4 s
noncomputable def c24_5 : Code := gR c24_3
noncomputable def n24_5 (s : S) : Option (Ex × S) := run (annT 24) c24_5 s
noncomputable def c24_6 : Code := gT c24_5
noncomputable def n24_6 (s : S) : Option (Ex × S) := run (annT 24) c24_6 s
noncomputable def c24_7 : Code := gL c24_6
noncomputable def n24_7 (s : S) : Option (Ex × S) := run (annT 24) c24_7 s
noncomputable def c24_8 : Code := gR c24_6
noncomputable def n24_8 (s : S) : Option (Ex × S) := run (annT 24) c24_8 s
noncomputable def c24_9 : Code := gF c24_5
noncomputable def n24_9 (s : S) : Option (Ex × S) := run (annT 24) c24_9 s
noncomputable def c24_10 : Code := gR c24_2
noncomputable def n24_10 (s : S) : Option (Ex × S) := run (annT 24) c24_10 s
noncomputable def c24_11 : Code := gL c24_10
noncomputable def n24_11 (s : S) : Option (Ex × S) := run (annT 24) c24_11 s
noncomputable def c24_12 : Code := gR c24_10
noncomputable def n24_12 (s : S) : Option (Ex × S) := run (annT 24) c24_12 s
attribute [cbv_opaque] n24_0 n24_1 n24_2 n24_3 n24_4 n24_5 n24_6 n24_7 n24_8 n24_9 n24_10 n24_11 n24_12
@[cbv_eval] theorem r_n24_1 (s : S) : n24_1 s = (stepsO X (annT 24) C (gO c24_1) (gO c24_1).toList s).map fun s' => (.norm, behindS (annT 24) 0 s') := run_region (annT 24) s 0 (gO c24_1) false rfl
@[cbv_eval] theorem r_n24_4 (s : S) : n24_4 s = (stepsO X (annT 24) C (gO c24_4) (gO c24_4).toList s).map fun s' => (.norm, behindS (annT 24) 1 s') := run_region (annT 24) s 1 (gO c24_4) false rfl
@[cbv_eval] theorem r_n24_7 (s : S) : n24_7 s = (stepsO X (annT 24) C (gO c24_7) (gO c24_7).toList s).map fun s' => (.norm, behindS (annT 24) 2 s') := run_region (annT 24) s 2 (gO c24_7) false rfl
@[cbv_eval] theorem r_n24_8 (s : S) : n24_8 s = some (.ret, s) := run_ret (annT 24) s
@[cbv_eval] theorem r_n24_6 (s : S) : n24_6 s = (n24_7 s).bind fun r => match r.1 with
    | .norm => n24_8 r.2
    | e => some (e, r.2) := run_seq (annT 24) c24_7 c24_8 s
@[cbv_eval] theorem r_n24_9 (s : S) : n24_9 s = some (.norm, s) := run_skip (annT 24) s
@[cbv_eval] theorem r_n24_5 (s : S) : n24_5 s = (asB (opv s.t (gC c24_5))).bind fun t => bif t then n24_6 s else n24_9 s := run_cond (annT 24) c24_6 c24_9 s (gC c24_5)
@[cbv_eval] theorem r_n24_3 (s : S) : n24_3 s = (n24_4 s).bind fun r => match r.1 with
    | .norm => n24_5 r.2
    | e => some (e, r.2) := run_seq (annT 24) c24_4 c24_5 s
@[cbv_eval] theorem r_n24_11 (s : S) : n24_11 s = (stepsO X (annT 24) C (gO c24_11) (gO c24_11).toList s).map fun s' => (.norm, behindS (annT 24) 3 s') := run_region (annT 24) s 3 (gO c24_11) false rfl
@[cbv_eval] theorem r_n24_12 (s : S) : n24_12 s = some (.ret, s) := run_ret (annT 24) s
@[cbv_eval] theorem r_n24_10 (s : S) : n24_10 s = (n24_11 s).bind fun r => match r.1 with
    | .norm => n24_12 r.2
    | e => some (e, r.2) := run_seq (annT 24) c24_11 c24_12 s
@[cbv_eval] theorem r_n24_2 (s : S) : n24_2 s = (n24_3 s).bind fun r => match r.1 with
    | .norm => n24_10 r.2
    | e => some (e, r.2) := run_seq (annT 24) c24_3 c24_10 s
@[cbv_eval] theorem r_n24_0 (s : S) : n24_0 s = (n24_1 s).bind fun r => match r.1 with
    | .norm => n24_2 r.2
    | e => some (e, r.2) := run_seq (annT 24) c24_1 c24_2 s
theorem p24 (ds : List D) : pureCall C 24 ds = ((n24_0 ⟨argsT 0 (ds.map .d), []⟩).bind (bodyR [.tmp 2])).bind prOf := P_eq Try.f24 rfl rfl rfl rfl ds
theorem q24 (vs : List AV) (st : Store) : C 24 vs st = (n24_0 ⟨argsT 0 vs, st⟩).bind (bodyR [.tmp 2]) := C_eq Try.f24 rfl rfl rfl rfl vs st
end Go.L25
