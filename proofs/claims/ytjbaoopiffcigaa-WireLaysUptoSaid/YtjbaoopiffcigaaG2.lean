/- Layer 25: codes by their parts. Conditions: none. -/
import Derived.Test.YtjbaoopiffcigaaG1
set_option linter.unusedVariables false
namespace Go.L25
open Go Go.Eng Go.Proofs
set_option maxRecDepth 100000
attribute [cbv_opaque] annT

@[cbv_eval] theorem ann_83 : annT 83 = { keep := [(0, [0, 1, 2, 6]), (1, [0, 1, 2, 6, 22]), (2, [6, 7]), (3, [2, 6, 8]), (4, [6, 8]), (5, [6, 7])], loops := [] } := rfl
noncomputable def c83_0 : Code := Try.f83.body.getD .skip
noncomputable def n83_0 (s : S) : Option (Ex × S) := run (annT 83) c83_0 s
noncomputable def c83_1 : Code := gL c83_0
noncomputable def n83_1 (s : S) : Option (Ex × S) := run (annT 83) c83_1 s
noncomputable def c83_2 : Code := gR c83_0
noncomputable def n83_2 (s : S) : Option (Ex × S) := run (annT 83) c83_2 s
noncomputable def c83_3 : Code := gL c83_2
noncomputable def n83_3 (s : S) : Option (Ex × S) := run (annT 83) c83_3 s
noncomputable def c83_4 : Code := gL c83_3
noncomputable def n83_4 (s : S) : Option (Ex × S) := run (annT 83) c83_4 s
noncomputable def c83_5 : Code := gR c83_3
noncomputable def n83_5 (s : S) : Option (Ex × S) := run (annT 83) c83_5 s
noncomputable def c83_6 : Code := gT c83_5
noncomputable def n83_6 (s : S) : Option (Ex × S) := run (annT 83) c83_6 s
noncomputable def c83_7 : Code := gL c83_6
noncomputable def n83_7 (s : S) : Option (Ex × S) := run (annT 83) c83_7 s
noncomputable def c83_8 : Code := gR c83_6
noncomputable def n83_8 (s : S) : Option (Ex × S) := run (annT 83) c83_8 s
noncomputable def c83_9 : Code := gF c83_5
noncomputable def n83_9 (s : S) : Option (Ex × S) := run (annT 83) c83_9 s
noncomputable def c83_10 : Code := gR c83_2
noncomputable def n83_10 (s : S) : Option (Ex × S) := run (annT 83) c83_10 s
noncomputable def c83_11 : Code := gL c83_10
noncomputable def n83_11 (s : S) : Option (Ex × S) := run (annT 83) c83_11 s
noncomputable def c83_12 : Code := gR c83_10
noncomputable def n83_12 (s : S) : Option (Ex × S) := run (annT 83) c83_12 s
noncomputable def c83_13 : Code := gL c83_12
noncomputable def n83_13 (s : S) : Option (Ex × S) := run (annT 83) c83_13 s
noncomputable def c83_14 : Code := gR c83_12
noncomputable def n83_14 (s : S) : Option (Ex × S) := run (annT 83) c83_14 s
noncomputable def c83_15 : Code := gL c83_14
noncomputable def n83_15 (s : S) : Option (Ex × S) := run (annT 83) c83_15 s
noncomputable def c83_16 : Code := gR c83_14
noncomputable def n83_16 (s : S) : Option (Ex × S) := run (annT 83) c83_16 s
attribute [cbv_opaque] n83_0 n83_1 n83_2 n83_3 n83_4 n83_5 n83_6 n83_7 n83_8 n83_9 n83_10 n83_11 n83_12 n83_13 n83_14 n83_15 n83_16
@[cbv_eval] theorem r_n83_1 (s : S) : n83_1 s = (stepsO X (annT 83) C (gO c83_1) (gO c83_1).toList s).map fun s' => (.norm, behindS (annT 83) 0 s') := run_region (annT 83) s 0 (gO c83_1) false rfl
@[cbv_eval] theorem r_n83_4 (s : S) : n83_4 s = (stepsO X (annT 83) C (gO c83_4) (gO c83_4).toList s).map fun s' => (.norm, behindS (annT 83) 1 s') := run_region (annT 83) s 1 (gO c83_4) false rfl
@[cbv_eval] theorem r_n83_7 (s : S) : n83_7 s = (stepsO X (annT 83) C (gO c83_7) (gO c83_7).toList s).map fun s' => (.norm, behindS (annT 83) 2 s') := run_region (annT 83) s 2 (gO c83_7) false rfl
@[cbv_eval] theorem r_n83_8 (s : S) : n83_8 s = some (.ret, s) := run_ret (annT 83) s
@[cbv_eval] theorem r_n83_6 (s : S) : n83_6 s = (n83_7 s).bind fun r => match r.1 with
    | .norm => n83_8 r.2
    | e => some (e, r.2) := run_seq (annT 83) c83_7 c83_8 s
@[cbv_eval] theorem r_n83_9 (s : S) : n83_9 s = some (.norm, s) := run_skip (annT 83) s
@[cbv_eval] theorem r_n83_5 (s : S) : n83_5 s = (asB (opv s.t (gC c83_5))).bind fun t => bif t then n83_6 s else n83_9 s := run_cond (annT 83) c83_6 c83_9 s (gC c83_5)
@[cbv_eval] theorem r_n83_3 (s : S) : n83_3 s = (n83_4 s).bind fun r => match r.1 with
    | .norm => n83_5 r.2
    | e => some (e, r.2) := run_seq (annT 83) c83_4 c83_5 s
@[cbv_eval] theorem r_n83_11 (s : S) : n83_11 s = (stepsO X (annT 83) C (gO c83_11) (gO c83_11).toList s).map fun s' => (.norm, behindS (annT 83) 3 s') := run_region (annT 83) s 3 (gO c83_11) false rfl
@[cbv_eval] theorem r_n83_13 (s : S) : n83_13 s = (stepsO X (annT 83) C (gO c83_13) (gO c83_13).toList s).map fun s' => (.norm, behindS (annT 83) 4 s') := run_region (annT 83) s 4 (gO c83_13) false rfl
@[cbv_eval] theorem r_n83_15 (s : S) : n83_15 s = (stepsO X (annT 83) C (gO c83_15) (gO c83_15).toList s).map fun s' => (.norm, behindS (annT 83) 5 s') := run_region (annT 83) s 5 (gO c83_15) false rfl
@[cbv_eval] theorem r_n83_16 (s : S) : n83_16 s = some (.ret, s) := run_ret (annT 83) s
@[cbv_eval] theorem r_n83_14 (s : S) : n83_14 s = (n83_15 s).bind fun r => match r.1 with
    | .norm => n83_16 r.2
    | e => some (e, r.2) := run_seq (annT 83) c83_15 c83_16 s
@[cbv_eval] theorem r_n83_12 (s : S) : n83_12 s = (n83_13 s).bind fun r => match r.1 with
    | .norm => n83_14 r.2
    | e => some (e, r.2) := run_seq (annT 83) c83_13 c83_14 s
@[cbv_eval] theorem r_n83_10 (s : S) : n83_10 s = (n83_11 s).bind fun r => match r.1 with
    | .norm => n83_12 r.2
    | e => some (e, r.2) := run_seq (annT 83) c83_11 c83_12 s
@[cbv_eval] theorem r_n83_2 (s : S) : n83_2 s = (n83_3 s).bind fun r => match r.1 with
    | .norm => n83_10 r.2
    | e => some (e, r.2) := run_seq (annT 83) c83_3 c83_10 s
@[cbv_eval] theorem r_n83_0 (s : S) : n83_0 s = (n83_1 s).bind fun r => match r.1 with
    | .norm => n83_2 r.2
    | e => some (e, r.2) := run_seq (annT 83) c83_1 c83_2 s
theorem p83 (ds : List D) : pureCall C 83 ds = ((n83_0 ⟨argsT 0 (ds.map .d), []⟩).bind (bodyR [.cell 6 32, .tmp 7])).bind prOf := P_eq Try.f83 rfl rfl rfl rfl ds
theorem q83 (vs : List AV) (st : Store) : C 83 vs st = (n83_0 ⟨argsT 0 vs, st⟩).bind (bodyR [.cell 6 32, .tmp 7]) := C_eq Try.f83 rfl rfl rfl rfl vs st

@[cbv_eval] theorem ann_84 : annT 84 = { keep := [(0, [])], loops := [] } := rfl
noncomputable def c84_0 : Code := Try.f84.body.getD .skip
noncomputable def n84_0 (s : S) : Option (Ex × S) := run (annT 84) c84_0 s
attribute [cbv_opaque] n84_0
@[cbv_eval] theorem r_n84_0 (s : S) : n84_0 s = (stepsO X (annT 84) C (gO c84_0) (gO c84_0).toList s).map fun s' => (.norm, behindS (annT 84) 0 s') := run_region (annT 84) s 0 (gO c84_0) false rfl
theorem p84 (ds : List D) : pureCall C 84 ds = ((n84_0 ⟨argsT 0 (ds.map .d), []⟩).bind (bodyR [])).bind prOf := P_eq Try.f84 rfl rfl rfl rfl ds
theorem q84 (vs : List AV) (st : Store) : C 84 vs st = (n84_0 ⟨argsT 0 vs, st⟩).bind (bodyR []) := C_eq Try.f84 rfl rfl rfl rfl vs st

@[cbv_eval] theorem ann_85 : annT 85 = { keep := [(0, [0]), (1, [0, 4]), (2, [2]), (3, [2])], loops := [] } := rfl
noncomputable def c85_0 : Code := Try.f85.body.getD .skip
noncomputable def n85_0 (s : S) : Option (Ex × S) := run (annT 85) c85_0 s
noncomputable def c85_1 : Code := gL c85_0
noncomputable def n85_1 (s : S) : Option (Ex × S) := run (annT 85) c85_1 s
noncomputable def c85_2 : Code := gR c85_0
noncomputable def n85_2 (s : S) : Option (Ex × S) := run (annT 85) c85_2 s
noncomputable def c85_3 : Code := gL c85_2
noncomputable def n85_3 (s : S) : Option (Ex × S) := run (annT 85) c85_3 s
noncomputable def c85_4 : Code := gL c85_3
noncomputable def n85_4 (s : S) : Option (Ex × S) := run (annT 85) c85_4 s
noncomputable def c85_5 : Code := gR c85_3
noncomputable def n85_5 (s : S) : Option (Ex × S) := run (annT 85) c85_5 s
noncomputable def c85_6 : Code := gT c85_5
noncomputable def n85_6 (s : S) : Option (Ex × S) := run (annT 85) c85_6 s
noncomputable def c85_7 : Code := gL c85_6
noncomputable def n85_7 (s : S) : Option (Ex × S) := run (annT 85) c85_7 s
noncomputable def c85_8 : Code := gR c85_6
noncomputable def n85_8 (s : S) : Option (Ex × S) := run (annT 85) c85_8 s
noncomputable def c85_9 : Code := gF c85_5
noncomputable def n85_9 (s : S) : Option (Ex × S) := run (annT 85) c85_9 s
noncomputable def c85_10 : Code := gR c85_2
noncomputable def n85_10 (s : S) : Option (Ex × S) := run (annT 85) c85_10 s
noncomputable def c85_11 : Code := gL c85_10
noncomputable def n85_11 (s : S) : Option (Ex × S) := run (annT 85) c85_11 s
noncomputable def c85_12 : Code := gR c85_10
noncomputable def n85_12 (s : S) : Option (Ex × S) := run (annT 85) c85_12 s
attribute [cbv_opaque] n85_0 n85_1 n85_2 n85_3 n85_4 n85_5 n85_6 n85_7 n85_8 n85_9 n85_10 n85_11 n85_12
@[cbv_eval] theorem r_n85_1 (s : S) : n85_1 s = (stepsO X (annT 85) C (gO c85_1) (gO c85_1).toList s).map fun s' => (.norm, behindS (annT 85) 0 s') := run_region (annT 85) s 0 (gO c85_1) false rfl
@[cbv_eval] theorem r_n85_4 (s : S) : n85_4 s = (stepsO X (annT 85) C (gO c85_4) (gO c85_4).toList s).map fun s' => (.norm, behindS (annT 85) 1 s') := run_region (annT 85) s 1 (gO c85_4) false rfl
@[cbv_eval] theorem r_n85_7 (s : S) : n85_7 s = (stepsO X (annT 85) C (gO c85_7) (gO c85_7).toList s).map fun s' => (.norm, behindS (annT 85) 2 s') := run_region (annT 85) s 2 (gO c85_7) false rfl
@[cbv_eval] theorem r_n85_8 (s : S) : n85_8 s = some (.ret, s) := run_ret (annT 85) s
@[cbv_eval] theorem r_n85_6 (s : S) : n85_6 s = (n85_7 s).bind fun r => match r.1 with
    | .norm => n85_8 r.2
    | e => some (e, r.2) := run_seq (annT 85) c85_7 c85_8 s
@[cbv_eval] theorem r_n85_9 (s : S) : n85_9 s = some (.norm, s) := run_skip (annT 85) s
@[cbv_eval] theorem r_n85_5 (s : S) : n85_5 s = (asB (opv s.t (gC c85_5))).bind fun t => bif t then n85_6 s else n85_9 s := run_cond (annT 85) c85_6 c85_9 s (gC c85_5)
@[cbv_eval] theorem r_n85_3 (s : S) : n85_3 s = (n85_4 s).bind fun r => match r.1 with
    | .norm => n85_5 r.2
    | e => some (e, r.2) := run_seq (annT 85) c85_4 c85_5 s
@[cbv_eval] theorem r_n85_11 (s : S) : n85_11 s = (stepsO X (annT 85) C (gO c85_11) (gO c85_11).toList s).map fun s' => (.norm, behindS (annT 85) 3 s') := run_region (annT 85) s 3 (gO c85_11) false rfl
@[cbv_eval] theorem r_n85_12 (s : S) : n85_12 s = some (.ret, s) := run_ret (annT 85) s
@[cbv_eval] theorem r_n85_10 (s : S) : n85_10 s = (n85_11 s).bind fun r => match r.1 with
    | .norm => n85_12 r.2
    | e => some (e, r.2) := run_seq (annT 85) c85_11 c85_12 s
@[cbv_eval] theorem r_n85_2 (s : S) : n85_2 s = (n85_3 s).bind fun r => match r.1 with
    | .norm => n85_10 r.2
    | e => some (e, r.2) := run_seq (annT 85) c85_3 c85_10 s
@[cbv_eval] theorem r_n85_0 (s : S) : n85_0 s = (n85_1 s).bind fun r => match r.1 with
    | .norm => n85_2 r.2
    | e => some (e, r.2) := run_seq (annT 85) c85_1 c85_2 s
theorem p85 (ds : List D) : pureCall C 85 ds = ((n85_0 ⟨argsT 0 (ds.map .d), []⟩).bind (bodyR [.tmp 2])).bind prOf := P_eq Try.f85 rfl rfl rfl rfl ds
theorem q85 (vs : List AV) (st : Store) : C 85 vs st = (n85_0 ⟨argsT 0 vs, st⟩).bind (bodyR [.tmp 2]) := C_eq Try.f85 rfl rfl rfl rfl vs st

@[cbv_eval] theorem ann_86 : annT 86 = { keep := [(0, [])], loops := [] } := rfl
noncomputable def c86_0 : Code := Try.f86.body.getD .skip
noncomputable def n86_0 (s : S) : Option (Ex × S) := run (annT 86) c86_0 s
attribute [cbv_opaque] n86_0
@[cbv_eval] theorem r_n86_0 (s : S) : n86_0 s = (stepsO X (annT 86) C (gO c86_0) (gO c86_0).toList s).map fun s' => (.norm, behindS (annT 86) 0 s') := run_region (annT 86) s 0 (gO c86_0) false rfl
theorem p86 (ds : List D) : pureCall C 86 ds = ((n86_0 ⟨argsT 0 (ds.map .d), []⟩).bind (bodyR [])).bind prOf := P_eq Try.f86 rfl rfl rfl rfl ds
theorem q86 (vs : List AV) (st : Store) : C 86 vs st = (n86_0 ⟨argsT 0 vs, st⟩).bind (bodyR []) := C_eq Try.f86 rfl rfl rfl rfl vs st

@[cbv_eval] theorem ann_87 : annT 87 = { keep := [(0, [0, 1]), (1, [0, 6]), (2, [])], loops := [] } := rfl
noncomputable def c87_0 : Code := Try.f87.body.getD .skip
noncomputable def n87_0 (s : S) : Option (Ex × S) := run (annT 87) c87_0 s
noncomputable def c87_1 : Code := gL c87_0
noncomputable def n87_1 (s : S) : Option (Ex × S) := run (annT 87) c87_1 s
noncomputable def c87_2 : Code := gR c87_0
noncomputable def n87_2 (s : S) : Option (Ex × S) := run (annT 87) c87_2 s
noncomputable def c87_3 : Code := gL c87_2
noncomputable def n87_3 (s : S) : Option (Ex × S) := run (annT 87) c87_3 s
noncomputable def c87_4 : Code := gR c87_2
noncomputable def n87_4 (s : S) : Option (Ex × S) := run (annT 87) c87_4 s
noncomputable def c87_5 : Code := gT c87_4
noncomputable def n87_5 (s : S) : Option (Ex × S) := run (annT 87) c87_5 s
noncomputable def c87_6 : Code := gF c87_4
noncomputable def n87_6 (s : S) : Option (Ex × S) := run (annT 87) c87_6 s
attribute [cbv_opaque] n87_0 n87_1 n87_2 n87_3 n87_4 n87_5 n87_6
@[cbv_eval] theorem r_n87_1 (s : S) : n87_1 s = (stepsO X (annT 87) C (gO c87_1) (gO c87_1).toList s).map fun s' => (.norm, behindS (annT 87) 0 s') := run_region (annT 87) s 0 (gO c87_1) false rfl
@[cbv_eval] theorem r_n87_3 (s : S) : n87_3 s = (stepsO X (annT 87) C (gO c87_3) (gO c87_3).toList s).map fun s' => (.norm, behindS (annT 87) 1 s') := run_region (annT 87) s 1 (gO c87_3) false rfl
@[cbv_eval] theorem r_n87_5 (s : S) : n87_5 s = (stepsO X (annT 87) C (gO c87_5) (gO c87_5).toList s).map fun s' => (.norm, behindS (annT 87) 2 s') := run_region (annT 87) s 2 (gO c87_5) false rfl
@[cbv_eval] theorem r_n87_6 (s : S) : n87_6 s = some (.norm, s) := run_skip (annT 87) s
@[cbv_eval] theorem r_n87_4 (s : S) : n87_4 s = (asB (opv s.t (gC c87_4))).bind fun t => bif t then n87_5 s else n87_6 s := run_cond (annT 87) c87_5 c87_6 s (gC c87_4)
@[cbv_eval] theorem r_n87_2 (s : S) : n87_2 s = (n87_3 s).bind fun r => match r.1 with
    | .norm => n87_4 r.2
    | e => some (e, r.2) := run_seq (annT 87) c87_3 c87_4 s
@[cbv_eval] theorem r_n87_0 (s : S) : n87_0 s = (n87_1 s).bind fun r => match r.1 with
    | .norm => n87_2 r.2
    | e => some (e, r.2) := run_seq (annT 87) c87_1 c87_2 s
theorem p87 (ds : List D) : pureCall C 87 ds = ((n87_0 ⟨argsT 0 (ds.map .d), []⟩).bind (bodyR [])).bind prOf := P_eq Try.f87 rfl rfl rfl rfl ds
theorem q87 (vs : List AV) (st : Store) : C 87 vs st = (n87_0 ⟨argsT 0 vs, st⟩).bind (bodyR []) := C_eq Try.f87 rfl rfl rfl rfl vs st

@[cbv_eval] theorem ann_66 : annT 66 = { keep := [(0, [0, 1, 5, 6]), (1, [6, 7])], loops := [] } := rfl
noncomputable def c66_0 : Code := Try.f66.body.getD .skip
noncomputable def n66_0 (s : S) : Option (Ex × S) := run (annT 66) c66_0 s
noncomputable def c66_1 : Code := gL c66_0
noncomputable def n66_1 (s : S) : Option (Ex × S) := run (annT 66) c66_1 s
noncomputable def c66_2 : Code := gR c66_0
noncomputable def n66_2 (s : S) : Option (Ex × S) := run (annT 66) c66_2 s
noncomputable def c66_3 : Code := gL c66_2
noncomputable def n66_3 (s : S) : Option (Ex × S) := run (annT 66) c66_3 s
noncomputable def c66_4 : Code := gR c66_2
noncomputable def n66_4 (s : S) : Option (Ex × S) := run (annT 66) c66_4 s
attribute [cbv_opaque] n66_0 n66_1 n66_2 n66_3 n66_4
@[cbv_eval] theorem r_n66_1 (s : S) : n66_1 s = (stepsO X (annT 66) C (gO c66_1) (gO c66_1).toList s).map fun s' => (.norm, behindS (annT 66) 0 s') := run_region (annT 66) s 0 (gO c66_1) false rfl
@[cbv_eval] theorem r_n66_3 (s : S) : n66_3 s = (stepsO X (annT 66) C (gO c66_3) (gO c66_3).toList s).map fun s' => (.norm, behindS (annT 66) 1 s') := run_region (annT 66) s 1 (gO c66_3) false rfl
@[cbv_eval] theorem r_n66_4 (s : S) : n66_4 s = some (.ret, s) := run_ret (annT 66) s
@[cbv_eval] theorem r_n66_2 (s : S) : n66_2 s = (n66_3 s).bind fun r => match r.1 with
    | .norm => n66_4 r.2
    | e => some (e, r.2) := run_seq (annT 66) c66_3 c66_4 s
@[cbv_eval] theorem r_n66_0 (s : S) : n66_0 s = (n66_1 s).bind fun r => match r.1 with
    | .norm => n66_2 r.2
    | e => some (e, r.2) := run_seq (annT 66) c66_1 c66_2 s
theorem p66 (ds : List D) : pureCall C 66 ds = ((n66_0 ⟨argsT 0 (ds.map .d), []⟩).bind (bodyR [.cell 6 32, .tmp 7])).bind prOf := P_eq Try.f66 rfl rfl rfl rfl ds
theorem q66 (vs : List AV) (st : Store) : C 66 vs st = (n66_0 ⟨argsT 0 vs, st⟩).bind (bodyR [.cell 6 32, .tmp 7]) := C_eq Try.f66 rfl rfl rfl rfl vs st

@[cbv_eval] theorem ann_67 : annT 67 = { keep := [(0, [0, 1, 5, 6]), (1, [6, 7])], loops := [] } := rfl
noncomputable def c67_0 : Code := Try.f67.body.getD .skip
noncomputable def n67_0 (s : S) : Option (Ex × S) := run (annT 67) c67_0 s
noncomputable def c67_1 : Code := gL c67_0
noncomputable def n67_1 (s : S) : Option (Ex × S) := run (annT 67) c67_1 s
noncomputable def c67_2 : Code := gR c67_0
noncomputable def n67_2 (s : S) : Option (Ex × S) := run (annT 67) c67_2 s
noncomputable def c67_3 : Code := gL c67_2
noncomputable def n67_3 (s : S) : Option (Ex × S) := run (annT 67) c67_3 s
noncomputable def c67_4 : Code := gR c67_2
noncomputable def n67_4 (s : S) : Option (Ex × S) := run (annT 67) c67_4 s
attribute [cbv_opaque] n67_0 n67_1 n67_2 n67_3 n67_4
@[cbv_eval] theorem r_n67_1 (s : S) : n67_1 s = (stepsO X (annT 67) C (gO c67_1) (gO c67_1).toList s).map fun s' => (.norm, behindS (annT 67) 0 s') := run_region (annT 67) s 0 (gO c67_1) false rfl
@[cbv_eval] theorem r_n67_3 (s : S) : n67_3 s = (stepsO X (annT 67) C (gO c67_3) (gO c67_3).toList s).map fun s' => (.norm, behindS (annT 67) 1 s') := run_region (annT 67) s 1 (gO c67_3) false rfl
@[cbv_eval] theorem r_n67_4 (s : S) : n67_4 s = some (.ret, s) := run_ret (annT 67) s
@[cbv_eval] theorem r_n67_2 (s : S) : n67_2 s = (n67_3 s).bind fun r => match r.1 with
    | .norm => n67_4 r.2
    | e => some (e, r.2) := run_seq (annT 67) c67_3 c67_4 s
@[cbv_eval] theorem r_n67_0 (s : S) : n67_0 s = (n67_1 s).bind fun r => match r.1 with
    | .norm => n67_2 r.2
    | e => some (e, r.2) := run_seq (annT 67) c67_1 c67_2 s
theorem p67 (ds : List D) : pureCall C 67 ds = ((n67_0 ⟨argsT 0 (ds.map .d), []⟩).bind (bodyR [.cell 6 32, .tmp 7])).bind prOf := P_eq Try.f67 rfl rfl rfl rfl ds
theorem q67 (vs : List AV) (st : Store) : C 67 vs st = (n67_0 ⟨argsT 0 vs, st⟩).bind (bodyR [.cell 6 32, .tmp 7]) := C_eq Try.f67 rfl rfl rfl rfl vs st

@[cbv_eval] theorem ann_69 : annT 69 = { keep := [(0, [0, 1, 5, 6]), (1, [6, 7])], loops := [] } := rfl
noncomputable def c69_0 : Code := Try.f69.body.getD .skip
noncomputable def n69_0 (s : S) : Option (Ex × S) := run (annT 69) c69_0 s
noncomputable def c69_1 : Code := gL c69_0
noncomputable def n69_1 (s : S) : Option (Ex × S) := run (annT 69) c69_1 s
noncomputable def c69_2 : Code := gR c69_0
noncomputable def n69_2 (s : S) : Option (Ex × S) := run (annT 69) c69_2 s
noncomputable def c69_3 : Code := gL c69_2
noncomputable def n69_3 (s : S) : Option (Ex × S) := run (annT 69) c69_3 s
noncomputable def c69_4 : Code := gR c69_2
noncomputable def n69_4 (s : S) : Option (Ex × S) := run (annT 69) c69_4 s
attribute [cbv_opaque] n69_0 n69_1 n69_2 n69_3 n69_4
@[cbv_eval] theorem r_n69_1 (s : S) : n69_1 s = (stepsO X (annT 69) C (gO c69_1) (gO c69_1).toList s).map fun s' => (.norm, behindS (annT 69) 0 s') := run_region (annT 69) s 0 (gO c69_1) false rfl
@[cbv_eval] theorem r_n69_3 (s : S) : n69_3 s = (stepsO X (annT 69) C (gO c69_3) (gO c69_3).toList s).map fun s' => (.norm, behindS (annT 69) 1 s') := run_region (annT 69) s 1 (gO c69_3) false rfl
@[cbv_eval] theorem r_n69_4 (s : S) : n69_4 s = some (.ret, s) := run_ret (annT 69) s
@[cbv_eval] theorem r_n69_2 (s : S) : n69_2 s = (n69_3 s).bind fun r => match r.1 with
    | .norm => n69_4 r.2
    | e => some (e, r.2) := run_seq (annT 69) c69_3 c69_4 s
@[cbv_eval] theorem r_n69_0 (s : S) : n69_0 s = (n69_1 s).bind fun r => match r.1 with
    | .norm => n69_2 r.2
    | e => some (e, r.2) := run_seq (annT 69) c69_1 c69_2 s
theorem p69 (ds : List D) : pureCall C 69 ds = ((n69_0 ⟨argsT 0 (ds.map .d), []⟩).bind (bodyR [.cell 6 32, .tmp 7])).bind prOf := P_eq Try.f69 rfl rfl rfl rfl ds
theorem q69 (vs : List AV) (st : Store) : C 69 vs st = (n69_0 ⟨argsT 0 vs, st⟩).bind (bodyR [.cell 6 32, .tmp 7]) := C_eq Try.f69 rfl rfl rfl rfl vs st

@[cbv_eval] theorem ann_41 : annT 41 = { keep := [(0, [0, 1, 4]), (1, [4, 5]), (2, [4])], loops := [] } := rfl
noncomputable def c41_0 : Code := Try.f41.body.getD .skip
noncomputable def n41_0 (s : S) : Option (Ex × S) := run (annT 41) c41_0 s
noncomputable def c41_1 : Code := gL c41_0
noncomputable def n41_1 (s : S) : Option (Ex × S) := run (annT 41) c41_1 s
noncomputable def c41_2 : Code := gR c41_0
noncomputable def n41_2 (s : S) : Option (Ex × S) := run (annT 41) c41_2 s
noncomputable def c41_3 : Code := gL c41_2
noncomputable def n41_3 (s : S) : Option (Ex × S) := run (annT 41) c41_3 s
noncomputable def c41_4 : Code := gR c41_2
noncomputable def n41_4 (s : S) : Option (Ex × S) := run (annT 41) c41_4 s
noncomputable def c41_5 : Code := gL c41_4
noncomputable def n41_5 (s : S) : Option (Ex × S) := run (annT 41) c41_5 s
noncomputable def c41_6 : Code := gR c41_4
noncomputable def n41_6 (s : S) : Option (Ex × S) := run (annT 41) c41_6 s
attribute [cbv_opaque] n41_0 n41_1 n41_2 n41_3 n41_4 n41_5 n41_6
@[cbv_eval] theorem r_n41_1 (s : S) : n41_1 s = (stepsO X (annT 41) C (gO c41_1) (gO c41_1).toList s).map fun s' => (.norm, behindS (annT 41) 0 s') := run_region (annT 41) s 0 (gO c41_1) false rfl
@[cbv_eval] theorem r_n41_3 (s : S) : n41_3 s = (stepsO X (annT 41) C (gO c41_3) (gO c41_3).toList s).map fun s' => (.norm, behindS (annT 41) 1 s') := run_region (annT 41) s 1 (gO c41_3) false rfl
@[cbv_eval] theorem r_n41_5 (s : S) : n41_5 s = (stepsO X (annT 41) C (gO c41_5) (gO c41_5).toList s).map fun s' => (.norm, behindS (annT 41) 2 s') := run_region (annT 41) s 2 (gO c41_5) false rfl
@[cbv_eval] theorem r_n41_6 (s : S) : n41_6 s = some (.ret, s) := run_ret (annT 41) s
@[cbv_eval] theorem r_n41_4 (s : S) : n41_4 s = (n41_5 s).bind fun r => match r.1 with
    | .norm => n41_6 r.2
    | e => some (e, r.2) := run_seq (annT 41) c41_5 c41_6 s
@[cbv_eval] theorem r_n41_2 (s : S) : n41_2 s = (n41_3 s).bind fun r => match r.1 with
    | .norm => n41_4 r.2
    | e => some (e, r.2) := run_seq (annT 41) c41_3 c41_4 s
@[cbv_eval] theorem r_n41_0 (s : S) : n41_0 s = (n41_1 s).bind fun r => match r.1 with
    | .norm => n41_2 r.2
    | e => some (e, r.2) := run_seq (annT 41) c41_1 c41_2 s
theorem p41 (ds : List D) : pureCall C 41 ds = ((n41_0 ⟨argsT 0 (ds.map .d), []⟩).bind (bodyR [.cell 4 32])).bind prOf := P_eq Try.f41 rfl rfl rfl rfl ds
theorem q41 (vs : List AV) (st : Store) : C 41 vs st = (n41_0 ⟨argsT 0 vs, st⟩).bind (bodyR [.cell 4 32]) := C_eq Try.f41 rfl rfl rfl rfl vs st

@[cbv_eval] theorem ann_42 : annT 42 = { keep := [(0, [0, 1, 2, 6]), (1, [6, 7]), (2, [6])], loops := [] } := rfl
noncomputable def c42_0 : Code := Try.f42.body.getD .skip
noncomputable def n42_0 (s : S) : Option (Ex × S) := run (annT 42) c42_0 s
noncomputable def c42_1 : Code := gL c42_0
noncomputable def n42_1 (s : S) : Option (Ex × S) := run (annT 42) c42_1 s
noncomputable def c42_2 : Code := gR c42_0
noncomputable def n42_2 (s : S) : Option (Ex × S) := run (annT 42) c42_2 s
noncomputable def c42_3 : Code := gL c42_2
noncomputable def n42_3 (s : S) : Option (Ex × S) := run (annT 42) c42_3 s
noncomputable def c42_4 : Code := gR c42_2
noncomputable def n42_4 (s : S) : Option (Ex × S) := run (annT 42) c42_4 s
noncomputable def c42_5 : Code := gL c42_4
noncomputable def n42_5 (s : S) : Option (Ex × S) := run (annT 42) c42_5 s
noncomputable def c42_6 : Code := gR c42_4
noncomputable def n42_6 (s : S) : Option (Ex × S) := run (annT 42) c42_6 s
attribute [cbv_opaque] n42_0 n42_1 n42_2 n42_3 n42_4 n42_5 n42_6
@[cbv_eval] theorem r_n42_1 (s : S) : n42_1 s = (stepsO X (annT 42) C (gO c42_1) (gO c42_1).toList s).map fun s' => (.norm, behindS (annT 42) 0 s') := run_region (annT 42) s 0 (gO c42_1) false rfl
@[cbv_eval] theorem r_n42_3 (s : S) : n42_3 s = (stepsO X (annT 42) C (gO c42_3) (gO c42_3).toList s).map fun s' => (.norm, behindS (annT 42) 1 s') := run_region (annT 42) s 1 (gO c42_3) false rfl
@[cbv_eval] theorem r_n42_5 (s : S) : n42_5 s = (stepsO X (annT 42) C (gO c42_5) (gO c42_5).toList s).map fun s' => (.norm, behindS (annT 42) 2 s') := run_region (annT 42) s 2 (gO c42_5) false rfl
@[cbv_eval] theorem r_n42_6 (s : S) : n42_6 s = some (.ret, s) := run_ret (annT 42) s
@[cbv_eval] theorem r_n42_4 (s : S) : n42_4 s = (n42_5 s).bind fun r => match r.1 with
    | .norm => n42_6 r.2
    | e => some (e, r.2) := run_seq (annT 42) c42_5 c42_6 s
@[cbv_eval] theorem r_n42_2 (s : S) : n42_2 s = (n42_3 s).bind fun r => match r.1 with
    | .norm => n42_4 r.2
    | e => some (e, r.2) := run_seq (annT 42) c42_3 c42_4 s
@[cbv_eval] theorem r_n42_0 (s : S) : n42_0 s = (n42_1 s).bind fun r => match r.1 with
    | .norm => n42_2 r.2
    | e => some (e, r.2) := run_seq (annT 42) c42_1 c42_2 s
theorem p42 (ds : List D) : pureCall C 42 ds = ((n42_0 ⟨argsT 0 (ds.map .d), []⟩).bind (bodyR [.cell 6 32])).bind prOf := P_eq Try.f42 rfl rfl rfl rfl ds
theorem q42 (vs : List AV) (st : Store) : C 42 vs st = (n42_0 ⟨argsT 0 vs, st⟩).bind (bodyR [.cell 6 32]) := C_eq Try.f42 rfl rfl rfl rfl vs st

@[cbv_eval] theorem ann_43 : annT 43 = { keep := [(0, [1, 2]), (1, [1, 2, 3]), (2, [1, 2, 3, 4]), (3, [1, 2, 3, 4]), (4, [1, 2, 3, 4, 20, 21, 22]), (5, [1, 2, 3, 4, 20, 21, 22, 23]), (6, [1, 2, 3, 4, 6, 20, 21, 22]), (7, [1, 2, 3, 4, 20, 21, 22]), (8, [1, 2, 3, 4, 20, 21, 22]), (9, [1, 2, 3]), (10, [1, 2, 7]), (11, [2])], loops := [(5, [1, 2, 3, 4, 20, 21, 22])], virt := [3], wr := [3] } := rfl
noncomputable def c43_0 : Code := Try.f43.body.getD .skip
noncomputable def n43_0 (s : S) : Option (Ex × S) := run (annT 43) c43_0 s
noncomputable def c43_1 : Code := gL c43_0
noncomputable def n43_1 (s : S) : Option (Ex × S) := run (annT 43) c43_1 s
noncomputable def c43_2 : Code := gR c43_0
noncomputable def n43_2 (s : S) : Option (Ex × S) := run (annT 43) c43_2 s
noncomputable def c43_3 : Code := gL c43_2
noncomputable def n43_3 (s : S) : Option (Ex × S) := run (annT 43) c43_3 s
noncomputable def c43_4 : Code := gR c43_2
noncomputable def n43_4 (s : S) : Option (Ex × S) := run (annT 43) c43_4 s
noncomputable def c43_5 : Code := gL c43_4
noncomputable def n43_5 (s : S) : Option (Ex × S) := run (annT 43) c43_5 s
noncomputable def c43_6 : Code := gR c43_4
noncomputable def n43_6 (s : S) : Option (Ex × S) := run (annT 43) c43_6 s
noncomputable def c43_7 : Code := gL c43_6
noncomputable def n43_7 (s : S) : Option (Ex × S) := run (annT 43) c43_7 s
noncomputable def c43_8 : Code := gR c43_6
noncomputable def n43_8 (s : S) : Option (Ex × S) := run (annT 43) c43_8 s
noncomputable def c43_9 : Code := gL c43_8
noncomputable def n43_9 (s : S) : Option (Ex × S) := run (annT 43) c43_9 s
noncomputable def c43_10 : Code := gL c43_9
noncomputable def n43_10 (s : S) : Option (Ex × S) := run (annT 43) c43_10 s
noncomputable def c43_11 : Code := gR c43_9
noncomputable def n43_11 (s : S) : Option (Ex × S) := run (annT 43) c43_11 s
noncomputable def c43_12 : Code := gB c43_11
noncomputable def n43_12 (s : S) : Option (Ex × S) := run (annT 43) c43_12 s
noncomputable def c43_13 : Code := gB c43_12
noncomputable def n43_13 (s : S) : Option (Ex × S) := run (annT 43) c43_13 s
noncomputable def c43_14 : Code := gL c43_13
noncomputable def n43_14 (s : S) : Option (Ex × S) := run (annT 43) c43_14 s
noncomputable def c43_15 : Code := gR c43_13
noncomputable def n43_15 (s : S) : Option (Ex × S) := run (annT 43) c43_15 s
noncomputable def c43_16 : Code := gL c43_15
noncomputable def n43_16 (s : S) : Option (Ex × S) := run (annT 43) c43_16 s
noncomputable def c43_17 : Code := gT c43_16
noncomputable def n43_17 (s : S) : Option (Ex × S) := run (annT 43) c43_17 s
noncomputable def c43_18 : Code := gF c43_16
noncomputable def n43_18 (s : S) : Option (Ex × S) := run (annT 43) c43_18 s
noncomputable def c43_19 : Code := gR c43_15
noncomputable def n43_19 (s : S) : Option (Ex × S) := run (annT 43) c43_19 s
noncomputable def c43_20 : Code := gL c43_19
noncomputable def n43_20 (s : S) : Option (Ex × S) := run (annT 43) c43_20 s
noncomputable def c43_21 : Code := gB c43_20
noncomputable def n43_21 (s : S) : Option (Ex × S) := run (annT 43) c43_21 s
noncomputable def c43_22 : Code := gL c43_21
noncomputable def n43_22 (s : S) : Option (Ex × S) := run (annT 43) c43_22 s
noncomputable def c43_23 : Code := gR c43_21
noncomputable def n43_23 (s : S) : Option (Ex × S) := run (annT 43) c43_23 s
noncomputable def c43_24 : Code := gR c43_19
noncomputable def n43_24 (s : S) : Option (Ex × S) := run (annT 43) c43_24 s
noncomputable def c43_25 : Code := gR c43_8
noncomputable def n43_25 (s : S) : Option (Ex × S) := run (annT 43) c43_25 s
noncomputable def c43_26 : Code := gL c43_25
noncomputable def n43_26 (s : S) : Option (Ex × S) := run (annT 43) c43_26 s
noncomputable def c43_27 : Code := gR c43_25
noncomputable def n43_27 (s : S) : Option (Ex × S) := run (annT 43) c43_27 s
noncomputable def c43_28 : Code := gL c43_27
noncomputable def n43_28 (s : S) : Option (Ex × S) := run (annT 43) c43_28 s
noncomputable def c43_29 : Code := gR c43_27
noncomputable def n43_29 (s : S) : Option (Ex × S) := run (annT 43) c43_29 s
noncomputable def c43_30 : Code := gL c43_29
noncomputable def n43_30 (s : S) : Option (Ex × S) := run (annT 43) c43_30 s
noncomputable def c43_31 : Code := gR c43_29
noncomputable def n43_31 (s : S) : Option (Ex × S) := run (annT 43) c43_31 s
attribute [cbv_opaque] n43_0 n43_1 n43_2 n43_3 n43_4 n43_5 n43_6 n43_7 n43_8 n43_9 n43_10 n43_11 n43_12 n43_13 n43_14 n43_15 n43_16 n43_17 n43_18 n43_19 n43_20 n43_21 n43_22 n43_23 n43_24 n43_25 n43_26 n43_27 n43_28 n43_29 n43_30 n43_31
@[cbv_eval] theorem r_n43_1 (s : S) : n43_1 s = (stepsO X (annT 43) C (gO c43_1) (gO c43_1).toList s).map fun s' => (.norm, behindS (annT 43) 0 s') := run_region (annT 43) s 0 (gO c43_1) false rfl
@[cbv_eval] theorem r_n43_3 (s : S) : n43_3 s = (stepsO X (annT 43) C (gO c43_3) (gO c43_3).toList s).map fun s' => (.norm, behindS (annT 43) 1 s') := run_region (annT 43) s 1 (gO c43_3) false rfl
@[cbv_eval] theorem r_n43_5 (s : S) : n43_5 s = (stepsO X (annT 43) C (gO c43_5) (gO c43_5).toList s).map fun s' => (.norm, behindS (annT 43) 2 s') := run_region (annT 43) s 2 (gO c43_5) false rfl
@[cbv_eval] theorem r_n43_7 (s : S) : n43_7 s = (stepsO X (annT 43) C (gO c43_7) (gO c43_7).toList s).map fun s' => (.norm, behindS (annT 43) 3 s') := run_region (annT 43) s 3 (gO c43_7) false rfl
@[cbv_eval] theorem r_n43_10 (s : S) : n43_10 s = (stepsO X (annT 43) C (gO c43_10) (gO c43_10).toList s).map fun s' => (.norm, behindS (annT 43) 4 s') := run_region (annT 43) s 4 (gO c43_10) false rfl
@[cbv_eval] theorem r_n43_14 (s : S) : n43_14 s = (stepsO X (annT 43) C (gO c43_14) (gO c43_14).toList s).map fun s' => (.norm, behindS (annT 43) 5 s') := run_region (annT 43) s 5 (gO c43_14) false rfl
@[cbv_eval] theorem r_n43_17 (s : S) : n43_17 s = some (.norm, s) := run_skip (annT 43) s
@[cbv_eval] theorem r_n43_18 (s : S) : n43_18 s = some (.exit 0, s) := run_exit (annT 43) s 0
@[cbv_eval] theorem r_n43_16 (s : S) : n43_16 s = (asB (opv s.t (gC c43_16))).bind fun t => bif t then n43_17 s else n43_18 s := run_cond (annT 43) c43_17 c43_18 s (gC c43_16)
@[cbv_eval] theorem r_n43_22 (s : S) : n43_22 s = (stepsO X (annT 43) C (gO c43_22) (gO c43_22).toList s).map fun s' => (.norm, behindS (annT 43) 6 s') := run_region (annT 43) s 6 (gO c43_22) false rfl
@[cbv_eval] theorem r_n43_23 (s : S) : n43_23 s = (stepsO X (annT 43) C (gO c43_23) (gO c43_23).toList s).map fun s' => (.norm, behindS (annT 43) 7 s') := run_region (annT 43) s 7 (gO c43_23) false rfl
@[cbv_eval] theorem r_n43_21 (s : S) : n43_21 s = (n43_22 s).bind fun r => match r.1 with
    | .norm => n43_23 r.2
    | e => some (e, r.2) := run_seq (annT 43) c43_22 c43_23 s
@[cbv_eval] theorem r_n43_20 (s : S) : n43_20 s = (n43_21 s).map fun r => match r.1 with
    | .exit j => bif j == 1 then (.norm, r.2) else (.exit j, r.2)
    | e => (e, r.2) := run_block (annT 43) c43_21 s 1
@[cbv_eval] theorem r_n43_24 (s : S) : n43_24 s = (stepsO X (annT 43) C (gO c43_24) (gO c43_24).toList s).map fun s' => (.norm, behindS (annT 43) 8 s') := run_region (annT 43) s 8 (gO c43_24) false rfl
@[cbv_eval] theorem r_n43_19 (s : S) : n43_19 s = (n43_20 s).bind fun r => match r.1 with
    | .norm => n43_24 r.2
    | e => some (e, r.2) := run_seq (annT 43) c43_20 c43_24 s
@[cbv_eval] theorem r_n43_15 (s : S) : n43_15 s = (n43_16 s).bind fun r => match r.1 with
    | .norm => n43_19 r.2
    | e => some (e, r.2) := run_seq (annT 43) c43_16 c43_19 s
@[cbv_eval] theorem r_n43_13 (s : S) : n43_13 s = (n43_14 s).bind fun r => match r.1 with
    | .norm => n43_15 r.2
    | e => some (e, r.2) := run_seq (annT 43) c43_14 c43_15 s
theorem r_n43_12 (s : S) : n43_12 s = (n43_13 s).bind fun r => match r.1 with
    | .norm => n43_12 (headS (annT 43) c43_13 s.st.length r.2)
    | e => some (e, r.2) := run_loop (annT 43) c43_13 s
@[cbv_eval] theorem r_n43_11 (s : S) : n43_11 s = (n43_12 s).map fun r => match r.1 with
    | .exit j => bif j == 0 then (.norm, r.2) else (.exit j, r.2)
    | e => (e, r.2) := run_block (annT 43) c43_12 s 0
@[cbv_eval] theorem r_n43_9 (s : S) : n43_9 s = (n43_10 s).bind fun r => match r.1 with
    | .norm => n43_11 r.2
    | e => some (e, r.2) := run_seq (annT 43) c43_10 c43_11 s
@[cbv_eval] theorem r_n43_26 (s : S) : n43_26 s = (stepsO X (annT 43) C (gO c43_26) (gO c43_26).toList s).map fun s' => (.norm, behindS (annT 43) 9 s') := run_region (annT 43) s 9 (gO c43_26) false rfl
@[cbv_eval] theorem r_n43_28 (s : S) : n43_28 s = (stepsO X (annT 43) C (gO c43_28) (gO c43_28).toList s).map fun s' => (.norm, behindS (annT 43) 10 s') := run_region (annT 43) s 10 (gO c43_28) false rfl
@[cbv_eval] theorem r_n43_30 (s : S) : n43_30 s = (stepsO X (annT 43) C (gO c43_30) (gO c43_30).toList s).map fun s' => (.norm, behindS (annT 43) 11 s') := run_region (annT 43) s 11 (gO c43_30) true rfl
@[cbv_eval] theorem r_n43_31 (s : S) : n43_31 s = some (.ret, s) := run_ret (annT 43) s
@[cbv_eval] theorem r_n43_29 (s : S) : n43_29 s = (n43_30 s).bind fun r => match r.1 with
    | .norm => n43_31 r.2
    | e => some (e, r.2) := run_seq (annT 43) c43_30 c43_31 s
@[cbv_eval] theorem r_n43_27 (s : S) : n43_27 s = (n43_28 s).bind fun r => match r.1 with
    | .norm => n43_29 r.2
    | e => some (e, r.2) := run_seq (annT 43) c43_28 c43_29 s
@[cbv_eval] theorem r_n43_25 (s : S) : n43_25 s = (n43_26 s).bind fun r => match r.1 with
    | .norm => n43_27 r.2
    | e => some (e, r.2) := run_seq (annT 43) c43_26 c43_27 s
@[cbv_eval] theorem r_n43_8 (s : S) : n43_8 s = (n43_9 s).bind fun r => match r.1 with
    | .norm => n43_25 r.2
    | e => some (e, r.2) := run_seq (annT 43) c43_9 c43_25 s
@[cbv_eval] theorem r_n43_6 (s : S) : n43_6 s = (n43_7 s).bind fun r => match r.1 with
    | .norm => n43_8 r.2
    | e => some (e, r.2) := run_seq (annT 43) c43_7 c43_8 s
@[cbv_eval] theorem r_n43_4 (s : S) : n43_4 s = (n43_5 s).bind fun r => match r.1 with
    | .norm => n43_6 r.2
    | e => some (e, r.2) := run_seq (annT 43) c43_5 c43_6 s
@[cbv_eval] theorem r_n43_2 (s : S) : n43_2 s = (n43_3 s).bind fun r => match r.1 with
    | .norm => n43_4 r.2
    | e => some (e, r.2) := run_seq (annT 43) c43_3 c43_4 s
@[cbv_eval] theorem r_n43_0 (s : S) : n43_0 s = (n43_1 s).bind fun r => match r.1 with
    | .norm => n43_2 r.2
    | e => some (e, r.2) := run_seq (annT 43) c43_1 c43_2 s
theorem p43 (ds : List D) : pureCall C 43 ds = ((n43_0 ⟨argsT 0 (ds.map .d), []⟩).bind (bodyR [.cell 2 32])).bind prOf := P_eq Try.f43 rfl rfl rfl rfl ds
theorem q43 (vs : List AV) (st : Store) : C 43 vs st = (n43_0 ⟨argsT 0 vs, st⟩).bind (bodyR [.cell 2 32]) := C_eq Try.f43 rfl rfl rfl rfl vs st

@[cbv_eval] theorem ann_68 : annT 68 = { keep := [(0, [1, 2, 3, 7]), (1, [])], loops := [], dyn := [(1, 7)] } := rfl
noncomputable def c68_0 : Code := Try.f68.body.getD .skip
noncomputable def n68_0 (s : S) : Option (Ex × S) := run (annT 68) c68_0 s
noncomputable def c68_1 : Code := gL c68_0
noncomputable def n68_1 (s : S) : Option (Ex × S) := run (annT 68) c68_1 s
noncomputable def c68_2 : Code := gR c68_0
noncomputable def n68_2 (s : S) : Option (Ex × S) := run (annT 68) c68_2 s
noncomputable def c68_3 : Code := gT c68_2
noncomputable def n68_3 (s : S) : Option (Ex × S) := run (annT 68) c68_3 s
noncomputable def c68_4 : Code := gF c68_2
noncomputable def n68_4 (s : S) : Option (Ex × S) := run (annT 68) c68_4 s
attribute [cbv_opaque] n68_0 n68_1 n68_2 n68_3 n68_4
@[cbv_eval] theorem r_n68_1 (s : S) : n68_1 s = (stepsO X (annT 68) C (gO c68_1) (gO c68_1).toList s).map fun s' => (.norm, behindS (annT 68) 0 s') := run_region (annT 68) s 0 (gO c68_1) false rfl
@[cbv_eval] theorem r_n68_3 (s : S) : n68_3 s = (regionE X (annT 68) C 1 (gO c68_3) s).map fun s' => (.norm, behindS (annT 68) 1 s') := run_regionE (annT 68) s 1 (gO c68_3) true
@[cbv_eval] theorem r_n68_4 (s : S) : n68_4 s = some (.norm, s) := run_skip (annT 68) s
@[cbv_eval] theorem r_n68_2 (s : S) : n68_2 s = (asB (opv s.t (gC c68_2))).bind fun t => bif t then n68_3 s else n68_4 s := run_cond (annT 68) c68_3 c68_4 s (gC c68_2)
@[cbv_eval] theorem r_n68_0 (s : S) : n68_0 s = (n68_1 s).bind fun r => match r.1 with
    | .norm => n68_2 r.2
    | e => some (e, r.2) := run_seq (annT 68) c68_1 c68_2 s
theorem p68 (ds : List D) : pureCall C 68 ds = ((n68_0 ⟨argsT 0 (ds.map .d), []⟩).bind (bodyR [])).bind prOf := P_eq Try.f68 rfl rfl rfl rfl ds
theorem q68 (vs : List AV) (st : Store) : C 68 vs st = (n68_0 ⟨argsT 0 vs, st⟩).bind (bodyR []) := C_eq Try.f68 rfl rfl rfl rfl vs st

@[cbv_eval] theorem ann_44 : annT 44 = { keep := [(0, [1, 2]), (1, [1, 2, 3]), (2, [1, 2, 3, 8]), (3, [1, 2, 3]), (4, [1, 2, 3, 17]), (5, [1, 2, 3]), (6, [1, 2, 3]), (7, [2, 3, 31]), (8, [2, 3, 4]), (9, [2, 3]), (10, [2])], loops := [] } := rfl
noncomputable def c44_0 : Code := Try.f44.body.getD .skip
noncomputable def n44_0 (s : S) : Option (Ex × S) := run (annT 44) c44_0 s
noncomputable def c44_1 : Code := gL c44_0
noncomputable def n44_1 (s : S) : Option (Ex × S) := run (annT 44) c44_1 s
noncomputable def c44_2 : Code := gR c44_0
noncomputable def n44_2 (s : S) : Option (Ex × S) := run (annT 44) c44_2 s
noncomputable def c44_3 : Code := gL c44_2
noncomputable def n44_3 (s : S) : Option (Ex × S) := run (annT 44) c44_3 s
noncomputable def c44_4 : Code := gR c44_2
noncomputable def n44_4 (s : S) : Option (Ex × S) := run (annT 44) c44_4 s
noncomputable def c44_5 : Code := gL c44_4
noncomputable def n44_5 (s : S) : Option (Ex × S) := run (annT 44) c44_5 s
noncomputable def c44_6 : Code := gL c44_5
noncomputable def n44_6 (s : S) : Option (Ex × S) := run (annT 44) c44_6 s
noncomputable def c44_7 : Code := gR c44_5
noncomputable def n44_7 (s : S) : Option (Ex × S) := run (annT 44) c44_7 s
noncomputable def c44_8 : Code := gT c44_7
noncomputable def n44_8 (s : S) : Option (Ex × S) := run (annT 44) c44_8 s
noncomputable def c44_9 : Code := gF c44_7
noncomputable def n44_9 (s : S) : Option (Ex × S) := run (annT 44) c44_9 s
noncomputable def c44_10 : Code := gR c44_4
noncomputable def n44_10 (s : S) : Option (Ex × S) := run (annT 44) c44_10 s
noncomputable def c44_11 : Code := gL c44_10
noncomputable def n44_11 (s : S) : Option (Ex × S) := run (annT 44) c44_11 s
noncomputable def c44_12 : Code := gL c44_11
noncomputable def n44_12 (s : S) : Option (Ex × S) := run (annT 44) c44_12 s
noncomputable def c44_13 : Code := gR c44_11
noncomputable def n44_13 (s : S) : Option (Ex × S) := run (annT 44) c44_13 s
noncomputable def c44_14 : Code := gT c44_13
noncomputable def n44_14 (s : S) : Option (Ex × S) := run (annT 44) c44_14 s
noncomputable def c44_15 : Code := gF c44_13
noncomputable def n44_15 (s : S) : Option (Ex × S) := run (annT 44) c44_15 s
noncomputable def c44_16 : Code := gR c44_10
noncomputable def n44_16 (s : S) : Option (Ex × S) := run (annT 44) c44_16 s
noncomputable def c44_17 : Code := gL c44_16
noncomputable def n44_17 (s : S) : Option (Ex × S) := run (annT 44) c44_17 s
noncomputable def c44_18 : Code := gR c44_16
noncomputable def n44_18 (s : S) : Option (Ex × S) := run (annT 44) c44_18 s
noncomputable def c44_19 : Code := gL c44_18
noncomputable def n44_19 (s : S) : Option (Ex × S) := run (annT 44) c44_19 s
noncomputable def c44_20 : Code := gL c44_19
noncomputable def n44_20 (s : S) : Option (Ex × S) := run (annT 44) c44_20 s
noncomputable def c44_21 : Code := gR c44_19
noncomputable def n44_21 (s : S) : Option (Ex × S) := run (annT 44) c44_21 s
noncomputable def c44_22 : Code := gT c44_21
noncomputable def n44_22 (s : S) : Option (Ex × S) := run (annT 44) c44_22 s
noncomputable def c44_23 : Code := gL c44_22
noncomputable def n44_23 (s : S) : Option (Ex × S) := run (annT 44) c44_23 s
noncomputable def c44_24 : Code := gR c44_22
noncomputable def n44_24 (s : S) : Option (Ex × S) := run (annT 44) c44_24 s
noncomputable def c44_25 : Code := gF c44_21
noncomputable def n44_25 (s : S) : Option (Ex × S) := run (annT 44) c44_25 s
noncomputable def c44_26 : Code := gR c44_18
noncomputable def n44_26 (s : S) : Option (Ex × S) := run (annT 44) c44_26 s
noncomputable def c44_27 : Code := gL c44_26
noncomputable def n44_27 (s : S) : Option (Ex × S) := run (annT 44) c44_27 s
noncomputable def c44_28 : Code := gR c44_26
noncomputable def n44_28 (s : S) : Option (Ex × S) := run (annT 44) c44_28 s
attribute [cbv_opaque] n44_0 n44_1 n44_2 n44_3 n44_4 n44_5 n44_6 n44_7 n44_8 n44_9 n44_10 n44_11 n44_12 n44_13 n44_14 n44_15 n44_16 n44_17 n44_18 n44_19 n44_20 n44_21 n44_22 n44_23 n44_24 n44_25 n44_26 n44_27 n44_28
@[cbv_eval] theorem r_n44_1 (s : S) : n44_1 s = (stepsO X (annT 44) C (gO c44_1) (gO c44_1).toList s).map fun s' => (.norm, behindS (annT 44) 0 s') := run_region (annT 44) s 0 (gO c44_1) false rfl
@[cbv_eval] theorem r_n44_3 (s : S) : n44_3 s = (stepsO X (annT 44) C (gO c44_3) (gO c44_3).toList s).map fun s' => (.norm, behindS (annT 44) 1 s') := run_region (annT 44) s 1 (gO c44_3) false rfl
@[cbv_eval] theorem r_n44_6 (s : S) : n44_6 s = (stepsO X (annT 44) C (gO c44_6) (gO c44_6).toList s).map fun s' => (.norm, behindS (annT 44) 2 s') := run_region (annT 44) s 2 (gO c44_6) false rfl
@[cbv_eval] theorem r_n44_8 (s : S) : n44_8 s = (stepsO X (annT 44) C (gO c44_8) (gO c44_8).toList s).map fun s' => (.norm, behindS (annT 44) 3 s') := run_region (annT 44) s 3 (gO c44_8) false rfl
@[cbv_eval] theorem r_n44_9 (s : S) : n44_9 s = some (.norm, s) := run_skip (annT 44) s
@[cbv_eval] theorem r_n44_7 (s : S) : n44_7 s = (asB (opv s.t (gC c44_7))).bind fun t => bif t then n44_8 s else n44_9 s := run_cond (annT 44) c44_8 c44_9 s (gC c44_7)
@[cbv_eval] theorem r_n44_5 (s : S) : n44_5 s = (n44_6 s).bind fun r => match r.1 with
    | .norm => n44_7 r.2
    | e => some (e, r.2) := run_seq (annT 44) c44_6 c44_7 s
@[cbv_eval] theorem r_n44_12 (s : S) : n44_12 s = (stepsO X (annT 44) C (gO c44_12) (gO c44_12).toList s).map fun s' => (.norm, behindS (annT 44) 4 s') := run_region (annT 44) s 4 (gO c44_12) false rfl
@[cbv_eval] theorem r_n44_14 (s : S) : n44_14 s = (stepsO X (annT 44) C (gO c44_14) (gO c44_14).toList s).map fun s' => (.norm, behindS (annT 44) 5 s') := run_region (annT 44) s 5 (gO c44_14) false rfl
@[cbv_eval] theorem r_n44_15 (s : S) : n44_15 s = some (.norm, s) := run_skip (annT 44) s
@[cbv_eval] theorem r_n44_13 (s : S) : n44_13 s = (asB (opv s.t (gC c44_13))).bind fun t => bif t then n44_14 s else n44_15 s := run_cond (annT 44) c44_14 c44_15 s (gC c44_13)
@[cbv_eval] theorem r_n44_11 (s : S) : n44_11 s = (n44_12 s).bind fun r => match r.1 with
    | .norm => n44_13 r.2
    | e => some (e, r.2) := run_seq (annT 44) c44_12 c44_13 s
@[cbv_eval] theorem r_n44_17 (s : S) : n44_17 s = (stepsO X (annT 44) C (gO c44_17) (gO c44_17).toList s).map fun s' => (.norm, behindS (annT 44) 6 s') := run_region (annT 44) s 6 (gO c44_17) false rfl
@[cbv_eval] theorem r_n44_20 (s : S) : n44_20 s = (stepsO X (annT 44) C (gO c44_20) (gO c44_20).toList s).map fun s' => (.norm, behindS (annT 44) 7 s') := run_region (annT 44) s 7 (gO c44_20) false rfl
@[cbv_eval] theorem r_n44_23 (s : S) : n44_23 s = (stepsO X (annT 44) C (gO c44_23) (gO c44_23).toList s).map fun s' => (.norm, behindS (annT 44) 8 s') := run_region (annT 44) s 8 (gO c44_23) false rfl
@[cbv_eval] theorem r_n44_24 (s : S) : n44_24 s = (stepsO X (annT 44) C (gO c44_24) (gO c44_24).toList s).map fun s' => (.norm, behindS (annT 44) 9 s') := run_region (annT 44) s 9 (gO c44_24) false rfl
@[cbv_eval] theorem r_n44_22 (s : S) : n44_22 s = (n44_23 s).bind fun r => match r.1 with
    | .norm => n44_24 r.2
    | e => some (e, r.2) := run_seq (annT 44) c44_23 c44_24 s
@[cbv_eval] theorem r_n44_25 (s : S) : n44_25 s = some (.norm, s) := run_skip (annT 44) s
@[cbv_eval] theorem r_n44_21 (s : S) : n44_21 s = (asB (opv s.t (gC c44_21))).bind fun t => bif t then n44_22 s else n44_25 s := run_cond (annT 44) c44_22 c44_25 s (gC c44_21)
@[cbv_eval] theorem r_n44_19 (s : S) : n44_19 s = (n44_20 s).bind fun r => match r.1 with
    | .norm => n44_21 r.2
    | e => some (e, r.2) := run_seq (annT 44) c44_20 c44_21 s
@[cbv_eval] theorem r_n44_27 (s : S) : n44_27 s = (stepsO X (annT 44) C (gO c44_27) (gO c44_27).toList s).map fun s' => (.norm, behindS (annT 44) 10 s') := run_region (annT 44) s 10 (gO c44_27) false rfl
@[cbv_eval] theorem r_n44_28 (s : S) : n44_28 s = some (.ret, s) := run_ret (annT 44) s
@[cbv_eval] theorem r_n44_26 (s : S) : n44_26 s = (n44_27 s).bind fun r => match r.1 with
    | .norm => n44_28 r.2
    | e => some (e, r.2) := run_seq (annT 44) c44_27 c44_28 s
@[cbv_eval] theorem r_n44_18 (s : S) : n44_18 s = (n44_19 s).bind fun r => match r.1 with
    | .norm => n44_26 r.2
    | e => some (e, r.2) := run_seq (annT 44) c44_19 c44_26 s
@[cbv_eval] theorem r_n44_16 (s : S) : n44_16 s = (n44_17 s).bind fun r => match r.1 with
    | .norm => n44_18 r.2
    | e => some (e, r.2) := run_seq (annT 44) c44_17 c44_18 s
@[cbv_eval] theorem r_n44_10 (s : S) : n44_10 s = (n44_11 s).bind fun r => match r.1 with
    | .norm => n44_16 r.2
    | e => some (e, r.2) := run_seq (annT 44) c44_11 c44_16 s
@[cbv_eval] theorem r_n44_4 (s : S) : n44_4 s = (n44_5 s).bind fun r => match r.1 with
    | .norm => n44_10 r.2
    | e => some (e, r.2) := run_seq (annT 44) c44_5 c44_10 s
@[cbv_eval] theorem r_n44_2 (s : S) : n44_2 s = (n44_3 s).bind fun r => match r.1 with
    | .norm => n44_4 r.2
    | e => some (e, r.2) := run_seq (annT 44) c44_3 c44_4 s
@[cbv_eval] theorem r_n44_0 (s : S) : n44_0 s = (n44_1 s).bind fun r => match r.1 with
    | .norm => n44_2 r.2
    | e => some (e, r.2) := run_seq (annT 44) c44_1 c44_2 s
theorem p44 (ds : List D) : pureCall C 44 ds = ((n44_0 ⟨argsT 0 (ds.map .d), []⟩).bind (bodyR [.cell 2 32])).bind prOf := P_eq Try.f44 rfl rfl rfl rfl ds
theorem q44 (vs : List AV) (st : Store) : C 44 vs st = (n44_0 ⟨argsT 0 vs, st⟩).bind (bodyR [.cell 2 32]) := C_eq Try.f44 rfl rfl rfl rfl vs st

@[cbv_eval] theorem ann_23 : annT 23 = { keep := [(0, [1, 2]), (1, [1, 2, 7]), (2, [1, 2, 7, 8]), (3, [1, 2, 7, 8]), (4, [1, 2, 7, 8]), (5, [1, 2, 3]), (6, [1, 2, 3, 13, 14, 15]), (7, [1, 2, 3, 13, 14, 15, 16]), (8, [1, 2, 3, 5, 13, 14, 15]), (9, [1, 2, 3, 13, 14, 15]), (10, [1, 2, 3, 13, 14, 15]), (11, [2]), (12, [1, 2, 7, 29]), (13, [2]), (14, [1, 2, 7, 34]), (15, [2]), (16, [1, 2, 38]), (17, [2]), (18, [2])], loops := [(7, [1, 2, 3, 13, 14, 15])] } := rfl
noncomputable def c23_0 : Code := Try.f23.body.getD .skip
noncomputable def n23_0 (s : S) : Option (Ex × S) := run (annT 23) c23_0 s
noncomputable def c23_1 : Code := gL c23_0
noncomputable def n23_1 (s : S) : Option (Ex × S) := run (annT 23) c23_1 s
noncomputable def c23_2 : Code := gR c23_0
noncomputable def n23_2 (s : S) : Option (Ex × S) := run (annT 23) c23_2 s
noncomputable def c23_3 : Code := gL c23_2
noncomputable def n23_3 (s : S) : Option (Ex × S) := run (annT 23) c23_3 s
noncomputable def c23_4 : Code := gL c23_3
noncomputable def n23_4 (s : S) : Option (Ex × S) := run (annT 23) c23_4 s
noncomputable def c23_5 : Code := gR c23_3
noncomputable def n23_5 (s : S) : Option (Ex × S) := run (annT 23) c23_5 s
noncomputable def c23_6 : Code := gB c23_5
noncomputable def n23_6 (s : S) : Option (Ex × S) := run (annT 23) c23_6 s
noncomputable def c23_7 : Code := gL c23_6
noncomputable def n23_7 (s : S) : Option (Ex × S) := run (annT 23) c23_7 s
noncomputable def c23_8 : Code := gL c23_7
noncomputable def n23_8 (s : S) : Option (Ex × S) := run (annT 23) c23_8 s
noncomputable def c23_9 : Code := gR c23_7
noncomputable def n23_9 (s : S) : Option (Ex × S) := run (annT 23) c23_9 s
noncomputable def c23_10 : Code := gT c23_9
noncomputable def n23_10 (s : S) : Option (Ex × S) := run (annT 23) c23_10 s
noncomputable def c23_11 : Code := gF c23_9
noncomputable def n23_11 (s : S) : Option (Ex × S) := run (annT 23) c23_11 s
noncomputable def c23_12 : Code := gL c23_11
noncomputable def n23_12 (s : S) : Option (Ex × S) := run (annT 23) c23_12 s
noncomputable def c23_13 : Code := gR c23_11
noncomputable def n23_13 (s : S) : Option (Ex × S) := run (annT 23) c23_13 s
noncomputable def c23_14 : Code := gT c23_13
noncomputable def n23_14 (s : S) : Option (Ex × S) := run (annT 23) c23_14 s
noncomputable def c23_15 : Code := gF c23_13
noncomputable def n23_15 (s : S) : Option (Ex × S) := run (annT 23) c23_15 s
noncomputable def c23_16 : Code := gR c23_6
noncomputable def n23_16 (s : S) : Option (Ex × S) := run (annT 23) c23_16 s
noncomputable def c23_17 : Code := gT c23_16
noncomputable def n23_17 (s : S) : Option (Ex × S) := run (annT 23) c23_17 s
noncomputable def c23_18 : Code := gL c23_17
noncomputable def n23_18 (s : S) : Option (Ex × S) := run (annT 23) c23_18 s
noncomputable def c23_19 : Code := gR c23_17
noncomputable def n23_19 (s : S) : Option (Ex × S) := run (annT 23) c23_19 s
noncomputable def c23_20 : Code := gL c23_19
noncomputable def n23_20 (s : S) : Option (Ex × S) := run (annT 23) c23_20 s
noncomputable def c23_21 : Code := gL c23_20
noncomputable def n23_21 (s : S) : Option (Ex × S) := run (annT 23) c23_21 s
noncomputable def c23_22 : Code := gR c23_20
noncomputable def n23_22 (s : S) : Option (Ex × S) := run (annT 23) c23_22 s
noncomputable def c23_23 : Code := gB c23_22
noncomputable def n23_23 (s : S) : Option (Ex × S) := run (annT 23) c23_23 s
noncomputable def c23_24 : Code := gB c23_23
noncomputable def n23_24 (s : S) : Option (Ex × S) := run (annT 23) c23_24 s
noncomputable def c23_25 : Code := gL c23_24
noncomputable def n23_25 (s : S) : Option (Ex × S) := run (annT 23) c23_25 s
noncomputable def c23_26 : Code := gR c23_24
noncomputable def n23_26 (s : S) : Option (Ex × S) := run (annT 23) c23_26 s
noncomputable def c23_27 : Code := gL c23_26
noncomputable def n23_27 (s : S) : Option (Ex × S) := run (annT 23) c23_27 s
noncomputable def c23_28 : Code := gT c23_27
noncomputable def n23_28 (s : S) : Option (Ex × S) := run (annT 23) c23_28 s
noncomputable def c23_29 : Code := gF c23_27
noncomputable def n23_29 (s : S) : Option (Ex × S) := run (annT 23) c23_29 s
noncomputable def c23_30 : Code := gR c23_26
noncomputable def n23_30 (s : S) : Option (Ex × S) := run (annT 23) c23_30 s
noncomputable def c23_31 : Code := gL c23_30
noncomputable def n23_31 (s : S) : Option (Ex × S) := run (annT 23) c23_31 s
noncomputable def c23_32 : Code := gB c23_31
noncomputable def n23_32 (s : S) : Option (Ex × S) := run (annT 23) c23_32 s
noncomputable def c23_33 : Code := gL c23_32
noncomputable def n23_33 (s : S) : Option (Ex × S) := run (annT 23) c23_33 s
noncomputable def c23_34 : Code := gR c23_32
noncomputable def n23_34 (s : S) : Option (Ex × S) := run (annT 23) c23_34 s
noncomputable def c23_35 : Code := gR c23_30
noncomputable def n23_35 (s : S) : Option (Ex × S) := run (annT 23) c23_35 s
noncomputable def c23_36 : Code := gR c23_19
noncomputable def n23_36 (s : S) : Option (Ex × S) := run (annT 23) c23_36 s
noncomputable def c23_37 : Code := gL c23_36
noncomputable def n23_37 (s : S) : Option (Ex × S) := run (annT 23) c23_37 s
noncomputable def c23_38 : Code := gR c23_36
noncomputable def n23_38 (s : S) : Option (Ex × S) := run (annT 23) c23_38 s
noncomputable def c23_39 : Code := gF c23_16
noncomputable def n23_39 (s : S) : Option (Ex × S) := run (annT 23) c23_39 s
noncomputable def c23_40 : Code := gL c23_39
noncomputable def n23_40 (s : S) : Option (Ex × S) := run (annT 23) c23_40 s
noncomputable def c23_41 : Code := gR c23_39
noncomputable def n23_41 (s : S) : Option (Ex × S) := run (annT 23) c23_41 s
noncomputable def c23_42 : Code := gT c23_41
noncomputable def n23_42 (s : S) : Option (Ex × S) := run (annT 23) c23_42 s
noncomputable def c23_43 : Code := gL c23_42
noncomputable def n23_43 (s : S) : Option (Ex × S) := run (annT 23) c23_43 s
noncomputable def c23_44 : Code := gR c23_42
noncomputable def n23_44 (s : S) : Option (Ex × S) := run (annT 23) c23_44 s
noncomputable def c23_45 : Code := gF c23_41
noncomputable def n23_45 (s : S) : Option (Ex × S) := run (annT 23) c23_45 s
noncomputable def c23_46 : Code := gL c23_45
noncomputable def n23_46 (s : S) : Option (Ex × S) := run (annT 23) c23_46 s
noncomputable def c23_47 : Code := gR c23_45
noncomputable def n23_47 (s : S) : Option (Ex × S) := run (annT 23) c23_47 s
noncomputable def c23_48 : Code := gT c23_47
noncomputable def n23_48 (s : S) : Option (Ex × S) := run (annT 23) c23_48 s
noncomputable def c23_49 : Code := gL c23_48
noncomputable def n23_49 (s : S) : Option (Ex × S) := run (annT 23) c23_49 s
noncomputable def c23_50 : Code := gR c23_48
noncomputable def n23_50 (s : S) : Option (Ex × S) := run (annT 23) c23_50 s
noncomputable def c23_51 : Code := gF c23_47
noncomputable def n23_51 (s : S) : Option (Ex × S) := run (annT 23) c23_51 s
noncomputable def c23_52 : Code := gL c23_51
noncomputable def n23_52 (s : S) : Option (Ex × S) := run (annT 23) c23_52 s
noncomputable def c23_53 : Code := gR c23_51
noncomputable def n23_53 (s : S) : Option (Ex × S) := run (annT 23) c23_53 s
noncomputable def c23_54 : Code := gT c23_53
noncomputable def n23_54 (s : S) : Option (Ex × S) := run (annT 23) c23_54 s
noncomputable def c23_55 : Code := gL c23_54
noncomputable def n23_55 (s : S) : Option (Ex × S) := run (annT 23) c23_55 s
noncomputable def c23_56 : Code := gR c23_54
noncomputable def n23_56 (s : S) : Option (Ex × S) := run (annT 23) c23_56 s
noncomputable def c23_57 : Code := gF c23_53
noncomputable def n23_57 (s : S) : Option (Ex × S) := run (annT 23) c23_57 s
noncomputable def c23_58 : Code := gR c23_2
noncomputable def n23_58 (s : S) : Option (Ex × S) := run (annT 23) c23_58 s
noncomputable def c23_59 : Code := gL c23_58
noncomputable def n23_59 (s : S) : Option (Ex × S) := run (annT 23) c23_59 s
noncomputable def c23_60 : Code := gR c23_58
noncomputable def n23_60 (s : S) : Option (Ex × S) := run (annT 23) c23_60 s
attribute [cbv_opaque] n23_0 n23_1 n23_2 n23_3 n23_4 n23_5 n23_6 n23_7 n23_8 n23_9 n23_10 n23_11 n23_12 n23_13 n23_14 n23_15 n23_16 n23_17 n23_18 n23_19 n23_20 n23_21 n23_22 n23_23 n23_24 n23_25 n23_26 n23_27 n23_28 n23_29 n23_30 n23_31 n23_32 n23_33 n23_34 n23_35 n23_36 n23_37 n23_38 n23_39 n23_40 n23_41 n23_42 n23_43 n23_44 n23_45 n23_46 n23_47 n23_48 n23_49 n23_50 n23_51 n23_52 n23_53 n23_54 n23_55 n23_56 n23_57 n23_58 n23_59 n23_60
@[cbv_eval] theorem r_n23_1 (s : S) : n23_1 s = (stepsO X (annT 23) C (gO c23_1) (gO c23_1).toList s).map fun s' => (.norm, behindS (annT 23) 0 s') := run_region (annT 23) s 0 (gO c23_1) false rfl
@[cbv_eval] theorem r_n23_4 (s : S) : n23_4 s = (stepsO X (annT 23) C (gO c23_4) (gO c23_4).toList s).map fun s' => (.norm, behindS (annT 23) 1 s') := run_region (annT 23) s 1 (gO c23_4) false rfl
@[cbv_eval] theorem r_n23_8 (s : S) : n23_8 s = (stepsO X (annT 23) C (gO c23_8) (gO c23_8).toList s).map fun s' => (.norm, behindS (annT 23) 2 s') := run_region (annT 23) s 2 (gO c23_8) false rfl
@[cbv_eval] theorem r_n23_10 (s : S) : n23_10 s = some (.norm, s) := run_skip (annT 23) s
@[cbv_eval] theorem r_n23_12 (s : S) : n23_12 s = (stepsO X (annT 23) C (gO c23_12) (gO c23_12).toList s).map fun s' => (.norm, behindS (annT 23) 3 s') := run_region (annT 23) s 3 (gO c23_12) false rfl
@[cbv_eval] theorem r_n23_14 (s : S) : n23_14 s = some (.norm, s) := run_skip (annT 23) s
@[cbv_eval] theorem r_n23_15 (s : S) : n23_15 s = (stepsO X (annT 23) C (gO c23_15) (gO c23_15).toList s).map fun s' => (.norm, behindS (annT 23) 4 s') := run_region (annT 23) s 4 (gO c23_15) false rfl
@[cbv_eval] theorem r_n23_13 (s : S) : n23_13 s = (asB (opv s.t (gC c23_13))).bind fun t => bif t then n23_14 s else n23_15 s := run_cond (annT 23) c23_14 c23_15 s (gC c23_13)
@[cbv_eval] theorem r_n23_11 (s : S) : n23_11 s = (n23_12 s).bind fun r => match r.1 with
    | .norm => n23_13 r.2
    | e => some (e, r.2) := run_seq (annT 23) c23_12 c23_13 s
@[cbv_eval] theorem r_n23_9 (s : S) : n23_9 s = (asB (opv s.t (gC c23_9))).bind fun t => bif t then n23_10 s else n23_11 s := run_cond (annT 23) c23_10 c23_11 s (gC c23_9)
@[cbv_eval] theorem r_n23_7 (s : S) : n23_7 s = (n23_8 s).bind fun r => match r.1 with
    | .norm => n23_9 r.2
    | e => some (e, r.2) := run_seq (annT 23) c23_8 c23_9 s
@[cbv_eval] theorem r_n23_18 (s : S) : n23_18 s = (stepsO X (annT 23) C (gO c23_18) (gO c23_18).toList s).map fun s' => (.norm, behindS (annT 23) 5 s') := run_region (annT 23) s 5 (gO c23_18) false rfl
@[cbv_eval] theorem r_n23_21 (s : S) : n23_21 s = (stepsO X (annT 23) C (gO c23_21) (gO c23_21).toList s).map fun s' => (.norm, behindS (annT 23) 6 s') := run_region (annT 23) s 6 (gO c23_21) false rfl
@[cbv_eval] theorem r_n23_25 (s : S) : n23_25 s = (stepsO X (annT 23) C (gO c23_25) (gO c23_25).toList s).map fun s' => (.norm, behindS (annT 23) 7 s') := run_region (annT 23) s 7 (gO c23_25) false rfl
@[cbv_eval] theorem r_n23_28 (s : S) : n23_28 s = some (.norm, s) := run_skip (annT 23) s
@[cbv_eval] theorem r_n23_29 (s : S) : n23_29 s = some (.exit 1, s) := run_exit (annT 23) s 1
@[cbv_eval] theorem r_n23_27 (s : S) : n23_27 s = (asB (opv s.t (gC c23_27))).bind fun t => bif t then n23_28 s else n23_29 s := run_cond (annT 23) c23_28 c23_29 s (gC c23_27)
@[cbv_eval] theorem r_n23_33 (s : S) : n23_33 s = (stepsO X (annT 23) C (gO c23_33) (gO c23_33).toList s).map fun s' => (.norm, behindS (annT 23) 8 s') := run_region (annT 23) s 8 (gO c23_33) false rfl
@[cbv_eval] theorem r_n23_34 (s : S) : n23_34 s = (stepsO X (annT 23) C (gO c23_34) (gO c23_34).toList s).map fun s' => (.norm, behindS (annT 23) 9 s') := run_region (annT 23) s 9 (gO c23_34) false rfl
@[cbv_eval] theorem r_n23_32 (s : S) : n23_32 s = (n23_33 s).bind fun r => match r.1 with
    | .norm => n23_34 r.2
    | e => some (e, r.2) := run_seq (annT 23) c23_33 c23_34 s
@[cbv_eval] theorem r_n23_31 (s : S) : n23_31 s = (n23_32 s).map fun r => match r.1 with
    | .exit j => bif j == 2 then (.norm, r.2) else (.exit j, r.2)
    | e => (e, r.2) := run_block (annT 23) c23_32 s 2
@[cbv_eval] theorem r_n23_35 (s : S) : n23_35 s = (stepsO X (annT 23) C (gO c23_35) (gO c23_35).toList s).map fun s' => (.norm, behindS (annT 23) 10 s') := run_region (annT 23) s 10 (gO c23_35) false rfl
@[cbv_eval] theorem r_n23_30 (s : S) : n23_30 s = (n23_31 s).bind fun r => match r.1 with
    | .norm => n23_35 r.2
    | e => some (e, r.2) := run_seq (annT 23) c23_31 c23_35 s
@[cbv_eval] theorem r_n23_26 (s : S) : n23_26 s = (n23_27 s).bind fun r => match r.1 with
    | .norm => n23_30 r.2
    | e => some (e, r.2) := run_seq (annT 23) c23_27 c23_30 s
@[cbv_eval] theorem r_n23_24 (s : S) : n23_24 s = (n23_25 s).bind fun r => match r.1 with
    | .norm => n23_26 r.2
    | e => some (e, r.2) := run_seq (annT 23) c23_25 c23_26 s
theorem r_n23_23 (s : S) : n23_23 s = (n23_24 s).bind fun r => match r.1 with
    | .norm => n23_23 (headS (annT 23) c23_24 s.st.length r.2)
    | e => some (e, r.2) := run_loop (annT 23) c23_24 s
@[cbv_eval] theorem r_n23_22 (s : S) : n23_22 s = (n23_23 s).map fun r => match r.1 with
    | .exit j => bif j == 1 then (.norm, r.2) else (.exit j, r.2)
    | e => (e, r.2) := run_block (annT 23) c23_23 s 1
@[cbv_eval] theorem r_n23_20 (s : S) : n23_20 s = (n23_21 s).bind fun r => match r.1 with
    | .norm => n23_22 r.2
    | e => some (e, r.2) := run_seq (annT 23) c23_21 c23_22 s
@[cbv_eval] theorem r_n23_37 (s : S) : n23_37 s = (stepsO X (annT 23) C (gO c23_37) (gO c23_37).toList s).map fun s' => (.norm, behindS (annT 23) 11 s') := run_region (annT 23) s 11 (gO c23_37) false rfl
@[cbv_eval] theorem r_n23_38 (s : S) : n23_38 s = some (.ret, s) := run_ret (annT 23) s
@[cbv_eval] theorem r_n23_36 (s : S) : n23_36 s = (n23_37 s).bind fun r => match r.1 with
    | .norm => n23_38 r.2
    | e => some (e, r.2) := run_seq (annT 23) c23_37 c23_38 s
@[cbv_eval] theorem r_n23_19 (s : S) : n23_19 s = (n23_20 s).bind fun r => match r.1 with
    | .norm => n23_36 r.2
    | e => some (e, r.2) := run_seq (annT 23) c23_20 c23_36 s
@[cbv_eval] theorem r_n23_17 (s : S) : n23_17 s = (n23_18 s).bind fun r => match r.1 with
    | .norm => n23_19 r.2
    | e => some (e, r.2) := run_seq (annT 23) c23_18 c23_19 s
@[cbv_eval] theorem r_n23_40 (s : S) : n23_40 s = (stepsO X (annT 23) C (gO c23_40) (gO c23_40).toList s).map fun s' => (.norm, behindS (annT 23) 12 s') := run_region (annT 23) s 12 (gO c23_40) false rfl
@[cbv_eval] theorem r_n23_43 (s : S) : n23_43 s = (stepsO X (annT 23) C (gO c23_43) (gO c23_43).toList s).map fun s' => (.norm, behindS (annT 23) 13 s') := run_region (annT 23) s 13 (gO c23_43) false rfl
@[cbv_eval] theorem r_n23_44 (s : S) : n23_44 s = some (.ret, s) := run_ret (annT 23) s
@[cbv_eval] theorem r_n23_42 (s : S) : n23_42 s = (n23_43 s).bind fun r => match r.1 with
    | .norm => n23_44 r.2
    | e => some (e, r.2) := run_seq (annT 23) c23_43 c23_44 s
@[cbv_eval] theorem r_n23_46 (s : S) : n23_46 s = (stepsO X (annT 23) C (gO c23_46) (gO c23_46).toList s).map fun s' => (.norm, behindS (annT 23) 14 s') := run_region (annT 23) s 14 (gO c23_46) false rfl
@[cbv_eval] theorem r_n23_49 (s : S) : n23_49 s = (stepsO X (annT 23) C (gO c23_49) (gO c23_49).toList s).map fun s' => (.norm, behindS (annT 23) 15 s') := run_region (annT 23) s 15 (gO c23_49) false rfl
@[cbv_eval] theorem r_n23_50 (s : S) : n23_50 s = some (.ret, s) := run_ret (annT 23) s
@[cbv_eval] theorem r_n23_48 (s : S) : n23_48 s = (n23_49 s).bind fun r => match r.1 with
    | .norm => n23_50 r.2
    | e => some (e, r.2) := run_seq (annT 23) c23_49 c23_50 s
@[cbv_eval] theorem r_n23_52 (s : S) : n23_52 s = (stepsO X (annT 23) C (gO c23_52) (gO c23_52).toList s).map fun s' => (.norm, behindS (annT 23) 16 s') := run_region (annT 23) s 16 (gO c23_52) false rfl
@[cbv_eval] theorem r_n23_55 (s : S) : n23_55 s = (stepsO X (annT 23) C (gO c23_55) (gO c23_55).toList s).map fun s' => (.norm, behindS (annT 23) 17 s') := run_region (annT 23) s 17 (gO c23_55) false rfl
@[cbv_eval] theorem r_n23_56 (s : S) : n23_56 s = some (.ret, s) := run_ret (annT 23) s
@[cbv_eval] theorem r_n23_54 (s : S) : n23_54 s = (n23_55 s).bind fun r => match r.1 with
    | .norm => n23_56 r.2
    | e => some (e, r.2) := run_seq (annT 23) c23_55 c23_56 s
@[cbv_eval] theorem r_n23_57 (s : S) : n23_57 s = some (.norm, s) := run_skip (annT 23) s
@[cbv_eval] theorem r_n23_53 (s : S) : n23_53 s = (asB (opv s.t (gC c23_53))).bind fun t => bif t then n23_54 s else n23_57 s := run_cond (annT 23) c23_54 c23_57 s (gC c23_53)
@[cbv_eval] theorem r_n23_51 (s : S) : n23_51 s = (n23_52 s).bind fun r => match r.1 with
    | .norm => n23_53 r.2
    | e => some (e, r.2) := run_seq (annT 23) c23_52 c23_53 s
@[cbv_eval] theorem r_n23_47 (s : S) : n23_47 s = (asB (opv s.t (gC c23_47))).bind fun t => bif t then n23_48 s else n23_51 s := run_cond (annT 23) c23_48 c23_51 s (gC c23_47)
@[cbv_eval] theorem r_n23_45 (s : S) : n23_45 s = (n23_46 s).bind fun r => match r.1 with
    | .norm => n23_47 r.2
    | e => some (e, r.2) := run_seq (annT 23) c23_46 c23_47 s
@[cbv_eval] theorem r_n23_41 (s : S) : n23_41 s = (asB (opv s.t (gC c23_41))).bind fun t => bif t then n23_42 s else n23_45 s := run_cond (annT 23) c23_42 c23_45 s (gC c23_41)
@[cbv_eval] theorem r_n23_39 (s : S) : n23_39 s = (n23_40 s).bind fun r => match r.1 with
    | .norm => n23_41 r.2
    | e => some (e, r.2) := run_seq (annT 23) c23_40 c23_41 s
@[cbv_eval] theorem r_n23_16 (s : S) : n23_16 s = (asB (opv s.t (gC c23_16))).bind fun t => bif t then n23_17 s else n23_39 s := run_cond (annT 23) c23_17 c23_39 s (gC c23_16)
@[cbv_eval] theorem r_n23_6 (s : S) : n23_6 s = (n23_7 s).bind fun r => match r.1 with
    | .norm => n23_16 r.2
    | e => some (e, r.2) := run_seq (annT 23) c23_7 c23_16 s
@[cbv_eval] theorem r_n23_5 (s : S) : n23_5 s = (n23_6 s).map fun r => match r.1 with
    | .exit j => bif j == 0 then (.norm, r.2) else (.exit j, r.2)
    | e => (e, r.2) := run_block (annT 23) c23_6 s 0
@[cbv_eval] theorem r_n23_3 (s : S) : n23_3 s = (n23_4 s).bind fun r => match r.1 with
    | .norm => n23_5 r.2
    | e => some (e, r.2) := run_seq (annT 23) c23_4 c23_5 s
@[cbv_eval] theorem r_n23_59 (s : S) : n23_59 s = (stepsO X (annT 23) C (gO c23_59) (gO c23_59).toList s).map fun s' => (.norm, behindS (annT 23) 18 s') := run_region (annT 23) s 18 (gO c23_59) true rfl
@[cbv_eval] theorem r_n23_60 (s : S) : n23_60 s = some (.ret, s) := run_ret (annT 23) s
@[cbv_eval] theorem r_n23_58 (s : S) : n23_58 s = (n23_59 s).bind fun r => match r.1 with
    | .norm => n23_60 r.2
    | e => some (e, r.2) := run_seq (annT 23) c23_59 c23_60 s
@[cbv_eval] theorem r_n23_2 (s : S) : n23_2 s = (n23_3 s).bind fun r => match r.1 with
    | .norm => n23_58 r.2
    | e => some (e, r.2) := run_seq (annT 23) c23_3 c23_58 s
@[cbv_eval] theorem r_n23_0 (s : S) : n23_0 s = (n23_1 s).bind fun r => match r.1 with
    | .norm => n23_2 r.2
    | e => some (e, r.2) := run_seq (annT 23) c23_1 c23_2 s
theorem p23 (ds : List D) : pureCall C 23 ds = ((n23_0 ⟨argsT 0 (ds.map .d), []⟩).bind (bodyR [.cell 2 32])).bind prOf := P_eq Try.f23 rfl rfl rfl rfl ds
theorem q23 (vs : List AV) (st : Store) : C 23 vs st = (n23_0 ⟨argsT 0 vs, st⟩).bind (bodyR [.cell 2 32]) := C_eq Try.f23 rfl rfl rfl rfl vs st

@[cbv_eval] theorem ann_9 : annT 9 = { keep := [(0, [1, 2]), (1, [1, 2, 4]), (2, [1, 2, 4, 8]), (3, [2, 3]), (4, [2, 3])], loops := [] } := rfl
noncomputable def c9_0 : Code := Try.f9.body.getD .skip
noncomputable def n9_0 (s : S) : Option (Ex × S) := run (annT 9) c9_0 s
noncomputable def c9_1 : Code := gL c9_0
noncomputable def n9_1 (s : S) : Option (Ex × S) := run (annT 9) c9_1 s
noncomputable def c9_2 : Code := gR c9_0
noncomputable def n9_2 (s : S) : Option (Ex × S) := run (annT 9) c9_2 s
noncomputable def c9_3 : Code := gL c9_2
noncomputable def n9_3 (s : S) : Option (Ex × S) := run (annT 9) c9_3 s
noncomputable def c9_4 : Code := gL c9_3
noncomputable def n9_4 (s : S) : Option (Ex × S) := run (annT 9) c9_4 s
noncomputable def c9_5 : Code := gR c9_3
noncomputable def n9_5 (s : S) : Option (Ex × S) := run (annT 9) c9_5 s
noncomputable def c9_6 : Code := gL c9_5
noncomputable def n9_6 (s : S) : Option (Ex × S) := run (annT 9) c9_6 s
noncomputable def c9_7 : Code := gR c9_5
noncomputable def n9_7 (s : S) : Option (Ex × S) := run (annT 9) c9_7 s
noncomputable def c9_8 : Code := gT c9_7
noncomputable def n9_8 (s : S) : Option (Ex × S) := run (annT 9) c9_8 s
noncomputable def c9_9 : Code := gL c9_8
noncomputable def n9_9 (s : S) : Option (Ex × S) := run (annT 9) c9_9 s
noncomputable def c9_10 : Code := gR c9_8
noncomputable def n9_10 (s : S) : Option (Ex × S) := run (annT 9) c9_10 s
noncomputable def c9_11 : Code := gF c9_7
noncomputable def n9_11 (s : S) : Option (Ex × S) := run (annT 9) c9_11 s
noncomputable def c9_12 : Code := gR c9_2
noncomputable def n9_12 (s : S) : Option (Ex × S) := run (annT 9) c9_12 s
noncomputable def c9_13 : Code := gL c9_12
noncomputable def n9_13 (s : S) : Option (Ex × S) := run (annT 9) c9_13 s
noncomputable def c9_14 : Code := gR c9_12
noncomputable def n9_14 (s : S) : Option (Ex × S) := run (annT 9) c9_14 s
attribute [cbv_opaque] n9_0 n9_1 n9_2 n9_3 n9_4 n9_5 n9_6 n9_7 n9_8 n9_9 n9_10 n9_11 n9_12 n9_13 n9_14
@[cbv_eval] theorem r_n9_1 (s : S) : n9_1 s = (stepsO X (annT 9) C (gO c9_1) (gO c9_1).toList s).map fun s' => (.norm, behindS (annT 9) 0 s') := run_region (annT 9) s 0 (gO c9_1) false rfl
@[cbv_eval] theorem r_n9_4 (s : S) : n9_4 s = (stepsO X (annT 9) C (gO c9_4) (gO c9_4).toList s).map fun s' => (.norm, behindS (annT 9) 1 s') := run_region (annT 9) s 1 (gO c9_4) false rfl
@[cbv_eval] theorem r_n9_6 (s : S) : n9_6 s = (stepsO X (annT 9) C (gO c9_6) (gO c9_6).toList s).map fun s' => (.norm, behindS (annT 9) 2 s') := run_region (annT 9) s 2 (gO c9_6) false rfl
@[cbv_eval] theorem r_n9_9 (s : S) : n9_9 s = (stepsO X (annT 9) C (gO c9_9) (gO c9_9).toList s).map fun s' => (.norm, behindS (annT 9) 3 s') := run_region (annT 9) s 3 (gO c9_9) false rfl
@[cbv_eval] theorem r_n9_10 (s : S) : n9_10 s = some (.ret, s) := run_ret (annT 9) s
@[cbv_eval] theorem r_n9_8 (s : S) : n9_8 s = (n9_9 s).bind fun r => match r.1 with
    | .norm => n9_10 r.2
    | e => some (e, r.2) := run_seq (annT 9) c9_9 c9_10 s
@[cbv_eval] theorem r_n9_11 (s : S) : n9_11 s = some (.norm, s) := run_skip (annT 9) s
@[cbv_eval] theorem r_n9_7 (s : S) : n9_7 s = (asB (opv s.t (gC c9_7))).bind fun t => bif t then n9_8 s else n9_11 s := run_cond (annT 9) c9_8 c9_11 s (gC c9_7)
@[cbv_eval] theorem r_n9_5 (s : S) : n9_5 s = (n9_6 s).bind fun r => match r.1 with
    | .norm => n9_7 r.2
    | e => some (e, r.2) := run_seq (annT 9) c9_6 c9_7 s
@[cbv_eval] theorem r_n9_3 (s : S) : n9_3 s = (n9_4 s).bind fun r => match r.1 with
    | .norm => n9_5 r.2
    | e => some (e, r.2) := run_seq (annT 9) c9_4 c9_5 s
@[cbv_eval] theorem r_n9_13 (s : S) : n9_13 s = (stepsO X (annT 9) C (gO c9_13) (gO c9_13).toList s).map fun s' => (.norm, behindS (annT 9) 4 s') := run_region (annT 9) s 4 (gO c9_13) false rfl
@[cbv_eval] theorem r_n9_14 (s : S) : n9_14 s = some (.ret, s) := run_ret (annT 9) s
@[cbv_eval] theorem r_n9_12 (s : S) : n9_12 s = (n9_13 s).bind fun r => match r.1 with
    | .norm => n9_14 r.2
    | e => some (e, r.2) := run_seq (annT 9) c9_13 c9_14 s
@[cbv_eval] theorem r_n9_2 (s : S) : n9_2 s = (n9_3 s).bind fun r => match r.1 with
    | .norm => n9_12 r.2
    | e => some (e, r.2) := run_seq (annT 9) c9_3 c9_12 s
@[cbv_eval] theorem r_n9_0 (s : S) : n9_0 s = (n9_1 s).bind fun r => match r.1 with
    | .norm => n9_2 r.2
    | e => some (e, r.2) := run_seq (annT 9) c9_1 c9_2 s
theorem p9 (ds : List D) : pureCall C 9 ds = ((n9_0 ⟨argsT 0 (ds.map .d), []⟩).bind (bodyR [.cell 2 32, .tmp 3])).bind prOf := P_eq Try.f9 rfl rfl rfl rfl ds
theorem q9 (vs : List AV) (st : Store) : C 9 vs st = (n9_0 ⟨argsT 0 vs, st⟩).bind (bodyR [.cell 2 32, .tmp 3]) := C_eq Try.f9 rfl rfl rfl rfl vs st
end Go.L25
