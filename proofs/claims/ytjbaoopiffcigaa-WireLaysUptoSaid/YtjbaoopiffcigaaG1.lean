/- Layer 25: codes by their parts. Conditions: none. -/
import Derived.Test.YtjbaoopiffcigaaL1
set_option linter.unusedVariables false
namespace Go.L25
open Go Go.Eng Go.Proofs
set_option maxRecDepth 100000
attribute [cbv_opaque] annT

@[cbv_eval] theorem ann_34 : annT 34 = { keep := [(0, [1]), (1, [2])], loops := [] } := rfl
noncomputable def c34_0 : Code := Try.f34.body.getD .skip
noncomputable def n34_0 (s : S) : Option (Ex × S) := run (annT 34) c34_0 s
noncomputable def c34_1 : Code := gL c34_0
noncomputable def n34_1 (s : S) : Option (Ex × S) := run (annT 34) c34_1 s
noncomputable def c34_2 : Code := gR c34_0
noncomputable def n34_2 (s : S) : Option (Ex × S) := run (annT 34) c34_2 s
noncomputable def c34_3 : Code := gL c34_2
noncomputable def n34_3 (s : S) : Option (Ex × S) := run (annT 34) c34_3 s
noncomputable def c34_4 : Code := gR c34_2
noncomputable def n34_4 (s : S) : Option (Ex × S) := run (annT 34) c34_4 s
attribute [cbv_opaque] n34_0 n34_1 n34_2 n34_3 n34_4
@[cbv_eval] theorem r_n34_1 (s : S) : n34_1 s = (stepsO X (annT 34) C (gO c34_1) (gO c34_1).toList s).map fun s' => (.norm, behindS (annT 34) 0 s') := run_region (annT 34) s 0 (gO c34_1) false rfl
@[cbv_eval] theorem r_n34_3 (s : S) : n34_3 s = (stepsO X (annT 34) C (gO c34_3) (gO c34_3).toList s).map fun s' => (.norm, behindS (annT 34) 1 s') := run_region (annT 34) s 1 (gO c34_3) false rfl
@[cbv_eval] theorem r_n34_4 (s : S) : n34_4 s = some (.ret, s) := run_ret (annT 34) s
@[cbv_eval] theorem r_n34_2 (s : S) : n34_2 s = (n34_3 s).bind fun r => match r.1 with
    | .norm => n34_4 r.2
    | e => some (e, r.2) := run_seq (annT 34) c34_3 c34_4 s
@[cbv_eval] theorem r_n34_0 (s : S) : n34_0 s = (n34_1 s).bind fun r => match r.1 with
    | .norm => n34_2 r.2
    | e => some (e, r.2) := run_seq (annT 34) c34_1 c34_2 s
theorem p34 (ds : List D) : pureCall C 34 ds = ((n34_0 ⟨argsT 0 (ds.map .d), []⟩).bind (bodyR [.tmp 2])).bind prOf := P_eq Try.f34 rfl rfl rfl rfl ds
theorem q34 (vs : List AV) (st : Store) : C 34 vs st = (n34_0 ⟨argsT 0 vs, st⟩).bind (bodyR [.tmp 2]) := C_eq Try.f34 rfl rfl rfl rfl vs st

@[cbv_eval] theorem ann_35 : annT 35 = { keep := [(0, [1]), (1, [1, 5]), (2, [2]), (3, [2])], loops := [] } := rfl
noncomputable def c35_0 : Code := Try.f35.body.getD .skip
noncomputable def n35_0 (s : S) : Option (Ex × S) := run (annT 35) c35_0 s
noncomputable def c35_1 : Code := gL c35_0
noncomputable def n35_1 (s : S) : Option (Ex × S) := run (annT 35) c35_1 s
noncomputable def c35_2 : Code := gR c35_0
noncomputable def n35_2 (s : S) : Option (Ex × S) := run (annT 35) c35_2 s
noncomputable def c35_3 : Code := gL c35_2
noncomputable def n35_3 (s : S) : Option (Ex × S) := run (annT 35) c35_3 s
noncomputable def c35_4 : Code := gL c35_3
noncomputable def n35_4 (s : S) : Option (Ex × S) := run (annT 35) c35_4 s
noncomputable def c35_5 : Code := gR c35_3
noncomputable def n35_5 (s : S) : Option (Ex × S) := run (annT 35) c35_5 s
noncomputable def c35_6 : Code := gT c35_5
noncomputable def n35_6 (s : S) : Option (Ex × S) := run (annT 35) c35_6 s
noncomputable def c35_7 : Code := gL c35_6
noncomputable def n35_7 (s : S) : Option (Ex × S) := run (annT 35) c35_7 s
noncomputable def c35_8 : Code := gR c35_6
noncomputable def n35_8 (s : S) : Option (Ex × S) := run (annT 35) c35_8 s
noncomputable def c35_9 : Code := gF c35_5
noncomputable def n35_9 (s : S) : Option (Ex × S) := run (annT 35) c35_9 s
noncomputable def c35_10 : Code := gR c35_2
noncomputable def n35_10 (s : S) : Option (Ex × S) := run (annT 35) c35_10 s
noncomputable def c35_11 : Code := gL c35_10
noncomputable def n35_11 (s : S) : Option (Ex × S) := run (annT 35) c35_11 s
noncomputable def c35_12 : Code := gR c35_10
noncomputable def n35_12 (s : S) : Option (Ex × S) := run (annT 35) c35_12 s
attribute [cbv_opaque] n35_0 n35_1 n35_2 n35_3 n35_4 n35_5 n35_6 n35_7 n35_8 n35_9 n35_10 n35_11 n35_12
@[cbv_eval] theorem r_n35_1 (s : S) : n35_1 s = (stepsO X (annT 35) C (gO c35_1) (gO c35_1).toList s).map fun s' => (.norm, behindS (annT 35) 0 s') := run_region (annT 35) s 0 (gO c35_1) false rfl
@[cbv_eval] theorem r_n35_4 (s : S) : n35_4 s = (stepsO X (annT 35) C (gO c35_4) (gO c35_4).toList s).map fun s' => (.norm, behindS (annT 35) 1 s') := run_region (annT 35) s 1 (gO c35_4) false rfl
@[cbv_eval] theorem r_n35_7 (s : S) : n35_7 s = (stepsO X (annT 35) C (gO c35_7) (gO c35_7).toList s).map fun s' => (.norm, behindS (annT 35) 2 s') := run_region (annT 35) s 2 (gO c35_7) false rfl
@[cbv_eval] theorem r_n35_8 (s : S) : n35_8 s = some (.ret, s) := run_ret (annT 35) s
@[cbv_eval] theorem r_n35_6 (s : S) : n35_6 s = (n35_7 s).bind fun r => match r.1 with
    | .norm => n35_8 r.2
    | e => some (e, r.2) := run_seq (annT 35) c35_7 c35_8 s
@[cbv_eval] theorem r_n35_9 (s : S) : n35_9 s = some (.norm, s) := run_skip (annT 35) s
@[cbv_eval] theorem r_n35_5 (s : S) : n35_5 s = (asB (opv s.t (gC c35_5))).bind fun t => bif t then n35_6 s else n35_9 s := run_cond (annT 35) c35_6 c35_9 s (gC c35_5)
@[cbv_eval] theorem r_n35_3 (s : S) : n35_3 s = (n35_4 s).bind fun r => match r.1 with
    | .norm => n35_5 r.2
    | e => some (e, r.2) := run_seq (annT 35) c35_4 c35_5 s
@[cbv_eval] theorem r_n35_11 (s : S) : n35_11 s = (stepsO X (annT 35) C (gO c35_11) (gO c35_11).toList s).map fun s' => (.norm, behindS (annT 35) 3 s') := run_region (annT 35) s 3 (gO c35_11) false rfl
@[cbv_eval] theorem r_n35_12 (s : S) : n35_12 s = some (.ret, s) := run_ret (annT 35) s
@[cbv_eval] theorem r_n35_10 (s : S) : n35_10 s = (n35_11 s).bind fun r => match r.1 with
    | .norm => n35_12 r.2
    | e => some (e, r.2) := run_seq (annT 35) c35_11 c35_12 s
@[cbv_eval] theorem r_n35_2 (s : S) : n35_2 s = (n35_3 s).bind fun r => match r.1 with
    | .norm => n35_10 r.2
    | e => some (e, r.2) := run_seq (annT 35) c35_3 c35_10 s
@[cbv_eval] theorem r_n35_0 (s : S) : n35_0 s = (n35_1 s).bind fun r => match r.1 with
    | .norm => n35_2 r.2
    | e => some (e, r.2) := run_seq (annT 35) c35_1 c35_2 s
theorem p35 (ds : List D) : pureCall C 35 ds = ((n35_0 ⟨argsT 0 (ds.map .d), []⟩).bind (bodyR [.tmp 2])).bind prOf := P_eq Try.f35 rfl rfl rfl rfl ds
theorem q35 (vs : List AV) (st : Store) : C 35 vs st = (n35_0 ⟨argsT 0 vs, st⟩).bind (bodyR [.tmp 2]) := C_eq Try.f35 rfl rfl rfl rfl vs st

@[cbv_eval] theorem ann_54 : annT 54 = { keep := [(0, [1, 2]), (1, [1, 2, 5]), (2, [1, 2, 5, 6]), (3, [1, 2, 5, 6, 15]), (4, [1, 2, 5, 6]), (5, [1, 2, 5, 6]), (6, [4])], loops := [(3, [1, 2, 5, 6])] } := rfl
noncomputable def c54_0 : Code := Try.f54.body.getD .skip
noncomputable def n54_0 (s : S) : Option (Ex × S) := run (annT 54) c54_0 s
noncomputable def c54_1 : Code := gL c54_0
noncomputable def n54_1 (s : S) : Option (Ex × S) := run (annT 54) c54_1 s
noncomputable def c54_2 : Code := gR c54_0
noncomputable def n54_2 (s : S) : Option (Ex × S) := run (annT 54) c54_2 s
noncomputable def c54_3 : Code := gL c54_2
noncomputable def n54_3 (s : S) : Option (Ex × S) := run (annT 54) c54_3 s
noncomputable def c54_4 : Code := gR c54_2
noncomputable def n54_4 (s : S) : Option (Ex × S) := run (annT 54) c54_4 s
noncomputable def c54_5 : Code := gL c54_4
noncomputable def n54_5 (s : S) : Option (Ex × S) := run (annT 54) c54_5 s
noncomputable def c54_6 : Code := gL c54_5
noncomputable def n54_6 (s : S) : Option (Ex × S) := run (annT 54) c54_6 s
noncomputable def c54_7 : Code := gR c54_5
noncomputable def n54_7 (s : S) : Option (Ex × S) := run (annT 54) c54_7 s
noncomputable def c54_8 : Code := gB c54_7
noncomputable def n54_8 (s : S) : Option (Ex × S) := run (annT 54) c54_8 s
noncomputable def c54_9 : Code := gB c54_8
noncomputable def n54_9 (s : S) : Option (Ex × S) := run (annT 54) c54_9 s
noncomputable def c54_10 : Code := gL c54_9
noncomputable def n54_10 (s : S) : Option (Ex × S) := run (annT 54) c54_10 s
noncomputable def c54_11 : Code := gL c54_10
noncomputable def n54_11 (s : S) : Option (Ex × S) := run (annT 54) c54_11 s
noncomputable def c54_12 : Code := gR c54_10
noncomputable def n54_12 (s : S) : Option (Ex × S) := run (annT 54) c54_12 s
noncomputable def c54_13 : Code := gT c54_12
noncomputable def n54_13 (s : S) : Option (Ex × S) := run (annT 54) c54_13 s
noncomputable def c54_14 : Code := gF c54_12
noncomputable def n54_14 (s : S) : Option (Ex × S) := run (annT 54) c54_14 s
noncomputable def c54_15 : Code := gR c54_9
noncomputable def n54_15 (s : S) : Option (Ex × S) := run (annT 54) c54_15 s
noncomputable def c54_16 : Code := gL c54_15
noncomputable def n54_16 (s : S) : Option (Ex × S) := run (annT 54) c54_16 s
noncomputable def c54_17 : Code := gB c54_16
noncomputable def n54_17 (s : S) : Option (Ex × S) := run (annT 54) c54_17 s
noncomputable def c54_18 : Code := gR c54_15
noncomputable def n54_18 (s : S) : Option (Ex × S) := run (annT 54) c54_18 s
noncomputable def c54_19 : Code := gR c54_4
noncomputable def n54_19 (s : S) : Option (Ex × S) := run (annT 54) c54_19 s
noncomputable def c54_20 : Code := gL c54_19
noncomputable def n54_20 (s : S) : Option (Ex × S) := run (annT 54) c54_20 s
noncomputable def c54_21 : Code := gR c54_19
noncomputable def n54_21 (s : S) : Option (Ex × S) := run (annT 54) c54_21 s
attribute [cbv_opaque] n54_0 n54_1 n54_2 n54_3 n54_4 n54_5 n54_6 n54_7 n54_8 n54_9 n54_10 n54_11 n54_12 n54_13 n54_14 n54_15 n54_16 n54_17 n54_18 n54_19 n54_20 n54_21
@[cbv_eval] theorem r_n54_1 (s : S) : n54_1 s = (stepsO X (annT 54) C (gO c54_1) (gO c54_1).toList s).map fun s' => (.norm, behindS (annT 54) 0 s') := run_region (annT 54) s 0 (gO c54_1) false rfl
@[cbv_eval] theorem r_n54_3 (s : S) : n54_3 s = (stepsO X (annT 54) C (gO c54_3) (gO c54_3).toList s).map fun s' => (.norm, behindS (annT 54) 1 s') := run_region (annT 54) s 1 (gO c54_3) false rfl
@[cbv_eval] theorem r_n54_6 (s : S) : n54_6 s = (stepsO X (annT 54) C (gO c54_6) (gO c54_6).toList s).map fun s' => (.norm, behindS (annT 54) 2 s') := run_region (annT 54) s 2 (gO c54_6) false rfl
@[cbv_eval] theorem r_n54_11 (s : S) : n54_11 s = (stepsO X (annT 54) C (gO c54_11) (gO c54_11).toList s).map fun s' => (.norm, behindS (annT 54) 3 s') := run_region (annT 54) s 3 (gO c54_11) false rfl
@[cbv_eval] theorem r_n54_13 (s : S) : n54_13 s = some (.norm, s) := run_skip (annT 54) s
@[cbv_eval] theorem r_n54_14 (s : S) : n54_14 s = some (.exit 0, s) := run_exit (annT 54) s 0
@[cbv_eval] theorem r_n54_12 (s : S) : n54_12 s = (asB (opv s.t (gC c54_12))).bind fun t => bif t then n54_13 s else n54_14 s := run_cond (annT 54) c54_13 c54_14 s (gC c54_12)
@[cbv_eval] theorem r_n54_10 (s : S) : n54_10 s = (n54_11 s).bind fun r => match r.1 with
    | .norm => n54_12 r.2
    | e => some (e, r.2) := run_seq (annT 54) c54_11 c54_12 s
@[cbv_eval] theorem r_n54_17 (s : S) : n54_17 s = (stepsO X (annT 54) C (gO c54_17) (gO c54_17).toList s).map fun s' => (.norm, behindS (annT 54) 5 s') := run_region (annT 54) s 5 (gO c54_17) false rfl
@[cbv_eval] theorem r_n54_16 (s : S) : n54_16 s = (n54_17 s).map fun r => match r.1 with
    | .exit j => bif j == 1 then (.norm, r.2) else (.exit j, r.2)
    | e => (e, r.2) := run_block (annT 54) c54_17 s 1
@[cbv_eval] theorem r_n54_18 (s : S) : n54_18 s = (stepsO X (annT 54) C (gO c54_18) (gO c54_18).toList s).map fun s' => (.norm, behindS (annT 54) 4 s') := run_region (annT 54) s 4 (gO c54_18) false rfl
@[cbv_eval] theorem r_n54_15 (s : S) : n54_15 s = (n54_16 s).bind fun r => match r.1 with
    | .norm => n54_18 r.2
    | e => some (e, r.2) := run_seq (annT 54) c54_16 c54_18 s
@[cbv_eval] theorem r_n54_9 (s : S) : n54_9 s = (n54_10 s).bind fun r => match r.1 with
    | .norm => n54_15 r.2
    | e => some (e, r.2) := run_seq (annT 54) c54_10 c54_15 s
theorem r_n54_8 (s : S) : n54_8 s = (n54_9 s).bind fun r => match r.1 with
    | .norm => n54_8 (headS (annT 54) c54_9 s.st.length r.2)
    | e => some (e, r.2) := run_loop (annT 54) c54_9 s
@[cbv_eval] theorem r_n54_7 (s : S) : n54_7 s = (n54_8 s).map fun r => match r.1 with
    | .exit j => bif j == 0 then (.norm, r.2) else (.exit j, r.2)
    | e => (e, r.2) := run_block (annT 54) c54_8 s 0
@[cbv_eval] theorem r_n54_5 (s : S) : n54_5 s = (n54_6 s).bind fun r => match r.1 with
    | .norm => n54_7 r.2
    | e => some (e, r.2) := run_seq (annT 54) c54_6 c54_7 s
@[cbv_eval] theorem r_n54_20 (s : S) : n54_20 s = (stepsO X (annT 54) C (gO c54_20) (gO c54_20).toList s).map fun s' => (.norm, behindS (annT 54) 6 s') := run_region (annT 54) s 6 (gO c54_20) false rfl
@[cbv_eval] theorem r_n54_21 (s : S) : n54_21 s = some (.ret, s) := run_ret (annT 54) s
@[cbv_eval] theorem r_n54_19 (s : S) : n54_19 s = (n54_20 s).bind fun r => match r.1 with
    | .norm => n54_21 r.2
    | e => some (e, r.2) := run_seq (annT 54) c54_20 c54_21 s
@[cbv_eval] theorem r_n54_4 (s : S) : n54_4 s = (n54_5 s).bind fun r => match r.1 with
    | .norm => n54_19 r.2
    | e => some (e, r.2) := run_seq (annT 54) c54_5 c54_19 s
@[cbv_eval] theorem r_n54_2 (s : S) : n54_2 s = (n54_3 s).bind fun r => match r.1 with
    | .norm => n54_4 r.2
    | e => some (e, r.2) := run_seq (annT 54) c54_3 c54_4 s
@[cbv_eval] theorem r_n54_0 (s : S) : n54_0 s = (n54_1 s).bind fun r => match r.1 with
    | .norm => n54_2 r.2
    | e => some (e, r.2) := run_seq (annT 54) c54_1 c54_2 s
theorem p54 (ds : List D) : pureCall C 54 ds = ((n54_0 ⟨argsT 0 (ds.map .d), []⟩).bind (bodyR [.tmp 4])).bind prOf := P_eq Try.f54 rfl rfl rfl rfl ds
theorem q54 (vs : List AV) (st : Store) : C 54 vs st = (n54_0 ⟨argsT 0 vs, st⟩).bind (bodyR [.tmp 4]) := C_eq Try.f54 rfl rfl rfl rfl vs st

@[cbv_eval] theorem ann_55 : annT 55 = { keep := [(0, [1, 2]), (1, [1, 2]), (2, [1, 2, 5]), (3, [1, 2, 5, 16]), (4, [1, 2, 5]), (5, [1, 2, 5]), (6, [4])], loops := [(3, [1, 2, 5])] } := rfl
noncomputable def c55_0 : Code := Try.f55.body.getD .skip
noncomputable def n55_0 (s : S) : Option (Ex × S) := run (annT 55) c55_0 s
noncomputable def c55_1 : Code := gL c55_0
noncomputable def n55_1 (s : S) : Option (Ex × S) := run (annT 55) c55_1 s
noncomputable def c55_2 : Code := gR c55_0
noncomputable def n55_2 (s : S) : Option (Ex × S) := run (annT 55) c55_2 s
noncomputable def c55_3 : Code := gL c55_2
noncomputable def n55_3 (s : S) : Option (Ex × S) := run (annT 55) c55_3 s
noncomputable def c55_4 : Code := gR c55_2
noncomputable def n55_4 (s : S) : Option (Ex × S) := run (annT 55) c55_4 s
noncomputable def c55_5 : Code := gL c55_4
noncomputable def n55_5 (s : S) : Option (Ex × S) := run (annT 55) c55_5 s
noncomputable def c55_6 : Code := gL c55_5
noncomputable def n55_6 (s : S) : Option (Ex × S) := run (annT 55) c55_6 s
noncomputable def c55_7 : Code := gR c55_5
noncomputable def n55_7 (s : S) : Option (Ex × S) := run (annT 55) c55_7 s
noncomputable def c55_8 : Code := gB c55_7
noncomputable def n55_8 (s : S) : Option (Ex × S) := run (annT 55) c55_8 s
noncomputable def c55_9 : Code := gB c55_8
noncomputable def n55_9 (s : S) : Option (Ex × S) := run (annT 55) c55_9 s
noncomputable def c55_10 : Code := gL c55_9
noncomputable def n55_10 (s : S) : Option (Ex × S) := run (annT 55) c55_10 s
noncomputable def c55_11 : Code := gL c55_10
noncomputable def n55_11 (s : S) : Option (Ex × S) := run (annT 55) c55_11 s
noncomputable def c55_12 : Code := gR c55_10
noncomputable def n55_12 (s : S) : Option (Ex × S) := run (annT 55) c55_12 s
noncomputable def c55_13 : Code := gT c55_12
noncomputable def n55_13 (s : S) : Option (Ex × S) := run (annT 55) c55_13 s
noncomputable def c55_14 : Code := gF c55_12
noncomputable def n55_14 (s : S) : Option (Ex × S) := run (annT 55) c55_14 s
noncomputable def c55_15 : Code := gR c55_9
noncomputable def n55_15 (s : S) : Option (Ex × S) := run (annT 55) c55_15 s
noncomputable def c55_16 : Code := gL c55_15
noncomputable def n55_16 (s : S) : Option (Ex × S) := run (annT 55) c55_16 s
noncomputable def c55_17 : Code := gB c55_16
noncomputable def n55_17 (s : S) : Option (Ex × S) := run (annT 55) c55_17 s
noncomputable def c55_18 : Code := gR c55_15
noncomputable def n55_18 (s : S) : Option (Ex × S) := run (annT 55) c55_18 s
noncomputable def c55_19 : Code := gR c55_4
noncomputable def n55_19 (s : S) : Option (Ex × S) := run (annT 55) c55_19 s
noncomputable def c55_20 : Code := gL c55_19
noncomputable def n55_20 (s : S) : Option (Ex × S) := run (annT 55) c55_20 s
noncomputable def c55_21 : Code := gR c55_19
noncomputable def n55_21 (s : S) : Option (Ex × S) := run (annT 55) c55_21 s
attribute [cbv_opaque] n55_0 n55_1 n55_2 n55_3 n55_4 n55_5 n55_6 n55_7 n55_8 n55_9 n55_10 n55_11 n55_12 n55_13 n55_14 n55_15 n55_16 n55_17 n55_18 n55_19 n55_20 n55_21
@[cbv_eval] theorem r_n55_1 (s : S) : n55_1 s = (stepsO X (annT 55) C (gO c55_1) (gO c55_1).toList s).map fun s' => (.norm, behindS (annT 55) 0 s') := run_region (annT 55) s 0 (gO c55_1) false rfl
@[cbv_eval] theorem r_n55_3 (s : S) : n55_3 s = (stepsO X (annT 55) C (gO c55_3) (gO c55_3).toList s).map fun s' => (.norm, behindS (annT 55) 1 s') := run_region (annT 55) s 1 (gO c55_3) false rfl
@[cbv_eval] theorem r_n55_6 (s : S) : n55_6 s = (stepsO X (annT 55) C (gO c55_6) (gO c55_6).toList s).map fun s' => (.norm, behindS (annT 55) 2 s') := run_region (annT 55) s 2 (gO c55_6) false rfl
@[cbv_eval] theorem r_n55_11 (s : S) : n55_11 s = (stepsO X (annT 55) C (gO c55_11) (gO c55_11).toList s).map fun s' => (.norm, behindS (annT 55) 3 s') := run_region (annT 55) s 3 (gO c55_11) false rfl
@[cbv_eval] theorem r_n55_13 (s : S) : n55_13 s = some (.norm, s) := run_skip (annT 55) s
@[cbv_eval] theorem r_n55_14 (s : S) : n55_14 s = some (.exit 0, s) := run_exit (annT 55) s 0
@[cbv_eval] theorem r_n55_12 (s : S) : n55_12 s = (asB (opv s.t (gC c55_12))).bind fun t => bif t then n55_13 s else n55_14 s := run_cond (annT 55) c55_13 c55_14 s (gC c55_12)
@[cbv_eval] theorem r_n55_10 (s : S) : n55_10 s = (n55_11 s).bind fun r => match r.1 with
    | .norm => n55_12 r.2
    | e => some (e, r.2) := run_seq (annT 55) c55_11 c55_12 s
@[cbv_eval] theorem r_n55_17 (s : S) : n55_17 s = (stepsO X (annT 55) C (gO c55_17) (gO c55_17).toList s).map fun s' => (.norm, behindS (annT 55) 5 s') := run_region (annT 55) s 5 (gO c55_17) false rfl
@[cbv_eval] theorem r_n55_16 (s : S) : n55_16 s = (n55_17 s).map fun r => match r.1 with
    | .exit j => bif j == 1 then (.norm, r.2) else (.exit j, r.2)
    | e => (e, r.2) := run_block (annT 55) c55_17 s 1
@[cbv_eval] theorem r_n55_18 (s : S) : n55_18 s = (stepsO X (annT 55) C (gO c55_18) (gO c55_18).toList s).map fun s' => (.norm, behindS (annT 55) 4 s') := run_region (annT 55) s 4 (gO c55_18) false rfl
@[cbv_eval] theorem r_n55_15 (s : S) : n55_15 s = (n55_16 s).bind fun r => match r.1 with
    | .norm => n55_18 r.2
    | e => some (e, r.2) := run_seq (annT 55) c55_16 c55_18 s
@[cbv_eval] theorem r_n55_9 (s : S) : n55_9 s = (n55_10 s).bind fun r => match r.1 with
    | .norm => n55_15 r.2
    | e => some (e, r.2) := run_seq (annT 55) c55_10 c55_15 s
theorem r_n55_8 (s : S) : n55_8 s = (n55_9 s).bind fun r => match r.1 with
    | .norm => n55_8 (headS (annT 55) c55_9 s.st.length r.2)
    | e => some (e, r.2) := run_loop (annT 55) c55_9 s
@[cbv_eval] theorem r_n55_7 (s : S) : n55_7 s = (n55_8 s).map fun r => match r.1 with
    | .exit j => bif j == 0 then (.norm, r.2) else (.exit j, r.2)
    | e => (e, r.2) := run_block (annT 55) c55_8 s 0
@[cbv_eval] theorem r_n55_5 (s : S) : n55_5 s = (n55_6 s).bind fun r => match r.1 with
    | .norm => n55_7 r.2
    | e => some (e, r.2) := run_seq (annT 55) c55_6 c55_7 s
@[cbv_eval] theorem r_n55_20 (s : S) : n55_20 s = (stepsO X (annT 55) C (gO c55_20) (gO c55_20).toList s).map fun s' => (.norm, behindS (annT 55) 6 s') := run_region (annT 55) s 6 (gO c55_20) false rfl
@[cbv_eval] theorem r_n55_21 (s : S) : n55_21 s = some (.ret, s) := run_ret (annT 55) s
@[cbv_eval] theorem r_n55_19 (s : S) : n55_19 s = (n55_20 s).bind fun r => match r.1 with
    | .norm => n55_21 r.2
    | e => some (e, r.2) := run_seq (annT 55) c55_20 c55_21 s
@[cbv_eval] theorem r_n55_4 (s : S) : n55_4 s = (n55_5 s).bind fun r => match r.1 with
    | .norm => n55_19 r.2
    | e => some (e, r.2) := run_seq (annT 55) c55_5 c55_19 s
@[cbv_eval] theorem r_n55_2 (s : S) : n55_2 s = (n55_3 s).bind fun r => match r.1 with
    | .norm => n55_4 r.2
    | e => some (e, r.2) := run_seq (annT 55) c55_3 c55_4 s
@[cbv_eval] theorem r_n55_0 (s : S) : n55_0 s = (n55_1 s).bind fun r => match r.1 with
    | .norm => n55_2 r.2
    | e => some (e, r.2) := run_seq (annT 55) c55_1 c55_2 s
theorem p55 (ds : List D) : pureCall C 55 ds = ((n55_0 ⟨argsT 0 (ds.map .d), []⟩).bind (bodyR [.tmp 4])).bind prOf := P_eq Try.f55 rfl rfl rfl rfl ds
theorem q55 (vs : List AV) (st : Store) : C 55 vs st = (n55_0 ⟨argsT 0 vs, st⟩).bind (bodyR [.tmp 4]) := C_eq Try.f55 rfl rfl rfl rfl vs st

@[cbv_eval] theorem ann_75 : annT 75 = { keep := [(0, [0]), (1, [0, 17]), (2, [2]), (3, [0, 3]), (4, [0, 3, 21]), (5, [0, 3]), (6, [0, 3, 4]), (7, [0, 3, 41]), (8, [2]), (9, [2])], loops := [(4, [0, 3])] } := rfl
noncomputable def c75_0 : Code := Try.f75.body.getD .skip
noncomputable def n75_0 (s : S) : Option (Ex × S) := run (annT 75) c75_0 s
noncomputable def c75_1 : Code := gL c75_0
noncomputable def n75_1 (s : S) : Option (Ex × S) := run (annT 75) c75_1 s
noncomputable def c75_2 : Code := gR c75_0
noncomputable def n75_2 (s : S) : Option (Ex × S) := run (annT 75) c75_2 s
noncomputable def c75_3 : Code := gL c75_2
noncomputable def n75_3 (s : S) : Option (Ex × S) := run (annT 75) c75_3 s
noncomputable def c75_4 : Code := gL c75_3
noncomputable def n75_4 (s : S) : Option (Ex × S) := run (annT 75) c75_4 s
noncomputable def c75_5 : Code := gR c75_3
noncomputable def n75_5 (s : S) : Option (Ex × S) := run (annT 75) c75_5 s
noncomputable def c75_6 : Code := gT c75_5
noncomputable def n75_6 (s : S) : Option (Ex × S) := run (annT 75) c75_6 s
noncomputable def c75_7 : Code := gL c75_6
noncomputable def n75_7 (s : S) : Option (Ex × S) := run (annT 75) c75_7 s
noncomputable def c75_8 : Code := gR c75_6
noncomputable def n75_8 (s : S) : Option (Ex × S) := run (annT 75) c75_8 s
noncomputable def c75_9 : Code := gF c75_5
noncomputable def n75_9 (s : S) : Option (Ex × S) := run (annT 75) c75_9 s
noncomputable def c75_10 : Code := gR c75_2
noncomputable def n75_10 (s : S) : Option (Ex × S) := run (annT 75) c75_10 s
noncomputable def c75_11 : Code := gL c75_10
noncomputable def n75_11 (s : S) : Option (Ex × S) := run (annT 75) c75_11 s
noncomputable def c75_12 : Code := gL c75_11
noncomputable def n75_12 (s : S) : Option (Ex × S) := run (annT 75) c75_12 s
noncomputable def c75_13 : Code := gR c75_11
noncomputable def n75_13 (s : S) : Option (Ex × S) := run (annT 75) c75_13 s
noncomputable def c75_14 : Code := gB c75_13
noncomputable def n75_14 (s : S) : Option (Ex × S) := run (annT 75) c75_14 s
noncomputable def c75_15 : Code := gB c75_14
noncomputable def n75_15 (s : S) : Option (Ex × S) := run (annT 75) c75_15 s
noncomputable def c75_16 : Code := gL c75_15
noncomputable def n75_16 (s : S) : Option (Ex × S) := run (annT 75) c75_16 s
noncomputable def c75_17 : Code := gL c75_16
noncomputable def n75_17 (s : S) : Option (Ex × S) := run (annT 75) c75_17 s
noncomputable def c75_18 : Code := gR c75_16
noncomputable def n75_18 (s : S) : Option (Ex × S) := run (annT 75) c75_18 s
noncomputable def c75_19 : Code := gT c75_18
noncomputable def n75_19 (s : S) : Option (Ex × S) := run (annT 75) c75_19 s
noncomputable def c75_20 : Code := gF c75_18
noncomputable def n75_20 (s : S) : Option (Ex × S) := run (annT 75) c75_20 s
noncomputable def c75_21 : Code := gR c75_15
noncomputable def n75_21 (s : S) : Option (Ex × S) := run (annT 75) c75_21 s
noncomputable def c75_22 : Code := gL c75_21
noncomputable def n75_22 (s : S) : Option (Ex × S) := run (annT 75) c75_22 s
noncomputable def c75_23 : Code := gB c75_22
noncomputable def n75_23 (s : S) : Option (Ex × S) := run (annT 75) c75_23 s
noncomputable def c75_24 : Code := gL c75_23
noncomputable def n75_24 (s : S) : Option (Ex × S) := run (annT 75) c75_24 s
noncomputable def c75_25 : Code := gR c75_23
noncomputable def n75_25 (s : S) : Option (Ex × S) := run (annT 75) c75_25 s
noncomputable def c75_26 : Code := gL c75_25
noncomputable def n75_26 (s : S) : Option (Ex × S) := run (annT 75) c75_26 s
noncomputable def c75_27 : Code := gR c75_25
noncomputable def n75_27 (s : S) : Option (Ex × S) := run (annT 75) c75_27 s
noncomputable def c75_28 : Code := gT c75_27
noncomputable def n75_28 (s : S) : Option (Ex × S) := run (annT 75) c75_28 s
noncomputable def c75_29 : Code := gL c75_28
noncomputable def n75_29 (s : S) : Option (Ex × S) := run (annT 75) c75_29 s
noncomputable def c75_30 : Code := gR c75_28
noncomputable def n75_30 (s : S) : Option (Ex × S) := run (annT 75) c75_30 s
noncomputable def c75_31 : Code := gF c75_27
noncomputable def n75_31 (s : S) : Option (Ex × S) := run (annT 75) c75_31 s
noncomputable def c75_32 : Code := gR c75_21
noncomputable def n75_32 (s : S) : Option (Ex × S) := run (annT 75) c75_32 s
noncomputable def c75_33 : Code := gR c75_10
noncomputable def n75_33 (s : S) : Option (Ex × S) := run (annT 75) c75_33 s
noncomputable def c75_34 : Code := gL c75_33
noncomputable def n75_34 (s : S) : Option (Ex × S) := run (annT 75) c75_34 s
noncomputable def c75_35 : Code := gR c75_33
noncomputable def n75_35 (s : S) : Option (Ex × S) := run (annT 75) c75_35 s
attribute [cbv_opaque] n75_0 n75_1 n75_2 n75_3 n75_4 n75_5 n75_6 n75_7 n75_8 n75_9 n75_10 n75_11 n75_12 n75_13 n75_14 n75_15 n75_16 n75_17 n75_18 n75_19 n75_20 n75_21 n75_22 n75_23 n75_24 n75_25 n75_26 n75_27 n75_28 n75_29 n75_30 n75_31 n75_32 n75_33 n75_34 n75_35
@[cbv_eval] theorem r_n75_1 (s : S) : n75_1 s = (stepsO X (annT 75) C (gO c75_1) (gO c75_1).toList s).map fun s' => (.norm, behindS (annT 75) 0 s') := run_region (annT 75) s 0 (gO c75_1) false rfl
@[cbv_eval] theorem r_n75_4 (s : S) : n75_4 s = (stepsO X (annT 75) C (gO c75_4) (gO c75_4).toList s).map fun s' => (.norm, behindS (annT 75) 1 s') := run_region (annT 75) s 1 (gO c75_4) false rfl
@[cbv_eval] theorem r_n75_7 (s : S) : n75_7 s = (stepsO X (annT 75) C (gO c75_7) (gO c75_7).toList s).map fun s' => (.norm, behindS (annT 75) 2 s') := run_region (annT 75) s 2 (gO c75_7) false rfl
@[cbv_eval] theorem r_n75_8 (s : S) : n75_8 s = some (.ret, s) := run_ret (annT 75) s
@[cbv_eval] theorem r_n75_6 (s : S) : n75_6 s = (n75_7 s).bind fun r => match r.1 with
    | .norm => n75_8 r.2
    | e => some (e, r.2) := run_seq (annT 75) c75_7 c75_8 s
@[cbv_eval] theorem r_n75_9 (s : S) : n75_9 s = some (.norm, s) := run_skip (annT 75) s
@[cbv_eval] theorem r_n75_5 (s : S) : n75_5 s = (asB (opv s.t (gC c75_5))).bind fun t => bif t then n75_6 s else n75_9 s := run_cond (annT 75) c75_6 c75_9 s (gC c75_5)
@[cbv_eval] theorem r_n75_3 (s : S) : n75_3 s = (n75_4 s).bind fun r => match r.1 with
    | .norm => n75_5 r.2
    | e => some (e, r.2) := run_seq (annT 75) c75_4 c75_5 s
@[cbv_eval] theorem r_n75_12 (s : S) : n75_12 s = (stepsO X (annT 75) C (gO c75_12) (gO c75_12).toList s).map fun s' => (.norm, behindS (annT 75) 3 s') := run_region (annT 75) s 3 (gO c75_12) false rfl
@[cbv_eval] theorem r_n75_17 (s : S) : n75_17 s = (stepsO X (annT 75) C (gO c75_17) (gO c75_17).toList s).map fun s' => (.norm, behindS (annT 75) 4 s') := run_region (annT 75) s 4 (gO c75_17) false rfl
@[cbv_eval] theorem r_n75_19 (s : S) : n75_19 s = some (.norm, s) := run_skip (annT 75) s
@[cbv_eval] theorem r_n75_20 (s : S) : n75_20 s = some (.exit 0, s) := run_exit (annT 75) s 0
@[cbv_eval] theorem r_n75_18 (s : S) : n75_18 s = (asB (opv s.t (gC c75_18))).bind fun t => bif t then n75_19 s else n75_20 s := run_cond (annT 75) c75_19 c75_20 s (gC c75_18)
@[cbv_eval] theorem r_n75_16 (s : S) : n75_16 s = (n75_17 s).bind fun r => match r.1 with
    | .norm => n75_18 r.2
    | e => some (e, r.2) := run_seq (annT 75) c75_17 c75_18 s
@[cbv_eval] theorem r_n75_24 (s : S) : n75_24 s = (stepsO X (annT 75) C (gO c75_24) (gO c75_24).toList s).map fun s' => (.norm, behindS (annT 75) 6 s') := run_region (annT 75) s 6 (gO c75_24) false rfl
@[cbv_eval] theorem r_n75_26 (s : S) : n75_26 s = (stepsO X (annT 75) C (gO c75_26) (gO c75_26).toList s).map fun s' => (.norm, behindS (annT 75) 7 s') := run_region (annT 75) s 7 (gO c75_26) false rfl
@[cbv_eval] theorem r_n75_29 (s : S) : n75_29 s = (stepsO X (annT 75) C (gO c75_29) (gO c75_29).toList s).map fun s' => (.norm, behindS (annT 75) 8 s') := run_region (annT 75) s 8 (gO c75_29) false rfl
@[cbv_eval] theorem r_n75_30 (s : S) : n75_30 s = some (.ret, s) := run_ret (annT 75) s
@[cbv_eval] theorem r_n75_28 (s : S) : n75_28 s = (n75_29 s).bind fun r => match r.1 with
    | .norm => n75_30 r.2
    | e => some (e, r.2) := run_seq (annT 75) c75_29 c75_30 s
@[cbv_eval] theorem r_n75_31 (s : S) : n75_31 s = some (.norm, s) := run_skip (annT 75) s
@[cbv_eval] theorem r_n75_27 (s : S) : n75_27 s = (asB (opv s.t (gC c75_27))).bind fun t => bif t then n75_28 s else n75_31 s := run_cond (annT 75) c75_28 c75_31 s (gC c75_27)
@[cbv_eval] theorem r_n75_25 (s : S) : n75_25 s = (n75_26 s).bind fun r => match r.1 with
    | .norm => n75_27 r.2
    | e => some (e, r.2) := run_seq (annT 75) c75_26 c75_27 s
@[cbv_eval] theorem r_n75_23 (s : S) : n75_23 s = (n75_24 s).bind fun r => match r.1 with
    | .norm => n75_25 r.2
    | e => some (e, r.2) := run_seq (annT 75) c75_24 c75_25 s
@[cbv_eval] theorem r_n75_22 (s : S) : n75_22 s = (n75_23 s).map fun r => match r.1 with
    | .exit j => bif j == 1 then (.norm, r.2) else (.exit j, r.2)
    | e => (e, r.2) := run_block (annT 75) c75_23 s 1
@[cbv_eval] theorem r_n75_32 (s : S) : n75_32 s = (stepsO X (annT 75) C (gO c75_32) (gO c75_32).toList s).map fun s' => (.norm, behindS (annT 75) 5 s') := run_region (annT 75) s 5 (gO c75_32) false rfl
@[cbv_eval] theorem r_n75_21 (s : S) : n75_21 s = (n75_22 s).bind fun r => match r.1 with
    | .norm => n75_32 r.2
    | e => some (e, r.2) := run_seq (annT 75) c75_22 c75_32 s
@[cbv_eval] theorem r_n75_15 (s : S) : n75_15 s = (n75_16 s).bind fun r => match r.1 with
    | .norm => n75_21 r.2
    | e => some (e, r.2) := run_seq (annT 75) c75_16 c75_21 s
theorem r_n75_14 (s : S) : n75_14 s = (n75_15 s).bind fun r => match r.1 with
    | .norm => n75_14 (headS (annT 75) c75_15 s.st.length r.2)
    | e => some (e, r.2) := run_loop (annT 75) c75_15 s
@[cbv_eval] theorem r_n75_13 (s : S) : n75_13 s = (n75_14 s).map fun r => match r.1 with
    | .exit j => bif j == 0 then (.norm, r.2) else (.exit j, r.2)
    | e => (e, r.2) := run_block (annT 75) c75_14 s 0
@[cbv_eval] theorem r_n75_11 (s : S) : n75_11 s = (n75_12 s).bind fun r => match r.1 with
    | .norm => n75_13 r.2
    | e => some (e, r.2) := run_seq (annT 75) c75_12 c75_13 s
@[cbv_eval] theorem r_n75_34 (s : S) : n75_34 s = (stepsO X (annT 75) C (gO c75_34) (gO c75_34).toList s).map fun s' => (.norm, behindS (annT 75) 9 s') := run_region (annT 75) s 9 (gO c75_34) false rfl
@[cbv_eval] theorem r_n75_35 (s : S) : n75_35 s = some (.ret, s) := run_ret (annT 75) s
@[cbv_eval] theorem r_n75_33 (s : S) : n75_33 s = (n75_34 s).bind fun r => match r.1 with
    | .norm => n75_35 r.2
    | e => some (e, r.2) := run_seq (annT 75) c75_34 c75_35 s
@[cbv_eval] theorem r_n75_10 (s : S) : n75_10 s = (n75_11 s).bind fun r => match r.1 with
    | .norm => n75_33 r.2
    | e => some (e, r.2) := run_seq (annT 75) c75_11 c75_33 s
@[cbv_eval] theorem r_n75_2 (s : S) : n75_2 s = (n75_3 s).bind fun r => match r.1 with
    | .norm => n75_10 r.2
    | e => some (e, r.2) := run_seq (annT 75) c75_3 c75_10 s
@[cbv_eval] theorem r_n75_0 (s : S) : n75_0 s = (n75_1 s).bind fun r => match r.1 with
    | .norm => n75_2 r.2
    | e => some (e, r.2) := run_seq (annT 75) c75_1 c75_2 s
theorem p75 (ds : List D) : pureCall C 75 ds = ((n75_0 ⟨argsT 0 (ds.map .d), []⟩).bind (bodyR [.tmp 2])).bind prOf := P_eq Try.f75 rfl rfl rfl rfl ds
theorem q75 (vs : List AV) (st : Store) : C 75 vs st = (n75_0 ⟨argsT 0 vs, st⟩).bind (bodyR [.tmp 2]) := C_eq Try.f75 rfl rfl rfl rfl vs st

@[cbv_eval] theorem ann_92 : annT 92 = { keep := [(0, [0]), (1, [2])], loops := [] } := rfl
noncomputable def c92_0 : Code := Try.f92.body.getD .skip
noncomputable def n92_0 (s : S) : Option (Ex × S) := run (annT 92) c92_0 s
noncomputable def c92_1 : Code := gL c92_0
noncomputable def n92_1 (s : S) : Option (Ex × S) := run (annT 92) c92_1 s
noncomputable def c92_2 : Code := gR c92_0
noncomputable def n92_2 (s : S) : Option (Ex × S) := run (annT 92) c92_2 s
noncomputable def c92_3 : Code := gL c92_2
noncomputable def n92_3 (s : S) : Option (Ex × S) := run (annT 92) c92_3 s
noncomputable def c92_4 : Code := gR c92_2
noncomputable def n92_4 (s : S) : Option (Ex × S) := run (annT 92) c92_4 s
attribute [cbv_opaque] n92_0 n92_1 n92_2 n92_3 n92_4
@[cbv_eval] theorem r_n92_1 (s : S) : n92_1 s = (stepsO X (annT 92) C (gO c92_1) (gO c92_1).toList s).map fun s' => (.norm, behindS (annT 92) 0 s') := run_region (annT 92) s 0 (gO c92_1) false rfl
@[cbv_eval] theorem r_n92_3 (s : S) : n92_3 s = (stepsO X (annT 92) C (gO c92_3) (gO c92_3).toList s).map fun s' => (.norm, behindS (annT 92) 1 s') := run_region (annT 92) s 1 (gO c92_3) false rfl
@[cbv_eval] theorem r_n92_4 (s : S) : n92_4 s = some (.ret, s) := run_ret (annT 92) s
@[cbv_eval] theorem r_n92_2 (s : S) : n92_2 s = (n92_3 s).bind fun r => match r.1 with
    | .norm => n92_4 r.2
    | e => some (e, r.2) := run_seq (annT 92) c92_3 c92_4 s
@[cbv_eval] theorem r_n92_0 (s : S) : n92_0 s = (n92_1 s).bind fun r => match r.1 with
    | .norm => n92_2 r.2
    | e => some (e, r.2) := run_seq (annT 92) c92_1 c92_2 s
theorem p92 (ds : List D) : pureCall C 92 ds = ((n92_0 ⟨argsT 0 (ds.map .d), []⟩).bind (bodyR [.tmp 2])).bind prOf := P_eq Try.f92 rfl rfl rfl rfl ds
theorem q92 (vs : List AV) (st : Store) : C 92 vs st = (n92_0 ⟨argsT 0 vs, st⟩).bind (bodyR [.tmp 2]) := C_eq Try.f92 rfl rfl rfl rfl vs st

@[cbv_eval] theorem ann_94 : annT 94 = { keep := [(0, [0]), (1, [2])], loops := [] } := rfl
noncomputable def c94_0 : Code := Try.f94.body.getD .skip
noncomputable def n94_0 (s : S) : Option (Ex × S) := run (annT 94) c94_0 s
noncomputable def c94_1 : Code := gL c94_0
noncomputable def n94_1 (s : S) : Option (Ex × S) := run (annT 94) c94_1 s
noncomputable def c94_2 : Code := gR c94_0
noncomputable def n94_2 (s : S) : Option (Ex × S) := run (annT 94) c94_2 s
noncomputable def c94_3 : Code := gL c94_2
noncomputable def n94_3 (s : S) : Option (Ex × S) := run (annT 94) c94_3 s
noncomputable def c94_4 : Code := gR c94_2
noncomputable def n94_4 (s : S) : Option (Ex × S) := run (annT 94) c94_4 s
attribute [cbv_opaque] n94_0 n94_1 n94_2 n94_3 n94_4
@[cbv_eval] theorem r_n94_1 (s : S) : n94_1 s = (stepsO X (annT 94) C (gO c94_1) (gO c94_1).toList s).map fun s' => (.norm, behindS (annT 94) 0 s') := run_region (annT 94) s 0 (gO c94_1) false rfl
@[cbv_eval] theorem r_n94_3 (s : S) : n94_3 s = (stepsO X (annT 94) C (gO c94_3) (gO c94_3).toList s).map fun s' => (.norm, behindS (annT 94) 1 s') := run_region (annT 94) s 1 (gO c94_3) false rfl
@[cbv_eval] theorem r_n94_4 (s : S) : n94_4 s = some (.ret, s) := run_ret (annT 94) s
@[cbv_eval] theorem r_n94_2 (s : S) : n94_2 s = (n94_3 s).bind fun r => match r.1 with
    | .norm => n94_4 r.2
    | e => some (e, r.2) := run_seq (annT 94) c94_3 c94_4 s
@[cbv_eval] theorem r_n94_0 (s : S) : n94_0 s = (n94_1 s).bind fun r => match r.1 with
    | .norm => n94_2 r.2
    | e => some (e, r.2) := run_seq (annT 94) c94_1 c94_2 s
theorem p94 (ds : List D) : pureCall C 94 ds = ((n94_0 ⟨argsT 0 (ds.map .d), []⟩).bind (bodyR [.tmp 2])).bind prOf := P_eq Try.f94 rfl rfl rfl rfl ds
theorem q94 (vs : List AV) (st : Store) : C 94 vs st = (n94_0 ⟨argsT 0 vs, st⟩).bind (bodyR [.tmp 2]) := C_eq Try.f94 rfl rfl rfl rfl vs st

@[cbv_eval] theorem ann_98 : annT 98 = { keep := [(0, [0, 1]), (1, [0, 1, 7, 8]), (2, [0, 1, 7, 8, 9]), (3, [0, 1, 5, 7, 8]), (4, [0, 1, 5, 7, 8, 16]), (5, [4]), (6, [0, 1, 7, 8]), (7, [4])], loops := [(2, [0, 1, 7, 8])] } := rfl
noncomputable def c98_0 : Code := Try.f98.body.getD .skip
noncomputable def n98_0 (s : S) : Option (Ex × S) := run (annT 98) c98_0 s
noncomputable def c98_1 : Code := gL c98_0
noncomputable def n98_1 (s : S) : Option (Ex × S) := run (annT 98) c98_1 s
noncomputable def c98_2 : Code := gR c98_0
noncomputable def n98_2 (s : S) : Option (Ex × S) := run (annT 98) c98_2 s
noncomputable def c98_3 : Code := gL c98_2
noncomputable def n98_3 (s : S) : Option (Ex × S) := run (annT 98) c98_3 s
noncomputable def c98_4 : Code := gL c98_3
noncomputable def n98_4 (s : S) : Option (Ex × S) := run (annT 98) c98_4 s
noncomputable def c98_5 : Code := gR c98_3
noncomputable def n98_5 (s : S) : Option (Ex × S) := run (annT 98) c98_5 s
noncomputable def c98_6 : Code := gB c98_5
noncomputable def n98_6 (s : S) : Option (Ex × S) := run (annT 98) c98_6 s
noncomputable def c98_7 : Code := gB c98_6
noncomputable def n98_7 (s : S) : Option (Ex × S) := run (annT 98) c98_7 s
noncomputable def c98_8 : Code := gL c98_7
noncomputable def n98_8 (s : S) : Option (Ex × S) := run (annT 98) c98_8 s
noncomputable def c98_9 : Code := gR c98_7
noncomputable def n98_9 (s : S) : Option (Ex × S) := run (annT 98) c98_9 s
noncomputable def c98_10 : Code := gL c98_9
noncomputable def n98_10 (s : S) : Option (Ex × S) := run (annT 98) c98_10 s
noncomputable def c98_11 : Code := gT c98_10
noncomputable def n98_11 (s : S) : Option (Ex × S) := run (annT 98) c98_11 s
noncomputable def c98_12 : Code := gF c98_10
noncomputable def n98_12 (s : S) : Option (Ex × S) := run (annT 98) c98_12 s
noncomputable def c98_13 : Code := gR c98_9
noncomputable def n98_13 (s : S) : Option (Ex × S) := run (annT 98) c98_13 s
noncomputable def c98_14 : Code := gL c98_13
noncomputable def n98_14 (s : S) : Option (Ex × S) := run (annT 98) c98_14 s
noncomputable def c98_15 : Code := gB c98_14
noncomputable def n98_15 (s : S) : Option (Ex × S) := run (annT 98) c98_15 s
noncomputable def c98_16 : Code := gL c98_15
noncomputable def n98_16 (s : S) : Option (Ex × S) := run (annT 98) c98_16 s
noncomputable def c98_17 : Code := gR c98_15
noncomputable def n98_17 (s : S) : Option (Ex × S) := run (annT 98) c98_17 s
noncomputable def c98_18 : Code := gL c98_17
noncomputable def n98_18 (s : S) : Option (Ex × S) := run (annT 98) c98_18 s
noncomputable def c98_19 : Code := gR c98_17
noncomputable def n98_19 (s : S) : Option (Ex × S) := run (annT 98) c98_19 s
noncomputable def c98_20 : Code := gT c98_19
noncomputable def n98_20 (s : S) : Option (Ex × S) := run (annT 98) c98_20 s
noncomputable def c98_21 : Code := gL c98_20
noncomputable def n98_21 (s : S) : Option (Ex × S) := run (annT 98) c98_21 s
noncomputable def c98_22 : Code := gR c98_20
noncomputable def n98_22 (s : S) : Option (Ex × S) := run (annT 98) c98_22 s
noncomputable def c98_23 : Code := gF c98_19
noncomputable def n98_23 (s : S) : Option (Ex × S) := run (annT 98) c98_23 s
noncomputable def c98_24 : Code := gR c98_13
noncomputable def n98_24 (s : S) : Option (Ex × S) := run (annT 98) c98_24 s
noncomputable def c98_25 : Code := gR c98_2
noncomputable def n98_25 (s : S) : Option (Ex × S) := run (annT 98) c98_25 s
noncomputable def c98_26 : Code := gL c98_25
noncomputable def n98_26 (s : S) : Option (Ex × S) := run (annT 98) c98_26 s
noncomputable def c98_27 : Code := gR c98_25
noncomputable def n98_27 (s : S) : Option (Ex × S) := run (annT 98) c98_27 s
attribute [cbv_opaque] n98_0 n98_1 n98_2 n98_3 n98_4 n98_5 n98_6 n98_7 n98_8 n98_9 n98_10 n98_11 n98_12 n98_13 n98_14 n98_15 n98_16 n98_17 n98_18 n98_19 n98_20 n98_21 n98_22 n98_23 n98_24 n98_25 n98_26 n98_27
@[cbv_eval] theorem r_n98_1 (s : S) : n98_1 s = (stepsO X (annT 98) C (gO c98_1) (gO c98_1).toList s).map fun s' => (.norm, behindS (annT 98) 0 s') := run_region (annT 98) s 0 (gO c98_1) false rfl
@[cbv_eval] theorem r_n98_4 (s : S) : n98_4 s = (stepsO X (annT 98) C (gO c98_4) (gO c98_4).toList s).map fun s' => (.norm, behindS (annT 98) 1 s') := run_region (annT 98) s 1 (gO c98_4) false rfl
@[cbv_eval] theorem r_n98_8 (s : S) : n98_8 s = (stepsO X (annT 98) C (gO c98_8) (gO c98_8).toList s).map fun s' => (.norm, behindS (annT 98) 2 s') := run_region (annT 98) s 2 (gO c98_8) false rfl
@[cbv_eval] theorem r_n98_11 (s : S) : n98_11 s = some (.norm, s) := run_skip (annT 98) s
@[cbv_eval] theorem r_n98_12 (s : S) : n98_12 s = some (.exit 0, s) := run_exit (annT 98) s 0
@[cbv_eval] theorem r_n98_10 (s : S) : n98_10 s = (asB (opv s.t (gC c98_10))).bind fun t => bif t then n98_11 s else n98_12 s := run_cond (annT 98) c98_11 c98_12 s (gC c98_10)
@[cbv_eval] theorem r_n98_16 (s : S) : n98_16 s = (stepsO X (annT 98) C (gO c98_16) (gO c98_16).toList s).map fun s' => (.norm, behindS (annT 98) 3 s') := run_region (annT 98) s 3 (gO c98_16) false rfl
@[cbv_eval] theorem r_n98_18 (s : S) : n98_18 s = (stepsO X (annT 98) C (gO c98_18) (gO c98_18).toList s).map fun s' => (.norm, behindS (annT 98) 4 s') := run_region (annT 98) s 4 (gO c98_18) false rfl
@[cbv_eval] theorem r_n98_21 (s : S) : n98_21 s = (stepsO X (annT 98) C (gO c98_21) (gO c98_21).toList s).map fun s' => (.norm, behindS (annT 98) 5 s') := run_region (annT 98) s 5 (gO c98_21) false rfl
@[cbv_eval] theorem r_n98_22 (s : S) : n98_22 s = some (.ret, s) := run_ret (annT 98) s
@[cbv_eval] theorem r_n98_20 (s : S) : n98_20 s = (n98_21 s).bind fun r => match r.1 with
    | .norm => n98_22 r.2
    | e => some (e, r.2) := run_seq (annT 98) c98_21 c98_22 s
@[cbv_eval] theorem r_n98_23 (s : S) : n98_23 s = some (.norm, s) := run_skip (annT 98) s
@[cbv_eval] theorem r_n98_19 (s : S) : n98_19 s = (asB (opv s.t (gC c98_19))).bind fun t => bif t then n98_20 s else n98_23 s := run_cond (annT 98) c98_20 c98_23 s (gC c98_19)
@[cbv_eval] theorem r_n98_17 (s : S) : n98_17 s = (n98_18 s).bind fun r => match r.1 with
    | .norm => n98_19 r.2
    | e => some (e, r.2) := run_seq (annT 98) c98_18 c98_19 s
@[cbv_eval] theorem r_n98_15 (s : S) : n98_15 s = (n98_16 s).bind fun r => match r.1 with
    | .norm => n98_17 r.2
    | e => some (e, r.2) := run_seq (annT 98) c98_16 c98_17 s
@[cbv_eval] theorem r_n98_14 (s : S) : n98_14 s = (n98_15 s).map fun r => match r.1 with
    | .exit j => bif j == 1 then (.norm, r.2) else (.exit j, r.2)
    | e => (e, r.2) := run_block (annT 98) c98_15 s 1
@[cbv_eval] theorem r_n98_24 (s : S) : n98_24 s = (stepsO X (annT 98) C (gO c98_24) (gO c98_24).toList s).map fun s' => (.norm, behindS (annT 98) 6 s') := run_region (annT 98) s 6 (gO c98_24) false rfl
@[cbv_eval] theorem r_n98_13 (s : S) : n98_13 s = (n98_14 s).bind fun r => match r.1 with
    | .norm => n98_24 r.2
    | e => some (e, r.2) := run_seq (annT 98) c98_14 c98_24 s
@[cbv_eval] theorem r_n98_9 (s : S) : n98_9 s = (n98_10 s).bind fun r => match r.1 with
    | .norm => n98_13 r.2
    | e => some (e, r.2) := run_seq (annT 98) c98_10 c98_13 s
@[cbv_eval] theorem r_n98_7 (s : S) : n98_7 s = (n98_8 s).bind fun r => match r.1 with
    | .norm => n98_9 r.2
    | e => some (e, r.2) := run_seq (annT 98) c98_8 c98_9 s
theorem r_n98_6 (s : S) : n98_6 s = (n98_7 s).bind fun r => match r.1 with
    | .norm => n98_6 (headS (annT 98) c98_7 s.st.length r.2)
    | e => some (e, r.2) := run_loop (annT 98) c98_7 s
@[cbv_eval] theorem r_n98_5 (s : S) : n98_5 s = (n98_6 s).map fun r => match r.1 with
    | .exit j => bif j == 0 then (.norm, r.2) else (.exit j, r.2)
    | e => (e, r.2) := run_block (annT 98) c98_6 s 0
@[cbv_eval] theorem r_n98_3 (s : S) : n98_3 s = (n98_4 s).bind fun r => match r.1 with
    | .norm => n98_5 r.2
    | e => some (e, r.2) := run_seq (annT 98) c98_4 c98_5 s
@[cbv_eval] theorem r_n98_26 (s : S) : n98_26 s = (stepsO X (annT 98) C (gO c98_26) (gO c98_26).toList s).map fun s' => (.norm, behindS (annT 98) 7 s') := run_region (annT 98) s 7 (gO c98_26) false rfl
@[cbv_eval] theorem r_n98_27 (s : S) : n98_27 s = some (.ret, s) := run_ret (annT 98) s
@[cbv_eval] theorem r_n98_25 (s : S) : n98_25 s = (n98_26 s).bind fun r => match r.1 with
    | .norm => n98_27 r.2
    | e => some (e, r.2) := run_seq (annT 98) c98_26 c98_27 s
@[cbv_eval] theorem r_n98_2 (s : S) : n98_2 s = (n98_3 s).bind fun r => match r.1 with
    | .norm => n98_25 r.2
    | e => some (e, r.2) := run_seq (annT 98) c98_3 c98_25 s
@[cbv_eval] theorem r_n98_0 (s : S) : n98_0 s = (n98_1 s).bind fun r => match r.1 with
    | .norm => n98_2 r.2
    | e => some (e, r.2) := run_seq (annT 98) c98_1 c98_2 s
theorem p98 (ds : List D) : pureCall C 98 ds = ((n98_0 ⟨argsT 0 (ds.map .d), []⟩).bind (bodyR [.tmp 4])).bind prOf := P_eq Try.f98 rfl rfl rfl rfl ds
theorem q98 (vs : List AV) (st : Store) : C 98 vs st = (n98_0 ⟨argsT 0 vs, st⟩).bind (bodyR [.tmp 4]) := C_eq Try.f98 rfl rfl rfl rfl vs st

@[cbv_eval] theorem ann_93 : annT 93 = { keep := [(0, [0, 1]), (1, [4])], loops := [] } := rfl
noncomputable def c93_0 : Code := Try.f93.body.getD .skip
noncomputable def n93_0 (s : S) : Option (Ex × S) := run (annT 93) c93_0 s
noncomputable def c93_1 : Code := gL c93_0
noncomputable def n93_1 (s : S) : Option (Ex × S) := run (annT 93) c93_1 s
noncomputable def c93_2 : Code := gR c93_0
noncomputable def n93_2 (s : S) : Option (Ex × S) := run (annT 93) c93_2 s
noncomputable def c93_3 : Code := gL c93_2
noncomputable def n93_3 (s : S) : Option (Ex × S) := run (annT 93) c93_3 s
noncomputable def c93_4 : Code := gR c93_2
noncomputable def n93_4 (s : S) : Option (Ex × S) := run (annT 93) c93_4 s
attribute [cbv_opaque] n93_0 n93_1 n93_2 n93_3 n93_4
@[cbv_eval] theorem r_n93_1 (s : S) : n93_1 s = (stepsO X (annT 93) C (gO c93_1) (gO c93_1).toList s).map fun s' => (.norm, behindS (annT 93) 0 s') := run_region (annT 93) s 0 (gO c93_1) false rfl
@[cbv_eval] theorem r_n93_3 (s : S) : n93_3 s = (stepsO X (annT 93) C (gO c93_3) (gO c93_3).toList s).map fun s' => (.norm, behindS (annT 93) 1 s') := run_region (annT 93) s 1 (gO c93_3) false rfl
@[cbv_eval] theorem r_n93_4 (s : S) : n93_4 s = some (.ret, s) := run_ret (annT 93) s
@[cbv_eval] theorem r_n93_2 (s : S) : n93_2 s = (n93_3 s).bind fun r => match r.1 with
    | .norm => n93_4 r.2
    | e => some (e, r.2) := run_seq (annT 93) c93_3 c93_4 s
@[cbv_eval] theorem r_n93_0 (s : S) : n93_0 s = (n93_1 s).bind fun r => match r.1 with
    | .norm => n93_2 r.2
    | e => some (e, r.2) := run_seq (annT 93) c93_1 c93_2 s
theorem p93 (ds : List D) : pureCall C 93 ds = ((n93_0 ⟨argsT 0 (ds.map .d), []⟩).bind (bodyR [.tmp 4])).bind prOf := P_eq Try.f93 rfl rfl rfl rfl ds
theorem q93 (vs : List AV) (st : Store) : C 93 vs st = (n93_0 ⟨argsT 0 vs, st⟩).bind (bodyR [.tmp 4]) := C_eq Try.f93 rfl rfl rfl rfl vs st

@[cbv_eval] theorem ann_99 : annT 99 = { keep := [(0, [0, 1]), (1, [0, 1, 7, 8]), (2, [0, 1, 7, 8, 9]), (3, [0, 1, 5, 7, 8]), (4, [0, 1, 5, 7, 8, 16]), (5, [4]), (6, [0, 1, 7, 8]), (7, [4])], loops := [(2, [0, 1, 7, 8])] } := rfl
noncomputable def c99_0 : Code := Try.f99.body.getD .skip
noncomputable def n99_0 (s : S) : Option (Ex × S) := run (annT 99) c99_0 s
noncomputable def c99_1 : Code := gL c99_0
noncomputable def n99_1 (s : S) : Option (Ex × S) := run (annT 99) c99_1 s
noncomputable def c99_2 : Code := gR c99_0
noncomputable def n99_2 (s : S) : Option (Ex × S) := run (annT 99) c99_2 s
noncomputable def c99_3 : Code := gL c99_2
noncomputable def n99_3 (s : S) : Option (Ex × S) := run (annT 99) c99_3 s
noncomputable def c99_4 : Code := gL c99_3
noncomputable def n99_4 (s : S) : Option (Ex × S) := run (annT 99) c99_4 s
noncomputable def c99_5 : Code := gR c99_3
noncomputable def n99_5 (s : S) : Option (Ex × S) := run (annT 99) c99_5 s
noncomputable def c99_6 : Code := gB c99_5
noncomputable def n99_6 (s : S) : Option (Ex × S) := run (annT 99) c99_6 s
noncomputable def c99_7 : Code := gB c99_6
noncomputable def n99_7 (s : S) : Option (Ex × S) := run (annT 99) c99_7 s
noncomputable def c99_8 : Code := gL c99_7
noncomputable def n99_8 (s : S) : Option (Ex × S) := run (annT 99) c99_8 s
noncomputable def c99_9 : Code := gR c99_7
noncomputable def n99_9 (s : S) : Option (Ex × S) := run (annT 99) c99_9 s
noncomputable def c99_10 : Code := gL c99_9
noncomputable def n99_10 (s : S) : Option (Ex × S) := run (annT 99) c99_10 s
noncomputable def c99_11 : Code := gT c99_10
noncomputable def n99_11 (s : S) : Option (Ex × S) := run (annT 99) c99_11 s
noncomputable def c99_12 : Code := gF c99_10
noncomputable def n99_12 (s : S) : Option (Ex × S) := run (annT 99) c99_12 s
noncomputable def c99_13 : Code := gR c99_9
noncomputable def n99_13 (s : S) : Option (Ex × S) := run (annT 99) c99_13 s
noncomputable def c99_14 : Code := gL c99_13
noncomputable def n99_14 (s : S) : Option (Ex × S) := run (annT 99) c99_14 s
noncomputable def c99_15 : Code := gB c99_14
noncomputable def n99_15 (s : S) : Option (Ex × S) := run (annT 99) c99_15 s
noncomputable def c99_16 : Code := gL c99_15
noncomputable def n99_16 (s : S) : Option (Ex × S) := run (annT 99) c99_16 s
noncomputable def c99_17 : Code := gR c99_15
noncomputable def n99_17 (s : S) : Option (Ex × S) := run (annT 99) c99_17 s
noncomputable def c99_18 : Code := gL c99_17
noncomputable def n99_18 (s : S) : Option (Ex × S) := run (annT 99) c99_18 s
noncomputable def c99_19 : Code := gR c99_17
noncomputable def n99_19 (s : S) : Option (Ex × S) := run (annT 99) c99_19 s
noncomputable def c99_20 : Code := gT c99_19
noncomputable def n99_20 (s : S) : Option (Ex × S) := run (annT 99) c99_20 s
noncomputable def c99_21 : Code := gL c99_20
noncomputable def n99_21 (s : S) : Option (Ex × S) := run (annT 99) c99_21 s
noncomputable def c99_22 : Code := gR c99_20
noncomputable def n99_22 (s : S) : Option (Ex × S) := run (annT 99) c99_22 s
noncomputable def c99_23 : Code := gF c99_19
noncomputable def n99_23 (s : S) : Option (Ex × S) := run (annT 99) c99_23 s
noncomputable def c99_24 : Code := gR c99_13
noncomputable def n99_24 (s : S) : Option (Ex × S) := run (annT 99) c99_24 s
noncomputable def c99_25 : Code := gR c99_2
noncomputable def n99_25 (s : S) : Option (Ex × S) := run (annT 99) c99_25 s
noncomputable def c99_26 : Code := gL c99_25
noncomputable def n99_26 (s : S) : Option (Ex × S) := run (annT 99) c99_26 s
noncomputable def c99_27 : Code := gR c99_25
noncomputable def n99_27 (s : S) : Option (Ex × S) := run (annT 99) c99_27 s
attribute [cbv_opaque] n99_0 n99_1 n99_2 n99_3 n99_4 n99_5 n99_6 n99_7 n99_8 n99_9 n99_10 n99_11 n99_12 n99_13 n99_14 n99_15 n99_16 n99_17 n99_18 n99_19 n99_20 n99_21 n99_22 n99_23 n99_24 n99_25 n99_26 n99_27
@[cbv_eval] theorem r_n99_1 (s : S) : n99_1 s = (stepsO X (annT 99) C (gO c99_1) (gO c99_1).toList s).map fun s' => (.norm, behindS (annT 99) 0 s') := run_region (annT 99) s 0 (gO c99_1) false rfl
@[cbv_eval] theorem r_n99_4 (s : S) : n99_4 s = (stepsO X (annT 99) C (gO c99_4) (gO c99_4).toList s).map fun s' => (.norm, behindS (annT 99) 1 s') := run_region (annT 99) s 1 (gO c99_4) false rfl
@[cbv_eval] theorem r_n99_8 (s : S) : n99_8 s = (stepsO X (annT 99) C (gO c99_8) (gO c99_8).toList s).map fun s' => (.norm, behindS (annT 99) 2 s') := run_region (annT 99) s 2 (gO c99_8) false rfl
@[cbv_eval] theorem r_n99_11 (s : S) : n99_11 s = some (.norm, s) := run_skip (annT 99) s
@[cbv_eval] theorem r_n99_12 (s : S) : n99_12 s = some (.exit 0, s) := run_exit (annT 99) s 0
@[cbv_eval] theorem r_n99_10 (s : S) : n99_10 s = (asB (opv s.t (gC c99_10))).bind fun t => bif t then n99_11 s else n99_12 s := run_cond (annT 99) c99_11 c99_12 s (gC c99_10)
@[cbv_eval] theorem r_n99_16 (s : S) : n99_16 s = (stepsO X (annT 99) C (gO c99_16) (gO c99_16).toList s).map fun s' => (.norm, behindS (annT 99) 3 s') := run_region (annT 99) s 3 (gO c99_16) false rfl
@[cbv_eval] theorem r_n99_18 (s : S) : n99_18 s = (stepsO X (annT 99) C (gO c99_18) (gO c99_18).toList s).map fun s' => (.norm, behindS (annT 99) 4 s') := run_region (annT 99) s 4 (gO c99_18) false rfl
@[cbv_eval] theorem r_n99_21 (s : S) : n99_21 s = (stepsO X (annT 99) C (gO c99_21) (gO c99_21).toList s).map fun s' => (.norm, behindS (annT 99) 5 s') := run_region (annT 99) s 5 (gO c99_21) false rfl
@[cbv_eval] theorem r_n99_22 (s : S) : n99_22 s = some (.ret, s) := run_ret (annT 99) s
@[cbv_eval] theorem r_n99_20 (s : S) : n99_20 s = (n99_21 s).bind fun r => match r.1 with
    | .norm => n99_22 r.2
    | e => some (e, r.2) := run_seq (annT 99) c99_21 c99_22 s
@[cbv_eval] theorem r_n99_23 (s : S) : n99_23 s = some (.norm, s) := run_skip (annT 99) s
@[cbv_eval] theorem r_n99_19 (s : S) : n99_19 s = (asB (opv s.t (gC c99_19))).bind fun t => bif t then n99_20 s else n99_23 s := run_cond (annT 99) c99_20 c99_23 s (gC c99_19)
@[cbv_eval] theorem r_n99_17 (s : S) : n99_17 s = (n99_18 s).bind fun r => match r.1 with
    | .norm => n99_19 r.2
    | e => some (e, r.2) := run_seq (annT 99) c99_18 c99_19 s
@[cbv_eval] theorem r_n99_15 (s : S) : n99_15 s = (n99_16 s).bind fun r => match r.1 with
    | .norm => n99_17 r.2
    | e => some (e, r.2) := run_seq (annT 99) c99_16 c99_17 s
@[cbv_eval] theorem r_n99_14 (s : S) : n99_14 s = (n99_15 s).map fun r => match r.1 with
    | .exit j => bif j == 1 then (.norm, r.2) else (.exit j, r.2)
    | e => (e, r.2) := run_block (annT 99) c99_15 s 1
@[cbv_eval] theorem r_n99_24 (s : S) : n99_24 s = (stepsO X (annT 99) C (gO c99_24) (gO c99_24).toList s).map fun s' => (.norm, behindS (annT 99) 6 s') := run_region (annT 99) s 6 (gO c99_24) false rfl
@[cbv_eval] theorem r_n99_13 (s : S) : n99_13 s = (n99_14 s).bind fun r => match r.1 with
    | .norm => n99_24 r.2
    | e => some (e, r.2) := run_seq (annT 99) c99_14 c99_24 s
@[cbv_eval] theorem r_n99_9 (s : S) : n99_9 s = (n99_10 s).bind fun r => match r.1 with
    | .norm => n99_13 r.2
    | e => some (e, r.2) := run_seq (annT 99) c99_10 c99_13 s
@[cbv_eval] theorem r_n99_7 (s : S) : n99_7 s = (n99_8 s).bind fun r => match r.1 with
    | .norm => n99_9 r.2
    | e => some (e, r.2) := run_seq (annT 99) c99_8 c99_9 s
theorem r_n99_6 (s : S) : n99_6 s = (n99_7 s).bind fun r => match r.1 with
    | .norm => n99_6 (headS (annT 99) c99_7 s.st.length r.2)
    | e => some (e, r.2) := run_loop (annT 99) c99_7 s
@[cbv_eval] theorem r_n99_5 (s : S) : n99_5 s = (n99_6 s).map fun r => match r.1 with
    | .exit j => bif j == 0 then (.norm, r.2) else (.exit j, r.2)
    | e => (e, r.2) := run_block (annT 99) c99_6 s 0
@[cbv_eval] theorem r_n99_3 (s : S) : n99_3 s = (n99_4 s).bind fun r => match r.1 with
    | .norm => n99_5 r.2
    | e => some (e, r.2) := run_seq (annT 99) c99_4 c99_5 s
@[cbv_eval] theorem r_n99_26 (s : S) : n99_26 s = (stepsO X (annT 99) C (gO c99_26) (gO c99_26).toList s).map fun s' => (.norm, behindS (annT 99) 7 s') := run_region (annT 99) s 7 (gO c99_26) false rfl
@[cbv_eval] theorem r_n99_27 (s : S) : n99_27 s = some (.ret, s) := run_ret (annT 99) s
@[cbv_eval] theorem r_n99_25 (s : S) : n99_25 s = (n99_26 s).bind fun r => match r.1 with
    | .norm => n99_27 r.2
    | e => some (e, r.2) := run_seq (annT 99) c99_26 c99_27 s
@[cbv_eval] theorem r_n99_2 (s : S) : n99_2 s = (n99_3 s).bind fun r => match r.1 with
    | .norm => n99_25 r.2
    | e => some (e, r.2) := run_seq (annT 99) c99_3 c99_25 s
@[cbv_eval] theorem r_n99_0 (s : S) : n99_0 s = (n99_1 s).bind fun r => match r.1 with
    | .norm => n99_2 r.2
    | e => some (e, r.2) := run_seq (annT 99) c99_1 c99_2 s
theorem p99 (ds : List D) : pureCall C 99 ds = ((n99_0 ⟨argsT 0 (ds.map .d), []⟩).bind (bodyR [.tmp 4])).bind prOf := P_eq Try.f99 rfl rfl rfl rfl ds
theorem q99 (vs : List AV) (st : Store) : C 99 vs st = (n99_0 ⟨argsT 0 vs, st⟩).bind (bodyR [.tmp 4]) := C_eq Try.f99 rfl rfl rfl rfl vs st

@[cbv_eval] theorem ann_95 : annT 95 = { keep := [(0, [0, 1]), (1, [4])], loops := [] } := rfl
noncomputable def c95_0 : Code := Try.f95.body.getD .skip
noncomputable def n95_0 (s : S) : Option (Ex × S) := run (annT 95) c95_0 s
noncomputable def c95_1 : Code := gL c95_0
noncomputable def n95_1 (s : S) : Option (Ex × S) := run (annT 95) c95_1 s
noncomputable def c95_2 : Code := gR c95_0
noncomputable def n95_2 (s : S) : Option (Ex × S) := run (annT 95) c95_2 s
noncomputable def c95_3 : Code := gL c95_2
noncomputable def n95_3 (s : S) : Option (Ex × S) := run (annT 95) c95_3 s
noncomputable def c95_4 : Code := gR c95_2
noncomputable def n95_4 (s : S) : Option (Ex × S) := run (annT 95) c95_4 s
attribute [cbv_opaque] n95_0 n95_1 n95_2 n95_3 n95_4
@[cbv_eval] theorem r_n95_1 (s : S) : n95_1 s = (stepsO X (annT 95) C (gO c95_1) (gO c95_1).toList s).map fun s' => (.norm, behindS (annT 95) 0 s') := run_region (annT 95) s 0 (gO c95_1) false rfl
@[cbv_eval] theorem r_n95_3 (s : S) : n95_3 s = (stepsO X (annT 95) C (gO c95_3) (gO c95_3).toList s).map fun s' => (.norm, behindS (annT 95) 1 s') := run_region (annT 95) s 1 (gO c95_3) false rfl
@[cbv_eval] theorem r_n95_4 (s : S) : n95_4 s = some (.ret, s) := run_ret (annT 95) s
@[cbv_eval] theorem r_n95_2 (s : S) : n95_2 s = (n95_3 s).bind fun r => match r.1 with
    | .norm => n95_4 r.2
    | e => some (e, r.2) := run_seq (annT 95) c95_3 c95_4 s
@[cbv_eval] theorem r_n95_0 (s : S) : n95_0 s = (n95_1 s).bind fun r => match r.1 with
    | .norm => n95_2 r.2
    | e => some (e, r.2) := run_seq (annT 95) c95_1 c95_2 s
theorem p95 (ds : List D) : pureCall C 95 ds = ((n95_0 ⟨argsT 0 (ds.map .d), []⟩).bind (bodyR [.tmp 4])).bind prOf := P_eq Try.f95 rfl rfl rfl rfl ds
theorem q95 (vs : List AV) (st : Store) : C 95 vs st = (n95_0 ⟨argsT 0 vs, st⟩).bind (bodyR [.tmp 4]) := C_eq Try.f95 rfl rfl rfl rfl vs st

@[cbv_eval] theorem ann_74 : annT 74 = { keep := [(0, [1]), (1, [2])], loops := [] } := rfl
noncomputable def c74_0 : Code := Try.f74.body.getD .skip
noncomputable def n74_0 (s : S) : Option (Ex × S) := run (annT 74) c74_0 s
noncomputable def c74_1 : Code := gL c74_0
noncomputable def n74_1 (s : S) : Option (Ex × S) := run (annT 74) c74_1 s
noncomputable def c74_2 : Code := gR c74_0
noncomputable def n74_2 (s : S) : Option (Ex × S) := run (annT 74) c74_2 s
noncomputable def c74_3 : Code := gL c74_2
noncomputable def n74_3 (s : S) : Option (Ex × S) := run (annT 74) c74_3 s
noncomputable def c74_4 : Code := gR c74_2
noncomputable def n74_4 (s : S) : Option (Ex × S) := run (annT 74) c74_4 s
attribute [cbv_opaque] n74_0 n74_1 n74_2 n74_3 n74_4
@[cbv_eval] theorem r_n74_1 (s : S) : n74_1 s = (stepsO X (annT 74) C (gO c74_1) (gO c74_1).toList s).map fun s' => (.norm, behindS (annT 74) 0 s') := run_region (annT 74) s 0 (gO c74_1) false rfl
@[cbv_eval] theorem r_n74_3 (s : S) : n74_3 s = (stepsO X (annT 74) C (gO c74_3) (gO c74_3).toList s).map fun s' => (.norm, behindS (annT 74) 1 s') := run_region (annT 74) s 1 (gO c74_3) false rfl
@[cbv_eval] theorem r_n74_4 (s : S) : n74_4 s = some (.ret, s) := run_ret (annT 74) s
@[cbv_eval] theorem r_n74_2 (s : S) : n74_2 s = (n74_3 s).bind fun r => match r.1 with
    | .norm => n74_4 r.2
    | e => some (e, r.2) := run_seq (annT 74) c74_3 c74_4 s
@[cbv_eval] theorem r_n74_0 (s : S) : n74_0 s = (n74_1 s).bind fun r => match r.1 with
    | .norm => n74_2 r.2
    | e => some (e, r.2) := run_seq (annT 74) c74_1 c74_2 s
theorem p74 (ds : List D) : pureCall C 74 ds = ((n74_0 ⟨argsT 0 (ds.map .d), []⟩).bind (bodyR [.tmp 2])).bind prOf := P_eq Try.f74 rfl rfl rfl rfl ds
theorem q74 (vs : List AV) (st : Store) : C 74 vs st = (n74_0 ⟨argsT 0 vs, st⟩).bind (bodyR [.tmp 2]) := C_eq Try.f74 rfl rfl rfl rfl vs st

@[cbv_eval] theorem ann_76 : annT 76 = { keep := [(0, [1]), (1, [1, 3]), (2, [1, 3]), (3, [2]), (4, [1, 22]), (5, [1, 22]), (6, [22]), (7, [2]), (8, [2])], loops := [] } := rfl
noncomputable def c76_0 : Code := Try.f76.body.getD .skip
noncomputable def n76_0 (s : S) : Option (Ex × S) := run (annT 76) c76_0 s
noncomputable def c76_1 : Code := gL c76_0
noncomputable def n76_1 (s : S) : Option (Ex × S) := run (annT 76) c76_1 s
noncomputable def c76_2 : Code := gR c76_0
noncomputable def n76_2 (s : S) : Option (Ex × S) := run (annT 76) c76_2 s
noncomputable def c76_3 : Code := gL c76_2
noncomputable def n76_3 (s : S) : Option (Ex × S) := run (annT 76) c76_3 s
noncomputable def c76_4 : Code := gB c76_3
noncomputable def n76_4 (s : S) : Option (Ex × S) := run (annT 76) c76_4 s
noncomputable def c76_5 : Code := gL c76_4
noncomputable def n76_5 (s : S) : Option (Ex × S) := run (annT 76) c76_5 s
noncomputable def c76_6 : Code := gL c76_5
noncomputable def n76_6 (s : S) : Option (Ex × S) := run (annT 76) c76_6 s
noncomputable def c76_7 : Code := gR c76_5
noncomputable def n76_7 (s : S) : Option (Ex × S) := run (annT 76) c76_7 s
noncomputable def c76_8 : Code := gT c76_7
noncomputable def n76_8 (s : S) : Option (Ex × S) := run (annT 76) c76_8 s
noncomputable def c76_9 : Code := gF c76_7
noncomputable def n76_9 (s : S) : Option (Ex × S) := run (annT 76) c76_9 s
noncomputable def c76_10 : Code := gR c76_4
noncomputable def n76_10 (s : S) : Option (Ex × S) := run (annT 76) c76_10 s
noncomputable def c76_11 : Code := gT c76_10
noncomputable def n76_11 (s : S) : Option (Ex × S) := run (annT 76) c76_11 s
noncomputable def c76_12 : Code := gL c76_11
noncomputable def n76_12 (s : S) : Option (Ex × S) := run (annT 76) c76_12 s
noncomputable def c76_13 : Code := gR c76_11
noncomputable def n76_13 (s : S) : Option (Ex × S) := run (annT 76) c76_13 s
noncomputable def c76_14 : Code := gF c76_10
noncomputable def n76_14 (s : S) : Option (Ex × S) := run (annT 76) c76_14 s
noncomputable def c76_15 : Code := gL c76_14
noncomputable def n76_15 (s : S) : Option (Ex × S) := run (annT 76) c76_15 s
noncomputable def c76_16 : Code := gL c76_15
noncomputable def n76_16 (s : S) : Option (Ex × S) := run (annT 76) c76_16 s
noncomputable def c76_17 : Code := gR c76_15
noncomputable def n76_17 (s : S) : Option (Ex × S) := run (annT 76) c76_17 s
noncomputable def c76_18 : Code := gT c76_17
noncomputable def n76_18 (s : S) : Option (Ex × S) := run (annT 76) c76_18 s
noncomputable def c76_19 : Code := gF c76_17
noncomputable def n76_19 (s : S) : Option (Ex × S) := run (annT 76) c76_19 s
noncomputable def c76_20 : Code := gL c76_19
noncomputable def n76_20 (s : S) : Option (Ex × S) := run (annT 76) c76_20 s
noncomputable def c76_21 : Code := gR c76_19
noncomputable def n76_21 (s : S) : Option (Ex × S) := run (annT 76) c76_21 s
noncomputable def c76_22 : Code := gT c76_21
noncomputable def n76_22 (s : S) : Option (Ex × S) := run (annT 76) c76_22 s
noncomputable def c76_23 : Code := gF c76_21
noncomputable def n76_23 (s : S) : Option (Ex × S) := run (annT 76) c76_23 s
noncomputable def c76_24 : Code := gR c76_14
noncomputable def n76_24 (s : S) : Option (Ex × S) := run (annT 76) c76_24 s
noncomputable def c76_25 : Code := gT c76_24
noncomputable def n76_25 (s : S) : Option (Ex × S) := run (annT 76) c76_25 s
noncomputable def c76_26 : Code := gL c76_25
noncomputable def n76_26 (s : S) : Option (Ex × S) := run (annT 76) c76_26 s
noncomputable def c76_27 : Code := gR c76_25
noncomputable def n76_27 (s : S) : Option (Ex × S) := run (annT 76) c76_27 s
noncomputable def c76_28 : Code := gF c76_24
noncomputable def n76_28 (s : S) : Option (Ex × S) := run (annT 76) c76_28 s
noncomputable def c76_29 : Code := gR c76_2
noncomputable def n76_29 (s : S) : Option (Ex × S) := run (annT 76) c76_29 s
noncomputable def c76_30 : Code := gL c76_29
noncomputable def n76_30 (s : S) : Option (Ex × S) := run (annT 76) c76_30 s
noncomputable def c76_31 : Code := gR c76_29
noncomputable def n76_31 (s : S) : Option (Ex × S) := run (annT 76) c76_31 s
attribute [cbv_opaque] n76_0 n76_1 n76_2 n76_3 n76_4 n76_5 n76_6 n76_7 n76_8 n76_9 n76_10 n76_11 n76_12 n76_13 n76_14 n76_15 n76_16 n76_17 n76_18 n76_19 n76_20 n76_21 n76_22 n76_23 n76_24 n76_25 n76_26 n76_27 n76_28 n76_29 n76_30 n76_31
@[cbv_eval] theorem r_n76_1 (s : S) : n76_1 s = (stepsO X (annT 76) C (gO c76_1) (gO c76_1).toList s).map fun s' => (.norm, behindS (annT 76) 0 s') := run_region (annT 76) s 0 (gO c76_1) false rfl
@[cbv_eval] theorem r_n76_6 (s : S) : n76_6 s = (stepsO X (annT 76) C (gO c76_6) (gO c76_6).toList s).map fun s' => (.norm, behindS (annT 76) 1 s') := run_region (annT 76) s 1 (gO c76_6) false rfl
@[cbv_eval] theorem r_n76_8 (s : S) : n76_8 s = some (.norm, s) := run_skip (annT 76) s
@[cbv_eval] theorem r_n76_9 (s : S) : n76_9 s = (stepsO X (annT 76) C (gO c76_9) (gO c76_9).toList s).map fun s' => (.norm, behindS (annT 76) 2 s') := run_region (annT 76) s 2 (gO c76_9) false rfl
@[cbv_eval] theorem r_n76_7 (s : S) : n76_7 s = (asB (opv s.t (gC c76_7))).bind fun t => bif t then n76_8 s else n76_9 s := run_cond (annT 76) c76_8 c76_9 s (gC c76_7)
@[cbv_eval] theorem r_n76_5 (s : S) : n76_5 s = (n76_6 s).bind fun r => match r.1 with
    | .norm => n76_7 r.2
    | e => some (e, r.2) := run_seq (annT 76) c76_6 c76_7 s
@[cbv_eval] theorem r_n76_12 (s : S) : n76_12 s = (stepsO X (annT 76) C (gO c76_12) (gO c76_12).toList s).map fun s' => (.norm, behindS (annT 76) 3 s') := run_region (annT 76) s 3 (gO c76_12) false rfl
@[cbv_eval] theorem r_n76_13 (s : S) : n76_13 s = some (.ret, s) := run_ret (annT 76) s
@[cbv_eval] theorem r_n76_11 (s : S) : n76_11 s = (n76_12 s).bind fun r => match r.1 with
    | .norm => n76_13 r.2
    | e => some (e, r.2) := run_seq (annT 76) c76_12 c76_13 s
@[cbv_eval] theorem r_n76_16 (s : S) : n76_16 s = (stepsO X (annT 76) C (gO c76_16) (gO c76_16).toList s).map fun s' => (.norm, behindS (annT 76) 4 s') := run_region (annT 76) s 4 (gO c76_16) false rfl
@[cbv_eval] theorem r_n76_18 (s : S) : n76_18 s = some (.norm, s) := run_skip (annT 76) s
@[cbv_eval] theorem r_n76_20 (s : S) : n76_20 s = (stepsO X (annT 76) C (gO c76_20) (gO c76_20).toList s).map fun s' => (.norm, behindS (annT 76) 5 s') := run_region (annT 76) s 5 (gO c76_20) false rfl
@[cbv_eval] theorem r_n76_22 (s : S) : n76_22 s = some (.norm, s) := run_skip (annT 76) s
@[cbv_eval] theorem r_n76_23 (s : S) : n76_23 s = (stepsO X (annT 76) C (gO c76_23) (gO c76_23).toList s).map fun s' => (.norm, behindS (annT 76) 6 s') := run_region (annT 76) s 6 (gO c76_23) false rfl
@[cbv_eval] theorem r_n76_21 (s : S) : n76_21 s = (asB (opv s.t (gC c76_21))).bind fun t => bif t then n76_22 s else n76_23 s := run_cond (annT 76) c76_22 c76_23 s (gC c76_21)
@[cbv_eval] theorem r_n76_19 (s : S) : n76_19 s = (n76_20 s).bind fun r => match r.1 with
    | .norm => n76_21 r.2
    | e => some (e, r.2) := run_seq (annT 76) c76_20 c76_21 s
@[cbv_eval] theorem r_n76_17 (s : S) : n76_17 s = (asB (opv s.t (gC c76_17))).bind fun t => bif t then n76_18 s else n76_19 s := run_cond (annT 76) c76_18 c76_19 s (gC c76_17)
@[cbv_eval] theorem r_n76_15 (s : S) : n76_15 s = (n76_16 s).bind fun r => match r.1 with
    | .norm => n76_17 r.2
    | e => some (e, r.2) := run_seq (annT 76) c76_16 c76_17 s
@[cbv_eval] theorem r_n76_26 (s : S) : n76_26 s = (stepsO X (annT 76) C (gO c76_26) (gO c76_26).toList s).map fun s' => (.norm, behindS (annT 76) 7 s') := run_region (annT 76) s 7 (gO c76_26) false rfl
@[cbv_eval] theorem r_n76_27 (s : S) : n76_27 s = some (.ret, s) := run_ret (annT 76) s
@[cbv_eval] theorem r_n76_25 (s : S) : n76_25 s = (n76_26 s).bind fun r => match r.1 with
    | .norm => n76_27 r.2
    | e => some (e, r.2) := run_seq (annT 76) c76_26 c76_27 s
@[cbv_eval] theorem r_n76_28 (s : S) : n76_28 s = some (.norm, s) := run_skip (annT 76) s
@[cbv_eval] theorem r_n76_24 (s : S) : n76_24 s = (asB (opv s.t (gC c76_24))).bind fun t => bif t then n76_25 s else n76_28 s := run_cond (annT 76) c76_25 c76_28 s (gC c76_24)
@[cbv_eval] theorem r_n76_14 (s : S) : n76_14 s = (n76_15 s).bind fun r => match r.1 with
    | .norm => n76_24 r.2
    | e => some (e, r.2) := run_seq (annT 76) c76_15 c76_24 s
@[cbv_eval] theorem r_n76_10 (s : S) : n76_10 s = (asB (opv s.t (gC c76_10))).bind fun t => bif t then n76_11 s else n76_14 s := run_cond (annT 76) c76_11 c76_14 s (gC c76_10)
@[cbv_eval] theorem r_n76_4 (s : S) : n76_4 s = (n76_5 s).bind fun r => match r.1 with
    | .norm => n76_10 r.2
    | e => some (e, r.2) := run_seq (annT 76) c76_5 c76_10 s
@[cbv_eval] theorem r_n76_3 (s : S) : n76_3 s = (n76_4 s).map fun r => match r.1 with
    | .exit j => bif j == 0 then (.norm, r.2) else (.exit j, r.2)
    | e => (e, r.2) := run_block (annT 76) c76_4 s 0
@[cbv_eval] theorem r_n76_30 (s : S) : n76_30 s = (stepsO X (annT 76) C (gO c76_30) (gO c76_30).toList s).map fun s' => (.norm, behindS (annT 76) 8 s') := run_region (annT 76) s 8 (gO c76_30) false rfl
@[cbv_eval] theorem r_n76_31 (s : S) : n76_31 s = some (.ret, s) := run_ret (annT 76) s
@[cbv_eval] theorem r_n76_29 (s : S) : n76_29 s = (n76_30 s).bind fun r => match r.1 with
    | .norm => n76_31 r.2
    | e => some (e, r.2) := run_seq (annT 76) c76_30 c76_31 s
@[cbv_eval] theorem r_n76_2 (s : S) : n76_2 s = (n76_3 s).bind fun r => match r.1 with
    | .norm => n76_29 r.2
    | e => some (e, r.2) := run_seq (annT 76) c76_3 c76_29 s
@[cbv_eval] theorem r_n76_0 (s : S) : n76_0 s = (n76_1 s).bind fun r => match r.1 with
    | .norm => n76_2 r.2
    | e => some (e, r.2) := run_seq (annT 76) c76_1 c76_2 s
theorem p76 (ds : List D) : pureCall C 76 ds = ((n76_0 ⟨argsT 0 (ds.map .d), []⟩).bind (bodyR [.tmp 2])).bind prOf := P_eq Try.f76 rfl rfl rfl rfl ds
theorem q76 (vs : List AV) (st : Store) : C 76 vs st = (n76_0 ⟨argsT 0 vs, st⟩).bind (bodyR [.tmp 2]) := C_eq Try.f76 rfl rfl rfl rfl vs st

@[cbv_eval] theorem ann_77 : annT 77 = { keep := [(0, [1]), (1, [1, 3]), (2, [2])], loops := [] } := rfl
noncomputable def c77_0 : Code := Try.f77.body.getD .skip
noncomputable def n77_0 (s : S) : Option (Ex × S) := run (annT 77) c77_0 s
noncomputable def c77_1 : Code := gL c77_0
noncomputable def n77_1 (s : S) : Option (Ex × S) := run (annT 77) c77_1 s
noncomputable def c77_2 : Code := gR c77_0
noncomputable def n77_2 (s : S) : Option (Ex × S) := run (annT 77) c77_2 s
noncomputable def c77_3 : Code := gL c77_2
noncomputable def n77_3 (s : S) : Option (Ex × S) := run (annT 77) c77_3 s
noncomputable def c77_4 : Code := gR c77_2
noncomputable def n77_4 (s : S) : Option (Ex × S) := run (annT 77) c77_4 s
noncomputable def c77_5 : Code := gL c77_4
noncomputable def n77_5 (s : S) : Option (Ex × S) := run (annT 77) c77_5 s
noncomputable def c77_6 : Code := gR c77_4
noncomputable def n77_6 (s : S) : Option (Ex × S) := run (annT 77) c77_6 s
attribute [cbv_opaque] n77_0 n77_1 n77_2 n77_3 n77_4 n77_5 n77_6
@[cbv_eval] theorem r_n77_1 (s : S) : n77_1 s = (stepsO X (annT 77) C (gO c77_1) (gO c77_1).toList s).map fun s' => (.norm, behindS (annT 77) 0 s') := run_region (annT 77) s 0 (gO c77_1) false rfl
@[cbv_eval] theorem r_n77_3 (s : S) : n77_3 s = (stepsO X (annT 77) C (gO c77_3) (gO c77_3).toList s).map fun s' => (.norm, behindS (annT 77) 1 s') := run_region (annT 77) s 1 (gO c77_3) false rfl
@[cbv_eval] theorem r_n77_5 (s : S) : n77_5 s = (stepsO X (annT 77) C (gO c77_5) (gO c77_5).toList s).map fun s' => (.norm, behindS (annT 77) 2 s') := run_region (annT 77) s 2 (gO c77_5) false rfl
@[cbv_eval] theorem r_n77_6 (s : S) : n77_6 s = some (.ret, s) := run_ret (annT 77) s
@[cbv_eval] theorem r_n77_4 (s : S) : n77_4 s = (n77_5 s).bind fun r => match r.1 with
    | .norm => n77_6 r.2
    | e => some (e, r.2) := run_seq (annT 77) c77_5 c77_6 s
@[cbv_eval] theorem r_n77_2 (s : S) : n77_2 s = (n77_3 s).bind fun r => match r.1 with
    | .norm => n77_4 r.2
    | e => some (e, r.2) := run_seq (annT 77) c77_3 c77_4 s
@[cbv_eval] theorem r_n77_0 (s : S) : n77_0 s = (n77_1 s).bind fun r => match r.1 with
    | .norm => n77_2 r.2
    | e => some (e, r.2) := run_seq (annT 77) c77_1 c77_2 s
theorem p77 (ds : List D) : pureCall C 77 ds = ((n77_0 ⟨argsT 0 (ds.map .d), []⟩).bind (bodyR [.tmp 2])).bind prOf := P_eq Try.f77 rfl rfl rfl rfl ds
theorem q77 (vs : List AV) (st : Store) : C 77 vs st = (n77_0 ⟨argsT 0 vs, st⟩).bind (bodyR [.tmp 2]) := C_eq Try.f77 rfl rfl rfl rfl vs st

@[cbv_eval] theorem ann_78 : annT 78 = { keep := [(0, [0]), (1, [2])], loops := [] } := rfl
noncomputable def c78_0 : Code := Try.f78.body.getD .skip
noncomputable def n78_0 (s : S) : Option (Ex × S) := run (annT 78) c78_0 s
noncomputable def c78_1 : Code := gL c78_0
noncomputable def n78_1 (s : S) : Option (Ex × S) := run (annT 78) c78_1 s
noncomputable def c78_2 : Code := gR c78_0
noncomputable def n78_2 (s : S) : Option (Ex × S) := run (annT 78) c78_2 s
noncomputable def c78_3 : Code := gL c78_2
noncomputable def n78_3 (s : S) : Option (Ex × S) := run (annT 78) c78_3 s
noncomputable def c78_4 : Code := gR c78_2
noncomputable def n78_4 (s : S) : Option (Ex × S) := run (annT 78) c78_4 s
attribute [cbv_opaque] n78_0 n78_1 n78_2 n78_3 n78_4
@[cbv_eval] theorem r_n78_1 (s : S) : n78_1 s = (stepsO X (annT 78) C (gO c78_1) (gO c78_1).toList s).map fun s' => (.norm, behindS (annT 78) 0 s') := run_region (annT 78) s 0 (gO c78_1) false rfl
@[cbv_eval] theorem r_n78_3 (s : S) : n78_3 s = (stepsO X (annT 78) C (gO c78_3) (gO c78_3).toList s).map fun s' => (.norm, behindS (annT 78) 1 s') := run_region (annT 78) s 1 (gO c78_3) false rfl
@[cbv_eval] theorem r_n78_4 (s : S) : n78_4 s = some (.ret, s) := run_ret (annT 78) s
@[cbv_eval] theorem r_n78_2 (s : S) : n78_2 s = (n78_3 s).bind fun r => match r.1 with
    | .norm => n78_4 r.2
    | e => some (e, r.2) := run_seq (annT 78) c78_3 c78_4 s
@[cbv_eval] theorem r_n78_0 (s : S) : n78_0 s = (n78_1 s).bind fun r => match r.1 with
    | .norm => n78_2 r.2
    | e => some (e, r.2) := run_seq (annT 78) c78_1 c78_2 s
theorem p78 (ds : List D) : pureCall C 78 ds = ((n78_0 ⟨argsT 0 (ds.map .d), []⟩).bind (bodyR [.tmp 2])).bind prOf := P_eq Try.f78 rfl rfl rfl rfl ds
theorem q78 (vs : List AV) (st : Store) : C 78 vs st = (n78_0 ⟨argsT 0 vs, st⟩).bind (bodyR [.tmp 2]) := C_eq Try.f78 rfl rfl rfl rfl vs st

@[cbv_eval] theorem ann_56 : annT 56 = { keep := [(0, [1]), (1, [1, 3]), (2, [1, 3, 4]), (3, [1, 3, 4, 5]), (4, [1, 3, 4, 5, 22]), (5, [1, 3, 4, 5, 22, 23]), (6, [1, 3, 4, 5, 22, 23]), (7, [1, 3, 4, 5, 22, 23]), (8, [2]), (9, [1, 3, 4, 5, 22, 50]), (10, [1, 3, 4, 5, 22, 50]), (11, [1, 3, 4, 5, 22, 50]), (12, [1, 3, 4, 5, 22, 50]), (13, [2]), (14, [1, 3, 4, 5, 22, 73]), (15, [2]), (16, [1, 3, 4, 5, 22, 92]), (17, [2]), (18, [1, 4, 5, 119]), (19, [2]), (20, [2])], loops := [] } := rfl
noncomputable def c56_0 : Code := Try.f56.body.getD .skip
noncomputable def n56_0 (s : S) : Option (Ex × S) := run (annT 56) c56_0 s
noncomputable def c56_1 : Code := gL c56_0
noncomputable def n56_1 (s : S) : Option (Ex × S) := run (annT 56) c56_1 s
noncomputable def c56_2 : Code := gR c56_0
noncomputable def n56_2 (s : S) : Option (Ex × S) := run (annT 56) c56_2 s
noncomputable def c56_3 : Code := gL c56_2
noncomputable def n56_3 (s : S) : Option (Ex × S) := run (annT 56) c56_3 s
noncomputable def c56_4 : Code := gR c56_2
noncomputable def n56_4 (s : S) : Option (Ex × S) := run (annT 56) c56_4 s
noncomputable def c56_5 : Code := gL c56_4
noncomputable def n56_5 (s : S) : Option (Ex × S) := run (annT 56) c56_5 s
noncomputable def c56_6 : Code := gR c56_4
noncomputable def n56_6 (s : S) : Option (Ex × S) := run (annT 56) c56_6 s
noncomputable def c56_7 : Code := gL c56_6
noncomputable def n56_7 (s : S) : Option (Ex × S) := run (annT 56) c56_7 s
noncomputable def c56_8 : Code := gR c56_6
noncomputable def n56_8 (s : S) : Option (Ex × S) := run (annT 56) c56_8 s
noncomputable def c56_9 : Code := gL c56_8
noncomputable def n56_9 (s : S) : Option (Ex × S) := run (annT 56) c56_9 s
noncomputable def c56_10 : Code := gL c56_9
noncomputable def n56_10 (s : S) : Option (Ex × S) := run (annT 56) c56_10 s
noncomputable def c56_11 : Code := gR c56_9
noncomputable def n56_11 (s : S) : Option (Ex × S) := run (annT 56) c56_11 s
noncomputable def c56_12 : Code := gB c56_11
noncomputable def n56_12 (s : S) : Option (Ex × S) := run (annT 56) c56_12 s
noncomputable def c56_13 : Code := gL c56_12
noncomputable def n56_13 (s : S) : Option (Ex × S) := run (annT 56) c56_13 s
noncomputable def c56_14 : Code := gL c56_13
noncomputable def n56_14 (s : S) : Option (Ex × S) := run (annT 56) c56_14 s
noncomputable def c56_15 : Code := gR c56_13
noncomputable def n56_15 (s : S) : Option (Ex × S) := run (annT 56) c56_15 s
noncomputable def c56_16 : Code := gT c56_15
noncomputable def n56_16 (s : S) : Option (Ex × S) := run (annT 56) c56_16 s
noncomputable def c56_17 : Code := gF c56_15
noncomputable def n56_17 (s : S) : Option (Ex × S) := run (annT 56) c56_17 s
noncomputable def c56_18 : Code := gL c56_17
noncomputable def n56_18 (s : S) : Option (Ex × S) := run (annT 56) c56_18 s
noncomputable def c56_19 : Code := gR c56_17
noncomputable def n56_19 (s : S) : Option (Ex × S) := run (annT 56) c56_19 s
noncomputable def c56_20 : Code := gT c56_19
noncomputable def n56_20 (s : S) : Option (Ex × S) := run (annT 56) c56_20 s
noncomputable def c56_21 : Code := gF c56_19
noncomputable def n56_21 (s : S) : Option (Ex × S) := run (annT 56) c56_21 s
noncomputable def c56_22 : Code := gR c56_12
noncomputable def n56_22 (s : S) : Option (Ex × S) := run (annT 56) c56_22 s
noncomputable def c56_23 : Code := gT c56_22
noncomputable def n56_23 (s : S) : Option (Ex × S) := run (annT 56) c56_23 s
noncomputable def c56_24 : Code := gL c56_23
noncomputable def n56_24 (s : S) : Option (Ex × S) := run (annT 56) c56_24 s
noncomputable def c56_25 : Code := gR c56_23
noncomputable def n56_25 (s : S) : Option (Ex × S) := run (annT 56) c56_25 s
noncomputable def c56_26 : Code := gF c56_22
noncomputable def n56_26 (s : S) : Option (Ex × S) := run (annT 56) c56_26 s
noncomputable def c56_27 : Code := gL c56_26
noncomputable def n56_27 (s : S) : Option (Ex × S) := run (annT 56) c56_27 s
noncomputable def c56_28 : Code := gL c56_27
noncomputable def n56_28 (s : S) : Option (Ex × S) := run (annT 56) c56_28 s
noncomputable def c56_29 : Code := gR c56_27
noncomputable def n56_29 (s : S) : Option (Ex × S) := run (annT 56) c56_29 s
noncomputable def c56_30 : Code := gT c56_29
noncomputable def n56_30 (s : S) : Option (Ex × S) := run (annT 56) c56_30 s
noncomputable def c56_31 : Code := gF c56_29
noncomputable def n56_31 (s : S) : Option (Ex × S) := run (annT 56) c56_31 s
noncomputable def c56_32 : Code := gL c56_31
noncomputable def n56_32 (s : S) : Option (Ex × S) := run (annT 56) c56_32 s
noncomputable def c56_33 : Code := gR c56_31
noncomputable def n56_33 (s : S) : Option (Ex × S) := run (annT 56) c56_33 s
noncomputable def c56_34 : Code := gT c56_33
noncomputable def n56_34 (s : S) : Option (Ex × S) := run (annT 56) c56_34 s
noncomputable def c56_35 : Code := gF c56_33
noncomputable def n56_35 (s : S) : Option (Ex × S) := run (annT 56) c56_35 s
noncomputable def c56_36 : Code := gL c56_35
noncomputable def n56_36 (s : S) : Option (Ex × S) := run (annT 56) c56_36 s
noncomputable def c56_37 : Code := gR c56_35
noncomputable def n56_37 (s : S) : Option (Ex × S) := run (annT 56) c56_37 s
noncomputable def c56_38 : Code := gT c56_37
noncomputable def n56_38 (s : S) : Option (Ex × S) := run (annT 56) c56_38 s
noncomputable def c56_39 : Code := gF c56_37
noncomputable def n56_39 (s : S) : Option (Ex × S) := run (annT 56) c56_39 s
noncomputable def c56_40 : Code := gR c56_26
noncomputable def n56_40 (s : S) : Option (Ex × S) := run (annT 56) c56_40 s
noncomputable def c56_41 : Code := gT c56_40
noncomputable def n56_41 (s : S) : Option (Ex × S) := run (annT 56) c56_41 s
noncomputable def c56_42 : Code := gL c56_41
noncomputable def n56_42 (s : S) : Option (Ex × S) := run (annT 56) c56_42 s
noncomputable def c56_43 : Code := gR c56_41
noncomputable def n56_43 (s : S) : Option (Ex × S) := run (annT 56) c56_43 s
noncomputable def c56_44 : Code := gF c56_40
noncomputable def n56_44 (s : S) : Option (Ex × S) := run (annT 56) c56_44 s
noncomputable def c56_45 : Code := gL c56_44
noncomputable def n56_45 (s : S) : Option (Ex × S) := run (annT 56) c56_45 s
noncomputable def c56_46 : Code := gR c56_44
noncomputable def n56_46 (s : S) : Option (Ex × S) := run (annT 56) c56_46 s
noncomputable def c56_47 : Code := gT c56_46
noncomputable def n56_47 (s : S) : Option (Ex × S) := run (annT 56) c56_47 s
noncomputable def c56_48 : Code := gL c56_47
noncomputable def n56_48 (s : S) : Option (Ex × S) := run (annT 56) c56_48 s
noncomputable def c56_49 : Code := gR c56_47
noncomputable def n56_49 (s : S) : Option (Ex × S) := run (annT 56) c56_49 s
noncomputable def c56_50 : Code := gF c56_46
noncomputable def n56_50 (s : S) : Option (Ex × S) := run (annT 56) c56_50 s
noncomputable def c56_51 : Code := gL c56_50
noncomputable def n56_51 (s : S) : Option (Ex × S) := run (annT 56) c56_51 s
noncomputable def c56_52 : Code := gR c56_50
noncomputable def n56_52 (s : S) : Option (Ex × S) := run (annT 56) c56_52 s
noncomputable def c56_53 : Code := gT c56_52
noncomputable def n56_53 (s : S) : Option (Ex × S) := run (annT 56) c56_53 s
noncomputable def c56_54 : Code := gL c56_53
noncomputable def n56_54 (s : S) : Option (Ex × S) := run (annT 56) c56_54 s
noncomputable def c56_55 : Code := gR c56_53
noncomputable def n56_55 (s : S) : Option (Ex × S) := run (annT 56) c56_55 s
noncomputable def c56_56 : Code := gF c56_52
noncomputable def n56_56 (s : S) : Option (Ex × S) := run (annT 56) c56_56 s
noncomputable def c56_57 : Code := gL c56_56
noncomputable def n56_57 (s : S) : Option (Ex × S) := run (annT 56) c56_57 s
noncomputable def c56_58 : Code := gR c56_56
noncomputable def n56_58 (s : S) : Option (Ex × S) := run (annT 56) c56_58 s
noncomputable def c56_59 : Code := gT c56_58
noncomputable def n56_59 (s : S) : Option (Ex × S) := run (annT 56) c56_59 s
noncomputable def c56_60 : Code := gL c56_59
noncomputable def n56_60 (s : S) : Option (Ex × S) := run (annT 56) c56_60 s
noncomputable def c56_61 : Code := gR c56_59
noncomputable def n56_61 (s : S) : Option (Ex × S) := run (annT 56) c56_61 s
noncomputable def c56_62 : Code := gF c56_58
noncomputable def n56_62 (s : S) : Option (Ex × S) := run (annT 56) c56_62 s
noncomputable def c56_63 : Code := gR c56_8
noncomputable def n56_63 (s : S) : Option (Ex × S) := run (annT 56) c56_63 s
noncomputable def c56_64 : Code := gL c56_63
noncomputable def n56_64 (s : S) : Option (Ex × S) := run (annT 56) c56_64 s
noncomputable def c56_65 : Code := gR c56_63
noncomputable def n56_65 (s : S) : Option (Ex × S) := run (annT 56) c56_65 s
attribute [cbv_opaque] n56_0 n56_1 n56_2 n56_3 n56_4 n56_5 n56_6 n56_7 n56_8 n56_9 n56_10 n56_11 n56_12 n56_13 n56_14 n56_15 n56_16 n56_17 n56_18 n56_19 n56_20 n56_21 n56_22 n56_23 n56_24 n56_25 n56_26 n56_27 n56_28 n56_29 n56_30 n56_31 n56_32 n56_33 n56_34 n56_35 n56_36 n56_37 n56_38 n56_39 n56_40 n56_41 n56_42 n56_43 n56_44 n56_45 n56_46 n56_47 n56_48 n56_49 n56_50 n56_51 n56_52 n56_53 n56_54 n56_55 n56_56 n56_57 n56_58 n56_59 n56_60 n56_61 n56_62 n56_63 n56_64 n56_65
@[cbv_eval] theorem r_n56_1 (s : S) : n56_1 s = (stepsO X (annT 56) C (gO c56_1) (gO c56_1).toList s).map fun s' => (.norm, behindS (annT 56) 0 s') := run_region (annT 56) s 0 (gO c56_1) false rfl
@[cbv_eval] theorem r_n56_3 (s : S) : n56_3 s = (stepsO X (annT 56) C (gO c56_3) (gO c56_3).toList s).map fun s' => (.norm, behindS (annT 56) 1 s') := run_region (annT 56) s 1 (gO c56_3) false rfl
@[cbv_eval] theorem r_n56_5 (s : S) : n56_5 s = (stepsO X (annT 56) C (gO c56_5) (gO c56_5).toList s).map fun s' => (.norm, behindS (annT 56) 2 s') := run_region (annT 56) s 2 (gO c56_5) false rfl
@[cbv_eval] theorem r_n56_7 (s : S) : n56_7 s = (stepsO X (annT 56) C (gO c56_7) (gO c56_7).toList s).map fun s' => (.norm, behindS (annT 56) 3 s') := run_region (annT 56) s 3 (gO c56_7) false rfl
@[cbv_eval] theorem r_n56_10 (s : S) : n56_10 s = (stepsO X (annT 56) C (gO c56_10) (gO c56_10).toList s).map fun s' => (.norm, behindS (annT 56) 4 s') := run_region (annT 56) s 4 (gO c56_10) false rfl
@[cbv_eval] theorem r_n56_14 (s : S) : n56_14 s = (stepsO X (annT 56) C (gO c56_14) (gO c56_14).toList s).map fun s' => (.norm, behindS (annT 56) 5 s') := run_region (annT 56) s 5 (gO c56_14) false rfl
@[cbv_eval] theorem r_n56_16 (s : S) : n56_16 s = some (.norm, s) := run_skip (annT 56) s
@[cbv_eval] theorem r_n56_18 (s : S) : n56_18 s = (stepsO X (annT 56) C (gO c56_18) (gO c56_18).toList s).map fun s' => (.norm, behindS (annT 56) 6 s') := run_region (annT 56) s 6 (gO c56_18) false rfl
@[cbv_eval] theorem r_n56_20 (s : S) : n56_20 s = some (.norm, s) := run_skip (annT 56) s
@[cbv_eval] theorem r_n56_21 (s : S) : n56_21 s = (stepsO X (annT 56) C (gO c56_21) (gO c56_21).toList s).map fun s' => (.norm, behindS (annT 56) 7 s') := run_region (annT 56) s 7 (gO c56_21) false rfl
@[cbv_eval] theorem r_n56_19 (s : S) : n56_19 s = (asB (opv s.t (gC c56_19))).bind fun t => bif t then n56_20 s else n56_21 s := run_cond (annT 56) c56_20 c56_21 s (gC c56_19)
@[cbv_eval] theorem r_n56_17 (s : S) : n56_17 s = (n56_18 s).bind fun r => match r.1 with
    | .norm => n56_19 r.2
    | e => some (e, r.2) := run_seq (annT 56) c56_18 c56_19 s
@[cbv_eval] theorem r_n56_15 (s : S) : n56_15 s = (asB (opv s.t (gC c56_15))).bind fun t => bif t then n56_16 s else n56_17 s := run_cond (annT 56) c56_16 c56_17 s (gC c56_15)
@[cbv_eval] theorem r_n56_13 (s : S) : n56_13 s = (n56_14 s).bind fun r => match r.1 with
    | .norm => n56_15 r.2
    | e => some (e, r.2) := run_seq (annT 56) c56_14 c56_15 s
@[cbv_eval] theorem r_n56_24 (s : S) : n56_24 s = (stepsO X (annT 56) C (gO c56_24) (gO c56_24).toList s).map fun s' => (.norm, behindS (annT 56) 8 s') := run_region (annT 56) s 8 (gO c56_24) false rfl
@[cbv_eval] theorem r_n56_25 (s : S) : n56_25 s = some (.ret, s) := run_ret (annT 56) s
@[cbv_eval] theorem r_n56_23 (s : S) : n56_23 s = (n56_24 s).bind fun r => match r.1 with
    | .norm => n56_25 r.2
    | e => some (e, r.2) := run_seq (annT 56) c56_24 c56_25 s
@[cbv_eval] theorem r_n56_28 (s : S) : n56_28 s = (stepsO X (annT 56) C (gO c56_28) (gO c56_28).toList s).map fun s' => (.norm, behindS (annT 56) 9 s') := run_region (annT 56) s 9 (gO c56_28) false rfl
@[cbv_eval] theorem r_n56_30 (s : S) : n56_30 s = some (.norm, s) := run_skip (annT 56) s
@[cbv_eval] theorem r_n56_32 (s : S) : n56_32 s = (stepsO X (annT 56) C (gO c56_32) (gO c56_32).toList s).map fun s' => (.norm, behindS (annT 56) 10 s') := run_region (annT 56) s 10 (gO c56_32) false rfl
@[cbv_eval] theorem r_n56_34 (s : S) : n56_34 s = some (.norm, s) := run_skip (annT 56) s
@[cbv_eval] theorem r_n56_36 (s : S) : n56_36 s = (stepsO X (annT 56) C (gO c56_36) (gO c56_36).toList s).map fun s' => (.norm, behindS (annT 56) 11 s') := run_region (annT 56) s 11 (gO c56_36) false rfl
@[cbv_eval] theorem r_n56_38 (s : S) : n56_38 s = some (.norm, s) := run_skip (annT 56) s
@[cbv_eval] theorem r_n56_39 (s : S) : n56_39 s = (stepsO X (annT 56) C (gO c56_39) (gO c56_39).toList s).map fun s' => (.norm, behindS (annT 56) 12 s') := run_region (annT 56) s 12 (gO c56_39) false rfl
@[cbv_eval] theorem r_n56_37 (s : S) : n56_37 s = (asB (opv s.t (gC c56_37))).bind fun t => bif t then n56_38 s else n56_39 s := run_cond (annT 56) c56_38 c56_39 s (gC c56_37)
@[cbv_eval] theorem r_n56_35 (s : S) : n56_35 s = (n56_36 s).bind fun r => match r.1 with
    | .norm => n56_37 r.2
    | e => some (e, r.2) := run_seq (annT 56) c56_36 c56_37 s
@[cbv_eval] theorem r_n56_33 (s : S) : n56_33 s = (asB (opv s.t (gC c56_33))).bind fun t => bif t then n56_34 s else n56_35 s := run_cond (annT 56) c56_34 c56_35 s (gC c56_33)
@[cbv_eval] theorem r_n56_31 (s : S) : n56_31 s = (n56_32 s).bind fun r => match r.1 with
    | .norm => n56_33 r.2
    | e => some (e, r.2) := run_seq (annT 56) c56_32 c56_33 s
@[cbv_eval] theorem r_n56_29 (s : S) : n56_29 s = (asB (opv s.t (gC c56_29))).bind fun t => bif t then n56_30 s else n56_31 s := run_cond (annT 56) c56_30 c56_31 s (gC c56_29)
@[cbv_eval] theorem r_n56_27 (s : S) : n56_27 s = (n56_28 s).bind fun r => match r.1 with
    | .norm => n56_29 r.2
    | e => some (e, r.2) := run_seq (annT 56) c56_28 c56_29 s
@[cbv_eval] theorem r_n56_42 (s : S) : n56_42 s = (stepsO X (annT 56) C (gO c56_42) (gO c56_42).toList s).map fun s' => (.norm, behindS (annT 56) 13 s') := run_region (annT 56) s 13 (gO c56_42) false rfl
@[cbv_eval] theorem r_n56_43 (s : S) : n56_43 s = some (.ret, s) := run_ret (annT 56) s
@[cbv_eval] theorem r_n56_41 (s : S) : n56_41 s = (n56_42 s).bind fun r => match r.1 with
    | .norm => n56_43 r.2
    | e => some (e, r.2) := run_seq (annT 56) c56_42 c56_43 s
@[cbv_eval] theorem r_n56_45 (s : S) : n56_45 s = (stepsO X (annT 56) C (gO c56_45) (gO c56_45).toList s).map fun s' => (.norm, behindS (annT 56) 14 s') := run_region (annT 56) s 14 (gO c56_45) false rfl
@[cbv_eval] theorem r_n56_48 (s : S) : n56_48 s = (stepsO X (annT 56) C (gO c56_48) (gO c56_48).toList s).map fun s' => (.norm, behindS (annT 56) 15 s') := run_region (annT 56) s 15 (gO c56_48) false rfl
@[cbv_eval] theorem r_n56_49 (s : S) : n56_49 s = some (.ret, s) := run_ret (annT 56) s
@[cbv_eval] theorem r_n56_47 (s : S) : n56_47 s = (n56_48 s).bind fun r => match r.1 with
    | .norm => n56_49 r.2
    | e => some (e, r.2) := run_seq (annT 56) c56_48 c56_49 s
@[cbv_eval] theorem r_n56_51 (s : S) : n56_51 s = (stepsO X (annT 56) C (gO c56_51) (gO c56_51).toList s).map fun s' => (.norm, behindS (annT 56) 16 s') := run_region (annT 56) s 16 (gO c56_51) false rfl
@[cbv_eval] theorem r_n56_54 (s : S) : n56_54 s = (stepsO X (annT 56) C (gO c56_54) (gO c56_54).toList s).map fun s' => (.norm, behindS (annT 56) 17 s') := run_region (annT 56) s 17 (gO c56_54) false rfl
@[cbv_eval] theorem r_n56_55 (s : S) : n56_55 s = some (.ret, s) := run_ret (annT 56) s
@[cbv_eval] theorem r_n56_53 (s : S) : n56_53 s = (n56_54 s).bind fun r => match r.1 with
    | .norm => n56_55 r.2
    | e => some (e, r.2) := run_seq (annT 56) c56_54 c56_55 s
@[cbv_eval] theorem r_n56_57 (s : S) : n56_57 s = (stepsO X (annT 56) C (gO c56_57) (gO c56_57).toList s).map fun s' => (.norm, behindS (annT 56) 18 s') := run_region (annT 56) s 18 (gO c56_57) false rfl
@[cbv_eval] theorem r_n56_60 (s : S) : n56_60 s = (stepsO X (annT 56) C (gO c56_60) (gO c56_60).toList s).map fun s' => (.norm, behindS (annT 56) 19 s') := run_region (annT 56) s 19 (gO c56_60) false rfl
@[cbv_eval] theorem r_n56_61 (s : S) : n56_61 s = some (.ret, s) := run_ret (annT 56) s
@[cbv_eval] theorem r_n56_59 (s : S) : n56_59 s = (n56_60 s).bind fun r => match r.1 with
    | .norm => n56_61 r.2
    | e => some (e, r.2) := run_seq (annT 56) c56_60 c56_61 s
@[cbv_eval] theorem r_n56_62 (s : S) : n56_62 s = some (.norm, s) := run_skip (annT 56) s
@[cbv_eval] theorem r_n56_58 (s : S) : n56_58 s = (asB (opv s.t (gC c56_58))).bind fun t => bif t then n56_59 s else n56_62 s := run_cond (annT 56) c56_59 c56_62 s (gC c56_58)
@[cbv_eval] theorem r_n56_56 (s : S) : n56_56 s = (n56_57 s).bind fun r => match r.1 with
    | .norm => n56_58 r.2
    | e => some (e, r.2) := run_seq (annT 56) c56_57 c56_58 s
@[cbv_eval] theorem r_n56_52 (s : S) : n56_52 s = (asB (opv s.t (gC c56_52))).bind fun t => bif t then n56_53 s else n56_56 s := run_cond (annT 56) c56_53 c56_56 s (gC c56_52)
@[cbv_eval] theorem r_n56_50 (s : S) : n56_50 s = (n56_51 s).bind fun r => match r.1 with
    | .norm => n56_52 r.2
    | e => some (e, r.2) := run_seq (annT 56) c56_51 c56_52 s
@[cbv_eval] theorem r_n56_46 (s : S) : n56_46 s = (asB (opv s.t (gC c56_46))).bind fun t => bif t then n56_47 s else n56_50 s := run_cond (annT 56) c56_47 c56_50 s (gC c56_46)
@[cbv_eval] theorem r_n56_44 (s : S) : n56_44 s = (n56_45 s).bind fun r => match r.1 with
    | .norm => n56_46 r.2
    | e => some (e, r.2) := run_seq (annT 56) c56_45 c56_46 s
@[cbv_eval] theorem r_n56_40 (s : S) : n56_40 s = (asB (opv s.t (gC c56_40))).bind fun t => bif t then n56_41 s else n56_44 s := run_cond (annT 56) c56_41 c56_44 s (gC c56_40)
@[cbv_eval] theorem r_n56_26 (s : S) : n56_26 s = (n56_27 s).bind fun r => match r.1 with
    | .norm => n56_40 r.2
    | e => some (e, r.2) := run_seq (annT 56) c56_27 c56_40 s
@[cbv_eval] theorem r_n56_22 (s : S) : n56_22 s = (asB (opv s.t (gC c56_22))).bind fun t => bif t then n56_23 s else n56_26 s := run_cond (annT 56) c56_23 c56_26 s (gC c56_22)
@[cbv_eval] theorem r_n56_12 (s : S) : n56_12 s = (n56_13 s).bind fun r => match r.1 with
    | .norm => n56_22 r.2
    | e => some (e, r.2) := run_seq (annT 56) c56_13 c56_22 s
@[cbv_eval] theorem r_n56_11 (s : S) : n56_11 s = (n56_12 s).map fun r => match r.1 with
    | .exit j => bif j == 0 then (.norm, r.2) else (.exit j, r.2)
    | e => (e, r.2) := run_block (annT 56) c56_12 s 0
@[cbv_eval] theorem r_n56_9 (s : S) : n56_9 s = (n56_10 s).bind fun r => match r.1 with
    | .norm => n56_11 r.2
    | e => some (e, r.2) := run_seq (annT 56) c56_10 c56_11 s
@[cbv_eval] theorem r_n56_64 (s : S) : n56_64 s = (stepsO X (annT 56) C (gO c56_64) (gO c56_64).toList s).map fun s' => (.norm, behindS (annT 56) 20 s') := run_region (annT 56) s 20 (gO c56_64) false rfl
@[cbv_eval] theorem r_n56_65 (s : S) : n56_65 s = some (.ret, s) := run_ret (annT 56) s
@[cbv_eval] theorem r_n56_63 (s : S) : n56_63 s = (n56_64 s).bind fun r => match r.1 with
    | .norm => n56_65 r.2
    | e => some (e, r.2) := run_seq (annT 56) c56_64 c56_65 s
@[cbv_eval] theorem r_n56_8 (s : S) : n56_8 s = (n56_9 s).bind fun r => match r.1 with
    | .norm => n56_63 r.2
    | e => some (e, r.2) := run_seq (annT 56) c56_9 c56_63 s
@[cbv_eval] theorem r_n56_6 (s : S) : n56_6 s = (n56_7 s).bind fun r => match r.1 with
    | .norm => n56_8 r.2
    | e => some (e, r.2) := run_seq (annT 56) c56_7 c56_8 s
@[cbv_eval] theorem r_n56_4 (s : S) : n56_4 s = (n56_5 s).bind fun r => match r.1 with
    | .norm => n56_6 r.2
    | e => some (e, r.2) := run_seq (annT 56) c56_5 c56_6 s
@[cbv_eval] theorem r_n56_2 (s : S) : n56_2 s = (n56_3 s).bind fun r => match r.1 with
    | .norm => n56_4 r.2
    | e => some (e, r.2) := run_seq (annT 56) c56_3 c56_4 s
@[cbv_eval] theorem r_n56_0 (s : S) : n56_0 s = (n56_1 s).bind fun r => match r.1 with
    | .norm => n56_2 r.2
    | e => some (e, r.2) := run_seq (annT 56) c56_1 c56_2 s
theorem p56 (ds : List D) : pureCall C 56 ds = ((n56_0 ⟨argsT 0 (ds.map .d), []⟩).bind (bodyR [.tmp 2])).bind prOf := P_eq Try.f56 rfl rfl rfl rfl ds
theorem q56 (vs : List AV) (st : Store) : C 56 vs st = (n56_0 ⟨argsT 0 vs, st⟩).bind (bodyR [.tmp 2]) := C_eq Try.f56 rfl rfl rfl rfl vs st

@[cbv_eval] theorem ann_79 : annT 79 = { keep := [(0, [0, 1]), (1, [0, 1, 7, 8]), (2, [0, 1, 7, 8, 9]), (3, [0, 1, 5, 7, 8]), (4, [0, 1, 5, 7, 8, 16]), (5, [4]), (6, [0, 1, 7, 8]), (7, [4])], loops := [(2, [0, 1, 7, 8])] } := rfl
noncomputable def c79_0 : Code := Try.f79.body.getD .skip
noncomputable def n79_0 (s : S) : Option (Ex × S) := run (annT 79) c79_0 s
noncomputable def c79_1 : Code := gL c79_0
noncomputable def n79_1 (s : S) : Option (Ex × S) := run (annT 79) c79_1 s
noncomputable def c79_2 : Code := gR c79_0
noncomputable def n79_2 (s : S) : Option (Ex × S) := run (annT 79) c79_2 s
noncomputable def c79_3 : Code := gL c79_2
noncomputable def n79_3 (s : S) : Option (Ex × S) := run (annT 79) c79_3 s
noncomputable def c79_4 : Code := gL c79_3
noncomputable def n79_4 (s : S) : Option (Ex × S) := run (annT 79) c79_4 s
noncomputable def c79_5 : Code := gR c79_3
noncomputable def n79_5 (s : S) : Option (Ex × S) := run (annT 79) c79_5 s
noncomputable def c79_6 : Code := gB c79_5
noncomputable def n79_6 (s : S) : Option (Ex × S) := run (annT 79) c79_6 s
noncomputable def c79_7 : Code := gB c79_6
noncomputable def n79_7 (s : S) : Option (Ex × S) := run (annT 79) c79_7 s
noncomputable def c79_8 : Code := gL c79_7
noncomputable def n79_8 (s : S) : Option (Ex × S) := run (annT 79) c79_8 s
noncomputable def c79_9 : Code := gR c79_7
noncomputable def n79_9 (s : S) : Option (Ex × S) := run (annT 79) c79_9 s
noncomputable def c79_10 : Code := gL c79_9
noncomputable def n79_10 (s : S) : Option (Ex × S) := run (annT 79) c79_10 s
noncomputable def c79_11 : Code := gT c79_10
noncomputable def n79_11 (s : S) : Option (Ex × S) := run (annT 79) c79_11 s
noncomputable def c79_12 : Code := gF c79_10
noncomputable def n79_12 (s : S) : Option (Ex × S) := run (annT 79) c79_12 s
noncomputable def c79_13 : Code := gR c79_9
noncomputable def n79_13 (s : S) : Option (Ex × S) := run (annT 79) c79_13 s
noncomputable def c79_14 : Code := gL c79_13
noncomputable def n79_14 (s : S) : Option (Ex × S) := run (annT 79) c79_14 s
noncomputable def c79_15 : Code := gB c79_14
noncomputable def n79_15 (s : S) : Option (Ex × S) := run (annT 79) c79_15 s
noncomputable def c79_16 : Code := gL c79_15
noncomputable def n79_16 (s : S) : Option (Ex × S) := run (annT 79) c79_16 s
noncomputable def c79_17 : Code := gR c79_15
noncomputable def n79_17 (s : S) : Option (Ex × S) := run (annT 79) c79_17 s
noncomputable def c79_18 : Code := gL c79_17
noncomputable def n79_18 (s : S) : Option (Ex × S) := run (annT 79) c79_18 s
noncomputable def c79_19 : Code := gR c79_17
noncomputable def n79_19 (s : S) : Option (Ex × S) := run (annT 79) c79_19 s
noncomputable def c79_20 : Code := gT c79_19
noncomputable def n79_20 (s : S) : Option (Ex × S) := run (annT 79) c79_20 s
noncomputable def c79_21 : Code := gL c79_20
noncomputable def n79_21 (s : S) : Option (Ex × S) := run (annT 79) c79_21 s
noncomputable def c79_22 : Code := gR c79_20
noncomputable def n79_22 (s : S) : Option (Ex × S) := run (annT 79) c79_22 s
noncomputable def c79_23 : Code := gF c79_19
noncomputable def n79_23 (s : S) : Option (Ex × S) := run (annT 79) c79_23 s
noncomputable def c79_24 : Code := gR c79_13
noncomputable def n79_24 (s : S) : Option (Ex × S) := run (annT 79) c79_24 s
noncomputable def c79_25 : Code := gR c79_2
noncomputable def n79_25 (s : S) : Option (Ex × S) := run (annT 79) c79_25 s
noncomputable def c79_26 : Code := gL c79_25
noncomputable def n79_26 (s : S) : Option (Ex × S) := run (annT 79) c79_26 s
noncomputable def c79_27 : Code := gR c79_25
noncomputable def n79_27 (s : S) : Option (Ex × S) := run (annT 79) c79_27 s
attribute [cbv_opaque] n79_0 n79_1 n79_2 n79_3 n79_4 n79_5 n79_6 n79_7 n79_8 n79_9 n79_10 n79_11 n79_12 n79_13 n79_14 n79_15 n79_16 n79_17 n79_18 n79_19 n79_20 n79_21 n79_22 n79_23 n79_24 n79_25 n79_26 n79_27
@[cbv_eval] theorem r_n79_1 (s : S) : n79_1 s = (stepsO X (annT 79) C (gO c79_1) (gO c79_1).toList s).map fun s' => (.norm, behindS (annT 79) 0 s') := run_region (annT 79) s 0 (gO c79_1) false rfl
@[cbv_eval] theorem r_n79_4 (s : S) : n79_4 s = (stepsO X (annT 79) C (gO c79_4) (gO c79_4).toList s).map fun s' => (.norm, behindS (annT 79) 1 s') := run_region (annT 79) s 1 (gO c79_4) false rfl
@[cbv_eval] theorem r_n79_8 (s : S) : n79_8 s = (stepsO X (annT 79) C (gO c79_8) (gO c79_8).toList s).map fun s' => (.norm, behindS (annT 79) 2 s') := run_region (annT 79) s 2 (gO c79_8) false rfl
@[cbv_eval] theorem r_n79_11 (s : S) : n79_11 s = some (.norm, s) := run_skip (annT 79) s
@[cbv_eval] theorem r_n79_12 (s : S) : n79_12 s = some (.exit 0, s) := run_exit (annT 79) s 0
@[cbv_eval] theorem r_n79_10 (s : S) : n79_10 s = (asB (opv s.t (gC c79_10))).bind fun t => bif t then n79_11 s else n79_12 s := run_cond (annT 79) c79_11 c79_12 s (gC c79_10)
@[cbv_eval] theorem r_n79_16 (s : S) : n79_16 s = (stepsO X (annT 79) C (gO c79_16) (gO c79_16).toList s).map fun s' => (.norm, behindS (annT 79) 3 s') := run_region (annT 79) s 3 (gO c79_16) false rfl
@[cbv_eval] theorem r_n79_18 (s : S) : n79_18 s = (stepsO X (annT 79) C (gO c79_18) (gO c79_18).toList s).map fun s' => (.norm, behindS (annT 79) 4 s') := run_region (annT 79) s 4 (gO c79_18) false rfl
@[cbv_eval] theorem r_n79_21 (s : S) : n79_21 s = (stepsO X (annT 79) C (gO c79_21) (gO c79_21).toList s).map fun s' => (.norm, behindS (annT 79) 5 s') := run_region (annT 79) s 5 (gO c79_21) false rfl
@[cbv_eval] theorem r_n79_22 (s : S) : n79_22 s = some (.ret, s) := run_ret (annT 79) s
@[cbv_eval] theorem r_n79_20 (s : S) : n79_20 s = (n79_21 s).bind fun r => match r.1 with
    | .norm => n79_22 r.2
    | e => some (e, r.2) := run_seq (annT 79) c79_21 c79_22 s
@[cbv_eval] theorem r_n79_23 (s : S) : n79_23 s = some (.norm, s) := run_skip (annT 79) s
@[cbv_eval] theorem r_n79_19 (s : S) : n79_19 s = (asB (opv s.t (gC c79_19))).bind fun t => bif t then n79_20 s else n79_23 s := run_cond (annT 79) c79_20 c79_23 s (gC c79_19)
@[cbv_eval] theorem r_n79_17 (s : S) : n79_17 s = (n79_18 s).bind fun r => match r.1 with
    | .norm => n79_19 r.2
    | e => some (e, r.2) := run_seq (annT 79) c79_18 c79_19 s
@[cbv_eval] theorem r_n79_15 (s : S) : n79_15 s = (n79_16 s).bind fun r => match r.1 with
    | .norm => n79_17 r.2
    | e => some (e, r.2) := run_seq (annT 79) c79_16 c79_17 s
@[cbv_eval] theorem r_n79_14 (s : S) : n79_14 s = (n79_15 s).map fun r => match r.1 with
    | .exit j => bif j == 1 then (.norm, r.2) else (.exit j, r.2)
    | e => (e, r.2) := run_block (annT 79) c79_15 s 1
@[cbv_eval] theorem r_n79_24 (s : S) : n79_24 s = (stepsO X (annT 79) C (gO c79_24) (gO c79_24).toList s).map fun s' => (.norm, behindS (annT 79) 6 s') := run_region (annT 79) s 6 (gO c79_24) false rfl
@[cbv_eval] theorem r_n79_13 (s : S) : n79_13 s = (n79_14 s).bind fun r => match r.1 with
    | .norm => n79_24 r.2
    | e => some (e, r.2) := run_seq (annT 79) c79_14 c79_24 s
@[cbv_eval] theorem r_n79_9 (s : S) : n79_9 s = (n79_10 s).bind fun r => match r.1 with
    | .norm => n79_13 r.2
    | e => some (e, r.2) := run_seq (annT 79) c79_10 c79_13 s
@[cbv_eval] theorem r_n79_7 (s : S) : n79_7 s = (n79_8 s).bind fun r => match r.1 with
    | .norm => n79_9 r.2
    | e => some (e, r.2) := run_seq (annT 79) c79_8 c79_9 s
theorem r_n79_6 (s : S) : n79_6 s = (n79_7 s).bind fun r => match r.1 with
    | .norm => n79_6 (headS (annT 79) c79_7 s.st.length r.2)
    | e => some (e, r.2) := run_loop (annT 79) c79_7 s
@[cbv_eval] theorem r_n79_5 (s : S) : n79_5 s = (n79_6 s).map fun r => match r.1 with
    | .exit j => bif j == 0 then (.norm, r.2) else (.exit j, r.2)
    | e => (e, r.2) := run_block (annT 79) c79_6 s 0
@[cbv_eval] theorem r_n79_3 (s : S) : n79_3 s = (n79_4 s).bind fun r => match r.1 with
    | .norm => n79_5 r.2
    | e => some (e, r.2) := run_seq (annT 79) c79_4 c79_5 s
@[cbv_eval] theorem r_n79_26 (s : S) : n79_26 s = (stepsO X (annT 79) C (gO c79_26) (gO c79_26).toList s).map fun s' => (.norm, behindS (annT 79) 7 s') := run_region (annT 79) s 7 (gO c79_26) false rfl
@[cbv_eval] theorem r_n79_27 (s : S) : n79_27 s = some (.ret, s) := run_ret (annT 79) s
@[cbv_eval] theorem r_n79_25 (s : S) : n79_25 s = (n79_26 s).bind fun r => match r.1 with
    | .norm => n79_27 r.2
    | e => some (e, r.2) := run_seq (annT 79) c79_26 c79_27 s
@[cbv_eval] theorem r_n79_2 (s : S) : n79_2 s = (n79_3 s).bind fun r => match r.1 with
    | .norm => n79_25 r.2
    | e => some (e, r.2) := run_seq (annT 79) c79_3 c79_25 s
@[cbv_eval] theorem r_n79_0 (s : S) : n79_0 s = (n79_1 s).bind fun r => match r.1 with
    | .norm => n79_2 r.2
    | e => some (e, r.2) := run_seq (annT 79) c79_1 c79_2 s
theorem p79 (ds : List D) : pureCall C 79 ds = ((n79_0 ⟨argsT 0 (ds.map .d), []⟩).bind (bodyR [.tmp 4])).bind prOf := P_eq Try.f79 rfl rfl rfl rfl ds
theorem q79 (vs : List AV) (st : Store) : C 79 vs st = (n79_0 ⟨argsT 0 vs, st⟩).bind (bodyR [.tmp 4]) := C_eq Try.f79 rfl rfl rfl rfl vs st

@[cbv_eval] theorem ann_57 : annT 57 = { keep := [(0, [0, 1]), (1, [4])], loops := [] } := rfl
noncomputable def c57_0 : Code := Try.f57.body.getD .skip
noncomputable def n57_0 (s : S) : Option (Ex × S) := run (annT 57) c57_0 s
noncomputable def c57_1 : Code := gL c57_0
noncomputable def n57_1 (s : S) : Option (Ex × S) := run (annT 57) c57_1 s
noncomputable def c57_2 : Code := gR c57_0
noncomputable def n57_2 (s : S) : Option (Ex × S) := run (annT 57) c57_2 s
noncomputable def c57_3 : Code := gL c57_2
noncomputable def n57_3 (s : S) : Option (Ex × S) := run (annT 57) c57_3 s
noncomputable def c57_4 : Code := gR c57_2
noncomputable def n57_4 (s : S) : Option (Ex × S) := run (annT 57) c57_4 s
attribute [cbv_opaque] n57_0 n57_1 n57_2 n57_3 n57_4
@[cbv_eval] theorem r_n57_1 (s : S) : n57_1 s = (stepsO X (annT 57) C (gO c57_1) (gO c57_1).toList s).map fun s' => (.norm, behindS (annT 57) 0 s') := run_region (annT 57) s 0 (gO c57_1) false rfl
@[cbv_eval] theorem r_n57_3 (s : S) : n57_3 s = (stepsO X (annT 57) C (gO c57_3) (gO c57_3).toList s).map fun s' => (.norm, behindS (annT 57) 1 s') := run_region (annT 57) s 1 (gO c57_3) false rfl
@[cbv_eval] theorem r_n57_4 (s : S) : n57_4 s = some (.ret, s) := run_ret (annT 57) s
@[cbv_eval] theorem r_n57_2 (s : S) : n57_2 s = (n57_3 s).bind fun r => match r.1 with
    | .norm => n57_4 r.2
    | e => some (e, r.2) := run_seq (annT 57) c57_3 c57_4 s
@[cbv_eval] theorem r_n57_0 (s : S) : n57_0 s = (n57_1 s).bind fun r => match r.1 with
    | .norm => n57_2 r.2
    | e => some (e, r.2) := run_seq (annT 57) c57_1 c57_2 s
theorem p57 (ds : List D) : pureCall C 57 ds = ((n57_0 ⟨argsT 0 (ds.map .d), []⟩).bind (bodyR [.tmp 4])).bind prOf := P_eq Try.f57 rfl rfl rfl rfl ds
theorem q57 (vs : List AV) (st : Store) : C 57 vs st = (n57_0 ⟨argsT 0 vs, st⟩).bind (bodyR [.tmp 4]) := C_eq Try.f57 rfl rfl rfl rfl vs st

@[cbv_eval] theorem ann_58 : annT 58 = { keep := [(0, [1]), (1, [2])], loops := [] } := rfl
noncomputable def c58_0 : Code := Try.f58.body.getD .skip
noncomputable def n58_0 (s : S) : Option (Ex × S) := run (annT 58) c58_0 s
noncomputable def c58_1 : Code := gL c58_0
noncomputable def n58_1 (s : S) : Option (Ex × S) := run (annT 58) c58_1 s
noncomputable def c58_2 : Code := gR c58_0
noncomputable def n58_2 (s : S) : Option (Ex × S) := run (annT 58) c58_2 s
noncomputable def c58_3 : Code := gL c58_2
noncomputable def n58_3 (s : S) : Option (Ex × S) := run (annT 58) c58_3 s
noncomputable def c58_4 : Code := gR c58_2
noncomputable def n58_4 (s : S) : Option (Ex × S) := run (annT 58) c58_4 s
attribute [cbv_opaque] n58_0 n58_1 n58_2 n58_3 n58_4
@[cbv_eval] theorem r_n58_1 (s : S) : n58_1 s = (stepsO X (annT 58) C (gO c58_1) (gO c58_1).toList s).map fun s' => (.norm, behindS (annT 58) 0 s') := run_region (annT 58) s 0 (gO c58_1) false rfl
@[cbv_eval] theorem r_n58_3 (s : S) : n58_3 s = (stepsO X (annT 58) C (gO c58_3) (gO c58_3).toList s).map fun s' => (.norm, behindS (annT 58) 1 s') := run_region (annT 58) s 1 (gO c58_3) false rfl
@[cbv_eval] theorem r_n58_4 (s : S) : n58_4 s = some (.ret, s) := run_ret (annT 58) s
@[cbv_eval] theorem r_n58_2 (s : S) : n58_2 s = (n58_3 s).bind fun r => match r.1 with
    | .norm => n58_4 r.2
    | e => some (e, r.2) := run_seq (annT 58) c58_3 c58_4 s
@[cbv_eval] theorem r_n58_0 (s : S) : n58_0 s = (n58_1 s).bind fun r => match r.1 with
    | .norm => n58_2 r.2
    | e => some (e, r.2) := run_seq (annT 58) c58_1 c58_2 s
theorem p58 (ds : List D) : pureCall C 58 ds = ((n58_0 ⟨argsT 0 (ds.map .d), []⟩).bind (bodyR [.tmp 2])).bind prOf := P_eq Try.f58 rfl rfl rfl rfl ds
theorem q58 (vs : List AV) (st : Store) : C 58 vs st = (n58_0 ⟨argsT 0 vs, st⟩).bind (bodyR [.tmp 2]) := C_eq Try.f58 rfl rfl rfl rfl vs st

@[cbv_eval] theorem ann_36 : annT 36 = { keep := [(0, [1]), (1, [2])], loops := [] } := rfl
noncomputable def c36_0 : Code := Try.f36.body.getD .skip
noncomputable def n36_0 (s : S) : Option (Ex × S) := run (annT 36) c36_0 s
noncomputable def c36_1 : Code := gL c36_0
noncomputable def n36_1 (s : S) : Option (Ex × S) := run (annT 36) c36_1 s
noncomputable def c36_2 : Code := gR c36_0
noncomputable def n36_2 (s : S) : Option (Ex × S) := run (annT 36) c36_2 s
noncomputable def c36_3 : Code := gL c36_2
noncomputable def n36_3 (s : S) : Option (Ex × S) := run (annT 36) c36_3 s
noncomputable def c36_4 : Code := gR c36_2
noncomputable def n36_4 (s : S) : Option (Ex × S) := run (annT 36) c36_4 s
attribute [cbv_opaque] n36_0 n36_1 n36_2 n36_3 n36_4
@[cbv_eval] theorem r_n36_1 (s : S) : n36_1 s = (stepsO X (annT 36) C (gO c36_1) (gO c36_1).toList s).map fun s' => (.norm, behindS (annT 36) 0 s') := run_region (annT 36) s 0 (gO c36_1) false rfl
@[cbv_eval] theorem r_n36_3 (s : S) : n36_3 s = (stepsO X (annT 36) C (gO c36_3) (gO c36_3).toList s).map fun s' => (.norm, behindS (annT 36) 1 s') := run_region (annT 36) s 1 (gO c36_3) false rfl
@[cbv_eval] theorem r_n36_4 (s : S) : n36_4 s = some (.ret, s) := run_ret (annT 36) s
@[cbv_eval] theorem r_n36_2 (s : S) : n36_2 s = (n36_3 s).bind fun r => match r.1 with
    | .norm => n36_4 r.2
    | e => some (e, r.2) := run_seq (annT 36) c36_3 c36_4 s
@[cbv_eval] theorem r_n36_0 (s : S) : n36_0 s = (n36_1 s).bind fun r => match r.1 with
    | .norm => n36_2 r.2
    | e => some (e, r.2) := run_seq (annT 36) c36_1 c36_2 s
theorem p36 (ds : List D) : pureCall C 36 ds = ((n36_0 ⟨argsT 0 (ds.map .d), []⟩).bind (bodyR [.tmp 2])).bind prOf := P_eq Try.f36 rfl rfl rfl rfl ds
theorem q36 (vs : List AV) (st : Store) : C 36 vs st = (n36_0 ⟨argsT 0 vs, st⟩).bind (bodyR [.tmp 2]) := C_eq Try.f36 rfl rfl rfl rfl vs st

@[cbv_eval] theorem ann_20 : annT 20 = { keep := [(0, [1]), (1, [15]), (2, [2]), (3, [2])], loops := [] } := rfl
noncomputable def c20_0 : Code := Try.f20.body.getD .skip
noncomputable def n20_0 (s : S) : Option (Ex × S) := run (annT 20) c20_0 s
noncomputable def c20_1 : Code := gL c20_0
noncomputable def n20_1 (s : S) : Option (Ex × S) := run (annT 20) c20_1 s
noncomputable def c20_2 : Code := gR c20_0
noncomputable def n20_2 (s : S) : Option (Ex × S) := run (annT 20) c20_2 s
noncomputable def c20_3 : Code := gL c20_2
noncomputable def n20_3 (s : S) : Option (Ex × S) := run (annT 20) c20_3 s
noncomputable def c20_4 : Code := gL c20_3
noncomputable def n20_4 (s : S) : Option (Ex × S) := run (annT 20) c20_4 s
noncomputable def c20_5 : Code := gR c20_3
noncomputable def n20_5 (s : S) : Option (Ex × S) := run (annT 20) c20_5 s
noncomputable def c20_6 : Code := gT c20_5
noncomputable def n20_6 (s : S) : Option (Ex × S) := run (annT 20) c20_6 s
noncomputable def c20_7 : Code := gL c20_6
noncomputable def n20_7 (s : S) : Option (Ex × S) := run (annT 20) c20_7 s
noncomputable def c20_8 : Code := gR c20_6
noncomputable def n20_8 (s : S) : Option (Ex × S) := run (annT 20) c20_8 s
noncomputable def c20_9 : Code := gF c20_5
noncomputable def n20_9 (s : S) : Option (Ex × S) := run (annT 20) c20_9 s
noncomputable def c20_10 : Code := gR c20_2
noncomputable def n20_10 (s : S) : Option (Ex × S) := run (annT 20) c20_10 s
noncomputable def c20_11 : Code := gL c20_10
noncomputable def n20_11 (s : S) : Option (Ex × S) := run (annT 20) c20_11 s
noncomputable def c20_12 : Code := gR c20_10
noncomputable def n20_12 (s : S) : Option (Ex × S) := run (annT 20) c20_12 s
attribute [cbv_opaque] n20_0 n20_1 n20_2 n20_3 n20_4 n20_5 n20_6 n20_7 n20_8 n20_9 n20_10 n20_11 n20_12
@[cbv_eval] theorem r_n20_1 (s : S) : n20_1 s = (stepsO X (annT 20) C (gO c20_1) (gO c20_1).toList s).map fun s' => (.norm, behindS (annT 20) 0 s') := run_region (annT 20) s 0 (gO c20_1) false rfl
@[cbv_eval] theorem r_n20_4 (s : S) : n20_4 s = (stepsO X (annT 20) C (gO c20_4) (gO c20_4).toList s).map fun s' => (.norm, behindS (annT 20) 1 s') := run_region (annT 20) s 1 (gO c20_4) false rfl
@[cbv_eval] theorem r_n20_7 (s : S) : n20_7 s = (stepsO X (annT 20) C (gO c20_7) (gO c20_7).toList s).map fun s' => (.norm, behindS (annT 20) 2 s') := run_region (annT 20) s 2 (gO c20_7) false rfl
@[cbv_eval] theorem r_n20_8 (s : S) : n20_8 s = some (.ret, s) := run_ret (annT 20) s
@[cbv_eval] theorem r_n20_6 (s : S) : n20_6 s = (n20_7 s).bind fun r => match r.1 with
    | .norm => n20_8 r.2
    | e => some (e, r.2) := run_seq (annT 20) c20_7 c20_8 s
@[cbv_eval] theorem r_n20_9 (s : S) : n20_9 s = some (.norm, s) := run_skip (annT 20) s
@[cbv_eval] theorem r_n20_5 (s : S) : n20_5 s = (asB (opv s.t (gC c20_5))).bind fun t => bif t then n20_6 s else n20_9 s := run_cond (annT 20) c20_6 c20_9 s (gC c20_5)
@[cbv_eval] theorem r_n20_3 (s : S) : n20_3 s = (n20_4 s).bind fun r => match r.1 with
    | .norm => n20_5 r.2
    | e => some (e, r.2) := run_seq (annT 20) c20_4 c20_5 s
@[cbv_eval] theorem r_n20_11 (s : S) : n20_11 s = (stepsO X (annT 20) C (gO c20_11) (gO c20_11).toList s).map fun s' => (.norm, behindS (annT 20) 3 s') := run_region (annT 20) s 3 (gO c20_11) false rfl
@[cbv_eval] theorem r_n20_12 (s : S) : n20_12 s = some (.ret, s) := run_ret (annT 20) s
@[cbv_eval] theorem r_n20_10 (s : S) : n20_10 s = (n20_11 s).bind fun r => match r.1 with
    | .norm => n20_12 r.2
    | e => some (e, r.2) := run_seq (annT 20) c20_11 c20_12 s
@[cbv_eval] theorem r_n20_2 (s : S) : n20_2 s = (n20_3 s).bind fun r => match r.1 with
    | .norm => n20_10 r.2
    | e => some (e, r.2) := run_seq (annT 20) c20_3 c20_10 s
@[cbv_eval] theorem r_n20_0 (s : S) : n20_0 s = (n20_1 s).bind fun r => match r.1 with
    | .norm => n20_2 r.2
    | e => some (e, r.2) := run_seq (annT 20) c20_1 c20_2 s
theorem p20 (ds : List D) : pureCall C 20 ds = ((n20_0 ⟨argsT 0 (ds.map .d), []⟩).bind (bodyR [.tmp 2])).bind prOf := P_eq Try.f20 rfl rfl rfl rfl ds
theorem q20 (vs : List AV) (st : Store) : C 20 vs st = (n20_0 ⟨argsT 0 vs, st⟩).bind (bodyR [.tmp 2]) := C_eq Try.f20 rfl rfl rfl rfl vs st
end Go.L25
