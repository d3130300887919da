/- Layer 25: codes by their parts. Conditions: none. -/
import Derived.Test.YtjbaoopiffcigaaG3
set_option linter.unusedVariables false
namespace Go.L25
open Go Go.Eng Go.Proofs
set_option maxRecDepth 100000
attribute [cbv_opaque] annT

@[cbv_eval] theorem ann_48 : annT 48 = { keep := [(0, [0, 1, 4]), (1, [4])], loops := [] } := rfl
noncomputable def c48_0 : Code := Try.f48.body.getD .skip
noncomputable def n48_0 (s : S) : Option (Ex × S) := run (annT 48) c48_0 s
noncomputable def c48_1 : Code := gL c48_0
noncomputable def n48_1 (s : S) : Option (Ex × S) := run (annT 48) c48_1 s
noncomputable def c48_2 : Code := gR c48_0
noncomputable def n48_2 (s : S) : Option (Ex × S) := run (annT 48) c48_2 s
noncomputable def c48_3 : Code := gL c48_2
noncomputable def n48_3 (s : S) : Option (Ex × S) := run (annT 48) c48_3 s
noncomputable def c48_4 : Code := gR c48_2
noncomputable def n48_4 (s : S) : Option (Ex × S) := run (annT 48) c48_4 s
attribute [cbv_opaque] n48_0 n48_1 n48_2 n48_3 n48_4
@[cbv_eval] theorem r_n48_1 (s : S) : n48_1 s = (stepsO X (annT 48) C (gO c48_1) (gO c48_1).toList s).map fun s' => (.norm, behindS (annT 48) 0 s') := run_region (annT 48) s 0 (gO c48_1) false rfl
@[cbv_eval] theorem r_n48_3 (s : S) : n48_3 s = (stepsO X (annT 48) C (gO c48_3) (gO c48_3).toList s).map fun s' => (.norm, behindS (annT 48) 1 s') := run_region (annT 48) s 1 (gO c48_3) false rfl
@[cbv_eval] theorem r_n48_4 (s : S) : n48_4 s = some (.ret, s) := run_ret (annT 48) s
@[cbv_eval] theorem r_n48_2 (s : S) : n48_2 s = (n48_3 s).bind fun r => match r.1 with
    | .norm => n48_4 r.2
    | e => some (e, r.2) := run_seq (annT 48) c48_3 c48_4 s
@[cbv_eval] theorem r_n48_0 (s : S) : n48_0 s = (n48_1 s).bind fun r => match r.1 with
    | .norm => n48_2 r.2
    | e => some (e, r.2) := run_seq (annT 48) c48_1 c48_2 s
theorem p48 (ds : List D) : pureCall C 48 ds = ((n48_0 ⟨argsT 0 (ds.map .d), []⟩).bind (bodyR [.cell 4 32])).bind prOf := P_eq Try.f48 rfl rfl rfl rfl ds
theorem q48 (vs : List AV) (st : Store) : C 48 vs st = (n48_0 ⟨argsT 0 vs, st⟩).bind (bodyR [.cell 4 32]) := C_eq Try.f48 rfl rfl rfl rfl vs st

@[cbv_eval] theorem ann_49 : annT 49 = { keep := [(0, [0, 2]), (1, [2])], loops := [] } := rfl
noncomputable def c49_0 : Code := Try.f49.body.getD .skip
noncomputable def n49_0 (s : S) : Option (Ex × S) := run (annT 49) c49_0 s
noncomputable def c49_1 : Code := gL c49_0
noncomputable def n49_1 (s : S) : Option (Ex × S) := run (annT 49) c49_1 s
noncomputable def c49_2 : Code := gR c49_0
noncomputable def n49_2 (s : S) : Option (Ex × S) := run (annT 49) c49_2 s
noncomputable def c49_3 : Code := gL c49_2
noncomputable def n49_3 (s : S) : Option (Ex × S) := run (annT 49) c49_3 s
noncomputable def c49_4 : Code := gR c49_2
noncomputable def n49_4 (s : S) : Option (Ex × S) := run (annT 49) c49_4 s
attribute [cbv_opaque] n49_0 n49_1 n49_2 n49_3 n49_4
@[cbv_eval] theorem r_n49_1 (s : S) : n49_1 s = (stepsO X (annT 49) C (gO c49_1) (gO c49_1).toList s).map fun s' => (.norm, behindS (annT 49) 0 s') := run_region (annT 49) s 0 (gO c49_1) false rfl
@[cbv_eval] theorem r_n49_3 (s : S) : n49_3 s = (stepsO X (annT 49) C (gO c49_3) (gO c49_3).toList s).map fun s' => (.norm, behindS (annT 49) 1 s') := run_region (annT 49) s 1 (gO c49_3) false rfl
@[cbv_eval] theorem r_n49_4 (s : S) : n49_4 s = some (.ret, s) := run_ret (annT 49) s
@[cbv_eval] theorem r_n49_2 (s : S) : n49_2 s = (n49_3 s).bind fun r => match r.1 with
    | .norm => n49_4 r.2
    | e => some (e, r.2) := run_seq (annT 49) c49_3 c49_4 s
@[cbv_eval] theorem r_n49_0 (s : S) : n49_0 s = (n49_1 s).bind fun r => match r.1 with
    | .norm => n49_2 r.2
    | e => some (e, r.2) := run_seq (annT 49) c49_1 c49_2 s
theorem p49 (ds : List D) : pureCall C 49 ds = ((n49_0 ⟨argsT 0 (ds.map .d), []⟩).bind (bodyR [.cell 2 32])).bind prOf := P_eq Try.f49 rfl rfl rfl rfl ds
theorem q49 (vs : List AV) (st : Store) : C 49 vs st = (n49_0 ⟨argsT 0 vs, st⟩).bind (bodyR [.cell 2 32]) := C_eq Try.f49 rfl rfl rfl rfl vs st

@[cbv_eval] theorem ann_25 : annT 25 = { keep := [(0, [1, 2]), (1, [1, 2, 3]), (2, [1, 2, 3, 11]), (3, [2, 3]), (4, [1, 2, 3, 11, 20]), (5, [1, 2, 3, 11, 20]), (6, [1, 2, 3, 11, 20]), (7, [1, 2, 3, 4]), (8, [1, 2, 3, 4, 28]), (9, [1, 2, 3, 4]), (10, [1, 2, 3, 4]), (11, [1, 2, 3, 11, 42]), (12, [2]), (13, [1, 2, 3, 11, 47]), (14, [1, 2, 3, 5]), (15, [1, 2, 3, 5, 52]), (16, [1, 2, 3, 5]), (17, [1, 2, 3, 5, 6]), (18, [1, 2, 3, 5, 6, 67]), (19, [1, 2, 3, 5, 6]), (20, [1, 2, 3, 5, 6]), (21, [1, 2, 3, 5, 84]), (22, [1, 2, 3, 5]), (23, [2, 3]), (24, [1, 2, 3, 100]), (25, [1, 2, 3, 104]), (26, [1, 2, 3]), (27, [1, 2, 3, 115]), (28, [1, 2, 3]), (29, [1, 2, 3]), (30, [2, 3, 133]), (31, [2, 3]), (32, [2])], loops := [(8, [1, 2, 3, 4]), (18, [1, 2, 3, 5, 6])] } := rfl
noncomputable def c25_0 : Code := Try.f25.body.getD .skip
noncomputable def n25_0 (s : S) : Option (Ex × S) := run (annT 25) c25_0 s
noncomputable def c25_1 : Code := gL c25_0
noncomputable def n25_1 (s : S) : Option (Ex × S) := run (annT 25) c25_1 s
noncomputable def c25_2 : Code := gR c25_0
noncomputable def n25_2 (s : S) : Option (Ex × S) := run (annT 25) c25_2 s
noncomputable def c25_3 : Code := gL c25_2
noncomputable def n25_3 (s : S) : Option (Ex × S) := run (annT 25) c25_3 s
noncomputable def c25_4 : Code := gR c25_2
noncomputable def n25_4 (s : S) : Option (Ex × S) := run (annT 25) c25_4 s
noncomputable def c25_5 : Code := gL c25_4
noncomputable def n25_5 (s : S) : Option (Ex × S) := run (annT 25) c25_5 s
noncomputable def c25_6 : Code := gL c25_5
noncomputable def n25_6 (s : S) : Option (Ex × S) := run (annT 25) c25_6 s
noncomputable def c25_7 : Code := gR c25_5
noncomputable def n25_7 (s : S) : Option (Ex × S) := run (annT 25) c25_7 s
noncomputable def c25_8 : Code := gB c25_7
noncomputable def n25_8 (s : S) : Option (Ex × S) := run (annT 25) c25_8 s
noncomputable def c25_9 : Code := gL c25_8
noncomputable def n25_9 (s : S) : Option (Ex × S) := run (annT 25) c25_9 s
noncomputable def c25_10 : Code := gL c25_9
noncomputable def n25_10 (s : S) : Option (Ex × S) := run (annT 25) c25_10 s
noncomputable def c25_11 : Code := gR c25_9
noncomputable def n25_11 (s : S) : Option (Ex × S) := run (annT 25) c25_11 s
noncomputable def c25_12 : Code := gT c25_11
noncomputable def n25_12 (s : S) : Option (Ex × S) := run (annT 25) c25_12 s
noncomputable def c25_13 : Code := gF c25_11
noncomputable def n25_13 (s : S) : Option (Ex × S) := run (annT 25) c25_13 s
noncomputable def c25_14 : Code := gL c25_13
noncomputable def n25_14 (s : S) : Option (Ex × S) := run (annT 25) c25_14 s
noncomputable def c25_15 : Code := gR c25_13
noncomputable def n25_15 (s : S) : Option (Ex × S) := run (annT 25) c25_15 s
noncomputable def c25_16 : Code := gT c25_15
noncomputable def n25_16 (s : S) : Option (Ex × S) := run (annT 25) c25_16 s
noncomputable def c25_17 : Code := gF c25_15
noncomputable def n25_17 (s : S) : Option (Ex × S) := run (annT 25) c25_17 s
noncomputable def c25_18 : Code := gR c25_8
noncomputable def n25_18 (s : S) : Option (Ex × S) := run (annT 25) c25_18 s
noncomputable def c25_19 : Code := gT c25_18
noncomputable def n25_19 (s : S) : Option (Ex × S) := run (annT 25) c25_19 s
noncomputable def c25_20 : Code := gL c25_19
noncomputable def n25_20 (s : S) : Option (Ex × S) := run (annT 25) c25_20 s
noncomputable def c25_21 : Code := gR c25_19
noncomputable def n25_21 (s : S) : Option (Ex × S) := run (annT 25) c25_21 s
noncomputable def c25_22 : Code := gB c25_21
noncomputable def n25_22 (s : S) : Option (Ex × S) := run (annT 25) c25_22 s
noncomputable def c25_23 : Code := gB c25_22
noncomputable def n25_23 (s : S) : Option (Ex × S) := run (annT 25) c25_23 s
noncomputable def c25_24 : Code := gL c25_23
noncomputable def n25_24 (s : S) : Option (Ex × S) := run (annT 25) c25_24 s
noncomputable def c25_25 : Code := gL c25_24
noncomputable def n25_25 (s : S) : Option (Ex × S) := run (annT 25) c25_25 s
noncomputable def c25_26 : Code := gR c25_24
noncomputable def n25_26 (s : S) : Option (Ex × S) := run (annT 25) c25_26 s
noncomputable def c25_27 : Code := gT c25_26
noncomputable def n25_27 (s : S) : Option (Ex × S) := run (annT 25) c25_27 s
noncomputable def c25_28 : Code := gF c25_26
noncomputable def n25_28 (s : S) : Option (Ex × S) := run (annT 25) c25_28 s
noncomputable def c25_29 : Code := gR c25_23
noncomputable def n25_29 (s : S) : Option (Ex × S) := run (annT 25) c25_29 s
noncomputable def c25_30 : Code := gL c25_29
noncomputable def n25_30 (s : S) : Option (Ex × S) := run (annT 25) c25_30 s
noncomputable def c25_31 : Code := gB c25_30
noncomputable def n25_31 (s : S) : Option (Ex × S) := run (annT 25) c25_31 s
noncomputable def c25_32 : Code := gR c25_29
noncomputable def n25_32 (s : S) : Option (Ex × S) := run (annT 25) c25_32 s
noncomputable def c25_33 : Code := gF c25_18
noncomputable def n25_33 (s : S) : Option (Ex × S) := run (annT 25) c25_33 s
noncomputable def c25_34 : Code := gL c25_33
noncomputable def n25_34 (s : S) : Option (Ex × S) := run (annT 25) c25_34 s
noncomputable def c25_35 : Code := gR c25_33
noncomputable def n25_35 (s : S) : Option (Ex × S) := run (annT 25) c25_35 s
noncomputable def c25_36 : Code := gT c25_35
noncomputable def n25_36 (s : S) : Option (Ex × S) := run (annT 25) c25_36 s
noncomputable def c25_37 : Code := gL c25_36
noncomputable def n25_37 (s : S) : Option (Ex × S) := run (annT 25) c25_37 s
noncomputable def c25_38 : Code := gR c25_36
noncomputable def n25_38 (s : S) : Option (Ex × S) := run (annT 25) c25_38 s
noncomputable def c25_39 : Code := gF c25_35
noncomputable def n25_39 (s : S) : Option (Ex × S) := run (annT 25) c25_39 s
noncomputable def c25_40 : Code := gL c25_39
noncomputable def n25_40 (s : S) : Option (Ex × S) := run (annT 25) c25_40 s
noncomputable def c25_41 : Code := gR c25_39
noncomputable def n25_41 (s : S) : Option (Ex × S) := run (annT 25) c25_41 s
noncomputable def c25_42 : Code := gT c25_41
noncomputable def n25_42 (s : S) : Option (Ex × S) := run (annT 25) c25_42 s
noncomputable def c25_43 : Code := gL c25_42
noncomputable def n25_43 (s : S) : Option (Ex × S) := run (annT 25) c25_43 s
noncomputable def c25_44 : Code := gR c25_42
noncomputable def n25_44 (s : S) : Option (Ex × S) := run (annT 25) c25_44 s
noncomputable def c25_45 : Code := gL c25_44
noncomputable def n25_45 (s : S) : Option (Ex × S) := run (annT 25) c25_45 s
noncomputable def c25_46 : Code := gL c25_45
noncomputable def n25_46 (s : S) : Option (Ex × S) := run (annT 25) c25_46 s
noncomputable def c25_47 : Code := gR c25_45
noncomputable def n25_47 (s : S) : Option (Ex × S) := run (annT 25) c25_47 s
noncomputable def c25_48 : Code := gT c25_47
noncomputable def n25_48 (s : S) : Option (Ex × S) := run (annT 25) c25_48 s
noncomputable def c25_49 : Code := gF c25_47
noncomputable def n25_49 (s : S) : Option (Ex × S) := run (annT 25) c25_49 s
noncomputable def c25_50 : Code := gR c25_44
noncomputable def n25_50 (s : S) : Option (Ex × S) := run (annT 25) c25_50 s
noncomputable def c25_51 : Code := gL c25_50
noncomputable def n25_51 (s : S) : Option (Ex × S) := run (annT 25) c25_51 s
noncomputable def c25_52 : Code := gL c25_51
noncomputable def n25_52 (s : S) : Option (Ex × S) := run (annT 25) c25_52 s
noncomputable def c25_53 : Code := gR c25_51
noncomputable def n25_53 (s : S) : Option (Ex × S) := run (annT 25) c25_53 s
noncomputable def c25_54 : Code := gB c25_53
noncomputable def n25_54 (s : S) : Option (Ex × S) := run (annT 25) c25_54 s
noncomputable def c25_55 : Code := gB c25_54
noncomputable def n25_55 (s : S) : Option (Ex × S) := run (annT 25) c25_55 s
noncomputable def c25_56 : Code := gL c25_55
noncomputable def n25_56 (s : S) : Option (Ex × S) := run (annT 25) c25_56 s
noncomputable def c25_57 : Code := gL c25_56
noncomputable def n25_57 (s : S) : Option (Ex × S) := run (annT 25) c25_57 s
noncomputable def c25_58 : Code := gR c25_56
noncomputable def n25_58 (s : S) : Option (Ex × S) := run (annT 25) c25_58 s
noncomputable def c25_59 : Code := gT c25_58
noncomputable def n25_59 (s : S) : Option (Ex × S) := run (annT 25) c25_59 s
noncomputable def c25_60 : Code := gF c25_58
noncomputable def n25_60 (s : S) : Option (Ex × S) := run (annT 25) c25_60 s
noncomputable def c25_61 : Code := gR c25_55
noncomputable def n25_61 (s : S) : Option (Ex × S) := run (annT 25) c25_61 s
noncomputable def c25_62 : Code := gL c25_61
noncomputable def n25_62 (s : S) : Option (Ex × S) := run (annT 25) c25_62 s
noncomputable def c25_63 : Code := gB c25_62
noncomputable def n25_63 (s : S) : Option (Ex × S) := run (annT 25) c25_63 s
noncomputable def c25_64 : Code := gR c25_61
noncomputable def n25_64 (s : S) : Option (Ex × S) := run (annT 25) c25_64 s
noncomputable def c25_65 : Code := gR c25_50
noncomputable def n25_65 (s : S) : Option (Ex × S) := run (annT 25) c25_65 s
noncomputable def c25_66 : Code := gL c25_65
noncomputable def n25_66 (s : S) : Option (Ex × S) := run (annT 25) c25_66 s
noncomputable def c25_67 : Code := gL c25_66
noncomputable def n25_67 (s : S) : Option (Ex × S) := run (annT 25) c25_67 s
noncomputable def c25_68 : Code := gR c25_66
noncomputable def n25_68 (s : S) : Option (Ex × S) := run (annT 25) c25_68 s
noncomputable def c25_69 : Code := gT c25_68
noncomputable def n25_69 (s : S) : Option (Ex × S) := run (annT 25) c25_69 s
noncomputable def c25_70 : Code := gF c25_68
noncomputable def n25_70 (s : S) : Option (Ex × S) := run (annT 25) c25_70 s
noncomputable def c25_71 : Code := gR c25_65
noncomputable def n25_71 (s : S) : Option (Ex × S) := run (annT 25) c25_71 s
noncomputable def c25_72 : Code := gF c25_41
noncomputable def n25_72 (s : S) : Option (Ex × S) := run (annT 25) c25_72 s
noncomputable def c25_73 : Code := gL c25_72
noncomputable def n25_73 (s : S) : Option (Ex × S) := run (annT 25) c25_73 s
noncomputable def c25_74 : Code := gR c25_72
noncomputable def n25_74 (s : S) : Option (Ex × S) := run (annT 25) c25_74 s
noncomputable def c25_75 : Code := gT c25_74
noncomputable def n25_75 (s : S) : Option (Ex × S) := run (annT 25) c25_75 s
noncomputable def c25_76 : Code := gL c25_75
noncomputable def n25_76 (s : S) : Option (Ex × S) := run (annT 25) c25_76 s
noncomputable def c25_77 : Code := gL c25_76
noncomputable def n25_77 (s : S) : Option (Ex × S) := run (annT 25) c25_77 s
noncomputable def c25_78 : Code := gR c25_76
noncomputable def n25_78 (s : S) : Option (Ex × S) := run (annT 25) c25_78 s
noncomputable def c25_79 : Code := gT c25_78
noncomputable def n25_79 (s : S) : Option (Ex × S) := run (annT 25) c25_79 s
noncomputable def c25_80 : Code := gF c25_78
noncomputable def n25_80 (s : S) : Option (Ex × S) := run (annT 25) c25_80 s
noncomputable def c25_81 : Code := gR c25_75
noncomputable def n25_81 (s : S) : Option (Ex × S) := run (annT 25) c25_81 s
noncomputable def c25_82 : Code := gL c25_81
noncomputable def n25_82 (s : S) : Option (Ex × S) := run (annT 25) c25_82 s
noncomputable def c25_83 : Code := gL c25_82
noncomputable def n25_83 (s : S) : Option (Ex × S) := run (annT 25) c25_83 s
noncomputable def c25_84 : Code := gR c25_82
noncomputable def n25_84 (s : S) : Option (Ex × S) := run (annT 25) c25_84 s
noncomputable def c25_85 : Code := gT c25_84
noncomputable def n25_85 (s : S) : Option (Ex × S) := run (annT 25) c25_85 s
noncomputable def c25_86 : Code := gF c25_84
noncomputable def n25_86 (s : S) : Option (Ex × S) := run (annT 25) c25_86 s
noncomputable def c25_87 : Code := gR c25_81
noncomputable def n25_87 (s : S) : Option (Ex × S) := run (annT 25) c25_87 s
noncomputable def c25_88 : Code := gL c25_87
noncomputable def n25_88 (s : S) : Option (Ex × S) := run (annT 25) c25_88 s
noncomputable def c25_89 : Code := gR c25_87
noncomputable def n25_89 (s : S) : Option (Ex × S) := run (annT 25) c25_89 s
noncomputable def c25_90 : Code := gL c25_89
noncomputable def n25_90 (s : S) : Option (Ex × S) := run (annT 25) c25_90 s
noncomputable def c25_91 : Code := gR c25_89
noncomputable def n25_91 (s : S) : Option (Ex × S) := run (annT 25) c25_91 s
noncomputable def c25_92 : Code := gT c25_91
noncomputable def n25_92 (s : S) : Option (Ex × S) := run (annT 25) c25_92 s
noncomputable def c25_93 : Code := gF c25_91
noncomputable def n25_93 (s : S) : Option (Ex × S) := run (annT 25) c25_93 s
noncomputable def c25_94 : Code := gF c25_74
noncomputable def n25_94 (s : S) : Option (Ex × S) := run (annT 25) c25_94 s
noncomputable def c25_95 : Code := gR c25_4
noncomputable def n25_95 (s : S) : Option (Ex × S) := run (annT 25) c25_95 s
noncomputable def c25_96 : Code := gL c25_95
noncomputable def n25_96 (s : S) : Option (Ex × S) := run (annT 25) c25_96 s
noncomputable def c25_97 : Code := gR c25_95
noncomputable def n25_97 (s : S) : Option (Ex × S) := run (annT 25) c25_97 s
attribute [cbv_opaque] n25_0 n25_1 n25_2 n25_3 n25_4 n25_5 n25_6 n25_7 n25_8 n25_9 n25_10 n25_11 n25_12 n25_13 n25_14 n25_15 n25_16 n25_17 n25_18 n25_19 n25_20 n25_21 n25_22 n25_23 n25_24 n25_25 n25_26 n25_27 n25_28 n25_29 n25_30 n25_31 n25_32 n25_33 n25_34 n25_35 n25_36 n25_37 n25_38 n25_39 n25_40 n25_41 n25_42 n25_43 n25_44 n25_45 n25_46 n25_47 n25_48 n25_49 n25_50 n25_51 n25_52 n25_53 n25_54 n25_55 n25_56 n25_57 n25_58 n25_59 n25_60 n25_61 n25_62 n25_63 n25_64 n25_65 n25_66 n25_67 n25_68 n25_69 n25_70 n25_71 n25_72 n25_73 n25_74 n25_75 n25_76 n25_77 n25_78 n25_79 n25_80 n25_81 n25_82 n25_83 n25_84 n25_85 n25_86 n25_87 n25_88 n25_89 n25_90 n25_91 n25_92 n25_93 n25_94 n25_95 n25_96 n25_97
@[cbv_eval] theorem r_n25_1 (s : S) : n25_1 s = (stepsO X (annT 25) C (gO c25_1) (gO c25_1).toList s).map fun s' => (.norm, behindS (annT 25) 0 s') := run_region (annT 25) s 0 (gO c25_1) false rfl
@[cbv_eval] theorem r_n25_3 (s : S) : n25_3 s = (stepsO X (annT 25) C (gO c25_3) (gO c25_3).toList s).map fun s' => (.norm, behindS (annT 25) 1 s') := run_region (annT 25) s 1 (gO c25_3) false rfl
@[cbv_eval] theorem r_n25_6 (s : S) : n25_6 s = (stepsO X (annT 25) C (gO c25_6) (gO c25_6).toList s).map fun s' => (.norm, behindS (annT 25) 2 s') := run_region (annT 25) s 2 (gO c25_6) false rfl
@[cbv_eval] theorem r_n25_10 (s : S) : n25_10 s = (stepsO X (annT 25) C (gO c25_10) (gO c25_10).toList s).map fun s' => (.norm, behindS (annT 25) 4 s') := run_region (annT 25) s 4 (gO c25_10) false rfl
@[cbv_eval] theorem r_n25_12 (s : S) : n25_12 s = some (.norm, s) := run_skip (annT 25) s
@[cbv_eval] theorem r_n25_14 (s : S) : n25_14 s = (stepsO X (annT 25) C (gO c25_14) (gO c25_14).toList s).map fun s' => (.norm, behindS (annT 25) 5 s') := run_region (annT 25) s 5 (gO c25_14) false rfl
@[cbv_eval] theorem r_n25_16 (s : S) : n25_16 s = some (.norm, s) := run_skip (annT 25) s
@[cbv_eval] theorem r_n25_17 (s : S) : n25_17 s = (stepsO X (annT 25) C (gO c25_17) (gO c25_17).toList s).map fun s' => (.norm, behindS (annT 25) 6 s') := run_region (annT 25) s 6 (gO c25_17) false rfl
@[cbv_eval] theorem r_n25_15 (s : S) : n25_15 s = (asB (opv s.t (gC c25_15))).bind fun t => bif t then n25_16 s else n25_17 s := run_cond (annT 25) c25_16 c25_17 s (gC c25_15)
@[cbv_eval] theorem r_n25_13 (s : S) : n25_13 s = (n25_14 s).bind fun r => match r.1 with
    | .norm => n25_15 r.2
    | e => some (e, r.2) := run_seq (annT 25) c25_14 c25_15 s
@[cbv_eval] theorem r_n25_11 (s : S) : n25_11 s = (asB (opv s.t (gC c25_11))).bind fun t => bif t then n25_12 s else n25_13 s := run_cond (annT 25) c25_12 c25_13 s (gC c25_11)
@[cbv_eval] theorem r_n25_9 (s : S) : n25_9 s = (n25_10 s).bind fun r => match r.1 with
    | .norm => n25_11 r.2
    | e => some (e, r.2) := run_seq (annT 25) c25_10 c25_11 s
@[cbv_eval] theorem r_n25_20 (s : S) : n25_20 s = (stepsO X (annT 25) C (gO c25_20) (gO c25_20).toList s).map fun s' => (.norm, behindS (annT 25) 7 s') := run_region (annT 25) s 7 (gO c25_20) false rfl
@[cbv_eval] theorem r_n25_25 (s : S) : n25_25 s = (stepsO X (annT 25) C (gO c25_25) (gO c25_25).toList s).map fun s' => (.norm, behindS (annT 25) 8 s') := run_region (annT 25) s 8 (gO c25_25) false rfl
@[cbv_eval] theorem r_n25_27 (s : S) : n25_27 s = some (.norm, s) := run_skip (annT 25) s
@[cbv_eval] theorem r_n25_28 (s : S) : n25_28 s = some (.exit 1, s) := run_exit (annT 25) s 1
@[cbv_eval] theorem r_n25_26 (s : S) : n25_26 s = (asB (opv s.t (gC c25_26))).bind fun t => bif t then n25_27 s else n25_28 s := run_cond (annT 25) c25_27 c25_28 s (gC c25_26)
@[cbv_eval] theorem r_n25_24 (s : S) : n25_24 s = (n25_25 s).bind fun r => match r.1 with
    | .norm => n25_26 r.2
    | e => some (e, r.2) := run_seq (annT 25) c25_25 c25_26 s
@[cbv_eval] theorem r_n25_31 (s : S) : n25_31 s = (stepsO X (annT 25) C (gO c25_31) (gO c25_31).toList s).map fun s' => (.norm, behindS (annT 25) 10 s') := run_region (annT 25) s 10 (gO c25_31) true rfl
@[cbv_eval] theorem r_n25_30 (s : S) : n25_30 s = (n25_31 s).map fun r => match r.1 with
    | .exit j => bif j == 2 then (.norm, r.2) else (.exit j, r.2)
    | e => (e, r.2) := run_block (annT 25) c25_31 s 2
@[cbv_eval] theorem r_n25_32 (s : S) : n25_32 s = (stepsO X (annT 25) C (gO c25_32) (gO c25_32).toList s).map fun s' => (.norm, behindS (annT 25) 9 s') := run_region (annT 25) s 9 (gO c25_32) false rfl
@[cbv_eval] theorem r_n25_29 (s : S) : n25_29 s = (n25_30 s).bind fun r => match r.1 with
    | .norm => n25_32 r.2
    | e => some (e, r.2) := run_seq (annT 25) c25_30 c25_32 s
@[cbv_eval] theorem r_n25_23 (s : S) : n25_23 s = (n25_24 s).bind fun r => match r.1 with
    | .norm => n25_29 r.2
    | e => some (e, r.2) := run_seq (annT 25) c25_24 c25_29 s
theorem r_n25_22 (s : S) : n25_22 s = (n25_23 s).bind fun r => match r.1 with
    | .norm => n25_22 (headS (annT 25) c25_23 s.st.length r.2)
    | e => some (e, r.2) := run_loop (annT 25) c25_23 s
@[cbv_eval] theorem r_n25_21 (s : S) : n25_21 s = (n25_22 s).map fun r => match r.1 with
    | .exit j => bif j == 1 then (.norm, r.2) else (.exit j, r.2)
    | e => (e, r.2) := run_block (annT 25) c25_22 s 1
@[cbv_eval] theorem r_n25_19 (s : S) : n25_19 s = (n25_20 s).bind fun r => match r.1 with
    | .norm => n25_21 r.2
    | e => some (e, r.2) := run_seq (annT 25) c25_20 c25_21 s
@[cbv_eval] theorem r_n25_34 (s : S) : n25_34 s = (stepsO X (annT 25) C (gO c25_34) (gO c25_34).toList s).map fun s' => (.norm, behindS (annT 25) 11 s') := run_region (annT 25) s 11 (gO c25_34) false rfl
@[cbv_eval] theorem r_n25_37 (s : S) : n25_37 s = (stepsO X (annT 25) C (gO c25_37) (gO c25_37).toList s).map fun s' => (.norm, behindS (annT 25) 12 s') := run_region (annT 25) s 12 (gO c25_37) false rfl
@[cbv_eval] theorem r_n25_38 (s : S) : n25_38 s = some (.ret, s) := run_ret (annT 25) s
@[cbv_eval] theorem r_n25_36 (s : S) : n25_36 s = (n25_37 s).bind fun r => match r.1 with
    | .norm => n25_38 r.2
    | e => some (e, r.2) := run_seq (annT 25) c25_37 c25_38 s
@[cbv_eval] theorem r_n25_40 (s : S) : n25_40 s = (stepsO X (annT 25) C (gO c25_40) (gO c25_40).toList s).map fun s' => (.norm, behindS (annT 25) 13 s') := run_region (annT 25) s 13 (gO c25_40) false rfl
@[cbv_eval] theorem r_n25_43 (s : S) : n25_43 s = (stepsO X (annT 25) C (gO c25_43) (gO c25_43).toList s).map fun s' => (.norm, behindS (annT 25) 14 s') := run_region (annT 25) s 14 (gO c25_43) false rfl
@[cbv_eval] theorem r_n25_46 (s : S) : n25_46 s = (stepsO X (annT 25) C (gO c25_46) (gO c25_46).toList s).map fun s' => (.norm, behindS (annT 25) 15 s') := run_region (annT 25) s 15 (gO c25_46) false rfl
@[cbv_eval] theorem r_n25_48 (s : S) : n25_48 s = (stepsO X (annT 25) C (gO c25_48) (gO c25_48).toList s).map fun s' => (.norm, behindS (annT 25) 16 s') := run_region (annT 25) s 16 (gO c25_48) true rfl
@[cbv_eval] theorem r_n25_49 (s : S) : n25_49 s = some (.norm, s) := run_skip (annT 25) s
@[cbv_eval] theorem r_n25_47 (s : S) : n25_47 s = (asB (opv s.t (gC c25_47))).bind fun t => bif t then n25_48 s else n25_49 s := run_cond (annT 25) c25_48 c25_49 s (gC c25_47)
@[cbv_eval] theorem r_n25_45 (s : S) : n25_45 s = (n25_46 s).bind fun r => match r.1 with
    | .norm => n25_47 r.2
    | e => some (e, r.2) := run_seq (annT 25) c25_46 c25_47 s
@[cbv_eval] theorem r_n25_52 (s : S) : n25_52 s = (stepsO X (annT 25) C (gO c25_52) (gO c25_52).toList s).map fun s' => (.norm, behindS (annT 25) 17 s') := run_region (annT 25) s 17 (gO c25_52) false rfl
@[cbv_eval] theorem r_n25_57 (s : S) : n25_57 s = (stepsO X (annT 25) C (gO c25_57) (gO c25_57).toList s).map fun s' => (.norm, behindS (annT 25) 18 s') := run_region (annT 25) s 18 (gO c25_57) false rfl
@[cbv_eval] theorem r_n25_59 (s : S) : n25_59 s = some (.norm, s) := run_skip (annT 25) s
@[cbv_eval] theorem r_n25_60 (s : S) : n25_60 s = some (.exit 3, s) := run_exit (annT 25) s 3
@[cbv_eval] theorem r_n25_58 (s : S) : n25_58 s = (asB (opv s.t (gC c25_58))).bind fun t => bif t then n25_59 s else n25_60 s := run_cond (annT 25) c25_59 c25_60 s (gC c25_58)
@[cbv_eval] theorem r_n25_56 (s : S) : n25_56 s = (n25_57 s).bind fun r => match r.1 with
    | .norm => n25_58 r.2
    | e => some (e, r.2) := run_seq (annT 25) c25_57 c25_58 s
@[cbv_eval] theorem r_n25_63 (s : S) : n25_63 s = (stepsO X (annT 25) C (gO c25_63) (gO c25_63).toList s).map fun s' => (.norm, behindS (annT 25) 20 s') := run_region (annT 25) s 20 (gO c25_63) true rfl
@[cbv_eval] theorem r_n25_62 (s : S) : n25_62 s = (n25_63 s).map fun r => match r.1 with
    | .exit j => bif j == 4 then (.norm, r.2) else (.exit j, r.2)
    | e => (e, r.2) := run_block (annT 25) c25_63 s 4
@[cbv_eval] theorem r_n25_64 (s : S) : n25_64 s = (stepsO X (annT 25) C (gO c25_64) (gO c25_64).toList s).map fun s' => (.norm, behindS (annT 25) 19 s') := run_region (annT 25) s 19 (gO c25_64) false rfl
@[cbv_eval] theorem r_n25_61 (s : S) : n25_61 s = (n25_62 s).bind fun r => match r.1 with
    | .norm => n25_64 r.2
    | e => some (e, r.2) := run_seq (annT 25) c25_62 c25_64 s
@[cbv_eval] theorem r_n25_55 (s : S) : n25_55 s = (n25_56 s).bind fun r => match r.1 with
    | .norm => n25_61 r.2
    | e => some (e, r.2) := run_seq (annT 25) c25_56 c25_61 s
theorem r_n25_54 (s : S) : n25_54 s = (n25_55 s).bind fun r => match r.1 with
    | .norm => n25_54 (headS (annT 25) c25_55 s.st.length r.2)
    | e => some (e, r.2) := run_loop (annT 25) c25_55 s
@[cbv_eval] theorem r_n25_53 (s : S) : n25_53 s = (n25_54 s).map fun r => match r.1 with
    | .exit j => bif j == 3 then (.norm, r.2) else (.exit j, r.2)
    | e => (e, r.2) := run_block (annT 25) c25_54 s 3
@[cbv_eval] theorem r_n25_51 (s : S) : n25_51 s = (n25_52 s).bind fun r => match r.1 with
    | .norm => n25_53 r.2
    | e => some (e, r.2) := run_seq (annT 25) c25_52 c25_53 s
@[cbv_eval] theorem r_n25_67 (s : S) : n25_67 s = (stepsO X (annT 25) C (gO c25_67) (gO c25_67).toList s).map fun s' => (.norm, behindS (annT 25) 21 s') := run_region (annT 25) s 21 (gO c25_67) false rfl
@[cbv_eval] theorem r_n25_69 (s : S) : n25_69 s = (stepsO X (annT 25) C (gO c25_69) (gO c25_69).toList s).map fun s' => (.norm, behindS (annT 25) 22 s') := run_region (annT 25) s 22 (gO c25_69) true rfl
@[cbv_eval] theorem r_n25_70 (s : S) : n25_70 s = some (.norm, s) := run_skip (annT 25) s
@[cbv_eval] theorem r_n25_68 (s : S) : n25_68 s = (asB (opv s.t (gC c25_68))).bind fun t => bif t then n25_69 s else n25_70 s := run_cond (annT 25) c25_69 c25_70 s (gC c25_68)
@[cbv_eval] theorem r_n25_66 (s : S) : n25_66 s = (n25_67 s).bind fun r => match r.1 with
    | .norm => n25_68 r.2
    | e => some (e, r.2) := run_seq (annT 25) c25_67 c25_68 s
@[cbv_eval] theorem r_n25_71 (s : S) : n25_71 s = (stepsO X (annT 25) C (gO c25_71) (gO c25_71).toList s).map fun s' => (.norm, behindS (annT 25) 23 s') := run_region (annT 25) s 23 (gO c25_71) true rfl
@[cbv_eval] theorem r_n25_65 (s : S) : n25_65 s = (n25_66 s).bind fun r => match r.1 with
    | .norm => n25_71 r.2
    | e => some (e, r.2) := run_seq (annT 25) c25_66 c25_71 s
@[cbv_eval] theorem r_n25_50 (s : S) : n25_50 s = (n25_51 s).bind fun r => match r.1 with
    | .norm => n25_65 r.2
    | e => some (e, r.2) := run_seq (annT 25) c25_51 c25_65 s
@[cbv_eval] theorem r_n25_44 (s : S) : n25_44 s = (n25_45 s).bind fun r => match r.1 with
    | .norm => n25_50 r.2
    | e => some (e, r.2) := run_seq (annT 25) c25_45 c25_50 s
@[cbv_eval] theorem r_n25_42 (s : S) : n25_42 s = (n25_43 s).bind fun r => match r.1 with
    | .norm => n25_44 r.2
    | e => some (e, r.2) := run_seq (annT 25) c25_43 c25_44 s
@[cbv_eval] theorem r_n25_73 (s : S) : n25_73 s = (stepsO X (annT 25) C (gO c25_73) (gO c25_73).toList s).map fun s' => (.norm, behindS (annT 25) 24 s') := run_region (annT 25) s 24 (gO c25_73) false rfl
@[cbv_eval] theorem r_n25_77 (s : S) : n25_77 s = (stepsO X (annT 25) C (gO c25_77) (gO c25_77).toList s).map fun s' => (.norm, behindS (annT 25) 25 s') := run_region (annT 25) s 25 (gO c25_77) false rfl
@[cbv_eval] theorem r_n25_79 (s : S) : n25_79 s = (stepsO X (annT 25) C (gO c25_79) (gO c25_79).toList s).map fun s' => (.norm, behindS (annT 25) 26 s') := run_region (annT 25) s 26 (gO c25_79) true rfl
@[cbv_eval] theorem r_n25_80 (s : S) : n25_80 s = some (.norm, s) := run_skip (annT 25) s
@[cbv_eval] theorem r_n25_78 (s : S) : n25_78 s = (asB (opv s.t (gC c25_78))).bind fun t => bif t then n25_79 s else n25_80 s := run_cond (annT 25) c25_79 c25_80 s (gC c25_78)
@[cbv_eval] theorem r_n25_76 (s : S) : n25_76 s = (n25_77 s).bind fun r => match r.1 with
    | .norm => n25_78 r.2
    | e => some (e, r.2) := run_seq (annT 25) c25_77 c25_78 s
@[cbv_eval] theorem r_n25_83 (s : S) : n25_83 s = (stepsO X (annT 25) C (gO c25_83) (gO c25_83).toList s).map fun s' => (.norm, behindS (annT 25) 27 s') := run_region (annT 25) s 27 (gO c25_83) false rfl
@[cbv_eval] theorem r_n25_85 (s : S) : n25_85 s = (stepsO X (annT 25) C (gO c25_85) (gO c25_85).toList s).map fun s' => (.norm, behindS (annT 25) 28 s') := run_region (annT 25) s 28 (gO c25_85) true rfl
@[cbv_eval] theorem r_n25_86 (s : S) : n25_86 s = some (.norm, s) := run_skip (annT 25) s
@[cbv_eval] theorem r_n25_84 (s : S) : n25_84 s = (asB (opv s.t (gC c25_84))).bind fun t => bif t then n25_85 s else n25_86 s := run_cond (annT 25) c25_85 c25_86 s (gC c25_84)
@[cbv_eval] theorem r_n25_82 (s : S) : n25_82 s = (n25_83 s).bind fun r => match r.1 with
    | .norm => n25_84 r.2
    | e => some (e, r.2) := run_seq (annT 25) c25_83 c25_84 s
@[cbv_eval] theorem r_n25_88 (s : S) : n25_88 s = (stepsO X (annT 25) C (gO c25_88) (gO c25_88).toList s).map fun s' => (.norm, behindS (annT 25) 29 s') := run_region (annT 25) s 29 (gO c25_88) true rfl
@[cbv_eval] theorem r_n25_90 (s : S) : n25_90 s = (stepsO X (annT 25) C (gO c25_90) (gO c25_90).toList s).map fun s' => (.norm, behindS (annT 25) 30 s') := run_region (annT 25) s 30 (gO c25_90) false rfl
@[cbv_eval] theorem r_n25_92 (s : S) : n25_92 s = (stepsO X (annT 25) C (gO c25_92) (gO c25_92).toList s).map fun s' => (.norm, behindS (annT 25) 31 s') := run_region (annT 25) s 31 (gO c25_92) true rfl
@[cbv_eval] theorem r_n25_93 (s : S) : n25_93 s = some (.norm, s) := run_skip (annT 25) s
@[cbv_eval] theorem r_n25_91 (s : S) : n25_91 s = (asB (opv s.t (gC c25_91))).bind fun t => bif t then n25_92 s else n25_93 s := run_cond (annT 25) c25_92 c25_93 s (gC c25_91)
@[cbv_eval] theorem r_n25_89 (s : S) : n25_89 s = (n25_90 s).bind fun r => match r.1 with
    | .norm => n25_91 r.2
    | e => some (e, r.2) := run_seq (annT 25) c25_90 c25_91 s
@[cbv_eval] theorem r_n25_87 (s : S) : n25_87 s = (n25_88 s).bind fun r => match r.1 with
    | .norm => n25_89 r.2
    | e => some (e, r.2) := run_seq (annT 25) c25_88 c25_89 s
@[cbv_eval] theorem r_n25_81 (s : S) : n25_81 s = (n25_82 s).bind fun r => match r.1 with
    | .norm => n25_87 r.2
    | e => some (e, r.2) := run_seq (annT 25) c25_82 c25_87 s
@[cbv_eval] theorem r_n25_75 (s : S) : n25_75 s = (n25_76 s).bind fun r => match r.1 with
    | .norm => n25_81 r.2
    | e => some (e, r.2) := run_seq (annT 25) c25_76 c25_81 s
@[cbv_eval] theorem r_n25_94 (s : S) : n25_94 s = (stepsO X (annT 25) C (gO c25_94) (gO c25_94).toList s).map fun s' => (.norm, behindS (annT 25) 3 s') := run_region (annT 25) s 3 (gO c25_94) true rfl
@[cbv_eval] theorem r_n25_74 (s : S) : n25_74 s = (asB (opv s.t (gC c25_74))).bind fun t => bif t then n25_75 s else n25_94 s := run_cond (annT 25) c25_75 c25_94 s (gC c25_74)
@[cbv_eval] theorem r_n25_72 (s : S) : n25_72 s = (n25_73 s).bind fun r => match r.1 with
    | .norm => n25_74 r.2
    | e => some (e, r.2) := run_seq (annT 25) c25_73 c25_74 s
@[cbv_eval] theorem r_n25_41 (s : S) : n25_41 s = (asB (opv s.t (gC c25_41))).bind fun t => bif t then n25_42 s else n25_72 s := run_cond (annT 25) c25_42 c25_72 s (gC c25_41)
@[cbv_eval] theorem r_n25_39 (s : S) : n25_39 s = (n25_40 s).bind fun r => match r.1 with
    | .norm => n25_41 r.2
    | e => some (e, r.2) := run_seq (annT 25) c25_40 c25_41 s
@[cbv_eval] theorem r_n25_35 (s : S) : n25_35 s = (asB (opv s.t (gC c25_35))).bind fun t => bif t then n25_36 s else n25_39 s := run_cond (annT 25) c25_36 c25_39 s (gC c25_35)
@[cbv_eval] theorem r_n25_33 (s : S) : n25_33 s = (n25_34 s).bind fun r => match r.1 with
    | .norm => n25_35 r.2
    | e => some (e, r.2) := run_seq (annT 25) c25_34 c25_35 s
@[cbv_eval] theorem r_n25_18 (s : S) : n25_18 s = (asB (opv s.t (gC c25_18))).bind fun t => bif t then n25_19 s else n25_33 s := run_cond (annT 25) c25_19 c25_33 s (gC c25_18)
@[cbv_eval] theorem r_n25_8 (s : S) : n25_8 s = (n25_9 s).bind fun r => match r.1 with
    | .norm => n25_18 r.2
    | e => some (e, r.2) := run_seq (annT 25) c25_9 c25_18 s
@[cbv_eval] theorem r_n25_7 (s : S) : n25_7 s = (n25_8 s).map fun r => match r.1 with
    | .exit j => bif j == 0 then (.norm, r.2) else (.exit j, r.2)
    | e => (e, r.2) := run_block (annT 25) c25_8 s 0
@[cbv_eval] theorem r_n25_5 (s : S) : n25_5 s = (n25_6 s).bind fun r => match r.1 with
    | .norm => n25_7 r.2
    | e => some (e, r.2) := run_seq (annT 25) c25_6 c25_7 s
@[cbv_eval] theorem r_n25_96 (s : S) : n25_96 s = (stepsO X (annT 25) C (gO c25_96) (gO c25_96).toList s).map fun s' => (.norm, behindS (annT 25) 32 s') := run_region (annT 25) s 32 (gO c25_96) false rfl
@[cbv_eval] theorem r_n25_97 (s : S) : n25_97 s = some (.ret, s) := run_ret (annT 25) s
@[cbv_eval] theorem r_n25_95 (s : S) : n25_95 s = (n25_96 s).bind fun r => match r.1 with
    | .norm => n25_97 r.2
    | e => some (e, r.2) := run_seq (annT 25) c25_96 c25_97 s
@[cbv_eval] theorem r_n25_4 (s : S) : n25_4 s = (n25_5 s).bind fun r => match r.1 with
    | .norm => n25_95 r.2
    | e => some (e, r.2) := run_seq (annT 25) c25_5 c25_95 s
@[cbv_eval] theorem r_n25_2 (s : S) : n25_2 s = (n25_3 s).bind fun r => match r.1 with
    | .norm => n25_4 r.2
    | e => some (e, r.2) := run_seq (annT 25) c25_3 c25_4 s
@[cbv_eval] theorem r_n25_0 (s : S) : n25_0 s = (n25_1 s).bind fun r => match r.1 with
    | .norm => n25_2 r.2
    | e => some (e, r.2) := run_seq (annT 25) c25_1 c25_2 s
theorem p25 (ds : List D) : pureCall C 25 ds = ((n25_0 ⟨argsT 0 (ds.map .d), []⟩).bind (bodyR [.cell 2 32])).bind prOf := P_eq Try.f25 rfl rfl rfl rfl ds
theorem q25 (vs : List AV) (st : Store) : C 25 vs st = (n25_0 ⟨argsT 0 vs, st⟩).bind (bodyR [.cell 2 32]) := C_eq Try.f25 rfl rfl rfl rfl vs st

@[cbv_eval] theorem ann_10 : annT 10 = { keep := [(0, [1, 2]), (1, [1, 2, 4]), (2, [1, 2, 4, 8]), (3, [2, 3]), (4, [2, 3])], loops := [] } := rfl
noncomputable def c10_0 : Code := Try.f10.body.getD .skip
noncomputable def n10_0 (s : S) : Option (Ex × S) := run (annT 10) c10_0 s
noncomputable def c10_1 : Code := gL c10_0
noncomputable def n10_1 (s : S) : Option (Ex × S) := run (annT 10) c10_1 s
noncomputable def c10_2 : Code := gR c10_0
noncomputable def n10_2 (s : S) : Option (Ex × S) := run (annT 10) c10_2 s
noncomputable def c10_3 : Code := gL c10_2
noncomputable def n10_3 (s : S) : Option (Ex × S) := run (annT 10) c10_3 s
noncomputable def c10_4 : Code := gR c10_2
noncomputable def n10_4 (s : S) : Option (Ex × S) := run (annT 10) c10_4 s
noncomputable def c10_5 : Code := gL c10_4
noncomputable def n10_5 (s : S) : Option (Ex × S) := run (annT 10) c10_5 s
noncomputable def c10_6 : Code := gL c10_5
noncomputable def n10_6 (s : S) : Option (Ex × S) := run (annT 10) c10_6 s
noncomputable def c10_7 : Code := gR c10_5
noncomputable def n10_7 (s : S) : Option (Ex × S) := run (annT 10) c10_7 s
noncomputable def c10_8 : Code := gT c10_7
noncomputable def n10_8 (s : S) : Option (Ex × S) := run (annT 10) c10_8 s
noncomputable def c10_9 : Code := gL c10_8
noncomputable def n10_9 (s : S) : Option (Ex × S) := run (annT 10) c10_9 s
noncomputable def c10_10 : Code := gR c10_8
noncomputable def n10_10 (s : S) : Option (Ex × S) := run (annT 10) c10_10 s
noncomputable def c10_11 : Code := gF c10_7
noncomputable def n10_11 (s : S) : Option (Ex × S) := run (annT 10) c10_11 s
noncomputable def c10_12 : Code := gR c10_4
noncomputable def n10_12 (s : S) : Option (Ex × S) := run (annT 10) c10_12 s
noncomputable def c10_13 : Code := gL c10_12
noncomputable def n10_13 (s : S) : Option (Ex × S) := run (annT 10) c10_13 s
noncomputable def c10_14 : Code := gR c10_12
noncomputable def n10_14 (s : S) : Option (Ex × S) := run (annT 10) c10_14 s
attribute [cbv_opaque] n10_0 n10_1 n10_2 n10_3 n10_4 n10_5 n10_6 n10_7 n10_8 n10_9 n10_10 n10_11 n10_12 n10_13 n10_14
@[cbv_eval] theorem r_n10_1 (s : S) : n10_1 s = (stepsO X (annT 10) C (gO c10_1) (gO c10_1).toList s).map fun s' => (.norm, behindS (annT 10) 0 s') := run_region (annT 10) s 0 (gO c10_1) false rfl
@[cbv_eval] theorem r_n10_3 (s : S) : n10_3 s = (stepsO X (annT 10) C (gO c10_3) (gO c10_3).toList s).map fun s' => (.norm, behindS (annT 10) 1 s') := run_region (annT 10) s 1 (gO c10_3) false rfl
@[cbv_eval] theorem r_n10_6 (s : S) : n10_6 s = (stepsO X (annT 10) C (gO c10_6) (gO c10_6).toList s).map fun s' => (.norm, behindS (annT 10) 2 s') := run_region (annT 10) s 2 (gO c10_6) false rfl
@[cbv_eval] theorem r_n10_9 (s : S) : n10_9 s = (stepsO X (annT 10) C (gO c10_9) (gO c10_9).toList s).map fun s' => (.norm, behindS (annT 10) 3 s') := run_region (annT 10) s 3 (gO c10_9) false rfl
@[cbv_eval] theorem r_n10_10 (s : S) : n10_10 s = some (.ret, s) := run_ret (annT 10) s
@[cbv_eval] theorem r_n10_8 (s : S) : n10_8 s = (n10_9 s).bind fun r => match r.1 with
    | .norm => n10_10 r.2
    | e => some (e, r.2) := run_seq (annT 10) c10_9 c10_10 s
@[cbv_eval] theorem r_n10_11 (s : S) : n10_11 s = some (.norm, s) := run_skip (annT 10) s
@[cbv_eval] theorem r_n10_7 (s : S) : n10_7 s = (asB (opv s.t (gC c10_7))).bind fun t => bif t then n10_8 s else n10_11 s := run_cond (annT 10) c10_8 c10_11 s (gC c10_7)
@[cbv_eval] theorem r_n10_5 (s : S) : n10_5 s = (n10_6 s).bind fun r => match r.1 with
    | .norm => n10_7 r.2
    | e => some (e, r.2) := run_seq (annT 10) c10_6 c10_7 s
@[cbv_eval] theorem r_n10_13 (s : S) : n10_13 s = (stepsO X (annT 10) C (gO c10_13) (gO c10_13).toList s).map fun s' => (.norm, behindS (annT 10) 4 s') := run_region (annT 10) s 4 (gO c10_13) false rfl
@[cbv_eval] theorem r_n10_14 (s : S) : n10_14 s = some (.ret, s) := run_ret (annT 10) s
@[cbv_eval] theorem r_n10_12 (s : S) : n10_12 s = (n10_13 s).bind fun r => match r.1 with
    | .norm => n10_14 r.2
    | e => some (e, r.2) := run_seq (annT 10) c10_13 c10_14 s
@[cbv_eval] theorem r_n10_4 (s : S) : n10_4 s = (n10_5 s).bind fun r => match r.1 with
    | .norm => n10_12 r.2
    | e => some (e, r.2) := run_seq (annT 10) c10_5 c10_12 s
@[cbv_eval] theorem r_n10_2 (s : S) : n10_2 s = (n10_3 s).bind fun r => match r.1 with
    | .norm => n10_4 r.2
    | e => some (e, r.2) := run_seq (annT 10) c10_3 c10_4 s
@[cbv_eval] theorem r_n10_0 (s : S) : n10_0 s = (n10_1 s).bind fun r => match r.1 with
    | .norm => n10_2 r.2
    | e => some (e, r.2) := run_seq (annT 10) c10_1 c10_2 s
theorem p10 (ds : List D) : pureCall C 10 ds = ((n10_0 ⟨argsT 0 (ds.map .d), []⟩).bind (bodyR [.cell 2 32, .tmp 3])).bind prOf := P_eq Try.f10 rfl rfl rfl rfl ds
theorem q10 (vs : List AV) (st : Store) : C 10 vs st = (n10_0 ⟨argsT 0 vs, st⟩).bind (bodyR [.cell 2 32, .tmp 3]) := C_eq Try.f10 rfl rfl rfl rfl vs st

@[cbv_eval] theorem ann_26 : annT 26 = { keep := [(0, [0, 1]), (1, [0, 1, 10]), (2, [4]), (3, [0, 1, 5]), (4, [0, 1, 5, 14]), (5, [0, 1, 5]), (6, [0, 1, 5, 26]), (7, [4]), (8, [4])], loops := [(4, [0, 1, 5])] } := rfl
noncomputable def c26_0 : Code := Try.f26.body.getD .skip
noncomputable def n26_0 (s : S) : Option (Ex × S) := run (annT 26) c26_0 s
noncomputable def c26_1 : Code := gL c26_0
noncomputable def n26_1 (s : S) : Option (Ex × S) := run (annT 26) c26_1 s
noncomputable def c26_2 : Code := gR c26_0
noncomputable def n26_2 (s : S) : Option (Ex × S) := run (annT 26) c26_2 s
noncomputable def c26_3 : Code := gL c26_2
noncomputable def n26_3 (s : S) : Option (Ex × S) := run (annT 26) c26_3 s
noncomputable def c26_4 : Code := gL c26_3
noncomputable def n26_4 (s : S) : Option (Ex × S) := run (annT 26) c26_4 s
noncomputable def c26_5 : Code := gR c26_3
noncomputable def n26_5 (s : S) : Option (Ex × S) := run (annT 26) c26_5 s
noncomputable def c26_6 : Code := gT c26_5
noncomputable def n26_6 (s : S) : Option (Ex × S) := run (annT 26) c26_6 s
noncomputable def c26_7 : Code := gL c26_6
noncomputable def n26_7 (s : S) : Option (Ex × S) := run (annT 26) c26_7 s
noncomputable def c26_8 : Code := gR c26_6
noncomputable def n26_8 (s : S) : Option (Ex × S) := run (annT 26) c26_8 s
noncomputable def c26_9 : Code := gF c26_5
noncomputable def n26_9 (s : S) : Option (Ex × S) := run (annT 26) c26_9 s
noncomputable def c26_10 : Code := gR c26_2
noncomputable def n26_10 (s : S) : Option (Ex × S) := run (annT 26) c26_10 s
noncomputable def c26_11 : Code := gL c26_10
noncomputable def n26_11 (s : S) : Option (Ex × S) := run (annT 26) c26_11 s
noncomputable def c26_12 : Code := gL c26_11
noncomputable def n26_12 (s : S) : Option (Ex × S) := run (annT 26) c26_12 s
noncomputable def c26_13 : Code := gR c26_11
noncomputable def n26_13 (s : S) : Option (Ex × S) := run (annT 26) c26_13 s
noncomputable def c26_14 : Code := gB c26_13
noncomputable def n26_14 (s : S) : Option (Ex × S) := run (annT 26) c26_14 s
noncomputable def c26_15 : Code := gB c26_14
noncomputable def n26_15 (s : S) : Option (Ex × S) := run (annT 26) c26_15 s
noncomputable def c26_16 : Code := gL c26_15
noncomputable def n26_16 (s : S) : Option (Ex × S) := run (annT 26) c26_16 s
noncomputable def c26_17 : Code := gL c26_16
noncomputable def n26_17 (s : S) : Option (Ex × S) := run (annT 26) c26_17 s
noncomputable def c26_18 : Code := gR c26_16
noncomputable def n26_18 (s : S) : Option (Ex × S) := run (annT 26) c26_18 s
noncomputable def c26_19 : Code := gT c26_18
noncomputable def n26_19 (s : S) : Option (Ex × S) := run (annT 26) c26_19 s
noncomputable def c26_20 : Code := gF c26_18
noncomputable def n26_20 (s : S) : Option (Ex × S) := run (annT 26) c26_20 s
noncomputable def c26_21 : Code := gR c26_15
noncomputable def n26_21 (s : S) : Option (Ex × S) := run (annT 26) c26_21 s
noncomputable def c26_22 : Code := gL c26_21
noncomputable def n26_22 (s : S) : Option (Ex × S) := run (annT 26) c26_22 s
noncomputable def c26_23 : Code := gB c26_22
noncomputable def n26_23 (s : S) : Option (Ex × S) := run (annT 26) c26_23 s
noncomputable def c26_24 : Code := gL c26_23
noncomputable def n26_24 (s : S) : Option (Ex × S) := run (annT 26) c26_24 s
noncomputable def c26_25 : Code := gR c26_23
noncomputable def n26_25 (s : S) : Option (Ex × S) := run (annT 26) c26_25 s
noncomputable def c26_26 : Code := gT c26_25
noncomputable def n26_26 (s : S) : Option (Ex × S) := run (annT 26) c26_26 s
noncomputable def c26_27 : Code := gL c26_26
noncomputable def n26_27 (s : S) : Option (Ex × S) := run (annT 26) c26_27 s
noncomputable def c26_28 : Code := gR c26_26
noncomputable def n26_28 (s : S) : Option (Ex × S) := run (annT 26) c26_28 s
noncomputable def c26_29 : Code := gF c26_25
noncomputable def n26_29 (s : S) : Option (Ex × S) := run (annT 26) c26_29 s
noncomputable def c26_30 : Code := gR c26_21
noncomputable def n26_30 (s : S) : Option (Ex × S) := run (annT 26) c26_30 s
noncomputable def c26_31 : Code := gR c26_10
noncomputable def n26_31 (s : S) : Option (Ex × S) := run (annT 26) c26_31 s
noncomputable def c26_32 : Code := gL c26_31
noncomputable def n26_32 (s : S) : Option (Ex × S) := run (annT 26) c26_32 s
noncomputable def c26_33 : Code := gR c26_31
noncomputable def n26_33 (s : S) : Option (Ex × S) := run (annT 26) c26_33 s
attribute [cbv_opaque] n26_0 n26_1 n26_2 n26_3 n26_4 n26_5 n26_6 n26_7 n26_8 n26_9 n26_10 n26_11 n26_12 n26_13 n26_14 n26_15 n26_16 n26_17 n26_18 n26_19 n26_20 n26_21 n26_22 n26_23 n26_24 n26_25 n26_26 n26_27 n26_28 n26_29 n26_30 n26_31 n26_32 n26_33
@[cbv_eval] theorem r_n26_1 (s : S) : n26_1 s = (stepsO X (annT 26) C (gO c26_1) (gO c26_1).toList s).map fun s' => (.norm, behindS (annT 26) 0 s') := run_region (annT 26) s 0 (gO c26_1) false rfl
@[cbv_eval] theorem r_n26_4 (s : S) : n26_4 s = (stepsO X (annT 26) C (gO c26_4) (gO c26_4).toList s).map fun s' => (.norm, behindS (annT 26) 1 s') := run_region (annT 26) s 1 (gO c26_4) false rfl
@[cbv_eval] theorem r_n26_7 (s : S) : n26_7 s = (stepsO X (annT 26) C (gO c26_7) (gO c26_7).toList s).map fun s' => (.norm, behindS (annT 26) 2 s') := run_region (annT 26) s 2 (gO c26_7) false rfl
@[cbv_eval] theorem r_n26_8 (s : S) : n26_8 s = some (.ret, s) := run_ret (annT 26) s
@[cbv_eval] theorem r_n26_6 (s : S) : n26_6 s = (n26_7 s).bind fun r => match r.1 with
    | .norm => n26_8 r.2
    | e => some (e, r.2) := run_seq (annT 26) c26_7 c26_8 s
@[cbv_eval] theorem r_n26_9 (s : S) : n26_9 s = some (.norm, s) := run_skip (annT 26) s
@[cbv_eval] theorem r_n26_5 (s : S) : n26_5 s = (asB (opv s.t (gC c26_5))).bind fun t => bif t then n26_6 s else n26_9 s := run_cond (annT 26) c26_6 c26_9 s (gC c26_5)
@[cbv_eval] theorem r_n26_3 (s : S) : n26_3 s = (n26_4 s).bind fun r => match r.1 with
    | .norm => n26_5 r.2
    | e => some (e, r.2) := run_seq (annT 26) c26_4 c26_5 s
@[cbv_eval] theorem r_n26_12 (s : S) : n26_12 s = (stepsO X (annT 26) C (gO c26_12) (gO c26_12).toList s).map fun s' => (.norm, behindS (annT 26) 3 s') := run_region (annT 26) s 3 (gO c26_12) false rfl
@[cbv_eval] theorem r_n26_17 (s : S) : n26_17 s = (stepsO X (annT 26) C (gO c26_17) (gO c26_17).toList s).map fun s' => (.norm, behindS (annT 26) 4 s') := run_region (annT 26) s 4 (gO c26_17) false rfl
@[cbv_eval] theorem r_n26_19 (s : S) : n26_19 s = some (.norm, s) := run_skip (annT 26) s
@[cbv_eval] theorem r_n26_20 (s : S) : n26_20 s = some (.exit 0, s) := run_exit (annT 26) s 0
@[cbv_eval] theorem r_n26_18 (s : S) : n26_18 s = (asB (opv s.t (gC c26_18))).bind fun t => bif t then n26_19 s else n26_20 s := run_cond (annT 26) c26_19 c26_20 s (gC c26_18)
@[cbv_eval] theorem r_n26_16 (s : S) : n26_16 s = (n26_17 s).bind fun r => match r.1 with
    | .norm => n26_18 r.2
    | e => some (e, r.2) := run_seq (annT 26) c26_17 c26_18 s
@[cbv_eval] theorem r_n26_24 (s : S) : n26_24 s = (stepsO X (annT 26) C (gO c26_24) (gO c26_24).toList s).map fun s' => (.norm, behindS (annT 26) 6 s') := run_region (annT 26) s 6 (gO c26_24) true rfl
@[cbv_eval] theorem r_n26_27 (s : S) : n26_27 s = (stepsO X (annT 26) C (gO c26_27) (gO c26_27).toList s).map fun s' => (.norm, behindS (annT 26) 7 s') := run_region (annT 26) s 7 (gO c26_27) false rfl
@[cbv_eval] theorem r_n26_28 (s : S) : n26_28 s = some (.ret, s) := run_ret (annT 26) s
@[cbv_eval] theorem r_n26_26 (s : S) : n26_26 s = (n26_27 s).bind fun r => match r.1 with
    | .norm => n26_28 r.2
    | e => some (e, r.2) := run_seq (annT 26) c26_27 c26_28 s
@[cbv_eval] theorem r_n26_29 (s : S) : n26_29 s = some (.norm, s) := run_skip (annT 26) s
@[cbv_eval] theorem r_n26_25 (s : S) : n26_25 s = (asB (opv s.t (gC c26_25))).bind fun t => bif t then n26_26 s else n26_29 s := run_cond (annT 26) c26_26 c26_29 s (gC c26_25)
@[cbv_eval] theorem r_n26_23 (s : S) : n26_23 s = (n26_24 s).bind fun r => match r.1 with
    | .norm => n26_25 r.2
    | e => some (e, r.2) := run_seq (annT 26) c26_24 c26_25 s
@[cbv_eval] theorem r_n26_22 (s : S) : n26_22 s = (n26_23 s).map fun r => match r.1 with
    | .exit j => bif j == 1 then (.norm, r.2) else (.exit j, r.2)
    | e => (e, r.2) := run_block (annT 26) c26_23 s 1
@[cbv_eval] theorem r_n26_30 (s : S) : n26_30 s = (stepsO X (annT 26) C (gO c26_30) (gO c26_30).toList s).map fun s' => (.norm, behindS (annT 26) 5 s') := run_region (annT 26) s 5 (gO c26_30) false rfl
@[cbv_eval] theorem r_n26_21 (s : S) : n26_21 s = (n26_22 s).bind fun r => match r.1 with
    | .norm => n26_30 r.2
    | e => some (e, r.2) := run_seq (annT 26) c26_22 c26_30 s
@[cbv_eval] theorem r_n26_15 (s : S) : n26_15 s = (n26_16 s).bind fun r => match r.1 with
    | .norm => n26_21 r.2
    | e => some (e, r.2) := run_seq (annT 26) c26_16 c26_21 s
theorem r_n26_14 (s : S) : n26_14 s = (n26_15 s).bind fun r => match r.1 with
    | .norm => n26_14 (headS (annT 26) c26_15 s.st.length r.2)
    | e => some (e, r.2) := run_loop (annT 26) c26_15 s
@[cbv_eval] theorem r_n26_13 (s : S) : n26_13 s = (n26_14 s).map fun r => match r.1 with
    | .exit j => bif j == 0 then (.norm, r.2) else (.exit j, r.2)
    | e => (e, r.2) := run_block (annT 26) c26_14 s 0
@[cbv_eval] theorem r_n26_11 (s : S) : n26_11 s = (n26_12 s).bind fun r => match r.1 with
    | .norm => n26_13 r.2
    | e => some (e, r.2) := run_seq (annT 26) c26_12 c26_13 s
@[cbv_eval] theorem r_n26_32 (s : S) : n26_32 s = (stepsO X (annT 26) C (gO c26_32) (gO c26_32).toList s).map fun s' => (.norm, behindS (annT 26) 8 s') := run_region (annT 26) s 8 (gO c26_32) false rfl
@[cbv_eval] theorem r_n26_33 (s : S) : n26_33 s = some (.ret, s) := run_ret (annT 26) s
@[cbv_eval] theorem r_n26_31 (s : S) : n26_31 s = (n26_32 s).bind fun r => match r.1 with
    | .norm => n26_33 r.2
    | e => some (e, r.2) := run_seq (annT 26) c26_32 c26_33 s
@[cbv_eval] theorem r_n26_10 (s : S) : n26_10 s = (n26_11 s).bind fun r => match r.1 with
    | .norm => n26_31 r.2
    | e => some (e, r.2) := run_seq (annT 26) c26_11 c26_31 s
@[cbv_eval] theorem r_n26_2 (s : S) : n26_2 s = (n26_3 s).bind fun r => match r.1 with
    | .norm => n26_10 r.2
    | e => some (e, r.2) := run_seq (annT 26) c26_3 c26_10 s
@[cbv_eval] theorem r_n26_0 (s : S) : n26_0 s = (n26_1 s).bind fun r => match r.1 with
    | .norm => n26_2 r.2
    | e => some (e, r.2) := run_seq (annT 26) c26_1 c26_2 s
theorem p26 (ds : List D) : pureCall C 26 ds = ((n26_0 ⟨argsT 0 (ds.map .d), []⟩).bind (bodyR [.tmp 4])).bind prOf := P_eq Try.f26 rfl rfl rfl rfl ds
theorem q26 (vs : List AV) (st : Store) : C 26 vs st = (n26_0 ⟨argsT 0 vs, st⟩).bind (bodyR [.tmp 4]) := C_eq Try.f26 rfl rfl rfl rfl vs st

@[cbv_eval] theorem ann_11 : annT 11 = { keep := [(0, [2, 3]), (1, [4])], loops := [] } := rfl
noncomputable def c11_0 : Code := Try.f11.body.getD .skip
noncomputable def n11_0 (s : S) : Option (Ex × S) := run (annT 11) c11_0 s
noncomputable def c11_1 : Code := gL c11_0
noncomputable def n11_1 (s : S) : Option (Ex × S) := run (annT 11) c11_1 s
noncomputable def c11_2 : Code := gR c11_0
noncomputable def n11_2 (s : S) : Option (Ex × S) := run (annT 11) c11_2 s
noncomputable def c11_3 : Code := gL c11_2
noncomputable def n11_3 (s : S) : Option (Ex × S) := run (annT 11) c11_3 s
noncomputable def c11_4 : Code := gR c11_2
noncomputable def n11_4 (s : S) : Option (Ex × S) := run (annT 11) c11_4 s
attribute [cbv_opaque] n11_0 n11_1 n11_2 n11_3 n11_4
@[cbv_eval] theorem r_n11_1 (s : S) : n11_1 s = (stepsO X (annT 11) C (gO c11_1) (gO c11_1).toList s).map fun s' => (.norm, behindS (annT 11) 0 s') := run_region (annT 11) s 0 (gO c11_1) false rfl
@[cbv_eval] theorem r_n11_3 (s : S) : n11_3 s = (stepsO X (annT 11) C (gO c11_3) (gO c11_3).toList s).map fun s' => (.norm, behindS (annT 11) 1 s') := run_region (annT 11) s 1 (gO c11_3) false rfl
@[cbv_eval] theorem r_n11_4 (s : S) : n11_4 s = some (.ret, s) := run_ret (annT 11) s
@[cbv_eval] theorem r_n11_2 (s : S) : n11_2 s = (n11_3 s).bind fun r => match r.1 with
    | .norm => n11_4 r.2
    | e => some (e, r.2) := run_seq (annT 11) c11_3 c11_4 s
@[cbv_eval] theorem r_n11_0 (s : S) : n11_0 s = (n11_1 s).bind fun r => match r.1 with
    | .norm => n11_2 r.2
    | e => some (e, r.2) := run_seq (annT 11) c11_1 c11_2 s
theorem p11 (ds : List D) : pureCall C 11 ds = ((n11_0 ⟨argsT 0 (ds.map .d), []⟩).bind (bodyR [.tmp 4])).bind prOf := P_eq Try.f11 rfl rfl rfl rfl ds
theorem q11 (vs : List AV) (st : Store) : C 11 vs st = (n11_0 ⟨argsT 0 vs, st⟩).bind (bodyR [.tmp 4]) := C_eq Try.f11 rfl rfl rfl rfl vs st

@[cbv_eval] theorem ann_7 : annT 7 = { keep := [(0, [1, 2]), (1, [1, 2]), (2, [1, 2, 5]), (3, [1, 2, 39]), (4, [4]), (5, [1, 2, 6]), (6, [1, 2, 6, 45]), (7, [1, 2, 6]), (8, [1, 2, 6, 55]), (9, [4]), (10, [1, 2, 7]), (11, [1, 2, 7, 64]), (12, [1, 2, 7]), (13, [1, 2, 7]), (14, [4])], loops := [(6, [1, 2, 6]), (11, [1, 2, 7])] } := rfl
noncomputable def c7_0 : Code := Try.f7.body.getD .skip
noncomputable def n7_0 (s : S) : Option (Ex × S) := run (annT 7) c7_0 s
noncomputable def c7_1 : Code := gL c7_0
noncomputable def n7_1 (s : S) : Option (Ex × S) := run (annT 7) c7_1 s
noncomputable def c7_2 : Code := gR c7_0
noncomputable def n7_2 (s : S) : Option (Ex × S) := run (annT 7) c7_2 s
noncomputable def c7_3 : Code := gL c7_2
noncomputable def n7_3 (s : S) : Option (Ex × S) := run (annT 7) c7_3 s
noncomputable def c7_4 : Code := gR c7_2
noncomputable def n7_4 (s : S) : Option (Ex × S) := run (annT 7) c7_4 s
noncomputable def c7_5 : Code := gL c7_4
noncomputable def n7_5 (s : S) : Option (Ex × S) := run (annT 7) c7_5 s
noncomputable def c7_6 : Code := gR c7_4
noncomputable def n7_6 (s : S) : Option (Ex × S) := run (annT 7) c7_6 s
noncomputable def c7_7 : Code := gL c7_6
noncomputable def n7_7 (s : S) : Option (Ex × S) := run (annT 7) c7_7 s
noncomputable def c7_8 : Code := gL c7_7
noncomputable def n7_8 (s : S) : Option (Ex × S) := run (annT 7) c7_8 s
noncomputable def c7_9 : Code := gR c7_7
noncomputable def n7_9 (s : S) : Option (Ex × S) := run (annT 7) c7_9 s
noncomputable def c7_10 : Code := gT c7_9
noncomputable def n7_10 (s : S) : Option (Ex × S) := run (annT 7) c7_10 s
noncomputable def c7_11 : Code := gL c7_10
noncomputable def n7_11 (s : S) : Option (Ex × S) := run (annT 7) c7_11 s
noncomputable def c7_12 : Code := gR c7_10
noncomputable def n7_12 (s : S) : Option (Ex × S) := run (annT 7) c7_12 s
noncomputable def c7_13 : Code := gF c7_9
noncomputable def n7_13 (s : S) : Option (Ex × S) := run (annT 7) c7_13 s
noncomputable def c7_14 : Code := gR c7_6
noncomputable def n7_14 (s : S) : Option (Ex × S) := run (annT 7) c7_14 s
noncomputable def c7_15 : Code := gL c7_14
noncomputable def n7_15 (s : S) : Option (Ex × S) := run (annT 7) c7_15 s
noncomputable def c7_16 : Code := gL c7_15
noncomputable def n7_16 (s : S) : Option (Ex × S) := run (annT 7) c7_16 s
noncomputable def c7_17 : Code := gR c7_15
noncomputable def n7_17 (s : S) : Option (Ex × S) := run (annT 7) c7_17 s
noncomputable def c7_18 : Code := gB c7_17
noncomputable def n7_18 (s : S) : Option (Ex × S) := run (annT 7) c7_18 s
noncomputable def c7_19 : Code := gB c7_18
noncomputable def n7_19 (s : S) : Option (Ex × S) := run (annT 7) c7_19 s
noncomputable def c7_20 : Code := gL c7_19
noncomputable def n7_20 (s : S) : Option (Ex × S) := run (annT 7) c7_20 s
noncomputable def c7_21 : Code := gL c7_20
noncomputable def n7_21 (s : S) : Option (Ex × S) := run (annT 7) c7_21 s
noncomputable def c7_22 : Code := gR c7_20
noncomputable def n7_22 (s : S) : Option (Ex × S) := run (annT 7) c7_22 s
noncomputable def c7_23 : Code := gT c7_22
noncomputable def n7_23 (s : S) : Option (Ex × S) := run (annT 7) c7_23 s
noncomputable def c7_24 : Code := gF c7_22
noncomputable def n7_24 (s : S) : Option (Ex × S) := run (annT 7) c7_24 s
noncomputable def c7_25 : Code := gR c7_19
noncomputable def n7_25 (s : S) : Option (Ex × S) := run (annT 7) c7_25 s
noncomputable def c7_26 : Code := gL c7_25
noncomputable def n7_26 (s : S) : Option (Ex × S) := run (annT 7) c7_26 s
noncomputable def c7_27 : Code := gB c7_26
noncomputable def n7_27 (s : S) : Option (Ex × S) := run (annT 7) c7_27 s
noncomputable def c7_28 : Code := gL c7_27
noncomputable def n7_28 (s : S) : Option (Ex × S) := run (annT 7) c7_28 s
noncomputable def c7_29 : Code := gR c7_27
noncomputable def n7_29 (s : S) : Option (Ex × S) := run (annT 7) c7_29 s
noncomputable def c7_30 : Code := gT c7_29
noncomputable def n7_30 (s : S) : Option (Ex × S) := run (annT 7) c7_30 s
noncomputable def c7_31 : Code := gL c7_30
noncomputable def n7_31 (s : S) : Option (Ex × S) := run (annT 7) c7_31 s
noncomputable def c7_32 : Code := gR c7_30
noncomputable def n7_32 (s : S) : Option (Ex × S) := run (annT 7) c7_32 s
noncomputable def c7_33 : Code := gF c7_29
noncomputable def n7_33 (s : S) : Option (Ex × S) := run (annT 7) c7_33 s
noncomputable def c7_34 : Code := gR c7_25
noncomputable def n7_34 (s : S) : Option (Ex × S) := run (annT 7) c7_34 s
noncomputable def c7_35 : Code := gR c7_14
noncomputable def n7_35 (s : S) : Option (Ex × S) := run (annT 7) c7_35 s
noncomputable def c7_36 : Code := gL c7_35
noncomputable def n7_36 (s : S) : Option (Ex × S) := run (annT 7) c7_36 s
noncomputable def c7_37 : Code := gL c7_36
noncomputable def n7_37 (s : S) : Option (Ex × S) := run (annT 7) c7_37 s
noncomputable def c7_38 : Code := gR c7_36
noncomputable def n7_38 (s : S) : Option (Ex × S) := run (annT 7) c7_38 s
noncomputable def c7_39 : Code := gB c7_38
noncomputable def n7_39 (s : S) : Option (Ex × S) := run (annT 7) c7_39 s
noncomputable def c7_40 : Code := gB c7_39
noncomputable def n7_40 (s : S) : Option (Ex × S) := run (annT 7) c7_40 s
noncomputable def c7_41 : Code := gL c7_40
noncomputable def n7_41 (s : S) : Option (Ex × S) := run (annT 7) c7_41 s
noncomputable def c7_42 : Code := gL c7_41
noncomputable def n7_42 (s : S) : Option (Ex × S) := run (annT 7) c7_42 s
noncomputable def c7_43 : Code := gR c7_41
noncomputable def n7_43 (s : S) : Option (Ex × S) := run (annT 7) c7_43 s
noncomputable def c7_44 : Code := gT c7_43
noncomputable def n7_44 (s : S) : Option (Ex × S) := run (annT 7) c7_44 s
noncomputable def c7_45 : Code := gF c7_43
noncomputable def n7_45 (s : S) : Option (Ex × S) := run (annT 7) c7_45 s
noncomputable def c7_46 : Code := gR c7_40
noncomputable def n7_46 (s : S) : Option (Ex × S) := run (annT 7) c7_46 s
noncomputable def c7_47 : Code := gL c7_46
noncomputable def n7_47 (s : S) : Option (Ex × S) := run (annT 7) c7_47 s
noncomputable def c7_48 : Code := gB c7_47
noncomputable def n7_48 (s : S) : Option (Ex × S) := run (annT 7) c7_48 s
noncomputable def c7_49 : Code := gR c7_46
noncomputable def n7_49 (s : S) : Option (Ex × S) := run (annT 7) c7_49 s
noncomputable def c7_50 : Code := gR c7_35
noncomputable def n7_50 (s : S) : Option (Ex × S) := run (annT 7) c7_50 s
noncomputable def c7_51 : Code := gL c7_50
noncomputable def n7_51 (s : S) : Option (Ex × S) := run (annT 7) c7_51 s
noncomputable def c7_52 : Code := gR c7_50
noncomputable def n7_52 (s : S) : Option (Ex × S) := run (annT 7) c7_52 s
attribute [cbv_opaque] n7_0 n7_1 n7_2 n7_3 n7_4 n7_5 n7_6 n7_7 n7_8 n7_9 n7_10 n7_11 n7_12 n7_13 n7_14 n7_15 n7_16 n7_17 n7_18 n7_19 n7_20 n7_21 n7_22 n7_23 n7_24 n7_25 n7_26 n7_27 n7_28 n7_29 n7_30 n7_31 n7_32 n7_33 n7_34 n7_35 n7_36 n7_37 n7_38 n7_39 n7_40 n7_41 n7_42 n7_43 n7_44 n7_45 n7_46 n7_47 n7_48 n7_49 n7_50 n7_51 n7_52
@[cbv_eval] theorem r_n7_1 (s : S) : n7_1 s = (stepsO X (annT 7) C (gO c7_1) (gO c7_1).toList s).map fun s' => (.norm, behindS (annT 7) 0 s') := run_region (annT 7) s 0 (gO c7_1) false rfl
@[cbv_eval] theorem r_n7_3 (s : S) : n7_3 s = (stepsO X (annT 7) C (gO c7_3) (gO c7_3).toList s).map fun s' => (.norm, behindS (annT 7) 1 s') := run_region (annT 7) s 1 (gO c7_3) false rfl
@[cbv_eval] theorem r_n7_5 (s : S) : n7_5 s = (stepsO X (annT 7) C (gO c7_5) (gO c7_5).toList s).map fun s' => (.norm, behindS (annT 7) 2 s') := run_region (annT 7) s 2 (gO c7_5) false rfl
@[cbv_eval] theorem r_n7_8 (s : S) : n7_8 s = (stepsO X (annT 7) C (gO c7_8) (gO c7_8).toList s).map fun s' => (.norm, behindS (annT 7) 3 s') := run_region (annT 7) s 3 (gO c7_8) false rfl
@[cbv_eval] theorem r_n7_11 (s : S) : n7_11 s = (stepsO X (annT 7) C (gO c7_11) (gO c7_11).toList s).map fun s' => (.norm, behindS (annT 7) 4 s') := run_region (annT 7) s 4 (gO c7_11) false rfl
@[cbv_eval] theorem r_n7_12 (s : S) : n7_12 s = some (.ret, s) := run_ret (annT 7) s
@[cbv_eval] theorem r_n7_10 (s : S) : n7_10 s = (n7_11 s).bind fun r => match r.1 with
    | .norm => n7_12 r.2
    | e => some (e, r.2) := run_seq (annT 7) c7_11 c7_12 s
@[cbv_eval] theorem r_n7_13 (s : S) : n7_13 s = some (.norm, s) := run_skip (annT 7) s
@[cbv_eval] theorem r_n7_9 (s : S) : n7_9 s = (asB (opv s.t (gC c7_9))).bind fun t => bif t then n7_10 s else n7_13 s := run_cond (annT 7) c7_10 c7_13 s (gC c7_9)
@[cbv_eval] theorem r_n7_7 (s : S) : n7_7 s = (n7_8 s).bind fun r => match r.1 with
    | .norm => n7_9 r.2
    | e => some (e, r.2) := run_seq (annT 7) c7_8 c7_9 s
@[cbv_eval] theorem r_n7_16 (s : S) : n7_16 s = (stepsO X (annT 7) C (gO c7_16) (gO c7_16).toList s).map fun s' => (.norm, behindS (annT 7) 5 s') := run_region (annT 7) s 5 (gO c7_16) false rfl
@[cbv_eval] theorem r_n7_21 (s : S) : n7_21 s = (stepsO X (annT 7) C (gO c7_21) (gO c7_21).toList s).map fun s' => (.norm, behindS (annT 7) 6 s') := run_region (annT 7) s 6 (gO c7_21) false rfl
@[cbv_eval] theorem r_n7_23 (s : S) : n7_23 s = some (.norm, s) := run_skip (annT 7) s
@[cbv_eval] theorem r_n7_24 (s : S) : n7_24 s = some (.exit 0, s) := run_exit (annT 7) s 0
@[cbv_eval] theorem r_n7_22 (s : S) : n7_22 s = (asB (opv s.t (gC c7_22))).bind fun t => bif t then n7_23 s else n7_24 s := run_cond (annT 7) c7_23 c7_24 s (gC c7_22)
@[cbv_eval] theorem r_n7_20 (s : S) : n7_20 s = (n7_21 s).bind fun r => match r.1 with
    | .norm => n7_22 r.2
    | e => some (e, r.2) := run_seq (annT 7) c7_21 c7_22 s
@[cbv_eval] theorem r_n7_28 (s : S) : n7_28 s = (stepsO X (annT 7) C (gO c7_28) (gO c7_28).toList s).map fun s' => (.norm, behindS (annT 7) 8 s') := run_region (annT 7) s 8 (gO c7_28) false rfl
@[cbv_eval] theorem r_n7_31 (s : S) : n7_31 s = (stepsO X (annT 7) C (gO c7_31) (gO c7_31).toList s).map fun s' => (.norm, behindS (annT 7) 9 s') := run_region (annT 7) s 9 (gO c7_31) false rfl
@[cbv_eval] theorem r_n7_32 (s : S) : n7_32 s = some (.ret, s) := run_ret (annT 7) s
@[cbv_eval] theorem r_n7_30 (s : S) : n7_30 s = (n7_31 s).bind fun r => match r.1 with
    | .norm => n7_32 r.2
    | e => some (e, r.2) := run_seq (annT 7) c7_31 c7_32 s
@[cbv_eval] theorem r_n7_33 (s : S) : n7_33 s = some (.norm, s) := run_skip (annT 7) s
@[cbv_eval] theorem r_n7_29 (s : S) : n7_29 s = (asB (opv s.t (gC c7_29))).bind fun t => bif t then n7_30 s else n7_33 s := run_cond (annT 7) c7_30 c7_33 s (gC c7_29)
@[cbv_eval] theorem r_n7_27 (s : S) : n7_27 s = (n7_28 s).bind fun r => match r.1 with
    | .norm => n7_29 r.2
    | e => some (e, r.2) := run_seq (annT 7) c7_28 c7_29 s
@[cbv_eval] theorem r_n7_26 (s : S) : n7_26 s = (n7_27 s).map fun r => match r.1 with
    | .exit j => bif j == 1 then (.norm, r.2) else (.exit j, r.2)
    | e => (e, r.2) := run_block (annT 7) c7_27 s 1
@[cbv_eval] theorem r_n7_34 (s : S) : n7_34 s = (stepsO X (annT 7) C (gO c7_34) (gO c7_34).toList s).map fun s' => (.norm, behindS (annT 7) 7 s') := run_region (annT 7) s 7 (gO c7_34) false rfl
@[cbv_eval] theorem r_n7_25 (s : S) : n7_25 s = (n7_26 s).bind fun r => match r.1 with
    | .norm => n7_34 r.2
    | e => some (e, r.2) := run_seq (annT 7) c7_26 c7_34 s
@[cbv_eval] theorem r_n7_19 (s : S) : n7_19 s = (n7_20 s).bind fun r => match r.1 with
    | .norm => n7_25 r.2
    | e => some (e, r.2) := run_seq (annT 7) c7_20 c7_25 s
theorem r_n7_18 (s : S) : n7_18 s = (n7_19 s).bind fun r => match r.1 with
    | .norm => n7_18 (headS (annT 7) c7_19 s.st.length r.2)
    | e => some (e, r.2) := run_loop (annT 7) c7_19 s
@[cbv_eval] theorem r_n7_17 (s : S) : n7_17 s = (n7_18 s).map fun r => match r.1 with
    | .exit j => bif j == 0 then (.norm, r.2) else (.exit j, r.2)
    | e => (e, r.2) := run_block (annT 7) c7_18 s 0
@[cbv_eval] theorem r_n7_15 (s : S) : n7_15 s = (n7_16 s).bind fun r => match r.1 with
    | .norm => n7_17 r.2
    | e => some (e, r.2) := run_seq (annT 7) c7_16 c7_17 s
@[cbv_eval] theorem r_n7_37 (s : S) : n7_37 s = (stepsO X (annT 7) C (gO c7_37) (gO c7_37).toList s).map fun s' => (.norm, behindS (annT 7) 10 s') := run_region (annT 7) s 10 (gO c7_37) false rfl
@[cbv_eval] theorem r_n7_42 (s : S) : n7_42 s = (stepsO X (annT 7) C (gO c7_42) (gO c7_42).toList s).map fun s' => (.norm, behindS (annT 7) 11 s') := run_region (annT 7) s 11 (gO c7_42) false rfl
@[cbv_eval] theorem r_n7_44 (s : S) : n7_44 s = some (.norm, s) := run_skip (annT 7) s
@[cbv_eval] theorem r_n7_45 (s : S) : n7_45 s = some (.exit 2, s) := run_exit (annT 7) s 2
@[cbv_eval] theorem r_n7_43 (s : S) : n7_43 s = (asB (opv s.t (gC c7_43))).bind fun t => bif t then n7_44 s else n7_45 s := run_cond (annT 7) c7_44 c7_45 s (gC c7_43)
@[cbv_eval] theorem r_n7_41 (s : S) : n7_41 s = (n7_42 s).bind fun r => match r.1 with
    | .norm => n7_43 r.2
    | e => some (e, r.2) := run_seq (annT 7) c7_42 c7_43 s
@[cbv_eval] theorem r_n7_48 (s : S) : n7_48 s = (stepsO X (annT 7) C (gO c7_48) (gO c7_48).toList s).map fun s' => (.norm, behindS (annT 7) 13 s') := run_region (annT 7) s 13 (gO c7_48) false rfl
@[cbv_eval] theorem r_n7_47 (s : S) : n7_47 s = (n7_48 s).map fun r => match r.1 with
    | .exit j => bif j == 3 then (.norm, r.2) else (.exit j, r.2)
    | e => (e, r.2) := run_block (annT 7) c7_48 s 3
@[cbv_eval] theorem r_n7_49 (s : S) : n7_49 s = (stepsO X (annT 7) C (gO c7_49) (gO c7_49).toList s).map fun s' => (.norm, behindS (annT 7) 12 s') := run_region (annT 7) s 12 (gO c7_49) false rfl
@[cbv_eval] theorem r_n7_46 (s : S) : n7_46 s = (n7_47 s).bind fun r => match r.1 with
    | .norm => n7_49 r.2
    | e => some (e, r.2) := run_seq (annT 7) c7_47 c7_49 s
@[cbv_eval] theorem r_n7_40 (s : S) : n7_40 s = (n7_41 s).bind fun r => match r.1 with
    | .norm => n7_46 r.2
    | e => some (e, r.2) := run_seq (annT 7) c7_41 c7_46 s
theorem r_n7_39 (s : S) : n7_39 s = (n7_40 s).bind fun r => match r.1 with
    | .norm => n7_39 (headS (annT 7) c7_40 s.st.length r.2)
    | e => some (e, r.2) := run_loop (annT 7) c7_40 s
@[cbv_eval] theorem r_n7_38 (s : S) : n7_38 s = (n7_39 s).map fun r => match r.1 with
    | .exit j => bif j == 2 then (.norm, r.2) else (.exit j, r.2)
    | e => (e, r.2) := run_block (annT 7) c7_39 s 2
@[cbv_eval] theorem r_n7_36 (s : S) : n7_36 s = (n7_37 s).bind fun r => match r.1 with
    | .norm => n7_38 r.2
    | e => some (e, r.2) := run_seq (annT 7) c7_37 c7_38 s
@[cbv_eval] theorem r_n7_51 (s : S) : n7_51 s = (stepsO X (annT 7) C (gO c7_51) (gO c7_51).toList s).map fun s' => (.norm, behindS (annT 7) 14 s') := run_region (annT 7) s 14 (gO c7_51) false rfl
@[cbv_eval] theorem r_n7_52 (s : S) : n7_52 s = some (.ret, s) := run_ret (annT 7) s
@[cbv_eval] theorem r_n7_50 (s : S) : n7_50 s = (n7_51 s).bind fun r => match r.1 with
    | .norm => n7_52 r.2
    | e => some (e, r.2) := run_seq (annT 7) c7_51 c7_52 s
@[cbv_eval] theorem r_n7_35 (s : S) : n7_35 s = (n7_36 s).bind fun r => match r.1 with
    | .norm => n7_50 r.2
    | e => some (e, r.2) := run_seq (annT 7) c7_36 c7_50 s
@[cbv_eval] theorem r_n7_14 (s : S) : n7_14 s = (n7_15 s).bind fun r => match r.1 with
    | .norm => n7_35 r.2
    | e => some (e, r.2) := run_seq (annT 7) c7_15 c7_35 s
@[cbv_eval] theorem r_n7_6 (s : S) : n7_6 s = (n7_7 s).bind fun r => match r.1 with
    | .norm => n7_14 r.2
    | e => some (e, r.2) := run_seq (annT 7) c7_7 c7_14 s
@[cbv_eval] theorem r_n7_4 (s : S) : n7_4 s = (n7_5 s).bind fun r => match r.1 with
    | .norm => n7_6 r.2
    | e => some (e, r.2) := run_seq (annT 7) c7_5 c7_6 s
@[cbv_eval] theorem r_n7_2 (s : S) : n7_2 s = (n7_3 s).bind fun r => match r.1 with
    | .norm => n7_4 r.2
    | e => some (e, r.2) := run_seq (annT 7) c7_3 c7_4 s
@[cbv_eval] theorem r_n7_0 (s : S) : n7_0 s = (n7_1 s).bind fun r => match r.1 with
    | .norm => n7_2 r.2
    | e => some (e, r.2) := run_seq (annT 7) c7_1 c7_2 s
theorem p7 (ds : List D) : pureCall C 7 ds = ((n7_0 ⟨argsT 0 (ds.map .d), []⟩).bind (bodyR [.tmp 4])).bind prOf := P_eq Try.f7 rfl rfl rfl rfl ds
theorem q7 (vs : List AV) (st : Store) : C 7 vs st = (n7_0 ⟨argsT 0 vs, st⟩).bind (bodyR [.tmp 4]) := C_eq Try.f7 rfl rfl rfl rfl vs st

@[cbv_eval] theorem ann_3 : annT 3 = { keep := [(0, [1]), (1, [1, 9]), (2, [2]), (3, [1, 3, 4]), (4, [3, 4, 5, 6]), (5, [2])], loops := [] } := rfl
noncomputable def c3_0 : Code := Try.f3.body.getD .skip
noncomputable def n3_0 (s : S) : Option (Ex × S) := run (annT 3) c3_0 s
noncomputable def c3_1 : Code := gL c3_0
noncomputable def n3_1 (s : S) : Option (Ex × S) := run (annT 3) c3_1 s
noncomputable def c3_2 : Code := gR c3_0
noncomputable def n3_2 (s : S) : Option (Ex × S) := run (annT 3) c3_2 s
noncomputable def c3_3 : Code := gL c3_2
noncomputable def n3_3 (s : S) : Option (Ex × S) := run (annT 3) c3_3 s
noncomputable def c3_4 : Code := gL c3_3
noncomputable def n3_4 (s : S) : Option (Ex × S) := run (annT 3) c3_4 s
noncomputable def c3_5 : Code := gR c3_3
noncomputable def n3_5 (s : S) : Option (Ex × S) := run (annT 3) c3_5 s
noncomputable def c3_6 : Code := gT c3_5
noncomputable def n3_6 (s : S) : Option (Ex × S) := run (annT 3) c3_6 s
noncomputable def c3_7 : Code := gL c3_6
noncomputable def n3_7 (s : S) : Option (Ex × S) := run (annT 3) c3_7 s
noncomputable def c3_8 : Code := gR c3_6
noncomputable def n3_8 (s : S) : Option (Ex × S) := run (annT 3) c3_8 s
noncomputable def c3_9 : Code := gF c3_5
noncomputable def n3_9 (s : S) : Option (Ex × S) := run (annT 3) c3_9 s
noncomputable def c3_10 : Code := gR c3_2
noncomputable def n3_10 (s : S) : Option (Ex × S) := run (annT 3) c3_10 s
noncomputable def c3_11 : Code := gL c3_10
noncomputable def n3_11 (s : S) : Option (Ex × S) := run (annT 3) c3_11 s
noncomputable def c3_12 : Code := gR c3_10
noncomputable def n3_12 (s : S) : Option (Ex × S) := run (annT 3) c3_12 s
noncomputable def c3_13 : Code := gL c3_12
noncomputable def n3_13 (s : S) : Option (Ex × S) := run (annT 3) c3_13 s
noncomputable def c3_14 : Code := gR c3_12
noncomputable def n3_14 (s : S) : Option (Ex × S) := run (annT 3) c3_14 s
noncomputable def c3_15 : Code := gL c3_14
noncomputable def n3_15 (s : S) : Option (Ex × S) := run (annT 3) c3_15 s
noncomputable def c3_16 : Code := gR c3_14
noncomputable def n3_16 (s : S) : Option (Ex × S) := run (annT 3) c3_16 s
attribute [cbv_opaque] n3_0 n3_1 n3_2 n3_3 n3_4 n3_5 n3_6 n3_7 n3_8 n3_9 n3_10 n3_11 n3_12 n3_13 n3_14 n3_15 n3_16
@[cbv_eval] theorem r_n3_1 (s : S) : n3_1 s = (stepsO X (annT 3) C (gO c3_1) (gO c3_1).toList s).map fun s' => (.norm, behindS (annT 3) 0 s') := run_region (annT 3) s 0 (gO c3_1) false rfl
@[cbv_eval] theorem r_n3_4 (s : S) : n3_4 s = (stepsO X (annT 3) C (gO c3_4) (gO c3_4).toList s).map fun s' => (.norm, behindS (annT 3) 1 s') := run_region (annT 3) s 1 (gO c3_4) false rfl
@[cbv_eval] theorem r_n3_7 (s : S) : n3_7 s = (stepsO X (annT 3) C (gO c3_7) (gO c3_7).toList s).map fun s' => (.norm, behindS (annT 3) 2 s') := run_region (annT 3) s 2 (gO c3_7) false rfl
@[cbv_eval] theorem r_n3_8 (s : S) : n3_8 s = some (.ret, s) := run_ret (annT 3) s
@[cbv_eval] theorem r_n3_6 (s : S) : n3_6 s = (n3_7 s).bind fun r => match r.1 with
    | .norm => n3_8 r.2
    | e => some (e, r.2) := run_seq (annT 3) c3_7 c3_8 s
@[cbv_eval] theorem r_n3_9 (s : S) : n3_9 s = some (.norm, s) := run_skip (annT 3) s
@[cbv_eval] theorem r_n3_5 (s : S) : n3_5 s = (asB (opv s.t (gC c3_5))).bind fun t => bif t then n3_6 s else n3_9 s := run_cond (annT 3) c3_6 c3_9 s (gC c3_5)
@[cbv_eval] theorem r_n3_3 (s : S) : n3_3 s = (n3_4 s).bind fun r => match r.1 with
    | .norm => n3_5 r.2
    | e => some (e, r.2) := run_seq (annT 3) c3_4 c3_5 s
@[cbv_eval] theorem r_n3_11 (s : S) : n3_11 s = (stepsO X (annT 3) C (gO c3_11) (gO c3_11).toList s).map fun s' => (.norm, behindS (annT 3) 3 s') := run_region (annT 3) s 3 (gO c3_11) false rfl
@[cbv_eval] theorem r_n3_13 (s : S) : n3_13 s = (stepsO X (annT 3) C (gO c3_13) (gO c3_13).toList s).map fun s' => (.norm, behindS (annT 3) 4 s') := run_region (annT 3) s 4 (gO c3_13) false rfl
@[cbv_eval] theorem r_n3_15 (s : S) : n3_15 s = (stepsO X (annT 3) C (gO c3_15) (gO c3_15).toList s).map fun s' => (.norm, behindS (annT 3) 5 s') := run_region (annT 3) s 5 (gO c3_15) false rfl
@[cbv_eval] theorem r_n3_16 (s : S) : n3_16 s = some (.ret, s) := run_ret (annT 3) s
@[cbv_eval] theorem r_n3_14 (s : S) : n3_14 s = (n3_15 s).bind fun r => match r.1 with
    | .norm => n3_16 r.2
    | e => some (e, r.2) := run_seq (annT 3) c3_15 c3_16 s
@[cbv_eval] theorem r_n3_12 (s : S) : n3_12 s = (n3_13 s).bind fun r => match r.1 with
    | .norm => n3_14 r.2
    | e => some (e, r.2) := run_seq (annT 3) c3_13 c3_14 s
@[cbv_eval] theorem r_n3_10 (s : S) : n3_10 s = (n3_11 s).bind fun r => match r.1 with
    | .norm => n3_12 r.2
    | e => some (e, r.2) := run_seq (annT 3) c3_11 c3_12 s
@[cbv_eval] theorem r_n3_2 (s : S) : n3_2 s = (n3_3 s).bind fun r => match r.1 with
    | .norm => n3_10 r.2
    | e => some (e, r.2) := run_seq (annT 3) c3_3 c3_10 s
@[cbv_eval] theorem r_n3_0 (s : S) : n3_0 s = (n3_1 s).bind fun r => match r.1 with
    | .norm => n3_2 r.2
    | e => some (e, r.2) := run_seq (annT 3) c3_1 c3_2 s
theorem p3 (ds : List D) : pureCall C 3 ds = ((n3_0 ⟨argsT 0 (ds.map .d), []⟩).bind (bodyR [.tmp 2])).bind prOf := P_eq Try.f3 rfl rfl rfl rfl ds
theorem q3 (vs : List AV) (st : Store) : C 3 vs st = (n3_0 ⟨argsT 0 vs, st⟩).bind (bodyR [.tmp 2]) := C_eq Try.f3 rfl rfl rfl rfl vs st
end Go.L25
