/- Layer 25: codes by their parts. Conditions: none. -/
import Derived.Test.YtjbaoopiffcigaaQG3
set_option linter.unusedVariables false
namespace Go.L25
open Go Go.Eng Go.Proofs
set_option maxRecDepth 100000

noncomputable def c48_0 : Code := Try.f48.body.getD .skip
noncomputable def n48_0 : S → RS := run (annT 48) c48_0
noncomputable def c48_1 : Code := gL c48_0
noncomputable def n48_1 : S → RS := run (annT 48) c48_1
noncomputable def o48_1 : {l : List Oper // (gO c48_1).toList = l} := ⟨_, by conv => (lhs; whnf)⟩
noncomputable def c48_2 : Code := gR c48_0
noncomputable def n48_2 : S → RS := run (annT 48) c48_2
noncomputable def c48_3 : Code := gL c48_2
noncomputable def n48_3 : S → RS := run (annT 48) c48_3
noncomputable def o48_3 : {l : List Oper // (gO c48_3).toList = l} := ⟨_, by conv => (lhs; whnf)⟩
noncomputable def c48_4 : Code := gR c48_2
noncomputable def n48_4 : S → RS := run (annT 48) c48_4
theorem r_n48_1 (s : S) : n48_1 s = behK 19 (stepsO X (annT 48) C (gO c48_1) o48_1.1 s) := q_region (annT 48) s 0 _ false rfl _ _ rfl rfl o48_1.2
theorem g_o48_1 (j : Nat) : gdst (gO c48_1) j = (o48_1.1[j]?).bind Oper.dst := gd_eq o48_1.2 j
theorem r_n48_3 (s : S) : n48_3 s = behK 16 (stepsO X (annT 48) C (gO c48_3) o48_3.1 s) := q_region (annT 48) s 1 _ false rfl _ _ rfl rfl o48_3.2
theorem g_o48_3 (j : Nat) : gdst (gO c48_3) j = (o48_3.1[j]?).bind Oper.dst := gd_eq o48_3.2 j
theorem r_n48_4 (s : S) : n48_4 s = some (.ret, s) := run_ret _ s
theorem r_n48_2 (s : S) : n48_2 s = contK n48_4 (n48_3 s) := q_seq _ c48_3 c48_4 s
theorem r_n48_0 (s : S) : n48_0 s = contK n48_2 (n48_1 s) := q_seq _ c48_1 c48_2 s
theorem va_48 : (annT 48).virt = [] := rfl
theorem wa_48 : (annT 48).wr = [] := rfl
theorem ya_48 : (annT 48).ty = [] := rfl
theorem cv_48 (call : Eng.Call) (wr : Bool) (args : List AV) (st : Store) : callV X call wr 48 args st = cvP call wr 48 args st (fzAll (fz false st 6) args) := cv_pure rfl rfl call wr args st
theorem p48 (ds : List D) : pureCall C 48 ds = ((n48_0 ⟨argsT 0 (ds.map .d), []⟩).bind (bodyR [.cell 4 32])).bind prOf := P_eq Try.f48 rfl rfl rfl rfl ds
theorem q48 (vs : List AV) (st : Store) : C 48 vs st = (n48_0 ⟨argsT 0 vs, st⟩).bind (bodyR [.cell 4 32]) := C_eq Try.f48 rfl rfl rfl rfl vs st
attribute [go_sem] r_n48_1 g_o48_1 o48_1 r_n48_3 g_o48_3 o48_3 r_n48_4 r_n48_2 r_n48_0 va_48 wa_48 ya_48 cv_48

noncomputable def c49_0 : Code := Try.f49.body.getD .skip
noncomputable def n49_0 : S → RS := run (annT 49) c49_0
noncomputable def c49_1 : Code := gL c49_0
noncomputable def n49_1 : S → RS := run (annT 49) c49_1
noncomputable def o49_1 : {l : List Oper // (gO c49_1).toList = l} := ⟨_, by conv => (lhs; whnf)⟩
noncomputable def c49_2 : Code := gR c49_0
noncomputable def n49_2 : S → RS := run (annT 49) c49_2
noncomputable def c49_3 : Code := gL c49_2
noncomputable def n49_3 : S → RS := run (annT 49) c49_3
noncomputable def o49_3 : {l : List Oper // (gO c49_3).toList = l} := ⟨_, by conv => (lhs; whnf)⟩
noncomputable def c49_4 : Code := gR c49_2
noncomputable def n49_4 : S → RS := run (annT 49) c49_4
theorem r_n49_1 (s : S) : n49_1 s = behK 5 (stepsO X (annT 49) C (gO c49_1) o49_1.1 s) := q_region (annT 49) s 0 _ false rfl _ _ rfl rfl o49_1.2
theorem g_o49_1 (j : Nat) : gdst (gO c49_1) j = (o49_1.1[j]?).bind Oper.dst := gd_eq o49_1.2 j
theorem r_n49_3 (s : S) : n49_3 s = behK 4 (stepsO X (annT 49) C (gO c49_3) o49_3.1 s) := q_region (annT 49) s 1 _ false rfl _ _ rfl rfl o49_3.2
theorem g_o49_3 (j : Nat) : gdst (gO c49_3) j = (o49_3.1[j]?).bind Oper.dst := gd_eq o49_3.2 j
theorem r_n49_4 (s : S) : n49_4 s = some (.ret, s) := run_ret _ s
theorem r_n49_2 (s : S) : n49_2 s = contK n49_4 (n49_3 s) := q_seq _ c49_3 c49_4 s
theorem r_n49_0 (s : S) : n49_0 s = contK n49_2 (n49_1 s) := q_seq _ c49_1 c49_2 s
theorem va_49 : (annT 49).virt = [] := rfl
theorem wa_49 : (annT 49).wr = [] := rfl
theorem ya_49 : (annT 49).ty = [] := rfl
theorem cv_49 (call : Eng.Call) (wr : Bool) (args : List AV) (st : Store) : callV X call wr 49 args st = cvP call wr 49 args st (fzAll (fz false st 6) args) := cv_pure rfl rfl call wr args st
theorem p49 (ds : List D) : pureCall C 49 ds = ((n49_0 ⟨argsT 0 (ds.map .d), []⟩).bind (bodyR [.cell 2 32])).bind prOf := P_eq Try.f49 rfl rfl rfl rfl ds
theorem q49 (vs : List AV) (st : Store) : C 49 vs st = (n49_0 ⟨argsT 0 vs, st⟩).bind (bodyR [.cell 2 32]) := C_eq Try.f49 rfl rfl rfl rfl vs st
attribute [go_sem] r_n49_1 g_o49_1 o49_1 r_n49_3 g_o49_3 o49_3 r_n49_4 r_n49_2 r_n49_0 va_49 wa_49 ya_49 cv_49

noncomputable def c25_0 : Code := Try.f25.body.getD .skip
noncomputable def n25_0 : S → RS := run (annT 25) c25_0
noncomputable def c25_1 : Code := gL c25_0
noncomputable def n25_1 : S → RS := run (annT 25) c25_1
noncomputable def o25_1 : {l : List Oper // (gO c25_1).toList = l} := ⟨_, by conv => (lhs; whnf)⟩
noncomputable def c25_2 : Code := gR c25_0
noncomputable def n25_2 : S → RS := run (annT 25) c25_2
noncomputable def c25_3 : Code := gL c25_2
noncomputable def n25_3 : S → RS := run (annT 25) c25_3
noncomputable def o25_3 : {l : List Oper // (gO c25_3).toList = l} := ⟨_, by conv => (lhs; whnf)⟩
noncomputable def c25_4 : Code := gR c25_2
noncomputable def n25_4 : S → RS := run (annT 25) c25_4
noncomputable def c25_5 : Code := gL c25_4
noncomputable def n25_5 : S → RS := run (annT 25) c25_5
noncomputable def c25_6 : Code := gL c25_5
noncomputable def n25_6 : S → RS := run (annT 25) c25_6
noncomputable def o25_6 : {l : List Oper // (gO c25_6).toList = l} := ⟨_, by conv => (lhs; whnf)⟩
noncomputable def c25_7 : Code := gR c25_5
noncomputable def n25_7 : S → RS := run (annT 25) c25_7
noncomputable def c25_8 : Code := gB c25_7
noncomputable def n25_8 : S → RS := run (annT 25) c25_8
noncomputable def c25_9 : Code := gL c25_8
noncomputable def n25_9 : S → RS := run (annT 25) c25_9
noncomputable def c25_10 : Code := gL c25_9
noncomputable def n25_10 : S → RS := run (annT 25) c25_10
noncomputable def o25_10 : {l : List Oper // (gO c25_10).toList = l} := ⟨_, by conv => (lhs; whnf)⟩
noncomputable def c25_11 : Code := gR c25_9
noncomputable def n25_11 : S → RS := run (annT 25) c25_11
noncomputable def c25_12 : Code := gT c25_11
noncomputable def n25_12 : S → RS := run (annT 25) c25_12
noncomputable def c25_13 : Code := gF c25_11
noncomputable def n25_13 : S → RS := run (annT 25) c25_13
noncomputable def c25_14 : Code := gL c25_13
noncomputable def n25_14 : S → RS := run (annT 25) c25_14
noncomputable def o25_14 : {l : List Oper // (gO c25_14).toList = l} := ⟨_, by conv => (lhs; whnf)⟩
noncomputable def c25_15 : Code := gR c25_13
noncomputable def n25_15 : S → RS := run (annT 25) c25_15
noncomputable def c25_16 : Code := gT c25_15
noncomputable def n25_16 : S → RS := run (annT 25) c25_16
noncomputable def c25_17 : Code := gF c25_15
noncomputable def n25_17 : S → RS := run (annT 25) c25_17
noncomputable def o25_17 : {l : List Oper // (gO c25_17).toList = l} := ⟨_, by conv => (lhs; whnf)⟩
noncomputable def c25_18 : Code := gR c25_8
noncomputable def n25_18 : S → RS := run (annT 25) c25_18
noncomputable def c25_19 : Code := gT c25_18
noncomputable def n25_19 : S → RS := run (annT 25) c25_19
noncomputable def c25_20 : Code := gL c25_19
noncomputable def n25_20 : S → RS := run (annT 25) c25_20
noncomputable def o25_20 : {l : List Oper // (gO c25_20).toList = l} := ⟨_, by conv => (lhs; whnf)⟩
noncomputable def c25_21 : Code := gR c25_19
noncomputable def n25_21 : S → RS := run (annT 25) c25_21
noncomputable def c25_22 : Code := gB c25_21
noncomputable def n25_22 : S → RS := run (annT 25) c25_22
noncomputable def c25_23 : Code := gB c25_22
noncomputable def n25_23 : S → RS := run (annT 25) c25_23
noncomputable def c25_24 : Code := gL c25_23
noncomputable def n25_24 : S → RS := run (annT 25) c25_24
noncomputable def c25_25 : Code := gL c25_24
noncomputable def n25_25 : S → RS := run (annT 25) c25_25
noncomputable def o25_25 : {l : List Oper // (gO c25_25).toList = l} := ⟨_, by conv => (lhs; whnf)⟩
noncomputable def c25_26 : Code := gR c25_24
noncomputable def n25_26 : S → RS := run (annT 25) c25_26
noncomputable def c25_27 : Code := gT c25_26
noncomputable def n25_27 : S → RS := run (annT 25) c25_27
noncomputable def c25_28 : Code := gF c25_26
noncomputable def n25_28 : S → RS := run (annT 25) c25_28
noncomputable def c25_29 : Code := gR c25_23
noncomputable def n25_29 : S → RS := run (annT 25) c25_29
noncomputable def c25_30 : Code := gL c25_29
noncomputable def n25_30 : S → RS := run (annT 25) c25_30
noncomputable def c25_31 : Code := gB c25_30
noncomputable def n25_31 : S → RS := run (annT 25) c25_31
noncomputable def o25_31 : {l : List Oper // (gO c25_31).toList = l} := ⟨_, by conv => (lhs; whnf)⟩
noncomputable def c25_32 : Code := gR c25_29
noncomputable def n25_32 : S → RS := run (annT 25) c25_32
noncomputable def o25_32 : {l : List Oper // (gO c25_32).toList = l} := ⟨_, by conv => (lhs; whnf)⟩
noncomputable def c25_33 : Code := gF c25_18
noncomputable def n25_33 : S → RS := run (annT 25) c25_33
noncomputable def c25_34 : Code := gL c25_33
noncomputable def n25_34 : S → RS := run (annT 25) c25_34
noncomputable def o25_34 : {l : List Oper // (gO c25_34).toList = l} := ⟨_, by conv => (lhs; whnf)⟩
noncomputable def c25_35 : Code := gR c25_33
noncomputable def n25_35 : S → RS := run (annT 25) c25_35
noncomputable def c25_36 : Code := gT c25_35
noncomputable def n25_36 : S → RS := run (annT 25) c25_36
noncomputable def c25_37 : Code := gL c25_36
noncomputable def n25_37 : S → RS := run (annT 25) c25_37
noncomputable def o25_37 : {l : List Oper // (gO c25_37).toList = l} := ⟨_, by conv => (lhs; whnf)⟩
noncomputable def c25_38 : Code := gR c25_36
noncomputable def n25_38 : S → RS := run (annT 25) c25_38
noncomputable def c25_39 : Code := gF c25_35
noncomputable def n25_39 : S → RS := run (annT 25) c25_39
noncomputable def c25_40 : Code := gL c25_39
noncomputable def n25_40 : S → RS := run (annT 25) c25_40
noncomputable def o25_40 : {l : List Oper // (gO c25_40).toList = l} := ⟨_, by conv => (lhs; whnf)⟩
noncomputable def c25_41 : Code := gR c25_39
noncomputable def n25_41 : S → RS := run (annT 25) c25_41
noncomputable def c25_42 : Code := gT c25_41
noncomputable def n25_42 : S → RS := run (annT 25) c25_42
noncomputable def c25_43 : Code := gL c25_42
noncomputable def n25_43 : S → RS := run (annT 25) c25_43
noncomputable def o25_43 : {l : List Oper // (gO c25_43).toList = l} := ⟨_, by conv => (lhs; whnf)⟩
noncomputable def c25_44 : Code := gR c25_42
noncomputable def n25_44 : S → RS := run (annT 25) c25_44
noncomputable def c25_45 : Code := gL c25_44
noncomputable def n25_45 : S → RS := run (annT 25) c25_45
noncomputable def c25_46 : Code := gL c25_45
noncomputable def n25_46 : S → RS := run (annT 25) c25_46
noncomputable def o25_46 : {l : List Oper // (gO c25_46).toList = l} := ⟨_, by conv => (lhs; whnf)⟩
noncomputable def c25_47 : Code := gR c25_45
noncomputable def n25_47 : S → RS := run (annT 25) c25_47
noncomputable def c25_48 : Code := gT c25_47
noncomputable def n25_48 : S → RS := run (annT 25) c25_48
noncomputable def o25_48 : {l : List Oper // (gO c25_48).toList = l} := ⟨_, by conv => (lhs; whnf)⟩
noncomputable def c25_49 : Code := gF c25_47
noncomputable def n25_49 : S → RS := run (annT 25) c25_49
noncomputable def c25_50 : Code := gR c25_44
noncomputable def n25_50 : S → RS := run (annT 25) c25_50
noncomputable def c25_51 : Code := gL c25_50
noncomputable def n25_51 : S → RS := run (annT 25) c25_51
noncomputable def c25_52 : Code := gL c25_51
noncomputable def n25_52 : S → RS := run (annT 25) c25_52
noncomputable def o25_52 : {l : List Oper // (gO c25_52).toList = l} := ⟨_, by conv => (lhs; whnf)⟩
noncomputable def c25_53 : Code := gR c25_51
noncomputable def n25_53 : S → RS := run (annT 25) c25_53
noncomputable def c25_54 : Code := gB c25_53
noncomputable def n25_54 : S → RS := run (annT 25) c25_54
noncomputable def c25_55 : Code := gB c25_54
noncomputable def n25_55 : S → RS := run (annT 25) c25_55
noncomputable def c25_56 : Code := gL c25_55
noncomputable def n25_56 : S → RS := run (annT 25) c25_56
noncomputable def c25_57 : Code := gL c25_56
noncomputable def n25_57 : S → RS := run (annT 25) c25_57
noncomputable def o25_57 : {l : List Oper // (gO c25_57).toList = l} := ⟨_, by conv => (lhs; whnf)⟩
noncomputable def c25_58 : Code := gR c25_56
noncomputable def n25_58 : S → RS := run (annT 25) c25_58
noncomputable def c25_59 : Code := gT c25_58
noncomputable def n25_59 : S → RS := run (annT 25) c25_59
noncomputable def c25_60 : Code := gF c25_58
noncomputable def n25_60 : S → RS := run (annT 25) c25_60
noncomputable def c25_61 : Code := gR c25_55
noncomputable def n25_61 : S → RS := run (annT 25) c25_61
noncomputable def c25_62 : Code := gL c25_61
noncomputable def n25_62 : S → RS := run (annT 25) c25_62
noncomputable def c25_63 : Code := gB c25_62
noncomputable def n25_63 : S → RS := run (annT 25) c25_63
noncomputable def o25_63 : {l : List Oper // (gO c25_63).toList = l} := ⟨_, by conv => (lhs; whnf)⟩
noncomputable def c25_64 : Code := gR c25_61
noncomputable def n25_64 : S → RS := run (annT 25) c25_64
noncomputable def o25_64 : {l : List Oper // (gO c25_64).toList = l} := ⟨_, by conv => (lhs; whnf)⟩
noncomputable def c25_65 : Code := gR c25_50
noncomputable def n25_65 : S → RS := run (annT 25) c25_65
noncomputable def c25_66 : Code := gL c25_65
noncomputable def n25_66 : S → RS := run (annT 25) c25_66
noncomputable def c25_67 : Code := gL c25_66
noncomputable def n25_67 : S → RS := run (annT 25) c25_67
noncomputable def o25_67 : {l : List Oper // (gO c25_67).toList = l} := ⟨_, by conv => (lhs; whnf)⟩
noncomputable def c25_68 : Code := gR c25_66
noncomputable def n25_68 : S → RS := run (annT 25) c25_68
noncomputable def c25_69 : Code := gT c25_68
noncomputable def n25_69 : S → RS := run (annT 25) c25_69
noncomputable def o25_69 : {l : List Oper // (gO c25_69).toList = l} := ⟨_, by conv => (lhs; whnf)⟩
noncomputable def c25_70 : Code := gF c25_68
noncomputable def n25_70 : S → RS := run (annT 25) c25_70
noncomputable def c25_71 : Code := gR c25_65
noncomputable def n25_71 : S → RS := run (annT 25) c25_71
noncomputable def o25_71 : {l : List Oper // (gO c25_71).toList = l} := ⟨_, by conv => (lhs; whnf)⟩
noncomputable def c25_72 : Code := gF c25_41
noncomputable def n25_72 : S → RS := run (annT 25) c25_72
noncomputable def c25_73 : Code := gL c25_72
noncomputable def n25_73 : S → RS := run (annT 25) c25_73
noncomputable def o25_73 : {l : List Oper // (gO c25_73).toList = l} := ⟨_, by conv => (lhs; whnf)⟩
noncomputable def c25_74 : Code := gR c25_72
noncomputable def n25_74 : S → RS := run (annT 25) c25_74
noncomputable def c25_75 : Code := gT c25_74
noncomputable def n25_75 : S → RS := run (annT 25) c25_75
noncomputable def c25_76 : Code := gL c25_75
noncomputable def n25_76 : S → RS := run (annT 25) c25_76
noncomputable def c25_77 : Code := gL c25_76
noncomputable def n25_77 : S → RS := run (annT 25) c25_77
noncomputable def o25_77 : {l : List Oper // (gO c25_77).toList = l} := ⟨_, by conv => (lhs; whnf)⟩
noncomputable def c25_78 : Code := gR c25_76
noncomputable def n25_78 : S → RS := run (annT 25) c25_78
noncomputable def c25_79 : Code := gT c25_78
noncomputable def n25_79 : S → RS := run (annT 25) c25_79
noncomputable def o25_79 : {l : List Oper // (gO c25_79).toList = l} := ⟨_, by conv => (lhs; whnf)⟩
noncomputable def c25_80 : Code := gF c25_78
noncomputable def n25_80 : S → RS := run (annT 25) c25_80
noncomputable def c25_81 : Code := gR c25_75
noncomputable def n25_81 : S → RS := run (annT 25) c25_81
noncomputable def c25_82 : Code := gL c25_81
noncomputable def n25_82 : S → RS := run (annT 25) c25_82
noncomputable def c25_83 : Code := gL c25_82
noncomputable def n25_83 : S → RS := run (annT 25) c25_83
noncomputable def o25_83 : {l : List Oper // (gO c25_83).toList = l} := ⟨_, by conv => (lhs; whnf)⟩
noncomputable def c25_84 : Code := gR c25_82
noncomputable def n25_84 : S → RS := run (annT 25) c25_84
noncomputable def c25_85 : Code := gT c25_84
noncomputable def n25_85 : S → RS := run (annT 25) c25_85
noncomputable def o25_85 : {l : List Oper // (gO c25_85).toList = l} := ⟨_, by conv => (lhs; whnf)⟩
noncomputable def c25_86 : Code := gF c25_84
noncomputable def n25_86 : S → RS := run (annT 25) c25_86
noncomputable def c25_87 : Code := gR c25_81
noncomputable def n25_87 : S → RS := run (annT 25) c25_87
noncomputable def c25_88 : Code := gL c25_87
noncomputable def n25_88 : S → RS := run (annT 25) c25_88
noncomputable def o25_88 : {l : List Oper // (gO c25_88).toList = l} := ⟨_, by conv => (lhs; whnf)⟩
noncomputable def c25_89 : Code := gR c25_87
noncomputable def n25_89 : S → RS := run (annT 25) c25_89
noncomputable def c25_90 : Code := gL c25_89
noncomputable def n25_90 : S → RS := run (annT 25) c25_90
noncomputable def o25_90 : {l : List Oper // (gO c25_90).toList = l} := ⟨_, by conv => (lhs; whnf)⟩
noncomputable def c25_91 : Code := gR c25_89
noncomputable def n25_91 : S → RS := run (annT 25) c25_91
noncomputable def c25_92 : Code := gT c25_91
noncomputable def n25_92 : S → RS := run (annT 25) c25_92
noncomputable def o25_92 : {l : List Oper // (gO c25_92).toList = l} := ⟨_, by conv => (lhs; whnf)⟩
noncomputable def c25_93 : Code := gF c25_91
noncomputable def n25_93 : S → RS := run (annT 25) c25_93
noncomputable def c25_94 : Code := gF c25_74
noncomputable def n25_94 : S → RS := run (annT 25) c25_94
noncomputable def o25_94 : {l : List Oper // (gO c25_94).toList = l} := ⟨_, by conv => (lhs; whnf)⟩
noncomputable def c25_95 : Code := gR c25_4
noncomputable def n25_95 : S → RS := run (annT 25) c25_95
noncomputable def c25_96 : Code := gL c25_95
noncomputable def n25_96 : S → RS := run (annT 25) c25_96
noncomputable def o25_96 : {l : List Oper // (gO c25_96).toList = l} := ⟨_, by conv => (lhs; whnf)⟩
noncomputable def c25_97 : Code := gR c25_95
noncomputable def n25_97 : S → RS := run (annT 25) c25_97
theorem r_n25_1 (s : S) : n25_1 s = behK 6 (stepsO X (annT 25) C (gO c25_1) o25_1.1 s) := q_region (annT 25) s 0 _ false rfl _ _ rfl rfl o25_1.2
theorem g_o25_1 (j : Nat) : gdst (gO c25_1) j = (o25_1.1[j]?).bind Oper.dst := gd_eq o25_1.2 j
theorem r_n25_3 (s : S) : n25_3 s = behK 14 (stepsO X (annT 25) C (gO c25_3) o25_3.1 s) := q_region (annT 25) s 1 _ false rfl _ _ rfl rfl o25_3.2
theorem g_o25_3 (j : Nat) : gdst (gO c25_3) j = (o25_3.1[j]?).bind Oper.dst := gd_eq o25_3.2 j
theorem r_n25_6 (s : S) : n25_6 s = behK 2062 (stepsO X (annT 25) C (gO c25_6) o25_6.1 s) := q_region (annT 25) s 2 _ false rfl _ _ rfl rfl o25_6.2
theorem g_o25_6 (j : Nat) : gdst (gO c25_6) j = (o25_6.1[j]?).bind Oper.dst := gd_eq o25_6.2 j
theorem r_n25_10 (s : S) : n25_10 s = behK 1050638 (stepsO X (annT 25) C (gO c25_10) o25_10.1 s) := q_region (annT 25) s 4 _ false rfl _ _ rfl rfl o25_10.2
theorem g_o25_10 (j : Nat) : gdst (gO c25_10) j = (o25_10.1[j]?).bind Oper.dst := gd_eq o25_10.2 j
theorem r_n25_12 (s : S) : n25_12 s = some (.norm, s) := run_skip _ s
theorem r_n25_14 (s : S) : n25_14 s = behK 1050638 (stepsO X (annT 25) C (gO c25_14) o25_14.1 s) := q_region (annT 25) s 5 _ false rfl _ _ rfl rfl o25_14.2
theorem g_o25_14 (j : Nat) : gdst (gO c25_14) j = (o25_14.1[j]?).bind Oper.dst := gd_eq o25_14.2 j
theorem r_n25_16 (s : S) : n25_16 s = some (.norm, s) := run_skip _ s
theorem r_n25_17 (s : S) : n25_17 s = behK 1050638 (stepsO X (annT 25) C (gO c25_17) o25_17.1 s) := q_region (annT 25) s 6 _ false rfl _ _ rfl rfl o25_17.2
theorem g_o25_17 (j : Nat) : gdst (gO c25_17) j = (o25_17.1[j]?).bind Oper.dst := gd_eq o25_17.2 j
theorem r_n25_15 (s : S) : n25_15 s = condK (opv s.t (.tmp 20)) n25_16 n25_17 s := q_cond _ c25_16 c25_17 s (.tmp 20)
theorem r_n25_13 (s : S) : n25_13 s = contK n25_15 (n25_14 s) := q_seq _ c25_14 c25_15 s
theorem r_n25_11 (s : S) : n25_11 s = condK (opv s.t (.tmp 20)) n25_12 n25_13 s := q_cond _ c25_12 c25_13 s (.tmp 20)
theorem r_n25_9 (s : S) : n25_9 s = contK n25_11 (n25_10 s) := q_seq _ c25_10 c25_11 s
theorem r_n25_20 (s : S) : n25_20 s = behK 30 (stepsO X (annT 25) C (gO c25_20) o25_20.1 s) := q_region (annT 25) s 7 _ false rfl _ _ rfl rfl o25_20.2
theorem g_o25_20 (j : Nat) : gdst (gO c25_20) j = (o25_20.1[j]?).bind Oper.dst := gd_eq o25_20.2 j
theorem r_n25_25 (s : S) : n25_25 s = behK 268435486 (stepsO X (annT 25) C (gO c25_25) o25_25.1 s) := q_region (annT 25) s 8 _ false rfl _ _ rfl rfl o25_25.2
theorem g_o25_25 (j : Nat) : gdst (gO c25_25) j = (o25_25.1[j]?).bind Oper.dst := gd_eq o25_25.2 j
theorem r_n25_27 (s : S) : n25_27 s = some (.norm, s) := run_skip _ s
theorem r_n25_28 (s : S) : n25_28 s = some (.exit 1, s) := run_exit _ s 1
theorem r_n25_26 (s : S) : n25_26 s = condK (opv s.t (.tmp 28)) n25_27 n25_28 s := q_cond _ c25_27 c25_28 s (.tmp 28)
theorem r_n25_24 (s : S) : n25_24 s = contK n25_26 (n25_25 s) := q_seq _ c25_25 c25_26 s
theorem r_n25_31 (s : S) : n25_31 s = behK 30 (stepsO X (annT 25) C (gO c25_31) o25_31.1 s) := q_region (annT 25) s 10 _ true rfl _ _ rfl rfl o25_31.2
theorem g_o25_31 (j : Nat) : gdst (gO c25_31) j = (o25_31.1[j]?).bind Oper.dst := gd_eq o25_31.2 j
theorem r_n25_30 (s : S) : n25_30 s = blkK 2 (n25_31 s) := q_block _ c25_31 s 2
theorem r_n25_32 (s : S) : n25_32 s = behK 30 (stepsO X (annT 25) C (gO c25_32) o25_32.1 s) := q_region (annT 25) s 9 _ false rfl _ _ rfl rfl o25_32.2
theorem g_o25_32 (j : Nat) : gdst (gO c25_32) j = (o25_32.1[j]?).bind Oper.dst := gd_eq o25_32.2 j
theorem r_n25_29 (s : S) : n25_29 s = contK n25_32 (n25_30 s) := q_seq _ c25_30 c25_32 s
theorem r_n25_23 (s : S) : n25_23 s = contK n25_29 (n25_24 s) := q_seq _ c25_24 c25_29 s
theorem r_n25_22 (s : S) : n25_22 s = loopK 30 s.st.length n25_22 (n25_23 s) := q_loop (annT 25) c25_23 s _ _ rfl rfl
theorem r_n25_21 (s : S) : n25_21 s = blkK 1 (n25_22 s) := q_block _ c25_22 s 1
theorem r_n25_19 (s : S) : n25_19 s = contK n25_21 (n25_20 s) := q_seq _ c25_20 c25_21 s
theorem r_n25_34 (s : S) : n25_34 s = behK 4398046513166 (stepsO X (annT 25) C (gO c25_34) o25_34.1 s) := q_region (annT 25) s 11 _ false rfl _ _ rfl rfl o25_34.2
theorem g_o25_34 (j : Nat) : gdst (gO c25_34) j = (o25_34.1[j]?).bind Oper.dst := gd_eq o25_34.2 j
theorem r_n25_37 (s : S) : n25_37 s = behK 4 (stepsO X (annT 25) C (gO c25_37) o25_37.1 s) := q_region (annT 25) s 12 _ false rfl _ _ rfl rfl o25_37.2
theorem g_o25_37 (j : Nat) : gdst (gO c25_37) j = (o25_37.1[j]?).bind Oper.dst := gd_eq o25_37.2 j
theorem r_n25_38 (s : S) : n25_38 s = some (.ret, s) := run_ret _ s
theorem r_n25_36 (s : S) : n25_36 s = contK n25_38 (n25_37 s) := q_seq _ c25_37 c25_38 s
theorem r_n25_40 (s : S) : n25_40 s = behK 140737488357390 (stepsO X (annT 25) C (gO c25_40) o25_40.1 s) := q_region (annT 25) s 13 _ false rfl _ _ rfl rfl o25_40.2
theorem g_o25_40 (j : Nat) : gdst (gO c25_40) j = (o25_40.1[j]?).bind Oper.dst := gd_eq o25_40.2 j
theorem r_n25_43 (s : S) : n25_43 s = behK 46 (stepsO X (annT 25) C (gO c25_43) o25_43.1 s) := q_region (annT 25) s 14 _ false rfl _ _ rfl rfl o25_43.2
theorem g_o25_43 (j : Nat) : gdst (gO c25_43) j = (o25_43.1[j]?).bind Oper.dst := gd_eq o25_43.2 j
theorem r_n25_46 (s : S) : n25_46 s = behK 4503599627370542 (stepsO X (annT 25) C (gO c25_46) o25_46.1 s) := q_region (annT 25) s 15 _ false rfl _ _ rfl rfl o25_46.2
theorem g_o25_46 (j : Nat) : gdst (gO c25_46) j = (o25_46.1[j]?).bind Oper.dst := gd_eq o25_46.2 j
theorem r_n25_48 (s : S) : n25_48 s = behK 46 (stepsO X (annT 25) C (gO c25_48) o25_48.1 s) := q_region (annT 25) s 16 _ true rfl _ _ rfl rfl o25_48.2
theorem g_o25_48 (j : Nat) : gdst (gO c25_48) j = (o25_48.1[j]?).bind Oper.dst := gd_eq o25_48.2 j
theorem r_n25_49 (s : S) : n25_49 s = some (.norm, s) := run_skip _ s
theorem r_n25_47 (s : S) : n25_47 s = condK (opv s.t (.tmp 52)) n25_48 n25_49 s := q_cond _ c25_48 c25_49 s (.tmp 52)
theorem r_n25_45 (s : S) : n25_45 s = contK n25_47 (n25_46 s) := q_seq _ c25_46 c25_47 s
theorem r_n25_52 (s : S) : n25_52 s = behK 110 (stepsO X (annT 25) C (gO c25_52) o25_52.1 s) := q_region (annT 25) s 17 _ false rfl _ _ rfl rfl o25_52.2
theorem g_o25_52 (j : Nat) : gdst (gO c25_52) j = (o25_52.1[j]?).bind Oper.dst := gd_eq o25_52.2 j
theorem r_n25_57 (s : S) : n25_57 s = behK 147573952589676413038 (stepsO X (annT 25) C (gO c25_57) o25_57.1 s) := q_region (annT 25) s 18 _ false rfl _ _ rfl rfl o25_57.2
theorem g_o25_57 (j : Nat) : gdst (gO c25_57) j = (o25_57.1[j]?).bind Oper.dst := gd_eq o25_57.2 j
theorem r_n25_59 (s : S) : n25_59 s = some (.norm, s) := run_skip _ s
theorem r_n25_60 (s : S) : n25_60 s = some (.exit 3, s) := run_exit _ s 3
theorem r_n25_58 (s : S) : n25_58 s = condK (opv s.t (.tmp 67)) n25_59 n25_60 s := q_cond _ c25_59 c25_60 s (.tmp 67)
theorem r_n25_56 (s : S) : n25_56 s = contK n25_58 (n25_57 s) := q_seq _ c25_57 c25_58 s
theorem r_n25_63 (s : S) : n25_63 s = behK 110 (stepsO X (annT 25) C (gO c25_63) o25_63.1 s) := q_region (annT 25) s 20 _ true rfl _ _ rfl rfl o25_63.2
theorem g_o25_63 (j : Nat) : gdst (gO c25_63) j = (o25_63.1[j]?).bind Oper.dst := gd_eq o25_63.2 j
theorem r_n25_62 (s : S) : n25_62 s = blkK 4 (n25_63 s) := q_block _ c25_63 s 4
theorem r_n25_64 (s : S) : n25_64 s = behK 110 (stepsO X (annT 25) C (gO c25_64) o25_64.1 s) := q_region (annT 25) s 19 _ false rfl _ _ rfl rfl o25_64.2
theorem g_o25_64 (j : Nat) : gdst (gO c25_64) j = (o25_64.1[j]?).bind Oper.dst := gd_eq o25_64.2 j
theorem r_n25_61 (s : S) : n25_61 s = contK n25_64 (n25_62 s) := q_seq _ c25_62 c25_64 s
theorem r_n25_55 (s : S) : n25_55 s = contK n25_61 (n25_56 s) := q_seq _ c25_56 c25_61 s
theorem r_n25_54 (s : S) : n25_54 s = loopK 110 s.st.length n25_54 (n25_55 s) := q_loop (annT 25) c25_55 s _ _ rfl rfl
theorem r_n25_53 (s : S) : n25_53 s = blkK 3 (n25_54 s) := q_block _ c25_54 s 3
theorem r_n25_51 (s : S) : n25_51 s = contK n25_53 (n25_52 s) := q_seq _ c25_52 c25_53 s
theorem r_n25_67 (s : S) : n25_67 s = behK 19342813113834066795298862 (stepsO X (annT 25) C (gO c25_67) o25_67.1 s) := q_region (annT 25) s 21 _ false rfl _ _ rfl rfl o25_67.2
theorem g_o25_67 (j : Nat) : gdst (gO c25_67) j = (o25_67.1[j]?).bind Oper.dst := gd_eq o25_67.2 j
theorem r_n25_69 (s : S) : n25_69 s = behK 46 (stepsO X (annT 25) C (gO c25_69) o25_69.1 s) := q_region (annT 25) s 22 _ true rfl _ _ rfl rfl o25_69.2
theorem g_o25_69 (j : Nat) : gdst (gO c25_69) j = (o25_69.1[j]?).bind Oper.dst := gd_eq o25_69.2 j
theorem r_n25_70 (s : S) : n25_70 s = some (.norm, s) := run_skip _ s
theorem r_n25_68 (s : S) : n25_68 s = condK (opv s.t (.tmp 84)) n25_69 n25_70 s := q_cond _ c25_69 c25_70 s (.tmp 84)
theorem r_n25_66 (s : S) : n25_66 s = contK n25_68 (n25_67 s) := q_seq _ c25_67 c25_68 s
theorem r_n25_71 (s : S) : n25_71 s = behK 12 (stepsO X (annT 25) C (gO c25_71) o25_71.1 s) := q_region (annT 25) s 23 _ true rfl _ _ rfl rfl o25_71.2
theorem g_o25_71 (j : Nat) : gdst (gO c25_71) j = (o25_71.1[j]?).bind Oper.dst := gd_eq o25_71.2 j
theorem r_n25_65 (s : S) : n25_65 s = contK n25_71 (n25_66 s) := q_seq _ c25_66 c25_71 s
theorem r_n25_50 (s : S) : n25_50 s = contK n25_65 (n25_51 s) := q_seq _ c25_51 c25_65 s
theorem r_n25_44 (s : S) : n25_44 s = contK n25_50 (n25_45 s) := q_seq _ c25_45 c25_50 s
theorem r_n25_42 (s : S) : n25_42 s = contK n25_44 (n25_43 s) := q_seq _ c25_43 c25_44 s
theorem r_n25_73 (s : S) : n25_73 s = behK 1267650600228229401496703205390 (stepsO X (annT 25) C (gO c25_73) o25_73.1 s) := q_region (annT 25) s 24 _ false rfl _ _ rfl rfl o25_73.2
theorem g_o25_73 (j : Nat) : gdst (gO c25_73) j = (o25_73.1[j]?).bind Oper.dst := gd_eq o25_73.2 j
theorem r_n25_77 (s : S) : n25_77 s = behK 20282409603651670423947251286030 (stepsO X (annT 25) C (gO c25_77) o25_77.1 s) := q_region (annT 25) s 25 _ false rfl _ _ rfl rfl o25_77.2
theorem g_o25_77 (j : Nat) : gdst (gO c25_77) j = (o25_77.1[j]?).bind Oper.dst := gd_eq o25_77.2 j
theorem r_n25_79 (s : S) : n25_79 s = behK 14 (stepsO X (annT 25) C (gO c25_79) o25_79.1 s) := q_region (annT 25) s 26 _ true rfl _ _ rfl rfl o25_79.2
theorem g_o25_79 (j : Nat) : gdst (gO c25_79) j = (o25_79.1[j]?).bind Oper.dst := gd_eq o25_79.2 j
theorem r_n25_80 (s : S) : n25_80 s = some (.norm, s) := run_skip _ s
theorem r_n25_78 (s : S) : n25_78 s = condK (opv s.t (.tmp 104)) n25_79 n25_80 s := q_cond _ c25_79 c25_80 s (.tmp 104)
theorem r_n25_76 (s : S) : n25_76 s = contK n25_78 (n25_77 s) := q_seq _ c25_77 c25_78 s
theorem r_n25_83 (s : S) : n25_83 s = behK 41538374868278621028243970633760782 (stepsO X (annT 25) C (gO c25_83) o25_83.1 s) := q_region (annT 25) s 27 _ false rfl _ _ rfl rfl o25_83.2
theorem g_o25_83 (j : Nat) : gdst (gO c25_83) j = (o25_83.1[j]?).bind Oper.dst := gd_eq o25_83.2 j
theorem r_n25_85 (s : S) : n25_85 s = behK 14 (stepsO X (annT 25) C (gO c25_85) o25_85.1 s) := q_region (annT 25) s 28 _ true rfl _ _ rfl rfl o25_85.2
theorem g_o25_85 (j : Nat) : gdst (gO c25_85) j = (o25_85.1[j]?).bind Oper.dst := gd_eq o25_85.2 j
theorem r_n25_86 (s : S) : n25_86 s = some (.norm, s) := run_skip _ s
theorem r_n25_84 (s : S) : n25_84 s = condK (opv s.t (.tmp 115)) n25_85 n25_86 s := q_cond _ c25_85 c25_86 s (.tmp 115)
theorem r_n25_82 (s : S) : n25_82 s = contK n25_84 (n25_83 s) := q_seq _ c25_83 c25_84 s
theorem r_n25_88 (s : S) : n25_88 s = behK 14 (stepsO X (annT 25) C (gO c25_88) o25_88.1 s) := q_region (annT 25) s 29 _ true rfl _ _ rfl rfl o25_88.2
theorem g_o25_88 (j : Nat) : gdst (gO c25_88) j = (o25_88.1[j]?).bind Oper.dst := gd_eq o25_88.2 j
theorem r_n25_90 (s : S) : n25_90 s = behK 10889035741470030830827987437816582766604 (stepsO X (annT 25) C (gO c25_90) o25_90.1 s) := q_region (annT 25) s 30 _ false rfl _ _ rfl rfl o25_90.2
theorem g_o25_90 (j : Nat) : gdst (gO c25_90) j = (o25_90.1[j]?).bind Oper.dst := gd_eq o25_90.2 j
theorem r_n25_92 (s : S) : n25_92 s = behK 12 (stepsO X (annT 25) C (gO c25_92) o25_92.1 s) := q_region (annT 25) s 31 _ true rfl _ _ rfl rfl o25_92.2
theorem g_o25_92 (j : Nat) : gdst (gO c25_92) j = (o25_92.1[j]?).bind Oper.dst := gd_eq o25_92.2 j
theorem r_n25_93 (s : S) : n25_93 s = some (.norm, s) := run_skip _ s
theorem r_n25_91 (s : S) : n25_91 s = condK (opv s.t (.tmp 133)) n25_92 n25_93 s := q_cond _ c25_92 c25_93 s (.tmp 133)
theorem r_n25_89 (s : S) : n25_89 s = contK n25_91 (n25_90 s) := q_seq _ c25_90 c25_91 s
theorem r_n25_87 (s : S) : n25_87 s = contK n25_89 (n25_88 s) := q_seq _ c25_88 c25_89 s
theorem r_n25_81 (s : S) : n25_81 s = contK n25_87 (n25_82 s) := q_seq _ c25_82 c25_87 s
theorem r_n25_75 (s : S) : n25_75 s = contK n25_81 (n25_76 s) := q_seq _ c25_76 c25_81 s
theorem r_n25_94 (s : S) : n25_94 s = behK 12 (stepsO X (annT 25) C (gO c25_94) o25_94.1 s) := q_region (annT 25) s 3 _ true rfl _ _ rfl rfl o25_94.2
theorem g_o25_94 (j : Nat) : gdst (gO c25_94) j = (o25_94.1[j]?).bind Oper.dst := gd_eq o25_94.2 j
theorem r_n25_74 (s : S) : n25_74 s = condK (opv s.t (.tmp 100)) n25_75 n25_94 s := q_cond _ c25_75 c25_94 s (.tmp 100)
theorem r_n25_72 (s : S) : n25_72 s = contK n25_74 (n25_73 s) := q_seq _ c25_73 c25_74 s
theorem r_n25_41 (s : S) : n25_41 s = condK (opv s.t (.tmp 47)) n25_42 n25_72 s := q_cond _ c25_42 c25_72 s (.tmp 47)
theorem r_n25_39 (s : S) : n25_39 s = contK n25_41 (n25_40 s) := q_seq _ c25_40 c25_41 s
theorem r_n25_35 (s : S) : n25_35 s = condK (opv s.t (.tmp 42)) n25_36 n25_39 s := q_cond _ c25_36 c25_39 s (.tmp 42)
theorem r_n25_33 (s : S) : n25_33 s = contK n25_35 (n25_34 s) := q_seq _ c25_34 c25_35 s
theorem r_n25_18 (s : S) : n25_18 s = condK (opv s.t (.tmp 20)) n25_19 n25_33 s := q_cond _ c25_19 c25_33 s (.tmp 20)
theorem r_n25_8 (s : S) : n25_8 s = contK n25_18 (n25_9 s) := q_seq _ c25_9 c25_18 s
theorem r_n25_7 (s : S) : n25_7 s = blkK 0 (n25_8 s) := q_block _ c25_8 s 0
theorem r_n25_5 (s : S) : n25_5 s = contK n25_7 (n25_6 s) := q_seq _ c25_6 c25_7 s
theorem r_n25_96 (s : S) : n25_96 s = behK 4 (stepsO X (annT 25) C (gO c25_96) o25_96.1 s) := q_region (annT 25) s 32 _ false rfl _ _ rfl rfl o25_96.2
theorem g_o25_96 (j : Nat) : gdst (gO c25_96) j = (o25_96.1[j]?).bind Oper.dst := gd_eq o25_96.2 j
theorem r_n25_97 (s : S) : n25_97 s = some (.ret, s) := run_ret _ s
theorem r_n25_95 (s : S) : n25_95 s = contK n25_97 (n25_96 s) := q_seq _ c25_96 c25_97 s
theorem r_n25_4 (s : S) : n25_4 s = contK n25_95 (n25_5 s) := q_seq _ c25_5 c25_95 s
theorem r_n25_2 (s : S) : n25_2 s = contK n25_4 (n25_3 s) := q_seq _ c25_3 c25_4 s
theorem r_n25_0 (s : S) : n25_0 s = contK n25_2 (n25_1 s) := q_seq _ c25_1 c25_2 s
theorem va_25 : (annT 25).virt = [] := rfl
theorem wa_25 : (annT 25).wr = [] := rfl
theorem ya_25 : (annT 25).ty = [] := rfl
theorem cv_25 (call : Eng.Call) (wr : Bool) (args : List AV) (st : Store) : callV X call wr 25 args st = cvP call wr 25 args st (fzAll (fz false st 6) args) := cv_pure rfl rfl call wr args st
theorem p25 (ds : List D) : pureCall C 25 ds = ((n25_0 ⟨argsT 0 (ds.map .d), []⟩).bind (bodyR [.cell 2 32])).bind prOf := P_eq Try.f25 rfl rfl rfl rfl ds
theorem q25 (vs : List AV) (st : Store) : C 25 vs st = (n25_0 ⟨argsT 0 vs, st⟩).bind (bodyR [.cell 2 32]) := C_eq Try.f25 rfl rfl rfl rfl vs st
attribute [go_sem] r_n25_1 g_o25_1 o25_1 r_n25_3 g_o25_3 o25_3 r_n25_6 g_o25_6 o25_6 r_n25_10 g_o25_10 o25_10 r_n25_12 r_n25_14 g_o25_14 o25_14 r_n25_16 r_n25_17 g_o25_17 o25_17 r_n25_15 r_n25_13 r_n25_11 r_n25_9 r_n25_20 g_o25_20 o25_20 r_n25_25 g_o25_25 o25_25 r_n25_27 r_n25_28 r_n25_26 r_n25_24 r_n25_31 g_o25_31 o25_31 r_n25_30 r_n25_32 g_o25_32 o25_32 r_n25_29 r_n25_23 r_n25_21 r_n25_19 r_n25_34 g_o25_34 o25_34 r_n25_37 g_o25_37 o25_37 r_n25_38 r_n25_36 r_n25_40 g_o25_40 o25_40 r_n25_43 g_o25_43 o25_43 r_n25_46 g_o25_46 o25_46 r_n25_48 g_o25_48 o25_48 r_n25_49 r_n25_47 r_n25_45 r_n25_52 g_o25_52 o25_52 r_n25_57 g_o25_57 o25_57 r_n25_59 r_n25_60 r_n25_58 r_n25_56 r_n25_63 g_o25_63 o25_63 r_n25_62 r_n25_64 g_o25_64 o25_64 r_n25_61 r_n25_55 r_n25_53 r_n25_51 r_n25_67 g_o25_67 o25_67 r_n25_69 g_o25_69 o25_69 r_n25_70 r_n25_68 r_n25_66 r_n25_71 g_o25_71 o25_71 r_n25_65 r_n25_50 r_n25_44 r_n25_42 r_n25_73 g_o25_73 o25_73 r_n25_77 g_o25_77 o25_77 r_n25_79 g_o25_79 o25_79 r_n25_80 r_n25_78 r_n25_76 r_n25_83 g_o25_83 o25_83 r_n25_85 g_o25_85 o25_85 r_n25_86 r_n25_84 r_n25_82 r_n25_88 g_o25_88 o25_88 r_n25_90 g_o25_90 o25_90 r_n25_92 g_o25_92 o25_92 r_n25_93 r_n25_91 r_n25_89 r_n25_87 r_n25_81 r_n25_75 r_n25_94 g_o25_94 o25_94 r_n25_74 r_n25_72 r_n25_41 r_n25_39 r_n25_35 r_n25_33 r_n25_18 r_n25_8 r_n25_7 r_n25_5 r_n25_96 g_o25_96 o25_96 r_n25_97 r_n25_95 r_n25_4 r_n25_2 r_n25_0 va_25 wa_25 ya_25 cv_25

noncomputable def c10_0 : Code := Try.f10.body.getD .skip
noncomputable def n10_0 : S → RS := run (annT 10) c10_0
noncomputable def c10_1 : Code := gL c10_0
noncomputable def n10_1 : S → RS := run (annT 10) c10_1
noncomputable def o10_1 : {l : List Oper // (gO c10_1).toList = l} := ⟨_, by conv => (lhs; whnf)⟩
noncomputable def c10_2 : Code := gR c10_0
noncomputable def n10_2 : S → RS := run (annT 10) c10_2
noncomputable def c10_3 : Code := gL c10_2
noncomputable def n10_3 : S → RS := run (annT 10) c10_3
noncomputable def o10_3 : {l : List Oper // (gO c10_3).toList = l} := ⟨_, by conv => (lhs; whnf)⟩
noncomputable def c10_4 : Code := gR c10_2
noncomputable def n10_4 : S → RS := run (annT 10) c10_4
noncomputable def c10_5 : Code := gL c10_4
noncomputable def n10_5 : S → RS := run (annT 10) c10_5
noncomputable def c10_6 : Code := gL c10_5
noncomputable def n10_6 : S → RS := run (annT 10) c10_6
noncomputable def o10_6 : {l : List Oper // (gO c10_6).toList = l} := ⟨_, by conv => (lhs; whnf)⟩
noncomputable def c10_7 : Code := gR c10_5
noncomputable def n10_7 : S → RS := run (annT 10) c10_7
noncomputable def c10_8 : Code := gT c10_7
noncomputable def n10_8 : S → RS := run (annT 10) c10_8
noncomputable def c10_9 : Code := gL c10_8
noncomputable def n10_9 : S → RS := run (annT 10) c10_9
noncomputable def o10_9 : {l : List Oper // (gO c10_9).toList = l} := ⟨_, by conv => (lhs; whnf)⟩
noncomputable def c10_10 : Code := gR c10_8
noncomputable def n10_10 : S → RS := run (annT 10) c10_10
noncomputable def c10_11 : Code := gF c10_7
noncomputable def n10_11 : S → RS := run (annT 10) c10_11
noncomputable def c10_12 : Code := gR c10_4
noncomputable def n10_12 : S → RS := run (annT 10) c10_12
noncomputable def c10_13 : Code := gL c10_12
noncomputable def n10_13 : S → RS := run (annT 10) c10_13
noncomputable def o10_13 : {l : List Oper // (gO c10_13).toList = l} := ⟨_, by conv => (lhs; whnf)⟩
noncomputable def c10_14 : Code := gR c10_12
noncomputable def n10_14 : S → RS := run (annT 10) c10_14
theorem r_n10_1 (s : S) : n10_1 s = behK 6 (stepsO X (annT 10) C (gO c10_1) o10_1.1 s) := q_region (annT 10) s 0 _ false rfl _ _ rfl rfl o10_1.2
theorem g_o10_1 (j : Nat) : gdst (gO c10_1) j = (o10_1.1[j]?).bind Oper.dst := gd_eq o10_1.2 j
theorem r_n10_3 (s : S) : n10_3 s = behK 22 (stepsO X (annT 10) C (gO c10_3) o10_3.1 s) := q_region (annT 10) s 1 _ false rfl _ _ rfl rfl o10_3.2
theorem g_o10_3 (j : Nat) : gdst (gO c10_3) j = (o10_3.1[j]?).bind Oper.dst := gd_eq o10_3.2 j
theorem r_n10_6 (s : S) : n10_6 s = behK 278 (stepsO X (annT 10) C (gO c10_6) o10_6.1 s) := q_region (annT 10) s 2 _ false rfl _ _ rfl rfl o10_6.2
theorem g_o10_6 (j : Nat) : gdst (gO c10_6) j = (o10_6.1[j]?).bind Oper.dst := gd_eq o10_6.2 j
theorem r_n10_9 (s : S) : n10_9 s = behK 12 (stepsO X (annT 10) C (gO c10_9) o10_9.1 s) := q_region (annT 10) s 3 _ false rfl _ _ rfl rfl o10_9.2
theorem g_o10_9 (j : Nat) : gdst (gO c10_9) j = (o10_9.1[j]?).bind Oper.dst := gd_eq o10_9.2 j
theorem r_n10_10 (s : S) : n10_10 s = some (.ret, s) := run_ret _ s
theorem r_n10_8 (s : S) : n10_8 s = contK n10_10 (n10_9 s) := q_seq _ c10_9 c10_10 s
theorem r_n10_11 (s : S) : n10_11 s = some (.norm, s) := run_skip _ s
theorem r_n10_7 (s : S) : n10_7 s = condK (opv s.t (.tmp 8)) n10_8 n10_11 s := q_cond _ c10_8 c10_11 s (.tmp 8)
theorem r_n10_5 (s : S) : n10_5 s = contK n10_7 (n10_6 s) := q_seq _ c10_6 c10_7 s
theorem r_n10_13 (s : S) : n10_13 s = behK 12 (stepsO X (annT 10) C (gO c10_13) o10_13.1 s) := q_region (annT 10) s 4 _ false rfl _ _ rfl rfl o10_13.2
theorem g_o10_13 (j : Nat) : gdst (gO c10_13) j = (o10_13.1[j]?).bind Oper.dst := gd_eq o10_13.2 j
theorem r_n10_14 (s : S) : n10_14 s = some (.ret, s) := run_ret _ s
theorem r_n10_12 (s : S) : n10_12 s = contK n10_14 (n10_13 s) := q_seq _ c10_13 c10_14 s
theorem r_n10_4 (s : S) : n10_4 s = contK n10_12 (n10_5 s) := q_seq _ c10_5 c10_12 s
theorem r_n10_2 (s : S) : n10_2 s = contK n10_4 (n10_3 s) := q_seq _ c10_3 c10_4 s
theorem r_n10_0 (s : S) : n10_0 s = contK n10_2 (n10_1 s) := q_seq _ c10_1 c10_2 s
theorem va_10 : (annT 10).virt = [] := rfl
theorem wa_10 : (annT 10).wr = [] := rfl
theorem ya_10 : (annT 10).ty = [] := rfl
theorem cv_10 (call : Eng.Call) (wr : Bool) (args : List AV) (st : Store) : callV X call wr 10 args st = cvP call wr 10 args st (fzAll (fz false st 6) args) := cv_pure rfl rfl call wr args st
theorem p10 (ds : List D) : pureCall C 10 ds = ((n10_0 ⟨argsT 0 (ds.map .d), []⟩).bind (bodyR [.cell 2 32, .tmp 3])).bind prOf := P_eq Try.f10 rfl rfl rfl rfl ds
theorem q10 (vs : List AV) (st : Store) : C 10 vs st = (n10_0 ⟨argsT 0 vs, st⟩).bind (bodyR [.cell 2 32, .tmp 3]) := C_eq Try.f10 rfl rfl rfl rfl vs st
attribute [go_sem] r_n10_1 g_o10_1 o10_1 r_n10_3 g_o10_3 o10_3 r_n10_6 g_o10_6 o10_6 r_n10_9 g_o10_9 o10_9 r_n10_10 r_n10_8 r_n10_11 r_n10_7 r_n10_5 r_n10_13 g_o10_13 o10_13 r_n10_14 r_n10_12 r_n10_4 r_n10_2 r_n10_0 va_10 wa_10 ya_10 cv_10

noncomputable def c26_0 : Code := Try.f26.body.getD .skip
noncomputable def n26_0 : S → RS := run (annT 26) c26_0
noncomputable def c26_1 : Code := gL c26_0
noncomputable def n26_1 : S → RS := run (annT 26) c26_1
noncomputable def o26_1 : {l : List Oper // (gO c26_1).toList = l} := ⟨_, by conv => (lhs; whnf)⟩
noncomputable def c26_2 : Code := gR c26_0
noncomputable def n26_2 : S → RS := run (annT 26) c26_2
noncomputable def c26_3 : Code := gL c26_2
noncomputable def n26_3 : S → RS := run (annT 26) c26_3
noncomputable def c26_4 : Code := gL c26_3
noncomputable def n26_4 : S → RS := run (annT 26) c26_4
noncomputable def o26_4 : {l : List Oper // (gO c26_4).toList = l} := ⟨_, by conv => (lhs; whnf)⟩
noncomputable def c26_5 : Code := gR c26_3
noncomputable def n26_5 : S → RS := run (annT 26) c26_5
noncomputable def c26_6 : Code := gT c26_5
noncomputable def n26_6 : S → RS := run (annT 26) c26_6
noncomputable def c26_7 : Code := gL c26_6
noncomputable def n26_7 : S → RS := run (annT 26) c26_7
noncomputable def o26_7 : {l : List Oper // (gO c26_7).toList = l} := ⟨_, by conv => (lhs; whnf)⟩
noncomputable def c26_8 : Code := gR c26_6
noncomputable def n26_8 : S → RS := run (annT 26) c26_8
noncomputable def c26_9 : Code := gF c26_5
noncomputable def n26_9 : S → RS := run (annT 26) c26_9
noncomputable def c26_10 : Code := gR c26_2
noncomputable def n26_10 : S → RS := run (annT 26) c26_10
noncomputable def c26_11 : Code := gL c26_10
noncomputable def n26_11 : S → RS := run (annT 26) c26_11
noncomputable def c26_12 : Code := gL c26_11
noncomputable def n26_12 : S → RS := run (annT 26) c26_12
noncomputable def o26_12 : {l : List Oper // (gO c26_12).toList = l} := ⟨_, by conv => (lhs; whnf)⟩
noncomputable def c26_13 : Code := gR c26_11
noncomputable def n26_13 : S → RS := run (annT 26) c26_13
noncomputable def c26_14 : Code := gB c26_13
noncomputable def n26_14 : S → RS := run (annT 26) c26_14
noncomputable def c26_15 : Code := gB c26_14
noncomputable def n26_15 : S → RS := run (annT 26) c26_15
noncomputable def c26_16 : Code := gL c26_15
noncomputable def n26_16 : S → RS := run (annT 26) c26_16
noncomputable def c26_17 : Code := gL c26_16
noncomputable def n26_17 : S → RS := run (annT 26) c26_17
noncomputable def o26_17 : {l : List Oper // (gO c26_17).toList = l} := ⟨_, by conv => (lhs; whnf)⟩
noncomputable def c26_18 : Code := gR c26_16
noncomputable def n26_18 : S → RS := run (annT 26) c26_18
noncomputable def c26_19 : Code := gT c26_18
noncomputable def n26_19 : S → RS := run (annT 26) c26_19
noncomputable def c26_20 : Code := gF c26_18
noncomputable def n26_20 : S → RS := run (annT 26) c26_20
noncomputable def c26_21 : Code := gR c26_15
noncomputable def n26_21 : S → RS := run (annT 26) c26_21
noncomputable def c26_22 : Code := gL c26_21
noncomputable def n26_22 : S → RS := run (annT 26) c26_22
noncomputable def c26_23 : Code := gB c26_22
noncomputable def n26_23 : S → RS := run (annT 26) c26_23
noncomputable def c26_24 : Code := gL c26_23
noncomputable def n26_24 : S → RS := run (annT 26) c26_24
noncomputable def o26_24 : {l : List Oper // (gO c26_24).toList = l} := ⟨_, by conv => (lhs; whnf)⟩
noncomputable def c26_25 : Code := gR c26_23
noncomputable def n26_25 : S → RS := run (annT 26) c26_25
noncomputable def c26_26 : Code := gT c26_25
noncomputable def n26_26 : S → RS := run (annT 26) c26_26
noncomputable def c26_27 : Code := gL c26_26
noncomputable def n26_27 : S → RS := run (annT 26) c26_27
noncomputable def o26_27 : {l : List Oper // (gO c26_27).toList = l} := ⟨_, by conv => (lhs; whnf)⟩
noncomputable def c26_28 : Code := gR c26_26
noncomputable def n26_28 : S → RS := run (annT 26) c26_28
noncomputable def c26_29 : Code := gF c26_25
noncomputable def n26_29 : S → RS := run (annT 26) c26_29
noncomputable def c26_30 : Code := gR c26_21
noncomputable def n26_30 : S → RS := run (annT 26) c26_30
noncomputable def o26_30 : {l : List Oper // (gO c26_30).toList = l} := ⟨_, by conv => (lhs; whnf)⟩
noncomputable def c26_31 : Code := gR c26_10
noncomputable def n26_31 : S → RS := run (annT 26) c26_31
noncomputable def c26_32 : Code := gL c26_31
noncomputable def n26_32 : S → RS := run (annT 26) c26_32
noncomputable def o26_32 : {l : List Oper // (gO c26_32).toList = l} := ⟨_, by conv => (lhs; whnf)⟩
noncomputable def c26_33 : Code := gR c26_31
noncomputable def n26_33 : S → RS := run (annT 26) c26_33
theorem r_n26_1 (s : S) : n26_1 s = behK 3 (stepsO X (annT 26) C (gO c26_1) o26_1.1 s) := q_region (annT 26) s 0 _ false rfl _ _ rfl rfl o26_1.2
theorem g_o26_1 (j : Nat) : gdst (gO c26_1) j = (o26_1.1[j]?).bind Oper.dst := gd_eq o26_1.2 j
theorem r_n26_4 (s : S) : n26_4 s = behK 1027 (stepsO X (annT 26) C (gO c26_4) o26_4.1 s) := q_region (annT 26) s 1 _ false rfl _ _ rfl rfl o26_4.2
theorem g_o26_4 (j : Nat) : gdst (gO c26_4) j = (o26_4.1[j]?).bind Oper.dst := gd_eq o26_4.2 j
theorem r_n26_7 (s : S) : n26_7 s = behK 16 (stepsO X (annT 26) C (gO c26_7) o26_7.1 s) := q_region (annT 26) s 2 _ false rfl _ _ rfl rfl o26_7.2
theorem g_o26_7 (j : Nat) : gdst (gO c26_7) j = (o26_7.1[j]?).bind Oper.dst := gd_eq o26_7.2 j
theorem r_n26_8 (s : S) : n26_8 s = some (.ret, s) := run_ret _ s
theorem r_n26_6 (s : S) : n26_6 s = contK n26_8 (n26_7 s) := q_seq _ c26_7 c26_8 s
theorem r_n26_9 (s : S) : n26_9 s = some (.norm, s) := run_skip _ s
theorem r_n26_5 (s : S) : n26_5 s = condK (opv s.t (.tmp 10)) n26_6 n26_9 s := q_cond _ c26_6 c26_9 s (.tmp 10)
theorem r_n26_3 (s : S) : n26_3 s = contK n26_5 (n26_4 s) := q_seq _ c26_4 c26_5 s
theorem r_n26_12 (s : S) : n26_12 s = behK 35 (stepsO X (annT 26) C (gO c26_12) o26_12.1 s) := q_region (annT 26) s 3 _ false rfl _ _ rfl rfl o26_12.2
theorem g_o26_12 (j : Nat) : gdst (gO c26_12) j = (o26_12.1[j]?).bind Oper.dst := gd_eq o26_12.2 j
theorem r_n26_17 (s : S) : n26_17 s = behK 16419 (stepsO X (annT 26) C (gO c26_17) o26_17.1 s) := q_region (annT 26) s 4 _ false rfl _ _ rfl rfl o26_17.2
theorem g_o26_17 (j : Nat) : gdst (gO c26_17) j = (o26_17.1[j]?).bind Oper.dst := gd_eq o26_17.2 j
theorem r_n26_19 (s : S) : n26_19 s = some (.norm, s) := run_skip _ s
theorem r_n26_20 (s : S) : n26_20 s = some (.exit 0, s) := run_exit _ s 0
theorem r_n26_18 (s : S) : n26_18 s = condK (opv s.t (.tmp 14)) n26_19 n26_20 s := q_cond _ c26_19 c26_20 s (.tmp 14)
theorem r_n26_16 (s : S) : n26_16 s = contK n26_18 (n26_17 s) := q_seq _ c26_17 c26_18 s
theorem r_n26_24 (s : S) : n26_24 s = behK 67108899 (stepsO X (annT 26) C (gO c26_24) o26_24.1 s) := q_region (annT 26) s 6 _ true rfl _ _ rfl rfl o26_24.2
theorem g_o26_24 (j : Nat) : gdst (gO c26_24) j = (o26_24.1[j]?).bind Oper.dst := gd_eq o26_24.2 j
theorem r_n26_27 (s : S) : n26_27 s = behK 16 (stepsO X (annT 26) C (gO c26_27) o26_27.1 s) := q_region (annT 26) s 7 _ false rfl _ _ rfl rfl o26_27.2
theorem g_o26_27 (j : Nat) : gdst (gO c26_27) j = (o26_27.1[j]?).bind Oper.dst := gd_eq o26_27.2 j
theorem r_n26_28 (s : S) : n26_28 s = some (.ret, s) := run_ret _ s
theorem r_n26_26 (s : S) : n26_26 s = contK n26_28 (n26_27 s) := q_seq _ c26_27 c26_28 s
theorem r_n26_29 (s : S) : n26_29 s = some (.norm, s) := run_skip _ s
theorem r_n26_25 (s : S) : n26_25 s = condK (opv s.t (.tmp 26)) n26_26 n26_29 s := q_cond _ c26_26 c26_29 s (.tmp 26)
theorem r_n26_23 (s : S) : n26_23 s = contK n26_25 (n26_24 s) := q_seq _ c26_24 c26_25 s
theorem r_n26_22 (s : S) : n26_22 s = blkK 1 (n26_23 s) := q_block _ c26_23 s 1
theorem r_n26_30 (s : S) : n26_30 s = behK 35 (stepsO X (annT 26) C (gO c26_30) o26_30.1 s) := q_region (annT 26) s 5 _ false rfl _ _ rfl rfl o26_30.2
theorem g_o26_30 (j : Nat) : gdst (gO c26_30) j = (o26_30.1[j]?).bind Oper.dst := gd_eq o26_30.2 j
theorem r_n26_21 (s : S) : n26_21 s = contK n26_30 (n26_22 s) := q_seq _ c26_22 c26_30 s
theorem r_n26_15 (s : S) : n26_15 s = contK n26_21 (n26_16 s) := q_seq _ c26_16 c26_21 s
theorem r_n26_14 (s : S) : n26_14 s = loopK 35 s.st.length n26_14 (n26_15 s) := q_loop (annT 26) c26_15 s _ _ rfl rfl
theorem r_n26_13 (s : S) : n26_13 s = blkK 0 (n26_14 s) := q_block _ c26_14 s 0
theorem r_n26_11 (s : S) : n26_11 s = contK n26_13 (n26_12 s) := q_seq _ c26_12 c26_13 s
theorem r_n26_32 (s : S) : n26_32 s = behK 16 (stepsO X (annT 26) C (gO c26_32) o26_32.1 s) := q_region (annT 26) s 8 _ false rfl _ _ rfl rfl o26_32.2
theorem g_o26_32 (j : Nat) : gdst (gO c26_32) j = (o26_32.1[j]?).bind Oper.dst := gd_eq o26_32.2 j
theorem r_n26_33 (s : S) : n26_33 s = some (.ret, s) := run_ret _ s
theorem r_n26_31 (s : S) : n26_31 s = contK n26_33 (n26_32 s) := q_seq _ c26_32 c26_33 s
theorem r_n26_10 (s : S) : n26_10 s = contK n26_31 (n26_11 s) := q_seq _ c26_11 c26_31 s
theorem r_n26_2 (s : S) : n26_2 s = contK n26_10 (n26_3 s) := q_seq _ c26_3 c26_10 s
theorem r_n26_0 (s : S) : n26_0 s = contK n26_2 (n26_1 s) := q_seq _ c26_1 c26_2 s
theorem va_26 : (annT 26).virt = [] := rfl
theorem wa_26 : (annT 26).wr = [] := rfl
theorem ya_26 : (annT 26).ty = [] := rfl
theorem cv_26 (call : Eng.Call) (wr : Bool) (args : List AV) (st : Store) : callV X call wr 26 args st = cvP call wr 26 args st (fzAll (fz false st 6) args) := cv_pure rfl rfl call wr args st
theorem p26 (ds : List D) : pureCall C 26 ds = ((n26_0 ⟨argsT 0 (ds.map .d), []⟩).bind (bodyR [.tmp 4])).bind prOf := P_eq Try.f26 rfl rfl rfl rfl ds
theorem q26 (vs : List AV) (st : Store) : C 26 vs st = (n26_0 ⟨argsT 0 vs, st⟩).bind (bodyR [.tmp 4]) := C_eq Try.f26 rfl rfl rfl rfl vs st
attribute [go_sem] r_n26_1 g_o26_1 o26_1 r_n26_4 g_o26_4 o26_4 r_n26_7 g_o26_7 o26_7 r_n26_8 r_n26_6 r_n26_9 r_n26_5 r_n26_3 r_n26_12 g_o26_12 o26_12 r_n26_17 g_o26_17 o26_17 r_n26_19 r_n26_20 r_n26_18 r_n26_16 r_n26_24 g_o26_24 o26_24 r_n26_27 g_o26_27 o26_27 r_n26_28 r_n26_26 r_n26_29 r_n26_25 r_n26_23 r_n26_22 r_n26_30 g_o26_30 o26_30 r_n26_21 r_n26_15 r_n26_13 r_n26_11 r_n26_32 g_o26_32 o26_32 r_n26_33 r_n26_31 r_n26_10 r_n26_2 r_n26_0 va_26 wa_26 ya_26 cv_26

noncomputable def c11_0 : Code := Try.f11.body.getD .skip
noncomputable def n11_0 : S → RS := run (annT 11) c11_0
noncomputable def c11_1 : Code := gL c11_0
noncomputable def n11_1 : S → RS := run (annT 11) c11_1
noncomputable def o11_1 : {l : List Oper // (gO c11_1).toList = l} := ⟨_, by conv => (lhs; whnf)⟩
noncomputable def c11_2 : Code := gR c11_0
noncomputable def n11_2 : S → RS := run (annT 11) c11_2
noncomputable def c11_3 : Code := gL c11_2
noncomputable def n11_3 : S → RS := run (annT 11) c11_3
noncomputable def o11_3 : {l : List Oper // (gO c11_3).toList = l} := ⟨_, by conv => (lhs; whnf)⟩
noncomputable def c11_4 : Code := gR c11_2
noncomputable def n11_4 : S → RS := run (annT 11) c11_4
theorem r_n11_1 (s : S) : n11_1 s = behK 12 (stepsO X (annT 11) C (gO c11_1) o11_1.1 s) := q_region (annT 11) s 0 _ false rfl _ _ rfl rfl o11_1.2
theorem g_o11_1 (j : Nat) : gdst (gO c11_1) j = (o11_1.1[j]?).bind Oper.dst := gd_eq o11_1.2 j
theorem r_n11_3 (s : S) : n11_3 s = behK 16 (stepsO X (annT 11) C (gO c11_3) o11_3.1 s) := q_region (annT 11) s 1 _ false rfl _ _ rfl rfl o11_3.2
theorem g_o11_3 (j : Nat) : gdst (gO c11_3) j = (o11_3.1[j]?).bind Oper.dst := gd_eq o11_3.2 j
theorem r_n11_4 (s : S) : n11_4 s = some (.ret, s) := run_ret _ s
theorem r_n11_2 (s : S) : n11_2 s = contK n11_4 (n11_3 s) := q_seq _ c11_3 c11_4 s
theorem r_n11_0 (s : S) : n11_0 s = contK n11_2 (n11_1 s) := q_seq _ c11_1 c11_2 s
theorem va_11 : (annT 11).virt = [] := rfl
theorem wa_11 : (annT 11).wr = [] := rfl
theorem ya_11 : (annT 11).ty = [] := rfl
theorem cv_11 (call : Eng.Call) (wr : Bool) (args : List AV) (st : Store) : callV X call wr 11 args st = cvP call wr 11 args st (fzAll (fz false st 6) args) := cv_pure rfl rfl call wr args st
theorem p11 (ds : List D) : pureCall C 11 ds = ((n11_0 ⟨argsT 0 (ds.map .d), []⟩).bind (bodyR [.tmp 4])).bind prOf := P_eq Try.f11 rfl rfl rfl rfl ds
theorem q11 (vs : List AV) (st : Store) : C 11 vs st = (n11_0 ⟨argsT 0 vs, st⟩).bind (bodyR [.tmp 4]) := C_eq Try.f11 rfl rfl rfl rfl vs st
attribute [go_sem] r_n11_1 g_o11_1 o11_1 r_n11_3 g_o11_3 o11_3 r_n11_4 r_n11_2 r_n11_0 va_11 wa_11 ya_11 cv_11

noncomputable def c7_0 : Code := Try.f7.body.getD .skip
noncomputable def n7_0 : S → RS := run (annT 7) c7_0
noncomputable def c7_1 : Code := gL c7_0
noncomputable def n7_1 : S → RS := run (annT 7) c7_1
noncomputable def o7_1 : {l : List Oper // (gO c7_1).toList = l} := ⟨_, by conv => (lhs; whnf)⟩
noncomputable def c7_2 : Code := gR c7_0
noncomputable def n7_2 : S → RS := run (annT 7) c7_2
noncomputable def c7_3 : Code := gL c7_2
noncomputable def n7_3 : S → RS := run (annT 7) c7_3
noncomputable def o7_3 : {l : List Oper // (gO c7_3).toList = l} := ⟨_, by conv => (lhs; whnf)⟩
noncomputable def c7_4 : Code := gR c7_2
noncomputable def n7_4 : S → RS := run (annT 7) c7_4
noncomputable def c7_5 : Code := gL c7_4
noncomputable def n7_5 : S → RS := run (annT 7) c7_5
noncomputable def o7_5 : {l : List Oper // (gO c7_5).toList = l} := ⟨_, by conv => (lhs; whnf)⟩
noncomputable def c7_6 : Code := gR c7_4
noncomputable def n7_6 : S → RS := run (annT 7) c7_6
noncomputable def c7_7 : Code := gL c7_6
noncomputable def n7_7 : S → RS := run (annT 7) c7_7
noncomputable def c7_8 : Code := gL c7_7
noncomputable def n7_8 : S → RS := run (annT 7) c7_8
noncomputable def o7_8 : {l : List Oper // (gO c7_8).toList = l} := ⟨_, by conv => (lhs; whnf)⟩
noncomputable def c7_9 : Code := gR c7_7
noncomputable def n7_9 : S → RS := run (annT 7) c7_9
noncomputable def c7_10 : Code := gT c7_9
noncomputable def n7_10 : S → RS := run (annT 7) c7_10
noncomputable def c7_11 : Code := gL c7_10
noncomputable def n7_11 : S → RS := run (annT 7) c7_11
noncomputable def o7_11 : {l : List Oper // (gO c7_11).toList = l} := ⟨_, by conv => (lhs; whnf)⟩
noncomputable def c7_12 : Code := gR c7_10
noncomputable def n7_12 : S → RS := run (annT 7) c7_12
noncomputable def c7_13 : Code := gF c7_9
noncomputable def n7_13 : S → RS := run (annT 7) c7_13
noncomputable def c7_14 : Code := gR c7_6
noncomputable def n7_14 : S → RS := run (annT 7) c7_14
noncomputable def c7_15 : Code := gL c7_14
noncomputable def n7_15 : S → RS := run (annT 7) c7_15
noncomputable def c7_16 : Code := gL c7_15
noncomputable def n7_16 : S → RS := run (annT 7) c7_16
noncomputable def o7_16 : {l : List Oper // (gO c7_16).toList = l} := ⟨_, by conv => (lhs; whnf)⟩
noncomputable def c7_17 : Code := gR c7_15
noncomputable def n7_17 : S → RS := run (annT 7) c7_17
noncomputable def c7_18 : Code := gB c7_17
noncomputable def n7_18 : S → RS := run (annT 7) c7_18
noncomputable def c7_19 : Code := gB c7_18
noncomputable def n7_19 : S → RS := run (annT 7) c7_19
noncomputable def c7_20 : Code := gL c7_19
noncomputable def n7_20 : S → RS := run (annT 7) c7_20
noncomputable def c7_21 : Code := gL c7_20
noncomputable def n7_21 : S → RS := run (annT 7) c7_21
noncomputable def o7_21 : {l : List Oper // (gO c7_21).toList = l} := ⟨_, by conv => (lhs; whnf)⟩
noncomputable def c7_22 : Code := gR c7_20
noncomputable def n7_22 : S → RS := run (annT 7) c7_22
noncomputable def c7_23 : Code := gT c7_22
noncomputable def n7_23 : S → RS := run (annT 7) c7_23
noncomputable def c7_24 : Code := gF c7_22
noncomputable def n7_24 : S → RS := run (annT 7) c7_24
noncomputable def c7_25 : Code := gR c7_19
noncomputable def n7_25 : S → RS := run (annT 7) c7_25
noncomputable def c7_26 : Code := gL c7_25
noncomputable def n7_26 : S → RS := run (annT 7) c7_26
noncomputable def c7_27 : Code := gB c7_26
noncomputable def n7_27 : S → RS := run (annT 7) c7_27
noncomputable def c7_28 : Code := gL c7_27
noncomputable def n7_28 : S → RS := run (annT 7) c7_28
noncomputable def o7_28 : {l : List Oper // (gO c7_28).toList = l} := ⟨_, by conv => (lhs; whnf)⟩
noncomputable def c7_29 : Code := gR c7_27
noncomputable def n7_29 : S → RS := run (annT 7) c7_29
noncomputable def c7_30 : Code := gT c7_29
noncomputable def n7_30 : S → RS := run (annT 7) c7_30
noncomputable def c7_31 : Code := gL c7_30
noncomputable def n7_31 : S → RS := run (annT 7) c7_31
noncomputable def o7_31 : {l : List Oper // (gO c7_31).toList = l} := ⟨_, by conv => (lhs; whnf)⟩
noncomputable def c7_32 : Code := gR c7_30
noncomputable def n7_32 : S → RS := run (annT 7) c7_32
noncomputable def c7_33 : Code := gF c7_29
noncomputable def n7_33 : S → RS := run (annT 7) c7_33
noncomputable def c7_34 : Code := gR c7_25
noncomputable def n7_34 : S → RS := run (annT 7) c7_34
noncomputable def o7_34 : {l : List Oper // (gO c7_34).toList = l} := ⟨_, by conv => (lhs; whnf)⟩
noncomputable def c7_35 : Code := gR c7_14
noncomputable def n7_35 : S → RS := run (annT 7) c7_35
noncomputable def c7_36 : Code := gL c7_35
noncomputable def n7_36 : S → RS := run (annT 7) c7_36
noncomputable def c7_37 : Code := gL c7_36
noncomputable def n7_37 : S → RS := run (annT 7) c7_37
noncomputable def o7_37 : {l : List Oper // (gO c7_37).toList = l} := ⟨_, by conv => (lhs; whnf)⟩
noncomputable def c7_38 : Code := gR c7_36
noncomputable def n7_38 : S → RS := run (annT 7) c7_38
noncomputable def c7_39 : Code := gB c7_38
noncomputable def n7_39 : S → RS := run (annT 7) c7_39
noncomputable def c7_40 : Code := gB c7_39
noncomputable def n7_40 : S → RS := run (annT 7) c7_40
noncomputable def c7_41 : Code := gL c7_40
noncomputable def n7_41 : S → RS := run (annT 7) c7_41
noncomputable def c7_42 : Code := gL c7_41
noncomputable def n7_42 : S → RS := run (annT 7) c7_42
noncomputable def o7_42 : {l : List Oper // (gO c7_42).toList = l} := ⟨_, by conv => (lhs; whnf)⟩
noncomputable def c7_43 : Code := gR c7_41
noncomputable def n7_43 : S → RS := run (annT 7) c7_43
noncomputable def c7_44 : Code := gT c7_43
noncomputable def n7_44 : S → RS := run (annT 7) c7_44
noncomputable def c7_45 : Code := gF c7_43
noncomputable def n7_45 : S → RS := run (annT 7) c7_45
noncomputable def c7_46 : Code := gR c7_40
noncomputable def n7_46 : S → RS := run (annT 7) c7_46
noncomputable def c7_47 : Code := gL c7_46
noncomputable def n7_47 : S → RS := run (annT 7) c7_47
noncomputable def c7_48 : Code := gB c7_47
noncomputable def n7_48 : S → RS := run (annT 7) c7_48
noncomputable def o7_48 : {l : List Oper // (gO c7_48).toList = l} := ⟨_, by conv => (lhs; whnf)⟩
noncomputable def c7_49 : Code := gR c7_46
noncomputable def n7_49 : S → RS := run (annT 7) c7_49
noncomputable def o7_49 : {l : List Oper // (gO c7_49).toList = l} := ⟨_, by conv => (lhs; whnf)⟩
noncomputable def c7_50 : Code := gR c7_35
noncomputable def n7_50 : S → RS := run (annT 7) c7_50
noncomputable def c7_51 : Code := gL c7_50
noncomputable def n7_51 : S → RS := run (annT 7) c7_51
noncomputable def o7_51 : {l : List Oper // (gO c7_51).toList = l} := ⟨_, by conv => (lhs; whnf)⟩
noncomputable def c7_52 : Code := gR c7_50
noncomputable def n7_52 : S → RS := run (annT 7) c7_52
theorem r_n7_1 (s : S) : n7_1 s = behK 6 (stepsO X (annT 7) C (gO c7_1) o7_1.1 s) := q_region (annT 7) s 0 _ false rfl _ _ rfl rfl o7_1.2
theorem g_o7_1 (j : Nat) : gdst (gO c7_1) j = (o7_1.1[j]?).bind Oper.dst := gd_eq o7_1.2 j
theorem r_n7_3 (s : S) : n7_3 s = behK 6 (stepsO X (annT 7) C (gO c7_3) o7_3.1 s) := q_region (annT 7) s 1 _ false rfl _ _ rfl rfl o7_3.2
theorem g_o7_3 (j : Nat) : gdst (gO c7_3) j = (o7_3.1[j]?).bind Oper.dst := gd_eq o7_3.2 j
theorem r_n7_5 (s : S) : n7_5 s = behK 38 (stepsO X (annT 7) C (gO c7_5) o7_5.1 s) := q_region (annT 7) s 2 _ false rfl _ _ rfl rfl o7_5.2
theorem g_o7_5 (j : Nat) : gdst (gO c7_5) j = (o7_5.1[j]?).bind Oper.dst := gd_eq o7_5.2 j
theorem r_n7_8 (s : S) : n7_8 s = behK 549755813894 (stepsO X (annT 7) C (gO c7_8) o7_8.1 s) := q_region (annT 7) s 3 _ false rfl _ _ rfl rfl o7_8.2
theorem g_o7_8 (j : Nat) : gdst (gO c7_8) j = (o7_8.1[j]?).bind Oper.dst := gd_eq o7_8.2 j
theorem r_n7_11 (s : S) : n7_11 s = behK 16 (stepsO X (annT 7) C (gO c7_11) o7_11.1 s) := q_region (annT 7) s 4 _ false rfl _ _ rfl rfl o7_11.2
theorem g_o7_11 (j : Nat) : gdst (gO c7_11) j = (o7_11.1[j]?).bind Oper.dst := gd_eq o7_11.2 j
theorem r_n7_12 (s : S) : n7_12 s = some (.ret, s) := run_ret _ s
theorem r_n7_10 (s : S) : n7_10 s = contK n7_12 (n7_11 s) := q_seq _ c7_11 c7_12 s
theorem r_n7_13 (s : S) : n7_13 s = some (.norm, s) := run_skip _ s
theorem r_n7_9 (s : S) : n7_9 s = condK (opv s.t (.tmp 39)) n7_10 n7_13 s := q_cond _ c7_10 c7_13 s (.tmp 39)
theorem r_n7_7 (s : S) : n7_7 s = contK n7_9 (n7_8 s) := q_seq _ c7_8 c7_9 s
theorem r_n7_16 (s : S) : n7_16 s = behK 70 (stepsO X (annT 7) C (gO c7_16) o7_16.1 s) := q_region (annT 7) s 5 _ false rfl _ _ rfl rfl o7_16.2
theorem g_o7_16 (j : Nat) : gdst (gO c7_16) j = (o7_16.1[j]?).bind Oper.dst := gd_eq o7_16.2 j
theorem r_n7_21 (s : S) : n7_21 s = behK 35184372088902 (stepsO X (annT 7) C (gO c7_21) o7_21.1 s) := q_region (annT 7) s 6 _ false rfl _ _ rfl rfl o7_21.2
theorem g_o7_21 (j : Nat) : gdst (gO c7_21) j = (o7_21.1[j]?).bind Oper.dst := gd_eq o7_21.2 j
theorem r_n7_23 (s : S) : n7_23 s = some (.norm, s) := run_skip _ s
theorem r_n7_24 (s : S) : n7_24 s = some (.exit 0, s) := run_exit _ s 0
theorem r_n7_22 (s : S) : n7_22 s = condK (opv s.t (.tmp 45)) n7_23 n7_24 s := q_cond _ c7_23 c7_24 s (.tmp 45)
theorem r_n7_20 (s : S) : n7_20 s = contK n7_22 (n7_21 s) := q_seq _ c7_21 c7_22 s
theorem r_n7_28 (s : S) : n7_28 s = behK 36028797018964038 (stepsO X (annT 7) C (gO c7_28) o7_28.1 s) := q_region (annT 7) s 8 _ false rfl _ _ rfl rfl o7_28.2
theorem g_o7_28 (j : Nat) : gdst (gO c7_28) j = (o7_28.1[j]?).bind Oper.dst := gd_eq o7_28.2 j
theorem r_n7_31 (s : S) : n7_31 s = behK 16 (stepsO X (annT 7) C (gO c7_31) o7_31.1 s) := q_region (annT 7) s 9 _ false rfl _ _ rfl rfl o7_31.2
theorem g_o7_31 (j : Nat) : gdst (gO c7_31) j = (o7_31.1[j]?).bind Oper.dst := gd_eq o7_31.2 j
theorem r_n7_32 (s : S) : n7_32 s = some (.ret, s) := run_ret _ s
theorem r_n7_30 (s : S) : n7_30 s = contK n7_32 (n7_31 s) := q_seq _ c7_31 c7_32 s
theorem r_n7_33 (s : S) : n7_33 s = some (.norm, s) := run_skip _ s
theorem r_n7_29 (s : S) : n7_29 s = condK (opv s.t (.tmp 55)) n7_30 n7_33 s := q_cond _ c7_30 c7_33 s (.tmp 55)
theorem r_n7_27 (s : S) : n7_27 s = contK n7_29 (n7_28 s) := q_seq _ c7_28 c7_29 s
theorem r_n7_26 (s : S) : n7_26 s = blkK 1 (n7_27 s) := q_block _ c7_27 s 1
theorem r_n7_34 (s : S) : n7_34 s = behK 70 (stepsO X (annT 7) C (gO c7_34) o7_34.1 s) := q_region (annT 7) s 7 _ false rfl _ _ rfl rfl o7_34.2
theorem g_o7_34 (j : Nat) : gdst (gO c7_34) j = (o7_34.1[j]?).bind Oper.dst := gd_eq o7_34.2 j
theorem r_n7_25 (s : S) : n7_25 s = contK n7_34 (n7_26 s) := q_seq _ c7_26 c7_34 s
theorem r_n7_19 (s : S) : n7_19 s = contK n7_25 (n7_20 s) := q_seq _ c7_20 c7_25 s
theorem r_n7_18 (s : S) : n7_18 s = loopK 70 s.st.length n7_18 (n7_19 s) := q_loop (annT 7) c7_19 s _ _ rfl rfl
theorem r_n7_17 (s : S) : n7_17 s = blkK 0 (n7_18 s) := q_block _ c7_18 s 0
theorem r_n7_15 (s : S) : n7_15 s = contK n7_17 (n7_16 s) := q_seq _ c7_16 c7_17 s
theorem r_n7_37 (s : S) : n7_37 s = behK 134 (stepsO X (annT 7) C (gO c7_37) o7_37.1 s) := q_region (annT 7) s 10 _ false rfl _ _ rfl rfl o7_37.2
theorem g_o7_37 (j : Nat) : gdst (gO c7_37) j = (o7_37.1[j]?).bind Oper.dst := gd_eq o7_37.2 j
theorem r_n7_42 (s : S) : n7_42 s = behK 18446744073709551750 (stepsO X (annT 7) C (gO c7_42) o7_42.1 s) := q_region (annT 7) s 11 _ false rfl _ _ rfl rfl o7_42.2
theorem g_o7_42 (j : Nat) : gdst (gO c7_42) j = (o7_42.1[j]?).bind Oper.dst := gd_eq o7_42.2 j
theorem r_n7_44 (s : S) : n7_44 s = some (.norm, s) := run_skip _ s
theorem r_n7_45 (s : S) : n7_45 s = some (.exit 2, s) := run_exit _ s 2
theorem r_n7_43 (s : S) : n7_43 s = condK (opv s.t (.tmp 64)) n7_44 n7_45 s := q_cond _ c7_44 c7_45 s (.tmp 64)
theorem r_n7_41 (s : S) : n7_41 s = contK n7_43 (n7_42 s) := q_seq _ c7_42 c7_43 s
theorem r_n7_48 (s : S) : n7_48 s = behK 134 (stepsO X (annT 7) C (gO c7_48) o7_48.1 s) := q_region (annT 7) s 13 _ false rfl _ _ rfl rfl o7_48.2
theorem g_o7_48 (j : Nat) : gdst (gO c7_48) j = (o7_48.1[j]?).bind Oper.dst := gd_eq o7_48.2 j
theorem r_n7_47 (s : S) : n7_47 s = blkK 3 (n7_48 s) := q_block _ c7_48 s 3
theorem r_n7_49 (s : S) : n7_49 s = behK 134 (stepsO X (annT 7) C (gO c7_49) o7_49.1 s) := q_region (annT 7) s 12 _ false rfl _ _ rfl rfl o7_49.2
theorem g_o7_49 (j : Nat) : gdst (gO c7_49) j = (o7_49.1[j]?).bind Oper.dst := gd_eq o7_49.2 j
theorem r_n7_46 (s : S) : n7_46 s = contK n7_49 (n7_47 s) := q_seq _ c7_47 c7_49 s
theorem r_n7_40 (s : S) : n7_40 s = contK n7_46 (n7_41 s) := q_seq _ c7_41 c7_46 s
theorem r_n7_39 (s : S) : n7_39 s = loopK 134 s.st.length n7_39 (n7_40 s) := q_loop (annT 7) c7_40 s _ _ rfl rfl
theorem r_n7_38 (s : S) : n7_38 s = blkK 2 (n7_39 s) := q_block _ c7_39 s 2
theorem r_n7_36 (s : S) : n7_36 s = contK n7_38 (n7_37 s) := q_seq _ c7_37 c7_38 s
theorem r_n7_51 (s : S) : n7_51 s = behK 16 (stepsO X (annT 7) C (gO c7_51) o7_51.1 s) := q_region (annT 7) s 14 _ false rfl _ _ rfl rfl o7_51.2
theorem g_o7_51 (j : Nat) : gdst (gO c7_51) j = (o7_51.1[j]?).bind Oper.dst := gd_eq o7_51.2 j
theorem r_n7_52 (s : S) : n7_52 s = some (.ret, s) := run_ret _ s
theorem r_n7_50 (s : S) : n7_50 s = contK n7_52 (n7_51 s) := q_seq _ c7_51 c7_52 s
theorem r_n7_35 (s : S) : n7_35 s = contK n7_50 (n7_36 s) := q_seq _ c7_36 c7_50 s
theorem r_n7_14 (s : S) : n7_14 s = contK n7_35 (n7_15 s) := q_seq _ c7_15 c7_35 s
theorem r_n7_6 (s : S) : n7_6 s = contK n7_14 (n7_7 s) := q_seq _ c7_7 c7_14 s
theorem r_n7_4 (s : S) : n7_4 s = contK n7_6 (n7_5 s) := q_seq _ c7_5 c7_6 s
theorem r_n7_2 (s : S) : n7_2 s = contK n7_4 (n7_3 s) := q_seq _ c7_3 c7_4 s
theorem r_n7_0 (s : S) : n7_0 s = contK n7_2 (n7_1 s) := q_seq _ c7_1 c7_2 s
theorem va_7 : (annT 7).virt = [] := rfl
theorem wa_7 : (annT 7).wr = [] := rfl
theorem ya_7 : (annT 7).ty = [] := rfl
theorem cv_7 (call : Eng.Call) (wr : Bool) (args : List AV) (st : Store) : callV X call wr 7 args st = cvP call wr 7 args st (fzAll (fz false st 6) args) := cv_pure rfl rfl call wr args st
theorem p7 (ds : List D) : pureCall C 7 ds = ((n7_0 ⟨argsT 0 (ds.map .d), []⟩).bind (bodyR [.tmp 4])).bind prOf := P_eq Try.f7 rfl rfl rfl rfl ds
theorem q7 (vs : List AV) (st : Store) : C 7 vs st = (n7_0 ⟨argsT 0 vs, st⟩).bind (bodyR [.tmp 4]) := C_eq Try.f7 rfl rfl rfl rfl vs st
attribute [go_sem] r_n7_1 g_o7_1 o7_1 r_n7_3 g_o7_3 o7_3 r_n7_5 g_o7_5 o7_5 r_n7_8 g_o7_8 o7_8 r_n7_11 g_o7_11 o7_11 r_n7_12 r_n7_10 r_n7_13 r_n7_9 r_n7_7 r_n7_16 g_o7_16 o7_16 r_n7_21 g_o7_21 o7_21 r_n7_23 r_n7_24 r_n7_22 r_n7_20 r_n7_28 g_o7_28 o7_28 r_n7_31 g_o7_31 o7_31 r_n7_32 r_n7_30 r_n7_33 r_n7_29 r_n7_27 r_n7_26 r_n7_34 g_o7_34 o7_34 r_n7_25 r_n7_19 r_n7_17 r_n7_15 r_n7_37 g_o7_37 o7_37 r_n7_42 g_o7_42 o7_42 r_n7_44 r_n7_45 r_n7_43 r_n7_41 r_n7_48 g_o7_48 o7_48 r_n7_47 r_n7_49 g_o7_49 o7_49 r_n7_46 r_n7_40 r_n7_38 r_n7_36 r_n7_51 g_o7_51 o7_51 r_n7_52 r_n7_50 r_n7_35 r_n7_14 r_n7_6 r_n7_4 r_n7_2 r_n7_0 va_7 wa_7 ya_7 cv_7

noncomputable def c3_0 : Code := Try.f3.body.getD .skip
noncomputable def n3_0 : S → RS := run (annT 3) c3_0
noncomputable def c3_1 : Code := gL c3_0
noncomputable def n3_1 : S → RS := run (annT 3) c3_1
noncomputable def o3_1 : {l : List Oper // (gO c3_1).toList = l} := ⟨_, by conv => (lhs; whnf)⟩
noncomputable def c3_2 : Code := gR c3_0
noncomputable def n3_2 : S → RS := run (annT 3) c3_2
noncomputable def c3_3 : Code := gL c3_2
noncomputable def n3_3 : S → RS := run (annT 3) c3_3
noncomputable def c3_4 : Code := gL c3_3
noncomputable def n3_4 : S → RS := run (annT 3) c3_4
noncomputable def o3_4 : {l : List Oper // (gO c3_4).toList = l} := ⟨_, by conv => (lhs; whnf)⟩
noncomputable def c3_5 : Code := gR c3_3
noncomputable def n3_5 : S → RS := run (annT 3) c3_5
noncomputable def c3_6 : Code := gT c3_5
noncomputable def n3_6 : S → RS := run (annT 3) c3_6
noncomputable def c3_7 : Code := gL c3_6
noncomputable def n3_7 : S → RS := run (annT 3) c3_7
noncomputable def o3_7 : {l : List Oper // (gO c3_7).toList = l} := ⟨_, by conv => (lhs; whnf)⟩
noncomputable def c3_8 : Code := gR c3_6
noncomputable def n3_8 : S → RS := run (annT 3) c3_8
noncomputable def c3_9 : Code := gF c3_5
noncomputable def n3_9 : S → RS := run (annT 3) c3_9
noncomputable def c3_10 : Code := gR c3_2
noncomputable def n3_10 : S → RS := run (annT 3) c3_10
noncomputable def c3_11 : Code := gL c3_10
noncomputable def n3_11 : S → RS := run (annT 3) c3_11
noncomputable def o3_11 : {l : List Oper // (gO c3_11).toList = l} := ⟨_, by conv => (lhs; whnf)⟩
noncomputable def c3_12 : Code := gR c3_10
noncomputable def n3_12 : S → RS := run (annT 3) c3_12
noncomputable def c3_13 : Code := gL c3_12
noncomputable def n3_13 : S → RS := run (annT 3) c3_13
noncomputable def o3_13 : {l : List Oper // (gO c3_13).toList = l} := ⟨_, by conv => (lhs; whnf)⟩
noncomputable def c3_14 : Code := gR c3_12
noncomputable def n3_14 : S → RS := run (annT 3) c3_14
noncomputable def c3_15 : Code := gL c3_14
noncomputable def n3_15 : S → RS := run (annT 3) c3_15
noncomputable def o3_15 : {l : List Oper // (gO c3_15).toList = l} := ⟨_, by conv => (lhs; whnf)⟩
noncomputable def c3_16 : Code := gR c3_14
noncomputable def n3_16 : S → RS := run (annT 3) c3_16
theorem r_n3_1 (s : S) : n3_1 s = behK 2 (stepsO X (annT 3) C (gO c3_1) o3_1.1 s) := q_region (annT 3) s 0 _ false rfl _ _ rfl rfl o3_1.2
theorem g_o3_1 (j : Nat) : gdst (gO c3_1) j = (o3_1.1[j]?).bind Oper.dst := gd_eq o3_1.2 j
theorem r_n3_4 (s : S) : n3_4 s = behK 514 (stepsO X (annT 3) C (gO c3_4) o3_4.1 s) := q_region (annT 3) s 1 _ false rfl _ _ rfl rfl o3_4.2
theorem g_o3_4 (j : Nat) : gdst (gO c3_4) j = (o3_4.1[j]?).bind Oper.dst := gd_eq o3_4.2 j
theorem r_n3_7 (s : S) : n3_7 s = behK 4 (stepsO X (annT 3) C (gO c3_7) o3_7.1 s) := q_region (annT 3) s 2 _ false rfl _ _ rfl rfl o3_7.2
theorem g_o3_7 (j : Nat) : gdst (gO c3_7) j = (o3_7.1[j]?).bind Oper.dst := gd_eq o3_7.2 j
theorem r_n3_8 (s : S) : n3_8 s = some (.ret, s) := run_ret _ s
theorem r_n3_6 (s : S) : n3_6 s = contK n3_8 (n3_7 s) := q_seq _ c3_7 c3_8 s
theorem r_n3_9 (s : S) : n3_9 s = some (.norm, s) := run_skip _ s
theorem r_n3_5 (s : S) : n3_5 s = condK (opv s.t (.tmp 9)) n3_6 n3_9 s := q_cond _ c3_6 c3_9 s (.tmp 9)
theorem r_n3_3 (s : S) : n3_3 s = contK n3_5 (n3_4 s) := q_seq _ c3_4 c3_5 s
theorem r_n3_11 (s : S) : n3_11 s = behK 26 (stepsO X (annT 3) C (gO c3_11) o3_11.1 s) := q_region (annT 3) s 3 _ false rfl _ _ rfl rfl o3_11.2
theorem g_o3_11 (j : Nat) : gdst (gO c3_11) j = (o3_11.1[j]?).bind Oper.dst := gd_eq o3_11.2 j
theorem r_n3_13 (s : S) : n3_13 s = behK 120 (stepsO X (annT 3) C (gO c3_13) o3_13.1 s) := q_region (annT 3) s 4 _ false rfl _ _ rfl rfl o3_13.2
theorem g_o3_13 (j : Nat) : gdst (gO c3_13) j = (o3_13.1[j]?).bind Oper.dst := gd_eq o3_13.2 j
theorem r_n3_15 (s : S) : n3_15 s = behK 4 (stepsO X (annT 3) C (gO c3_15) o3_15.1 s) := q_region (annT 3) s 5 _ false rfl _ _ rfl rfl o3_15.2
theorem g_o3_15 (j : Nat) : gdst (gO c3_15) j = (o3_15.1[j]?).bind Oper.dst := gd_eq o3_15.2 j
theorem r_n3_16 (s : S) : n3_16 s = some (.ret, s) := run_ret _ s
theorem r_n3_14 (s : S) : n3_14 s = contK n3_16 (n3_15 s) := q_seq _ c3_15 c3_16 s
theorem r_n3_12 (s : S) : n3_12 s = contK n3_14 (n3_13 s) := q_seq _ c3_13 c3_14 s
theorem r_n3_10 (s : S) : n3_10 s = contK n3_12 (n3_11 s) := q_seq _ c3_11 c3_12 s
theorem r_n3_2 (s : S) : n3_2 s = contK n3_10 (n3_3 s) := q_seq _ c3_3 c3_10 s
theorem r_n3_0 (s : S) : n3_0 s = contK n3_2 (n3_1 s) := q_seq _ c3_1 c3_2 s
theorem va_3 : (annT 3).virt = [] := rfl
theorem wa_3 : (annT 3).wr = [] := rfl
theorem ya_3 : (annT 3).ty = [] := rfl
theorem cv_3 (call : Eng.Call) (wr : Bool) (args : List AV) (st : Store) : callV X call wr 3 args st = cvP call wr 3 args st (fzAll (fz false st 6) args) := cv_pure rfl rfl call wr args st
theorem p3 (ds : List D) : pureCall C 3 ds = ((n3_0 ⟨argsT 0 (ds.map .d), []⟩).bind (bodyR [.tmp 2])).bind prOf := P_eq Try.f3 rfl rfl rfl rfl ds
theorem q3 (vs : List AV) (st : Store) : C 3 vs st = (n3_0 ⟨argsT 0 vs, st⟩).bind (bodyR [.tmp 2]) := C_eq Try.f3 rfl rfl rfl rfl vs st
attribute [go_sem] r_n3_1 g_o3_1 o3_1 r_n3_4 g_o3_4 o3_4 r_n3_7 g_o3_7 o3_7 r_n3_8 r_n3_6 r_n3_9 r_n3_5 r_n3_3 r_n3_11 g_o3_11 o3_11 r_n3_13 g_o3_13 o3_13 r_n3_15 g_o3_15 o3_15 r_n3_16 r_n3_14 r_n3_12 r_n3_10 r_n3_2 r_n3_0 va_3 wa_3 ya_3 cv_3
end Go.L25
