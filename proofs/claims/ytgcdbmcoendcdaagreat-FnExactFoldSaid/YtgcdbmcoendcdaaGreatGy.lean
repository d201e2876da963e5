/- What the program's types say; how its functions take their arguments. -/
import Derived.Test.YtgcdbmcoendcdaaGreatGtB
import Derived.Test.YtgcdbmcoendcdaaGreatProg
namespace Go.Proofs.YtgcdbmcoendcdaaGreat
theorem tk_2 : tk Tryz.prog 2 = .sc (.s (.int .i64 0)) := by kernel_rfl
theorem ck_2 : ck Tryz.prog 2 = some (false, 1, [.s (.int .i64 0)]) := by kernel_rfl
theorem un_2 : Tryz.prog.underlying 2 = some (.int .i64) := by kernel_rfl
theorem ik_2 : Tryz.prog.intKind 2 = .i64 := by kernel_rfl
theorem tk_3 : tk Tryz.prog 3 = .sc (.s (.int .i64 0)) := by kernel_rfl
theorem ck_3 : ck Tryz.prog 3 = some (false, 1, [.s (.int .i64 0)]) := by kernel_rfl
theorem un_3 : Tryz.prog.underlying 3 = some (.int .i64) := by kernel_rfl
theorem ik_3 : Tryz.prog.intKind 3 = .i64 := by kernel_rfl
theorem tk_4 : tk Tryz.prog 4 = .sc (.s (.bool false)) := by kernel_rfl
theorem ck_4 : ck Tryz.prog 4 = some (false, 1, [.s (.bool false)]) := by kernel_rfl
theorem un_4 : Tryz.prog.underlying 4 = some (.bool) := by kernel_rfl
theorem tk_5 : tk Tryz.prog 5 = .sc (.s (.int .u8 0)) := by kernel_rfl
theorem ck_5 : ck Tryz.prog 5 = some (false, 1, [.s (.int .u8 0)]) := by kernel_rfl
theorem un_5 : Tryz.prog.underlying 5 = some (.int .u8) := by kernel_rfl
theorem ik_5 : Tryz.prog.intKind 5 = .u8 := by kernel_rfl
theorem tk_6 : tk Tryz.prog 6 = .sc (.s (.int .u8 0)) := by kernel_rfl
theorem ck_6 : ck Tryz.prog 6 = some (false, 1, [.s (.int .u8 0)]) := by kernel_rfl
theorem un_6 : Tryz.prog.underlying 6 = some (.int .u8) := by kernel_rfl
theorem ik_6 : Tryz.prog.intKind 6 = .u8 := by kernel_rfl
theorem tk_7 : tk Tryz.prog 7 = .st 4 [(0, 1, false), (1, 1, false), (2, 1, false), (3, 1, false)] [.s (.int .i64 0), .s (.int .i64 0), .s (.bool false), .s (.int .u8 0)] := by kernel_rfl
theorem ck_7 : ck Tryz.prog 7 = some (true, 4, [.s (.int .i64 0), .s (.int .i64 0), .s (.bool false), .s (.int .u8 0)]) := by kernel_rfl
theorem tk_8 : tk Tryz.prog 8 = .st 4 [(0, 1, false), (1, 1, false), (2, 1, false), (3, 1, false)] [.s (.int .i64 0), .s (.int .i64 0), .s (.bool false), .s (.int .u8 0)] := by kernel_rfl
theorem ck_8 : ck Tryz.prog 8 = some (true, 4, [.s (.int .i64 0), .s (.int .i64 0), .s (.bool false), .s (.int .u8 0)]) := by kernel_rfl
theorem tk_9 : tk Tryz.prog 9 = .sc (.s (.string ⟨#[]⟩)) := by kernel_rfl
theorem ck_9 : ck Tryz.prog 9 = some (false, 1, [.s (.string ⟨#[]⟩)]) := by kernel_rfl
theorem un_9 : Tryz.prog.underlying 9 = some (.string) := by kernel_rfl
theorem tk_10 : tk Tryz.prog 10 = .sc (.s (.string ⟨#[]⟩)) := by kernel_rfl
theorem ck_10 : ck Tryz.prog 10 = some (false, 1, [.s (.string ⟨#[]⟩)]) := by kernel_rfl
theorem un_10 : Tryz.prog.underlying 10 = some (.string) := by kernel_rfl
theorem tk_11 : tk Tryz.prog 11 = .sc (.s (.string ⟨#[]⟩)) := by kernel_rfl
theorem ck_11 : ck Tryz.prog 11 = some (false, 1, [.s (.string ⟨#[]⟩)]) := by kernel_rfl
theorem un_11 : Tryz.prog.underlying 11 = some (.string) := by kernel_rfl
theorem tk_12 : tk Tryz.prog 12 = .sc (.s (.int .u64 0)) := by kernel_rfl
theorem ck_12 : ck Tryz.prog 12 = some (false, 1, [.s (.int .u64 0)]) := by kernel_rfl
theorem un_12 : Tryz.prog.underlying 12 = some (.int .u64) := by kernel_rfl
theorem ik_12 : Tryz.prog.intKind 12 = .u64 := by kernel_rfl
theorem tk_13 : tk Tryz.prog 13 = .st 2 [(0, 1, false), (1, 1, false)] [.s (.string ⟨#[]⟩), .s (.int .u64 0)] := by kernel_rfl
theorem ck_13 : ck Tryz.prog 13 = some (true, 2, [.s (.string ⟨#[]⟩), .s (.int .u64 0)]) := by kernel_rfl
theorem tk_14 : tk Tryz.prog 14 = .st 2 [(0, 1, false), (1, 1, false)] [.s (.string ⟨#[]⟩), .s (.int .u64 0)] := by kernel_rfl
theorem ck_14 : ck Tryz.prog 14 = some (true, 2, [.s (.string ⟨#[]⟩), .s (.int .u64 0)]) := by kernel_rfl
theorem tk_15 : tk Tryz.prog 15 = .sc (.np) := by kernel_rfl
theorem ck_15 : ck Tryz.prog 15 = some (false, 1, [.np]) := by kernel_rfl
theorem un_15 : Tryz.prog.underlying 15 = some (.pointer 298) := by kernel_rfl
theorem tk_16 : tk Tryz.prog 16 = .sc (.np) := by kernel_rfl
theorem ck_16 : ck Tryz.prog 16 = some (false, 1, [.np]) := by kernel_rfl
theorem un_16 : Tryz.prog.underlying 16 = some (.pointer 301) := by kernel_rfl
theorem tk_17 : tk Tryz.prog 17 = .sc (.np) := by kernel_rfl
theorem ck_17 : ck Tryz.prog 17 = some (false, 1, [.np]) := by kernel_rfl
theorem un_17 : Tryz.prog.underlying 17 = some (.pointer 311) := by kernel_rfl
theorem tk_18 : tk Tryz.prog 18 = .st 1 [(0, 1, false)] [.np] := by kernel_rfl
theorem ck_18 : ck Tryz.prog 18 = some (true, 1, [.np]) := by kernel_rfl
theorem tk_19 : tk Tryz.prog 19 = .st 1 [(0, 1, false)] [.np] := by kernel_rfl
theorem ck_19 : ck Tryz.prog 19 = some (true, 1, [.np]) := by kernel_rfl
theorem tk_21 : tk Tryz.prog 21 = .sc (.s (.int .i32 0)) := by kernel_rfl
theorem ck_21 : ck Tryz.prog 21 = some (false, 1, [.s (.int .i32 0)]) := by kernel_rfl
theorem un_21 : Tryz.prog.underlying 21 = some (.int .i32) := by kernel_rfl
theorem ik_21 : Tryz.prog.intKind 21 = .i32 := by kernel_rfl
theorem tk_22 : tk Tryz.prog 22 = .sl 118 3 48 [.s (.string ⟨#[]⟩), .s (.int .i64 0), .nil] := by kernel_rfl
theorem ck_22 : ck Tryz.prog 22 = some (false, 1, [.nil]) := by kernel_rfl
theorem el_22 : Tryz.prog.elem 22 = 118 := by kernel_rfl
theorem un_22 : Tryz.prog.underlying 22 = some (.slice 118) := by kernel_rfl
theorem tk_23 : tk Tryz.prog 23 = .sl 122 6 88 [.s (.int .i64 0), .s (.int .i64 0), .s (.int .i64 0), .s (.string ⟨#[]⟩), .nil, .nil] := by kernel_rfl
theorem ck_23 : ck Tryz.prog 23 = some (false, 1, [.nil]) := by kernel_rfl
theorem el_23 : Tryz.prog.elem 23 = 122 := by kernel_rfl
theorem un_23 : Tryz.prog.underlying 23 = some (.slice 122) := by kernel_rfl
theorem tk_24 : tk Tryz.prog 24 = .st 2 [(0, 1, false), (1, 1, false)] [.nil, .nil] := by kernel_rfl
theorem ck_24 : ck Tryz.prog 24 = some (true, 2, [.nil, .nil]) := by kernel_rfl
theorem tk_25 : tk Tryz.prog 25 = .st 2 [(0, 1, false), (1, 1, false)] [.nil, .nil] := by kernel_rfl
theorem ck_25 : ck Tryz.prog 25 = some (true, 2, [.nil, .nil]) := by kernel_rfl
theorem tk_27 : tk Tryz.prog 27 = .sl 63 3 48 [.s (.string ⟨#[]⟩), .s (.int .i64 0), .nil] := by kernel_rfl
theorem ck_27 : ck Tryz.prog 27 = some (false, 1, [.nil]) := by kernel_rfl
theorem el_27 : Tryz.prog.elem 27 = 63 := by kernel_rfl
theorem un_27 : Tryz.prog.underlying 27 = some (.slice 63) := by kernel_rfl
theorem tk_28 : tk Tryz.prog 28 = .sl 55 6 88 [.s (.int .i64 0), .s (.int .i64 0), .s (.int .i64 0), .s (.string ⟨#[]⟩), .nil, .nil] := by kernel_rfl
theorem ck_28 : ck Tryz.prog 28 = some (false, 1, [.nil]) := by kernel_rfl
theorem el_28 : Tryz.prog.elem 28 = 55 := by kernel_rfl
theorem un_28 : Tryz.prog.underlying 28 = some (.slice 55) := by kernel_rfl
theorem tk_29 : tk Tryz.prog 29 = .st 2 [(0, 1, false), (1, 1, false)] [.nil, .nil] := by kernel_rfl
theorem ck_29 : ck Tryz.prog 29 = some (true, 2, [.nil, .nil]) := by kernel_rfl
theorem tk_30 : tk Tryz.prog 30 = .st 2 [(0, 1, false), (1, 1, false)] [.nil, .nil] := by kernel_rfl
theorem ck_30 : ck Tryz.prog 30 = some (true, 2, [.nil, .nil]) := by kernel_rfl
theorem tk_36 : tk Tryz.prog 36 = .sl 5 1 1 [.s (.int .u8 0)] := by kernel_rfl
theorem ck_36 : ck Tryz.prog 36 = some (false, 1, [.nil]) := by kernel_rfl
theorem el_36 : Tryz.prog.elem 36 = 5 := by kernel_rfl
theorem un_36 : Tryz.prog.underlying 36 = some (.slice 5) := by kernel_rfl
theorem tk_40 : tk Tryz.prog 40 = .sl 49 4 40 [.s (.int .i64 0), .s (.int .i64 0), .s (.int .i64 0), .s (.string ⟨#[]⟩)] := by kernel_rfl
theorem ck_40 : ck Tryz.prog 40 = some (false, 1, [.nil]) := by kernel_rfl
theorem el_40 : Tryz.prog.elem 40 = 49 := by kernel_rfl
theorem un_40 : Tryz.prog.underlying 40 = some (.slice 49) := by kernel_rfl
theorem tk_41 : tk Tryz.prog 41 = .sl 89 1 24 [.nil] := by kernel_rfl
theorem ck_41 : ck Tryz.prog 41 = some (false, 1, [.nil]) := by kernel_rfl
theorem el_41 : Tryz.prog.elem 41 = 89 := by kernel_rfl
theorem un_41 : Tryz.prog.underlying 41 = some (.slice 89) := by kernel_rfl
theorem tk_42 : tk Tryz.prog 42 = .st 2 [(0, 1, false), (1, 1, false)] [.nil, .nil] := by kernel_rfl
theorem ck_42 : ck Tryz.prog 42 = some (true, 2, [.nil, .nil]) := by kernel_rfl
theorem tk_43 : tk Tryz.prog 43 = .st 2 [(0, 1, false), (1, 1, false)] [.nil, .nil] := by kernel_rfl
theorem ck_43 : ck Tryz.prog 43 = some (true, 2, [.nil, .nil]) := by kernel_rfl
theorem tk_48 : tk Tryz.prog 48 = .st 4 [(0, 1, false), (1, 1, false), (2, 1, false), (3, 1, false)] [.s (.int .i64 0), .s (.int .i64 0), .s (.int .i64 0), .s (.string ⟨#[]⟩)] := by kernel_rfl
theorem ck_48 : ck Tryz.prog 48 = some (true, 4, [.s (.int .i64 0), .s (.int .i64 0), .s (.int .i64 0), .s (.string ⟨#[]⟩)]) := by kernel_rfl
theorem tk_49 : tk Tryz.prog 49 = .st 4 [(0, 1, false), (1, 1, false), (2, 1, false), (3, 1, false)] [.s (.int .i64 0), .s (.int .i64 0), .s (.int .i64 0), .s (.string ⟨#[]⟩)] := by kernel_rfl
theorem ck_49 : ck Tryz.prog 49 = some (true, 4, [.s (.int .i64 0), .s (.int .i64 0), .s (.int .i64 0), .s (.string ⟨#[]⟩)]) := by kernel_rfl
theorem sq_49 : sqB Tryz.prog 49 [0, 0, 0, 1] = true := by kernel_rfl
theorem tk_53 : tk Tryz.prog 53 = .sl 3 1 8 [.s (.int .i64 0)] := by kernel_rfl
theorem ck_53 : ck Tryz.prog 53 = some (false, 1, [.nil]) := by kernel_rfl
theorem el_53 : Tryz.prog.elem 53 = 3 := by kernel_rfl
theorem un_53 : Tryz.prog.underlying 53 = some (.slice 3) := by kernel_rfl
theorem tk_54 : tk Tryz.prog 54 = .st 6 [(0, 1, false), (1, 1, false), (2, 1, false), (3, 1, false), (4, 1, false), (5, 1, false)] [.s (.int .i64 0), .s (.int .i64 0), .s (.int .i64 0), .s (.string ⟨#[]⟩), .nil, .nil] := by kernel_rfl
theorem ck_54 : ck Tryz.prog 54 = some (true, 6, [.s (.int .i64 0), .s (.int .i64 0), .s (.int .i64 0), .s (.string ⟨#[]⟩), .nil, .nil]) := by kernel_rfl
theorem tk_55 : tk Tryz.prog 55 = .st 6 [(0, 1, false), (1, 1, false), (2, 1, false), (3, 1, false), (4, 1, false), (5, 1, false)] [.s (.int .i64 0), .s (.int .i64 0), .s (.int .i64 0), .s (.string ⟨#[]⟩), .nil, .nil] := by kernel_rfl
theorem ck_55 : ck Tryz.prog 55 = some (true, 6, [.s (.int .i64 0), .s (.int .i64 0), .s (.int .i64 0), .s (.string ⟨#[]⟩), .nil, .nil]) := by kernel_rfl
theorem tk_56 : tk Tryz.prog 56 = .sl 58 7 112 [.s (.int .i64 0), .s (.int .i64 0), .s (.int .i64 0), .s (.string ⟨#[]⟩), .nil, .nil, .nil] := by kernel_rfl
theorem ck_56 : ck Tryz.prog 56 = some (false, 1, [.nil]) := by kernel_rfl
theorem el_56 : Tryz.prog.elem 56 = 58 := by kernel_rfl
theorem un_56 : Tryz.prog.underlying 56 = some (.slice 58) := by kernel_rfl
theorem tk_57 : tk Tryz.prog 57 = .st 7 [(0, 6, true), (6, 1, false)] [.s (.int .i64 0), .s (.int .i64 0), .s (.int .i64 0), .s (.string ⟨#[]⟩), .nil, .nil, .nil] := by kernel_rfl
theorem ck_57 : ck Tryz.prog 57 = some (true, 7, [.s (.int .i64 0), .s (.int .i64 0), .s (.int .i64 0), .s (.string ⟨#[]⟩), .nil, .nil, .nil]) := by kernel_rfl
theorem tk_58 : tk Tryz.prog 58 = .st 7 [(0, 6, true), (6, 1, false)] [.s (.int .i64 0), .s (.int .i64 0), .s (.int .i64 0), .s (.string ⟨#[]⟩), .nil, .nil, .nil] := by kernel_rfl
theorem ck_58 : ck Tryz.prog 58 = some (true, 7, [.s (.int .i64 0), .s (.int .i64 0), .s (.int .i64 0), .s (.string ⟨#[]⟩), .nil, .nil, .nil]) := by kernel_rfl
theorem tk_61 : tk Tryz.prog 61 = .sl 68 3 48 [.s (.string ⟨#[]⟩), .s (.bool false), .nil] := by kernel_rfl
theorem ck_61 : ck Tryz.prog 61 = some (false, 1, [.nil]) := by kernel_rfl
theorem el_61 : Tryz.prog.elem 61 = 68 := by kernel_rfl
theorem un_61 : Tryz.prog.underlying 61 = some (.slice 68) := by kernel_rfl
theorem tk_62 : tk Tryz.prog 62 = .st 3 [(0, 1, false), (1, 1, false), (2, 1, false)] [.s (.string ⟨#[]⟩), .s (.int .i64 0), .nil] := by kernel_rfl
theorem ck_62 : ck Tryz.prog 62 = some (true, 3, [.s (.string ⟨#[]⟩), .s (.int .i64 0), .nil]) := by kernel_rfl
theorem tk_63 : tk Tryz.prog 63 = .st 3 [(0, 1, false), (1, 1, false), (2, 1, false)] [.s (.string ⟨#[]⟩), .s (.int .i64 0), .nil] := by kernel_rfl
theorem ck_63 : ck Tryz.prog 63 = some (true, 3, [.s (.string ⟨#[]⟩), .s (.int .i64 0), .nil]) := by kernel_rfl
theorem tk_64 : tk Tryz.prog 64 = .sl 159 3 32 [.s (.int .i64 0), .s (.string ⟨#[]⟩), .s (.int .i64 0)] := by kernel_rfl
theorem ck_64 : ck Tryz.prog 64 = some (false, 1, [.nil]) := by kernel_rfl
theorem el_64 : Tryz.prog.elem 64 = 159 := by kernel_rfl
theorem un_64 : Tryz.prog.underlying 64 = some (.slice 159) := by kernel_rfl
theorem tk_65 : tk Tryz.prog 65 = .st 1 [(0, 1, false)] [.nil] := by kernel_rfl
theorem ck_65 : ck Tryz.prog 65 = some (true, 1, [.nil]) := by kernel_rfl
theorem tk_66 : tk Tryz.prog 66 = .st 1 [(0, 1, false)] [.nil] := by kernel_rfl
theorem ck_66 : ck Tryz.prog 66 = some (true, 1, [.nil]) := by kernel_rfl
theorem tk_67 : tk Tryz.prog 67 = .st 3 [(0, 1, false), (1, 1, false), (2, 1, true)] [.s (.string ⟨#[]⟩), .s (.bool false), .nil] := by kernel_rfl
theorem ck_67 : ck Tryz.prog 67 = some (true, 3, [.s (.string ⟨#[]⟩), .s (.bool false), .nil]) := by kernel_rfl
theorem tk_68 : tk Tryz.prog 68 = .st 3 [(0, 1, false), (1, 1, false), (2, 1, true)] [.s (.string ⟨#[]⟩), .s (.bool false), .nil] := by kernel_rfl
theorem ck_68 : ck Tryz.prog 68 = some (true, 3, [.s (.string ⟨#[]⟩), .s (.bool false), .nil]) := by kernel_rfl
theorem tk_72 : tk Tryz.prog 72 = .sc (.np) := by kernel_rfl
theorem ck_72 : ck Tryz.prog 72 = some (false, 1, [.np]) := by kernel_rfl
theorem un_72 : Tryz.prog.underlying 72 = some (.pointer 134) := by kernel_rfl
theorem tk_80 : tk Tryz.prog 80 = .sc (.np) := by kernel_rfl
theorem ck_80 : ck Tryz.prog 80 = some (false, 1, [.np]) := by kernel_rfl
theorem un_80 : Tryz.prog.underlying 80 = some (.pointer 145) := by kernel_rfl
theorem tk_87 : tk Tryz.prog 87 = .sl 126 4 56 [.s (.int .i64 0), .s (.int .i64 0), .s (.string ⟨#[]⟩), .nil] := by kernel_rfl
theorem ck_87 : ck Tryz.prog 87 = some (false, 1, [.nil]) := by kernel_rfl
theorem el_87 : Tryz.prog.elem 87 = 126 := by kernel_rfl
theorem un_87 : Tryz.prog.underlying 87 = some (.slice 126) := by kernel_rfl
theorem tk_88 : tk Tryz.prog 88 = .st 1 [(0, 1, false)] [.nil] := by kernel_rfl
theorem ck_88 : ck Tryz.prog 88 = some (true, 1, [.nil]) := by kernel_rfl
theorem tk_89 : tk Tryz.prog 89 = .st 1 [(0, 1, false)] [.nil] := by kernel_rfl
theorem ck_89 : ck Tryz.prog 89 = some (true, 1, [.nil]) := by kernel_rfl
theorem tk_96 : tk Tryz.prog 96 = .sc (.np) := by kernel_rfl
theorem ck_96 : ck Tryz.prog 96 = some (false, 1, [.np]) := by kernel_rfl
theorem un_96 : Tryz.prog.underlying 96 = some (.pointer 99) := by kernel_rfl
theorem tk_97 : tk Tryz.prog 97 = .sl 9 1 16 [.s (.string ⟨#[]⟩)] := by kernel_rfl
theorem ck_97 : ck Tryz.prog 97 = some (false, 1, [.nil]) := by kernel_rfl
theorem el_97 : Tryz.prog.elem 97 = 9 := by kernel_rfl
theorem un_97 : Tryz.prog.underlying 97 = some (.slice 9) := by kernel_rfl
theorem tk_98 : tk Tryz.prog 98 = .st 4 [(0, 2, true), (2, 1, false), (3, 1, false)] [.nil, .nil, .nil, .s (.bool false)] := by kernel_rfl
theorem ck_98 : ck Tryz.prog 98 = some (true, 4, [.nil, .nil, .nil, .s (.bool false)]) := by kernel_rfl
theorem tk_99 : tk Tryz.prog 99 = .st 4 [(0, 2, true), (2, 1, false), (3, 1, false)] [.nil, .nil, .nil, .s (.bool false)] := by kernel_rfl
theorem ck_99 : ck Tryz.prog 99 = some (true, 4, [.nil, .nil, .nil, .s (.bool false)]) := by kernel_rfl
theorem tk_102 : tk Tryz.prog 102 = .sc (.np) := by kernel_rfl
theorem ck_102 : ck Tryz.prog 102 = some (false, 1, [.np]) := by kernel_rfl
theorem un_102 : Tryz.prog.underlying 102 = some (.pointer 104) := by kernel_rfl
theorem tk_103 : tk Tryz.prog 103 = .st 5 [(0, 2, true), (2, 2, true), (4, 1, false)] [.nil, .nil, .nil, .nil, .s (.bool false)] := by kernel_rfl
theorem ck_103 : ck Tryz.prog 103 = some (true, 5, [.nil, .nil, .nil, .nil, .s (.bool false)]) := by kernel_rfl
theorem tk_104 : tk Tryz.prog 104 = .st 5 [(0, 2, true), (2, 2, true), (4, 1, false)] [.nil, .nil, .nil, .nil, .s (.bool false)] := by kernel_rfl
theorem ck_104 : ck Tryz.prog 104 = some (true, 5, [.nil, .nil, .nil, .nil, .s (.bool false)]) := by kernel_rfl
theorem tk_116 : tk Tryz.prog 116 = .sl 255 3 48 [.s (.string ⟨#[]⟩), .s (.bool false), .nil] := by kernel_rfl
theorem ck_116 : ck Tryz.prog 116 = some (false, 1, [.nil]) := by kernel_rfl
theorem el_116 : Tryz.prog.elem 116 = 255 := by kernel_rfl
theorem un_116 : Tryz.prog.underlying 116 = some (.slice 255) := by kernel_rfl
theorem tk_117 : tk Tryz.prog 117 = .st 3 [(0, 1, false), (1, 1, false), (2, 1, false)] [.s (.string ⟨#[]⟩), .s (.int .i64 0), .nil] := by kernel_rfl
theorem ck_117 : ck Tryz.prog 117 = some (true, 3, [.s (.string ⟨#[]⟩), .s (.int .i64 0), .nil]) := by kernel_rfl
theorem tk_118 : tk Tryz.prog 118 = .st 3 [(0, 1, false), (1, 1, false), (2, 1, false)] [.s (.string ⟨#[]⟩), .s (.int .i64 0), .nil] := by kernel_rfl
theorem ck_118 : ck Tryz.prog 118 = some (true, 3, [.s (.string ⟨#[]⟩), .s (.int .i64 0), .nil]) := by kernel_rfl
theorem tk_120 : tk Tryz.prog 120 = .sl 259 1 24 [.nil] := by kernel_rfl
theorem ck_120 : ck Tryz.prog 120 = some (false, 1, [.nil]) := by kernel_rfl
theorem el_120 : Tryz.prog.elem 120 = 259 := by kernel_rfl
theorem un_120 : Tryz.prog.underlying 120 = some (.slice 259) := by kernel_rfl
theorem tk_121 : tk Tryz.prog 121 = .st 6 [(0, 1, false), (1, 1, false), (2, 1, false), (3, 1, false), (4, 1, false), (5, 1, false)] [.s (.int .i64 0), .s (.int .i64 0), .s (.int .i64 0), .s (.string ⟨#[]⟩), .nil, .nil] := by kernel_rfl
theorem ck_121 : ck Tryz.prog 121 = some (true, 6, [.s (.int .i64 0), .s (.int .i64 0), .s (.int .i64 0), .s (.string ⟨#[]⟩), .nil, .nil]) := by kernel_rfl
theorem tk_122 : tk Tryz.prog 122 = .st 6 [(0, 1, false), (1, 1, false), (2, 1, false), (3, 1, false), (4, 1, false), (5, 1, false)] [.s (.int .i64 0), .s (.int .i64 0), .s (.int .i64 0), .s (.string ⟨#[]⟩), .nil, .nil] := by kernel_rfl
theorem ck_122 : ck Tryz.prog 122 = some (true, 6, [.s (.int .i64 0), .s (.int .i64 0), .s (.int .i64 0), .s (.string ⟨#[]⟩), .nil, .nil]) := by kernel_rfl
theorem tk_125 : tk Tryz.prog 125 = .st 4 [(0, 1, false), (1, 1, false), (2, 1, false), (3, 1, false)] [.s (.int .i64 0), .s (.int .i64 0), .s (.string ⟨#[]⟩), .nil] := by kernel_rfl
theorem ck_125 : ck Tryz.prog 125 = some (true, 4, [.s (.int .i64 0), .s (.int .i64 0), .s (.string ⟨#[]⟩), .nil]) := by kernel_rfl
theorem tk_126 : tk Tryz.prog 126 = .st 4 [(0, 1, false), (1, 1, false), (2, 1, false), (3, 1, false)] [.s (.int .i64 0), .s (.int .i64 0), .s (.string ⟨#[]⟩), .nil] := by kernel_rfl
theorem ck_126 : ck Tryz.prog 126 = some (true, 4, [.s (.int .i64 0), .s (.int .i64 0), .s (.string ⟨#[]⟩), .nil]) := by kernel_rfl
theorem tk_132 : tk Tryz.prog 132 = .sl 72 1 8 [.np] := by kernel_rfl
theorem ck_132 : ck Tryz.prog 132 = some (false, 1, [.nil]) := by kernel_rfl
theorem el_132 : Tryz.prog.elem 132 = 72 := by kernel_rfl
theorem un_132 : Tryz.prog.underlying 132 = some (.slice 72) := by kernel_rfl
theorem tk_133 : tk Tryz.prog 133 = .st 6 [(0, 1, false), (1, 1, false), (2, 1, false), (3, 1, false), (4, 1, false), (5, 1, false)] [.s (.int .i64 0), .s (.int .i64 0), .s (.int .i64 0), .s (.string ⟨#[]⟩), .nil, .nil] := by kernel_rfl
theorem ck_133 : ck Tryz.prog 133 = some (true, 6, [.s (.int .i64 0), .s (.int .i64 0), .s (.int .i64 0), .s (.string ⟨#[]⟩), .nil, .nil]) := by kernel_rfl
theorem tk_134 : tk Tryz.prog 134 = .st 6 [(0, 1, false), (1, 1, false), (2, 1, false), (3, 1, false), (4, 1, false), (5, 1, false)] [.s (.int .i64 0), .s (.int .i64 0), .s (.int .i64 0), .s (.string ⟨#[]⟩), .nil, .nil] := by kernel_rfl
theorem ck_134 : ck Tryz.prog 134 = some (true, 6, [.s (.int .i64 0), .s (.int .i64 0), .s (.int .i64 0), .s (.string ⟨#[]⟩), .nil, .nil]) := by kernel_rfl
theorem tk_144 : tk Tryz.prog 144 = .st 3 [(0, 1, false), (1, 1, false), (2, 1, false)] [.nil, .s (.int .i64 0), .s (.int .i64 0)] := by kernel_rfl
theorem ck_144 : ck Tryz.prog 144 = some (true, 3, [.nil, .s (.int .i64 0), .s (.int .i64 0)]) := by kernel_rfl
theorem tk_145 : tk Tryz.prog 145 = .st 3 [(0, 1, false), (1, 1, false), (2, 1, false)] [.nil, .s (.int .i64 0), .s (.int .i64 0)] := by kernel_rfl
theorem ck_145 : ck Tryz.prog 145 = some (true, 3, [.nil, .s (.int .i64 0), .s (.int .i64 0)]) := by kernel_rfl
theorem tk_158 : tk Tryz.prog 158 = .st 3 [(0, 1, false), (1, 1, false), (2, 1, false)] [.s (.int .i64 0), .s (.string ⟨#[]⟩), .s (.int .i64 0)] := by kernel_rfl
theorem ck_158 : ck Tryz.prog 158 = some (true, 3, [.s (.int .i64 0), .s (.string ⟨#[]⟩), .s (.int .i64 0)]) := by kernel_rfl
theorem tk_159 : tk Tryz.prog 159 = .st 3 [(0, 1, false), (1, 1, false), (2, 1, false)] [.s (.int .i64 0), .s (.string ⟨#[]⟩), .s (.int .i64 0)] := by kernel_rfl
theorem ck_159 : ck Tryz.prog 159 = some (true, 3, [.s (.int .i64 0), .s (.string ⟨#[]⟩), .s (.int .i64 0)]) := by kernel_rfl
theorem sq_159 : sqB Tryz.prog 159 [0, 1, 0] = true := by kernel_rfl
theorem tk_172 : tk Tryz.prog 172 = .sl 234 4 40 [.s (.int .i64 0), .s (.int .i64 0), .s (.string ⟨#[]⟩), .s (.int .i64 0)] := by kernel_rfl
theorem ck_172 : ck Tryz.prog 172 = some (false, 1, [.nil]) := by kernel_rfl
theorem el_172 : Tryz.prog.elem 172 = 234 := by kernel_rfl
theorem un_172 : Tryz.prog.underlying 172 = some (.slice 234) := by kernel_rfl
theorem tk_175 : tk Tryz.prog 175 = .sc (.np) := by kernel_rfl
theorem ck_175 : ck Tryz.prog 175 = some (false, 1, [.np]) := by kernel_rfl
theorem un_175 : Tryz.prog.underlying 175 = some (.pointer 177) := by kernel_rfl
theorem tk_176 : tk Tryz.prog 176 = .st 7 [(0, 1, false), (1, 1, false), (2, 1, false), (3, 1, false), (4, 1, false), (5, 1, false), (6, 1, false)] [.nil, .s (.int .i64 0), .s (.int .i64 0), .s (.int .i64 0), .s (.int .i64 0), .nil, .nil] := by kernel_rfl
theorem ck_176 : ck Tryz.prog 176 = some (true, 7, [.nil, .s (.int .i64 0), .s (.int .i64 0), .s (.int .i64 0), .s (.int .i64 0), .nil, .nil]) := by kernel_rfl
theorem tk_177 : tk Tryz.prog 177 = .st 7 [(0, 1, false), (1, 1, false), (2, 1, false), (3, 1, false), (4, 1, false), (5, 1, false), (6, 1, false)] [.nil, .s (.int .i64 0), .s (.int .i64 0), .s (.int .i64 0), .s (.int .i64 0), .nil, .nil] := by kernel_rfl
theorem ck_177 : ck Tryz.prog 177 = some (true, 7, [.nil, .s (.int .i64 0), .s (.int .i64 0), .s (.int .i64 0), .s (.int .i64 0), .nil, .nil]) := by kernel_rfl
theorem tk_199 : tk Tryz.prog 199 = .sc (.np) := by kernel_rfl
theorem ck_199 : ck Tryz.prog 199 = some (false, 1, [.np]) := by kernel_rfl
theorem un_199 : Tryz.prog.underlying 199 = some (.pointer 202) := by kernel_rfl
theorem tk_200 : tk Tryz.prog 200 = .sl 205 5 80 [.s (.int .i64 0), .s (.int .i64 0), .s (.string ⟨#[]⟩), .nil, .nil] := by kernel_rfl
theorem ck_200 : ck Tryz.prog 200 = some (false, 1, [.nil]) := by kernel_rfl
theorem el_200 : Tryz.prog.elem 200 = 205 := by kernel_rfl
theorem un_200 : Tryz.prog.underlying 200 = some (.slice 205) := by kernel_rfl
theorem tk_201 : tk Tryz.prog 201 = .st 9 [(0, 2, true), (2, 1, false), (3, 1, false), (4, 1, false), (5, 1, false), (6, 1, false), (7, 1, false), (8, 1, false)] [.nil, .nil, .nil, .s (.int .i64 0), .s (.int .i64 0), .nil, .nil, .s (.int .i64 0), .s (.int .i64 0)] := by kernel_rfl
theorem ck_201 : ck Tryz.prog 201 = some (true, 9, [.nil, .nil, .nil, .s (.int .i64 0), .s (.int .i64 0), .nil, .nil, .s (.int .i64 0), .s (.int .i64 0)]) := by kernel_rfl
theorem tk_202 : tk Tryz.prog 202 = .st 9 [(0, 2, true), (2, 1, false), (3, 1, false), (4, 1, false), (5, 1, false), (6, 1, false), (7, 1, false), (8, 1, false)] [.nil, .nil, .nil, .s (.int .i64 0), .s (.int .i64 0), .nil, .nil, .s (.int .i64 0), .s (.int .i64 0)] := by kernel_rfl
theorem ck_202 : ck Tryz.prog 202 = some (true, 9, [.nil, .nil, .nil, .s (.int .i64 0), .s (.int .i64 0), .nil, .nil, .s (.int .i64 0), .s (.int .i64 0)]) := by kernel_rfl
theorem tk_203 : tk Tryz.prog 203 = .sl 313 6 96 [.s (.string ⟨#[]⟩), .s (.int .i64 0), .s (.int .i64 0), .s (.string ⟨#[]⟩), .nil, .nil] := by kernel_rfl
theorem ck_203 : ck Tryz.prog 203 = some (false, 1, [.nil]) := by kernel_rfl
theorem el_203 : Tryz.prog.elem 203 = 313 := by kernel_rfl
theorem un_203 : Tryz.prog.underlying 203 = some (.slice 313) := by kernel_rfl
theorem tk_204 : tk Tryz.prog 204 = .st 5 [(0, 1, false), (1, 1, false), (2, 1, false), (3, 1, false), (4, 1, false)] [.s (.int .i64 0), .s (.int .i64 0), .s (.string ⟨#[]⟩), .nil, .nil] := by kernel_rfl
theorem ck_204 : ck Tryz.prog 204 = some (true, 5, [.s (.int .i64 0), .s (.int .i64 0), .s (.string ⟨#[]⟩), .nil, .nil]) := by kernel_rfl
theorem tk_205 : tk Tryz.prog 205 = .st 5 [(0, 1, false), (1, 1, false), (2, 1, false), (3, 1, false), (4, 1, false)] [.s (.int .i64 0), .s (.int .i64 0), .s (.string ⟨#[]⟩), .nil, .nil] := by kernel_rfl
theorem ck_205 : ck Tryz.prog 205 = some (true, 5, [.s (.int .i64 0), .s (.int .i64 0), .s (.string ⟨#[]⟩), .nil, .nil]) := by kernel_rfl
theorem tk_230 : tk Tryz.prog 230 = .sc (.s (.int .u64 0)) := by kernel_rfl
theorem ck_230 : ck Tryz.prog 230 = some (false, 1, [.s (.int .u64 0)]) := by kernel_rfl
theorem un_230 : Tryz.prog.underlying 230 = some (.int .u64) := by kernel_rfl
theorem ik_230 : Tryz.prog.intKind 230 = .u64 := by kernel_rfl
theorem tk_233 : tk Tryz.prog 233 = .st 4 [(0, 1, false), (1, 1, false), (2, 1, false), (3, 1, false)] [.s (.int .i64 0), .s (.int .i64 0), .s (.string ⟨#[]⟩), .s (.int .i64 0)] := by kernel_rfl
theorem ck_233 : ck Tryz.prog 233 = some (true, 4, [.s (.int .i64 0), .s (.int .i64 0), .s (.string ⟨#[]⟩), .s (.int .i64 0)]) := by kernel_rfl
theorem tk_234 : tk Tryz.prog 234 = .st 4 [(0, 1, false), (1, 1, false), (2, 1, false), (3, 1, false)] [.s (.int .i64 0), .s (.int .i64 0), .s (.string ⟨#[]⟩), .s (.int .i64 0)] := by kernel_rfl
theorem ck_234 : ck Tryz.prog 234 = some (true, 4, [.s (.int .i64 0), .s (.int .i64 0), .s (.string ⟨#[]⟩), .s (.int .i64 0)]) := by kernel_rfl
theorem sq_234 : sqB Tryz.prog 234 [0, 0, 1, 0] = true := by kernel_rfl
theorem tk_251 : tk Tryz.prog 251 = .sl 293 3 32 [.s (.int .i64 0), .s (.string ⟨#[]⟩), .s (.int .i64 0)] := by kernel_rfl
theorem ck_251 : ck Tryz.prog 251 = some (false, 1, [.nil]) := by kernel_rfl
theorem el_251 : Tryz.prog.elem 251 = 293 := by kernel_rfl
theorem un_251 : Tryz.prog.underlying 251 = some (.slice 293) := by kernel_rfl
theorem tk_252 : tk Tryz.prog 252 = .st 1 [(0, 1, false)] [.nil] := by kernel_rfl
theorem ck_252 : ck Tryz.prog 252 = some (true, 1, [.nil]) := by kernel_rfl
theorem tk_253 : tk Tryz.prog 253 = .st 1 [(0, 1, false)] [.nil] := by kernel_rfl
theorem ck_253 : ck Tryz.prog 253 = some (true, 1, [.nil]) := by kernel_rfl
theorem tk_254 : tk Tryz.prog 254 = .st 3 [(0, 1, false), (1, 1, false), (2, 1, true)] [.s (.string ⟨#[]⟩), .s (.bool false), .nil] := by kernel_rfl
theorem ck_254 : ck Tryz.prog 254 = some (true, 3, [.s (.string ⟨#[]⟩), .s (.bool false), .nil]) := by kernel_rfl
theorem tk_255 : tk Tryz.prog 255 = .st 3 [(0, 1, false), (1, 1, false), (2, 1, true)] [.s (.string ⟨#[]⟩), .s (.bool false), .nil] := by kernel_rfl
theorem ck_255 : ck Tryz.prog 255 = some (true, 3, [.s (.string ⟨#[]⟩), .s (.bool false), .nil]) := by kernel_rfl
theorem tk_257 : tk Tryz.prog 257 = .sl 289 4 56 [.s (.int .i64 0), .s (.int .i64 0), .s (.string ⟨#[]⟩), .nil] := by kernel_rfl
theorem ck_257 : ck Tryz.prog 257 = some (false, 1, [.nil]) := by kernel_rfl
theorem el_257 : Tryz.prog.elem 257 = 289 := by kernel_rfl
theorem un_257 : Tryz.prog.underlying 257 = some (.slice 289) := by kernel_rfl
theorem tk_258 : tk Tryz.prog 258 = .st 1 [(0, 1, false)] [.nil] := by kernel_rfl
theorem ck_258 : ck Tryz.prog 258 = some (true, 1, [.nil]) := by kernel_rfl
theorem tk_259 : tk Tryz.prog 259 = .st 1 [(0, 1, false)] [.nil] := by kernel_rfl
theorem ck_259 : ck Tryz.prog 259 = some (true, 1, [.nil]) := by kernel_rfl
theorem tk_271 : tk Tryz.prog 271 = .sl 66 1 24 [.nil] := by kernel_rfl
theorem ck_271 : ck Tryz.prog 271 = some (false, 1, [.nil]) := by kernel_rfl
theorem el_271 : Tryz.prog.elem 271 = 66 := by kernel_rfl
theorem un_271 : Tryz.prog.underlying 271 = some (.slice 66) := by kernel_rfl
theorem tk_273 : tk Tryz.prog 273 = .sl 275 5 80 [.s (.int .i64 0), .s (.int .i64 0), .s (.string ⟨#[]⟩), .nil, .nil] := by kernel_rfl
theorem ck_273 : ck Tryz.prog 273 = some (false, 1, [.nil]) := by kernel_rfl
theorem el_273 : Tryz.prog.elem 273 = 275 := by kernel_rfl
theorem un_273 : Tryz.prog.underlying 273 = some (.slice 275) := by kernel_rfl
theorem tk_274 : tk Tryz.prog 274 = .st 5 [(0, 4, true), (4, 1, false)] [.s (.int .i64 0), .s (.int .i64 0), .s (.string ⟨#[]⟩), .nil, .nil] := by kernel_rfl
theorem ck_274 : ck Tryz.prog 274 = some (true, 5, [.s (.int .i64 0), .s (.int .i64 0), .s (.string ⟨#[]⟩), .nil, .nil]) := by kernel_rfl
theorem tk_275 : tk Tryz.prog 275 = .st 5 [(0, 4, true), (4, 1, false)] [.s (.int .i64 0), .s (.int .i64 0), .s (.string ⟨#[]⟩), .nil, .nil] := by kernel_rfl
theorem ck_275 : ck Tryz.prog 275 = some (true, 5, [.s (.int .i64 0), .s (.int .i64 0), .s (.string ⟨#[]⟩), .nil, .nil]) := by kernel_rfl
theorem tk_289 : tk Tryz.prog 289 = .st 4 [(0, 1, false), (1, 1, false), (2, 1, false), (3, 1, false)] [.s (.int .i64 0), .s (.int .i64 0), .s (.string ⟨#[]⟩), .nil] := by kernel_rfl
theorem ck_289 : ck Tryz.prog 289 = some (true, 4, [.s (.int .i64 0), .s (.int .i64 0), .s (.string ⟨#[]⟩), .nil]) := by kernel_rfl
theorem tk_293 : tk Tryz.prog 293 = .st 3 [(0, 1, false), (1, 1, false), (2, 1, false)] [.s (.int .i64 0), .s (.string ⟨#[]⟩), .s (.int .i64 0)] := by kernel_rfl
theorem ck_293 : ck Tryz.prog 293 = some (true, 3, [.s (.int .i64 0), .s (.string ⟨#[]⟩), .s (.int .i64 0)]) := by kernel_rfl
theorem sq_293 : sqB Tryz.prog 293 [0, 1, 0] = true := by kernel_rfl
theorem tk_297 : tk Tryz.prog 297 = .st 4 [(0, 1, false), (1, 1, false), (2, 1, false), (3, 1, false)] [.np, .np, .np, .s (.string ⟨#[]⟩)] := by kernel_rfl
theorem ck_297 : ck Tryz.prog 297 = some (true, 4, [.np, .np, .np, .s (.string ⟨#[]⟩)]) := by kernel_rfl
theorem tk_298 : tk Tryz.prog 298 = .st 4 [(0, 1, false), (1, 1, false), (2, 1, false), (3, 1, false)] [.np, .np, .np, .s (.string ⟨#[]⟩)] := by kernel_rfl
theorem ck_298 : ck Tryz.prog 298 = some (true, 4, [.np, .np, .np, .s (.string ⟨#[]⟩)]) := by kernel_rfl
theorem tk_303 : tk Tryz.prog 303 = .sc (.s (.int .u32 0)) := by kernel_rfl
theorem ck_303 : ck Tryz.prog 303 = some (false, 1, [.s (.int .u32 0)]) := by kernel_rfl
theorem un_303 : Tryz.prog.underlying 303 = some (.int .u32) := by kernel_rfl
theorem ik_303 : Tryz.prog.intKind 303 = .u32 := by kernel_rfl
theorem tk_304 : tk Tryz.prog 304 = .sc (.s (.int .u8 0)) := by kernel_rfl
theorem ck_304 : ck Tryz.prog 304 = some (false, 1, [.s (.int .u8 0)]) := by kernel_rfl
theorem un_304 : Tryz.prog.underlying 304 = some (.int .u8) := by kernel_rfl
theorem ik_304 : Tryz.prog.intKind 304 = .u8 := by kernel_rfl
theorem tk_305 : tk Tryz.prog 305 = .sc (.s (.int .u8 0)) := by kernel_rfl
theorem ck_305 : ck Tryz.prog 305 = some (false, 1, [.s (.int .u8 0)]) := by kernel_rfl
theorem un_305 : Tryz.prog.underlying 305 = some (.int .u8) := by kernel_rfl
theorem ik_305 : Tryz.prog.intKind 305 = .u8 := by kernel_rfl
theorem tk_307 : tk Tryz.prog 307 = .sc (.np) := by kernel_rfl
theorem ck_307 : ck Tryz.prog 307 = some (false, 1, [.np]) := by kernel_rfl
theorem un_307 : Tryz.prog.underlying 307 = some (.pointer 5) := by kernel_rfl
theorem tk_308 : tk Tryz.prog 308 = .sc (.s (.int .i32 0)) := by kernel_rfl
theorem ck_308 : ck Tryz.prog 308 = some (false, 1, [.s (.int .i32 0)]) := by kernel_rfl
theorem un_308 : Tryz.prog.underlying 308 = some (.int .i32) := by kernel_rfl
theorem ik_308 : Tryz.prog.intKind 308 = .i32 := by kernel_rfl
theorem tk_309 : tk Tryz.prog 309 = .sc (.s (.int .i32 0)) := by kernel_rfl
theorem ck_309 : ck Tryz.prog 309 = some (false, 1, [.s (.int .i32 0)]) := by kernel_rfl
theorem un_309 : Tryz.prog.underlying 309 = some (.int .i32) := by kernel_rfl
theorem ik_309 : Tryz.prog.intKind 309 = .i32 := by kernel_rfl
theorem tk_312 : tk Tryz.prog 312 = .st 6 [(0, 1, false), (1, 5, true)] [.s (.string ⟨#[]⟩), .s (.int .i64 0), .s (.int .i64 0), .s (.string ⟨#[]⟩), .nil, .nil] := by kernel_rfl
theorem ck_312 : ck Tryz.prog 312 = some (true, 6, [.s (.string ⟨#[]⟩), .s (.int .i64 0), .s (.int .i64 0), .s (.string ⟨#[]⟩), .nil, .nil]) := by kernel_rfl
theorem tk_313 : tk Tryz.prog 313 = .st 6 [(0, 1, false), (1, 5, true)] [.s (.string ⟨#[]⟩), .s (.int .i64 0), .s (.int .i64 0), .s (.string ⟨#[]⟩), .nil, .nil] := by kernel_rfl
theorem ck_313 : ck Tryz.prog 313 = some (true, 6, [.s (.string ⟨#[]⟩), .s (.int .i64 0), .s (.int .i64 0), .s (.string ⟨#[]⟩), .nil, .nil]) := by kernel_rfl
theorem mixed : Tryz.prog.follows .mixedOrders = true := by kernel_rfl
def mdT : FuncId → List Nat
  | 7 => [2]
  | 11 => [1, 0]
  | 19 => [2]
  | 24 => [1, 2]
  | 25 => [2]
  | 30 => [1, 0]
  | 35 => [1, 0]
  | 36 => [1, 0]
  | 40 => [1]
  | 53 => [1, 0]
  | 55 => [1, 0]
  | 56 => [1, 0]
  | 57 => [1, 0, 2]
  | 58 => [1, 0, 0, 0, 0]
  | 72 => [2]
  | 77 => [1, 0]
  | 87 => [1, 0]
  | 88 => [1, 0]
  | 89 => [1, 0]
  | 93 => [1]
  | 94 => [1]
  | 126 => [1]
  | 129 => [1]
  | 130 => [1, 0]
  | 131 => [1, 0]
  | 133 => [1, 0]
  | 134 => [1, 0, 0, 2]
  | 135 => [1, 0, 2]
  | 136 => [1, 0]
  | 137 => [1, 0]
  | 139 => [1, 0, 0]
  | 140 => [1, 0, 0, 2]
  | 143 => [1, 0, 2]
  | 154 => [0, 0, 0, 2]
  | 155 => [1, 0, 0, 0]
  | 169 => [1, 0]
  | 170 => [1, 0]
  | 173 => [1]
  | 174 => [1]
  | 175 => [1]
  | 199 => [1]
  | 200 => [1, 0]
  | 201 => [1, 0]
  | 202 => [1, 0]
  | 203 => [1, 0]
  | 205 => [1, 0, 0]
  | 206 => [1, 0]
  | 211 => [1, 0, 0]
  | 231 => [1, 0]
  | 232 => [1]
  | 233 => [1]
  | 241 => [1, 0]
  | 245 => [1, 0]
  | 246 => [1, 2]
  | 247 => [1, 0]
  | 259 => [1, 0]
  | 261 => [1]
  | 264 => [1, 0]
  | 265 => [1, 0, 0]
  | 272 => [1, 0]
  | 276 => [1, 0]
  | 277 => [1, 0]
  | _ => []
noncomputable def PM : Md := ⟨Tryz.prog, mdT, mixed, false, fun _ => false⟩
theorem PM_P : PM.P = Tryz.prog := rfl
theorem PM_lr (i : Nat) : PM.lr i = false := rfl
/-- the same; the guards of the regions l are known. -/
noncomputable def PMr (l : List Nat) : Md := ⟨Tryz.prog, mdT, mixed, false, litB l⟩
theorem PMr_P (l : List Nat) : (PMr l).P = Tryz.prog := rfl
theorem PMr_lr (l : List Nat) (i : Nat) : (PMr l).lr i = litB l i := rfl
theorem PMr_md (l : List Nat) : (PMr l).md = PM.md := rfl
theorem md_0 : PM.md 0 = [] := rfl
theorem md_1 : PM.md 1 = [] := rfl
theorem md_2 : PM.md 2 = [] := rfl
theorem md_3 : PM.md 3 = [] := rfl
theorem md_4 : PM.md 4 = [] := rfl
theorem md_5 : PM.md 5 = [] := rfl
theorem md_6 : PM.md 6 = [] := rfl
theorem md_7 : PM.md 7 = [2] := rfl
theorem md_8 : PM.md 8 = [] := rfl
theorem md_9 : PM.md 9 = [] := rfl
theorem md_10 : PM.md 10 = [] := rfl
theorem md_11 : PM.md 11 = [1, 0] := rfl
theorem md_12 : PM.md 12 = [] := rfl
theorem md_13 : PM.md 13 = [] := rfl
theorem md_14 : PM.md 14 = [] := rfl
theorem md_15 : PM.md 15 = [] := rfl
theorem md_16 : PM.md 16 = [] := rfl
theorem md_17 : PM.md 17 = [] := rfl
theorem md_18 : PM.md 18 = [] := rfl
theorem md_19 : PM.md 19 = [2] := rfl
theorem md_20 : PM.md 20 = [] := rfl
theorem md_21 : PM.md 21 = [] := rfl
theorem md_22 : PM.md 22 = [] := rfl
theorem md_23 : PM.md 23 = [] := rfl
theorem md_24 : PM.md 24 = [1, 2] := rfl
theorem md_25 : PM.md 25 = [2] := rfl
theorem md_26 : PM.md 26 = [] := rfl
theorem md_27 : PM.md 27 = [] := rfl
theorem md_28 : PM.md 28 = [] := rfl
theorem md_29 : PM.md 29 = [] := rfl
theorem md_30 : PM.md 30 = [1, 0] := rfl
theorem md_31 : PM.md 31 = [] := rfl
theorem md_32 : PM.md 32 = [] := rfl
theorem md_33 : PM.md 33 = [] := rfl
theorem md_34 : PM.md 34 = [] := rfl
theorem md_35 : PM.md 35 = [1, 0] := rfl
theorem md_36 : PM.md 36 = [1, 0] := rfl
theorem md_37 : PM.md 37 = [] := rfl
theorem md_38 : PM.md 38 = [] := rfl
theorem md_39 : PM.md 39 = [] := rfl
theorem md_40 : PM.md 40 = [1] := rfl
theorem md_41 : PM.md 41 = [] := rfl
theorem md_42 : PM.md 42 = [] := rfl
theorem md_43 : PM.md 43 = [] := rfl
theorem md_44 : PM.md 44 = [] := rfl
theorem md_45 : PM.md 45 = [] := rfl
theorem md_46 : PM.md 46 = [] := rfl
theorem md_47 : PM.md 47 = [] := rfl
theorem md_48 : PM.md 48 = [] := rfl
theorem md_49 : PM.md 49 = [] := rfl
theorem md_50 : PM.md 50 = [] := rfl
theorem md_51 : PM.md 51 = [] := rfl
theorem md_52 : PM.md 52 = [] := rfl
theorem md_53 : PM.md 53 = [1, 0] := rfl
theorem md_54 : PM.md 54 = [] := rfl
theorem md_55 : PM.md 55 = [1, 0] := rfl
theorem md_56 : PM.md 56 = [1, 0] := rfl
theorem md_57 : PM.md 57 = [1, 0, 2] := rfl
theorem md_58 : PM.md 58 = [1, 0, 0, 0, 0] := rfl
theorem md_59 : PM.md 59 = [] := rfl
theorem md_60 : PM.md 60 = [] := rfl
theorem md_61 : PM.md 61 = [] := rfl
theorem md_62 : PM.md 62 = [] := rfl
theorem md_63 : PM.md 63 = [] := rfl
theorem md_64 : PM.md 64 = [] := rfl
theorem md_65 : PM.md 65 = [] := rfl
theorem md_66 : PM.md 66 = [] := rfl
theorem md_67 : PM.md 67 = [] := rfl
theorem md_68 : PM.md 68 = [] := rfl
theorem md_69 : PM.md 69 = [] := rfl
theorem md_70 : PM.md 70 = [] := rfl
theorem md_71 : PM.md 71 = [] := rfl
theorem md_72 : PM.md 72 = [2] := rfl
theorem md_73 : PM.md 73 = [] := rfl
theorem md_74 : PM.md 74 = [] := rfl
theorem md_75 : PM.md 75 = [] := rfl
theorem md_76 : PM.md 76 = [] := rfl
theorem md_77 : PM.md 77 = [1, 0] := rfl
theorem md_78 : PM.md 78 = [] := rfl
theorem md_79 : PM.md 79 = [] := rfl
theorem md_80 : PM.md 80 = [] := rfl
theorem md_81 : PM.md 81 = [] := rfl
theorem md_82 : PM.md 82 = [] := rfl
theorem md_83 : PM.md 83 = [] := rfl
theorem md_84 : PM.md 84 = [] := rfl
theorem md_85 : PM.md 85 = [] := rfl
theorem md_86 : PM.md 86 = [] := rfl
theorem md_87 : PM.md 87 = [1, 0] := rfl
theorem md_88 : PM.md 88 = [1, 0] := rfl
theorem md_89 : PM.md 89 = [1, 0] := rfl
theorem md_90 : PM.md 90 = [] := rfl
theorem md_91 : PM.md 91 = [] := rfl
theorem md_92 : PM.md 92 = [] := rfl
theorem md_93 : PM.md 93 = [1] := rfl
theorem md_94 : PM.md 94 = [1] := rfl
theorem md_95 : PM.md 95 = [] := rfl
theorem md_96 : PM.md 96 = [] := rfl
theorem md_97 : PM.md 97 = [] := rfl
theorem md_98 : PM.md 98 = [] := rfl
theorem md_99 : PM.md 99 = [] := rfl
theorem md_100 : PM.md 100 = [] := rfl
theorem md_101 : PM.md 101 = [] := rfl
theorem md_102 : PM.md 102 = [] := rfl
theorem md_103 : PM.md 103 = [] := rfl
theorem md_104 : PM.md 104 = [] := rfl
theorem md_105 : PM.md 105 = [] := rfl
theorem md_106 : PM.md 106 = [] := rfl
theorem md_107 : PM.md 107 = [] := rfl
theorem md_108 : PM.md 108 = [] := rfl
theorem md_109 : PM.md 109 = [] := rfl
theorem md_110 : PM.md 110 = [] := rfl
theorem md_111 : PM.md 111 = [] := rfl
theorem md_112 : PM.md 112 = [] := rfl
theorem md_113 : PM.md 113 = [] := rfl
theorem md_114 : PM.md 114 = [] := rfl
theorem md_115 : PM.md 115 = [] := rfl
theorem md_116 : PM.md 116 = [] := rfl
theorem md_117 : PM.md 117 = [] := rfl
theorem md_118 : PM.md 118 = [] := rfl
theorem md_119 : PM.md 119 = [] := rfl
theorem md_120 : PM.md 120 = [] := rfl
theorem md_121 : PM.md 121 = [] := rfl
theorem md_122 : PM.md 122 = [] := rfl
theorem md_123 : PM.md 123 = [] := rfl
theorem md_124 : PM.md 124 = [] := rfl
theorem md_125 : PM.md 125 = [] := rfl
theorem md_126 : PM.md 126 = [1] := rfl
theorem md_127 : PM.md 127 = [] := rfl
theorem md_128 : PM.md 128 = [] := rfl
theorem md_129 : PM.md 129 = [1] := rfl
theorem md_130 : PM.md 130 = [1, 0] := rfl
theorem md_131 : PM.md 131 = [1, 0] := rfl
theorem md_132 : PM.md 132 = [] := rfl
theorem md_133 : PM.md 133 = [1, 0] := rfl
theorem md_134 : PM.md 134 = [1, 0, 0, 2] := rfl
theorem md_135 : PM.md 135 = [1, 0, 2] := rfl
theorem md_136 : PM.md 136 = [1, 0] := rfl
theorem md_137 : PM.md 137 = [1, 0] := rfl
theorem md_138 : PM.md 138 = [] := rfl
theorem md_139 : PM.md 139 = [1, 0, 0] := rfl
theorem md_140 : PM.md 140 = [1, 0, 0, 2] := rfl
theorem md_141 : PM.md 141 = [] := rfl
theorem md_142 : PM.md 142 = [] := rfl
theorem md_143 : PM.md 143 = [1, 0, 2] := rfl
theorem md_144 : PM.md 144 = [] := rfl
theorem md_145 : PM.md 145 = [] := rfl
theorem md_146 : PM.md 146 = [] := rfl
theorem md_147 : PM.md 147 = [] := rfl
theorem md_148 : PM.md 148 = [] := rfl
theorem md_149 : PM.md 149 = [] := rfl
theorem md_150 : PM.md 150 = [] := rfl
theorem md_151 : PM.md 151 = [] := rfl
theorem md_152 : PM.md 152 = [] := rfl
theorem md_153 : PM.md 153 = [] := rfl
theorem md_154 : PM.md 154 = [0, 0, 0, 2] := rfl
theorem md_155 : PM.md 155 = [1, 0, 0, 0] := rfl
theorem md_156 : PM.md 156 = [] := rfl
theorem md_157 : PM.md 157 = [] := rfl
theorem md_158 : PM.md 158 = [] := rfl
theorem md_159 : PM.md 159 = [] := rfl
theorem md_160 : PM.md 160 = [] := rfl
theorem md_161 : PM.md 161 = [] := rfl
theorem md_162 : PM.md 162 = [] := rfl
theorem md_163 : PM.md 163 = [] := rfl
theorem md_164 : PM.md 164 = [] := rfl
theorem md_165 : PM.md 165 = [] := rfl
theorem md_166 : PM.md 166 = [] := rfl
theorem md_167 : PM.md 167 = [] := rfl
theorem md_168 : PM.md 168 = [] := rfl
theorem md_169 : PM.md 169 = [1, 0] := rfl
theorem md_170 : PM.md 170 = [1, 0] := rfl
theorem md_171 : PM.md 171 = [] := rfl
theorem md_172 : PM.md 172 = [] := rfl
theorem md_173 : PM.md 173 = [1] := rfl
theorem md_174 : PM.md 174 = [1] := rfl
theorem md_175 : PM.md 175 = [1] := rfl
theorem md_176 : PM.md 176 = [] := rfl
theorem md_177 : PM.md 177 = [] := rfl
theorem md_178 : PM.md 178 = [] := rfl
theorem md_179 : PM.md 179 = [] := rfl
theorem md_180 : PM.md 180 = [] := rfl
theorem md_181 : PM.md 181 = [] := rfl
theorem md_182 : PM.md 182 = [] := rfl
theorem md_183 : PM.md 183 = [] := rfl
theorem md_184 : PM.md 184 = [] := rfl
theorem md_185 : PM.md 185 = [] := rfl
theorem md_186 : PM.md 186 = [] := rfl
theorem md_187 : PM.md 187 = [] := rfl
theorem md_188 : PM.md 188 = [] := rfl
theorem md_189 : PM.md 189 = [] := rfl
theorem md_190 : PM.md 190 = [] := rfl
theorem md_191 : PM.md 191 = [] := rfl
theorem md_192 : PM.md 192 = [] := rfl
theorem md_193 : PM.md 193 = [] := rfl
theorem md_194 : PM.md 194 = [] := rfl
theorem md_195 : PM.md 195 = [] := rfl
theorem md_196 : PM.md 196 = [] := rfl
theorem md_197 : PM.md 197 = [] := rfl
theorem md_198 : PM.md 198 = [] := rfl
theorem md_199 : PM.md 199 = [1] := rfl
theorem md_200 : PM.md 200 = [1, 0] := rfl
theorem md_201 : PM.md 201 = [1, 0] := rfl
theorem md_202 : PM.md 202 = [1, 0] := rfl
theorem md_203 : PM.md 203 = [1, 0] := rfl
theorem md_204 : PM.md 204 = [] := rfl
theorem md_205 : PM.md 205 = [1, 0, 0] := rfl
theorem md_206 : PM.md 206 = [1, 0] := rfl
theorem md_207 : PM.md 207 = [] := rfl
theorem md_208 : PM.md 208 = [] := rfl
theorem md_209 : PM.md 209 = [] := rfl
theorem md_210 : PM.md 210 = [] := rfl
theorem md_211 : PM.md 211 = [1, 0, 0] := rfl
theorem md_212 : PM.md 212 = [] := rfl
theorem md_213 : PM.md 213 = [] := rfl
theorem md_214 : PM.md 214 = [] := rfl
theorem md_215 : PM.md 215 = [] := rfl
theorem md_216 : PM.md 216 = [] := rfl
theorem md_217 : PM.md 217 = [] := rfl
theorem md_218 : PM.md 218 = [] := rfl
theorem md_219 : PM.md 219 = [] := rfl
theorem md_220 : PM.md 220 = [] := rfl
theorem md_221 : PM.md 221 = [] := rfl
theorem md_222 : PM.md 222 = [] := rfl
theorem md_223 : PM.md 223 = [] := rfl
theorem md_224 : PM.md 224 = [] := rfl
theorem md_225 : PM.md 225 = [] := rfl
theorem md_226 : PM.md 226 = [] := rfl
theorem md_227 : PM.md 227 = [] := rfl
theorem md_228 : PM.md 228 = [] := rfl
theorem md_229 : PM.md 229 = [] := rfl
theorem md_230 : PM.md 230 = [] := rfl
theorem md_231 : PM.md 231 = [1, 0] := rfl
theorem md_232 : PM.md 232 = [1] := rfl
theorem md_233 : PM.md 233 = [1] := rfl
theorem md_234 : PM.md 234 = [] := rfl
theorem md_235 : PM.md 235 = [] := rfl
theorem md_236 : PM.md 236 = [] := rfl
theorem md_237 : PM.md 237 = [] := rfl
theorem md_238 : PM.md 238 = [] := rfl
theorem md_239 : PM.md 239 = [] := rfl
theorem md_240 : PM.md 240 = [] := rfl
theorem md_241 : PM.md 241 = [1, 0] := rfl
theorem md_242 : PM.md 242 = [] := rfl
theorem md_243 : PM.md 243 = [] := rfl
theorem md_244 : PM.md 244 = [] := rfl
theorem md_245 : PM.md 245 = [1, 0] := rfl
theorem md_246 : PM.md 246 = [1, 2] := rfl
theorem md_247 : PM.md 247 = [1, 0] := rfl
theorem md_248 : PM.md 248 = [] := rfl
theorem md_249 : PM.md 249 = [] := rfl
theorem md_250 : PM.md 250 = [] := rfl
theorem md_251 : PM.md 251 = [] := rfl
theorem md_252 : PM.md 252 = [] := rfl
theorem md_253 : PM.md 253 = [] := rfl
theorem md_254 : PM.md 254 = [] := rfl
theorem md_255 : PM.md 255 = [] := rfl
theorem md_256 : PM.md 256 = [] := rfl
theorem md_257 : PM.md 257 = [] := rfl
theorem md_258 : PM.md 258 = [] := rfl
theorem md_259 : PM.md 259 = [1, 0] := rfl
theorem md_260 : PM.md 260 = [] := rfl
theorem md_261 : PM.md 261 = [1] := rfl
theorem md_262 : PM.md 262 = [] := rfl
theorem md_263 : PM.md 263 = [] := rfl
theorem md_264 : PM.md 264 = [1, 0] := rfl
theorem md_265 : PM.md 265 = [1, 0, 0] := rfl
theorem md_266 : PM.md 266 = [] := rfl
theorem md_267 : PM.md 267 = [] := rfl
theorem md_268 : PM.md 268 = [] := rfl
theorem md_269 : PM.md 269 = [] := rfl
theorem md_270 : PM.md 270 = [] := rfl
theorem md_271 : PM.md 271 = [] := rfl
theorem md_272 : PM.md 272 = [1, 0] := rfl
theorem md_273 : PM.md 273 = [] := rfl
theorem md_274 : PM.md 274 = [] := rfl
theorem md_275 : PM.md 275 = [] := rfl
theorem md_276 : PM.md 276 = [1, 0] := rfl
theorem md_277 : PM.md 277 = [1, 0] := rfl
theorem md_278 : PM.md 278 = [] := rfl
theorem md_279 : PM.md 279 = [] := rfl
theorem md_280 : PM.md 280 = [] := rfl
theorem md_281 : PM.md 281 = [] := rfl
theorem md_282 : PM.md 282 = [] := rfl
theorem md_283 : PM.md 283 = [] := rfl
theorem md_284 : PM.md 284 = [] := rfl
theorem md_285 : PM.md 285 = [] := rfl
theorem md_286 : PM.md 286 = [] := rfl
theorem md_287 : PM.md 287 = [] := rfl
theorem md_288 : PM.md 288 = [] := rfl
theorem md_289 : PM.md 289 = [] := rfl
theorem md_290 : PM.md 290 = [] := rfl
theorem md_291 : PM.md 291 = [] := rfl
theorem md_292 : PM.md 292 = [] := rfl
theorem md_293 : PM.md 293 = [] := rfl
attribute [go_sem] PM_P PM_lr PMr_P PMr_lr PMr_md Md.at_P Md.at_md Md.at_lit litB_nil litB_cons tk_2 tk_3 tk_4 tk_5 tk_6 tk_7 tk_8 tk_9 tk_10 tk_11 tk_12 tk_13 tk_14 tk_15 tk_16 tk_17 tk_18 tk_19 tk_21 tk_22 tk_23 tk_24 tk_25 tk_27 tk_28 tk_29 tk_30 tk_36 tk_40 tk_41 tk_42 tk_43 tk_48 tk_49 tk_53 tk_54 tk_55 tk_56 tk_57 tk_58 tk_61 tk_62 tk_63 tk_64 tk_65 tk_66 tk_67 tk_68 tk_72 tk_80 tk_87 tk_88 tk_89 tk_96 tk_97 tk_98 tk_99 tk_102 tk_103 tk_104 tk_116 tk_117 tk_118 tk_120 tk_121 tk_122 tk_125 tk_126 tk_132 tk_133 tk_134 tk_144 tk_145 tk_158 tk_159 tk_172 tk_175 tk_176 tk_177 tk_199 tk_200 tk_201 tk_202 tk_203 tk_204 tk_205 tk_230 tk_233 tk_234 tk_251 tk_252 tk_253 tk_254 tk_255 tk_257 tk_258 tk_259 tk_271 tk_273 tk_274 tk_275 tk_289 tk_293 tk_297 tk_298 tk_303 tk_304 tk_305 tk_307 tk_308 tk_309 tk_312 tk_313 ck_2 ck_3 ck_4 ck_5 ck_6 ck_7 ck_8 ck_9 ck_10 ck_11 ck_12 ck_13 ck_14 ck_15 ck_16 ck_17 ck_18 ck_19 ck_21 ck_22 ck_23 ck_24 ck_25 ck_27 ck_28 ck_29 ck_30 ck_36 ck_40 ck_41 ck_42 ck_43 ck_48 ck_49 ck_53 ck_54 ck_55 ck_56 ck_57 ck_58 ck_61 ck_62 ck_63 ck_64 ck_65 ck_66 ck_67 ck_68 ck_72 ck_80 ck_87 ck_88 ck_89 ck_96 ck_97 ck_98 ck_99 ck_102 ck_103 ck_104 ck_116 ck_117 ck_118 ck_120 ck_121 ck_122 ck_125 ck_126 ck_132 ck_133 ck_134 ck_144 ck_145 ck_158 ck_159 ck_172 ck_175 ck_176 ck_177 ck_199 ck_200 ck_201 ck_202 ck_203 ck_204 ck_205 ck_230 ck_233 ck_234 ck_251 ck_252 ck_253 ck_254 ck_255 ck_257 ck_258 ck_259 ck_271 ck_273 ck_274 ck_275 ck_289 ck_293 ck_297 ck_298 ck_303 ck_304 ck_305 ck_307 ck_308 ck_309 ck_312 ck_313 un_2 ik_2 un_3 ik_3 un_4 un_5 ik_5 un_6 ik_6 un_9 un_10 un_11 un_12 ik_12 un_15 un_16 un_17 un_21 ik_21 el_22 un_22 el_23 un_23 el_27 un_27 el_28 un_28 el_36 un_36 el_40 un_40 el_41 un_41 sq_49 el_53 un_53 el_56 un_56 el_61 un_61 el_64 un_64 un_72 un_80 el_87 un_87 un_96 el_97 un_97 un_102 el_116 un_116 el_120 un_120 el_132 un_132 sq_159 el_172 un_172 un_175 un_199 el_200 un_200 el_203 un_203 un_230 ik_230 sq_234 el_251 un_251 el_257 un_257 el_271 un_271 el_273 un_273 sq_293 un_303 ik_303 un_304 ik_304 un_305 ik_305 un_307 un_308 ik_308 un_309 ik_309 md_0 md_1 md_2 md_3 md_4 md_5 md_6 md_7 md_8 md_9 md_10 md_11 md_12 md_13 md_14 md_15 md_16 md_17 md_18 md_19 md_20 md_21 md_22 md_23 md_24 md_25 md_26 md_27 md_28 md_29 md_30 md_31 md_32 md_33 md_34 md_35 md_36 md_37 md_38 md_39 md_40 md_41 md_42 md_43 md_44 md_45 md_46 md_47 md_48 md_49 md_50 md_51 md_52 md_53 md_54 md_55 md_56 md_57 md_58 md_59 md_60 md_61 md_62 md_63 md_64 md_65 md_66 md_67 md_68 md_69 md_70 md_71 md_72 md_73 md_74 md_75 md_76 md_77 md_78 md_79 md_80 md_81 md_82 md_83 md_84 md_85 md_86 md_87 md_88 md_89 md_90 md_91 md_92 md_93 md_94 md_95 md_96 md_97 md_98 md_99 md_100 md_101 md_102 md_103 md_104 md_105 md_106 md_107 md_108 md_109 md_110 md_111 md_112 md_113 md_114 md_115 md_116 md_117 md_118 md_119 md_120 md_121 md_122 md_123 md_124 md_125 md_126 md_127 md_128 md_129 md_130 md_131 md_132 md_133 md_134 md_135 md_136 md_137 md_138 md_139 md_140 md_141 md_142 md_143 md_144 md_145 md_146 md_147 md_148 md_149 md_150 md_151 md_152 md_153 md_154 md_155 md_156 md_157 md_158 md_159 md_160 md_161 md_162 md_163 md_164 md_165 md_166 md_167 md_168 md_169 md_170 md_171 md_172 md_173 md_174 md_175 md_176 md_177 md_178 md_179 md_180 md_181 md_182 md_183 md_184 md_185 md_186 md_187 md_188 md_189 md_190 md_191 md_192 md_193 md_194 md_195 md_196 md_197 md_198 md_199 md_200 md_201 md_202 md_203 md_204 md_205 md_206 md_207 md_208 md_209 md_210 md_211 md_212 md_213 md_214 md_215 md_216 md_217 md_218 md_219 md_220 md_221 md_222 md_223 md_224 md_225 md_226 md_227 md_228 md_229 md_230 md_231 md_232 md_233 md_234 md_235 md_236 md_237 md_238 md_239 md_240 md_241 md_242 md_243 md_244 md_245 md_246 md_247 md_248 md_249 md_250 md_251 md_252 md_253 md_254 md_255 md_256 md_257 md_258 md_259 md_260 md_261 md_262 md_263 md_264 md_265 md_266 md_267 md_268 md_269 md_270 md_271 md_272 md_273 md_274 md_275 md_276 md_277 md_278 md_279 md_280 md_281 md_282 md_283 md_284 md_285 md_286 md_287 md_288 md_289 md_290 md_291 md_292 md_293
end Go.Proofs.YtgcdbmcoendcdaaGreat
