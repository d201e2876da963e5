/- What the program's types say. -/
import Derived.Test.YthmedgipfdoneaaEngB
namespace Go.Proofs.Ythmedgipfdoneaa
theorem tk_2 : tk Try.prog 2 = .sc (.s (.int .i64 0)) := by kernel_rfl
theorem ck_2 : ck Try.prog 2 = some (false, 1, [.s (.int .i64 0)]) := by kernel_rfl
theorem un_2 : Try.prog.underlying 2 = some (.int .i64) := by kernel_rfl
theorem ik_2 : Try.prog.intKind 2 = .i64 := by kernel_rfl
theorem tk_3 : tk Try.prog 3 = .sc (.s (.int .i64 0)) := by kernel_rfl
theorem ck_3 : ck Try.prog 3 = some (false, 1, [.s (.int .i64 0)]) := by kernel_rfl
theorem un_3 : Try.prog.underlying 3 = some (.int .i64) := by kernel_rfl
theorem ik_3 : Try.prog.intKind 3 = .i64 := by kernel_rfl
theorem tk_4 : tk Try.prog 4 = .sc (.s (.bool false)) := by kernel_rfl
theorem ck_4 : ck Try.prog 4 = some (false, 1, [.s (.bool false)]) := by kernel_rfl
theorem un_4 : Try.prog.underlying 4 = some (.bool) := by kernel_rfl
theorem tk_5 : tk Try.prog 5 = .sc (.s (.int .u8 0)) := by kernel_rfl
theorem ck_5 : ck Try.prog 5 = some (false, 1, [.s (.int .u8 0)]) := by kernel_rfl
theorem un_5 : Try.prog.underlying 5 = some (.int .u8) := by kernel_rfl
theorem ik_5 : Try.prog.intKind 5 = .u8 := by kernel_rfl
theorem tk_6 : tk Try.prog 6 = .sc (.s (.int .u8 0)) := by kernel_rfl
theorem ck_6 : ck Try.prog 6 = some (false, 1, [.s (.int .u8 0)]) := by kernel_rfl
theorem un_6 : Try.prog.underlying 6 = some (.int .u8) := by kernel_rfl
theorem ik_6 : Try.prog.intKind 6 = .u8 := by kernel_rfl
theorem tk_7 : tk Try.prog 7 = .st 4 [(0, 1, false), (1, 1, false), (2, 1, false), (3, 1, false)] [.s (.int .i64 0), .s (.int .i64 0), .s (.bool false), .s (.int .u8 0)] := by kernel_rfl
theorem ck_7 : ck Try.prog 7 = some (true, 4, [.s (.int .i64 0), .s (.int .i64 0), .s (.bool false), .s (.int .u8 0)]) := by kernel_rfl
theorem tk_8 : tk Try.prog 8 = .st 4 [(0, 1, false), (1, 1, false), (2, 1, false), (3, 1, false)] [.s (.int .i64 0), .s (.int .i64 0), .s (.bool false), .s (.int .u8 0)] := by kernel_rfl
theorem ck_8 : ck Try.prog 8 = some (true, 4, [.s (.int .i64 0), .s (.int .i64 0), .s (.bool false), .s (.int .u8 0)]) := by kernel_rfl
theorem tk_9 : tk Try.prog 9 = .sc (.s (.string ⟨#[]⟩)) := by kernel_rfl
theorem ck_9 : ck Try.prog 9 = some (false, 1, [.s (.string ⟨#[]⟩)]) := by kernel_rfl
theorem un_9 : Try.prog.underlying 9 = some (.string) := by kernel_rfl
theorem tk_10 : tk Try.prog 10 = .sc (.s (.string ⟨#[]⟩)) := by kernel_rfl
theorem ck_10 : ck Try.prog 10 = some (false, 1, [.s (.string ⟨#[]⟩)]) := by kernel_rfl
theorem un_10 : Try.prog.underlying 10 = some (.string) := by kernel_rfl
theorem tk_11 : tk Try.prog 11 = .sc (.s (.string ⟨#[]⟩)) := by kernel_rfl
theorem ck_11 : ck Try.prog 11 = some (false, 1, [.s (.string ⟨#[]⟩)]) := by kernel_rfl
theorem un_11 : Try.prog.underlying 11 = some (.string) := by kernel_rfl
theorem tk_12 : tk Try.prog 12 = .sc (.s (.int .u64 0)) := by kernel_rfl
theorem ck_12 : ck Try.prog 12 = some (false, 1, [.s (.int .u64 0)]) := by kernel_rfl
theorem un_12 : Try.prog.underlying 12 = some (.int .u64) := by kernel_rfl
theorem ik_12 : Try.prog.intKind 12 = .u64 := by kernel_rfl
theorem tk_13 : tk Try.prog 13 = .st 2 [(0, 1, false), (1, 1, false)] [.s (.string ⟨#[]⟩), .s (.int .u64 0)] := by kernel_rfl
theorem ck_13 : ck Try.prog 13 = some (true, 2, [.s (.string ⟨#[]⟩), .s (.int .u64 0)]) := by kernel_rfl
theorem tk_14 : tk Try.prog 14 = .st 2 [(0, 1, false), (1, 1, false)] [.s (.string ⟨#[]⟩), .s (.int .u64 0)] := by kernel_rfl
theorem ck_14 : ck Try.prog 14 = some (true, 2, [.s (.string ⟨#[]⟩), .s (.int .u64 0)]) := by kernel_rfl
theorem tk_15 : tk Try.prog 15 = .sc (.np) := by kernel_rfl
theorem ck_15 : ck Try.prog 15 = some (false, 1, [.np]) := by kernel_rfl
theorem un_15 : Try.prog.underlying 15 = some (.pointer 182) := by kernel_rfl
theorem tk_16 : tk Try.prog 16 = .sc (.np) := by kernel_rfl
theorem ck_16 : ck Try.prog 16 = some (false, 1, [.np]) := by kernel_rfl
theorem un_16 : Try.prog.underlying 16 = some (.pointer 185) := by kernel_rfl
theorem tk_17 : tk Try.prog 17 = .sc (.np) := by kernel_rfl
theorem ck_17 : ck Try.prog 17 = some (false, 1, [.np]) := by kernel_rfl
theorem un_17 : Try.prog.underlying 17 = some (.pointer 195) := by kernel_rfl
theorem tk_18 : tk Try.prog 18 = .st 1 [(0, 1, false)] [.np] := by kernel_rfl
theorem ck_18 : ck Try.prog 18 = some (true, 1, [.np]) := by kernel_rfl
theorem tk_19 : tk Try.prog 19 = .st 1 [(0, 1, false)] [.np] := by kernel_rfl
theorem ck_19 : ck Try.prog 19 = some (true, 1, [.np]) := by kernel_rfl
theorem tk_21 : tk Try.prog 21 = .sc (.s (.int .i32 0)) := by kernel_rfl
theorem ck_21 : ck Try.prog 21 = some (false, 1, [.s (.int .i32 0)]) := by kernel_rfl
theorem un_21 : Try.prog.underlying 21 = some (.int .i32) := by kernel_rfl
theorem ik_21 : Try.prog.intKind 21 = .i32 := by kernel_rfl
theorem tk_22 : tk Try.prog 22 = .sl 92 4 40 [.s (.int .i64 0), .s (.int .i64 0), .s (.int .i64 0), .s (.string ⟨#[]⟩)] := by kernel_rfl
theorem ck_22 : ck Try.prog 22 = some (false, 1, [.nil]) := by kernel_rfl
theorem el_22 : Try.prog.elem 22 = 92 := by kernel_rfl
theorem un_22 : Try.prog.underlying 22 = some (.slice 92) := by kernel_rfl
theorem tk_23 : tk Try.prog 23 = .sl 96 1 24 [.nil] := by kernel_rfl
theorem ck_23 : ck Try.prog 23 = some (false, 1, [.nil]) := by kernel_rfl
theorem el_23 : Try.prog.elem 23 = 96 := by kernel_rfl
theorem un_23 : Try.prog.underlying 23 = some (.slice 96) := by kernel_rfl
theorem tk_24 : tk Try.prog 24 = .st 2 [(0, 1, false), (1, 1, false)] [.nil, .nil] := by kernel_rfl
theorem ck_24 : ck Try.prog 24 = some (true, 2, [.nil, .nil]) := by kernel_rfl
theorem tk_25 : tk Try.prog 25 = .st 2 [(0, 1, false), (1, 1, false)] [.nil, .nil] := by kernel_rfl
theorem ck_25 : ck Try.prog 25 = some (true, 2, [.nil, .nil]) := by kernel_rfl
theorem tk_28 : tk Try.prog 28 = .sl 53 4 40 [.s (.int .i64 0), .s (.int .i64 0), .s (.int .i64 0), .s (.string ⟨#[]⟩)] := by kernel_rfl
theorem ck_28 : ck Try.prog 28 = some (false, 1, [.nil]) := by kernel_rfl
theorem el_28 : Try.prog.elem 28 = 53 := by kernel_rfl
theorem un_28 : Try.prog.underlying 28 = some (.slice 53) := by kernel_rfl
theorem tk_29 : tk Try.prog 29 = .sl 87 1 24 [.nil] := by kernel_rfl
theorem ck_29 : ck Try.prog 29 = some (false, 1, [.nil]) := by kernel_rfl
theorem el_29 : Try.prog.elem 29 = 87 := by kernel_rfl
theorem un_29 : Try.prog.underlying 29 = some (.slice 87) := by kernel_rfl
theorem tk_30 : tk Try.prog 30 = .st 2 [(0, 1, false), (1, 1, false)] [.nil, .nil] := by kernel_rfl
theorem ck_30 : ck Try.prog 30 = some (true, 2, [.nil, .nil]) := by kernel_rfl
theorem tk_31 : tk Try.prog 31 = .st 2 [(0, 1, false), (1, 1, false)] [.nil, .nil] := by kernel_rfl
theorem ck_31 : ck Try.prog 31 = some (true, 2, [.nil, .nil]) := by kernel_rfl
theorem tk_35 : tk Try.prog 35 = .sl 114 3 48 [.s (.string ⟨#[]⟩), .s (.int .i64 0), .nil] := by kernel_rfl
theorem ck_35 : ck Try.prog 35 = some (false, 1, [.nil]) := by kernel_rfl
theorem el_35 : Try.prog.elem 35 = 114 := by kernel_rfl
theorem un_35 : Try.prog.underlying 35 = some (.slice 114) := by kernel_rfl
theorem tk_36 : tk Try.prog 36 = .sl 117 6 88 [.s (.int .i64 0), .s (.int .i64 0), .s (.int .i64 0), .s (.string ⟨#[]⟩), .nil, .nil] := by kernel_rfl
theorem ck_36 : ck Try.prog 36 = some (false, 1, [.nil]) := by kernel_rfl
theorem el_36 : Try.prog.elem 36 = 117 := by kernel_rfl
theorem un_36 : Try.prog.underlying 36 = some (.slice 117) := by kernel_rfl
theorem tk_37 : tk Try.prog 37 = .st 2 [(0, 1, false), (1, 1, false)] [.nil, .nil] := by kernel_rfl
theorem ck_37 : ck Try.prog 37 = some (true, 2, [.nil, .nil]) := by kernel_rfl
theorem tk_38 : tk Try.prog 38 = .st 2 [(0, 1, false), (1, 1, false)] [.nil, .nil] := by kernel_rfl
theorem ck_38 : ck Try.prog 38 = some (true, 2, [.nil, .nil]) := by kernel_rfl
theorem tk_41 : tk Try.prog 41 = .sl 68 3 48 [.s (.string ⟨#[]⟩), .s (.int .i64 0), .nil] := by kernel_rfl
theorem ck_41 : ck Try.prog 41 = some (false, 1, [.nil]) := by kernel_rfl
theorem el_41 : Try.prog.elem 41 = 68 := by kernel_rfl
theorem un_41 : Try.prog.underlying 41 = some (.slice 68) := by kernel_rfl
theorem tk_42 : tk Try.prog 42 = .sl 77 6 88 [.s (.int .i64 0), .s (.int .i64 0), .s (.int .i64 0), .s (.string ⟨#[]⟩), .nil, .nil] := by kernel_rfl
theorem ck_42 : ck Try.prog 42 = some (false, 1, [.nil]) := by kernel_rfl
theorem el_42 : Try.prog.elem 42 = 77 := by kernel_rfl
theorem un_42 : Try.prog.underlying 42 = some (.slice 77) := by kernel_rfl
theorem tk_43 : tk Try.prog 43 = .st 2 [(0, 1, false), (1, 1, false)] [.nil, .nil] := by kernel_rfl
theorem ck_43 : ck Try.prog 43 = some (true, 2, [.nil, .nil]) := by kernel_rfl
theorem tk_44 : tk Try.prog 44 = .st 2 [(0, 1, false), (1, 1, false)] [.nil, .nil] := by kernel_rfl
theorem ck_44 : ck Try.prog 44 = some (true, 2, [.nil, .nil]) := by kernel_rfl
theorem tk_52 : tk Try.prog 52 = .st 4 [(0, 1, false), (1, 1, false), (2, 1, false), (3, 1, false)] [.s (.int .i64 0), .s (.int .i64 0), .s (.int .i64 0), .s (.string ⟨#[]⟩)] := by kernel_rfl
theorem ck_52 : ck Try.prog 52 = some (true, 4, [.s (.int .i64 0), .s (.int .i64 0), .s (.int .i64 0), .s (.string ⟨#[]⟩)]) := by kernel_rfl
theorem tk_53 : tk Try.prog 53 = .st 4 [(0, 1, false), (1, 1, false), (2, 1, false), (3, 1, false)] [.s (.int .i64 0), .s (.int .i64 0), .s (.int .i64 0), .s (.string ⟨#[]⟩)] := by kernel_rfl
theorem ck_53 : ck Try.prog 53 = some (true, 4, [.s (.int .i64 0), .s (.int .i64 0), .s (.int .i64 0), .s (.string ⟨#[]⟩)]) := by kernel_rfl
theorem sq_53 : sqB Try.prog 53 [0, 0, 0, 1] = true := by kernel_rfl
theorem tk_58 : tk Try.prog 58 = .sl 5 1 1 [.s (.int .u8 0)] := by kernel_rfl
theorem ck_58 : ck Try.prog 58 = some (false, 1, [.nil]) := by kernel_rfl
theorem el_58 : Try.prog.elem 58 = 5 := by kernel_rfl
theorem un_58 : Try.prog.underlying 58 = some (.slice 5) := by kernel_rfl
theorem tk_61 : tk Try.prog 61 = .sl 3 1 8 [.s (.int .i64 0)] := by kernel_rfl
theorem ck_61 : ck Try.prog 61 = some (false, 1, [.nil]) := by kernel_rfl
theorem el_61 : Try.prog.elem 61 = 3 := by kernel_rfl
theorem un_61 : Try.prog.underlying 61 = some (.slice 3) := by kernel_rfl
theorem tk_66 : tk Try.prog 66 = .sl 74 3 48 [.s (.string ⟨#[]⟩), .s (.bool false), .nil] := by kernel_rfl
theorem ck_66 : ck Try.prog 66 = some (false, 1, [.nil]) := by kernel_rfl
theorem el_66 : Try.prog.elem 66 = 74 := by kernel_rfl
theorem un_66 : Try.prog.underlying 66 = some (.slice 74) := by kernel_rfl
theorem tk_67 : tk Try.prog 67 = .st 3 [(0, 1, false), (1, 1, false), (2, 1, false)] [.s (.string ⟨#[]⟩), .s (.int .i64 0), .nil] := by kernel_rfl
theorem ck_67 : ck Try.prog 67 = some (true, 3, [.s (.string ⟨#[]⟩), .s (.int .i64 0), .nil]) := by kernel_rfl
theorem tk_68 : tk Try.prog 68 = .st 3 [(0, 1, false), (1, 1, false), (2, 1, false)] [.s (.string ⟨#[]⟩), .s (.int .i64 0), .nil] := by kernel_rfl
theorem ck_68 : ck Try.prog 68 = some (true, 3, [.s (.string ⟨#[]⟩), .s (.int .i64 0), .nil]) := by kernel_rfl
theorem tk_70 : tk Try.prog 70 = .sl 120 3 32 [.s (.int .i64 0), .s (.string ⟨#[]⟩), .s (.int .i64 0)] := by kernel_rfl
theorem ck_70 : ck Try.prog 70 = some (false, 1, [.nil]) := by kernel_rfl
theorem el_70 : Try.prog.elem 70 = 120 := by kernel_rfl
theorem un_70 : Try.prog.underlying 70 = some (.slice 120) := by kernel_rfl
theorem tk_71 : tk Try.prog 71 = .st 1 [(0, 1, false)] [.nil] := by kernel_rfl
theorem ck_71 : ck Try.prog 71 = some (true, 1, [.nil]) := by kernel_rfl
theorem tk_72 : tk Try.prog 72 = .st 1 [(0, 1, false)] [.nil] := by kernel_rfl
theorem ck_72 : ck Try.prog 72 = some (true, 1, [.nil]) := by kernel_rfl
theorem tk_73 : tk Try.prog 73 = .st 3 [(0, 1, false), (1, 1, false), (2, 1, true)] [.s (.string ⟨#[]⟩), .s (.bool false), .nil] := by kernel_rfl
theorem ck_73 : ck Try.prog 73 = some (true, 3, [.s (.string ⟨#[]⟩), .s (.bool false), .nil]) := by kernel_rfl
theorem tk_74 : tk Try.prog 74 = .st 3 [(0, 1, false), (1, 1, false), (2, 1, true)] [.s (.string ⟨#[]⟩), .s (.bool false), .nil] := by kernel_rfl
theorem ck_74 : ck Try.prog 74 = some (true, 3, [.s (.string ⟨#[]⟩), .s (.bool false), .nil]) := by kernel_rfl
theorem tk_76 : tk Try.prog 76 = .st 6 [(0, 1, false), (1, 1, false), (2, 1, false), (3, 1, false), (4, 1, false), (5, 1, false)] [.s (.int .i64 0), .s (.int .i64 0), .s (.int .i64 0), .s (.string ⟨#[]⟩), .nil, .nil] := by kernel_rfl
theorem ck_76 : ck Try.prog 76 = some (true, 6, [.s (.int .i64 0), .s (.int .i64 0), .s (.int .i64 0), .s (.string ⟨#[]⟩), .nil, .nil]) := by kernel_rfl
theorem tk_77 : tk Try.prog 77 = .st 6 [(0, 1, false), (1, 1, false), (2, 1, false), (3, 1, false), (4, 1, false), (5, 1, false)] [.s (.int .i64 0), .s (.int .i64 0), .s (.int .i64 0), .s (.string ⟨#[]⟩), .nil, .nil] := by kernel_rfl
theorem ck_77 : ck Try.prog 77 = some (true, 6, [.s (.int .i64 0), .s (.int .i64 0), .s (.int .i64 0), .s (.string ⟨#[]⟩), .nil, .nil]) := by kernel_rfl
theorem tk_85 : tk Try.prog 85 = .sl 135 4 56 [.s (.int .i64 0), .s (.int .i64 0), .s (.string ⟨#[]⟩), .nil] := by kernel_rfl
theorem ck_85 : ck Try.prog 85 = some (false, 1, [.nil]) := by kernel_rfl
theorem el_85 : Try.prog.elem 85 = 135 := by kernel_rfl
theorem un_85 : Try.prog.underlying 85 = some (.slice 135) := by kernel_rfl
theorem tk_86 : tk Try.prog 86 = .st 1 [(0, 1, false)] [.nil] := by kernel_rfl
theorem ck_86 : ck Try.prog 86 = some (true, 1, [.nil]) := by kernel_rfl
theorem tk_87 : tk Try.prog 87 = .st 1 [(0, 1, false)] [.nil] := by kernel_rfl
theorem ck_87 : ck Try.prog 87 = some (true, 1, [.nil]) := by kernel_rfl
theorem tk_92 : tk Try.prog 92 = .st 4 [(0, 1, false), (1, 1, false), (2, 1, false), (3, 1, false)] [.s (.int .i64 0), .s (.int .i64 0), .s (.int .i64 0), .s (.string ⟨#[]⟩)] := by kernel_rfl
theorem ck_92 : ck Try.prog 92 = some (true, 4, [.s (.int .i64 0), .s (.int .i64 0), .s (.int .i64 0), .s (.string ⟨#[]⟩)]) := by kernel_rfl
theorem sq_92 : sqB Try.prog 92 [0, 0, 0, 1] = true := by kernel_rfl
theorem tk_94 : tk Try.prog 94 = .sl 158 4 56 [.s (.int .i64 0), .s (.int .i64 0), .s (.string ⟨#[]⟩), .nil] := by kernel_rfl
theorem ck_94 : ck Try.prog 94 = some (false, 1, [.nil]) := by kernel_rfl
theorem el_94 : Try.prog.elem 94 = 158 := by kernel_rfl
theorem un_94 : Try.prog.underlying 94 = some (.slice 158) := by kernel_rfl
theorem tk_95 : tk Try.prog 95 = .st 1 [(0, 1, false)] [.nil] := by kernel_rfl
theorem ck_95 : ck Try.prog 95 = some (true, 1, [.nil]) := by kernel_rfl
theorem tk_96 : tk Try.prog 96 = .st 1 [(0, 1, false)] [.nil] := by kernel_rfl
theorem ck_96 : ck Try.prog 96 = some (true, 1, [.nil]) := by kernel_rfl
theorem tk_99 : tk Try.prog 99 = .sl 9 1 16 [.s (.string ⟨#[]⟩)] := by kernel_rfl
theorem ck_99 : ck Try.prog 99 = some (false, 1, [.nil]) := by kernel_rfl
theorem el_99 : Try.prog.elem 99 = 9 := by kernel_rfl
theorem un_99 : Try.prog.underlying 99 = some (.slice 9) := by kernel_rfl
theorem tk_112 : tk Try.prog 112 = .sl 166 3 48 [.s (.string ⟨#[]⟩), .s (.bool false), .nil] := by kernel_rfl
theorem ck_112 : ck Try.prog 112 = some (false, 1, [.nil]) := by kernel_rfl
theorem el_112 : Try.prog.elem 112 = 166 := by kernel_rfl
theorem un_112 : Try.prog.underlying 112 = some (.slice 166) := by kernel_rfl
theorem tk_113 : tk Try.prog 113 = .st 3 [(0, 1, false), (1, 1, false), (2, 1, false)] [.s (.string ⟨#[]⟩), .s (.int .i64 0), .nil] := by kernel_rfl
theorem ck_113 : ck Try.prog 113 = some (true, 3, [.s (.string ⟨#[]⟩), .s (.int .i64 0), .nil]) := by kernel_rfl
theorem tk_114 : tk Try.prog 114 = .st 3 [(0, 1, false), (1, 1, false), (2, 1, false)] [.s (.string ⟨#[]⟩), .s (.int .i64 0), .nil] := by kernel_rfl
theorem ck_114 : ck Try.prog 114 = some (true, 3, [.s (.string ⟨#[]⟩), .s (.int .i64 0), .nil]) := by kernel_rfl
theorem tk_116 : tk Try.prog 116 = .st 6 [(0, 1, false), (1, 1, false), (2, 1, false), (3, 1, false), (4, 1, false), (5, 1, false)] [.s (.int .i64 0), .s (.int .i64 0), .s (.int .i64 0), .s (.string ⟨#[]⟩), .nil, .nil] := by kernel_rfl
theorem ck_116 : ck Try.prog 116 = some (true, 6, [.s (.int .i64 0), .s (.int .i64 0), .s (.int .i64 0), .s (.string ⟨#[]⟩), .nil, .nil]) := by kernel_rfl
theorem tk_117 : tk Try.prog 117 = .st 6 [(0, 1, false), (1, 1, false), (2, 1, false), (3, 1, false), (4, 1, false), (5, 1, false)] [.s (.int .i64 0), .s (.int .i64 0), .s (.int .i64 0), .s (.string ⟨#[]⟩), .nil, .nil] := by kernel_rfl
theorem ck_117 : ck Try.prog 117 = some (true, 6, [.s (.int .i64 0), .s (.int .i64 0), .s (.int .i64 0), .s (.string ⟨#[]⟩), .nil, .nil]) := by kernel_rfl
theorem tk_119 : tk Try.prog 119 = .st 3 [(0, 1, false), (1, 1, false), (2, 1, false)] [.s (.int .i64 0), .s (.string ⟨#[]⟩), .s (.int .i64 0)] := by kernel_rfl
theorem ck_119 : ck Try.prog 119 = some (true, 3, [.s (.int .i64 0), .s (.string ⟨#[]⟩), .s (.int .i64 0)]) := by kernel_rfl
theorem tk_120 : tk Try.prog 120 = .st 3 [(0, 1, false), (1, 1, false), (2, 1, false)] [.s (.int .i64 0), .s (.string ⟨#[]⟩), .s (.int .i64 0)] := by kernel_rfl
theorem ck_120 : ck Try.prog 120 = some (true, 3, [.s (.int .i64 0), .s (.string ⟨#[]⟩), .s (.int .i64 0)]) := by kernel_rfl
theorem sq_120 : sqB Try.prog 120 [0, 1, 0] = true := by kernel_rfl
theorem tk_134 : tk Try.prog 134 = .st 4 [(0, 1, false), (1, 1, false), (2, 1, false), (3, 1, false)] [.s (.int .i64 0), .s (.int .i64 0), .s (.string ⟨#[]⟩), .nil] := by kernel_rfl
theorem ck_134 : ck Try.prog 134 = some (true, 4, [.s (.int .i64 0), .s (.int .i64 0), .s (.string ⟨#[]⟩), .nil]) := by kernel_rfl
theorem tk_135 : tk Try.prog 135 = .st 4 [(0, 1, false), (1, 1, false), (2, 1, false), (3, 1, false)] [.s (.int .i64 0), .s (.int .i64 0), .s (.string ⟨#[]⟩), .nil] := by kernel_rfl
theorem ck_135 : ck Try.prog 135 = some (true, 4, [.s (.int .i64 0), .s (.int .i64 0), .s (.string ⟨#[]⟩), .nil]) := by kernel_rfl
theorem tk_142 : tk Try.prog 142 = .sc (.s (.int .u64 0)) := by kernel_rfl
theorem ck_142 : ck Try.prog 142 = some (false, 1, [.s (.int .u64 0)]) := by kernel_rfl
theorem un_142 : Try.prog.underlying 142 = some (.int .u64) := by kernel_rfl
theorem ik_142 : Try.prog.intKind 142 = .u64 := by kernel_rfl
theorem tk_158 : tk Try.prog 158 = .st 4 [(0, 1, false), (1, 1, false), (2, 1, false), (3, 1, false)] [.s (.int .i64 0), .s (.int .i64 0), .s (.string ⟨#[]⟩), .nil] := by kernel_rfl
theorem ck_158 : ck Try.prog 158 = some (true, 4, [.s (.int .i64 0), .s (.int .i64 0), .s (.string ⟨#[]⟩), .nil]) := by kernel_rfl
theorem tk_162 : tk Try.prog 162 = .sl 177 3 32 [.s (.int .i64 0), .s (.string ⟨#[]⟩), .s (.int .i64 0)] := by kernel_rfl
theorem ck_162 : ck Try.prog 162 = some (false, 1, [.nil]) := by kernel_rfl
theorem el_162 : Try.prog.elem 162 = 177 := by kernel_rfl
theorem un_162 : Try.prog.underlying 162 = some (.slice 177) := by kernel_rfl
theorem tk_163 : tk Try.prog 163 = .st 1 [(0, 1, false)] [.nil] := by kernel_rfl
theorem ck_163 : ck Try.prog 163 = some (true, 1, [.nil]) := by kernel_rfl
theorem tk_164 : tk Try.prog 164 = .st 1 [(0, 1, false)] [.nil] := by kernel_rfl
theorem ck_164 : ck Try.prog 164 = some (true, 1, [.nil]) := by kernel_rfl
theorem tk_165 : tk Try.prog 165 = .st 3 [(0, 1, false), (1, 1, false), (2, 1, true)] [.s (.string ⟨#[]⟩), .s (.bool false), .nil] := by kernel_rfl
theorem ck_165 : ck Try.prog 165 = some (true, 3, [.s (.string ⟨#[]⟩), .s (.bool false), .nil]) := by kernel_rfl
theorem tk_166 : tk Try.prog 166 = .st 3 [(0, 1, false), (1, 1, false), (2, 1, true)] [.s (.string ⟨#[]⟩), .s (.bool false), .nil] := by kernel_rfl
theorem ck_166 : ck Try.prog 166 = some (true, 3, [.s (.string ⟨#[]⟩), .s (.bool false), .nil]) := by kernel_rfl
theorem tk_177 : tk Try.prog 177 = .st 3 [(0, 1, false), (1, 1, false), (2, 1, false)] [.s (.int .i64 0), .s (.string ⟨#[]⟩), .s (.int .i64 0)] := by kernel_rfl
theorem ck_177 : ck Try.prog 177 = some (true, 3, [.s (.int .i64 0), .s (.string ⟨#[]⟩), .s (.int .i64 0)]) := by kernel_rfl
theorem sq_177 : sqB Try.prog 177 [0, 1, 0] = true := by kernel_rfl
theorem tk_181 : tk Try.prog 181 = .st 4 [(0, 1, false), (1, 1, false), (2, 1, false), (3, 1, false)] [.np, .np, .np, .s (.string ⟨#[]⟩)] := by kernel_rfl
theorem ck_181 : ck Try.prog 181 = some (true, 4, [.np, .np, .np, .s (.string ⟨#[]⟩)]) := by kernel_rfl
theorem tk_182 : tk Try.prog 182 = .st 4 [(0, 1, false), (1, 1, false), (2, 1, false), (3, 1, false)] [.np, .np, .np, .s (.string ⟨#[]⟩)] := by kernel_rfl
theorem ck_182 : ck Try.prog 182 = some (true, 4, [.np, .np, .np, .s (.string ⟨#[]⟩)]) := by kernel_rfl
theorem tk_187 : tk Try.prog 187 = .sc (.s (.int .u32 0)) := by kernel_rfl
theorem ck_187 : ck Try.prog 187 = some (false, 1, [.s (.int .u32 0)]) := by kernel_rfl
theorem un_187 : Try.prog.underlying 187 = some (.int .u32) := by kernel_rfl
theorem ik_187 : Try.prog.intKind 187 = .u32 := by kernel_rfl
theorem tk_188 : tk Try.prog 188 = .sc (.s (.int .u8 0)) := by kernel_rfl
theorem ck_188 : ck Try.prog 188 = some (false, 1, [.s (.int .u8 0)]) := by kernel_rfl
theorem un_188 : Try.prog.underlying 188 = some (.int .u8) := by kernel_rfl
theorem ik_188 : Try.prog.intKind 188 = .u8 := by kernel_rfl
theorem tk_189 : tk Try.prog 189 = .sc (.s (.int .u8 0)) := by kernel_rfl
theorem ck_189 : ck Try.prog 189 = some (false, 1, [.s (.int .u8 0)]) := by kernel_rfl
theorem un_189 : Try.prog.underlying 189 = some (.int .u8) := by kernel_rfl
theorem ik_189 : Try.prog.intKind 189 = .u8 := by kernel_rfl
theorem tk_191 : tk Try.prog 191 = .sc (.np) := by kernel_rfl
theorem ck_191 : ck Try.prog 191 = some (false, 1, [.np]) := by kernel_rfl
theorem un_191 : Try.prog.underlying 191 = some (.pointer 5) := by kernel_rfl
theorem tk_192 : tk Try.prog 192 = .sc (.s (.int .i32 0)) := by kernel_rfl
theorem ck_192 : ck Try.prog 192 = some (false, 1, [.s (.int .i32 0)]) := by kernel_rfl
theorem un_192 : Try.prog.underlying 192 = some (.int .i32) := by kernel_rfl
theorem ik_192 : Try.prog.intKind 192 = .i32 := by kernel_rfl
theorem tk_193 : tk Try.prog 193 = .sc (.s (.int .i32 0)) := by kernel_rfl
theorem ck_193 : ck Try.prog 193 = some (false, 1, [.s (.int .i32 0)]) := by kernel_rfl
theorem un_193 : Try.prog.underlying 193 = some (.int .i32) := by kernel_rfl
theorem ik_193 : Try.prog.intKind 193 = .i32 := by kernel_rfl
end Go.Proofs.Ythmedgipfdoneaa
