/- What the program's types say. -/
import Derived.Test.YtokjkmibnjfkaaaAbP
namespace Go.Proofs.Ytokjkmibnjfkaaa
theorem tk_2 : tk Try.prog 2 = .sc (.s (.int .i64 0)) := by kernel_rfl
theorem ck_2 : ck Try.prog 2 = some (false, 1, [.s (.int .i64 0)]) := by kernel_rfl
theorem un_2 : Try.prog.underlying 2 = some (.int .i64) := by kernel_rfl
theorem ik_2 : Try.prog.intKind 2 = .i64 := by kernel_rfl
theorem tk_3 : tk Try.prog 3 = .sc (.s (.int .i64 0)) := by kernel_rfl
theorem ck_3 : ck Try.prog 3 = some (false, 1, [.s (.int .i64 0)]) := by kernel_rfl
theorem un_3 : Try.prog.underlying 3 = some (.int .i64) := by kernel_rfl
theorem ik_3 : Try.prog.intKind 3 = .i64 := by kernel_rfl
theorem tk_4 : tk Try.prog 4 = .sc (.s (.bool false)) := by kernel_rfl
theorem ck_4 : ck Try.prog 4 = some (false, 1, [.s (.bool false)]) := by kernel_rfl
theorem un_4 : Try.prog.underlying 4 = some (.bool) := by kernel_rfl
theorem tk_5 : tk Try.prog 5 = .sc (.s (.int .u8 0)) := by kernel_rfl
theorem ck_5 : ck Try.prog 5 = some (false, 1, [.s (.int .u8 0)]) := by kernel_rfl
theorem un_5 : Try.prog.underlying 5 = some (.int .u8) := by kernel_rfl
theorem ik_5 : Try.prog.intKind 5 = .u8 := by kernel_rfl
theorem tk_6 : tk Try.prog 6 = .sc (.s (.int .u8 0)) := by kernel_rfl
theorem ck_6 : ck Try.prog 6 = some (false, 1, [.s (.int .u8 0)]) := by kernel_rfl
theorem un_6 : Try.prog.underlying 6 = some (.int .u8) := by kernel_rfl
theorem ik_6 : Try.prog.intKind 6 = .u8 := by kernel_rfl
theorem tk_7 : tk Try.prog 7 = .st 4 [(0, 1, false), (1, 1, false), (2, 1, false), (3, 1, false)] [.s (.int .i64 0), .s (.int .i64 0), .s (.bool false), .s (.int .u8 0)] := by kernel_rfl
theorem ck_7 : ck Try.prog 7 = some (true, 4, [.s (.int .i64 0), .s (.int .i64 0), .s (.bool false), .s (.int .u8 0)]) := by kernel_rfl
theorem tk_8 : tk Try.prog 8 = .st 4 [(0, 1, false), (1, 1, false), (2, 1, false), (3, 1, false)] [.s (.int .i64 0), .s (.int .i64 0), .s (.bool false), .s (.int .u8 0)] := by kernel_rfl
theorem ck_8 : ck Try.prog 8 = some (true, 4, [.s (.int .i64 0), .s (.int .i64 0), .s (.bool false), .s (.int .u8 0)]) := by kernel_rfl
theorem tk_9 : tk Try.prog 9 = .sc (.s (.string ⟨#[]⟩)) := by kernel_rfl
theorem ck_9 : ck Try.prog 9 = some (false, 1, [.s (.string ⟨#[]⟩)]) := by kernel_rfl
theorem un_9 : Try.prog.underlying 9 = some (.string) := by kernel_rfl
theorem tk_10 : tk Try.prog 10 = .sc (.s (.string ⟨#[]⟩)) := by kernel_rfl
theorem ck_10 : ck Try.prog 10 = some (false, 1, [.s (.string ⟨#[]⟩)]) := by kernel_rfl
theorem un_10 : Try.prog.underlying 10 = some (.string) := by kernel_rfl
theorem tk_11 : tk Try.prog 11 = .sc (.s (.string ⟨#[]⟩)) := by kernel_rfl
theorem ck_11 : ck Try.prog 11 = some (false, 1, [.s (.string ⟨#[]⟩)]) := by kernel_rfl
theorem un_11 : Try.prog.underlying 11 = some (.string) := by kernel_rfl
theorem tk_12 : tk Try.prog 12 = .sc (.s (.int .u64 0)) := by kernel_rfl
theorem ck_12 : ck Try.prog 12 = some (false, 1, [.s (.int .u64 0)]) := by kernel_rfl
theorem un_12 : Try.prog.underlying 12 = some (.int .u64) := by kernel_rfl
theorem ik_12 : Try.prog.intKind 12 = .u64 := by kernel_rfl
theorem tk_13 : tk Try.prog 13 = .st 2 [(0, 1, false), (1, 1, false)] [.s (.string ⟨#[]⟩), .s (.int .u64 0)] := by kernel_rfl
theorem ck_13 : ck Try.prog 13 = some (true, 2, [.s (.string ⟨#[]⟩), .s (.int .u64 0)]) := by kernel_rfl
theorem tk_14 : tk Try.prog 14 = .st 2 [(0, 1, false), (1, 1, false)] [.s (.string ⟨#[]⟩), .s (.int .u64 0)] := by kernel_rfl
theorem ck_14 : ck Try.prog 14 = some (true, 2, [.s (.string ⟨#[]⟩), .s (.int .u64 0)]) := by kernel_rfl
theorem tk_15 : tk Try.prog 15 = .sc (.np) := by kernel_rfl
theorem ck_15 : ck Try.prog 15 = some (false, 1, [.np]) := by kernel_rfl
theorem un_15 : Try.prog.underlying 15 = some (.pointer 191) := by kernel_rfl
theorem tk_16 : tk Try.prog 16 = .sc (.np) := by kernel_rfl
theorem ck_16 : ck Try.prog 16 = some (false, 1, [.np]) := by kernel_rfl
theorem un_16 : Try.prog.underlying 16 = some (.pointer 194) := by kernel_rfl
theorem tk_17 : tk Try.prog 17 = .sc (.np) := by kernel_rfl
theorem ck_17 : ck Try.prog 17 = some (false, 1, [.np]) := by kernel_rfl
theorem un_17 : Try.prog.underlying 17 = some (.pointer 204) := by kernel_rfl
theorem tk_18 : tk Try.prog 18 = .st 1 [(0, 1, false)] [.np] := by kernel_rfl
theorem ck_18 : ck Try.prog 18 = some (true, 1, [.np]) := by kernel_rfl
theorem tk_19 : tk Try.prog 19 = .st 1 [(0, 1, false)] [.np] := by kernel_rfl
theorem ck_19 : ck Try.prog 19 = some (true, 1, [.np]) := by kernel_rfl
theorem tk_21 : tk Try.prog 21 = .sc (.s (.int .i32 0)) := by kernel_rfl
theorem ck_21 : ck Try.prog 21 = some (false, 1, [.s (.int .i32 0)]) := by kernel_rfl
theorem un_21 : Try.prog.underlying 21 = some (.int .i32) := by kernel_rfl
theorem ik_21 : Try.prog.intKind 21 = .i32 := by kernel_rfl
theorem tk_22 : tk Try.prog 22 = .sl 108 4 56 [.s (.int .i64 0), .s (.int .i64 0), .s (.string ⟨#[]⟩), .nil] := by kernel_rfl
theorem ck_22 : ck Try.prog 22 = some (false, 1, [.nil]) := by kernel_rfl
theorem el_22 : Try.prog.elem 22 = 108 := by kernel_rfl
theorem un_22 : Try.prog.underlying 22 = some (.slice 108) := by kernel_rfl
theorem tk_23 : tk Try.prog 23 = .st 1 [(0, 1, false)] [.nil] := by kernel_rfl
theorem ck_23 : ck Try.prog 23 = some (true, 1, [.nil]) := by kernel_rfl
theorem tk_24 : tk Try.prog 24 = .st 1 [(0, 1, false)] [.nil] := by kernel_rfl
theorem ck_24 : ck Try.prog 24 = some (true, 1, [.nil]) := by kernel_rfl
theorem tk_27 : tk Try.prog 27 = .sl 109 4 56 [.s (.int .i64 0), .s (.int .i64 0), .s (.string ⟨#[]⟩), .nil] := by kernel_rfl
theorem ck_27 : ck Try.prog 27 = some (false, 1, [.nil]) := by kernel_rfl
theorem el_27 : Try.prog.elem 27 = 109 := by kernel_rfl
theorem un_27 : Try.prog.underlying 27 = some (.slice 109) := by kernel_rfl
theorem tk_28 : tk Try.prog 28 = .st 1 [(0, 1, false)] [.nil] := by kernel_rfl
theorem ck_28 : ck Try.prog 28 = some (true, 1, [.nil]) := by kernel_rfl
theorem tk_29 : tk Try.prog 29 = .st 1 [(0, 1, false)] [.nil] := by kernel_rfl
theorem ck_29 : ck Try.prog 29 = some (true, 1, [.nil]) := by kernel_rfl
theorem tk_33 : tk Try.prog 33 = .sl 123 4 40 [.s (.int .i64 0), .s (.int .i64 0), .s (.int .i64 0), .s (.string ⟨#[]⟩)] := by kernel_rfl
theorem ck_33 : ck Try.prog 33 = some (false, 1, [.nil]) := by kernel_rfl
theorem el_33 : Try.prog.elem 33 = 123 := by kernel_rfl
theorem un_33 : Try.prog.underlying 33 = some (.slice 123) := by kernel_rfl
theorem tk_34 : tk Try.prog 34 = .sl 24 1 24 [.nil] := by kernel_rfl
theorem ck_34 : ck Try.prog 34 = some (false, 1, [.nil]) := by kernel_rfl
theorem el_34 : Try.prog.elem 34 = 24 := by kernel_rfl
theorem un_34 : Try.prog.underlying 34 = some (.slice 24) := by kernel_rfl
theorem tk_35 : tk Try.prog 35 = .st 2 [(0, 1, false), (1, 1, false)] [.nil, .nil] := by kernel_rfl
theorem ck_35 : ck Try.prog 35 = some (true, 2, [.nil, .nil]) := by kernel_rfl
theorem tk_36 : tk Try.prog 36 = .st 2 [(0, 1, false), (1, 1, false)] [.nil, .nil] := by kernel_rfl
theorem ck_36 : ck Try.prog 36 = some (true, 2, [.nil, .nil]) := by kernel_rfl
theorem tk_39 : tk Try.prog 39 = .sl 72 4 40 [.s (.int .i64 0), .s (.int .i64 0), .s (.int .i64 0), .s (.string ⟨#[]⟩)] := by kernel_rfl
theorem ck_39 : ck Try.prog 39 = some (false, 1, [.nil]) := by kernel_rfl
theorem el_39 : Try.prog.elem 39 = 72 := by kernel_rfl
theorem un_39 : Try.prog.underlying 39 = some (.slice 72) := by kernel_rfl
theorem tk_40 : tk Try.prog 40 = .sl 29 1 24 [.nil] := by kernel_rfl
theorem ck_40 : ck Try.prog 40 = some (false, 1, [.nil]) := by kernel_rfl
theorem el_40 : Try.prog.elem 40 = 29 := by kernel_rfl
theorem un_40 : Try.prog.underlying 40 = some (.slice 29) := by kernel_rfl
theorem tk_41 : tk Try.prog 41 = .st 2 [(0, 1, false), (1, 1, false)] [.nil, .nil] := by kernel_rfl
theorem ck_41 : ck Try.prog 41 = some (true, 2, [.nil, .nil]) := by kernel_rfl
theorem tk_42 : tk Try.prog 42 = .st 2 [(0, 1, false), (1, 1, false)] [.nil, .nil] := by kernel_rfl
theorem ck_42 : ck Try.prog 42 = some (true, 2, [.nil, .nil]) := by kernel_rfl
theorem tk_46 : tk Try.prog 46 = .sl 137 3 48 [.s (.string ⟨#[]⟩), .s (.int .i64 0), .nil] := by kernel_rfl
theorem ck_46 : ck Try.prog 46 = some (false, 1, [.nil]) := by kernel_rfl
theorem el_46 : Try.prog.elem 46 = 137 := by kernel_rfl
theorem un_46 : Try.prog.underlying 46 = some (.slice 137) := by kernel_rfl
theorem tk_47 : tk Try.prog 47 = .sl 140 6 88 [.s (.int .i64 0), .s (.int .i64 0), .s (.int .i64 0), .s (.string ⟨#[]⟩), .nil, .nil] := by kernel_rfl
theorem ck_47 : ck Try.prog 47 = some (false, 1, [.nil]) := by kernel_rfl
theorem el_47 : Try.prog.elem 47 = 140 := by kernel_rfl
theorem un_47 : Try.prog.underlying 47 = some (.slice 140) := by kernel_rfl
theorem tk_48 : tk Try.prog 48 = .st 2 [(0, 1, false), (1, 1, false)] [.nil, .nil] := by kernel_rfl
theorem ck_48 : ck Try.prog 48 = some (true, 2, [.nil, .nil]) := by kernel_rfl
theorem tk_49 : tk Try.prog 49 = .st 2 [(0, 1, false), (1, 1, false)] [.nil, .nil] := by kernel_rfl
theorem ck_49 : ck Try.prog 49 = some (true, 2, [.nil, .nil]) := by kernel_rfl
theorem tk_52 : tk Try.prog 52 = .sl 87 3 48 [.s (.string ⟨#[]⟩), .s (.int .i64 0), .nil] := by kernel_rfl
theorem ck_52 : ck Try.prog 52 = some (false, 1, [.nil]) := by kernel_rfl
theorem el_52 : Try.prog.elem 52 = 87 := by kernel_rfl
theorem un_52 : Try.prog.underlying 52 = some (.slice 87) := by kernel_rfl
theorem tk_53 : tk Try.prog 53 = .sl 96 6 88 [.s (.int .i64 0), .s (.int .i64 0), .s (.int .i64 0), .s (.string ⟨#[]⟩), .nil, .nil] := by kernel_rfl
theorem ck_53 : ck Try.prog 53 = some (false, 1, [.nil]) := by kernel_rfl
theorem el_53 : Try.prog.elem 53 = 96 := by kernel_rfl
theorem un_53 : Try.prog.underlying 53 = some (.slice 96) := by kernel_rfl
theorem tk_54 : tk Try.prog 54 = .st 2 [(0, 1, false), (1, 1, false)] [.nil, .nil] := by kernel_rfl
theorem ck_54 : ck Try.prog 54 = some (true, 2, [.nil, .nil]) := by kernel_rfl
theorem tk_55 : tk Try.prog 55 = .st 2 [(0, 1, false), (1, 1, false)] [.nil, .nil] := by kernel_rfl
theorem ck_55 : ck Try.prog 55 = some (true, 2, [.nil, .nil]) := by kernel_rfl
theorem tk_65 : tk Try.prog 65 = .sc (.np) := by kernel_rfl
theorem ck_65 : ck Try.prog 65 = some (false, 1, [.np]) := by kernel_rfl
theorem un_65 : Try.prog.underlying 65 = some (.pointer 120) := by kernel_rfl
theorem tk_71 : tk Try.prog 71 = .st 4 [(0, 1, false), (1, 1, false), (2, 1, false), (3, 1, false)] [.s (.int .i64 0), .s (.int .i64 0), .s (.int .i64 0), .s (.string ⟨#[]⟩)] := by kernel_rfl
theorem ck_71 : ck Try.prog 71 = some (true, 4, [.s (.int .i64 0), .s (.int .i64 0), .s (.int .i64 0), .s (.string ⟨#[]⟩)]) := by kernel_rfl
theorem tk_72 : tk Try.prog 72 = .st 4 [(0, 1, false), (1, 1, false), (2, 1, false), (3, 1, false)] [.s (.int .i64 0), .s (.int .i64 0), .s (.int .i64 0), .s (.string ⟨#[]⟩)] := by kernel_rfl
theorem ck_72 : ck Try.prog 72 = some (true, 4, [.s (.int .i64 0), .s (.int .i64 0), .s (.int .i64 0), .s (.string ⟨#[]⟩)]) := by kernel_rfl
theorem tk_77 : tk Try.prog 77 = .sl 5 1 1 [.s (.int .u8 0)] := by kernel_rfl
theorem ck_77 : ck Try.prog 77 = some (false, 1, [.nil]) := by kernel_rfl
theorem el_77 : Try.prog.elem 77 = 5 := by kernel_rfl
theorem un_77 : Try.prog.underlying 77 = some (.slice 5) := by kernel_rfl
theorem tk_80 : tk Try.prog 80 = .sl 3 1 8 [.s (.int .i64 0)] := by kernel_rfl
theorem ck_80 : ck Try.prog 80 = some (false, 1, [.nil]) := by kernel_rfl
theorem el_80 : Try.prog.elem 80 = 3 := by kernel_rfl
theorem un_80 : Try.prog.underlying 80 = some (.slice 3) := by kernel_rfl
theorem tk_85 : tk Try.prog 85 = .sl 93 3 48 [.s (.string ⟨#[]⟩), .s (.bool false), .nil] := by kernel_rfl
theorem ck_85 : ck Try.prog 85 = some (false, 1, [.nil]) := by kernel_rfl
theorem el_85 : Try.prog.elem 85 = 93 := by kernel_rfl
theorem un_85 : Try.prog.underlying 85 = some (.slice 93) := by kernel_rfl
theorem tk_86 : tk Try.prog 86 = .st 3 [(0, 1, false), (1, 1, false), (2, 1, false)] [.s (.string ⟨#[]⟩), .s (.int .i64 0), .nil] := by kernel_rfl
theorem ck_86 : ck Try.prog 86 = some (true, 3, [.s (.string ⟨#[]⟩), .s (.int .i64 0), .nil]) := by kernel_rfl
theorem tk_87 : tk Try.prog 87 = .st 3 [(0, 1, false), (1, 1, false), (2, 1, false)] [.s (.string ⟨#[]⟩), .s (.int .i64 0), .nil] := by kernel_rfl
theorem ck_87 : ck Try.prog 87 = some (true, 3, [.s (.string ⟨#[]⟩), .s (.int .i64 0), .nil]) := by kernel_rfl
theorem tk_89 : tk Try.prog 89 = .sl 143 3 32 [.s (.int .i64 0), .s (.string ⟨#[]⟩), .s (.int .i64 0)] := by kernel_rfl
theorem ck_89 : ck Try.prog 89 = some (false, 1, [.nil]) := by kernel_rfl
theorem el_89 : Try.prog.elem 89 = 143 := by kernel_rfl
theorem un_89 : Try.prog.underlying 89 = some (.slice 143) := by kernel_rfl
theorem tk_90 : tk Try.prog 90 = .st 1 [(0, 1, false)] [.nil] := by kernel_rfl
theorem ck_90 : ck Try.prog 90 = some (true, 1, [.nil]) := by kernel_rfl
theorem tk_91 : tk Try.prog 91 = .st 1 [(0, 1, false)] [.nil] := by kernel_rfl
theorem ck_91 : ck Try.prog 91 = some (true, 1, [.nil]) := by kernel_rfl
theorem tk_92 : tk Try.prog 92 = .st 3 [(0, 1, false), (1, 1, false), (2, 1, true)] [.s (.string ⟨#[]⟩), .s (.bool false), .nil] := by kernel_rfl
theorem ck_92 : ck Try.prog 92 = some (true, 3, [.s (.string ⟨#[]⟩), .s (.bool false), .nil]) := by kernel_rfl
theorem tk_93 : tk Try.prog 93 = .st 3 [(0, 1, false), (1, 1, false), (2, 1, true)] [.s (.string ⟨#[]⟩), .s (.bool false), .nil] := by kernel_rfl
theorem ck_93 : ck Try.prog 93 = some (true, 3, [.s (.string ⟨#[]⟩), .s (.bool false), .nil]) := by kernel_rfl
theorem tk_95 : tk Try.prog 95 = .st 6 [(0, 1, false), (1, 1, false), (2, 1, false), (3, 1, false), (4, 1, false), (5, 1, false)] [.s (.int .i64 0), .s (.int .i64 0), .s (.int .i64 0), .s (.string ⟨#[]⟩), .nil, .nil] := by kernel_rfl
theorem ck_95 : ck Try.prog 95 = some (true, 6, [.s (.int .i64 0), .s (.int .i64 0), .s (.int .i64 0), .s (.string ⟨#[]⟩), .nil, .nil]) := by kernel_rfl
theorem tk_96 : tk Try.prog 96 = .st 6 [(0, 1, false), (1, 1, false), (2, 1, false), (3, 1, false), (4, 1, false), (5, 1, false)] [.s (.int .i64 0), .s (.int .i64 0), .s (.int .i64 0), .s (.string ⟨#[]⟩), .nil, .nil] := by kernel_rfl
theorem ck_96 : ck Try.prog 96 = some (true, 6, [.s (.int .i64 0), .s (.int .i64 0), .s (.int .i64 0), .s (.string ⟨#[]⟩), .nil, .nil]) := by kernel_rfl
theorem tk_107 : tk Try.prog 107 = .st 4 [(0, 1, false), (1, 1, false), (2, 1, false), (3, 1, false)] [.s (.int .i64 0), .s (.int .i64 0), .s (.string ⟨#[]⟩), .nil] := by kernel_rfl
theorem ck_107 : ck Try.prog 107 = some (true, 4, [.s (.int .i64 0), .s (.int .i64 0), .s (.string ⟨#[]⟩), .nil]) := by kernel_rfl
theorem tk_108 : tk Try.prog 108 = .st 4 [(0, 1, false), (1, 1, false), (2, 1, false), (3, 1, false)] [.s (.int .i64 0), .s (.int .i64 0), .s (.string ⟨#[]⟩), .nil] := by kernel_rfl
theorem ck_108 : ck Try.prog 108 = some (true, 4, [.s (.int .i64 0), .s (.int .i64 0), .s (.string ⟨#[]⟩), .nil]) := by kernel_rfl
theorem tk_109 : tk Try.prog 109 = .st 4 [(0, 1, false), (1, 1, false), (2, 1, false), (3, 1, false)] [.s (.int .i64 0), .s (.int .i64 0), .s (.string ⟨#[]⟩), .nil] := by kernel_rfl
theorem ck_109 : ck Try.prog 109 = some (true, 4, [.s (.int .i64 0), .s (.int .i64 0), .s (.string ⟨#[]⟩), .nil]) := by kernel_rfl
theorem tk_116 : tk Try.prog 116 = .sl 9 1 16 [.s (.string ⟨#[]⟩)] := by kernel_rfl
theorem ck_116 : ck Try.prog 116 = some (false, 1, [.nil]) := by kernel_rfl
theorem el_116 : Try.prog.elem 116 = 9 := by kernel_rfl
theorem un_116 : Try.prog.underlying 116 = some (.slice 9) := by kernel_rfl
theorem tk_118 : tk Try.prog 118 = .sl 65 1 8 [.np] := by kernel_rfl
theorem ck_118 : ck Try.prog 118 = some (false, 1, [.nil]) := by kernel_rfl
theorem el_118 : Try.prog.elem 118 = 65 := by kernel_rfl
theorem un_118 : Try.prog.underlying 118 = some (.slice 65) := by kernel_rfl
theorem tk_119 : tk Try.prog 119 = .st 4 [(0, 1, false), (1, 1, false), (2, 1, false), (3, 1, false)] [.s (.int .i64 0), .s (.int .i64 0), .s (.string ⟨#[]⟩), .nil] := by kernel_rfl
theorem ck_119 : ck Try.prog 119 = some (true, 4, [.s (.int .i64 0), .s (.int .i64 0), .s (.string ⟨#[]⟩), .nil]) := by kernel_rfl
theorem tk_120 : tk Try.prog 120 = .st 4 [(0, 1, false), (1, 1, false), (2, 1, false), (3, 1, false)] [.s (.int .i64 0), .s (.int .i64 0), .s (.string ⟨#[]⟩), .nil] := by kernel_rfl
theorem ck_120 : ck Try.prog 120 = some (true, 4, [.s (.int .i64 0), .s (.int .i64 0), .s (.string ⟨#[]⟩), .nil]) := by kernel_rfl
theorem tk_123 : tk Try.prog 123 = .st 4 [(0, 1, false), (1, 1, false), (2, 1, false), (3, 1, false)] [.s (.int .i64 0), .s (.int .i64 0), .s (.int .i64 0), .s (.string ⟨#[]⟩)] := by kernel_rfl
theorem ck_123 : ck Try.prog 123 = some (true, 4, [.s (.int .i64 0), .s (.int .i64 0), .s (.int .i64 0), .s (.string ⟨#[]⟩)]) := by kernel_rfl
theorem tk_135 : tk Try.prog 135 = .sl 175 3 48 [.s (.string ⟨#[]⟩), .s (.bool false), .nil] := by kernel_rfl
theorem ck_135 : ck Try.prog 135 = some (false, 1, [.nil]) := by kernel_rfl
theorem el_135 : Try.prog.elem 135 = 175 := by kernel_rfl
theorem un_135 : Try.prog.underlying 135 = some (.slice 175) := by kernel_rfl
theorem tk_136 : tk Try.prog 136 = .st 3 [(0, 1, false), (1, 1, false), (2, 1, false)] [.s (.string ⟨#[]⟩), .s (.int .i64 0), .nil] := by kernel_rfl
theorem ck_136 : ck Try.prog 136 = some (true, 3, [.s (.string ⟨#[]⟩), .s (.int .i64 0), .nil]) := by kernel_rfl
theorem tk_137 : tk Try.prog 137 = .st 3 [(0, 1, false), (1, 1, false), (2, 1, false)] [.s (.string ⟨#[]⟩), .s (.int .i64 0), .nil] := by kernel_rfl
theorem ck_137 : ck Try.prog 137 = some (true, 3, [.s (.string ⟨#[]⟩), .s (.int .i64 0), .nil]) := by kernel_rfl
theorem tk_139 : tk Try.prog 139 = .st 6 [(0, 1, false), (1, 1, false), (2, 1, false), (3, 1, false), (4, 1, false), (5, 1, false)] [.s (.int .i64 0), .s (.int .i64 0), .s (.int .i64 0), .s (.string ⟨#[]⟩), .nil, .nil] := by kernel_rfl
theorem ck_139 : ck Try.prog 139 = some (true, 6, [.s (.int .i64 0), .s (.int .i64 0), .s (.int .i64 0), .s (.string ⟨#[]⟩), .nil, .nil]) := by kernel_rfl
theorem tk_140 : tk Try.prog 140 = .st 6 [(0, 1, false), (1, 1, false), (2, 1, false), (3, 1, false), (4, 1, false), (5, 1, false)] [.s (.int .i64 0), .s (.int .i64 0), .s (.int .i64 0), .s (.string ⟨#[]⟩), .nil, .nil] := by kernel_rfl
theorem ck_140 : ck Try.prog 140 = some (true, 6, [.s (.int .i64 0), .s (.int .i64 0), .s (.int .i64 0), .s (.string ⟨#[]⟩), .nil, .nil]) := by kernel_rfl
theorem tk_142 : tk Try.prog 142 = .st 3 [(0, 1, false), (1, 1, false), (2, 1, false)] [.s (.int .i64 0), .s (.string ⟨#[]⟩), .s (.int .i64 0)] := by kernel_rfl
theorem ck_142 : ck Try.prog 142 = some (true, 3, [.s (.int .i64 0), .s (.string ⟨#[]⟩), .s (.int .i64 0)]) := by kernel_rfl
theorem tk_143 : tk Try.prog 143 = .st 3 [(0, 1, false), (1, 1, false), (2, 1, false)] [.s (.int .i64 0), .s (.string ⟨#[]⟩), .s (.int .i64 0)] := by kernel_rfl
theorem ck_143 : ck Try.prog 143 = some (true, 3, [.s (.int .i64 0), .s (.string ⟨#[]⟩), .s (.int .i64 0)]) := by kernel_rfl
theorem tk_160 : tk Try.prog 160 = .sc (.s (.int .u64 0)) := by kernel_rfl
theorem ck_160 : ck Try.prog 160 = some (false, 1, [.s (.int .u64 0)]) := by kernel_rfl
theorem un_160 : Try.prog.underlying 160 = some (.int .u64) := by kernel_rfl
theorem ik_160 : Try.prog.intKind 160 = .u64 := by kernel_rfl
theorem tk_171 : tk Try.prog 171 = .sl 186 3 32 [.s (.int .i64 0), .s (.string ⟨#[]⟩), .s (.int .i64 0)] := by kernel_rfl
theorem ck_171 : ck Try.prog 171 = some (false, 1, [.nil]) := by kernel_rfl
theorem el_171 : Try.prog.elem 171 = 186 := by kernel_rfl
theorem un_171 : Try.prog.underlying 171 = some (.slice 186) := by kernel_rfl
theorem tk_172 : tk Try.prog 172 = .st 1 [(0, 1, false)] [.nil] := by kernel_rfl
theorem ck_172 : ck Try.prog 172 = some (true, 1, [.nil]) := by kernel_rfl
theorem tk_173 : tk Try.prog 173 = .st 1 [(0, 1, false)] [.nil] := by kernel_rfl
theorem ck_173 : ck Try.prog 173 = some (true, 1, [.nil]) := by kernel_rfl
theorem tk_174 : tk Try.prog 174 = .st 3 [(0, 1, false), (1, 1, false), (2, 1, true)] [.s (.string ⟨#[]⟩), .s (.bool false), .nil] := by kernel_rfl
theorem ck_174 : ck Try.prog 174 = some (true, 3, [.s (.string ⟨#[]⟩), .s (.bool false), .nil]) := by kernel_rfl
theorem tk_175 : tk Try.prog 175 = .st 3 [(0, 1, false), (1, 1, false), (2, 1, true)] [.s (.string ⟨#[]⟩), .s (.bool false), .nil] := by kernel_rfl
theorem ck_175 : ck Try.prog 175 = some (true, 3, [.s (.string ⟨#[]⟩), .s (.bool false), .nil]) := by kernel_rfl
theorem tk_186 : tk Try.prog 186 = .st 3 [(0, 1, false), (1, 1, false), (2, 1, false)] [.s (.int .i64 0), .s (.string ⟨#[]⟩), .s (.int .i64 0)] := by kernel_rfl
theorem ck_186 : ck Try.prog 186 = some (true, 3, [.s (.int .i64 0), .s (.string ⟨#[]⟩), .s (.int .i64 0)]) := by kernel_rfl
theorem tk_190 : tk Try.prog 190 = .st 4 [(0, 1, false), (1, 1, false), (2, 1, false), (3, 1, false)] [.np, .np, .np, .s (.string ⟨#[]⟩)] := by kernel_rfl
theorem ck_190 : ck Try.prog 190 = some (true, 4, [.np, .np, .np, .s (.string ⟨#[]⟩)]) := by kernel_rfl
theorem tk_191 : tk Try.prog 191 = .st 4 [(0, 1, false), (1, 1, false), (2, 1, false), (3, 1, false)] [.np, .np, .np, .s (.string ⟨#[]⟩)] := by kernel_rfl
theorem ck_191 : ck Try.prog 191 = some (true, 4, [.np, .np, .np, .s (.string ⟨#[]⟩)]) := by kernel_rfl
theorem tk_196 : tk Try.prog 196 = .sc (.s (.int .u32 0)) := by kernel_rfl
theorem ck_196 : ck Try.prog 196 = some (false, 1, [.s (.int .u32 0)]) := by kernel_rfl
theorem un_196 : Try.prog.underlying 196 = some (.int .u32) := by kernel_rfl
theorem ik_196 : Try.prog.intKind 196 = .u32 := by kernel_rfl
theorem tk_197 : tk Try.prog 197 = .sc (.s (.int .u8 0)) := by kernel_rfl
theorem ck_197 : ck Try.prog 197 = some (false, 1, [.s (.int .u8 0)]) := by kernel_rfl
theorem un_197 : Try.prog.underlying 197 = some (.int .u8) := by kernel_rfl
theorem ik_197 : Try.prog.intKind 197 = .u8 := by kernel_rfl
theorem tk_198 : tk Try.prog 198 = .sc (.s (.int .u8 0)) := by kernel_rfl
theorem ck_198 : ck Try.prog 198 = some (false, 1, [.s (.int .u8 0)]) := by kernel_rfl
theorem un_198 : Try.prog.underlying 198 = some (.int .u8) := by kernel_rfl
theorem ik_198 : Try.prog.intKind 198 = .u8 := by kernel_rfl
theorem tk_200 : tk Try.prog 200 = .sc (.np) := by kernel_rfl
theorem ck_200 : ck Try.prog 200 = some (false, 1, [.np]) := by kernel_rfl
theorem un_200 : Try.prog.underlying 200 = some (.pointer 5) := by kernel_rfl
theorem tk_201 : tk Try.prog 201 = .sc (.s (.int .i32 0)) := by kernel_rfl
theorem ck_201 : ck Try.prog 201 = some (false, 1, [.s (.int .i32 0)]) := by kernel_rfl
theorem un_201 : Try.prog.underlying 201 = some (.int .i32) := by kernel_rfl
theorem ik_201 : Try.prog.intKind 201 = .i32 := by kernel_rfl
theorem tk_202 : tk Try.prog 202 = .sc (.s (.int .i32 0)) := by kernel_rfl
theorem ck_202 : ck Try.prog 202 = some (false, 1, [.s (.int .i32 0)]) := by kernel_rfl
theorem un_202 : Try.prog.underlying 202 = some (.int .i32) := by kernel_rfl
theorem ik_202 : Try.prog.intKind 202 = .i32 := by kernel_rfl
end Go.Proofs.Ytokjkmibnjfkaaa
