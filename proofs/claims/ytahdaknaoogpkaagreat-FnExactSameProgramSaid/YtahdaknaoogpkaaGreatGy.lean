/- What the program's types say; how its functions take their arguments. -/
import Derived.Test.YtahdaknaoogpkaaGreatGtB
import Derived.Test.YtahdaknaoogpkaaGreatProg
namespace Go.Proofs.YtahdaknaoogpkaaGreat
theorem tk_2 : tk Tryz.prog 2 = .sc (.s (.int .i64 0)) := by kernel_rfl
theorem ck_2 : ck Tryz.prog 2 = some (false, 1, [.s (.int .i64 0)]) := by kernel_rfl
theorem un_2 : Tryz.prog.underlying 2 = some (.int .i64) := by kernel_rfl
theorem ik_2 : Tryz.prog.intKind 2 = .i64 := by kernel_rfl
theorem tk_3 : tk Tryz.prog 3 = .sc (.s (.int .i64 0)) := by kernel_rfl
theorem ck_3 : ck Tryz.prog 3 = some (false, 1, [.s (.int .i64 0)]) := by kernel_rfl
theorem un_3 : Tryz.prog.underlying 3 = some (.int .i64) := by kernel_rfl
theorem ik_3 : Tryz.prog.intKind 3 = .i64 := by kernel_rfl
theorem tk_4 : tk Tryz.prog 4 = .sc (.s (.bool false)) := by kernel_rfl
theorem ck_4 : ck Tryz.prog 4 = some (false, 1, [.s (.bool false)]) := by kernel_rfl
theorem un_4 : Tryz.prog.underlying 4 = some (.bool) := by kernel_rfl
theorem tk_5 : tk Tryz.prog 5 = .sc (.s (.int .u8 0)) := by kernel_rfl
theorem ck_5 : ck Tryz.prog 5 = some (false, 1, [.s (.int .u8 0)]) := by kernel_rfl
theorem un_5 : Tryz.prog.underlying 5 = some (.int .u8) := by kernel_rfl
theorem ik_5 : Tryz.prog.intKind 5 = .u8 := by kernel_rfl
theorem tk_6 : tk Tryz.prog 6 = .sc (.s (.int .u8 0)) := by kernel_rfl
theorem ck_6 : ck Tryz.prog 6 = some (false, 1, [.s (.int .u8 0)]) := by kernel_rfl
theorem un_6 : Tryz.prog.underlying 6 = some (.int .u8) := by kernel_rfl
theorem ik_6 : Tryz.prog.intKind 6 = .u8 := by kernel_rfl
theorem tk_7 : tk Tryz.prog 7 = .st 4 [(0, 1, false), (1, 1, false), (2, 1, false), (3, 1, false)] [.s (.int .i64 0), .s (.int .i64 0), .s (.bool false), .s (.int .u8 0)] := by kernel_rfl
theorem ck_7 : ck Tryz.prog 7 = some (true, 4, [.s (.int .i64 0), .s (.int .i64 0), .s (.bool false), .s (.int .u8 0)]) := by kernel_rfl
theorem tk_8 : tk Tryz.prog 8 = .st 4 [(0, 1, false), (1, 1, false), (2, 1, false), (3, 1, false)] [.s (.int .i64 0), .s (.int .i64 0), .s (.bool false), .s (.int .u8 0)] := by kernel_rfl
theorem ck_8 : ck Tryz.prog 8 = some (true, 4, [.s (.int .i64 0), .s (.int .i64 0), .s (.bool false), .s (.int .u8 0)]) := by kernel_rfl
theorem tk_9 : tk Tryz.prog 9 = .sc (.s (.string ⟨#[]⟩)) := by kernel_rfl
theorem ck_9 : ck Tryz.prog 9 = some (false, 1, [.s (.string ⟨#[]⟩)]) := by kernel_rfl
theorem un_9 : Tryz.prog.underlying 9 = some (.string) := by kernel_rfl
theorem tk_10 : tk Tryz.prog 10 = .sc (.s (.string ⟨#[]⟩)) := by kernel_rfl
theorem ck_10 : ck Tryz.prog 10 = some (false, 1, [.s (.string ⟨#[]⟩)]) := by kernel_rfl
theorem un_10 : Tryz.prog.underlying 10 = some (.string) := by kernel_rfl
theorem tk_11 : tk Tryz.prog 11 = .sc (.s (.string ⟨#[]⟩)) := by kernel_rfl
theorem ck_11 : ck Tryz.prog 11 = some (false, 1, [.s (.string ⟨#[]⟩)]) := by kernel_rfl
theorem un_11 : Tryz.prog.underlying 11 = some (.string) := by kernel_rfl
theorem tk_12 : tk Tryz.prog 12 = .sc (.s (.int .u64 0)) := by kernel_rfl
theorem ck_12 : ck Tryz.prog 12 = some (false, 1, [.s (.int .u64 0)]) := by kernel_rfl
theorem un_12 : Tryz.prog.underlying 12 = some (.int .u64) := by kernel_rfl
theorem ik_12 : Tryz.prog.intKind 12 = .u64 := by kernel_rfl
theorem tk_13 : tk Tryz.prog 13 = .st 2 [(0, 1, false), (1, 1, false)] [.s (.string ⟨#[]⟩), .s (.int .u64 0)] := by kernel_rfl
theorem ck_13 : ck Tryz.prog 13 = some (true, 2, [.s (.string ⟨#[]⟩), .s (.int .u64 0)]) := by kernel_rfl
theorem tk_14 : tk Tryz.prog 14 = .st 2 [(0, 1, false), (1, 1, false)] [.s (.string ⟨#[]⟩), .s (.int .u64 0)] := by kernel_rfl
theorem ck_14 : ck Tryz.prog 14 = some (true, 2, [.s (.string ⟨#[]⟩), .s (.int .u64 0)]) := by kernel_rfl
theorem tk_15 : tk Tryz.prog 15 = .sc (.np) := by kernel_rfl
theorem ck_15 : ck Tryz.prog 15 = some (false, 1, [.np]) := by kernel_rfl
theorem un_15 : Tryz.prog.underlying 15 = some (.pointer 332) := by kernel_rfl
theorem tk_16 : tk Tryz.prog 16 = .sc (.np) := by kernel_rfl
theorem ck_16 : ck Tryz.prog 16 = some (false, 1, [.np]) := by kernel_rfl
theorem un_16 : Tryz.prog.underlying 16 = some (.pointer 335) := by kernel_rfl
theorem tk_17 : tk Tryz.prog 17 = .sc (.np) := by kernel_rfl
theorem ck_17 : ck Tryz.prog 17 = some (false, 1, [.np]) := by kernel_rfl
theorem un_17 : Tryz.prog.underlying 17 = some (.pointer 344) := by kernel_rfl
theorem tk_18 : tk Tryz.prog 18 = .st 1 [(0, 1, false)] [.np] := by kernel_rfl
theorem ck_18 : ck Tryz.prog 18 = some (true, 1, [.np]) := by kernel_rfl
theorem tk_19 : tk Tryz.prog 19 = .st 1 [(0, 1, false)] [.np] := by kernel_rfl
theorem ck_19 : ck Tryz.prog 19 = some (true, 1, [.np]) := by kernel_rfl
theorem tk_21 : tk Tryz.prog 21 = .sc (.s (.int .i32 0)) := by kernel_rfl
theorem ck_21 : ck Tryz.prog 21 = some (false, 1, [.s (.int .i32 0)]) := by kernel_rfl
theorem un_21 : Tryz.prog.underlying 21 = some (.int .i32) := by kernel_rfl
theorem ik_21 : Tryz.prog.intKind 21 = .i32 := by kernel_rfl
theorem tk_22 : tk Tryz.prog 22 = .sl 132 3 48 [.s (.string ⟨#[]⟩), .s (.int .i64 0), .nil] := by kernel_rfl
theorem ck_22 : ck Tryz.prog 22 = some (false, 1, [.nil]) := by kernel_rfl
theorem el_22 : Tryz.prog.elem 22 = 132 := by kernel_rfl
theorem un_22 : Tryz.prog.underlying 22 = some (.slice 132) := by kernel_rfl
theorem tk_23 : tk Tryz.prog 23 = .sl 136 6 88 [.s (.int .i64 0), .s (.int .i64 0), .s (.int .i64 0), .s (.string ⟨#[]⟩), .nil, .nil] := by kernel_rfl
theorem ck_23 : ck Tryz.prog 23 = some (false, 1, [.nil]) := by kernel_rfl
theorem el_23 : Tryz.prog.elem 23 = 136 := by kernel_rfl
theorem un_23 : Tryz.prog.underlying 23 = some (.slice 136) := by kernel_rfl
theorem tk_24 : tk Tryz.prog 24 = .st 2 [(0, 1, false), (1, 1, false)] [.nil, .nil] := by kernel_rfl
theorem ck_24 : ck Tryz.prog 24 = some (true, 2, [.nil, .nil]) := by kernel_rfl
theorem tk_25 : tk Tryz.prog 25 = .st 2 [(0, 1, false), (1, 1, false)] [.nil, .nil] := by kernel_rfl
theorem ck_25 : ck Tryz.prog 25 = some (true, 2, [.nil, .nil]) := by kernel_rfl
theorem tk_28 : tk Tryz.prog 28 = .sl 62 3 48 [.s (.string ⟨#[]⟩), .s (.int .i64 0), .nil] := by kernel_rfl
theorem ck_28 : ck Tryz.prog 28 = some (false, 1, [.nil]) := by kernel_rfl
theorem el_28 : Tryz.prog.elem 28 = 62 := by kernel_rfl
theorem un_28 : Tryz.prog.underlying 28 = some (.slice 62) := by kernel_rfl
theorem tk_29 : tk Tryz.prog 29 = .sl 96 6 88 [.s (.int .i64 0), .s (.int .i64 0), .s (.int .i64 0), .s (.string ⟨#[]⟩), .nil, .nil] := by kernel_rfl
theorem ck_29 : ck Tryz.prog 29 = some (false, 1, [.nil]) := by kernel_rfl
theorem el_29 : Tryz.prog.elem 29 = 96 := by kernel_rfl
theorem un_29 : Tryz.prog.underlying 29 = some (.slice 96) := by kernel_rfl
theorem tk_30 : tk Tryz.prog 30 = .st 2 [(0, 1, false), (1, 1, false)] [.nil, .nil] := by kernel_rfl
theorem ck_30 : ck Tryz.prog 30 = some (true, 2, [.nil, .nil]) := by kernel_rfl
theorem tk_31 : tk Tryz.prog 31 = .st 2 [(0, 1, false), (1, 1, false)] [.nil, .nil] := by kernel_rfl
theorem ck_31 : ck Tryz.prog 31 = some (true, 2, [.nil, .nil]) := by kernel_rfl
theorem tk_36 : tk Tryz.prog 36 = .sl 53 4 40 [.s (.int .i64 0), .s (.int .i64 0), .s (.int .i64 0), .s (.string ⟨#[]⟩)] := by kernel_rfl
theorem ck_36 : ck Tryz.prog 36 = some (false, 1, [.nil]) := by kernel_rfl
theorem el_36 : Tryz.prog.elem 36 = 53 := by kernel_rfl
theorem un_36 : Tryz.prog.underlying 36 = some (.slice 53) := by kernel_rfl
theorem tk_37 : tk Tryz.prog 37 = .sl 114 1 24 [.nil] := by kernel_rfl
theorem ck_37 : ck Tryz.prog 37 = some (false, 1, [.nil]) := by kernel_rfl
theorem el_37 : Tryz.prog.elem 37 = 114 := by kernel_rfl
theorem un_37 : Tryz.prog.underlying 37 = some (.slice 114) := by kernel_rfl
theorem tk_38 : tk Tryz.prog 38 = .st 2 [(0, 1, false), (1, 1, false)] [.nil, .nil] := by kernel_rfl
theorem ck_38 : ck Tryz.prog 38 = some (true, 2, [.nil, .nil]) := by kernel_rfl
theorem tk_39 : tk Tryz.prog 39 = .st 2 [(0, 1, false), (1, 1, false)] [.nil, .nil] := by kernel_rfl
theorem ck_39 : ck Tryz.prog 39 = some (true, 2, [.nil, .nil]) := by kernel_rfl
theorem tk_46 : tk Tryz.prog 46 = .sl 5 1 1 [.s (.int .u8 0)] := by kernel_rfl
theorem ck_46 : ck Tryz.prog 46 = some (false, 1, [.nil]) := by kernel_rfl
theorem el_46 : Tryz.prog.elem 46 = 5 := by kernel_rfl
theorem un_46 : Tryz.prog.underlying 46 = some (.slice 5) := by kernel_rfl
theorem tk_52 : tk Tryz.prog 52 = .st 4 [(0, 1, false), (1, 1, false), (2, 1, false), (3, 1, false)] [.s (.int .i64 0), .s (.int .i64 0), .s (.int .i64 0), .s (.string ⟨#[]⟩)] := by kernel_rfl
theorem ck_52 : ck Tryz.prog 52 = some (true, 4, [.s (.int .i64 0), .s (.int .i64 0), .s (.int .i64 0), .s (.string ⟨#[]⟩)]) := by kernel_rfl
theorem tk_53 : tk Tryz.prog 53 = .st 4 [(0, 1, false), (1, 1, false), (2, 1, false), (3, 1, false)] [.s (.int .i64 0), .s (.int .i64 0), .s (.int .i64 0), .s (.string ⟨#[]⟩)] := by kernel_rfl
theorem ck_53 : ck Tryz.prog 53 = some (true, 4, [.s (.int .i64 0), .s (.int .i64 0), .s (.int .i64 0), .s (.string ⟨#[]⟩)]) := by kernel_rfl
theorem sq_53 : sqB Tryz.prog 53 [0, 0, 0, 1] = true := by kernel_rfl
theorem tk_60 : tk Tryz.prog 60 = .sl 68 3 48 [.s (.string ⟨#[]⟩), .s (.bool false), .nil] := by kernel_rfl
theorem ck_60 : ck Tryz.prog 60 = some (false, 1, [.nil]) := by kernel_rfl
theorem el_60 : Tryz.prog.elem 60 = 68 := by kernel_rfl
theorem un_60 : Tryz.prog.underlying 60 = some (.slice 68) := by kernel_rfl
theorem tk_61 : tk Tryz.prog 61 = .st 3 [(0, 1, false), (1, 1, false), (2, 1, false)] [.s (.string ⟨#[]⟩), .s (.int .i64 0), .nil] := by kernel_rfl
theorem ck_61 : ck Tryz.prog 61 = some (true, 3, [.s (.string ⟨#[]⟩), .s (.int .i64 0), .nil]) := by kernel_rfl
theorem tk_62 : tk Tryz.prog 62 = .st 3 [(0, 1, false), (1, 1, false), (2, 1, false)] [.s (.string ⟨#[]⟩), .s (.int .i64 0), .nil] := by kernel_rfl
theorem ck_62 : ck Tryz.prog 62 = some (true, 3, [.s (.string ⟨#[]⟩), .s (.int .i64 0), .nil]) := by kernel_rfl
theorem tk_63 : tk Tryz.prog 63 = .sl 9 1 16 [.s (.string ⟨#[]⟩)] := by kernel_rfl
theorem ck_63 : ck Tryz.prog 63 = some (false, 1, [.nil]) := by kernel_rfl
theorem el_63 : Tryz.prog.elem 63 = 9 := by kernel_rfl
theorem un_63 : Tryz.prog.underlying 63 = some (.slice 9) := by kernel_rfl
theorem tk_64 : tk Tryz.prog 64 = .sl 143 3 32 [.s (.int .i64 0), .s (.string ⟨#[]⟩), .s (.int .i64 0)] := by kernel_rfl
theorem ck_64 : ck Tryz.prog 64 = some (false, 1, [.nil]) := by kernel_rfl
theorem el_64 : Tryz.prog.elem 64 = 143 := by kernel_rfl
theorem un_64 : Tryz.prog.underlying 64 = some (.slice 143) := by kernel_rfl
theorem tk_65 : tk Tryz.prog 65 = .st 1 [(0, 1, false)] [.nil] := by kernel_rfl
theorem ck_65 : ck Tryz.prog 65 = some (true, 1, [.nil]) := by kernel_rfl
theorem tk_66 : tk Tryz.prog 66 = .st 1 [(0, 1, false)] [.nil] := by kernel_rfl
theorem ck_66 : ck Tryz.prog 66 = some (true, 1, [.nil]) := by kernel_rfl
theorem tk_67 : tk Tryz.prog 67 = .st 3 [(0, 1, false), (1, 1, false), (2, 1, true)] [.s (.string ⟨#[]⟩), .s (.bool false), .nil] := by kernel_rfl
theorem ck_67 : ck Tryz.prog 67 = some (true, 3, [.s (.string ⟨#[]⟩), .s (.bool false), .nil]) := by kernel_rfl
theorem tk_68 : tk Tryz.prog 68 = .st 3 [(0, 1, false), (1, 1, false), (2, 1, true)] [.s (.string ⟨#[]⟩), .s (.bool false), .nil] := by kernel_rfl
theorem ck_68 : ck Tryz.prog 68 = some (true, 3, [.s (.string ⟨#[]⟩), .s (.bool false), .nil]) := by kernel_rfl
theorem tk_75 : tk Tryz.prog 75 = .sc (.np) := by kernel_rfl
theorem ck_75 : ck Tryz.prog 75 = some (false, 1, [.np]) := by kernel_rfl
theorem un_75 : Tryz.prog.underlying 75 = some (.pointer 167) := by kernel_rfl
theorem tk_77 : tk Tryz.prog 77 = .sc (.np) := by kernel_rfl
theorem ck_77 : ck Tryz.prog 77 = some (false, 1, [.np]) := by kernel_rfl
theorem un_77 : Tryz.prog.underlying 77 = some (.pointer 79) := by kernel_rfl
theorem tk_78 : tk Tryz.prog 78 = .st 5 [(0, 2, true), (2, 2, true), (4, 1, false)] [.nil, .nil, .nil, .nil, .s (.bool false)] := by kernel_rfl
theorem ck_78 : ck Tryz.prog 78 = some (true, 5, [.nil, .nil, .nil, .nil, .s (.bool false)]) := by kernel_rfl
theorem tk_79 : tk Tryz.prog 79 = .st 5 [(0, 2, true), (2, 2, true), (4, 1, false)] [.nil, .nil, .nil, .nil, .s (.bool false)] := by kernel_rfl
theorem ck_79 : ck Tryz.prog 79 = some (true, 5, [.nil, .nil, .nil, .nil, .s (.bool false)]) := by kernel_rfl
theorem tk_82 : tk Tryz.prog 82 = .sc (.np) := by kernel_rfl
theorem ck_82 : ck Tryz.prog 82 = some (false, 1, [.np]) := by kernel_rfl
theorem un_82 : Tryz.prog.underlying 82 = some (.pointer 84) := by kernel_rfl
theorem tk_83 : tk Tryz.prog 83 = .st 4 [(0, 2, true), (2, 1, false), (3, 1, false)] [.nil, .nil, .nil, .s (.bool false)] := by kernel_rfl
theorem ck_83 : ck Tryz.prog 83 = some (true, 4, [.nil, .nil, .nil, .s (.bool false)]) := by kernel_rfl
theorem tk_84 : tk Tryz.prog 84 = .st 4 [(0, 2, true), (2, 1, false), (3, 1, false)] [.nil, .nil, .nil, .s (.bool false)] := by kernel_rfl
theorem ck_84 : ck Tryz.prog 84 = some (true, 4, [.nil, .nil, .nil, .s (.bool false)]) := by kernel_rfl
theorem tk_94 : tk Tryz.prog 94 = .sl 3 1 8 [.s (.int .i64 0)] := by kernel_rfl
theorem ck_94 : ck Tryz.prog 94 = some (false, 1, [.nil]) := by kernel_rfl
theorem el_94 : Tryz.prog.elem 94 = 3 := by kernel_rfl
theorem un_94 : Tryz.prog.underlying 94 = some (.slice 3) := by kernel_rfl
theorem tk_95 : tk Tryz.prog 95 = .st 6 [(0, 1, false), (1, 1, false), (2, 1, false), (3, 1, false), (4, 1, false), (5, 1, false)] [.s (.int .i64 0), .s (.int .i64 0), .s (.int .i64 0), .s (.string ⟨#[]⟩), .nil, .nil] := by kernel_rfl
theorem ck_95 : ck Tryz.prog 95 = some (true, 6, [.s (.int .i64 0), .s (.int .i64 0), .s (.int .i64 0), .s (.string ⟨#[]⟩), .nil, .nil]) := by kernel_rfl
theorem tk_96 : tk Tryz.prog 96 = .st 6 [(0, 1, false), (1, 1, false), (2, 1, false), (3, 1, false), (4, 1, false), (5, 1, false)] [.s (.int .i64 0), .s (.int .i64 0), .s (.int .i64 0), .s (.string ⟨#[]⟩), .nil, .nil] := by kernel_rfl
theorem ck_96 : ck Tryz.prog 96 = some (true, 6, [.s (.int .i64 0), .s (.int .i64 0), .s (.int .i64 0), .s (.string ⟨#[]⟩), .nil, .nil]) := by kernel_rfl
theorem tk_97 : tk Tryz.prog 97 = .sl 99 7 112 [.s (.int .i64 0), .s (.int .i64 0), .s (.int .i64 0), .s (.string ⟨#[]⟩), .nil, .nil, .nil] := by kernel_rfl
theorem ck_97 : ck Tryz.prog 97 = some (false, 1, [.nil]) := by kernel_rfl
theorem el_97 : Tryz.prog.elem 97 = 99 := by kernel_rfl
theorem un_97 : Tryz.prog.underlying 97 = some (.slice 99) := by kernel_rfl
theorem tk_98 : tk Tryz.prog 98 = .st 7 [(0, 6, true), (6, 1, false)] [.s (.int .i64 0), .s (.int .i64 0), .s (.int .i64 0), .s (.string ⟨#[]⟩), .nil, .nil, .nil] := by kernel_rfl
theorem ck_98 : ck Tryz.prog 98 = some (true, 7, [.s (.int .i64 0), .s (.int .i64 0), .s (.int .i64 0), .s (.string ⟨#[]⟩), .nil, .nil, .nil]) := by kernel_rfl
theorem tk_99 : tk Tryz.prog 99 = .st 7 [(0, 6, true), (6, 1, false)] [.s (.int .i64 0), .s (.int .i64 0), .s (.int .i64 0), .s (.string ⟨#[]⟩), .nil, .nil, .nil] := by kernel_rfl
theorem ck_99 : ck Tryz.prog 99 = some (true, 7, [.s (.int .i64 0), .s (.int .i64 0), .s (.int .i64 0), .s (.string ⟨#[]⟩), .nil, .nil, .nil]) := by kernel_rfl
theorem tk_105 : tk Tryz.prog 105 = .sc (.np) := by kernel_rfl
theorem ck_105 : ck Tryz.prog 105 = some (false, 1, [.np]) := by kernel_rfl
theorem un_105 : Tryz.prog.underlying 105 = some (.pointer 195) := by kernel_rfl
theorem tk_112 : tk Tryz.prog 112 = .sl 187 4 56 [.s (.int .i64 0), .s (.int .i64 0), .s (.string ⟨#[]⟩), .nil] := by kernel_rfl
theorem ck_112 : ck Tryz.prog 112 = some (false, 1, [.nil]) := by kernel_rfl
theorem el_112 : Tryz.prog.elem 112 = 187 := by kernel_rfl
theorem un_112 : Tryz.prog.underlying 112 = some (.slice 187) := by kernel_rfl
theorem tk_113 : tk Tryz.prog 113 = .st 1 [(0, 1, false)] [.nil] := by kernel_rfl
theorem ck_113 : ck Tryz.prog 113 = some (true, 1, [.nil]) := by kernel_rfl
theorem tk_114 : tk Tryz.prog 114 = .st 1 [(0, 1, false)] [.nil] := by kernel_rfl
theorem ck_114 : ck Tryz.prog 114 = some (true, 1, [.nil]) := by kernel_rfl
theorem tk_130 : tk Tryz.prog 130 = .sl 287 3 48 [.s (.string ⟨#[]⟩), .s (.bool false), .nil] := by kernel_rfl
theorem ck_130 : ck Tryz.prog 130 = some (false, 1, [.nil]) := by kernel_rfl
theorem el_130 : Tryz.prog.elem 130 = 287 := by kernel_rfl
theorem un_130 : Tryz.prog.underlying 130 = some (.slice 287) := by kernel_rfl
theorem tk_131 : tk Tryz.prog 131 = .st 3 [(0, 1, false), (1, 1, false), (2, 1, false)] [.s (.string ⟨#[]⟩), .s (.int .i64 0), .nil] := by kernel_rfl
theorem ck_131 : ck Tryz.prog 131 = some (true, 3, [.s (.string ⟨#[]⟩), .s (.int .i64 0), .nil]) := by kernel_rfl
theorem tk_132 : tk Tryz.prog 132 = .st 3 [(0, 1, false), (1, 1, false), (2, 1, false)] [.s (.string ⟨#[]⟩), .s (.int .i64 0), .nil] := by kernel_rfl
theorem ck_132 : ck Tryz.prog 132 = some (true, 3, [.s (.string ⟨#[]⟩), .s (.int .i64 0), .nil]) := by kernel_rfl
theorem tk_134 : tk Tryz.prog 134 = .sl 291 1 24 [.nil] := by kernel_rfl
theorem ck_134 : ck Tryz.prog 134 = some (false, 1, [.nil]) := by kernel_rfl
theorem el_134 : Tryz.prog.elem 134 = 291 := by kernel_rfl
theorem un_134 : Tryz.prog.underlying 134 = some (.slice 291) := by kernel_rfl
theorem tk_135 : tk Tryz.prog 135 = .st 6 [(0, 1, false), (1, 1, false), (2, 1, false), (3, 1, false), (4, 1, false), (5, 1, false)] [.s (.int .i64 0), .s (.int .i64 0), .s (.int .i64 0), .s (.string ⟨#[]⟩), .nil, .nil] := by kernel_rfl
theorem ck_135 : ck Tryz.prog 135 = some (true, 6, [.s (.int .i64 0), .s (.int .i64 0), .s (.int .i64 0), .s (.string ⟨#[]⟩), .nil, .nil]) := by kernel_rfl
theorem tk_136 : tk Tryz.prog 136 = .st 6 [(0, 1, false), (1, 1, false), (2, 1, false), (3, 1, false), (4, 1, false), (5, 1, false)] [.s (.int .i64 0), .s (.int .i64 0), .s (.int .i64 0), .s (.string ⟨#[]⟩), .nil, .nil] := by kernel_rfl
theorem ck_136 : ck Tryz.prog 136 = some (true, 6, [.s (.int .i64 0), .s (.int .i64 0), .s (.int .i64 0), .s (.string ⟨#[]⟩), .nil, .nil]) := by kernel_rfl
theorem tk_142 : tk Tryz.prog 142 = .st 3 [(0, 1, false), (1, 1, false), (2, 1, false)] [.s (.int .i64 0), .s (.string ⟨#[]⟩), .s (.int .i64 0)] := by kernel_rfl
theorem ck_142 : ck Tryz.prog 142 = some (true, 3, [.s (.int .i64 0), .s (.string ⟨#[]⟩), .s (.int .i64 0)]) := by kernel_rfl
theorem tk_143 : tk Tryz.prog 143 = .st 3 [(0, 1, false), (1, 1, false), (2, 1, false)] [.s (.int .i64 0), .s (.string ⟨#[]⟩), .s (.int .i64 0)] := by kernel_rfl
theorem ck_143 : ck Tryz.prog 143 = some (true, 3, [.s (.int .i64 0), .s (.string ⟨#[]⟩), .s (.int .i64 0)]) := by kernel_rfl
theorem sq_143 : sqB Tryz.prog 143 [0, 1, 0] = true := by kernel_rfl
theorem tk_156 : tk Tryz.prog 156 = .sc (.np) := by kernel_rfl
theorem ck_156 : ck Tryz.prog 156 = some (false, 1, [.np]) := by kernel_rfl
theorem un_156 : Tryz.prog.underlying 156 = some (.pointer 158) := by kernel_rfl
theorem tk_157 : tk Tryz.prog 157 = .st 2 [(0, 1, false), (1, 1, false)] [.np, .nil] := by kernel_rfl
theorem ck_157 : ck Tryz.prog 157 = some (true, 2, [.np, .nil]) := by kernel_rfl
theorem tk_158 : tk Tryz.prog 158 = .st 2 [(0, 1, false), (1, 1, false)] [.np, .nil] := by kernel_rfl
theorem ck_158 : ck Tryz.prog 158 = some (true, 2, [.np, .nil]) := by kernel_rfl
theorem tk_165 : tk Tryz.prog 165 = .sl 75 1 8 [.np] := by kernel_rfl
theorem ck_165 : ck Tryz.prog 165 = some (false, 1, [.nil]) := by kernel_rfl
theorem el_165 : Tryz.prog.elem 165 = 75 := by kernel_rfl
theorem un_165 : Tryz.prog.underlying 165 = some (.slice 75) := by kernel_rfl
theorem tk_166 : tk Tryz.prog 166 = .st 6 [(0, 1, false), (1, 1, false), (2, 1, false), (3, 1, false), (4, 1, false), (5, 1, false)] [.s (.int .i64 0), .s (.int .i64 0), .s (.int .i64 0), .s (.string ⟨#[]⟩), .nil, .nil] := by kernel_rfl
theorem ck_166 : ck Tryz.prog 166 = some (true, 6, [.s (.int .i64 0), .s (.int .i64 0), .s (.int .i64 0), .s (.string ⟨#[]⟩), .nil, .nil]) := by kernel_rfl
theorem tk_167 : tk Tryz.prog 167 = .st 6 [(0, 1, false), (1, 1, false), (2, 1, false), (3, 1, false), (4, 1, false), (5, 1, false)] [.s (.int .i64 0), .s (.int .i64 0), .s (.int .i64 0), .s (.string ⟨#[]⟩), .nil, .nil] := by kernel_rfl
theorem ck_167 : ck Tryz.prog 167 = some (true, 6, [.s (.int .i64 0), .s (.int .i64 0), .s (.int .i64 0), .s (.string ⟨#[]⟩), .nil, .nil]) := by kernel_rfl
theorem tk_186 : tk Tryz.prog 186 = .st 4 [(0, 1, false), (1, 1, false), (2, 1, false), (3, 1, false)] [.s (.int .i64 0), .s (.int .i64 0), .s (.string ⟨#[]⟩), .nil] := by kernel_rfl
theorem ck_186 : ck Tryz.prog 186 = some (true, 4, [.s (.int .i64 0), .s (.int .i64 0), .s (.string ⟨#[]⟩), .nil]) := by kernel_rfl
theorem tk_187 : tk Tryz.prog 187 = .st 4 [(0, 1, false), (1, 1, false), (2, 1, false), (3, 1, false)] [.s (.int .i64 0), .s (.int .i64 0), .s (.string ⟨#[]⟩), .nil] := by kernel_rfl
theorem ck_187 : ck Tryz.prog 187 = some (true, 4, [.s (.int .i64 0), .s (.int .i64 0), .s (.string ⟨#[]⟩), .nil]) := by kernel_rfl
theorem tk_194 : tk Tryz.prog 194 = .st 3 [(0, 1, false), (1, 1, false), (2, 1, false)] [.nil, .s (.int .i64 0), .s (.int .i64 0)] := by kernel_rfl
theorem ck_194 : ck Tryz.prog 194 = some (true, 3, [.nil, .s (.int .i64 0), .s (.int .i64 0)]) := by kernel_rfl
theorem tk_195 : tk Tryz.prog 195 = .st 3 [(0, 1, false), (1, 1, false), (2, 1, false)] [.nil, .s (.int .i64 0), .s (.int .i64 0)] := by kernel_rfl
theorem ck_195 : ck Tryz.prog 195 = some (true, 3, [.nil, .s (.int .i64 0), .s (.int .i64 0)]) := by kernel_rfl
theorem tk_210 : tk Tryz.prog 210 = .sl 267 4 40 [.s (.int .i64 0), .s (.int .i64 0), .s (.string ⟨#[]⟩), .s (.int .i64 0)] := by kernel_rfl
theorem ck_210 : ck Tryz.prog 210 = some (false, 1, [.nil]) := by kernel_rfl
theorem el_210 : Tryz.prog.elem 210 = 267 := by kernel_rfl
theorem un_210 : Tryz.prog.underlying 210 = some (.slice 267) := by kernel_rfl
theorem tk_213 : tk Tryz.prog 213 = .sc (.np) := by kernel_rfl
theorem ck_213 : ck Tryz.prog 213 = some (false, 1, [.np]) := by kernel_rfl
theorem un_213 : Tryz.prog.underlying 213 = some (.pointer 215) := by kernel_rfl
theorem tk_214 : tk Tryz.prog 214 = .st 7 [(0, 1, false), (1, 1, false), (2, 1, false), (3, 1, false), (4, 1, false), (5, 1, false), (6, 1, false)] [.nil, .s (.int .i64 0), .s (.int .i64 0), .s (.int .i64 0), .s (.int .i64 0), .nil, .nil] := by kernel_rfl
theorem ck_214 : ck Tryz.prog 214 = some (true, 7, [.nil, .s (.int .i64 0), .s (.int .i64 0), .s (.int .i64 0), .s (.int .i64 0), .nil, .nil]) := by kernel_rfl
theorem tk_215 : tk Tryz.prog 215 = .st 7 [(0, 1, false), (1, 1, false), (2, 1, false), (3, 1, false), (4, 1, false), (5, 1, false), (6, 1, false)] [.nil, .s (.int .i64 0), .s (.int .i64 0), .s (.int .i64 0), .s (.int .i64 0), .nil, .nil] := by kernel_rfl
theorem ck_215 : ck Tryz.prog 215 = some (true, 7, [.nil, .s (.int .i64 0), .s (.int .i64 0), .s (.int .i64 0), .s (.int .i64 0), .nil, .nil]) := by kernel_rfl
theorem tk_234 : tk Tryz.prog 234 = .sc (.np) := by kernel_rfl
theorem ck_234 : ck Tryz.prog 234 = some (false, 1, [.np]) := by kernel_rfl
theorem un_234 : Tryz.prog.underlying 234 = some (.pointer 5) := by kernel_rfl
theorem tk_236 : tk Tryz.prog 236 = .sc (.np) := by kernel_rfl
theorem ck_236 : ck Tryz.prog 236 = some (false, 1, [.np]) := by kernel_rfl
theorem un_236 : Tryz.prog.underlying 236 = some (.pointer 299) := by kernel_rfl
theorem tk_243 : tk Tryz.prog 243 = .sc (.np) := by kernel_rfl
theorem ck_243 : ck Tryz.prog 243 = some (false, 1, [.np]) := by kernel_rfl
theorem un_243 : Tryz.prog.underlying 243 = some (.pointer 246) := by kernel_rfl
theorem tk_244 : tk Tryz.prog 244 = .sl 249 5 80 [.s (.int .i64 0), .s (.int .i64 0), .s (.string ⟨#[]⟩), .nil, .nil] := by kernel_rfl
theorem ck_244 : ck Tryz.prog 244 = some (false, 1, [.nil]) := by kernel_rfl
theorem el_244 : Tryz.prog.elem 244 = 249 := by kernel_rfl
theorem un_244 : Tryz.prog.underlying 244 = some (.slice 249) := by kernel_rfl
theorem tk_245 : tk Tryz.prog 245 = .st 9 [(0, 2, true), (2, 1, false), (3, 1, false), (4, 1, false), (5, 1, false), (6, 1, false), (7, 1, false), (8, 1, false)] [.nil, .nil, .nil, .s (.int .i64 0), .s (.int .i64 0), .nil, .nil, .s (.int .i64 0), .s (.int .i64 0)] := by kernel_rfl
theorem ck_245 : ck Tryz.prog 245 = some (true, 9, [.nil, .nil, .nil, .s (.int .i64 0), .s (.int .i64 0), .nil, .nil, .s (.int .i64 0), .s (.int .i64 0)]) := by kernel_rfl
theorem tk_246 : tk Tryz.prog 246 = .st 9 [(0, 2, true), (2, 1, false), (3, 1, false), (4, 1, false), (5, 1, false), (6, 1, false), (7, 1, false), (8, 1, false)] [.nil, .nil, .nil, .s (.int .i64 0), .s (.int .i64 0), .nil, .nil, .s (.int .i64 0), .s (.int .i64 0)] := by kernel_rfl
theorem ck_246 : ck Tryz.prog 246 = some (true, 9, [.nil, .nil, .nil, .s (.int .i64 0), .s (.int .i64 0), .nil, .nil, .s (.int .i64 0), .s (.int .i64 0)]) := by kernel_rfl
theorem tk_247 : tk Tryz.prog 247 = .sl 346 6 96 [.s (.string ⟨#[]⟩), .s (.int .i64 0), .s (.int .i64 0), .s (.string ⟨#[]⟩), .nil, .nil] := by kernel_rfl
theorem ck_247 : ck Tryz.prog 247 = some (false, 1, [.nil]) := by kernel_rfl
theorem el_247 : Tryz.prog.elem 247 = 346 := by kernel_rfl
theorem un_247 : Tryz.prog.underlying 247 = some (.slice 346) := by kernel_rfl
theorem tk_248 : tk Tryz.prog 248 = .st 5 [(0, 1, false), (1, 1, false), (2, 1, false), (3, 1, false), (4, 1, false)] [.s (.int .i64 0), .s (.int .i64 0), .s (.string ⟨#[]⟩), .nil, .nil] := by kernel_rfl
theorem ck_248 : ck Tryz.prog 248 = some (true, 5, [.s (.int .i64 0), .s (.int .i64 0), .s (.string ⟨#[]⟩), .nil, .nil]) := by kernel_rfl
theorem tk_249 : tk Tryz.prog 249 = .st 5 [(0, 1, false), (1, 1, false), (2, 1, false), (3, 1, false), (4, 1, false)] [.s (.int .i64 0), .s (.int .i64 0), .s (.string ⟨#[]⟩), .nil, .nil] := by kernel_rfl
theorem ck_249 : ck Tryz.prog 249 = some (true, 5, [.s (.int .i64 0), .s (.int .i64 0), .s (.string ⟨#[]⟩), .nil, .nil]) := by kernel_rfl
theorem tk_263 : tk Tryz.prog 263 = .sc (.s (.int .u64 0)) := by kernel_rfl
theorem ck_263 : ck Tryz.prog 263 = some (false, 1, [.s (.int .u64 0)]) := by kernel_rfl
theorem un_263 : Tryz.prog.underlying 263 = some (.int .u64) := by kernel_rfl
theorem ik_263 : Tryz.prog.intKind 263 = .u64 := by kernel_rfl
theorem tk_266 : tk Tryz.prog 266 = .st 4 [(0, 1, false), (1, 1, false), (2, 1, false), (3, 1, false)] [.s (.int .i64 0), .s (.int .i64 0), .s (.string ⟨#[]⟩), .s (.int .i64 0)] := by kernel_rfl
theorem ck_266 : ck Tryz.prog 266 = some (true, 4, [.s (.int .i64 0), .s (.int .i64 0), .s (.string ⟨#[]⟩), .s (.int .i64 0)]) := by kernel_rfl
theorem tk_267 : tk Tryz.prog 267 = .st 4 [(0, 1, false), (1, 1, false), (2, 1, false), (3, 1, false)] [.s (.int .i64 0), .s (.int .i64 0), .s (.string ⟨#[]⟩), .s (.int .i64 0)] := by kernel_rfl
theorem ck_267 : ck Tryz.prog 267 = some (true, 4, [.s (.int .i64 0), .s (.int .i64 0), .s (.string ⟨#[]⟩), .s (.int .i64 0)]) := by kernel_rfl
theorem sq_267 : sqB Tryz.prog 267 [0, 0, 1, 0] = true := by kernel_rfl
theorem tk_283 : tk Tryz.prog 283 = .sl 328 3 32 [.s (.int .i64 0), .s (.string ⟨#[]⟩), .s (.int .i64 0)] := by kernel_rfl
theorem ck_283 : ck Tryz.prog 283 = some (false, 1, [.nil]) := by kernel_rfl
theorem el_283 : Tryz.prog.elem 283 = 328 := by kernel_rfl
theorem un_283 : Tryz.prog.underlying 283 = some (.slice 328) := by kernel_rfl
theorem tk_284 : tk Tryz.prog 284 = .st 1 [(0, 1, false)] [.nil] := by kernel_rfl
theorem ck_284 : ck Tryz.prog 284 = some (true, 1, [.nil]) := by kernel_rfl
theorem tk_285 : tk Tryz.prog 285 = .st 1 [(0, 1, false)] [.nil] := by kernel_rfl
theorem ck_285 : ck Tryz.prog 285 = some (true, 1, [.nil]) := by kernel_rfl
theorem tk_286 : tk Tryz.prog 286 = .st 3 [(0, 1, false), (1, 1, false), (2, 1, true)] [.s (.string ⟨#[]⟩), .s (.bool false), .nil] := by kernel_rfl
theorem ck_286 : ck Tryz.prog 286 = some (true, 3, [.s (.string ⟨#[]⟩), .s (.bool false), .nil]) := by kernel_rfl
theorem tk_287 : tk Tryz.prog 287 = .st 3 [(0, 1, false), (1, 1, false), (2, 1, true)] [.s (.string ⟨#[]⟩), .s (.bool false), .nil] := by kernel_rfl
theorem ck_287 : ck Tryz.prog 287 = some (true, 3, [.s (.string ⟨#[]⟩), .s (.bool false), .nil]) := by kernel_rfl
theorem tk_289 : tk Tryz.prog 289 = .sl 324 4 56 [.s (.int .i64 0), .s (.int .i64 0), .s (.string ⟨#[]⟩), .nil] := by kernel_rfl
theorem ck_289 : ck Tryz.prog 289 = some (false, 1, [.nil]) := by kernel_rfl
theorem el_289 : Tryz.prog.elem 289 = 324 := by kernel_rfl
theorem un_289 : Tryz.prog.underlying 289 = some (.slice 324) := by kernel_rfl
theorem tk_290 : tk Tryz.prog 290 = .st 1 [(0, 1, false)] [.nil] := by kernel_rfl
theorem ck_290 : ck Tryz.prog 290 = some (true, 1, [.nil]) := by kernel_rfl
theorem tk_291 : tk Tryz.prog 291 = .st 1 [(0, 1, false)] [.nil] := by kernel_rfl
theorem ck_291 : ck Tryz.prog 291 = some (true, 1, [.nil]) := by kernel_rfl
theorem tk_297 : tk Tryz.prog 297 = .sl 236 1 8 [.np] := by kernel_rfl
theorem ck_297 : ck Tryz.prog 297 = some (false, 1, [.nil]) := by kernel_rfl
theorem el_297 : Tryz.prog.elem 297 = 236 := by kernel_rfl
theorem un_297 : Tryz.prog.underlying 297 = some (.slice 236) := by kernel_rfl
theorem tk_298 : tk Tryz.prog 298 = .st 4 [(0, 1, false), (1, 1, false), (2, 1, false), (3, 1, false)] [.s (.int .i64 0), .s (.int .i64 0), .s (.string ⟨#[]⟩), .nil] := by kernel_rfl
theorem ck_298 : ck Tryz.prog 298 = some (true, 4, [.s (.int .i64 0), .s (.int .i64 0), .s (.string ⟨#[]⟩), .nil]) := by kernel_rfl
theorem tk_299 : tk Tryz.prog 299 = .st 4 [(0, 1, false), (1, 1, false), (2, 1, false), (3, 1, false)] [.s (.int .i64 0), .s (.int .i64 0), .s (.string ⟨#[]⟩), .nil] := by kernel_rfl
theorem ck_299 : ck Tryz.prog 299 = some (true, 4, [.s (.int .i64 0), .s (.int .i64 0), .s (.string ⟨#[]⟩), .nil]) := by kernel_rfl
theorem tk_308 : tk Tryz.prog 308 = .sl 66 1 24 [.nil] := by kernel_rfl
theorem ck_308 : ck Tryz.prog 308 = some (false, 1, [.nil]) := by kernel_rfl
theorem el_308 : Tryz.prog.elem 308 = 66 := by kernel_rfl
theorem un_308 : Tryz.prog.underlying 308 = some (.slice 66) := by kernel_rfl
theorem tk_310 : tk Tryz.prog 310 = .sl 312 5 80 [.s (.int .i64 0), .s (.int .i64 0), .s (.string ⟨#[]⟩), .nil, .nil] := by kernel_rfl
theorem ck_310 : ck Tryz.prog 310 = some (false, 1, [.nil]) := by kernel_rfl
theorem el_310 : Tryz.prog.elem 310 = 312 := by kernel_rfl
theorem un_310 : Tryz.prog.underlying 310 = some (.slice 312) := by kernel_rfl
theorem tk_311 : tk Tryz.prog 311 = .st 5 [(0, 4, true), (4, 1, false)] [.s (.int .i64 0), .s (.int .i64 0), .s (.string ⟨#[]⟩), .nil, .nil] := by kernel_rfl
theorem ck_311 : ck Tryz.prog 311 = some (true, 5, [.s (.int .i64 0), .s (.int .i64 0), .s (.string ⟨#[]⟩), .nil, .nil]) := by kernel_rfl
theorem tk_312 : tk Tryz.prog 312 = .st 5 [(0, 4, true), (4, 1, false)] [.s (.int .i64 0), .s (.int .i64 0), .s (.string ⟨#[]⟩), .nil, .nil] := by kernel_rfl
theorem ck_312 : ck Tryz.prog 312 = some (true, 5, [.s (.int .i64 0), .s (.int .i64 0), .s (.string ⟨#[]⟩), .nil, .nil]) := by kernel_rfl
theorem tk_324 : tk Tryz.prog 324 = .st 4 [(0, 1, false), (1, 1, false), (2, 1, false), (3, 1, false)] [.s (.int .i64 0), .s (.int .i64 0), .s (.string ⟨#[]⟩), .nil] := by kernel_rfl
theorem ck_324 : ck Tryz.prog 324 = some (true, 4, [.s (.int .i64 0), .s (.int .i64 0), .s (.string ⟨#[]⟩), .nil]) := by kernel_rfl
theorem tk_328 : tk Tryz.prog 328 = .st 3 [(0, 1, false), (1, 1, false), (2, 1, false)] [.s (.int .i64 0), .s (.string ⟨#[]⟩), .s (.int .i64 0)] := by kernel_rfl
theorem ck_328 : ck Tryz.prog 328 = some (true, 3, [.s (.int .i64 0), .s (.string ⟨#[]⟩), .s (.int .i64 0)]) := by kernel_rfl
theorem sq_328 : sqB Tryz.prog 328 [0, 1, 0] = true := by kernel_rfl
theorem tk_331 : tk Tryz.prog 331 = .st 4 [(0, 1, false), (1, 1, false), (2, 1, false), (3, 1, false)] [.np, .np, .np, .s (.string ⟨#[]⟩)] := by kernel_rfl
theorem ck_331 : ck Tryz.prog 331 = some (true, 4, [.np, .np, .np, .s (.string ⟨#[]⟩)]) := by kernel_rfl
theorem tk_332 : tk Tryz.prog 332 = .st 4 [(0, 1, false), (1, 1, false), (2, 1, false), (3, 1, false)] [.np, .np, .np, .s (.string ⟨#[]⟩)] := by kernel_rfl
theorem ck_332 : ck Tryz.prog 332 = some (true, 4, [.np, .np, .np, .s (.string ⟨#[]⟩)]) := by kernel_rfl
theorem tk_337 : tk Tryz.prog 337 = .sc (.s (.int .u32 0)) := by kernel_rfl
theorem ck_337 : ck Tryz.prog 337 = some (false, 1, [.s (.int .u32 0)]) := by kernel_rfl
theorem un_337 : Tryz.prog.underlying 337 = some (.int .u32) := by kernel_rfl
theorem ik_337 : Tryz.prog.intKind 337 = .u32 := by kernel_rfl
theorem tk_338 : tk Tryz.prog 338 = .sc (.s (.int .u8 0)) := by kernel_rfl
theorem ck_338 : ck Tryz.prog 338 = some (false, 1, [.s (.int .u8 0)]) := by kernel_rfl
theorem un_338 : Tryz.prog.underlying 338 = some (.int .u8) := by kernel_rfl
theorem ik_338 : Tryz.prog.intKind 338 = .u8 := by kernel_rfl
theorem tk_339 : tk Tryz.prog 339 = .sc (.s (.int .u8 0)) := by kernel_rfl
theorem ck_339 : ck Tryz.prog 339 = some (false, 1, [.s (.int .u8 0)]) := by kernel_rfl
theorem un_339 : Tryz.prog.underlying 339 = some (.int .u8) := by kernel_rfl
theorem ik_339 : Tryz.prog.intKind 339 = .u8 := by kernel_rfl
theorem tk_341 : tk Tryz.prog 341 = .sc (.s (.int .i32 0)) := by kernel_rfl
theorem ck_341 : ck Tryz.prog 341 = some (false, 1, [.s (.int .i32 0)]) := by kernel_rfl
theorem un_341 : Tryz.prog.underlying 341 = some (.int .i32) := by kernel_rfl
theorem ik_341 : Tryz.prog.intKind 341 = .i32 := by kernel_rfl
theorem tk_342 : tk Tryz.prog 342 = .sc (.s (.int .i32 0)) := by kernel_rfl
theorem ck_342 : ck Tryz.prog 342 = some (false, 1, [.s (.int .i32 0)]) := by kernel_rfl
theorem un_342 : Tryz.prog.underlying 342 = some (.int .i32) := by kernel_rfl
theorem ik_342 : Tryz.prog.intKind 342 = .i32 := by kernel_rfl
theorem tk_345 : tk Tryz.prog 345 = .st 6 [(0, 1, false), (1, 5, true)] [.s (.string ⟨#[]⟩), .s (.int .i64 0), .s (.int .i64 0), .s (.string ⟨#[]⟩), .nil, .nil] := by kernel_rfl
theorem ck_345 : ck Tryz.prog 345 = some (true, 6, [.s (.string ⟨#[]⟩), .s (.int .i64 0), .s (.int .i64 0), .s (.string ⟨#[]⟩), .nil, .nil]) := by kernel_rfl
theorem tk_346 : tk Tryz.prog 346 = .st 6 [(0, 1, false), (1, 5, true)] [.s (.string ⟨#[]⟩), .s (.int .i64 0), .s (.int .i64 0), .s (.string ⟨#[]⟩), .nil, .nil] := by kernel_rfl
theorem ck_346 : ck Tryz.prog 346 = some (true, 6, [.s (.string ⟨#[]⟩), .s (.int .i64 0), .s (.int .i64 0), .s (.string ⟨#[]⟩), .nil, .nil]) := by kernel_rfl
theorem mixed : Tryz.prog.follows .mixedOrders = true := by kernel_rfl
def mdT : FuncId → List Nat
  | 16 => [2]
  | 19 => [1, 0]
  | 20 => [1, 0]
  | 22 => [2]
  | 46 => [1, 0, 2]
  | 47 => [1, 0, 0, 0, 0]
  | 48 => [1, 0]
  | 49 => [1, 0]
  | 52 => [1, 0]
  | 53 => [1, 0]
  | 54 => [1, 0]
  | 55 => [1, 0]
  | 58 => [1, 2]
  | 59 => [2]
  | 62 => [1, 0]
  | 63 => [1]
  | 67 => [1]
  | 78 => [1, 0]
  | 120 => [1, 0, 0]
  | 121 => [1, 0, 0, 2]
  | 124 => [1, 0, 2]
  | 126 => [1, 0]
  | 127 => [1, 0, 0, 2]
  | 128 => [1, 0, 2]
  | 129 => [1, 0]
  | 130 => [1, 0]
  | 134 => [1, 0]
  | 135 => [1, 0]
  | 136 => [1, 0]
  | 138 => [2]
  | 141 => [1, 0]
  | 143 => [1]
  | 149 => [1]
  | 150 => [1]
  | 172 => [1]
  | 175 => [1]
  | 176 => [1, 0]
  | 177 => [1, 0]
  | 208 => [1, 0]
  | 209 => [0, 0, 0, 2]
  | 210 => [1, 0, 0, 0]
  | 218 => [1]
  | 219 => [1]
  | 220 => [1]
  | 240 => [1]
  | 241 => [1, 0]
  | 242 => [1, 0]
  | 243 => [1, 0]
  | 244 => [1, 0]
  | 246 => [1, 0, 0]
  | 247 => [1, 0]
  | 259 => [1, 0, 0]
  | 273 => [1, 0]
  | 274 => [1]
  | 275 => [1]
  | 280 => [1, 0]
  | 284 => [1, 0]
  | 285 => [1, 2]
  | 286 => [1, 0]
  | 293 => [1, 0]
  | 295 => [1]
  | 298 => [1, 0]
  | 299 => [1, 0, 0]
  | 305 => [1, 0]
  | 309 => [1, 0]
  | 310 => [1, 0]
  | _ => []
noncomputable def PM : Md := ⟨Tryz.prog, mdT, mixed, false, fun _ => false⟩
theorem PM_P : PM.P = Tryz.prog := rfl
theorem PM_lr (i : Nat) : PM.lr i = false := rfl
/-- the same; the guards of the regions l are known. -/
noncomputable def PMr (l : List Nat) : Md := ⟨Tryz.prog, mdT, mixed, false, litB l⟩
theorem PMr_P (l : List Nat) : (PMr l).P = Tryz.prog := rfl
theorem PMr_lr (l : List Nat) (i : Nat) : (PMr l).lr i = litB l i := rfl
theorem PMr_md (l : List Nat) : (PMr l).md = PM.md := rfl
theorem md_0 : PM.md 0 = [] := rfl
theorem md_1 : PM.md 1 = [] := rfl
theorem md_2 : PM.md 2 = [] := rfl
theorem md_3 : PM.md 3 = [] := rfl
theorem md_4 : PM.md 4 = [] := rfl
theorem md_5 : PM.md 5 = [] := rfl
theorem md_6 : PM.md 6 = [] := rfl
theorem md_7 : PM.md 7 = [] := rfl
theorem md_8 : PM.md 8 = [] := rfl
theorem md_9 : PM.md 9 = [] := rfl
theorem md_10 : PM.md 10 = [] := rfl
theorem md_11 : PM.md 11 = [] := rfl
theorem md_12 : PM.md 12 = [] := rfl
theorem md_13 : PM.md 13 = [] := rfl
theorem md_14 : PM.md 14 = [] := rfl
theorem md_15 : PM.md 15 = [] := rfl
theorem md_16 : PM.md 16 = [2] := rfl
theorem md_17 : PM.md 17 = [] := rfl
theorem md_18 : PM.md 18 = [] := rfl
theorem md_19 : PM.md 19 = [1, 0] := rfl
theorem md_20 : PM.md 20 = [1, 0] := rfl
theorem md_21 : PM.md 21 = [] := rfl
theorem md_22 : PM.md 22 = [2] := rfl
theorem md_23 : PM.md 23 = [] := rfl
theorem md_24 : PM.md 24 = [] := rfl
theorem md_25 : PM.md 25 = [] := rfl
theorem md_26 : PM.md 26 = [] := rfl
theorem md_27 : PM.md 27 = [] := rfl
theorem md_28 : PM.md 28 = [] := rfl
theorem md_29 : PM.md 29 = [] := rfl
theorem md_30 : PM.md 30 = [] := rfl
theorem md_31 : PM.md 31 = [] := rfl
theorem md_32 : PM.md 32 = [] := rfl
theorem md_33 : PM.md 33 = [] := rfl
theorem md_34 : PM.md 34 = [] := rfl
theorem md_35 : PM.md 35 = [] := rfl
theorem md_36 : PM.md 36 = [] := rfl
theorem md_37 : PM.md 37 = [] := rfl
theorem md_38 : PM.md 38 = [] := rfl
theorem md_39 : PM.md 39 = [] := rfl
theorem md_40 : PM.md 40 = [] := rfl
theorem md_41 : PM.md 41 = [] := rfl
theorem md_42 : PM.md 42 = [] := rfl
theorem md_43 : PM.md 43 = [] := rfl
theorem md_44 : PM.md 44 = [] := rfl
theorem md_45 : PM.md 45 = [] := rfl
theorem md_46 : PM.md 46 = [1, 0, 2] := rfl
theorem md_47 : PM.md 47 = [1, 0, 0, 0, 0] := rfl
theorem md_48 : PM.md 48 = [1, 0] := rfl
theorem md_49 : PM.md 49 = [1, 0] := rfl
theorem md_50 : PM.md 50 = [] := rfl
theorem md_51 : PM.md 51 = [] := rfl
theorem md_52 : PM.md 52 = [1, 0] := rfl
theorem md_53 : PM.md 53 = [1, 0] := rfl
theorem md_54 : PM.md 54 = [1, 0] := rfl
theorem md_55 : PM.md 55 = [1, 0] := rfl
theorem md_56 : PM.md 56 = [] := rfl
theorem md_57 : PM.md 57 = [] := rfl
theorem md_58 : PM.md 58 = [1, 2] := rfl
theorem md_59 : PM.md 59 = [2] := rfl
theorem md_60 : PM.md 60 = [] := rfl
theorem md_61 : PM.md 61 = [] := rfl
theorem md_62 : PM.md 62 = [1, 0] := rfl
theorem md_63 : PM.md 63 = [1] := rfl
theorem md_64 : PM.md 64 = [] := rfl
theorem md_65 : PM.md 65 = [] := rfl
theorem md_66 : PM.md 66 = [] := rfl
theorem md_67 : PM.md 67 = [1] := rfl
theorem md_68 : PM.md 68 = [] := rfl
theorem md_69 : PM.md 69 = [] := rfl
theorem md_70 : PM.md 70 = [] := rfl
theorem md_71 : PM.md 71 = [] := rfl
theorem md_72 : PM.md 72 = [] := rfl
theorem md_73 : PM.md 73 = [] := rfl
theorem md_74 : PM.md 74 = [] := rfl
theorem md_75 : PM.md 75 = [] := rfl
theorem md_76 : PM.md 76 = [] := rfl
theorem md_77 : PM.md 77 = [] := rfl
theorem md_78 : PM.md 78 = [1, 0] := rfl
theorem md_79 : PM.md 79 = [] := rfl
theorem md_80 : PM.md 80 = [] := rfl
theorem md_81 : PM.md 81 = [] := rfl
theorem md_82 : PM.md 82 = [] := rfl
theorem md_83 : PM.md 83 = [] := rfl
theorem md_84 : PM.md 84 = [] := rfl
theorem md_85 : PM.md 85 = [] := rfl
theorem md_86 : PM.md 86 = [] := rfl
theorem md_87 : PM.md 87 = [] := rfl
theorem md_88 : PM.md 88 = [] := rfl
theorem md_89 : PM.md 89 = [] := rfl
theorem md_90 : PM.md 90 = [] := rfl
theorem md_91 : PM.md 91 = [] := rfl
theorem md_92 : PM.md 92 = [] := rfl
theorem md_93 : PM.md 93 = [] := rfl
theorem md_94 : PM.md 94 = [] := rfl
theorem md_95 : PM.md 95 = [] := rfl
theorem md_96 : PM.md 96 = [] := rfl
theorem md_97 : PM.md 97 = [] := rfl
theorem md_98 : PM.md 98 = [] := rfl
theorem md_99 : PM.md 99 = [] := rfl
theorem md_100 : PM.md 100 = [] := rfl
theorem md_101 : PM.md 101 = [] := rfl
theorem md_102 : PM.md 102 = [] := rfl
theorem md_103 : PM.md 103 = [] := rfl
theorem md_104 : PM.md 104 = [] := rfl
theorem md_105 : PM.md 105 = [] := rfl
theorem md_106 : PM.md 106 = [] := rfl
theorem md_107 : PM.md 107 = [] := rfl
theorem md_108 : PM.md 108 = [] := rfl
theorem md_109 : PM.md 109 = [] := rfl
theorem md_110 : PM.md 110 = [] := rfl
theorem md_111 : PM.md 111 = [] := rfl
theorem md_112 : PM.md 112 = [] := rfl
theorem md_113 : PM.md 113 = [] := rfl
theorem md_114 : PM.md 114 = [] := rfl
theorem md_115 : PM.md 115 = [] := rfl
theorem md_116 : PM.md 116 = [] := rfl
theorem md_117 : PM.md 117 = [] := rfl
theorem md_118 : PM.md 118 = [] := rfl
theorem md_119 : PM.md 119 = [] := rfl
theorem md_120 : PM.md 120 = [1, 0, 0] := rfl
theorem md_121 : PM.md 121 = [1, 0, 0, 2] := rfl
theorem md_122 : PM.md 122 = [] := rfl
theorem md_123 : PM.md 123 = [] := rfl
theorem md_124 : PM.md 124 = [1, 0, 2] := rfl
theorem md_125 : PM.md 125 = [] := rfl
theorem md_126 : PM.md 126 = [1, 0] := rfl
theorem md_127 : PM.md 127 = [1, 0, 0, 2] := rfl
theorem md_128 : PM.md 128 = [1, 0, 2] := rfl
theorem md_129 : PM.md 129 = [1, 0] := rfl
theorem md_130 : PM.md 130 = [1, 0] := rfl
theorem md_131 : PM.md 131 = [] := rfl
theorem md_132 : PM.md 132 = [] := rfl
theorem md_133 : PM.md 133 = [] := rfl
theorem md_134 : PM.md 134 = [1, 0] := rfl
theorem md_135 : PM.md 135 = [1, 0] := rfl
theorem md_136 : PM.md 136 = [1, 0] := rfl
theorem md_137 : PM.md 137 = [] := rfl
theorem md_138 : PM.md 138 = [2] := rfl
theorem md_139 : PM.md 139 = [] := rfl
theorem md_140 : PM.md 140 = [] := rfl
theorem md_141 : PM.md 141 = [1, 0] := rfl
theorem md_142 : PM.md 142 = [] := rfl
theorem md_143 : PM.md 143 = [1] := rfl
theorem md_144 : PM.md 144 = [] := rfl
theorem md_145 : PM.md 145 = [] := rfl
theorem md_146 : PM.md 146 = [] := rfl
theorem md_147 : PM.md 147 = [] := rfl
theorem md_148 : PM.md 148 = [] := rfl
theorem md_149 : PM.md 149 = [1] := rfl
theorem md_150 : PM.md 150 = [1] := rfl
theorem md_151 : PM.md 151 = [] := rfl
theorem md_152 : PM.md 152 = [] := rfl
theorem md_153 : PM.md 153 = [] := rfl
theorem md_154 : PM.md 154 = [] := rfl
theorem md_155 : PM.md 155 = [] := rfl
theorem md_156 : PM.md 156 = [] := rfl
theorem md_157 : PM.md 157 = [] := rfl
theorem md_158 : PM.md 158 = [] := rfl
theorem md_159 : PM.md 159 = [] := rfl
theorem md_160 : PM.md 160 = [] := rfl
theorem md_161 : PM.md 161 = [] := rfl
theorem md_162 : PM.md 162 = [] := rfl
theorem md_163 : PM.md 163 = [] := rfl
theorem md_164 : PM.md 164 = [] := rfl
theorem md_165 : PM.md 165 = [] := rfl
theorem md_166 : PM.md 166 = [] := rfl
theorem md_167 : PM.md 167 = [] := rfl
theorem md_168 : PM.md 168 = [] := rfl
theorem md_169 : PM.md 169 = [] := rfl
theorem md_170 : PM.md 170 = [] := rfl
theorem md_171 : PM.md 171 = [] := rfl
theorem md_172 : PM.md 172 = [1] := rfl
theorem md_173 : PM.md 173 = [] := rfl
theorem md_174 : PM.md 174 = [] := rfl
theorem md_175 : PM.md 175 = [1] := rfl
theorem md_176 : PM.md 176 = [1, 0] := rfl
theorem md_177 : PM.md 177 = [1, 0] := rfl
theorem md_178 : PM.md 178 = [] := rfl
theorem md_179 : PM.md 179 = [] := rfl
theorem md_180 : PM.md 180 = [] := rfl
theorem md_181 : PM.md 181 = [] := rfl
theorem md_182 : PM.md 182 = [] := rfl
theorem md_183 : PM.md 183 = [] := rfl
theorem md_184 : PM.md 184 = [] := rfl
theorem md_185 : PM.md 185 = [] := rfl
theorem md_186 : PM.md 186 = [] := rfl
theorem md_187 : PM.md 187 = [] := rfl
theorem md_188 : PM.md 188 = [] := rfl
theorem md_189 : PM.md 189 = [] := rfl
theorem md_190 : PM.md 190 = [] := rfl
theorem md_191 : PM.md 191 = [] := rfl
theorem md_192 : PM.md 192 = [] := rfl
theorem md_193 : PM.md 193 = [] := rfl
theorem md_194 : PM.md 194 = [] := rfl
theorem md_195 : PM.md 195 = [] := rfl
theorem md_196 : PM.md 196 = [] := rfl
theorem md_197 : PM.md 197 = [] := rfl
theorem md_198 : PM.md 198 = [] := rfl
theorem md_199 : PM.md 199 = [] := rfl
theorem md_200 : PM.md 200 = [] := rfl
theorem md_201 : PM.md 201 = [] := rfl
theorem md_202 : PM.md 202 = [] := rfl
theorem md_203 : PM.md 203 = [] := rfl
theorem md_204 : PM.md 204 = [] := rfl
theorem md_205 : PM.md 205 = [] := rfl
theorem md_206 : PM.md 206 = [] := rfl
theorem md_207 : PM.md 207 = [] := rfl
theorem md_208 : PM.md 208 = [1, 0] := rfl
theorem md_209 : PM.md 209 = [0, 0, 0, 2] := rfl
theorem md_210 : PM.md 210 = [1, 0, 0, 0] := rfl
theorem md_211 : PM.md 211 = [] := rfl
theorem md_212 : PM.md 212 = [] := rfl
theorem md_213 : PM.md 213 = [] := rfl
theorem md_214 : PM.md 214 = [] := rfl
theorem md_215 : PM.md 215 = [] := rfl
theorem md_216 : PM.md 216 = [] := rfl
theorem md_217 : PM.md 217 = [] := rfl
theorem md_218 : PM.md 218 = [1] := rfl
theorem md_219 : PM.md 219 = [1] := rfl
theorem md_220 : PM.md 220 = [1] := rfl
theorem md_221 : PM.md 221 = [] := rfl
theorem md_222 : PM.md 222 = [] := rfl
theorem md_223 : PM.md 223 = [] := rfl
theorem md_224 : PM.md 224 = [] := rfl
theorem md_225 : PM.md 225 = [] := rfl
theorem md_226 : PM.md 226 = [] := rfl
theorem md_227 : PM.md 227 = [] := rfl
theorem md_228 : PM.md 228 = [] := rfl
theorem md_229 : PM.md 229 = [] := rfl
theorem md_230 : PM.md 230 = [] := rfl
theorem md_231 : PM.md 231 = [] := rfl
theorem md_232 : PM.md 232 = [] := rfl
theorem md_233 : PM.md 233 = [] := rfl
theorem md_234 : PM.md 234 = [] := rfl
theorem md_235 : PM.md 235 = [] := rfl
theorem md_236 : PM.md 236 = [] := rfl
theorem md_237 : PM.md 237 = [] := rfl
theorem md_238 : PM.md 238 = [] := rfl
theorem md_239 : PM.md 239 = [] := rfl
theorem md_240 : PM.md 240 = [1] := rfl
theorem md_241 : PM.md 241 = [1, 0] := rfl
theorem md_242 : PM.md 242 = [1, 0] := rfl
theorem md_243 : PM.md 243 = [1, 0] := rfl
theorem md_244 : PM.md 244 = [1, 0] := rfl
theorem md_245 : PM.md 245 = [] := rfl
theorem md_246 : PM.md 246 = [1, 0, 0] := rfl
theorem md_247 : PM.md 247 = [1, 0] := rfl
theorem md_248 : PM.md 248 = [] := rfl
theorem md_249 : PM.md 249 = [] := rfl
theorem md_250 : PM.md 250 = [] := rfl
theorem md_251 : PM.md 251 = [] := rfl
theorem md_252 : PM.md 252 = [] := rfl
theorem md_253 : PM.md 253 = [] := rfl
theorem md_254 : PM.md 254 = [] := rfl
theorem md_255 : PM.md 255 = [] := rfl
theorem md_256 : PM.md 256 = [] := rfl
theorem md_257 : PM.md 257 = [] := rfl
theorem md_258 : PM.md 258 = [] := rfl
theorem md_259 : PM.md 259 = [1, 0, 0] := rfl
theorem md_260 : PM.md 260 = [] := rfl
theorem md_261 : PM.md 261 = [] := rfl
theorem md_262 : PM.md 262 = [] := rfl
theorem md_263 : PM.md 263 = [] := rfl
theorem md_264 : PM.md 264 = [] := rfl
theorem md_265 : PM.md 265 = [] := rfl
theorem md_266 : PM.md 266 = [] := rfl
theorem md_267 : PM.md 267 = [] := rfl
theorem md_268 : PM.md 268 = [] := rfl
theorem md_269 : PM.md 269 = [] := rfl
theorem md_270 : PM.md 270 = [] := rfl
theorem md_271 : PM.md 271 = [] := rfl
theorem md_272 : PM.md 272 = [] := rfl
theorem md_273 : PM.md 273 = [1, 0] := rfl
theorem md_274 : PM.md 274 = [1] := rfl
theorem md_275 : PM.md 275 = [1] := rfl
theorem md_276 : PM.md 276 = [] := rfl
theorem md_277 : PM.md 277 = [] := rfl
theorem md_278 : PM.md 278 = [] := rfl
theorem md_279 : PM.md 279 = [] := rfl
theorem md_280 : PM.md 280 = [1, 0] := rfl
theorem md_281 : PM.md 281 = [] := rfl
theorem md_282 : PM.md 282 = [] := rfl
theorem md_283 : PM.md 283 = [] := rfl
theorem md_284 : PM.md 284 = [1, 0] := rfl
theorem md_285 : PM.md 285 = [1, 2] := rfl
theorem md_286 : PM.md 286 = [1, 0] := rfl
theorem md_287 : PM.md 287 = [] := rfl
theorem md_288 : PM.md 288 = [] := rfl
theorem md_289 : PM.md 289 = [] := rfl
theorem md_290 : PM.md 290 = [] := rfl
theorem md_291 : PM.md 291 = [] := rfl
theorem md_292 : PM.md 292 = [] := rfl
theorem md_293 : PM.md 293 = [1, 0] := rfl
theorem md_294 : PM.md 294 = [] := rfl
theorem md_295 : PM.md 295 = [1] := rfl
theorem md_296 : PM.md 296 = [] := rfl
theorem md_297 : PM.md 297 = [] := rfl
theorem md_298 : PM.md 298 = [1, 0] := rfl
theorem md_299 : PM.md 299 = [1, 0, 0] := rfl
theorem md_300 : PM.md 300 = [] := rfl
theorem md_301 : PM.md 301 = [] := rfl
theorem md_302 : PM.md 302 = [] := rfl
theorem md_303 : PM.md 303 = [] := rfl
theorem md_304 : PM.md 304 = [] := rfl
theorem md_305 : PM.md 305 = [1, 0] := rfl
theorem md_306 : PM.md 306 = [] := rfl
theorem md_307 : PM.md 307 = [] := rfl
theorem md_308 : PM.md 308 = [] := rfl
theorem md_309 : PM.md 309 = [1, 0] := rfl
theorem md_310 : PM.md 310 = [1, 0] := rfl
theorem md_311 : PM.md 311 = [] := rfl
theorem md_312 : PM.md 312 = [] := rfl
theorem md_313 : PM.md 313 = [] := rfl
theorem md_314 : PM.md 314 = [] := rfl
theorem md_315 : PM.md 315 = [] := rfl
theorem md_316 : PM.md 316 = [] := rfl
theorem md_317 : PM.md 317 = [] := rfl
theorem md_318 : PM.md 318 = [] := rfl
theorem md_319 : PM.md 319 = [] := rfl
theorem md_320 : PM.md 320 = [] := rfl
theorem md_321 : PM.md 321 = [] := rfl
theorem md_322 : PM.md 322 = [] := rfl
theorem md_323 : PM.md 323 = [] := rfl
theorem md_324 : PM.md 324 = [] := rfl
theorem md_325 : PM.md 325 = [] := rfl
theorem md_326 : PM.md 326 = [] := rfl
theorem md_327 : PM.md 327 = [] := rfl
attribute [go_sem] PM_P PM_lr PMr_P PMr_lr PMr_md Md.at_P Md.at_md Md.at_lit litB_nil litB_cons tk_2 tk_3 tk_4 tk_5 tk_6 tk_7 tk_8 tk_9 tk_10 tk_11 tk_12 tk_13 tk_14 tk_15 tk_16 tk_17 tk_18 tk_19 tk_21 tk_22 tk_23 tk_24 tk_25 tk_28 tk_29 tk_30 tk_31 tk_36 tk_37 tk_38 tk_39 tk_46 tk_52 tk_53 tk_60 tk_61 tk_62 tk_63 tk_64 tk_65 tk_66 tk_67 tk_68 tk_75 tk_77 tk_78 tk_79 tk_82 tk_83 tk_84 tk_94 tk_95 tk_96 tk_97 tk_98 tk_99 tk_105 tk_112 tk_113 tk_114 tk_130 tk_131 tk_132 tk_134 tk_135 tk_136 tk_142 tk_143 tk_156 tk_157 tk_158 tk_165 tk_166 tk_167 tk_186 tk_187 tk_194 tk_195 tk_210 tk_213 tk_214 tk_215 tk_234 tk_236 tk_243 tk_244 tk_245 tk_246 tk_247 tk_248 tk_249 tk_263 tk_266 tk_267 tk_283 tk_284 tk_285 tk_286 tk_287 tk_289 tk_290 tk_291 tk_297 tk_298 tk_299 tk_308 tk_310 tk_311 tk_312 tk_324 tk_328 tk_331 tk_332 tk_337 tk_338 tk_339 tk_341 tk_342 tk_345 tk_346 ck_2 ck_3 ck_4 ck_5 ck_6 ck_7 ck_8 ck_9 ck_10 ck_11 ck_12 ck_13 ck_14 ck_15 ck_16 ck_17 ck_18 ck_19 ck_21 ck_22 ck_23 ck_24 ck_25 ck_28 ck_29 ck_30 ck_31 ck_36 ck_37 ck_38 ck_39 ck_46 ck_52 ck_53 ck_60 ck_61 ck_62 ck_63 ck_64 ck_65 ck_66 ck_67 ck_68 ck_75 ck_77 ck_78 ck_79 ck_82 ck_83 ck_84 ck_94 ck_95 ck_96 ck_97 ck_98 ck_99 ck_105 ck_112 ck_113 ck_114 ck_130 ck_131 ck_132 ck_134 ck_135 ck_136 ck_142 ck_143 ck_156 ck_157 ck_158 ck_165 ck_166 ck_167 ck_186 ck_187 ck_194 ck_195 ck_210 ck_213 ck_214 ck_215 ck_234 ck_236 ck_243 ck_244 ck_245 ck_246 ck_247 ck_248 ck_249 ck_263 ck_266 ck_267 ck_283 ck_284 ck_285 ck_286 ck_287 ck_289 ck_290 ck_291 ck_297 ck_298 ck_299 ck_308 ck_310 ck_311 ck_312 ck_324 ck_328 ck_331 ck_332 ck_337 ck_338 ck_339 ck_341 ck_342 ck_345 ck_346 un_2 ik_2 un_3 ik_3 un_4 un_5 ik_5 un_6 ik_6 un_9 un_10 un_11 un_12 ik_12 un_15 un_16 un_17 un_21 ik_21 el_22 un_22 el_23 un_23 el_28 un_28 el_29 un_29 el_36 un_36 el_37 un_37 el_46 un_46 sq_53 el_60 un_60 el_63 un_63 el_64 un_64 un_75 un_77 un_82 el_94 un_94 el_97 un_97 un_105 el_112 un_112 el_130 un_130 el_134 un_134 sq_143 un_156 el_165 un_165 el_210 un_210 un_213 un_234 un_236 un_243 el_244 un_244 el_247 un_247 un_263 ik_263 sq_267 el_283 un_283 el_289 un_289 el_297 un_297 el_308 un_308 el_310 un_310 sq_328 un_337 ik_337 un_338 ik_338 un_339 ik_339 un_341 ik_341 un_342 ik_342 md_0 md_1 md_2 md_3 md_4 md_5 md_6 md_7 md_8 md_9 md_10 md_11 md_12 md_13 md_14 md_15 md_16 md_17 md_18 md_19 md_20 md_21 md_22 md_23 md_24 md_25 md_26 md_27 md_28 md_29 md_30 md_31 md_32 md_33 md_34 md_35 md_36 md_37 md_38 md_39 md_40 md_41 md_42 md_43 md_44 md_45 md_46 md_47 md_48 md_49 md_50 md_51 md_52 md_53 md_54 md_55 md_56 md_57 md_58 md_59 md_60 md_61 md_62 md_63 md_64 md_65 md_66 md_67 md_68 md_69 md_70 md_71 md_72 md_73 md_74 md_75 md_76 md_77 md_78 md_79 md_80 md_81 md_82 md_83 md_84 md_85 md_86 md_87 md_88 md_89 md_90 md_91 md_92 md_93 md_94 md_95 md_96 md_97 md_98 md_99 md_100 md_101 md_102 md_103 md_104 md_105 md_106 md_107 md_108 md_109 md_110 md_111 md_112 md_113 md_114 md_115 md_116 md_117 md_118 md_119 md_120 md_121 md_122 md_123 md_124 md_125 md_126 md_127 md_128 md_129 md_130 md_131 md_132 md_133 md_134 md_135 md_136 md_137 md_138 md_139 md_140 md_141 md_142 md_143 md_144 md_145 md_146 md_147 md_148 md_149 md_150 md_151 md_152 md_153 md_154 md_155 md_156 md_157 md_158 md_159 md_160 md_161 md_162 md_163 md_164 md_165 md_166 md_167 md_168 md_169 md_170 md_171 md_172 md_173 md_174 md_175 md_176 md_177 md_178 md_179 md_180 md_181 md_182 md_183 md_184 md_185 md_186 md_187 md_188 md_189 md_190 md_191 md_192 md_193 md_194 md_195 md_196 md_197 md_198 md_199 md_200 md_201 md_202 md_203 md_204 md_205 md_206 md_207 md_208 md_209 md_210 md_211 md_212 md_213 md_214 md_215 md_216 md_217 md_218 md_219 md_220 md_221 md_222 md_223 md_224 md_225 md_226 md_227 md_228 md_229 md_230 md_231 md_232 md_233 md_234 md_235 md_236 md_237 md_238 md_239 md_240 md_241 md_242 md_243 md_244 md_245 md_246 md_247 md_248 md_249 md_250 md_251 md_252 md_253 md_254 md_255 md_256 md_257 md_258 md_259 md_260 md_261 md_262 md_263 md_264 md_265 md_266 md_267 md_268 md_269 md_270 md_271 md_272 md_273 md_274 md_275 md_276 md_277 md_278 md_279 md_280 md_281 md_282 md_283 md_284 md_285 md_286 md_287 md_288 md_289 md_290 md_291 md_292 md_293 md_294 md_295 md_296 md_297 md_298 md_299 md_300 md_301 md_302 md_303 md_304 md_305 md_306 md_307 md_308 md_309 md_310 md_311 md_312 md_313 md_314 md_315 md_316 md_317 md_318 md_319 md_320 md_321 md_322 md_323 md_324 md_325 md_326 md_327
end Go.Proofs.YtahdaknaoogpkaaGreat
