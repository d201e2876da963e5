/- What the program's types say. -/
import Derived.Test.YtmopjpnghomdfaaEngB
namespace Go.Proofs.Ytmopjpnghomdfaa
theorem tk_2 : tk Try.prog 2 = .sc (.s (.int .i64 0)) := by kernel_rfl
theorem ck_2 : ck Try.prog 2 = some (false, 1, [.s (.int .i64 0)]) := by kernel_rfl
theorem un_2 : Try.prog.underlying 2 = some (.int .i64) := by kernel_rfl
theorem ik_2 : Try.prog.intKind 2 = .i64 := by kernel_rfl
theorem tk_3 : tk Try.prog 3 = .sc (.s (.int .i64 0)) := by kernel_rfl
theorem ck_3 : ck Try.prog 3 = some (false, 1, [.s (.int .i64 0)]) := by kernel_rfl
theorem un_3 : Try.prog.underlying 3 = some (.int .i64) := by kernel_rfl
theorem ik_3 : Try.prog.intKind 3 = .i64 := by kernel_rfl
theorem tk_4 : tk Try.prog 4 = .sc (.s (.bool false)) := by kernel_rfl
theorem ck_4 : ck Try.prog 4 = some (false, 1, [.s (.bool false)]) := by kernel_rfl
theorem un_4 : Try.prog.underlying 4 = some (.bool) := by kernel_rfl
theorem tk_5 : tk Try.prog 5 = .sc (.s (.int .u8 0)) := by kernel_rfl
theorem ck_5 : ck Try.prog 5 = some (false, 1, [.s (.int .u8 0)]) := by kernel_rfl
theorem un_5 : Try.prog.underlying 5 = some (.int .u8) := by kernel_rfl
theorem ik_5 : Try.prog.intKind 5 = .u8 := by kernel_rfl
theorem tk_6 : tk Try.prog 6 = .sc (.s (.int .u8 0)) := by kernel_rfl
theorem ck_6 : ck Try.prog 6 = some (false, 1, [.s (.int .u8 0)]) := by kernel_rfl
theorem un_6 : Try.prog.underlying 6 = some (.int .u8) := by kernel_rfl
theorem ik_6 : Try.prog.intKind 6 = .u8 := by kernel_rfl
theorem tk_7 : tk Try.prog 7 = .st 4 [(0, 1, false), (1, 1, false), (2, 1, false), (3, 1, false)] [.s (.int .i64 0), .s (.int .i64 0), .s (.bool false), .s (.int .u8 0)] := by kernel_rfl
theorem ck_7 : ck Try.prog 7 = some (true, 4, [.s (.int .i64 0), .s (.int .i64 0), .s (.bool false), .s (.int .u8 0)]) := by kernel_rfl
theorem tk_8 : tk Try.prog 8 = .st 4 [(0, 1, false), (1, 1, false), (2, 1, false), (3, 1, false)] [.s (.int .i64 0), .s (.int .i64 0), .s (.bool false), .s (.int .u8 0)] := by kernel_rfl
theorem ck_8 : ck Try.prog 8 = some (true, 4, [.s (.int .i64 0), .s (.int .i64 0), .s (.bool false), .s (.int .u8 0)]) := by kernel_rfl
theorem tk_9 : tk Try.prog 9 = .sc (.s (.string ⟨#[]⟩)) := by kernel_rfl
theorem ck_9 : ck Try.prog 9 = some (false, 1, [.s (.string ⟨#[]⟩)]) := by kernel_rfl
theorem un_9 : Try.prog.underlying 9 = some (.string) := by kernel_rfl
theorem tk_10 : tk Try.prog 10 = .sc (.s (.string ⟨#[]⟩)) := by kernel_rfl
theorem ck_10 : ck Try.prog 10 = some (false, 1, [.s (.string ⟨#[]⟩)]) := by kernel_rfl
theorem un_10 : Try.prog.underlying 10 = some (.string) := by kernel_rfl
theorem tk_11 : tk Try.prog 11 = .sc (.s (.string ⟨#[]⟩)) := by kernel_rfl
theorem ck_11 : ck Try.prog 11 = some (false, 1, [.s (.string ⟨#[]⟩)]) := by kernel_rfl
theorem un_11 : Try.prog.underlying 11 = some (.string) := by kernel_rfl
theorem tk_12 : tk Try.prog 12 = .sc (.s (.int .u64 0)) := by kernel_rfl
theorem ck_12 : ck Try.prog 12 = some (false, 1, [.s (.int .u64 0)]) := by kernel_rfl
theorem un_12 : Try.prog.underlying 12 = some (.int .u64) := by kernel_rfl
theorem ik_12 : Try.prog.intKind 12 = .u64 := by kernel_rfl
theorem tk_13 : tk Try.prog 13 = .st 2 [(0, 1, false), (1, 1, false)] [.s (.string ⟨#[]⟩), .s (.int .u64 0)] := by kernel_rfl
theorem ck_13 : ck Try.prog 13 = some (true, 2, [.s (.string ⟨#[]⟩), .s (.int .u64 0)]) := by kernel_rfl
theorem tk_14 : tk Try.prog 14 = .st 2 [(0, 1, false), (1, 1, false)] [.s (.string ⟨#[]⟩), .s (.int .u64 0)] := by kernel_rfl
theorem ck_14 : ck Try.prog 14 = some (true, 2, [.s (.string ⟨#[]⟩), .s (.int .u64 0)]) := by kernel_rfl
theorem tk_15 : tk Try.prog 15 = .sc (.np) := by kernel_rfl
theorem ck_15 : ck Try.prog 15 = some (false, 1, [.np]) := by kernel_rfl
theorem un_15 : Try.prog.underlying 15 = some (.pointer 159) := by kernel_rfl
theorem tk_16 : tk Try.prog 16 = .sc (.np) := by kernel_rfl
theorem ck_16 : ck Try.prog 16 = some (false, 1, [.np]) := by kernel_rfl
theorem un_16 : Try.prog.underlying 16 = some (.pointer 162) := by kernel_rfl
theorem tk_17 : tk Try.prog 17 = .sc (.np) := by kernel_rfl
theorem ck_17 : ck Try.prog 17 = some (false, 1, [.np]) := by kernel_rfl
theorem un_17 : Try.prog.underlying 17 = some (.pointer 171) := by kernel_rfl
theorem tk_18 : tk Try.prog 18 = .st 1 [(0, 1, false)] [.np] := by kernel_rfl
theorem ck_18 : ck Try.prog 18 = some (true, 1, [.np]) := by kernel_rfl
theorem tk_19 : tk Try.prog 19 = .st 1 [(0, 1, false)] [.np] := by kernel_rfl
theorem ck_19 : ck Try.prog 19 = some (true, 1, [.np]) := by kernel_rfl
theorem tk_21 : tk Try.prog 21 = .sc (.s (.int .i32 0)) := by kernel_rfl
theorem ck_21 : ck Try.prog 21 = some (false, 1, [.s (.int .i32 0)]) := by kernel_rfl
theorem un_21 : Try.prog.underlying 21 = some (.int .i32) := by kernel_rfl
theorem ik_21 : Try.prog.intKind 21 = .i32 := by kernel_rfl
theorem tk_22 : tk Try.prog 22 = .sl 63 2 32 [.s (.int .i64 0), .nil] := by kernel_rfl
theorem ck_22 : ck Try.prog 22 = some (false, 1, [.nil]) := by kernel_rfl
theorem el_22 : Try.prog.elem 22 = 63 := by kernel_rfl
theorem un_22 : Try.prog.underlying 22 = some (.slice 63) := by kernel_rfl
theorem tk_25 : tk Try.prog 25 = .sl 65 2 32 [.s (.int .i64 0), .nil] := by kernel_rfl
theorem ck_25 : ck Try.prog 25 = some (false, 1, [.nil]) := by kernel_rfl
theorem el_25 : Try.prog.elem 25 = 65 := by kernel_rfl
theorem un_25 : Try.prog.underlying 25 = some (.slice 65) := by kernel_rfl
theorem tk_29 : tk Try.prog 29 = .sl 106 3 32 [.s (.int .i64 0), .s (.string ⟨#[]⟩), .s (.int .i64 0)] := by kernel_rfl
theorem ck_29 : ck Try.prog 29 = some (false, 1, [.nil]) := by kernel_rfl
theorem el_29 : Try.prog.elem 29 = 106 := by kernel_rfl
theorem un_29 : Try.prog.underlying 29 = some (.slice 106) := by kernel_rfl
theorem tk_30 : tk Try.prog 30 = .st 1 [(0, 1, false)] [.nil] := by kernel_rfl
theorem ck_30 : ck Try.prog 30 = some (true, 1, [.nil]) := by kernel_rfl
theorem tk_31 : tk Try.prog 31 = .st 1 [(0, 1, false)] [.nil] := by kernel_rfl
theorem ck_31 : ck Try.prog 31 = some (true, 1, [.nil]) := by kernel_rfl
theorem tk_34 : tk Try.prog 34 = .sl 44 3 32 [.s (.int .i64 0), .s (.string ⟨#[]⟩), .s (.int .i64 0)] := by kernel_rfl
theorem ck_34 : ck Try.prog 34 = some (false, 1, [.nil]) := by kernel_rfl
theorem el_34 : Try.prog.elem 34 = 44 := by kernel_rfl
theorem un_34 : Try.prog.underlying 34 = some (.slice 44) := by kernel_rfl
theorem tk_35 : tk Try.prog 35 = .st 1 [(0, 1, false)] [.nil] := by kernel_rfl
theorem ck_35 : ck Try.prog 35 = some (true, 1, [.nil]) := by kernel_rfl
theorem tk_36 : tk Try.prog 36 = .st 1 [(0, 1, false)] [.nil] := by kernel_rfl
theorem ck_36 : ck Try.prog 36 = some (true, 1, [.nil]) := by kernel_rfl
theorem tk_39 : tk Try.prog 39 = .sl 5 1 1 [.s (.int .u8 0)] := by kernel_rfl
theorem ck_39 : ck Try.prog 39 = some (false, 1, [.nil]) := by kernel_rfl
theorem el_39 : Try.prog.elem 39 = 5 := by kernel_rfl
theorem un_39 : Try.prog.underlying 39 = some (.slice 5) := by kernel_rfl
theorem tk_43 : tk Try.prog 43 = .st 3 [(0, 1, false), (1, 1, false), (2, 1, false)] [.s (.int .i64 0), .s (.string ⟨#[]⟩), .s (.int .i64 0)] := by kernel_rfl
theorem ck_43 : ck Try.prog 43 = some (true, 3, [.s (.int .i64 0), .s (.string ⟨#[]⟩), .s (.int .i64 0)]) := by kernel_rfl
theorem tk_44 : tk Try.prog 44 = .st 3 [(0, 1, false), (1, 1, false), (2, 1, false)] [.s (.int .i64 0), .s (.string ⟨#[]⟩), .s (.int .i64 0)] := by kernel_rfl
theorem ck_44 : ck Try.prog 44 = some (true, 3, [.s (.int .i64 0), .s (.string ⟨#[]⟩), .s (.int .i64 0)]) := by kernel_rfl
theorem sq_44 : sqB Try.prog 44 [0, 1, 0] = true := by kernel_rfl
theorem tk_53 : tk Try.prog 53 = .sl 3 1 8 [.s (.int .i64 0)] := by kernel_rfl
theorem ck_53 : ck Try.prog 53 = some (false, 1, [.nil]) := by kernel_rfl
theorem el_53 : Try.prog.elem 53 = 3 := by kernel_rfl
theorem un_53 : Try.prog.underlying 53 = some (.slice 3) := by kernel_rfl
theorem tk_62 : tk Try.prog 62 = .st 2 [(0, 1, false), (1, 1, true)] [.s (.int .i64 0), .nil] := by kernel_rfl
theorem ck_62 : ck Try.prog 62 = some (true, 2, [.s (.int .i64 0), .nil]) := by kernel_rfl
theorem tk_63 : tk Try.prog 63 = .st 2 [(0, 1, false), (1, 1, true)] [.s (.int .i64 0), .nil] := by kernel_rfl
theorem ck_63 : ck Try.prog 63 = some (true, 2, [.s (.int .i64 0), .nil]) := by kernel_rfl
theorem tk_64 : tk Try.prog 64 = .st 2 [(0, 1, false), (1, 1, true)] [.s (.int .i64 0), .nil] := by kernel_rfl
theorem ck_64 : ck Try.prog 64 = some (true, 2, [.s (.int .i64 0), .nil]) := by kernel_rfl
theorem tk_65 : tk Try.prog 65 = .st 2 [(0, 1, false), (1, 1, true)] [.s (.int .i64 0), .nil] := by kernel_rfl
theorem ck_65 : ck Try.prog 65 = some (true, 2, [.s (.int .i64 0), .nil]) := by kernel_rfl
theorem tk_79 : tk Try.prog 79 = .sc (.np) := by kernel_rfl
theorem ck_79 : ck Try.prog 79 = some (false, 1, [.np]) := by kernel_rfl
theorem un_79 : Try.prog.underlying 79 = some (.pointer 111) := by kernel_rfl
theorem tk_89 : tk Try.prog 89 = .sc (.np) := by kernel_rfl
theorem ck_89 : ck Try.prog 89 = some (false, 1, [.np]) := by kernel_rfl
theorem un_89 : Try.prog.underlying 89 = some (.pointer 91) := by kernel_rfl
theorem tk_90 : tk Try.prog 90 = .st 1 [(0, 1, false)] [.nil] := by kernel_rfl
theorem ck_90 : ck Try.prog 90 = some (true, 1, [.nil]) := by kernel_rfl
theorem tk_91 : tk Try.prog 91 = .st 1 [(0, 1, false)] [.nil] := by kernel_rfl
theorem ck_91 : ck Try.prog 91 = some (true, 1, [.nil]) := by kernel_rfl
theorem tk_96 : tk Try.prog 96 = .sl 36 1 24 [.nil] := by kernel_rfl
theorem ck_96 : ck Try.prog 96 = some (false, 1, [.nil]) := by kernel_rfl
theorem el_96 : Try.prog.elem 96 = 36 := by kernel_rfl
theorem un_96 : Try.prog.underlying 96 = some (.slice 36) := by kernel_rfl
theorem tk_106 : tk Try.prog 106 = .st 3 [(0, 1, false), (1, 1, false), (2, 1, false)] [.s (.int .i64 0), .s (.string ⟨#[]⟩), .s (.int .i64 0)] := by kernel_rfl
theorem ck_106 : ck Try.prog 106 = some (true, 3, [.s (.int .i64 0), .s (.string ⟨#[]⟩), .s (.int .i64 0)]) := by kernel_rfl
theorem sq_106 : sqB Try.prog 106 [0, 1, 0] = true := by kernel_rfl
theorem tk_110 : tk Try.prog 110 = .st 3 [(0, 1, false), (1, 1, false), (2, 1, false)] [.nil, .s (.int .i64 0), .s (.int .i64 0)] := by kernel_rfl
theorem ck_110 : ck Try.prog 110 = some (true, 3, [.nil, .s (.int .i64 0), .s (.int .i64 0)]) := by kernel_rfl
theorem tk_111 : tk Try.prog 111 = .st 3 [(0, 1, false), (1, 1, false), (2, 1, false)] [.nil, .s (.int .i64 0), .s (.int .i64 0)] := by kernel_rfl
theorem ck_111 : ck Try.prog 111 = some (true, 3, [.nil, .s (.int .i64 0), .s (.int .i64 0)]) := by kernel_rfl
theorem tk_113 : tk Try.prog 113 = .sl 9 1 16 [.s (.string ⟨#[]⟩)] := by kernel_rfl
theorem ck_113 : ck Try.prog 113 = some (false, 1, [.nil]) := by kernel_rfl
theorem el_113 : Try.prog.elem 113 = 9 := by kernel_rfl
theorem un_113 : Try.prog.underlying 113 = some (.slice 9) := by kernel_rfl
theorem tk_117 : tk Try.prog 117 = .sl 34 1 24 [.nil] := by kernel_rfl
theorem ck_117 : ck Try.prog 117 = some (false, 1, [.nil]) := by kernel_rfl
theorem el_117 : Try.prog.elem 117 = 34 := by kernel_rfl
theorem un_117 : Try.prog.underlying 117 = some (.slice 34) := by kernel_rfl
theorem tk_121 : tk Try.prog 121 = .sc (.s (.int .u64 0)) := by kernel_rfl
theorem ck_121 : ck Try.prog 121 = some (false, 1, [.s (.int .u64 0)]) := by kernel_rfl
theorem un_121 : Try.prog.underlying 121 = some (.int .u64) := by kernel_rfl
theorem ik_121 : Try.prog.intKind 121 = .u64 := by kernel_rfl
theorem tk_126 : tk Try.prog 126 = .sc (.s (.int .i64 0)) := by kernel_rfl
theorem ck_126 : ck Try.prog 126 = some (false, 1, [.s (.int .i64 0)]) := by kernel_rfl
theorem un_126 : Try.prog.underlying 126 = some (.int .i64) := by kernel_rfl
theorem ik_126 : Try.prog.intKind 126 = .i64 := by kernel_rfl
theorem tk_135 : tk Try.prog 135 = .sc (.s (.int .u32 0)) := by kernel_rfl
theorem ck_135 : ck Try.prog 135 = some (false, 1, [.s (.int .u32 0)]) := by kernel_rfl
theorem un_135 : Try.prog.underlying 135 = some (.int .u32) := by kernel_rfl
theorem ik_135 : Try.prog.intKind 135 = .u32 := by kernel_rfl
theorem tk_137 : tk Try.prog 137 = .sc (.s (.int .u64 0)) := by kernel_rfl
theorem ck_137 : ck Try.prog 137 = some (false, 1, [.s (.int .u64 0)]) := by kernel_rfl
theorem un_137 : Try.prog.underlying 137 = some (.int .u64) := by kernel_rfl
theorem ik_137 : Try.prog.intKind 137 = .u64 := by kernel_rfl
theorem tk_140 : tk Try.prog 140 = .sc (.s (.int .u64 0)) := by kernel_rfl
theorem ck_140 : ck Try.prog 140 = some (false, 1, [.s (.int .u64 0)]) := by kernel_rfl
theorem un_140 : Try.prog.underlying 140 = some (.int .u64) := by kernel_rfl
theorem ik_140 : Try.prog.intKind 140 = .u64 := by kernel_rfl
theorem tk_144 : tk Try.prog 144 = .sc (.np) := by kernel_rfl
theorem ck_144 : ck Try.prog 144 = some (false, 1, [.np]) := by kernel_rfl
theorem un_144 : Try.prog.underlying 144 = some (.pointer 3) := by kernel_rfl
theorem tk_151 : tk Try.prog 151 = .sc (.np) := by kernel_rfl
theorem ck_151 : ck Try.prog 151 = some (false, 1, [.np]) := by kernel_rfl
theorem un_151 : Try.prog.underlying 151 = some (.pointer 140) := by kernel_rfl
theorem tk_158 : tk Try.prog 158 = .st 4 [(0, 1, false), (1, 1, false), (2, 1, false), (3, 1, false)] [.np, .np, .np, .s (.string ⟨#[]⟩)] := by kernel_rfl
theorem ck_158 : ck Try.prog 158 = some (true, 4, [.np, .np, .np, .s (.string ⟨#[]⟩)]) := by kernel_rfl
theorem tk_159 : tk Try.prog 159 = .st 4 [(0, 1, false), (1, 1, false), (2, 1, false), (3, 1, false)] [.np, .np, .np, .s (.string ⟨#[]⟩)] := by kernel_rfl
theorem ck_159 : ck Try.prog 159 = some (true, 4, [.np, .np, .np, .s (.string ⟨#[]⟩)]) := by kernel_rfl
theorem tk_164 : tk Try.prog 164 = .sc (.s (.int .u8 0)) := by kernel_rfl
theorem ck_164 : ck Try.prog 164 = some (false, 1, [.s (.int .u8 0)]) := by kernel_rfl
theorem un_164 : Try.prog.underlying 164 = some (.int .u8) := by kernel_rfl
theorem ik_164 : Try.prog.intKind 164 = .u8 := by kernel_rfl
theorem tk_165 : tk Try.prog 165 = .sc (.s (.int .u8 0)) := by kernel_rfl
theorem ck_165 : ck Try.prog 165 = some (false, 1, [.s (.int .u8 0)]) := by kernel_rfl
theorem un_165 : Try.prog.underlying 165 = some (.int .u8) := by kernel_rfl
theorem ik_165 : Try.prog.intKind 165 = .u8 := by kernel_rfl
theorem tk_167 : tk Try.prog 167 = .sc (.np) := by kernel_rfl
theorem ck_167 : ck Try.prog 167 = some (false, 1, [.np]) := by kernel_rfl
theorem un_167 : Try.prog.underlying 167 = some (.pointer 5) := by kernel_rfl
theorem tk_168 : tk Try.prog 168 = .sc (.s (.int .i32 0)) := by kernel_rfl
theorem ck_168 : ck Try.prog 168 = some (false, 1, [.s (.int .i32 0)]) := by kernel_rfl
theorem un_168 : Try.prog.underlying 168 = some (.int .i32) := by kernel_rfl
theorem ik_168 : Try.prog.intKind 168 = .i32 := by kernel_rfl
theorem tk_169 : tk Try.prog 169 = .sc (.s (.int .i32 0)) := by kernel_rfl
theorem ck_169 : ck Try.prog 169 = some (false, 1, [.s (.int .i32 0)]) := by kernel_rfl
theorem un_169 : Try.prog.underlying 169 = some (.int .i32) := by kernel_rfl
theorem ik_169 : Try.prog.intKind 169 = .i32 := by kernel_rfl
end Go.Proofs.Ytmopjpnghomdfaa
