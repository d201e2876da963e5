/- What the program's types say; how its functions take their arguments. -/
import Derived.Test.YtngobmjdbjlkcaaGx2
import Derived.Test.YtngobmjdbjlkcaaProg
namespace Go.Proofs.Ytngobmjdbjlkcaa
theorem tk_2 : tk Try.prog 2 = .sc (.s (.int .i64 0)) := by kernel_rfl
theorem ck_2 : ck Try.prog 2 = some (false, 1, [.s (.int .i64 0)]) := by kernel_rfl
theorem un_2 : Try.prog.underlying 2 = some (.int .i64) := by kernel_rfl
theorem ik_2 : Try.prog.intKind 2 = .i64 := by kernel_rfl
theorem tk_3 : tk Try.prog 3 = .sc (.s (.int .i64 0)) := by kernel_rfl
theorem ck_3 : ck Try.prog 3 = some (false, 1, [.s (.int .i64 0)]) := by kernel_rfl
theorem un_3 : Try.prog.underlying 3 = some (.int .i64) := by kernel_rfl
theorem ik_3 : Try.prog.intKind 3 = .i64 := by kernel_rfl
theorem tk_4 : tk Try.prog 4 = .sc (.s (.bool false)) := by kernel_rfl
theorem ck_4 : ck Try.prog 4 = some (false, 1, [.s (.bool false)]) := by kernel_rfl
theorem un_4 : Try.prog.underlying 4 = some (.bool) := by kernel_rfl
theorem tk_5 : tk Try.prog 5 = .sc (.s (.int .u8 0)) := by kernel_rfl
theorem ck_5 : ck Try.prog 5 = some (false, 1, [.s (.int .u8 0)]) := by kernel_rfl
theorem un_5 : Try.prog.underlying 5 = some (.int .u8) := by kernel_rfl
theorem ik_5 : Try.prog.intKind 5 = .u8 := by kernel_rfl
theorem tk_6 : tk Try.prog 6 = .sc (.s (.int .u8 0)) := by kernel_rfl
theorem ck_6 : ck Try.prog 6 = some (false, 1, [.s (.int .u8 0)]) := by kernel_rfl
theorem un_6 : Try.prog.underlying 6 = some (.int .u8) := by kernel_rfl
theorem ik_6 : Try.prog.intKind 6 = .u8 := by kernel_rfl
theorem tk_7 : tk Try.prog 7 = .st 4 [(0, 1, false), (1, 1, false), (2, 1, false), (3, 1, false)] [.s (.int .i64 0), .s (.int .i64 0), .s (.bool false), .s (.int .u8 0)] := by kernel_rfl
theorem ck_7 : ck Try.prog 7 = some (true, 4, [.s (.int .i64 0), .s (.int .i64 0), .s (.bool false), .s (.int .u8 0)]) := by kernel_rfl
theorem tk_8 : tk Try.prog 8 = .st 4 [(0, 1, false), (1, 1, false), (2, 1, false), (3, 1, false)] [.s (.int .i64 0), .s (.int .i64 0), .s (.bool false), .s (.int .u8 0)] := by kernel_rfl
theorem ck_8 : ck Try.prog 8 = some (true, 4, [.s (.int .i64 0), .s (.int .i64 0), .s (.bool false), .s (.int .u8 0)]) := by kernel_rfl
theorem tk_9 : tk Try.prog 9 = .sc (.s (.string ⟨#[]⟩)) := by kernel_rfl
theorem ck_9 : ck Try.prog 9 = some (false, 1, [.s (.string ⟨#[]⟩)]) := by kernel_rfl
theorem un_9 : Try.prog.underlying 9 = some (.string) := by kernel_rfl
theorem tk_10 : tk Try.prog 10 = .sc (.s (.string ⟨#[]⟩)) := by kernel_rfl
theorem ck_10 : ck Try.prog 10 = some (false, 1, [.s (.string ⟨#[]⟩)]) := by kernel_rfl
theorem un_10 : Try.prog.underlying 10 = some (.string) := by kernel_rfl
theorem tk_11 : tk Try.prog 11 = .sc (.s (.string ⟨#[]⟩)) := by kernel_rfl
theorem ck_11 : ck Try.prog 11 = some (false, 1, [.s (.string ⟨#[]⟩)]) := by kernel_rfl
theorem un_11 : Try.prog.underlying 11 = some (.string) := by kernel_rfl
theorem tk_12 : tk Try.prog 12 = .sc (.s (.int .u64 0)) := by kernel_rfl
theorem ck_12 : ck Try.prog 12 = some (false, 1, [.s (.int .u64 0)]) := by kernel_rfl
theorem un_12 : Try.prog.underlying 12 = some (.int .u64) := by kernel_rfl
theorem ik_12 : Try.prog.intKind 12 = .u64 := by kernel_rfl
theorem tk_13 : tk Try.prog 13 = .st 2 [(0, 1, false), (1, 1, false)] [.s (.string ⟨#[]⟩), .s (.int .u64 0)] := by kernel_rfl
theorem ck_13 : ck Try.prog 13 = some (true, 2, [.s (.string ⟨#[]⟩), .s (.int .u64 0)]) := by kernel_rfl
theorem tk_14 : tk Try.prog 14 = .st 2 [(0, 1, false), (1, 1, false)] [.s (.string ⟨#[]⟩), .s (.int .u64 0)] := by kernel_rfl
theorem ck_14 : ck Try.prog 14 = some (true, 2, [.s (.string ⟨#[]⟩), .s (.int .u64 0)]) := by kernel_rfl
theorem tk_15 : tk Try.prog 15 = .sc (.np) := by kernel_rfl
theorem ck_15 : ck Try.prog 15 = some (false, 1, [.np]) := by kernel_rfl
theorem un_15 : Try.prog.underlying 15 = some (.pointer 187) := by kernel_rfl
theorem tk_16 : tk Try.prog 16 = .sc (.np) := by kernel_rfl
theorem ck_16 : ck Try.prog 16 = some (false, 1, [.np]) := by kernel_rfl
theorem un_16 : Try.prog.underlying 16 = some (.pointer 190) := by kernel_rfl
theorem tk_17 : tk Try.prog 17 = .sc (.np) := by kernel_rfl
theorem ck_17 : ck Try.prog 17 = some (false, 1, [.np]) := by kernel_rfl
theorem un_17 : Try.prog.underlying 17 = some (.pointer 199) := by kernel_rfl
theorem tk_18 : tk Try.prog 18 = .st 1 [(0, 1, false)] [.np] := by kernel_rfl
theorem ck_18 : ck Try.prog 18 = some (true, 1, [.np]) := by kernel_rfl
theorem tk_19 : tk Try.prog 19 = .st 1 [(0, 1, false)] [.np] := by kernel_rfl
theorem ck_19 : ck Try.prog 19 = some (true, 1, [.np]) := by kernel_rfl
theorem tk_21 : tk Try.prog 21 = .sc (.s (.int .i32 0)) := by kernel_rfl
theorem ck_21 : ck Try.prog 21 = some (false, 1, [.s (.int .i32 0)]) := by kernel_rfl
theorem un_21 : Try.prog.underlying 21 = some (.int .i32) := by kernel_rfl
theorem ik_21 : Try.prog.intKind 21 = .i32 := by kernel_rfl
theorem tk_22 : tk Try.prog 22 = .sl 5 1 1 [.s (.int .u8 0)] := by kernel_rfl
theorem ck_22 : ck Try.prog 22 = some (false, 1, [.nil]) := by kernel_rfl
theorem el_22 : Try.prog.elem 22 = 5 := by kernel_rfl
theorem un_22 : Try.prog.underlying 22 = some (.slice 5) := by kernel_rfl
theorem tk_23 : tk Try.prog 23 = .sl 31 3 32 [.s (.int .i64 0), .s (.string ⟨#[]⟩), .s (.int .i64 0)] := by kernel_rfl
theorem ck_23 : ck Try.prog 23 = some (false, 1, [.nil]) := by kernel_rfl
theorem el_23 : Try.prog.elem 23 = 31 := by kernel_rfl
theorem un_23 : Try.prog.underlying 23 = some (.slice 31) := by kernel_rfl
theorem tk_24 : tk Try.prog 24 = .st 1 [(0, 1, false)] [.nil] := by kernel_rfl
theorem ck_24 : ck Try.prog 24 = some (true, 1, [.nil]) := by kernel_rfl
theorem tk_25 : tk Try.prog 25 = .st 1 [(0, 1, false)] [.nil] := by kernel_rfl
theorem ck_25 : ck Try.prog 25 = some (true, 1, [.nil]) := by kernel_rfl
theorem tk_30 : tk Try.prog 30 = .st 3 [(0, 1, false), (1, 1, false), (2, 1, false)] [.s (.int .i64 0), .s (.string ⟨#[]⟩), .s (.int .i64 0)] := by kernel_rfl
theorem ck_30 : ck Try.prog 30 = some (true, 3, [.s (.int .i64 0), .s (.string ⟨#[]⟩), .s (.int .i64 0)]) := by kernel_rfl
theorem tk_31 : tk Try.prog 31 = .st 3 [(0, 1, false), (1, 1, false), (2, 1, false)] [.s (.int .i64 0), .s (.string ⟨#[]⟩), .s (.int .i64 0)] := by kernel_rfl
theorem ck_31 : ck Try.prog 31 = some (true, 3, [.s (.int .i64 0), .s (.string ⟨#[]⟩), .s (.int .i64 0)]) := by kernel_rfl
theorem sq_31 : sqB Try.prog 31 [0, 1, 0] = true := by kernel_rfl
theorem tk_33 : tk Try.prog 33 = .sl 138 3 32 [.s (.int .i64 0), .s (.string ⟨#[]⟩), .s (.int .i64 0)] := by kernel_rfl
theorem ck_33 : ck Try.prog 33 = some (false, 1, [.nil]) := by kernel_rfl
theorem el_33 : Try.prog.elem 33 = 138 := by kernel_rfl
theorem un_33 : Try.prog.underlying 33 = some (.slice 138) := by kernel_rfl
theorem tk_34 : tk Try.prog 34 = .st 1 [(0, 1, false)] [.nil] := by kernel_rfl
theorem ck_34 : ck Try.prog 34 = some (true, 1, [.nil]) := by kernel_rfl
theorem tk_35 : tk Try.prog 35 = .st 1 [(0, 1, false)] [.nil] := by kernel_rfl
theorem ck_35 : ck Try.prog 35 = some (true, 1, [.nil]) := by kernel_rfl
theorem tk_36 : tk Try.prog 36 = .sl 87 2 32 [.s (.int .i64 0), .nil] := by kernel_rfl
theorem ck_36 : ck Try.prog 36 = some (false, 1, [.nil]) := by kernel_rfl
theorem el_36 : Try.prog.elem 36 = 87 := by kernel_rfl
theorem un_36 : Try.prog.underlying 36 = some (.slice 87) := by kernel_rfl
theorem tk_42 : tk Try.prog 42 = .sl 77 2 32 [.s (.int .i64 0), .nil] := by kernel_rfl
theorem ck_42 : ck Try.prog 42 = some (false, 1, [.nil]) := by kernel_rfl
theorem el_42 : Try.prog.elem 42 = 77 := by kernel_rfl
theorem un_42 : Try.prog.underlying 42 = some (.slice 77) := by kernel_rfl
theorem tk_48 : tk Try.prog 48 = .sl 56 4 40 [.s (.int .i64 0), .s (.int .i64 0), .s (.string ⟨#[]⟩), .s (.int .i64 0)] := by kernel_rfl
theorem ck_48 : ck Try.prog 48 = some (false, 1, [.nil]) := by kernel_rfl
theorem el_48 : Try.prog.elem 48 = 56 := by kernel_rfl
theorem un_48 : Try.prog.underlying 48 = some (.slice 56) := by kernel_rfl
theorem tk_55 : tk Try.prog 55 = .st 4 [(0, 1, false), (1, 1, false), (2, 1, false), (3, 1, false)] [.s (.int .i64 0), .s (.int .i64 0), .s (.string ⟨#[]⟩), .s (.int .i64 0)] := by kernel_rfl
theorem ck_55 : ck Try.prog 55 = some (true, 4, [.s (.int .i64 0), .s (.int .i64 0), .s (.string ⟨#[]⟩), .s (.int .i64 0)]) := by kernel_rfl
theorem tk_56 : tk Try.prog 56 = .st 4 [(0, 1, false), (1, 1, false), (2, 1, false), (3, 1, false)] [.s (.int .i64 0), .s (.int .i64 0), .s (.string ⟨#[]⟩), .s (.int .i64 0)] := by kernel_rfl
theorem ck_56 : ck Try.prog 56 = some (true, 4, [.s (.int .i64 0), .s (.int .i64 0), .s (.string ⟨#[]⟩), .s (.int .i64 0)]) := by kernel_rfl
theorem sq_56 : sqB Try.prog 56 [0, 0, 1, 0] = true := by kernel_rfl
theorem tk_61 : tk Try.prog 61 = .sl 3 1 8 [.s (.int .i64 0)] := by kernel_rfl
theorem ck_61 : ck Try.prog 61 = some (false, 1, [.nil]) := by kernel_rfl
theorem el_61 : Try.prog.elem 61 = 3 := by kernel_rfl
theorem un_61 : Try.prog.underlying 61 = some (.slice 3) := by kernel_rfl
theorem tk_70 : tk Try.prog 70 = .sc (.np) := by kernel_rfl
theorem ck_70 : ck Try.prog 70 = some (false, 1, [.np]) := by kernel_rfl
theorem un_70 : Try.prog.underlying 70 = some (.pointer 132) := by kernel_rfl
theorem tk_76 : tk Try.prog 76 = .st 2 [(0, 1, false), (1, 1, true)] [.s (.int .i64 0), .nil] := by kernel_rfl
theorem ck_76 : ck Try.prog 76 = some (true, 2, [.s (.int .i64 0), .nil]) := by kernel_rfl
theorem tk_77 : tk Try.prog 77 = .st 2 [(0, 1, false), (1, 1, true)] [.s (.int .i64 0), .nil] := by kernel_rfl
theorem ck_77 : ck Try.prog 77 = some (true, 2, [.s (.int .i64 0), .nil]) := by kernel_rfl
theorem tk_86 : tk Try.prog 86 = .st 2 [(0, 1, false), (1, 1, true)] [.s (.int .i64 0), .nil] := by kernel_rfl
theorem ck_86 : ck Try.prog 86 = some (true, 2, [.s (.int .i64 0), .nil]) := by kernel_rfl
theorem tk_87 : tk Try.prog 87 = .st 2 [(0, 1, false), (1, 1, true)] [.s (.int .i64 0), .nil] := by kernel_rfl
theorem ck_87 : ck Try.prog 87 = some (true, 2, [.s (.int .i64 0), .nil]) := by kernel_rfl
theorem tk_101 : tk Try.prog 101 = .sc (.np) := by kernel_rfl
theorem ck_101 : ck Try.prog 101 = some (false, 1, [.np]) := by kernel_rfl
theorem un_101 : Try.prog.underlying 101 = some (.pointer 103) := by kernel_rfl
theorem tk_102 : tk Try.prog 102 = .st 4 [(0, 1, false), (1, 1, false), (2, 1, false), (3, 1, false)] [.s (.string ⟨#[]⟩), .s (.int .i64 0), .nil, .s (.int .i64 0)] := by kernel_rfl
theorem ck_102 : ck Try.prog 102 = some (true, 4, [.s (.string ⟨#[]⟩), .s (.int .i64 0), .nil, .s (.int .i64 0)]) := by kernel_rfl
theorem tk_103 : tk Try.prog 103 = .st 4 [(0, 1, false), (1, 1, false), (2, 1, false), (3, 1, false)] [.s (.string ⟨#[]⟩), .s (.int .i64 0), .nil, .s (.int .i64 0)] := by kernel_rfl
theorem ck_103 : ck Try.prog 103 = some (true, 4, [.s (.string ⟨#[]⟩), .s (.int .i64 0), .nil, .s (.int .i64 0)]) := by kernel_rfl
theorem tk_111 : tk Try.prog 111 = .sl 9 1 16 [.s (.string ⟨#[]⟩)] := by kernel_rfl
theorem ck_111 : ck Try.prog 111 = some (false, 1, [.nil]) := by kernel_rfl
theorem el_111 : Try.prog.elem 111 = 9 := by kernel_rfl
theorem un_111 : Try.prog.underlying 111 = some (.slice 9) := by kernel_rfl
theorem tk_115 : tk Try.prog 115 = .sc (.np) := by kernel_rfl
theorem ck_115 : ck Try.prog 115 = some (false, 1, [.np]) := by kernel_rfl
theorem un_115 : Try.prog.underlying 115 = some (.pointer 117) := by kernel_rfl
theorem tk_116 : tk Try.prog 116 = .st 1 [(0, 1, false)] [.nil] := by kernel_rfl
theorem ck_116 : ck Try.prog 116 = some (true, 1, [.nil]) := by kernel_rfl
theorem tk_117 : tk Try.prog 117 = .st 1 [(0, 1, false)] [.nil] := by kernel_rfl
theorem ck_117 : ck Try.prog 117 = some (true, 1, [.nil]) := by kernel_rfl
theorem tk_123 : tk Try.prog 123 = .sl 25 1 24 [.nil] := by kernel_rfl
theorem ck_123 : ck Try.prog 123 = some (false, 1, [.nil]) := by kernel_rfl
theorem el_123 : Try.prog.elem 123 = 25 := by kernel_rfl
theorem un_123 : Try.prog.underlying 123 = some (.slice 25) := by kernel_rfl
theorem tk_131 : tk Try.prog 131 = .st 3 [(0, 1, false), (1, 1, false), (2, 1, false)] [.nil, .s (.int .i64 0), .s (.int .i64 0)] := by kernel_rfl
theorem ck_131 : ck Try.prog 131 = some (true, 3, [.nil, .s (.int .i64 0), .s (.int .i64 0)]) := by kernel_rfl
theorem tk_132 : tk Try.prog 132 = .st 3 [(0, 1, false), (1, 1, false), (2, 1, false)] [.nil, .s (.int .i64 0), .s (.int .i64 0)] := by kernel_rfl
theorem ck_132 : ck Try.prog 132 = some (true, 3, [.nil, .s (.int .i64 0), .s (.int .i64 0)]) := by kernel_rfl
theorem tk_138 : tk Try.prog 138 = .st 3 [(0, 1, false), (1, 1, false), (2, 1, false)] [.s (.int .i64 0), .s (.string ⟨#[]⟩), .s (.int .i64 0)] := by kernel_rfl
theorem ck_138 : ck Try.prog 138 = some (true, 3, [.s (.int .i64 0), .s (.string ⟨#[]⟩), .s (.int .i64 0)]) := by kernel_rfl
theorem sq_138 : sqB Try.prog 138 [0, 1, 0] = true := by kernel_rfl
theorem tk_149 : tk Try.prog 149 = .sl 23 1 24 [.nil] := by kernel_rfl
theorem ck_149 : ck Try.prog 149 = some (false, 1, [.nil]) := by kernel_rfl
theorem el_149 : Try.prog.elem 149 = 23 := by kernel_rfl
theorem un_149 : Try.prog.underlying 149 = some (.slice 23) := by kernel_rfl
theorem tk_154 : tk Try.prog 154 = .sc (.s (.int .u64 0)) := by kernel_rfl
theorem ck_154 : ck Try.prog 154 = some (false, 1, [.s (.int .u64 0)]) := by kernel_rfl
theorem un_154 : Try.prog.underlying 154 = some (.int .u64) := by kernel_rfl
theorem ik_154 : Try.prog.intKind 154 = .u64 := by kernel_rfl
theorem tk_163 : tk Try.prog 163 = .sc (.s (.int .i64 0)) := by kernel_rfl
theorem ck_163 : ck Try.prog 163 = some (false, 1, [.s (.int .i64 0)]) := by kernel_rfl
theorem un_163 : Try.prog.underlying 163 = some (.int .i64) := by kernel_rfl
theorem ik_163 : Try.prog.intKind 163 = .i64 := by kernel_rfl
theorem tk_171 : tk Try.prog 171 = .sc (.s (.int .u32 0)) := by kernel_rfl
theorem ck_171 : ck Try.prog 171 = some (false, 1, [.s (.int .u32 0)]) := by kernel_rfl
theorem un_171 : Try.prog.underlying 171 = some (.int .u32) := by kernel_rfl
theorem ik_171 : Try.prog.intKind 171 = .u32 := by kernel_rfl
theorem tk_173 : tk Try.prog 173 = .sc (.s (.int .u64 0)) := by kernel_rfl
theorem ck_173 : ck Try.prog 173 = some (false, 1, [.s (.int .u64 0)]) := by kernel_rfl
theorem un_173 : Try.prog.underlying 173 = some (.int .u64) := by kernel_rfl
theorem ik_173 : Try.prog.intKind 173 = .u64 := by kernel_rfl
theorem tk_175 : tk Try.prog 175 = .sc (.s (.int .u64 0)) := by kernel_rfl
theorem ck_175 : ck Try.prog 175 = some (false, 1, [.s (.int .u64 0)]) := by kernel_rfl
theorem un_175 : Try.prog.underlying 175 = some (.int .u64) := by kernel_rfl
theorem ik_175 : Try.prog.intKind 175 = .u64 := by kernel_rfl
theorem tk_179 : tk Try.prog 179 = .sc (.np) := by kernel_rfl
theorem ck_179 : ck Try.prog 179 = some (false, 1, [.np]) := by kernel_rfl
theorem un_179 : Try.prog.underlying 179 = some (.pointer 3) := by kernel_rfl
theorem tk_182 : tk Try.prog 182 = .sc (.np) := by kernel_rfl
theorem ck_182 : ck Try.prog 182 = some (false, 1, [.np]) := by kernel_rfl
theorem un_182 : Try.prog.underlying 182 = some (.pointer 175) := by kernel_rfl
theorem tk_186 : tk Try.prog 186 = .st 4 [(0, 1, false), (1, 1, false), (2, 1, false), (3, 1, false)] [.np, .np, .np, .s (.string ⟨#[]⟩)] := by kernel_rfl
theorem ck_186 : ck Try.prog 186 = some (true, 4, [.np, .np, .np, .s (.string ⟨#[]⟩)]) := by kernel_rfl
theorem tk_187 : tk Try.prog 187 = .st 4 [(0, 1, false), (1, 1, false), (2, 1, false), (3, 1, false)] [.np, .np, .np, .s (.string ⟨#[]⟩)] := by kernel_rfl
theorem ck_187 : ck Try.prog 187 = some (true, 4, [.np, .np, .np, .s (.string ⟨#[]⟩)]) := by kernel_rfl
theorem tk_192 : tk Try.prog 192 = .sc (.s (.int .u8 0)) := by kernel_rfl
theorem ck_192 : ck Try.prog 192 = some (false, 1, [.s (.int .u8 0)]) := by kernel_rfl
theorem un_192 : Try.prog.underlying 192 = some (.int .u8) := by kernel_rfl
theorem ik_192 : Try.prog.intKind 192 = .u8 := by kernel_rfl
theorem tk_193 : tk Try.prog 193 = .sc (.s (.int .u8 0)) := by kernel_rfl
theorem ck_193 : ck Try.prog 193 = some (false, 1, [.s (.int .u8 0)]) := by kernel_rfl
theorem un_193 : Try.prog.underlying 193 = some (.int .u8) := by kernel_rfl
theorem ik_193 : Try.prog.intKind 193 = .u8 := by kernel_rfl
theorem tk_195 : tk Try.prog 195 = .sc (.np) := by kernel_rfl
theorem ck_195 : ck Try.prog 195 = some (false, 1, [.np]) := by kernel_rfl
theorem un_195 : Try.prog.underlying 195 = some (.pointer 5) := by kernel_rfl
theorem tk_196 : tk Try.prog 196 = .sc (.s (.int .i32 0)) := by kernel_rfl
theorem ck_196 : ck Try.prog 196 = some (false, 1, [.s (.int .i32 0)]) := by kernel_rfl
theorem un_196 : Try.prog.underlying 196 = some (.int .i32) := by kernel_rfl
theorem ik_196 : Try.prog.intKind 196 = .i32 := by kernel_rfl
theorem tk_197 : tk Try.prog 197 = .sc (.s (.int .i32 0)) := by kernel_rfl
theorem ck_197 : ck Try.prog 197 = some (false, 1, [.s (.int .i32 0)]) := by kernel_rfl
theorem un_197 : Try.prog.underlying 197 = some (.int .i32) := by kernel_rfl
theorem ik_197 : Try.prog.intKind 197 = .i32 := by kernel_rfl
theorem mixed : Try.prog.follows .mixedOrders = true := by kernel_rfl
def mdT : FuncId → List Nat
  | 17 => [2, 2]
  | 23 => [1, 0]
  | 24 => [1, 0]
  | 29 => [1, 0]
  | 35 => [2, 2]
  | 38 => [2]
  | 41 => [1, 0]
  | 50 => [1]
  | 51 => [1, 0]
  | 53 => [1, 0, 0]
  | 57 => [2, 0, 2, 0, 2]
  | 67 => [1, 0]
  | 79 => [1]
  | 83 => [1]
  | 89 => [2, 2, 2]
  | 90 => [1, 2, 2]
  | 94 => [1]
  | 99 => [1]
  | 104 => [1]
  | 127 => [1, 0]
  | 130 => [2, 0, 2]
  | 131 => [1, 0, 2]
  | 132 => [2]
  | 148 => [1, 0, 1]
  | _ => []
noncomputable def PM : Md := ⟨Try.prog, mdT, mixed⟩
theorem PM_P : PM.P = Try.prog := rfl
theorem md_0 : PM.md 0 = [] := rfl
theorem md_1 : PM.md 1 = [] := rfl
theorem md_2 : PM.md 2 = [] := rfl
theorem md_3 : PM.md 3 = [] := rfl
theorem md_4 : PM.md 4 = [] := rfl
theorem md_5 : PM.md 5 = [] := rfl
theorem md_6 : PM.md 6 = [] := rfl
theorem md_7 : PM.md 7 = [] := rfl
theorem md_8 : PM.md 8 = [] := rfl
theorem md_9 : PM.md 9 = [] := rfl
theorem md_10 : PM.md 10 = [] := rfl
theorem md_11 : PM.md 11 = [] := rfl
theorem md_12 : PM.md 12 = [] := rfl
theorem md_13 : PM.md 13 = [] := rfl
theorem md_14 : PM.md 14 = [] := rfl
theorem md_15 : PM.md 15 = [] := rfl
theorem md_16 : PM.md 16 = [] := rfl
theorem md_17 : PM.md 17 = [2, 2] := rfl
theorem md_18 : PM.md 18 = [] := rfl
theorem md_19 : PM.md 19 = [] := rfl
theorem md_20 : PM.md 20 = [] := rfl
theorem md_21 : PM.md 21 = [] := rfl
theorem md_22 : PM.md 22 = [] := rfl
theorem md_23 : PM.md 23 = [1, 0] := rfl
theorem md_24 : PM.md 24 = [1, 0] := rfl
theorem md_25 : PM.md 25 = [] := rfl
theorem md_26 : PM.md 26 = [] := rfl
theorem md_27 : PM.md 27 = [] := rfl
theorem md_28 : PM.md 28 = [] := rfl
theorem md_29 : PM.md 29 = [1, 0] := rfl
theorem md_30 : PM.md 30 = [] := rfl
theorem md_31 : PM.md 31 = [] := rfl
theorem md_32 : PM.md 32 = [] := rfl
theorem md_33 : PM.md 33 = [] := rfl
theorem md_34 : PM.md 34 = [] := rfl
theorem md_35 : PM.md 35 = [2, 2] := rfl
theorem md_36 : PM.md 36 = [] := rfl
theorem md_37 : PM.md 37 = [] := rfl
theorem md_38 : PM.md 38 = [2] := rfl
theorem md_39 : PM.md 39 = [] := rfl
theorem md_40 : PM.md 40 = [] := rfl
theorem md_41 : PM.md 41 = [1, 0] := rfl
theorem md_42 : PM.md 42 = [] := rfl
theorem md_43 : PM.md 43 = [] := rfl
theorem md_44 : PM.md 44 = [] := rfl
theorem md_45 : PM.md 45 = [] := rfl
theorem md_46 : PM.md 46 = [] := rfl
theorem md_47 : PM.md 47 = [] := rfl
theorem md_48 : PM.md 48 = [] := rfl
theorem md_49 : PM.md 49 = [] := rfl
theorem md_50 : PM.md 50 = [1] := rfl
theorem md_51 : PM.md 51 = [1, 0] := rfl
theorem md_52 : PM.md 52 = [] := rfl
theorem md_53 : PM.md 53 = [1, 0, 0] := rfl
theorem md_54 : PM.md 54 = [] := rfl
theorem md_55 : PM.md 55 = [] := rfl
theorem md_56 : PM.md 56 = [] := rfl
theorem md_57 : PM.md 57 = [2, 0, 2, 0, 2] := rfl
theorem md_58 : PM.md 58 = [] := rfl
theorem md_59 : PM.md 59 = [] := rfl
theorem md_60 : PM.md 60 = [] := rfl
theorem md_61 : PM.md 61 = [] := rfl
theorem md_62 : PM.md 62 = [] := rfl
theorem md_63 : PM.md 63 = [] := rfl
theorem md_64 : PM.md 64 = [] := rfl
theorem md_65 : PM.md 65 = [] := rfl
theorem md_66 : PM.md 66 = [] := rfl
theorem md_67 : PM.md 67 = [1, 0] := rfl
theorem md_68 : PM.md 68 = [] := rfl
theorem md_69 : PM.md 69 = [] := rfl
theorem md_70 : PM.md 70 = [] := rfl
theorem md_71 : PM.md 71 = [] := rfl
theorem md_72 : PM.md 72 = [] := rfl
theorem md_73 : PM.md 73 = [] := rfl
theorem md_74 : PM.md 74 = [] := rfl
theorem md_75 : PM.md 75 = [] := rfl
theorem md_76 : PM.md 76 = [] := rfl
theorem md_77 : PM.md 77 = [] := rfl
theorem md_78 : PM.md 78 = [] := rfl
theorem md_79 : PM.md 79 = [1] := rfl
theorem md_80 : PM.md 80 = [] := rfl
theorem md_81 : PM.md 81 = [] := rfl
theorem md_82 : PM.md 82 = [] := rfl
theorem md_83 : PM.md 83 = [1] := rfl
theorem md_84 : PM.md 84 = [] := rfl
theorem md_85 : PM.md 85 = [] := rfl
theorem md_86 : PM.md 86 = [] := rfl
theorem md_87 : PM.md 87 = [] := rfl
theorem md_88 : PM.md 88 = [] := rfl
theorem md_89 : PM.md 89 = [2, 2, 2] := rfl
theorem md_90 : PM.md 90 = [1, 2, 2] := rfl
theorem md_91 : PM.md 91 = [] := rfl
theorem md_92 : PM.md 92 = [] := rfl
theorem md_93 : PM.md 93 = [] := rfl
theorem md_94 : PM.md 94 = [1] := rfl
theorem md_95 : PM.md 95 = [] := rfl
theorem md_96 : PM.md 96 = [] := rfl
theorem md_97 : PM.md 97 = [] := rfl
theorem md_98 : PM.md 98 = [] := rfl
theorem md_99 : PM.md 99 = [1] := rfl
theorem md_100 : PM.md 100 = [] := rfl
theorem md_101 : PM.md 101 = [] := rfl
theorem md_102 : PM.md 102 = [] := rfl
theorem md_103 : PM.md 103 = [] := rfl
theorem md_104 : PM.md 104 = [1] := rfl
theorem md_105 : PM.md 105 = [] := rfl
theorem md_106 : PM.md 106 = [] := rfl
theorem md_107 : PM.md 107 = [] := rfl
theorem md_108 : PM.md 108 = [] := rfl
theorem md_109 : PM.md 109 = [] := rfl
theorem md_110 : PM.md 110 = [] := rfl
theorem md_111 : PM.md 111 = [] := rfl
theorem md_112 : PM.md 112 = [] := rfl
theorem md_113 : PM.md 113 = [] := rfl
theorem md_114 : PM.md 114 = [] := rfl
theorem md_115 : PM.md 115 = [] := rfl
theorem md_116 : PM.md 116 = [] := rfl
theorem md_117 : PM.md 117 = [] := rfl
theorem md_118 : PM.md 118 = [] := rfl
theorem md_119 : PM.md 119 = [] := rfl
theorem md_120 : PM.md 120 = [] := rfl
theorem md_121 : PM.md 121 = [] := rfl
theorem md_122 : PM.md 122 = [] := rfl
theorem md_123 : PM.md 123 = [] := rfl
theorem md_124 : PM.md 124 = [] := rfl
theorem md_125 : PM.md 125 = [] := rfl
theorem md_126 : PM.md 126 = [] := rfl
theorem md_127 : PM.md 127 = [1, 0] := rfl
theorem md_128 : PM.md 128 = [] := rfl
theorem md_129 : PM.md 129 = [] := rfl
theorem md_130 : PM.md 130 = [2, 0, 2] := rfl
theorem md_131 : PM.md 131 = [1, 0, 2] := rfl
theorem md_132 : PM.md 132 = [2] := rfl
theorem md_133 : PM.md 133 = [] := rfl
theorem md_134 : PM.md 134 = [] := rfl
theorem md_135 : PM.md 135 = [] := rfl
theorem md_136 : PM.md 136 = [] := rfl
theorem md_137 : PM.md 137 = [] := rfl
theorem md_138 : PM.md 138 = [] := rfl
theorem md_139 : PM.md 139 = [] := rfl
theorem md_140 : PM.md 140 = [] := rfl
theorem md_141 : PM.md 141 = [] := rfl
theorem md_142 : PM.md 142 = [] := rfl
theorem md_143 : PM.md 143 = [] := rfl
theorem md_144 : PM.md 144 = [] := rfl
theorem md_145 : PM.md 145 = [] := rfl
theorem md_146 : PM.md 146 = [] := rfl
theorem md_147 : PM.md 147 = [] := rfl
theorem md_148 : PM.md 148 = [1, 0, 1] := rfl
theorem md_149 : PM.md 149 = [] := rfl
theorem md_150 : PM.md 150 = [] := rfl
theorem md_151 : PM.md 151 = [] := rfl
theorem md_152 : PM.md 152 = [] := rfl
theorem md_153 : PM.md 153 = [] := rfl
theorem md_154 : PM.md 154 = [] := rfl
theorem md_155 : PM.md 155 = [] := rfl
theorem md_156 : PM.md 156 = [] := rfl
theorem md_157 : PM.md 157 = [] := rfl
theorem md_158 : PM.md 158 = [] := rfl
theorem md_159 : PM.md 159 = [] := rfl
theorem md_160 : PM.md 160 = [] := rfl
theorem md_161 : PM.md 161 = [] := rfl
theorem md_162 : PM.md 162 = [] := rfl
theorem md_163 : PM.md 163 = [] := rfl
theorem md_164 : PM.md 164 = [] := rfl
theorem md_165 : PM.md 165 = [] := rfl
theorem md_166 : PM.md 166 = [] := rfl
theorem md_167 : PM.md 167 = [] := rfl
theorem md_168 : PM.md 168 = [] := rfl
theorem md_169 : PM.md 169 = [] := rfl
theorem md_170 : PM.md 170 = [] := rfl
theorem md_171 : PM.md 171 = [] := rfl
theorem md_172 : PM.md 172 = [] := rfl
theorem md_173 : PM.md 173 = [] := rfl
theorem md_174 : PM.md 174 = [] := rfl
theorem md_175 : PM.md 175 = [] := rfl
theorem md_176 : PM.md 176 = [] := rfl
theorem md_177 : PM.md 177 = [] := rfl
theorem md_178 : PM.md 178 = [] := rfl
theorem md_179 : PM.md 179 = [] := rfl
theorem md_180 : PM.md 180 = [] := rfl
theorem md_181 : PM.md 181 = [] := rfl
theorem md_182 : PM.md 182 = [] := rfl
theorem md_183 : PM.md 183 = [] := rfl
theorem md_184 : PM.md 184 = [] := rfl
theorem md_185 : PM.md 185 = [] := rfl
theorem md_186 : PM.md 186 = [] := rfl
theorem md_187 : PM.md 187 = [] := rfl
theorem md_188 : PM.md 188 = [] := rfl
theorem md_189 : PM.md 189 = [] := rfl
theorem md_190 : PM.md 190 = [] := rfl
attribute [go_sem] PM_P tk_2 tk_3 tk_4 tk_5 tk_6 tk_7 tk_8 tk_9 tk_10 tk_11 tk_12 tk_13 tk_14 tk_15 tk_16 tk_17 tk_18 tk_19 tk_21 tk_22 tk_23 tk_24 tk_25 tk_30 tk_31 tk_33 tk_34 tk_35 tk_36 tk_42 tk_48 tk_55 tk_56 tk_61 tk_70 tk_76 tk_77 tk_86 tk_87 tk_101 tk_102 tk_103 tk_111 tk_115 tk_116 tk_117 tk_123 tk_131 tk_132 tk_138 tk_149 tk_154 tk_163 tk_171 tk_173 tk_175 tk_179 tk_182 tk_186 tk_187 tk_192 tk_193 tk_195 tk_196 tk_197 ck_2 ck_3 ck_4 ck_5 ck_6 ck_7 ck_8 ck_9 ck_10 ck_11 ck_12 ck_13 ck_14 ck_15 ck_16 ck_17 ck_18 ck_19 ck_21 ck_22 ck_23 ck_24 ck_25 ck_30 ck_31 ck_33 ck_34 ck_35 ck_36 ck_42 ck_48 ck_55 ck_56 ck_61 ck_70 ck_76 ck_77 ck_86 ck_87 ck_101 ck_102 ck_103 ck_111 ck_115 ck_116 ck_117 ck_123 ck_131 ck_132 ck_138 ck_149 ck_154 ck_163 ck_171 ck_173 ck_175 ck_179 ck_182 ck_186 ck_187 ck_192 ck_193 ck_195 ck_196 ck_197 un_2 ik_2 un_3 ik_3 un_4 un_5 ik_5 un_6 ik_6 un_9 un_10 un_11 un_12 ik_12 un_15 un_16 un_17 un_21 ik_21 el_22 un_22 el_23 un_23 sq_31 el_33 un_33 el_36 un_36 el_42 un_42 el_48 un_48 sq_56 el_61 un_61 un_70 un_101 el_111 un_111 un_115 el_123 un_123 sq_138 el_149 un_149 un_154 ik_154 un_163 ik_163 un_171 ik_171 un_173 ik_173 un_175 ik_175 un_179 un_182 un_192 ik_192 un_193 ik_193 un_195 un_196 ik_196 un_197 ik_197 md_0 md_1 md_2 md_3 md_4 md_5 md_6 md_7 md_8 md_9 md_10 md_11 md_12 md_13 md_14 md_15 md_16 md_17 md_18 md_19 md_20 md_21 md_22 md_23 md_24 md_25 md_26 md_27 md_28 md_29 md_30 md_31 md_32 md_33 md_34 md_35 md_36 md_37 md_38 md_39 md_40 md_41 md_42 md_43 md_44 md_45 md_46 md_47 md_48 md_49 md_50 md_51 md_52 md_53 md_54 md_55 md_56 md_57 md_58 md_59 md_60 md_61 md_62 md_63 md_64 md_65 md_66 md_67 md_68 md_69 md_70 md_71 md_72 md_73 md_74 md_75 md_76 md_77 md_78 md_79 md_80 md_81 md_82 md_83 md_84 md_85 md_86 md_87 md_88 md_89 md_90 md_91 md_92 md_93 md_94 md_95 md_96 md_97 md_98 md_99 md_100 md_101 md_102 md_103 md_104 md_105 md_106 md_107 md_108 md_109 md_110 md_111 md_112 md_113 md_114 md_115 md_116 md_117 md_118 md_119 md_120 md_121 md_122 md_123 md_124 md_125 md_126 md_127 md_128 md_129 md_130 md_131 md_132 md_133 md_134 md_135 md_136 md_137 md_138 md_139 md_140 md_141 md_142 md_143 md_144 md_145 md_146 md_147 md_148 md_149 md_150 md_151 md_152 md_153 md_154 md_155 md_156 md_157 md_158 md_159 md_160 md_161 md_162 md_163 md_164 md_165 md_166 md_167 md_168 md_169 md_170 md_171 md_172 md_173 md_174 md_175 md_176 md_177 md_178 md_179 md_180 md_181 md_182 md_183 md_184 md_185 md_186 md_187 md_188 md_189 md_190
end Go.Proofs.Ytngobmjdbjlkcaa
