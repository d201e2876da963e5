/- What the program's types say; how its functions take their arguments. -/
import Derived.Test.YthkgncddilkmbaaGx2
import Derived.Test.YthkgncddilkmbaaProg
namespace Go.Proofs.Ythkgncddilkmbaa
theorem tk_2 : tk Try.prog 2 = .sc (.s (.int .i64 0)) := by kernel_rfl
theorem ck_2 : ck Try.prog 2 = some (false, 1, [.s (.int .i64 0)]) := by kernel_rfl
theorem un_2 : Try.prog.underlying 2 = some (.int .i64) := by kernel_rfl
theorem ik_2 : Try.prog.intKind 2 = .i64 := by kernel_rfl
theorem tk_3 : tk Try.prog 3 = .sc (.s (.int .i64 0)) := by kernel_rfl
theorem ck_3 : ck Try.prog 3 = some (false, 1, [.s (.int .i64 0)]) := by kernel_rfl
theorem un_3 : Try.prog.underlying 3 = some (.int .i64) := by kernel_rfl
theorem ik_3 : Try.prog.intKind 3 = .i64 := by kernel_rfl
theorem tk_4 : tk Try.prog 4 = .sc (.s (.bool false)) := by kernel_rfl
theorem ck_4 : ck Try.prog 4 = some (false, 1, [.s (.bool false)]) := by kernel_rfl
theorem un_4 : Try.prog.underlying 4 = some (.bool) := by kernel_rfl
theorem tk_5 : tk Try.prog 5 = .sc (.s (.int .u8 0)) := by kernel_rfl
theorem ck_5 : ck Try.prog 5 = some (false, 1, [.s (.int .u8 0)]) := by kernel_rfl
theorem un_5 : Try.prog.underlying 5 = some (.int .u8) := by kernel_rfl
theorem ik_5 : Try.prog.intKind 5 = .u8 := by kernel_rfl
theorem tk_6 : tk Try.prog 6 = .sc (.s (.int .u8 0)) := by kernel_rfl
theorem ck_6 : ck Try.prog 6 = some (false, 1, [.s (.int .u8 0)]) := by kernel_rfl
theorem un_6 : Try.prog.underlying 6 = some (.int .u8) := by kernel_rfl
theorem ik_6 : Try.prog.intKind 6 = .u8 := by kernel_rfl
theorem tk_7 : tk Try.prog 7 = .st 4 [(0, 1, false), (1, 1, false), (2, 1, false), (3, 1, false)] [.s (.int .i64 0), .s (.int .i64 0), .s (.bool false), .s (.int .u8 0)] := by kernel_rfl
theorem ck_7 : ck Try.prog 7 = some (true, 4, [.s (.int .i64 0), .s (.int .i64 0), .s (.bool false), .s (.int .u8 0)]) := by kernel_rfl
theorem tk_8 : tk Try.prog 8 = .st 4 [(0, 1, false), (1, 1, false), (2, 1, false), (3, 1, false)] [.s (.int .i64 0), .s (.int .i64 0), .s (.bool false), .s (.int .u8 0)] := by kernel_rfl
theorem ck_8 : ck Try.prog 8 = some (true, 4, [.s (.int .i64 0), .s (.int .i64 0), .s (.bool false), .s (.int .u8 0)]) := by kernel_rfl
theorem tk_9 : tk Try.prog 9 = .sc (.s (.string ⟨#[]⟩)) := by kernel_rfl
theorem ck_9 : ck Try.prog 9 = some (false, 1, [.s (.string ⟨#[]⟩)]) := by kernel_rfl
theorem un_9 : Try.prog.underlying 9 = some (.string) := by kernel_rfl
theorem tk_10 : tk Try.prog 10 = .sc (.s (.string ⟨#[]⟩)) := by kernel_rfl
theorem ck_10 : ck Try.prog 10 = some (false, 1, [.s (.string ⟨#[]⟩)]) := by kernel_rfl
theorem un_10 : Try.prog.underlying 10 = some (.string) := by kernel_rfl
theorem tk_11 : tk Try.prog 11 = .sc (.s (.string ⟨#[]⟩)) := by kernel_rfl
theorem ck_11 : ck Try.prog 11 = some (false, 1, [.s (.string ⟨#[]⟩)]) := by kernel_rfl
theorem un_11 : Try.prog.underlying 11 = some (.string) := by kernel_rfl
theorem tk_12 : tk Try.prog 12 = .sc (.s (.int .u64 0)) := by kernel_rfl
theorem ck_12 : ck Try.prog 12 = some (false, 1, [.s (.int .u64 0)]) := by kernel_rfl
theorem un_12 : Try.prog.underlying 12 = some (.int .u64) := by kernel_rfl
theorem ik_12 : Try.prog.intKind 12 = .u64 := by kernel_rfl
theorem tk_13 : tk Try.prog 13 = .st 2 [(0, 1, false), (1, 1, false)] [.s (.string ⟨#[]⟩), .s (.int .u64 0)] := by kernel_rfl
theorem ck_13 : ck Try.prog 13 = some (true, 2, [.s (.string ⟨#[]⟩), .s (.int .u64 0)]) := by kernel_rfl
theorem tk_14 : tk Try.prog 14 = .st 2 [(0, 1, false), (1, 1, false)] [.s (.string ⟨#[]⟩), .s (.int .u64 0)] := by kernel_rfl
theorem ck_14 : ck Try.prog 14 = some (true, 2, [.s (.string ⟨#[]⟩), .s (.int .u64 0)]) := by kernel_rfl
theorem tk_15 : tk Try.prog 15 = .sc (.np) := by kernel_rfl
theorem ck_15 : ck Try.prog 15 = some (false, 1, [.np]) := by kernel_rfl
theorem un_15 : Try.prog.underlying 15 = some (.pointer 108) := by kernel_rfl
theorem tk_16 : tk Try.prog 16 = .sc (.np) := by kernel_rfl
theorem ck_16 : ck Try.prog 16 = some (false, 1, [.np]) := by kernel_rfl
theorem un_16 : Try.prog.underlying 16 = some (.pointer 111) := by kernel_rfl
theorem tk_17 : tk Try.prog 17 = .sc (.np) := by kernel_rfl
theorem ck_17 : ck Try.prog 17 = some (false, 1, [.np]) := by kernel_rfl
theorem un_17 : Try.prog.underlying 17 = some (.pointer 121) := by kernel_rfl
theorem tk_18 : tk Try.prog 18 = .st 1 [(0, 1, false)] [.np] := by kernel_rfl
theorem ck_18 : ck Try.prog 18 = some (true, 1, [.np]) := by kernel_rfl
theorem tk_19 : tk Try.prog 19 = .st 1 [(0, 1, false)] [.np] := by kernel_rfl
theorem ck_19 : ck Try.prog 19 = some (true, 1, [.np]) := by kernel_rfl
theorem tk_21 : tk Try.prog 21 = .sc (.s (.int .i32 0)) := by kernel_rfl
theorem ck_21 : ck Try.prog 21 = some (false, 1, [.s (.int .i32 0)]) := by kernel_rfl
theorem un_21 : Try.prog.underlying 21 = some (.int .i32) := by kernel_rfl
theorem ik_21 : Try.prog.intKind 21 = .i32 := by kernel_rfl
theorem tk_22 : tk Try.prog 22 = .sl 51 4 40 [.s (.int .i64 0), .s (.int .i64 0), .s (.int .i64 0), .s (.string ⟨#[]⟩)] := by kernel_rfl
theorem ck_22 : ck Try.prog 22 = some (false, 1, [.nil]) := by kernel_rfl
theorem el_22 : Try.prog.elem 22 = 51 := by kernel_rfl
theorem un_22 : Try.prog.underlying 22 = some (.slice 51) := by kernel_rfl
theorem tk_23 : tk Try.prog 23 = .sl 55 1 24 [.nil] := by kernel_rfl
theorem ck_23 : ck Try.prog 23 = some (false, 1, [.nil]) := by kernel_rfl
theorem el_23 : Try.prog.elem 23 = 55 := by kernel_rfl
theorem un_23 : Try.prog.underlying 23 = some (.slice 55) := by kernel_rfl
theorem tk_24 : tk Try.prog 24 = .st 2 [(0, 1, false), (1, 1, false)] [.nil, .nil] := by kernel_rfl
theorem ck_24 : ck Try.prog 24 = some (true, 2, [.nil, .nil]) := by kernel_rfl
theorem tk_25 : tk Try.prog 25 = .st 2 [(0, 1, false), (1, 1, false)] [.nil, .nil] := by kernel_rfl
theorem ck_25 : ck Try.prog 25 = some (true, 2, [.nil, .nil]) := by kernel_rfl
theorem tk_28 : tk Try.prog 28 = .sl 39 4 40 [.s (.int .i64 0), .s (.int .i64 0), .s (.int .i64 0), .s (.string ⟨#[]⟩)] := by kernel_rfl
theorem ck_28 : ck Try.prog 28 = some (false, 1, [.nil]) := by kernel_rfl
theorem el_28 : Try.prog.elem 28 = 39 := by kernel_rfl
theorem un_28 : Try.prog.underlying 28 = some (.slice 39) := by kernel_rfl
theorem tk_29 : tk Try.prog 29 = .sl 58 1 24 [.nil] := by kernel_rfl
theorem ck_29 : ck Try.prog 29 = some (false, 1, [.nil]) := by kernel_rfl
theorem el_29 : Try.prog.elem 29 = 58 := by kernel_rfl
theorem un_29 : Try.prog.underlying 29 = some (.slice 58) := by kernel_rfl
theorem tk_30 : tk Try.prog 30 = .st 2 [(0, 1, false), (1, 1, false)] [.nil, .nil] := by kernel_rfl
theorem ck_30 : ck Try.prog 30 = some (true, 2, [.nil, .nil]) := by kernel_rfl
theorem tk_31 : tk Try.prog 31 = .st 2 [(0, 1, false), (1, 1, false)] [.nil, .nil] := by kernel_rfl
theorem ck_31 : ck Try.prog 31 = some (true, 2, [.nil, .nil]) := by kernel_rfl
theorem tk_38 : tk Try.prog 38 = .st 4 [(0, 1, false), (1, 1, false), (2, 1, false), (3, 1, false)] [.s (.int .i64 0), .s (.int .i64 0), .s (.int .i64 0), .s (.string ⟨#[]⟩)] := by kernel_rfl
theorem ck_38 : ck Try.prog 38 = some (true, 4, [.s (.int .i64 0), .s (.int .i64 0), .s (.int .i64 0), .s (.string ⟨#[]⟩)]) := by kernel_rfl
theorem tk_39 : tk Try.prog 39 = .st 4 [(0, 1, false), (1, 1, false), (2, 1, false), (3, 1, false)] [.s (.int .i64 0), .s (.int .i64 0), .s (.int .i64 0), .s (.string ⟨#[]⟩)] := by kernel_rfl
theorem ck_39 : ck Try.prog 39 = some (true, 4, [.s (.int .i64 0), .s (.int .i64 0), .s (.int .i64 0), .s (.string ⟨#[]⟩)]) := by kernel_rfl
theorem sq_39 : sqB Try.prog 39 [0, 0, 0, 1] = true := by kernel_rfl
theorem tk_44 : tk Try.prog 44 = .sl 5 1 1 [.s (.int .u8 0)] := by kernel_rfl
theorem ck_44 : ck Try.prog 44 = some (false, 1, [.nil]) := by kernel_rfl
theorem el_44 : Try.prog.elem 44 = 5 := by kernel_rfl
theorem un_44 : Try.prog.underlying 44 = some (.slice 5) := by kernel_rfl
theorem tk_47 : tk Try.prog 47 = .sl 3 1 8 [.s (.int .i64 0)] := by kernel_rfl
theorem ck_47 : ck Try.prog 47 = some (false, 1, [.nil]) := by kernel_rfl
theorem el_47 : Try.prog.elem 47 = 3 := by kernel_rfl
theorem un_47 : Try.prog.underlying 47 = some (.slice 3) := by kernel_rfl
theorem tk_51 : tk Try.prog 51 = .st 4 [(0, 1, false), (1, 1, false), (2, 1, false), (3, 1, false)] [.s (.int .i64 0), .s (.int .i64 0), .s (.int .i64 0), .s (.string ⟨#[]⟩)] := by kernel_rfl
theorem ck_51 : ck Try.prog 51 = some (true, 4, [.s (.int .i64 0), .s (.int .i64 0), .s (.int .i64 0), .s (.string ⟨#[]⟩)]) := by kernel_rfl
theorem sq_51 : sqB Try.prog 51 [0, 0, 0, 1] = true := by kernel_rfl
theorem tk_53 : tk Try.prog 53 = .sl 95 4 56 [.s (.int .i64 0), .s (.int .i64 0), .s (.string ⟨#[]⟩), .nil] := by kernel_rfl
theorem ck_53 : ck Try.prog 53 = some (false, 1, [.nil]) := by kernel_rfl
theorem el_53 : Try.prog.elem 53 = 95 := by kernel_rfl
theorem un_53 : Try.prog.underlying 53 = some (.slice 95) := by kernel_rfl
theorem tk_54 : tk Try.prog 54 = .st 1 [(0, 1, false)] [.nil] := by kernel_rfl
theorem ck_54 : ck Try.prog 54 = some (true, 1, [.nil]) := by kernel_rfl
theorem tk_55 : tk Try.prog 55 = .st 1 [(0, 1, false)] [.nil] := by kernel_rfl
theorem ck_55 : ck Try.prog 55 = some (true, 1, [.nil]) := by kernel_rfl
theorem tk_56 : tk Try.prog 56 = .sl 77 4 56 [.s (.int .i64 0), .s (.int .i64 0), .s (.string ⟨#[]⟩), .nil] := by kernel_rfl
theorem ck_56 : ck Try.prog 56 = some (false, 1, [.nil]) := by kernel_rfl
theorem el_56 : Try.prog.elem 56 = 77 := by kernel_rfl
theorem un_56 : Try.prog.underlying 56 = some (.slice 77) := by kernel_rfl
theorem tk_57 : tk Try.prog 57 = .st 1 [(0, 1, false)] [.nil] := by kernel_rfl
theorem ck_57 : ck Try.prog 57 = some (true, 1, [.nil]) := by kernel_rfl
theorem tk_58 : tk Try.prog 58 = .st 1 [(0, 1, false)] [.nil] := by kernel_rfl
theorem ck_58 : ck Try.prog 58 = some (true, 1, [.nil]) := by kernel_rfl
theorem tk_62 : tk Try.prog 62 = .sl 9 1 16 [.s (.string ⟨#[]⟩)] := by kernel_rfl
theorem ck_62 : ck Try.prog 62 = some (false, 1, [.nil]) := by kernel_rfl
theorem el_62 : Try.prog.elem 62 = 9 := by kernel_rfl
theorem un_62 : Try.prog.underlying 62 = some (.slice 9) := by kernel_rfl
theorem tk_76 : tk Try.prog 76 = .st 4 [(0, 1, false), (1, 1, false), (2, 1, false), (3, 1, false)] [.s (.int .i64 0), .s (.int .i64 0), .s (.string ⟨#[]⟩), .nil] := by kernel_rfl
theorem ck_76 : ck Try.prog 76 = some (true, 4, [.s (.int .i64 0), .s (.int .i64 0), .s (.string ⟨#[]⟩), .nil]) := by kernel_rfl
theorem tk_77 : tk Try.prog 77 = .st 4 [(0, 1, false), (1, 1, false), (2, 1, false), (3, 1, false)] [.s (.int .i64 0), .s (.int .i64 0), .s (.string ⟨#[]⟩), .nil] := by kernel_rfl
theorem ck_77 : ck Try.prog 77 = some (true, 4, [.s (.int .i64 0), .s (.int .i64 0), .s (.string ⟨#[]⟩), .nil]) := by kernel_rfl
theorem tk_83 : tk Try.prog 83 = .sc (.s (.int .u64 0)) := by kernel_rfl
theorem ck_83 : ck Try.prog 83 = some (false, 1, [.s (.int .u64 0)]) := by kernel_rfl
theorem un_83 : Try.prog.underlying 83 = some (.int .u64) := by kernel_rfl
theorem ik_83 : Try.prog.intKind 83 = .u64 := by kernel_rfl
theorem tk_90 : tk Try.prog 90 = .sl 99 3 32 [.s (.int .i64 0), .s (.string ⟨#[]⟩), .s (.int .i64 0)] := by kernel_rfl
theorem ck_90 : ck Try.prog 90 = some (false, 1, [.nil]) := by kernel_rfl
theorem el_90 : Try.prog.elem 90 = 99 := by kernel_rfl
theorem un_90 : Try.prog.underlying 90 = some (.slice 99) := by kernel_rfl
theorem tk_95 : tk Try.prog 95 = .st 4 [(0, 1, false), (1, 1, false), (2, 1, false), (3, 1, false)] [.s (.int .i64 0), .s (.int .i64 0), .s (.string ⟨#[]⟩), .nil] := by kernel_rfl
theorem ck_95 : ck Try.prog 95 = some (true, 4, [.s (.int .i64 0), .s (.int .i64 0), .s (.string ⟨#[]⟩), .nil]) := by kernel_rfl
theorem tk_98 : tk Try.prog 98 = .st 3 [(0, 1, false), (1, 1, false), (2, 1, false)] [.s (.int .i64 0), .s (.string ⟨#[]⟩), .s (.int .i64 0)] := by kernel_rfl
theorem ck_98 : ck Try.prog 98 = some (true, 3, [.s (.int .i64 0), .s (.string ⟨#[]⟩), .s (.int .i64 0)]) := by kernel_rfl
theorem tk_99 : tk Try.prog 99 = .st 3 [(0, 1, false), (1, 1, false), (2, 1, false)] [.s (.int .i64 0), .s (.string ⟨#[]⟩), .s (.int .i64 0)] := by kernel_rfl
theorem ck_99 : ck Try.prog 99 = some (true, 3, [.s (.int .i64 0), .s (.string ⟨#[]⟩), .s (.int .i64 0)]) := by kernel_rfl
theorem sq_99 : sqB Try.prog 99 [0, 1, 0] = true := by kernel_rfl
theorem tk_107 : tk Try.prog 107 = .st 4 [(0, 1, false), (1, 1, false), (2, 1, false), (3, 1, false)] [.np, .np, .np, .s (.string ⟨#[]⟩)] := by kernel_rfl
theorem ck_107 : ck Try.prog 107 = some (true, 4, [.np, .np, .np, .s (.string ⟨#[]⟩)]) := by kernel_rfl
theorem tk_108 : tk Try.prog 108 = .st 4 [(0, 1, false), (1, 1, false), (2, 1, false), (3, 1, false)] [.np, .np, .np, .s (.string ⟨#[]⟩)] := by kernel_rfl
theorem ck_108 : ck Try.prog 108 = some (true, 4, [.np, .np, .np, .s (.string ⟨#[]⟩)]) := by kernel_rfl
theorem tk_113 : tk Try.prog 113 = .sc (.s (.int .u32 0)) := by kernel_rfl
theorem ck_113 : ck Try.prog 113 = some (false, 1, [.s (.int .u32 0)]) := by kernel_rfl
theorem un_113 : Try.prog.underlying 113 = some (.int .u32) := by kernel_rfl
theorem ik_113 : Try.prog.intKind 113 = .u32 := by kernel_rfl
theorem tk_114 : tk Try.prog 114 = .sc (.s (.int .u8 0)) := by kernel_rfl
theorem ck_114 : ck Try.prog 114 = some (false, 1, [.s (.int .u8 0)]) := by kernel_rfl
theorem un_114 : Try.prog.underlying 114 = some (.int .u8) := by kernel_rfl
theorem ik_114 : Try.prog.intKind 114 = .u8 := by kernel_rfl
theorem tk_115 : tk Try.prog 115 = .sc (.s (.int .u8 0)) := by kernel_rfl
theorem ck_115 : ck Try.prog 115 = some (false, 1, [.s (.int .u8 0)]) := by kernel_rfl
theorem un_115 : Try.prog.underlying 115 = some (.int .u8) := by kernel_rfl
theorem ik_115 : Try.prog.intKind 115 = .u8 := by kernel_rfl
theorem tk_117 : tk Try.prog 117 = .sc (.np) := by kernel_rfl
theorem ck_117 : ck Try.prog 117 = some (false, 1, [.np]) := by kernel_rfl
theorem un_117 : Try.prog.underlying 117 = some (.pointer 5) := by kernel_rfl
theorem tk_118 : tk Try.prog 118 = .sc (.s (.int .i32 0)) := by kernel_rfl
theorem ck_118 : ck Try.prog 118 = some (false, 1, [.s (.int .i32 0)]) := by kernel_rfl
theorem un_118 : Try.prog.underlying 118 = some (.int .i32) := by kernel_rfl
theorem ik_118 : Try.prog.intKind 118 = .i32 := by kernel_rfl
theorem tk_119 : tk Try.prog 119 = .sc (.s (.int .i32 0)) := by kernel_rfl
theorem ck_119 : ck Try.prog 119 = some (false, 1, [.s (.int .i32 0)]) := by kernel_rfl
theorem un_119 : Try.prog.underlying 119 = some (.int .i32) := by kernel_rfl
theorem ik_119 : Try.prog.intKind 119 = .i32 := by kernel_rfl
theorem mixed : Try.prog.follows .mixedOrders = true := by kernel_rfl
def mdT : FuncId → List Nat
  | _ => []
noncomputable def PM : Md := ⟨Try.prog, mdT, mixed, false, fun _ => false⟩
theorem PM_P : PM.P = Try.prog := rfl
theorem PM_lr (i : Nat) : PM.lr i = false := rfl
/-- the same; the guards of the regions l are known. -/
noncomputable def PMr (l : List Nat) : Md := ⟨Try.prog, mdT, mixed, false, litB l⟩
theorem PMr_P (l : List Nat) : (PMr l).P = Try.prog := rfl
theorem PMr_lr (l : List Nat) (i : Nat) : (PMr l).lr i = litB l i := rfl
theorem PMr_md (l : List Nat) : (PMr l).md = PM.md := rfl
theorem md_0 : PM.md 0 = [] := rfl
theorem md_1 : PM.md 1 = [] := rfl
theorem md_2 : PM.md 2 = [] := rfl
theorem md_3 : PM.md 3 = [] := rfl
theorem md_4 : PM.md 4 = [] := rfl
theorem md_5 : PM.md 5 = [] := rfl
theorem md_6 : PM.md 6 = [] := rfl
theorem md_7 : PM.md 7 = [] := rfl
theorem md_8 : PM.md 8 = [] := rfl
theorem md_9 : PM.md 9 = [] := rfl
theorem md_10 : PM.md 10 = [] := rfl
theorem md_11 : PM.md 11 = [] := rfl
theorem md_12 : PM.md 12 = [] := rfl
theorem md_13 : PM.md 13 = [] := rfl
theorem md_14 : PM.md 14 = [] := rfl
theorem md_15 : PM.md 15 = [] := rfl
theorem md_16 : PM.md 16 = [] := rfl
theorem md_17 : PM.md 17 = [] := rfl
theorem md_18 : PM.md 18 = [] := rfl
theorem md_19 : PM.md 19 = [] := rfl
theorem md_20 : PM.md 20 = [] := rfl
theorem md_21 : PM.md 21 = [] := rfl
theorem md_22 : PM.md 22 = [] := rfl
theorem md_23 : PM.md 23 = [] := rfl
theorem md_24 : PM.md 24 = [] := rfl
theorem md_25 : PM.md 25 = [] := rfl
theorem md_26 : PM.md 26 = [] := rfl
theorem md_27 : PM.md 27 = [] := rfl
theorem md_28 : PM.md 28 = [] := rfl
theorem md_29 : PM.md 29 = [] := rfl
theorem md_30 : PM.md 30 = [] := rfl
theorem md_31 : PM.md 31 = [] := rfl
theorem md_32 : PM.md 32 = [] := rfl
theorem md_33 : PM.md 33 = [] := rfl
theorem md_34 : PM.md 34 = [] := rfl
theorem md_35 : PM.md 35 = [] := rfl
theorem md_36 : PM.md 36 = [] := rfl
theorem md_37 : PM.md 37 = [] := rfl
theorem md_38 : PM.md 38 = [] := rfl
theorem md_39 : PM.md 39 = [] := rfl
theorem md_40 : PM.md 40 = [] := rfl
theorem md_41 : PM.md 41 = [] := rfl
theorem md_42 : PM.md 42 = [] := rfl
theorem md_43 : PM.md 43 = [] := rfl
theorem md_44 : PM.md 44 = [] := rfl
theorem md_45 : PM.md 45 = [] := rfl
theorem md_46 : PM.md 46 = [] := rfl
theorem md_47 : PM.md 47 = [] := rfl
theorem md_48 : PM.md 48 = [] := rfl
theorem md_49 : PM.md 49 = [] := rfl
theorem md_50 : PM.md 50 = [] := rfl
theorem md_51 : PM.md 51 = [] := rfl
theorem md_52 : PM.md 52 = [] := rfl
theorem md_53 : PM.md 53 = [] := rfl
theorem md_54 : PM.md 54 = [] := rfl
theorem md_55 : PM.md 55 = [] := rfl
theorem md_56 : PM.md 56 = [] := rfl
theorem md_57 : PM.md 57 = [] := rfl
theorem md_58 : PM.md 58 = [] := rfl
theorem md_59 : PM.md 59 = [] := rfl
theorem md_60 : PM.md 60 = [] := rfl
theorem md_61 : PM.md 61 = [] := rfl
theorem md_62 : PM.md 62 = [] := rfl
theorem md_63 : PM.md 63 = [] := rfl
theorem md_64 : PM.md 64 = [] := rfl
theorem md_65 : PM.md 65 = [] := rfl
theorem md_66 : PM.md 66 = [] := rfl
theorem md_67 : PM.md 67 = [] := rfl
theorem md_68 : PM.md 68 = [] := rfl
theorem md_69 : PM.md 69 = [] := rfl
theorem md_70 : PM.md 70 = [] := rfl
theorem md_71 : PM.md 71 = [] := rfl
theorem md_72 : PM.md 72 = [] := rfl
theorem md_73 : PM.md 73 = [] := rfl
theorem md_74 : PM.md 74 = [] := rfl
theorem md_75 : PM.md 75 = [] := rfl
theorem md_76 : PM.md 76 = [] := rfl
theorem md_77 : PM.md 77 = [] := rfl
theorem md_78 : PM.md 78 = [] := rfl
theorem md_79 : PM.md 79 = [] := rfl
theorem md_80 : PM.md 80 = [] := rfl
theorem md_81 : PM.md 81 = [] := rfl
theorem md_82 : PM.md 82 = [] := rfl
theorem md_83 : PM.md 83 = [] := rfl
theorem md_84 : PM.md 84 = [] := rfl
theorem md_85 : PM.md 85 = [] := rfl
theorem md_86 : PM.md 86 = [] := rfl
theorem md_87 : PM.md 87 = [] := rfl
theorem md_88 : PM.md 88 = [] := rfl
theorem md_89 : PM.md 89 = [] := rfl
theorem md_90 : PM.md 90 = [] := rfl
theorem md_91 : PM.md 91 = [] := rfl
theorem md_92 : PM.md 92 = [] := rfl
theorem md_93 : PM.md 93 = [] := rfl
theorem md_94 : PM.md 94 = [] := rfl
theorem md_95 : PM.md 95 = [] := rfl
theorem md_96 : PM.md 96 = [] := rfl
theorem md_97 : PM.md 97 = [] := rfl
theorem md_98 : PM.md 98 = [] := rfl
theorem md_99 : PM.md 99 = [] := rfl
theorem md_100 : PM.md 100 = [] := rfl
attribute [go_sem] PM_P PM_lr PMr_P PMr_lr PMr_md Md.at_P Md.at_md Md.at_lit litB_nil litB_cons tk_2 tk_3 tk_4 tk_5 tk_6 tk_7 tk_8 tk_9 tk_10 tk_11 tk_12 tk_13 tk_14 tk_15 tk_16 tk_17 tk_18 tk_19 tk_21 tk_22 tk_23 tk_24 tk_25 tk_28 tk_29 tk_30 tk_31 tk_38 tk_39 tk_44 tk_47 tk_51 tk_53 tk_54 tk_55 tk_56 tk_57 tk_58 tk_62 tk_76 tk_77 tk_83 tk_90 tk_95 tk_98 tk_99 tk_107 tk_108 tk_113 tk_114 tk_115 tk_117 tk_118 tk_119 ck_2 ck_3 ck_4 ck_5 ck_6 ck_7 ck_8 ck_9 ck_10 ck_11 ck_12 ck_13 ck_14 ck_15 ck_16 ck_17 ck_18 ck_19 ck_21 ck_22 ck_23 ck_24 ck_25 ck_28 ck_29 ck_30 ck_31 ck_38 ck_39 ck_44 ck_47 ck_51 ck_53 ck_54 ck_55 ck_56 ck_57 ck_58 ck_62 ck_76 ck_77 ck_83 ck_90 ck_95 ck_98 ck_99 ck_107 ck_108 ck_113 ck_114 ck_115 ck_117 ck_118 ck_119 un_2 ik_2 un_3 ik_3 un_4 un_5 ik_5 un_6 ik_6 un_9 un_10 un_11 un_12 ik_12 un_15 un_16 un_17 un_21 ik_21 el_22 un_22 el_23 un_23 el_28 un_28 el_29 un_29 sq_39 el_44 un_44 el_47 un_47 sq_51 el_53 un_53 el_56 un_56 el_62 un_62 un_83 ik_83 el_90 un_90 sq_99 un_113 ik_113 un_114 ik_114 un_115 ik_115 un_117 un_118 ik_118 un_119 ik_119 md_0 md_1 md_2 md_3 md_4 md_5 md_6 md_7 md_8 md_9 md_10 md_11 md_12 md_13 md_14 md_15 md_16 md_17 md_18 md_19 md_20 md_21 md_22 md_23 md_24 md_25 md_26 md_27 md_28 md_29 md_30 md_31 md_32 md_33 md_34 md_35 md_36 md_37 md_38 md_39 md_40 md_41 md_42 md_43 md_44 md_45 md_46 md_47 md_48 md_49 md_50 md_51 md_52 md_53 md_54 md_55 md_56 md_57 md_58 md_59 md_60 md_61 md_62 md_63 md_64 md_65 md_66 md_67 md_68 md_69 md_70 md_71 md_72 md_73 md_74 md_75 md_76 md_77 md_78 md_79 md_80 md_81 md_82 md_83 md_84 md_85 md_86 md_87 md_88 md_89 md_90 md_91 md_92 md_93 md_94 md_95 md_96 md_97 md_98 md_99 md_100
end Go.Proofs.Ythkgncddilkmbaa
