/- Facts of the translation: its types and functions, as the abstract machine asks for them. Printed by tables.py, a program of this work. -/
import Derived.Test.YtelljholenkckaaDoorAmM
import Derived.Test.YtelljholenkckaaDoorProg
import Derived.KernelRfl
set_option maxRecDepth 10000
namespace Go.Proofs.YtelljholenkckaaDoor.AM
open Go Go.Proofs
theorem mixed : Tryd.prog.follows .mixedOrders = true := by kernel_rfl
theorem T1 : tinfo Tryd.prog 1 = some ⟨.func, 1, 8, some [.nilf]⟩ := by kernel_rfl
theorem T2 : tinfo Tryd.prog 2 = some ⟨.int .i64, 1, 8, some [.int .i64 0]⟩ := by kernel_rfl
theorem T3 : tinfo Tryd.prog 3 = some ⟨.int .i64, 1, 8, some [.int .i64 0]⟩ := by kernel_rfl
theorem T4 : tinfo Tryd.prog 4 = some ⟨.bool, 1, 1, some [.bool false]⟩ := by kernel_rfl
theorem T5 : tinfo Tryd.prog 5 = some ⟨.int .u8, 1, 1, some [.int .u8 0]⟩ := by kernel_rfl
theorem T6 : tinfo Tryd.prog 6 = some ⟨.int .u8, 1, 1, some [.int .u8 0]⟩ := by kernel_rfl
theorem T7 : tinfo Tryd.prog 7 = some ⟨.struct [(0, 1, 2), (1, 1, 3), (2, 1, 4), (3, 1, 6)], 4, 24, some [.int .i64 0, .int .i64 0, .bool false, .int .u8 0]⟩ := by kernel_rfl
theorem T8 : tinfo Tryd.prog 8 = some ⟨.struct [(0, 1, 2), (1, 1, 3), (2, 1, 4), (3, 1, 6)], 4, 24, some [.int .i64 0, .int .i64 0, .bool false, .int .u8 0]⟩ := by kernel_rfl
theorem T9 : tinfo Tryd.prog 9 = some ⟨.str, 1, 16, some [.str ⟨#[]⟩]⟩ := by kernel_rfl
theorem T10 : tinfo Tryd.prog 10 = some ⟨.str, 1, 16, some [.str ⟨#[]⟩]⟩ := by kernel_rfl
theorem T11 : tinfo Tryd.prog 11 = some ⟨.str, 1, 16, some [.str ⟨#[]⟩]⟩ := by kernel_rfl
theorem T12 : tinfo Tryd.prog 12 = some ⟨.int .u64, 1, 8, some [.int .u64 0]⟩ := by kernel_rfl
theorem T13 : tinfo Tryd.prog 13 = some ⟨.struct [(0, 1, 9), (1, 1, 12)], 2, 24, some [.str ⟨#[]⟩, .int .u64 0]⟩ := by kernel_rfl
theorem T14 : tinfo Tryd.prog 14 = some ⟨.struct [(0, 1, 9), (1, 1, 12)], 2, 24, some [.str ⟨#[]⟩, .int .u64 0]⟩ := by kernel_rfl
theorem T15 : tinfo Tryd.prog 15 = some ⟨.ptr, 1, 8, some [.nilp]⟩ := by kernel_rfl
theorem T16 : tinfo Tryd.prog 16 = some ⟨.ptr, 1, 8, some [.nilp]⟩ := by kernel_rfl
theorem T17 : tinfo Tryd.prog 17 = some ⟨.ptr, 1, 8, some [.nilp]⟩ := by kernel_rfl
theorem T18 : tinfo Tryd.prog 18 = some ⟨.struct [(0, 1, 17)], 1, 8, some [.nilp]⟩ := by kernel_rfl
theorem T19 : tinfo Tryd.prog 19 = some ⟨.struct [(0, 1, 17)], 1, 8, some [.nilp]⟩ := by kernel_rfl
theorem T21 : tinfo Tryd.prog 21 = some ⟨.int .i32, 1, 4, some [.int .i32 0]⟩ := by kernel_rfl
theorem T22 : tinfo Tryd.prog 22 = some ⟨.slice 24, 1, 24, some [.nils]⟩ := by kernel_rfl
theorem T23 : tinfo Tryd.prog 23 = some ⟨.struct [(0, 1, 3), (1, 1, 3), (2, 1, 22)], 3, 40, some [.int .i64 0, .int .i64 0, .nils]⟩ := by kernel_rfl
theorem T24 : tinfo Tryd.prog 24 = some ⟨.struct [(0, 1, 3), (1, 1, 3), (2, 1, 22)], 3, 40, some [.int .i64 0, .int .i64 0, .nils]⟩ := by kernel_rfl
theorem T25 : tinfo Tryd.prog 25 = some ⟨.array 4 3, 4, 32, some [.int .i64 0, .int .i64 0, .int .i64 0, .int .i64 0]⟩ := by kernel_rfl
theorem T26 : tinfo Tryd.prog 26 = some ⟨.func, 1, 8, some [.nilf]⟩ := by kernel_rfl
theorem T27 : tinfo Tryd.prog 27 = some ⟨.ptr, 1, 8, some [.nilp]⟩ := by kernel_rfl
theorem T28 : tinfo Tryd.prog 28 = some ⟨.struct [(0, 1, 3)], 1, 8, some [.int .i64 0]⟩ := by kernel_rfl
theorem T29 : tinfo Tryd.prog 29 = some ⟨.struct [(0, 1, 3)], 1, 8, some [.int .i64 0]⟩ := by kernel_rfl
theorem T30 : tinfo Tryd.prog 30 = some ⟨.func, 1, 8, some [.nilf]⟩ := by kernel_rfl
theorem T31 : tinfo Tryd.prog 31 = some ⟨.int .i64, 1, 8, some [.int .i64 0]⟩ := by kernel_rfl
theorem T33 : tinfo Tryd.prog 33 = some ⟨.func, 1, 8, some [.nilf]⟩ := by kernel_rfl
theorem T35 : tinfo Tryd.prog 35 = some ⟨.func, 1, 8, some [.nilf]⟩ := by kernel_rfl
theorem T36 : tinfo Tryd.prog 36 = some ⟨.func, 1, 8, some [.nilf]⟩ := by kernel_rfl
theorem T38 : tinfo Tryd.prog 38 = some ⟨.func, 1, 8, some [.nilf]⟩ := by kernel_rfl
theorem T40 : tinfo Tryd.prog 40 = some ⟨.func, 1, 8, some [.nilf]⟩ := by kernel_rfl
theorem T41 : tinfo Tryd.prog 41 = some ⟨.func, 1, 8, some [.nilf]⟩ := by kernel_rfl
theorem T42 : tinfo Tryd.prog 42 = some ⟨.func, 1, 8, some [.nilf]⟩ := by kernel_rfl
theorem T44 : tinfo Tryd.prog 44 = some ⟨.func, 1, 8, some [.nilf]⟩ := by kernel_rfl
theorem T46 : tinfo Tryd.prog 46 = some ⟨.func, 1, 8, some [.nilf]⟩ := by kernel_rfl
theorem T47 : tinfo Tryd.prog 47 = some ⟨.func, 1, 8, some [.nilf]⟩ := by kernel_rfl
theorem T48 : tinfo Tryd.prog 48 = some ⟨.array 2 3, 2, 16, some [.int .i64 0, .int .i64 0]⟩ := by kernel_rfl
theorem T49 : tinfo Tryd.prog 49 = some ⟨.func, 1, 8, some [.nilf]⟩ := by kernel_rfl
theorem T50 : tinfo Tryd.prog 50 = some ⟨.func, 1, 8, some [.nilf]⟩ := by kernel_rfl
theorem T51 : tinfo Tryd.prog 51 = some ⟨.func, 1, 8, some [.nilf]⟩ := by kernel_rfl
theorem T52 : tinfo Tryd.prog 52 = some ⟨.func, 1, 8, some [.nilf]⟩ := by kernel_rfl
theorem T53 : tinfo Tryd.prog 53 = some ⟨.struct [(0, 1, 3), (1, 1, 4), (2, 1, 3)], 3, 24, some [.int .i64 0, .bool false, .int .i64 0]⟩ := by kernel_rfl
theorem T54 : tinfo Tryd.prog 54 = some ⟨.struct [(0, 1, 3), (1, 1, 4), (2, 1, 3)], 3, 24, some [.int .i64 0, .bool false, .int .i64 0]⟩ := by kernel_rfl
theorem T55 : tinfo Tryd.prog 55 = some ⟨.func, 1, 8, some [.nilf]⟩ := by kernel_rfl
theorem T56 : tinfo Tryd.prog 56 = some ⟨.func, 1, 8, some [.nilf]⟩ := by kernel_rfl
theorem T57 : tinfo Tryd.prog 57 = some ⟨.func, 1, 8, some [.nilf]⟩ := by kernel_rfl
theorem T58 : tinfo Tryd.prog 58 = some ⟨.func, 1, 8, some [.nilf]⟩ := by kernel_rfl
theorem T59 : tinfo Tryd.prog 59 = some ⟨.func, 1, 8, some [.nilf]⟩ := by kernel_rfl
theorem T60 : tinfo Tryd.prog 60 = some ⟨.func, 1, 8, some [.nilf]⟩ := by kernel_rfl
theorem T61 : tinfo Tryd.prog 61 = some ⟨.func, 1, 8, some [.nilf]⟩ := by kernel_rfl
theorem T62 : tinfo Tryd.prog 62 = some ⟨.func, 1, 8, some [.nilf]⟩ := by kernel_rfl
theorem T63 : tinfo Tryd.prog 63 = some ⟨.func, 1, 8, some [.nilf]⟩ := by kernel_rfl
theorem T64 : tinfo Tryd.prog 64 = some ⟨.func, 1, 8, some [.nilf]⟩ := by kernel_rfl
theorem T65 : tinfo Tryd.prog 65 = some ⟨.struct [(0, 1, 9), (1, 1, 3), (2, 1, 3), (3, 1, 3)], 4, 40, some [.str ⟨#[]⟩, .int .i64 0, .int .i64 0, .int .i64 0]⟩ := by kernel_rfl
theorem T66 : tinfo Tryd.prog 66 = some ⟨.struct [(0, 1, 9), (1, 1, 3), (2, 1, 3), (3, 1, 3)], 4, 40, some [.str ⟨#[]⟩, .int .i64 0, .int .i64 0, .int .i64 0]⟩ := by kernel_rfl
theorem T67 : tinfo Tryd.prog 67 = some ⟨.array 15 66, 60, 600, some [.str ⟨#[]⟩, .int .i64 0, .int .i64 0, .int .i64 0, .str ⟨#[]⟩, .int .i64 0, .int .i64 0, .int .i64 0, .str ⟨#[]⟩, .int .i64 0, .int .i64 0, .int .i64 0, .str ⟨#[]⟩, .int .i64 0, .int .i64 0, .int .i64 0, .str ⟨#[]⟩, .int .i64 0, .int .i64 0, .int .i64 0, .str ⟨#[]⟩, .int .i64 0, .int .i64 0, .int .i64 0, .str ⟨#[]⟩, .int .i64 0, .int .i64 0, .int .i64 0, .str ⟨#[]⟩, .int .i64 0, .int .i64 0, .int .i64 0, .str ⟨#[]⟩, .int .i64 0, .int .i64 0, .int .i64 0, .str ⟨#[]⟩, .int .i64 0, .int .i64 0, .int .i64 0, .str ⟨#[]⟩, .int .i64 0, .int .i64 0, .int .i64 0, .str ⟨#[]⟩, .int .i64 0, .int .i64 0, .int .i64 0, .str ⟨#[]⟩, .int .i64 0, .int .i64 0, .int .i64 0, .str ⟨#[]⟩, .int .i64 0, .int .i64 0, .int .i64 0, .str ⟨#[]⟩, .int .i64 0, .int .i64 0, .int .i64 0]⟩ := by kernel_rfl
theorem T68 : tinfo Tryd.prog 68 = some ⟨.func, 1, 8, some [.nilf]⟩ := by kernel_rfl
theorem T69 : tinfo Tryd.prog 69 = some ⟨.func, 1, 8, some [.nilf]⟩ := by kernel_rfl
theorem T70 : tinfo Tryd.prog 70 = some ⟨.func, 1, 8, some [.nilf]⟩ := by kernel_rfl
theorem T71 : tinfo Tryd.prog 71 = some ⟨.struct [(0, 1, 17), (1, 1, 17), (2, 1, 17), (3, 1, 9)], 4, 40, some [.nilp, .nilp, .nilp, .str ⟨#[]⟩]⟩ := by kernel_rfl
theorem T72 : tinfo Tryd.prog 72 = some ⟨.struct [(0, 1, 17), (1, 1, 17), (2, 1, 17), (3, 1, 9)], 4, 40, some [.nilp, .nilp, .nilp, .str ⟨#[]⟩]⟩ := by kernel_rfl
theorem T73 : tinfo Tryd.prog 73 = some ⟨.array 0 16, 0, 0, some []⟩ := by kernel_rfl
theorem T74 : tinfo Tryd.prog 74 = some ⟨.struct [(0, 0, 73)], 0, 0, some []⟩ := by kernel_rfl
theorem T75 : tinfo Tryd.prog 75 = some ⟨.struct [(0, 0, 73)], 0, 0, some []⟩ := by kernel_rfl
theorem T76 : tinfo Tryd.prog 76 = some ⟨.func, 1, 8, some [.nilf]⟩ := by kernel_rfl
theorem T77 : tinfo Tryd.prog 77 = some ⟨.int .u32, 1, 4, some [.int .u32 0]⟩ := by kernel_rfl
theorem T78 : tinfo Tryd.prog 78 = some ⟨.int .u8, 1, 1, some [.int .u8 0]⟩ := by kernel_rfl
theorem T79 : tinfo Tryd.prog 79 = some ⟨.int .u8, 1, 1, some [.int .u8 0]⟩ := by kernel_rfl
theorem T80 : tinfo Tryd.prog 80 = some ⟨.func, 1, 8, some [.nilf]⟩ := by kernel_rfl
theorem T81 : tinfo Tryd.prog 81 = some ⟨.ptr, 1, 8, some [.nilp]⟩ := by kernel_rfl
theorem T82 : tinfo Tryd.prog 82 = some ⟨.int .i32, 1, 4, some [.int .i32 0]⟩ := by kernel_rfl
theorem T83 : tinfo Tryd.prog 83 = some ⟨.int .i32, 1, 4, some [.int .i32 0]⟩ := by kernel_rfl
theorem T84 : tinfo Tryd.prog 84 = some ⟨.struct [(0, 1, 12), (1, 1, 12), (2, 1, 77), (3, 1, 78), (4, 1, 5), (5, 1, 5), (6, 1, 79), (7, 1, 80), (8, 1, 81), (9, 1, 82), (10, 1, 83)], 11, 48, some [.int .u64 0, .int .u64 0, .int .u32 0, .int .u8 0, .int .u8 0, .int .u8 0, .int .u8 0, .nilf, .nilp, .int .i32 0, .int .i32 0]⟩ := by kernel_rfl
theorem T85 : tinfo Tryd.prog 85 = some ⟨.struct [(0, 1, 12), (1, 1, 12), (2, 1, 77), (3, 1, 78), (4, 1, 5), (5, 1, 5), (6, 1, 79), (7, 1, 80), (8, 1, 81), (9, 1, 82), (10, 1, 83)], 11, 48, some [.int .u64 0, .int .u64 0, .int .u32 0, .int .u8 0, .int .u8 0, .int .u8 0, .int .u8 0, .nilf, .nilp, .int .i32 0, .int .i32 0]⟩ := by kernel_rfl
theorem Q25 : Tryd.prog.eqGuardType Tryd.prog.depth 25 = false := by kernel_rfl
theorem Q48 : Tryd.prog.eqGuardType Tryd.prog.depth 48 = false := by kernel_rfl
theorem Q67 : Tryd.prog.eqGuardType Tryd.prog.depth 67 = false := by kernel_rfl
theorem Q73 : Tryd.prog.eqGuardType Tryd.prog.depth 73 = false := by kernel_rfl
theorem E2 : Enters Tryd.prog 2 := ⟨_, _, Tryd.func2, rfl, by kernel_rfl⟩
theorem E3 : Enters Tryd.prog 3 := ⟨_, _, Tryd.func3, rfl, by kernel_rfl⟩
theorem E4 : Enters Tryd.prog 4 := ⟨_, _, Tryd.func4, rfl, by kernel_rfl⟩
theorem E5 : Enters Tryd.prog 5 := ⟨_, _, Tryd.func5, rfl, by kernel_rfl⟩
theorem E6 : Enters Tryd.prog 6 := ⟨_, _, Tryd.func6, rfl, by kernel_rfl⟩
theorem E7 : Enters Tryd.prog 7 := ⟨_, _, Tryd.func7, rfl, by kernel_rfl⟩
theorem E8 : Enters Tryd.prog 8 := ⟨_, _, Tryd.func8, rfl, by kernel_rfl⟩
theorem E9 : Enters Tryd.prog 9 := ⟨_, _, Tryd.func9, rfl, by kernel_rfl⟩
theorem E10 : Enters Tryd.prog 10 := ⟨_, _, Tryd.func10, rfl, by kernel_rfl⟩
theorem E11 : Enters Tryd.prog 11 := ⟨_, _, Tryd.func11, rfl, by kernel_rfl⟩
theorem E12 : Enters Tryd.prog 12 := ⟨_, _, Tryd.func12, rfl, by kernel_rfl⟩
theorem E13 : Enters Tryd.prog 13 := ⟨_, _, Tryd.func13, rfl, by kernel_rfl⟩
theorem E14 : Enters Tryd.prog 14 := ⟨_, _, Tryd.func14, rfl, by kernel_rfl⟩
theorem E15 : Enters Tryd.prog 15 := ⟨_, _, Tryd.func15, rfl, by kernel_rfl⟩
theorem E16 : Enters Tryd.prog 16 := ⟨_, _, Tryd.func16, rfl, by kernel_rfl⟩
theorem E17 : Enters Tryd.prog 17 := ⟨_, _, Tryd.func17, rfl, by kernel_rfl⟩
theorem E18 : Enters Tryd.prog 18 := ⟨_, _, Tryd.func18, rfl, by kernel_rfl⟩
theorem E19 : Enters Tryd.prog 19 := ⟨_, _, Tryd.func19, rfl, by kernel_rfl⟩
theorem E20 : Enters Tryd.prog 20 := ⟨_, _, Tryd.func20, rfl, by kernel_rfl⟩
theorem E21 : Enters Tryd.prog 21 := ⟨_, _, Tryd.func21, rfl, by kernel_rfl⟩
theorem E22 : Enters Tryd.prog 22 := ⟨_, _, Tryd.func22, rfl, by kernel_rfl⟩
theorem E23 : Enters Tryd.prog 23 := ⟨_, _, Tryd.func23, rfl, by kernel_rfl⟩
theorem E24 : Enters Tryd.prog 24 := ⟨_, _, Tryd.func24, rfl, by kernel_rfl⟩
theorem E25 : Enters Tryd.prog 25 := ⟨_, _, Tryd.func25, rfl, by kernel_rfl⟩
theorem E26 : Enters Tryd.prog 26 := ⟨_, _, Tryd.func26, rfl, by kernel_rfl⟩
theorem E27 : Enters Tryd.prog 27 := ⟨_, _, Tryd.func27, rfl, by kernel_rfl⟩
theorem E28 : Enters Tryd.prog 28 := ⟨_, _, Tryd.func28, rfl, by kernel_rfl⟩
theorem E29 : Enters Tryd.prog 29 := ⟨_, _, Tryd.func29, rfl, by kernel_rfl⟩
theorem E30 : Enters Tryd.prog 30 := ⟨_, _, Tryd.func30, rfl, by kernel_rfl⟩
theorem E31 : Enters Tryd.prog 31 := ⟨_, _, Tryd.func31, rfl, by kernel_rfl⟩
theorem E32 : Enters Tryd.prog 32 := ⟨_, _, Tryd.func32, rfl, by kernel_rfl⟩
theorem E33 : Enters Tryd.prog 33 := ⟨_, _, Tryd.func33, rfl, by kernel_rfl⟩
theorem E34 : Enters Tryd.prog 34 := ⟨_, _, Tryd.func34, rfl, by kernel_rfl⟩
theorem E35 : Enters Tryd.prog 35 := ⟨_, _, Tryd.func35, rfl, by kernel_rfl⟩
theorem E36 : Enters Tryd.prog 36 := ⟨_, _, Tryd.func36, rfl, by kernel_rfl⟩
theorem E37 : Enters Tryd.prog 37 := ⟨_, _, Tryd.func37, rfl, by kernel_rfl⟩
theorem E38 : Enters Tryd.prog 38 := ⟨_, _, Tryd.func38, rfl, by kernel_rfl⟩
theorem E39 : Enters Tryd.prog 39 := ⟨_, _, Tryd.func39, rfl, by kernel_rfl⟩
theorem E40 : Enters Tryd.prog 40 := ⟨_, _, Tryd.func40, rfl, by kernel_rfl⟩
theorem E41 : Enters Tryd.prog 41 := ⟨_, _, Tryd.func41, rfl, by kernel_rfl⟩
theorem E42 : Enters Tryd.prog 42 := ⟨_, _, Tryd.func42, rfl, by kernel_rfl⟩
theorem E43 : Enters Tryd.prog 43 := ⟨_, _, Tryd.func43, rfl, by kernel_rfl⟩
theorem E44 : Enters Tryd.prog 44 := ⟨_, _, Tryd.func44, rfl, by kernel_rfl⟩
theorem E45 : Enters Tryd.prog 45 := ⟨_, _, Tryd.func45, rfl, by kernel_rfl⟩
theorem E46 : Enters Tryd.prog 46 := ⟨_, _, Tryd.func46, rfl, by kernel_rfl⟩
theorem E68 : Enters Tryd.prog 68 := ⟨_, _, Tryd.func68, rfl, by kernel_rfl⟩
end Go.Proofs.YtelljholenkckaaDoor.AM
