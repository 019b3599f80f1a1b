/- Facts of the translation: its types and functions, as the abstract machine asks for them. Printed by tables.py, a program of this work. -/
import Derived.Test.YtlophgkgmhcagaaDoorAmM
import Derived.Test.YtlophgkgmhcagaaDoorProg
import Derived.KernelRfl
set_option maxRecDepth 10000
namespace Go.Proofs.YtlophgkgmhcagaaDoor.AM
open Go Go.Proofs
theorem mixed : Tryd.prog.follows .mixedOrders = true := by kernel_rfl
theorem T1 : tinfo Tryd.prog 1 = some ⟨.func, 1, 8, some [.nilf]⟩ := by kernel_rfl
theorem T2 : tinfo Tryd.prog 2 = some ⟨.int .i64, 1, 8, some [.int .i64 0]⟩ := by kernel_rfl
theorem T3 : tinfo Tryd.prog 3 = some ⟨.int .i64, 1, 8, some [.int .i64 0]⟩ := by kernel_rfl
theorem T4 : tinfo Tryd.prog 4 = some ⟨.bool, 1, 1, some [.bool false]⟩ := by kernel_rfl
theorem T5 : tinfo Tryd.prog 5 = some ⟨.int .u8, 1, 1, some [.int .u8 0]⟩ := by kernel_rfl
theorem T6 : tinfo Tryd.prog 6 = some ⟨.int .u8, 1, 1, some [.int .u8 0]⟩ := by kernel_rfl
theorem T7 : tinfo Tryd.prog 7 = some ⟨.struct [(0, 1, 2), (1, 1, 3), (2, 1, 4), (3, 1, 6)], 4, 24, some [.int .i64 0, .int .i64 0, .bool false, .int .u8 0]⟩ := by kernel_rfl
theorem T8 : tinfo Tryd.prog 8 = some ⟨.struct [(0, 1, 2), (1, 1, 3), (2, 1, 4), (3, 1, 6)], 4, 24, some [.int .i64 0, .int .i64 0, .bool false, .int .u8 0]⟩ := by kernel_rfl
theorem T9 : tinfo Tryd.prog 9 = some ⟨.str, 1, 16, some [.str ⟨#[]⟩]⟩ := by kernel_rfl
theorem T10 : tinfo Tryd.prog 10 = some ⟨.str, 1, 16, some [.str ⟨#[]⟩]⟩ := by kernel_rfl
theorem T11 : tinfo Tryd.prog 11 = some ⟨.str, 1, 16, some [.str ⟨#[]⟩]⟩ := by kernel_rfl
theorem T12 : tinfo Tryd.prog 12 = some ⟨.int .u64, 1, 8, some [.int .u64 0]⟩ := by kernel_rfl
theorem T13 : tinfo Tryd.prog 13 = some ⟨.struct [(0, 1, 9), (1, 1, 12)], 2, 24, some [.str ⟨#[]⟩, .int .u64 0]⟩ := by kernel_rfl
theorem T14 : tinfo Tryd.prog 14 = some ⟨.struct [(0, 1, 9), (1, 1, 12)], 2, 24, some [.str ⟨#[]⟩, .int .u64 0]⟩ := by kernel_rfl
theorem T15 : tinfo Tryd.prog 15 = some ⟨.ptr, 1, 8, some [.nilp]⟩ := by kernel_rfl
theorem T16 : tinfo Tryd.prog 16 = some ⟨.ptr, 1, 8, some [.nilp]⟩ := by kernel_rfl
theorem T17 : tinfo Tryd.prog 17 = some ⟨.ptr, 1, 8, some [.nilp]⟩ := by kernel_rfl
theorem T18 : tinfo Tryd.prog 18 = some ⟨.struct [(0, 1, 17)], 1, 8, some [.nilp]⟩ := by kernel_rfl
theorem T19 : tinfo Tryd.prog 19 = some ⟨.struct [(0, 1, 17)], 1, 8, some [.nilp]⟩ := by kernel_rfl
theorem T21 : tinfo Tryd.prog 21 = some ⟨.int .i32, 1, 4, some [.int .i32 0]⟩ := by kernel_rfl
theorem T22 : tinfo Tryd.prog 22 = some ⟨.slice 55, 1, 24, some [.nils]⟩ := by kernel_rfl
theorem T23 : tinfo Tryd.prog 23 = some ⟨.slice 58, 1, 24, some [.nils]⟩ := by kernel_rfl
theorem T24 : tinfo Tryd.prog 24 = some ⟨.struct [(0, 1, 22), (1, 1, 23)], 2, 48, some [.nils, .nils]⟩ := by kernel_rfl
theorem T25 : tinfo Tryd.prog 25 = some ⟨.struct [(0, 1, 22), (1, 1, 23)], 2, 48, some [.nils, .nils]⟩ := by kernel_rfl
theorem T26 : tinfo Tryd.prog 26 = some ⟨.func, 1, 8, some [.nilf]⟩ := by kernel_rfl
theorem T27 : tinfo Tryd.prog 27 = some ⟨.func, 1, 8, some [.nilf]⟩ := by kernel_rfl
theorem T28 : tinfo Tryd.prog 28 = some ⟨.slice 37, 1, 24, some [.nils]⟩ := by kernel_rfl
theorem T29 : tinfo Tryd.prog 29 = some ⟨.int .i64, 1, 8, some [.int .i64 0]⟩ := by kernel_rfl
theorem T31 : tinfo Tryd.prog 31 = some ⟨.func, 1, 8, some [.nilf]⟩ := by kernel_rfl
theorem T32 : tinfo Tryd.prog 32 = some ⟨.slice 38, 1, 24, some [.nils]⟩ := by kernel_rfl
theorem T34 : tinfo Tryd.prog 34 = some ⟨.func, 1, 8, some [.nilf]⟩ := by kernel_rfl
theorem T35 : tinfo Tryd.prog 35 = some ⟨.slice 3, 1, 24, some [.nils]⟩ := by kernel_rfl
theorem T36 : tinfo Tryd.prog 36 = some ⟨.struct [(0, 1, 3), (1, 1, 3), (2, 1, 35), (3, 1, 35)], 4, 64, some [.int .i64 0, .int .i64 0, .nils, .nils]⟩ := by kernel_rfl
theorem T37 : tinfo Tryd.prog 37 = some ⟨.struct [(0, 1, 3), (1, 1, 3), (2, 1, 35), (3, 1, 35)], 4, 64, some [.int .i64 0, .int .i64 0, .nils, .nils]⟩ := by kernel_rfl
theorem T38 : tinfo Tryd.prog 38 = some ⟨.struct [(0, 1, 3), (1, 1, 3), (2, 1, 35), (3, 1, 35)], 4, 64, some [.int .i64 0, .int .i64 0, .nils, .nils]⟩ := by kernel_rfl
theorem T39 : tinfo Tryd.prog 39 = some ⟨.func, 1, 8, some [.nilf]⟩ := by kernel_rfl
theorem T40 : tinfo Tryd.prog 40 = some ⟨.array 40 3, 40, 320, some [.int .i64 0, .int .i64 0, .int .i64 0, .int .i64 0, .int .i64 0, .int .i64 0, .int .i64 0, .int .i64 0, .int .i64 0, .int .i64 0, .int .i64 0, .int .i64 0, .int .i64 0, .int .i64 0, .int .i64 0, .int .i64 0, .int .i64 0, .int .i64 0, .int .i64 0, .int .i64 0, .int .i64 0, .int .i64 0, .int .i64 0, .int .i64 0, .int .i64 0, .int .i64 0, .int .i64 0, .int .i64 0, .int .i64 0, .int .i64 0, .int .i64 0, .int .i64 0, .int .i64 0, .int .i64 0, .int .i64 0, .int .i64 0, .int .i64 0, .int .i64 0, .int .i64 0, .int .i64 0]⟩ := by kernel_rfl
theorem T42 : tinfo Tryd.prog 42 = some ⟨.func, 1, 8, some [.nilf]⟩ := by kernel_rfl
theorem T44 : tinfo Tryd.prog 44 = some ⟨.func, 1, 8, some [.nilf]⟩ := by kernel_rfl
theorem T45 : tinfo Tryd.prog 45 = some ⟨.func, 1, 8, some [.nilf]⟩ := by kernel_rfl
theorem T46 : tinfo Tryd.prog 46 = some ⟨.func, 1, 8, some [.nilf]⟩ := by kernel_rfl
theorem T47 : tinfo Tryd.prog 47 = some ⟨.func, 1, 8, some [.nilf]⟩ := by kernel_rfl
theorem T48 : tinfo Tryd.prog 48 = some ⟨.struct [(0, 1, 3), (1, 1, 3)], 2, 16, some [.int .i64 0, .int .i64 0]⟩ := by kernel_rfl
theorem T49 : tinfo Tryd.prog 49 = some ⟨.struct [(0, 1, 3), (1, 1, 3)], 2, 16, some [.int .i64 0, .int .i64 0]⟩ := by kernel_rfl
theorem T50 : tinfo Tryd.prog 50 = some ⟨.func, 1, 8, some [.nilf]⟩ := by kernel_rfl
theorem T51 : tinfo Tryd.prog 51 = some ⟨.slice 53, 1, 24, some [.nils]⟩ := by kernel_rfl
theorem T52 : tinfo Tryd.prog 52 = some ⟨.struct [(0, 1, 3), (1, 1, 3), (2, 1, 51)], 3, 40, some [.int .i64 0, .int .i64 0, .nils]⟩ := by kernel_rfl
theorem T53 : tinfo Tryd.prog 53 = some ⟨.struct [(0, 1, 3), (1, 1, 3), (2, 1, 51)], 3, 40, some [.int .i64 0, .int .i64 0, .nils]⟩ := by kernel_rfl
theorem T54 : tinfo Tryd.prog 54 = some ⟨.struct [(0, 1, 3), (1, 1, 3), (2, 3, 53)], 5, 56, some [.int .i64 0, .int .i64 0, .int .i64 0, .int .i64 0, .nils]⟩ := by kernel_rfl
theorem T55 : tinfo Tryd.prog 55 = some ⟨.struct [(0, 1, 3), (1, 1, 3), (2, 3, 53)], 5, 56, some [.int .i64 0, .int .i64 0, .int .i64 0, .int .i64 0, .nils]⟩ := by kernel_rfl
theorem T56 : tinfo Tryd.prog 56 = some ⟨.func, 1, 8, some [.nilf]⟩ := by kernel_rfl
theorem T57 : tinfo Tryd.prog 57 = some ⟨.struct [(0, 1, 3), (1, 1, 3), (2, 1, 4), (3, 3, 53)], 6, 64, some [.int .i64 0, .int .i64 0, .bool false, .int .i64 0, .int .i64 0, .nils]⟩ := by kernel_rfl
theorem T58 : tinfo Tryd.prog 58 = some ⟨.struct [(0, 1, 3), (1, 1, 3), (2, 1, 4), (3, 3, 53)], 6, 64, some [.int .i64 0, .int .i64 0, .bool false, .int .i64 0, .int .i64 0, .nils]⟩ := by kernel_rfl
theorem T59 : tinfo Tryd.prog 59 = some ⟨.array 4 3, 4, 32, some [.int .i64 0, .int .i64 0, .int .i64 0, .int .i64 0]⟩ := by kernel_rfl
theorem T60 : tinfo Tryd.prog 60 = some ⟨.struct [(0, 40, 40), (40, 4, 59), (44, 4, 59), (48, 1, 3)], 49, 392, some [.int .i64 0, .int .i64 0, .int .i64 0, .int .i64 0, .int .i64 0, .int .i64 0, .int .i64 0, .int .i64 0, .int .i64 0, .int .i64 0, .int .i64 0, .int .i64 0, .int .i64 0, .int .i64 0, .int .i64 0, .int .i64 0, .int .i64 0, .int .i64 0, .int .i64 0, .int .i64 0, .int .i64 0, .int .i64 0, .int .i64 0, .int .i64 0, .int .i64 0, .int .i64 0, .int .i64 0, .int .i64 0, .int .i64 0, .int .i64 0, .int .i64 0, .int .i64 0, .int .i64 0, .int .i64 0, .int .i64 0, .int .i64 0, .int .i64 0, .int .i64 0, .int .i64 0, .int .i64 0, .int .i64 0, .int .i64 0, .int .i64 0, .int .i64 0, .int .i64 0, .int .i64 0, .int .i64 0, .int .i64 0, .int .i64 0]⟩ := by kernel_rfl
theorem T61 : tinfo Tryd.prog 61 = some ⟨.struct [(0, 40, 40), (40, 4, 59), (44, 4, 59), (48, 1, 3)], 49, 392, some [.int .i64 0, .int .i64 0, .int .i64 0, .int .i64 0, .int .i64 0, .int .i64 0, .int .i64 0, .int .i64 0, .int .i64 0, .int .i64 0, .int .i64 0, .int .i64 0, .int .i64 0, .int .i64 0, .int .i64 0, .int .i64 0, .int .i64 0, .int .i64 0, .int .i64 0, .int .i64 0, .int .i64 0, .int .i64 0, .int .i64 0, .int .i64 0, .int .i64 0, .int .i64 0, .int .i64 0, .int .i64 0, .int .i64 0, .int .i64 0, .int .i64 0, .int .i64 0, .int .i64 0, .int .i64 0, .int .i64 0, .int .i64 0, .int .i64 0, .int .i64 0, .int .i64 0, .int .i64 0, .int .i64 0, .int .i64 0, .int .i64 0, .int .i64 0, .int .i64 0, .int .i64 0, .int .i64 0, .int .i64 0, .int .i64 0]⟩ := by kernel_rfl
theorem T62 : tinfo Tryd.prog 62 = some ⟨.func, 1, 8, some [.nilf]⟩ := by kernel_rfl
theorem T63 : tinfo Tryd.prog 63 = some ⟨.slice 69, 1, 24, some [.nils]⟩ := by kernel_rfl
theorem T64 : tinfo Tryd.prog 64 = some ⟨.func, 1, 8, some [.nilf]⟩ := by kernel_rfl
theorem T65 : tinfo Tryd.prog 65 = some ⟨.struct [(0, 40, 40), (40, 4, 59), (44, 4, 59), (48, 1, 3)], 49, 392, some [.int .i64 0, .int .i64 0, .int .i64 0, .int .i64 0, .int .i64 0, .int .i64 0, .int .i64 0, .int .i64 0, .int .i64 0, .int .i64 0, .int .i64 0, .int .i64 0, .int .i64 0, .int .i64 0, .int .i64 0, .int .i64 0, .int .i64 0, .int .i64 0, .int .i64 0, .int .i64 0, .int .i64 0, .int .i64 0, .int .i64 0, .int .i64 0, .int .i64 0, .int .i64 0, .int .i64 0, .int .i64 0, .int .i64 0, .int .i64 0, .int .i64 0, .int .i64 0, .int .i64 0, .int .i64 0, .int .i64 0, .int .i64 0, .int .i64 0, .int .i64 0, .int .i64 0, .int .i64 0, .int .i64 0, .int .i64 0, .int .i64 0, .int .i64 0, .int .i64 0, .int .i64 0, .int .i64 0, .int .i64 0, .int .i64 0]⟩ := by kernel_rfl
theorem T66 : tinfo Tryd.prog 66 = some ⟨.struct [(0, 1, 3), (1, 1, 3), (2, 1, 3)], 3, 24, some [.int .i64 0, .int .i64 0, .int .i64 0]⟩ := by kernel_rfl
theorem T67 : tinfo Tryd.prog 67 = some ⟨.struct [(0, 1, 3), (1, 1, 3), (2, 1, 3)], 3, 24, some [.int .i64 0, .int .i64 0, .int .i64 0]⟩ := by kernel_rfl
theorem T68 : tinfo Tryd.prog 68 = some ⟨.struct [(0, 1, 3), (1, 1, 3), (2, 3, 67), (5, 49, 65)], 54, 432, some [.int .i64 0, .int .i64 0, .int .i64 0, .int .i64 0, .int .i64 0, .int .i64 0, .int .i64 0, .int .i64 0, .int .i64 0, .int .i64 0, .int .i64 0, .int .i64 0, .int .i64 0, .int .i64 0, .int .i64 0, .int .i64 0, .int .i64 0, .int .i64 0, .int .i64 0, .int .i64 0, .int .i64 0, .int .i64 0, .int .i64 0, .int .i64 0, .int .i64 0, .int .i64 0, .int .i64 0, .int .i64 0, .int .i64 0, .int .i64 0, .int .i64 0, .int .i64 0, .int .i64 0, .int .i64 0, .int .i64 0, .int .i64 0, .int .i64 0, .int .i64 0, .int .i64 0, .int .i64 0, .int .i64 0, .int .i64 0, .int .i64 0, .int .i64 0, .int .i64 0, .int .i64 0, .int .i64 0, .int .i64 0, .int .i64 0, .int .i64 0, .int .i64 0, .int .i64 0, .int .i64 0, .int .i64 0]⟩ := by kernel_rfl
theorem T69 : tinfo Tryd.prog 69 = some ⟨.struct [(0, 1, 3), (1, 1, 3), (2, 3, 67), (5, 49, 65)], 54, 432, some [.int .i64 0, .int .i64 0, .int .i64 0, .int .i64 0, .int .i64 0, .int .i64 0, .int .i64 0, .int .i64 0, .int .i64 0, .int .i64 0, .int .i64 0, .int .i64 0, .int .i64 0, .int .i64 0, .int .i64 0, .int .i64 0, .int .i64 0, .int .i64 0, .int .i64 0, .int .i64 0, .int .i64 0, .int .i64 0, .int .i64 0, .int .i64 0, .int .i64 0, .int .i64 0, .int .i64 0, .int .i64 0, .int .i64 0, .int .i64 0, .int .i64 0, .int .i64 0, .int .i64 0, .int .i64 0, .int .i64 0, .int .i64 0, .int .i64 0, .int .i64 0, .int .i64 0, .int .i64 0, .int .i64 0, .int .i64 0, .int .i64 0, .int .i64 0, .int .i64 0, .int .i64 0, .int .i64 0, .int .i64 0, .int .i64 0, .int .i64 0, .int .i64 0, .int .i64 0, .int .i64 0, .int .i64 0]⟩ := by kernel_rfl
theorem T70 : tinfo Tryd.prog 70 = some ⟨.func, 1, 8, some [.nilf]⟩ := by kernel_rfl
theorem T71 : tinfo Tryd.prog 71 = some ⟨.ptr, 1, 8, some [.nilp]⟩ := by kernel_rfl
theorem T72 : tinfo Tryd.prog 72 = some ⟨.struct [(0, 1, 3)], 1, 8, some [.int .i64 0]⟩ := by kernel_rfl
theorem T73 : tinfo Tryd.prog 73 = some ⟨.struct [(0, 1, 3)], 1, 8, some [.int .i64 0]⟩ := by kernel_rfl
theorem T74 : tinfo Tryd.prog 74 = some ⟨.func, 1, 8, some [.nilf]⟩ := by kernel_rfl
theorem T76 : tinfo Tryd.prog 76 = some ⟨.func, 1, 8, some [.nilf]⟩ := by kernel_rfl
theorem T77 : tinfo Tryd.prog 77 = some ⟨.ptr, 1, 8, some [.nilp]⟩ := by kernel_rfl
theorem T78 : tinfo Tryd.prog 78 = some ⟨.struct [(0, 1, 28)], 1, 24, some [.nils]⟩ := by kernel_rfl
theorem T79 : tinfo Tryd.prog 79 = some ⟨.struct [(0, 1, 28)], 1, 24, some [.nils]⟩ := by kernel_rfl
theorem T80 : tinfo Tryd.prog 80 = some ⟨.func, 1, 8, some [.nilf]⟩ := by kernel_rfl
theorem T81 : tinfo Tryd.prog 81 = some ⟨.func, 1, 8, some [.nilf]⟩ := by kernel_rfl
theorem T82 : tinfo Tryd.prog 82 = some ⟨.array 2 35, 2, 48, some [.nils, .nils]⟩ := by kernel_rfl
theorem T83 : tinfo Tryd.prog 83 = some ⟨.func, 1, 8, some [.nilf]⟩ := by kernel_rfl
theorem T85 : tinfo Tryd.prog 85 = some ⟨.func, 1, 8, some [.nilf]⟩ := by kernel_rfl
theorem T86 : tinfo Tryd.prog 86 = some ⟨.func, 1, 8, some [.nilf]⟩ := by kernel_rfl
theorem T87 : tinfo Tryd.prog 87 = some ⟨.func, 1, 8, some [.nilf]⟩ := by kernel_rfl
theorem T88 : tinfo Tryd.prog 88 = some ⟨.func, 1, 8, some [.nilf]⟩ := by kernel_rfl
theorem T89 : tinfo Tryd.prog 89 = some ⟨.func, 1, 8, some [.nilf]⟩ := by kernel_rfl
theorem T90 : tinfo Tryd.prog 90 = some ⟨.func, 1, 8, some [.nilf]⟩ := by kernel_rfl
theorem T91 : tinfo Tryd.prog 91 = some ⟨.func, 1, 8, some [.nilf]⟩ := by kernel_rfl
theorem T92 : tinfo Tryd.prog 92 = some ⟨.slice 4, 1, 24, some [.nils]⟩ := by kernel_rfl
theorem T93 : tinfo Tryd.prog 93 = some ⟨.func, 1, 8, some [.nilf]⟩ := by kernel_rfl
theorem T94 : tinfo Tryd.prog 94 = some ⟨.func, 1, 8, some [.nilf]⟩ := by kernel_rfl
theorem T95 : tinfo Tryd.prog 95 = some ⟨.func, 1, 8, some [.nilf]⟩ := by kernel_rfl
theorem T96 : tinfo Tryd.prog 96 = some ⟨.ptr, 1, 8, some [.nilp]⟩ := by kernel_rfl
theorem T97 : tinfo Tryd.prog 97 = some ⟨.struct [(0, 2, 25), (2, 49, 65), (51, 1, 63)], 52, 464, some [.nils, .nils, .int .i64 0, .int .i64 0, .int .i64 0, .int .i64 0, .int .i64 0, .int .i64 0, .int .i64 0, .int .i64 0, .int .i64 0, .int .i64 0, .int .i64 0, .int .i64 0, .int .i64 0, .int .i64 0, .int .i64 0, .int .i64 0, .int .i64 0, .int .i64 0, .int .i64 0, .int .i64 0, .int .i64 0, .int .i64 0, .int .i64 0, .int .i64 0, .int .i64 0, .int .i64 0, .int .i64 0, .int .i64 0, .int .i64 0, .int .i64 0, .int .i64 0, .int .i64 0, .int .i64 0, .int .i64 0, .int .i64 0, .int .i64 0, .int .i64 0, .int .i64 0, .int .i64 0, .int .i64 0, .int .i64 0, .int .i64 0, .int .i64 0, .int .i64 0, .int .i64 0, .int .i64 0, .int .i64 0, .int .i64 0, .int .i64 0, .nils]⟩ := by kernel_rfl
theorem T98 : tinfo Tryd.prog 98 = some ⟨.struct [(0, 2, 25), (2, 49, 65), (51, 1, 63)], 52, 464, some [.nils, .nils, .int .i64 0, .int .i64 0, .int .i64 0, .int .i64 0, .int .i64 0, .int .i64 0, .int .i64 0, .int .i64 0, .int .i64 0, .int .i64 0, .int .i64 0, .int .i64 0, .int .i64 0, .int .i64 0, .int .i64 0, .int .i64 0, .int .i64 0, .int .i64 0, .int .i64 0, .int .i64 0, .int .i64 0, .int .i64 0, .int .i64 0, .int .i64 0, .int .i64 0, .int .i64 0, .int .i64 0, .int .i64 0, .int .i64 0, .int .i64 0, .int .i64 0, .int .i64 0, .int .i64 0, .int .i64 0, .int .i64 0, .int .i64 0, .int .i64 0, .int .i64 0, .int .i64 0, .int .i64 0, .int .i64 0, .int .i64 0, .int .i64 0, .int .i64 0, .int .i64 0, .int .i64 0, .int .i64 0, .int .i64 0, .int .i64 0, .nils]⟩ := by kernel_rfl
theorem T99 : tinfo Tryd.prog 99 = some ⟨.func, 1, 8, some [.nilf]⟩ := by kernel_rfl
theorem T100 : tinfo Tryd.prog 100 = some ⟨.func, 1, 8, some [.nilf]⟩ := by kernel_rfl
theorem T101 : tinfo Tryd.prog 101 = some ⟨.slice 103, 1, 24, some [.nils]⟩ := by kernel_rfl
theorem T102 : tinfo Tryd.prog 102 = some ⟨.func, 1, 8, some [.nilf]⟩ := by kernel_rfl
theorem T103 : tinfo Tryd.prog 103 = some ⟨.struct [(0, 1, 3), (1, 1, 3)], 2, 16, some [.int .i64 0, .int .i64 0]⟩ := by kernel_rfl
theorem T104 : tinfo Tryd.prog 104 = some ⟨.func, 1, 8, some [.nilf]⟩ := by kernel_rfl
theorem T105 : tinfo Tryd.prog 105 = some ⟨.func, 1, 8, some [.nilf]⟩ := by kernel_rfl
theorem T106 : tinfo Tryd.prog 106 = some ⟨.func, 1, 8, some [.nilf]⟩ := by kernel_rfl
theorem T107 : tinfo Tryd.prog 107 = some ⟨.func, 1, 8, some [.nilf]⟩ := by kernel_rfl
theorem T108 : tinfo Tryd.prog 108 = some ⟨.func, 1, 8, some [.nilf]⟩ := by kernel_rfl
theorem T109 : tinfo Tryd.prog 109 = some ⟨.func, 1, 8, some [.nilf]⟩ := by kernel_rfl
theorem T110 : tinfo Tryd.prog 110 = some ⟨.func, 1, 8, some [.nilf]⟩ := by kernel_rfl
theorem T111 : tinfo Tryd.prog 111 = some ⟨.func, 1, 8, some [.nilf]⟩ := by kernel_rfl
theorem T112 : tinfo Tryd.prog 112 = some ⟨.func, 1, 8, some [.nilf]⟩ := by kernel_rfl
theorem T113 : tinfo Tryd.prog 113 = some ⟨.func, 1, 8, some [.nilf]⟩ := by kernel_rfl
theorem T114 : tinfo Tryd.prog 114 = some ⟨.func, 1, 8, some [.nilf]⟩ := by kernel_rfl
theorem T115 : tinfo Tryd.prog 115 = some ⟨.func, 1, 8, some [.nilf]⟩ := by kernel_rfl
theorem T116 : tinfo Tryd.prog 116 = some ⟨.func, 1, 8, some [.nilf]⟩ := by kernel_rfl
theorem T117 : tinfo Tryd.prog 117 = some ⟨.struct [(0, 1, 3), (1, 1, 3)], 2, 16, some [.int .i64 0, .int .i64 0]⟩ := by kernel_rfl
theorem T118 : tinfo Tryd.prog 118 = some ⟨.struct [(0, 1, 3), (1, 1, 3)], 2, 16, some [.int .i64 0, .int .i64 0]⟩ := by kernel_rfl
theorem T119 : tinfo Tryd.prog 119 = some ⟨.func, 1, 8, some [.nilf]⟩ := by kernel_rfl
theorem T120 : tinfo Tryd.prog 120 = some ⟨.func, 1, 8, some [.nilf]⟩ := by kernel_rfl
theorem T121 : tinfo Tryd.prog 121 = some ⟨.func, 1, 8, some [.nilf]⟩ := by kernel_rfl
theorem T122 : tinfo Tryd.prog 122 = some ⟨.func, 1, 8, some [.nilf]⟩ := by kernel_rfl
theorem T123 : tinfo Tryd.prog 123 = some ⟨.struct [(0, 1, 3), (1, 1, 4), (2, 1, 3)], 3, 24, some [.int .i64 0, .bool false, .int .i64 0]⟩ := by kernel_rfl
theorem T124 : tinfo Tryd.prog 124 = some ⟨.struct [(0, 1, 3), (1, 1, 4), (2, 1, 3)], 3, 24, some [.int .i64 0, .bool false, .int .i64 0]⟩ := by kernel_rfl
theorem T125 : tinfo Tryd.prog 125 = some ⟨.func, 1, 8, some [.nilf]⟩ := by kernel_rfl
theorem T127 : tinfo Tryd.prog 127 = some ⟨.func, 1, 8, some [.nilf]⟩ := by kernel_rfl
theorem T129 : tinfo Tryd.prog 129 = some ⟨.func, 1, 8, some [.nilf]⟩ := by kernel_rfl
theorem T130 : tinfo Tryd.prog 130 = some ⟨.func, 1, 8, some [.nilf]⟩ := by kernel_rfl
theorem T131 : tinfo Tryd.prog 131 = some ⟨.func, 1, 8, some [.nilf]⟩ := by kernel_rfl
theorem T132 : tinfo Tryd.prog 132 = some ⟨.func, 1, 8, some [.nilf]⟩ := by kernel_rfl
theorem T133 : tinfo Tryd.prog 133 = some ⟨.struct [(0, 1, 9), (1, 1, 3), (2, 1, 3), (3, 1, 3)], 4, 40, some [.str ⟨#[]⟩, .int .i64 0, .int .i64 0, .int .i64 0]⟩ := by kernel_rfl
theorem T134 : tinfo Tryd.prog 134 = some ⟨.struct [(0, 1, 9), (1, 1, 3), (2, 1, 3), (3, 1, 3)], 4, 40, some [.str ⟨#[]⟩, .int .i64 0, .int .i64 0, .int .i64 0]⟩ := by kernel_rfl
theorem T135 : tinfo Tryd.prog 135 = some ⟨.array 15 134, 60, 600, some [.str ⟨#[]⟩, .int .i64 0, .int .i64 0, .int .i64 0, .str ⟨#[]⟩, .int .i64 0, .int .i64 0, .int .i64 0, .str ⟨#[]⟩, .int .i64 0, .int .i64 0, .int .i64 0, .str ⟨#[]⟩, .int .i64 0, .int .i64 0, .int .i64 0, .str ⟨#[]⟩, .int .i64 0, .int .i64 0, .int .i64 0, .str ⟨#[]⟩, .int .i64 0, .int .i64 0, .int .i64 0, .str ⟨#[]⟩, .int .i64 0, .int .i64 0, .int .i64 0, .str ⟨#[]⟩, .int .i64 0, .int .i64 0, .int .i64 0, .str ⟨#[]⟩, .int .i64 0, .int .i64 0, .int .i64 0, .str ⟨#[]⟩, .int .i64 0, .int .i64 0, .int .i64 0, .str ⟨#[]⟩, .int .i64 0, .int .i64 0, .int .i64 0, .str ⟨#[]⟩, .int .i64 0, .int .i64 0, .int .i64 0, .str ⟨#[]⟩, .int .i64 0, .int .i64 0, .int .i64 0, .str ⟨#[]⟩, .int .i64 0, .int .i64 0, .int .i64 0, .str ⟨#[]⟩, .int .i64 0, .int .i64 0, .int .i64 0]⟩ := by kernel_rfl
theorem T136 : tinfo Tryd.prog 136 = some ⟨.func, 1, 8, some [.nilf]⟩ := by kernel_rfl
theorem T137 : tinfo Tryd.prog 137 = some ⟨.func, 1, 8, some [.nilf]⟩ := by kernel_rfl
theorem T138 : tinfo Tryd.prog 138 = some ⟨.func, 1, 8, some [.nilf]⟩ := by kernel_rfl
theorem T139 : tinfo Tryd.prog 139 = some ⟨.struct [(0, 1, 17), (1, 1, 17), (2, 1, 17), (3, 1, 9)], 4, 40, some [.nilp, .nilp, .nilp, .str ⟨#[]⟩]⟩ := by kernel_rfl
theorem T140 : tinfo Tryd.prog 140 = some ⟨.struct [(0, 1, 17), (1, 1, 17), (2, 1, 17), (3, 1, 9)], 4, 40, some [.nilp, .nilp, .nilp, .str ⟨#[]⟩]⟩ := by kernel_rfl
theorem T141 : tinfo Tryd.prog 141 = some ⟨.array 0 16, 0, 0, some []⟩ := by kernel_rfl
theorem T142 : tinfo Tryd.prog 142 = some ⟨.struct [(0, 0, 141)], 0, 0, some []⟩ := by kernel_rfl
theorem T143 : tinfo Tryd.prog 143 = some ⟨.struct [(0, 0, 141)], 0, 0, some []⟩ := by kernel_rfl
theorem T144 : tinfo Tryd.prog 144 = some ⟨.func, 1, 8, some [.nilf]⟩ := by kernel_rfl
theorem T145 : tinfo Tryd.prog 145 = some ⟨.int .u32, 1, 4, some [.int .u32 0]⟩ := by kernel_rfl
theorem T146 : tinfo Tryd.prog 146 = some ⟨.int .u8, 1, 1, some [.int .u8 0]⟩ := by kernel_rfl
theorem T147 : tinfo Tryd.prog 147 = some ⟨.int .u8, 1, 1, some [.int .u8 0]⟩ := by kernel_rfl
theorem T148 : tinfo Tryd.prog 148 = some ⟨.func, 1, 8, some [.nilf]⟩ := by kernel_rfl
theorem T149 : tinfo Tryd.prog 149 = some ⟨.ptr, 1, 8, some [.nilp]⟩ := by kernel_rfl
theorem T150 : tinfo Tryd.prog 150 = some ⟨.int .i32, 1, 4, some [.int .i32 0]⟩ := by kernel_rfl
theorem T151 : tinfo Tryd.prog 151 = some ⟨.int .i32, 1, 4, some [.int .i32 0]⟩ := by kernel_rfl
theorem T152 : tinfo Tryd.prog 152 = some ⟨.struct [(0, 1, 12), (1, 1, 12), (2, 1, 145), (3, 1, 146), (4, 1, 5), (5, 1, 5), (6, 1, 147), (7, 1, 148), (8, 1, 149), (9, 1, 150), (10, 1, 151)], 11, 48, some [.int .u64 0, .int .u64 0, .int .u32 0, .int .u8 0, .int .u8 0, .int .u8 0, .int .u8 0, .nilf, .nilp, .int .i32 0, .int .i32 0]⟩ := by kernel_rfl
theorem T153 : tinfo Tryd.prog 153 = some ⟨.struct [(0, 1, 12), (1, 1, 12), (2, 1, 145), (3, 1, 146), (4, 1, 5), (5, 1, 5), (6, 1, 147), (7, 1, 148), (8, 1, 149), (9, 1, 150), (10, 1, 151)], 11, 48, some [.int .u64 0, .int .u64 0, .int .u32 0, .int .u8 0, .int .u8 0, .int .u8 0, .int .u8 0, .nilf, .nilp, .int .i32 0, .int .i32 0]⟩ := by kernel_rfl
theorem Q40 : Tryd.prog.eqGuardType Tryd.prog.depth 40 = false := by kernel_rfl
theorem Q59 : Tryd.prog.eqGuardType Tryd.prog.depth 59 = false := by kernel_rfl
theorem Q82 : Tryd.prog.eqGuardType Tryd.prog.depth 82 = false := by kernel_rfl
theorem Q135 : Tryd.prog.eqGuardType Tryd.prog.depth 135 = false := by kernel_rfl
theorem Q141 : Tryd.prog.eqGuardType Tryd.prog.depth 141 = false := by kernel_rfl
theorem E2 : Enters Tryd.prog 2 := ⟨_, _, Tryd.func2, rfl, by kernel_rfl⟩
theorem E3 : Enters Tryd.prog 3 := ⟨_, _, Tryd.func3, rfl, by kernel_rfl⟩
theorem E4 : Enters Tryd.prog 4 := ⟨_, _, Tryd.func4, rfl, by kernel_rfl⟩
theorem E5 : Enters Tryd.prog 5 := ⟨_, _, Tryd.func5, rfl, by kernel_rfl⟩
theorem E6 : Enters Tryd.prog 6 := ⟨_, _, Tryd.func6, rfl, by kernel_rfl⟩
theorem E7 : Enters Tryd.prog 7 := ⟨_, _, Tryd.func7, rfl, by kernel_rfl⟩
theorem E8 : Enters Tryd.prog 8 := ⟨_, _, Tryd.func8, rfl, by kernel_rfl⟩
theorem E9 : Enters Tryd.prog 9 := ⟨_, _, Tryd.func9, rfl, by kernel_rfl⟩
theorem E10 : Enters Tryd.prog 10 := ⟨_, _, Tryd.func10, rfl, by kernel_rfl⟩
theorem E11 : Enters Tryd.prog 11 := ⟨_, _, Tryd.func11, rfl, by kernel_rfl⟩
theorem E12 : Enters Tryd.prog 12 := ⟨_, _, Tryd.func12, rfl, by kernel_rfl⟩
theorem E13 : Enters Tryd.prog 13 := ⟨_, _, Tryd.func13, rfl, by kernel_rfl⟩
theorem E14 : Enters Tryd.prog 14 := ⟨_, _, Tryd.func14, rfl, by kernel_rfl⟩
theorem E15 : Enters Tryd.prog 15 := ⟨_, _, Tryd.func15, rfl, by kernel_rfl⟩
theorem E16 : Enters Tryd.prog 16 := ⟨_, _, Tryd.func16, rfl, by kernel_rfl⟩
theorem E17 : Enters Tryd.prog 17 := ⟨_, _, Tryd.func17, rfl, by kernel_rfl⟩
theorem E18 : Enters Tryd.prog 18 := ⟨_, _, Tryd.func18, rfl, by kernel_rfl⟩
theorem E19 : Enters Tryd.prog 19 := ⟨_, _, Tryd.func19, rfl, by kernel_rfl⟩
theorem E20 : Enters Tryd.prog 20 := ⟨_, _, Tryd.func20, rfl, by kernel_rfl⟩
theorem E21 : Enters Tryd.prog 21 := ⟨_, _, Tryd.func21, rfl, by kernel_rfl⟩
theorem E22 : Enters Tryd.prog 22 := ⟨_, _, Tryd.func22, rfl, by kernel_rfl⟩
theorem E23 : Enters Tryd.prog 23 := ⟨_, _, Tryd.func23, rfl, by kernel_rfl⟩
theorem E24 : Enters Tryd.prog 24 := ⟨_, _, Tryd.func24, rfl, by kernel_rfl⟩
theorem E25 : Enters Tryd.prog 25 := ⟨_, _, Tryd.func25, rfl, by kernel_rfl⟩
theorem E26 : Enters Tryd.prog 26 := ⟨_, _, Tryd.func26, rfl, by kernel_rfl⟩
theorem E27 : Enters Tryd.prog 27 := ⟨_, _, Tryd.func27, rfl, by kernel_rfl⟩
theorem E28 : Enters Tryd.prog 28 := ⟨_, _, Tryd.func28, rfl, by kernel_rfl⟩
theorem E29 : Enters Tryd.prog 29 := ⟨_, _, Tryd.func29, rfl, by kernel_rfl⟩
theorem E30 : Enters Tryd.prog 30 := ⟨_, _, Tryd.func30, rfl, by kernel_rfl⟩
theorem E31 : Enters Tryd.prog 31 := ⟨_, _, Tryd.func31, rfl, by kernel_rfl⟩
theorem E32 : Enters Tryd.prog 32 := ⟨_, _, Tryd.func32, rfl, by kernel_rfl⟩
theorem E33 : Enters Tryd.prog 33 := ⟨_, _, Tryd.func33, rfl, by kernel_rfl⟩
theorem E34 : Enters Tryd.prog 34 := ⟨_, _, Tryd.func34, rfl, by kernel_rfl⟩
theorem E35 : Enters Tryd.prog 35 := ⟨_, _, Tryd.func35, rfl, by kernel_rfl⟩
theorem E36 : Enters Tryd.prog 36 := ⟨_, _, Tryd.func36, rfl, by kernel_rfl⟩
theorem E37 : Enters Tryd.prog 37 := ⟨_, _, Tryd.func37, rfl, by kernel_rfl⟩
theorem E38 : Enters Tryd.prog 38 := ⟨_, _, Tryd.func38, rfl, by kernel_rfl⟩
theorem E39 : Enters Tryd.prog 39 := ⟨_, _, Tryd.func39, rfl, by kernel_rfl⟩
theorem E40 : Enters Tryd.prog 40 := ⟨_, _, Tryd.func40, rfl, by kernel_rfl⟩
theorem E41 : Enters Tryd.prog 41 := ⟨_, _, Tryd.func41, rfl, by kernel_rfl⟩
theorem E42 : Enters Tryd.prog 42 := ⟨_, _, Tryd.func42, rfl, by kernel_rfl⟩
theorem E43 : Enters Tryd.prog 43 := ⟨_, _, Tryd.func43, rfl, by kernel_rfl⟩
theorem E44 : Enters Tryd.prog 44 := ⟨_, _, Tryd.func44, rfl, by kernel_rfl⟩
theorem E45 : Enters Tryd.prog 45 := ⟨_, _, Tryd.func45, rfl, by kernel_rfl⟩
theorem E46 : Enters Tryd.prog 46 := ⟨_, _, Tryd.func46, rfl, by kernel_rfl⟩
theorem E47 : Enters Tryd.prog 47 := ⟨_, _, Tryd.func47, rfl, by kernel_rfl⟩
theorem E48 : Enters Tryd.prog 48 := ⟨_, _, Tryd.func48, rfl, by kernel_rfl⟩
theorem E49 : Enters Tryd.prog 49 := ⟨_, _, Tryd.func49, rfl, by kernel_rfl⟩
theorem E50 : Enters Tryd.prog 50 := ⟨_, _, Tryd.func50, rfl, by kernel_rfl⟩
theorem E51 : Enters Tryd.prog 51 := ⟨_, _, Tryd.func51, rfl, by kernel_rfl⟩
theorem E52 : Enters Tryd.prog 52 := ⟨_, _, Tryd.func52, rfl, by kernel_rfl⟩
theorem E53 : Enters Tryd.prog 53 := ⟨_, _, Tryd.func53, rfl, by kernel_rfl⟩
theorem E54 : Enters Tryd.prog 54 := ⟨_, _, Tryd.func54, rfl, by kernel_rfl⟩
theorem E55 : Enters Tryd.prog 55 := ⟨_, _, Tryd.func55, rfl, by kernel_rfl⟩
theorem E56 : Enters Tryd.prog 56 := ⟨_, _, Tryd.func56, rfl, by kernel_rfl⟩
theorem E57 : Enters Tryd.prog 57 := ⟨_, _, Tryd.func57, rfl, by kernel_rfl⟩
theorem E58 : Enters Tryd.prog 58 := ⟨_, _, Tryd.func58, rfl, by kernel_rfl⟩
theorem E59 : Enters Tryd.prog 59 := ⟨_, _, Tryd.func59, rfl, by kernel_rfl⟩
theorem E60 : Enters Tryd.prog 60 := ⟨_, _, Tryd.func60, rfl, by kernel_rfl⟩
theorem E61 : Enters Tryd.prog 61 := ⟨_, _, Tryd.func61, rfl, by kernel_rfl⟩
theorem E62 : Enters Tryd.prog 62 := ⟨_, _, Tryd.func62, rfl, by kernel_rfl⟩
theorem E63 : Enters Tryd.prog 63 := ⟨_, _, Tryd.func63, rfl, by kernel_rfl⟩
theorem E64 : Enters Tryd.prog 64 := ⟨_, _, Tryd.func64, rfl, by kernel_rfl⟩
theorem E65 : Enters Tryd.prog 65 := ⟨_, _, Tryd.func65, rfl, by kernel_rfl⟩
theorem E66 : Enters Tryd.prog 66 := ⟨_, _, Tryd.func66, rfl, by kernel_rfl⟩
theorem E67 : Enters Tryd.prog 67 := ⟨_, _, Tryd.func67, rfl, by kernel_rfl⟩
theorem E68 : Enters Tryd.prog 68 := ⟨_, _, Tryd.func68, rfl, by kernel_rfl⟩
theorem E69 : Enters Tryd.prog 69 := ⟨_, _, Tryd.func69, rfl, by kernel_rfl⟩
theorem E70 : Enters Tryd.prog 70 := ⟨_, _, Tryd.func70, rfl, by kernel_rfl⟩
theorem E71 : Enters Tryd.prog 71 := ⟨_, _, Tryd.func71, rfl, by kernel_rfl⟩
theorem E72 : Enters Tryd.prog 72 := ⟨_, _, Tryd.func72, rfl, by kernel_rfl⟩
theorem E73 : Enters Tryd.prog 73 := ⟨_, _, Tryd.func73, rfl, by kernel_rfl⟩
theorem E74 : Enters Tryd.prog 74 := ⟨_, _, Tryd.func74, rfl, by kernel_rfl⟩
theorem E75 : Enters Tryd.prog 75 := ⟨_, _, Tryd.func75, rfl, by kernel_rfl⟩
theorem E76 : Enters Tryd.prog 76 := ⟨_, _, Tryd.func76, rfl, by kernel_rfl⟩
theorem E77 : Enters Tryd.prog 77 := ⟨_, _, Tryd.func77, rfl, by kernel_rfl⟩
theorem E78 : Enters Tryd.prog 78 := ⟨_, _, Tryd.func78, rfl, by kernel_rfl⟩
theorem E79 : Enters Tryd.prog 79 := ⟨_, _, Tryd.func79, rfl, by kernel_rfl⟩
theorem E80 : Enters Tryd.prog 80 := ⟨_, _, Tryd.func80, rfl, by kernel_rfl⟩
theorem E81 : Enters Tryd.prog 81 := ⟨_, _, Tryd.func81, rfl, by kernel_rfl⟩
theorem E82 : Enters Tryd.prog 82 := ⟨_, _, Tryd.func82, rfl, by kernel_rfl⟩
theorem E83 : Enters Tryd.prog 83 := ⟨_, _, Tryd.func83, rfl, by kernel_rfl⟩
theorem E84 : Enters Tryd.prog 84 := ⟨_, _, Tryd.func84, rfl, by kernel_rfl⟩
theorem E85 : Enters Tryd.prog 85 := ⟨_, _, Tryd.func85, rfl, by kernel_rfl⟩
theorem E86 : Enters Tryd.prog 86 := ⟨_, _, Tryd.func86, rfl, by kernel_rfl⟩
theorem E87 : Enters Tryd.prog 87 := ⟨_, _, Tryd.func87, rfl, by kernel_rfl⟩
theorem E88 : Enters Tryd.prog 88 := ⟨_, _, Tryd.func88, rfl, by kernel_rfl⟩
theorem E89 : Enters Tryd.prog 89 := ⟨_, _, Tryd.func89, rfl, by kernel_rfl⟩
theorem E90 : Enters Tryd.prog 90 := ⟨_, _, Tryd.func90, rfl, by kernel_rfl⟩
theorem E91 : Enters Tryd.prog 91 := ⟨_, _, Tryd.func91, rfl, by kernel_rfl⟩
theorem E92 : Enters Tryd.prog 92 := ⟨_, _, Tryd.func92, rfl, by kernel_rfl⟩
theorem E93 : Enters Tryd.prog 93 := ⟨_, _, Tryd.func93, rfl, by kernel_rfl⟩
theorem E94 : Enters Tryd.prog 94 := ⟨_, _, Tryd.func94, rfl, by kernel_rfl⟩
theorem E95 : Enters Tryd.prog 95 := ⟨_, _, Tryd.func95, rfl, by kernel_rfl⟩
theorem E96 : Enters Tryd.prog 96 := ⟨_, _, Tryd.func96, rfl, by kernel_rfl⟩
theorem E118 : Enters Tryd.prog 118 := ⟨_, _, Tryd.func118, rfl, by kernel_rfl⟩
end Go.Proofs.YtlophgkgmhcagaaDoor.AM
