/- The types and functions of the translation, as Gv looks them up. Written by a program of this work. -/
import Derived.Test.YtnbpbojcjihboaaProg
import Derived.Test.YtnbpbojcjihboaaGvGen
namespace Go.Proofs.Ytnbpbojcjihboaa.G
open Go.Gv
noncomputable abbrev prog := Try.prog
def T0 : TyI := ⟨.tuple [], [.ptr], 0⟩
def T2 : TyI := ⟨.int .i64, [.int .i64], 8⟩
def T3 : TyI := ⟨.int .i64, [.int .i64], 8⟩
def T4 : TyI := ⟨.bool, [.bool], 1⟩
def T5 : TyI := ⟨.int .u8, [.int .u8], 1⟩
def T6 : TyI := ⟨.int .u8, [.int .u8], 1⟩
def T7 : TyI := ⟨.struct [(0, 2), (1, 3), (2, 4), (3, 6)], [.int .i64, .int .i64, .bool, .int .u8], 24⟩
def T8 : TyI := ⟨.struct [(0, 2), (1, 3), (2, 4), (3, 6)], [.int .i64, .int .i64, .bool, .int .u8], 24⟩
def T9 : TyI := ⟨.str, [.str], 16⟩
def T10 : TyI := ⟨.str, [.str], 16⟩
def T11 : TyI := ⟨.str, [.str], 16⟩
def T12 : TyI := ⟨.int .u64, [.int .u64], 8⟩
def T13 : TyI := ⟨.struct [(0, 9), (1, 12)], [.str, .int .u64], 24⟩
def T14 : TyI := ⟨.struct [(0, 9), (1, 12)], [.str, .int .u64], 24⟩
def T15 : TyI := ⟨.ptr 54, [.ptr], 8⟩
def T16 : TyI := ⟨.ptr 57, [.ptr], 8⟩
def T17 : TyI := ⟨.ptr 67, [.ptr], 8⟩
def T18 : TyI := ⟨.struct [(0, 17)], [.ptr], 8⟩
def T19 : TyI := ⟨.struct [(0, 17)], [.ptr], 8⟩
def T21 : TyI := ⟨.int .i32, [.int .i32], 4⟩
def T22 : TyI := ⟨.int .i64, [.int .i64], 8⟩
def T23 : TyI := ⟨.slice 22, [.slice], 24⟩
def T25 : TyI := ⟨.slice 35, [.slice], 24⟩
def T26 : TyI := ⟨.tuple [25, 25, 4], [.ptr], 0⟩
def T28 : TyI := ⟨.tuple [25, 22], [.ptr], 0⟩
def T35 : TyI := ⟨.int .u64, [.int .u64], 8⟩
def T38 : TyI := ⟨.tuple [25, 35, 22], [.ptr], 0⟩
def T45 : TyI := ⟨.tuple [35, 35], [.ptr], 0⟩
def T47 : TyI := ⟨.int .u64, [.int .u64], 8⟩
def T53 : TyI := ⟨.struct [(0, 17), (1, 17), (2, 17), (3, 9)], [.ptr, .ptr, .ptr, .str], 40⟩
def T54 : TyI := ⟨.struct [(0, 17), (1, 17), (2, 17), (3, 9)], [.ptr, .ptr, .ptr, .str], 40⟩
def T59 : TyI := ⟨.int .u32, [.int .u32], 4⟩
def T60 : TyI := ⟨.int .u8, [.int .u8], 1⟩
def T61 : TyI := ⟨.int .u8, [.int .u8], 1⟩
def T63 : TyI := ⟨.ptr 5, [.ptr], 8⟩
def T64 : TyI := ⟨.int .i32, [.int .i32], 4⟩
def T65 : TyI := ⟨.int .i32, [.int .i32], 4⟩
def E : Env := ⟨[(0, T0), (2, T2), (3, T3), (4, T4), (5, T5), (6, T6), (7, T7), (8, T8), (9, T9), (10, T10), (11, T11), (12, T12), (13, T13), (14, T14), (15, T15), (16, T16), (17, T17), (18, T18), (19, T19), (21, T21), (22, T22), (23, T23), (25, T25), (26, T26), (28, T28), (35, T35), (38, T38), (45, T45), (47, T47), (53, T53), (54, T54), (59, T59), (60, T60), (61, T61), (63, T63), (64, T64), (65, T65)], [(3, .body), (4, .body), (5, .body), (6, .body), (7, .body), (8, .body), (9, .body), (10, .body), (11, .body), (12, .quiet), (13, .body), (14, .body), (15, .body), (16, .body), (17, .body), (18, .body), (19, .body), (20, .body), (21, .body), (22, .body), (23, .body), (24, .add64), (25, .body), (26, .sub64), (27, .body), (28, .body), (29, .body), (30, .body)]⟩
theorem ext : ∀ p ∈ E.fns, extP prog p.1 p.2 :=
  ext_of (r := [(24, .add64), (26, .sub64)]) (by kernel_rfl) (by
    intro p hp
    simp only [List.mem_cons, List.not_mem_nil, or_false] at hp
    rcases hp with rfl | rfl
    · exact ⟨Try.f24, Try.func24, by kernel_rfl, by kernel_rfl⟩
    · exact ⟨Try.f26, Try.func26, by kernel_rfl, by kernel_rfl⟩)
theorem envOk : EnvOk prog E := EnvOk.mk' (by kernel_rfl) ext (by kernel_rfl)
noncomputable abbrev HC := HCalls prog
noncomputable abbrev HQC := HQ prog
abbrev Rt := Value → Hp → Prop
abbrev gnomonlaw01_NatNames.id : Nat := 3
abbrev gnomonlaw01_NatRing.id : Nat := 4
abbrev gnomonlaw01_NatCuts.id : Nat := 5
abbrev gnomonlaw01_NatDivides.id : Nat := 6
abbrev gnomonlaw01_awake.id : Nat := 7
abbrev gnomonlaw01_norms.id : Nat := 8
abbrev nat_Norm.id : Nat := 9
abbrev gnomonref01_Twin.id : Nat := 10
abbrev nat_Add.id : Nat := 11
abbrev gnomonref01_Same.id : Nat := 12
abbrev nat_Sub.id : Nat := 13
abbrev nat_Low.id : Nat := 14
abbrev nat_Shr.id : Nat := 15
abbrev nat_Shl.id : Nat := 16
abbrev nat_Bits.id : Nat := 17
abbrev nat_DivWord.id : Nat := 18
abbrev nat_MulWord.id : Nat := 19
abbrev nat_Word.id : Nat := 20
abbrev nat_Cmp.id : Nat := 21
abbrev nat_trim.id : Nat := 22
abbrev nat_Form.id : Nat := 23
abbrev bits_Add64.id : Nat := 24
abbrev nat_told.id : Nat := 25
abbrev bits_Sub64.id : Nat := 26
abbrev bits_Len64.id : Nat := 27
abbrev bits_Div64.id : Nat := 28
abbrev bits_Mul64.id : Nat := 29
abbrev bits_LeadingZeros64.id : Nat := 30
end Go.Proofs.Ytnbpbojcjihboaa.G
