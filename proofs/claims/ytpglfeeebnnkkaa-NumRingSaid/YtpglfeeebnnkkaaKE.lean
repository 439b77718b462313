/- Texts of this work, joined: Env. -/
import Derived.Test.YtpglfeeebnnkkaaProg
import Derived.Test.YtpglfeeebnnkkaaKA
/- The types and functions of the translation, as Gv looks them up. Written by a program of this work. -/
namespace Go.Proofs.Ytpglfeeebnnkkaa.G
open Go.Gv
noncomputable abbrev prog := Try.prog
def T0 : TyI := ⟨.tuple [], [.ptr], 0⟩
def T2 : TyI := ⟨.int .i64, [.int .i64], 8⟩
def T3 : TyI := ⟨.int .i64, [.int .i64], 8⟩
def T4 : TyI := ⟨.bool, [.bool], 1⟩
def T5 : TyI := ⟨.int .u8, [.int .u8], 1⟩
def T6 : TyI := ⟨.int .u8, [.int .u8], 1⟩
def T7 : TyI := ⟨.struct [(0, 2), (1, 3), (2, 4), (3, 6)], [.int .i64, .int .i64, .bool, .int .u8], 24⟩
def T8 : TyI := ⟨.struct [(0, 2), (1, 3), (2, 4), (3, 6)], [.int .i64, .int .i64, .bool, .int .u8], 24⟩
def T9 : TyI := ⟨.str, [.str], 16⟩
def T10 : TyI := ⟨.str, [.str], 16⟩
def T11 : TyI := ⟨.str, [.str], 16⟩
def T12 : TyI := ⟨.int .u64, [.int .u64], 8⟩
def T13 : TyI := ⟨.struct [(0, 9), (1, 12)], [.str, .int .u64], 24⟩
def T14 : TyI := ⟨.struct [(0, 9), (1, 12)], [.str, .int .u64], 24⟩
def T15 : TyI := ⟨.ptr 73, [.ptr], 8⟩
def T16 : TyI := ⟨.ptr 76, [.ptr], 8⟩
def T17 : TyI := ⟨.ptr 85, [.ptr], 8⟩
def T18 : TyI := ⟨.struct [(0, 17)], [.ptr], 8⟩
def T19 : TyI := ⟨.struct [(0, 17)], [.ptr], 8⟩
def T21 : TyI := ⟨.int .i32, [.int .i32], 4⟩
def T22 : TyI := ⟨.slice 53, [.slice], 24⟩
def T23 : TyI := ⟨.struct [(0, 4), (1, 22)], [.bool, .slice], 32⟩
def T24 : TyI := ⟨.struct [(0, 4), (1, 22)], [.bool, .slice], 32⟩
def T25 : TyI := ⟨.tuple [24, 4], [.ptr], 0⟩
def T28 : TyI := ⟨.int .i64, [.int .i64], 8⟩
def T29 : TyI := ⟨.tuple [24, 28], [.ptr], 0⟩
def T34 : TyI := ⟨.slice 62, [.slice], 24⟩
def T35 : TyI := ⟨.struct [(0, 4), (1, 34)], [.bool, .slice], 32⟩
def T36 : TyI := ⟨.struct [(0, 4), (1, 34)], [.bool, .slice], 32⟩
def T39 : TyI := ⟨.tuple [3, 28], [.ptr], 0⟩
def T43 : TyI := ⟨.tuple [22, 28], [.ptr], 0⟩
def T53 : TyI := ⟨.int .u64, [.int .u64], 8⟩
def T56 : TyI := ⟨.tuple [53, 53], [.ptr], 0⟩
def T62 : TyI := ⟨.int .u32, [.int .u32], 4⟩
def T63 : TyI := ⟨.int .u64, [.int .u64], 8⟩
def T68 : TyI := ⟨.tuple [22, 22], [.ptr], 0⟩
def T72 : TyI := ⟨.struct [(0, 17), (1, 17), (2, 17), (3, 9)], [.ptr, .ptr, .ptr, .str], 40⟩
def T73 : TyI := ⟨.struct [(0, 17), (1, 17), (2, 17), (3, 9)], [.ptr, .ptr, .ptr, .str], 40⟩
def T78 : TyI := ⟨.int .u8, [.int .u8], 1⟩
def T79 : TyI := ⟨.int .u8, [.int .u8], 1⟩
def T81 : TyI := ⟨.ptr 5, [.ptr], 8⟩
def T82 : TyI := ⟨.int .i32, [.int .i32], 4⟩
def T83 : TyI := ⟨.int .i32, [.int .i32], 4⟩
def E : Env := ⟨[(0, T0), (2, T2), (3, T3), (4, T4), (5, T5), (6, T6), (7, T7), (8, T8), (9, T9), (10, T10), (11, T11), (12, T12), (13, T13), (14, T14), (15, T15), (16, T16), (17, T17), (18, T18), (19, T19), (21, T21), (22, T22), (23, T23), (24, T24), (25, T25), (28, T28), (29, T29), (34, T34), (35, T35), (36, T36), (39, T39), (43, T43), (53, T53), (56, T56), (62, T62), (63, T63), (68, T68), (72, T72), (73, T73), (78, T78), (79, T79), (81, T81), (82, T82), (83, T83)], [(3, .body), (4, .body), (5, .body), (6, .body), (7, .body), (8, .body), (9, .body), (10, .body), (11, .body), (12, .body), (13, .body), (14, .body), (15, .body), (16, .body), (17, .body), (18, .body), (19, .body), (20, .body), (21, .quiet), (22, .body), (23, .body), (24, .body), (25, .body), (26, .body), (27, .body), (28, .body), (29, .add64), (30, .body), (31, .body), (32, .sub64), (33, .body), (34, .body), (35, .body), (36, .body), (37, .body), (38, .body), (39, .body), (40, .body), (41, .body), (42, .body), (43, .body), (44, .body), (45, .body), (46, .body)], [(74, (0, 16))]⟩
theorem ext : ∀ p ∈ E.fns, extP prog p.1 p.2 :=
  ext_of (r := [(29, .add64), (32, .sub64)]) (by kernel_rfl) (by
    intro p hp
    simp only [List.mem_cons, List.not_mem_nil, or_false] at hp
    rcases hp with rfl | rfl
    · exact ⟨Try.f29, Try.func29, by kernel_rfl, by kernel_rfl⟩
    · exact ⟨Try.f32, Try.func32, by kernel_rfl, by kernel_rfl⟩)
theorem envOk : EnvOk prog E := EnvOk.mk' (by kernel_rfl) ext (by kernel_rfl)
noncomputable abbrev HC := HCalls prog
noncomputable abbrev HQC := HQ prog
abbrev Rt := Value → Hp → Prop
abbrev gnomonlaw04_NumRing.id : Nat := 3
abbrev gnomonlaw04_formed.id : Nat := 4
abbrev gnomonlaw04_awake.id : Nat := 5
abbrev num_Add.id : Nat := 6
abbrev num_Mul.id : Nat := 7
abbrev gnomonlaw04_same.id : Nat := 8
abbrev num_Sub.id : Nat := 9
abbrev gnomonref04_To.id : Nat := 10
abbrev gnomonref04_From.id : Nat := 11
abbrev num_Of.id : Nat := 12
abbrev num_Small.id : Nat := 13
abbrev num_Sign.id : Nat := 14
abbrev num_Form.id : Nat := 15
abbrev nat_Add.id : Nat := 16
abbrev num_told.id : Nat := 17
abbrev nat_Cmp.id : Nat := 18
abbrev nat_Sub.id : Nat := 19
abbrev natmul_Mul.id : Nat := 20
abbrev gnomonref01_Same.id : Nat := 21
abbrev num_whole.id : Nat := 22
abbrev gnomonref01_To.id : Nat := 23
abbrev gnomonref04_Mk.id : Nat := 24
abbrev gnomonref01_From.id : Nat := 25
abbrev nat_Word.id : Nat := 26
abbrev nat_Bits.id : Nat := 27
abbrev nat_Form.id : Nat := 28
abbrev bits_Add64.id : Nat := 29
abbrev nat_told.id : Nat := 30
abbrev nat_trim.id : Nat := 31
abbrev bits_Sub64.id : Nat := 32
abbrev natmul_told.id : Nat := 33
abbrev natmul_product.id : Nat := 34
abbrev gnomonref01_Norm.id : Nat := 35
abbrev bits_Len64.id : Nat := 36
abbrev natmul_fill.id : Nat := 37
abbrev natmul_trim.id : Nat := 38
abbrev natmul_rows.id : Nat := 39
abbrev natmul_slabs.id : Nat := 40
abbrev natmul_thirds.id : Nat := 41
abbrev bits_Mul64.id : Nat := 42
abbrev natmul_addAt.id : Nat := 43
abbrev natmul_cut.id : Nat := 44
abbrev natmul_sum.id : Nat := 45
abbrev natmul_takeAway.id : Nat := 46
abbrev runtime_boundsError_Error.id : Nat := 47
abbrev runtime_boundsError_RuntimeError.id : Nat := 48
abbrev runtime_errorString_Error.id : Nat := 49
abbrev runtime_errorString_RuntimeError.id : Nat := 50
abbrev runtime_plainError_Error.id : Nat := 51
abbrev runtime_plainError_RuntimeError.id : Nat := 52
abbrev runtime_errorAddressString_Error.id : Nat := 53
abbrev runtime_errorAddressString_RuntimeError.id : Nat := 54
abbrev runtime_TypeAssertionError_Error.id : Nat := 55
abbrev runtime_TypeAssertionError_RuntimeError.id : Nat := 56
abbrev runtime_PanicNilError_Error.id : Nat := 57
abbrev runtime_PanicNilError_RuntimeError.id : Nat := 58
abbrev abi_Type_Align.id : Nat := 59
abbrev maps_unhashableTypeError_Error.id : Nat := 60
abbrev maps_unhashableTypeError_RuntimeError.id : Nat := 61
abbrev abi_Kind_String.id : Nat := 62
end Go.Proofs.Ytpglfeeebnnkkaa.G
