/- Texts of this work, joined: Env. -/
import Derived.Test.YtjjpfgjnnlgiiaaDoorProg
import Derived.Test.YtjjpfgjnnlgiiaaDoorKA
/- The types and functions of the translation, as Gv looks them up. Written by a program of this work. -/
namespace Go.Proofs.YtjjpfgjnnlgiiaaDoor.G
open Go.Gv
noncomputable abbrev prog := Tryd.prog
def T0 : TyI := ⟨.tuple [], [.ptr], 0⟩
def T2 : TyI := ⟨.int .i64, [.int .i64], 8⟩
def T3 : TyI := ⟨.int .i64, [.int .i64], 8⟩
def T4 : TyI := ⟨.bool, [.bool], 1⟩
def T5 : TyI := ⟨.int .u8, [.int .u8], 1⟩
def T6 : TyI := ⟨.int .u8, [.int .u8], 1⟩
def T7 : TyI := ⟨.struct [(0, 2), (1, 3), (2, 4), (3, 6)], [.int .i64, .int .i64, .bool, .int .u8], 24⟩
def T8 : TyI := ⟨.struct [(0, 2), (1, 3), (2, 4), (3, 6)], [.int .i64, .int .i64, .bool, .int .u8], 24⟩
def T9 : TyI := ⟨.str, [.str], 16⟩
def T10 : TyI := ⟨.str, [.str], 16⟩
def T11 : TyI := ⟨.str, [.str], 16⟩
def T12 : TyI := ⟨.int .u64, [.int .u64], 8⟩
def T13 : TyI := ⟨.struct [(0, 9), (1, 12)], [.str, .int .u64], 24⟩
def T14 : TyI := ⟨.struct [(0, 9), (1, 12)], [.str, .int .u64], 24⟩
def T15 : TyI := ⟨.ptr 70, [.ptr], 8⟩
def T16 : TyI := ⟨.ptr 73, [.ptr], 8⟩
def T17 : TyI := ⟨.ptr 83, [.ptr], 8⟩
def T18 : TyI := ⟨.struct [(0, 17)], [.ptr], 8⟩
def T19 : TyI := ⟨.struct [(0, 17)], [.ptr], 8⟩
def T21 : TyI := ⟨.int .i32, [.int .i32], 4⟩
def T22 : TyI := ⟨.int .u16, [.int .u16], 2⟩
def T23 : TyI := ⟨.int .u64, [.int .u64], 8⟩
def T24 : TyI := ⟨.struct [], [.int .u64, .int .u64, .int .u64, .int .u64], 32⟩
def T25 : TyI := ⟨.int .i64, [.int .i64], 8⟩
def T26 : TyI := ⟨.tuple [24, 25], [.ptr], 0⟩
def T28 : TyI := ⟨.slice 23, [.slice], 24⟩
def T29 : TyI := ⟨.tuple [28, 25], [.ptr], 0⟩
def T34 : TyI := ⟨.tuple [23, 25], [.ptr], 0⟩
def T38 : TyI := ⟨.tuple [28, 28], [.ptr], 0⟩
def T41 : TyI := ⟨.tuple [28, 28, 25], [.ptr], 0⟩
def T46 : TyI := ⟨.tuple [28, 23], [.ptr], 0⟩
def T52 : TyI := ⟨.int .u64, [.int .u64], 8⟩
def T53 : TyI := ⟨.tuple [28, 23, 25], [.ptr], 0⟩
def T59 : TyI := ⟨.tuple [23, 23], [.ptr], 0⟩
def T67 : TyI := ⟨.ptr 85, [.ptr], 8⟩
def T69 : TyI := ⟨.struct [(0, 17), (1, 17), (2, 17), (3, 9)], [.ptr, .ptr, .ptr, .str], 40⟩
def T70 : TyI := ⟨.struct [(0, 17), (1, 17), (2, 17), (3, 9)], [.ptr, .ptr, .ptr, .str], 40⟩
def T71 : TyI := ⟨.struct [], [], 0⟩
def T72 : TyI := ⟨.struct [(0, 71)], [], 0⟩
def T73 : TyI := ⟨.struct [(0, 71)], [], 0⟩
def T75 : TyI := ⟨.int .u32, [.int .u32], 4⟩
def T76 : TyI := ⟨.int .u8, [.int .u8], 1⟩
def T77 : TyI := ⟨.int .u8, [.int .u8], 1⟩
def T79 : TyI := ⟨.ptr 5, [.ptr], 8⟩
def T80 : TyI := ⟨.int .i32, [.int .i32], 4⟩
def T81 : TyI := ⟨.int .i32, [.int .i32], 4⟩
def T84 : TyI := ⟨.struct [(0, 9)], [.str], 16⟩
def T85 : TyI := ⟨.struct [(0, 9)], [.str], 16⟩
def E : Env := ⟨[(0, T0), (2, T2), (3, T3), (4, T4), (5, T5), (6, T6), (7, T7), (8, T8), (9, T9), (10, T10), (11, T11), (12, T12), (13, T13), (14, T14), (15, T15), (16, T16), (17, T17), (18, T18), (19, T19), (21, T21), (22, T22), (23, T23), (24, T24), (25, T25), (26, T26), (28, T28), (29, T29), (34, T34), (38, T38), (41, T41), (46, T46), (52, T52), (53, T53), (59, T59), (67, T67), (69, T69), (70, T70), (71, T71), (72, T72), (73, T73), (75, T75), (76, T76), (77, T77), (79, T79), (80, T80), (81, T81), (84, T84), (85, T85)], [(3, .body), (4, .body), (5, .body), (6, .body), (7, .body), (8, .body), (9, .body), (10, .body), (11, .body), (12, .body), (13, .body), (14, .body), (15, .body), (16, .body), (17, .body), (18, .body), (19, .body), (20, .body), (21, .body), (22, .body), (23, .body), (24, .body), (25, .body), (26, .body), (27, .body), (28, .body), (29, .body), (30, .body), (31, .add64), (32, .sub64), (33, .body), (34, .body), (35, .body), (36, .body), (37, .body), (58, .body)], [(24, (4, 23)), (37, (20, 23)), (71, (0, 16))]⟩
theorem ext : ∀ p ∈ E.fns, extP prog p.1 p.2 :=
  ext_of (r := [(31, .add64), (32, .sub64)]) (by kernel_rfl) (by
    intro p hp
    simp only [List.mem_cons, List.not_mem_nil, or_false] at hp
    rcases hp with rfl | rfl
    · exact ⟨Tryd.f31, Tryd.func31, by kernel_rfl, by kernel_rfl⟩
    · exact ⟨Tryd.f32, Tryd.func32, by kernel_rfl, by kernel_rfl⟩)
theorem envOk : EnvOk prog E := EnvOk.mk' (by kernel_rfl) ext (by kernel_rfl)
noncomputable abbrev HC := HCalls prog
abbrev Rt := Value → Hp → Prop
abbrev gnomontop_WholeWords.id : Nat := 3
abbrev payne_Window.id : Nat := 4
abbrev piconst_FloorInv.id : Nat := 5
abbrev nat_Low.id : Nat := 6
abbrev nat_Norm.id : Nat := 7
abbrev gnomontop_same.id : Nat := 8
abbrev payne_Word.id : Nat := 9
abbrev piconst_machin.id : Nat := 10
abbrev nat_Shl.id : Nat := 11
abbrev nat_Word.id : Nat := 12
abbrev natdiv_QuoRem.id : Nat := 13
abbrev nat_Cmp.id : Nat := 14
abbrev nat_Form.id : Nat := 15
abbrev nat_told.id : Nat := 16
abbrev nat_trim.id : Nat := 17
abbrev piconst_arctan.id : Nat := 18
abbrev nat_MulWord.id : Nat := 19
abbrev nat_Sub.id : Nat := 20
abbrev piconst_around.id : Nat := 21
abbrev nat_Bits.id : Nat := 22
abbrev nat_DivWord.id : Nat := 23
abbrev bits_LeadingZeros64.id : Nat := 24
abbrev natdiv_shifted.id : Nat := 25
abbrev natdiv_long.id : Nat := 26
abbrev nat_Shr.id : Nat := 27
abbrev nat_Add.id : Nat := 28
abbrev piconst_next.id : Nat := 29
abbrev bits_Mul64.id : Nat := 30
abbrev bits_Len64.id : Nat := 33
abbrev bits_Div64.id : Nat := 34
abbrev natdiv_trial.id : Nat := 35
abbrev natdiv_takeMul.id : Nat := 36
abbrev natdiv_giveBack.id : Nat := 37
abbrev runtime_boundsError_Error.id : Nat := 38
abbrev runtime_boundsError_RuntimeError.id : Nat := 39
abbrev runtime_errorString_Error.id : Nat := 40
abbrev runtime_errorString_RuntimeError.id : Nat := 41
abbrev runtime_plainError_Error.id : Nat := 42
abbrev runtime_plainError_RuntimeError.id : Nat := 43
abbrev runtime_errorAddressString_Error.id : Nat := 44
abbrev runtime_errorAddressString_RuntimeError.id : Nat := 45
abbrev runtime_TypeAssertionError_Error.id : Nat := 46
abbrev runtime_TypeAssertionError_RuntimeError.id : Nat := 47
abbrev runtime_PanicNilError_Error.id : Nat := 48
abbrev runtime_PanicNilError_RuntimeError.id : Nat := 49
abbrev abi_Type_Align.id : Nat := 50
abbrev maps_unhashableTypeError_Error.id : Nat := 51
abbrev maps_unhashableTypeError_RuntimeError.id : Nat := 52
abbrev errors_errorString_Error.id : Nat := 53
abbrev abi_Kind_String.id : Nat := 54
abbrev var_s_door_gosem_cut_vars_holds_initialisers_alone_see_the_manifest_s_row_cutvarsword_look_11_test_files_too.id : Nat := 56
abbrev var_s_door_the_look_of_gosem_cut_vars_went_over_the_folder_that_the_caller_named_as_the_repository_s_root_look_11.id : Nat := 57
abbrev gosem_cut_vars.id : Nat := 58
end Go.Proofs.YtjjpfgjnnlgiiaaDoor.G
