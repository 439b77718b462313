/- Texts of this work, joined: Env. -/
import Derived.Test.YtdpkfipkjdlmlaaProg
import Derived.Test.YtdpkfipkjdlmlaaKA
/- The types and functions of the translation, as Gv looks them up. Written by a program of this work. -/
namespace Go.Proofs.Ytdpkfipkjdlmlaa.G
open Go.Gv
noncomputable abbrev prog := Try.prog
def T0 : TyI := ⟨.tuple [], [.ptr], 0⟩
def T2 : TyI := ⟨.int .i64, [.int .i64], 8⟩
def T3 : TyI := ⟨.int .i64, [.int .i64], 8⟩
def T4 : TyI := ⟨.bool, [.bool], 1⟩
def T5 : TyI := ⟨.int .u8, [.int .u8], 1⟩
def T6 : TyI := ⟨.int .u8, [.int .u8], 1⟩
def T7 : TyI := ⟨.struct [(0, 2), (1, 3), (2, 4), (3, 6)], [.int .i64, .int .i64, .bool, .int .u8], 24⟩
def T8 : TyI := ⟨.struct [(0, 2), (1, 3), (2, 4), (3, 6)], [.int .i64, .int .i64, .bool, .int .u8], 24⟩
def T9 : TyI := ⟨.str, [.str], 16⟩
def T10 : TyI := ⟨.str, [.str], 16⟩
def T11 : TyI := ⟨.str, [.str], 16⟩
def T12 : TyI := ⟨.int .u64, [.int .u64], 8⟩
def T13 : TyI := ⟨.struct [(0, 9), (1, 12)], [.str, .int .u64], 24⟩
def T14 : TyI := ⟨.struct [(0, 9), (1, 12)], [.str, .int .u64], 24⟩
def T15 : TyI := ⟨.ptr 115, [.ptr], 8⟩
def T16 : TyI := ⟨.ptr 118, [.ptr], 8⟩
def T17 : TyI := ⟨.ptr 125, [.ptr], 8⟩
def T18 : TyI := ⟨.struct [(0, 17)], [.ptr], 8⟩
def T19 : TyI := ⟨.struct [(0, 17)], [.ptr], 8⟩
def T21 : TyI := ⟨.int .i32, [.int .i32], 4⟩
def T22 : TyI := ⟨.slice 27, [.slice], 24⟩
def T23 : TyI := ⟨.int .i64, [.int .i64], 8⟩
def T24 : TyI := ⟨.tuple [22, 23], [.ptr], 0⟩
def T27 : TyI := ⟨.int .u64, [.int .u64], 8⟩
def T29 : TyI := ⟨.tuple [9, 23], [.ptr], 0⟩
def T35 : TyI := ⟨.tuple [22, 22], [.ptr], 0⟩
def T40 : TyI := ⟨.slice 22, [.slice], 24⟩
def T43 : TyI := ⟨.tuple [22, 22, 23], [.ptr], 0⟩
def T45 : TyI := ⟨.slice 84, [.slice], 24⟩
def T53 : TyI := ⟨.slice 55, [.slice], 24⟩
def T54 : TyI := ⟨.struct [(0, 3), (1, 22), (2, 22), (3, 9)], [.int .i64, .slice, .slice, .str], 72⟩
def T55 : TyI := ⟨.struct [(0, 3), (1, 22), (2, 22), (3, 9)], [.int .i64, .slice, .slice, .str], 72⟩
def T58 : TyI := ⟨.slice 5, [.slice], 24⟩
def T63 : TyI := ⟨.tuple [22, 3], [.ptr], 0⟩
def T66 : TyI := ⟨.tuple [22, 27, 23], [.ptr], 0⟩
def T68 : TyI := ⟨.ptr 70, [.ptr], 8⟩
def T69 : TyI := ⟨.struct [(0, 68), (1, 58)], [.ptr, .slice], 32⟩
def T70 : TyI := ⟨.struct [(0, 68), (1, 58)], [.ptr, .slice], 32⟩
def T76 : TyI := ⟨.tuple [9, 3], [.ptr], 0⟩
def T84 : TyI := ⟨.int .u32, [.int .u32], 4⟩
def T85 : TyI := ⟨.int .u64, [.int .u64], 8⟩
def T88 : TyI := ⟨.tuple [27, 27], [.ptr], 0⟩
def T92 : TyI := ⟨.ptr 5, [.ptr], 8⟩
def T98 : TyI := ⟨.tuple [22, 22, 3], [.ptr], 0⟩
def T103 : TyI := ⟨.tuple [45, 84], [.ptr], 0⟩
def T105 : TyI := ⟨.tuple [45, 45], [.ptr], 0⟩
def T113 : TyI := ⟨.ptr 127, [.ptr], 8⟩
def T114 : TyI := ⟨.struct [(0, 17), (1, 17), (2, 17), (3, 9)], [.ptr, .ptr, .ptr, .str], 40⟩
def T115 : TyI := ⟨.struct [(0, 17), (1, 17), (2, 17), (3, 9)], [.ptr, .ptr, .ptr, .str], 40⟩
def T119 : TyI := ⟨.int .u8, [.int .u8], 1⟩
def T120 : TyI := ⟨.int .u8, [.int .u8], 1⟩
def T122 : TyI := ⟨.int .i32, [.int .i32], 4⟩
def T123 : TyI := ⟨.int .i32, [.int .i32], 4⟩
def T126 : TyI := ⟨.struct [(0, 9)], [.str], 16⟩
def T127 : TyI := ⟨.struct [(0, 9)], [.str], 16⟩
def E : Env := ⟨[(0, T0), (2, T2), (3, T3), (4, T4), (5, T5), (6, T6), (7, T7), (8, T8), (9, T9), (10, T10), (11, T11), (12, T12), (13, T13), (14, T14), (15, T15), (16, T16), (17, T17), (18, T18), (19, T19), (21, T21), (22, T22), (23, T23), (24, T24), (27, T27), (29, T29), (35, T35), (40, T40), (43, T43), (45, T45), (53, T53), (54, T54), (55, T55), (58, T58), (63, T63), (66, T66), (68, T68), (69, T69), (70, T70), (76, T76), (84, T84), (85, T85), (88, T88), (92, T92), (98, T98), (103, T103), (105, T105), (113, T113), (114, T114), (115, T115), (119, T119), (120, T120), (122, T122), (123, T123), (126, T126), (127, T127)], [(3, .body), (4, .body), (5, .body), (6, .body), (7, .body), (8, .body), (9, .body), (10, .body), (11, .body), (12, .body), (13, .body), (14, .quiet), (15, .body), (16, .body), (17, .body), (18, .body), (19, .body), (20, .body), (21, .body), (22, .quiet), (23, .body), (24, .body), (25, .body), (26, .body), (27, .body), (28, .body), (29, .body), (30, .body), (31, .body), (32, .body), (33, .body), (34, .body), (35, .body), (36, .body), (37, .body), (38, .body), (39, .body), (40, .body), (41, .body), (42, .body), (43, .body), (44, .body), (45, .body), (46, .body), (47, .body), (48, .body), (49, .body), (50, .body), (51, .body), (52, .body), (53, .body), (54, .body), (55, .body), (56, .body), (57, .body), (58, .body), (59, .body), (60, .body), (61, .add64), (62, .body), (63, .body), (64, .body), (65, .body), (66, .body), (67, .body), (68, .body), (69, .body), (70, .body), (71, .body), (72, .body), (73, .body), (74, .body), (75, .body), (76, .sub64), (77, .body), (78, .body), (79, .body), (80, .body), (82, .body), (83, .body), (84, .body), (85, .body), (86, .body), (87, .body), (88, .body), (89, .body), (90, .body), (91, .body), (92, .body), (93, .body), (94, .body), (95, .body), (96, .body)], [(116, (0, 16))]⟩
theorem ext : ∀ p ∈ E.fns, extP prog p.1 p.2 :=
  ext_of (r := [(61, .add64), (76, .sub64)]) (by kernel_rfl) (by
    intro p hp
    simp only [List.mem_cons, List.not_mem_nil, or_false] at hp
    rcases hp with rfl | rfl
    · exact ⟨Try.f61, Try.func61, by kernel_rfl, by kernel_rfl⟩
    · exact ⟨Try.f76, Try.func76, by kernel_rfl, by kernel_rfl⟩)
theorem envOk : EnvOk prog E := EnvOk.mk' (by kernel_rfl) ext (by kernel_rfl)
noncomputable abbrev HC := HCalls prog
noncomputable abbrev HQC := HQ prog
abbrev Rt := Value → Hp → Prop
abbrev gnomonlaw03_NatdivReadMemory.id : Nat := 6
abbrev natdiv_Read.id : Nat := 13
abbrev gnomonref01_Same.id : Nat := 14
abbrev natdiv_Text.id : Nat := 16
abbrev gnomonlaw03_roomy.id : Nat := 20
abbrev gnomonlaw03_kept.id : Nat := 21
abbrev gnomonlaw03_mark.id : Nat := 22
abbrev gnomonlaw03_apart.id : Nat := 23
abbrev nat_Add.id : Nat := 34
abbrev nat_MulWord.id : Nat := 38
abbrev nat_Word.id : Nat := 39
abbrev nat_Form.id : Nat := 41
abbrev nat_Bits.id : Nat := 42
abbrev nat_DivWord.id : Nat := 43
abbrev strings_Builder_Len.id : Nat := 44
abbrev strings_Builder_WriteByte.id : Nat := 45
abbrev strings_Builder_String.id : Nat := 46
abbrev bits_LeadingZeros64.id : Nat := 50
abbrev nat_told.id : Nat := 62
abbrev bits_Mul64.id : Nat := 65
abbrev nat_trim.id : Nat := 67
abbrev bits_Len64.id : Nat := 68
abbrev bits_Div64.id : Nat := 69
abbrev abi_NoEscape.id : Nat := 81
abbrev runtime_boundsError_Error.id : Nat := 97
abbrev runtime_boundsError_RuntimeError.id : Nat := 98
abbrev runtime_errorString_Error.id : Nat := 99
abbrev runtime_errorString_RuntimeError.id : Nat := 100
abbrev runtime_plainError_Error.id : Nat := 101
abbrev runtime_plainError_RuntimeError.id : Nat := 102
abbrev runtime_errorAddressString_Error.id : Nat := 103
abbrev runtime_errorAddressString_RuntimeError.id : Nat := 104
abbrev runtime_TypeAssertionError_Error.id : Nat := 105
abbrev runtime_TypeAssertionError_RuntimeError.id : Nat := 106
abbrev runtime_PanicNilError_Error.id : Nat := 107
abbrev runtime_PanicNilError_RuntimeError.id : Nat := 108
abbrev abi_Type_Align.id : Nat := 109
abbrev maps_unhashableTypeError_Error.id : Nat := 110
abbrev maps_unhashableTypeError_RuntimeError.id : Nat := 111
abbrev errors_errorString_Error.id : Nat := 113
abbrev abi_Kind_String.id : Nat := 114
end Go.Proofs.Ytdpkfipkjdlmlaa.G
