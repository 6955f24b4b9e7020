/- The numbers of functions and types in this translation, by name, and closed facts on them. -/
import Derived.Test.YtnbakpoahcndpaaProg
import Derived.Test.YtnbakpoahcndpaaWkOps
import Derived.Test.YtnbakpoahcndpaaWkAny
import Derived.Test.YtnbakpoahcndpaaWkMore
set_option linter.unusedVariables false
namespace Go.Proofs.Ytnbakpoahcndpaa
noncomputable abbrev P : Program := Try.prog
theorem follows : P.follows .mixedOrders = true := by kernel_rfl
abbrev F.arbiterlaw13_EufAudits : FuncId := 3
abbrev F.arbiterlaw13_EufSound : FuncId := 4
abbrev F.euf_Audit : FuncId := 5
abbrev F.arbiterlaw13_Hold_nodes : FuncId := 6
abbrev F.arbiterlaw13_Hold_chain : FuncId := 7
abbrev F.arbiterref13_Audit : FuncId := 8
abbrev F.arbiterlaw13_no : FuncId := 9
abbrev F.arbiterlaw13_Hold_kept : FuncId := 10
abbrev F.arbiterlaw13_sound : FuncId := 11
abbrev F.arbiterlaw13_worth : FuncId := 12
abbrev F.euf_sound : FuncId := 13
abbrev F.euf_follows : FuncId := 14
abbrev F.arbiterlaw13_Hold_list : FuncId := 15
abbrev F.arbiterref13_Sound : FuncId := 16
abbrev F.arbiterref13_Follows : FuncId := 17
abbrev F.arbiterlaw13_sameInts : FuncId := 18
abbrev F.slices_ContainsFunc_sl_int_int : FuncId := 19
abbrev F.euf_follows_1 : FuncId := 20
abbrev F.euf_follows_2 : FuncId := 21
abbrev F.slices_ContainsFunc_sl_api_Link_api_Link : FuncId := 22
abbrev F.euf_follows_3 : FuncId := 23
abbrev F.arbiterref13_given : FuncId := 24
abbrev F.arbiterref13_kid : FuncId := 25
abbrev F.arbiterref13_congruence : FuncId := 26
abbrev F.slices_IndexFunc_sl_int_int : FuncId := 27
abbrev F.slices_IndexFunc_sl_api_Link_api_Link : FuncId := 28
abbrev F.arbiterref13_Alike : FuncId := 29
abbrev F.runtime_boundsError_Error : FuncId := 30
abbrev F.runtime_boundsError_RuntimeError : FuncId := 31
abbrev F.runtime_errorString_Error : FuncId := 32
abbrev F.runtime_errorString_RuntimeError : FuncId := 33
abbrev F.runtime_plainError_Error : FuncId := 34
abbrev F.runtime_plainError_RuntimeError : FuncId := 35
abbrev F.runtime_errorAddressString_Error : FuncId := 36
abbrev F.runtime_errorAddressString_RuntimeError : FuncId := 37
abbrev F.runtime_TypeAssertionError_Error : FuncId := 38
abbrev F.runtime_TypeAssertionError_RuntimeError : FuncId := 39
abbrev F.runtime_PanicNilError_Error : FuncId := 40
abbrev F.runtime_PanicNilError_RuntimeError : FuncId := 41
abbrev F.abi_Type_Align : FuncId := 42
abbrev F.maps_unhashableTypeError_Error : FuncId := 43
abbrev F.maps_unhashableTypeError_RuntimeError : FuncId := 44
abbrev F.abi_Kind_String : FuncId := 45
abbrev T.t : TypeId := 0
abbrev T.func_ : TypeId := 1
abbrev T.int64 : TypeId := 2
abbrev T.int : TypeId := 3
abbrev T.bool : TypeId := 4
abbrev T.uint8 : TypeId := 5
abbrev T.abi_BoundsErrorCode : TypeId := 6
abbrev T.struct_x_int64_y_int_signed_bool_code_abi_BoundsErrorCode : TypeId := 7
abbrev T.runtime_boundsError : TypeId := 8
abbrev T.string : TypeId := 9
abbrev T.runtime_errorString : TypeId := 10
abbrev T.runtime_plainError : TypeId := 11
abbrev T.uintptr : TypeId := 12
abbrev T.struct_msg_string_addr_uintptr : TypeId := 13
abbrev T.runtime_errorAddressString : TypeId := 14
abbrev T.p_runtime_TypeAssertionError : TypeId := 15
abbrev T.p_runtime_PanicNilError : TypeId := 16
abbrev T.p_abi_Type : TypeId := 17
abbrev T.struct_typ_abi_Type : TypeId := 18
abbrev T.maps_unhashableTypeError : TypeId := 19
abbrev T.interface : TypeId := 20
abbrev T.int32 : TypeId := 21
abbrev T.sl_api_Flat : TypeId := 22
abbrev T.sl_api_Link : TypeId := 23
abbrev T.p_arbiterlaw13_Hold : TypeId := 24
abbrev T.sl_sl_int : TypeId := 25
abbrev T.sl_sl_api_Flat : TypeId := 26
abbrev T.sl_sl_api_Link : TypeId := 27
abbrev T.struct_nums_sl_sl_int_was_sl_sl_int_flats_sl_sl_ap : TypeId := 28
abbrev T.arbiterlaw13_Hold : TypeId := 29
abbrev T.api_Errno : TypeId := 30
abbrev T.int_api_Errno : TypeId := 31
abbrev T.func_sl_api_Flat_sl_api_Link_sl_api_Link_int_api_Errno : TypeId := 32
abbrev T.func_sl_api_Flat_sl_api_Flat : TypeId := 33
abbrev T.func_sl_api_Link_sl_api_Link : TypeId := 34
abbrev T.int_int : TypeId := 35
abbrev T.func_sl_api_Flat_sl_api_Link_sl_api_Link_int_int : TypeId := 36
abbrev T.func_api_Errno_int : TypeId := 37
abbrev T.func_bool : TypeId := 38
abbrev T.func_sl_api_Flat_sl_api_Link_sl_api_Link_bool : TypeId := 39
abbrev T.sl_int : TypeId := 40
abbrev T.struct_Kind_int_A_int_B_int_Tag_int_Kids_sl_int : TypeId := 41
abbrev T.api_Link : TypeId := 42
abbrev T.struct_Fun_int_Args_sl_int : TypeId := 43
abbrev T.api_Flat : TypeId := 44
abbrev T.func_sl_api_Flat_bool : TypeId := 45
abbrev T.func_sl_api_Flat_sl_int_int_sl_int : TypeId := 46
abbrev T.func_sl_api_Flat_sl_api_Link_sl_api_Link_sl_int_int_bool : TypeId := 47
abbrev T.func_sl_api_Flat_sl_api_Link_sl_api_Link_int_bool : TypeId := 48
abbrev T.func_sl_int_sl_int : TypeId := 49
abbrev T.func_sl_int_sl_int_bool : TypeId := 50
abbrev T.func_sl_int_func_int_bool_bool : TypeId := 51
abbrev T.func_int_bool : TypeId := 52
abbrev T.func_int_int_int_bool : TypeId := 53
abbrev T.func_sl_api_Link_func_api_Link_bool_bool : TypeId := 54
abbrev T.func_api_Link_bool : TypeId := 55
abbrev T.func_sl_api_Link_api_Link_bool : TypeId := 56
abbrev T.func_sl_api_Link_int_int_int_int : TypeId := 57
abbrev T.func_sl_api_Flat_sl_api_Link_int_bool : TypeId := 58
abbrev T.func_sl_int_func_int_bool_int : TypeId := 59
abbrev T.func_sl_api_Link_func_api_Link_bool_int : TypeId := 60
abbrev T.func_api_Flat_api_Flat_bool : TypeId := 61
abbrev T.func_string : TypeId := 62
abbrev T.struct__interface_abi_Type_concrete_abi_Type_asser : TypeId := 63
abbrev T.runtime_TypeAssertionError : TypeId := 64
abbrev T.t_0_runtime_PanicNilError : TypeId := 65
abbrev T.struct___0_runtime_PanicNilError : TypeId := 66
abbrev T.runtime_PanicNilError : TypeId := 67
abbrev T.func_int : TypeId := 68
abbrev T.uint32 : TypeId := 69
abbrev T.abi_TFlag : TypeId := 70
abbrev T.abi_Kind : TypeId := 71
abbrev T.func_unsafe_Pointer_unsafe_Pointer_bool : TypeId := 72
abbrev T.p_uint8 : TypeId := 73
abbrev T.abi_NameOff : TypeId := 74
abbrev T.abi_TypeOff : TypeId := 75
abbrev T.struct_Size__uintptr_PtrBytes_uintptr_Hash_uint32_ : TypeId := 76
abbrev T.abi_Type : TypeId := 77
abbrev T.unsafe_Pointer : TypeId := 78
theorem FF.callable_arbiterlaw13_Hold_chain : Wk.callable P F.arbiterlaw13_Hold_chain = true := by kernel_rfl
theorem FF.callable_arbiterlaw13_Hold_kept : Wk.callable P F.arbiterlaw13_Hold_kept = true := by kernel_rfl
theorem FF.callable_arbiterlaw13_Hold_list : Wk.callable P F.arbiterlaw13_Hold_list = true := by kernel_rfl
theorem FF.callable_arbiterlaw13_Hold_nodes : Wk.callable P F.arbiterlaw13_Hold_nodes = true := by kernel_rfl
theorem FF.callable_arbiterlaw13_no : Wk.callable P F.arbiterlaw13_no = true := by kernel_rfl
theorem FF.callable_arbiterlaw13_sameInts : Wk.callable P F.arbiterlaw13_sameInts = true := by kernel_rfl
theorem FF.callable_arbiterlaw13_sound : Wk.callable P F.arbiterlaw13_sound = true := by kernel_rfl
theorem FF.callable_arbiterlaw13_worth : Wk.callable P F.arbiterlaw13_worth = true := by kernel_rfl
theorem FF.callable_arbiterref13_Alike : Wk.callable P F.arbiterref13_Alike = true := by kernel_rfl
theorem FF.callable_arbiterref13_Audit : Wk.callable P F.arbiterref13_Audit = true := by kernel_rfl
theorem FF.callable_arbiterref13_Follows : Wk.callable P F.arbiterref13_Follows = true := by kernel_rfl
theorem FF.callable_arbiterref13_Sound : Wk.callable P F.arbiterref13_Sound = true := by kernel_rfl
theorem FF.callable_arbiterref13_congruence : Wk.callable P F.arbiterref13_congruence = true := by kernel_rfl
theorem FF.callable_arbiterref13_given : Wk.callable P F.arbiterref13_given = true := by kernel_rfl
theorem FF.callable_arbiterref13_kid : Wk.callable P F.arbiterref13_kid = true := by kernel_rfl
theorem FF.callable_euf_Audit : Wk.callable P F.euf_Audit = true := by kernel_rfl
theorem FF.callable_euf_follows : Wk.callable P F.euf_follows = true := by kernel_rfl
theorem FF.callable_euf_follows_2 : Wk.callable P F.euf_follows_2 = true := by kernel_rfl
theorem FF.callable_euf_sound : Wk.callable P F.euf_sound = true := by kernel_rfl
theorem FF.callable_slices_ContainsFunc_sl_api_Link_api_Link : Wk.callable P F.slices_ContainsFunc_sl_api_Link_api_Link = true := by kernel_rfl
theorem FF.callable_slices_ContainsFunc_sl_int_int : Wk.callable P F.slices_ContainsFunc_sl_int_int = true := by kernel_rfl
theorem FF.callable_slices_IndexFunc_sl_api_Link_api_Link : Wk.callable P F.slices_IndexFunc_sl_api_Link_api_Link = true := by kernel_rfl
theorem FF.callable_slices_IndexFunc_sl_int_int : Wk.callable P F.slices_IndexFunc_sl_int_int = true := by kernel_rfl
theorem TF.agg_api_Flat : Wk.aggB P T.api_Flat = some true := by kernel_rfl
theorem TF.agg_api_Link : Wk.aggB P T.api_Link = some true := by kernel_rfl
theorem TF.agg_int : Wk.aggB P T.int = some false := by kernel_rfl
theorem TF.agg_sl_api_Flat : Wk.aggB P T.sl_api_Flat = some false := by kernel_rfl
theorem TF.agg_sl_api_Link : Wk.aggB P T.sl_api_Link = some false := by kernel_rfl
theorem TF.agg_sl_int : Wk.aggB P T.sl_int = some false := by kernel_rfl
theorem TF.agg_sl_sl_api_Flat : Wk.aggB P T.sl_sl_api_Flat = some false := by kernel_rfl
theorem TF.agg_sl_sl_api_Link : Wk.aggB P T.sl_sl_api_Link = some false := by kernel_rfl
theorem TF.agg_sl_sl_int : Wk.aggB P T.sl_sl_int = some false := by kernel_rfl
theorem TF.elem_sl_api_Flat : Wk.elemT P T.sl_api_Flat = some T.api_Flat := by kernel_rfl
theorem TF.elem_sl_api_Link : Wk.elemT P T.sl_api_Link = some T.api_Link := by kernel_rfl
theorem TF.elem_sl_int : Wk.elemT P T.sl_int = some T.int := by kernel_rfl
theorem TF.elem_sl_sl_api_Flat : Wk.elemT P T.sl_sl_api_Flat = some T.sl_api_Flat := by kernel_rfl
theorem TF.elem_sl_sl_api_Link : Wk.elemT P T.sl_sl_api_Link = some T.sl_api_Link := by kernel_rfl
theorem TF.elem_sl_sl_int : Wk.elemT P T.sl_sl_int = some T.sl_int := by kernel_rfl
theorem TF.fld_api_Flat_0 (p : Addr) (w : World) : (Instr.fieldAt T.api_Flat (.pointer (some p)) 0).run P w = .ok (.pointer (some (p.add 0))) w := by kernel_rfl
theorem TF.fld_api_Flat_1 (p : Addr) (w : World) : (Instr.fieldAt T.api_Flat (.pointer (some p)) 1).run P w = .ok (.pointer (some (p.add 1))) w := by kernel_rfl
theorem TF.fld_api_Link_0 (p : Addr) (w : World) : (Instr.fieldAt T.api_Link (.pointer (some p)) 0).run P w = .ok (.pointer (some (p.add 0))) w := by kernel_rfl
theorem TF.fld_api_Link_1 (p : Addr) (w : World) : (Instr.fieldAt T.api_Link (.pointer (some p)) 1).run P w = .ok (.pointer (some (p.add 1))) w := by kernel_rfl
theorem TF.fld_api_Link_2 (p : Addr) (w : World) : (Instr.fieldAt T.api_Link (.pointer (some p)) 2).run P w = .ok (.pointer (some (p.add 2))) w := by kernel_rfl
theorem TF.fld_api_Link_3 (p : Addr) (w : World) : (Instr.fieldAt T.api_Link (.pointer (some p)) 3).run P w = .ok (.pointer (some (p.add 3))) w := by kernel_rfl
theorem TF.fld_api_Link_4 (p : Addr) (w : World) : (Instr.fieldAt T.api_Link (.pointer (some p)) 4).run P w = .ok (.pointer (some (p.add 4))) w := by kernel_rfl
theorem TF.fld_arbiterlaw13_Hold_0 (p : Addr) (w : World) : (Instr.fieldAt T.arbiterlaw13_Hold (.pointer (some p)) 0).run P w = .ok (.pointer (some (p.add 0))) w := by kernel_rfl
theorem TF.fld_arbiterlaw13_Hold_1 (p : Addr) (w : World) : (Instr.fieldAt T.arbiterlaw13_Hold (.pointer (some p)) 1).run P w = .ok (.pointer (some (p.add 1))) w := by kernel_rfl
theorem TF.fld_arbiterlaw13_Hold_2 (p : Addr) (w : World) : (Instr.fieldAt T.arbiterlaw13_Hold (.pointer (some p)) 2).run P w = .ok (.pointer (some (p.add 2))) w := by kernel_rfl
theorem TF.fld_arbiterlaw13_Hold_3 (p : Addr) (w : World) : (Instr.fieldAt T.arbiterlaw13_Hold (.pointer (some p)) 3).run P w = .ok (.pointer (some (p.add 3))) w := by kernel_rfl
theorem TF.fld_arbiterlaw13_Hold_4 (p : Addr) (w : World) : (Instr.fieldAt T.arbiterlaw13_Hold (.pointer (some p)) 4).run P w = .ok (.pointer (some (p.add 4))) w := by kernel_rfl
theorem TF.fld_arbiterlaw13_Hold_5 (p : Addr) (w : World) : (Instr.fieldAt T.arbiterlaw13_Hold (.pointer (some p)) 5).run P w = .ok (.pointer (some (p.add 5))) w := by kernel_rfl
theorem TF.isslice_sl_api_Flat : (Wk.elemT P T.sl_api_Flat).isSome = true := by kernel_rfl
theorem TF.isslice_sl_api_Link : (Wk.elemT P T.sl_api_Link).isSome = true := by kernel_rfl
theorem TF.isslice_sl_int : (Wk.elemT P T.sl_int).isSome = true := by kernel_rfl
theorem TF.isslice_sl_sl_api_Flat : (Wk.elemT P T.sl_sl_api_Flat).isSome = true := by kernel_rfl
theorem TF.isslice_sl_sl_api_Link : (Wk.elemT P T.sl_sl_api_Link).isSome = true := by kernel_rfl
theorem TF.isslice_sl_sl_int : (Wk.elemT P T.sl_sl_int).isSome = true := by kernel_rfl
theorem TF.size_api_Flat : Wk.sizeN P T.api_Flat = some 2 := by kernel_rfl
theorem TF.size_api_Link : Wk.sizeN P T.api_Link = some 5 := by kernel_rfl
theorem TF.size_int : Wk.sizeN P T.int = some 1 := by kernel_rfl
theorem TF.size_sl_api_Flat : Wk.sizeN P T.sl_api_Flat = some 1 := by kernel_rfl
theorem TF.size_sl_api_Link : Wk.sizeN P T.sl_api_Link = some 1 := by kernel_rfl
theorem TF.size_sl_int : Wk.sizeN P T.sl_int = some 1 := by kernel_rfl
theorem TF.size_sl_sl_api_Flat : Wk.sizeN P T.sl_sl_api_Flat = some 1 := by kernel_rfl
theorem TF.size_sl_sl_api_Link : Wk.sizeN P T.sl_sl_api_Link = some 1 := by kernel_rfl
theorem TF.size_sl_sl_int : Wk.sizeN P T.sl_sl_int = some 1 := by kernel_rfl
theorem TF.zero_api_Flat : Wk.zeroOf P T.api_Flat = some (.agg #[(.int .i64 0), (.slice none 0 0)]) := by kernel_rfl
theorem TF.zero_api_Link : Wk.zeroOf P T.api_Link = some (.agg #[(.int .i64 0), (.int .i64 0), (.int .i64 0), (.int .i64 0), (.slice none 0 0)]) := by kernel_rfl
end Go.Proofs.Ytnbakpoahcndpaa
