/- The program's types and functions under names that do not hang on their numbers. Printed by facts.py, a program of mine. -/
import Derived.Test.YtjjkhjieegmphaaDoorProg
import Derived.Test.YtjjkhjieegmphaaDoorTypes
import Derived.Test.YtjjkhjieegmphaaDoorGwSemi
import Derived.KernelRfl
namespace Go.Proofs.YtjjkhjieegmphaaDoor
open Gw
set_option linter.unusedSimpArgs false
noncomputable abbrev PP : Program := Tryd.prog
theorem hmix : PP.follows .mixedOrders = true := by kernel_rfl

abbrev T_func : TypeId := 1
theorem on_func : OneT PP 1 := ⟨⟨_, Tryd.underlying1, rfl⟩, by kernel_rfl⟩
theorem ze_func : ZeroT PP 1 [.nilFunc] := ⟨.nilFunc, by kernel_rfl, rfl⟩
theorem el_func : ElemT PP 1 1 8 := ElemT.of (z := .nilFunc) (by kernel_rfl) rfl (by decide)
abbrev T_int64 : TypeId := 2
theorem on_int64 : OneT PP 2 := ⟨⟨_, Tryd.underlying2, rfl⟩, by kernel_rfl⟩
theorem ze_int64 : ZeroT PP 2 [.int .i64 0] := ⟨.int .i64 0, by kernel_rfl, rfl⟩
theorem el_int64 : ElemT PP 2 1 8 := ElemT.of (z := .int .i64 0) (by kernel_rfl) rfl (by decide)
theorem zv_int64 : (PP.info? 2).bind (·.zero) = some (.int .i64 0) := by kernel_rfl
theorem un_int64 : PP.underlying 2 = some (.int .i64) := Tryd.underlying2
abbrev T_int : TypeId := 3
theorem on_int : OneT PP 3 := ⟨⟨_, Tryd.underlying3, rfl⟩, by kernel_rfl⟩
theorem ze_int : ZeroT PP 3 [.int .i64 0] := ⟨.int .i64 0, by kernel_rfl, rfl⟩
theorem el_int : ElemT PP 3 1 8 := ElemT.of (z := .int .i64 0) (by kernel_rfl) rfl (by decide)
theorem zv_int : (PP.info? 3).bind (·.zero) = some (.int .i64 0) := by kernel_rfl
theorem un_int : PP.underlying 3 = some (.int .i64) := Tryd.underlying3
abbrev T_bool : TypeId := 4
theorem on_bool : OneT PP 4 := ⟨⟨_, Tryd.underlying4, rfl⟩, by kernel_rfl⟩
theorem ze_bool : ZeroT PP 4 [.bool false] := ⟨.bool false, by kernel_rfl, rfl⟩
theorem el_bool : ElemT PP 4 1 1 := ElemT.of (z := .bool false) (by kernel_rfl) rfl (by decide)
theorem zv_bool : (PP.info? 4).bind (·.zero) = some (.bool false) := by kernel_rfl
theorem un_bool : PP.underlying 4 = some .bool := Tryd.underlying4
abbrev T_uint8 : TypeId := 5
theorem on_uint8 : OneT PP 5 := ⟨⟨_, Tryd.underlying5, rfl⟩, by kernel_rfl⟩
theorem ze_uint8 : ZeroT PP 5 [.int .u8 0] := ⟨.int .u8 0, by kernel_rfl, rfl⟩
theorem el_uint8 : ElemT PP 5 1 1 := ElemT.of (z := .int .u8 0) (by kernel_rfl) rfl (by decide)
theorem zv_uint8 : (PP.info? 5).bind (·.zero) = some (.int .u8 0) := by kernel_rfl
theorem un_uint8 : PP.underlying 5 = some (.int .u8) := Tryd.underlying5
abbrev T_string : TypeId := 9
theorem on_string : OneT PP 9 := ⟨⟨_, Tryd.underlying9, rfl⟩, by kernel_rfl⟩
theorem ze_string : ZeroT PP 9 [.string ByteArray.empty] := ⟨.string ByteArray.empty, by kernel_rfl, rfl⟩
theorem el_string : ElemT PP 9 1 16 := ElemT.of (z := .string ByteArray.empty) (by kernel_rfl) rfl (by decide)
theorem zv_string : (PP.info? 9).bind (·.zero) = some (.string ByteArray.empty) := by kernel_rfl
theorem un_string : PP.underlying 9 = some .string := Tryd.underlying9
abbrev T_uintptr : TypeId := 12
theorem on_uintptr : OneT PP 12 := ⟨⟨_, Tryd.underlying12, rfl⟩, by kernel_rfl⟩
theorem ze_uintptr : ZeroT PP 12 [.int .u64 0] := ⟨.int .u64 0, by kernel_rfl, rfl⟩
theorem el_uintptr : ElemT PP 12 1 8 := ElemT.of (z := .int .u64 0) (by kernel_rfl) rfl (by decide)
theorem zv_uintptr : (PP.info? 12).bind (·.zero) = some (.int .u64 0) := by kernel_rfl
theorem un_uintptr : PP.underlying 12 = some (.int .u64) := Tryd.underlying12
abbrev T_int32 : TypeId := 21
theorem on_int32 : OneT PP 21 := ⟨⟨_, Tryd.underlying21, rfl⟩, by kernel_rfl⟩
theorem ze_int32 : ZeroT PP 21 [.int .i32 0] := ⟨.int .i32 0, by kernel_rfl, rfl⟩
theorem el_int32 : ElemT PP 21 1 4 := ElemT.of (z := .int .i32 0) (by kernel_rfl) rfl (by decide)
theorem zv_int32 : (PP.info? 21).bind (·.zero) = some (.int .i32 0) := by kernel_rfl
theorem un_int32 : PP.underlying 21 = some (.int .i32) := Tryd.underlying21
abbrev T_uint64 : TypeId := 22
theorem on_uint64 : OneT PP 22 := ⟨⟨_, Tryd.underlying22, rfl⟩, by kernel_rfl⟩
theorem ze_uint64 : ZeroT PP 22 [.int .u64 0] := ⟨.int .u64 0, by kernel_rfl, rfl⟩
theorem el_uint64 : ElemT PP 22 1 8 := ElemT.of (z := .int .u64 0) (by kernel_rfl) rfl (by decide)
theorem zv_uint64 : (PP.info? 22).bind (·.zero) = some (.int .u64 0) := by kernel_rfl
theorem un_uint64 : PP.underlying 22 = some (.int .u64) := Tryd.underlying22
theorem ar_16_uint64 : ArrT PP 23 16 22 1 := ⟨Tryd.underlying23, by kernel_rfl⟩
abbrev T_16_uint64 : TypeId := 23
abbrev T_Bits : TypeId := 24
theorem ag_Bits : AggT PP 24 16 := ⟨⟨_, Tryd.underlying24, rfl⟩, by kernel_rfl⟩
theorem ze_Bits : ZeroT PP 24 (Bits.C Bits.z) := ⟨.agg #[.int .u64 0, .int .u64 0, .int .u64 0, .int .u64 0, .int .u64 0, .int .u64 0, .int .u64 0, .int .u64 0, .int .u64 0, .int .u64 0, .int .u64 0, .int .u64 0, .int .u64 0, .int .u64 0, .int .u64 0, .int .u64 0], by kernel_rfl, by first | rfl | (simp [Value.cells, Bits.C, Bits.z, Bits.C, Bits.z, Sq.C, Sq.z, SlV.eq]; done) | (simp [Value.cells, Bits.C, Bits.z, Bits.C, Bits.z, Sq.C, Sq.z, SlV.eq]; rfl)⟩
theorem el_Bits : ElemT PP 24 16 128 := ElemT.of (z := .agg #[.int .u64 0, .int .u64 0, .int .u64 0, .int .u64 0, .int .u64 0, .int .u64 0, .int .u64 0, .int .u64 0, .int .u64 0, .int .u64 0, .int .u64 0, .int .u64 0, .int .u64 0, .int .u64 0, .int .u64 0, .int .u64 0]) (by kernel_rfl) rfl (by decide)
theorem ar_Bits : ArrT PP 24 16 22 1 := ⟨Tryd.underlying24, by kernel_rfl⟩
theorem bz_Bits : PP.built 24 [] = some (Bits.C Bits.z).toArray := by kernel_rfl
abbrev T_Sq : TypeId := 26
theorem ag_Sq : AggT PP 26 17 := ⟨⟨_, Tryd.underlying26, rfl⟩, by kernel_rfl⟩
theorem ze_Sq : ZeroT PP 26 (Sq.C Sq.z) := ⟨.agg #[.int .u64 0, .int .u64 0, .int .u64 0, .int .u64 0, .int .u64 0, .int .u64 0, .int .u64 0, .int .u64 0, .int .u64 0, .int .u64 0, .int .u64 0, .int .u64 0, .int .u64 0, .int .u64 0, .int .u64 0, .int .u64 0, .int .i64 0], by kernel_rfl, by first | rfl | (simp [Value.cells, Sq.C, Sq.z, Bits.C, Bits.z, Sq.C, Sq.z, SlV.eq]; done) | (simp [Value.cells, Sq.C, Sq.z, Bits.C, Bits.z, Sq.C, Sq.z, SlV.eq]; rfl)⟩
theorem el_Sq : ElemT PP 26 17 136 := ElemT.of (z := .agg #[.int .u64 0, .int .u64 0, .int .u64 0, .int .u64 0, .int .u64 0, .int .u64 0, .int .u64 0, .int .u64 0, .int .u64 0, .int .u64 0, .int .u64 0, .int .u64 0, .int .u64 0, .int .u64 0, .int .u64 0, .int .u64 0, .int .i64 0]) (by kernel_rfl) rfl (by decide)
theorem bu_Sq : BuT PP 26 [(0, 16), (16, 1)] (Sq.C Sq.z) := fun parts => (show PP.built 26 parts = Instr.fill (fun i => [(0, 16), (16, 1)].toArray[i]?) (.agg #[.int .u64 0, .int .u64 0, .int .u64 0, .int .u64 0, .int .u64 0, .int .u64 0, .int .u64 0, .int .u64 0, .int .u64 0, .int .u64 0, .int .u64 0, .int .u64 0, .int .u64 0, .int .u64 0, .int .u64 0, .int .u64 0, .int .i64 0] : Value).cells parts by kernel_rfl).trans (by rw [show (.agg #[.int .u64 0, .int .u64 0, .int .u64 0, .int .u64 0, .int .u64 0, .int .u64 0, .int .u64 0, .int .u64 0, .int .u64 0, .int .u64 0, .int .u64 0, .int .u64 0, .int .u64 0, .int .u64 0, .int .u64 0, .int .u64 0, .int .i64 0] : Value).cells = (Sq.C Sq.z).toArray by first | rfl | (simp [Value.cells, Sq.C, Sq.z, Bits.C, Bits.z, Sq.C, Sq.z, SlV.eq]; done) | (simp [Value.cells, Sq.C, Sq.z, Bits.C, Bits.z, Sq.C, Sq.z, SlV.eq]; rfl)])
theorem fl_Sq_left : FieldT PP 26 0 0 := ⟨_, _, 15, Tryd.underlying26, rfl, rfl, by kernel_rfl⟩
theorem fv_Sq_left : FieldV PP 26 0 0 24 := ⟨_, _, Tryd.underlying26, rfl, rfl, rfl⟩
theorem fl_Sq_goal : FieldT PP 26 1 16 := ⟨_, _, 0, Tryd.underlying26, rfl, rfl, by kernel_rfl⟩
theorem fv_Sq_goal : FieldV PP 26 1 16 3 := ⟨_, _, Tryd.underlying26, rfl, rfl, rfl⟩
abbrev T_api_Rule : TypeId := 27
theorem on_api_Rule : OneT PP 27 := ⟨⟨_, Tryd.underlying27, rfl⟩, by kernel_rfl⟩
theorem ze_api_Rule : ZeroT PP 27 [.int .i64 0] := ⟨.int .i64 0, by kernel_rfl, rfl⟩
theorem el_api_Rule : ElemT PP 27 1 8 := ElemT.of (z := .int .i64 0) (by kernel_rfl) rfl (by decide)
theorem zv_api_Rule : (PP.info? 27).bind (·.zero) = some (.int .i64 0) := by kernel_rfl
theorem un_api_Rule : PP.underlying 27 = some (.int .i64) := Tryd.underlying27
abbrev T_dictum_formula_has : TypeId := 28
theorem on_dictum_formula_has : OneT PP 28 := ⟨⟨_, Tryd.underlying28, rfl⟩, by kernel_rfl⟩
theorem ze_dictum_formula_has : ZeroT PP 28 [.pointer none] := ⟨.pointer none, by kernel_rfl, rfl⟩
theorem el_dictum_formula_has : ElemT PP 28 1 8 := ElemT.of (z := .pointer none) (by kernel_rfl) rfl (by decide)
theorem un_dictum_formula_has : PP.underlying 28 = some (.pointer 33) := Tryd.underlying28
abbrev T_func_P_formula_Table_api_Seq_api_Rule_int_bool : TypeId := 29
theorem on_func_P_formula_Table_api_Seq_api_Rule_int_bool : OneT PP 29 := ⟨⟨_, Tryd.underlying29, rfl⟩, by kernel_rfl⟩
theorem ze_func_P_formula_Table_api_Seq_api_Rule_int_bool : ZeroT PP 29 [.nilFunc] := ⟨.nilFunc, by kernel_rfl, rfl⟩
theorem el_func_P_formula_Table_api_Seq_api_Rule_int_bool : ElemT PP 29 1 8 := ElemT.of (z := .nilFunc) (by kernel_rfl) rfl (by decide)
abbrev T_L_api_Node : TypeId := 30
theorem on_L_api_Node : OneT PP 30 := ⟨⟨_, Tryd.underlying30, rfl⟩, by kernel_rfl⟩
theorem ze_L_api_Node : ZeroT PP 30 [.slice none 0 0] := ⟨.slice none 0 0, by kernel_rfl, rfl⟩
theorem el_L_api_Node : ElemT PP 30 1 24 := ElemT.of (z := .slice none 0 0) (by kernel_rfl) rfl (by decide)
theorem zs_L_api_Node : ZeroT PP 30 [SlV.nil.v] := ⟨.slice none 0 0, by kernel_rfl, by rw [← SlV.nil_eq]; rfl⟩
theorem sl_L_api_Node : SliceT PP 30 92 4 := ⟨Tryd.underlying30, by kernel_rfl⟩
abbrev T_M_api_Node_int : TypeId := 31
theorem on_M_api_Node_int : OneT PP 31 := ⟨⟨_, Tryd.underlying31, rfl⟩, by kernel_rfl⟩
theorem ze_M_api_Node_int : ZeroT PP 31 [.map none] := ⟨.map none, by kernel_rfl, rfl⟩
theorem el_M_api_Node_int : ElemT PP 31 1 8 := ElemT.of (z := .map none) (by kernel_rfl) rfl (by decide)
theorem un_M_api_Node_int : PP.underlying 31 = some (.map 92 3) := Tryd.underlying31
abbrev T_Tab : TypeId := 33
theorem ag_Tab : AggT PP 33 2 := ⟨⟨_, Tryd.underlying33, rfl⟩, by kernel_rfl⟩
theorem ze_Tab : ZeroT PP 33 (Tab.C Tab.z) := ⟨.agg #[.slice none 0 0, .map none], by kernel_rfl, by first | rfl | (simp [Value.cells, Tab.C, Tab.z, Bits.C, Bits.z, Sq.C, Sq.z, SlV.eq]; done) | (simp [Value.cells, Tab.C, Tab.z, Bits.C, Bits.z, Sq.C, Sq.z, SlV.eq]; rfl)⟩
theorem el_Tab : ElemT PP 33 2 32 := ElemT.of (z := .agg #[.slice none 0 0, .map none]) (by kernel_rfl) rfl (by decide)
theorem bu_Tab : BuT PP 33 [(0, 1), (1, 1)] (Tab.C Tab.z) := fun parts => (show PP.built 33 parts = Instr.fill (fun i => [(0, 1), (1, 1)].toArray[i]?) (.agg #[.slice none 0 0, .map none] : Value).cells parts by kernel_rfl).trans (by rw [show (.agg #[.slice none 0 0, .map none] : Value).cells = (Tab.C Tab.z).toArray by first | rfl | (simp [Value.cells, Tab.C, Tab.z, Bits.C, Bits.z, Sq.C, Sq.z, SlV.eq]; done) | (simp [Value.cells, Tab.C, Tab.z, Bits.C, Bits.z, Sq.C, Sq.z, SlV.eq]; rfl)])
theorem fl_Tab_rows : FieldT PP 33 0 0 := ⟨_, _, 0, Tryd.underlying33, rfl, rfl, by kernel_rfl⟩
theorem fv_Tab_rows : FieldV PP 33 0 0 30 := ⟨_, _, Tryd.underlying33, rfl, rfl, rfl⟩
theorem fl_Tab_at_ : FieldT PP 33 1 1 := ⟨_, _, 0, Tryd.underlying33, rfl, rfl, by kernel_rfl⟩
theorem fv_Tab_at_ : FieldV PP 33 1 1 31 := ⟨_, _, Tryd.underlying33, rfl, rfl, rfl⟩
abbrev T_func_bool : TypeId := 34
theorem on_func_bool : OneT PP 34 := ⟨⟨_, Tryd.underlying34, rfl⟩, by kernel_rfl⟩
theorem ze_func_bool : ZeroT PP 34 [.nilFunc] := ⟨.nilFunc, by kernel_rfl, rfl⟩
theorem el_func_bool : ElemT PP 34 1 8 := ElemT.of (z := .nilFunc) (by kernel_rfl) rfl (by decide)
abbrev T_func_api_Seq_api_Rule_int_bool : TypeId := 35
theorem on_func_api_Seq_api_Rule_int_bool : OneT PP 35 := ⟨⟨_, Tryd.underlying35, rfl⟩, by kernel_rfl⟩
theorem ze_func_api_Seq_api_Rule_int_bool : ZeroT PP 35 [.nilFunc] := ⟨.nilFunc, by kernel_rfl, rfl⟩
theorem el_func_api_Seq_api_Rule_int_bool : ElemT PP 35 1 8 := ElemT.of (z := .nilFunc) (by kernel_rfl) rfl (by decide)
abbrev T_Two : TypeId := 36
theorem on_Two : OneT PP 36 := ⟨⟨_, Tryd.underlying36, rfl⟩, by kernel_rfl⟩
theorem ze_Two : ZeroT PP 36 [.pointer none] := ⟨.pointer none, by kernel_rfl, rfl⟩
theorem el_Two : ElemT PP 36 1 8 := ElemT.of (z := .pointer none) (by kernel_rfl) rfl (by decide)
theorem un_Two : PP.underlying 36 = some (.pointer 68) := Tryd.underlying36
abbrev T_func_L_api_Node_P_formula_Table_P_dictumref03_T_bool : TypeId := 38
theorem on_func_L_api_Node_P_formula_Table_P_dictumref03_T_bool : OneT PP 38 := ⟨⟨_, Tryd.underlying38, rfl⟩, by kernel_rfl⟩
theorem ze_func_L_api_Node_P_formula_Table_P_dictumref03_T_bool : ZeroT PP 38 [.nilFunc] := ⟨.nilFunc, by kernel_rfl, rfl⟩
theorem el_func_L_api_Node_P_formula_Table_P_dictumref03_T_bool : ElemT PP 38 1 8 := ElemT.of (z := .nilFunc) (by kernel_rfl) rfl (by decide)
abbrev T_api_Errno : TypeId := 39
theorem on_api_Errno : OneT PP 39 := ⟨⟨_, Tryd.underlying39, rfl⟩, by kernel_rfl⟩
theorem ze_api_Errno : ZeroT PP 39 [.int .i64 0] := ⟨.int .i64 0, by kernel_rfl, rfl⟩
theorem el_api_Errno : ElemT PP 39 1 8 := ElemT.of (z := .int .i64 0) (by kernel_rfl) rfl (by decide)
theorem zv_api_Errno : (PP.info? 39).bind (·.zero) = some (.int .i64 0) := by kernel_rfl
theorem un_api_Errno : PP.underlying 39 = some (.int .i64) := Tryd.underlying39
abbrev T_func_P_formula_Table_api_Seq_api_Rule_int_api_Errno : TypeId := 41
theorem on_func_P_formula_Table_api_Seq_api_Rule_int_api_Errno : OneT PP 41 := ⟨⟨_, Tryd.underlying41, rfl⟩, by kernel_rfl⟩
theorem ze_func_P_formula_Table_api_Seq_api_Rule_int_api_Errno : ZeroT PP 41 [.nilFunc] := ⟨.nilFunc, by kernel_rfl, rfl⟩
theorem el_func_P_formula_Table_api_Seq_api_Rule_int_api_Errno : ElemT PP 41 1 8 := ElemT.of (z := .nilFunc) (by kernel_rfl) rfl (by decide)
abbrev T_L_api_Rule : TypeId := 42
theorem on_L_api_Rule : OneT PP 42 := ⟨⟨_, Tryd.underlying42, rfl⟩, by kernel_rfl⟩
theorem ze_L_api_Rule : ZeroT PP 42 [.slice none 0 0] := ⟨.slice none 0 0, by kernel_rfl, rfl⟩
theorem el_L_api_Rule : ElemT PP 42 1 24 := ElemT.of (z := .slice none 0 0) (by kernel_rfl) rfl (by decide)
theorem zs_L_api_Rule : ZeroT PP 42 [SlV.nil.v] := ⟨.slice none 0 0, by kernel_rfl, by rw [← SlV.nil_eq]; rfl⟩
theorem sl_L_api_Rule : SliceT PP 42 27 1 := ⟨Tryd.underlying42, by kernel_rfl⟩
abbrev T_L_int : TypeId := 43
theorem on_L_int : OneT PP 43 := ⟨⟨_, Tryd.underlying43, rfl⟩, by kernel_rfl⟩
theorem ze_L_int : ZeroT PP 43 [.slice none 0 0] := ⟨.slice none 0 0, by kernel_rfl, rfl⟩
theorem el_L_int : ElemT PP 43 1 24 := ElemT.of (z := .slice none 0 0) (by kernel_rfl) rfl (by decide)
theorem zs_L_int : ZeroT PP 43 [SlV.nil.v] := ⟨.slice none 0 0, by kernel_rfl, by rw [← SlV.nil_eq]; rfl⟩
theorem sl_L_int : SliceT PP 43 3 1 := ⟨Tryd.underlying43, by kernel_rfl⟩
abbrev T_func_P_formula_Table_api_Seq_L_api_Rule_L_int_api_Errno : TypeId := 45
theorem on_func_P_formula_Table_api_Seq_L_api_Rule_L_int_api_Errno : OneT PP 45 := ⟨⟨_, Tryd.underlying45, rfl⟩, by kernel_rfl⟩
theorem ze_func_P_formula_Table_api_Seq_L_api_Rule_L_int_api_Errno : ZeroT PP 45 [.nilFunc] := ⟨.nilFunc, by kernel_rfl, rfl⟩
theorem el_func_P_formula_Table_api_Seq_L_api_Rule_L_int_api_Errno : ElemT PP 45 1 8 := ElemT.of (z := .nilFunc) (by kernel_rfl) rfl (by decide)
abbrev T_func_P_formula_Table_api_Seq_api_Rule_int_bool_api_Errno : TypeId := 47
theorem on_func_P_formula_Table_api_Seq_api_Rule_int_bool_api_Errno : OneT PP 47 := ⟨⟨_, Tryd.underlying47, rfl⟩, by kernel_rfl⟩
theorem ze_func_P_formula_Table_api_Seq_api_Rule_int_bool_api_Errno : ZeroT PP 47 [.nilFunc] := ⟨.nilFunc, by kernel_rfl, rfl⟩
theorem el_func_P_formula_Table_api_Seq_api_Rule_int_bool_api_Errno : ElemT PP 47 1 8 := ElemT.of (z := .nilFunc) (by kernel_rfl) rfl (by decide)
abbrev T_func_P_dictumref03_T_api_Seq_bool : TypeId := 48
theorem on_func_P_dictumref03_T_api_Seq_bool : OneT PP 48 := ⟨⟨_, Tryd.underlying48, rfl⟩, by kernel_rfl⟩
theorem ze_func_P_dictumref03_T_api_Seq_bool : ZeroT PP 48 [.nilFunc] := ⟨.nilFunc, by kernel_rfl, rfl⟩
theorem el_func_P_dictumref03_T_api_Seq_bool : ElemT PP 48 1 8 := ElemT.of (z := .nilFunc) (by kernel_rfl) rfl (by decide)
abbrev T_func_P_dictumref03_T_api_Seq_api_Rule_int : TypeId := 50
theorem on_func_P_dictumref03_T_api_Seq_api_Rule_int : OneT PP 50 := ⟨⟨_, Tryd.underlying50, rfl⟩, by kernel_rfl⟩
theorem ze_func_P_dictumref03_T_api_Seq_api_Rule_int : ZeroT PP 50 [.nilFunc] := ⟨.nilFunc, by kernel_rfl, rfl⟩
theorem el_func_P_dictumref03_T_api_Seq_api_Rule_int : ElemT PP 50 1 8 := ElemT.of (z := .nilFunc) (by kernel_rfl) rfl (by decide)
abbrev T_func_P_dictumref03_T_api_Seq_L_api_Rule_L_int : TypeId := 52
theorem on_func_P_dictumref03_T_api_Seq_L_api_Rule_L_int : OneT PP 52 := ⟨⟨_, Tryd.underlying52, rfl⟩, by kernel_rfl⟩
theorem ze_func_P_dictumref03_T_api_Seq_L_api_Rule_L_int : ZeroT PP 52 [.nilFunc] := ⟨.nilFunc, by kernel_rfl, rfl⟩
theorem el_func_P_dictumref03_T_api_Seq_L_api_Rule_L_int : ElemT PP 52 1 8 := ElemT.of (z := .nilFunc) (by kernel_rfl) rfl (by decide)
abbrev T_func_L_api_Rule_L_api_Rule_bool : TypeId := 53
theorem on_func_L_api_Rule_L_api_Rule_bool : OneT PP 53 := ⟨⟨_, Tryd.underlying53, rfl⟩, by kernel_rfl⟩
theorem ze_func_L_api_Rule_L_api_Rule_bool : ZeroT PP 53 [.nilFunc] := ⟨.nilFunc, by kernel_rfl, rfl⟩
theorem el_func_L_api_Rule_L_api_Rule_bool : ElemT PP 53 1 8 := ElemT.of (z := .nilFunc) (by kernel_rfl) rfl (by decide)
abbrev T_func_L_int_L_int_bool : TypeId := 54
theorem on_func_L_int_L_int_bool : OneT PP 54 := ⟨⟨_, Tryd.underlying54, rfl⟩, by kernel_rfl⟩
theorem ze_func_L_int_L_int_bool : ZeroT PP 54 [.nilFunc] := ⟨.nilFunc, by kernel_rfl, rfl⟩
theorem el_func_L_int_L_int_bool : ElemT PP 54 1 8 := ElemT.of (z := .nilFunc) (by kernel_rfl) rfl (by decide)
abbrev T_func_P_dictumref03_T_api_Seq_api_Rule_int_bool : TypeId := 55
theorem on_func_P_dictumref03_T_api_Seq_api_Rule_int_bool : OneT PP 55 := ⟨⟨_, Tryd.underlying55, rfl⟩, by kernel_rfl⟩
theorem ze_func_P_dictumref03_T_api_Seq_api_Rule_int_bool : ZeroT PP 55 [.nilFunc] := ⟨.nilFunc, by kernel_rfl, rfl⟩
theorem el_func_P_dictumref03_T_api_Seq_api_Rule_int_bool : ElemT PP 55 1 8 := ElemT.of (z := .nilFunc) (by kernel_rfl) rfl (by decide)
abbrev T_func_P_formula_Table_P_dictumref03_T_bool : TypeId := 56
theorem on_func_P_formula_Table_P_dictumref03_T_bool : OneT PP 56 := ⟨⟨_, Tryd.underlying56, rfl⟩, by kernel_rfl⟩
theorem ze_func_P_formula_Table_P_dictumref03_T_bool : ZeroT PP 56 [.nilFunc] := ⟨.nilFunc, by kernel_rfl, rfl⟩
theorem el_func_P_formula_Table_P_dictumref03_T_bool : ElemT PP 56 1 8 := ElemT.of (z := .nilFunc) (by kernel_rfl) rfl (by decide)
abbrev T_func_L_api_Node_api_Seq_api_Rule_int_bool : TypeId := 57
theorem on_func_L_api_Node_api_Seq_api_Rule_int_bool : OneT PP 57 := ⟨⟨_, Tryd.underlying57, rfl⟩, by kernel_rfl⟩
theorem ze_func_L_api_Node_api_Seq_api_Rule_int_bool : ZeroT PP 57 [.nilFunc] := ⟨.nilFunc, by kernel_rfl, rfl⟩
theorem el_func_L_api_Node_api_Seq_api_Rule_int_bool : ElemT PP 57 1 8 := ElemT.of (z := .nilFunc) (by kernel_rfl) rfl (by decide)
abbrev T_L_api_Seq : TypeId := 58
theorem on_L_api_Seq : OneT PP 58 := ⟨⟨_, Tryd.underlying58, rfl⟩, by kernel_rfl⟩
theorem ze_L_api_Seq : ZeroT PP 58 [.slice none 0 0] := ⟨.slice none 0 0, by kernel_rfl, rfl⟩
theorem el_L_api_Seq : ElemT PP 58 1 24 := ElemT.of (z := .slice none 0 0) (by kernel_rfl) rfl (by decide)
theorem zs_L_api_Seq : ZeroT PP 58 [SlV.nil.v] := ⟨.slice none 0 0, by kernel_rfl, by rw [← SlV.nil_eq]; rfl⟩
theorem sl_L_api_Seq : SliceT PP 58 26 17 := ⟨Tryd.underlying58, by kernel_rfl⟩
abbrev T_func_P_formula_Table_api_Seq_api_Rule_int_L_api_Seq_api_Errno : TypeId := 60
theorem on_func_P_formula_Table_api_Seq_api_Rule_int_L_api_Seq_api_Errno : OneT PP 60 := ⟨⟨_, Tryd.underlying60, rfl⟩, by kernel_rfl⟩
theorem ze_func_P_formula_Table_api_Seq_api_Rule_int_L_api_Seq_api_Errno : ZeroT PP 60 [.nilFunc] := ⟨.nilFunc, by kernel_rfl, rfl⟩
theorem el_func_P_formula_Table_api_Seq_api_Rule_int_L_api_Seq_api_Errno : ElemT PP 60 1 8 := ElemT.of (z := .nilFunc) (by kernel_rfl) rfl (by decide)
abbrev T_func_P_dictumref03_T_api_Seq_api_Rule_int_L_api_Seq_int : TypeId := 62
theorem on_func_P_dictumref03_T_api_Seq_api_Rule_int_L_api_Seq_int : OneT PP 62 := ⟨⟨_, Tryd.underlying62, rfl⟩, by kernel_rfl⟩
theorem ze_func_P_dictumref03_T_api_Seq_api_Rule_int_L_api_Seq_int : ZeroT PP 62 [.nilFunc] := ⟨.nilFunc, by kernel_rfl, rfl⟩
theorem el_func_P_dictumref03_T_api_Seq_api_Rule_int_L_api_Seq_int : ElemT PP 62 1 8 := ElemT.of (z := .nilFunc) (by kernel_rfl) rfl (by decide)
abbrev T_func_L_api_Seq_L_api_Seq_bool : TypeId := 63
theorem on_func_L_api_Seq_L_api_Seq_bool : OneT PP 63 := ⟨⟨_, Tryd.underlying63, rfl⟩, by kernel_rfl⟩
theorem ze_func_L_api_Seq_L_api_Seq_bool : ZeroT PP 63 [.nilFunc] := ⟨.nilFunc, by kernel_rfl, rfl⟩
theorem el_func_L_api_Seq_L_api_Seq_bool : ElemT PP 63 1 8 := ElemT.of (z := .nilFunc) (by kernel_rfl) rfl (by decide)
abbrev T_func_P_formula_Table_api_Seq_int_L_api_Seq_api_Rule_bool : TypeId := 65
theorem on_func_P_formula_Table_api_Seq_int_L_api_Seq_api_Rule_bool : OneT PP 65 := ⟨⟨_, Tryd.underlying65, rfl⟩, by kernel_rfl⟩
theorem ze_func_P_formula_Table_api_Seq_int_L_api_Seq_api_Rule_bool : ZeroT PP 65 [.nilFunc] := ⟨.nilFunc, by kernel_rfl, rfl⟩
theorem el_func_P_formula_Table_api_Seq_int_L_api_Seq_api_Rule_bool : ElemT PP 65 1 8 := ElemT.of (z := .nilFunc) (by kernel_rfl) rfl (by decide)
abbrev T_func_L_api_Node : TypeId := 66
theorem on_func_L_api_Node : OneT PP 66 := ⟨⟨_, Tryd.underlying66, rfl⟩, by kernel_rfl⟩
theorem ze_func_L_api_Node : ZeroT PP 66 [.nilFunc] := ⟨.nilFunc, by kernel_rfl, rfl⟩
theorem el_func_L_api_Node : ElemT PP 66 1 8 := ElemT.of (z := .nilFunc) (by kernel_rfl) rfl (by decide)
abbrev T_RTab : TypeId := 68
theorem ag_RTab : AggT PP 68 1 := ⟨⟨_, Tryd.underlying68, rfl⟩, by kernel_rfl⟩
theorem ze_RTab : ZeroT PP 68 (RTab.C RTab.z) := ⟨.agg #[.slice none 0 0], by kernel_rfl, by first | rfl | (simp [Value.cells, RTab.C, RTab.z, Bits.C, Bits.z, Sq.C, Sq.z, SlV.eq]; done) | (simp [Value.cells, RTab.C, RTab.z, Bits.C, Bits.z, Sq.C, Sq.z, SlV.eq]; rfl)⟩
theorem el_RTab : ElemT PP 68 1 24 := ElemT.of (z := .agg #[.slice none 0 0]) (by kernel_rfl) rfl (by decide)
theorem bu_RTab : BuT PP 68 [(0, 1)] (RTab.C RTab.z) := fun parts => (show PP.built 68 parts = Instr.fill (fun i => [(0, 1)].toArray[i]?) (.agg #[.slice none 0 0] : Value).cells parts by kernel_rfl).trans (by rw [show (.agg #[.slice none 0 0] : Value).cells = (RTab.C RTab.z).toArray by first | rfl | (simp [Value.cells, RTab.C, RTab.z, Bits.C, Bits.z, Sq.C, Sq.z, SlV.eq]; done) | (simp [Value.cells, RTab.C, RTab.z, Bits.C, Bits.z, Sq.C, Sq.z, SlV.eq]; rfl)])
theorem fl_RTab_n : FieldT PP 68 0 0 := ⟨_, _, 0, Tryd.underlying68, rfl, rfl, by kernel_rfl⟩
theorem fv_RTab_n : FieldV PP 68 0 0 30 := ⟨_, _, Tryd.underlying68, rfl, rfl, rfl⟩
abbrev T_L_uint64 : TypeId := 69
theorem on_L_uint64 : OneT PP 69 := ⟨⟨_, Tryd.underlying69, rfl⟩, by kernel_rfl⟩
theorem ze_L_uint64 : ZeroT PP 69 [.slice none 0 0] := ⟨.slice none 0 0, by kernel_rfl, rfl⟩
theorem el_L_uint64 : ElemT PP 69 1 24 := ElemT.of (z := .slice none 0 0) (by kernel_rfl) rfl (by decide)
theorem zs_L_uint64 : ZeroT PP 69 [SlV.nil.v] := ⟨.slice none 0 0, by kernel_rfl, by rw [← SlV.nil_eq]; rfl⟩
theorem sl_L_uint64 : SliceT PP 69 22 1 := ⟨Tryd.underlying69, by kernel_rfl⟩
abbrev T_func_P_dictumref03_T_api_Seq_L_uint64 : TypeId := 70
theorem on_func_P_dictumref03_T_api_Seq_L_uint64 : OneT PP 70 := ⟨⟨_, Tryd.underlying70, rfl⟩, by kernel_rfl⟩
theorem ze_func_P_dictumref03_T_api_Seq_L_uint64 : ZeroT PP 70 [.nilFunc] := ⟨.nilFunc, by kernel_rfl, rfl⟩
theorem el_func_P_dictumref03_T_api_Seq_L_uint64 : ElemT PP 70 1 8 := ElemT.of (z := .nilFunc) (by kernel_rfl) rfl (by decide)
abbrev T_func_L_uint64_L_uint64_bool : TypeId := 71
theorem on_func_L_uint64_L_uint64_bool : OneT PP 71 := ⟨⟨_, Tryd.underlying71, rfl⟩, by kernel_rfl⟩
theorem ze_func_L_uint64_L_uint64_bool : ZeroT PP 71 [.nilFunc] := ⟨.nilFunc, by kernel_rfl, rfl⟩
theorem el_func_L_uint64_L_uint64_bool : ElemT PP 71 1 8 := ElemT.of (z := .nilFunc) (by kernel_rfl) rfl (by decide)
abbrev T_func_L_api_Node_api_Seq_L_int_bool : TypeId := 72
theorem on_func_L_api_Node_api_Seq_L_int_bool : OneT PP 72 := ⟨⟨_, Tryd.underlying72, rfl⟩, by kernel_rfl⟩
theorem ze_func_L_api_Node_api_Seq_L_int_bool : ZeroT PP 72 [.nilFunc] := ⟨.nilFunc, by kernel_rfl, rfl⟩
theorem el_func_L_api_Node_api_Seq_L_int_bool : ElemT PP 72 1 8 := ElemT.of (z := .nilFunc) (by kernel_rfl) rfl (by decide)
abbrev T_L_bool : TypeId := 73
theorem on_L_bool : OneT PP 73 := ⟨⟨_, Tryd.underlying73, rfl⟩, by kernel_rfl⟩
theorem ze_L_bool : ZeroT PP 73 [.slice none 0 0] := ⟨.slice none 0 0, by kernel_rfl, rfl⟩
theorem el_L_bool : ElemT PP 73 1 24 := ElemT.of (z := .slice none 0 0) (by kernel_rfl) rfl (by decide)
theorem zs_L_bool : ZeroT PP 73 [SlV.nil.v] := ⟨.slice none 0 0, by kernel_rfl, by rw [← SlV.nil_eq]; rfl⟩
theorem sl_L_bool : SliceT PP 73 4 1 := ⟨Tryd.underlying73, by kernel_rfl⟩
abbrev T_func_L_api_Node_uint64_L_bool : TypeId := 74
theorem on_func_L_api_Node_uint64_L_bool : OneT PP 74 := ⟨⟨_, Tryd.underlying74, rfl⟩, by kernel_rfl⟩
theorem ze_func_L_api_Node_uint64_L_bool : ZeroT PP 74 [.nilFunc] := ⟨.nilFunc, by kernel_rfl, rfl⟩
theorem el_func_L_api_Node_uint64_L_bool : ElemT PP 74 1 8 := ElemT.of (z := .nilFunc) (by kernel_rfl) rfl (by decide)
abbrev T_func_L_bool_api_Seq_bool : TypeId := 75
theorem on_func_L_bool_api_Seq_bool : OneT PP 75 := ⟨⟨_, Tryd.underlying75, rfl⟩, by kernel_rfl⟩
theorem ze_func_L_bool_api_Seq_bool : ZeroT PP 75 [.nilFunc] := ⟨.nilFunc, by kernel_rfl, rfl⟩
theorem el_func_L_bool_api_Seq_bool : ElemT PP 75 1 8 := ElemT.of (z := .nilFunc) (by kernel_rfl) rfl (by decide)
abbrev T_func_L_api_Node_api_Seq_int_uint64_bool : TypeId := 76
theorem on_func_L_api_Node_api_Seq_int_uint64_bool : OneT PP 76 := ⟨⟨_, Tryd.underlying76, rfl⟩, by kernel_rfl⟩
theorem ze_func_L_api_Node_api_Seq_int_uint64_bool : ZeroT PP 76 [.nilFunc] := ⟨.nilFunc, by kernel_rfl, rfl⟩
theorem el_func_L_api_Node_api_Seq_int_uint64_bool : ElemT PP 76 1 8 := ElemT.of (z := .nilFunc) (by kernel_rfl) rfl (by decide)
abbrev T_L_api_Step : TypeId := 77
theorem on_L_api_Step : OneT PP 77 := ⟨⟨_, Tryd.underlying77, rfl⟩, by kernel_rfl⟩
theorem ze_L_api_Step : ZeroT PP 77 [.slice none 0 0] := ⟨.slice none 0 0, by kernel_rfl, rfl⟩
theorem el_L_api_Step : ElemT PP 77 1 24 := ElemT.of (z := .slice none 0 0) (by kernel_rfl) rfl (by decide)
theorem zs_L_api_Step : ZeroT PP 77 [SlV.nil.v] := ⟨.slice none 0 0, by kernel_rfl, by rw [← SlV.nil_eq]; rfl⟩
theorem sl_L_api_Step : SliceT PP 77 83 21 := ⟨Tryd.underlying77, by kernel_rfl⟩
abbrev T_Found : TypeId := 79
theorem ag_Found : AggT PP 79 3 := ⟨⟨_, Tryd.underlying79, rfl⟩, by kernel_rfl⟩
theorem ze_Found : ZeroT PP 79 (Found.C Found.z) := ⟨.agg #[.bool false, .slice none 0 0, .int .i64 0], by kernel_rfl, by first | rfl | (simp [Value.cells, Found.C, Found.z, Bits.C, Bits.z, Sq.C, Sq.z, SlV.eq]; done) | (simp [Value.cells, Found.C, Found.z, Bits.C, Bits.z, Sq.C, Sq.z, SlV.eq]; rfl)⟩
theorem el_Found : ElemT PP 79 3 40 := ElemT.of (z := .agg #[.bool false, .slice none 0 0, .int .i64 0]) (by kernel_rfl) rfl (by decide)
theorem bu_Found : BuT PP 79 [(0, 1), (1, 1), (2, 1)] (Found.C Found.z) := fun parts => (show PP.built 79 parts = Instr.fill (fun i => [(0, 1), (1, 1), (2, 1)].toArray[i]?) (.agg #[.bool false, .slice none 0 0, .int .i64 0] : Value).cells parts by kernel_rfl).trans (by rw [show (.agg #[.bool false, .slice none 0 0, .int .i64 0] : Value).cells = (Found.C Found.z).toArray by first | rfl | (simp [Value.cells, Found.C, Found.z, Bits.C, Bits.z, Sq.C, Sq.z, SlV.eq]; done) | (simp [Value.cells, Found.C, Found.z, Bits.C, Bits.z, Sq.C, Sq.z, SlV.eq]; rfl)])
theorem fl_Found_proved : FieldT PP 79 0 0 := ⟨_, _, 0, Tryd.underlying79, rfl, rfl, by kernel_rfl⟩
theorem fv_Found_proved : FieldV PP 79 0 0 4 := ⟨_, _, Tryd.underlying79, rfl, rfl, rfl⟩
theorem fl_Found_steps : FieldT PP 79 1 1 := ⟨_, _, 0, Tryd.underlying79, rfl, rfl, by kernel_rfl⟩
theorem fv_Found_steps : FieldV PP 79 1 1 77 := ⟨_, _, Tryd.underlying79, rfl, rfl, rfl⟩
theorem fl_Found_visits : FieldT PP 79 2 2 := ⟨_, _, 0, Tryd.underlying79, rfl, rfl, by kernel_rfl⟩
theorem fv_Found_visits : FieldV PP 79 2 2 3 := ⟨_, _, Tryd.underlying79, rfl, rfl, rfl⟩
abbrev T_func_P_formula_Table_api_Seq_int_api_Found_api_Errno : TypeId := 81
theorem on_func_P_formula_Table_api_Seq_int_api_Found_api_Errno : OneT PP 81 := ⟨⟨_, Tryd.underlying81, rfl⟩, by kernel_rfl⟩
theorem ze_func_P_formula_Table_api_Seq_int_api_Found_api_Errno : ZeroT PP 81 [.nilFunc] := ⟨.nilFunc, by kernel_rfl, rfl⟩
theorem el_func_P_formula_Table_api_Seq_int_api_Found_api_Errno : ElemT PP 81 1 8 := ElemT.of (z := .nilFunc) (by kernel_rfl) rfl (by decide)
abbrev T_Step : TypeId := 83
theorem ag_Step : AggT PP 83 21 := ⟨⟨_, Tryd.underlying83, rfl⟩, by kernel_rfl⟩
theorem ze_Step : ZeroT PP 83 (Step.C Step.z) := ⟨.agg #[.int .u64 0, .int .u64 0, .int .u64 0, .int .u64 0, .int .u64 0, .int .u64 0, .int .u64 0, .int .u64 0, .int .u64 0, .int .u64 0, .int .u64 0, .int .u64 0, .int .u64 0, .int .u64 0, .int .u64 0, .int .u64 0, .int .i64 0, .bool false, .int .i64 0, .int .i64 0, .slice none 0 0], by kernel_rfl, by first | rfl | (simp [Value.cells, Step.C, Step.z, Bits.C, Bits.z, Sq.C, Sq.z, SlV.eq]; done) | (simp [Value.cells, Step.C, Step.z, Bits.C, Bits.z, Sq.C, Sq.z, SlV.eq]; rfl)⟩
theorem el_Step : ElemT PP 83 21 184 := ElemT.of (z := .agg #[.int .u64 0, .int .u64 0, .int .u64 0, .int .u64 0, .int .u64 0, .int .u64 0, .int .u64 0, .int .u64 0, .int .u64 0, .int .u64 0, .int .u64 0, .int .u64 0, .int .u64 0, .int .u64 0, .int .u64 0, .int .u64 0, .int .i64 0, .bool false, .int .i64 0, .int .i64 0, .slice none 0 0]) (by kernel_rfl) rfl (by decide)
theorem bu_Step : BuT PP 83 [(0, 17), (17, 1), (18, 1), (19, 1), (20, 1)] (Step.C Step.z) := fun parts => (show PP.built 83 parts = Instr.fill (fun i => [(0, 17), (17, 1), (18, 1), (19, 1), (20, 1)].toArray[i]?) (.agg #[.int .u64 0, .int .u64 0, .int .u64 0, .int .u64 0, .int .u64 0, .int .u64 0, .int .u64 0, .int .u64 0, .int .u64 0, .int .u64 0, .int .u64 0, .int .u64 0, .int .u64 0, .int .u64 0, .int .u64 0, .int .u64 0, .int .i64 0, .bool false, .int .i64 0, .int .i64 0, .slice none 0 0] : Value).cells parts by kernel_rfl).trans (by rw [show (.agg #[.int .u64 0, .int .u64 0, .int .u64 0, .int .u64 0, .int .u64 0, .int .u64 0, .int .u64 0, .int .u64 0, .int .u64 0, .int .u64 0, .int .u64 0, .int .u64 0, .int .u64 0, .int .u64 0, .int .u64 0, .int .u64 0, .int .i64 0, .bool false, .int .i64 0, .int .i64 0, .slice none 0 0] : Value).cells = (Step.C Step.z).toArray by first | rfl | (simp [Value.cells, Step.C, Step.z, Bits.C, Bits.z, Sq.C, Sq.z, SlV.eq]; done) | (simp [Value.cells, Step.C, Step.z, Bits.C, Bits.z, Sq.C, Sq.z, SlV.eq]; rfl)])
theorem fl_Step_seq : FieldT PP 83 0 0 := ⟨_, _, 16, Tryd.underlying83, rfl, rfl, by kernel_rfl⟩
theorem fv_Step_seq : FieldV PP 83 0 0 26 := ⟨_, _, Tryd.underlying83, rfl, rfl, rfl⟩
theorem fl_Step_proved : FieldT PP 83 1 17 := ⟨_, _, 0, Tryd.underlying83, rfl, rfl, by kernel_rfl⟩
theorem fv_Step_proved : FieldV PP 83 1 17 4 := ⟨_, _, Tryd.underlying83, rfl, rfl, rfl⟩
theorem fl_Step_rule : FieldT PP 83 2 18 := ⟨_, _, 0, Tryd.underlying83, rfl, rfl, by kernel_rfl⟩
theorem fv_Step_rule : FieldV PP 83 2 18 27 := ⟨_, _, Tryd.underlying83, rfl, rfl, rfl⟩
theorem fl_Step_main : FieldT PP 83 3 19 := ⟨_, _, 0, Tryd.underlying83, rfl, rfl, by kernel_rfl⟩
theorem fv_Step_main : FieldV PP 83 3 19 3 := ⟨_, _, Tryd.underlying83, rfl, rfl, rfl⟩
theorem fl_Step_kids : FieldT PP 83 4 20 := ⟨_, _, 0, Tryd.underlying83, rfl, rfl, by kernel_rfl⟩
theorem fv_Step_kids : FieldV PP 83 4 20 43 := ⟨_, _, Tryd.underlying83, rfl, rfl, rfl⟩
abbrev T_func_L_api_Node_api_Seq_int_bool : TypeId := 84
theorem on_func_L_api_Node_api_Seq_int_bool : OneT PP 84 := ⟨⟨_, Tryd.underlying84, rfl⟩, by kernel_rfl⟩
theorem ze_func_L_api_Node_api_Seq_int_bool : ZeroT PP 84 [.nilFunc] := ⟨.nilFunc, by kernel_rfl, rfl⟩
theorem el_func_L_api_Node_api_Seq_int_bool : ElemT PP 84 1 8 := ElemT.of (z := .nilFunc) (by kernel_rfl) rfl (by decide)
abbrev T_func_api_Seq_int_api_Seq_bool : TypeId := 86
theorem on_func_api_Seq_int_api_Seq_bool : OneT PP 86 := ⟨⟨_, Tryd.underlying86, rfl⟩, by kernel_rfl⟩
theorem ze_func_api_Seq_int_api_Seq_bool : ZeroT PP 86 [.nilFunc] := ⟨.nilFunc, by kernel_rfl, rfl⟩
theorem el_func_api_Seq_int_api_Seq_bool : ElemT PP 86 1 8 := ElemT.of (z := .nilFunc) (by kernel_rfl) rfl (by decide)
abbrev T_func_P_formula_Table_api_Seq_int : TypeId := 87
theorem on_func_P_formula_Table_api_Seq_int : OneT PP 87 := ⟨⟨_, Tryd.underlying87, rfl⟩, by kernel_rfl⟩
theorem ze_func_P_formula_Table_api_Seq_int : ZeroT PP 87 [.nilFunc] := ⟨.nilFunc, by kernel_rfl, rfl⟩
theorem el_func_P_formula_Table_api_Seq_int : ElemT PP 87 1 8 := ElemT.of (z := .nilFunc) (by kernel_rfl) rfl (by decide)
abbrev T_func_int_int_int_api_Errno : TypeId := 89
theorem on_func_int_int_int_api_Errno : OneT PP 89 := ⟨⟨_, Tryd.underlying89, rfl⟩, by kernel_rfl⟩
theorem ze_func_int_int_int_api_Errno : ZeroT PP 89 [.nilFunc] := ⟨.nilFunc, by kernel_rfl, rfl⟩
theorem el_func_int_int_int_api_Errno : ElemT PP 89 1 8 := ElemT.of (z := .nilFunc) (by kernel_rfl) rfl (by decide)
abbrev T_api_Kind : TypeId := 90
theorem on_api_Kind : OneT PP 90 := ⟨⟨_, Tryd.underlying90, rfl⟩, by kernel_rfl⟩
theorem ze_api_Kind : ZeroT PP 90 [.int .i64 0] := ⟨.int .i64 0, by kernel_rfl, rfl⟩
theorem el_api_Kind : ElemT PP 90 1 8 := ElemT.of (z := .int .i64 0) (by kernel_rfl) rfl (by decide)
theorem zv_api_Kind : (PP.info? 90).bind (·.zero) = some (.int .i64 0) := by kernel_rfl
theorem un_api_Kind : PP.underlying 90 = some (.int .i64) := Tryd.underlying90
abbrev T_Nd : TypeId := 92
theorem ag_Nd : AggT PP 92 4 := ⟨⟨_, Tryd.underlying92, rfl⟩, by kernel_rfl⟩
theorem ze_Nd : ZeroT PP 92 (Nd.C Nd.z) := ⟨.agg #[.int .i64 0, .string ByteArray.empty, .int .i64 0, .int .i64 0], by kernel_rfl, by first | rfl | (simp [Value.cells, Nd.C, Nd.z, Bits.C, Bits.z, Sq.C, Sq.z, SlV.eq]; done) | (simp [Value.cells, Nd.C, Nd.z, Bits.C, Bits.z, Sq.C, Sq.z, SlV.eq]; rfl)⟩
theorem el_Nd : ElemT PP 92 4 40 := ElemT.of (z := .agg #[.int .i64 0, .string ByteArray.empty, .int .i64 0, .int .i64 0]) (by kernel_rfl) rfl (by decide)
theorem bu_Nd : BuT PP 92 [(0, 1), (1, 1), (2, 1), (3, 1)] (Nd.C Nd.z) := fun parts => (show PP.built 92 parts = Instr.fill (fun i => [(0, 1), (1, 1), (2, 1), (3, 1)].toArray[i]?) (.agg #[.int .i64 0, .string ByteArray.empty, .int .i64 0, .int .i64 0] : Value).cells parts by kernel_rfl).trans (by rw [show (.agg #[.int .i64 0, .string ByteArray.empty, .int .i64 0, .int .i64 0] : Value).cells = (Nd.C Nd.z).toArray by first | rfl | (simp [Value.cells, Nd.C, Nd.z, Bits.C, Bits.z, Sq.C, Sq.z, SlV.eq]; done) | (simp [Value.cells, Nd.C, Nd.z, Bits.C, Bits.z, Sq.C, Sq.z, SlV.eq]; rfl)])
theorem fl_Nd_kind : FieldT PP 92 0 0 := ⟨_, _, 0, Tryd.underlying92, rfl, rfl, by kernel_rfl⟩
theorem fv_Nd_kind : FieldV PP 92 0 0 90 := ⟨_, _, Tryd.underlying92, rfl, rfl, rfl⟩
theorem fl_Nd_name : FieldT PP 92 1 1 := ⟨_, _, 0, Tryd.underlying92, rfl, rfl, by kernel_rfl⟩
theorem fv_Nd_name : FieldV PP 92 1 1 9 := ⟨_, _, Tryd.underlying92, rfl, rfl, rfl⟩
theorem fl_Nd_l : FieldT PP 92 2 2 := ⟨_, _, 0, Tryd.underlying92, rfl, rfl, by kernel_rfl⟩
theorem fv_Nd_l : FieldV PP 92 2 2 3 := ⟨_, _, Tryd.underlying92, rfl, rfl, rfl⟩
theorem fl_Nd_r : FieldT PP 92 3 3 := ⟨_, _, 0, Tryd.underlying92, rfl, rfl, by kernel_rfl⟩
theorem fv_Nd_r : FieldV PP 92 3 3 3 := ⟨_, _, Tryd.underlying92, rfl, rfl, rfl⟩
abbrev T_uint : TypeId := 93
theorem on_uint : OneT PP 93 := ⟨⟨_, Tryd.underlying93, rfl⟩, by kernel_rfl⟩
theorem ze_uint : ZeroT PP 93 [.int .u64 0] := ⟨.int .u64 0, by kernel_rfl, rfl⟩
theorem el_uint : ElemT PP 93 1 8 := ElemT.of (z := .int .u64 0) (by kernel_rfl) rfl (by decide)
theorem zv_uint : (PP.info? 93).bind (·.zero) = some (.int .u64 0) := by kernel_rfl
theorem un_uint : PP.underlying 93 = some (.int .u64) := Tryd.underlying93
abbrev T_func_api_Bits_L_int : TypeId := 94
theorem on_func_api_Bits_L_int : OneT PP 94 := ⟨⟨_, Tryd.underlying94, rfl⟩, by kernel_rfl⟩
theorem ze_func_api_Bits_L_int : ZeroT PP 94 [.nilFunc] := ⟨.nilFunc, by kernel_rfl, rfl⟩
theorem el_func_api_Bits_L_int : ElemT PP 94 1 8 := ElemT.of (z := .nilFunc) (by kernel_rfl) rfl (by decide)
abbrev T_func_L_api_Node_api_Seq_uint64_bool : TypeId := 95
theorem on_func_L_api_Node_api_Seq_uint64_bool : OneT PP 95 := ⟨⟨_, Tryd.underlying95, rfl⟩, by kernel_rfl⟩
theorem ze_func_L_api_Node_api_Seq_uint64_bool : ZeroT PP 95 [.nilFunc] := ⟨.nilFunc, by kernel_rfl, rfl⟩
theorem el_func_L_api_Node_api_Seq_uint64_bool : ElemT PP 95 1 8 := ElemT.of (z := .nilFunc) (by kernel_rfl) rfl (by decide)
abbrev T_func_api_Found_api_Found_bool : TypeId := 96
theorem on_func_api_Found_api_Found_bool : OneT PP 96 := ⟨⟨_, Tryd.underlying96, rfl⟩, by kernel_rfl⟩
theorem ze_func_api_Found_api_Found_bool : ZeroT PP 96 [.nilFunc] := ⟨.nilFunc, by kernel_rfl, rfl⟩
theorem el_func_api_Found_api_Found_bool : ElemT PP 96 1 8 := ElemT.of (z := .nilFunc) (by kernel_rfl) rfl (by decide)
abbrev T_func_api_Seq_int_bool : TypeId := 97
theorem on_func_api_Seq_int_bool : OneT PP 97 := ⟨⟨_, Tryd.underlying97, rfl⟩, by kernel_rfl⟩
theorem ze_func_api_Seq_int_bool : ZeroT PP 97 [.nilFunc] := ⟨.nilFunc, by kernel_rfl, rfl⟩
theorem el_func_api_Seq_int_bool : ElemT PP 97 1 8 := ElemT.of (z := .nilFunc) (by kernel_rfl) rfl (by decide)
abbrev T_func_P_dictumref03_T_api_Seq_int_api_Found_int : TypeId := 99
theorem on_func_P_dictumref03_T_api_Seq_int_api_Found_int : OneT PP 99 := ⟨⟨_, Tryd.underlying99, rfl⟩, by kernel_rfl⟩
theorem ze_func_P_dictumref03_T_api_Seq_int_api_Found_int : ZeroT PP 99 [.nilFunc] := ⟨.nilFunc, by kernel_rfl, rfl⟩
theorem el_func_P_dictumref03_T_api_Seq_int_api_Found_int : ElemT PP 99 1 8 := ElemT.of (z := .nilFunc) (by kernel_rfl) rfl (by decide)
abbrev T_func_L_api_Node_P_formula_Table_api_Errno : TypeId := 101
theorem on_func_L_api_Node_P_formula_Table_api_Errno : OneT PP 101 := ⟨⟨_, Tryd.underlying101, rfl⟩, by kernel_rfl⟩
theorem ze_func_L_api_Node_P_formula_Table_api_Errno : ZeroT PP 101 [.nilFunc] := ⟨.nilFunc, by kernel_rfl, rfl⟩
theorem el_func_L_api_Node_P_formula_Table_api_Errno : ElemT PP 101 1 8 := ElemT.of (z := .nilFunc) (by kernel_rfl) rfl (by decide)
abbrev T_func_L_int_api_Bits : TypeId := 102
theorem on_func_L_int_api_Bits : OneT PP 102 := ⟨⟨_, Tryd.underlying102, rfl⟩, by kernel_rfl⟩
theorem ze_func_L_int_api_Bits : ZeroT PP 102 [.nilFunc] := ⟨.nilFunc, by kernel_rfl, rfl⟩
theorem el_func_L_int_api_Bits : ElemT PP 102 1 8 := ElemT.of (z := .nilFunc) (by kernel_rfl) rfl (by decide)
abbrev T_func_L_api_Node_P_dictumref03_T_int : TypeId := 104
theorem on_func_L_api_Node_P_dictumref03_T_int : OneT PP 104 := ⟨⟨_, Tryd.underlying104, rfl⟩, by kernel_rfl⟩
theorem ze_func_L_api_Node_P_dictumref03_T_int : ZeroT PP 104 [.nilFunc] := ⟨.nilFunc, by kernel_rfl, rfl⟩
theorem el_func_L_api_Node_P_dictumref03_T_int : ElemT PP 104 1 8 := ElemT.of (z := .nilFunc) (by kernel_rfl) rfl (by decide)
abbrev T_func_P_formula_Table_api_Seq_api_Errno : TypeId := 105
theorem on_func_P_formula_Table_api_Seq_api_Errno : OneT PP 105 := ⟨⟨_, Tryd.underlying105, rfl⟩, by kernel_rfl⟩
theorem ze_func_P_formula_Table_api_Seq_api_Errno : ZeroT PP 105 [.nilFunc] := ⟨.nilFunc, by kernel_rfl, rfl⟩
theorem el_func_P_formula_Table_api_Seq_api_Errno : ElemT PP 105 1 8 := ElemT.of (z := .nilFunc) (by kernel_rfl) rfl (by decide)
abbrev T_Fnd : TypeId := 107
theorem ag_Fnd : AggT PP 107 2 := ⟨⟨_, Tryd.underlying107, rfl⟩, by kernel_rfl⟩
theorem ze_Fnd : ZeroT PP 107 (Fnd.C Fnd.z) := ⟨.agg #[.int .i64 0, .int .i64 0], by kernel_rfl, by first | rfl | (simp [Value.cells, Fnd.C, Fnd.z, Bits.C, Bits.z, Sq.C, Sq.z, SlV.eq]; done) | (simp [Value.cells, Fnd.C, Fnd.z, Bits.C, Bits.z, Sq.C, Sq.z, SlV.eq]; rfl)⟩
theorem el_Fnd : ElemT PP 107 2 16 := ElemT.of (z := .agg #[.int .i64 0, .int .i64 0]) (by kernel_rfl) rfl (by decide)
theorem bu_Fnd : BuT PP 107 [(0, 1), (1, 1)] (Fnd.C Fnd.z) := fun parts => (show PP.built 107 parts = Instr.fill (fun i => [(0, 1), (1, 1)].toArray[i]?) (.agg #[.int .i64 0, .int .i64 0] : Value).cells parts by kernel_rfl).trans (by rw [show (.agg #[.int .i64 0, .int .i64 0] : Value).cells = (Fnd.C Fnd.z).toArray by first | rfl | (simp [Value.cells, Fnd.C, Fnd.z, Bits.C, Bits.z, Sq.C, Sq.z, SlV.eq]; done) | (simp [Value.cells, Fnd.C, Fnd.z, Bits.C, Bits.z, Sq.C, Sq.z, SlV.eq]; rfl)])
theorem fl_Fnd_k : FieldT PP 107 0 0 := ⟨_, _, 0, Tryd.underlying107, rfl, rfl, by kernel_rfl⟩
theorem fv_Fnd_k : FieldV PP 107 0 0 27 := ⟨_, _, Tryd.underlying107, rfl, rfl, rfl⟩
theorem fl_Fnd_main : FieldT PP 107 1 1 := ⟨_, _, 0, Tryd.underlying107, rfl, rfl, by kernel_rfl⟩
theorem fv_Fnd_main : FieldV PP 107 1 1 3 := ⟨_, _, Tryd.underlying107, rfl, rfl, rfl⟩
abbrev T_func_P_formula_Table_api_Seq_rule_found : TypeId := 108
theorem on_func_P_formula_Table_api_Seq_rule_found : OneT PP 108 := ⟨⟨_, Tryd.underlying108, rfl⟩, by kernel_rfl⟩
theorem ze_func_P_formula_Table_api_Seq_rule_found : ZeroT PP 108 [.nilFunc] := ⟨.nilFunc, by kernel_rfl, rfl⟩
theorem el_func_P_formula_Table_api_Seq_rule_found : ElemT PP 108 1 8 := ElemT.of (z := .nilFunc) (by kernel_rfl) rfl (by decide)
abbrev T_func_P_formula_Table_int_api_Node : TypeId := 109
theorem on_func_P_formula_Table_int_api_Node : OneT PP 109 := ⟨⟨_, Tryd.underlying109, rfl⟩, by kernel_rfl⟩
theorem ze_func_P_formula_Table_int_api_Node : ZeroT PP 109 [.nilFunc] := ⟨.nilFunc, by kernel_rfl, rfl⟩
theorem el_func_P_formula_Table_int_api_Node : ElemT PP 109 1 8 := ElemT.of (z := .nilFunc) (by kernel_rfl) rfl (by decide)
abbrev T_func_func_int_bool : TypeId := 110
theorem on_func_func_int_bool : OneT PP 110 := ⟨⟨_, Tryd.underlying110, rfl⟩, by kernel_rfl⟩
theorem ze_func_func_int_bool : ZeroT PP 110 [.nilFunc] := ⟨.nilFunc, by kernel_rfl, rfl⟩
theorem el_func_func_int_bool : ElemT PP 110 1 8 := ElemT.of (z := .nilFunc) (by kernel_rfl) rfl (by decide)
abbrev T_iter_Seq_int : TypeId := 111
theorem on_iter_Seq_int : OneT PP 111 := ⟨⟨_, Tryd.underlying111, rfl⟩, by kernel_rfl⟩
theorem ze_iter_Seq_int : ZeroT PP 111 [.nilFunc] := ⟨.nilFunc, by kernel_rfl, rfl⟩
theorem el_iter_Seq_int : ElemT PP 111 1 8 := ElemT.of (z := .nilFunc) (by kernel_rfl) rfl (by decide)
abbrev T_func_api_Bits_iter_Seq_int : TypeId := 112
theorem on_func_api_Bits_iter_Seq_int : OneT PP 112 := ⟨⟨_, Tryd.underlying112, rfl⟩, by kernel_rfl⟩
theorem ze_func_api_Bits_iter_Seq_int : ZeroT PP 112 [.nilFunc] := ⟨.nilFunc, by kernel_rfl, rfl⟩
theorem el_func_api_Bits_iter_Seq_int : ElemT PP 112 1 8 := ElemT.of (z := .nilFunc) (by kernel_rfl) rfl (by decide)
abbrev T_func_P_formula_Table_api_Seq_int_api_Rule : TypeId := 113
theorem on_func_P_formula_Table_api_Seq_int_api_Rule : OneT PP 113 := ⟨⟨_, Tryd.underlying113, rfl⟩, by kernel_rfl⟩
theorem ze_func_P_formula_Table_api_Seq_int_api_Rule : ZeroT PP 113 [.nilFunc] := ⟨.nilFunc, by kernel_rfl, rfl⟩
theorem el_func_P_formula_Table_api_Seq_int_api_Rule : ElemT PP 113 1 8 := ElemT.of (z := .nilFunc) (by kernel_rfl) rfl (by decide)
abbrev T_func_int_bool : TypeId := 114
theorem on_func_int_bool : OneT PP 114 := ⟨⟨_, Tryd.underlying114, rfl⟩, by kernel_rfl⟩
theorem ze_func_int_bool : ZeroT PP 114 [.nilFunc] := ⟨.nilFunc, by kernel_rfl, rfl⟩
theorem el_func_int_bool : ElemT PP 114 1 8 := ElemT.of (z := .nilFunc) (by kernel_rfl) rfl (by decide)
abbrev T_L_L_api_Rule : TypeId := 115
theorem on_L_L_api_Rule : OneT PP 115 := ⟨⟨_, Tryd.underlying115, rfl⟩, by kernel_rfl⟩
theorem ze_L_L_api_Rule : ZeroT PP 115 [.slice none 0 0] := ⟨.slice none 0 0, by kernel_rfl, rfl⟩
theorem el_L_L_api_Rule : ElemT PP 115 1 24 := ElemT.of (z := .slice none 0 0) (by kernel_rfl) rfl (by decide)
theorem zs_L_L_api_Rule : ZeroT PP 115 [SlV.nil.v] := ⟨.slice none 0 0, by kernel_rfl, by rw [← SlV.nil_eq]; rfl⟩
theorem sl_L_L_api_Rule : SliceT PP 115 42 1 := ⟨Tryd.underlying115, by kernel_rfl⟩
abbrev T_func_P_dictumref03_T_api_Seq_L_api_Rule_api_Rule_int_bool : TypeId := 117
theorem on_func_P_dictumref03_T_api_Seq_L_api_Rule_api_Rule_int_bool : OneT PP 117 := ⟨⟨_, Tryd.underlying117, rfl⟩, by kernel_rfl⟩
theorem ze_func_P_dictumref03_T_api_Seq_L_api_Rule_api_Rule_int_bool : ZeroT PP 117 [.nilFunc] := ⟨.nilFunc, by kernel_rfl, rfl⟩
theorem el_func_P_dictumref03_T_api_Seq_L_api_Rule_api_Rule_int_bool : ElemT PP 117 1 8 := ElemT.of (z := .nilFunc) (by kernel_rfl) rfl (by decide)
abbrev T_func_P_dictumref03_T_int_api_Kind : TypeId := 118
theorem on_func_P_dictumref03_T_int_api_Kind : OneT PP 118 := ⟨⟨_, Tryd.underlying118, rfl⟩, by kernel_rfl⟩
theorem ze_func_P_dictumref03_T_int_api_Kind : ZeroT PP 118 [.nilFunc] := ⟨.nilFunc, by kernel_rfl, rfl⟩
theorem el_func_P_dictumref03_T_int_api_Kind : ElemT PP 118 1 8 := ElemT.of (z := .nilFunc) (by kernel_rfl) rfl (by decide)
abbrev T_func_api_Bits_int_bool : TypeId := 119
theorem on_func_api_Bits_int_bool : OneT PP 119 := ⟨⟨_, Tryd.underlying119, rfl⟩, by kernel_rfl⟩
theorem ze_func_api_Bits_int_bool : ZeroT PP 119 [.nilFunc] := ⟨.nilFunc, by kernel_rfl, rfl⟩
theorem el_func_api_Bits_int_bool : ElemT PP 119 1 8 := ElemT.of (z := .nilFunc) (by kernel_rfl) rfl (by decide)
abbrev T_func_L_api_Node_L_api_Node_bool : TypeId := 120
theorem on_func_L_api_Node_L_api_Node_bool : OneT PP 120 := ⟨⟨_, Tryd.underlying120, rfl⟩, by kernel_rfl⟩
theorem ze_func_L_api_Node_L_api_Node_bool : ZeroT PP 120 [.nilFunc] := ⟨.nilFunc, by kernel_rfl, rfl⟩
theorem el_func_L_api_Node_L_api_Node_bool : ElemT PP 120 1 8 := ElemT.of (z := .nilFunc) (by kernel_rfl) rfl (by decide)
abbrev T_func_int : TypeId := 121
theorem on_func_int : OneT PP 121 := ⟨⟨_, Tryd.underlying121, rfl⟩, by kernel_rfl⟩
theorem ze_func_int : ZeroT PP 121 [.nilFunc] := ⟨.nilFunc, by kernel_rfl, rfl⟩
theorem el_func_int : ElemT PP 121 1 8 := ElemT.of (z := .nilFunc) (by kernel_rfl) rfl (by decide)
abbrev T_func_int_api_Errno : TypeId := 122
theorem on_func_int_api_Errno : OneT PP 122 := ⟨⟨_, Tryd.underlying122, rfl⟩, by kernel_rfl⟩
theorem ze_func_int_api_Errno : ZeroT PP 122 [.nilFunc] := ⟨.nilFunc, by kernel_rfl, rfl⟩
theorem el_func_int_api_Errno : ElemT PP 122 1 8 := ElemT.of (z := .nilFunc) (by kernel_rfl) rfl (by decide)
abbrev T_func_api_Bits_int_api_Bits : TypeId := 123
theorem on_func_api_Bits_int_api_Bits : OneT PP 123 := ⟨⟨_, Tryd.underlying123, rfl⟩, by kernel_rfl⟩
theorem ze_func_api_Bits_int_api_Bits : ZeroT PP 123 [.nilFunc] := ⟨.nilFunc, by kernel_rfl, rfl⟩
theorem el_func_api_Bits_int_api_Bits : ElemT PP 123 1 8 := ElemT.of (z := .nilFunc) (by kernel_rfl) rfl (by decide)
abbrev T_func_api_Seq_int_int_api_Seq : TypeId := 124
theorem on_func_api_Seq_int_int_api_Seq : OneT PP 124 := ⟨⟨_, Tryd.underlying124, rfl⟩, by kernel_rfl⟩
theorem ze_func_api_Seq_int_int_api_Seq : ZeroT PP 124 [.nilFunc] := ⟨.nilFunc, by kernel_rfl, rfl⟩
theorem el_func_api_Seq_int_int_api_Seq : ElemT PP 124 1 8 := ElemT.of (z := .nilFunc) (by kernel_rfl) rfl (by decide)
abbrev T_func_P_dictumref03_T_int_int_int_int_int_int_int : TypeId := 126
theorem on_func_P_dictumref03_T_int_int_int_int_int_int_int : OneT PP 126 := ⟨⟨_, Tryd.underlying126, rfl⟩, by kernel_rfl⟩
theorem ze_func_P_dictumref03_T_int_int_int_int_int_int_int : ZeroT PP 126 [.nilFunc] := ⟨.nilFunc, by kernel_rfl, rfl⟩
theorem el_func_P_dictumref03_T_int_int_int_int_int_int_int : ElemT PP 126 1 8 := ElemT.of (z := .nilFunc) (by kernel_rfl) rfl (by decide)
abbrev T_func_api_Seq_int_api_Seq : TypeId := 127
theorem on_func_api_Seq_int_api_Seq : OneT PP 127 := ⟨⟨_, Tryd.underlying127, rfl⟩, by kernel_rfl⟩
theorem ze_func_api_Seq_int_api_Seq : ZeroT PP 127 [.nilFunc] := ⟨.nilFunc, by kernel_rfl, rfl⟩
theorem el_func_api_Seq_int_api_Seq : ElemT PP 127 1 8 := ElemT.of (z := .nilFunc) (by kernel_rfl) rfl (by decide)
abbrev T_func_int_int_int_int : TypeId := 129
theorem on_func_int_int_int_int : OneT PP 129 := ⟨⟨_, Tryd.underlying129, rfl⟩, by kernel_rfl⟩
theorem ze_func_int_int_int_int : ZeroT PP 129 [.nilFunc] := ⟨.nilFunc, by kernel_rfl, rfl⟩
theorem el_func_int_int_int_int : ElemT PP 129 1 8 := ElemT.of (z := .nilFunc) (by kernel_rfl) rfl (by decide)
abbrev T_func_L_api_Node_L_api_Node : TypeId := 130
theorem on_func_L_api_Node_L_api_Node : OneT PP 130 := ⟨⟨_, Tryd.underlying130, rfl⟩, by kernel_rfl⟩
theorem ze_func_L_api_Node_L_api_Node : ZeroT PP 130 [.nilFunc] := ⟨.nilFunc, by kernel_rfl, rfl⟩
theorem el_func_L_api_Node_L_api_Node : ElemT PP 130 1 8 := ElemT.of (z := .nilFunc) (by kernel_rfl) rfl (by decide)
abbrev T_func_int_int_api_Errno : TypeId := 131
theorem on_func_int_int_api_Errno : OneT PP 131 := ⟨⟨_, Tryd.underlying131, rfl⟩, by kernel_rfl⟩
theorem ze_func_int_int_api_Errno : ZeroT PP 131 [.nilFunc] := ⟨.nilFunc, by kernel_rfl, rfl⟩
theorem el_func_int_int_api_Errno : ElemT PP 131 1 8 := ElemT.of (z := .nilFunc) (by kernel_rfl) rfl (by decide)
abbrev T_dictum_search_end : TypeId := 132
theorem on_dictum_search_end : OneT PP 132 := ⟨⟨_, Tryd.underlying132, rfl⟩, by kernel_rfl⟩
theorem ze_dictum_search_end : ZeroT PP 132 [.pointer none] := ⟨.pointer none, by kernel_rfl, rfl⟩
theorem el_dictum_search_end : ElemT PP 132 1 8 := ElemT.of (z := .pointer none) (by kernel_rfl) rfl (by decide)
theorem un_dictum_search_end : PP.underlying 132 = some (.pointer 135) := Tryd.underlying132
abbrev T_M_api_Seq_int : TypeId := 133
theorem on_M_api_Seq_int : OneT PP 133 := ⟨⟨_, Tryd.underlying133, rfl⟩, by kernel_rfl⟩
theorem ze_M_api_Seq_int : ZeroT PP 133 [.map none] := ⟨.map none, by kernel_rfl, rfl⟩
theorem el_M_api_Seq_int : ElemT PP 133 1 8 := ElemT.of (z := .map none) (by kernel_rfl) rfl (by decide)
theorem un_M_api_Seq_int : PP.underlying 133 = some (.map 26 3) := Tryd.underlying133
abbrev T_Finder : TypeId := 135
theorem ag_Finder : AggT PP 135 5 := ⟨⟨_, Tryd.underlying135, rfl⟩, by kernel_rfl⟩
theorem ze_Finder : ZeroT PP 135 (Finder.C Finder.z) := ⟨.agg #[.pointer none, .slice none 0 0, .map none, .int .i64 0, .int .i64 0], by kernel_rfl, by first | rfl | (simp [Value.cells, Finder.C, Finder.z, Bits.C, Bits.z, Sq.C, Sq.z, SlV.eq]; done) | (simp [Value.cells, Finder.C, Finder.z, Bits.C, Bits.z, Sq.C, Sq.z, SlV.eq]; rfl)⟩
theorem el_Finder : ElemT PP 135 5 56 := ElemT.of (z := .agg #[.pointer none, .slice none 0 0, .map none, .int .i64 0, .int .i64 0]) (by kernel_rfl) rfl (by decide)
theorem bu_Finder : BuT PP 135 [(0, 1), (1, 1), (2, 1), (3, 1), (4, 1)] (Finder.C Finder.z) := fun parts => (show PP.built 135 parts = Instr.fill (fun i => [(0, 1), (1, 1), (2, 1), (3, 1), (4, 1)].toArray[i]?) (.agg #[.pointer none, .slice none 0 0, .map none, .int .i64 0, .int .i64 0] : Value).cells parts by kernel_rfl).trans (by rw [show (.agg #[.pointer none, .slice none 0 0, .map none, .int .i64 0, .int .i64 0] : Value).cells = (Finder.C Finder.z).toArray by first | rfl | (simp [Value.cells, Finder.C, Finder.z, Bits.C, Bits.z, Sq.C, Sq.z, SlV.eq]; done) | (simp [Value.cells, Finder.C, Finder.z, Bits.C, Bits.z, Sq.C, Sq.z, SlV.eq]; rfl)])
theorem fl_Finder_t : FieldT PP 135 0 0 := ⟨_, _, 0, Tryd.underlying135, rfl, rfl, by kernel_rfl⟩
theorem fv_Finder_t : FieldV PP 135 0 0 28 := ⟨_, _, Tryd.underlying135, rfl, rfl, rfl⟩
theorem fl_Finder_steps : FieldT PP 135 1 1 := ⟨_, _, 0, Tryd.underlying135, rfl, rfl, by kernel_rfl⟩
theorem fv_Finder_steps : FieldV PP 135 1 1 77 := ⟨_, _, Tryd.underlying135, rfl, rfl, rfl⟩
theorem fl_Finder_at_ : FieldT PP 135 2 2 := ⟨_, _, 0, Tryd.underlying135, rfl, rfl, by kernel_rfl⟩
theorem fv_Finder_at_ : FieldV PP 135 2 2 133 := ⟨_, _, Tryd.underlying135, rfl, rfl, rfl⟩
theorem fl_Finder_left : FieldT PP 135 3 3 := ⟨_, _, 0, Tryd.underlying135, rfl, rfl, by kernel_rfl⟩
theorem fv_Finder_left : FieldV PP 135 3 3 3 := ⟨_, _, Tryd.underlying135, rfl, rfl, rfl⟩
theorem fl_Finder_visits : FieldT PP 135 4 4 := ⟨_, _, 0, Tryd.underlying135, rfl, rfl, by kernel_rfl⟩
theorem fv_Finder_visits : FieldV PP 135 4 4 3 := ⟨_, _, Tryd.underlying135, rfl, rfl, rfl⟩
abbrev T_func_api_Seq_int_api_Errno : TypeId := 136
theorem on_func_api_Seq_int_api_Errno : OneT PP 136 := ⟨⟨_, Tryd.underlying136, rfl⟩, by kernel_rfl⟩
theorem ze_func_api_Seq_int_api_Errno : ZeroT PP 136 [.nilFunc] := ⟨.nilFunc, by kernel_rfl, rfl⟩
theorem el_func_api_Seq_int_api_Errno : ElemT PP 136 1 8 := ElemT.of (z := .nilFunc) (by kernel_rfl) rfl (by decide)
abbrev T_func_api_Bits_int_api_Bits_int : TypeId := 138
theorem on_func_api_Bits_int_api_Bits_int : OneT PP 138 := ⟨⟨_, Tryd.underlying138, rfl⟩, by kernel_rfl⟩
theorem ze_func_api_Bits_int_api_Bits_int : ZeroT PP 138 [.nilFunc] := ⟨.nilFunc, by kernel_rfl, rfl⟩
theorem el_func_api_Bits_int_api_Bits_int : ElemT PP 138 1 8 := ElemT.of (z := .nilFunc) (by kernel_rfl) rfl (by decide)
abbrev T_func_api_Node_int_api_Errno : TypeId := 139
theorem on_func_api_Node_int_api_Errno : OneT PP 139 := ⟨⟨_, Tryd.underlying139, rfl⟩, by kernel_rfl⟩
theorem ze_func_api_Node_int_api_Errno : ZeroT PP 139 [.nilFunc] := ⟨.nilFunc, by kernel_rfl, rfl⟩
theorem el_func_api_Node_int_api_Errno : ElemT PP 139 1 8 := ElemT.of (z := .nilFunc) (by kernel_rfl) rfl (by decide)
abbrev T_func_L_api_Step_L_api_Step_bool : TypeId := 140
theorem on_func_L_api_Step_L_api_Step_bool : OneT PP 140 := ⟨⟨_, Tryd.underlying140, rfl⟩, by kernel_rfl⟩
theorem ze_func_L_api_Step_L_api_Step_bool : ZeroT PP 140 [.nilFunc] := ⟨.nilFunc, by kernel_rfl, rfl⟩
theorem el_func_L_api_Step_L_api_Step_bool : ElemT PP 140 1 8 := ElemT.of (z := .nilFunc) (by kernel_rfl) rfl (by decide)
abbrev T_dictum_dictumref11_find : TypeId := 141
theorem on_dictum_dictumref11_find : OneT PP 141 := ⟨⟨_, Tryd.underlying141, rfl⟩, by kernel_rfl⟩
theorem ze_dictum_dictumref11_find : ZeroT PP 141 [.pointer none] := ⟨.pointer none, by kernel_rfl, rfl⟩
theorem el_dictum_dictumref11_find : ElemT PP 141 1 8 := ElemT.of (z := .pointer none) (by kernel_rfl) rfl (by decide)
theorem un_dictum_dictumref11_find : PP.underlying 141 = some (.pointer 143) := Tryd.underlying141
abbrev T_RRun : TypeId := 143
theorem ag_RRun : AggT PP 143 4 := ⟨⟨_, Tryd.underlying143, rfl⟩, by kernel_rfl⟩
theorem ze_RRun : ZeroT PP 143 (RRun.C RRun.z) := ⟨.agg #[.pointer none, .slice none 0 0, .int .i64 0, .int .i64 0], by kernel_rfl, by first | rfl | (simp [Value.cells, RRun.C, RRun.z, Bits.C, Bits.z, Sq.C, Sq.z, SlV.eq]; done) | (simp [Value.cells, RRun.C, RRun.z, Bits.C, Bits.z, Sq.C, Sq.z, SlV.eq]; rfl)⟩
theorem el_RRun : ElemT PP 143 4 48 := ElemT.of (z := .agg #[.pointer none, .slice none 0 0, .int .i64 0, .int .i64 0]) (by kernel_rfl) rfl (by decide)
theorem bu_RRun : BuT PP 143 [(0, 1), (1, 1), (2, 1), (3, 1)] (RRun.C RRun.z) := fun parts => (show PP.built 143 parts = Instr.fill (fun i => [(0, 1), (1, 1), (2, 1), (3, 1)].toArray[i]?) (.agg #[.pointer none, .slice none 0 0, .int .i64 0, .int .i64 0] : Value).cells parts by kernel_rfl).trans (by rw [show (.agg #[.pointer none, .slice none 0 0, .int .i64 0, .int .i64 0] : Value).cells = (RRun.C RRun.z).toArray by first | rfl | (simp [Value.cells, RRun.C, RRun.z, Bits.C, Bits.z, Sq.C, Sq.z, SlV.eq]; done) | (simp [Value.cells, RRun.C, RRun.z, Bits.C, Bits.z, Sq.C, Sq.z, SlV.eq]; rfl)])
theorem fl_RRun_t : FieldT PP 143 0 0 := ⟨_, _, 0, Tryd.underlying143, rfl, rfl, by kernel_rfl⟩
theorem fv_RRun_t : FieldV PP 143 0 0 36 := ⟨_, _, Tryd.underlying143, rfl, rfl, rfl⟩
theorem fl_RRun_steps : FieldT PP 143 1 1 := ⟨_, _, 0, Tryd.underlying143, rfl, rfl, by kernel_rfl⟩
theorem fv_RRun_steps : FieldV PP 143 1 1 77 := ⟨_, _, Tryd.underlying143, rfl, rfl, rfl⟩
theorem fl_RRun_visits : FieldT PP 143 2 2 := ⟨_, _, 0, Tryd.underlying143, rfl, rfl, by kernel_rfl⟩
theorem fv_RRun_visits : FieldV PP 143 2 2 3 := ⟨_, _, Tryd.underlying143, rfl, rfl, rfl⟩
theorem fl_RRun_budget : FieldT PP 143 3 3 := ⟨_, _, 0, Tryd.underlying143, rfl, rfl, by kernel_rfl⟩
theorem fv_RRun_budget : FieldV PP 143 3 3 3 := ⟨_, _, Tryd.underlying143, rfl, rfl, rfl⟩
abbrev T_func_api_Seq_int_int : TypeId := 144
theorem on_func_api_Seq_int_int : OneT PP 144 := ⟨⟨_, Tryd.underlying144, rfl⟩, by kernel_rfl⟩
theorem ze_func_api_Seq_int_int : ZeroT PP 144 [.nilFunc] := ⟨.nilFunc, by kernel_rfl, rfl⟩
theorem el_func_api_Seq_int_int : ElemT PP 144 1 8 := ElemT.of (z := .nilFunc) (by kernel_rfl) rfl (by decide)
abbrev T_func_int_int : TypeId := 145
theorem on_func_int_int : OneT PP 145 := ⟨⟨_, Tryd.underlying145, rfl⟩, by kernel_rfl⟩
theorem ze_func_int_int : ZeroT PP 145 [.nilFunc] := ⟨.nilFunc, by kernel_rfl, rfl⟩
theorem el_func_int_int : ElemT PP 145 1 8 := ElemT.of (z := .nilFunc) (by kernel_rfl) rfl (by decide)
abbrev T_func_P_formula_Table : TypeId := 146
theorem on_func_P_formula_Table : OneT PP 146 := ⟨⟨_, Tryd.underlying146, rfl⟩, by kernel_rfl⟩
theorem ze_func_P_formula_Table : ZeroT PP 146 [.nilFunc] := ⟨.nilFunc, by kernel_rfl, rfl⟩
theorem el_func_P_formula_Table : ElemT PP 146 1 8 := ElemT.of (z := .nilFunc) (by kernel_rfl) rfl (by decide)
abbrev T_func_L_int_api_Bits_int : TypeId := 147
theorem on_func_L_int_api_Bits_int : OneT PP 147 := ⟨⟨_, Tryd.underlying147, rfl⟩, by kernel_rfl⟩
theorem ze_func_L_int_api_Bits_int : ZeroT PP 147 [.nilFunc] := ⟨.nilFunc, by kernel_rfl, rfl⟩
theorem el_func_L_int_api_Bits_int : ElemT PP 147 1 8 := ElemT.of (z := .nilFunc) (by kernel_rfl) rfl (by decide)
abbrev T_func_api_Node_int_int : TypeId := 148
theorem on_func_api_Node_int_int : OneT PP 148 := ⟨⟨_, Tryd.underlying148, rfl⟩, by kernel_rfl⟩
theorem ze_func_api_Node_int_int : ZeroT PP 148 [.nilFunc] := ⟨.nilFunc, by kernel_rfl, rfl⟩
theorem el_func_api_Node_int_int : ElemT PP 148 1 8 := ElemT.of (z := .nilFunc) (by kernel_rfl) rfl (by decide)
abbrev T_func_P_formula_Table_api_Seq_func_api_Rule_bool_rule_found_bool : TypeId := 150
theorem on_func_P_formula_Table_api_Seq_func_api_Rule_bool_rule_found_bool : OneT PP 150 := ⟨⟨_, Tryd.underlying150, rfl⟩, by kernel_rfl⟩
theorem ze_func_P_formula_Table_api_Seq_func_api_Rule_bool_rule_found_bool : ZeroT PP 150 [.nilFunc] := ⟨.nilFunc, by kernel_rfl, rfl⟩
theorem el_func_P_formula_Table_api_Seq_func_api_Rule_bool_rule_found_bool : ElemT PP 150 1 8 := ElemT.of (z := .nilFunc) (by kernel_rfl) rfl (by decide)
abbrev T_func_api_Rule_bool : TypeId := 151
theorem on_func_api_Rule_bool : OneT PP 151 := ⟨⟨_, Tryd.underlying151, rfl⟩, by kernel_rfl⟩
theorem ze_func_api_Rule_bool : ZeroT PP 151 [.nilFunc] := ⟨.nilFunc, by kernel_rfl, rfl⟩
theorem el_func_api_Rule_bool : ElemT PP 151 1 8 := ElemT.of (z := .nilFunc) (by kernel_rfl) rfl (by decide)
abbrev T_func_rule_found_bool : TypeId := 152
theorem on_func_rule_found_bool : OneT PP 152 := ⟨⟨_, Tryd.underlying152, rfl⟩, by kernel_rfl⟩
theorem ze_func_rule_found_bool : ZeroT PP 152 [.nilFunc] := ⟨.nilFunc, by kernel_rfl, rfl⟩
theorem el_func_rule_found_bool : ElemT PP 152 1 8 := ElemT.of (z := .nilFunc) (by kernel_rfl) rfl (by decide)
abbrev T_L_func_rule_found_bool : TypeId := 153
theorem on_L_func_rule_found_bool : OneT PP 153 := ⟨⟨_, Tryd.underlying153, rfl⟩, by kernel_rfl⟩
theorem ze_L_func_rule_found_bool : ZeroT PP 153 [.slice none 0 0] := ⟨.slice none 0 0, by kernel_rfl, rfl⟩
theorem el_L_func_rule_found_bool : ElemT PP 153 1 24 := ElemT.of (z := .slice none 0 0) (by kernel_rfl) rfl (by decide)
theorem zs_L_func_rule_found_bool : ZeroT PP 153 [SlV.nil.v] := ⟨.slice none 0 0, by kernel_rfl, by rw [← SlV.nil_eq]; rfl⟩
theorem sl_L_func_rule_found_bool : SliceT PP 153 152 1 := ⟨Tryd.underlying153, by kernel_rfl⟩
abbrev T_func_int_api_Node_bool : TypeId := 155
theorem on_func_int_api_Node_bool : OneT PP 155 := ⟨⟨_, Tryd.underlying155, rfl⟩, by kernel_rfl⟩
theorem ze_func_int_api_Node_bool : ZeroT PP 155 [.nilFunc] := ⟨.nilFunc, by kernel_rfl, rfl⟩
theorem el_func_int_api_Node_bool : ElemT PP 155 1 8 := ElemT.of (z := .nilFunc) (by kernel_rfl) rfl (by decide)
abbrev T_func_api_Bits_int_int_bool : TypeId := 157
theorem on_func_api_Bits_int_int_bool : OneT PP 157 := ⟨⟨_, Tryd.underlying157, rfl⟩, by kernel_rfl⟩
theorem ze_func_api_Bits_int_int_bool : ZeroT PP 157 [.nilFunc] := ⟨.nilFunc, by kernel_rfl, rfl⟩
theorem el_func_api_Bits_int_int_bool : ElemT PP 157 1 8 := ElemT.of (z := .nilFunc) (by kernel_rfl) rfl (by decide)
abbrev T_func_P_formula_Table_func_L_int_int_int_L_int_api_Errno : TypeId := 160
theorem on_func_P_formula_Table_func_L_int_int_int_L_int_api_Errno : OneT PP 160 := ⟨⟨_, Tryd.underlying160, rfl⟩, by kernel_rfl⟩
theorem ze_func_P_formula_Table_func_L_int_int_int_L_int_api_Errno : ZeroT PP 160 [.nilFunc] := ⟨.nilFunc, by kernel_rfl, rfl⟩
theorem el_func_P_formula_Table_func_L_int_int_int_L_int_api_Errno : ElemT PP 160 1 8 := ElemT.of (z := .nilFunc) (by kernel_rfl) rfl (by decide)
abbrev T_func_L_int_int_int : TypeId := 161
theorem on_func_L_int_int_int : OneT PP 161 := ⟨⟨_, Tryd.underlying161, rfl⟩, by kernel_rfl⟩
theorem ze_func_L_int_int_int : ZeroT PP 161 [.nilFunc] := ⟨.nilFunc, by kernel_rfl, rfl⟩
theorem el_func_L_int_int_int : ElemT PP 161 1 8 := ElemT.of (z := .nilFunc) (by kernel_rfl) rfl (by decide)
abbrev T_func_int_int_func_L_int_int_int : TypeId := 162
theorem on_func_int_int_func_L_int_int_int : OneT PP 162 := ⟨⟨_, Tryd.underlying162, rfl⟩, by kernel_rfl⟩
theorem ze_func_int_int_func_L_int_int_int : ZeroT PP 162 [.nilFunc] := ⟨.nilFunc, by kernel_rfl, rfl⟩
theorem el_func_int_int_func_L_int_int_int : ElemT PP 162 1 8 := ElemT.of (z := .nilFunc) (by kernel_rfl) rfl (by decide)
abbrev T_func_api_Kind_int_int_int_int : TypeId := 163
theorem on_func_api_Kind_int_int_int_int : OneT PP 163 := ⟨⟨_, Tryd.underlying163, rfl⟩, by kernel_rfl⟩
theorem ze_func_api_Kind_int_int_int_int : ZeroT PP 163 [.nilFunc] := ⟨.nilFunc, by kernel_rfl, rfl⟩
theorem el_func_api_Kind_int_int_int_int : ElemT PP 163 1 8 := ElemT.of (z := .nilFunc) (by kernel_rfl) rfl (by decide)
abbrev T_func_api_Step_int_api_Errno : TypeId := 165
theorem on_func_api_Step_int_api_Errno : OneT PP 165 := ⟨⟨_, Tryd.underlying165, rfl⟩, by kernel_rfl⟩
theorem ze_func_api_Step_int_api_Errno : ZeroT PP 165 [.nilFunc] := ⟨.nilFunc, by kernel_rfl, rfl⟩
theorem el_func_api_Step_int_api_Errno : ElemT PP 165 1 8 := ElemT.of (z := .nilFunc) (by kernel_rfl) rfl (by decide)
abbrev T_func_api_Node_api_Errno : TypeId := 166
theorem on_func_api_Node_api_Errno : OneT PP 166 := ⟨⟨_, Tryd.underlying166, rfl⟩, by kernel_rfl⟩
theorem ze_func_api_Node_api_Errno : ZeroT PP 166 [.nilFunc] := ⟨.nilFunc, by kernel_rfl, rfl⟩
theorem el_func_api_Node_api_Errno : ElemT PP 166 1 8 := ElemT.of (z := .nilFunc) (by kernel_rfl) rfl (by decide)
abbrev T_func_api_Seq_int : TypeId := 167
theorem on_func_api_Seq_int : OneT PP 167 := ⟨⟨_, Tryd.underlying167, rfl⟩, by kernel_rfl⟩
theorem ze_func_api_Seq_int : ZeroT PP 167 [.nilFunc] := ⟨.nilFunc, by kernel_rfl, rfl⟩
theorem el_func_api_Seq_int : ElemT PP 167 1 8 := ElemT.of (z := .nilFunc) (by kernel_rfl) rfl (by decide)
abbrev T_func_api_Seq_bool_api_Rule_int_L_int_int_int : TypeId := 168
theorem on_func_api_Seq_bool_api_Rule_int_L_int_int_int : OneT PP 168 := ⟨⟨_, Tryd.underlying168, rfl⟩, by kernel_rfl⟩
theorem ze_func_api_Seq_bool_api_Rule_int_L_int_int_int : ZeroT PP 168 [.nilFunc] := ⟨.nilFunc, by kernel_rfl, rfl⟩
theorem el_func_api_Seq_bool_api_Rule_int_L_int_int_int : ElemT PP 168 1 8 := ElemT.of (z := .nilFunc) (by kernel_rfl) rfl (by decide)
abbrev T_func_string_bool : TypeId := 169
theorem on_func_string_bool : OneT PP 169 := ⟨⟨_, Tryd.underlying169, rfl⟩, by kernel_rfl⟩
theorem ze_func_string_bool : ZeroT PP 169 [.nilFunc] := ⟨.nilFunc, by kernel_rfl, rfl⟩
theorem el_func_string_bool : ElemT PP 169 1 8 := ElemT.of (z := .nilFunc) (by kernel_rfl) rfl (by decide)
abbrev T_func_api_Node_int_bool : TypeId := 170
theorem on_func_api_Node_int_bool : OneT PP 170 := ⟨⟨_, Tryd.underlying170, rfl⟩, by kernel_rfl⟩
theorem ze_func_api_Node_int_bool : ZeroT PP 170 [.nilFunc] := ⟨.nilFunc, by kernel_rfl, rfl⟩
theorem el_func_api_Node_int_bool : ElemT PP 170 1 8 := ElemT.of (z := .nilFunc) (by kernel_rfl) rfl (by decide)
abbrev T_func_uint64_int : TypeId := 171
theorem on_func_uint64_int : OneT PP 171 := ⟨⟨_, Tryd.underlying171, rfl⟩, by kernel_rfl⟩
theorem ze_func_uint64_int : ZeroT PP 171 [.nilFunc] := ⟨.nilFunc, by kernel_rfl, rfl⟩
theorem el_func_uint64_int : ElemT PP 171 1 8 := ElemT.of (z := .nilFunc) (by kernel_rfl) rfl (by decide)
abbrev T_func_int_api_Bits_api_Errno : TypeId := 173
theorem on_func_int_api_Bits_api_Errno : OneT PP 173 := ⟨⟨_, Tryd.underlying173, rfl⟩, by kernel_rfl⟩
theorem ze_func_int_api_Bits_api_Errno : ZeroT PP 173 [.nilFunc] := ⟨.nilFunc, by kernel_rfl, rfl⟩
theorem el_func_int_api_Bits_api_Errno : ElemT PP 173 1 8 := ElemT.of (z := .nilFunc) (by kernel_rfl) rfl (by decide)
abbrev T_func_api_Bits_api_Bits_api_Bits : TypeId := 174
theorem on_func_api_Bits_api_Bits_api_Bits : OneT PP 174 := ⟨⟨_, Tryd.underlying174, rfl⟩, by kernel_rfl⟩
theorem ze_func_api_Bits_api_Bits_api_Bits : ZeroT PP 174 [.nilFunc] := ⟨.nilFunc, by kernel_rfl, rfl⟩
theorem el_func_api_Bits_api_Bits_api_Bits : ElemT PP 174 1 8 := ElemT.of (z := .nilFunc) (by kernel_rfl) rfl (by decide)
abbrev T_L_func_L_int_int_int : TypeId := 175
theorem on_L_func_L_int_int_int : OneT PP 175 := ⟨⟨_, Tryd.underlying175, rfl⟩, by kernel_rfl⟩
theorem ze_L_func_L_int_int_int : ZeroT PP 175 [.slice none 0 0] := ⟨.slice none 0 0, by kernel_rfl, rfl⟩
theorem el_L_func_L_int_int_int : ElemT PP 175 1 24 := ElemT.of (z := .slice none 0 0) (by kernel_rfl) rfl (by decide)
theorem zs_L_func_L_int_int_int : ZeroT PP 175 [SlV.nil.v] := ⟨.slice none 0 0, by kernel_rfl, by rw [← SlV.nil_eq]; rfl⟩
theorem sl_L_func_L_int_int_int : SliceT PP 175 161 1 := ⟨Tryd.underlying175, by kernel_rfl⟩
abbrev T_func_uint8_bool : TypeId := 176
theorem on_func_uint8_bool : OneT PP 176 := ⟨⟨_, Tryd.underlying176, rfl⟩, by kernel_rfl⟩
theorem ze_func_uint8_bool : ZeroT PP 176 [.nilFunc] := ⟨.nilFunc, by kernel_rfl, rfl⟩
theorem el_func_uint8_bool : ElemT PP 176 1 8 := ElemT.of (z := .nilFunc) (by kernel_rfl) rfl (by decide)
abbrev T_L_string : TypeId := 177
theorem on_L_string : OneT PP 177 := ⟨⟨_, Tryd.underlying177, rfl⟩, by kernel_rfl⟩
theorem ze_L_string : ZeroT PP 177 [.slice none 0 0] := ⟨.slice none 0 0, by kernel_rfl, rfl⟩
theorem el_L_string : ElemT PP 177 1 24 := ElemT.of (z := .slice none 0 0) (by kernel_rfl) rfl (by decide)
theorem zs_L_string : ZeroT PP 177 [SlV.nil.v] := ⟨.slice none 0 0, by kernel_rfl, by rw [← SlV.nil_eq]; rfl⟩
theorem sl_L_string : SliceT PP 177 9 1 := ⟨Tryd.underlying177, by kernel_rfl⟩
abbrev T_func_L_string : TypeId := 178
theorem on_func_L_string : OneT PP 178 := ⟨⟨_, Tryd.underlying178, rfl⟩, by kernel_rfl⟩
theorem ze_func_L_string : ZeroT PP 178 [.nilFunc] := ⟨.nilFunc, by kernel_rfl, rfl⟩
theorem el_func_L_string : ElemT PP 178 1 8 := ElemT.of (z := .nilFunc) (by kernel_rfl) rfl (by decide)
theorem ar_64_uint8 : ArrT PP 179 64 5 1 := ⟨Tryd.underlying179, by kernel_rfl⟩
abbrev T_64_uint8 : TypeId := 179
abbrev T_func_api_Bits_api_Bits_func_uint64_uint64_uint64_api_Bits : TypeId := 180
theorem on_func_api_Bits_api_Bits_func_uint64_uint64_uint64_api_Bits : OneT PP 180 := ⟨⟨_, Tryd.underlying180, rfl⟩, by kernel_rfl⟩
theorem ze_func_api_Bits_api_Bits_func_uint64_uint64_uint64_api_Bits : ZeroT PP 180 [.nilFunc] := ⟨.nilFunc, by kernel_rfl, rfl⟩
theorem el_func_api_Bits_api_Bits_func_uint64_uint64_uint64_api_Bits : ElemT PP 180 1 8 := ElemT.of (z := .nilFunc) (by kernel_rfl) rfl (by decide)
abbrev T_func_uint64_uint64_uint64 : TypeId := 181
theorem on_func_uint64_uint64_uint64 : OneT PP 181 := ⟨⟨_, Tryd.underlying181, rfl⟩, by kernel_rfl⟩
theorem ze_func_uint64_uint64_uint64 : ZeroT PP 181 [.nilFunc] := ⟨.nilFunc, by kernel_rfl, rfl⟩
theorem el_func_uint64_uint64_uint64 : ElemT PP 181 1 8 := ElemT.of (z := .nilFunc) (by kernel_rfl) rfl (by decide)
abbrev T_func_string : TypeId := 182
theorem on_func_string : OneT PP 182 := ⟨⟨_, Tryd.underlying182, rfl⟩, by kernel_rfl⟩
theorem ze_func_string : ZeroT PP 182 [.nilFunc] := ⟨.nilFunc, by kernel_rfl, rfl⟩
theorem el_func_string : ElemT PP 182 1 8 := ElemT.of (z := .nilFunc) (by kernel_rfl) rfl (by decide)
abbrev T_uint32 : TypeId := 188
theorem on_uint32 : OneT PP 188 := ⟨⟨_, Tryd.underlying188, rfl⟩, by kernel_rfl⟩
theorem ze_uint32 : ZeroT PP 188 [.int .u32 0] := ⟨.int .u32 0, by kernel_rfl, rfl⟩
theorem el_uint32 : ElemT PP 188 1 4 := ElemT.of (z := .int .u32 0) (by kernel_rfl) rfl (by decide)
theorem zv_uint32 : (PP.info? 188).bind (·.zero) = some (.int .u32 0) := by kernel_rfl
theorem un_uint32 : PP.underlying 188 = some (.int .u32) := Tryd.underlying188
abbrev T_P_uint8 : TypeId := 192
theorem on_P_uint8 : OneT PP 192 := ⟨⟨_, Tryd.underlying192, rfl⟩, by kernel_rfl⟩
theorem ze_P_uint8 : ZeroT PP 192 [.pointer none] := ⟨.pointer none, by kernel_rfl, rfl⟩
theorem el_P_uint8 : ElemT PP 192 1 8 := ElemT.of (z := .pointer none) (by kernel_rfl) rfl (by decide)
theorem un_P_uint8 : PP.underlying 192 = some (.pointer 5) := Tryd.underlying192
theorem eg_Bits : PP.eqGuardType PP.depth 24 = false := by kernel_rfl
theorem eq_Bits (x y : Bits) : EqV PP 2 24 (.agg (Bits.C x).toArray) (.agg (Bits.C y).toArray) (decide (x = y)) := by
  have h := EqV.arr (xs := x.toList) (ys := y.toList) (enc := (Value.int .u64)) Tryd.underlying24 (by kernel_rfl) on_uint64 (by simp) (by simp) (fun a b => EqV.int Tryd.underlying22)
  have e : decide (x.toList = y.toList) = decide (x = y) := by rw [Bool.eq_iff_iff]; simp [Vector.toList_inj]
  rw [e] at h; exact h
theorem ck_Bits (x : Bits) : ChkV PP 2 24 (.agg (Bits.C x).toArray) := ChkV.arr Tryd.underlying24 (by kernel_rfl) on_uint64 (Bits.len x) (by intro v hv; simp only [Bits.C, List.mem_map] at hv; obtain ⟨_, _, rfl⟩ := hv; exact ChkV.int Tryd.underlying22)
theorem eg_Sq : PP.eqGuardType PP.depth 26 = false := by kernel_rfl
theorem eq_Sq (x y : Sq) : EqV PP 3 26 (.agg (Sq.C x).toArray) (.agg (Sq.C y).toArray) (decide (x = y)) := by
  have h := EqV.struct (m := 2) Tryd.underlying26 (by kernel_rfl) (EqF.agg rfl ag_Bits (Sq.sub_left x) (Sq.sub_left y) ((eq_Bits _ _).le (by decide)) (EqF.one rfl on_int (Sq.get_goal x) (Sq.get_goal y) ((EqV.int Tryd.underlying3).le (by decide)) EqF.nil))
  refine (congrArg (EqV PP 3 26 _ _) ?_).mp h
  rw [Bool.eq_iff_iff]; cases x; cases y; simp [Sq.mk.injEq]
theorem ck_Sq (x : Sq) : ChkV PP 3 26 (.agg (Sq.C x).toArray) := ChkV.struct (m := 2) Tryd.underlying26 (ChkF.agg ag_Bits (Sq.sub_left x) ((ck_Bits _).le (by decide)) (ChkF.one on_int (Sq.get_goal x) ((ChkV.int Tryd.underlying3).le (by decide)) ChkF.nil))
theorem eg_Nd : PP.eqGuardType PP.depth 92 = false := by kernel_rfl
theorem eq_Nd (x y : Nd) : EqV PP 2 92 (.agg (Nd.C x).toArray) (.agg (Nd.C y).toArray) (decide (x = y)) := by
  have h := EqV.struct (m := 1) Tryd.underlying92 (by kernel_rfl) (EqF.one rfl on_api_Kind (Nd.get_kind x) (Nd.get_kind y) ((EqV.int Tryd.underlying90).le (by decide)) (EqF.one rfl on_string (Nd.get_name x) (Nd.get_name y) ((EqV.str Tryd.underlying9).le (by decide)) (EqF.one rfl on_int (Nd.get_l x) (Nd.get_l y) ((EqV.int Tryd.underlying3).le (by decide)) (EqF.one rfl on_int (Nd.get_r x) (Nd.get_r y) ((EqV.int Tryd.underlying3).le (by decide)) EqF.nil))))
  refine (congrArg (EqV PP 2 92 _ _) ?_).mp h
  rw [Bool.eq_iff_iff]; cases x; cases y; simp [Nd.mk.injEq]
theorem ck_Nd (x : Nd) : ChkV PP 2 92 (.agg (Nd.C x).toArray) := ChkV.struct (m := 1) Tryd.underlying92 (ChkF.one on_api_Kind (Nd.get_kind x) ((ChkV.int Tryd.underlying90).le (by decide)) (ChkF.one on_string (Nd.get_name x) ((ChkV.str Tryd.underlying9).le (by decide)) (ChkF.one on_int (Nd.get_l x) ((ChkV.int Tryd.underlying3).le (by decide)) (ChkF.one on_int (Nd.get_r x) ((ChkV.int Tryd.underlying3).le (by decide)) ChkF.nil))))
theorem eg_Fnd : PP.eqGuardType PP.depth 107 = false := by kernel_rfl
theorem eq_Fnd (x y : Fnd) : EqV PP 2 107 (.agg (Fnd.C x).toArray) (.agg (Fnd.C y).toArray) (decide (x = y)) := by
  have h := EqV.struct (m := 1) Tryd.underlying107 (by kernel_rfl) (EqF.one rfl on_api_Rule (Fnd.get_k x) (Fnd.get_k y) ((EqV.int Tryd.underlying27).le (by decide)) (EqF.one rfl on_int (Fnd.get_main x) (Fnd.get_main y) ((EqV.int Tryd.underlying3).le (by decide)) EqF.nil))
  refine (congrArg (EqV PP 2 107 _ _) ?_).mp h
  rw [Bool.eq_iff_iff]; cases x; cases y; simp [Fnd.mk.injEq]
theorem ck_Fnd (x : Fnd) : ChkV PP 2 107 (.agg (Fnd.C x).toArray) := ChkV.struct (m := 1) Tryd.underlying107 (ChkF.one on_api_Rule (Fnd.get_k x) ((ChkV.int Tryd.underlying27).le (by decide)) (ChkF.one on_int (Fnd.get_main x) ((ChkV.int Tryd.underlying3).le (by decide)) ChkF.nil))
theorem sb_Nd (x : Nd) (k : Nat) : ∀ v ∈ Nd.C x, Instr.sameBits k v v = true := by
  intro v hv; simp only [Nd.C, List.mem_append, List.mem_singleton, List.mem_map] at hv
  rcases hv with ((hv | hv) | hv) | hv
  all_goals first | (subst hv; exact sameBits_one rfl) | (obtain ⟨_, _, rfl⟩ := hv; exact sameBits_one rfl)
theorem key_Nd : KeyT PP 92 (fun x : Nd => .agg (Nd.C x).toArray) where
  eq := fun a b w => by have := (eq_Nd a b).le (show 2 ≤ 10000 by decide) 0 w; simpa [Op.equal, Op.maxDepth] using this
  check := fun e a w => by have := (ck_Nd a).le (show 2 ≤ 10000 by decide) e 0 w; simpa using this
  same := fun a => sameBits_agg (sb_Nd a _)
  now := ⟨_, Tryd.underlying92, fun _ _ => .inl rfl⟩
theorem sb_Sq (x : Sq) (k : Nat) : ∀ v ∈ Sq.C x, Instr.sameBits k v v = true := by
  intro v hv; simp only [Sq.C, List.mem_append, List.mem_singleton, Bits.C, List.mem_map] at hv
  rcases hv with hv | hv
  all_goals first | (subst hv; exact sameBits_one rfl) | (obtain ⟨_, _, rfl⟩ := hv; exact sameBits_one rfl)
theorem key_Sq : KeyT PP 26 (fun x : Sq => .agg (Sq.C x).toArray) where
  eq := fun a b w => by have := (eq_Sq a b).le (show 3 ≤ 10000 by decide) 0 w; simpa [Op.equal, Op.maxDepth] using this
  check := fun e a w => by have := (ck_Sq a).le (show 3 ≤ 10000 by decide) e 0 w; simpa using this
  same := fun a => sameBits_agg (sb_Sq a _)
  now := ⟨_, Tryd.underlying26, fun _ _ => .inl rfl⟩
abbrev F_law09_RuleNobody : Nat := 3
noncomputable abbrev D_law09_RuleNobody : Func := Tryd.f3
theorem fn_law09_RuleNobody : PP.funcs[F_law09_RuleNobody]? = some D_law09_RuleNobody := Tryd.func3
theorem ca_law09_RuleNobody : Callable PP 3 := ⟨_, Tryd.func3, by kernel_rfl, by kernel_rfl⟩
abbrev F_law09_RuleTells : Nat := 4
noncomputable abbrev D_law09_RuleTells : Func := Tryd.f4
theorem fn_law09_RuleTells : PP.funcs[F_law09_RuleTells]? = some D_law09_RuleTells := Tryd.func4
theorem ca_law09_RuleTells : Callable PP 4 := ⟨_, Tryd.func4, by kernel_rfl, by kernel_rfl⟩
abbrev F_law09_RulePremises : Nat := 5
noncomputable abbrev D_law09_RulePremises : Func := Tryd.f5
theorem fn_law09_RulePremises : PP.funcs[F_law09_RulePremises]? = some D_law09_RulePremises := Tryd.func5
theorem ca_law09_RulePremises : Callable PP 5 := ⟨_, Tryd.func5, by kernel_rfl, by kernel_rfl⟩
abbrev F_law09_RuleFalls : Nat := 6
noncomputable abbrev D_law09_RuleFalls : Func := Tryd.f6
theorem fn_law09_RuleFalls : PP.funcs[F_law09_RuleFalls]? = some D_law09_RuleFalls := Tryd.func6
theorem ca_law09_RuleFalls : Callable PP 6 := ⟨_, Tryd.func6, by kernel_rfl, by kernel_rfl⟩
abbrev F_law09_RuleTruth : Nat := 7
noncomputable abbrev D_law09_RuleTruth : Func := Tryd.f7
theorem fn_law09_RuleTruth : PP.funcs[F_law09_RuleTruth]? = some D_law09_RuleTruth := Tryd.func7
theorem ca_law09_RuleTruth : Callable PP 7 := ⟨_, Tryd.func7, by kernel_rfl, by kernel_rfl⟩
abbrev F_law11_SearchLists : Nat := 8
noncomputable abbrev D_law11_SearchLists : Func := Tryd.f8
theorem fn_law11_SearchLists : PP.funcs[F_law11_SearchLists]? = some D_law11_SearchLists := Tryd.func8
theorem ca_law11_SearchLists : Callable PP 8 := ⟨_, Tryd.func8, by kernel_rfl, by kernel_rfl⟩
abbrev F_law11_SearchWeaker : Nat := 9
noncomputable abbrev D_law11_SearchWeaker : Func := Tryd.f9
theorem fn_law11_SearchWeaker : PP.funcs[F_law11_SearchWeaker]? = some D_law11_SearchWeaker := Tryd.func9
theorem ca_law11_SearchWeaker : Callable PP 9 := ⟨_, Tryd.func9, by kernel_rfl, by kernel_rfl⟩
abbrev F_law11_SearchCut : Nat := 10
noncomputable abbrev D_law11_SearchCut : Func := Tryd.f10
theorem fn_law11_SearchCut : PP.funcs[F_law11_SearchCut]? = some D_law11_SearchCut := Tryd.func10
theorem ca_law11_SearchCut : Callable PP 10 := ⟨_, Tryd.func10, by kernel_rfl, by kernel_rfl⟩
abbrev F_law11_SearchDeduces : Nat := 11
noncomputable abbrev D_law11_SearchDeduces : Func := Tryd.f11
theorem fn_law11_SearchDeduces : PP.funcs[F_law11_SearchDeduces]? = some D_law11_SearchDeduces := Tryd.func11
theorem ca_law11_SearchDeduces : Callable PP 11 := ⟨_, Tryd.func11, by kernel_rfl, by kernel_rfl⟩
abbrev F_law11_SearchTrue : Nat := 12
noncomputable abbrev D_law11_SearchTrue : Func := Tryd.f12
theorem fn_law11_SearchTrue : PP.funcs[F_law11_SearchTrue]? = some D_law11_SearchTrue := Tryd.func12
theorem ca_law11_SearchTrue : Callable PP 12 := ⟨_, Tryd.func12, by kernel_rfl, by kernel_rfl⟩
abbrev F_law11_SearchNobody : Nat := 13
noncomputable abbrev D_law11_SearchNobody : Func := Tryd.f13
theorem fn_law11_SearchNobody : PP.funcs[F_law11_SearchNobody]? = some D_law11_SearchNobody := Tryd.func13
theorem ca_law11_SearchNobody : Callable PP 13 := ⟨_, Tryd.func13, by kernel_rfl, by kernel_rfl⟩
abbrev F_law11_SearchRuns : Nat := 14
noncomputable abbrev D_law11_SearchRuns : Func := Tryd.f14
theorem fn_law11_SearchRuns : PP.funcs[F_law11_SearchRuns]? = some D_law11_SearchRuns := Tryd.func14
theorem ca_law11_SearchRuns : Callable PP 14 := ⟨_, Tryd.func14, by kernel_rfl, by kernel_rfl⟩
abbrev F_law09_nobody : Nat := 15
noncomputable abbrev D_law09_nobody : Func := Tryd.f15
theorem fn_law09_nobody : PP.funcs[F_law09_nobody]? = some D_law09_nobody := Tryd.func15
theorem ca_law09_nobody : Callable PP 15 := ⟨_, Tryd.func15, by kernel_rfl, by kernel_rfl⟩
abbrev F_law09_heads : Nat := 16
noncomputable abbrev D_law09_heads : Func := Tryd.f16
theorem fn_law09_heads : PP.funcs[F_law09_heads]? = some D_law09_heads := Tryd.func16
theorem ca_law09_heads : Callable PP 16 := ⟨_, Tryd.func16, by kernel_rfl, by kernel_rfl⟩
abbrev F_law03_Both : Nat := 17
noncomputable abbrev D_law03_Both : Func := Tryd.f17
theorem fn_law03_Both : PP.funcs[F_law03_Both]? = some D_law03_Both := Tryd.func17
theorem ca_law03_Both : Callable PP 17 := ⟨_, Tryd.func17, by kernel_rfl, by kernel_rfl⟩
abbrev F_rule_Apply : Nat := 18
noncomputable abbrev D_rule_Apply : Func := Tryd.f18
theorem fn_rule_Apply : PP.funcs[F_rule_Apply]? = some D_rule_Apply := Tryd.func18
theorem ca_rule_Apply : Callable PP 18 := ⟨_, Tryd.func18, by kernel_rfl, by kernel_rfl⟩
abbrev F_rule_Choices : Nat := 19
noncomputable abbrev D_rule_Choices : Func := Tryd.f19
theorem fn_rule_Choices : PP.funcs[F_rule_Choices]? = some D_rule_Choices := Tryd.func19
theorem ca_rule_Choices : Callable PP 19 := ⟨_, Tryd.func19, by kernel_rfl, by kernel_rfl⟩
abbrev F_rule_Fits : Nat := 20
noncomputable abbrev D_rule_Fits : Func := Tryd.f20
theorem fn_rule_Fits : PP.funcs[F_rule_Fits]? = some D_rule_Fits := Tryd.func20
theorem ca_rule_Fits : Callable PP 20 := ⟨_, Tryd.func20, by kernel_rfl, by kernel_rfl⟩
abbrev F_ref09_Right : Nat := 21
noncomputable abbrev D_ref09_Right : Func := Tryd.f21
theorem fn_ref09_Right : PP.funcs[F_ref09_Right]? = some D_ref09_Right := Tryd.func21
theorem ca_ref09_Right : Callable PP 21 := ⟨_, Tryd.func21, by kernel_rfl, by kernel_rfl⟩
abbrev F_ref09_Apply : Nat := 22
noncomputable abbrev D_ref09_Apply : Func := Tryd.f22
theorem fn_ref09_Apply : PP.funcs[F_ref09_Apply]? = some D_ref09_Apply := Tryd.func22
theorem ca_ref09_Apply : Callable PP 22 := ⟨_, Tryd.func22, by kernel_rfl, by kernel_rfl⟩
abbrev F_ref09_Choices : Nat := 23
noncomputable abbrev D_ref09_Choices : Func := Tryd.f23
theorem fn_ref09_Choices : PP.funcs[F_ref09_Choices]? = some D_ref09_Choices := Tryd.func23
theorem ca_ref09_Choices : Callable PP 23 := ⟨_, Tryd.func23, by kernel_rfl, by kernel_rfl⟩
abbrev F_law09_rules : Nat := 24
noncomputable abbrev D_law09_rules : Func := Tryd.f24
theorem fn_law09_rules : PP.funcs[F_law09_rules]? = some D_law09_rules := Tryd.func24
theorem ca_law09_rules : Callable PP 24 := ⟨_, Tryd.func24, by kernel_rfl, by kernel_rfl⟩
abbrev F_ref03_Ints : Nat := 25
noncomputable abbrev D_ref03_Ints : Func := Tryd.f25
theorem fn_ref03_Ints : PP.funcs[F_ref03_Ints]? = some D_ref03_Ints := Tryd.func25
theorem ca_ref03_Ints : Callable PP 25 := ⟨_, Tryd.func25, by kernel_rfl, by kernel_rfl⟩
abbrev F_ref09_Fits : Nat := 26
noncomputable abbrev D_ref09_Fits : Func := Tryd.f26
theorem fn_ref09_Fits : PP.funcs[F_ref09_Fits]? = some D_ref09_Fits := Tryd.func26
theorem ca_ref09_Fits : Callable PP 26 := ⟨_, Tryd.func26, by kernel_rfl, by kernel_rfl⟩
abbrev F_law03_Like : Nat := 27
noncomputable abbrev D_law03_Like : Func := Tryd.f27
theorem fn_law03_Like : PP.funcs[F_law03_Like]? = some D_law03_Like := Tryd.func27
theorem ca_law03_Like : Callable PP 27 := ⟨_, Tryd.func27, by kernel_rfl, by kernel_rfl⟩
abbrev F_rule_Premises : Nat := 28
noncomputable abbrev D_rule_Premises : Func := Tryd.f28
theorem fn_rule_Premises : PP.funcs[F_rule_Premises]? = some D_rule_Premises := Tryd.func28
theorem ca_rule_Premises : Callable PP 28 := ⟨_, Tryd.func28, by kernel_rfl, by kernel_rfl⟩
abbrev F_ref09_Premises : Nat := 29
noncomputable abbrev D_ref09_Premises : Func := Tryd.f29
theorem fn_ref09_Premises : PP.funcs[F_ref09_Premises]? = some D_ref09_Premises := Tryd.func29
theorem ca_ref09_Premises : Callable PP 29 := ⟨_, Tryd.func29, by kernel_rfl, by kernel_rfl⟩
abbrev F_ref09_Seqs : Nat := 30
noncomputable abbrev D_ref09_Seqs : Func := Tryd.f30
theorem fn_ref09_Seqs : PP.funcs[F_ref09_Seqs]? = some D_ref09_Seqs := Tryd.func30
theorem ca_ref09_Seqs : Callable PP 30 := ⟨_, Tryd.func30, by kernel_rfl, by kernel_rfl⟩
abbrev F_law09_next : Nat := 31
noncomputable abbrev D_law09_next : Func := Tryd.f31
theorem fn_law09_next : PP.funcs[F_law09_next]? = some D_law09_next := Tryd.func31
theorem ca_law09_next : Callable PP 31 := ⟨_, Tryd.func31, by kernel_rfl, by kernel_rfl⟩
abbrev F_formula_Table_Rows : Nat := 32
noncomputable abbrev D_formula_Table_Rows : Func := Tryd.f32
theorem fn_formula_Table_Rows : PP.funcs[F_formula_Table_Rows]? = some D_formula_Table_Rows := Tryd.func32
theorem ca_formula_Table_Rows : Callable PP 32 := ⟨_, Tryd.func32, by kernel_rfl, by kernel_rfl⟩
abbrev F_ref09_Weights : Nat := 33
noncomputable abbrev D_ref09_Weights : Func := Tryd.f33
theorem fn_ref09_Weights : PP.funcs[F_ref09_Weights]? = some D_ref09_Weights := Tryd.func33
theorem ca_ref09_Weights : Callable PP 33 := ⟨_, Tryd.func33, by kernel_rfl, by kernel_rfl⟩
abbrev F_ref09_Less : Nat := 34
noncomputable abbrev D_ref09_Less : Func := Tryd.f34
theorem fn_ref09_Less : PP.funcs[F_ref09_Less]? = some D_ref09_Less := Tryd.func34
theorem ca_ref09_Less : Callable PP 34 := ⟨_, Tryd.func34, by kernel_rfl, by kernel_rfl⟩
abbrev F_law09_value : Nat := 35
noncomputable abbrev D_law09_value : Func := Tryd.f35
theorem fn_law09_value : PP.funcs[F_law09_value]? = some D_law09_value := Tryd.func35
theorem ca_law09_value : Callable PP 35 := ⟨_, Tryd.func35, by kernel_rfl, by kernel_rfl⟩
abbrev F_law09_wrong : Nat := 36
noncomputable abbrev D_law09_wrong : Func := Tryd.f36
theorem fn_law09_wrong : PP.funcs[F_law09_wrong]? = some D_law09_wrong := Tryd.func36
theorem ca_law09_wrong : Callable PP 36 := ⟨_, Tryd.func36, by kernel_rfl, by kernel_rfl⟩
abbrev F_law11_heads : Nat := 37
noncomputable abbrev D_law11_heads : Func := Tryd.f37
theorem fn_law11_heads : PP.funcs[F_law11_heads]? = some D_law11_heads := Tryd.func37
theorem ca_law11_heads : Callable PP 37 := ⟨_, Tryd.func37, by kernel_rfl, by kernel_rfl⟩
abbrev F_search_Run : Nat := 38
noncomputable abbrev D_search_Run : Func := Tryd.f38
theorem fn_search_Run : PP.funcs[F_search_Run]? = some D_search_Run := Tryd.func38
theorem ca_search_Run : Callable PP 38 := ⟨_, Tryd.func38, by kernel_rfl, by kernel_rfl⟩
abbrev F_law11_with : Nat := 39
noncomputable abbrev D_law11_with : Func := Tryd.f39
theorem fn_law11_with : PP.funcs[F_law11_with]? = some D_law11_with := Tryd.func39
theorem ca_law11_with : Callable PP 39 := ⟨_, Tryd.func39, by kernel_rfl, by kernel_rfl⟩
abbrev F_law11_told : Nat := 40
noncomputable abbrev D_law11_told : Func := Tryd.f40
theorem fn_law11_told : PP.funcs[F_law11_told]? = some D_law11_told := Tryd.func40
theorem ca_law11_told : Callable PP 40 := ⟨_, Tryd.func40, by kernel_rfl, by kernel_rfl⟩
abbrev F_formula_Table_Imp : Nat := 41
noncomputable abbrev D_formula_Table_Imp : Func := Tryd.f41
theorem fn_formula_Table_Imp : PP.funcs[F_formula_Table_Imp]? = some D_formula_Table_Imp := Tryd.func41
theorem ca_formula_Table_Imp : Callable PP 41 := ⟨_, Tryd.func41, by kernel_rfl, by kernel_rfl⟩
abbrev F_ref05_List : Nat := 42
noncomputable abbrev D_ref05_List : Func := Tryd.f42
theorem fn_ref05_List : PP.funcs[F_ref05_List]? = some D_ref05_List := Tryd.func42
theorem ca_ref05_List : Callable PP 42 := ⟨_, Tryd.func42, by kernel_rfl, by kernel_rfl⟩
abbrev F_ref11_Same : Nat := 43
noncomputable abbrev D_ref11_Same : Func := Tryd.f43
theorem fn_ref11_Same : PP.funcs[F_ref11_Same]? = some D_ref11_Same := Tryd.func43
theorem ca_ref11_Same : Callable PP 43 := ⟨_, Tryd.func43, by kernel_rfl, by kernel_rfl⟩
abbrev F_ref11_Run : Nat := 44
noncomputable abbrev D_ref11_Run : Func := Tryd.f44
theorem fn_ref11_Run : PP.funcs[F_ref11_Run]? = some D_ref11_Run := Tryd.func44
theorem ca_ref11_Run : Callable PP 44 := ⟨_, Tryd.func44, by kernel_rfl, by kernel_rfl⟩
abbrev F_formula_From : Nat := 45
noncomputable abbrev D_formula_From : Func := Tryd.f45
theorem fn_formula_From : PP.funcs[F_formula_From]? = some D_formula_From := Tryd.func45
theorem ca_formula_From : Callable PP 45 := ⟨_, Tryd.func45, by kernel_rfl, by kernel_rfl⟩
abbrev F_law09_set : Nat := 46
noncomputable abbrev D_law09_set : Func := Tryd.f46
theorem fn_law09_set : PP.funcs[F_law09_set]? = some D_law09_set := Tryd.func46
theorem ca_law09_set : Callable PP 46 := ⟨_, Tryd.func46, by kernel_rfl, by kernel_rfl⟩
abbrev F_ref03_From : Nat := 47
noncomputable abbrev D_ref03_From : Func := Tryd.f47
theorem fn_ref03_From : PP.funcs[F_ref03_From]? = some D_ref03_From := Tryd.func47
theorem ca_ref03_From : Callable PP 47 := ⟨_, Tryd.func47, by kernel_rfl, by kernel_rfl⟩
abbrev F_rule_look : Nat := 48
noncomputable abbrev D_rule_look : Func := Tryd.f48
theorem fn_rule_look : PP.funcs[F_rule_look]? = some D_rule_look := Tryd.func48
theorem ca_rule_look : Callable PP 48 := ⟨_, Tryd.func48, by kernel_rfl, by kernel_rfl⟩
abbrev F_rule_apply : Nat := 49
noncomputable abbrev D_rule_apply : Func := Tryd.f49
theorem fn_rule_apply : PP.funcs[F_rule_apply]? = some D_rule_apply := Tryd.func49
theorem ca_rule_apply : Callable PP 49 := ⟨_, Tryd.func49, by kernel_rfl, by kernel_rfl⟩
abbrev F_rule_node : Nat := 50
noncomputable abbrev D_rule_node : Func := Tryd.f50
theorem fn_rule_node : PP.funcs[F_rule_node]? = some D_rule_node := Tryd.func50
theorem ca_rule_node : Callable PP 50 := ⟨_, Tryd.func50, by kernel_rfl, by kernel_rfl⟩
abbrev F_bits_All : Nat := 51
noncomputable abbrev D_bits_All : Func := Tryd.f51
theorem fn_bits_All : PP.funcs[F_bits_All]? = some D_bits_All := Tryd.func51
theorem ca_bits_All : Callable PP 51 := ⟨_, Tryd.func51, by kernel_rfl, by kernel_rfl⟩
abbrev F_rule_on : Nat := 52
noncomputable abbrev D_rule_on : Func := Tryd.f52
theorem fn_rule_on : PP.funcs[F_rule_on]? = some D_rule_on := Tryd.func52
theorem ca_rule_on : Callable PP 52 := ⟨_, Tryd.func52, by kernel_rfl, by kernel_rfl⟩
abbrev F_rule_fits : Nat := 53
noncomputable abbrev D_rule_fits : Func := Tryd.f53
theorem fn_rule_fits : PP.funcs[F_rule_fits]? = some D_rule_fits := Tryd.func53
theorem ca_rule_fits : Callable PP 53 := ⟨_, Tryd.func53, by kernel_rfl, by kernel_rfl⟩
abbrev F_ref03_T_Has : Nat := 54
noncomputable abbrev D_ref03_T_Has : Func := Tryd.f54
theorem fn_ref03_T_Has : PP.funcs[F_ref03_T_Has]? = some D_ref03_T_Has := Tryd.func54
theorem ca_ref03_T_Has : Callable PP 54 := ⟨_, Tryd.func54, by kernel_rfl, by kernel_rfl⟩
abbrev F_ref09_first : Nat := 55
noncomputable abbrev D_ref09_first : Func := Tryd.f55
theorem fn_ref09_first : PP.funcs[F_ref09_first]? = some D_ref09_first := Tryd.func55
theorem ca_ref09_first : Callable PP 55 := ⟨_, Tryd.func55, by kernel_rfl, by kernel_rfl⟩
abbrev F_ref09_kind : Nat := 56
noncomputable abbrev D_ref09_kind : Func := Tryd.f56
theorem fn_ref09_kind : PP.funcs[F_ref09_kind]? = some D_ref09_kind := Tryd.func56
theorem ca_ref09_kind : Callable PP 56 := ⟨_, Tryd.func56, by kernel_rfl, by kernel_rfl⟩
abbrev F_ref05_Has : Nat := 57
noncomputable abbrev D_ref05_Has : Func := Tryd.f57
theorem fn_ref05_Has : PP.funcs[F_ref05_Has]? = some D_ref05_Has := Tryd.func57
theorem ca_ref05_Has : Callable PP 57 := ⟨_, Tryd.func57, by kernel_rfl, by kernel_rfl⟩
abbrev F_ref03_Same : Nat := 58
noncomputable abbrev D_ref03_Same : Func := Tryd.f58
theorem fn_ref03_Same : PP.funcs[F_ref03_Same]? = some D_ref03_Same := Tryd.func58
theorem ca_ref03_Same : Callable PP 58 := ⟨_, Tryd.func58, by kernel_rfl, by kernel_rfl⟩
abbrev F_formula_Table_Len : Nat := 59
noncomputable abbrev D_formula_Table_Len : Func := Tryd.f59
theorem fn_formula_Table_Len : PP.funcs[F_formula_Table_Len]? = some D_formula_Table_Len := Tryd.func59
theorem ca_formula_Table_Len : Callable PP 59 := ⟨_, Tryd.func59, by kernel_rfl, by kernel_rfl⟩
abbrev F_rule_premises : Nat := 60
noncomputable abbrev D_rule_premises : Func := Tryd.f60
theorem fn_rule_premises : PP.funcs[F_rule_premises]? = some D_rule_premises := Tryd.func60
theorem ca_rule_premises : Callable PP 60 := ⟨_, Tryd.func60, by kernel_rfl, by kernel_rfl⟩
abbrev F_formula_Table_Cut : Nat := 61
noncomputable abbrev D_formula_Table_Cut : Func := Tryd.f61
theorem fn_formula_Table_Cut : PP.funcs[F_formula_Table_Cut]? = some D_formula_Table_Cut := Tryd.func61
theorem ca_formula_Table_Cut : Callable PP 61 := ⟨_, Tryd.func61, by kernel_rfl, by kernel_rfl⟩
abbrev F_ref05_Drop : Nat := 62
noncomputable abbrev D_ref05_Drop : Func := Tryd.f62
theorem fn_ref05_Drop : PP.funcs[F_ref05_Drop]? = some D_ref05_Drop := Tryd.func62
theorem ca_ref05_Drop : Callable PP 62 := ⟨_, Tryd.func62, by kernel_rfl, by kernel_rfl⟩
abbrev F_ref09_with : Nat := 63
noncomputable abbrev D_ref09_with : Func := Tryd.f63
theorem fn_ref09_with : PP.funcs[F_ref09_with]? = some D_ref09_with := Tryd.func63
theorem ca_ref09_with : Callable PP 63 := ⟨_, Tryd.func63, by kernel_rfl, by kernel_rfl⟩
abbrev F_ref09_imps : Nat := 64
noncomputable abbrev D_ref09_imps : Func := Tryd.f64
theorem fn_ref09_imps : PP.funcs[F_ref09_imps]? = some D_ref09_imps := Tryd.func64
theorem ca_ref09_imps : Callable PP 64 := ⟨_, Tryd.func64, by kernel_rfl, by kernel_rfl⟩
abbrev F_ref09_to : Nat := 65
noncomputable abbrev D_ref09_to : Func := Tryd.f65
theorem fn_ref09_to : PP.funcs[F_ref09_to]? = some D_ref09_to := Tryd.func65
theorem ca_ref09_to : Callable PP 65 := ⟨_, Tryd.func65, by kernel_rfl, by kernel_rfl⟩
abbrev F_ref03_T_Imp : Nat := 66
noncomputable abbrev D_ref03_T_Imp : Func := Tryd.f66
theorem fn_ref03_T_Imp : PP.funcs[F_ref03_T_Imp]? = some D_ref03_T_Imp := Tryd.func66
theorem ca_ref03_T_Imp : Callable PP 66 := ⟨_, Tryd.func66, by kernel_rfl, by kernel_rfl⟩
abbrev F_formula_Table_alive : Nat := 67
noncomputable abbrev D_formula_Table_alive : Func := Tryd.f67
theorem fn_formula_Table_alive : PP.funcs[F_formula_Table_alive]? = some D_formula_Table_alive := Tryd.func67
theorem ca_formula_Table_alive : Callable PP 67 := ⟨_, Tryd.func67, by kernel_rfl, by kernel_rfl⟩
abbrev F_slices_Clone_api_Node_api_Node : Nat := 68
noncomputable abbrev D_slices_Clone_api_Node_api_Node : Func := Tryd.f68
theorem fn_slices_Clone_api_Node_api_Node : PP.funcs[F_slices_Clone_api_Node_api_Node]? = some D_slices_Clone_api_Node_api_Node := Tryd.func68
theorem ca_slices_Clone_api_Node_api_Node : Callable PP 68 := ⟨_, Tryd.func68, by kernel_rfl, by kernel_rfl⟩
abbrev F_formula_Table_Not : Nat := 69
noncomputable abbrev D_formula_Table_Not : Func := Tryd.f69
theorem fn_formula_Table_Not : PP.funcs[F_formula_Table_Not]? = some D_formula_Table_Not := Tryd.func69
theorem ca_formula_Table_Not : Callable PP 69 := ⟨_, Tryd.func69, by kernel_rfl, by kernel_rfl⟩
abbrev F_search_finder_decide : Nat := 70
noncomputable abbrev D_search_finder_decide : Func := Tryd.f70
theorem fn_search_finder_decide : PP.funcs[F_search_finder_decide]? = some D_search_finder_decide := Tryd.func70
theorem ca_search_finder_decide : Callable PP 70 := ⟨_, Tryd.func70, by kernel_rfl, by kernel_rfl⟩
abbrev F_ref05_Put : Nat := 71
noncomputable abbrev D_ref05_Put : Func := Tryd.f71
theorem fn_ref05_Put : PP.funcs[F_ref05_Put]? = some D_ref05_Put := Tryd.func71
theorem ca_ref05_Put : Callable PP 71 := ⟨_, Tryd.func71, by kernel_rfl, by kernel_rfl⟩
abbrev F_formula_Table_Put : Nat := 72
noncomputable abbrev D_formula_Table_Put : Func := Tryd.f72
theorem fn_formula_Table_Put : PP.funcs[F_formula_Table_Put]? = some D_formula_Table_Put := Tryd.func72
theorem ca_formula_Table_Put : Callable PP 72 := ⟨_, Tryd.func72, by kernel_rfl, by kernel_rfl⟩
abbrev F_ref11_Steps : Nat := 73
noncomputable abbrev D_ref11_Steps : Func := Tryd.f73
theorem fn_ref11_Steps : PP.funcs[F_ref11_Steps]? = some D_ref11_Steps := Tryd.func73
theorem ca_ref11_Steps : Callable PP 73 := ⟨_, Tryd.func73, by kernel_rfl, by kernel_rfl⟩
abbrev F_ref11_run_decide : Nat := 74
noncomputable abbrev D_ref11_run_decide : Func := Tryd.f74
theorem fn_ref11_run_decide : PP.funcs[F_ref11_run_decide]? = some D_ref11_run_decide := Tryd.func74
theorem ca_ref11_run_decide : Callable PP 74 := ⟨_, Tryd.func74, by kernel_rfl, by kernel_rfl⟩
abbrev F_ref03_T_Cut : Nat := 75
noncomputable abbrev D_ref03_T_Cut : Func := Tryd.f75
theorem fn_ref03_T_Cut : PP.funcs[F_ref03_T_Cut]? = some D_ref03_T_Cut := Tryd.func75
theorem ca_ref03_T_Cut : Callable PP 75 := ⟨_, Tryd.func75, by kernel_rfl, by kernel_rfl⟩
abbrev F_formula_New : Nat := 76
noncomputable abbrev D_formula_New : Func := Tryd.f76
theorem fn_formula_New : PP.funcs[F_formula_New]? = some D_formula_New := Tryd.func76
theorem ca_formula_New : Callable PP 76 := ⟨_, Tryd.func76, by kernel_rfl, by kernel_rfl⟩
abbrev F_ref05_Of : Nat := 77
noncomputable abbrev D_ref05_Of : Func := Tryd.f77
theorem fn_ref05_Of : PP.funcs[F_ref05_Of]? = some D_ref05_Of := Tryd.func77
theorem ca_ref05_Of : Callable PP 77 := ⟨_, Tryd.func77, by kernel_rfl, by kernel_rfl⟩
abbrev F_ref03_T_Put : Nat := 78
noncomputable abbrev D_ref03_T_Put : Func := Tryd.f78
theorem fn_ref03_T_Put : PP.funcs[F_ref03_T_Put]? = some D_ref03_T_Put := Tryd.func78
theorem ca_ref03_T_Put : Callable PP 78 := ⟨_, Tryd.func78, by kernel_rfl, by kernel_rfl⟩
abbrev F_rule_apply_1 : Nat := 79
noncomputable abbrev D_rule_apply_1 : Func := Tryd.f79
theorem fn_rule_apply_1 : PP.funcs[F_rule_apply_1]? = some D_rule_apply_1 := Tryd.func79
theorem ca_rule_apply_1 : Callable PP 79 := ⟨_, Tryd.func79, by kernel_rfl, by kernel_rfl⟩
abbrev F_rule_least : Nat := 80
noncomputable abbrev D_rule_least : Func := Tryd.f80
theorem fn_rule_least : PP.funcs[F_rule_least]? = some D_rule_least := Tryd.func80
theorem ca_rule_least : Callable PP 80 := ⟨_, Tryd.func80, by kernel_rfl, by kernel_rfl⟩
abbrev F_rule_apply_1_1 : Nat := 81
noncomputable abbrev D_rule_apply_1_1 : Func := Tryd.f81
theorem fn_rule_apply_1_1 : PP.funcs[F_rule_apply_1_1]? = some D_rule_apply_1_1 := Tryd.func81
theorem ca_rule_apply_1_1 : Callable PP 81 := ⟨_, Tryd.func81, by kernel_rfl, by kernel_rfl⟩
abbrev F_rule_apply_2 : Nat := 82
noncomputable abbrev D_rule_apply_2 : Func := Tryd.f82
theorem fn_rule_apply_2 : PP.funcs[F_rule_apply_2]? = some D_rule_apply_2 := Tryd.func82
theorem ca_rule_apply_2 : Callable PP 82 := ⟨_, Tryd.func82, by kernel_rfl, by kernel_rfl⟩
abbrev F_bits_Has : Nat := 83
noncomputable abbrev D_bits_Has : Func := Tryd.f83
theorem fn_bits_Has : PP.funcs[F_bits_Has]? = some D_bits_Has := Tryd.func83
theorem ca_bits_Has : Callable PP 83 := ⟨_, Tryd.func83, by kernel_rfl, by kernel_rfl⟩
abbrev F_rule_apply_3 : Nat := 84
noncomputable abbrev D_rule_apply_3 : Func := Tryd.f84
theorem fn_rule_apply_3 : PP.funcs[F_rule_apply_3]? = some D_rule_apply_3 := Tryd.func84
theorem ca_rule_apply_3 : Callable PP 84 := ⟨_, Tryd.func84, by kernel_rfl, by kernel_rfl⟩
abbrev F_rule_apply_3_1 : Nat := 85
noncomputable abbrev D_rule_apply_3_1 : Func := Tryd.f85
theorem fn_rule_apply_3_1 : PP.funcs[F_rule_apply_3_1]? = some D_rule_apply_3_1 := Tryd.func85
theorem ca_rule_apply_3_1 : Callable PP 85 := ⟨_, Tryd.func85, by kernel_rfl, by kernel_rfl⟩
abbrev F_rule_apply_4 : Nat := 86
noncomputable abbrev D_rule_apply_4 : Func := Tryd.f86
theorem fn_rule_apply_4 : PP.funcs[F_rule_apply_4]? = some D_rule_apply_4 := Tryd.func86
theorem ca_rule_apply_4 : Callable PP 86 := ⟨_, Tryd.func86, by kernel_rfl, by kernel_rfl⟩
abbrev F_rule_apply_5 : Nat := 87
noncomputable abbrev D_rule_apply_5 : Func := Tryd.f87
theorem fn_rule_apply_5 : PP.funcs[F_rule_apply_5]? = some D_rule_apply_5 := Tryd.func87
theorem ca_rule_apply_5 : Callable PP 87 := ⟨_, Tryd.func87, by kernel_rfl, by kernel_rfl⟩
abbrev F_rule_apply_6 : Nat := 88
noncomputable abbrev D_rule_apply_6 : Func := Tryd.f88
theorem fn_rule_apply_6 : PP.funcs[F_rule_apply_6]? = some D_rule_apply_6 := Tryd.func88
theorem ca_rule_apply_6 : Callable PP 88 := ⟨_, Tryd.func88, by kernel_rfl, by kernel_rfl⟩
abbrev F_rule_apply_6_1 : Nat := 89
noncomputable abbrev D_rule_apply_6_1 : Func := Tryd.f89
theorem fn_rule_apply_6_1 : PP.funcs[F_rule_apply_6_1]? = some D_rule_apply_6_1 := Tryd.func89
theorem ca_rule_apply_6_1 : Callable PP 89 := ⟨_, Tryd.func89, by kernel_rfl, by kernel_rfl⟩
abbrev F_formula_Table_Node : Nat := 90
noncomputable abbrev D_formula_Table_Node : Func := Tryd.f90
theorem fn_formula_Table_Node : PP.funcs[F_formula_Table_Node]? = some D_formula_Table_Node := Tryd.func90
theorem ca_formula_Table_Node : Callable PP 90 := ⟨_, Tryd.func90, by kernel_rfl, by kernel_rfl⟩
abbrev F_bits_All_1 : Nat := 91
noncomputable abbrev D_bits_All_1 : Func := Tryd.f91
theorem fn_bits_All_1 : PP.funcs[F_bits_All_1]? = some D_bits_All_1 := Tryd.func91
theorem ca_bits_All_1 : Callable PP 91 := ⟨_, Tryd.func91, by kernel_rfl, by kernel_rfl⟩
abbrev F_bits_Next : Nat := 92
noncomputable abbrev D_bits_Next : Func := Tryd.f92
theorem fn_bits_Next : PP.funcs[F_bits_Next]? = some D_bits_Next := Tryd.func92
theorem ca_bits_Next : Callable PP 92 := ⟨_, Tryd.func92, by kernel_rfl, by kernel_rfl⟩
abbrev F_bits_Drop : Nat := 93
noncomputable abbrev D_bits_Drop : Func := Tryd.f93
theorem fn_bits_Drop : PP.funcs[F_bits_Drop]? = some D_bits_Drop := Tryd.func93
theorem ca_bits_Drop : Callable PP 93 := ⟨_, Tryd.func93, by kernel_rfl, by kernel_rfl⟩
abbrev F_rule_with : Nat := 94
noncomputable abbrev D_rule_with : Func := Tryd.f94
theorem fn_rule_with : PP.funcs[F_rule_with]? = some D_rule_with := Tryd.func94
theorem ca_rule_with : Callable PP 94 := ⟨_, Tryd.func94, by kernel_rfl, by kernel_rfl⟩
abbrev F_rule_imps : Nat := 95
noncomputable abbrev D_rule_imps : Func := Tryd.f95
theorem fn_rule_imps : PP.funcs[F_rule_imps]? = some D_rule_imps := Tryd.func95
theorem ca_rule_imps : Callable PP 95 := ⟨_, Tryd.func95, by kernel_rfl, by kernel_rfl⟩
abbrev F_rule_pair : Nat := 96
noncomputable abbrev D_rule_pair : Func := Tryd.f96
theorem fn_rule_pair : PP.funcs[F_rule_pair]? = some D_rule_pair := Tryd.func96
theorem ca_rule_pair : Callable PP 96 := ⟨_, Tryd.func96, by kernel_rfl, by kernel_rfl⟩
abbrev F_rule_premises_1 : Nat := 97
noncomputable abbrev D_rule_premises_1 : Func := Tryd.f97
theorem fn_rule_premises_1 : PP.funcs[F_rule_premises_1]? = some D_rule_premises_1 := Tryd.func97
theorem ca_rule_premises_1 : Callable PP 97 := ⟨_, Tryd.func97, by kernel_rfl, by kernel_rfl⟩
abbrev F_rule_to : Nat := 98
noncomputable abbrev D_rule_to : Func := Tryd.f98
theorem fn_rule_to : PP.funcs[F_rule_to]? = some D_rule_to := Tryd.func98
theorem ca_rule_to : Callable PP 98 := ⟨_, Tryd.func98, by kernel_rfl, by kernel_rfl⟩
abbrev F_ref05_With : Nat := 99
noncomputable abbrev D_ref05_With : Func := Tryd.f99
theorem fn_ref05_With : PP.funcs[F_ref05_With]? = some D_ref05_With := Tryd.func99
theorem ca_ref05_With : Callable PP 99 := ⟨_, Tryd.func99, by kernel_rfl, by kernel_rfl⟩
abbrev F_ref03_T_Two : Nat := 100
noncomputable abbrev D_ref03_T_Two : Func := Tryd.f100
theorem fn_ref03_T_Two : PP.funcs[F_ref03_T_Two]? = some D_ref03_T_Two := Tryd.func100
theorem ca_ref03_T_Two : Callable PP 100 := ⟨_, Tryd.func100, by kernel_rfl, by kernel_rfl⟩
abbrev F_formula_Table_has : Nat := 101
noncomputable abbrev D_formula_Table_has : Func := Tryd.f101
theorem fn_formula_Table_has : PP.funcs[F_formula_Table_has]? = some D_formula_Table_has := Tryd.func101
theorem ca_formula_Table_has : Callable PP 101 := ⟨_, Tryd.func101, by kernel_rfl, by kernel_rfl⟩
abbrev F_formula_Table_Bot : Nat := 102
noncomputable abbrev D_formula_Table_Bot : Func := Tryd.f102
theorem fn_formula_Table_Bot : PP.funcs[F_formula_Table_Bot]? = some D_formula_Table_Bot := Tryd.func102
theorem ca_formula_Table_Bot : Callable PP 102 := ⟨_, Tryd.func102, by kernel_rfl, by kernel_rfl⟩
abbrev F_search_finder_choose : Nat := 103
noncomputable abbrev D_search_finder_choose : Func := Tryd.f103
theorem fn_search_finder_choose : PP.funcs[F_search_finder_choose]? = some D_search_finder_choose := Tryd.func103
theorem ca_search_finder_choose : Callable PP 103 := ⟨_, Tryd.func103, by kernel_rfl, by kernel_rfl⟩
abbrev F_search_finder_end : Nat := 104
noncomputable abbrev D_search_finder_end : Func := Tryd.f104
theorem fn_search_finder_end : PP.funcs[F_search_finder_end]? = some D_search_finder_end := Tryd.func104
theorem ca_search_finder_end : Callable PP 104 := ⟨_, Tryd.func104, by kernel_rfl, by kernel_rfl⟩
abbrev F_formula_Table_fits : Nat := 105
noncomputable abbrev D_formula_Table_fits : Func := Tryd.f105
theorem fn_formula_Table_fits : PP.funcs[F_formula_Table_fits]? = some D_formula_Table_fits := Tryd.func105
theorem ca_formula_Table_fits : Callable PP 105 := ⟨_, Tryd.func105, by kernel_rfl, by kernel_rfl⟩
abbrev F_ref11_run_find : Nat := 106
noncomputable abbrev D_ref11_run_find : Func := Tryd.f106
theorem fn_ref11_run_find : PP.funcs[F_ref11_run_find]? = some D_ref11_run_find := Tryd.func106
theorem ca_ref11_run_find : Callable PP 106 := ⟨_, Tryd.func106, by kernel_rfl, by kernel_rfl⟩
abbrev F_ref11_run_choose : Nat := 107
noncomputable abbrev D_ref11_run_choose : Func := Tryd.f107
theorem fn_ref11_run_choose : PP.funcs[F_ref11_run_choose]? = some D_ref11_run_choose := Tryd.func107
theorem ca_ref11_run_choose : Callable PP 107 := ⟨_, Tryd.func107, by kernel_rfl, by kernel_rfl⟩
abbrev F_ref11_run_end : Nat := 108
noncomputable abbrev D_ref11_run_end : Func := Tryd.f108
theorem fn_ref11_run_end : PP.funcs[F_ref11_run_end]? = some D_ref11_run_end := Tryd.func108
theorem ca_ref11_run_end : Callable PP 108 := ⟨_, Tryd.func108, by kernel_rfl, by kernel_rfl⟩
abbrev F_ref03_Word : Nat := 109
noncomputable abbrev D_ref03_Word : Func := Tryd.f109
theorem fn_ref03_Word : PP.funcs[F_ref03_Word]? = some D_ref03_Word := Tryd.func109
theorem ca_ref03_Word : Callable PP 109 := ⟨_, Tryd.func109, by kernel_rfl, by kernel_rfl⟩
abbrev F_ref03_T_Find : Nat := 110
noncomputable abbrev D_ref03_T_Find : Func := Tryd.f110
theorem fn_ref03_T_Find : PP.funcs[F_ref03_T_Find]? = some D_ref03_T_Find := Tryd.func110
theorem ca_ref03_T_Find : Callable PP 110 := ⟨_, Tryd.func110, by kernel_rfl, by kernel_rfl⟩
abbrev F_bits_inside : Nat := 111
noncomputable abbrev D_bits_inside : Func := Tryd.f111
theorem fn_bits_inside : PP.funcs[F_bits_inside]? = some D_bits_inside := Tryd.func111
theorem ca_bits_inside : Callable PP 111 := ⟨_, Tryd.func111, by kernel_rfl, by kernel_rfl⟩
abbrev F_math_bits_TrailingZeros64 : Nat := 112
noncomputable abbrev D_math_bits_TrailingZeros64 : Func := Tryd.f112
theorem fn_math_bits_TrailingZeros64 : PP.funcs[F_math_bits_TrailingZeros64]? = some D_math_bits_TrailingZeros64 := Tryd.func112
theorem ca_math_bits_TrailingZeros64 : Callable PP 112 := ⟨_, Tryd.func112, by kernel_rfl, by kernel_rfl⟩
abbrev F_bits_Of : Nat := 113
noncomputable abbrev D_bits_Of : Func := Tryd.f113
theorem fn_bits_Of : PP.funcs[F_bits_Of]? = some D_bits_Of := Tryd.func113
theorem ca_bits_Of : Callable PP 113 := ⟨_, Tryd.func113, by kernel_rfl, by kernel_rfl⟩
abbrev F_bits_Minus : Nat := 114
noncomputable abbrev D_bits_Minus : Func := Tryd.f114
theorem fn_bits_Minus : PP.funcs[F_bits_Minus]? = some D_bits_Minus := Tryd.func114
theorem ca_bits_Minus : Callable PP 114 := ⟨_, Tryd.func114, by kernel_rfl, by kernel_rfl⟩
abbrev F_bits_Union : Nat := 115
noncomputable abbrev D_bits_Union : Func := Tryd.f115
theorem fn_bits_Union : PP.funcs[F_bits_Union]? = some D_bits_Union := Tryd.func115
theorem ca_bits_Union : Callable PP 115 := ⟨_, Tryd.func115, by kernel_rfl, by kernel_rfl⟩
abbrev F_rule_pair_1 : Nat := 116
noncomputable abbrev D_rule_pair_1 : Func := Tryd.f116
theorem fn_rule_pair_1 : PP.funcs[F_rule_pair_1]? = some D_rule_pair_1 := Tryd.func116
theorem ca_rule_pair_1 : Callable PP 116 := ⟨_, Tryd.func116, by kernel_rfl, by kernel_rfl⟩
abbrev F_formula_Word : Nat := 117
noncomputable abbrev D_formula_Word : Func := Tryd.f117
theorem fn_formula_Word : PP.funcs[F_formula_Word]? = some D_formula_Word := Tryd.func117
theorem ca_formula_Word : Callable PP 117 := ⟨_, Tryd.func117, by kernel_rfl, by kernel_rfl⟩
abbrev F_ref03_letter : Nat := 118
noncomputable abbrev D_ref03_letter : Func := Tryd.f118
theorem fn_ref03_letter : PP.funcs[F_ref03_letter]? = some D_ref03_letter := Tryd.func118
theorem ca_ref03_letter : Callable PP 118 := ⟨_, Tryd.func118, by kernel_rfl, by kernel_rfl⟩
abbrev F_ref03_Reserved : Nat := 119
noncomputable abbrev D_ref03_Reserved : Func := Tryd.f119
theorem fn_ref03_Reserved : PP.funcs[F_ref03_Reserved]? = some D_ref03_Reserved := Tryd.func119
theorem ca_ref03_Reserved : Callable PP 119 := ⟨_, Tryd.func119, by kernel_rfl, by kernel_rfl⟩
abbrev F_bits_each : Nat := 120
noncomputable abbrev D_bits_each : Func := Tryd.f120
theorem fn_bits_each : PP.funcs[F_bits_each]? = some D_bits_each := Tryd.func120
theorem ca_bits_each : Callable PP 120 := ⟨_, Tryd.func120, by kernel_rfl, by kernel_rfl⟩
abbrev F_bits_Minus_1 : Nat := 121
noncomputable abbrev D_bits_Minus_1 : Func := Tryd.f121
theorem fn_bits_Minus_1 : PP.funcs[F_bits_Minus_1]? = some D_bits_Minus_1 := Tryd.func121
theorem ca_bits_Minus_1 : Callable PP 121 := ⟨_, Tryd.func121, by kernel_rfl, by kernel_rfl⟩
abbrev F_bits_Union_1 : Nat := 122
noncomputable abbrev D_bits_Union_1 : Func := Tryd.f122
theorem fn_bits_Union_1 : PP.funcs[F_bits_Union_1]? = some D_bits_Union_1 := Tryd.func122
theorem ca_bits_Union_1 : Callable PP 122 := ⟨_, Tryd.func122, by kernel_rfl, by kernel_rfl⟩
abbrev F_formula_reserved : Nat := 123
noncomputable abbrev D_formula_reserved : Func := Tryd.f123
theorem fn_formula_reserved : PP.funcs[F_formula_reserved]? = some D_formula_reserved := Tryd.func123
theorem ca_formula_reserved : Callable PP 123 := ⟨_, Tryd.func123, by kernel_rfl, by kernel_rfl⟩
abbrev F_ref03_T_Bot : Nat := 139
noncomputable abbrev D_ref03_T_Bot : Func := Tryd.f139
theorem fn_ref03_T_Bot : PP.funcs[F_ref03_T_Bot]? = some D_ref03_T_Bot := Tryd.func139
end Go.Proofs.YtjjkhjieegmphaaDoor
