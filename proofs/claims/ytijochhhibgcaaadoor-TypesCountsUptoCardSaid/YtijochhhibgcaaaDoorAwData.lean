/- The walk over data: the values of this program as typed Lean data, and a computed walk over them, shown sound. -/
import Derived.Test.YtijochhhibgcaaaDoorLoop
section
namespace Go.AW
structure ValT where
  num : Int
  null : Bool
  heap : Int
  deriving Inhabited, DecidableEq
def ValT.cells (x : ValT) : List AV := [.int .i64 x.num, .bool x.null, .int .i64 x.heap]
structure FieldT where
  ty : ValT
  mt : Bool
  deriving Inhabited, DecidableEq
def FieldT.cells (x : FieldT) : List AV := [.int .i64 x.ty.num, .bool x.ty.null, .int .i64 x.ty.heap, .bool x.mt]
structure CompT where
  kind : Int
  params : List ValT
  results : List ValT
  fields : List FieldT
  deriving Inhabited, DecidableEq
def CompT.cells (x : CompT) : List AV := [.int .i64 x.kind, .slice (x.params.map ValT.cells), .slice (x.results.map ValT.cells), .slice (x.fields.map FieldT.cells)]
structure SubT where
  final : Bool
  supers : List Int
  comp : CompT
  deriving Inhabited, DecidableEq
def SubT.cells (x : SubT) : List AV := [.bool x.final, .slice (x.supers.map fun n => [.int .i64 n]), .int .i64 x.comp.kind, .slice (x.comp.params.map ValT.cells), .slice (x.comp.results.map ValT.cells), .slice (x.comp.fields.map FieldT.cells)]
structure RecT where
  types : List SubT
  explicit : Bool
  deriving Inhabited, DecidableEq
def RecT.cells (x : RecT) : List AV := [.slice (x.types.map SubT.cells), .bool x.explicit]
structure LimitsT where
  wide : Bool
  min : Int
  max : Int
  hasMax : Bool
  deriving Inhabited, DecidableEq
def LimitsT.cells (x : LimitsT) : List AV := [.bool x.wide, .int .u64 x.min, .int .u64 x.max, .bool x.hasMax]
structure TableT where
  elem : ValT
  limits : LimitsT
  deriving Inhabited, DecidableEq
def TableT.cells (x : TableT) : List AV := [.int .i64 x.elem.num, .bool x.elem.null, .int .i64 x.elem.heap, .bool x.limits.wide, .int .u64 x.limits.min, .int .u64 x.limits.max, .bool x.limits.hasMax]
structure GlobalT where
  ty : ValT
  mt : Bool
  deriving Inhabited, DecidableEq
def GlobalT.cells (x : GlobalT) : List AV := [.int .i64 x.ty.num, .bool x.ty.null, .int .i64 x.ty.heap, .bool x.mt]
structure ExternT where
  kind : Int
  ty : Int
  table : TableT
  memory : LimitsT
  global : GlobalT
  deriving Inhabited, DecidableEq
def ExternT.cells (x : ExternT) : List AV := [.int .i64 x.kind, .int .i64 x.ty, .int .i64 x.table.elem.num, .bool x.table.elem.null, .int .i64 x.table.elem.heap, .bool x.table.limits.wide, .int .u64 x.table.limits.min, .int .u64 x.table.limits.max, .bool x.table.limits.hasMax, .bool x.memory.wide, .int .u64 x.memory.min, .int .u64 x.memory.max, .bool x.memory.hasMax, .int .i64 x.global.ty.num, .bool x.global.ty.null, .int .i64 x.global.ty.heap, .bool x.global.mt]
structure ImportT where
  md : List UInt8
  name : List UInt8
  ext : ExternT
  deriving Inhabited, DecidableEq
def ImportT.cells (x : ImportT) : List AV := [.str x.md, .str x.name, .int .i64 x.ext.kind, .int .i64 x.ext.ty, .int .i64 x.ext.table.elem.num, .bool x.ext.table.elem.null, .int .i64 x.ext.table.elem.heap, .bool x.ext.table.limits.wide, .int .u64 x.ext.table.limits.min, .int .u64 x.ext.table.limits.max, .bool x.ext.table.limits.hasMax, .bool x.ext.memory.wide, .int .u64 x.ext.memory.min, .int .u64 x.ext.memory.max, .bool x.ext.memory.hasMax, .int .i64 x.ext.global.ty.num, .bool x.ext.global.ty.null, .int .i64 x.ext.global.ty.heap, .bool x.ext.global.mt]
structure ExportT where
  name : List UInt8
  kind : Int
  pos : Int
  deriving Inhabited, DecidableEq
def ExportT.cells (x : ExportT) : List AV := [.str x.name, .int .i64 x.kind, .int .u32 x.pos]
structure MemArgT where
  align : Int
  mem : Int
  offset : Int
  deriving Inhabited, DecidableEq
def MemArgT.cells (x : MemArgT) : List AV := [.int .u32 x.align, .int .u32 x.mem, .int .u64 x.offset]
structure BlockT where
  ty : Int
  result : ValT
  deriving Inhabited, DecidableEq
def BlockT.cells (x : BlockT) : List AV := [.int .i64 x.ty, .int .i64 x.result.num, .bool x.result.null, .int .i64 x.result.heap]
structure CatchT where
  kind : Int
  tag : Int
  label : Int
  deriving Inhabited, DecidableEq
def CatchT.cells (x : CatchT) : List AV := [.int .i64 x.kind, .int .u32 x.tag, .int .u32 x.label]
inductive InstrT where
  | mk (op : Int) (x : Int) (y : Int) (n : Int) (mem : MemArgT) (block : BlockT) (body : List InstrT) (els : List InstrT) (hasElse : Bool) (labels : List Int) (types : List ValT) (catches : List CatchT)
  deriving Inhabited
def InstrT.op : InstrT → Int | .mk x _ _ _ _ _ _ _ _ _ _ _ => x
def InstrT.x : InstrT → Int | .mk _ x _ _ _ _ _ _ _ _ _ _ => x
def InstrT.y : InstrT → Int | .mk _ _ x _ _ _ _ _ _ _ _ _ => x
def InstrT.n : InstrT → Int | .mk _ _ _ x _ _ _ _ _ _ _ _ => x
def InstrT.mem : InstrT → MemArgT | .mk _ _ _ _ x _ _ _ _ _ _ _ => x
def InstrT.block : InstrT → BlockT | .mk _ _ _ _ _ x _ _ _ _ _ _ => x
def InstrT.body : InstrT → List InstrT | .mk _ _ _ _ _ _ x _ _ _ _ _ => x
def InstrT.els : InstrT → List InstrT | .mk _ _ _ _ _ _ _ x _ _ _ _ => x
def InstrT.hasElse : InstrT → Bool | .mk _ _ _ _ _ _ _ _ x _ _ _ => x
def InstrT.labels : InstrT → List Int | .mk _ _ _ _ _ _ _ _ _ x _ _ => x
def InstrT.types : InstrT → List ValT | .mk _ _ _ _ _ _ _ _ _ _ x _ => x
def InstrT.catches : InstrT → List CatchT | .mk _ _ _ _ _ _ _ _ _ _ _ x => x
mutual
def InstrT.cells : InstrT → List AV
  | .mk op x y n mem block body els hasElse labels types catches => [.int .i64 op, .int .u32 x, .int .u32 y, .int .u64 n, .int .u32 mem.align, .int .u32 mem.mem, .int .u64 mem.offset, .int .i64 block.ty, .int .i64 block.result.num, .bool block.result.null, .int .i64 block.result.heap, .slice (InstrT.cellsL body), .slice (InstrT.cellsL els), .bool hasElse, .slice (labels.map fun n => [.int .u32 n]), .slice (types.map ValT.cells), .slice (catches.map CatchT.cells)]
def InstrT.cellsL : List InstrT → List (List AV)
  | [] => []
  | i :: r => i.cells :: InstrT.cellsL r
end
theorem InstrT.cellsL_eq : ∀ l : List InstrT, InstrT.cellsL l = l.map InstrT.cells := by
  intro l; induction l with
  | nil => rfl
  | cons i r ih => simp only [InstrT.cellsL, List.map_cons, ih]
structure LocalT where
  count : Int
  ty : ValT
  deriving Inhabited, DecidableEq
def LocalT.cells (x : LocalT) : List AV := [.int .u32 x.count, .int .i64 x.ty.num, .bool x.ty.null, .int .i64 x.ty.heap]
/-- Codes of what slices hold. -/
inductive TC where
  | int (k : IntKind) | bool | str | val | field | comp | sub | grp | limits | tableTy | globalTy | ext | imp | xpt | memArg | block | cth | instr | loc
  deriving DecidableEq
@[reducible] def den : TC → Type
  | .int _ => Int | .bool => Bool | .str => List UInt8
  | .val => ValT
  | .field => FieldT
  | .comp => CompT
  | .sub => SubT
  | .grp => RecT
  | .limits => LimitsT
  | .tableTy => TableT
  | .globalTy => GlobalT
  | .ext => ExternT
  | .imp => ImportT
  | .xpt => ExportT
  | .memArg => MemArgT
  | .block => BlockT
  | .cth => CatchT
  | .instr => InstrT
  | .loc => LocalT
def cellsOfC : (c : TC) → den c → List AV
  | .int k, n => [.int k n] | .bool, b => [.bool b] | .str, s => [.str s]
  | .val, x => ValT.cells x
  | .field, x => FieldT.cells x
  | .comp, x => CompT.cells x
  | .sub, x => SubT.cells x
  | .grp, x => RecT.cells x
  | .limits, x => LimitsT.cells x
  | .tableTy, x => TableT.cells x
  | .globalTy, x => GlobalT.cells x
  | .ext, x => ExternT.cells x
  | .imp, x => ImportT.cells x
  | .xpt, x => ExportT.cells x
  | .memArg, x => MemArgT.cells x
  | .block, x => BlockT.cells x
  | .cth, x => CatchT.cells x
  | .instr, x => InstrT.cells x
  | .loc, x => LocalT.cells x
def csize : TC → Nat
  | .int _ | .bool | .str => 1
  | .val => 3
  | .field => 4
  | .comp => 4
  | .sub => 6
  | .grp => 2
  | .limits => 4
  | .tableTy => 7
  | .globalTy => 4
  | .ext => 17
  | .imp => 19
  | .xpt => 3
  | .memArg => 3
  | .block => 4
  | .cth => 3
  | .instr => 17
  | .loc => 4
/-- Values told by data: a slice is a list of its elements' data. -/
inductive TV where
  | bool (b : Bool)
  | int (k : IntKind) (n : Int)
  | str (s : List UInt8)
  | nilptr
  | ptr (k off : Nat)
  | vptr (cs : List TV)
  | nils (c : TC) (e : TypeId)
  | slice (c : TC) (l : List (den c))
  | func (f : FuncId) (fst cap : List TV)
  | nilFunc
  | iface (t : TypeId) (v : TV)
  | nilIface
  | agg (cs : List TV)
  | tup (vs : List TV)
  | raw
  deriving Inhabited
mutual
def TV.av : TV → AV
  | .bool b => .bool b
  | .int k n => .int k n
  | .str s => .str s
  | .nilptr => .nilptr
  | .ptr k off => .ptr k off
  | .vptr cs => .vptr (TV.avs cs)
  | .nils _ _ => .nils
  | .slice c l => .slice (l.map (cellsOfC c))
  | .func f a b => .func f (TV.avs a) (TV.avs b)
  | .nilFunc => .nilFunc
  | .iface t v => .iface t v.av
  | .nilIface => .nilIface
  | .agg cs => .agg (TV.avs cs)
  | .tup vs => .tup (TV.avs vs)
  | .raw => .raw
def TV.avs : List TV → List AV
  | [] => []
  | v :: r => v.av :: TV.avs r
end
theorem avs_eq (l : List TV) : TV.avs l = l.map TV.av := by
  induction l with
  | nil => rfl
  | cons v r ih => simp only [TV.avs, List.map_cons, ih]
def encC : (c : TC) → den c → List TV
  | .int k, n => [.int k n] | .bool, b => [.bool b] | .str, s => [.str s]
  | .val, x => [.int .i64 x.num, .bool x.null, .int .i64 x.heap]
  | .field, x => [.int .i64 x.ty.num, .bool x.ty.null, .int .i64 x.ty.heap, .bool x.mt]
  | .comp, x => [.int .i64 x.kind, .slice .val x.params, .slice .val x.results, .slice .field x.fields]
  | .sub, x => [.bool x.final, .slice (.int .i64) x.supers, .int .i64 x.comp.kind, .slice .val x.comp.params, .slice .val x.comp.results, .slice .field x.comp.fields]
  | .grp, x => [.slice .sub x.types, .bool x.explicit]
  | .limits, x => [.bool x.wide, .int .u64 x.min, .int .u64 x.max, .bool x.hasMax]
  | .tableTy, x => [.int .i64 x.elem.num, .bool x.elem.null, .int .i64 x.elem.heap, .bool x.limits.wide, .int .u64 x.limits.min, .int .u64 x.limits.max, .bool x.limits.hasMax]
  | .globalTy, x => [.int .i64 x.ty.num, .bool x.ty.null, .int .i64 x.ty.heap, .bool x.mt]
  | .ext, x => [.int .i64 x.kind, .int .i64 x.ty, .int .i64 x.table.elem.num, .bool x.table.elem.null, .int .i64 x.table.elem.heap, .bool x.table.limits.wide, .int .u64 x.table.limits.min, .int .u64 x.table.limits.max, .bool x.table.limits.hasMax, .bool x.memory.wide, .int .u64 x.memory.min, .int .u64 x.memory.max, .bool x.memory.hasMax, .int .i64 x.global.ty.num, .bool x.global.ty.null, .int .i64 x.global.ty.heap, .bool x.global.mt]
  | .imp, x => [.str x.md, .str x.name, .int .i64 x.ext.kind, .int .i64 x.ext.ty, .int .i64 x.ext.table.elem.num, .bool x.ext.table.elem.null, .int .i64 x.ext.table.elem.heap, .bool x.ext.table.limits.wide, .int .u64 x.ext.table.limits.min, .int .u64 x.ext.table.limits.max, .bool x.ext.table.limits.hasMax, .bool x.ext.memory.wide, .int .u64 x.ext.memory.min, .int .u64 x.ext.memory.max, .bool x.ext.memory.hasMax, .int .i64 x.ext.global.ty.num, .bool x.ext.global.ty.null, .int .i64 x.ext.global.ty.heap, .bool x.ext.global.mt]
  | .xpt, x => [.str x.name, .int .i64 x.kind, .int .u32 x.pos]
  | .memArg, x => [.int .u32 x.align, .int .u32 x.mem, .int .u64 x.offset]
  | .block, x => [.int .i64 x.ty, .int .i64 x.result.num, .bool x.result.null, .int .i64 x.result.heap]
  | .cth, x => [.int .i64 x.kind, .int .u32 x.tag, .int .u32 x.label]
  | .instr, x => [.int .i64 x.op, .int .u32 x.x, .int .u32 x.y, .int .u64 x.n, .int .u32 x.mem.align, .int .u32 x.mem.mem, .int .u64 x.mem.offset, .int .i64 x.block.ty, .int .i64 x.block.result.num, .bool x.block.result.null, .int .i64 x.block.result.heap, .slice .instr x.body, .slice .instr x.els, .bool x.hasElse, .slice (.int .u32) x.labels, .slice .val x.types, .slice .cth x.catches]
  | .loc, x => [.int .u32 x.count, .int .i64 x.ty.num, .bool x.ty.null, .int .i64 x.ty.heap]
def decVal : List TV → Option ValT
  | [.int .i64 v_num, .bool v_null, .int .i64 v_heap] => some ⟨v_num, v_null, v_heap⟩
  | _ => none
def decField : List TV → Option FieldT
  | [.int .i64 v_ty_num, .bool v_ty_null, .int .i64 v_ty_heap, .bool v_mt] => some ⟨⟨v_ty_num, v_ty_null, v_ty_heap⟩, v_mt⟩
  | _ => none
def decComp : List TV → Option CompT
  | [.int .i64 v_kind, .slice .val v_params, .slice .val v_results, .slice .field v_fields] => some ⟨v_kind, v_params, v_results, v_fields⟩
  | _ => none
def decSub : List TV → Option SubT
  | [.bool v_final, .slice (.int .i64) v_supers, .int .i64 v_comp_kind, .slice .val v_comp_params, .slice .val v_comp_results, .slice .field v_comp_fields] => some ⟨v_final, v_supers, ⟨v_comp_kind, v_comp_params, v_comp_results, v_comp_fields⟩⟩
  | _ => none
def decRec : List TV → Option RecT
  | [.slice .sub v_types, .bool v_explicit] => some ⟨v_types, v_explicit⟩
  | _ => none
def decLimits : List TV → Option LimitsT
  | [.bool v_wide, .int .u64 v_min, .int .u64 v_max, .bool v_hasMax] => some ⟨v_wide, v_min, v_max, v_hasMax⟩
  | _ => none
def decTableTy : List TV → Option TableT
  | [.int .i64 v_elem_num, .bool v_elem_null, .int .i64 v_elem_heap, .bool v_limits_wide, .int .u64 v_limits_min, .int .u64 v_limits_max, .bool v_limits_hasMax] => some ⟨⟨v_elem_num, v_elem_null, v_elem_heap⟩, ⟨v_limits_wide, v_limits_min, v_limits_max, v_limits_hasMax⟩⟩
  | _ => none
def decGlobalTy : List TV → Option GlobalT
  | [.int .i64 v_ty_num, .bool v_ty_null, .int .i64 v_ty_heap, .bool v_mt] => some ⟨⟨v_ty_num, v_ty_null, v_ty_heap⟩, v_mt⟩
  | _ => none
def decExtern : List TV → Option ExternT
  | [.int .i64 v_kind, .int .i64 v_ty, .int .i64 v_table_elem_num, .bool v_table_elem_null, .int .i64 v_table_elem_heap, .bool v_table_limits_wide, .int .u64 v_table_limits_min, .int .u64 v_table_limits_max, .bool v_table_limits_hasMax, .bool v_memory_wide, .int .u64 v_memory_min, .int .u64 v_memory_max, .bool v_memory_hasMax, .int .i64 v_global_ty_num, .bool v_global_ty_null, .int .i64 v_global_ty_heap, .bool v_global_mt] => some ⟨v_kind, v_ty, ⟨⟨v_table_elem_num, v_table_elem_null, v_table_elem_heap⟩, ⟨v_table_limits_wide, v_table_limits_min, v_table_limits_max, v_table_limits_hasMax⟩⟩, ⟨v_memory_wide, v_memory_min, v_memory_max, v_memory_hasMax⟩, ⟨⟨v_global_ty_num, v_global_ty_null, v_global_ty_heap⟩, v_global_mt⟩⟩
  | _ => none
def decImport : List TV → Option ImportT
  | [.str v_md, .str v_name, .int .i64 v_ext_kind, .int .i64 v_ext_ty, .int .i64 v_ext_table_elem_num, .bool v_ext_table_elem_null, .int .i64 v_ext_table_elem_heap, .bool v_ext_table_limits_wide, .int .u64 v_ext_table_limits_min, .int .u64 v_ext_table_limits_max, .bool v_ext_table_limits_hasMax, .bool v_ext_memory_wide, .int .u64 v_ext_memory_min, .int .u64 v_ext_memory_max, .bool v_ext_memory_hasMax, .int .i64 v_ext_global_ty_num, .bool v_ext_global_ty_null, .int .i64 v_ext_global_ty_heap, .bool v_ext_global_mt] => some ⟨v_md, v_name, ⟨v_ext_kind, v_ext_ty, ⟨⟨v_ext_table_elem_num, v_ext_table_elem_null, v_ext_table_elem_heap⟩, ⟨v_ext_table_limits_wide, v_ext_table_limits_min, v_ext_table_limits_max, v_ext_table_limits_hasMax⟩⟩, ⟨v_ext_memory_wide, v_ext_memory_min, v_ext_memory_max, v_ext_memory_hasMax⟩, ⟨⟨v_ext_global_ty_num, v_ext_global_ty_null, v_ext_global_ty_heap⟩, v_ext_global_mt⟩⟩⟩
  | _ => none
def decExport : List TV → Option ExportT
  | [.str v_name, .int .i64 v_kind, .int .u32 v_pos] => some ⟨v_name, v_kind, v_pos⟩
  | _ => none
def decMemArg : List TV → Option MemArgT
  | [.int .u32 v_align, .int .u32 v_mem, .int .u64 v_offset] => some ⟨v_align, v_mem, v_offset⟩
  | _ => none
def decBlock : List TV → Option BlockT
  | [.int .i64 v_ty, .int .i64 v_result_num, .bool v_result_null, .int .i64 v_result_heap] => some ⟨v_ty, ⟨v_result_num, v_result_null, v_result_heap⟩⟩
  | _ => none
def decCatch : List TV → Option CatchT
  | [.int .i64 v_kind, .int .u32 v_tag, .int .u32 v_label] => some ⟨v_kind, v_tag, v_label⟩
  | _ => none
def decInstr : List TV → Option InstrT
  | [.int .i64 v_op, .int .u32 v_x, .int .u32 v_y, .int .u64 v_n, .int .u32 v_mem_align, .int .u32 v_mem_mem, .int .u64 v_mem_offset, .int .i64 v_block_ty, .int .i64 v_block_result_num, .bool v_block_result_null, .int .i64 v_block_result_heap, .slice .instr v_body, .slice .instr v_els, .bool v_hasElse, .slice (.int .u32) v_labels, .slice .val v_types, .slice .cth v_catches] => some (.mk v_op v_x v_y v_n ⟨v_mem_align, v_mem_mem, v_mem_offset⟩ ⟨v_block_ty, ⟨v_block_result_num, v_block_result_null, v_block_result_heap⟩⟩ v_body v_els v_hasElse v_labels v_types v_catches)
  | _ => none
def decLocal : List TV → Option LocalT
  | [.int .u32 v_count, .int .i64 v_ty_num, .bool v_ty_null, .int .i64 v_ty_heap] => some ⟨v_count, ⟨v_ty_num, v_ty_null, v_ty_heap⟩⟩
  | _ => none
def decC : (c : TC) → List TV → Option (den c)
  | .int k, l => match l with | [.int k' n] => if k = k' then some n else none | _ => none
  | .bool, l => match l with | [.bool b] => some b | _ => none
  | .str, l => match l with | [.str s] => some s | _ => none
  | .val, l => decVal l
  | .field, l => decField l
  | .comp, l => decComp l
  | .sub, l => decSub l
  | .grp, l => decRec l
  | .limits, l => decLimits l
  | .tableTy, l => decTableTy l
  | .globalTy, l => decGlobalTy l
  | .ext, l => decExtern l
  | .imp, l => decImport l
  | .xpt, l => decExport l
  | .memArg, l => decMemArg l
  | .block, l => decBlock l
  | .cth, l => decCatch l
  | .instr, l => decInstr l
  | .loc, l => decLocal l
end Go.AW
end

section
namespace Go.AW

theorem InstrT.cells_eq (i : InstrT) : i.cells = [.int .i64 i.op, .int .u32 i.x, .int .u32 i.y, .int .u64 i.n, .int .u32 i.mem.align, .int .u32 i.mem.mem, .int .u64 i.mem.offset, .int .i64 i.block.ty, .int .i64 i.block.result.num, .bool i.block.result.null, .int .i64 i.block.result.heap,
    .slice (i.body.map InstrT.cells), .slice (i.els.map InstrT.cells), .bool i.hasElse, .slice (i.labels.map fun n => [.int .u32 n]), .slice (i.types.map ValT.cells), .slice (i.catches.map CatchT.cells)] := by
  cases i; simp only [InstrT.cells, InstrT.cellsL_eq, InstrT.op, InstrT.x, InstrT.y, InstrT.n, InstrT.mem, InstrT.block, InstrT.body, InstrT.els, InstrT.hasElse, InstrT.labels, InstrT.types, InstrT.catches]

theorem enc_av (c : TC) (x : den c) : TV.avs (encC c x) = cellsOfC c x := by
  cases c
  case instr => simp only [encC, cellsOfC, InstrT.cells_eq, TV.avs, TV.av]; rfl
  all_goals rfl

theorem csize_ok (c : TC) (x : den c) : (cellsOfC c x).length = csize c := by
  cases c
  case instr => simp only [cellsOfC, InstrT.cells_eq]; rfl
  all_goals rfl

theorem cells_one (c : TC) (x : den c) : ∀ y ∈ cellsOfC c x, y.one = true := by
  have h : (cellsOfC c x).all AV.one = true := by
    cases c
    case instr => simp only [cellsOfC, InstrT.cells_eq]; rfl
    all_goals rfl
  simpa using h

theorem dec_val {l : List TV} {x : ValT} (h : decVal l = some x) : TV.avs l = x.cells := by
  unfold decVal at h; split at h <;> cases h; rfl
theorem dec_field {l : List TV} {x : FieldT} (h : decField l = some x) : TV.avs l = x.cells := by
  unfold decField at h; split at h <;> cases h; rfl
theorem dec_comp {l : List TV} {x : CompT} (h : decComp l = some x) : TV.avs l = x.cells := by
  unfold decComp at h; split at h <;> cases h; rfl
theorem dec_sub {l : List TV} {x : SubT} (h : decSub l = some x) : TV.avs l = x.cells := by
  unfold decSub at h; split at h <;> cases h; rfl
theorem dec_rec {l : List TV} {x : RecT} (h : decRec l = some x) : TV.avs l = x.cells := by
  unfold decRec at h; split at h <;> cases h; rfl
theorem dec_limits {l : List TV} {x : LimitsT} (h : decLimits l = some x) : TV.avs l = x.cells := by
  unfold decLimits at h; split at h <;> cases h; rfl
theorem dec_tableTy {l : List TV} {x : TableT} (h : decTableTy l = some x) : TV.avs l = x.cells := by
  unfold decTableTy at h; split at h <;> cases h; rfl
theorem dec_globalTy {l : List TV} {x : GlobalT} (h : decGlobalTy l = some x) : TV.avs l = x.cells := by
  unfold decGlobalTy at h; split at h <;> cases h; rfl
theorem dec_extern {l : List TV} {x : ExternT} (h : decExtern l = some x) : TV.avs l = x.cells := by
  unfold decExtern at h; split at h <;> cases h; rfl
theorem dec_import {l : List TV} {x : ImportT} (h : decImport l = some x) : TV.avs l = x.cells := by
  unfold decImport at h; split at h <;> cases h; rfl
theorem dec_export {l : List TV} {x : ExportT} (h : decExport l = some x) : TV.avs l = x.cells := by
  unfold decExport at h; split at h <;> cases h; rfl
theorem dec_memArg {l : List TV} {x : MemArgT} (h : decMemArg l = some x) : TV.avs l = x.cells := by
  unfold decMemArg at h; split at h <;> cases h; rfl
theorem dec_block {l : List TV} {x : BlockT} (h : decBlock l = some x) : TV.avs l = x.cells := by
  unfold decBlock at h; split at h <;> cases h; rfl
theorem dec_catch {l : List TV} {x : CatchT} (h : decCatch l = some x) : TV.avs l = x.cells := by
  unfold decCatch at h; split at h <;> cases h; rfl
theorem dec_instr {l : List TV} {x : InstrT} (h : decInstr l = some x) : TV.avs l = x.cells := by
  unfold decInstr at h; split at h <;> cases h
  simp only [InstrT.cells_eq, TV.avs, TV.av, InstrT.op, InstrT.x, InstrT.y, InstrT.n, InstrT.mem, InstrT.block, InstrT.body, InstrT.els, InstrT.hasElse, InstrT.labels, InstrT.types, InstrT.catches]; rfl
theorem dec_local {l : List TV} {x : LocalT} (h : decLocal l = some x) : TV.avs l = x.cells := by
  unfold decLocal at h; split at h <;> cases h; rfl

theorem dec_av {c : TC} {l : List TV} {x : den c} (h : decC c l = some x) : TV.avs l = cellsOfC c x := by
  cases c
  case int k =>
    simp only [decC] at h
    split at h
    · split at h
      · rename_i hk; subst hk; cases h; rfl
      · cases h
    · cases h
  case bool => simp only [decC] at h; split at h <;> cases h; rfl
  case str => simp only [decC] at h; split at h <;> cases h; rfl
  case val => exact dec_val h
  case field => exact dec_field h
  case comp => exact dec_comp h
  case sub => exact dec_sub h
  case grp => exact dec_rec h
  case limits => exact dec_limits h
  case tableTy => exact dec_tableTy h
  case globalTy => exact dec_globalTy h
  case ext => exact dec_extern h
  case imp => exact dec_import h
  case xpt => exact dec_export h
  case memArg => exact dec_memArg h
  case block => exact dec_block h
  case cth => exact dec_catch h
  case instr => exact dec_instr h
  case loc => exact dec_local h

/-- No pointers lie in data. -/
theorem data_bel : ∀ (c : TC) (x : den c), ∀ y ∈ cellsOfC c x, Bel 0 y := by
  have hmap : ∀ {α : Type} (f : α → List AV), (∀ a, ∀ y ∈ f a, Bel 0 y) → ∀ l : List α, Bel 0 (.slice (l.map f)) := by
    intro α f hf l
    refine .slice fun y hy => ?_
    obtain ⟨e, he, hye⟩ := List.mem_flatten.1 hy
    obtain ⟨a, _, rfl⟩ := List.mem_map.1 he
    exact hf a y hye
  have hint : ∀ (k : IntKind) (a : Int), ∀ y ∈ [AV.int k a], Bel 0 y := by
    intro k a y hy; simp at hy; subst hy; exact .int _ _
  have hval : ∀ x : ValT, ∀ y ∈ x.cells, Bel 0 y := by
    intro x y hy; simp [ValT.cells] at hy
    rcases hy with rfl | rfl | rfl <;> first | exact .int _ _ | exact .bool _
  have hfield : ∀ x : FieldT, ∀ y ∈ x.cells, Bel 0 y := by
    intro x y hy; simp [FieldT.cells] at hy
    rcases hy with rfl | rfl | rfl | rfl <;> first | exact .int _ _ | exact .bool _
  have hcomp : ∀ x : CompT, ∀ y ∈ x.cells, Bel 0 y := by
    intro x y hy; simp [CompT.cells] at hy
    rcases hy with rfl | rfl | rfl | rfl <;> first | exact .int _ _ | exact hmap _ hval _ | exact hmap _ hfield _
  have hsub : ∀ x : SubT, ∀ y ∈ x.cells, Bel 0 y := by
    intro x y hy; simp [SubT.cells] at hy
    rcases hy with rfl | rfl | rfl | rfl | rfl | rfl <;> first | exact .bool _ | exact .int _ _ | exact hmap _ (hint _) _ | exact hmap _ hval _ | exact hmap _ hfield _
  have hcatch : ∀ x : CatchT, ∀ y ∈ x.cells, Bel 0 y := by
    intro x y hy; simp [CatchT.cells] at hy
    rcases hy with rfl | rfl | rfl <;> exact .int _ _
  have hinstr : ∀ x : InstrT, ∀ y ∈ x.cells, Bel 0 y := by
    intro x
    refine InstrT.rec (motive_1 := fun x => ∀ y ∈ x.cells, Bel 0 y) (motive_2 := fun l => Bel 0 (.slice (l.map InstrT.cells))) ?_ ?_ ?_ x
    · intro op x y n mem block body els hasElse labels types catches h1 h2 z hz
      rw [InstrT.cells_eq] at hz
      simp [InstrT.body, InstrT.els] at hz
      rcases hz with rfl | rfl | rfl | rfl | rfl | rfl | rfl | rfl | rfl | rfl | rfl | rfl | rfl | rfl | rfl | rfl | rfl <;> first | exact .bool _ | exact .int _ _ | exact h1 | exact h2 | exact hmap _ (hint _) _ | exact hmap _ hval _ | exact hmap _ hcatch _
    · exact .slice (by simp)
    · intro h t hh ht
      refine .slice fun y hy => ?_
      simp only [List.map_cons, List.flatten_cons, List.mem_append] at hy
      rcases hy with hy | hy
      · exact hh y hy
      · cases ht with | slice ht => exact ht y hy
  intro c x y hy
  cases c
  case int k => exact hint k x y hy
  case bool => simp [cellsOfC] at hy; subst hy; exact .bool _
  case str => simp [cellsOfC] at hy; subst hy; exact .str _
  case val => exact hval x y hy
  case field => exact hfield x y hy
  case comp => exact hcomp x y hy
  case sub => exact hsub x y hy
  case grp =>
    simp [cellsOfC, RecT.cells] at hy
    rcases hy with rfl | rfl
    · exact hmap _ hsub _
    · exact .bool _
  case instr => exact hinstr x y hy
  case cth => exact hcatch x y hy
  case limits => simp [cellsOfC, LimitsT.cells] at hy; rcases hy with rfl | rfl | rfl | rfl <;> first | exact .int _ _ | exact .bool _
  case tableTy => simp [cellsOfC, TableT.cells] at hy; rcases hy with rfl | rfl | rfl | rfl | rfl | rfl | rfl <;> first | exact .int _ _ | exact .bool _
  case globalTy => simp [cellsOfC, GlobalT.cells] at hy; rcases hy with rfl | rfl | rfl | rfl <;> first | exact .int _ _ | exact .bool _
  case ext => simp [cellsOfC, ExternT.cells] at hy; rcases hy with rfl | rfl | rfl | rfl | rfl | rfl | rfl | rfl | rfl | rfl | rfl | rfl | rfl | rfl | rfl | rfl | rfl <;> first | exact .int _ _ | exact .bool _
  case imp => simp [cellsOfC, ImportT.cells] at hy; rcases hy with rfl | rfl | rfl | rfl | rfl | rfl | rfl | rfl | rfl | rfl | rfl | rfl | rfl | rfl | rfl | rfl | rfl | rfl | rfl <;> first | exact .int _ _ | exact .bool _ | exact .str _
  case xpt => simp [cellsOfC, ExportT.cells] at hy; rcases hy with rfl | rfl | rfl <;> first | exact .int _ _ | exact .str _
  case memArg => simp [cellsOfC, MemArgT.cells] at hy; rcases hy with rfl | rfl | rfl <;> exact .int _ _
  case block => simp [cellsOfC, BlockT.cells] at hy; rcases hy with rfl | rfl | rfl | rfl <;> first | exact .int _ _ | exact .bool _
  case loc => simp [cellsOfC, LocalT.cells] at hy; rcases hy with rfl | rfl | rfl | rfl <;> first | exact .int _ _ | exact .bool _
end Go.AW
end

section
namespace Go.AW
section
variable {P : Program} {κ κ' κ0 : List Nat} {S S' S0 F : Nat → Nat → Prop} {w w' w0 : World} {ρ ρ' : Cls → Option (Value × TypeId)} {h h' : AHeap}

mutual
/-- Boxes under other names. -/
def ren (f : Nat → Nat) : AV → AV
  | .ptr k off => .ptr (f k) off
  | .vptr cs => .vptr (renL f cs)
  | .slice es => .slice (renLL f es)
  | .func g a b => .func g (renL f a) (renL f b)
  | .iface t v => .iface t (ren f v)
  | .agg cs => .agg (renL f cs)
  | .tup cs => .tup (renL f cs)
  | x => x
def renL (f : Nat → Nat) : List AV → List AV
  | [] => []
  | x :: r => ren f x :: renL f r
def renLL (f : Nat → Nat) : List (List AV) → List (List AV)
  | [] => []
  | x :: r => renL f x :: renLL f r
end
theorem renL_eq (f : Nat → Nat) (l : List AV) : renL f l = l.map (ren f) := by
  induction l with
  | nil => rfl
  | cons x r ih => simp only [renL, List.map_cons, ih]
theorem renLL_eq (f : Nat → Nat) (l : List (List AV)) : renLL f l = l.map (·.map (ren f)) := by
  induction l with
  | nil => rfl
  | cons x r ih => simp only [renLL, List.map_cons, ih, renL_eq]
theorem ren_one (f : Nat → Nat) (x : AV) : (ren f x).one = x.one := by cases x <;> rfl
theorem flat_ren (f : Nat → Nat) (es : List (List AV)) : (es.map (·.map (ren f))).flatten = es.flatten.map (ren f) := by
  rw [List.map_flatten]

theorem VR.up {f : Nat → Nat} {κ1 κ2 : List Nat} (hk : ∀ i b, κ1[i]? = some b → κ2[f i]? = some b) {x : AV} {v : Value} (h : VR κ1 S w x v) : VR κ2 S w (ren f x) v := by
  induction h with
  | bool b => exact .bool b
  | int k n => exact .int k n
  | str l => exact .str l
  | nilptr => exact .nilptr
  | ptr hk' => exact .ptr (hk _ _ hk')
  | vptr hS _ ih =>
    rw [ren, renL_eq]
    refine .vptr (fun j c hc => ?_) (fun j c v hc hv => ?_)
    · rw [List.getElem?_map] at hc
      obtain ⟨c0, h0, rfl⟩ := Option.map_eq_some_iff.1 hc
      obtain ⟨a, b, c⟩ := hS j c0 h0
      exact ⟨a, by rw [ren_one]; exact b, c⟩
    · rw [List.getElem?_map] at hc
      obtain ⟨c0, h0, rfl⟩ := Option.map_eq_some_iff.1 hc
      exact ih j c0 v h0 hv
  | nils => exact .nils
  | slice0 => exact .slice0
  | slice h1 h2 h3 hS _ ih =>
    rw [ren, renLL_eq]
    rename_i es sz b off len cap _
    refine .slice (sz := sz) (by simpa using h1) h2 (fun e he => ?_) (fun j c hc => ?_) (fun j c v hc hv => ?_)
    · obtain ⟨e0, h0, rfl⟩ := List.mem_map.1 he; simpa using h3 e0 h0
    · rw [flat_ren, List.getElem?_map] at hc
      obtain ⟨c0, h0, rfl⟩ := Option.map_eq_some_iff.1 hc
      obtain ⟨a, b, c⟩ := hS j c0 h0
      exact ⟨a, by rw [ren_one]; exact b, c⟩
    · rw [flat_ren, List.getElem?_map] at hc
      obtain ⟨c0, h0, rfl⟩ := Option.map_eq_some_iff.1 hc
      exact ih j c0 v h0 hv
  | func h1 h2 _ _ ih1 ih2 =>
    rw [ren, renL_eq, renL_eq]
    refine .func (by simpa using h1) (by simpa using h2) (fun j c v hc hv => ?_) (fun j c v hc hv => ?_)
    · rw [List.getElem?_map] at hc
      obtain ⟨c0, h0, rfl⟩ := Option.map_eq_some_iff.1 hc
      exact ih1 j c0 v h0 hv
    · rw [List.getElem?_map] at hc
      obtain ⟨c0, h0, rfl⟩ := Option.map_eq_some_iff.1 hc
      exact ih2 j c0 v h0 hv
  | nilFunc => exact .nilFunc
  | iface _ ih => exact .iface ih
  | nilIface => exact .nilIface
  | agg h1 h2 _ ih =>
    rw [ren, renL_eq]
    refine .agg (by simpa using h1) (fun c hc => ?_) (fun j c v hc hv => ?_)
    · obtain ⟨c0, h0, rfl⟩ := List.mem_map.1 hc; rw [ren_one]; exact h2 c0 h0
    · rw [List.getElem?_map] at hc
      obtain ⟨c0, h0, rfl⟩ := Option.map_eq_some_iff.1 hc
      exact ih j c0 v h0 hv
  | tup h1 _ ih =>
    rw [ren, renL_eq]
    refine .tup (by simpa using h1) (fun j c v hc hv => ?_)
    rw [List.getElem?_map] at hc
    obtain ⟨c0, h0, rfl⟩ := Option.map_eq_some_iff.1 hc
    exact ih j c0 v h0 hv
  | raw => exact .raw

theorem VR.down {f : Nat → Nat} {κ1 κ2 : List Nat} {n : Nat} (hk : ∀ i b, i < n → κ2[f i]? = some b → κ1[i]? = some b) {y : AV} {v : Value} (h : VR κ2 S w y v) : ∀ x, ren f x = y → Bel n x → VR κ1 S w x v := by
  induction h with
  | bool b => intro x hx hb; cases x <;> simp [ren] at hx; subst hx; exact .bool _
  | int k n => intro x hx hb; cases x <;> simp [ren] at hx; obtain ⟨rfl, rfl⟩ := hx; exact .int _ _
  | str l => intro x hx hb; cases x <;> simp [ren] at hx; subst hx; exact .str _
  | nilptr => intro x hx hb; cases x <;> simp [ren] at hx; exact .nilptr
  | ptr hk' =>
    intro x hx hb
    cases x <;> simp [ren] at hx
    obtain ⟨rfl, rfl⟩ := hx
    cases hb with | ptr hb => exact .ptr (hk _ _ hb hk')
  | vptr hS _ ih =>
    intro x hx hb
    cases x <;> simp [ren] at hx
    rw [renL_eq] at hx
    subst hx
    cases hb with
    | vptr hb =>
      refine .vptr (fun j c hc => ?_) (fun j c v hc hv => ?_)
      · obtain ⟨a1, a2, a3⟩ := hS j (ren f c) (by rw [List.getElem?_map, hc]; rfl)
        exact ⟨a1, by rw [ren_one] at a2; exact a2, a3⟩
      · exact ih j (ren f c) v (by rw [List.getElem?_map, hc]; rfl) hv c rfl (hb c (List.mem_of_getElem? hc))
  | nils => intro x hx hb; cases x <;> simp [ren] at hx; exact .nils
  | slice0 =>
    intro x hx hb
    cases x <;> simp [ren] at hx
    rename_i es
    cases es with
    | nil => exact .slice0
    | cons _ _ => simp [renLL] at hx
  | slice h1 h2 h3 hS _ ih =>
    rename_i es sz b off len cap _
    intro x hx hb
    cases x <;> simp [ren] at hx
    rename_i es0
    rw [renLL_eq] at hx
    subst hx
    cases hb with
    | slice hb =>
      refine .slice (sz := sz) (by simpa using h1) h2 (fun e he => ?_) (fun j c hc => ?_) (fun j c v hc hv => ?_)
      · simpa using h3 (e.map (ren f)) (List.mem_map.2 ⟨e, he, rfl⟩)
      · obtain ⟨a1, a2, a3⟩ := hS j (ren f c) (by rw [flat_ren, List.getElem?_map, hc]; rfl)
        exact ⟨a1, by rw [ren_one] at a2; exact a2, a3⟩
      · exact ih j (ren f c) v (by rw [flat_ren, List.getElem?_map, hc]; rfl) hv c rfl (hb c (List.mem_of_getElem? hc))
  | func h1 h2 _ _ ih1 ih2 =>
    intro x hx hb
    cases x <;> simp [ren] at hx
    obtain ⟨rfl, hx1, hx2⟩ := hx
    rw [renL_eq] at hx1 hx2
    subst hx1 hx2
    cases hb with
    | func hb1 hb2 =>
      refine .func (by simpa using h1) (by simpa using h2) (fun j c v hc hv => ?_) (fun j c v hc hv => ?_)
      · exact ih1 j (ren f c) v (by rw [List.getElem?_map, hc]; rfl) hv c rfl (hb1 c (List.mem_of_getElem? hc))
      · exact ih2 j (ren f c) v (by rw [List.getElem?_map, hc]; rfl) hv c rfl (hb2 c (List.mem_of_getElem? hc))
  | nilFunc => intro x hx hb; cases x <;> simp [ren] at hx; exact .nilFunc
  | iface _ ih =>
    intro x hx hb
    cases x <;> simp [ren] at hx
    obtain ⟨rfl, hx⟩ := hx
    cases hb with | iface hb => exact .iface (ih _ hx hb)
  | nilIface => intro x hx hb; cases x <;> simp [ren] at hx; exact .nilIface
  | agg h1 h2 _ ih =>
    intro x hx hb
    cases x <;> simp [ren] at hx
    rw [renL_eq] at hx
    subst hx
    cases hb with
    | agg hb =>
      refine .agg (by simpa using h1) (fun c hc => ?_) (fun j c v hc hv => ?_)
      · have := h2 (ren f c) (List.mem_map.2 ⟨c, hc, rfl⟩); rwa [ren_one] at this
      · exact ih j (ren f c) v (by rw [List.getElem?_map, hc]; rfl) hv c rfl (hb c (List.mem_of_getElem? hc))
  | tup h1 _ ih =>
    intro x hx hb
    cases x <;> simp [ren] at hx
    rw [renL_eq] at hx
    subst hx
    cases hb with
    | tup hb =>
      refine .tup (by simpa using h1) (fun j c v hc hv => ?_)
      exact ih j (ren f c) v (by rw [List.getElem?_map, hc]; rfl) hv c rfl (hb c (List.mem_of_getElem? hc))
  | raw => intro x hx hb; cases x <;> simp [ren] at hx; exact .raw

def renCell (f : Nat → Nat) (c : Cell) : Cell := { v := ren f c.v, o := c.o }

/-- The small heap's boxes are these of the great one. -/
structure Sel (sel : List Nat) (h hs : AHeap) (f : Nat → Nat) : Prop where
  nd : sel.Nodup
  lt : ∀ k ∈ sel, k < h.blocks.length
  len : hs.blocks.length = sel.length
  at_ : ∀ (i k : Nat), sel[i]? = some k → f i = k ∧ h.blocks[k]? = (hs.blocks[i]?).map (·.map (renCell f))
  closed : Closed hs

def selK (κ : List Nat) (sel : List Nat) : List Nat := sel.map fun k => κ.getD k 0

theorem selK_at {sel : List Nat} {i b : Nat} (hb : (selK κ sel)[i]? = some b) (hlt : ∀ k ∈ sel, k < κ.length) : ∃ k, sel[i]? = some k ∧ κ[k]? = some b := by
  unfold selK at hb
  rw [List.getElem?_map] at hb
  obtain ⟨k, hk, rfl⟩ := Option.map_eq_some_iff.1 hb
  have := hlt k (List.mem_of_getElem? hk)
  exact ⟨k, hk, by rw [List.getD_eq_getElem?_getD, List.getElem?_eq_getElem this]; rfl⟩

theorem selK_mk {sel : List Nat} {i k b : Nat} (hi : sel[i]? = some k) (hb : κ[k]? = some b) : (selK κ sel)[i]? = some b := by
  unfold selK
  rw [List.getElem?_map, hi]
  simp [List.getD_eq_getElem?_getD, hb]

theorem nodup_at {l : List Nat} (h : l.Nodup) {i j x : Nat} (hi : l[i]? = some x) (hj : l[j]? = some x) : i = j :=
  (List.getElem?_inj (List.getElem?_eq_some_iff.1 hi).1 h).1 (hi.trans hj.symm)

theorem selK_nodup {sel : List Nat} (hn : κ.Nodup) (hs : sel.Nodup) (hlt : ∀ k ∈ sel, k < κ.length) : (selK κ sel).Nodup := by
  rw [List.nodup_iff_pairwise_ne, List.pairwise_iff_getElem]
  intro i j hi hj hij he
  obtain ⟨k1, a1, b1⟩ := selK_at (κ := κ) (List.getElem?_eq_getElem hi) hlt
  obtain ⟨k2, a2, b2⟩ := selK_at (κ := κ) (List.getElem?_eq_getElem hj) hlt
  rw [he] at b1
  have hk := nodup_at hn b1 b2
  subst hk
  have := nodup_at hs a1 a2
  omega

/-- Rights that the callee does not see. -/
def HidS (sel : List Nat) : Cls → Prop
  | .tmp _ => True
  | .cell k _ => k ∉ sel

def SpareS (P : Program) (sel : List Nat) (ρ : Cls → Option (Value × TypeId)) (b o : Nat) : Prop :=
  ∃ c v e nn cap i, HidS sel c ∧ ρ c = some (v, e) ∧ v = .slice (some ⟨b, 0, none⟩) nn cap ∧ P.info? e = some i ∧ nn * i.size ≤ o

def shownS (sel : List Nat) (ρ : Cls → Option (Value × TypeId)) : Cls → Option (Value × TypeId)
  | .cell i j => match sel[i]? with
    | some k => ρ (.cell k j)
    | none => none
  | .tmp _ => none

theorem shownS_some {sel : List Nat} {c : Cls} {v : Value} {e : TypeId} (h : shownS sel ρ c = some (v, e)) : ∃ i j k, c = .cell i j ∧ sel[i]? = some k ∧ ρ (.cell k j) = some (v, e) := by
  cases c with
  | tmp n => simp [shownS] at h
  | cell i j =>
    simp only [shownS] at h
    split at h
    · rename_i k hk; exact ⟨i, j, k, rfl, hk, h⟩
    · cases h

def KeptS (P : Program) (sel : List Nat) (κ : List Nat) (F : Nat → Nat → Prop) (ρ : Cls → Option (Value × TypeId)) (b o : Nat) : Prop := F b o ∨ SpareS P sel ρ b o ∨ (b ∈ κ ∧ b ∉ selK κ sel)

theorem SpareS.of_owned {sel : List Nat} {c : Cls} {v : Value} {e : TypeId} (hh : HidS sel c) (hn : ρ c = some (v, e)) (ho : Owned P κ S F w v e) {g : Nat} (hg : v.ownBlock = some g) : ∃ b, ∀ o, b ≤ o → SpareS P sel ρ g o := by
  rcases ho with rfl | ⟨g', nn, cap, cur, i, rfl, h1, _⟩
  · simp [Value.ownBlock] at hg
  · simp [Value.ownBlock] at hg
    subst hg
    exact ⟨nn * i.size, fun o ho => ⟨c, _, e, nn, cap, i, hh, hn, rfl, h1, ho⟩⟩

theorem Inv.calleeS (hi : Inv P κ S F w h ρ) {sel : List Nat} {hs : AHeap} {f : Nat → Nat} (hsel : Sel sel h hs f) : Inv P (selK κ sel) S (KeptS P sel κ F ρ) w hs (shownS sel ρ) := by
  have hlt : ∀ k ∈ sel, k < κ.length := fun k hk => by rw [hi.len]; exact hsel.lt k hk
  have hdown : ∀ (i b : Nat), i < hs.blocks.length → κ[f i]? = some b → (selK κ sel)[i]? = some b := by
    intro i b hi' hb
    rw [hsel.len] at hi'
    have h1 := List.getElem?_eq_getElem hi'
    rw [(hsel.at_ i _ h1).1] at hb
    exact selK_mk h1 hb
  refine ⟨by simp [selK, hsel.len], selK_nodup hi.nd hsel.nd hlt, fun i b cs hk hb => ?_, fun b o hS => ⟨(hi.sIn b o hS).1, fun hm => ?_⟩, fun b o hf' => ?_, fun b o o' hf' ho => ?_, fun c v e hc => ?_, fun c c' v v' e e' hne hc hc' => ?_⟩
  · obtain ⟨k, h1, h2⟩ := selK_at hk hlt
    obtain ⟨hf, hg⟩ := hsel.at_ i k h1
    rw [hb] at hg
    obtain ⟨arr, T, g1, g2, g3⟩ := hi.blk k b _ h2 (by rw [hg]; rfl)
    refine ⟨arr, T, g1, by simpa using g2, fun j c v hc hv => ?_⟩
    obtain ⟨f1, f2, f3⟩ := g3 j (renCell f c) v (by rw [List.getElem?_map, hc]; rfl) hv
    refine ⟨VR.down hdown f1 c.v rfl (hsel.closed i cs hb c (List.mem_of_getElem? hc)), by simpa [renCell, ren_one] using f2, fun e he => ?_⟩
    simp only [shownS, h1]
    exact f3 e he
  · obtain ⟨i, hi'⟩ := List.getElem?_of_mem hm
    obtain ⟨k, _, hk⟩ := selK_at hi' hlt
    exact (hi.sIn b o hS).2 (List.mem_of_getElem? hk)
  · rcases hf' with hf' | ⟨c, v, e, nn, cap, i, hh, hn, rfl, hin, hle⟩ | ⟨hd, hnd⟩
    · obtain ⟨h1, h2, h3⟩ := hi.fIn b o hf'
      refine ⟨h1, fun hm => h2 ?_, h3⟩
      obtain ⟨i, hi'⟩ := List.getElem?_of_mem hm
      obtain ⟨k, _, hk⟩ := selK_at hi' hlt
      exact List.mem_of_getElem? hk
    · rcases hi.own _ _ _ hn with hh' | ⟨g', nn', cap', cur, i', hh', h1, h2, h3, h4, h5, h6, h7⟩
      · cases hh'
      · injection hh' with hh1 hh2 hh3
        injection hh1 with hh1
        injection hh1 with hh1
        subst hh1 hh2 hh3
        rw [hin] at h1; injection h1 with h1; subst h1
        refine ⟨(Array.getElem?_eq_some_iff.1 h2).1, fun hm => h6 ?_, (h7 o hle).1⟩
        obtain ⟨i, hi'⟩ := List.getElem?_of_mem hm
        obtain ⟨k, _, hk⟩ := selK_at hi' hlt
        exact List.mem_of_getElem? hk
    · obtain ⟨k, hk⟩ := List.getElem?_of_mem hd
      have hkl : k < h.blocks.length := by rw [← hi.len]; exact (List.getElem?_eq_some_iff.1 hk).1
      obtain ⟨arr, T, g1, _⟩ := hi.blk k b h.blocks[k] hk (List.getElem?_eq_getElem hkl)
      exact ⟨(Array.getElem?_eq_some_iff.1 g1).1, hnd, fun hs' => (hi.sIn b o hs').2 hd⟩
  · rcases hf' with hf' | ⟨c, v, e, nn, cap, i, hh, hn, hv, hin, hle⟩ | hd
    · exact .inl (hi.fUp b o o' hf' ho)
    · exact .inr (.inl ⟨c, v, e, nn, cap, i, hh, hn, hv, hin, Nat.le_trans hle ho⟩)
    · exact .inr (.inr hd)
  · obtain ⟨i, j, k, rfl, hk, hc1⟩ := shownS_some hc
    have hmem := List.mem_of_getElem? hk
    refine (hi.own _ _ _ hc1).mono fun g cur hvg hg hgk => ⟨hg, fun hm => hgk ?_, fun o h1 h2 => ⟨h1, ?_⟩⟩
    · obtain ⟨i, hi'⟩ := List.getElem?_of_mem hm
      obtain ⟨k, _, hk⟩ := selK_at hi' hlt
      exact List.mem_of_getElem? hk
    · rintro (hf' | ⟨c2, v2, e2, nn, cap, i, hh, hn, rfl, hin, hle⟩ | ⟨hd, _⟩)
      · exact h2 hf'
      · rcases hi.dis (.cell k j) c2 v _ e e2 (fun h => by subst h; exact hh hmem) hc1 hn with hd | hd
        · rw [hvg] at hd; cases hd
        · exact hd (by rw [hvg]; rfl)
      · exact hgk hd
  · obtain ⟨i, j, k, rfl, hk, hc1⟩ := shownS_some hc
    obtain ⟨i', j', k', rfl, hk', hc1'⟩ := shownS_some hc'
    refine hi.dis _ _ v v' e e' (fun hh => hne ?_) hc1 hc1'
    injection hh with a b
    subst a b
    have := nodup_at hsel.nd hk hk'
    subst this
    rfl

/-- The names that the caller gives to the callee's boxes. -/
def backN (sel : List Nat) (n : Nat) (i : Nat) : Nat := match sel[i]? with
  | some k => k
  | none => n + (i - sel.length)

/-- The great heap behind the call. -/
def backH (sel : List Nat) (h hs : AHeap) : AHeap :=
  ⟨(List.range h.blocks.length).map (fun k => match sel.idxOf? k with
    | some i => ((hs.blocks[i]?).getD []).map (renCell (backN sel h.blocks.length))
    | none => (h.blocks[k]?).getD []) ++ (hs.blocks.drop sel.length).map (·.map (renCell (backN sel h.blocks.length)))⟩

def backC (sel : List Nat) (n : Nat) (res : Option (Value × TypeId)) (ρ ρ' : Cls → Option (Value × TypeId)) : Cls → Option (Value × TypeId)
  | .cell k j => match sel.idxOf? k with
    | some i => ρ' (.cell i j)
    | none => if k < n then ρ (.cell k j) else ρ' (.cell (k - n + sel.length) j)
  | .tmp m => if m = 0 then res else none

theorem idxOf_some {sel : List Nat} {k i : Nat} (h : sel.idxOf? k = some i) : sel[i]? = some k := by
  rw [List.idxOf?, List.findIdx?_eq_some_iff_getElem] at h
  obtain ⟨h1, h2, _⟩ := h
  rw [List.getElem?_eq_getElem h1]
  simpa using h2
theorem idxOf_none {sel : List Nat} {k : Nat} (h : sel.idxOf? k = none) : k ∉ sel := by
  rw [List.idxOf?, List.findIdx?_eq_none_iff] at h
  intro hm
  simpa using h k hm

theorem backC_some {sel : List Nat} {n : Nat} {res : Option (Value × TypeId)} (hres : ∀ v e, res = some (v, e) → ρ' (.tmp 0) = some (v, e)) {c : Cls} {v : Value} {e : TypeId} (h : backC sel n res ρ ρ' c = some (v, e)) :
    (∃ c1, ρ' c1 = some (v, e) ∧ ((c = .tmp 0 ∧ c1 = .tmp 0) ∨ (∃ k i j, c = .cell k j ∧ c1 = .cell i j ∧ sel[i]? = some k) ∨ (∃ k j, c = .cell (n + k) j ∧ c1 = .cell (sel.length + k) j ∧ n + k ∉ sel))) ∨ (ρ c = some (v, e) ∧ HidS sel c ∧ ∃ k j, c = .cell k j ∧ k < n) := by
  cases c with
  | tmp m =>
    simp only [backC] at h
    split at h
    · rename_i hm; subst hm; exact .inl ⟨.tmp 0, hres v e h, .inl ⟨rfl, rfl⟩⟩
    · cases h
  | cell k j =>
    simp only [backC] at h
    split at h
    · rename_i i hi; exact .inl ⟨.cell i j, h, .inr (.inl ⟨k, i, j, rfl, rfl, idxOf_some hi⟩)⟩
    · rename_i hi
      have hk := idxOf_none hi
      split at h
      · rename_i hlt; exact .inr ⟨h, hk, k, j, rfl, hlt⟩
      · rename_i hge
        refine .inl ⟨_, h, .inr (.inr ⟨k - n, j, by congr 1; omega, by congr 1; omega, ?_⟩)⟩
        rw [show n + (k - n) = k by omega]; exact hk

theorem backH_len {sel : List Nat} {hs : AHeap} : (backH sel h hs).blocks.length = h.blocks.length + (hs.blocks.length - sel.length) := by simp [backH]

theorem Inv.backS {sel : List Nat} {hs : AHeap} {f : Nat → Nat} (hi : Inv P κ S F w h ρ) (hsel : Sel sel h hs f) {κ1 : List Nat} {S1 : Nat → Nat → Prop} {w1 : World} {h1 : AHeap} {ρ1 : Cls → Option (Value × TypeId)}
    (he : Ext (KeptS P sel κ F ρ) (selK κ sel) S w κ1 S1 w1) (hi1 : Inv P κ1 S1 (KeptS P sel κ F ρ) w1 h1 ρ1) {res : Option (Value × TypeId)} (hres : ∀ v e, res = some (v, e) → ρ1 (.tmp 0) = some (v, e)) :
    ∃ ks, (∀ i b, κ1[i]? = some b → (κ ++ ks)[backN sel h.blocks.length i]? = some b) ∧ Ext F κ S w (κ ++ ks) S1 w1 ∧ Inv P (κ ++ ks) S1 F w1 (backH sel h h1) (backC sel h.blocks.length res ρ ρ1) := by
  have hlt : ∀ k ∈ sel, k < κ.length := fun k hk => by rw [hi.len]; exact hsel.lt k hk
  obtain ⟨ks, hks, hnew⟩ := he.pre
  have hsl : (selK κ sel).length = sel.length := by simp [selK]
  have hl1 : h1.blocks.length = sel.length + ks.length := by rw [← hi1.len, hks]; simp [hsl]
  have hmap : ∀ i b, κ1[i]? = some b → (κ ++ ks)[backN sel h.blocks.length i]? = some b := by
    intro i b hb
    rw [hks] at hb
    unfold backN
    by_cases hil : i < sel.length
    · rw [List.getElem?_append_left (by omega)] at hb
      obtain ⟨k, h2, h3⟩ := selK_at hb hlt
      rw [h2]
      simp only
      rw [List.getElem?_append_left (List.getElem?_eq_some_iff.1 h3).1]
      exact h3
    · rw [List.getElem?_append_right (by omega)] at hb
      have hnone : sel[i]? = none := List.getElem?_eq_none (by omega)
      rw [hnone]
      show (κ ++ ks)[h.blocks.length + (i - sel.length)]? = some b
      rw [← hi.len, List.getElem?_append_right (by omega), ← hb, hsl]
      congr 1; omega
  have hE : Ext F κ S w (κ ++ ks) S1 w1 := ⟨⟨ks, rfl, hnew⟩, he.sub, he.keep, fun b o hb => he.keepF b o (.inl hb), he.grow, he.size, he.still⟩
  have hκ : ∀ b ∈ κ, b < w.heap.size := by
    intro b hb
    obtain ⟨k, hk⟩ := List.getElem?_of_mem hb
    have hlt : k < h.blocks.length := by rw [← hi.len]; exact (List.getElem?_eq_some_iff.1 hk).1
    obtain ⟨arr', T', h, _⟩ := hi.blk k b _ hk (List.getElem?_eq_getElem hlt)
    exact (Array.getElem?_eq_some_iff.1 h).1
  have mem : ∀ b, b ∈ κ → b ∈ selK κ sel ∨ (b ∈ κ ∧ b ∉ selK κ sel) := fun b hb => by
    by_cases h : b ∈ selK κ sel
    · exact .inl h
    · exact .inr ⟨hb, h⟩
  have hid : ∀ c v e, ρ c = some (v, e) → HidS sel c → Owned P (κ ++ ks) S1 F w1 v e := by
    intro c v e hn hh
    rcases hi.own _ _ _ hn with rfl | ⟨g, nn, cap, cur, i, rfl, h1', h2, h3, h4, h5, h6, h7⟩
    · exact .inl rfl
    · obtain ⟨arr', g1, g2⟩ := he.grow g cur e (0, 0) h2
      refine .inr ⟨g, nn, cap, arr', i, rfl, h1', g1, h3, h4, by rw [g2, h5], fun hm => ?_, fun o ho => ⟨(hi1.fIn g o (.inr (.inl ⟨c, _, e, nn, cap, i, hh, hn, rfl, h1', ho⟩))).2.2, (h7 o ho).2⟩⟩
      rcases List.mem_append.1 hm with hm | hm
      · exact h6 hm
      · have := hnew g hm; have := (Array.getElem?_eq_some_iff.1 h2).1; omega
  have vis : ∀ c v e, ρ1 c = some (v, e) → Owned P (κ ++ ks) S1 F w1 v e := by
    intro c v e hn
    refine (hi1.own _ _ _ hn).mono fun g cur hvg hg hgk => ⟨hg, fun hm => ?_, fun o h1 h2 => ⟨h1, fun hf => h2 (.inl hf)⟩⟩
    rcases List.mem_append.1 hm with hm | hm
    · rcases mem g hm with h2 | h2
      · exact hgk (by rw [hks]; exact List.mem_append_left _ h2)
      · obtain ⟨_, _, b, hb⟩ := (hi1.own _ _ _ hn).lt hvg
        exact (hb b (Nat.le_refl _)).2 (.inr (.inr h2))
    · exact hgk (by rw [hks]; exact List.mem_append_right _ hm)
  have apart : ∀ c v e c' v' e', ρ c = some (v, e) → HidS sel c → ρ1 c' = some (v', e') → v.ownBlock = none ∨ v.ownBlock ≠ v'.ownBlock := by
    intro c v e c' v' e' hn hh hc'
    cases hvb : v.ownBlock with
    | none => exact .inl rfl
    | some g =>
      right
      intro hh'
      obtain ⟨b, hb⟩ := SpareS.of_owned hh hn (hi.own _ _ _ hn) hvb
      obtain ⟨_, _, b', hb'⟩ := (hi1.own _ _ _ hc').lt hh'.symm
      exact (hb' (max b b') (by omega)).2 (.inr (.inl (hb _ (by omega))))
  have sym : ∀ {v v' : Value}, (v.ownBlock = none ∨ v.ownBlock ≠ v'.ownBlock) → (v'.ownBlock = none ∨ v'.ownBlock ≠ v.ownBlock) := by
    intro v v' hh
    rcases hh with hh | hh
    · by_cases hv' : v'.ownBlock = none
      · exact .inl hv'
      · exact .inr (by rw [hh]; exact hv')
    · exact .inr (fun e => hh e.symm)
  have hksnd : ks.Nodup := by have := hi1.nd; rw [hks, List.nodup_append] at this; exact this.2.1
  refine ⟨ks, hmap, hE, by rw [backH_len, List.length_append, hi.len, hl1]; omega, ?_, fun k b cs hk hb => ?_, fun b o hs => ⟨(hi1.sIn b o hs).1, fun hm => ?_⟩, fun b o hf => ⟨(hi1.fIn b o (.inl hf)).1, fun hm => ?_, (hi1.fIn b o (.inl hf)).2.2⟩, hi.fUp, fun c v e hc => ?_, fun c c' v v' e e' hne hc hc' => ?_⟩
  · rw [List.nodup_append]
    exact ⟨hi.nd, hksnd, fun x hx y hy hxy => by have := hκ x hx; have := hnew y hy; omega⟩
  · have fromS : ∀ i blk, κ1[i]? = some b → h1.blocks[i]? = some blk → cs = blk.map (renCell (backN sel h.blocks.length)) → (∀ j, backC sel h.blocks.length res ρ ρ1 (.cell k j) = ρ1 (.cell i j)) → ∃ (arr : Array Value) (T : TypeId), w1.heap[b]? = some (.cells arr T (0, 0)) ∧ arr.size = cs.length ∧
        ∀ (j : Nat) (c : Cell) (v : Value), cs[j]? = some c → arr[j]? = some v → VR (κ ++ ks) S1 w1 c.v v ∧ c.v.one = true ∧ ∀ e, c.o = some e → backC sel h.blocks.length res ρ ρ1 (.cell k j) = some (v, e) := by
      intro i blk hk1 hb1 hcs hC
      subst hcs
      obtain ⟨arr, T, g1, g2, g3⟩ := hi1.blk i b blk hk1 hb1
      refine ⟨arr, T, g1, by simpa using g2, fun j c v hc hv => ?_⟩
      rw [List.getElem?_map] at hc
      obtain ⟨c0, hc0, rfl⟩ := Option.map_eq_some_iff.1 hc
      obtain ⟨f1, f2, f3⟩ := g3 j c0 v hc0 hv
      exact ⟨f1.up hmap, by simpa [renCell, ren_one] using f2, fun e he => by rw [hC]; exact f3 e he⟩
    by_cases hkn : k < h.blocks.length
    · simp only [backH] at hb
      rw [List.getElem?_append_left (by simpa using hkn), List.getElem?_map, List.getElem?_range hkn] at hb
      simp only [Option.map_some, Option.some.injEq] at hb
      rw [List.getElem?_append_left (by rw [hi.len]; exact hkn)] at hk
      cases hix : sel.idxOf? k with
      | some i =>
        rw [hix] at hb
        have hsi := idxOf_some hix
        have hil := (List.getElem?_eq_some_iff.1 hsi).1
        have hb1 : h1.blocks[i]? = some h1.blocks[i] := List.getElem?_eq_getElem (by omega)
        refine fromS i h1.blocks[i] ?_ hb1 ?_ (fun j => by simp only [backC, hix])
        · rw [hks, List.getElem?_append_left (by omega)]; exact selK_mk hsi hk
        · rw [← hb]; simp only [hb1, Option.getD_some]
      | none =>
        rw [hix] at hb
        have hns := idxOf_none hix
        simp only [List.getElem?_eq_getElem hkn, Option.getD_some] at hb
        obtain ⟨arr, T, g1, g2, g3⟩ := hi.blk k b cs hk (by rw [List.getElem?_eq_getElem hkn, hb])
        obtain ⟨arr', k1, k2⟩ := he.grow b arr T (0, 0) g1
        have hbm : b ∈ κ ∧ b ∉ selK κ sel := by
          refine ⟨List.mem_of_getElem? hk, fun hm => hns ?_⟩
          obtain ⟨i, hi'⟩ := List.getElem?_of_mem hm
          obtain ⟨k', h2, h3⟩ := selK_at hi' hlt
          rw [nodup_at hi.nd hk h3]
          exact List.mem_of_getElem? h2
        refine ⟨arr', T, k1, by rw [k2, g2], fun j c v h1 h2 => ?_⟩
        have h3 := he.keepF b j (.inr (.inr hbm))
        rw [cell_at k1, cell_at g1, h2] at h3
        obtain ⟨f1, f2, f3⟩ := g3 j c v h1 h3.symm
        exact ⟨f1.ext hE, f2, fun e he => by simp only [backC, hix, if_pos hkn]; exact f3 e he⟩
    · simp only [backH] at hb
      rw [List.getElem?_append_right (by simp; omega), List.getElem?_map, List.getElem?_drop] at hb
      simp only [List.length_map, List.length_range] at hb
      obtain ⟨blk, hblk, hcs⟩ := Option.map_eq_some_iff.1 hb
      rw [List.getElem?_append_right (by rw [hi.len]; omega), hi.len] at hk
      have hns : sel.idxOf? k = none := by
        rw [List.idxOf?, List.findIdx?_eq_none_iff]
        intro x hx
        have := hsel.lt x hx
        simp; omega
      refine fromS (sel.length + (k - h.blocks.length)) blk ?_ hblk hcs.symm (fun j => by simp only [backC, hns, if_neg hkn]; congr 2; omega)
      rw [hks, List.getElem?_append_right (by omega), hsl, ← hk]
      congr 1; omega
  · rcases List.mem_append.1 hm with hm | hm
    · rcases mem b hm with h2 | h2
      · exact (hi1.sIn b o hs).2 (by rw [hks]; exact List.mem_append_left _ h2)
      · exact (hi1.fIn b o (.inr (.inr h2))).2.2 hs
    · exact (hi1.sIn b o hs).2 (by rw [hks]; exact List.mem_append_right _ hm)
  · rcases List.mem_append.1 hm with hm | hm
    · exact (hi.fIn b o hf).2.1 hm
    · exact (hi1.fIn b o (.inl hf)).2.1 (by rw [hks]; exact List.mem_append_right _ hm)
  · rcases backC_some hres hc with ⟨c1, h1, _⟩ | ⟨h1, h2, _⟩
    · exact vis _ _ _ h1
    · exact hid _ _ _ h1 h2
  · rcases backC_some hres hc with ⟨c1, h1, hs1⟩ | ⟨h1, h2, h3⟩
    · rcases backC_some hres hc' with ⟨c2, k1, hs2⟩ | ⟨k1, k2, _⟩
      · refine hi1.dis c1 c2 v v' e e' (fun hb => hne ?_) h1 k1
        subst hb
        rcases hs1 with ⟨rfl, rfl⟩ | ⟨k, i, j, rfl, rfl, hki⟩ | ⟨k, j, rfl, rfl, hk⟩
        · rcases hs2 with ⟨rfl, _⟩ | ⟨_, _, _, _, hcc, _⟩ | ⟨_, _, _, hcc, _⟩
          · rfl
          · cases hcc
          · cases hcc
        · rcases hs2 with ⟨_, hcc⟩ | ⟨k', i', j', rfl, hcc, hki'⟩ | ⟨k', j', rfl, hcc, hk'⟩
          · cases hcc
          · cases hcc; rw [hki] at hki'; cases hki'; rfl
          · cases hcc; rw [List.getElem?_eq_none (by omega)] at hki; cases hki
        · rcases hs2 with ⟨_, hcc⟩ | ⟨k', i', j', rfl, hcc, hki'⟩ | ⟨k', j', rfl, hcc, hk'⟩
          · cases hcc
          · cases hcc; rw [List.getElem?_eq_none (by omega)] at hki'; cases hki'
          · injection hcc with a b; subst b; rw [show k = k' by omega]
      · exact sym (apart _ _ _ _ _ _ k1 k2 h1)
    · rcases backC_some hres hc' with ⟨c2, k1, _⟩ | ⟨k1, k2, _⟩
      · exact apart _ _ _ _ _ _ h1 h2 k1
      · exact hi.dis _ _ v v' e e' hne h1 k1

/-- A contract over the boxes that are looked at is one over all. -/
theorem ACalls.select {g : FuncId} {sel : List Nat} {h hs : AHeap} {f : Nat → Nat} (hsel : Sel sel h hs f) {args args' : List AV} (ha : args'.map (ren f) = args) (hb : ∀ x ∈ args', Bel sel.length x) {R : AEnd → AHeap → Prop} (hc : ACalls P g args' hs R) :
    ACalls P g args h fun ae H => ∃ ae' h', R ae' h' ∧ sel.length ≤ h'.blocks.length ∧ H = backH sel h h' ∧ match ae' with
      | .ret v o => ae = .ret (ren (backN sel h.blocks.length) v) o
      | .panic v => ae = .panic (ren (backN sel h.blocks.length) v) := by
  intro κ S F w ρ vs hi hv
  have hdown : ∀ (i b : Nat), i < sel.length → κ[f i]? = some b → (selK κ sel)[i]? = some b := by
    intro i b hi' hb
    have h1 := List.getElem?_eq_getElem hi'
    rw [(hsel.at_ i _ h1).1] at hb
    exact selK_mk h1 hb
  have hargs : VRs (selK κ sel) S w args' vs := by
    subst ha
    refine ⟨by simpa using hv.1, fun j x v hx hv' => ?_⟩
    exact VR.down hdown (hv.2 j (ren f x) v (by rw [List.getElem?_map, hx]; rfl) hv') x rfl (hb x (List.mem_of_getElem? hx))
  refine (hc (selK κ sel) S (KeptS P sel κ F ρ) w (shownS sel ρ) vs (hi.calleeS hsel) hargs).mono fun e w1 ⟨κ1, S1, h1, ρ1, ae, he, hi1, hend, hR⟩ => ?_
  have hl : sel.length ≤ h1.blocks.length := by
    obtain ⟨ks, hks, _⟩ := he.pre
    rw [← hi1.len, hks]; simp [selK]
  cases ae with
  | ret v o =>
    cases e with
    | returned val =>
      obtain ⟨hvv, hoo⟩ := hend
      obtain ⟨ks, hmap, hE, hib⟩ := hi.backS hsel he hi1 (res := o.map fun e => (val, e)) (fun v' e' hh => by
        cases o with
        | none => simp at hh
        | some e1 => simp at hh; obtain ⟨rfl, rfl⟩ := hh; exact hoo _ rfl)
      refine ⟨_, S1, _, _, .ret (ren (backN sel h.blocks.length) v) o, hE, hib, ⟨hvv.up hmap, fun e he => ?_⟩, .ret v o, h1, hR, hl, rfl, rfl⟩
      subst he; simp [backC]
    | panicked chain => exact hend.elim
    | outgrown => exact hend.elim
  | panic v =>
    cases e with
    | returned val => exact hend.elim
    | outgrown => exact hend.elim
    | panicked chain =>
      obtain ⟨ks, hmap, hE, hib⟩ := hi.backS hsel he hi1 (res := none) (fun v' e' hh => by cases hh)
      match chain, hend with
      | [{ v := val, recovered := false, goexit := false }], hend =>
        exact ⟨_, S1, _, _, .panic (ren (backN sel h.blocks.length) v), hE, hib, VR.up hmap hend, .panic v, h1, hR, hl, rfl, rfl⟩
end
end Go.AW
end

section
namespace Go.AW

inductive TEnd where
  | ret (v : TV) (o : Option TypeId)
  | panic (v : TV)

structure TCell where
  v : TV
  o : Option TypeId

abbrev THeap := List (List TCell)
abbrev Res := Option (TEnd × THeap)

inductive TX where
  | normal
  | exit (id : Nat)
  | ret
  | panic (v : TV)

structure TSt where
  tm : List (Nat × TV)
  cl : List (Nat × Option (Cls × TypeId))
  h : THeap

/-- What a type is. -/
inductive TK where
  | bool
  | int (k : IntKind)
  | str
  | struct (fs : List (Nat × Nat × Bool))
  | slice (e : TypeId)
  | arr (n : Nat) (e : TypeId)
  | ptr
  | iface
  | func
  | other

structure TI where
  k : TK
  size : Nat
  bytes : Nat
  agg : Bool
  zero : List TV
  code : Option TC

abbrev TT := List (Nat × TI)

def tyOf : TT → Nat → Option TI
  | [], _ => none
  | (d, v) :: r, t => bif Nat.beq d t then some v else tyOf r t

def tlook : List (Nat × TV) → Nat → TV
  | [], _ => .raw
  | (d, v) :: r, t => bif Nat.beq d t then v else tlook r t

def clook : List (Nat × Option (Cls × TypeId)) → Nat → Option (Cls × TypeId)
  | [], _ => none
  | (d, v) :: r, t => bif Nat.beq d t then v else clook r t

/-- Rights that are lost. -/
def cmap (f : Option (Cls × TypeId) → Option (Cls × TypeId)) : List (Nat × Option (Cls × TypeId)) → List (Nat × Option (Cls × TypeId))
  | [] => []
  | (k, v) :: r => (k, f v) :: cmap f r

def tcav : Value → TV
  | .bool b => .bool b
  | .int k n => .int k n
  | .string s => .str s.data.toList
  | .pointer none => .nilptr
  | .slice none 0 0 => .nils .bool 0
  | .nilFunc => .nilFunc
  | .nilIface => .nilIface
  | .func (.func f) a b => bif (Nat.beq a.size 0 && Nat.beq b.size 0) then .func f [] [] else .raw
  | _ => .raw

def TSt.ev (s : TSt) : Operand → TV
  | .tmp t => tlook s.tm t
  | .const v => tcav v
  | .func f => .func f [] []
  | .global _ => .raw

def TSt.evc (s : TSt) : Operand → Option (Cls × TypeId)
  | .tmp t => clook s.cl t
  | _ => none

def TSt.put (s : TSt) (d : Option Nat) (v : TV) (c : Option (Cls × TypeId)) : TSt :=
  match d with
  | some d => { s with tm := (d, v) :: s.tm, cl := (d, c) :: s.cl }
  | none => s

def TV.one : TV → Bool
  | .agg _ | .tup _ | .raw => false
  | _ => true

def TV.cells : TV → List TV
  | .agg cs => cs
  | v => [v]

/-- A nil slice gets its kind from the place where it is laid. -/
def TV.retag (v : TV) (like : TV) : TV := match v, like with
  | .nils _ _, .nils c e => .nils c e
  | .nils _ _, .slice c _ => .nils c 0
  | v, _ => v

def retags : List TV → List TV → List TV
  | v :: r, z :: zs => v.retag z :: retags r zs
  | l, _ => l

/-- A nil slice told as an empty one. -/
def TV.full : TV → TV
  | .nils c _ => .slice c []
  | v => v

def TV.fulls : TV → TV
  | .nils c _ => .slice c []
  | .agg cs => .agg (cs.map TV.full)
  | .tup cs => .tup (cs.map TV.full)
  | v => v

def tfill : List (Nat × TV) → List TV → List TV
  | [], cs => cs
  | (off, v) :: rest, cs => tfill rest (cs.take off ++ retags v.cells (cs.drop off) ++ cs.drop (off + v.cells.length))

def tokFill (n : Nat) : List (Nat × Nat × TV) → Bool
  | [] => true
  | (off, z, v) :: rest => Nat.beq v.cells.length z && Nat.ble (off + z) n && v.cells.all TV.one && tokFill n rest

def tparts (pl : List (Nat × Nat × Bool)) (ev : Operand → TV) : List (Nat × Operand) → Option (List (Nat × Nat × TV))
  | [] => some []
  | (i, x) :: r => match pl[i]?, tparts pl ev r with
    | some (o, n, _), some l => some ((o, n, ev x) :: l)
    | _, _ => none

def telems (n : Nat) (ev : Operand → TV) : List (Nat × Operand) → List (Nat × Nat × TV)
  | [] => []
  | (i, x) :: r => (i * n, n, ev x) :: telems n ev r

def tlaid (z : List TV) (l : List (Nat × Nat × TV)) : Option (List TV) :=
  bif tokFill z.length l then some (tfill (l.map fun p => (p.1, p.2.2)) z) else none

/-- The n-th of several values, n not known. -/
def tsel (n : Int) (i : Nat) : List TV → (TV → Res) → Res
  | [], _ => none
  | c :: r, K => bif decide (n = (i : Int)) then K c else tsel n (i + 1) r K

def chunks (z : Nat) : Nat → List TV → List (List TV)
  | 0, _ => []
  | n + 1, l => l.take z :: chunks z n (l.drop z)

def ikeq : IntKind → IntKind → Bool
  | .i8, .i8 | .i16, .i16 | .i32, .i32 | .i64, .i64 | .u8, .u8 | .u16, .u16 | .u32, .u32 | .u64, .u64 => true
  | _, _ => false

def tbin (op : BinOp) (k : IntKind) (a b : Int) (K : TV → Res) : Res :=
  match op with
  | .add => K (.int k (k.wrap (a + b)))
  | .sub => K (.int k (k.wrap (a - b)))
  | .mul => K (.int k (k.wrap (a * b)))
  | .quo => bif decide (b = 0) then none else K (.int k (k.wrap (a.tdiv b)))
  | .rem => bif decide (b = 0) then none else K (.int k (a.tmod b))
  | .and => K (.int k (k.wrap (BitVec.ofInt k.bits a &&& BitVec.ofInt k.bits b).toNat))
  | .or => K (.int k (k.wrap (BitVec.ofInt k.bits a ||| BitVec.ofInt k.bits b).toNat))
  | .xor => K (.int k (k.wrap (BitVec.ofInt k.bits a ^^^ BitVec.ofInt k.bits b).toNat))
  | .andNot => K (.int k (k.wrap (BitVec.ofInt k.bits a &&& ~~~BitVec.ofInt k.bits b).toNat))
  | .eql => K (.bool (a == b))
  | .neq => K (.bool (a != b))
  | .lss => K (.bool (decide (a < b)))
  | .leq => K (.bool (decide (a ≤ b)))
  | .gtr => K (.bool (decide (a > b)))
  | .geq => K (.bool (decide (a ≥ b)))
  | _ => none

def tbinS (op : BinOp) (a b : List UInt8) (K : TV → Res) : Res :=
  match op with
  | .add => bif decide (a.length + b.length ≤ 9223372036854775807) then K (.str (a ++ b)) else none
  | .eql => K (.bool (a == b))
  | .neq => K (.bool (!(a == b)))
  | .lss => K (.bool (Op.bytesLess a b))
  | .geq => K (.bool (!Op.bytesLess a b))
  | _ => none

def tptr (op : BinOp) (x y : TV) (K : TV → Res) : Res :=
  match op, x, y with
  | .eql, .nilptr, .nilptr => K (.bool true)
  | .eql, .nilptr, .ptr _ _ => K (.bool false)
  | .eql, .ptr _ _, .nilptr => K (.bool false)
  | .neq, .nilptr, .nilptr => K (.bool false)
  | .neq, .nilptr, .ptr _ _ => K (.bool true)
  | .neq, .ptr _ _, .nilptr => K (.bool true)
  | _, _, _ => none

def tiface (op : BinOp) (x : TV) (K : TV → Res) : Res :=
  match op, x with
  | .eql, .nilIface => K (.bool true)
  | .neq, .nilIface => K (.bool false)
  | .eql, .iface _ _ => K (.bool false)
  | .neq, .iface _ _ => K (.bool true)
  | _, _ => none

def tyOf2 (T : TT) (t : Nat) (K : TI → Res) : Res := match tyOf T t with
  | some i => K i
  | none => none

def isNilIface : Operand → Bool
  | .const .nilIface => true
  | _ => false

/-- A part of a string or of a slice. -/
def tsliceS (s : List UInt8) (lo hi : Option TV) (K : TV → Res) : Res :=
  match lo, hi with
  | none, none => K (.str s)
  | some (.int _ l), none => bif (decide (0 ≤ l) && decide (l ≤ s.length)) then K (.str (s.drop l.toNat)) else none
  | none, some (.int _ h) => bif (decide (0 ≤ h) && decide (h ≤ s.length)) then K (.str (s.take h.toNat)) else none
  | some (.int _ l), some (.int _ h) => bif (decide (0 ≤ l) && decide (l ≤ h) && decide (h ≤ s.length)) then K (.str ((s.take h.toNat).drop l.toNat)) else none
  | _, _ => none

def tsliceL (c : TC) (s : List (den c)) (lo hi : Option TV) (K : TV → Res) : Res :=
  match lo, hi with
  | none, none => K (.slice c s)
  | some (.int _ l), none => bif (decide (0 ≤ l) && decide (l ≤ s.length)) then K (.slice c (s.drop l.toNat)) else none
  | none, some (.int _ h) => bif (decide (0 ≤ h) && decide (h ≤ s.length)) then K (.slice c (s.take h.toNat)) else none
  | some (.int _ l), some (.int _ h) => bif (decide (0 ≤ l) && decide (l ≤ h) && decide (h ≤ s.length)) then K (.slice c ((s.take h.toNat).drop l.toNat)) else none
  | _, _ => none

/-- An operation that only reckons with temporaries. -/
def tpure (T : TT) (op : Op) (ty : Nat) (ev : Operand → TV) (K : TV → Res) : Res :=
  match op with
  | .move x | .assign x => match ev x with
    | .nils c e => match tyOf T ty with
      | some ⟨.slice e', _, _, _, _, _⟩ => match tyOf T e' with
        | some ⟨_, _, _, _, _, some c'⟩ => K (.nils c' e')
        | _ => K (.nils c e)
      | _ => K (.nils c e)
    | v => K v
  | .pick c a b => match ev c with
    | .bool t => match ev a, ev b with
      | .bool x, .bool y => K (.bool (bif t then x else y))
      | u, v => bif t then K u else K v
    | _ => none
  | .build t parts => tyOf2 T t fun i => match i.k with
    | .struct fs => match tparts fs ev parts.toList with
      | some l => match tlaid i.zero l with
        | some cs => K (.agg cs)
        | none => none
      | none => none
    | .arr _ e => tyOf2 T e fun j => match tlaid i.zero (telems j.size ev parts.toList) with
      | some cs => K (.agg cs)
      | none => none
    | _ => none
  | .fieldAddr t x f => tyOf2 T t fun i => match i.k with
    | .struct fs => match fs[f]? with
      | some (o, z, _) => bif Nat.beq z 0 then none else match ev x with
        | .ptr k off => K (.ptr k (off + o))
        | .vptr cs => K (.vptr (cs.drop o))
        | _ => none
      | none => none
    | _ => none
  | .field t x f => tyOf2 T t fun i => match i.k with
    | .struct fs => match fs[f]?, ev x with
      | some (o, z, true), .agg cs => bif Nat.ble (o + z) cs.length then K (.agg ((cs.drop o).take z)) else none
      | some (o, _, false), .agg cs => match cs[o]? with
        | some v => K v
        | none => none
      | _, _ => none
    | _ => none
  | .indexAddr t x i => tyOf2 T t fun j => match j.k with
    | .slice e => tyOf2 T e fun je => match ev x, ev i with
      | .slice c l, .int _ n => bif Nat.beq (csize c) je.size then (bif decide (0 ≤ n) then (match l[n.toNat]? with
        | some y => K (.vptr (encC c y))
        | none => none) else none) else none
      | _, _ => none
    | .arr len e => tyOf2 T e fun je => match ev x, ev i with
      | .ptr k off, .int _ n => tsel n 0 ((List.range len).map fun m => .ptr k (off + m * je.size)) K
      | _, _ => none
    | _ => none
  | .index t x i => tyOf2 T t fun j => match j.k with
    | .str => match ev x, ev i with
      | .str s, .int _ n => bif decide (0 ≤ n) then (match s[n.toNat]? with
        | some b => K (.int .u8 b.toNat)
        | none => none) else none
      | _, _ => none
    | .arr len e => tyOf2 T e fun je => match ev x, ev i with
      | .agg cs, .int _ n => bif (Nat.ble (len * je.size) cs.length && Nat.blt 0 je.size) then tsel n 0 (bif je.agg then (chunks je.size len cs).map .agg else (chunks je.size len cs).map fun l => l.headD .raw) K else none
      | _, _ => none
    | _ => none
  | .slice t x lo hi none => tyOf2 T t fun j => match j.k with
    | .str => match ev x with
      | .str s => tsliceS s (lo.map ev) (hi.map ev) K
      | _ => none
    | .slice e => tyOf2 T e fun je => match ev x with
      | .slice c l => bif Nat.beq (csize c) je.size then tsliceL c l (lo.map ev) (hi.map ev) K else none
      | _ => none
    | _ => none
  | .binOp op t x y _ => tyOf2 T t fun j => match j.k with
    | .bool => match op, ev x, ev y with
      | .eql, .bool a, .bool b => K (.bool (a == b))
      | .neq, .bool a, .bool b => K (.bool (!(a == b)))
      | _, _, _ => none
    | .iface => bif isNilIface y then tiface op (ev x) K else none
    | .ptr => tptr op (ev x) (ev y) K
    | .int _ => match op, ev x, ev y with
      | .shl, .int k a, .int _ b => bif decide (b < 0) then none else K (.int k (k.wrap (a * 2 ^ min b.toNat k.bits)))
      | .shr, .int k a, .int _ b => bif decide (b < 0) then none else K (.int k (a.fdiv (2 ^ min b.toNat k.bits)))
      | op, .int k a, .int k' b => bif ikeq k k' then tbin op k a b K else none
      | _, _, _ => none
    | .str => match ev x, ev y with
      | .str a, .str b => tbinS op a b K
      | _, _ => none
    | _ => none
  | .unOp op _ x => match op, ev x with
    | .neg, .int k n => K (.int k (k.wrap (0 - n)))
    | .xor, .int k n => K (.int k (k.wrap (BitVec.ofInt k.bits (if k.signed then -1 else k.max) ^^^ BitVec.ofInt k.bits n).toNat))
    | .not, .bool b => K (.bool (!b))
    | _, _ => none
  | .convert src dst x => tyOf2 T src fun js => tyOf2 T dst fun jd => match js.k, jd.k, ev x with
    | .int _, .int k, .int _ n => K (.int k (k.wrap n))
    | .str, .str, .str s => K (.str s)
    | .slice e, .str, .slice (.int .u8) l => tyOf2 T e fun je => match je.k with
      | .int .u8 => K (.str (l.map fun n => UInt8.ofNat n.toNat))
      | _ => none
    | .slice e, .str, .nils _ _ => tyOf2 T e fun je => match je.k with
      | .int .u8 => K (.str [])
      | _ => none
    | _, _, _ => none
  | .makeInterface t x => tyOf2 T t fun j => match j.k with
    | .iface => none
    | _ => K (.iface t (ev x))
  | .makeFunc (.func f) fst cap => K (.func f (fst.toList.map ev) (cap.toList.map ev))
  | .extract x i => match ev x with
    | .tup vs => match vs[i]? with
      | some v => K v
      | none => none
    | _ => none
  | .nilCheck x => match ev x with
    | .ptr k off => K (.ptr k off)
    | .vptr cs => K (.vptr cs)
    | _ => none
  | .typeAssert x _ t ok => tyOf2 T t fun j => match j.k, ev x with
    | .iface, _ => none
    | _, .iface t' v => bif Nat.beq t' t then K (bif ok then .tup [v, .bool true] else v) else none
    | _, _ => none
  | .call c => match c.callee, c.args.toList, c.argTypes.toList with
    | .builtin .len, [x], [t] => tyOf2 T t fun j => match j.k, ev x with
      | .str, .str s => K (.int .i64 s.length)
      | .slice _, .slice _ l => K (.int .i64 l.length)
      | .slice _, .nils _ _ => K (.int .i64 0)
      | .arr n _, _ => K (.int .i64 n)
      | _, _ => none
    | .builtin .min, [x, y], _ => match ev x, ev y with
      | .int k a, .int _ b => K (.int k (bif decide (b < a) then b else a))
      | _, _ => none
    | .builtin .max, [x, y], _ => match ev x, ev y with
      | .int k a, .int _ b => K (.int k (bif decide (b > a) then b else a))
      | _, _ => none
    | _, _, _ => none
  | _ => none

/-- The boxes that a value leads to at once. -/
def tptrs : TV → List Nat
  | .ptr k _ => [k]
  | .vptr cs => tptrsL cs
  | .func _ a b => tptrsL a ++ tptrsL b
  | .iface _ v => tptrs v
  | .agg cs => tptrsL cs
  | .tup cs => tptrsL cs
  | _ => []
where tptrsL : List TV → List Nat
  | [] => []
  | v :: r => tptrs v ++ tptrsL r

def cptrs : List TCell → List Nat
  | [] => []
  | c :: r => tptrs c.v ++ cptrs r

def nmem (k : Nat) : List Nat → Bool
  | [] => false
  | x :: r => Nat.beq x k || nmem k r

/-- All boxes that can be come to, in the order in which they are met. -/
def treach (h : THeap) : Nat → List Nat → List Nat → List Nat
  | 0, _, seen => seen
  | _ + 1, [], seen => seen
  | n + 1, k :: todo, seen => bif nmem k seen then treach h n todo seen else treach h n (todo ++ cptrs (h.getD k [])) (seen ++ [k])

mutual
def tren (f : Nat → Nat) : TV → TV
  | .ptr k off => .ptr (f k) off
  | .vptr cs => .vptr (trenL f cs)
  | .func g a b => .func g (trenL f a) (trenL f b)
  | .iface t v => .iface t (tren f v)
  | .agg cs => .agg (trenL f cs)
  | .tup cs => .tup (trenL f cs)
  | x => x
def trenL (f : Nat → Nat) : List TV → List TV
  | [] => []
  | x :: r => tren f x :: trenL f r
end

def trenC (f : Nat → Nat) : List TCell → List TCell
  | [] => []
  | c :: r => ⟨tren f c.v, c.o⟩ :: trenC f r

def nidx (k : Nat) : List Nat → Nat
  | [] => 0
  | x :: r => bif Nat.beq x k then 0 else nidx k r + 1

/-- The first n boxes behind a call. -/
def tback (sel : List Nat) (n : Nat) (h hs : THeap) : THeap :=
  ((List.range n).map fun k => bif nmem k sel then trenC (backN sel n) (hs.getD (nidx k sel) []) else h.getD k []) ++ (hs.drop sel.length).map (trenC (backN sel n))

abbrev TSpec := Nat → List TV → THeap → (TEnd → THeap → Res) → Res

def nmax : List Nat → Nat
  | [] => 0
  | k :: r => Nat.max (k + 1) (nmax r)

def allBel (m : Nat) : List Nat → Bool
  | [] => true
  | k :: r => Nat.blt k m && allBel m r

def hBel (m : Nat) : THeap → Bool
  | [] => true
  | b :: r => allBel m (cptrs b) && hBel m r

def allMem (sel : List Nat) : List Nat → Bool
  | [] => true
  | k :: r => nmem k sel && allMem sel r

def nnodup : List Nat → Bool
  | [] => true
  | k :: r => !nmem k r && nnodup r

/-- These are all boxes that can be come to. -/
def selOk (h : THeap) (sel : List Nat) (ps : List Nat) : Bool :=
  nnodup sel && allBel h.length sel && allMem sel ps && sel.all fun k => allMem sel (cptrs (h.getD k []))

/-- A Go function is called. -/
def tcall (C : TSpec) (M : Option Nat) (dst : Option Nat) (f : TV) (args : List TV) (s : TSt) (K : TSt → Res) (Kp : TV → TSt → Res) : Res :=
  match f with
  | .func g fst cap =>
    let as := fst ++ args ++ cap
    let n := s.h.length
    let sel := treach s.h (n + as.length + 64) (tptrs.tptrsL as) []
    let m := nmax sel
    bif selOk s.h sel (tptrs.tptrsL as) && hBel m (s.h.take m) && (match M with | some M' => Nat.ble m M' | none => true) then
      C g (trenL (fun k => nidx k sel) (as.map TV.fulls)) (sel.map fun k => trenC (fun k => nidx k sel) (s.h.getD k [])) fun e hs =>
        bif Nat.beq hs.length sel.length then
          match e with
          | .ret v o => K (({ s with h := tback sel m s.h hs ++ s.h.drop m, cl := cmap (fun x => killf (.tmp (dst.getD 0)) (killb m x)) s.cl } : TSt).put dst (tren (backN sel m) v) (o.map fun e => (.tmp (dst.getD 0), e)))
          | .panic v => Kp (tren (backN sel m) v) ⟨[], [], tback sel m s.h hs ++ s.h.drop m⟩
        else match M with
          | some _ => none
          | none => bif Nat.ble sel.length hs.length then match e with
            | .ret v o => K (({ s with h := tback sel n s.h hs, cl := cmap (fun x => killf (.tmp (dst.getD 0)) (killc x)) s.cl } : TSt).put dst (tren (backN sel n) v) (o.map fun e => (.tmp (dst.getD 0), e)))
            | .panic v => Kp (tren (backN sel n) v) ⟨[], [], tback sel n s.h hs⟩
            else none
    else none
  | _ => none

def tsetRow (cs : List TCell) (off : Nat) (ns : List TCell) : List TCell := cs.take off ++ ns ++ cs.drop (off + ns.length)

def tset (h : THeap) (k off : Nat) (ns : List TCell) : THeap := h.modify k fun b => tsetRow b off ns

def consume (h : THeap) : Cls → THeap
  | .cell k j => h.modify k fun b => b.modify j fun c => { c with o := none }
  | .tmp _ => h

def tcellsOf (v : TV) (c : Option (Cls × TypeId)) : List TCell :=
  match v with
  | .agg cs => cs.map fun x => ⟨x, none⟩
  | v => [⟨v, match c with | some (.tmp _, e) => some e | _ => none⟩]

/-- A row of new elements. -/
def tnews (c : TC) (z : Nat) : Nat → List TV → Option (List (den c))
  | 0, _ => some []
  | n + 1, l => match decC c ((l.take z).map TV.full), tnews c z n (l.drop z) with
    | some x, some r => some (x :: r)
    | _, _ => none

def retagBox (v : TV) (b : List TCell) (off : Nat) : TV := match v with
  | .agg cs => .agg (retags cs ((b.drop off).map fun c => c.v))
  | v => match b[off]? with
    | some c => v.retag c.v
    | none => v

/-- One operation. -/
def topX (T : TT) (C : TSpec) (M : Option Nat) (o : Oper) (s : TSt) (K : TSt → Res) (Kp : TV → TSt → Res) : Res :=
  match o.op with
  | .alloc t => tyOf2 T t fun i => K (({ s with h := s.h ++ [i.zero.map fun v => ⟨v, none⟩] } : TSt).put o.dst (.ptr s.h.length 0) none)
  | .box _ x => match s.ev x with
    | v => bif v.cells.all TV.one then K (({ s with h := s.h ++ [v.cells.map fun v => ⟨v, none⟩] } : TSt).put o.dst (.ptr s.h.length 0) none) else none
  | .load t x => tyOf2 T t fun i => match s.ev x with
    | .ptr k off => match s.h[k]? with
      | some b => bif i.agg then (bif Nat.ble (off + i.size) b.length then K (s.put o.dst (.agg (((b.drop off).take i.size).map (·.v))) none) else none)
        else match b[off]? with
          | some c => K (s.put o.dst c.v (c.o.map fun e => (.cell k off, e)))
          | none => none
      | none => none
    | .vptr cs => bif i.agg then (bif Nat.ble i.size cs.length then K (s.put o.dst (.agg (cs.take i.size)) none) else none) else match cs with
      | c :: _ => K (s.put o.dst c none)
      | [] => none
    | _ => none
  | .store t x y => tyOf2 T t fun i => match s.ev x with
    | .ptr k off => match s.h[k]? with
      | some b => match s.ev y with
        | v => bif (Nat.beq v.cells.length i.size && v.cells.all TV.one && Nat.ble (off + i.size) b.length) then
          K (({ s with h := tset s.h k off (tcellsOf (retagBox v b off) (s.evc y)), cl := cmap (fun x => killTmp (s.evc y) (killRow k off i.size x)) s.cl } : TSt).put o.dst .raw none) else none
      | none => none
    | _ => none
  | .buildSlice t n parts => tyOf2 T t fun i => match i.k with
    | .slice e => tyOf2 T e fun j => match j.code with
      | some c => bif (Nat.ble (n * j.size) 16777216 && Nat.blt 0 j.size && Nat.beq j.zero.length j.size && Nat.beq (csize c) j.size) then match tlaid (List.replicate n j.zero).flatten (telems j.size s.ev parts.toList) with
        | some cs => match tnews c j.size n cs with
          | some l => K (({ s with cl := cmap (killf (.tmp (o.dst.getD 0))) s.cl } : TSt).put o.dst (.slice c l) (o.dst.map fun d => (.tmp d, e)))
          | none => none
        | none => none else none
      | none => none
    | _ => none
  | .call c => match c.callee with
    | .builtin .append => match c.args.toList, c.argTypes.toList with
      | [x, y], [t, t'] => tyOf2 T t fun i => match i.k with
        | .slice e => tyOf2 T e fun j => bif (Nat.beq t t' && Nat.blt 0 j.size && Nat.beq j.zero.length j.size) then
            (match s.ev y with
              | .slice c ys => bif Nat.beq (csize c) j.size then (match s.ev x, s.evc x with
                | .nils _ _, _ => bif decide ((0 + ys.length) * j.bytes ≤ 140737488355328 ∧ 0 + ys.length ≤ 9223372036854775807) then K (({ s with cl := cmap (killf (.tmp (o.dst.getD 0))) s.cl } : TSt).put o.dst (.slice c ys) (o.dst.map fun d => (.tmp d, e))) else none
                | .slice c' xs, some (k, e') => bif (Nat.beq e' e) then (if hc : c' = c then (bif decide ((xs.length + ys.length) * j.bytes ≤ 140737488355328 ∧ xs.length + ys.length ≤ 9223372036854775807) then
                    K (({ s with h := consume s.h k, cl := cmap (fun x => killf (.tmp (o.dst.getD 0)) (killf k x)) s.cl } : TSt).put o.dst (.slice c (hc ▸ xs ++ ys)) (o.dst.map fun d => (.tmp d, e))) else none) else none) else none
                | _, _ => none) else none
              | .nils c _ => (match s.ev x, s.evc x with
                | .slice c' xs, some (k, e') => bif (Nat.beq e' e && Nat.beq (csize c') j.size) then (bif decide ((xs.length + 0) * j.bytes ≤ 140737488355328 ∧ xs.length + 0 ≤ 9223372036854775807) then
                    K (({ s with h := consume s.h k, cl := cmap (fun x => killf (.tmp (o.dst.getD 0)) (killf k x)) s.cl } : TSt).put o.dst (.slice c' xs) (o.dst.map fun d => (.tmp d, e))) else none) else none
                | _, _ => none)
              | _ => none) else none
        | _ => none
      | _, _ => none
    | .value f => tcall C M o.dst (s.ev f) (c.args.toList.map s.ev) s K Kp
    | _ => tpure T o.op o.type s.ev fun v => K (s.put o.dst v none)
  | .panic x => match s.ev x with
    | .iface t v => Kp (.iface t v) ⟨[], [], s.h⟩
    | _ => none
  | .move (.tmp t) => tpure T o.op o.type s.ev fun v => K (s.put o.dst v (clook s.cl t))
  | .assign (.tmp t) => tpure T o.op o.type s.ev fun v => K (s.put o.dst v (clook s.cl t))
  | _ => tpure T o.op o.type s.ev fun v => K (s.put o.dst v none)

/-- An operation behind a guard: where the guard is decided, its temporary is told so. -/
def tgate (ops : Array Oper) (o : Oper) (s : TSt) (run : TSt → Res) (skip : TSt → Res) : Res :=
  match o.guard with
  | none => run s
  | some (j, want) => match ops[j]? with
    | some oj => match oj.dst with
      | some d => match tlook s.tm d, clook s.cl d with
        | .bool b, none => match want with
          | true => bif b then run (s.put (some d) (.bool true) none) else skip ((s.put (some d) (.bool false) none).put o.dst (.tup []) none)
          | false => bif b then skip ((s.put (some d) (.bool true) none).put o.dst (.tup []) none) else run (s.put (some d) (.bool false) none)
        | .tup [], _ => skip (s.put o.dst (.tup []) none)
        | _, _ => none
      | none => none
    | none => none

def tops (T : TT) (C : TSpec) (ops : Array Oper) (K : TX → TSt → Res) : List Oper → TSt → Res
  | [], s => K .normal s
  | o :: rest, s => tgate ops o s (fun s => topX T C none o s (tops T C ops K rest) fun v s => K (.panic v) s) (tops T C ops K rest)

/-- A region that draws its order, in the orders of its plan. -/
def tplan (T : TT) (C : TSpec) (M : Option Nat) (ops : Array Oper) (K : TX → TSt → Res) : Plan → TSt → Res
  | .done, s => K .normal s
  | .step i p, s => match ops[i]? with
    | some o => tgate ops o s (fun s => topX T C M o s (tplan T C M ops K p) fun v s => K (.panic v) s) (tplan T C M ops K p)
    | none => none
  | .hold i p, s => match ops[i]? with
    | some o => match o.op, M with
      | .load _ x, some M' => match s.ev x with
        | .ptr k _ => bif Nat.ble M' k then tgate ops o s (fun s => topX T C M o s (tplan T C M ops K p) fun v s => K (.panic v) s) (tplan T C M ops K p) else none
        | .vptr _ => tgate ops o s (fun s => topX T C M o s (tplan T C M ops K p) fun v s => K (.panic v) s) (tplan T C M ops K p)
        | _ => none
      | _, _ => none
    | none => none
  | .alt _ _, _ => none

/-- Where ways meet: these temporaries are still told. -/
structure Ann where
  keep : List Nat

def aget {α : Type} : List (Nat × α) → Nat → Option α
  | [], _ => none
  | (d, v) :: r, t => bif Nat.beq d t then some v else aget r t

def keepT (tm : List (Nat × TV)) : List Nat → List (Nat × TV)
  | [] => []
  | t :: r => (t, (tlook tm t).full) :: keepT tm r

def nilOf : TV → Option TypeId
  | .nils _ e => some e
  | _ => none

/-- Nil slices that are told as empty ones own their rows. -/
def grantT (keep : List Nat) (tm : List (Nat × TV)) (h : THeap) : Cls → Option TypeId
  | .tmp n => bif nmem n keep then nilOf (tlook tm n) else none
  | .cell k j => match h[k]? with
    | some b => match b[j]? with
      | some c => nilOf c.v
      | none => none
    | none => none

def keepC (G : Cls → Option TypeId) (tm : List (Nat × TV)) (cl : List (Nat × Option (Cls × TypeId))) : List Nat → List (Nat × Option (Cls × TypeId))
  | [] => []
  | t :: r => match nilOf (tlook tm t) with
    | some e => (t, some (.tmp t, e)) :: keepC G tm cl r
    | none => match clook cl t with
      | some (c, e) => match G c with
        | none => (t, some (c, e)) :: keepC G tm cl r
        | some _ => keepC G tm cl r
      | none => keepC G tm cl r

def fullCell (c : TCell) : TCell := match c.v with
  | .nils k e => ⟨.slice k [], some e⟩
  | v => ⟨v, c.o⟩

def tmPtrs : List (Nat × TV) → List Nat
  | [] => []
  | (_, v) :: r => tptrs v ++ tmPtrs r

/-- Rights under the names of the temporaries that hold them. -/
def canonK (l : List (Nat × Option (Cls × TypeId))) : List Nat → List Nat → List (Nat × Option (Cls × TypeId))
  | _, [] => []
  | used, t :: r => match clook l t with
    | some (.tmp n, e) => bif nmem n used then canonK l used r else (t, some (.tmp t, e)) :: canonK l (n :: used) r
    | some (.cell k j, e) => (t, some (.cell k j, e)) :: canonK l used r
    | none => canonK l used r

/-- Where ways meet. Boxes from m on are forgotten, if nothing leads to them. -/
def tjoin (n0 m : Nat) (a : Ann) (s : TSt) (K : TSt → Res) : Res :=
  bif Nat.ble n0 m && Nat.ble m s.h.length && allBel m (tmPtrs (keepT s.tm a.keep)) && hBel m (s.h.take m) then
    K ⟨keepT s.tm a.keep, canonK (keepC (grantT a.keep s.tm s.h) s.tm s.cl a.keep) [] a.keep, (s.h.take m).map (·.map fullCell)⟩
  else K ⟨keepT s.tm a.keep, canonK (keepC (grantT a.keep s.tm s.h) s.tm s.cl a.keep) [] a.keep, s.h.map (·.map fullCell)⟩

/-- Where rounds are left, 0 ends the walk: a mark for whoever prints. -/
def tstart (n : Nat) (r : Res) : Res := match n with
  | 0 => none
  | _ + 1 => r

/-- Where ways meet at a loop: what is told at its head, behind it, and where the body ends in it. -/
structure LAnn where
  head : Ann
  out : Ann
  back : Ann

def tleave (n0 m : Nat) (a : LAnn) (K : TX → TSt → Res) : TX → TSt → Res
  | .exit i, s => tjoin n0 m a.out s (K (.exit i))
  | .ret, s => tjoin n0 m a.back s (K .ret)
  | .panic v, s => K (.panic v) ⟨[], [], s.h⟩
  | .normal, s => K .normal s

/-- One round. -/
def tstep (n0 m : Nat) (body : TSt → (TX → TSt → Res) → Res) (a : LAnn) (K : TX → TSt → Res) (X : TSt → Res) (s : TSt) : Res :=
  body s fun e s' => match e with
    | .normal => tjoin n0 m a.head s' X
    | e => tleave n0 m a K e s'

def tloop (p n0 m : Nat) (body : TSt → (TX → TSt → Res) → Res) (a : LAnn) (K : TX → TSt → Res) : Nat → TSt → Res
  | 0, _ => none
  | n + 1, s => tstep n0 m body a K (tloop p n0 m body a K n) s

def omatch {α : Type} (o : Option α) (n : Res) (f : α → Res) : Res := match o with
  | none => n
  | some x => f x

abbrev Handler := (TX → TSt → Res) → TSt → Res

structure Cfg where
  T : TT
  C : TSpec
  /-- so many rounds at the most -/
  N : Nat
  /-- so many boxes were there before -/
  n0 : Nat
  /-- where ways meet -/
  A : List (Nat × Ann)
  AL : List (Nat × LAnn)
  /-- of a region that draws its order and calls: so many boxes are seen -/
  Ms : List (Nat × Nat)
  /-- loops that are known -/
  L : List (Nat × Handler)

/-- The walk. -/
def trun (c : Cfg) : Nat → Code → TSt → (TX → TSt → Res) → Res
  | _, .skip, s, K => K .normal s
  | _, .region _ ops false, s, K => tops c.T c.C ops K ops.toList s
  | _, .region i ops true, s, K => match aget c.Ms i with
    | some M => match planOf true ops ops.size (Array.replicate ops.size false) with
      | some p => tplan c.T c.C (some M) ops K p s
      | none => none
    | none => match planOf false ops ops.size (Array.replicate ops.size false) with
      | some p => tplan c.T c.C none ops K p s
      | none => none
  | p, .seq a b, s, K => trun c (2 * p) a s fun e s' => match e with
    | .normal => match aget c.A p with
      | some an => tjoin c.n0 s'.h.length an s' fun s' => trun c (2 * p + 1) b s' K
      | none => trun c (2 * p + 1) b s' K
    | e => K e s'
  | p, .cond x a b, s, K => match s.ev x with
    | .bool t => bif t then trun c (2 * p) a s K else trun c (2 * p + 1) b s K
    | _ => none
  | p, .block i b, s, K => trun c (2 * p) b s fun e s' => match e with
    | .exit j => bif Nat.beq j i then K .normal s' else K e s'
    | e => K e s'
  | p, .loop b, s, K => match aget c.AL p with
    | some a => tjoin c.n0 s.h.length a.head s fun s => match aget c.L p with
      | some f => f K s
      | none => tstart c.N (tloop p c.n0 s.h.length (trun c (2 * p) b) a K c.N s)
    | none => none
  | _, .exit i, s, K => K (.exit i) s
  | _, .ret, s, K => K .ret s
  | _, _, _, _ => none

/-- What a body hands back. -/
def tres (T : TT) (s : TSt) : List ResultVar → (List TV → Res) → Res
  | [], K => K []
  | .tmp t :: rs, K => tres T s rs fun vs => K (tlook s.tm t :: vs)
  | .cell x t :: rs, K => tyOf2 T t fun i => match tlook s.tm x with
    | .ptr k off => match s.h[k]? with
      | some b => bif i.agg then (bif Nat.ble (off + i.size) b.length then tres T s rs fun vs => K (.agg (((b.drop off).take i.size).map (·.v)) :: vs) else none)
        else match b[off]? with
          | some c => tres T s rs fun vs => K (c.v :: vs)
          | none => none
      | none => none
    | _ => none

def resTmps : List ResultVar → List Nat
  | [] => []
  | .tmp t :: rs => t :: resTmps rs
  | .cell x _ :: rs => x :: resTmps rs

def TV.fulls2 : TV → TV
  | .nils c _ => .slice c []
  | .agg cs => .agg (cs.map TV.full)
  | .tup cs => .tup (cs.map TV.fulls)
  | v => v

/-- Boxes to which nothing leads are forgotten. -/
def tcut (n : Nat) (v : TV) (h : THeap) (K : THeap → Res) : Res :=
  bif allBel n (tptrs v) && hBel n (h.take n) then K (h.take n) else bif allBel h.length (tptrs v) && hBel h.length h then K h else none

def tfin (T : TT) (rs : List ResultVar) (n : Nat) : TX → TSt → Res
  | .exit _, _ => none
  | .panic v, s => tcut n v s.h fun h => some (.panic v, h)
  | _, s => tjoin n s.h.length ⟨resTmps rs⟩ s fun s => tres T s rs fun vs => match vs with
    | [v] => match v.fulls2 with
      | v' => tcut n v' s.h fun h => some (.ret v' (match rs, v with
        | [.tmp t], .slice _ _ => match clook s.cl t with
          | some (.tmp _, e) => some e
          | _ => none
        | _, _ => none), h)
    | vs => match TV.fulls2 (.tup vs) with
      | v => tcut n v s.h fun h => some (.ret v none, h)

def enterT : Nat → List TV → List (Nat × TV)
  | _, [] => []
  | i, v :: r => (i, v) :: enterT (i + 1) r

def tbody (c : Cfg) (code : Code) (rs : List ResultVar) (args : List TV) (h : THeap) : Res :=
  trun c 1 code ⟨enterT 0 args, [], h⟩ (tfin c.T rs h.length)

/-- The code at a place. -/
def codeAt : Code → List Bool → Code
  | c, [] => c
  | .seq a b, t :: r => bif t then codeAt b r else codeAt a r
  | .cond _ a b, t :: r => bif t then codeAt b r else codeAt a r
  | .block _ c, _ :: r => codeAt c r
  | .loop c, _ :: r => codeAt c r
  | c, _ => c

end Go.AW
end

section
namespace Go.AW

def cA (c : TCell) : Cell := { v := c.v.av, o := c.o }
def hA (h : THeap) : AHeap := ⟨h.map (·.map cA)⟩
def TSt.toA (s : TSt) : ASt := { tm := fun t => (tlook s.tm t).av, cl := clook s.cl, h := hA s.h, df := [] }
def TEnd.av : TEnd → AEnd
  | .ret v o => .ret v.av o
  | .panic v => .panic v.av

section
variable (P : Program)
def tkField (g : Field) : Option (Nat × Nat × Bool) := match szOf P g.type, aggOf P g.type with
  | some z, some a => some (g.offset, z, a)
  | _, _ => none
def tkOf (t : TypeId) : Option TK := match P.underlying t with
  | some .bool => some .bool
  | some (.int k) => some (.int k)
  | some .string => some .str
  | some (.struct gs) => (gs.toList.mapM (tkField P)).map .struct
  | some (.slice e) => some (.slice e)
  | some (.array n e) => some (.arr n e)
  | some (.pointer _) => some .ptr
  | some (.interface _) => some .iface
  | some (.func ..) => some .func
  | _ => none

/-- The table says of a type what the program says. -/
structure TIok (t : Nat) (i : TI) : Prop where
  k : tkOf P t = some i.k
  sz : szOf P t = some i.size
  by_ : bytesOf P t = some i.bytes
  ag : aggOf P t = some i.agg
  ze : zeroOf P t = some (TV.avs i.zero)

def TTok (T : TT) : Prop := ∀ p ∈ T, TIok P p.1 p.2
end

variable {P : Program} {T : TT}

theorem TTok.nil : TTok P [] := fun _ h => by cases h
theorem TTok.cons {t : Nat} {i : TI} (h : (tkOf P t, szOf P t, bytesOf P t, aggOf P t, zeroOf P t) = (some i.k, some i.size, some i.bytes, some i.agg, some (TV.avs i.zero))) (hT : TTok P T) : TTok P ((t, i) :: T) := by
  intro p hp
  rcases List.mem_cons.1 hp with rfl | hp
  · simp only [Prod.mk.injEq] at h; exact ⟨h.1, h.2.1, h.2.2.1, h.2.2.2.1, h.2.2.2.2⟩
  · exact hT p hp

theorem tyOf_mem : ∀ {T : TT} {t : Nat} {i : TI}, tyOf T t = some i → (t, i) ∈ T
  | [], _, _, h => by cases h
  | (d, v) :: r, t, i, h => by
    simp only [tyOf] at h
    cases hb : Nat.beq d t with
    | true =>
      rw [hb] at h; simp at h
      have := Nat.eq_of_beq_eq_true hb
      subst this h; simp
    | false => rw [hb] at h; exact List.mem_cons_of_mem _ (tyOf_mem h)

theorem TTok.at_ (hT : TTok P T) {t : Nat} {i : TI} (h : tyOf T t = some i) : TIok P t i := hT _ (tyOf_mem h)

theorem tyOf2_some {t : Nat} {K : TI → Res} {r : TEnd × THeap} (h : tyOf2 T t K = some r) : ∃ i, tyOf T t = some i ∧ K i = some r := by
  unfold tyOf2 at h
  split at h
  · rename_i i hi; exact ⟨i, hi, h⟩
  · cases h

theorem mapM_at {α β : Type} {f : α → Option β} : ∀ {l : List α} {r : List β}, l.mapM f = some r → r.length = l.length ∧ ∀ (i : Nat) (b : β), r[i]? = some b → ∃ a, l[i]? = some a ∧ f a = some b := by
  intro l
  induction l with
  | nil => intro r h; simp at h; subst h; exact ⟨rfl, fun i b hb => by simp at hb⟩
  | cons a l ih =>
    intro r h
    rw [List.mapM_cons] at h
    cases ha : f a with
    | none => simp [ha] at h
    | some b =>
      cases hl : l.mapM f with
      | none => simp [ha, hl] at h
      | some bs =>
        simp [ha, hl] at h
        subst h
        obtain ⟨h1, h2⟩ := ih hl
        refine ⟨by simp [h1], fun i c hc => ?_⟩
        cases i with
        | zero => simp at hc; subst hc; exact ⟨a, rfl, ha⟩
        | succ i => simpa using h2 i c (by simpa using hc)

theorem tk_struct {t : Nat} {fs : List (Nat × Nat × Bool)} (h : tkOf P t = some (.struct fs)) : ∃ gs : Array Field, P.underlying t = some (.struct gs) ∧ gs.toList.mapM (tkField P) = some fs := by
  unfold tkOf at h
  split at h <;> first
    | (rename_i gs hu; obtain ⟨a, h1, h2⟩ := Option.map_eq_some_iff.1 h; cases h2; exact ⟨gs, hu, h1⟩)
    | cases h
theorem tk_bool {t : Nat} (h : tkOf P t = some .bool) : P.underlying t = some .bool := by
  unfold tkOf at h; split at h <;> simp at h <;> assumption
theorem tk_int {t : Nat} {k : IntKind} (h : tkOf P t = some (.int k)) : P.underlying t = some (.int k) := by
  unfold tkOf at h; split at h <;> simp at h; subst h; assumption
theorem tk_str {t : Nat} (h : tkOf P t = some .str) : P.underlying t = some .string := by
  unfold tkOf at h; split at h <;> simp at h <;> assumption
theorem tk_slice {t e : Nat} (h : tkOf P t = some (.slice e)) : P.underlying t = some (.slice e) := by
  unfold tkOf at h; split at h <;> simp at h; subst h; assumption
theorem tk_arr {t n e : Nat} (h : tkOf P t = some (.arr n e)) : P.underlying t = some (.array n e) := by
  unfold tkOf at h; split at h <;> simp at h; obtain ⟨rfl, rfl⟩ := h; assumption
theorem tk_ptr {t : Nat} (h : tkOf P t = some .ptr) : ∃ e, P.underlying t = some (.pointer e) := by
  unfold tkOf at h; split at h <;> simp at h; exact ⟨_, by assumption⟩
theorem tk_iface {t : Nat} (h : tkOf P t = some .iface) : ∃ ms, P.underlying t = some (.interface ms) := by
  unfold tkOf at h; split at h <;> simp at h; exact ⟨_, by assumption⟩

theorem fld_of {t f : Nat} {fs : List (Nat × Nat × Bool)} {x : Nat × Nat × Bool} (h : tkOf P t = some (.struct fs)) (hf : fs[f]? = some x) : fldOf P t f = some x := by
  obtain ⟨gs, hu, hm⟩ := tk_struct h
  obtain ⟨_, h2⟩ := mapM_at hm
  obtain ⟨g, hg, hx⟩ := h2 f x hf
  unfold fldOf
  rw [hu]
  simp only [Array.getElem?_toList] at hg
  simp only [hg]
  unfold tkField at hx
  split at hx
  · rename_i z a hz ha; cases hx; simp only [hz, ha]
  · cases hx

theorem places_list : ∀ {l : List Field} {fs : List (Nat × Nat × Bool)}, l.mapM (tkField P) = some fs → l.mapM (fun f => (P.info? f.type).map fun i => (f.offset, i.size)) = some (fs.map fun x => (x.1, x.2.1)) := by
  intro l
  induction l with
  | nil => intro fs hm; simp at hm; subst hm; rfl
  | cons g l ih =>
    intro fs hm
    rw [List.mapM_cons] at hm
    cases ha : tkField P g with
    | none => simp [ha] at hm
    | some b =>
      cases hl : l.mapM (tkField P) with
      | none => simp [ha, hl] at hm
      | some bs =>
        simp [ha, hl] at hm
        subst hm
        rw [List.mapM_cons, ih hl]
        unfold tkField at ha
        split at ha
        · rename_i z a hz hag
          cases ha
          simp only [szOf, Option.map_eq_some_iff] at hz
          obtain ⟨i, h1, rfl⟩ := hz
          simp [h1]
        · cases ha

theorem places_of {t : Nat} {fs : List (Nat × Nat × Bool)} (h : tkOf P t = some (.struct fs)) : placesOf P t = some (fs.map fun x => (x.1, x.2.1)) := by
  obtain ⟨gs, hu, hm⟩ := tk_struct h
  unfold placesOf
  rw [hu]
  exact places_list hm

end Go.AW
end

section
set_option linter.unusedSimpArgs false
namespace Go.AW
variable {P : Program} {T : TT}

theorem av_one (v : TV) : v.av.one = v.one := by cases v <;> rfl
theorem av_cells (v : TV) : v.av.cells = v.cells.map TV.av := by
  cases v <;> simp [TV.av, AV.cells, TV.cells, avs_eq]
theorem retag_av (v like : TV) : (v.retag like).av = v.av := by
  unfold TV.retag; split <;> rfl
theorem retags_av : ∀ (l z : List TV), (retags l z).map TV.av = l.map TV.av
  | [], z => by cases z <;> rfl
  | v :: l, [] => rfl
  | v :: l, z :: zs => by simp only [retags, List.map_cons, retag_av, retags_av l zs]
theorem retags_len (l z : List TV) : (retags l z).length = l.length := by
  have := congrArg List.length (retags_av l z); simpa using this

theorem tfill_av : ∀ (l : List (Nat × TV)) (cs : List TV), (tfill l cs).map TV.av = fillA (l.map fun p => (p.1, p.2.av)) (cs.map TV.av)
  | [], cs => rfl
  | (off, v) :: r, cs => by
    simp only [tfill, List.map_cons, fillA]
    rw [tfill_av]
    simp only [List.map_append, retags_av, av_cells, List.map_take, List.map_drop, List.length_map]

theorem tok_av : ∀ (n : Nat) (l : List (Nat × Nat × TV)), tokFill n l = true → okFill n (l.map fun p => (p.1, p.2.1, p.2.2.av)) = true
  | n, [], _ => rfl
  | n, (off, z, v) :: r, h => by
    simp only [tokFill, Bool.and_eq_true] at h
    obtain ⟨⟨⟨h1, h2⟩, h3⟩, h4⟩ := h
    simp only [List.map_cons, okFill, Bool.and_eq_true, decide_eq_true_eq, av_cells, List.length_map]
    refine ⟨⟨⟨by rw [Nat.eq_of_beq_eq_true h1]; simp, Nat.le_of_ble_eq_true h2⟩, ?_⟩, tok_av n r h4⟩
    rw [List.all_map]
    rw [List.all_eq_true] at h3 ⊢
    intro x hx
    simp only [Function.comp, av_one]
    exact h3 x hx

theorem tlaid_av {z cs : List TV} {l : List (Nat × Nat × TV)} (h : tlaid z l = some cs) : laidA (z.map TV.av) (l.map fun p => (p.1, p.2.1, p.2.2.av)) = some (cs.map TV.av) := by
  unfold tlaid at h
  cases hb : tokFill z.length l with
  | false => simp [hb] at h
  | true =>
    simp [hb] at h
    subst h
    unfold laidA
    rw [List.length_map, if_pos (tok_av _ _ hb), tfill_av]
    simp [List.map_map, Function.comp_def]

theorem tparts_av {ev : Operand → TV} {pl : List (Nat × Nat × Bool)} : ∀ {ps : List (Nat × Operand)} {l : List (Nat × Nat × TV)}, tparts pl ev ps = some l →
    partsA (pl.map fun x => (x.1, x.2.1)) (fun x => (ev x).av) ps = some (l.map fun p => (p.1, p.2.1, p.2.2.av)) := by
  intro ps
  induction ps with
  | nil => intro l h; simp [tparts] at h; subst h; rfl
  | cons p ps ih =>
    intro l h
    obtain ⟨i, x⟩ := p
    simp only [tparts] at h
    split at h
    · rename_i o n b l0 h1 h2
      cases h
      simp only [partsA, List.getElem?_map, h1, Option.map_some, ih h2, List.map_cons]
    · cases h

theorem telems_av {ev : Operand → TV} {n : Nat} : ∀ (ps : List (Nat × Operand)), elemsA n (fun x => (ev x).av) ps = (telems n ev ps).map fun p => (p.1, p.2.1, p.2.2.av)
  | [] => rfl
  | (i, x) :: r => by simp only [elemsA, telems, List.map_cons, telems_av r]

theorem ikeq_eq {k k' : IntKind} (h : ikeq k k' = true) : k = k' := by
  cases k <;> cases k' <;> first | rfl | cases h

theorem tsel_some {n : Int} : ∀ {l : List TV} {i : Nat} {K : TV → Res} {r : TEnd × THeap}, tsel n i l K = some r → ∃ (j : Nat) (v : TV), l[j]? = some v ∧ n = ((i + j : Nat) : Int) ∧ K v = some r := by
  intro l
  induction l with
  | nil => intro i K r h; cases h
  | cons c l ih =>
    intro i K r h
    simp only [tsel] at h
    cases hd : decide (n = (i : Int)) with
    | true => rw [hd] at h; exact ⟨0, c, rfl, by simpa using hd, h⟩
    | false =>
      rw [hd] at h
      obtain ⟨j, v, h1, h2, h3⟩ := ih h
      exact ⟨j + 1, v, by simpa using h1, by rw [h2]; congr 1; omega, h3⟩

theorem tbin_some {op : BinOp} {k : IntKind} {a b : Int} {K : TV → Res} {r : TEnd × THeap} (h : tbin op k a b K = some r) : ∃ v, K v = some r ∧ binA op (.int k a) (.int k b) = some v.av := by
  cases op <;> simp only [tbin] at h
  case quo =>
    cases hd : decide (b = 0) with
    | true => simp [hd] at h
    | false => simp [hd] at h; simp at hd; exact ⟨_, h, by simp [binA, hd, TV.av]⟩
  case rem =>
    cases hd : decide (b = 0) with
    | true => simp [hd] at h
    | false => simp [hd] at h; simp at hd; exact ⟨_, h, by simp [binA, hd, TV.av]⟩
  all_goals first | cases h | exact ⟨_, h, by simp [binA, TV.av]⟩

theorem tbinS_some {op : BinOp} {a b : List UInt8} {K : TV → Res} {r : TEnd × THeap} (h : tbinS op a b K = some r) : ∃ v, K v = some r ∧ binA op (.str a) (.str b) = some v.av := by
  cases op <;> simp only [tbinS] at h
  case add =>
    cases hd : decide (a.length + b.length ≤ 9223372036854775807) with
    | false => simp [hd] at h
    | true => simp [hd] at h; simp at hd; exact ⟨_, h, by simp [binA, hd, TV.av]⟩
  all_goals first | cases h | exact ⟨_, h, by simp [binA, TV.av]⟩

theorem tptr_some {op : BinOp} {x y : TV} {K : TV → Res} {r : TEnd × THeap} (h : tptr op x y K = some r) : ∃ v, K v = some r ∧ ptrA op x.av y.av = some v.av := by
  unfold tptr at h
  split at h <;> first | cases h | exact ⟨_, h, rfl⟩

theorem tiface_some {op : BinOp} {x : TV} {K : TV → Res} {r : TEnd × THeap} (h : tiface op x K = some r) : ∃ v, K v = some r ∧ ifaceA op x.av = some v.av := by
  unfold tiface at h
  split at h <;> first | cases h | exact ⟨_, h, rfl⟩

theorem nilIface_eq {y : Operand} (h : isNilIface y = true) : y = .const .nilIface := by
  unfold isNilIface at h; split at h
  · rfl
  · cases h

theorem chunks_at (z : Nat) : ∀ (n j : Nat) (l : List TV), j < n → (chunks z n l)[j]? = some ((l.drop (j * z)).take z)
  | 0, j, l, h => by omega
  | n + 1, 0, l, _ => by simp [chunks]
  | n + 1, j + 1, l, h => by
    simp only [chunks, List.getElem?_cons_succ]
    rw [chunks_at z n j _ (by omega), List.drop_drop]
    congr 3; rw [Nat.succ_mul]; omega
theorem chunks_len (z : Nat) : ∀ (n : Nat) (l : List TV), (chunks z n l).length = n
  | 0, l => rfl
  | n + 1, l => by simp [chunks, chunks_len z n]

theorem bytes_av : ∀ (l : List Int), bytesA (l.map (cellsOfC (.int .u8))) = some (l.map fun n => UInt8.ofNat n.toNat)
  | [] => rfl
  | n :: l => by
    have := bytes_av l
    simp only [List.map_cons, cellsOfC] at this ⊢
    simp only [bytesA, this, Option.map_some]

theorem tsliceS_some {s : List UInt8} {lo hi : Option TV} {K : TV → Res} {r : TEnd × THeap} (h : tsliceS s lo hi K = some r) {t : Nat} {x : Operand} {ol oh : Option Operand} {ev : Operand → TV} (hlo : ol.map ev = lo) (hhi : oh.map ev = hi) (hu : P.underlying t = some .string) (hx : (ev x).av = .str s) :
    ∃ v, K v = some r ∧ pureA P (.slice t x ol oh none) (fun x => (ev x).av) = some v.av := by
  have e1 : ol.map (fun x => (ev x).av) = lo.map TV.av := by rw [← hlo]; cases ol <;> rfl
  have e2 : oh.map (fun x => (ev x).av) = hi.map TV.av := by rw [← hhi]; cases oh <;> rfl
  simp only [pureA, e1, e2, hx, hu]
  unfold tsliceS at h
  split at h
  · exact ⟨_, h, rfl⟩
  · rename_i l
    cases hb : decide (0 ≤ l) && decide (l ≤ s.length) with
    | false => simp [hb] at h
    | true => simp only [hb, cond_true] at h; simp at hb; exact ⟨_, h, by simp [TV.av, hb]⟩
  · rename_i l
    cases hb : decide (0 ≤ l) && decide (l ≤ s.length) with
    | false => simp [hb] at h
    | true => simp only [hb, cond_true] at h; simp at hb; exact ⟨_, h, by simp [TV.av, hb]⟩
  · rename_i l _ m
    cases hb : decide (0 ≤ l) && decide (l ≤ m) && decide (m ≤ s.length) with
    | false => simp [hb] at h
    | true => simp only [hb, cond_true] at h; simp at hb; exact ⟨_, h, by simp [TV.av, hb]⟩
  · cases h

theorem all_csize {c : TC} {z : Nat} (hz : csize c = z) (l : List (den c)) : (l.map (cellsOfC c)).all (fun x => x.length == z) = true := by
  rw [List.all_map, List.all_eq_true]
  intro x _
  simp only [Function.comp, csize_ok, hz, beq_self_eq_true]

theorem tsliceL_some {c : TC} {s : List (den c)} {lo hi : Option TV} {K : TV → Res} {r : TEnd × THeap} (h : tsliceL c s lo hi K = some r) {t e z : Nat} {x : Operand} {ol oh : Option Operand} {ev : Operand → TV} (hlo : ol.map ev = lo) (hhi : oh.map ev = hi) (hu : P.underlying t = some (.slice e)) (hz : szOf P e = some z) (hc : csize c = z) (hx : (ev x).av = .slice (s.map (cellsOfC c))) :
    ∃ v, K v = some r ∧ pureA P (.slice t x ol oh none) (fun x => (ev x).av) = some v.av := by
  have e1 : ol.map (fun x => (ev x).av) = lo.map TV.av := by rw [← hlo]; cases ol <;> rfl
  have e2 : oh.map (fun x => (ev x).av) = hi.map TV.av := by rw [← hhi]; cases oh <;> rfl
  have ha := all_csize hc s
  simp only [pureA, e1, e2, hx, hu, hz]
  unfold tsliceL at h
  split at h
  · exact ⟨_, h, by simp [TV.av, hz]⟩
  · rename_i l
    cases hb : decide (0 ≤ l) && decide (l ≤ s.length) with
    | false => simp [hb] at h
    | true => simp only [hb, cond_true] at h; simp at hb; exact ⟨_, h, by simp only [Option.map_some, Option.map_none, TV.av, List.length_map, hz, hb, ha, and_self, if_true, List.map_drop]⟩
  · rename_i l
    cases hb : decide (0 ≤ l) && decide (l ≤ s.length) with
    | false => simp [hb] at h
    | true => simp only [hb, cond_true] at h; simp at hb; exact ⟨_, h, by simp only [Option.map_some, Option.map_none, TV.av, List.length_map, hz, hb, and_self, if_true, List.map_take]⟩
  · rename_i l _ m
    cases hb : decide (0 ≤ l) && decide (l ≤ m) && decide (m ≤ s.length) with
    | false => simp [hb] at h
    | true => simp only [hb, cond_true] at h; simp at hb; exact ⟨_, h, by simp only [Option.map_some, Option.map_none, TV.av, List.length_map, hz, hb, ha, and_self, if_true, List.map_drop, List.map_take]⟩
  · cases h

end Go.AW
end

section
set_option linter.unusedSimpArgs false
namespace Go.AW
variable {P : Program} {T : TT}

theorem bif_some {b : Bool} {x : Res} {r : TEnd × THeap} (h : (bif b then x else none) = some r) : b = true ∧ x = some r := by
  cases b
  · cases h
  · exact ⟨rfl, h⟩

theorem get_av {l : List TV} {i : Nat} {v : TV} (h : l[i]? = some v) : (l.map TV.av)[i]? = some v.av := by rw [List.getElem?_map, h]; rfl

theorem len_one_head {l : List TV} (h : l.length = 1) : ∃ v, l = [v] := by
  match l, h with
  | [v], _ => exact ⟨v, rfl⟩

set_option maxHeartbeats 1600000 in
theorem tpure_sound (hT : TTok P T) {op : Op} {ty : Nat} {ev : Operand → TV} {K : TV → Res} {r : TEnd × THeap} (h : tpure T op ty ev K = some r) : ∃ v, K v = some r ∧ pureA P op (fun x => (ev x).av) = some v.av := by
  have mv : ∀ x, (match ev x with
    | .nils c e => match tyOf T ty with
      | some ⟨.slice e', _, _, _, _, _⟩ => match tyOf T e' with
        | some ⟨_, _, _, _, _, some c'⟩ => K (.nils c' e')
        | _ => K (.nils c e)
      | _ => K (.nils c e)
    | v => K v) = some r → ∃ v, K v = some r ∧ (ev x).av = v.av := by
    intro x h
    generalize ev x = y at h
    split at h
    · split at h
      · split at h <;> exact ⟨_, h, rfl⟩
      · exact ⟨_, h, rfl⟩
    · exact ⟨_, h, rfl⟩
  cases op <;> simp only [tpure] at h
  case move x => obtain ⟨v, h1, h2⟩ := mv x h; exact ⟨v, h1, by simp only [pureA, h2]⟩
  case assign x => obtain ⟨v, h1, h2⟩ := mv x h; exact ⟨v, h1, by simp only [pureA, h2]⟩
  case pick c a b =>
    split at h
    · rename_i t ht
      split at h
      · rename_i x y hx hy
        refine ⟨_, h, ?_⟩
        simp only [pureA, ht, hx, hy, TV.av]
        cases t <;> rfl
      · cases t
        · exact ⟨_, h, by simp [pureA, ht, TV.av]⟩
        · exact ⟨_, h, by simp [pureA, ht, TV.av]⟩
    · cases h
  case build t parts =>
    obtain ⟨i, hi, h⟩ := tyOf2_some h
    have ok := hT.at_ hi
    split at h
    · rename_i fs hk
      have ok' := ok.k; rw [hk] at ok'
      split at h
      · rename_i l hl
        split at h
        · rename_i cs hcs
          refine ⟨_, h, ?_⟩
          obtain ⟨gs, hu, _⟩ := tk_struct ok'
          simp only [pureA, hu, ok.ze, places_of ok', Option.bind_some, tparts_av hl, TV.av, avs_eq, tlaid_av hcs, Option.map_some]
        · cases h
      · cases h
    · rename_i n e hk
      have ok' := ok.k; rw [hk] at ok'
      obtain ⟨j, hj, h⟩ := tyOf2_some h
      have okj := hT.at_ hj
      split at h
      · rename_i cs hcs
        refine ⟨_, h, ?_⟩
        simp only [pureA, tk_arr ok', ok.ze, okj.sz, Option.bind_some, telems_av, TV.av, avs_eq, tlaid_av hcs, Option.map_some]
      · cases h
    · cases h
  case fieldAddr t x f =>
    obtain ⟨i, hi, h⟩ := tyOf2_some h
    have ok := hT.at_ hi
    split at h
    · rename_i fs hk
      have ok' := ok.k; rw [hk] at ok'
      split at h
      · rename_i o z b hf
        have hfl := fld_of ok' hf
        cases hz : Nat.beq z 0 with
        | true => simp [hz] at h
        | false =>
          have hz' : z ≠ 0 := fun e => by subst e; cases hz
          simp only [hz, cond_false] at h
          split at h
          · rename_i k off hx; exact ⟨_, h, by simp [pureA, hx, hfl, hz', TV.av]⟩
          · rename_i cs hx; exact ⟨_, h, by simp [pureA, hx, hfl, hz', TV.av, avs_eq]⟩
          · cases h
      · cases h
    · cases h
  case field t x f =>
    obtain ⟨i, hi, h⟩ := tyOf2_some h
    have ok := hT.at_ hi
    split at h
    · rename_i fs hk
      have ok' := ok.k; rw [hk] at ok'
      split at h
      · rename_i o z cs hf hx
        have hfl := fld_of ok' hf
        obtain ⟨hb, h⟩ := bif_some h
        have := Nat.le_of_ble_eq_true hb
        exact ⟨_, h, by simp [pureA, hx, hfl, TV.av, avs_eq, this]⟩
      · rename_i o z cs hf hx
        have hfl := fld_of ok' hf
        split at h
        · rename_i v hv; exact ⟨_, h, by simp [pureA, hx, hfl, TV.av, avs_eq, hv]⟩
        · cases h
      · cases h
    · cases h
  case indexAddr t x i =>
    obtain ⟨j, hj, h⟩ := tyOf2_some h
    have ok := hT.at_ hj
    split at h
    · rename_i e hk
      have ok' := ok.k; rw [hk] at ok'
      obtain ⟨je, hje, h⟩ := tyOf2_some h
      have oke := hT.at_ hje
      split at h
      · rename_i c l k n hx hi
        obtain ⟨hb, h⟩ := bif_some h
        obtain ⟨hb2, h⟩ := bif_some h
        have hcs := Nat.eq_of_beq_eq_true hb
        split at h
        · rename_i y hy
          refine ⟨_, h, ?_⟩
          have hn : 0 ≤ n := by simpa using hb2
          simp [pureA, hx, hi, TV.av, tk_slice ok', hn, hy, oke.sz, csize_ok, hcs, enc_av]
        · cases h
      · cases h
    · rename_i len e hk
      have ok' := ok.k; rw [hk] at ok'
      obtain ⟨je, hje, h⟩ := tyOf2_some h
      have oke := hT.at_ hje
      split at h
      · rename_i k off kk n hx hi
        obtain ⟨m, v, h1, h2, h3⟩ := tsel_some h
        refine ⟨v, h3, ?_⟩
        have hlt : m < len := by have := (List.getElem?_eq_some_iff.1 h1).1; simpa using this
        rw [List.getElem?_map, List.getElem?_range hlt] at h1
        simp only [Option.map_some, Option.some.injEq] at h1
        subst h1
        simp only [pureA, hx, hi, TV.av, tk_arr ok', oke.sz]
        rw [if_pos (by rw [h2]; omega), h2]
        simp
      · cases h
    · cases h
  case index t x i =>
    obtain ⟨j, hj, h⟩ := tyOf2_some h
    have ok := hT.at_ hj
    split at h
    · rename_i hk
      have ok' := ok.k; rw [hk] at ok'
      split at h
      · rename_i s k n hx hi
        obtain ⟨hb, h⟩ := bif_some h
        have hn : 0 ≤ n := by simpa using hb
        split at h
        · rename_i b hb2; exact ⟨_, h, by simp [pureA, hx, hi, TV.av, tk_str ok', hn, hb2]⟩
        · cases h
      · cases h
    · rename_i len e hk
      have ok' := ok.k; rw [hk] at ok'
      obtain ⟨je, hje, h⟩ := tyOf2_some h
      have oke := hT.at_ hje
      split at h
      · rename_i cs k n hx hi
        obtain ⟨hb, h⟩ := bif_some h
        simp only [Bool.and_eq_true] at hb
        have hle := Nat.le_of_ble_eq_true hb.1
        have hpos : 0 < je.size := Nat.le_of_ble_eq_true hb.2
        obtain ⟨m, v, h1, h2, h3⟩ := tsel_some h
        refine ⟨v, h3, ?_⟩
        have hlt : m < len := by
          have := (List.getElem?_eq_some_iff.1 h1).1
          cases hag : je.agg <;> simp [hag, chunks_len] at this <;> exact this
        have hms : (m + 1) * je.size ≤ cs.length := Nat.le_trans (Nat.mul_le_mul_right _ hlt) hle
        have hn : n.toNat = m := by rw [h2]; simp
        have h0 : 0 ≤ n := by rw [h2]; omega
        have hl : n < (len : Int) := by rw [h2]; omega
        simp only [pureA, hx, hi, TV.av, tk_arr ok', oke.sz, oke.ag, h0, hl, and_self, if_true, hn, avs_eq, List.length_map]
        cases hag : je.agg with
        | true =>
          rw [hag] at h1
          have h1' : ((chunks je.size len cs).map TV.agg)[m]? = some v := h1
          rw [List.getElem?_map, chunks_at _ _ _ _ hlt, Option.map_some, Option.some.injEq] at h1'
          subst h1'
          simp only [if_pos hms, TV.av, avs_eq, List.map_take, List.map_drop]
        | false =>
          rw [hag] at h1
          have h1' : ((chunks je.size len cs).map fun l => l.headD .raw)[m]? = some v := h1
          rw [List.getElem?_map, chunks_at _ _ _ _ hlt, Option.map_some, Option.some.injEq] at h1'
          subst h1'
          rw [Nat.succ_mul] at hms
          have hlt2 : m * je.size < cs.length := by omega
          simp only [List.getElem?_map, List.getElem?_eq_getElem hlt2, Option.map_some, Option.some.injEq]
          rw [List.drop_eq_getElem_cons hlt2]
          obtain ⟨z, hz⟩ : ∃ z, je.size = z + 1 := ⟨je.size - 1, by omega⟩
          congr 1
          rw [List.headD_eq_head?_getD, List.head?_take, if_neg (by omega)]
          rfl
      · cases h
    · cases h
  case slice t x lo hi mx =>
    cases mx with
    | some m => cases h
    | none =>
      simp only at h
      obtain ⟨j, hj, h⟩ := tyOf2_some h
      have ok := hT.at_ hj
      split at h
      · rename_i hk
        have ok' := ok.k; rw [hk] at ok'
        split at h
        · rename_i s hx; exact tsliceS_some h rfl rfl (tk_str ok') (by rw [hx]; rfl)
        · cases h
      · rename_i e hk
        have ok' := ok.k; rw [hk] at ok'
        obtain ⟨je, hje, h⟩ := tyOf2_some h
        have oke := hT.at_ hje
        split at h
        · rename_i c l hx
          obtain ⟨hb, h⟩ := bif_some h
          exact tsliceL_some h rfl rfl (tk_slice ok') oke.sz (Nat.eq_of_beq_eq_true hb) (by rw [hx]; rfl)
        · cases h
      · cases h
  case binOp op t x y t' =>
    obtain ⟨j, hj, h⟩ := tyOf2_some h
    have ok := hT.at_ hj
    split at h
    · rename_i hk
      have ok' := ok.k; rw [hk] at ok'
      split at h
      · rename_i a b hx hy _; exact ⟨_, h, by simp [pureA, tk_bool ok', hx, hy, TV.av]⟩
      · rename_i a b hx hy _; exact ⟨_, h, by simp [pureA, tk_bool ok', hx, hy, TV.av]⟩
      · cases h
    · rename_i hk
      have ok' := ok.k; rw [hk] at ok'
      obtain ⟨ms, hu⟩ := tk_iface ok'
      obtain ⟨hb, h⟩ := bif_some h
      have := nilIface_eq hb
      subst this
      obtain ⟨v, h1, h2⟩ := tiface_some h
      exact ⟨v, h1, by simp only [pureA, hu, h2]⟩
    · rename_i hk
      have ok' := ok.k; rw [hk] at ok'
      obtain ⟨e, hu⟩ := tk_ptr ok'
      obtain ⟨v, h1, h2⟩ := tptr_some h
      exact ⟨v, h1, by simp only [pureA, hu, h2]⟩
    · rename_i k hk
      have ok' := ok.k; rw [hk] at ok'
      split at h
      · rename_i k1 a k2 b hx hy _
        cases hd : decide (b < 0) with
        | true => simp [hd] at h
        | false => simp only [hd, cond_false] at h; simp at hd; exact ⟨_, h, by simp [pureA, tk_int ok', hx, hy, TV.av, binA, Int.not_lt.2 hd]⟩
      · rename_i k1 a k2 b hx hy _
        cases hd : decide (b < 0) with
        | true => simp [hd] at h
        | false => simp only [hd, cond_false] at h; simp at hd; exact ⟨_, h, by simp [pureA, tk_int ok', hx, hy, TV.av, binA, Int.not_lt.2 hd]⟩
      · rename_i k1 a k2 b _ _ hx hy _
        obtain ⟨hb, h'⟩ := bif_some h
        have := ikeq_eq hb
        subst this
        obtain ⟨v, h1, h2⟩ := tbin_some h'
        exact ⟨v, h1, by simp only [pureA, tk_int ok', hx, hy, TV.av, h2]⟩
      · cases h
    · rename_i hk
      have ok' := ok.k; rw [hk] at ok'
      split at h
      · rename_i a b hx hy
        obtain ⟨v, h1, h2⟩ := tbinS_some h
        exact ⟨v, h1, by simp only [pureA, tk_str ok', hx, hy, TV.av, h2]⟩
      · cases h
    · cases h
  case unOp op t x =>
    split at h
    · rename_i k n hx; exact ⟨_, h, by simp [pureA, unA, hx, TV.av]⟩
    · rename_i k n hx; exact ⟨_, h, by simp [pureA, unA, hx, TV.av]⟩
    · rename_i b hx; exact ⟨_, h, by simp [pureA, unA, hx, TV.av]⟩
    · cases h
  case convert src dst x =>
    obtain ⟨js, hjs, h⟩ := tyOf2_some h
    obtain ⟨jd, hjd, h⟩ := tyOf2_some h
    have oks := (hT.at_ hjs).k
    have okd := (hT.at_ hjd).k
    split at h
    · rename_i k1 k2 k3 n h1 h2 hx
      rw [h1] at oks; rw [h2] at okd
      exact ⟨_, h, by simp [pureA, tk_int oks, tk_int okd, hx, TV.av]⟩
    · rename_i s h1 h2 hx
      rw [h1] at oks; rw [h2] at okd
      exact ⟨_, h, by simp [pureA, tk_str oks, tk_str okd, hx, TV.av]⟩
    · rename_i e l h1 h2 hx
      rw [h1] at oks; rw [h2] at okd
      obtain ⟨je, hje, h⟩ := tyOf2_some h
      have oke := (hT.at_ hje).k
      split at h
      · rename_i h3
        rw [h3] at oke
        refine ⟨_, h, ?_⟩
        simp only [pureA, tk_slice oks, tk_str okd, hx, TV.av, tk_int oke]
        erw [bytes_av l]
        rfl
      · cases h
    · rename_i e _ _ h1 h2 hx
      rw [h1] at oks; rw [h2] at okd
      obtain ⟨je, hje, h⟩ := tyOf2_some h
      have oke := (hT.at_ hje).k
      split at h
      · rename_i h3
        rw [h3] at oke
        exact ⟨_, h, by simp [pureA, tk_slice oks, tk_str okd, hx, TV.av, tk_int oke]⟩
      · cases h
    · cases h
  case makeInterface t x =>
    obtain ⟨j, hj, h⟩ := tyOf2_some h
    have ok := (hT.at_ hj).k
    split at h
    · cases h
    · rename_i hne
      refine ⟨_, h, ?_⟩
      simp only [pureA]
      split
      · rename_i ms hu
        unfold tkOf at ok
        rw [hu] at ok
        simp at ok
        exact absurd ok.symm hne
      · rename_i hu
        unfold tkOf at ok
        rw [hu] at ok
        simp at ok
      · rfl
  case makeFunc fn fst cap =>
    cases fn with
    | func f =>
      simp only at h
      exact ⟨_, h, by simp [pureA, TV.av, avs_eq, Function.comp_def]⟩
    | _ => cases h
  case extract x i =>
    split at h
    · rename_i vs hx
      split at h
      · rename_i v hv; exact ⟨_, h, by simp [pureA, hx, TV.av, avs_eq, hv]⟩
      · cases h
    · cases h
  case nilCheck x =>
    split at h
    · rename_i k off hx; exact ⟨_, h, by simp [pureA, hx, TV.av]⟩
    · rename_i cs hx; exact ⟨_, h, by simp [pureA, hx, TV.av]⟩
    · cases h
  case typeAssert x xt t okb =>
    obtain ⟨j, hj, h⟩ := tyOf2_some h
    have ok := (hT.at_ hj).k
    split at h
    · cases h
    · rename_i t' v hx hne
      obtain ⟨hb, h'⟩ := bif_some h
      have := Nat.eq_of_beq_eq_true hb
      subst this
      refine ⟨_, h', ?_⟩
      have hu : ∃ d, P.underlying t' = some d ∧ ∀ ms, d ≠ .interface ms := by
        cases hd : P.underlying t' with
        | none => unfold tkOf at ok; rw [hd] at ok; cases ok
        | some d =>
          refine ⟨d, rfl, fun ms e => ?_⟩
          subst e
          unfold tkOf at ok; rw [hd] at ok
          simp at ok
          exact hne ok.symm
      obtain ⟨d, hd, hni⟩ := hu
      simp only [pureA, hx, TV.av, hd]
      cases d <;> first | exact absurd rfl (hni _) | (simp only [if_true]; cases okb <;> rfl)
    · cases h
  case call c =>
    split at h
    · rename_i x t hc ha ht
      obtain ⟨j, hj, h⟩ := tyOf2_some h
      have ok := (hT.at_ hj).k
      split at h
      · rename_i s hk hx; rw [hk] at ok; exact ⟨_, h, by simp [pureA, hc, ha, ht, lenA, tk_str ok, hx, TV.av]⟩
      · rename_i e c' l hk hx; rw [hk] at ok; exact ⟨_, h, by simp [pureA, hc, ha, ht, lenA, tk_slice ok, hx, TV.av]⟩
      · rename_i e _ _ hk hx; rw [hk] at ok; exact ⟨_, h, by simp [pureA, hc, ha, ht, lenA, tk_slice ok, hx, TV.av]⟩
      · rename_i n e hk; rw [hk] at ok; exact ⟨_, h, by simp [pureA, hc, ha, ht, lenA, tk_arr ok, TV.av]⟩
      · cases h
    · rename_i x y hc ha
      split at h
      · rename_i k a k' b hx hy
        refine ⟨_, h, ?_⟩
        simp only [pureA, hc, ha, minA, hx, hy, TV.av]
        by_cases hb : b < a <;> simp [hb]
      · cases h
    · rename_i x y hc ha
      split at h
      · rename_i k a k' b hx hy
        refine ⟨_, h, ?_⟩
        simp only [pureA, hc, ha, maxA, hx, hy, TV.av]
        by_cases hb : b > a <;> simp [hb]
      · cases h
    · cases h
  all_goals cases h

end Go.AW
end

section
set_option linter.unusedSimpArgs false
namespace Go.AW
variable {P : Program} {T : TT} {C : TSpec}

def TX.av : TX → AExit
  | .normal => .normal
  | .exit i => .exit i
  | .ret => .ret
  | .panic v => .panic v.av

def KA (K : TSt → Res) (r : TEnd × THeap) : ASt → Prop := fun s => ∃ ts : TSt, s = ts.toA ∧ K ts = some r
def QK (K : TX → TSt → Res) (r : TEnd × THeap) : AExit → ASt → Prop := fun e s => ∃ (te : TX) (ts : TSt), te.av = e ∧ s = ts.toA ∧ K te ts = some r

/-- What is told of callees is so. -/
def CSound (P : Program) (C : TSpec) : Prop := ∀ g args h (K : TEnd → THeap → Res) r, C g args h K = some r → ∃ e h', K e h' = some r ∧ hasBody P g = true ∧ ACalls P g (TV.avs args) (hA h) fun ae ah => ae = e.av ∧ ah = hA h'

theorem tcav_av (v : Value) : (tcav v).av = cav v := by
  cases v with
  | pointer p => cases p <;> rfl
  | slice b l c =>
    cases b with
    | some b => rfl
    | none =>
      cases l with
      | succ l => rfl
      | zero => cases c <;> rfl
  | func fn a b =>
    cases fn with
    | func f =>
      show (bif (Nat.beq a.size 0 && Nat.beq b.size 0) then TV.func f [] [] else .raw).av = if a.size = 0 ∧ b.size = 0 then .func f [] [] else .raw
      cases h1 : Nat.beq a.size 0 with
      | true =>
        cases h2 : Nat.beq b.size 0 with
        | true => simp [Nat.eq_of_beq_eq_true h1, Nat.eq_of_beq_eq_true h2, TV.av, TV.avs]
        | false =>
          have : ¬ b.size = 0 := fun e => by rw [e] at h2; cases h2
          simp [this, TV.av]
      | false =>
        have : ¬ a.size = 0 := fun e => by rw [e] at h1; cases h1
        simp [this, TV.av]
    | _ => rfl
  | _ => rfl

theorem ev_av (s : TSt) (x : Operand) : (s.ev x).av = s.toA.ev x := by
  cases x with
  | tmp t => rfl
  | const v => exact tcav_av v
  | global g => rfl
  | func f => rfl
theorem ev_fun (s : TSt) : (fun x => (s.ev x).av) = s.toA.ev := funext (ev_av s)
theorem evc_av (s : TSt) (x : Operand) : s.evc x = s.toA.evc x := by cases x <;> rfl

theorem toA_put (s : TSt) (d : Option Nat) (v : TV) (c : Option (Cls × TypeId)) : (s.put d v c).toA = s.toA.put d v.av c := by
  cases d with
  | none => rfl
  | some d =>
    simp only [TSt.put, TSt.toA, ASt.put, ASt.mk.injEq, and_true, true_and]
    constructor
    · funext t
      simp only [tlook]
      by_cases h : t = d
      · subst h; simp [Nat.beq_refl]
      · have : Nat.beq d t = false := by
          cases hb : Nat.beq d t with
          | false => rfl
          | true => exact absurd (Nat.eq_of_beq_eq_true hb).symm h
        simp [this, h]
    · funext t
      simp only [clook]
      by_cases h : t = d
      · subst h; simp [Nat.beq_refl]
      · have : Nat.beq d t = false := by
          cases hb : Nat.beq d t with
          | false => rfl
          | true => exact absurd (Nat.eq_of_beq_eq_true hb).symm h
        simp [this, h]

theorem clook_cmap {f : Option (Cls × TypeId) → Option (Cls × TypeId)} (hf : f none = none) : ∀ (l : List (Nat × Option (Cls × TypeId))) (t : Nat), clook (cmap f l) t = f (clook l t)
  | [], t => hf.symm
  | (k, v) :: r, t => by
    simp only [cmap, clook]
    cases Nat.beq k t <;> simp [clook_cmap hf r t]

theorem hA_at (h : THeap) (k : Nat) : (hA h).blocks[k]? = (h[k]?).map (·.map cA) := by simp [hA]
theorem hA_len (h : THeap) : (hA h).blocks.length = h.length := by simp [hA]
theorem hA_new (h : THeap) (cs : List TV) : hA (h ++ [cs.map fun v => ⟨v, none⟩]) = (hA h).new ((cs.map TV.av).map fun v => { v }) := by
  simp [hA, AHeap.new, cA, Function.comp_def]

theorem row_some {h : THeap} {k off z : Nat} {b : List TCell} (hb : h[k]? = some b) (hz : off + z ≤ b.length) : (hA h).row k off z = some (((b.drop off).take z).map cA) := by
  simp [AHeap.row, hA_at, hb, hz, List.map_take, List.map_drop]
theorem get_some {h : THeap} {k off : Nat} {b : List TCell} {c : TCell} (hb : h[k]? = some b) (hc : b[off]? = some c) : (hA h).get k off = some (cA c) := by
  simp [AHeap.get, hA_at, hb, hc]

theorem map_modify {α β : Type} {f : α → α} {g : β → β} {m : α → β} (hm : ∀ x, m (f x) = g (m x)) : ∀ (l : List α) (k : Nat), (l.modify k f).map m = (l.map m).modify k g
  | [], k => by simp
  | x :: l, 0 => by simp [hm]
  | x :: l, k + 1 => by simp [map_modify hm l k]

theorem hA_set (h : THeap) (k off : Nat) (cs : List TCell) : hA (tset h k off cs) = (hA h).set k off (cs.map cA) := by
  simp only [hA, tset, AHeap.set, AHeap.mk.injEq]
  exact map_modify (fun b => by simp [tsetRow, List.map_append, List.map_take, List.map_drop]) h k

theorem hA_consume (h : THeap) (c : Cls) : hA (consume h c) = (hA h).consume c := by
  cases c with
  | tmp n => rfl
  | cell k j =>
    simp only [hA, consume, AHeap.consume, AHeap.mk.injEq]
    exact map_modify (fun b => map_modify (f := fun c : TCell => { c with o := none }) (g := fun c : Cell => { c with o := none }) (fun c => rfl) b j) h k

theorem tcellsOf_av (v : TV) (c : Option (Cls × TypeId)) : (tcellsOf v c).map cA = cellsOf v.av c := by
  cases v <;> simp [tcellsOf, cellsOf, TV.av, cA, avs_eq, Function.comp_def] <;> (cases c with | none => rfl | some x => obtain ⟨a, e⟩ := x; cases a <;> rfl)

theorem all_one {l : List TV} (h : l.all TV.one = true) : (l.map TV.av).all AV.one = true := by
  rw [List.all_map]
  rw [List.all_eq_true] at h ⊢
  intro x hx
  simp only [Function.comp, av_one]
  exact h x hx

theorem full1_av (v : TV) : v.full.av = v.av.full := by cases v <;> simp [TV.full, TV.av, AV.full]

theorem news_av {c : TC} {z : Nat} : ∀ {n : Nat} {l : List TV} {r : List (den c)}, tnews c z n l = some r → r.map (cellsOfC c) = (List.range n).map fun i => (((l.map TV.av).drop (i * z)).take z).map AV.full
  | 0, l, r, h => by simp [tnews] at h; subst h; rfl
  | n + 1, l, r, h => by
    simp only [tnews] at h
    split at h
    · rename_i x r0 h1 h2
      cases h
      have ih := news_av h2
      have hd := dec_av h1
      rw [avs_eq] at hd
      rw [List.map_cons, ih, List.range_succ_eq_map, List.map_cons, ← hd]
      congr 1
      · simp [List.map_take, Function.comp_def, full1_av]
      · rw [List.map_map]
        refine List.map_congr_left fun i _ => ?_
        simp only [Function.comp, List.map_drop, List.drop_drop]
        congr 3
        simp [Nat.succ_mul]; omega
    · cases h

end Go.AW
end

section
set_option linter.unusedSimpArgs false
namespace Go.AW
variable {P : Program} {T : TT} {C : TSpec}

theorem ren_id {f : Nat → Nat} {x : AV} (h : Bel 0 x) : ren f x = x := by
  have hl : ∀ l : List AV, (∀ c ∈ l, ren f c = c) → l.map (ren f) = l := fun l hl => by
    conv => rhs; rw [← List.map_id l]
    exact List.map_congr_left hl
  generalize hn : (0 : Nat) = n at h
  induction h with
  | bool b => rfl
  | int k n => rfl
  | str s => rfl
  | nilptr => rfl
  | ptr hk => omega
  | vptr _ ih => rw [ren, renL_eq, hl _ ih]
  | nils => rfl
  | @slice es _ ih =>
    rw [ren, renLL_eq]
    congr 1
    conv => rhs; rw [← List.map_id es]
    exact List.map_congr_left fun e he => hl e fun c hc => ih c (List.mem_flatten.2 ⟨e, he, hc⟩)
  | func _ _ ih1 ih2 => rw [ren, renL_eq, renL_eq, hl _ ih1, hl _ ih2]
  | nilFunc => rfl
  | iface _ ih => rw [ren, ih]
  | nilIface => rfl
  | agg _ ih => rw [ren, renL_eq, hl _ ih]
  | tup _ ih => rw [ren, renL_eq, hl _ ih]
  | raw => rfl

theorem bel_data {c : TC} (l : List (den c)) : Bel 0 (.slice (l.map (cellsOfC c))) := by
  refine .slice fun y hy => ?_
  obtain ⟨e, he, hye⟩ := List.mem_flatten.1 hy
  obtain ⟨a, _, rfl⟩ := List.mem_map.1 he
  exact data_bel c a y hye

mutual
theorem tren_av (f : Nat → Nat) : ∀ v : TV, (tren f v).av = ren f v.av
  | .bool _ | .int _ _ | .str _ | .nilptr | .ptr _ _ | .nils _ _ | .nilFunc | .nilIface | .raw => rfl
  | .slice c l => by simp only [tren, TV.av]; rw [ren_id (bel_data l)]
  | .vptr cs => by simp only [tren, TV.av, ren, trenL_av f cs]
  | .func g a b => by simp only [tren, TV.av, ren, trenL_av f a, trenL_av f b]
  | .iface t v => by simp only [tren, TV.av, ren, tren_av f v]
  | .agg cs => by simp only [tren, TV.av, ren, trenL_av f cs]
  | .tup cs => by simp only [tren, TV.av, ren, trenL_av f cs]
theorem trenL_av (f : Nat → Nat) : ∀ l : List TV, TV.avs (trenL f l) = renL f (TV.avs l)
  | [] => rfl
  | v :: r => by simp only [trenL, TV.avs, renL, tren_av f v, trenL_av f r]
end

theorem mem_tptrsL {k : Nat} : ∀ {l : List TV}, k ∈ tptrs.tptrsL l ↔ ∃ v ∈ l, k ∈ tptrs v
  | [] => by simp [tptrs.tptrsL]
  | v :: r => by simp [tptrs.tptrsL, mem_tptrsL (l := r)]

mutual
/-- Other names for boxes, all below n. -/
theorem bel_tren {f : Nat → Nat} {n : Nat} : ∀ v : TV, (∀ k ∈ tptrs v, f k < n) → Bel n (tren f v).av
  | .bool _, _ => .bool _
  | .int _ _, _ => .int _ _
  | .str _, _ => .str _
  | .nilptr, _ => .nilptr
  | .ptr k off, h => .ptr (h k (by simp [tptrs]))
  | .nils _ _, _ => .nils
  | .nilFunc, _ => .nilFunc
  | .nilIface, _ => .nilIface
  | .raw, _ => .raw
  | .slice c l, _ => (bel_data l).mono (Nat.zero_le _)
  | .vptr cs, h => by
    simp only [tren, TV.av]
    exact .vptr (bels_tren cs fun k hk => h k (by simpa [tptrs] using hk))
  | .func g a b, h => by
    simp only [tren, TV.av]
    exact .func (bels_tren a fun k hk => h k (by simp [tptrs, hk])) (bels_tren b fun k hk => h k (by simp [tptrs, hk]))
  | .iface t v, h => by
    simp only [tren, TV.av]
    exact .iface (bel_tren v fun k hk => h k (by simpa [tptrs] using hk))
  | .agg cs, h => by
    simp only [tren, TV.av]
    exact .agg (bels_tren cs fun k hk => h k (by simpa [tptrs] using hk))
  | .tup cs, h => by
    simp only [tren, TV.av]
    exact .tup (bels_tren cs fun k hk => h k (by simpa [tptrs] using hk))
theorem bels_tren {f : Nat → Nat} {n : Nat} : ∀ l : List TV, (∀ k ∈ tptrs.tptrsL l, f k < n) → ∀ c ∈ TV.avs (trenL f l), Bel n c
  | [], _, c, hc => by simp [trenL, TV.avs] at hc
  | v :: r, h, c, hc => by
    simp only [trenL, TV.avs, List.mem_cons] at hc
    rcases hc with rfl | hc
    · exact bel_tren v fun k hk => h k (by simp [tptrs.tptrsL, hk])
    · exact bels_tren r (fun k hk => h k (by simp [tptrs.tptrsL, hk])) c hc
end

mutual
theorem tren_tren {f g : Nat → Nat} : ∀ v : TV, (∀ k ∈ tptrs v, f (g k) = k) → tren f (tren g v) = v
  | .bool _, _ | .int _ _, _ | .str _, _ | .nilptr, _ | .nils _ _, _ | .nilFunc, _ | .nilIface, _ | .raw, _ | .slice _ _, _ => rfl
  | .ptr k off, h => by simp only [tren]; rw [h k (by simp [tptrs])]
  | .vptr cs, h => by simp only [tren]; rw [trenL_tren cs fun k hk => h k (by simpa [tptrs] using hk)]
  | .func x a b, h => by simp only [tren]; rw [trenL_tren a fun k hk => h k (by simp [tptrs, hk]), trenL_tren b fun k hk => h k (by simp [tptrs, hk])]
  | .iface t v, h => by simp only [tren]; rw [tren_tren v fun k hk => h k (by simpa [tptrs] using hk)]
  | .agg cs, h => by simp only [tren]; rw [trenL_tren cs fun k hk => h k (by simpa [tptrs] using hk)]
  | .tup cs, h => by simp only [tren]; rw [trenL_tren cs fun k hk => h k (by simpa [tptrs] using hk)]
theorem trenL_tren {f g : Nat → Nat} : ∀ l : List TV, (∀ k ∈ tptrs.tptrsL l, f (g k) = k) → trenL f (trenL g l) = l
  | [], _ => rfl
  | v :: r, h => by
    simp only [trenL]
    rw [tren_tren v fun k hk => h k (by simp [tptrs.tptrsL, hk]), trenL_tren r fun k hk => h k (by simp [tptrs.tptrsL, hk])]
end

mutual
theorem tren_same : ∀ v : TV, tren (fun k => k) v = v
  | .bool _ | .int _ _ | .str _ | .nilptr | .nils _ _ | .nilFunc | .nilIface | .raw | .slice _ _ | .ptr _ _ => rfl
  | .vptr cs => by simp only [tren]; rw [trenL_same cs]
  | .func x a b => by simp only [tren]; rw [trenL_same a, trenL_same b]
  | .iface t v => by simp only [tren]; rw [tren_same v]
  | .agg cs => by simp only [tren]; rw [trenL_same cs]
  | .tup cs => by simp only [tren]; rw [trenL_same cs]
theorem trenL_same : ∀ l : List TV, trenL (fun k => k) l = l
  | [] => rfl
  | v :: r => by simp only [trenL]; rw [tren_same v, trenL_same r]
end

theorem allBel_mem {m : Nat} : ∀ {l : List Nat}, allBel m l = true → ∀ k ∈ l, k < m
  | [], _, k, hk => by cases hk
  | x :: r, h, k, hk => by
    simp only [allBel, Bool.and_eq_true] at h
    rcases List.mem_cons.1 hk with rfl | hk
    · exact Nat.le_of_ble_eq_true h.1
    · exact allBel_mem h.2 k hk

theorem bel_av {n : Nat} {v : TV} (h : ∀ k ∈ tptrs v, k < n) : Bel n v.av := by
  have := bel_tren (f := fun k => k) v h
  rwa [tren_same] at this

theorem nmem_iff {k : Nat} : ∀ {l : List Nat}, nmem k l = true ↔ k ∈ l
  | [] => by simp [nmem]
  | x :: r => by
    simp only [nmem, Bool.or_eq_true, nmem_iff (l := r), List.mem_cons]
    constructor
    · rintro (h | h)
      · exact .inl (Nat.eq_of_beq_eq_true h).symm
      · exact .inr h
    · rintro (h | h)
      · subst h; exact .inl (Nat.beq_refl _)
      · exact .inr h

theorem nmem_not {k : Nat} {l : List Nat} (h : nmem k l = false) : k ∉ l := fun hm => by rw [nmem_iff.2 hm] at h; cases h

theorem allMem_mem {sel : List Nat} : ∀ {l : List Nat}, allMem sel l = true → ∀ k ∈ l, k ∈ sel
  | [], _, k, hk => by cases hk
  | x :: r, h, k, hk => by
    simp only [allMem, Bool.and_eq_true] at h
    rcases List.mem_cons.1 hk with rfl | hk
    · exact nmem_iff.1 h.1
    · exact allMem_mem h.2 k hk

theorem nnodup_spec : ∀ {l : List Nat}, nnodup l = true → l.Nodup
  | [], _ => List.nodup_nil
  | x :: r, h => by
    simp only [nnodup, Bool.and_eq_true, Bool.not_eq_true'] at h
    exact List.nodup_cons.2 ⟨nmem_not h.1, nnodup_spec h.2⟩

theorem nidx_spec {k : Nat} : ∀ {l : List Nat}, k ∈ l → l[nidx k l]? = some k
  | x :: r, h => by
    simp only [nidx]
    cases hb : Nat.beq x k with
    | true => simp [Nat.eq_of_beq_eq_true hb]
    | false =>
      rcases List.mem_cons.1 h with rfl | h
      · rw [Nat.beq_refl] at hb; cases hb
      · simp [nidx_spec h]

theorem idxOf_nidx {k : Nat} {l : List Nat} (h : k ∈ l) (hn : l.Nodup) : l.idxOf? k = some (nidx k l) := by
  cases hi : l.idxOf? k with
  | none => exact absurd h (idxOf_none hi)
  | some i => rw [nodup_at hn (idxOf_some hi) (nidx_spec h)]

theorem nmax_lt : ∀ {l : List Nat} {k : Nat}, k ∈ l → k < nmax l
  | x :: r, k, h => by
    simp only [nmax]
    rcases List.mem_cons.1 h with rfl | h
    · exact Nat.lt_of_lt_of_le (Nat.lt_succ_self _) (Nat.le_max_left _ _)
    · exact Nat.lt_of_lt_of_le (nmax_lt h) (Nat.le_max_right _ _)

theorem nmax_le {n : Nat} : ∀ {l : List Nat}, (∀ k ∈ l, k < n) → nmax l ≤ n
  | [], _ => Nat.zero_le _
  | x :: r, h => Nat.max_le.2 ⟨h x (by simp), nmax_le fun k hk => h k (by simp [hk])⟩

theorem trenC_eq (f : Nat → Nat) : ∀ l : List TCell, trenC f l = l.map fun c => ⟨tren f c.v, c.o⟩
  | [] => rfl
  | c :: r => by simp only [trenC, List.map_cons, trenC_eq f r]

theorem trenC_cA (f : Nat → Nat) (l : List TCell) : (trenC f l).map cA = (l.map cA).map (renCell f) := by
  rw [trenC_eq, List.map_map, List.map_map]
  refine List.map_congr_left fun c _ => ?_
  simp [cA, renCell, tren_av]

theorem cptrs_mem {k : Nat} : ∀ {l : List TCell} {c : TCell}, c ∈ l → k ∈ tptrs c.v → k ∈ cptrs l
  | x :: r, c, hc, hk => by
    simp only [cptrs, List.mem_append]
    rcases List.mem_cons.1 hc with rfl | hc
    · exact .inl hk
    · exact .inr (cptrs_mem hc hk)

theorem hBel_mem {m : Nat} : ∀ {h : THeap}, hBel m h = true → ∀ b ∈ h, ∀ c ∈ b, ∀ k ∈ tptrs c.v, k < m
  | [], _, b, hb => by cases hb
  | x :: r, h, b, hb => by
    simp only [hBel, Bool.and_eq_true] at h
    rcases List.mem_cons.1 hb with rfl | hb
    · intro c hc k hk; exact allBel_mem h.1 k (cptrs_mem hc hk)
    · exact hBel_mem h.2 b hb

theorem closed_take {h : THeap} {m : Nat} (hm : m ≤ h.length) (hb : hBel m (h.take m) = true) : Closed ⟨(hA h).blocks.take m⟩ := by
  intro k blk hk c hc
  have hl : ((hA h).blocks.take m).length = m := by simp [hA_len]; omega
  simp only [hl]
  simp only [hA, ← List.map_take, List.getElem?_map] at hk
  obtain ⟨b, hb', rfl⟩ := Option.map_eq_some_iff.1 hk
  obtain ⟨c0, hc0, rfl⟩ := List.mem_map.1 hc
  exact bel_av (hBel_mem hb b (List.mem_of_getElem? hb') c0 hc0)

theorem fulls_LE (v : TV) : LE v.av v.fulls.av := by
  have hf : ∀ v : TV, LE v.av v.full.av := by
    intro v; cases v <;> first | exact .refl _ | exact .nil
  cases v <;> simp only [TV.fulls] <;> first
    | exact .refl _
    | exact .nil
    | skip
  · rename_i cs
    simp only [TV.av, avs_eq, List.map_map]
    refine .agg (by simp) fun j a b ha hb => ?_
    simp only [List.getElem?_map] at ha hb
    cases hj : cs[j]? with
    | none => simp [hj] at ha
    | some v => simp [hj] at ha hb; subst ha hb; exact hf v
  · rename_i cs
    simp only [TV.av, avs_eq, List.map_map]
    refine .tup (by simp) fun j a b ha hb => ?_
    simp only [List.getElem?_map] at ha hb
    cases hj : cs[j]? with
    | none => simp [hj] at ha
    | some v => simp [hj] at ha hb; subst ha hb; exact hf v

theorem full_ptrs (v : TV) : tptrs v.full = tptrs v := by cases v <;> rfl
theorem tptrsL_full : ∀ l : List TV, tptrs.tptrsL (l.map TV.full) = tptrs.tptrsL l
  | [] => rfl
  | v :: r => by simp only [List.map_cons, tptrs.tptrsL, full_ptrs, tptrsL_full r]
theorem fulls_ptrs (v : TV) : tptrs v.fulls = tptrs v := by
  cases v <;> simp [TV.fulls, tptrs, tptrsL_full]
theorem tptrsL_fulls : ∀ l : List TV, tptrs.tptrsL (l.map TV.fulls) = tptrs.tptrsL l
  | [] => rfl
  | v :: r => by simp only [List.map_cons, tptrs.tptrsL, fulls_ptrs, tptrsL_fulls r]

/-- The chosen boxes, under the callee's names. -/
theorem sel_of {h : THeap} {sel ps : List Nat} (hs : selOk h sel ps = true) {H : AHeap} (hH : ∀ k, k ∈ sel → H.blocks[k]? = (hA h).blocks[k]?) (hlt : ∀ k ∈ sel, k < H.blocks.length) :
    Sel sel H (hA (sel.map fun k => trenC (fun k => nidx k sel) (h.getD k []))) (fun i => sel.getD i 0) := by
  simp only [selOk, Bool.and_eq_true] at hs
  obtain ⟨⟨⟨h1, h2⟩, h3⟩, h4⟩ := hs
  have hnd := nnodup_spec h1
  have hcl : ∀ k ∈ sel, ∀ c ∈ h.getD k [], ∀ j ∈ tptrs c.v, j ∈ sel := by
    intro k hk c hc j hj
    exact allMem_mem (List.all_eq_true.1 h4 k hk) j (cptrs_mem hc hj)
  refine ⟨hnd, hlt, by simp [hA], fun i k hi => ?_, ?_⟩
  · have hk := List.mem_of_getElem? hi
    refine ⟨by simp [List.getD_eq_getElem?_getD, hi], ?_⟩
    rw [hH k hk, hA_at, hA_at, List.getElem?_map, hi]
    have hkl := allBel_mem h2 k hk
    simp only [List.getElem?_eq_getElem hkl, Option.map_some, Option.some.injEq, trenC_cA, List.getD_eq_getElem?_getD, Option.getD_some, List.map_map]
    refine List.map_congr_left fun c hc => ?_
    simp only [Function.comp, cA, renCell]
    congr 1
    rw [← tren_av, ← tren_av, tren_tren]
    intro j hj
    have hjm := hcl k hk c (by simpa [List.getD_eq_getElem?_getD, List.getElem?_eq_getElem hkl] using hc) j hj
    simp [nidx_spec hjm]
  · intro i blk hb c hc
    simp only [hA, List.map_map, List.length_map]
    simp only [hA, List.getElem?_map] at hb
    obtain ⟨b, hb', rfl⟩ := Option.map_eq_some_iff.1 hb
    obtain ⟨k, hk, rfl⟩ := Option.map_eq_some_iff.1 hb'
    rw [trenC_eq, List.map_map] at hc
    obtain ⟨c0, hc0, rfl⟩ := List.mem_map.1 hc
    refine bel_tren c0.v fun j hj => ?_
    have hjm := hcl k (List.mem_of_getElem? hk) c0 hc0 j hj
    exact (List.getElem?_eq_some_iff.1 (nidx_spec hjm)).1

end Go.AW
end

section
set_option linter.unusedSimpArgs false
namespace Go.AW
variable {P : Program} {T : TT} {C : TSpec}

theorem getD_map (k : Nat) (h : THeap) : (h.getD k []).map cA = ((hA h).blocks[k]?).getD [] := by
  rw [hA_at, List.getD_eq_getElem?_getD]
  cases h[k]? <;> rfl

theorem tback_hA {sel : List Nat} {n : Nat} {h hs : THeap} {H : AHeap} (hnd : sel.Nodup) (hn : H.blocks.length = n) (hH : ∀ k, k < n → H.blocks[k]? = (hA h).blocks[k]?) : hA (tback sel n h hs) = backH sel H (hA hs) := by
  show AHeap.mk ((tback sel n h hs).map (·.map cA)) = _
  simp only [backH, tback, AHeap.mk.injEq, List.map_append, List.map_map]
  congr 1
  · rw [hn]
    refine List.map_congr_left fun k hk => ?_
    simp only [Function.comp]
    have hk' := List.mem_range.1 hk
    cases hm : nmem k sel with
    | true =>
      have hmem := nmem_iff.1 hm
      rw [idxOf_nidx hmem hnd]
      simp only [_root_.cond_true, trenC_cA, getD_map]
    | false =>
      have hmem := nmem_not hm
      have hno : sel.idxOf? k = none := by
        cases hi : sel.idxOf? k with
        | none => rfl
        | some i => exact absurd (List.mem_of_getElem? (idxOf_some hi)) hmem
      rw [hno]
      simp only [_root_.cond_false, getD_map]
      rw [hH k hk']
  · rw [hn]
    simp only [hA, ← List.map_drop, List.map_map]
    refine List.map_congr_left fun b _ => ?_
    simp only [Function.comp, trenC_cA]

theorem getD_av_back {sel : List Nat} {n : Nat} (v : TV) : (tren (backN sel n) v).av = ren (backN sel n) v.av := tren_av _ _

theorem avs_append (a b : List TV) : TV.avs (a ++ b) = TV.avs a ++ TV.avs b := by simp [avs_eq]

theorem avs_fulls_LE {l : List TV} : (TV.avs l).length = (TV.avs (l.map TV.fulls)).length ∧ ∀ (j : Nat) (x y : AV), (TV.avs l)[j]? = some x → (TV.avs (l.map TV.fulls))[j]? = some y → LE x y := by
  refine ⟨by simp [avs_eq], fun j x y hx hy => ?_⟩
  simp only [avs_eq, List.getElem?_map] at hx hy
  cases hj : l[j]? with
  | none => simp [hj] at hx
  | some v => simp [hj] at hx hy; subst hx hy; exact fulls_LE v

theorem ev_map (s : TSt) (args : List Operand) : TV.avs (args.map s.ev) = args.map s.toA.ev := by
  rw [avs_eq, List.map_map]
  exact List.map_congr_left fun x _ => ev_av s x

/-- A call, by what is told of the callee. -/
theorem tcall_sound (hC : CSound P C) {M : Option Nat} {dst : Option Nat} {f : TV} {args : List TV} {s : TSt} {K : TSt → Res} {Kp : TV → TSt → Res} {r : TEnd × THeap} (h : tcall C M dst f args s K Kp = some r)
    {Q : AExit → ASt → Prop} (hQ : ∀ v ts, Kp v ts = some r → Q (.panic v.av) ts.toA) :
    (∃ m, (∀ M', M = some M' → m ≤ M') ∧ frameA P m dst f.av (TV.avs args) s.toA (KA K r) Q) ∨ (M = none ∧ callA0 P dst f.av (TV.avs args) s.toA (KA K r) Q) := by
  unfold tcall at h
  split at h
  · rename_i g fst cap
    simp only at h
    generalize hsel : treach s.h (s.h.length + (fst ++ args ++ cap).length + 64) (tptrs.tptrsL (fst ++ args ++ cap)) [] = sel at h
    obtain ⟨hb, h⟩ := bif_some h
    simp only [Bool.and_eq_true] at hb
    obtain ⟨⟨hok, hbel⟩, hM⟩ := hb
    obtain ⟨e, hs, hk, hbody, hac⟩ := hC _ _ _ _ _ h
    have hok' := hok
    simp only [selOk, Bool.and_eq_true] at hok'
    obtain ⟨⟨⟨o1, o2⟩, o3⟩, o4⟩ := hok'
    have hnd := nnodup_spec o1
    have hmn : nmax sel ≤ s.h.length := nmax_le fun k hk => allBel_mem o2 k hk
    have hpt : ∀ k ∈ tptrs.tptrsL (fst ++ args ++ cap), k ∈ sel := allMem_mem o3
    have hargs : ∀ {H : AHeap} (hH : ∀ k, k ∈ sel → H.blocks[k]? = (hA s.h).blocks[k]?) (hlt : ∀ k ∈ sel, k < H.blocks.length), ACalls P g (TV.avs (fst ++ args ++ cap)) H fun ae Hh => ∃ ae' h', (ae' = e.av ∧ h' = hA hs) ∧ sel.length ≤ h'.blocks.length ∧ Hh = backH sel H h' ∧ match ae' with
        | .ret v o => ae = .ret (ren (backN sel H.blocks.length) v) o
        | .panic v => ae = .panic (ren (backN sel H.blocks.length) v) := by
      intro H hH hlt
      obtain ⟨l1, l2⟩ := avs_fulls_LE (l := fst ++ args ++ cap)
      refine ACalls.le (ACalls.select (sel_of hok hH hlt) (args := TV.avs ((fst ++ args ++ cap).map TV.fulls)) ?_ ?_ hac) l1 l2
      · rw [← renL_eq, ← trenL_av, trenL_tren]
        intro k hk
        rw [tptrsL_fulls] at hk
        simp [List.getD_eq_getElem?_getD, nidx_spec (hpt k hk)]
      · refine bels_tren _ fun k hk => ?_
        rw [tptrsL_fulls] at hk
        exact (List.getElem?_eq_some_iff.1 (nidx_spec (hpt k hk))).1
    have hfst : TV.avs fst ++ TV.avs args ++ TV.avs cap = TV.avs (fst ++ args ++ cap) := by simp [avs_append]
    cases hlen : Nat.beq hs.length sel.length with
    | true =>
      left
      rw [hlen] at hk
      have hl := Nat.eq_of_beq_eq_true hlen
      refine ⟨nmax sel, fun M' hM' => by subst hM'; exact Nat.le_of_ble_eq_true hM, ?_⟩
      have htk : ((hA s.h).blocks.take (nmax sel)).length = nmax sel := by simp [hA_len]; omega
      have hHk : ∀ k, k < nmax sel → (⟨(hA s.h).blocks.take (nmax sel)⟩ : AHeap).blocks[k]? = (hA s.h).blocks[k]? := fun k hk => by simp [List.getElem?_take, hk]
      simp only [TV.av, frameA]
      refine ⟨hbody, by simp only [TSt.toA, hA_len]; exact hmn, ?_, closed_take hmn hbel, ?_⟩
      · intro x hx
        rw [hfst, avs_eq] at hx
        obtain ⟨v, hv, rfl⟩ := List.mem_map.1 hx
        exact bel_av fun k hk => nmax_lt (hpt k (mem_tptrsL.2 ⟨v, hv, hk⟩))
      · rw [hfst]
        refine (hargs (H := ⟨(hA s.h).blocks.take (nmax sel)⟩) (fun k hk => hHk k (nmax_lt hk)) (fun k hk => by rw [htk]; exact nmax_lt hk)).mono ?_
        rintro ae Hh ⟨ae', h', ⟨rfl, rfl⟩, _, rfl, hae⟩
        have hbk : (backH sel ⟨(hA s.h).blocks.take (nmax sel)⟩ (hA hs)).blocks = (hA (tback sel (nmax sel) s.h hs)).blocks := by
          rw [tback_hA (H := ⟨(hA s.h).blocks.take (nmax sel)⟩) hnd htk hHk]
        refine ⟨by rw [backH_len, htk, hA_len, hl]; omega, ?_⟩
        have hheap : (⟨(backH sel ⟨(hA s.h).blocks.take (nmax sel)⟩ (hA hs)).blocks ++ s.toA.h.blocks.drop (nmax sel)⟩ : AHeap) = hA (tback sel (nmax sel) s.h hs ++ s.h.drop (nmax sel)) := by
          rw [hbk]; simp [hA, TSt.toA, List.map_drop]
        cases e with
        | ret v o =>
          simp only [TEnd.av] at hae
          rw [htk] at hae
          subst hae
          simp only [_root_.cond_true] at hk
          refine ⟨_, ?_, hk⟩
          rw [toA_put]
          simp only [tren_av]
          congr 1
          rw [hheap]
          simp only [TSt.toA, ASt.mk.injEq, and_true, true_and]
          funext t
          rw [clook_cmap (by rfl)]
        | panic v =>
          simp only [TEnd.av] at hae
          rw [htk] at hae
          subst hae
          simp only [_root_.cond_true] at hk
          have := hQ _ _ hk
          rw [tren_av] at this
          have e2 : (TSt.toA ⟨[], [], tback sel (nmax sel) s.h hs ++ s.h.drop (nmax sel)⟩) = ({ s.toA with h := ⟨(backH sel ⟨(hA s.h).blocks.take (nmax sel)⟩ (hA hs)).blocks ++ s.toA.h.blocks.drop (nmax sel)⟩ } : ASt).bare := by
            rw [hheap]; rfl
          rw [e2] at this
          exact this
    | false =>
      right
      rw [hlen] at hk
      simp only [_root_.cond_false] at hk
      cases M with
      | some M' => cases hk
      | none =>
        refine ⟨rfl, ?_⟩
        obtain ⟨hle, hk⟩ := bif_some hk
        simp only [TV.av, callA0]
        refine ⟨hbody, ?_⟩
        rw [hfst]
        have hlenH : s.toA.h.blocks.length = s.h.length := by simp [TSt.toA, hA_len]
        refine (hargs (H := s.toA.h) (fun k _ => rfl) (fun k hk => by rw [hlenH]; exact allBel_mem o2 k hk)).mono ?_
        rintro ae Hh ⟨ae', h', ⟨rfl, rfl⟩, _, rfl, hae⟩
        rw [← tback_hA (n := s.h.length) (h := s.h) (hs := hs) (H := s.toA.h) hnd hlenH (fun k _ => rfl)]
        cases e with
        | ret v o =>
          simp only [TEnd.av] at hae
          rw [hlenH] at hae
          subst hae
          refine ⟨_, ?_, hk⟩
          rw [toA_put]
          simp only [tren_av]
          congr 1
          simp only [TSt.toA, ASt.kill, ASt.killCells, ASt.mk.injEq, and_true, true_and]
          funext t
          rw [clook_cmap (by rfl)]
        | panic v =>
          simp only [TEnd.av] at hae
          rw [hlenH] at hae
          subst hae
          have := hQ _ _ hk
          rw [tren_av] at this
          exact this
  · cases h

theorem retag_agg (v : TV) (b : List TCell) (off : Nat) : (retagBox v b off).av = v.av := by
  unfold retagBox
  cases v with
  | agg cs => simp only [TV.av, avs_eq, retags_av]
  | _ => simp only []; split <;> first | exact retag_av _ _ | rfl

/-- One operation. -/
theorem topX_sound (hT : TTok P T) (hC : CSound P C) {M : Option Nat} {o : Oper} {s : TSt} {K : TSt → Res} {Kp : TV → TSt → Res} {r : TEnd × THeap} (h : topX T C M o s K Kp = some r)
    {Q : AExit → ASt → Prop} (hQ : ∀ v ts, Kp v ts = some r → Q (.panic v.av) ts.toA) : aopX M P o s.toA (KA K r) Q := by
  have pure_ : ∀ {c : TV → Option (Cls × TypeId)} {c' : Option (Cls × TypeId)}, (∀ v, c v = c') → isCallV o.op = false → (tpure T o.op o.type s.ev fun v => K (s.put o.dst v (c v))) = some r → ∃ v : TV, K (s.put o.dst v c') = some r ∧ pureA P o.op s.toA.ev = some v.av := by
    intro c c' hc _ h
    obtain ⟨v, h1, h2⟩ := tpure_sound hT h
    rw [ev_fun] at h2
    exact ⟨v, by rw [hc] at h1; exact h1, h2⟩
  cases hop : o.op
  case call c =>
    obtain ⟨callee, args, argTypes⟩ := c
    cases callee with
    | value f =>
      simp only [topX, hop] at h
      have hr := tcall_sound hC h hQ
      simp only [ev_av, ev_map] at hr
      unfold aopX
      rw [hop]
      cases M with
      | some M' =>
        simp only
        rcases hr with ⟨m, h1, h2⟩ | ⟨h1, _⟩
        · exact ⟨m, h1 M' rfl, h2⟩
        · cases h1
      | none =>
        simp only [aop, hop, callA]
        rcases hr with ⟨m, h1, h2⟩ | ⟨_, h2⟩
        · exact .inr ⟨m, h2⟩
        · exact .inl h2
    | invoke x y =>
      rw [aopX_other (by rw [hop]; rfl)]
      simp only [topX, hop] at h
      obtain ⟨v, h1, h2⟩ := pure_ (c := fun _ => none) (fun _ => rfl) (by rw [hop]; rfl) (by rw [hop]; exact h)
      simp only [aop, hop]
      rw [hop] at h2
      rw [h2]
      exact ⟨_, (toA_put _ _ _ _).symm, h1⟩
    | builtin b =>
      rw [aopX_other (by rw [hop]; rfl)]
      by_cases hb : b = .append
      · subst hb
        simp only [topX, hop] at h
        simp only [aop, hop]
        split at h
        · rename_i x y t t' ha ht
          simp only [ha, ht]
          obtain ⟨i, hi, h⟩ := tyOf2_some h
          have ok := hT.at_ hi
          split at h
          · rename_i e hk
            have ok' := ok.k; rw [hk] at ok'
            obtain ⟨j, hj, h⟩ := tyOf2_some h
            have okj := hT.at_ hj
            obtain ⟨hb, h⟩ := bif_some h
            simp only [Bool.and_eq_true] at hb
            obtain ⟨⟨hb1, hb2⟩, hb3⟩ := hb
            have htt := Nat.eq_of_beq_eq_true hb1
            have hpos : 0 < j.size := Nat.le_of_ble_eq_true hb2
            have hzl := Nat.eq_of_beq_eq_true hb3
            have hel : elemOf P t = some e := by unfold elemOf; rw [tk_slice ok']; rfl
            simp only [appendA, hel]
            refine ⟨htt.symm, ?_⟩
            have hx := ev_av s x
            have hy := ev_av s y
            have hcx := evc_av s x
            split at h
            · rename_i c ys hys
              obtain ⟨hcz, h⟩ := bif_some h
              have hcs := Nat.eq_of_beq_eq_true hcz
              rw [hys] at hy
              split at h
              · rename_i c0 e0 hxs
                rw [hxs] at hx
                obtain ⟨hd, h⟩ := bif_some h
                simp only [decide_eq_true_eq] at hd
                simp only [← hx, ← hy, TV.av, appA, newsA, okj.by_, okj.sz, okj.ze, List.length_nil, List.length_map]
                refine ⟨hd.1, hd.2, hpos, by simpa [avs_eq] using hzl, by simp, all_csize hcs ys, _, ?_, h⟩
                rw [toA_put]
                congr 1
                simp only [TSt.toA, ASt.kill, ASt.mk.injEq, and_true, true_and]
                funext u
                rw [clook_cmap (by rfl)]
              · rename_i c' xs k e' hxs hcl
                rw [hxs] at hx
                rw [hcl] at hcx
                obtain ⟨he, h⟩ := bif_some h
                have hee := Nat.eq_of_beq_eq_true he
                subst hee
                split at h
                · rename_i hcc
                  subst hcc
                  obtain ⟨hd, h⟩ := bif_some h
                  simp only [decide_eq_true_eq] at hd
                  simp only [← hx, ← hy, ← hcx, TV.av, appA, newsA, okj.by_, okj.sz, okj.ze, if_true, List.length_map]
                  refine ⟨hd.1, hd.2, hpos, by simpa [avs_eq] using hzl, all_csize hcs xs, all_csize hcs ys, _, ?_, h⟩
                  rw [toA_put]
                  simp only [TV.av, List.map_append]
                  congr 1
                  simp only [TSt.toA, ASt.kill, ASt.mk.injEq, and_true, true_and]
                  refine ⟨?_, by rw [hA_consume]⟩
                  funext u
                  rw [clook_cmap (by rfl)]
                · cases h
              · cases h
            · rename_i c0 e0 hys
              rw [hys] at hy
              split at h
              · rename_i c' xs k e' hxs hcl
                rw [hxs] at hx
                rw [hcl] at hcx
                obtain ⟨he, h⟩ := bif_some h
                simp only [Bool.and_eq_true] at he
                have hee := Nat.eq_of_beq_eq_true he.1
                have hcs := Nat.eq_of_beq_eq_true he.2
                subst hee
                obtain ⟨hd, h⟩ := bif_some h
                simp only [decide_eq_true_eq] at hd
                simp only [← hx, ← hy, ← hcx, TV.av, appA, newsA, okj.by_, okj.sz, okj.ze, if_true, List.length_map, List.length_nil]
                refine ⟨hd.1, hd.2, hpos, by simpa [avs_eq] using hzl, all_csize hcs xs, by simp, _, ?_, h⟩
                rw [toA_put]
                simp only [TV.av, List.append_nil]
                congr 1
                simp only [TSt.toA, ASt.kill, ASt.mk.injEq, and_true, true_and]
                refine ⟨?_, by rw [hA_consume]⟩
                funext u
                rw [clook_cmap (by rfl)]
              · cases h
            · cases h
          · cases h
        · cases h
      · have h' : (tpure T o.op o.type s.ev fun v => K (s.put o.dst v none)) = some r := by
          simp only [topX, hop] at h
          cases b <;> first | exact absurd rfl hb | (rw [hop]; exact h)
        obtain ⟨v, h1, h2⟩ := pure_ (c := fun _ => none) (fun _ => rfl) (by rw [hop]; rfl) h'
        have : aop P o s.toA (KA K r) Q = match pureA P o.op s.toA.ev with
            | some v => KA K r (s.toA.put o.dst v)
            | none => False := by
          simp only [aop, hop]
          cases b <;> first | exact absurd rfl hb | rfl
        rw [this, h2]
        exact ⟨_, (toA_put _ _ _ _).symm, h1⟩
  case alloc t =>
    rw [aopX_other (by rw [hop]; rfl)]
    simp only [topX, hop] at h
    obtain ⟨i, hi, h⟩ := tyOf2_some h
    have ok := hT.at_ hi
    simp only [aop, hop, ok.ze]
    refine ⟨_, ?_, h⟩
    rw [toA_put]
    simp only [TSt.toA, hA_len, TV.av, hA_new, avs_eq]
  case box t x =>
    rw [aopX_other (by rw [hop]; rfl)]
    simp only [topX, hop] at h
    obtain ⟨hb, h⟩ := bif_some h
    simp only [aop, hop, ← ev_av, av_cells]
    refine ⟨all_one hb, _, ?_, h⟩
    rw [toA_put]
    simp only [TSt.toA, hA_len, TV.av, hA_new]
  case load t x =>
    rw [aopX_other (by rw [hop]; rfl)]
    simp only [topX, hop] at h
    obtain ⟨i, hi, h⟩ := tyOf2_some h
    have ok := hT.at_ hi
    simp only [aop, hop, ← ev_av]
    split at h
    · rename_i k off hx
      split at h
      · rename_i b hb
        cases hag : i.agg with
        | true =>
          rw [hag] at h
          obtain ⟨hz, h⟩ := bif_some h
          have hz' := Nat.le_of_ble_eq_true hz
          simp only [hx, TV.av, ok.sz, ok.ag, hag, TSt.toA, row_some hb hz']
          refine ⟨_, ?_, h⟩
          rw [toA_put]
          simp only [TSt.toA, TV.av, avs_eq, List.map_map]
          rfl
        | false =>
          rw [hag] at h
          simp only [_root_.cond_false] at h
          split at h
          · rename_i c hc
            simp only [hx, TV.av, ok.sz, ok.ag, hag, TSt.toA, get_some hb hc]
            refine ⟨_, ?_, h⟩
            rw [toA_put]
            rfl
          · cases h
      · cases h
    · rename_i cs hx
      cases hag : i.agg with
      | true =>
        rw [hag] at h
        obtain ⟨hz, h⟩ := bif_some h
        have hz' := Nat.le_of_ble_eq_true hz
        simp only [hx, TV.av, ok.sz, ok.ag, hag, avs_eq, List.length_map, hz', if_true]
        refine ⟨_, ?_, h⟩
        rw [toA_put]
        simp only [TV.av, avs_eq, List.map_take]
      | false =>
        rw [hag] at h
        simp only [_root_.cond_false] at h
        split at h
        · rename_i c _
          simp only [hx, TV.av, ok.sz, ok.ag, hag, TV.avs]
          exact ⟨_, (toA_put _ _ _ _).symm, h⟩
        · cases h
    · cases h
  case store t x y =>
    rw [aopX_other (by rw [hop]; rfl)]
    simp only [topX, hop] at h
    obtain ⟨i, hi, h⟩ := tyOf2_some h
    have ok := hT.at_ hi
    simp only [aop, hop, ← ev_av, ← evc_av]
    split at h
    · rename_i k off hx
      split at h
      · rename_i b hb
        obtain ⟨hg, h⟩ := bif_some h
        simp only [Bool.and_eq_true] at hg
        obtain ⟨⟨g1, g2⟩, g3⟩ := hg
        have g3' := Nat.le_of_ble_eq_true g3
        simp only [hx, TV.av, ok.sz, av_cells, List.length_map]
        refine ⟨Nat.eq_of_beq_eq_true g1, all_one g2, by simp only [TSt.toA, row_some hb g3']; rfl, _, ?_, h⟩
        rw [toA_put]
        congr 1
        simp only [TSt.toA, ASt.mk.injEq, and_true, true_and]
        refine ⟨?_, ?_⟩
        · funext u
          rw [clook_cmap (f := fun x => killTmp (s.evc y) (killRow k off i.size x)) (by simp only [killRow, killTmp]; cases s.evc y with | none => rfl | some p => obtain ⟨a, e⟩ := p; cases a <;> rfl)]
        · rw [hA_set, tcellsOf_av, retag_agg]
      · cases h
    · cases h
  case buildSlice t n parts =>
    rw [aopX_other (by rw [hop]; rfl)]
    simp only [topX, hop] at h
    obtain ⟨i, hi, h⟩ := tyOf2_some h
    have ok := hT.at_ hi
    split at h
    · rename_i e hk
      have ok' := ok.k; rw [hk] at ok'
      obtain ⟨j, hj, h⟩ := tyOf2_some h
      have okj := hT.at_ hj
      have hel : elemOf P t = some e := by unfold elemOf; rw [tk_slice ok']; rfl
      split at h
      · rename_i c hcd
        obtain ⟨hb, h⟩ := bif_some h
        simp only [Bool.and_eq_true] at hb
        obtain ⟨⟨⟨b1, b2⟩, b3⟩, b4⟩ := hb
        split at h
        · rename_i cs hcs
          split at h
          · rename_i l hl
            simp only [aop, hop, hel, okj.sz, okj.ze]
            refine ⟨Nat.le_of_ble_eq_true b1, Nat.le_of_ble_eq_true b2, by simpa [avs_eq] using Nat.eq_of_beq_eq_true b3, ?_⟩
            have hlaid := tlaid_av hcs
            rw [← telems_av, ev_fun] at hlaid
            have hrep : (List.replicate n j.zero).flatten.map TV.av = (List.replicate n (TV.avs j.zero)).flatten := by
              rw [List.map_flatten, List.map_replicate, avs_eq]
            rw [hrep] at hlaid
            rw [hlaid]
            refine ⟨_, ?_, h⟩
            rw [toA_put]
            simp only [TV.av, news_av hl]
            congr 1
            simp only [TSt.toA, ASt.kill, ASt.mk.injEq, and_true, true_and]
            funext u
            rw [clook_cmap (by rfl)]
          · cases h
        · cases h
      · cases h
    · cases h
  case panic x =>
    rw [aopX_other (by rw [hop]; rfl)]
    simp only [topX, hop] at h
    simp only [aop, hop, ← ev_av]
    split at h
    · rename_i t v hx
      simp only [hx, TV.av]
      exact hQ _ _ h
    · cases h
  case defer c =>
    simp only [topX, hop, tpure] at h
    cases h
  case move x =>
    rw [aopX_other (by rw [hop]; rfl)]
    simp only [aop, hop]
    cases x with
    | tmp t =>
      simp only [topX, hop] at h
      obtain ⟨v, h1, h2⟩ := pure_ (c := fun _ => clook s.cl t) (fun _ => rfl) (by rw [hop]; rfl) (by rw [hop]; exact h)
      rw [hop] at h2
      rw [h2]
      exact ⟨_, (toA_put _ _ _ _).symm, h1⟩
    | _ =>
      simp only [topX, hop] at h
      obtain ⟨v, h1, h2⟩ := pure_ (c := fun _ => none) (fun _ => rfl) (by rw [hop]; rfl) (by rw [hop]; exact h)
      rw [hop] at h2
      rw [h2]
      exact ⟨_, (toA_put _ _ _ _).symm, h1⟩
  case assign x =>
    rw [aopX_other (by rw [hop]; rfl)]
    simp only [aop, hop]
    cases x with
    | tmp t =>
      simp only [topX, hop] at h
      obtain ⟨v, h1, h2⟩ := pure_ (c := fun _ => clook s.cl t) (fun _ => rfl) (by rw [hop]; rfl) (by rw [hop]; exact h)
      rw [hop] at h2
      rw [h2]
      exact ⟨_, (toA_put _ _ _ _).symm, h1⟩
    | _ =>
      simp only [topX, hop] at h
      obtain ⟨v, h1, h2⟩ := pure_ (c := fun _ => none) (fun _ => rfl) (by rw [hop]; rfl) (by rw [hop]; exact h)
      rw [hop] at h2
      rw [h2]
      exact ⟨_, (toA_put _ _ _ _).symm, h1⟩
  all_goals
    rw [aopX_other (by rw [hop]; rfl)]
    simp only [topX, hop] at h
    obtain ⟨v, h1, h2⟩ := pure_ (c := fun _ => none) (fun _ => rfl) (by rw [hop]; rfl) (by rw [hop]; exact h)
    simp only [aop, hop]
    rw [hop] at h2
    rw [h2]
    exact ⟨_, (toA_put _ _ _ _).symm, h1⟩

end Go.AW
end

section
set_option linter.unusedSimpArgs false
namespace Go.AW
variable {P : Program} {T : TT} {C : TSpec} {κ κ' κ0 : List Nat} {S S' S0 F : Nat → Nat → Prop} {w w' w0 : World} {a : Act} {ρ ρ' : Cls → Option (Value × TypeId)} {N : Nat}

theorem put_same {s : TSt} {d : Nat} {b : Bool} (h : tlook s.tm d = .bool b) (hc : clook s.cl d = none) : (s.put (some d) (.bool b) none).toA = s.toA := by
  rw [toA_put]
  simp only [TSt.toA, ASt.put, ASt.mk.injEq, and_true, true_and]
  constructor
  · funext t; split
    · rename_i ht; subst ht; rw [h]
    · rfl
  · funext t; split
    · rename_i ht; subst ht; rw [hc]
    · rfl

theorem tgate_sound {ops : Array Oper} {o : Oper} {s : TSt} {run skip : TSt → Res} {r : TEnd × THeap} (h : tgate ops o s run skip = some r) :
    ∃ g, gateA ops s.toA o = some g ∧ (g = true → ∃ s' : TSt, s'.toA = s.toA ∧ run s' = some r) ∧ (g = false → ∃ s' : TSt, s'.toA = s.toA.put o.dst (.tup []) ∧ skip s' = some r) := by
  unfold tgate at h
  unfold gateA
  split at h
  · rename_i hg
    rw [hg]
    exact ⟨true, rfl, fun _ => ⟨s, rfl, h⟩, fun h => by cases h⟩
  · rename_i j want hg
    rw [hg]
    simp only
    split at h
    · rename_i oj hj
      split at h
      · rename_i d hd
        simp only [hj, Option.bind_some, hd]
        split at h
        · rename_i b hb hc
          have hb' : s.toA.tm d = .bool b := by simp [TSt.toA, hb, TV.av]
          rw [hb']
          simp only
          refine ⟨_, rfl, ?_, ?_⟩
          · intro hbw
            cases want
            · cases b
              · exact ⟨_, put_same hb hc, h⟩
              · cases hbw
            · cases b
              · cases hbw
              · exact ⟨_, put_same hb hc, h⟩
          · intro hbw
            cases want
            · cases b
              · cases hbw
              · exact ⟨_, by rw [toA_put, put_same hb hc]; rfl, h⟩
            · cases b
              · exact ⟨_, by rw [toA_put, put_same hb hc]; rfl, h⟩
              · cases hbw
        · rename_i hb
          have hb' : s.toA.tm d = .tup [] := by simp [TSt.toA, hb, TV.av, TV.avs]
          rw [hb']
          exact ⟨false, rfl, (fun h => by cases h), (fun _ => ⟨_, (by rw [toA_put]; rfl), h⟩)⟩
        · cases h
      · cases h
    · cases h

theorem tops_sound (hT : TTok P T) (hC : CSound P C) {ops : Array Oper} {K : TX → TSt → Res} {r : TEnd × THeap} : ∀ {l : List Oper} {s : TSt}, tops T C ops K l s = some r → al P ops (QK K r) l s.toA := by
  intro l
  induction l with
  | nil => intro s h; exact ⟨.normal, s, rfl, rfl, h⟩
  | cons o rest ih =>
    intro s h
    simp only [tops] at h
    obtain ⟨g, hg, h1, h2⟩ := tgate_sound h
    simp only [al, hg]
    cases g with
    | true =>
      obtain ⟨s', e, h⟩ := h1 rfl
      simp only [if_true]
      rw [← e]
      have hx := topX_sound (M := none) hT hC h (Q := QK K r) (fun v ts hk => ⟨.panic v, ts, rfl, rfl, hk⟩)
      refine aop_mono (fun s1 => ?_) hx
      rintro ⟨ts, rfl, hk⟩
      exact ih hk
    | false =>
      obtain ⟨s', e, h⟩ := h2 rfl
      simp only [Bool.false_eq_true, if_false]
      rw [← e]
      exact ih h

theorem tplan_sound (hT : TTok P T) (hC : CSound P C) {M : Option Nat} {ops : Array Oper} {K : TX → TSt → Res} {r : TEnd × THeap} : ∀ {p : Plan} {s : TSt}, tplan T C M ops K p s = some r → planA P ops (QK K r) M p s.toA := by
  have one : ∀ {p : Plan} {o : Oper} {s : TSt}, (∀ {s : TSt}, tplan T C M ops K p s = some r → planA P ops (QK K r) M p s.toA) → tgate ops o s (fun s => topX T C M o s (tplan T C M ops K p) fun v s => K (.panic v) s) (tplan T C M ops K p) = some r → exec1 P ops (QK K r) M o s.toA (planA P ops (QK K r) M p) := by
    intro p o s ih h
    obtain ⟨g, hg, h1, h2⟩ := tgate_sound h
    simp only [exec1, hg]
    cases g with
    | true =>
      obtain ⟨s', e, h⟩ := h1 rfl
      simp only [if_true]
      rw [← e]
      have hx := topX_sound (M := M) hT hC h (Q := QK K r) (fun v ts hk => ⟨.panic v, ts, rfl, rfl, hk⟩)
      refine aop_mono' (fun s1 => ?_) hx
      rintro ⟨ts, rfl, hk⟩
      exact ih hk
    | false =>
      obtain ⟨s', e, h⟩ := h2 rfl
      simp only [Bool.false_eq_true, if_false]
      rw [← e]
      exact ih h
  intro p
  induction p with
  | done => intro s h; exact ⟨.normal, s, rfl, rfl, h⟩
  | step i p ih =>
    intro s h
    simp only [tplan] at h
    split at h
    · rename_i o ho
      simp only [planA, execI, ho]
      exact one (fun h => ih h) h
    · cases h
  | hold i p ih =>
    intro s h
    simp only [tplan] at h
    split at h
    · rename_i o ho
      simp only [planA, execI, ho]
      split at h
      · rename_i t x M' hop
        split at h
        · rename_i k off hx
          obtain ⟨hb, h⟩ := bif_some h
          refine ⟨?_, one (fun h => ih h) h⟩
          simp only [steadyA, hop, ← ev_av, hx, TV.av]
          exact Nat.le_of_ble_eq_true hb
        · rename_i cs hx
          refine ⟨?_, one (fun h => ih h) h⟩
          simp only [steadyA, hop, ← ev_av, hx, TV.av]
        · cases h
      · cases h
    · cases h
  | alt a b _ _ => intro s h; cases h

theorem full_LE (v : TV) : LE v.av v.full.av := by
  cases v <;> first | exact .refl _ | exact .nil

theorem tlook_keep {tm : List (Nat × TV)} {t : Nat} : ∀ {l : List Nat}, tlook (keepT tm l) t = if t ∈ l then (tlook tm t).full else .raw
  | [] => by simp [keepT, tlook]
  | x :: r => by
    simp only [keepT, tlook, tlook_keep (l := r), List.mem_cons]
    by_cases h : x = t
    · subst h; simp [Nat.beq_refl]
    · have : Nat.beq x t = false := by
        cases hb : Nat.beq x t with
        | false => rfl
        | true => exact absurd (Nat.eq_of_beq_eq_true hb) h
      have h' : ¬ t = x := fun e => h e.symm
      simp [this, h']

theorem clook_keep {G : Cls → Option TypeId} {tm : List (Nat × TV)} {cl : List (Nat × Option (Cls × TypeId))} {t : Nat} {c : Cls} {e : TypeId} : ∀ {l : List Nat}, clook (keepC G tm cl l) t = some (c, e) →
    t ∈ l ∧ ((nilOf (tlook tm t) = some e ∧ c = .tmp t) ∨ (clook cl t = some (c, e) ∧ G c = none))
  | [], h => by cases h
  | x :: r, h => by
    have go : clook (keepC G tm cl r) t = some (c, e) → t ∈ x :: r ∧ ((nilOf (tlook tm t) = some e ∧ c = .tmp t) ∨ (clook cl t = some (c, e) ∧ G c = none)) := fun h => by
      obtain ⟨h1, h2⟩ := clook_keep (l := r) h
      exact ⟨List.mem_cons_of_mem _ h1, h2⟩
    simp only [keepC] at h
    split at h
    · rename_i e' hn
      simp only [clook] at h
      cases hb : Nat.beq x t with
      | true =>
        rw [hb] at h
        have := Nat.eq_of_beq_eq_true hb
        subst this
        simp only [_root_.cond_true, Option.some.injEq, Prod.mk.injEq] at h
        obtain ⟨rfl, rfl⟩ := h
        exact ⟨by simp, .inl ⟨hn, rfl⟩⟩
      | false => rw [hb] at h; exact go h
    · split at h
      · rename_i c' e' hcl
        split at h
        · rename_i hG
          simp only [clook] at h
          cases hb : Nat.beq x t with
          | true =>
            rw [hb] at h
            have := Nat.eq_of_beq_eq_true hb
            subst this
            simp only [_root_.cond_true, Option.some.injEq, Prod.mk.injEq] at h
            obtain ⟨rfl, rfl⟩ := h
            exact ⟨by simp, .inr ⟨hcl, hG⟩⟩
          | false => rw [hb] at h; exact go h
        · exact go h
      · exact go h

theorem nilOf_av {v : TV} {e : TypeId} (h : nilOf v = some e) : v.av = .nils := by
  unfold nilOf at h; split at h
  · rfl
  · cases h

theorem fullCell_spec (c : TCell) : LE (cA c).v (cA (fullCell c)).v ∧ ∀ e, (cA (fullCell c)).o = some e → (nilOf c.v = none ∧ (cA c).o = some e) ∨ (nilOf c.v = some e ∧ (cA c).v = .nils) := by
  obtain ⟨v, o⟩ := c
  cases v <;> simp only [fullCell, cA, nilOf] <;> first
    | exact ⟨.refl _, fun e h => .inl ⟨trivial, h⟩⟩
    | (refine ⟨.nil, fun e h => .inr ⟨h, rfl⟩⟩)

theorem fullCell_ptrs (c : TCell) : tptrs (fullCell c).v = tptrs c.v := by
  obtain ⟨v, o⟩ := c
  cases v <;> rfl

theorem tmPtrs_mem {k t : Nat} : ∀ {l : List (Nat × TV)}, k ∈ tptrs (tlook l t) → k ∈ tmPtrs l
  | [], h => by simp [tlook, tptrs] at h
  | (d, v) :: r, h => by
    simp only [tlook] at h
    simp only [tmPtrs, List.mem_append]
    cases hb : Nat.beq d t with
    | true => rw [hb] at h; exact .inl h
    | false => rw [hb] at h; exact .inr (tmPtrs_mem h)

theorem LE_full_bel {n : Nat} {v : TV} (h : Bel n v.av) : Bel n v.full.av := by
  cases v <;> first | exact h | exact .slice (by simp)

/-- Where ways meet. -/
theorem tjoin_weak {n0 m : Nat} {an : Ann} {s : TSt} {K : TSt → Res} {r : TEnd × THeap} (h : tjoin n0 m an s K = some r) (hr : FRel P κ S F w s.toA a ρ) (hn : n0 ≤ s.h.length) : ∃ s' : TSt, K ⟨s'.tm, canonK s'.cl [] an.keep, s'.h⟩ = some r ∧ Weak n0 s.toA s'.toA := by
  have key : ∀ j, n0 ≤ j → j ≤ s.h.length → (∀ t, Bel j (tlook (keepT s.tm an.keep) t).av) → Closed (hA ((s.h.take j).map (·.map fullCell))) →
      Weak n0 s.toA (TSt.toA ⟨keepT s.tm an.keep, keepC (grantT an.keep s.tm s.h) s.tm s.cl an.keep, (s.h.take j).map (·.map fullCell)⟩) := by
    intro j hj0 hjl hbel hcl
    have hlen : (hA ((s.h.take j).map (·.map fullCell))).blocks.length = j := by simp [hA]; omega
    refine ⟨fun t => ?_, ⟨grantT an.keep s.tm s.h, fun t c e hc => ?_, fun k i blk blk' c c' hk hk' hc hc' => ?_⟩, ⟨rfl, fun x hx => by simp [TSt.toA] at hx⟩, ⟨?_, fun k blk blk' hk hk' => ?_⟩, ?_, hcl⟩
    · by_cases ht : t ∈ an.keep
      · left
        refine ⟨?_, ?_⟩
        · simp only [TSt.toA, tlook_keep, if_pos ht]; exact full_LE _
        · simp only [TSt.toA, hlen]; exact hbel t
      · right; simp only [TSt.toA, tlook_keep, if_neg ht]; rfl
    · obtain ⟨ht, h2⟩ := clook_keep hc
      rcases h2 with ⟨h2, rfl⟩ | ⟨h2, h3⟩
      · right
        refine ⟨?_, ⟨t, rfl⟩, by simp only [TSt.toA]; exact nilOf_av h2⟩
        simp only [grantT, nmem_iff.2 ht, _root_.cond_true, h2]
      · left; exact ⟨h3, h2⟩
    · simp only [TSt.toA, hA, List.getElem?_map] at hk hk'
      obtain ⟨b, hb, rfl⟩ := Option.map_eq_some_iff.1 hk
      obtain ⟨b1, hb1, rfl⟩ := Option.map_eq_some_iff.1 hk'
      obtain ⟨b2, hb2, rfl⟩ := Option.map_eq_some_iff.1 hb1
      have : b2 = b := by
        rw [List.getElem?_take] at hb2
        split at hb2
        · rw [hb] at hb2; cases hb2; rfl
        · cases hb2
      subst this
      rw [List.getElem?_map] at hc
      obtain ⟨c0, hc0, rfl⟩ := Option.map_eq_some_iff.1 hc
      rw [List.getElem?_map, List.getElem?_map, hc0] at hc'
      simp at hc'
      subst hc'
      obtain ⟨f1, f2⟩ := fullCell_spec c0
      refine ⟨f1, fun e he => ?_⟩
      rcases f2 e he with ⟨g1, g2⟩ | ⟨g1, g2⟩
      · exact .inl ⟨by simp only [grantT, hb, hc0, g1], g2⟩
      · exact .inr ⟨by simp only [grantT, hb, hc0, g1], g2⟩
    · simp only [TSt.toA, hlen, hA_len]; exact hjl
    · simp only [TSt.toA, hA, List.getElem?_map] at hk hk'
      obtain ⟨b, hb, rfl⟩ := Option.map_eq_some_iff.1 hk
      obtain ⟨b1, hb1, rfl⟩ := Option.map_eq_some_iff.1 hk'
      obtain ⟨b2, hb2, rfl⟩ := Option.map_eq_some_iff.1 hb1
      rw [List.getElem?_take] at hb2
      split at hb2
      · rw [hb] at hb2; cases hb2; simp
      · cases hb2
    · simp only [TSt.toA, hlen]; exact hj0
  unfold tjoin at h
  cases hb : (Nat.ble n0 m && Nat.ble m s.h.length && allBel m (tmPtrs (keepT s.tm an.keep)) && hBel m (s.h.take m)) with
  | true =>
    rw [hb] at h
    simp only [_root_.cond_true] at h
    simp only [Bool.and_eq_true] at hb
    obtain ⟨⟨⟨b1, b2⟩, b3⟩, b4⟩ := hb
    have hml := Nat.le_of_ble_eq_true b2
    refine ⟨⟨keepT s.tm an.keep, keepC (grantT an.keep s.tm s.h) s.tm s.cl an.keep, (s.h.take m).map (·.map fullCell)⟩, h, key m (Nat.le_of_ble_eq_true b1) hml (fun t => bel_av fun k hk => allBel_mem b3 k (tmPtrs_mem hk)) ?_⟩
    intro k blk hk c hc
    have hl : (hA ((s.h.take m).map (·.map fullCell))).blocks.length = m := by simp [hA]; omega
    rw [hl]
    simp only [hA, List.getElem?_map] at hk
    obtain ⟨b1', hb1, rfl⟩ := Option.map_eq_some_iff.1 hk
    obtain ⟨b2', hb2, rfl⟩ := Option.map_eq_some_iff.1 hb1
    obtain ⟨c1, hc1, rfl⟩ := List.mem_map.1 hc
    obtain ⟨c2, hc2, rfl⟩ := List.mem_map.1 hc1
    refine bel_av fun j hj => ?_
    rw [fullCell_ptrs] at hj
    exact hBel_mem b4 b2' (List.mem_of_getElem? hb2) c2 hc2 j hj
  | false =>
    rw [hb] at h
    simp only [_root_.cond_false] at h
    have hκ : κ.length = s.h.length := by rw [hr.inv.len]; simp [TSt.toA, hA_len]
    have := key s.h.length hn (Nat.le_refl _) (fun t => ?_) ?_
    · rw [List.take_length] at this; exact ⟨⟨keepT s.tm an.keep, keepC (grantT an.keep s.tm s.h) s.tm s.cl an.keep, s.h.map (·.map fullCell)⟩, h, this⟩
    · rw [tlook_keep]
      split
      · refine LE_full_bel ?_
        have := (hr.tm t).bel
        rw [hκ] at this
        exact this
      · exact .raw
    · rw [List.take_length]
      intro k blk hk c hc
      have hl : (hA (s.h.map (·.map fullCell))).blocks.length = s.h.length := by simp [hA]
      rw [hl]
      simp only [hA, List.getElem?_map] at hk
      obtain ⟨b1', hb1, rfl⟩ := Option.map_eq_some_iff.1 hk
      obtain ⟨b2', hb2, rfl⟩ := Option.map_eq_some_iff.1 hb1
      obtain ⟨c1, hc1, rfl⟩ := List.mem_map.1 hc
      obtain ⟨c2, hc2, rfl⟩ := List.mem_map.1 hc1
      have hclosed := hr.inv.closed k (b2'.map cA) (by simp [TSt.toA, hA, hb2]) (cA c2) (List.mem_map.2 ⟨c2, hc2, rfl⟩)
      have hl2 : s.toA.h.blocks.length = s.h.length := by simp [TSt.toA, hA_len]
      rw [hl2] at hclosed
      obtain ⟨v, o⟩ := c2
      cases v <;> first | exact hclosed | exact .slice (by simp)

theorem canon_spec {l : List (Nat × Option (Cls × TypeId))} {t : Nat} {c : Cls} {e : TypeId} : ∀ {keep used : List Nat}, clook (canonK l used keep) t = some (c, e) →
    (c = .tmp t ∧ ∃ n, clook l t = some (.tmp n, e) ∧ n ∉ used) ∨ (∃ k j, c = .cell k j ∧ clook l t = some (.cell k j, e))
  | [], used, h => by cases h
  | x :: r, used, h => by
    simp only [canonK] at h
    split at h
    · rename_i n e' hx
      cases hm : nmem n used with
      | true => rw [hm] at h; exact canon_spec h
      | false =>
        rw [hm] at h
        simp only [_root_.cond_false, clook] at h
        cases hb : Nat.beq x t with
        | true =>
          rw [hb] at h
          have := Nat.eq_of_beq_eq_true hb
          subst this
          simp only [_root_.cond_true, Option.some.injEq, Prod.mk.injEq] at h
          obtain ⟨rfl, rfl⟩ := h
          exact .inl ⟨rfl, n, hx, nmem_not hm⟩
        | false =>
          rw [hb] at h
          rcases canon_spec (keep := r) h with ⟨h1, n', h2, h3⟩ | h1
          · exact .inl ⟨h1, n', h2, fun hm => h3 (List.mem_cons_of_mem _ hm)⟩
          · exact .inr h1
    · rename_i k j e' hx
      simp only [clook] at h
      cases hb : Nat.beq x t with
      | true =>
        rw [hb] at h
        have := Nat.eq_of_beq_eq_true hb
        subst this
        simp only [_root_.cond_true, Option.some.injEq, Prod.mk.injEq] at h
        obtain ⟨rfl, rfl⟩ := h
        exact .inr ⟨k, j, rfl, hx⟩
      | false => rw [hb] at h; exact canon_spec h
    · exact canon_spec h

theorem canon_inj {l : List (Nat × Option (Cls × TypeId))} {t1 t2 n : Nat} {e1 e2 e1' e2' : TypeId} : ∀ {keep used : List Nat}, clook (canonK l used keep) t1 = some (.tmp t1, e1) → clook (canonK l used keep) t2 = some (.tmp t2, e2) → clook l t1 = some (.tmp n, e1') → clook l t2 = some (.tmp n, e2') → t1 = t2
  | [], used, h, _, _, _ => by cases h
  | x :: r, used, h1, h2, g1, g2 => by
    simp only [canonK] at h1 h2
    split at h1
    · rename_i n0 e' hx
      rw [hx] at h2
      simp only at h2
      cases hm : nmem n0 used with
      | true => rw [hm] at h1 h2; exact canon_inj h1 h2 g1 g2
      | false =>
        rw [hm] at h1 h2
        simp only [_root_.cond_false, clook] at h1 h2
        have other : ∀ {t : Nat} {e e' : TypeId}, clook (canonK l (n0 :: used) r) t = some (.tmp t, e) → clook l t = some (.tmp n0, e') → False := by
          intro t e e' h g
          rcases canon_spec h with ⟨_, n', h2, h3⟩ | ⟨k, j, h2, _⟩
          · rw [g] at h2; simp only [Option.some.injEq, Prod.mk.injEq, Cls.tmp.injEq] at h2; exact h3 (by rw [← h2.1]; simp)
          · cases h2
        cases hb1 : Nat.beq x t1 with
        | true =>
          have e1 := Nat.eq_of_beq_eq_true hb1
          cases hb2 : Nat.beq x t2 with
          | true => exact e1.symm.trans (Nat.eq_of_beq_eq_true hb2)
          | false =>
            rw [hb2] at h2
            subst e1
            rw [hx] at g1
            simp only [Option.some.injEq, Prod.mk.injEq, Cls.tmp.injEq] at g1
            rw [← g1.1] at g2
            exact (other h2 g2).elim
        | false =>
          rw [hb1] at h1
          cases hb2 : Nat.beq x t2 with
          | true =>
            have e2 := Nat.eq_of_beq_eq_true hb2
            subst e2
            rw [hx] at g2
            simp only [Option.some.injEq, Prod.mk.injEq, Cls.tmp.injEq] at g2
            rw [← g2.1] at g1
            exact (other h1 g1).elim
          | false => rw [hb2] at h2; exact canon_inj h1 h2 g1 g2
    · rename_i k j e' hx
      rw [hx] at h2
      simp only [clook] at h1 h2
      cases hb1 : Nat.beq x t1 with
      | true => rw [hb1] at h1; simp at h1
      | false =>
        rw [hb1] at h1
        cases hb2 : Nat.beq x t2 with
        | true => rw [hb2] at h2; simp at h2
        | false => rw [hb2] at h2; exact canon_inj h1 h2 g1 g2
    · rename_i hx
      rw [hx] at h2
      exact canon_inj h1 h2 g1 g2

/-- Rights under other names. -/
theorem FRel.rename {s : ASt} (hr : FRel P κ S F w s a ρ) {cl' : Nat → Option (Cls × TypeId)} (h1 : ∀ t c e, cl' t = some (c, e) → (c = .tmp t ∧ ∃ n, s.cl t = some (.tmp n, e)) ∨ (∃ k j, c = .cell k j ∧ s.cl t = some (.cell k j, e)))
    (h2 : ∀ t1 t2 n e1 e2 e1' e2', cl' t1 = some (.tmp t1, e1) → cl' t2 = some (.tmp t2, e2) → s.cl t1 = some (.tmp n, e1') → s.cl t2 = some (.tmp n, e2') → t1 = t2) : ∃ ρ', FRel P κ S F w { s with cl := cl' } a ρ' := by
  let ρ' : Cls → Option (Value × TypeId) := fun c => match c with
    | .cell k j => ρ (.cell k j)
    | .tmp t => match cl' t with
      | some (.tmp t', _) => if t' = t then match s.cl t with
        | some (.tmp n, _) => ρ (.tmp n)
        | _ => none else none
      | _ => none
  have tmp : ∀ t v e, ρ' (.tmp t) = some (v, e) → ∃ n e1 e2, cl' t = some (.tmp t, e1) ∧ s.cl t = some (.tmp n, e2) ∧ ρ (.tmp n) = some (v, e) := by
    intro t v e h
    simp only [ρ'] at h
    split at h
    · rename_i t' e' hc
      split at h
      · rename_i ht
        subst ht
        split at h
        · rename_i n e2 hs; exact ⟨n, e', e2, hc, hs, h⟩
        · cases h
      · cases h
    · cases h
  refine ⟨ρ', ⟨hr.inv.len, hr.inv.nd, fun k b cs hk hb => ?_, hr.inv.sIn, hr.inv.fIn, hr.inv.fUp, fun c v e hc => ?_, fun c c' v v' e e' hne hc hc' => ?_⟩, hr.tm, fun t c e hc => ?_, hr.df⟩
  · exact hr.inv.blk k b cs hk hb
  · cases c with
    | cell k j => exact hr.inv.own _ _ _ hc
    | tmp t => obtain ⟨n, _, _, _, _, h⟩ := tmp t v e hc; exact hr.inv.own _ _ _ h
  · cases c with
    | cell k j =>
      cases c' with
      | cell k' j' => exact hr.inv.dis _ _ v v' e e' hne hc hc'
      | tmp t => obtain ⟨n, _, _, _, _, h⟩ := tmp t v' e' hc'; exact hr.inv.dis (.cell k j) (.tmp n) v v' e e' (by simp) hc h
    | tmp t =>
      obtain ⟨n, e1, e2, a1, a2, h⟩ := tmp t v e hc
      cases c' with
      | cell k' j' => exact hr.inv.dis (.tmp n) (.cell k' j') v v' e e' (by simp) h hc'
      | tmp t' =>
        obtain ⟨n', e1', e2', b1, b2, h'⟩ := tmp t' v' e' hc'
        refine hr.inv.dis (.tmp n) (.tmp n') v v' e e' (fun hh => hne ?_) h h'
        injection hh with hh
        subst hh
        rw [h2 t t' n e1 e1' e2 e2' a1 b1 a2 b2]
  · rcases h1 t c e hc with ⟨rfl, n, hn⟩ | ⟨k, j, rfl, hn⟩
    · have hc' : cl' t = some (.tmp t, e) := hc
      have : ρ' (.tmp t) = ρ (.tmp n) := by
        simp only [ρ']
        rw [hc']
        simp only [if_true]
        rw [hn]
      rw [this]
      exact hr.cl t _ e hn
    · exact hr.cl t _ e hn

/-- Where ways meet. -/
theorem tjoin_sound {n0 m : Nat} {an : Ann} {s : TSt} {K : TSt → Res} {r : TEnd × THeap} (h : tjoin n0 m an s K = some r) (hr : FRel P κ S F w s.toA a ρ) (hn : n0 ≤ s.h.length) :
    ∃ (s' : TSt) (ρ' : Cls → Option (Value × TypeId)), K s' = some r ∧ FRel P (κ.take s'.h.length) S F w s'.toA a ρ' ∧ n0 ≤ s'.h.length := by
  obtain ⟨s1, hk, hw⟩ := tjoin_weak h hr hn
  obtain ⟨ρ1, hr1⟩ := hr.weak hw
  obtain ⟨ρ2, hr2⟩ := hr1.rename (cl' := clook (canonK s1.cl [] an.keep)) (fun t c e hc => by
    rcases canon_spec hc with ⟨g1, n, g2, _⟩ | g
    · exact .inl ⟨g1, n, g2⟩
    · exact .inr g) (fun t1 t2 n e1 e2 e1' e2' a1 a2 a3 a4 => canon_inj a1 a2 a3 a4)
  have hl : s1.toA.h.blocks.length = s1.h.length := by simp [TSt.toA, hA_len]
  rw [hl] at hr2
  exact ⟨_, ρ2, hk, hr2, by have := hw.len; rw [hl] at this; exact this⟩

end Go.AW
end

section
set_option linter.unusedSimpArgs false
namespace Go.AW
variable {P : Program} {T : TT} {C : TSpec} {κ κ' κ0 : List Nat} {S S' S0 F : Nat → Nat → Prop} {w w' w0 : World} {a : Act} {ρ ρ' : Cls → Option (Value × TypeId)} {N : Nat}

/-- Loops that are known answer as they are said to. -/
def LOk (c : Cfg) : Nat → Code → Prop
  | p, .seq a b => LOk c (2 * p) a ∧ LOk c (2 * p + 1) b
  | p, .cond _ a b => LOk c (2 * p) a ∧ LOk c (2 * p + 1) b
  | p, .block _ b => LOk c (2 * p) b
  | p, .loop b => LOk c (2 * p) b ∧ ∀ f a, aget c.L p = some f → aget c.AL p = some a → ∀ K s r, f K s = some r → ∃ n, tloop p c.n0 s.h.length (trun c (2 * p) b) a K n s = some r
  | _, _ => True

theorem tstart_some {n : Nat} {x : Res} {r : TEnd × THeap} (h : tstart n x = some r) : x = some r := by
  cases n with
  | zero => cases h
  | succ n => exact h

theorem boxes_le {s : ASt} (hr : FRel P κ S F w s a ρ) (he : Ext F κ0 S0 w0 κ S w) : κ0.length ≤ s.h.blocks.length := by
  obtain ⟨ks, hks, _⟩ := he.pre
  rw [← hr.inv.len, hks]; simp

/-- A way out of a piece of code, by what becomes of it. -/
theorem laterQ_to {K K' : TX → TSt → Res} {r : TEnd × THeap} {e : Exit} {a' : Act} {w' : World}
    (h : LaterQ P N κ0 S0 F w0 (QK K r) e a' w') (hm : ∀ κ S ρ (te : TX) (ts : TSt), Ext F κ0 S0 w0 κ S w' → FRel P κ S F w' ts.toA a' ρ → K te ts = some r → ∃ (ts' : TSt) (κ' : List Nat) (ρ' : Cls → Option (Value × TypeId)), Ext F κ0 S0 w0 κ' S w' ∧ FRel P κ' S F w' ts'.toA a' ρ' ∧ (∀ v, te = .panic v → κ' = κ) ∧ K' te ts' = some r) :
    LaterQ P N κ0 S0 F w0 (QK K' r) e a' w' := by
  cases e with
  | normal =>
    obtain ⟨κ, S, s, ρ, he, hr, hN, te, ts, h1, rfl, h3⟩ := h
    obtain ⟨ts', κ', ρ', he', hr', _, hk⟩ := hm _ _ _ te ts he hr h3
    exact ⟨κ', S, _, ρ', he', hr', hN, te, ts', h1, rfl, hk⟩
  | exit i =>
    obtain ⟨κ, S, s, ρ, he, hr, hN, te, ts, h1, rfl, h3⟩ := h
    obtain ⟨ts', κ', ρ', he', hr', _, hk⟩ := hm _ _ _ te ts he hr h3
    exact ⟨κ', S, _, ρ', he', hr', hN, te, ts', h1, rfl, hk⟩
  | ret =>
    obtain ⟨κ, S, s, ρ, he, hr, hN, te, ts, h1, rfl, h3⟩ := h
    obtain ⟨ts', κ', ρ', he', hr', _, hk⟩ := hm _ _ _ te ts he hr h3
    exact ⟨κ', S, _, ρ', he', hr', hN, te, ts', h1, rfl, hk⟩
  | panic chain =>
    obtain ⟨κ, S, s, ρ, x, v, he, hr, hv, hch, te, ts, h1, rfl, h3⟩ := h
    obtain ⟨ts', κ', ρ', he', hr', hp, hk⟩ := hm _ _ _ te ts he hr h3
    have hpan : ∃ v, te = .panic v := by cases te <;> simp [TX.av] at h1; exact ⟨_, rfl⟩
    obtain ⟨v', rfl⟩ := hpan
    have := hp _ rfl
    subst this
    exact ⟨κ', S, _, ρ', x, v, he', hr', hv, hch, _, ts', h1, rfl, hk⟩
  | goto l => exact h
  | outgrown => exact h

theorem TX.normal_of {te : TX} (h : te.av = .normal) : te = .normal := by cases te <;> simp [TX.av] at h; rfl
theorem TX.exit_of {te : TX} {i : Nat} (h : te.av = .exit i) : te = .exit i := by cases te <;> simp [TX.av] at h; subst h; rfl
theorem TX.ret_of {te : TX} (h : te.av = .ret) : te = .ret := by cases te <;> simp [TX.av] at h; rfl
theorem TX.panic_of {te : TX} {x : AV} (h : te.av = .panic x) : ∃ v, te = .panic v ∧ v.av = x := by cases te <;> simp [TX.av] at h; exact ⟨_, rfl, h⟩

/-- What the program and the table say of one another. -/
structure POk (P : Program) (c : Cfg) : Prop where
  tt : TTok P c.T
  cs : CSound P c.C
  mixed : P.follows .mixedOrders = true

theorem trun_sound {c : Cfg} (hP : POk P c) (hn0 : κ0.length = c.n0) (code : Code) : ∀ (p : Nat) (ts : TSt) (K : TX → TSt → Res) (r : TEnd × THeap) (a : Act) (w : World) (κ : List Nat) (S : Nat → Nat → Prop) (ρ : Cls → Option (Value × TypeId)), below N code = true → LOk c p code →
    trun c p code ts K = some r → FRel P κ S F w ts.toA a ρ → Ext F κ0 S0 w0 κ S w → a.tmps.size = N → code.wp P (LaterQ P N κ0 S0 F w0 (QK K r)) a w := by
  have boxes : ∀ {ts : TSt} {κ : List Nat} {S : Nat → Nat → Prop} {ρ : Cls → Option (Value × TypeId)} {a : Act} {w : World}, FRel P κ S F w ts.toA a ρ → Ext F κ0 S0 w0 κ S w → c.n0 ≤ ts.h.length := by
    intro ts κ S ρ a w hr he
    have := boxes_le hr he
    simpa [TSt.toA, hA_len, hn0] using this
  induction code with
  | skip => intro p ts K r a w κ S ρ _ _ h hr he hN; exact wp_skip ⟨κ, S, _, ρ, he, hr, hN, .normal, ts, rfl, rfl, h⟩
  | region id ops draw =>
    intro p ts K r a w κ S ρ hb _ h hr he hN
    have hac : acode P c.n0 (.region id ops draw) (QK K r) ts.toA := by
      cases draw with
      | false =>
        have h' : tops c.T c.C ops K ops.toList ts = some r := h
        have := tops_sound hP.tt hP.cs h'
        rw [← ac_eq]
        have h2 := region_al (P := P) (n0 := c.n0) (id := id) (l := ops.toList) (Q := QK K r) (s := ts.toA) (by simpa using this)
        simpa using h2
      | true =>
        simp only [trun] at h
        rw [← ac_eq]
        split at h
        · rename_i M hM
          split at h
          · rename_i pl hpl
            exact region_plan (some M) pl hP.mixed hpl (tplan_sound hP.tt hP.cs h)
          · cases h
        · split at h
          · rename_i pl hpl
            exact region_plan none pl hP.mixed hpl (tplan_sound hP.tt hP.cs h)
          · cases h
    exact acode_sound hn0 (.region id ops draw) (QK K r) ts.toA a w κ S ρ hb hr he hN hac
  | seq x y ihx ihy =>
    intro p ts K r a w κ S ρ hb hL h hr he hN
    simp only [below, Bool.and_eq_true] at hb
    obtain ⟨hL1, hL2⟩ := hL
    simp only [trun] at h
    refine wp_seq (wp_mono (ihx _ _ _ _ a w κ S ρ hb.1 hL1 h hr he hN) fun e a' w' hq => ?_)
    cases e with
    | normal =>
      obtain ⟨κ', S', s', ρ', he', hr', hN', te, ts', h1, rfl, hk⟩ := hq
      have := TX.normal_of h1
      subst this
      simp only at hk
      split at hk
      · rename_i an han
        obtain ⟨s2, ρ2, hk2, hr2, hlen_⟩ := tjoin_sound hk hr' (boxes hr' he')
        have he2 := Ext.forget he' (by rw [hn0]; exact hlen_)
        exact ihy _ _ _ _ a' w' _ S' ρ2 hb.2 hL2 hk2 hr2 he2 hN'
      · exact ihy _ _ _ _ a' w' κ' S' ρ' hb.2 hL2 hk hr' he' hN'
    | exit i =>
      obtain ⟨κ', S', s', ρ', he', hr', hN', te, ts', h1, rfl, hk⟩ := hq
      have := TX.exit_of h1
      subst this
      exact ⟨κ', S', _, ρ', he', hr', hN', _, ts', rfl, rfl, hk⟩
    | ret =>
      obtain ⟨κ', S', s', ρ', he', hr', hN', te, ts', h1, rfl, hk⟩ := hq
      have := TX.ret_of h1
      subst this
      exact ⟨κ', S', _, ρ', he', hr', hN', _, ts', rfl, rfl, hk⟩
    | panic chain =>
      obtain ⟨κ', S', s', ρ', x, v, he', hr', hv, hch, te, ts', h1, rfl, hk⟩ := hq
      obtain ⟨v', rfl, _⟩ := TX.panic_of h1
      exact ⟨κ', S', _, ρ', x, v, he', hr', hv, hch, _, ts', h1, rfl, hk⟩
    | goto l => exact hq
    | outgrown => exact hq
  | cond x y z ihx ihy =>
    intro p ts K r a w κ S ρ hb hL h hr he hN
    simp only [below, Bool.and_eq_true] at hb
    obtain ⟨hL1, hL2⟩ := hL
    simp only [trun] at h
    split at h
    · rename_i t ht
      have hv := hr.ev x
      rw [← ev_av, ht] at hv
      generalize hcv : a.eval x = cv at hv
      cases hv
      refine wp_cond (t := t) hcv ?_
      cases t with
      | true => exact ihx _ _ _ _ a w κ S ρ hb.1 hL1 (by simpa using h) hr he hN
      | false => exact ihy _ _ _ _ a w κ S ρ hb.2 hL2 (by simpa using h) hr he hN
    · cases h
  | block id y ih =>
    intro p ts K r a w κ S ρ hb hL h hr he hN
    simp only [trun] at h
    refine wp_block (wp_mono (ih _ _ _ _ a w κ S ρ hb hL h hr he hN) fun e a' w' hq => ?_)
    cases e with
    | exit i =>
      obtain ⟨κ', S', s', ρ', he', hr', hN', te, ts', h1, rfl, hk⟩ := hq
      have := TX.exit_of h1
      subst this
      simp only at hk
      simp only [Exit.inBlock]
      by_cases hid : i = id
      · subst hid
        rw [if_pos rfl]
        rw [Nat.beq_refl] at hk
        exact ⟨κ', S', _, ρ', he', hr', hN', .normal, ts', rfl, rfl, hk⟩
      · rw [if_neg hid]
        have : Nat.beq i id = false := by
          cases hb : Nat.beq i id with
          | false => rfl
          | true => exact absurd (Nat.eq_of_beq_eq_true hb) hid
        rw [this] at hk
        exact ⟨κ', S', _, ρ', he', hr', hN', .exit i, ts', rfl, rfl, hk⟩
    | normal =>
      obtain ⟨κ', S', s', ρ', he', hr', hN', te, ts', h1, rfl, hk⟩ := hq
      have := TX.normal_of h1
      subst this
      exact ⟨κ', S', _, ρ', he', hr', hN', .normal, ts', rfl, rfl, hk⟩
    | ret =>
      obtain ⟨κ', S', s', ρ', he', hr', hN', te, ts', h1, rfl, hk⟩ := hq
      have := TX.ret_of h1
      subst this
      exact ⟨κ', S', _, ρ', he', hr', hN', .ret, ts', rfl, rfl, hk⟩
    | panic chain =>
      obtain ⟨κ', S', s', ρ', x, v, he', hr', hv, hch, te, ts', h1, rfl, hk⟩ := hq
      obtain ⟨v', rfl, _⟩ := TX.panic_of h1
      exact ⟨κ', S', _, ρ', x, v, he', hr', hv, hch, _, ts', h1, rfl, hk⟩
    | goto l => exact hq
    | outgrown => exact hq
  | loop y ih =>
    intro p ts K r a w κ S ρ hb hL h hr he hN
    obtain ⟨hL1, hL2⟩ := hL
    simp only [trun] at h
    split at h
    · rename_i an han
      obtain ⟨s1, ρ1, hk1, hr1, hlen_⟩ := tjoin_sound h hr (boxes hr he)
      have he1 := Ext.forget he (by rw [hn0]; exact hlen_)
      have hloop : ∃ m n, tloop p c.n0 m (trun c (2 * p) y) an K n s1 = some r := by
        split at hk1
        · rename_i f hf
          obtain ⟨n, hn⟩ := hL2 f an hf han K s1 r hk1
          exact ⟨_, n, hn⟩
        · exact ⟨_, _, tstart_some hk1⟩
      obtain ⟨m, n, hloop⟩ := hloop
      refine wp_loop_ghost (fun n a w => ∃ κ S ts ρ, Ext F κ0 S0 w0 κ S w ∧ FRel P κ S F w (TSt.toA ts) a ρ ∧ a.tmps.size = N ∧ tloop p c.n0 m (trun c (2 * p) y) an K n ts = some r) n ⟨_, S, s1, ρ1, he1, hr1, hN, hloop⟩ ?_
      rintro n2 a2 w2 ⟨κ2, S2, s2, ρ2, he2, hr2, hN2, hl2⟩
      cases n2 with
      | zero => cases hl2
      | succ n2 =>
        have hl2' : trun c (2 * p) y s2 (fun e s' => match e with
            | .normal => tjoin c.n0 m an.head s' (tloop p c.n0 m (trun c (2 * p) y) an K n2)
            | e => tleave c.n0 m an K e s') = some r := hl2
        refine wp_mono (ih _ _ _ _ a2 w2 κ2 S2 ρ2 hb hL1 hl2' hr2 he2 hN2) fun e a' w' hq => ?_
        cases e with
        | normal =>
          obtain ⟨κ', S', s', ρ', he', hr', hN', te, ts', h1, rfl, hk⟩ := hq
          have := TX.normal_of h1
          subst this
          simp only at hk
          obtain ⟨s3, ρ3, hk3, hr3, hlen_⟩ := tjoin_sound hk hr' (boxes hr' he')
          have he3 := Ext.forget he' (by rw [hn0]; exact hlen_)
          exact ⟨n2, Nat.lt_succ_self _, _, S', s3, ρ3, he3, hr3, hN', hk3⟩
        | exit i =>
          obtain ⟨κ', S', s', ρ', he', hr', hN', te, ts', h1, rfl, hk⟩ := hq
          have := TX.exit_of h1
          subst this
          simp only [tleave] at hk
          obtain ⟨s3, ρ3, hk3, hr3, hlen_⟩ := tjoin_sound hk hr' (boxes hr' he')
          have he3 := Ext.forget he' (by rw [hn0]; exact hlen_)
          exact ⟨_, S', _, ρ3, he3, hr3, hN', .exit i, s3, rfl, rfl, hk3⟩
        | ret =>
          obtain ⟨κ', S', s', ρ', he', hr', hN', te, ts', h1, rfl, hk⟩ := hq
          have := TX.ret_of h1
          subst this
          simp only [tleave] at hk
          obtain ⟨s3, ρ3, hk3, hr3, hlen_⟩ := tjoin_sound hk hr' (boxes hr' he')
          have he3 := Ext.forget he' (by rw [hn0]; exact hlen_)
          exact ⟨_, S', _, ρ3, he3, hr3, hN', .ret, s3, rfl, rfl, hk3⟩
        | panic chain =>
          obtain ⟨κ', S', s', ρ', x, v, he', hr', hv, hch, te, ts', h1, rfl, hk⟩ := hq
          obtain ⟨v', rfl, _⟩ := TX.panic_of h1
          simp only [tleave] at hk
          exact ⟨κ', S', _, ρ', x, v, he', hr'.bare, hv, hch, .panic v', ⟨[], [], ts'.h⟩, h1, rfl, hk⟩
        | goto l => exact hq
        | outgrown => exact hq
    · cases h
  | exit i => intro p ts K r a w κ S ρ _ _ h hr he hN; exact wp_exit ⟨κ, S, _, ρ, he, hr, hN, .exit i, ts, rfl, rfl, h⟩
  | ret => intro p ts K r a w κ S ρ _ _ h hr he hN; exact wp_ret ⟨κ, S, _, ρ, he, hr, hN, .ret, ts, rfl, rfl, h⟩
  | rangeFunc f ps x y _ _ => intro p ts K r a w κ S ρ hb; simp [below] at hb
  | scope x _ => intro p ts K r a w κ S ρ hb; simp [below] at hb
  | label l => intro p ts K r a w κ S ρ hb; simp [below] at hb
  | goto l => intro p ts K r a w κ S ρ hb; simp [below] at hb
  | refuse why => intro p ts K r a w κ S ρ hb; simp [below] at hb

end Go.AW
end

section
set_option linter.unusedSimpArgs false
namespace Go.AW
section
variable {P : Program} {κ κ' κ0 : List Nat} {S S' S0 F : Nat → Nat → Prop} {w w' w0 : World} {s : ASt} {a : Act} {ρ ρ' : Cls → Option (Value × TypeId)} {h h' : AHeap}
  {Q : AExit → ASt → Prop} {N : Nat}

/-- A body whose walk is sound: the call's contract. -/
theorem ACalls.of_wp {f : FuncId} {fn : Func} {c : Code} {args : List AV} {R : AEnd → AHeap → Prop} (hf : P.funcs[f]? = some fn) (hb : fn.body = some c) (hargs : args.length ≤ fn.ntmps)
    (hbody : ∀ κ S F w ρ a, FRel P κ S F w (ASt.enter args h) a ρ → κ.length = h.blocks.length → a.tmps.size = fn.ntmps → c.wp P (LaterQ P fn.ntmps κ S F w (abodyPost P fn.results.toList h.blocks.length R)) a w) : ACalls P f args h R := by
  intro κ S F w ρ vs hi hv
  have hcl := hi.closed
  have hab : ∀ x ∈ args, Bel h.blocks.length x := by
    intro x hx
    obtain ⟨j, hj⟩ := List.getElem?_of_mem hx
    have hlt : j < vs.length := by rw [hv.1]; exact (List.getElem?_eq_some_iff.1 hj).1
    have := (hv.2 j x _ hj (List.getElem?_eq_getElem hlt)).bel
    rwa [hi.len] at this
  refine calls_of_wp hf hb (wp_mono (hbody κ S F w ρ _ (enter_rel hi hv _) hi.len (by simp [hv.1]; omega)) fun e a' w' hq => ?_)
  have fin : ∀ (s : ASt), Later P fn.ntmps κ S F w (abodyPost P fn.results.toList h.blocks.length R .ret) a' w' → a'.defers = [] ∧ ∃ v, (results fn a'.tmps).run P w' = .ok v w' ∧
      ∃ κ' S' h' ρ' ae, Ext F κ S w κ' S' w' ∧ Inv P κ' S' F w' h' ρ' ∧ EndR κ' S' w' ρ' ae (.returned v) ∧ R ae h' := by
    intro _ hl
    obtain ⟨κ1, S1, s1, ρ1, he1, hr1, _, hdf, v, v', h', L, hret, hle, hh, hn0, hc, hb', hR⟩ := hl
    refine ⟨defs_nil hr1 hdf, ?_⟩
    obtain ⟨val, hrun, hvr⟩ := ret_sound hr1 hret
    refine ⟨val, hrun, ?_⟩
    have hfor := hr1.inv.forget hh hc
    have hvr' := (VR.le hle hvr).shrink hb'
    rcases hR with hR | ⟨t, e, hrs, ⟨n, hcl'⟩, hvt, hR⟩
    · exact ⟨_, S1, h', ρ1, .ret v', Ext.forget he1 (by rw [hi.len]; exact hn0), hfor, ⟨hvr', by simp⟩, hR⟩
    · have hρ := hr1.cl t _ e hcl'
      have hval : val = a'.tmps.getD t undef := by
        unfold results at hrun
        have hrs' : fn.results = #[.tmp t] := by apply Array.ext'; simpa using hrs
        rw [hrs'] at hrun
        simp at hrun
        rw [Array.getD_eq_getD_getElem?]
        exact hrun.symm
      have hinv : Inv P (κ1.take h'.blocks.length) S1 F w' h' (fun c => match c with | .tmp m => if m = 0 then some (val, e) else none | .cell k j => ρ1 (.cell k j)) := by
        refine ⟨hfor.len, hfor.nd, fun k b cs hk hb => ?_, hfor.sIn, hfor.fIn, hfor.fUp, fun c v0 e0 hc0 => ?_, fun c c' v1 v2 e1 e2 hne h1 h2 => ?_⟩
        · obtain ⟨arr, T, g1, g2, g3⟩ := hfor.blk k b cs hk hb
          exact ⟨arr, T, g1, g2, g3⟩
        · cases c with
          | tmp m =>
            simp only at hc0
            split at hc0
            · injection hc0 with hc0; injection hc0 with g1 g2; subst g1 g2
              rw [hval]; exact hfor.own _ _ _ hρ
            · cases hc0
          | cell k j => exact hfor.own _ _ _ hc0
        · cases c with
          | tmp m =>
            simp only at h1
            split at h1
            · injection h1 with h1; injection h1 with g1 g2; subst g1 g2
              cases c' with
              | tmp m' =>
                simp only at h2
                split at h2
                · rename_i q1 q2; exact absurd (by rw [q1, q2]) hne
                · cases h2
              | cell k j => exact hfor.dis (.tmp n) (.cell k j) _ _ _ _ (by simp) (hval ▸ hρ) h2
            · cases h1
          | cell k j =>
            cases c' with
            | tmp m' =>
              simp only at h2
              split at h2
              · injection h2 with h2; injection h2 with g1 g2; subst g1 g2
                exact hfor.dis (.cell k j) (.tmp n) _ _ _ _ (by simp) h1 (hval ▸ hρ)
              · cases h2
            | cell k' j' => exact hfor.dis _ _ _ _ _ _ hne h1 h2
      exact ⟨_, S1, h', _, .ret v' (some e), Ext.forget he1 (by rw [hi.len]; exact hn0), hinv, ⟨hvr', fun e' he' => by injection he' with he'; subst he'; simp⟩, hR⟩
  cases e with
  | normal => exact fin (ASt.enter args h) hq
  | ret => exact fin (ASt.enter args h) hq
  | panic chain =>
    obtain ⟨κ1, S1, s1, ρ1, x, v, he1, hr1, hvr, rfl, hdf, h', L, hh, hn0, hc, hb', hR⟩ := hq
    exact ⟨defs_nil hr1 hdf, _, S1, h', ρ1, .panic x, Ext.forget he1 (by rw [hi.len]; exact hn0), hr1.inv.forget hh hc, hvr.shrink hb', hR⟩
  | exit id =>
    obtain ⟨_, _, _, _, _, _, _, hK⟩ := hq
    exact hK.elim
  | goto l => exact hq.elim
  | outgrown => exact hq.elim

end

variable {P : Program} {T : TT}

theorem tres_sound (hT : TTok P T) {s : TSt} {r : TEnd × THeap} : ∀ {rs : List ResultVar} {K : List TV → Res}, tres T s rs K = some r → ∃ vs, K vs = some r ∧ ressA P s.toA rs = some (vs.map TV.av) := by
  intro rs
  induction rs with
  | nil => intro K h; exact ⟨[], h, rfl⟩
  | cons x rs ih =>
    intro K h
    cases x with
    | tmp t =>
      simp only [tres] at h
      obtain ⟨vs, h1, h2⟩ := ih h
      exact ⟨_, h1, by simp only [ressA, resA, h2, List.map_cons]; rfl⟩
    | cell x t =>
      simp only [tres] at h
      obtain ⟨i, hi, h⟩ := tyOf2_some h
      have ok := hT.at_ hi
      split at h
      · rename_i k off hx
        have hx' : s.toA.tm x = .ptr k off := by simp [TSt.toA, hx, TV.av]
        split at h
        · rename_i b hb
          cases hag : i.agg with
          | true =>
            rw [hag] at h
            obtain ⟨hz, h⟩ := bif_some h
            obtain ⟨vs, h1, h2⟩ := ih h
            refine ⟨_, h1, ?_⟩
            have hrow : s.toA.h.row k off i.size = some (((b.drop off).take i.size).map cA) := row_some hb (Nat.le_of_ble_eq_true hz)
            simp only [ressA, resA, hx', ok.sz, ok.ag, hag, hrow, h2, Option.map_some, List.map_cons, TV.av, avs_eq, List.map_map]
            rfl
          | false =>
            rw [hag] at h
            simp only [_root_.cond_false] at h
            split at h
            · rename_i c hc
              obtain ⟨vs, h1, h2⟩ := ih h
              refine ⟨_, h1, ?_⟩
              have hget : s.toA.h.get k off = some (cA c) := get_some hb hc
              simp only [ressA, resA, hx', ok.sz, ok.ag, hag, hget, h2, Option.map_some, List.map_cons]
              rfl
            · cases h
        · cases h
      · cases h

theorem fulls2_LE (v : TV) : LE v.av v.fulls2.av := by
  cases v with
  | nils c e => exact .nil
  | agg cs => exact fulls_LE (.agg cs)
  | tup cs =>
    simp only [TV.fulls2, TV.av, avs_eq, List.map_map]
    refine .tup (by simp) fun j a b ha hb => ?_
    simp only [List.getElem?_map] at ha hb
    cases hj : cs[j]? with
    | none => simp [hj] at ha
    | some v => simp [hj] at ha hb; subst ha hb; exact fulls_LE v
  | _ => exact .refl _

theorem tcut_sound {n : Nat} {v : TV} {h : THeap} {K : THeap → Res} {r : TEnd × THeap} (hn : n ≤ h.length) (hk : tcut n v h K = some r) : ∃ h' L, K h' = some r ∧ (hA h).blocks = (hA h').blocks ++ L ∧ n ≤ (hA h').blocks.length ∧ Closed (hA h') ∧ Bel (hA h').blocks.length v.av := by
  unfold tcut at hk
  cases hb : allBel n (tptrs v) && hBel n (h.take n) with
  | true =>
    rw [hb] at hk
    simp only [Bool.and_eq_true] at hb
    have hl : (hA (h.take n)).blocks.length = n := by simp [hA]; omega
    refine ⟨h.take n, (hA h).blocks.drop n, hk, by simp [hA, List.map_take], by rw [hl]; exact Nat.le_refl _, ?_, by rw [hl]; exact bel_av fun k hk => allBel_mem hb.1 k hk⟩
    have := closed_take hn hb.2
    have e : (⟨(hA h).blocks.take n⟩ : AHeap) = hA (h.take n) := by simp [hA, List.map_take]
    rw [e] at this
    exact this
  | false =>
    rw [hb] at hk
    simp only [_root_.cond_false] at hk
    obtain ⟨hb, hk⟩ := bif_some hk
    simp only [Bool.and_eq_true] at hb
    have hl : (hA h).blocks.length = h.length := hA_len h
    refine ⟨h, [], hk, by simp, by rw [hl]; exact hn, ?_, by rw [hl]; exact bel_av fun k hk => allBel_mem hb.1 k hk⟩
    have := closed_take (Nat.le_refl h.length) (by rw [List.take_length]; exact hb.2)
    have e : (⟨(hA h).blocks.take h.length⟩ : AHeap) = hA h := by rw [← hl, List.take_length]
    rw [e] at this
    exact this

theorem enterT_look : ∀ (args : List TV) (i t : Nat), tlook (enterT i args) t = if i ≤ t then args.getD (t - i) .raw else .raw
  | [], i, t => by simp [enterT, tlook]
  | v :: r, i, t => by
    simp only [enterT, tlook, enterT_look r (i + 1) t]
    by_cases h : i = t
    · subst h; simp [Nat.beq_refl]
    · have hb : Nat.beq i t = false := by
        cases hb : Nat.beq i t with
        | false => rfl
        | true => exact absurd (Nat.eq_of_beq_eq_true hb) h
      rw [hb]
      by_cases hlt : i ≤ t
      · have h1 : i + 1 ≤ t := by omega
        have h2 : t - i = (t - (i + 1)) + 1 := by omega
        simp [hlt, h1, h2]
      · have h1 : ¬ i + 1 ≤ t := by omega
        simp [hlt, h1]

/-- A body, walked over data: the call's contract. -/
theorem tbody_sound {c : Cfg} (hP : POk P c) {f : FuncId} {fn : Func} {code : Code} {args : List TV} {h h' : THeap} {e : TEnd} (hf : P.funcs[f]? = some fn) (hb : fn.body = some code) (hbel : below fn.ntmps code = true) (hargs : args.length ≤ fn.ntmps) (hn : c.n0 = h.length)
    (hL : LOk c 1 code) (ht : tbody c code fn.results.toList args h = some (e, h')) : ACalls P f (TV.avs args) (hA h) fun ae ah => ae = e.av ∧ ah = hA h' := by
  refine ACalls.of_wp hf hb (by simpa [avs_eq] using hargs) fun κ S F w ρ a hr hκ hN => ?_
  have hent : ASt.enter (TV.avs args) (hA h) = TSt.toA ⟨enterT 0 args, [], h⟩ := by
    simp only [ASt.enter, TSt.toA, ASt.mk.injEq, and_true, true_and]
    refine ⟨?_, rfl⟩
    funext t
    rw [enterT_look]
    simp only [Nat.zero_le, if_true, Nat.sub_zero, avs_eq, List.getD_eq_getElem?_getD, List.getElem?_map]
    cases args[t]? <;> rfl
  rw [hent] at hr
  have hκ' : κ.length = c.n0 := by rw [hκ, hA_len, hn]
  refine wp_mono (trun_sound (κ0 := κ) (S0 := S) (w0 := w) hP hκ' code 1 _ _ _ a w κ S ρ hbel hL ht hr (Ext.refl κ S w) hN) fun ex a' w' hq => ?_
  have hlenA : (hA h).blocks.length = h.length := hA_len h
  have fin : ∀ (te : TX), (te = .normal ∨ te = .ret) → ∀ (κ1 : List Nat) (S1 : Nat → Nat → Prop) (ρ1 : Cls → Option (Value × TypeId)) (ts : TSt), Ext F κ S w κ1 S1 w' → FRel P κ1 S1 F w' ts.toA a' ρ1 → a'.tmps.size = fn.ntmps → tfin c.T fn.results.toList h.length te ts = some (e, h') →
      Later P fn.ntmps κ S F w (abodyPost P fn.results.toList (hA h).blocks.length (fun ae ah => ae = e.av ∧ ah = hA h') .ret) a' w' := by
    intro te hte κ1 S1 ρ1 ts he1 hr1 hN1 hk
    have hbx : h.length ≤ ts.h.length := by
      have := boxes_le hr1 he1
      rw [hκ, hlenA] at this
      simpa [TSt.toA, hA_len] using this
    have hk' : tjoin h.length ts.h.length ⟨resTmps fn.results.toList⟩ ts (fun s => tres c.T s fn.results.toList fun vs => match vs with
      | [v] => match v.fulls2 with
        | v' => tcut h.length v' s.h fun h => some (.ret v' (match fn.results.toList, v with
          | [.tmp t], .slice _ _ => match clook s.cl t with
            | some (.tmp _, e) => some e
            | _ => none
          | _, _ => none), h)
      | vs => match TV.fulls2 (.tup vs) with
        | v => tcut h.length v s.h fun h => some (.ret v none, h)) = some (e, h') := by
      rcases hte with rfl | rfl <;> exact hk
    obtain ⟨s2, ρ2, hk2, hr2, hbx2⟩ := tjoin_sound hk' hr1 hbx
    have he2 := Ext.forget he1 (n := s2.h.length) (by rw [hκ, hlenA]; exact hbx2)
    obtain ⟨vs, hk3, hres⟩ := tres_sound hP.tt hk2
    refine ⟨_, S1, s2.toA, ρ2, he2, hr2, hN1, rfl, ?_⟩
    have hrA : ∀ v, vs = [v] → retA P s2.toA fn.results.toList = some v.av := by
      intro v hv; subst hv; simp only [retA, hres, List.map_cons, List.map_nil]
    split at hk3
    · rename_i v
      obtain ⟨hh, L, hk4, c1, c2, c3, c4⟩ := tcut_sound hbx2 hk3
      simp only [Option.some.injEq, Prod.mk.injEq] at hk4
      obtain ⟨rfl, rfl⟩ := hk4
      refine ⟨v.av, v.fulls2.av, hA hh, L, hrA v rfl, fulls2_LE v, c1, by rw [hlenA]; exact c2, c3, c4, ?_⟩
      split
      · rename_i t c0 l0 hrs
        split
        · rename_i x n0 e0 hcl
          refine .inr ⟨t, e0, hrs, ⟨n0, hcl⟩, ?_, rfl, rfl⟩
          rw [hrs] at hres
          simp only [ressA, resA, List.map_cons, List.map_nil, Option.some.injEq, List.cons.injEq, and_true] at hres
          rw [hres]; rfl
        · exact .inl ⟨rfl, rfl⟩
      · exact .inl ⟨rfl, rfl⟩
    · rename_i hne
      obtain ⟨hh, L, hk4, c1, c2, c3, c4⟩ := tcut_sound hbx2 hk3
      simp only [Option.some.injEq, Prod.mk.injEq] at hk4
      obtain ⟨rfl, rfl⟩ := hk4
      refine ⟨(TV.tup vs).av, (TV.tup vs).fulls2.av, hA hh, L, ?_, fulls2_LE _, c1, by rw [hlenA]; exact c2, c3, c4, .inl ⟨rfl, rfl⟩⟩
      simp only [retA, hres]
      match vs, hne with
      | [], _ => rfl
      | [x], hne => exact absurd rfl (hne x)
      | x :: y :: r, _ => simp only [List.map_cons, TV.av, avs_eq]
  cases ex with
  | normal =>
    obtain ⟨κ1, S1, s1, ρ1, he1, hr1, hN1, te, ts, h1, rfl, hk⟩ := hq
    exact fin te (.inl (TX.normal_of h1)) κ1 S1 ρ1 ts he1 hr1 hN1 hk
  | ret =>
    obtain ⟨κ1, S1, s1, ρ1, he1, hr1, hN1, te, ts, h1, rfl, hk⟩ := hq
    exact fin te (.inr (TX.ret_of h1)) κ1 S1 ρ1 ts he1 hr1 hN1 hk
  | exit i =>
    obtain ⟨κ1, S1, s1, ρ1, he1, hr1, hN1, te, ts, h1, rfl, hk⟩ := hq
    have := TX.exit_of h1
    subst this
    cases hk
  | panic chain =>
    obtain ⟨κ1, S1, s1, ρ1, x, v, he1, hr1, hv, hch, te, ts, h1, rfl, hk⟩ := hq
    obtain ⟨v', rfl, hvx⟩ := TX.panic_of h1
    have hbx : h.length ≤ ts.h.length := by
      have := boxes_le hr1 he1
      rw [hκ, hlenA] at this
      simpa [TSt.toA, hA_len] using this
    have hk' : tcut h.length v' ts.h (fun h => some (.panic v', h)) = some (e, h') := hk
    obtain ⟨hh, L, hk4, c1, c2, c3, c4⟩ := tcut_sound hbx hk'
    simp only [Option.some.injEq, Prod.mk.injEq] at hk4
    obtain ⟨rfl, rfl⟩ := hk4
    exact ⟨κ1, S1, _, ρ1, x, v, he1, hr1, hv, hch, rfl, hA hh, L, c1, by rw [hlenA]; exact c2, c3, by rw [← hvx]; exact c4, by rw [← hvx]; rfl, rfl⟩
  | goto l => exact hq
  | outgrown => exact hq
end Go.AW
end

section
namespace Go.AW

abbrev FSpec := List TV → THeap → (TEnd → THeap → Res) → Res

/-- What is told of the function g is so. -/
def SpOk (P : Program) (g : Nat) (f : FSpec) : Prop := ∀ args h (K : TEnd → THeap → Res) r, f args h K = some r → ∃ e h', K e h' = some r ∧ hasBody P g = true ∧ ACalls P g (TV.avs args) (hA h) fun ae ah => ae = e.av ∧ ah = hA h'

def specs (l : List (Nat × FSpec)) : TSpec := fun g args h K => match aget l g with
  | some f => f args h K
  | none => none

def SpsOk (P : Program) (l : List (Nat × FSpec)) : Prop := ∀ p ∈ l, SpOk P p.1 p.2
theorem SpsOk.nil {P : Program} : SpsOk P [] := fun _ h => by cases h
theorem SpsOk.cons {P : Program} {g : Nat} {f : FSpec} {l : List (Nat × FSpec)} (h : SpOk P g f) (hl : SpsOk P l) : SpsOk P ((g, f) :: l) := by
  intro p hp
  rcases List.mem_cons.1 hp with rfl | hp
  · exact h
  · exact hl p hp

theorem aget_mem {α : Type} : ∀ {l : List (Nat × α)} {t : Nat} {x : α}, aget l t = some x → (t, x) ∈ l
  | [], _, _, h => by cases h
  | (d, v) :: r, t, x, h => by
    simp only [aget] at h
    cases hb : Nat.beq d t with
    | true =>
      rw [hb] at h
      have := Nat.eq_of_beq_eq_true hb
      subst this
      cases h; simp
    | false => rw [hb] at h; exact List.mem_cons_of_mem _ (aget_mem h)

theorem specs_ok {P : Program} {l : List (Nat × FSpec)} (h : SpsOk P l) : CSound P (specs l) := by
  intro g args hp K r hk
  unfold specs at hk
  split at hk
  · rename_i f hf; exact h (g, f) (aget_mem hf) args hp K r hk
  · cases hk

/-- The loops of a piece of code. -/
def loopsOf : Nat → Code → List (Nat × Code)
  | p, .seq a b => loopsOf (2 * p) a ++ loopsOf (2 * p + 1) b
  | p, .cond _ a b => loopsOf (2 * p) a ++ loopsOf (2 * p + 1) b
  | p, .block _ b => loopsOf (2 * p) b
  | p, .loop b => (p, b) :: loopsOf (2 * p) b
  | _, _ => []

def LoopOk (c : Cfg) (p : Nat) (b : Code) : Prop := ∀ f a, aget c.L p = some f → aget c.AL p = some a → ∀ K s r, f K s = some r → ∃ n, tloop p c.n0 s.h.length (trun c (2 * p) b) a K n s = some r
def LoopsOk (c : Cfg) (l : List (Nat × Code)) : Prop := ∀ x ∈ l, LoopOk c x.1 x.2
theorem LoopsOk.nil {c : Cfg} : LoopsOk c [] := fun _ h => by cases h
theorem LoopsOk.cons {c : Cfg} {p : Nat} {b : Code} {l : List (Nat × Code)} (h : LoopOk c p b) (hl : LoopsOk c l) : LoopsOk c ((p, b) :: l) := by
  intro x hx
  rcases List.mem_cons.1 hx with rfl | hx
  · exact h
  · exact hl x hx

theorem lok_of {c : Cfg} : ∀ (code : Code) (p : Nat), LoopsOk c (loopsOf p code) → LOk c p code := by
  intro code
  induction code with
  | seq a b iha ihb => intro p h; exact ⟨iha _ fun x hx => h x (List.mem_append_left _ hx), ihb _ fun x hx => h x (List.mem_append_right _ hx)⟩
  | cond x a b iha ihb => intro p h; exact ⟨iha _ fun x hx => h x (List.mem_append_left _ hx), ihb _ fun x hx => h x (List.mem_append_right _ hx)⟩
  | block i b ih => intro p h; exact ih _ h
  | loop b ih => intro p h; exact ⟨ih _ fun x hx => h x (List.mem_cons_of_mem _ hx), h (p, b) (by simp [loopsOf])⟩
  | skip => intro p _; trivial
  | region _ _ _ => intro p _; trivial
  | exit _ => intro p _; trivial
  | ret => intro p _; trivial
  | rangeFunc _ _ _ _ _ _ => intro p _; trivial
  | scope _ _ => intro p _; trivial
  | label _ => intro p _; trivial
  | goto _ => intro p _; trivial
  | refuse _ => intro p _; trivial

/-- A function's contract, by its walk. -/
theorem fn_ok {P : Program} {c : Cfg} {l : List (Nat × FSpec)} {f : FuncId} {fn : Func} {code : Code} {ls : List (Nat × Code)} {args : List TV} {h h' : THeap} {e : TEnd} (hT : TTok P c.T) (hm : P.follows .mixedOrders = true) (hC : c.C = specs l) (hl : SpsOk P l)
    (hf : P.funcs[f]? = some fn) (hb : fn.body = some code) (hbel : below fn.ntmps code = true) (hargs : args.length ≤ fn.ntmps) (hn : c.n0 = h.length) (hls : loopsOf 1 code = ls) (hL : LoopsOk c ls) (ht : tbody c code fn.results.toList args h = some (e, h')) : ACalls P f (TV.avs args) (hA h) fun ae ah => ae = e.av ∧ ah = hA h' :=
  tbody_sound ⟨hT, by rw [hC]; exact specs_ok hl, hm⟩ hf hb hbel hargs hn (lok_of code 1 (by rw [hls]; exact hL)) ht

end Go.AW
end

section
namespace Go.AW

theorem omatch_some {α : Type} (x : α) (n : Res) (f : α → Res) : omatch (some x) n f = f x := rfl
theorem omatch_none {α : Type} (n : Res) (f : α → Res) : omatch (none : Option α) n f = n := rfl
theorem i64_ok {x : Int} (h1 : -9223372036854775808 ≤ x) (h2 : x ≤ 9223372036854775807) : IntKind.wrap .i64 x = x := wrap_ok h1 h2
theorem i64_succ {i : Nat} (h : i < 4611686018427387904) : IntKind.wrap .i64 ((i : Int) + 1) = ((i + 1 : Nat) : Int) := wrap_succ h
theorem dec_nat (i : Nat) : decide ((0 : Int) ≤ (i : Int)) = true := decide_eq_true (Int.natCast_nonneg i)
theorem dec_lt {i n : Nat} (h : i < n) : decide ((i : Int) < (n : Int)) = true := decide_eq_true (by omega)
theorem dec_nlt {i n : Nat} (h : ¬ i < n) : decide ((i : Int) < (n : Int)) = false := decide_eq_false (by omega)
theorem get_cons {α : Type} {l : List α} {i : Nat} {x : α} {r : List α} (h : l.drop i = x :: r) : i < l.length ∧ l[i]? = some x ∧ l.drop (i + 1) = r := by
  have hlt : i < l.length := by
    rcases Nat.lt_or_ge i l.length with h' | h'
    · exact h'
    · rw [List.drop_eq_nil_of_le h'] at h; cases h
  rw [List.drop_eq_getElem_cons hlt] at h
  cases h
  exact ⟨hlt, List.getElem?_eq_getElem hlt, rfl⟩
theorem get_nil {α : Type} {l : List α} {i : Nat} (h : l.drop i = []) : ¬ i < l.length := by
  intro h'
  rw [List.drop_eq_getElem_cons h'] at h; cases h
/-- One round of a loop over a list's places: the place lies in it. -/
theorem toNat_cast (i : Nat) : Int.toNat (i : Int) = i := rfl
theorem room {a b z : Nat} (h1 : (a + b) * z ≤ 140737488355328) (h2 : a + b ≤ 9223372036854775807) : decide ((a + b) * z ≤ 140737488355328 ∧ a + b ≤ 9223372036854775807) = true := decide_eq_true ⟨h1, h2⟩
end Go.AW
end

section
namespace Go.AW

inductive Pay where
  | b (x : Bool)
  | i (x : Int)
  | s (x : List UInt8)
  | l (c : TC) (x : List (den c))

inductive PT where
  | b | i | s
  | l (c : TC)
@[reducible] def PT.T : PT → Type
  | .b => Bool
  | .i => Int
  | .s => List UInt8
  | .l c => List (den c)

@[reducible] def PFn : List PT → Type
  | [] => Res
  | t :: r => t.T → PFn r
@[reducible] def PTup : List PT → Type
  | [] => Unit
  | t :: r => t.T × PTup r

def papp : (ts : List PT) → PFn ts → List Pay → Res
  | [], f, [] => f
  | .b :: r, f, .b x :: ps => papp r (f x) ps
  | .i :: r, f, .i x :: ps => papp r (f x) ps
  | .s :: r, f, .s x :: ps => papp r (f x) ps
  | .l c :: r, f, .l c' x :: ps => if h : c' = c then papp r (f (h ▸ x)) ps else none
  | _, _, _ => none

def papply : (ts : List PT) → PFn ts → PTup ts → Res
  | [], f, _ => f
  | _ :: r, f, (x, a) => papply r (f x) a

def pays1 : (t : PT) → t.T → Pay
  | .b, x => .b x
  | .i, x => .i x
  | .s, x => .s x
  | .l c, x => .l c x
def ptoPays : (ts : List PT) → PTup ts → List Pay
  | [], _ => []
  | t :: r, (x, a) => pays1 t x :: ptoPays r a

theorem papp_some : ∀ {ts : List PT} {f : PFn ts} {ps : List Pay} {r : TEnd × THeap}, papp ts f ps = some r → ∃ a : PTup ts, ps = ptoPays ts a ∧ papply ts f a = some r
  | [], f, [], r, h => ⟨(), rfl, h⟩
  | [], f, _ :: _, r, h => by cases h
  | .b :: ts, f, ps, r, h => by
    match ps, h with
    | .b x :: ps, h => obtain ⟨a, h1, h2⟩ := papp_some (ts := ts) (f := f x) h; exact ⟨(x, a), by rw [h1]; rfl, h2⟩
  | .i :: ts, f, ps, r, h => by
    match ps, h with
    | .i x :: ps, h => obtain ⟨a, h1, h2⟩ := papp_some (ts := ts) (f := f x) h; exact ⟨(x, a), by rw [h1]; rfl, h2⟩
  | .s :: ts, f, ps, r, h => by
    match ps, h with
    | .s x :: ps, h => obtain ⟨a, h1, h2⟩ := papp_some (ts := ts) (f := f x) h; exact ⟨(x, a), by rw [h1]; rfl, h2⟩
  | .l c :: ts, f, ps, r, h => by
    match ps, h with
    | .l c' x :: ps, h =>
      simp only [papp] at h
      split at h
      · rename_i hc
        subst hc
        obtain ⟨a, h1, h2⟩ := papp_some (ts := ts) (f := f x) h
        exact ⟨(x, a), by rw [h1]; rfl, h2⟩
      · cases h

def oeq : Option Nat → Option Nat → Bool
  | none, none => true
  | some a, some b => Nat.beq a b
  | _, _ => false

mutual
/-- The second is of the first's shape. -/
def shTV : TV → TV → Bool
  | .bool _, v => match v with | .bool _ => true | _ => false
  | .int k _, v => match v with | .int k' _ => ikeq k k' | _ => false
  | .str _, v => match v with | .str _ => true | _ => false
  | .nilptr, v => match v with | .nilptr => true | _ => false
  | .ptr k o, v => match v with | .ptr k' o' => Nat.beq k k' && Nat.beq o o' | _ => false
  | .vptr a, v => match v with | .vptr b => shTVs a b | _ => false
  | .nils c e, v => match v with | .nils c' e' => decide (c = c') && Nat.beq e e' | _ => false
  | .slice c _, v => match v with | .slice c' _ => decide (c = c') | _ => false
  | .func f a b, v => match v with | .func f' a' b' => Nat.beq f f' && shTVs a a' && shTVs b b' | _ => false
  | .nilFunc, v => match v with | .nilFunc => true | _ => false
  | .iface t x, v => match v with | .iface t' y => Nat.beq t t' && shTV x y | _ => false
  | .nilIface, v => match v with | .nilIface => true | _ => false
  | .agg a, v => match v with | .agg b => shTVs a b | _ => false
  | .tup a, v => match v with | .tup b => shTVs a b | _ => false
  | .raw, v => match v with | .raw => true | _ => false
def shTVs : List TV → List TV → Bool
  | [], l => match l with | [] => true | _ => false
  | x :: a, l => match l with | y :: b => shTV x y && shTVs a b | [] => false
end

mutual
def payTV : TV → List Pay
  | .bool x => [.b x]
  | .int _ x => [.i x]
  | .str x => [.s x]
  | .slice c x => [.l c x]
  | .vptr a => payTVs a
  | .func _ a b => payTVs a ++ payTVs b
  | .iface _ x => payTV x
  | .agg a => payTVs a
  | .tup a => payTVs a
  | .nilptr | .ptr _ _ | .nils _ _ | .nilFunc | .nilIface | .raw => []
def payTVs : List TV → List Pay
  | [] => []
  | x :: r => payTV x ++ payTVs r
end

mutual
theorem sh_len : ∀ (t v v' : TV), shTV t v = true → shTV t v' = true → (payTV v).length = (payTV v').length
  | .bool _, v, v', h, h' => by cases v <;> cases v' <;> simp_all [shTV, payTV]
  | .int _ _, v, v', h, h' => by cases v <;> cases v' <;> simp_all [shTV, payTV]
  | .str _, v, v', h, h' => by cases v <;> cases v' <;> simp_all [shTV, payTV]
  | .nilptr, v, v', h, h' => by cases v <;> cases v' <;> simp_all [shTV, payTV]
  | .ptr _ _, v, v', h, h' => by cases v <;> cases v' <;> simp_all [shTV, payTV]
  | .nils _ _, v, v', h, h' => by cases v <;> cases v' <;> simp_all [shTV, payTV]
  | .slice _ _, v, v', h, h' => by cases v <;> cases v' <;> simp_all [shTV, payTV]
  | .nilFunc, v, v', h, h' => by cases v <;> cases v' <;> simp_all [shTV, payTV]
  | .nilIface, v, v', h, h' => by cases v <;> cases v' <;> simp_all [shTV, payTV]
  | .raw, v, v', h, h' => by cases v <;> cases v' <;> simp_all [shTV, payTV]
  | .vptr a, v, v', h, h' => by
    cases v <;> first | (simp [shTV] at h; done) | skip
    cases v' <;> first | (simp [shTV] at h'; done) | skip
    simp only [shTV] at h h'
    exact sh_lens a _ _ h h'
  | .agg a, v, v', h, h' => by
    cases v <;> first | (simp [shTV] at h; done) | skip
    cases v' <;> first | (simp [shTV] at h'; done) | skip
    simp only [shTV] at h h'
    exact sh_lens a _ _ h h'
  | .tup a, v, v', h, h' => by
    cases v <;> first | (simp [shTV] at h; done) | skip
    cases v' <;> first | (simp [shTV] at h'; done) | skip
    simp only [shTV] at h h'
    exact sh_lens a _ _ h h'
  | .iface t x, v, v', h, h' => by
    cases v <;> first | (simp [shTV] at h; done) | skip
    cases v' <;> first | (simp [shTV] at h'; done) | skip
    simp only [shTV, Bool.and_eq_true] at h h'
    simp only [payTV]
    exact sh_len x _ _ h.2 h'.2
  | .func f a b, v, v', h, h' => by
    cases v <;> first | (simp [shTV] at h; done) | skip
    cases v' <;> first | (simp [shTV] at h'; done) | skip
    simp only [shTV, Bool.and_eq_true] at h h'
    simp only [payTV, List.length_append]
    rw [sh_lens a _ _ h.1.2 h'.1.2, sh_lens b _ _ h.2 h'.2]
theorem sh_lens : ∀ (t l l' : List TV), shTVs t l = true → shTVs t l' = true → (payTVs l).length = (payTVs l').length
  | [], l, l', h, h' => by cases l <;> cases l' <;> simp_all [shTVs, payTVs]
  | x :: a, l, l', h, h' => by
    cases l <;> first | (simp [shTVs] at h; done) | skip
    cases l' <;> first | (simp [shTVs] at h'; done) | skip
    simp only [shTVs, Bool.and_eq_true] at h h'
    simp only [payTVs, List.length_append]
    rw [sh_len x _ _ h.1 h'.1, sh_lens a _ _ h.2 h'.2]
end

mutual
theorem sh_inj : ∀ (t v v' : TV), shTV t v = true → shTV t v' = true → payTV v = payTV v' → v = v'
  | .bool _, v, v', h, h', hp => by cases v <;> cases v' <;> simp_all [shTV, payTV]
  | .int _ _, v, v', h, h', hp => by
    cases v <;> first | (simp [shTV] at h; done) | skip
    cases v' <;> first | (simp [shTV] at h'; done) | skip
    simp only [shTV] at h h'
    simp only [payTV, List.cons.injEq, Pay.i.injEq, and_true] at hp
    rw [← ikeq_eq h, ← ikeq_eq h', hp]
  | .str _, v, v', h, h', hp => by cases v <;> cases v' <;> simp_all [shTV, payTV]
  | .nilptr, v, v', h, h', hp => by cases v <;> cases v' <;> simp_all [shTV, payTV]
  | .ptr k o, v, v', h, h', hp => by
    cases v <;> first | (simp [shTV] at h; done) | skip
    cases v' <;> first | (simp [shTV] at h'; done) | skip
    simp only [shTV, Bool.and_eq_true] at h h'
    rw [← Nat.eq_of_beq_eq_true h.1, ← Nat.eq_of_beq_eq_true h.2, ← Nat.eq_of_beq_eq_true h'.1, ← Nat.eq_of_beq_eq_true h'.2]
  | .nils c e, v, v', h, h', hp => by
    cases v <;> first | (simp [shTV] at h; done) | skip
    cases v' <;> first | (simp [shTV] at h'; done) | skip
    simp only [shTV, Bool.and_eq_true, decide_eq_true_eq] at h h'
    rw [← h.1, ← h'.1, ← Nat.eq_of_beq_eq_true h.2, ← Nat.eq_of_beq_eq_true h'.2]
  | .slice c _, v, v', h, h', hp => by
    cases v <;> first | (simp [shTV] at h; done) | skip
    cases v' <;> first | (simp [shTV] at h'; done) | skip
    simp only [shTV, decide_eq_true_eq] at h h'
    subst h
    subst h'
    simp only [payTV, List.cons.injEq, Pay.l.injEq, heq_eq_eq, true_and, and_true] at hp
    rw [hp]
  | .nilFunc, v, v', h, h', hp => by cases v <;> cases v' <;> simp_all [shTV, payTV]
  | .nilIface, v, v', h, h', hp => by cases v <;> cases v' <;> simp_all [shTV, payTV]
  | .raw, v, v', h, h', hp => by cases v <;> cases v' <;> simp_all [shTV, payTV]
  | .vptr a, v, v', h, h', hp => by
    cases v <;> first | (simp [shTV] at h; done) | skip
    cases v' <;> first | (simp [shTV] at h'; done) | skip
    simp only [shTV] at h h'
    rw [sh_injs a _ _ h h' hp]
  | .agg a, v, v', h, h', hp => by
    cases v <;> first | (simp [shTV] at h; done) | skip
    cases v' <;> first | (simp [shTV] at h'; done) | skip
    simp only [shTV] at h h'
    rw [sh_injs a _ _ h h' hp]
  | .tup a, v, v', h, h', hp => by
    cases v <;> first | (simp [shTV] at h; done) | skip
    cases v' <;> first | (simp [shTV] at h'; done) | skip
    simp only [shTV] at h h'
    rw [sh_injs a _ _ h h' hp]
  | .iface t x, v, v', h, h', hp => by
    cases v <;> first | (simp [shTV] at h; done) | skip
    cases v' <;> first | (simp [shTV] at h'; done) | skip
    simp only [shTV, Bool.and_eq_true] at h h'
    simp only [payTV] at hp
    rw [sh_inj x _ _ h.2 h'.2 hp, ← Nat.eq_of_beq_eq_true h.1, ← Nat.eq_of_beq_eq_true h'.1]
  | .func f a b, v, v', h, h', hp => by
    cases v <;> first | (simp [shTV] at h; done) | skip
    cases v' <;> first | (simp [shTV] at h'; done) | skip
    simp only [shTV, Bool.and_eq_true] at h h'
    simp only [payTV] at hp
    obtain ⟨h1, h2⟩ := List.append_inj hp (sh_lens a _ _ h.1.2 h'.1.2)
    rw [sh_injs a _ _ h.1.2 h'.1.2 h1, sh_injs b _ _ h.2 h'.2 h2, ← Nat.eq_of_beq_eq_true h.1.1, ← Nat.eq_of_beq_eq_true h'.1.1]
theorem sh_injs : ∀ (t l l' : List TV), shTVs t l = true → shTVs t l' = true → payTVs l = payTVs l' → l = l'
  | [], l, l', h, h', hp => by cases l <;> cases l' <;> simp_all [shTVs]
  | x :: a, l, l', h, h', hp => by
    cases l <;> first | (simp [shTVs] at h; done) | skip
    cases l' <;> first | (simp [shTVs] at h'; done) | skip
    simp only [shTVs, Bool.and_eq_true] at h h'
    simp only [payTVs] at hp
    obtain ⟨h1, h2⟩ := List.append_inj hp (sh_len x _ _ h.1 h'.1)
    rw [sh_inj x _ _ h.1 h'.1 h1, sh_injs a _ _ h.2 h'.2 h2]
end

def shTm : List (Nat × TV) → List (Nat × TV) → Bool
  | [], l => match l with | [] => true | _ => false
  | (k, x) :: a, l => match l with | (k', y) :: b => Nat.beq k k' && shTV x y && shTm a b | [] => false
def payTm : List (Nat × TV) → List Pay
  | [] => []
  | (_, x) :: r => payTV x ++ payTm r
theorem shTm_len : ∀ (t l l' : List (Nat × TV)), shTm t l = true → shTm t l' = true → (payTm l).length = (payTm l').length
  | [], l, l', h, h' => by cases l <;> cases l' <;> simp_all [shTm, payTm]
  | (k, x) :: a, l, l', h, h' => by
    cases l <;> first | (simp [shTm] at h; done) | skip
    cases l' <;> first | (simp [shTm] at h'; done) | skip
    simp only [shTm, Bool.and_eq_true] at h h'
    simp only [payTm, List.length_append]
    rw [sh_len x _ _ h.1.2 h'.1.2, shTm_len a _ _ h.2 h'.2]
theorem shTm_inj : ∀ (t l l' : List (Nat × TV)), shTm t l = true → shTm t l' = true → payTm l = payTm l' → l = l'
  | [], l, l', h, h', hp => by cases l <;> cases l' <;> simp_all [shTm]
  | (k, x) :: a, l, l', h, h', hp => by
    cases l <;> first | (simp [shTm] at h; done) | skip
    cases l' <;> first | (simp [shTm] at h'; done) | skip
    rename_i p r p' r'
    obtain ⟨p1, p2⟩ := p
    obtain ⟨q1, q2⟩ := p'
    simp only [shTm, Bool.and_eq_true] at h h'
    simp only [payTm] at hp
    obtain ⟨h1, h2⟩ := List.append_inj hp (sh_len x _ _ h.1.2 h'.1.2)
    rw [sh_inj x _ _ h.1.2 h'.1.2 h1, shTm_inj a _ _ h.2 h'.2 h2, ← Nat.eq_of_beq_eq_true h.1.1, ← Nat.eq_of_beq_eq_true h'.1.1]

def shC : List TCell → List TCell → Bool
  | [], l => match l with | [] => true | _ => false
  | x :: a, l => match l with | y :: b => shTV x.v y.v && oeq x.o y.o && shC a b | [] => false
def payC : List TCell → List Pay
  | [] => []
  | x :: r => payTV x.v ++ payC r
theorem oeq_eq {a b : Option Nat} (h : oeq a b = true) : a = b := by
  cases a <;> cases b <;> simp [oeq] at h
  · rfl
  · rw [h]
theorem shC_len : ∀ (t l l' : List TCell), shC t l = true → shC t l' = true → (payC l).length = (payC l').length
  | [], l, l', h, h' => by cases l <;> cases l' <;> simp_all [shC, payC]
  | x :: a, l, l', h, h' => by
    cases l <;> first | (simp [shC] at h; done) | skip
    cases l' <;> first | (simp [shC] at h'; done) | skip
    simp only [shC, Bool.and_eq_true] at h h'
    simp only [payC, List.length_append]
    rw [sh_len x.v _ _ h.1.1 h'.1.1, shC_len a _ _ h.2 h'.2]
theorem shC_inj : ∀ (t l l' : List TCell), shC t l = true → shC t l' = true → payC l = payC l' → l = l'
  | [], l, l', h, h', hp => by cases l <;> cases l' <;> simp_all [shC]
  | x :: a, l, l', h, h', hp => by
    cases l <;> first | (simp [shC] at h; done) | skip
    cases l' <;> first | (simp [shC] at h'; done) | skip
    rename_i p r p' r'
    obtain ⟨p1, p2⟩ := p
    obtain ⟨q1, q2⟩ := p'
    simp only [shC, Bool.and_eq_true] at h h'
    simp only [payC] at hp
    obtain ⟨h1, h2⟩ := List.append_inj hp (sh_len x.v _ _ h.1.1 h'.1.1)
    rw [sh_inj x.v _ _ h.1.1 h'.1.1 h1, shC_inj a _ _ h.2 h'.2 h2, ← oeq_eq h.1.2, ← oeq_eq h'.1.2]

def shH : THeap → THeap → Bool
  | [], l => match l with | [] => true | _ => false
  | x :: a, l => match l with | y :: b => shC x y && shH a b | [] => false
def payH : THeap → List Pay
  | [] => []
  | x :: r => payC x ++ payH r
theorem shH_inj : ∀ (t l l' : THeap), shH t l = true → shH t l' = true → payH l = payH l' → l = l'
  | [], l, l', h, h', hp => by cases l <;> cases l' <;> simp_all [shH]
  | x :: a, l, l', h, h', hp => by
    cases l <;> first | (simp [shH] at h; done) | skip
    cases l' <;> first | (simp [shH] at h'; done) | skip
    simp only [shH, Bool.and_eq_true] at h h'
    simp only [payH] at hp
    obtain ⟨h1, h2⟩ := List.append_inj hp (shC_len x _ _ h.1 h'.1)
    rw [shC_inj x _ _ h.1 h'.1 h1, shH_inj a _ _ h.2 h'.2 h2]

def clsEq : Cls → Cls → Bool
  | .tmp n, .tmp m => Nat.beq n m
  | .cell k j, .cell k' j' => Nat.beq k k' && Nat.beq j j'
  | _, _ => false
theorem clsEq_eq {a b : Cls} (h : clsEq a b = true) : a = b := by
  cases a <;> cases b <;> simp only [clsEq, Bool.and_eq_true] at h <;> first
    | cases h; done
    | rw [Nat.eq_of_beq_eq_true h]
    | rw [Nat.eq_of_beq_eq_true h.1, Nat.eq_of_beq_eq_true h.2]
def shCl : List (Nat × Option (Cls × TypeId)) → List (Nat × Option (Cls × TypeId)) → Bool
  | [], [] => true
  | (k, none) :: a, (k', none) :: b => Nat.beq k k' && shCl a b
  | (k, some (c, e)) :: a, (k', some (c', e')) :: b => Nat.beq k k' && clsEq c c' && Nat.beq e e' && shCl a b
  | _, _ => false
theorem shCl_eq : ∀ {a b : List (Nat × Option (Cls × TypeId))}, shCl a b = true → a = b
  | [], [], _ => rfl
  | [], _ :: _, h => by cases h
  | (k, none) :: a, [], h => by cases h
  | (k, some x) :: a, [], h => by cases h
  | (k, none) :: a, (k', none) :: b, h => by
    simp only [shCl, Bool.and_eq_true] at h
    rw [Nat.eq_of_beq_eq_true h.1, shCl_eq h.2]
  | (k, none) :: a, (k', some x) :: b, h => by cases h
  | (k, some (c, e)) :: a, (k', none) :: b, h => by cases h
  | (k, some (c, e)) :: a, (k', some (c', e')) :: b, h => by
    simp only [shCl, Bool.and_eq_true] at h
    rw [Nat.eq_of_beq_eq_true h.1.1.1, clsEq_eq h.1.1.2, Nat.eq_of_beq_eq_true h.1.2, shCl_eq h.2]

def shSt (t s : TSt) : Bool := shTm t.tm s.tm && shCl t.cl s.cl && shH t.h s.h
def paySt (s : TSt) : List Pay := payTm s.tm ++ payH s.h
theorem shSt_inj {t s s' : TSt} (h : shSt t s = true) (h' : shSt t s' = true) (hp : paySt s = paySt s') : s = s' := by
  simp only [shSt, Bool.and_eq_true] at h h'
  obtain ⟨tm, cl, hh⟩ := s
  obtain ⟨tm', cl', hh'⟩ := s'
  simp only [paySt] at hp
  obtain ⟨h1, h2⟩ := List.append_inj hp (shTm_len _ _ _ h.1.1 h'.1.1)
  simp only at h h'
  rw [shTm_inj _ _ _ h.1.1 h'.1.1 h1, ← shCl_eq h.1.2, ← shCl_eq h'.1.2, shH_inj _ _ _ h.2 h'.2 h2]

/-- A handler: of frames of this shape alone. -/
def hand (t : TSt) (ts : List PT) (f : (TX → TSt → Res) → PFn ts) : Handler := fun K s => bif shSt t s then papp ts (f K) (paySt s) else none

theorem hand_some {t : TSt} {ts : List PT} {f : (TX → TSt → Res) → PFn ts} {K : TX → TSt → Res} {s : TSt} {r : TEnd × THeap} (h : hand t ts f K s = some r) : shSt t s = true ∧ ∃ a : PTup ts, paySt s = ptoPays ts a ∧ papply ts (f K) a = some r := by
  obtain ⟨h1, h2⟩ := bif_some h
  exact ⟨h1, papp_some h2⟩

end Go.AW
end
