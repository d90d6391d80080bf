/-  -/
import Derived.Test.YtemfgkhholobgaaGreatDoorCD
import Derived.Test.YtemfgkhholobgaaGreatDoorProg
import Derived.KernelRfl
set_option maxRecDepth 100000
set_option linter.unusedVariables false
namespace Go.Proofs.W
open Go Go.Shal
theorem callOK : CallOK Tryz.prog := callFunc_ok (by kernel_rfl)
theorem mixed : Tryz.prog.follows .mixedOrders = true := by kernel_rfl
/-- copyhold/copyholdlaw06.Great -/
def law06_Great.C (x0_0 : Int) (x0_1 : Sl) (Q : Bool → PP) : PP := callT Tryz.prog 69 #[.agg #[.int .u64 x0_0, .slice x0_1.p x0_1.len x0_1.cap]] [.sc .bool] Q
/-- copyhold/copyholdlaw05.GreatCrash -/
def law05_GreatCrash.C (x0_0 : Int) (x0_1 : Sl) (x0_2 : Sl) (Q : Bool → PP) : PP := callT Tryz.prog 140 #[.agg #[.int .i64 x0_0, .slice x0_1.p x0_1.len x0_1.cap, .slice x0_2.p x0_2.len x0_2.cap]] [.sc .bool] Q
/-- copyhold/copyholdlaw05.Great -/
def law05_Great.C (x0 : Sl) (Q : Bool → PP) : PP := callT Tryz.prog 70 #[.slice x0.p x0.len x0.cap] [.sc .bool] Q
/-- copyhold/copyholdlaw07.Great -/
def law07_Great.C (x0 : Sl) (Q : Bool → PP) : PP := callT Tryz.prog 12 #[.slice x0.p x0.len x0.cap] [.sc .bool] Q
/-- copyhold/disk.New -/
def disk_New.C (x0 : Int) (Q : (Option Addr) → PP) : PP := callT Tryz.prog 14 #[.int .i64 x0] [.sc .ptr] Q
/-- internal/strconv.small -/
def internal_strconv_small.C (x0 : Int) (Q : Bytes → PP) : PP := callT Tryz.prog 268 #[.int .i64 x0] [.sc .str] Q
/-- math/bits.Len64 -/
def math_bits_Len64.C (x0 : Int) (Q : Int → PP) : PP := callT Tryz.prog 240 #[.int .u64 x0] [.sc (.int .i64)] Q
/-- internal/strconv.numDigits -/
def internal_strconv_numDigits.C (x0 : Int) (Q : Int → PP) : PP := callT Tryz.prog 269 #[.int .u64 x0] [.sc (.int .i64)] Q
/-- internal/strconv.formatBase10 -/
def internal_strconv_formatBase10.C (x0 : Sl) (x1 : Int) (Q : PP) : PP := callT Tryz.prog 270 #[.slice x0.p x0.len x0.cap, .int .u64 x1] [] Q
/-- internal/strconv.formatBits -/
def internal_strconv_formatBits.C (x0 : Sl) (x1 : Int) (x2 : Int) (x3 : Bool) (x4 : Bool) (Q : Sl → Bytes → PP) : PP := callT Tryz.prog 271 #[.slice x0.p x0.len x0.cap, .int .u64 x1, .int .i64 x2, .bool x3, .bool x4] [.sc .slice, .sc .str] Q
/-- internal/strconv.FormatUint -/
def internal_strconv_FormatUint.C (x0 : Int) (x1 : Int) (Q : Bytes → PP) : PP := callT Tryz.prog 183 #[.int .u64 x0, .int .i64 x1] [.sc .str] Q
/-- strconv.FormatUint -/
def strconv_FormatUint.C (x0 : Int) (x1 : Int) (Q : Bytes → PP) : PP := callT Tryz.prog 119 #[.int .u64 x0, .int .i64 x1] [.sc .str] Q
/-- (*strings.Builder).copyCheck -/
def strings_Builder_copyCheck.C (x0 : Option Addr) (Q : PP) : PP := callT Tryz.prog 275 #[.pointer x0] [] Q
/-- (*strings.Builder).WriteString -/
def strings_Builder_WriteString.C (x0 : Option Addr) (x1 : Bytes) (Q : Int → Value → PP) : PP := callT Tryz.prog 187 #[.pointer x0, .string (bs x1)] [.sc (.int .i64), .sc .any] Q
/-- (*strings.Builder).Len -/
def strings_Builder_Len.C (x0 : Option Addr) (Q : Int → PP) : PP := callT Tryz.prog 188 #[.pointer x0] [.sc (.int .i64)] Q
/-- (*strings.Builder).String -/
def strings_Builder_String.C (x0 : Option Addr) (Q : Bytes → PP) : PP := callT Tryz.prog 189 #[.pointer x0] [.sc .str] Q
/-- strings.Repeat -/
def strings_Repeat.C (x0 : Bytes) (x1 : Int) (Q : Bytes → PP) : PP := callT Tryz.prog 120 #[.string (bs x0), .int .i64 x1] [.sc .str] Q
/-- copyhold/disk.Name -/
def disk_Name.C (x0 : Bytes) (x1 : Int) (Q : Bytes → PP) : PP := callT Tryz.prog 43 #[.string (bs x0), .int .u64 x1] [.sc .str] Q
/-- (*copyhold/disk.Disk).none -/
def disk_Disk_none.C (x0 : Option Addr) (Q : Bool → PP) : PP := callT Tryz.prog 99 #[.pointer x0] [.sc .bool] Q
/-- (*copyhold/disk.Disk).power -/
def disk_Disk_power.C (x0 : Option Addr) (Q : Int → PP) : PP := callT Tryz.prog 125 #[.pointer x0] [.sc (.int .i64)] Q
/-- (*copyhold/disk.Disk).file -/
def disk_Disk_file.C (x0 : Option Addr) (x1 : Bytes) (Q : (Option Addr) → Int → PP) : PP := callT Tryz.prog 95 #[.pointer x0, .string (bs x1)] [.sc .ptr, .sc (.int .i64)] Q
/-- slices.IndexFunc[[]byte,byte] -/
def slices_IndexFunc_byte_byte.C (x0 : Sl) (x1 : Value) (Q : Int → PP) : PP := callT Tryz.prog 246 #[.slice x0.p x0.len x0.cap, x1] [.sc (.int .i64)] Q
/-- slices.ContainsFunc[[]byte,byte] -/
def slices_ContainsFunc_byte_byte.C (x0 : Sl) (x1 : Value) (Q : Bool → PP) : PP := callT Tryz.prog 168 #[.slice x0.p x0.len x0.cap, x1] [.sc .bool] Q
/-- copyhold/disk.right$1 -/
def disk_right_1.C (x0 : Int) (Q : Bool → PP) : PP := callT Tryz.prog 169 #[.int .u8 x0] [.sc .bool] Q
/-- copyhold/disk.right -/
def disk_right.C (x0 : Bytes) (Q : Bool → PP) : PP := callT Tryz.prog 96 #[.string (bs x0)] [.sc .bool] Q
/-- (*copyhold/disk.Disk).burns -/
def disk_Disk_burns.C (x0 : Option Addr) (Q : Int → PP) : PP := callT Tryz.prog 98 #[.pointer x0] [.sc (.int .i64)] Q
/-- (copyhold/disk.change).does -/
def disk_change_does.C (x0_0 : Bytes) (x0_1 : Bytes) (x0_2 : Option Addr) (x1 : Option Nat) (Q : PP) : PP := callT Tryz.prog 127 #[.agg #[.string (bs x0_0), .string (bs x0_1), .pointer x0_2], .map x1] [] Q
/-- (*copyhold/disk.Disk).changed -/
def disk_Disk_changed.C (x0 : Option Addr) (x1_0 : Bytes) (x1_1 : Bytes) (x1_2 : Option Addr) (Q : Int → PP) : PP := callT Tryz.prog 97 #[.pointer x0, .agg #[.string (bs x1_0), .string (bs x1_1), .pointer x1_2]] [.sc (.int .i64)] Q
/-- (*copyhold/disk.Disk).Create -/
def disk_Disk_Create.C (x0 : Option Addr) (x1 : Bytes) (Q : Int → PP) : PP := callT Tryz.prog 26 #[.pointer x0, .string (bs x1)] [.sc (.int .i64)] Q
/-- maps.Clone[map[string]*copyhold/disk.file,string,*copyhold/disk.file] -/
def maps_Clone_map_string_disk_file_string_disk_file.C (x0 : Option Nat) (Q : (Option Nat) → PP) : PP := callT Tryz.prog 126 #[.map x0] [.sc .map] Q
/-- (*copyhold/disk.Disk).DirSync -/
def disk_Disk_DirSync.C (x0 : Option Addr) (Q : Int → PP) : PP := callT Tryz.prog 55 #[.pointer x0] [.sc (.int .i64)] Q
/-- (*copyhold/disk.Disk).Used -/
def disk_Disk_Used.C (x0 : Option Addr) (Q : Int → PP) : PP := callT Tryz.prog 28 #[.pointer x0] [.sc (.int .i64)] Q
/-- (*copyhold/disk.Disk).Append -/
def disk_Disk_Append.C (x0 : Option Addr) (x1 : Bytes) (x2 : Bytes) (Q : Int → PP) : PP := callT Tryz.prog 27 #[.pointer x0, .string (bs x1), .string (bs x2)] [.sc (.int .i64)] Q
/-- (*copyhold/disk.Disk).Sync -/
def disk_Disk_Sync.C (x0 : Option Addr) (x1 : Bytes) (Q : Int → PP) : PP := callT Tryz.prog 54 #[.pointer x0, .string (bs x1)] [.sc (.int .i64)] Q
/-- copyhold/wal.Begin -/
def wal_Begin.C (x0 : Option Addr) (x1 : Int) (Q : (Option Addr) → Int → PP) : PP := callT Tryz.prog 71 #[.pointer x0, .int .u64 x1] [.sc .ptr, .sc (.int .i64)] Q
/-- (*copyhold/wal.Log).none -/
def wal_Log_none.C (x0 : Option Addr) (Q : Bool → PP) : PP := callT Tryz.prog 85 #[.pointer x0] [.sc .bool] Q
/-- (*copyhold/wal.Log).N -/
def wal_Log_N.C (x0 : Option Addr) (Q : Int → PP) : PP := callT Tryz.prog 19 #[.pointer x0] [.sc (.int .u64)] Q
/-- copyhold/copyholdlaw07.small -/
def law07_small.C (x0 : Int) (Q : Int → Sl → PP) : PP := callT Tryz.prog 73 #[.int .u64 x0] [.agg [.int .u64, .slice]] Q
/-- slices.IndexFunc[[]copyhold/api.Op,copyhold/api.Op] -/
def slices_IndexFunc_api_Op_api_Op.C (x0 : Sl) (x1 : Value) (Q : Int → PP) : PP := callT Tryz.prog 353 #[.slice x0.p x0.len x0.cap, x1] [.sc (.int .i64)] Q
/-- slices.ContainsFunc[[]copyhold/api.Op,copyhold/api.Op] -/
def slices_ContainsFunc_api_Op_api_Op.C (x0 : Sl) (x1 : Value) (Q : Bool → PP) : PP := callT Tryz.prog 298 #[.slice x0.p x0.len x0.cap, x1] [.sc .bool] Q
/-- copyhold/batch.long -/
def batch_long.C (x0_0 : Bytes) (x0_1 : Bytes) (x0_2 : Bool) (Q : Bool → PP) : PP := callT Tryz.prog 299 #[.agg #[.string (bs x0_0), .string (bs x0_1), .bool x0_2]] [.sc .bool] Q
/-- (copyhold/batch.Batch).Last -/
def batch_Batch_Last.C (x0_0 : Int) (x0_1 : Sl) (Q : Int → PP) : PP := callT Tryz.prog 300 #[.agg #[.int .u64 x0_0, .slice x0_1.p x0_1.len x0_1.cap]] [.sc (.int .u64)] Q
/-- copyhold/batch.bad -/
def batch_bad.C (x0_0 : Bytes) (x0_1 : Bytes) (x0_2 : Bool) (Q : Bool → PP) : PP := callT Tryz.prog 301 #[.agg #[.string (bs x0_0), .string (bs x0_1), .bool x0_2]] [.sc .bool] Q
/-- copyhold/batch.Check -/
def batch_Check.C (x0_0 : Int) (x0_1 : Sl) (Q : Int → PP) : PP := callT Tryz.prog 212 #[.agg #[.int .u64 x0_0, .slice x0_1.p x0_1.len x0_1.cap]] [.sc (.int .i64)] Q
/-- copyhold/num.behind -/
def num_behind.C (x0 : Int) (Q : Int → PP) : PP := callT Tryz.prog 302 #[.int .u64 x0] [.sc (.int .i64)] Q
/-- copyhold/num.put -/
def num_put.C (x0 : Sl) (x1 : Int) (x2 : Int) (Q : Sl → PP) : PP := callT Tryz.prog 303 #[.slice x0.p x0.len x0.cap, .int .u64 x1, .int .i64 x2] [.sc .slice] Q
/-- copyhold/num.Var -/
def num_Var.C (x0 : Sl) (Q : Bytes → PP) : PP := callT Tryz.prog 213 #[.slice x0.p x0.len x0.cap] [.sc .str] Q
/-- copyhold/num.Text -/
def num_Text.C (x0 : Sl) (Q : Bytes → PP) : PP := callT Tryz.prog 214 #[.slice x0.p x0.len x0.cap] [.sc .str] Q
/-- copyhold/batch.Encode -/
def batch_Encode.C (x0_0 : Int) (x0_1 : Sl) (Q : Bytes → Int → PP) : PP := callT Tryz.prog 141 #[.agg #[.int .u64 x0_0, .slice x0_1.p x0_1.len x0_1.cap]] [.sc .str, .sc (.int .i64)] Q
/-- copyhold/cell.may -/
def cell_may.C (x0_0 : Bool) (x0_1 : Bool) (x0_2 : Int) (x0_3 : Bytes) (Q : Bool → PP) : PP := callT Tryz.prog 354 #[.agg #[.bool x0_0, .bool x0_1, .int .i64 x0_2, .string (bs x0_3)]] [.sc .bool] Q
/-- copyhold/cell.Crc -/
def cell_Crc.C (x0 : Sl) (Q : Int → PP) : PP := callT Tryz.prog 284 #[.slice x0.p x0.len x0.cap] [.sc (.int .u32)] Q
/-- copyhold/cell.Make -/
def cell_Make.C (x0_0 : Bool) (x0_1 : Bool) (x0_2 : Int) (x0_3 : Bytes) (Q : Bytes → Int → PP) : PP := callT Tryz.prog 304 #[.agg #[.bool x0_0, .bool x0_1, .int .i64 x0_2, .string (bs x0_3)]] [.sc .str, .sc (.int .i64)] Q
/-- copyhold/frame.put -/
def frame_put.C (x0 : Option Addr) (x1 : Bytes) (Q : PP) : PP := callT Tryz.prog 215 #[.pointer x0, .string (bs x1)] [] Q
/-- copyhold/frame.Write -/
def frame_Write.C (x0 : Sl) (Q : Bytes → Int → PP) : PP := callT Tryz.prog 142 #[.slice x0.p x0.len x0.cap] [.sc .str, .sc (.int .i64)] Q
/-- (*copyhold/wal.Log).Add -/
def wal_Log_Add.C (x0 : Option Addr) (x1_0 : Int) (x1_1 : Sl) (Q : Int → PP) : PP := callT Tryz.prog 72 #[.pointer x0, .agg #[.int .u64 x1_0, .slice x1_1.p x1_1.len x1_1.cap]] [.sc (.int .i64)] Q
/-- (*copyhold/disk.Disk).Fuse -/
def disk_Disk_Fuse.C (x0 : Option Addr) (x1 : Int) (Q : PP) : PP := callT Tryz.prog 56 #[.pointer x0, .int .i64 x1] [] Q
/-- maps.Keys[map[string]*copyhold/disk.file,string,*copyhold/disk.file] -/
def maps_Keys_map_string_disk_file_string_disk_file.C (x0 : Option Nat) (Q : Value → PP) : PP := callT Tryz.prog 106 #[.map x0] [.sc .any] Q
/-- math/bits.Len -/
def math_bits_Len.C (x0 : Int) (Q : Int → PP) : PP := callT Tryz.prog 165 #[.int .u64 x0] [.sc (.int .i64)] Q
/-- slices.nextPowerOfTwo -/
def slices_nextPowerOfTwo.C (x0 : Int) (Q : Int → PP) : PP := callT Tryz.prog 314 #[.int .i64 x0] [.sc (.int .u64)] Q
/-- (*slices.xorshift).Next -/
def slices_xorshift_Next.C (x0 : Option Addr) (Q : Int → PP) : PP := callT Tryz.prog 315 #[.pointer x0] [.sc (.int .u64)] Q
/-- slices.Sorted[string] -/
def slices_Sorted_string.C (x0 : Value) (Q : Sl → PP) : PP := callT Tryz.prog 105 #[x0] [.sc .slice] Q
/-- (*copyhold/disk.Disk).List -/
def disk_Disk_List.C (x0 : Option Addr) (Q : Sl → PP) : PP := callT Tryz.prog 33 #[.pointer x0] [.sc .slice] Q
/-- (*copyhold/disk.file).crash -/
def disk_file_crash.C (x0 : Option Addr) (x1_0 : Int) (x1_1 : Sl) (x1_2 : Sl) (x2 : Int) (Q : PP) : PP := callT Tryz.prog 128 #[.pointer x0, .agg #[.int .i64 x1_0, .slice x1_1.p x1_1.len x1_1.cap, .slice x1_2.p x1_2.len x1_2.cap], .int .i64 x2] [] Q
/-- (*copyhold/disk.Disk).Crash -/
def disk_Disk_Crash.C (x0 : Option Addr) (x1_0 : Int) (x1_1 : Sl) (x1_2 : Sl) (Q : PP) : PP := callT Tryz.prog 60 #[.pointer x0, .agg #[.int .i64 x1_0, .slice x1_1.p x1_1.len x1_1.cap, .slice x1_2.p x1_2.len x1_2.cap]] [] Q
/-- (*copyhold/disk.Disk).Start -/
def disk_Disk_Start.C (x0 : Option Addr) (Q : PP) : PP := callT Tryz.prog 59 #[.pointer x0] [] Q
/-- copyhold/wal.Replay$1 -/
def wal_Replay_1.C (x0 : Int) (x1 : Addr) (Q : Bool → PP) : PP := callT Tryz.prog 144 #[.int .u64 x0, .pointer (some x1)] [.sc .bool] Q
/-- (*copyhold/disk.Disk).Read -/
def disk_Disk_Read.C (x0 : Option Addr) (x1 : Bytes) (Q : Bytes → Int → PP) : PP := callT Tryz.prog 47 #[.pointer x0, .string (bs x1)] [.sc .str, .sc (.int .i64)] Q
/-- copyhold/cell.Read -/
def cell_Read.C (x0 : Bytes) (Q : Bool → Bool → Int → Bytes → Bool → PP) : PP := callT Tryz.prog 305 #[.string (bs x0)] [.agg [.bool, .bool, .int .i64, .str], .sc .bool] Q
/-- copyhold/frame.one -/
def frame_one.C (x0 : Bytes) (Q : Bytes → Int → PP) : PP := callT Tryz.prog 216 #[.string (bs x0)] [.sc .str, .sc (.int .i64)] Q
/-- copyhold/frame.Read -/
def frame_Read.C (x0 : Bytes) (Q : Sl → Int → PP) : PP := callT Tryz.prog 146 #[.string (bs x0)] [.sc .slice, .sc (.int .i64)] Q
/-- copyhold/num.ReadBig -/
def num_ReadBig.C (x0 : Bytes) (x1 : Int) (Q : Int → Bool → PP) : PP := callT Tryz.prog 179 #[.string (bs x0), .int .i64 x1] [.sc (.int .u64), .sc .bool] Q
/-- copyhold/num.ReadVar -/
def num_ReadVar.C (x0 : Bytes) (Q : Int → Int → Bool → PP) : PP := callT Tryz.prog 217 #[.string (bs x0)] [.sc (.int .u64), .sc (.int .i64), .sc .bool] Q
/-- copyhold/num.ReadText -/
def num_ReadText.C (x0 : Bytes) (x1 : Int) (Q : Bytes → Int → Bool → PP) : PP := callT Tryz.prog 306 #[.string (bs x0), .int .i64 x1] [.sc .str, .sc (.int .i64), .sc .bool] Q
/-- copyhold/batch.one -/
def batch_one.C (x0 : Bytes) (Q : Bytes → Bytes → Bool → Bytes → Bool → PP) : PP := callT Tryz.prog 218 #[.string (bs x0)] [.agg [.str, .str, .bool], .sc .str, .sc .bool] Q
/-- copyhold/batch.Decode -/
def batch_Decode.C (x0 : Bytes) (Q : Int → Sl → Bool → PP) : PP := callT Tryz.prog 147 #[.string (bs x0)] [.agg [.int .u64, .slice], .sc .bool] Q
/-- copyhold/wal.Replay$2 -/
def wal_Replay_2.C (x0 : Bytes) (x1 : Addr) (x2 : Addr) (Q : Int → PP) : PP := callT Tryz.prog 145 #[.string (bs x0), .pointer (some x1), .pointer (some x2)] [.sc (.int .i64)] Q
/-- strings.CutPrefix -/
def strings_CutPrefix.C (x0 : Bytes) (x1 : Bytes) (Q : Bytes → Bool → PP) : PP := callT Tryz.prog 129 #[.string (bs x0), .string (bs x1)] [.sc .str, .sc .bool] Q
/-- strconv.ParseUint -/
def strconv_ParseUint.C (x0 : Bytes) (x1 : Int) (x2 : Int) (Q : Int → Value → PP) : PP := callT Tryz.prog 130 #[.string (bs x0), .int .i64 x1, .int .i64 x2] [.sc (.int .u64), .sc .any] Q
/-- copyhold/disk.Number -/
def disk_Number.C (x0 : Bytes) (x1 : Bytes) (Q : Int → Bool → PP) : PP := callT Tryz.prog 61 #[.string (bs x0), .string (bs x1)] [.sc (.int .u64), .sc .bool] Q
/-- cmp.isNaN[uint64] -/
def cmp_isNaN_uint64.C (x0 : Int) (Q : Bool → PP) : PP := callT Tryz.prog 295 #[.int .u64 x0] [.sc .bool] Q
/-- cmp.Less[uint64] -/
def cmp_Less_uint64.C (x0 : Int) (x1 : Int) (Q : Bool → PP) : PP := callT Tryz.prog 236 #[.int .u64 x0, .int .u64 x1] [.sc .bool] Q
/-- slices.insertionSortOrdered[uint64] -/
def slices_insertionSortOrdered_uint64.C (x0 : Sl) (x1 : Int) (x2 : Int) (Q : PP) : PP := callT Tryz.prog 230 #[.slice x0.p x0.len x0.cap, .int .i64 x1, .int .i64 x2] [] Q
/-- slices.siftDownOrdered[uint64] -/
def slices_siftDownOrdered_uint64.C (x0 : Sl) (x1 : Int) (x2 : Int) (x3 : Int) (Q : PP) : PP := callT Tryz.prog 313 #[.slice x0.p x0.len x0.cap, .int .i64 x1, .int .i64 x2, .int .i64 x3] [] Q
/-- slices.heapSortOrdered[uint64] -/
def slices_heapSortOrdered_uint64.C (x0 : Sl) (x1 : Int) (x2 : Int) (Q : PP) : PP := callT Tryz.prog 231 #[.slice x0.p x0.len x0.cap, .int .i64 x1, .int .i64 x2] [] Q
/-- slices.breakPatternsOrdered[uint64] -/
def slices_breakPatternsOrdered_uint64.C (x0 : Sl) (x1 : Int) (x2 : Int) (Q : PP) : PP := callT Tryz.prog 232 #[.slice x0.p x0.len x0.cap, .int .i64 x1, .int .i64 x2] [] Q
/-- slices.order2Ordered[uint64] -/
def slices_order2Ordered_uint64.C (x0 : Sl) (x1 : Int) (x2 : Int) (x3 : Option Addr) (Q : Int → Int → PP) : PP := callT Tryz.prog 356 #[.slice x0.p x0.len x0.cap, .int .i64 x1, .int .i64 x2, .pointer x3] [.sc (.int .i64), .sc (.int .i64)] Q
/-- slices.medianOrdered[uint64] -/
def slices_medianOrdered_uint64.C (x0 : Sl) (x1 : Int) (x2 : Int) (x3 : Int) (x4 : Option Addr) (Q : Int → PP) : PP := callT Tryz.prog 317 #[.slice x0.p x0.len x0.cap, .int .i64 x1, .int .i64 x2, .int .i64 x3, .pointer x4] [.sc (.int .i64)] Q
/-- slices.medianAdjacentOrdered[uint64] -/
def slices_medianAdjacentOrdered_uint64.C (x0 : Sl) (x1 : Int) (x2 : Option Addr) (Q : Int → PP) : PP := callT Tryz.prog 316 #[.slice x0.p x0.len x0.cap, .int .i64 x1, .pointer x2] [.sc (.int .i64)] Q
/-- slices.choosePivotOrdered[uint64] -/
def slices_choosePivotOrdered_uint64.C (x0 : Sl) (x1 : Int) (x2 : Int) (Q : Int → Int → PP) : PP := callT Tryz.prog 233 #[.slice x0.p x0.len x0.cap, .int .i64 x1, .int .i64 x2] [.sc (.int .i64), .sc (.int .i64)] Q
/-- slices.reverseRangeOrdered[uint64] -/
def slices_reverseRangeOrdered_uint64.C (x0 : Sl) (x1 : Int) (x2 : Int) (Q : PP) : PP := callT Tryz.prog 234 #[.slice x0.p x0.len x0.cap, .int .i64 x1, .int .i64 x2] [] Q
/-- slices.partialInsertionSortOrdered[uint64] -/
def slices_partialInsertionSortOrdered_uint64.C (x0 : Sl) (x1 : Int) (x2 : Int) (Q : Bool → PP) : PP := callT Tryz.prog 235 #[.slice x0.p x0.len x0.cap, .int .i64 x1, .int .i64 x2] [.sc .bool] Q
/-- slices.partitionEqualOrdered[uint64] -/
def slices_partitionEqualOrdered_uint64.C (x0 : Sl) (x1 : Int) (x2 : Int) (x3 : Int) (Q : Int → PP) : PP := callT Tryz.prog 237 #[.slice x0.p x0.len x0.cap, .int .i64 x1, .int .i64 x2, .int .i64 x3] [.sc (.int .i64)] Q
/-- slices.partitionOrdered[uint64] -/
def slices_partitionOrdered_uint64.C (x0 : Sl) (x1 : Int) (x2 : Int) (x3 : Int) (Q : Int → Bool → PP) : PP := callT Tryz.prog 238 #[.slice x0.p x0.len x0.cap, .int .i64 x1, .int .i64 x2, .int .i64 x3] [.sc (.int .i64), .sc .bool] Q
/-- slices.pdqsortOrdered[uint64] -/
def slices_pdqsortOrdered_uint64.C (x0 : Sl) (x1 : Int) (x2 : Int) (x3 : Int) (Q : PP) : PP := callT Tryz.prog 164 #[.slice x0.p x0.len x0.cap, .int .i64 x1, .int .i64 x2, .int .i64 x3] [] Q
/-- slices.Sort[[]uint64,uint64] -/
def slices_Sort_uint64_uint64.C (x0 : Sl) (Q : PP) : PP := callT Tryz.prog 90 #[.slice x0.p x0.len x0.cap] [] Q
/-- copyhold/wal.Logs -/
def wal_Logs.C (x0 : Option Addr) (Q : Sl → PP) : PP := callT Tryz.prog 21 #[.pointer x0] [.sc .slice] Q
/-- copyhold/wal.each -/
def wal_each.C (x0 : Option Addr) (x1 : Value) (x2 : Value) (Q : Int → PP) : PP := callT Tryz.prog 143 #[.pointer x0, x1, x2] [.sc (.int .i64)] Q
/-- copyhold/wal.Replay -/
def wal_Replay.C (x0 : Option Addr) (x1 : Int) (Q : Sl → Int → PP) : PP := callT Tryz.prog 74 #[.pointer x0, .int .u64 x1] [.sc .slice, .sc (.int .i64)] Q
/-- copyhold/copyholdlaw07.awake -/
def law07_awake.C  (Q : Bool → PP) : PP := callT Tryz.prog 13 #[] [.sc .bool] Q
/-- copyhold/copyholdref05.held -/
def ref05_held.C (x0 : Int) (x1 : Int) (Q : Int → PP) : PP := callT Tryz.prog 75 #[.int .i64 x0, .int .i64 x1] [.sc (.int .i64)] Q
/-- copyhold/copyholdref05.New -/
def ref05_New.C (x0 : Int) (Q : (Option Addr) → PP) : PP := callT Tryz.prog 15 #[.int .i64 x0] [.sc .ptr] Q
/-- copyhold/wal.Retire$1 -/
def wal_Retire_1.C (x0 : Int) (x1 : Addr) (Q : Bool → PP) : PP := callT Tryz.prog 148 #[.int .u64 x0, .pointer (some x1)] [.sc .bool] Q
/-- (*copyhold/disk.Disk).Delete -/
def disk_Disk_Delete.C (x0 : Option Addr) (x1 : Bytes) (Q : Int → PP) : PP := callT Tryz.prog 149 #[.pointer x0, .string (bs x1)] [.sc (.int .i64)] Q
/-- copyhold/wal.Retire -/
def wal_Retire.C (x0 : Option Addr) (x1 : Int) (Q : Int → PP) : PP := callT Tryz.prog 76 #[.pointer x0, .int .u64 x1] [.sc (.int .i64)] Q
/-- (*copyhold/disk.Disk).Rename -/
def disk_Disk_Rename.C (x0 : Option Addr) (x1 : Bytes) (x2 : Bytes) (Q : Int → PP) : PP := callT Tryz.prog 150 #[.pointer x0, .string (bs x1), .string (bs x2)] [.sc (.int .i64)] Q
/-- copyhold/copyholdlaw05.Does -/
def law05_Does.C (x0 : Option Addr) (x1_0 : Int) (x1_1 : Bytes) (x1_2 : Bytes) (x1_3 : Int) (x1_4 : Int) (x1_5 : Sl) (x1_6 : Sl) (Q : Bytes → Int → PP) : PP := callT Tryz.prog 77 #[.pointer x0, .agg #[.int .u8 x1_0, .string (bs x1_1), .string (bs x1_2), .int .i64 x1_3, .int .i64 x1_4, .slice x1_5.p x1_5.len x1_5.cap, .slice x1_6.p x1_6.len x1_6.cap]] [.sc .str, .sc (.int .i64)] Q
/-- copyhold/copyholdlaw07.does -/
def law07_does.C (x0 : Option Addr) (x1 : Option Addr) (x2_0 : Int) (x2_1 : Int) (x2_2 : Int) (x2_3 : Sl) (x2_4 : Int) (x2_5 : Bytes) (x2_6 : Bytes) (x2_7 : Int) (x2_8 : Int) (x2_9 : Sl) (x2_10 : Sl) (Q : (Option Addr) → Sl → Int → PP) : PP := callT Tryz.prog 16 #[.pointer x0, .pointer x1, .agg #[.int .u8 x2_0, .int .u64 x2_1, .int .u64 x2_2, .slice x2_3.p x2_3.len x2_3.cap, .int .u8 x2_4, .string (bs x2_5), .string (bs x2_6), .int .i64 x2_7, .int .i64 x2_8, .slice x2_9.p x2_9.len x2_9.cap, .slice x2_10.p x2_10.len x2_10.cap]] [.sc .ptr, .sc .slice, .sc (.int .i64)] Q
/-- copyhold/copyholdref05.Name -/
def ref05_Name.C (x0 : Bytes) (x1 : Int) (Q : Bytes → PP) : PP := callT Tryz.prog 152 #[.string (bs x0), .int .u64 x1] [.sc .str] Q
/-- copyhold/copyholdref05.Right -/
def ref05_Right.C (x0 : Bytes) (Q : Bool → PP) : PP := callT Tryz.prog 219 #[.string (bs x0)] [.sc .bool] Q
/-- (*copyhold/copyholdref05.Disk).Now -/
def ref05_Disk_Now.C (x0 : Option Addr) (Q : Sl → PP) : PP := callT Tryz.prog 86 #[.pointer x0] [.sc .slice] Q
/-- (*copyhold/copyholdref05.Disk).find -/
def ref05_Disk_find.C (x0 : Option Addr) (x1 : Bytes) (Q : Int → PP) : PP := callT Tryz.prog 163 #[.pointer x0, .string (bs x1)] [.sc (.int .i64)] Q
/-- (*copyhold/copyholdref05.Disk).goes -/
def ref05_Disk_goes.C (x0 : Option Addr) (Q : Bool → PP) : PP := callT Tryz.prog 220 #[.pointer x0] [.sc .bool] Q
/-- copyhold/copyholdref05.with -/
def ref05_with.C (x0 : Sl) (x1_0 : Bytes) (x1_1 : Int) (Q : Sl → PP) : PP := callT Tryz.prog 221 #[.slice x0.p x0.len x0.cap, .agg #[.string (bs x1_0), .int .i64 x1_1]] [.sc .slice] Q
/-- (*copyhold/copyholdref05.Disk).Create -/
def ref05_Disk_Create.C (x0 : Option Addr) (x1 : Bytes) (Q : Int → PP) : PP := callT Tryz.prog 151 #[.pointer x0, .string (bs x1)] [.sc (.int .i64)] Q
/-- (*copyhold/copyholdref05.Disk).DirSync -/
def ref05_Disk_DirSync.C (x0 : Option Addr) (Q : Int → PP) : PP := callT Tryz.prog 153 #[.pointer x0] [.sc (.int .i64)] Q
/-- copyhold/copyholdref07.Begin -/
def ref07_Begin.C (x0 : Option Addr) (x1 : Int) (Q : Int → PP) : PP := callT Tryz.prog 78 #[.pointer x0, .int .u64 x1] [.sc (.int .i64)] Q
/-- copyhold/copyholdlaw06.Given -/
def law06_Given.C (x0_0 : Int) (x0_1 : Sl) (Q : Int → Sl → PP) : PP := callT Tryz.prog 80 #[.agg #[.int .u64 x0_0, .slice x0_1.p x0_1.len x0_1.cap]] [.agg [.int .u64, .slice]] Q
/-- copyhold/copyholdref06.Check -/
def ref06_Check.C (x0_0 : Int) (x0_1 : Sl) (Q : Int → PP) : PP := callT Tryz.prog 222 #[.agg #[.int .u64 x0_0, .slice x0_1.p x0_1.len x0_1.cap]] [.sc (.int .i64)] Q
/-- copyhold/copyholdref01.bytesOf -/
def ref01_bytesOf.C (x0 : Int) (Q : Bytes → PP) : PP := callT Tryz.prog 307 #[.int .u64 x0] [.sc .str] Q
/-- copyhold/copyholdref01.Row -/
def ref01_Row.C (x0 : Int) (Q : Bytes → PP) : PP := callT Tryz.prog 223 #[.int .u64 x0] [.sc .str] Q
/-- copyhold/copyholdref01.Text -/
def ref01_Text.C (x0 : Sl) (Q : Bytes → PP) : PP := callT Tryz.prog 224 #[.slice x0.p x0.len x0.cap] [.sc .str] Q
/-- copyhold/copyholdref06.Encode -/
def ref06_Encode.C (x0_0 : Int) (x0_1 : Sl) (Q : Bytes → Int → PP) : PP := callT Tryz.prog 154 #[.agg #[.int .u64 x0_0, .slice x0_1.p x0_1.len x0_1.cap]] [.sc .str, .sc (.int .i64)] Q
/-- copyhold/copyholdref03.May -/
def ref03_May.C (x0_0 : Bool) (x0_1 : Bool) (x0_2 : Int) (x0_3 : Bytes) (Q : Bool → PP) : PP := callT Tryz.prog 308 #[.agg #[.bool x0_0, .bool x0_1, .int .i64 x0_2, .string (bs x0_3)]] [.sc .bool] Q
/-- copyhold/copyholdref03.Crc -/
def ref03_Crc.C (x0 : Bytes) (Q : Int → PP) : PP := callT Tryz.prog 309 #[.string (bs x0)] [.sc (.int .u32)] Q
/-- copyhold/copyholdref03.Make -/
def ref03_Make.C (x0_0 : Bool) (x0_1 : Bool) (x0_2 : Int) (x0_3 : Bytes) (Q : Bytes → Int → PP) : PP := callT Tryz.prog 225 #[.agg #[.bool x0_0, .bool x0_1, .int .i64 x0_2, .string (bs x0_3)]] [.sc .str, .sc (.int .i64)] Q
/-- copyhold/copyholdref04.Frame -/
def ref04_Frame.C (x0 : Bytes) (Q : Bytes → PP) : PP := callT Tryz.prog 156 #[.string (bs x0)] [.sc .str] Q
/-- (*copyhold/copyholdref05.Disk).Used -/
def ref05_Disk_Used.C (x0 : Option Addr) (Q : Int → PP) : PP := callT Tryz.prog 87 #[.pointer x0] [.sc (.int .i64)] Q
/-- (*copyhold/copyholdref05.Disk).Append -/
def ref05_Disk_Append.C (x0 : Option Addr) (x1 : Bytes) (x2 : Bytes) (Q : Int → PP) : PP := callT Tryz.prog 155 #[.pointer x0, .string (bs x1), .string (bs x2)] [.sc (.int .i64)] Q
/-- (*copyhold/copyholdref05.Disk).Sync -/
def ref05_Disk_Sync.C (x0 : Option Addr) (x1 : Bytes) (Q : Int → PP) : PP := callT Tryz.prog 157 #[.pointer x0, .string (bs x1)] [.sc (.int .i64)] Q
/-- copyhold/copyholdref07.Add -/
def ref07_Add.C (x0 : Option Addr) (x1 : Int) (x2_0 : Int) (x2_1 : Sl) (Q : Int → PP) : PP := callT Tryz.prog 79 #[.pointer x0, .int .u64 x1, .agg #[.int .u64 x2_0, .slice x2_1.p x2_1.len x2_1.cap]] [.sc (.int .i64)] Q
/-- copyhold/copyholdref05.Number -/
def ref05_Number.C (x0 : Bytes) (x1 : Bytes) (Q : Int → Bool → PP) : PP := callT Tryz.prog 91 #[.string (bs x0), .string (bs x1)] [.sc (.int .u64), .sc .bool] Q
/-- copyhold/copyholdref07.Logs -/
def ref07_Logs.C (x0 : Option Addr) (Q : Sl → PP) : PP := callT Tryz.prog 22 #[.pointer x0] [.sc .slice] Q
/-- (*copyhold/copyholdref05.Disk).Read -/
def ref05_Disk_Read.C (x0 : Option Addr) (x1 : Bytes) (Q : Bytes → Int → PP) : PP := callT Tryz.prog 89 #[.pointer x0, .string (bs x1)] [.sc .str, .sc (.int .i64)] Q
/-- copyhold/copyholdref03.Read -/
def ref03_Read.C (x0 : Bytes) (Q : Bool → Bool → Int → Bytes → Bool → PP) : PP := callT Tryz.prog 355 #[.string (bs x0)] [.agg [.bool, .bool, .int .i64, .str], .sc .bool] Q
/-- copyhold/copyholdref04.first -/
def ref04_first.C (x0 : Bytes) (Q : Bytes → Bool → PP) : PP := callT Tryz.prog 310 #[.string (bs x0)] [.sc .str, .sc .bool] Q
/-- copyhold/copyholdref04.Read -/
def ref04_Read.C (x0 : Bytes) (Q : Sl → Int → PP) : PP := callT Tryz.prog 226 #[.string (bs x0)] [.sc .slice, .sc (.int .i64)] Q
/-- copyhold/copyholdref01.ReadVar -/
def ref01_ReadVar.C (x0 : Bytes) (Q : Int → Int → Bool → PP) : PP := callT Tryz.prog 311 #[.string (bs x0)] [.sc (.int .u64), .sc (.int .i64), .sc .bool] Q
/-- copyhold/copyholdref01.ReadText -/
def ref01_ReadText.C (x0 : Bytes) (x1 : Int) (Q : Bytes → Int → Bool → PP) : PP := callT Tryz.prog 312 #[.string (bs x0), .int .i64 x1] [.sc .str, .sc (.int .i64), .sc .bool] Q
/-- copyhold/copyholdref06.Decode -/
def ref06_Decode.C (x0 : Bytes) (Q : Int → Sl → Bool → PP) : PP := callT Tryz.prog 227 #[.string (bs x0)] [.agg [.int .u64, .slice], .sc .bool] Q
/-- copyhold/copyholdref07.Batches -/
def ref07_Batches.C (x0 : Bytes) (Q : Sl → PP) : PP := callT Tryz.prog 158 #[.string (bs x0)] [.sc .slice] Q
/-- copyhold/copyholdref07.Replay -/
def ref07_Replay.C (x0 : Option Addr) (x1 : Int) (Q : Sl → Int → PP) : PP := callT Tryz.prog 81 #[.pointer x0, .int .u64 x1] [.sc .slice, .sc (.int .i64)] Q
/-- copyhold/copyholdref05.without -/
def ref05_without.C (x0 : Sl) (x1 : Bytes) (Q : Sl → PP) : PP := callT Tryz.prog 228 #[.slice x0.p x0.len x0.cap, .string (bs x1)] [.sc .slice] Q
/-- (*copyhold/copyholdref05.Disk).Delete -/
def ref05_Disk_Delete.C (x0 : Option Addr) (x1 : Bytes) (Q : Int → PP) : PP := callT Tryz.prog 159 #[.pointer x0, .string (bs x1)] [.sc (.int .i64)] Q
/-- copyhold/copyholdref07.Retire -/
def ref07_Retire.C (x0 : Option Addr) (x1 : Int) (Q : Int → PP) : PP := callT Tryz.prog 82 #[.pointer x0, .int .u64 x1] [.sc (.int .i64)] Q
/-- (*copyhold/copyholdref05.Disk).Rename -/
def ref05_Disk_Rename.C (x0 : Option Addr) (x1 : Bytes) (x2 : Bytes) (Q : Int → PP) : PP := callT Tryz.prog 160 #[.pointer x0, .string (bs x1), .string (bs x2)] [.sc (.int .i64)] Q
/-- (*copyhold/copyholdref05.Disk).SetFuse -/
def ref05_Disk_SetFuse.C (x0 : Option Addr) (x1 : Int) (Q : PP) : PP := callT Tryz.prog 161 #[.pointer x0, .int .i64 x1] [] Q
/-- copyhold/copyholdref05.Left -/
def ref05_Left.C (x0 : Bytes) (x1_0 : Int) (x1_1 : Sl) (x1_2 : Sl) (x2 : Int) (Q : Bytes → PP) : PP := callT Tryz.prog 229 #[.string (bs x0), .agg #[.int .i64 x1_0, .slice x1_1.p x1_1.len x1_1.cap, .slice x1_2.p x1_2.len x1_2.cap], .int .i64 x2] [.sc .str] Q
/-- (*copyhold/copyholdref05.Disk).Crash -/
def ref05_Disk_Crash.C (x0 : Option Addr) (x1_0 : Int) (x1_1 : Sl) (x1_2 : Sl) (Q : PP) : PP := callT Tryz.prog 162 #[.pointer x0, .agg #[.int .i64 x1_0, .slice x1_1.p x1_1.len x1_1.cap, .slice x1_2.p x1_2.len x1_2.cap]] [] Q
/-- copyhold/copyholdlaw05.Said -/
def law05_Said.C (x0 : Option Addr) (x1_0 : Int) (x1_1 : Bytes) (x1_2 : Bytes) (x1_3 : Int) (x1_4 : Int) (x1_5 : Sl) (x1_6 : Sl) (Q : Bytes → Int → PP) : PP := callT Tryz.prog 83 #[.pointer x0, .agg #[.int .u8 x1_0, .string (bs x1_1), .string (bs x1_2), .int .i64 x1_3, .int .i64 x1_4, .slice x1_5.p x1_5.len x1_5.cap, .slice x1_6.p x1_6.len x1_6.cap]] [.sc .str, .sc (.int .i64)] Q
/-- copyhold/copyholdlaw07.said -/
def law07_said.C (x0 : Option Addr) (x1 : Int) (x2 : Bool) (x3_0 : Int) (x3_1 : Int) (x3_2 : Int) (x3_3 : Sl) (x3_4 : Int) (x3_5 : Bytes) (x3_6 : Bytes) (x3_7 : Int) (x3_8 : Int) (x3_9 : Sl) (x3_10 : Sl) (Q : Int → Bool → Sl → Int → PP) : PP := callT Tryz.prog 17 #[.pointer x0, .int .u64 x1, .bool x2, .agg #[.int .u8 x3_0, .int .u64 x3_1, .int .u64 x3_2, .slice x3_3.p x3_3.len x3_3.cap, .int .u8 x3_4, .string (bs x3_5), .string (bs x3_6), .int .i64 x3_7, .int .i64 x3_8, .slice x3_9.p x3_9.len x3_9.cap, .slice x3_10.p x3_10.len x3_10.cap]] [.sc (.int .u64), .sc .bool, .sc .slice, .sc (.int .i64)] Q
/-- copyhold/copyholdref06.Same -/
def ref06_Same.C (x0_0 : Int) (x0_1 : Sl) (x1_0 : Int) (x1_1 : Sl) (Q : Bool → PP) : PP := callT Tryz.prog 84 #[.agg #[.int .u64 x0_0, .slice x0_1.p x0_1.len x0_1.cap], .agg #[.int .u64 x1_0, .slice x1_1.p x1_1.len x1_1.cap]] [.sc .bool] Q
/-- copyhold/copyholdlaw07.Same -/
def law07_Same.C (x0 : Sl) (x1 : Sl) (Q : Bool → PP) : PP := callT Tryz.prog 18 #[.slice x0.p x0.len x0.cap, .slice x1.p x1.len x1.cap] [.sc .bool] Q
/-- (*copyhold/disk.Disk).Fused -/
def disk_Disk_Fused.C (x0 : Option Addr) (Q : Int → PP) : PP := callT Tryz.prog 88 #[.pointer x0] [.sc (.int .i64)] Q
/-- (*copyhold/disk.Disk).Down -/
def disk_Disk_Down.C (x0 : Option Addr) (Q : Bool → PP) : PP := callT Tryz.prog 58 #[.pointer x0] [.sc .bool] Q
/-- (*copyhold/disk.Disk).Room -/
def disk_Disk_Room.C (x0 : Option Addr) (Q : Int → PP) : PP := callT Tryz.prog 32 #[.pointer x0] [.sc (.int .i64)] Q
/-- copyhold/copyholdlaw05.Stands -/
def law05_Stands.C (x0 : Option Addr) (x1 : Option Addr) (Q : Bool → PP) : PP := callT Tryz.prog 20 #[.pointer x0, .pointer x1] [.sc .bool] Q
/-- copyhold/copyholdlaw07.WalPlays -/
def law07_WalPlays.C (x0 : Int) (x1 : Sl) (Q : Bool → PP) : PP := callT Tryz.prog 3 #[.int .i64 x0, .slice x1.p x1.len x1.cap] [.sc .bool] Q
end Go.Proofs.W
