/-  -/
import Derived.Test.YtemfgkhholobgaaGreatDoorWGC
section
set_option maxRecDepth 100000
set_option linter.unusedVariables false
namespace Go.Proofs.W
open Go Go.Shal
def ref03_Make.F (x0_0 : Bool) (x0_1 : Bool) (x0_2 : Int) (x0_3 : Bytes) (Q : Bytes → Int → PP) : PP :=
  newP 297 [.bool x0_0, .bool x0_1, .int .i64 x0_2, .string (bs x0_3)] fun (a1 : Addr) =>
  lds [.bool, .bool, .int .i64, .str] a1 fun (b2 : Bool) (b3 : Bool) (n4 : Int) (s5 : Bytes) =>
  ref03_May.C b2 b3 n4 s5 fun (b6 : Bool) =>
  ifB (!b6) (
    Q ([] : Bytes) (1 : Int)) (
    joinT [.int .u8] (fun (M7 : Int → PP) =>
      ld (.bool) (a1.add 0) fun (b8 : Bool) =>
      ifB b8 (
        M7 (IntKind.wrap .u8 ((64 : Int) + (1 : Int)))) (
        M7 (64 : Int)))
    (fun (n9 : Int) =>
      joinT [.int .u8] (fun (M10 : Int → PP) =>
        ld (.bool) (a1.add 1) fun (b11 : Bool) =>
        ifB b11 (
          M10 (IntKind.wrap .u8 (n9 + (2 : Int)))) (
          M10 n9))
      (fun (n12 : Int) =>
        ld (.str) (a1.add 3) fun (s13 : Bytes) =>
        ld (.int .i64) (a1.add 2) fun (n14 : Int) =>
        guardP ((256 : Int) ≠ 0) (ld (.int .i64) (a1.add 2) fun (n15 : Int) =>
          guardP ((256 : Int) ≠ 0) (newP 5 [.int .u8 n12, .int .u8 (IntKind.wrap .u8 (s13.length : Int)), .int .u8 (IntKind.wrap .u8 (Int.tmod n14 (256 : Int))), .int .u8 (IntKind.wrap .u8 (IntKind.wrap .i64 (Int.tdiv n15 (256 : Int))))] fun (a16 : Addr) =>
            bytesP (some a16) 4 fun (s17 : Bytes) =>
            ld (.str) (a1.add 3) fun (s18 : Bytes) =>
            guardP (s17.length + s18.length ≤ 9223372036854775807) (loopT [.str] (fun (K19 : Bytes → PP) (s20 : Bytes) =>
                ifB (decide ((s20.length : Int) < (28 : Int))) (
                  guardP (s20.length + ([0] : Bytes).length ≤ 9223372036854775807) (K19 (s20 ++ ([0] : Bytes)))) (
                  ref03_Crc.C s20 fun (n21 : Int) =>
                  guardP ((256 : Int) ≠ 0) (guardP ((65536 : Int) ≠ 0) (guardP ((16777216 : Int) ≠ 0) (newP 5 [.int .u8 (IntKind.wrap .u8 n21), .int .u8 (IntKind.wrap .u8 (IntKind.wrap .u32 (Int.tdiv n21 (256 : Int)))), .int .u8 (IntKind.wrap .u8 (IntKind.wrap .u32 (Int.tdiv n21 (65536 : Int)))), .int .u8 (IntKind.wrap .u8 (IntKind.wrap .u32 (Int.tdiv n21 (16777216 : Int))))] fun (a22 : Addr) =>
                        bytesP (some a22) 4 fun (s23 : Bytes) =>
                        guardP (s20.length + s23.length ≤ 9223372036854775807) (Q (s20 ++ s23) (0 : Int))))))) (s17 ++ s18)))))))
def ref03_Make.ann : Ann := .seq (.leaf) (.seq (.seq (.leaf) (.cond (.seq (.leaf) (.leaf)) (.leaf))) (.seq (.leaf) (.join [(4, .sc (.int .u8))] (.seq (.leaf) (.cond (.leaf) (.leaf))) (.join [(4, .sc (.int .u8))] (.seq (.leaf) (.cond (.leaf) (.leaf))) (.seq (.leaf) (.seq (.block (.loop [(5, .sc .str)] (.seq (.seq (.leaf) (.cond (.leaf) (.leaf))) (.block (.leaf))))) (.seq (.leaf) (.seq (.leaf) (.leaf)))))))))
theorem ref03_Make.eq (x0_0 : Bool) (x0_1 : Bool) (x0_2 : Int) (x0_3 : Bytes) (Q : Bytes → Int → PP) : denF Tryz.prog Tryz.f225 ref03_Make.ann [.agg #[.bool x0_0, .bool x0_1, .int .i64 x0_2, .string (bs x0_3)]] [.sc .str, .sc (.int .i64)] Q = ref03_Make.F x0_0 x0_1 x0_2 x0_3 Q := by kernel_rfl
theorem ref03_Make.ok (x0_0 : Bool) (x0_1 : Bool) (x0_2 : Int) (x0_3 : Bytes) (Q : Bytes → Int → PP) (h : Heap) (hh : ref03_Make.F x0_0 x0_1 x0_2 x0_3 Q h) : ref03_Make.C x0_0 x0_1 x0_2 x0_3 Q h :=
  call_of_den callOK mixed Tryz.func225 (by kernel_rfl) (by rw [ref03_Make.eq]; exact hh)
def ref04_Frame.F (x0 : Bytes) (Q : Bytes → PP) : PP :=
  guardP ((24 : Int) ≠ 0) (joinT [.int .i64] (fun (M1 : Int → PP) =>
      ifB ((IntKind.wrap .i64 (Int.tdiv (IntKind.wrap .i64 ((x0.length : Int) + (23 : Int))) (24 : Int))) == (0 : Int)) (
        M1 (1 : Int)) (
        M1 (IntKind.wrap .i64 (Int.tdiv (IntKind.wrap .i64 ((x0.length : Int) + (23 : Int))) (24 : Int)))))
    (fun (n2 : Int) =>
      loopT [.str, .int .i64] (fun (K3 : Bytes → Int → PP) (s4 : Bytes) (n5 : Int) =>
        ifB (decide (n5 < n2)) (
          joinT [.int .i64] (fun (M6 : Int → PP) =>
            ifB (decide ((IntKind.wrap .i64 ((IntKind.wrap .i64 ((24 : Int) * n5)) + (24 : Int))) > (x0.length : Int))) (
              M6 (x0.length : Int)) (
              M6 (IntKind.wrap .i64 ((IntKind.wrap .i64 ((24 : Int) * n5)) + (24 : Int)))))
          (fun (n7 : Int) =>
            sliceStr x0 (IntKind.wrap .i64 ((24 : Int) * n5)) n7 fun (s8 : Bytes) =>
            ref03_Make.C (n5 == (0 : Int)) (n5 == (IntKind.wrap .i64 (n2 - (1 : Int)))) n5 s8 fun (s9 : Bytes) (n10 : Int) =>
            guardP (s4.length + s9.length ≤ 9223372036854775807) (K3 (s4 ++ s9) (IntKind.wrap .i64 (n5 + (1 : Int)))))) (
          Q s4)) ([] : Bytes) (0 : Int)))
def ref04_Frame.ann : Ann := .seq (.leaf) (.seq (.leaf) (.join [(3, .sc (.int .i64))] (.seq (.leaf) (.cond (.leaf) (.leaf))) (.seq (.leaf) (.seq (.seq (.leaf) (.block (.loop [(4, .sc .str), (5, .sc (.int .i64))] (.seq (.seq (.leaf) (.cond (.leaf) (.leaf))) (.seq (.block (.seq (.leaf) (.join [(6, .sc (.int .i64))] (.seq (.leaf) (.cond (.leaf) (.leaf))) (.seq (.leaf) (.leaf))))) (.leaf)))))) (.seq (.leaf) (.leaf))))))
theorem ref04_Frame.eq (x0 : Bytes) (Q : Bytes → PP) : denF Tryz.prog Tryz.f156 ref04_Frame.ann [.string (bs x0)] [.sc .str] Q = ref04_Frame.F x0 Q := by kernel_rfl
theorem ref04_Frame.ok (x0 : Bytes) (Q : Bytes → PP) (h : Heap) (hh : ref04_Frame.F x0 Q h) : ref04_Frame.C x0 Q h :=
  call_of_den callOK mixed Tryz.func156 (by kernel_rfl) (by rw [ref04_Frame.eq]; exact hh)
def ref05_Disk_Used.F (x0 : Option Addr) (Q : Int → PP) : PP :=
  ref05_Disk_Now.C x0 fun (l1 : Sl) =>
  loopT [.int .i64, .int .i64] (fun (K2 : Int → Int → PP) (n3 : Int) (n4 : Int) =>
    ifB (decide (n4 < (l1.len : Int))) (
      drawT fun (S5 : PP) =>
      nilP x0 fun (a6 : Addr) =>
      ldG S5 (.slice) (a6.add 1) fun (l7 : Sl) =>
      idxP 2 l1.p l1.len n4 fun (a8 : Addr) =>
      ldG S5 (.int .i64) (a8.add 1) fun (n9 : Int) =>
      idxP 2 l7.p l7.len n9 fun (a10 : Addr) =>
      ldG S5 (.str) (a10.add 0) fun (s11 : Bytes) =>
      K2 (IntKind.wrap .i64 (n3 + (s11.length : Int))) (IntKind.wrap .i64 (n4 + (1 : Int)))) (
      Q n3)) (0 : Int) (0 : Int)
def ref05_Disk_Used.ann : Ann := .seq (.leaf) (.seq (.leaf) (.seq (.leaf) (.seq (.seq (.leaf) (.block (.loop [(3, .sc (.int .i64)), (5, .sc (.int .i64))] (.seq (.seq (.leaf) (.cond (.leaf) (.leaf))) (.seq (.block (.draw [5, 6, 7, 8, 9, 11, 12, 13, 14] (.take 0 (.take 1 (.take 2 (.take 3 (.take 4 (.take 5 (.take 6 (.take 7 (.take 8 (.take 9 (.take 10 (.take 11 (.take 12 (.take 13 (.take 14 (.take 15 (.done))))))))))))))))))) (.leaf)))))) (.seq (.leaf) (.leaf)))))
theorem ref05_Disk_Used.eq (x0 : Option Addr) (Q : Int → PP) : denF Tryz.prog Tryz.f87 ref05_Disk_Used.ann [.pointer x0] [.sc (.int .i64)] Q = ref05_Disk_Used.F x0 Q := by kernel_rfl
theorem ref05_Disk_Used.ok (x0 : Option Addr) (Q : Int → PP) (h : Heap) (hh : ref05_Disk_Used.F x0 Q h) : ref05_Disk_Used.C x0 Q h :=
  call_of_den callOK mixed Tryz.func87 (by kernel_rfl) (by rw [ref05_Disk_Used.eq]; exact hh)
def ref05_Disk_Append.F (x0 : Option Addr) (x1 : Bytes) (x2 : Bytes) (Q : Int → PP) : PP :=
  nilP x0 fun (a1 : Addr) =>
  ld (.bool) (a1.add 3) fun (b2 : Bool) =>
  ifB b2 (
    Q (7 : Int)) (
    ref05_Disk_find.C x0 x1 fun (n3 : Int) =>
    ifB (decide (n3 < (0 : Int))) (
      Q (4 : Int)) (
      drawT fun (S4 : PP) =>
      nilP x0 fun (a5 : Addr) =>
      ldG S4 (.int .i64) (a5.add 0) fun (n6 : Int) =>
      ref05_Disk_Used.C x0 fun (n7 : Int) =>
      withS S4 (
        ifB (decide ((IntKind.wrap .i64 (n7 + (x2.length : Int))) > n6)) (
          Q (6 : Int)) (
          ref05_Disk_goes.C x0 fun (b8 : Bool) =>
          ifB (!b8) (
            Q (7 : Int)) (
            drawT fun (S9 : PP) =>
            nilP x0 fun (a10 : Addr) =>
            ldG S9 (.slice) (a10.add 1) fun (l11 : Sl) =>
            nilP x0 fun (a12 : Addr) =>
            ldG S9 (.slice) (a12.add 1) fun (l13 : Sl) =>
            idxP 2 l13.p l13.len n3 fun (a14 : Addr) =>
            ldG S9 (.str) (a14.add 0) fun (s15 : Bytes) =>
            guardP (s15.length + x2.length ≤ 9223372036854775807) (idxP 2 l11.p l11.len n3 fun (a16 : Addr) =>
              stP (.str) (a16.add 0) (s15 ++ x2) (
                Q (0 : Int))))))))
def ref05_Disk_Append.ann : Ann := .seq (.leaf) (.seq (.seq (.leaf) (.cond (.seq (.leaf) (.leaf)) (.leaf))) (.seq (.leaf) (.seq (.seq (.leaf) (.cond (.seq (.leaf) (.leaf)) (.leaf))) (.seq (.seq (.draw [1, 4] (.take 0 (.take 2 (.take 3 (.take 5 (.take 6 (.take 7 (.take 8 (.alt 1 (.take 4 (.take 9 (.done))) (.none)))))))))) (.cond (.seq (.leaf) (.leaf)) (.leaf))) (.seq (.seq (.leaf) (.cond (.seq (.leaf) (.leaf)) (.leaf))) (.seq (.draw [4, 5, 6, 7, 8, 9, 10, 11, 12, 13, 14] (.take 0 (.take 1 (.take 2 (.take 3 (.take 4 (.take 5 (.take 6 (.take 7 (.take 8 (.take 9 (.take 10 (.take 11 (.take 12 (.take 13 (.take 14 (.take 15 (.take 16 (.alt 17 (.done) (.none)))))))))))))))))))) (.seq (.leaf) (.leaf))))))))
theorem ref05_Disk_Append.eq (x0 : Option Addr) (x1 : Bytes) (x2 : Bytes) (Q : Int → PP) : denF Tryz.prog Tryz.f155 ref05_Disk_Append.ann [.pointer x0, .string (bs x1), .string (bs x2)] [.sc (.int .i64)] Q = ref05_Disk_Append.F x0 x1 x2 Q := by kernel_rfl
theorem ref05_Disk_Append.ok (x0 : Option Addr) (x1 : Bytes) (x2 : Bytes) (Q : Int → PP) (h : Heap) (hh : ref05_Disk_Append.F x0 x1 x2 Q h) : ref05_Disk_Append.C x0 x1 x2 Q h :=
  call_of_den callOK mixed Tryz.func155 (by kernel_rfl) (by rw [ref05_Disk_Append.eq]; exact hh)
def ref05_Disk_Sync.F (x0 : Option Addr) (x1 : Bytes) (Q : Int → PP) : PP :=
  nilP x0 fun (a1 : Addr) =>
  ld (.bool) (a1.add 3) fun (b2 : Bool) =>
  ifB b2 (
    Q (7 : Int)) (
    ref05_Disk_find.C x0 x1 fun (n3 : Int) =>
    ifB (decide (n3 < (0 : Int))) (
      Q (4 : Int)) (
      ref05_Disk_goes.C x0 fun (b4 : Bool) =>
      ifB (!b4) (
        Q (7 : Int)) (
        drawT fun (S5 : PP) =>
        nilP x0 fun (a6 : Addr) =>
        ldG S5 (.slice) (a6.add 1) fun (l7 : Sl) =>
        nilP x0 fun (a8 : Addr) =>
        ldG S5 (.slice) (a8.add 1) fun (l9 : Sl) =>
        idxP 2 l9.p l9.len n3 fun (a10 : Addr) =>
        ldG S5 (.str) (a10.add 0) fun (s11 : Bytes) =>
        idxP 2 l7.p l7.len n3 fun (a12 : Addr) =>
        stP (.int .i64) (a12.add 1) (s11.length : Int) (
          Q (0 : Int)))))
def ref05_Disk_Sync.ann : Ann := .seq (.leaf) (.seq (.seq (.leaf) (.cond (.seq (.leaf) (.leaf)) (.leaf))) (.seq (.leaf) (.seq (.seq (.leaf) (.cond (.seq (.leaf) (.leaf)) (.leaf))) (.seq (.seq (.leaf) (.cond (.seq (.leaf) (.leaf)) (.leaf))) (.seq (.draw [4, 5, 6, 7, 8, 9, 10, 11, 12, 13] (.take 0 (.take 1 (.take 2 (.take 3 (.take 4 (.take 5 (.take 6 (.take 7 (.take 8 (.take 9 (.take 10 (.take 11 (.take 12 (.take 13 (.take 14 (.take 15 (.alt 16 (.done) (.none))))))))))))))))))) (.seq (.leaf) (.leaf)))))))
theorem ref05_Disk_Sync.eq (x0 : Option Addr) (x1 : Bytes) (Q : Int → PP) : denF Tryz.prog Tryz.f157 ref05_Disk_Sync.ann [.pointer x0, .string (bs x1)] [.sc (.int .i64)] Q = ref05_Disk_Sync.F x0 x1 Q := by kernel_rfl
theorem ref05_Disk_Sync.ok (x0 : Option Addr) (x1 : Bytes) (Q : Int → PP) (h : Heap) (hh : ref05_Disk_Sync.F x0 x1 Q h) : ref05_Disk_Sync.C x0 x1 Q h :=
  call_of_den callOK mixed Tryz.func157 (by kernel_rfl) (by rw [ref05_Disk_Sync.eq]; exact hh)
def ref07_Add.F (x0 : Option Addr) (x1 : Int) (x2_0 : Int) (x2_1 : Sl) (Q : Int → PP) : PP :=
  newP 144 [.int .u64 x2_0, .slice x2_1.p x2_1.len x2_1.cap] fun (a1 : Addr) =>
  lds [.int .u64, .slice] a1 fun (n2 : Int) (l3 : Sl) =>
  ref06_Encode.C n2 l3 fun (s4 : Bytes) (n5 : Int) =>
  ifB (n5 != (0 : Int)) (
    Q n5) (
    ref05_Name.C ([108, 111, 103] : Bytes) x1 fun (s6 : Bytes) =>
    ref04_Frame.C s4 fun (s7 : Bytes) =>
    ref05_Disk_Append.C x0 s6 s7 fun (n8 : Int) =>
    ifB (n8 == (0 : Int)) (
      ref05_Name.C ([108, 111, 103] : Bytes) x1 fun (s9 : Bytes) =>
      ref05_Disk_Sync.C x0 s9 fun (n10 : Int) =>
      Q n10) (
      Q n8))
def ref07_Add.ann : Ann := .seq (.leaf) (.seq (.leaf) (.seq (.seq (.leaf) (.cond (.seq (.leaf) (.leaf)) (.leaf))) (.seq (.leaf) (.seq (.seq (.leaf) (.cond (.leaf) (.leaf))) (.seq (.leaf) (.leaf))))))
theorem ref07_Add.eq (x0 : Option Addr) (x1 : Int) (x2_0 : Int) (x2_1 : Sl) (Q : Int → PP) : denF Tryz.prog Tryz.f79 ref07_Add.ann [.pointer x0, .int .u64 x1, .agg #[.int .u64 x2_0, .slice x2_1.p x2_1.len x2_1.cap]] [.sc (.int .i64)] Q = ref07_Add.F x0 x1 x2_0 x2_1 Q := by kernel_rfl
theorem ref07_Add.ok (x0 : Option Addr) (x1 : Int) (x2_0 : Int) (x2_1 : Sl) (Q : Int → PP) (h : Heap) (hh : ref07_Add.F x0 x1 x2_0 x2_1 Q h) : ref07_Add.C x0 x1 x2_0 x2_1 Q h :=
  call_of_den callOK mixed Tryz.func79 (by kernel_rfl) (by rw [ref07_Add.eq]; exact hh)
def ref05_Number.F (x0 : Bytes) (x1 : Bytes) (Q : Int → Bool → PP) : PP :=
  joinT [.bool] (fun (M1 : Bool → PP) =>
    ifB (decide ((x1.length : Int) < (IntKind.wrap .i64 ((x0.length : Int) + (9 : Int))))) (
      M1 true) (
      M1 (decide ((x1.length : Int) > (IntKind.wrap .i64 ((x0.length : Int) + (21 : Int)))))))
  (fun (b2 : Bool) =>
    ifB b2 (
      Q (0 : Int) false) (
      loopT [.int .u64, .bool, .int .u64, .int .i64] (fun (K3 : Int → Bool → Int → Int → PP) (n4 : Int) (b5 : Bool) (n6 : Int) (n7 : Int) =>
        ifB (decide (n7 < (x1.length : Int))) (
          joinT [.bool] (fun (M8 : Bool → PP) =>
            atS x1 n7 fun (c9 : UInt8) =>
            ifB (decide ((c9.toNat : Int) < (48 : Int))) (
              M8 true) (
              atS x1 n7 fun (c10 : UInt8) =>
              M8 (decide ((c10.toNat : Int) > (57 : Int)))))
          (fun (b11 : Bool) =>
            ifB b11 (
              Q (0 : Int) false) (
              atS x1 n7 fun (c12 : UInt8) =>
              K3 n4 b5 (IntKind.wrap .u64 ((IntKind.wrap .u64 ((10 : Int) * n6)) + (IntKind.wrap .u64 (IntKind.wrap .u8 ((c12.toNat : Int) - (48 : Int)))))) (IntKind.wrap .i64 (n7 + (1 : Int)))))) (
          ref05_Name.C x0 n6 fun (s13 : Bytes) =>
          ifB (!(s13 == x1)) (
            Q (0 : Int) false) (
            Q n6 true))) (0 : Int) false (0 : Int) (IntKind.wrap .i64 ((x0.length : Int) + (1 : Int)))))
def ref05_Number.ann : Ann := .seq (.leaf) (.seq (.join [(21, .sc .bool)] (.leaf) (.cond (.seq (.leaf) (.leaf)) (.leaf))) (.seq (.leaf) (.seq (.seq (.leaf) (.block (.loop [(4, .sc (.int .u64)), (5, .sc .bool), (6, .sc (.int .u64)), (7, .sc (.int .i64))] (.seq (.seq (.leaf) (.cond (.leaf) (.leaf))) (.seq (.block (.seq (.join [(40, .sc .bool)] (.leaf) (.cond (.seq (.leaf) (.leaf)) (.leaf))) (.leaf))) (.leaf)))))) (.seq (.seq (.leaf) (.cond (.seq (.leaf) (.leaf)) (.leaf))) (.seq (.leaf) (.leaf))))))
theorem ref05_Number.eq (x0 : Bytes) (x1 : Bytes) (Q : Int → Bool → PP) : denF Tryz.prog Tryz.f91 ref05_Number.ann [.string (bs x0), .string (bs x1)] [.sc (.int .u64), .sc .bool] Q = ref05_Number.F x0 x1 Q := by kernel_rfl
theorem ref05_Number.ok (x0 : Bytes) (x1 : Bytes) (Q : Int → Bool → PP) (h : Heap) (hh : ref05_Number.F x0 x1 Q h) : ref05_Number.C x0 x1 Q h :=
  call_of_den callOK mixed Tryz.func91 (by kernel_rfl) (by rw [ref05_Number.eq]; exact hh)
def ref07_Logs.F (x0 : Option Addr) (Q : Sl → PP) : PP :=
  ref05_Disk_Now.C x0 fun (l1 : Sl) =>
  loopT [.slice, .int .i64] (fun (K2 : Sl → Int → PP) (l3 : Sl) (n4 : Int) =>
    ifB (decide (n4 < (l1.len : Int))) (
      joinT [.slice] (fun (M5 : Sl → PP) =>
        idxP 2 l1.p l1.len n4 fun (a6 : Addr) =>
        ld (.str) (a6.add 0) fun (s7 : Bytes) =>
        ref05_Number.C ([108, 111, 103] : Bytes) s7 fun (n8 : Int) (b9 : Bool) =>
        ifB (!b9) (
          M5 l3) (
          loopT [.int .i64] (fun (K10 : Int → PP) (n11 : Int) =>
            joinT [.bool] (fun (M12 : Bool → PP) =>
              ifB (decide (n11 > (0 : Int))) (
                idxP 1 l3.p l3.len (IntKind.wrap .i64 (n11 - (1 : Int))) fun (a13 : Addr) =>
                ld (.int .u64) a13 fun (n14 : Int) =>
                M12 (decide (n14 > n8))) (
                M12 false))
            (fun (b15 : Bool) =>
              ifB b15 (
                K10 (IntKind.wrap .i64 (n11 - (1 : Int)))) (
                newP 30 [] fun (a16 : Addr) =>
                sliceSl 1 l3.p l3.cap 0 n11 (l3.cap : Int) fun (p17 : Option Addr) (k18 c19 : Nat) =>
                appP 30 1 8 #[.int .u64 (0 : Int)] (some a16) 0 0 (.slice p17 k18 c19) fun (p20 : Option Addr) (k21 c22 : Nat) =>
                newP 30 [.int .u64 n8] fun (a23 : Addr) =>
                appP 30 1 8 #[.int .u64 (0 : Int)] p20 k21 c22 (.slice (some a23) 1 1) fun (p24 : Option Addr) (k25 c26 : Nat) =>
                sliceSl 1 l3.p l3.cap n11 (l3.len : Int) (l3.cap : Int) fun (p27 : Option Addr) (k28 c29 : Nat) =>
                appP 30 1 8 #[.int .u64 (0 : Int)] p24 k25 c26 (.slice p27 k28 c29) fun (p30 : Option Addr) (k31 c32 : Nat) =>
                M5 (⟨p30, k31, c32⟩ : Sl)))) (l3.len : Int)))
      (fun (l33 : Sl) =>
        K2 l33 (IntKind.wrap .i64 (n4 + (1 : Int))))) (
      Q l3)) (⟨(none : Option Addr), 0, 0⟩ : Sl) (0 : Int)
def ref07_Logs.ann : Ann := .seq (.leaf) (.seq (.leaf) (.seq (.leaf) (.seq (.seq (.leaf) (.block (.loop [(3, .sc .slice), (5, .sc (.int .i64))] (.seq (.seq (.leaf) (.cond (.leaf) (.leaf))) (.join [(3, .sc .slice)] (.block (.seq (.leaf) (.seq (.seq (.leaf) (.cond (.leaf) (.leaf))) (.seq (.leaf) (.seq (.block (.loop [(8, .sc (.int .i64))] (.seq (.join [(41, .sc .bool)] (.leaf) (.cond (.leaf) (.leaf))) (.block (.leaf))))) (.seq (.leaf) (.seq (.leaf) (.leaf)))))))) (.leaf)))))) (.seq (.leaf) (.leaf)))))
theorem ref07_Logs.eq (x0 : Option Addr) (Q : Sl → PP) : denF Tryz.prog Tryz.f22 ref07_Logs.ann [.pointer x0] [.sc .slice] Q = ref07_Logs.F x0 Q := by kernel_rfl
theorem ref07_Logs.ok (x0 : Option Addr) (Q : Sl → PP) (h : Heap) (hh : ref07_Logs.F x0 Q h) : ref07_Logs.C x0 Q h :=
  call_of_den callOK mixed Tryz.func22 (by kernel_rfl) (by rw [ref07_Logs.eq]; exact hh)
def ref05_Disk_Read.F (x0 : Option Addr) (x1 : Bytes) (Q : Bytes → Int → PP) : PP :=
  nilP x0 fun (a1 : Addr) =>
  ld (.bool) (a1.add 3) fun (b2 : Bool) =>
  ifB b2 (
    Q ([] : Bytes) (7 : Int)) (
    ref05_Disk_find.C x0 x1 fun (n3 : Int) =>
    ifB (decide (n3 < (0 : Int))) (
      Q ([] : Bytes) (4 : Int)) (
      nilP x0 fun (a4 : Addr) =>
      ld (.slice) (a4.add 1) fun (l5 : Sl) =>
      idxP 2 l5.p l5.len n3 fun (a6 : Addr) =>
      ld (.str) (a6.add 0) fun (s7 : Bytes) =>
      Q s7 (0 : Int)))
def ref05_Disk_Read.ann : Ann := .seq (.leaf) (.seq (.seq (.leaf) (.cond (.seq (.leaf) (.leaf)) (.leaf))) (.seq (.leaf) (.seq (.seq (.leaf) (.cond (.seq (.leaf) (.leaf)) (.leaf))) (.seq (.leaf) (.leaf)))))
theorem ref05_Disk_Read.eq (x0 : Option Addr) (x1 : Bytes) (Q : Bytes → Int → PP) : denF Tryz.prog Tryz.f89 ref05_Disk_Read.ann [.pointer x0, .string (bs x1)] [.sc .str, .sc (.int .i64)] Q = ref05_Disk_Read.F x0 x1 Q := by kernel_rfl
theorem ref05_Disk_Read.ok (x0 : Option Addr) (x1 : Bytes) (Q : Bytes → Int → PP) (h : Heap) (hh : ref05_Disk_Read.F x0 x1 Q h) : ref05_Disk_Read.C x0 x1 Q h :=
  call_of_den callOK mixed Tryz.func89 (by kernel_rfl) (by rw [ref05_Disk_Read.eq]; exact hh)
def ref03_Read.F (x0 : Bytes) (Q : Bool → Bool → Int → Bytes → Bool → PP) : PP :=
  newP 297 [.bool false, .bool false, .int .i64 (0 : Int), .string (bs ([] : Bytes))] fun (a1 : Addr) =>
  joinT [.bool] (fun (M2 : Bool → PP) =>
    ifB ((x0.length : Int) != (32 : Int)) (
      M2 true) (
      atS x0 (0 : Int) fun (c3 : UInt8) =>
      ifB (decide ((c3.toNat : Int) < (64 : Int))) (
        M2 true) (
        atS x0 (0 : Int) fun (c4 : UInt8) =>
        ifB (decide ((c4.toNat : Int) > (67 : Int))) (
          M2 true) (
          atS x0 (1 : Int) fun (c5 : UInt8) =>
          M2 (decide ((c5.toNat : Int) > (24 : Int)))))))
  (fun (b6 : Bool) =>
    ifB b6 (
      stsP a1 [.bool, .bool, .int .i64, .str] (false, false, (0 : Int), ([] : Bytes), ()) 0 (
        lds [.bool, .bool, .int .i64, .str] a1 fun (b7 : Bool) (b8 : Bool) (n9 : Int) (s10 : Bytes) =>
        Q b7 b8 n9 s10 false)) (
      joinT [.addr] (fun (M11 : Addr → PP) =>
        drawT fun (S12 : PP) =>
        atS x0 (0 : Int) fun (c13 : UInt8) =>
        guardP ((2 : Int) ≠ 0) (atS x0 (0 : Int) fun (c14 : UInt8) =>
          atS x0 (2 : Int) fun (c15 : UInt8) =>
          atS x0 (3 : Int) fun (c16 : UInt8) =>
          atS x0 (1 : Int) fun (c17 : UInt8) =>
          sliceStr x0 (4 : Int) (IntKind.wrap .i64 ((4 : Int) + (IntKind.wrap .i64 (c17.toNat : Int)))) fun (s18 : Bytes) =>
          andP (
            withS S12 (
              newP 297 [.bool false, .bool false, .int .i64 (0 : Int), .string (bs ([] : Bytes))] fun (a19 : Addr) =>
              withS S12 (
                stsP a19 [.bool, .bool, .int .i64, .str] (((Int.tmod (c13.toNat : Int) (2 : Int)) == (1 : Int)), (decide ((c14.toNat : Int) ≥ (66 : Int))), (IntKind.wrap .i64 ((IntKind.wrap .i64 (c15.toNat : Int)) + (IntKind.wrap .i64 ((256 : Int) * (IntKind.wrap .i64 (c16.toNat : Int)))))), s18, ()) 0 (
                  M11 a19)))) (
            newP 297 [.bool false, .bool false, .int .i64 (0 : Int), .string (bs ([] : Bytes))] fun (a20 : Addr) =>
            withS S12 (
              withS S12 (
                stsP a20 [.bool, .bool, .int .i64, .str] (((Int.tmod (c13.toNat : Int) (2 : Int)) == (1 : Int)), (decide ((c14.toNat : Int) ≥ (66 : Int))), (IntKind.wrap .i64 ((IntKind.wrap .i64 (c15.toNat : Int)) + (IntKind.wrap .i64 ((256 : Int) * (IntKind.wrap .i64 (c16.toNat : Int)))))), s18, ()) 0 (
                  M11 a20))))))
      (fun (a21 : Addr) =>
        lds [.bool, .bool, .int .i64, .str] a21 fun (b22 : Bool) (b23 : Bool) (n24 : Int) (s25 : Bytes) =>
        ref03_Make.C b22 b23 n24 s25 fun (s26 : Bytes) (n27 : Int) =>
        joinT [.bool] (fun (M28 : Bool → PP) =>
          ifB (n27 != (0 : Int)) (
            M28 true) (
            M28 (!(s26 == x0))))
        (fun (b29 : Bool) =>
          ifB b29 (
            stsP a1 [.bool, .bool, .int .i64, .str] (false, false, (0 : Int), ([] : Bytes), ()) 0 (
              lds [.bool, .bool, .int .i64, .str] a1 fun (b30 : Bool) (b31 : Bool) (n32 : Int) (s33 : Bytes) =>
              Q b30 b31 n32 s33 false)) (
            lds [.bool, .bool, .int .i64, .str] a21 fun (b34 : Bool) (b35 : Bool) (n36 : Int) (s37 : Bytes) =>
            stsP a1 [.bool, .bool, .int .i64, .str] (b34, b35, n36, s37, ()) 0 (
              lds [.bool, .bool, .int .i64, .str] a1 fun (b38 : Bool) (b39 : Bool) (n40 : Int) (s41 : Bytes) =>
              Q b38 b39 n40 s41 true))))))
def ref03_Read.ann : Ann := .seq (.leaf) (.seq (.join [(24, .sc .bool)] (.leaf) (.cond (.seq (.leaf) (.leaf)) (.leaf))) (.join [(4, .sc .addr)] (.draw [10, 11, 12, 13, 14, 15, 16, 17, 18, 19, 20, 21, 22] (.take 0 (.take 1 (.take 2 (.take 3 (.take 4 (.take 5 (.take 6 (.take 7 (.take 8 (.take 9 (.take 10 (.take 11 (.take 12 (.take 13 (.take 14 (.take 15 (.take 16 (.take 17 (.take 18 (.take 19 (.take 20 (.alt 21 (.alt 22 (.alt 23 (.done) (.none)) (.none)) (.alt 22 (.alt 21 (.alt 23 (.done) (.none)) (.none)) (.none))))))))))))))))))))))))) (.seq (.leaf) (.seq (.join [(59, .sc .bool)] (.leaf) (.cond (.seq (.leaf) (.leaf)) (.leaf))) (.seq (.leaf) (.leaf))))))
theorem ref03_Read.eq (x0 : Bytes) (Q : Bool → Bool → Int → Bytes → Bool → PP) : denF Tryz.prog Tryz.f355 ref03_Read.ann [.string (bs x0)] [.agg [.bool, .bool, .int .i64, .str], .sc .bool] Q = ref03_Read.F x0 Q := by kernel_rfl
theorem ref03_Read.ok (x0 : Bytes) (Q : Bool → Bool → Int → Bytes → Bool → PP) (h : Heap) (hh : ref03_Read.F x0 Q h) : ref03_Read.C x0 Q h :=
  call_of_den callOK mixed Tryz.func355 (by kernel_rfl) (by rw [ref03_Read.eq]; exact hh)
end Go.Proofs.W
end
section
set_option maxRecDepth 100000
set_option linter.unusedVariables false
namespace Go.Proofs.W
open Go Go.Shal
def ref04_first.F (x0 : Bytes) (Q : Bytes → Bool → PP) : PP :=
  loopT [.str, .bool, .str, .int .i64] (fun (K1 : Bytes → Bool → Bytes → Int → PP) (s2 : Bytes) (b3 : Bool) (s4 : Bytes) (n5 : Int) =>
    ifB (decide ((IntKind.wrap .i64 ((IntKind.wrap .i64 ((32 : Int) * n5)) + (32 : Int))) ≤ (x0.length : Int))) (
      sliceStr x0 (IntKind.wrap .i64 ((32 : Int) * n5)) (IntKind.wrap .i64 ((IntKind.wrap .i64 ((32 : Int) * n5)) + (32 : Int))) fun (s6 : Bytes) =>
      ref03_Read.C s6 fun (b7 : Bool) (b8 : Bool) (n9 : Int) (s10 : Bytes) (b11 : Bool) =>
      newP 297 [.bool false, .bool false, .int .i64 (0 : Int), .string (bs ([] : Bytes))] fun (a12 : Addr) =>
      stsP a12 [.bool, .bool, .int .i64, .str] (b7, b8, n9, s10, ()) 0 (
        joinT [.bool] (fun (M13 : Bool → PP) =>
          ifB (!b11) (
            M13 true) (
            ld (.int .i64) (a12.add 2) fun (n14 : Int) =>
            ifB (n14 != n5) (
              M13 true) (
              ld (.str) (a12.add 3) fun (s15 : Bytes) =>
              M13 (decide ((IntKind.wrap .i64 ((s4.length : Int) + (s15.length : Int))) > (524288 : Int))))))
        (fun (b16 : Bool) =>
          ifB b16 (
            Q ([] : Bytes) false) (
            ld (.str) (a12.add 3) fun (s17 : Bytes) =>
            guardP (s4.length + s17.length ≤ 9223372036854775807) (ld (.bool) (a12.add 1) fun (b18 : Bool) =>
              ifB b18 (
                Q (s4 ++ s17) true) (
                K1 s2 b3 (s4 ++ s17) (IntKind.wrap .i64 (n5 + (1 : Int))))))))) (
      Q ([] : Bytes) false)) ([] : Bytes) false ([] : Bytes) (0 : Int)
def ref04_first.ann : Ann := .seq (.leaf) (.seq (.leaf) (.seq (.seq (.leaf) (.block (.loop [(2, .sc .str), (3, .sc .bool), (4, .sc .str), (5, .sc (.int .i64))] (.seq (.seq (.leaf) (.cond (.leaf) (.leaf))) (.seq (.block (.seq (.leaf) (.seq (.join [(43, .sc .bool)] (.leaf) (.cond (.seq (.leaf) (.leaf)) (.leaf))) (.seq (.leaf) (.seq (.leaf) (.cond (.seq (.leaf) (.leaf)) (.leaf))))))) (.leaf)))))) (.seq (.leaf) (.leaf))))
theorem ref04_first.eq (x0 : Bytes) (Q : Bytes → Bool → PP) : denF Tryz.prog Tryz.f310 ref04_first.ann [.string (bs x0)] [.sc .str, .sc .bool] Q = ref04_first.F x0 Q := by kernel_rfl
theorem ref04_first.ok (x0 : Bytes) (Q : Bytes → Bool → PP) (h : Heap) (hh : ref04_first.F x0 Q h) : ref04_first.C x0 Q h :=
  call_of_den callOK mixed Tryz.func310 (by kernel_rfl) (by rw [ref04_first.eq]; exact hh)
def ref04_Read.F (x0 : Bytes) (Q : Sl → Int → PP) : PP :=
  loopT [.slice, .int .i64, .slice, .int .i64] (fun (K1 : Sl → Int → Sl → Int → PP) (l2 : Sl) (n3 : Int) (l4 : Sl) (n5 : Int) =>
    sliceStr x0 n5 (x0.length : Int) fun (s6 : Bytes) =>
    ref04_first.C s6 fun (s7 : Bytes) (b8 : Bool) =>
    ifB (!b8) (
      Q l4 n5) (
      newP 9 [.string (bs s7)] fun (a9 : Addr) =>
      appP 9 1 16 #[.string (bs ([] : Bytes))] l4.p l4.len l4.cap (.slice (some a9) 1 1) fun (p10 : Option Addr) (k11 c12 : Nat) =>
      ref04_Frame.C s7 fun (s13 : Bytes) =>
      K1 l2 n3 (⟨p10, k11, c12⟩ : Sl) (IntKind.wrap .i64 (n5 + (s13.length : Int))))) (⟨(none : Option Addr), 0, 0⟩ : Sl) (0 : Int) (⟨(none : Option Addr), 0, 0⟩ : Sl) (0 : Int)
def ref04_Read.ann : Ann := .seq (.leaf) (.seq (.leaf) (.seq (.leaf) (.block (.loop [(2, .sc .slice), (3, .sc (.int .i64)), (4, .sc .slice), (5, .sc (.int .i64))] (.block (.seq (.leaf) (.seq (.seq (.leaf) (.cond (.seq (.leaf) (.leaf)) (.leaf))) (.seq (.leaf) (.leaf)))))))))
theorem ref04_Read.eq (x0 : Bytes) (Q : Sl → Int → PP) : denF Tryz.prog Tryz.f226 ref04_Read.ann [.string (bs x0)] [.sc .slice, .sc (.int .i64)] Q = ref04_Read.F x0 Q := by kernel_rfl
theorem ref04_Read.ok (x0 : Bytes) (Q : Sl → Int → PP) (h : Heap) (hh : ref04_Read.F x0 Q h) : ref04_Read.C x0 Q h :=
  call_of_den callOK mixed Tryz.func226 (by kernel_rfl) (by rw [ref04_Read.eq]; exact hh)
def ref01_ReadVar.F (x0 : Bytes) (Q : Int → Int → Bool → PP) : PP :=
  ifB ((x0.length : Int) == (0 : Int)) (
    Q (0 : Int) (0 : Int) false) (
    atS x0 (0 : Int) fun (c1 : UInt8) =>
    ifB (decide ((c1.toNat : Int) < (248 : Int))) (
      atS x0 (0 : Int) fun (c2 : UInt8) =>
      Q (IntKind.wrap .u64 (c2.toNat : Int)) (1 : Int) true) (
      atS x0 (0 : Int) fun (c3 : UInt8) =>
      ifB (decide ((x0.length : Int) < (IntKind.wrap .i64 ((IntKind.wrap .i64 (c3.toNat : Int)) - (246 : Int))))) (
        Q (0 : Int) (0 : Int) false) (
        loopT [.int .u64, .int .i64] (fun (K4 : Int → Int → PP) (n5 : Int) (n6 : Int) =>
          ifB (decide (n6 < (IntKind.wrap .i64 ((IntKind.wrap .i64 (c3.toNat : Int)) - (246 : Int))))) (
            atS x0 n6 fun (c7 : UInt8) =>
            K4 (IntKind.wrap .u64 ((IntKind.wrap .u64 ((256 : Int) * n5)) + (IntKind.wrap .u64 (c7.toNat : Int)))) (IntKind.wrap .i64 (n6 + (1 : Int)))) (
            drawT fun (S8 : PP) =>
            sliceStr x0 0 (IntKind.wrap .i64 ((IntKind.wrap .i64 (c3.toNat : Int)) - (246 : Int))) fun (s9 : Bytes) =>
            ref01_Row.C n5 fun (s10 : Bytes) =>
            ifB (!(s10 == s9)) (
              Q (0 : Int) (0 : Int) false) (
              Q n5 (IntKind.wrap .i64 ((IntKind.wrap .i64 (c3.toNat : Int)) - (246 : Int))) true))) (0 : Int) (1 : Int))))
def ref01_ReadVar.ann : Ann := .seq (.leaf) (.seq (.seq (.leaf) (.cond (.seq (.leaf) (.leaf)) (.leaf))) (.seq (.seq (.leaf) (.cond (.seq (.leaf) (.leaf)) (.leaf))) (.seq (.leaf) (.seq (.seq (.leaf) (.cond (.seq (.leaf) (.leaf)) (.leaf))) (.seq (.leaf) (.seq (.seq (.leaf) (.block (.loop [(6, .sc (.int .u64)), (7, .sc (.int .i64))] (.seq (.seq (.leaf) (.cond (.leaf) (.leaf))) (.seq (.block (.leaf)) (.leaf)))))) (.seq (.seq (.draw [] (.take 0 (.take 2 (.take 3 (.take 4 (.alt 1 (.take 5 (.done)) (.none))))))) (.cond (.seq (.leaf) (.leaf)) (.leaf))) (.seq (.leaf) (.leaf)))))))))
theorem ref01_ReadVar.eq (x0 : Bytes) (Q : Int → Int → Bool → PP) : denF Tryz.prog Tryz.f311 ref01_ReadVar.ann [.string (bs x0)] [.sc (.int .u64), .sc (.int .i64), .sc .bool] Q = ref01_ReadVar.F x0 Q := by kernel_rfl
theorem ref01_ReadVar.ok (x0 : Bytes) (Q : Int → Int → Bool → PP) (h : Heap) (hh : ref01_ReadVar.F x0 Q h) : ref01_ReadVar.C x0 Q h :=
  call_of_den callOK mixed Tryz.func311 (by kernel_rfl) (by rw [ref01_ReadVar.eq]; exact hh)
def ref01_ReadText.F (x0 : Bytes) (x1 : Int) (Q : Bytes → Int → Bool → PP) : PP :=
  ref01_ReadVar.C x0 fun (n1 : Int) (n2 : Int) (b3 : Bool) =>
  joinT [.bool] (fun (M4 : Bool → PP) =>
    ifB (!b3) (
      M4 true) (
      M4 (decide (n1 > (IntKind.wrap .u64 (x0.length : Int))))))
  (fun (b5 : Bool) =>
    ifB b5 (
      Q ([] : Bytes) (0 : Int) false) (
      joinT [.bool] (fun (M6 : Bool → PP) =>
        ifB (decide ((IntKind.wrap .i64 (n2 + (IntKind.wrap .i64 n1))) > (x0.length : Int))) (
          M6 true) (
          M6 (decide ((IntKind.wrap .i64 n1) > x1))))
      (fun (b7 : Bool) =>
        ifB b7 (
          Q ([] : Bytes) (0 : Int) false) (
          sliceStr x0 n2 (IntKind.wrap .i64 (n2 + (IntKind.wrap .i64 n1))) fun (s8 : Bytes) =>
          Q s8 (IntKind.wrap .i64 (n2 + (IntKind.wrap .i64 n1))) true))))
def ref01_ReadText.ann : Ann := .seq (.leaf) (.seq (.leaf) (.seq (.join [(25, .sc .bool)] (.leaf) (.cond (.seq (.leaf) (.leaf)) (.leaf))) (.seq (.leaf) (.seq (.join [(39, .sc .bool)] (.leaf) (.cond (.seq (.leaf) (.leaf)) (.leaf))) (.seq (.leaf) (.leaf))))))
theorem ref01_ReadText.eq (x0 : Bytes) (x1 : Int) (Q : Bytes → Int → Bool → PP) : denF Tryz.prog Tryz.f312 ref01_ReadText.ann [.string (bs x0), .int .i64 x1] [.sc .str, .sc (.int .i64), .sc .bool] Q = ref01_ReadText.F x0 x1 Q := by kernel_rfl
theorem ref01_ReadText.ok (x0 : Bytes) (x1 : Int) (Q : Bytes → Int → Bool → PP) (h : Heap) (hh : ref01_ReadText.F x0 x1 Q h) : ref01_ReadText.C x0 x1 Q h :=
  call_of_den callOK mixed Tryz.func312 (by kernel_rfl) (by rw [ref01_ReadText.eq]; exact hh)
def ref06_Decode.F (x0 : Bytes) (Q : Int → Sl → Bool → PP) : PP :=
  newP 144 [.int .u64 (0 : Int), .slice (none : Option Addr) 0 0] fun (a1 : Addr) =>
  ref01_ReadVar.C x0 fun (n2 : Int) (n3 : Int) (b4 : Bool) =>
  ifB (!b4) (
    stsP a1 [.int .u64, .slice] ((0 : Int), (⟨(none : Option Addr), 0, 0⟩ : Sl), ()) 0 (
      lds [.int .u64, .slice] a1 fun (n5 : Int) (l6 : Sl) =>
      Q n5 l6 false)) (
    sliceStr x0 n3 (x0.length : Int) fun (s7 : Bytes) =>
    ref01_ReadVar.C s7 fun (n8 : Int) (n9 : Int) (b10 : Bool) =>
    joinT [.bool] (fun (M11 : Bool → PP) =>
      ifB (!b10) (
        M11 true) (
        M11 (decide (n8 > (16 : Int)))))
    (fun (b12 : Bool) =>
      ifB b12 (
        stsP a1 [.int .u64, .slice] ((0 : Int), (⟨(none : Option Addr), 0, 0⟩ : Sl), ()) 0 (
          lds [.int .u64, .slice] a1 fun (n13 : Int) (l14 : Sl) =>
          Q n13 l14 false)) (
        newP 144 [.int .u64 (0 : Int), .slice (none : Option Addr) 0 0] fun (a15 : Addr) =>
        stsP a15 [.int .u64, .slice] (n2, (⟨(none : Option Addr), 0, 0⟩ : Sl), ()) 0 (
          loopT [.bool, .int .i64, .int .i64, .bool, .int .u64] (fun (K16 : Bool → Int → Int → Bool → Int → PP) (b17 : Bool) (n18 : Int) (n19 : Int) (b20 : Bool) (n21 : Int) =>
            ifB (decide (n21 < n8)) (
              ifB (decide (n18 ≥ (x0.length : Int))) (
                stsP a1 [.int .u64, .slice] ((0 : Int), (⟨(none : Option Addr), 0, 0⟩ : Sl), ()) 0 (
                  lds [.int .u64, .slice] a1 fun (n22 : Int) (l23 : Sl) =>
                  Q n22 l23 false)) (
                atS x0 n18 fun (c24 : UInt8) =>
                newP 124 [.string (bs ([] : Bytes)), .string (bs ([] : Bytes)), .bool false] fun (a25 : Addr) =>
                stsP a25 [.str, .str, .bool] (([] : Bytes), ([] : Bytes), ((c24.toNat : Int) == (1 : Int)), ()) 0 (
                  sliceStr x0 (IntKind.wrap .i64 (n18 + (1 : Int))) (x0.length : Int) fun (s26 : Bytes) =>
                  ref01_ReadText.C s26 (64 : Int) fun (s27 : Bytes) (n28 : Int) (b29 : Bool) =>
                  stP (.str) (a25.add 0) s27 (
                    ifB (!b29) (
                      stsP a1 [.int .u64, .slice] ((0 : Int), (⟨(none : Option Addr), 0, 0⟩ : Sl), ()) 0 (
                        lds [.int .u64, .slice] a1 fun (n30 : Int) (l31 : Sl) =>
                        Q n30 l31 false)) (
                      joinT [.int .i64, .bool, .bool, .int .i64] (fun (M32 : Int → Bool → Bool → Int → PP) =>
                        ld (.bool) (a25.add 2) fun (b33 : Bool) =>
                        ifB (!b33) (
                        sliceStr x0 (IntKind.wrap .i64 ((IntKind.wrap .i64 (n18 + (1 : Int))) + n28)) (x0.length : Int) fun (s34 : Bytes) =>
                        ref01_ReadText.C s34 (512 : Int) fun (s35 : Bytes) (n36 : Int) (b37 : Bool) =>
                        stP (.str) (a25.add 1) s35 (
                        ifB (!b37) (
                        stsP a1 [.int .u64, .slice] ((0 : Int), (⟨(none : Option Addr), 0, 0⟩ : Sl), ()) 0 (
                        lds [.int .u64, .slice] a1 fun (n38 : Int) (l39 : Sl) =>
                        Q n38 l39 false)) (
                        M32 n36 b37 b17 (IntKind.wrap .i64 ((IntKind.wrap .i64 ((IntKind.wrap .i64 (n18 + (1 : Int))) + n28)) + n36))))) (
                        M32 n28 b29 b17 (IntKind.wrap .i64 ((IntKind.wrap .i64 (n18 + (1 : Int))) + n28))))
                      (fun (n40 : Int) (b41 : Bool) (b42 : Bool) (n43 : Int) =>
                        ld (.slice) (a15.add 1) fun (l44 : Sl) =>
                        lds [.str, .str, .bool] a25 fun (s45 : Bytes) (s46 : Bytes) (b47 : Bool) =>
                        newP 124 [.string (bs s45), .string (bs s46), .bool b47] fun (a48 : Addr) =>
                        appP 124 3 40 #[.string (bs ([] : Bytes)), .string (bs ([] : Bytes)), .bool false] l44.p l44.len l44.cap (.slice (some a48) 1 1) fun (p49 : Option Addr) (k50 c51 : Nat) =>
                        stP (.slice) (a15.add 1) (⟨p49, k50, c51⟩ : Sl) (
                        K16 b42 n43 n40 b41 (IntKind.wrap .u64 (n21 + (1 : Int)))))))))) (
              lds [.int .u64, .slice] a15 fun (n52 : Int) (l53 : Sl) =>
              ref06_Encode.C n52 l53 fun (s54 : Bytes) (n55 : Int) =>
              joinT [.bool] (fun (M56 : Bool → PP) =>
                ifB (n55 != (0 : Int)) (
                  M56 true) (
                  M56 (!(s54 == x0))))
              (fun (b57 : Bool) =>
                ifB b57 (
                  stsP a1 [.int .u64, .slice] ((0 : Int), (⟨(none : Option Addr), 0, 0⟩ : Sl), ()) 0 (
                    lds [.int .u64, .slice] a1 fun (n58 : Int) (l59 : Sl) =>
                    Q n58 l59 false)) (
                  lds [.int .u64, .slice] a15 fun (n60 : Int) (l61 : Sl) =>
                  stsP a1 [.int .u64, .slice] (n60, l61, ()) 0 (
                    lds [.int .u64, .slice] a1 fun (n62 : Int) (l63 : Sl) =>
                    Q n62 l63 true))))) false (IntKind.wrap .i64 (n3 + n9)) n9 b10 (0 : Int)))))
def ref06_Decode.ann : Ann := .seq (.leaf) (.seq (.leaf) (.seq (.seq (.leaf) (.cond (.seq (.leaf) (.leaf)) (.leaf))) (.seq (.leaf) (.seq (.join [(36, .sc .bool)] (.leaf) (.cond (.seq (.leaf) (.leaf)) (.leaf))) (.seq (.leaf) (.seq (.leaf) (.seq (.seq (.leaf) (.block (.loop [(3, .sc .bool), (5, .sc (.int .i64)), (8, .sc (.int .i64)), (6, .sc .bool), (10, .sc (.int .u64))] (.seq (.seq (.leaf) (.cond (.leaf) (.leaf))) (.seq (.block (.seq (.seq (.leaf) (.cond (.seq (.leaf) (.leaf)) (.leaf))) (.seq (.leaf) (.seq (.leaf) (.seq (.leaf) (.seq (.seq (.leaf) (.cond (.seq (.leaf) (.leaf)) (.leaf))) (.seq (.leaf) (.join [(8, .sc (.int .i64)), (6, .sc .bool), (3, .sc .bool), (5, .sc (.int .i64))] (.seq (.leaf) (.cond (.seq (.leaf) (.seq (.seq (.leaf) (.cond (.seq (.leaf) (.leaf)) (.leaf))) (.leaf))) (.leaf))) (.leaf))))))))) (.leaf)))))) (.seq (.leaf) (.seq (.join [(110, .sc .bool)] (.leaf) (.cond (.seq (.leaf) (.leaf)) (.leaf))) (.seq (.leaf) (.leaf)))))))))))
theorem ref06_Decode.eq (x0 : Bytes) (Q : Int → Sl → Bool → PP) : denF Tryz.prog Tryz.f227 ref06_Decode.ann [.string (bs x0)] [.agg [.int .u64, .slice], .sc .bool] Q = ref06_Decode.F x0 Q := by kernel_rfl
theorem ref06_Decode.ok (x0 : Bytes) (Q : Int → Sl → Bool → PP) (h : Heap) (hh : ref06_Decode.F x0 Q h) : ref06_Decode.C x0 Q h :=
  call_of_den callOK mixed Tryz.func227 (by kernel_rfl) (by rw [ref06_Decode.eq]; exact hh)
def ref07_Batches.F (x0 : Bytes) (Q : Sl → PP) : PP :=
  ref04_Read.C x0 fun (l1 : Sl) (n2 : Int) =>
  loopT [.slice, .slice, .int .i64] (fun (K3 : Sl → Sl → Int → PP) (l4 : Sl) (l5 : Sl) (n6 : Int) =>
    ifB (decide (n6 < (l1.len : Int))) (
      idxP 1 l1.p l1.len n6 fun (a7 : Addr) =>
      ld (.str) a7 fun (s8 : Bytes) =>
      ref06_Decode.C s8 fun (n9 : Int) (l10 : Sl) (b11 : Bool) =>
      newP 144 [.int .u64 (0 : Int), .slice (none : Option Addr) 0 0] fun (a12 : Addr) =>
      stsP a12 [.int .u64, .slice] (n9, l10, ()) 0 (
        ifB (!b11) (
          Q l5) (
          lds [.int .u64, .slice] a12 fun (n13 : Int) (l14 : Sl) =>
          newP 144 [.int .u64 n13, .slice l14.p l14.len l14.cap] fun (a15 : Addr) =>
          appP 144 2 32 #[.int .u64 (0 : Int), .slice (none : Option Addr) 0 0] l5.p l5.len l5.cap (.slice (some a15) 1 1) fun (p16 : Option Addr) (k17 c18 : Nat) =>
          K3 l4 (⟨p16, k17, c18⟩ : Sl) (IntKind.wrap .i64 (n6 + (1 : Int)))))) (
      Q l5)) (⟨(none : Option Addr), 0, 0⟩ : Sl) (⟨(none : Option Addr), 0, 0⟩ : Sl) (0 : Int)
def ref07_Batches.ann : Ann := .seq (.leaf) (.seq (.leaf) (.seq (.leaf) (.seq (.seq (.leaf) (.block (.loop [(2, .sc .slice), (3, .sc .slice), (6, .sc (.int .i64))] (.seq (.seq (.leaf) (.cond (.leaf) (.leaf))) (.seq (.block (.seq (.leaf) (.seq (.seq (.leaf) (.cond (.seq (.leaf) (.leaf)) (.leaf))) (.leaf)))) (.leaf)))))) (.seq (.leaf) (.leaf)))))
theorem ref07_Batches.eq (x0 : Bytes) (Q : Sl → PP) : denF Tryz.prog Tryz.f158 ref07_Batches.ann [.string (bs x0)] [.sc .slice] Q = ref07_Batches.F x0 Q := by kernel_rfl
theorem ref07_Batches.ok (x0 : Bytes) (Q : Sl → PP) (h : Heap) (hh : ref07_Batches.F x0 Q h) : ref07_Batches.C x0 Q h :=
  call_of_den callOK mixed Tryz.func158 (by kernel_rfl) (by rw [ref07_Batches.eq]; exact hh)
def ref07_Replay.F (x0 : Option Addr) (x1 : Int) (Q : Sl → Int → PP) : PP :=
  nilP x0 fun (a1 : Addr) =>
  ld (.bool) (a1.add 3) fun (b2 : Bool) =>
  ifB b2 (
    Q (⟨(none : Option Addr), 0, 0⟩ : Sl) (7 : Int)) (
    ref07_Logs.C x0 fun (l3 : Sl) =>
    loopT [.slice, .int .i64] (fun (K4 : Sl → Int → PP) (l5 : Sl) (n6 : Int) =>
      ifB (decide (n6 < (l3.len : Int))) (
        joinT [.slice] (fun (M7 : Sl → PP) =>
          idxP 1 l3.p l3.len n6 fun (a8 : Addr) =>
          ld (.int .u64) a8 fun (n9 : Int) =>
          ifB (decide (n9 ≥ x1)) (
            idxP 1 l3.p l3.len n6 fun (a10 : Addr) =>
            ld (.int .u64) a10 fun (n11 : Int) =>
            ref05_Name.C ([108, 111, 103] : Bytes) n11 fun (s12 : Bytes) =>
            ref05_Disk_Read.C x0 s12 fun (s13 : Bytes) (n14 : Int) =>
            ref07_Batches.C s13 fun (l15 : Sl) =>
            appP 144 2 32 #[.int .u64 (0 : Int), .slice (none : Option Addr) 0 0] l5.p l5.len l5.cap (.slice l15.p l15.len l15.cap) fun (p16 : Option Addr) (k17 c18 : Nat) =>
            M7 (⟨p16, k17, c18⟩ : Sl)) (
            M7 l5))
        (fun (l19 : Sl) =>
          K4 l19 (IntKind.wrap .i64 (n6 + (1 : Int))))) (
        Q l5 (0 : Int))) (⟨(none : Option Addr), 0, 0⟩ : Sl) (0 : Int))
def ref07_Replay.ann : Ann := .seq (.leaf) (.seq (.seq (.leaf) (.cond (.seq (.leaf) (.leaf)) (.leaf))) (.seq (.leaf) (.seq (.leaf) (.seq (.seq (.leaf) (.block (.loop [(6, .sc .slice), (8, .sc (.int .i64))] (.seq (.seq (.leaf) (.cond (.leaf) (.leaf))) (.join [(6, .sc .slice)] (.block (.seq (.leaf) (.cond (.seq (.leaf) (.leaf)) (.leaf)))) (.leaf)))))) (.seq (.leaf) (.leaf))))))
theorem ref07_Replay.eq (x0 : Option Addr) (x1 : Int) (Q : Sl → Int → PP) : denF Tryz.prog Tryz.f81 ref07_Replay.ann [.pointer x0, .int .u64 x1] [.sc .slice, .sc (.int .i64)] Q = ref07_Replay.F x0 x1 Q := by kernel_rfl
theorem ref07_Replay.ok (x0 : Option Addr) (x1 : Int) (Q : Sl → Int → PP) (h : Heap) (hh : ref07_Replay.F x0 x1 Q h) : ref07_Replay.C x0 x1 Q h :=
  call_of_den callOK mixed Tryz.func81 (by kernel_rfl) (by rw [ref07_Replay.eq]; exact hh)
def ref05_without.F (x0 : Sl) (x1 : Bytes) (Q : Sl → PP) : PP :=
  loopT [.slice, .int .i64] (fun (K1 : Sl → Int → PP) (l2 : Sl) (n3 : Int) =>
    ifB (decide (n3 < (x0.len : Int))) (
      joinT [.slice] (fun (M4 : Sl → PP) =>
        idxP 2 x0.p x0.len n3 fun (a5 : Addr) =>
        ld (.str) (a5.add 0) fun (s6 : Bytes) =>
        ifB (!(s6 == x1)) (
          idxP 2 x0.p x0.len n3 fun (a7 : Addr) =>
          lds [.str, .int .i64] a7 fun (s8 : Bytes) (n9 : Int) =>
          newP 155 [.string (bs s8), .int .i64 n9] fun (a10 : Addr) =>
          appP 155 2 24 #[.string (bs ([] : Bytes)), .int .i64 (0 : Int)] l2.p l2.len l2.cap (.slice (some a10) 1 1) fun (p11 : Option Addr) (k12 c13 : Nat) =>
          M4 (⟨p11, k12, c13⟩ : Sl)) (
          M4 l2))
      (fun (l14 : Sl) =>
        K1 l14 (IntKind.wrap .i64 (n3 + (1 : Int))))) (
      Q l2)) (⟨(none : Option Addr), 0, 0⟩ : Sl) (0 : Int)
def ref05_without.ann : Ann := .seq (.leaf) (.seq (.leaf) (.seq (.seq (.leaf) (.block (.loop [(5, .sc .slice), (6, .sc (.int .i64))] (.seq (.seq (.leaf) (.cond (.leaf) (.leaf))) (.join [(5, .sc .slice)] (.block (.seq (.leaf) (.cond (.leaf) (.leaf)))) (.leaf)))))) (.seq (.leaf) (.leaf))))
theorem ref05_without.eq (x0 : Sl) (x1 : Bytes) (Q : Sl → PP) : denF Tryz.prog Tryz.f228 ref05_without.ann [.slice x0.p x0.len x0.cap, .string (bs x1)] [.sc .slice] Q = ref05_without.F x0 x1 Q := by kernel_rfl
theorem ref05_without.ok (x0 : Sl) (x1 : Bytes) (Q : Sl → PP) (h : Heap) (hh : ref05_without.F x0 x1 Q h) : ref05_without.C x0 x1 Q h :=
  call_of_den callOK mixed Tryz.func228 (by kernel_rfl) (by rw [ref05_without.eq]; exact hh)
def ref05_Disk_Delete.F (x0 : Option Addr) (x1 : Bytes) (Q : Int → PP) : PP :=
  nilP x0 fun (a1 : Addr) =>
  ld (.bool) (a1.add 3) fun (b2 : Bool) =>
  ifB b2 (
    Q (7 : Int)) (
    ref05_Disk_find.C x0 x1 fun (n3 : Int) =>
    ifB (decide (n3 < (0 : Int))) (
      Q (4 : Int)) (
      ref05_Disk_goes.C x0 fun (b4 : Bool) =>
      ifB (!b4) (
        Q (7 : Int)) (
        drawT fun (S5 : PP) =>
        nilP x0 fun (a6 : Addr) =>
        ldG S5 (.slice) (a6.add 2) fun (l7 : Sl) =>
        ref05_Disk_Now.C x0 fun (l8 : Sl) =>
        withS S5 (
          ref05_without.C l8 x1 fun (l9 : Sl) =>
          withS S5 (
            newP 152 [.slice l9.p l9.len l9.cap] fun (a10 : Addr) =>
            withS S5 (
              appP 152 1 24 #[.slice (none : Option Addr) 0 0] l7.p l7.len l7.cap (.slice (some a10) 1 1) fun (p11 : Option Addr) (k12 c13 : Nat) =>
              nilP x0 fun (a14 : Addr) =>
              stP (.slice) (a14.add 2) (⟨p11, k12, c13⟩ : Sl) (
                Q (0 : Int))))))))
def ref05_Disk_Delete.ann : Ann := .seq (.leaf) (.seq (.seq (.leaf) (.cond (.seq (.leaf) (.leaf)) (.leaf))) (.seq (.seq (.leaf) (.cond (.seq (.leaf) (.leaf)) (.leaf))) (.seq (.seq (.leaf) (.cond (.seq (.leaf) (.leaf)) (.leaf))) (.seq (.draw [5, 6, 7, 8, 9] (.take 0 (.take 1 (.take 2 (.take 3 (.take 4 (.take 5 (.take 7 (.alt 6 (.alt 8 (.alt 9 (.alt 10 (.take 11 (.take 12 (.alt 13 (.done) (.none)))) (.none)) (.none)) (.none)) (.none)))))))))) (.seq (.leaf) (.leaf))))))
theorem ref05_Disk_Delete.eq (x0 : Option Addr) (x1 : Bytes) (Q : Int → PP) : denF Tryz.prog Tryz.f159 ref05_Disk_Delete.ann [.pointer x0, .string (bs x1)] [.sc (.int .i64)] Q = ref05_Disk_Delete.F x0 x1 Q := by kernel_rfl
theorem ref05_Disk_Delete.ok (x0 : Option Addr) (x1 : Bytes) (Q : Int → PP) (h : Heap) (hh : ref05_Disk_Delete.F x0 x1 Q h) : ref05_Disk_Delete.C x0 x1 Q h :=
  call_of_den callOK mixed Tryz.func159 (by kernel_rfl) (by rw [ref05_Disk_Delete.eq]; exact hh)
def ref07_Retire.F (x0 : Option Addr) (x1 : Int) (Q : Int → PP) : PP :=
  nilP x0 fun (a1 : Addr) =>
  ld (.bool) (a1.add 3) fun (b2 : Bool) =>
  ifB b2 (
    Q (7 : Int)) (
    ref07_Logs.C x0 fun (l3 : Sl) =>
    loopT [.int .i64, .int .i64] (fun (K4 : Int → Int → PP) (n5 : Int) (n6 : Int) =>
      ifB (decide (n6 < (l3.len : Int))) (
        joinT [.int .i64] (fun (M7 : Int → PP) =>
          idxP 1 l3.p l3.len n6 fun (a8 : Addr) =>
          ld (.int .u64) a8 fun (n9 : Int) =>
          ifB (decide (n9 < x1)) (
            idxP 1 l3.p l3.len n6 fun (a10 : Addr) =>
            ld (.int .u64) a10 fun (n11 : Int) =>
            ref05_Name.C ([108, 111, 103] : Bytes) n11 fun (s12 : Bytes) =>
            ref05_Disk_Delete.C x0 s12 fun (n13 : Int) =>
            ifB (n13 != (0 : Int)) (
              Q n13) (
              M7 n5)) (
            M7 n5))
        (fun (n14 : Int) =>
          K4 n14 (IntKind.wrap .i64 (n6 + (1 : Int))))) (
        Q (0 : Int))) (0 : Int) (0 : Int))
def ref07_Retire.ann : Ann := .seq (.leaf) (.seq (.seq (.leaf) (.cond (.seq (.leaf) (.leaf)) (.leaf))) (.seq (.leaf) (.seq (.seq (.leaf) (.block (.loop [(4, .sc (.int .i64)), (6, .sc (.int .i64))] (.seq (.seq (.leaf) (.cond (.leaf) (.leaf))) (.join [(4, .sc (.int .i64))] (.block (.seq (.leaf) (.cond (.seq (.leaf) (.seq (.leaf) (.cond (.seq (.leaf) (.leaf)) (.leaf)))) (.leaf)))) (.leaf)))))) (.seq (.leaf) (.leaf)))))
theorem ref07_Retire.eq (x0 : Option Addr) (x1 : Int) (Q : Int → PP) : denF Tryz.prog Tryz.f82 ref07_Retire.ann [.pointer x0, .int .u64 x1] [.sc (.int .i64)] Q = ref07_Retire.F x0 x1 Q := by kernel_rfl
theorem ref07_Retire.ok (x0 : Option Addr) (x1 : Int) (Q : Int → PP) (h : Heap) (hh : ref07_Retire.F x0 x1 Q h) : ref07_Retire.C x0 x1 Q h :=
  call_of_den callOK mixed Tryz.func82 (by kernel_rfl) (by rw [ref07_Retire.eq]; exact hh)
end Go.Proofs.W
end
section
set_option maxRecDepth 100000
set_option linter.unusedVariables false
namespace Go.Proofs.W
open Go Go.Shal
def ref05_Disk_Rename.F (x0 : Option Addr) (x1 : Bytes) (x2 : Bytes) (Q : Int → PP) : PP :=
  nilP x0 fun (a1 : Addr) =>
  ld (.bool) (a1.add 3) fun (b2 : Bool) =>
  ifB b2 (
    Q (7 : Int)) (
    ref05_Right.C x2 fun (b3 : Bool) =>
    ifB (!b3) (
      Q (1 : Int)) (
      ref05_Disk_find.C x0 x1 fun (n4 : Int) =>
      ifB (decide (n4 < (0 : Int))) (
        Q (4 : Int)) (
        ref05_Disk_goes.C x0 fun (b5 : Bool) =>
        ifB (!b5) (
          Q (7 : Int)) (
          ifB (!(x1 == x2)) (
            drawT fun (S6 : PP) =>
            nilP x0 fun (a7 : Addr) =>
            ldG S6 (.slice) (a7.add 2) fun (l8 : Sl) =>
            andP (
              ref05_Disk_Now.C x0 fun (l9 : Sl) =>
              withS S6 (
                andP (
                  ref05_without.C l9 x1 fun (l10 : Sl) =>
                  withS S6 (
                    andP (
                      ref05_without.C l10 x2 fun (l11 : Sl) =>
                      withS S6 (
                        withS S6 (
                        ref05_with.C l11 x2 n4 fun (l12 : Sl) =>
                        withS S6 (
                        newP 152 [.slice l12.p l12.len l12.cap] fun (a13 : Addr) =>
                        withS S6 (
                        appP 152 1 24 #[.slice (none : Option Addr) 0 0] l8.p l8.len l8.cap (.slice (some a13) 1 1) fun (p14 : Option Addr) (k15 c16 : Nat) =>
                        nilP x0 fun (a17 : Addr) =>
                        stP (.slice) (a17.add 2) (⟨p14, k15, c16⟩ : Sl) (
                        Q (0 : Int))))))) (
                      withS S6 (
                        ref05_without.C l10 x2 fun (l18 : Sl) =>
                        withS S6 (
                        ref05_with.C l18 x2 n4 fun (l19 : Sl) =>
                        withS S6 (
                        newP 152 [.slice l19.p l19.len l19.cap] fun (a20 : Addr) =>
                        withS S6 (
                        appP 152 1 24 #[.slice (none : Option Addr) 0 0] l8.p l8.len l8.cap (.slice (some a20) 1 1) fun (p21 : Option Addr) (k22 c23 : Nat) =>
                        nilP x0 fun (a24 : Addr) =>
                        stP (.slice) (a24.add 2) (⟨p21, k22, c23⟩ : Sl) (
                        Q (0 : Int))))))))) (
                  withS S6 (
                    ref05_without.C l9 x1 fun (l25 : Sl) =>
                    withS S6 (
                      ref05_without.C l25 x2 fun (l26 : Sl) =>
                      withS S6 (
                        ref05_with.C l26 x2 n4 fun (l27 : Sl) =>
                        withS S6 (
                        newP 152 [.slice l27.p l27.len l27.cap] fun (a28 : Addr) =>
                        withS S6 (
                        appP 152 1 24 #[.slice (none : Option Addr) 0 0] l8.p l8.len l8.cap (.slice (some a28) 1 1) fun (p29 : Option Addr) (k30 c31 : Nat) =>
                        nilP x0 fun (a32 : Addr) =>
                        stP (.slice) (a32.add 2) (⟨p29, k30, c31⟩ : Sl) (
                        Q (0 : Int)))))))))) (
              withS S6 (
                ref05_Disk_Now.C x0 fun (l33 : Sl) =>
                withS S6 (
                  ref05_without.C l33 x1 fun (l34 : Sl) =>
                  withS S6 (
                    ref05_without.C l34 x2 fun (l35 : Sl) =>
                    withS S6 (
                      ref05_with.C l35 x2 n4 fun (l36 : Sl) =>
                      withS S6 (
                        newP 152 [.slice l36.p l36.len l36.cap] fun (a37 : Addr) =>
                        withS S6 (
                        appP 152 1 24 #[.slice (none : Option Addr) 0 0] l8.p l8.len l8.cap (.slice (some a37) 1 1) fun (p38 : Option Addr) (k39 c40 : Nat) =>
                        nilP x0 fun (a41 : Addr) =>
                        stP (.slice) (a41.add 2) (⟨p38, k39, c40⟩ : Sl) (
                        Q (0 : Int)))))))))) (
            Q (0 : Int))))))
def ref05_Disk_Rename.ann : Ann := .seq (.leaf) (.seq (.seq (.leaf) (.cond (.seq (.leaf) (.leaf)) (.leaf))) (.seq (.seq (.leaf) (.cond (.seq (.leaf) (.leaf)) (.leaf))) (.seq (.leaf) (.seq (.seq (.leaf) (.cond (.seq (.leaf) (.leaf)) (.leaf))) (.seq (.seq (.leaf) (.cond (.seq (.leaf) (.leaf)) (.leaf))) (.seq (.seq (.leaf) (.cond (.draw [5, 6, 7, 8, 9, 10, 11, 12, 13, 14, 15] (.take 0 (.take 1 (.take 2 (.take 3 (.take 4 (.take 5 (.take 7 (.take 9 (.take 11 (.take 12 (.alt 6 (.alt 8 (.alt 10 (.alt 13 (.alt 14 (.alt 15 (.alt 16 (.take 17 (.take 18 (.alt 19 (.done) (.none)))) (.none)) (.none)) (.none)) (.none)) (.alt 13 (.alt 10 (.alt 14 (.alt 15 (.alt 16 (.take 17 (.take 18 (.alt 19 (.done) (.none)))) (.none)) (.none)) (.none)) (.none)) (.none))) (.alt 13 (.alt 8 (.alt 10 (.alt 14 (.alt 15 (.alt 16 (.take 17 (.take 18 (.alt 19 (.done) (.none)))) (.none)) (.none)) (.none)) (.none)) (.none)) (.none))) (.alt 13 (.alt 6 (.alt 8 (.alt 10 (.alt 14 (.alt 15 (.alt 16 (.take 17 (.take 18 (.alt 19 (.done) (.none)))) (.none)) (.none)) (.none)) (.none)) (.none)) (.none)) (.none)))))))))))))) (.leaf))) (.seq (.leaf) (.leaf))))))))
theorem ref05_Disk_Rename.eq (x0 : Option Addr) (x1 : Bytes) (x2 : Bytes) (Q : Int → PP) : denF Tryz.prog Tryz.f160 ref05_Disk_Rename.ann [.pointer x0, .string (bs x1), .string (bs x2)] [.sc (.int .i64)] Q = ref05_Disk_Rename.F x0 x1 x2 Q := by kernel_rfl
theorem ref05_Disk_Rename.ok (x0 : Option Addr) (x1 : Bytes) (x2 : Bytes) (Q : Int → PP) (h : Heap) (hh : ref05_Disk_Rename.F x0 x1 x2 Q h) : ref05_Disk_Rename.C x0 x1 x2 Q h :=
  call_of_den callOK mixed Tryz.func160 (by kernel_rfl) (by rw [ref05_Disk_Rename.eq]; exact hh)
def ref05_Disk_SetFuse.F (x0 : Option Addr) (x1 : Int) (Q : PP) : PP :=
  nilP x0 fun (a1 : Addr) =>
  stP (.int .i64) (a1.add 4) x1 (
    ifB (decide (x1 < (0 : Int))) (
      nilP x0 fun (a2 : Addr) =>
      stP (.int .i64) (a2.add 4) (0 : Int) (
        Q)) (
      Q))
def ref05_Disk_SetFuse.ann : Ann := .seq (.leaf) (.seq (.leaf) (.cond (.leaf) (.leaf)))
theorem ref05_Disk_SetFuse.eq (x0 : Option Addr) (x1 : Int) (Q : PP) : denF Tryz.prog Tryz.f161 ref05_Disk_SetFuse.ann [.pointer x0, .int .i64 x1] [] Q = ref05_Disk_SetFuse.F x0 x1 Q := by kernel_rfl
theorem ref05_Disk_SetFuse.ok (x0 : Option Addr) (x1 : Int) (Q : PP) (h : Heap) (hh : ref05_Disk_SetFuse.F x0 x1 Q h) : ref05_Disk_SetFuse.C x0 x1 Q h :=
  call_of_den callOK mixed Tryz.func161 (by kernel_rfl) (by rw [ref05_Disk_SetFuse.eq]; exact hh)
def ref05_Left.F (x0 : Bytes) (x1_0 : Int) (x1_1 : Sl) (x1_2 : Sl) (x2 : Int) (Q : Bytes → PP) : PP :=
  newP 42 [.int .i64 x1_0, .slice x1_1.p x1_1.len x1_1.cap, .slice x1_2.p x1_2.len x1_2.cap] fun (a1 : Addr) =>
  ld (.slice) (a1.add 1) fun (l2 : Sl) =>
  ifB (decide (x2 ≥ (l2.len : Int))) (
    Q ([] : Bytes)) (
    ld (.slice) (a1.add 1) fun (l3 : Sl) =>
    idxP 1 l3.p l3.len x2 fun (a4 : Addr) =>
    ld (.int .i64) a4 fun (n5 : Int) =>
    ref05_held.C n5 (x0.length : Int) fun (n6 : Int) =>
    sliceStr x0 0 n6 fun (s7 : Bytes) =>
    ofStrP 5 s7 fun (p8 : Option Addr) (k9 c10 : Nat) =>
    joinT [.bool] (fun (M11 : Bool → PP) =>
      ifB (n6 == (0 : Int)) (
        M11 true) (
        ld (.slice) (a1.add 2) fun (l12 : Sl) =>
        M11 (decide (x2 ≥ (l12.len : Int)))))
    (fun (b13 : Bool) =>
      ifB b13 (
        bytesP p8 k9 fun (s14 : Bytes) =>
        Q s14) (
        ld (.slice) (a1.add 2) fun (l15 : Sl) =>
        idxP 2 l15.p l15.len x2 fun (a16 : Addr) =>
        ld (.int .i64) (a16.add 0) fun (n17 : Int) =>
        guardP (n6 ≠ 0) (joinT [.int .i64] (fun (M18 : Int → PP) =>
            ifB (decide ((Int.tmod n17 n6) < (0 : Int))) (
              M18 (IntKind.wrap .i64 ((Int.tmod n17 n6) + n6))) (
              M18 (Int.tmod n17 n6)))
          (fun (n19 : Int) =>
            ld (.slice) (a1.add 2) fun (l20 : Sl) =>
            idxP 2 l20.p l20.len x2 fun (a21 : Addr) =>
            ld (.int .u32) (a21.add 1) fun (n22 : Int) =>
            loopT [.int .u32, .int .i64] (fun (K23 : Int → Int → PP) (n24 : Int) (n25 : Int) =>
              joinT [.bool] (fun (M26 : Bool → PP) =>
                ifB (decide (n25 < n6)) (
                  M26 (decide (n25 < (IntKind.wrap .i64 (n19 + (4 : Int)))))) (
                  M26 false))
              (fun (b27 : Bool) =>
                ifB b27 (
                  idxP 1 p8 k9 n25 fun (a28 : Addr) =>
                  ld (.int .u8) a28 fun (n29 : Int) =>
                  guardP ((256 : Int) ≠ 0) (idxP 1 p8 k9 n25 fun (a30 : Addr) =>
                    stP (.int .u8) a30 (xor2I .u8 n29 (IntKind.wrap .u8 (Int.tmod n24 (256 : Int)))) (
                      guardP ((256 : Int) ≠ 0) (K23 (IntKind.wrap .u32 (Int.tdiv n24 (256 : Int))) (IntKind.wrap .i64 (n25 + (1 : Int))))))) (
                  bytesP p8 k9 fun (s31 : Bytes) =>
                  Q s31))) n22 n19)))))
def ref05_Left.ann : Ann := .seq (.leaf) (.seq (.seq (.leaf) (.cond (.seq (.leaf) (.leaf)) (.leaf))) (.seq (.leaf) (.seq (.leaf) (.seq (.join [(37, .sc .bool)] (.leaf) (.cond (.seq (.leaf) (.leaf)) (.leaf))) (.seq (.leaf) (.join [(9, .sc (.int .i64))] (.seq (.leaf) (.cond (.leaf) (.leaf))) (.seq (.leaf) (.seq (.seq (.leaf) (.block (.loop [(10, .sc (.int .u32)), (11, .sc (.int .i64))] (.seq (.join [(68, .sc .bool)] (.leaf) (.cond (.leaf) (.leaf))) (.seq (.block (.seq (.leaf) (.leaf))) (.leaf)))))) (.seq (.leaf) (.leaf))))))))))
theorem ref05_Left.eq (x0 : Bytes) (x1_0 : Int) (x1_1 : Sl) (x1_2 : Sl) (x2 : Int) (Q : Bytes → PP) : denF Tryz.prog Tryz.f229 ref05_Left.ann [.string (bs x0), .agg #[.int .i64 x1_0, .slice x1_1.p x1_1.len x1_1.cap, .slice x1_2.p x1_2.len x1_2.cap], .int .i64 x2] [.sc .str] Q = ref05_Left.F x0 x1_0 x1_1 x1_2 x2 Q := by kernel_rfl
theorem ref05_Left.ok (x0 : Bytes) (x1_0 : Int) (x1_1 : Sl) (x1_2 : Sl) (x2 : Int) (Q : Bytes → PP) (h : Heap) (hh : ref05_Left.F x0 x1_0 x1_1 x1_2 x2 Q h) : ref05_Left.C x0 x1_0 x1_1 x1_2 x2 Q h :=
  call_of_den callOK mixed Tryz.func229 (by kernel_rfl) (by rw [ref05_Left.eq]; exact hh)
def ref05_Disk_Crash.F (x0 : Option Addr) (x1_0 : Int) (x1_1 : Sl) (x1_2 : Sl) (Q : PP) : PP :=
  newP 42 [.int .i64 x1_0, .slice x1_1.p x1_1.len x1_1.cap, .slice x1_2.p x1_2.len x1_2.cap] fun (a1 : Addr) =>
  nilP x0 fun (a2 : Addr) =>
  stP (.bool) (a2.add 3) true (
    drawT fun (S3 : PP) =>
    nilP x0 fun (a4 : Addr) =>
    ldG S3 (.slice) (a4.add 2) fun (l5 : Sl) =>
    ldG S3 (.int .i64) (a1.add 0) fun (n6 : Int) =>
    nilP x0 fun (a7 : Addr) =>
    ldG S3 (.slice) (a7.add 2) fun (l8 : Sl) =>
    ref05_held.C n6 (IntKind.wrap .i64 ((l8.len : Int) - (1 : Int))) fun (n9 : Int) =>
    withS S3 (
      idxP 1 l5.p l5.len n9 fun (a10 : Addr) =>
      ldG S3 (.slice) a10 fun (l11 : Sl) =>
      newP 152 [.slice l11.p l11.len l11.cap] fun (a12 : Addr) =>
      nilP x0 fun (a13 : Addr) =>
      stP (.slice) (a13.add 2) (⟨some a12, 1, 1⟩ : Sl) (
        loopT [.int .i64, .int .i64] (fun (K14 : Int → Int → PP) (n15 : Int) (n16 : Int) =>
          ifB (decide (n16 < (l11.len : Int))) (
            joinT [.int .i64] (fun (M17 : Int → PP) =>
              drawT fun (S18 : PP) =>
              nilP x0 fun (a19 : Addr) =>
              ldG S18 (.slice) (a19.add 1) fun (l20 : Sl) =>
              idxP 2 l11.p l11.len n16 fun (a21 : Addr) =>
              ldG S18 (.int .i64) (a21.add 1) fun (n22 : Int) =>
              idxP 2 l20.p l20.len n22 fun (a23 : Addr) =>
              ldsG S18 [.str, .int .i64] a23 fun (s24 : Bytes) (n25 : Int) =>
              newP 226 [.string (bs ([] : Bytes)), .int .i64 (0 : Int)] fun (a26 : Addr) =>
              withS S18 (
                stsP a26 [.str, .int .i64] (s24, n25, ()) 0 (
                  ld (.int .i64) (a26.add 1) fun (n27 : Int) =>
                  ld (.str) (a26.add 0) fun (s28 : Bytes) =>
                  ifB (n27 == (s28.length : Int)) (
                    M17 n15) (
                    drawT fun (S29 : PP) =>
                    ldG S29 (.str) (a26.add 0) fun (s30 : Bytes) =>
                    ldG S29 (.int .i64) (a26.add 1) fun (n31 : Int) =>
                    sliceStr s30 0 n31 fun (s32 : Bytes) =>
                    ldG S29 (.str) (a26.add 0) fun (s33 : Bytes) =>
                    ldG S29 (.int .i64) (a26.add 1) fun (n34 : Int) =>
                    sliceStr s33 n34 (s33.length : Int) fun (s35 : Bytes) =>
                    ldsG S29 [.int .i64, .slice, .slice] a1 fun (n36 : Int) (l37 : Sl) (l38 : Sl) =>
                    ref05_Left.C s35 n36 l37 l38 n15 fun (s39 : Bytes) =>
                    withS S29 (
                      guardP (s32.length + s39.length ≤ 9223372036854775807) (drawT fun (S40 : PP) =>
                        nilP x0 fun (a41 : Addr) =>
                        ldG S40 (.slice) (a41.add 1) fun (l42 : Sl) =>
                        idxP 2 l11.p l11.len n16 fun (a43 : Addr) =>
                        ldG S40 (.int .i64) (a43.add 1) fun (n44 : Int) =>
                        withS S40 (
                        idxP 2 l42.p l42.len n44 fun (a45 : Addr) =>
                        stsP a45 [.str, .int .i64] ((s32 ++ s39), ((s32 ++ s39).length : Int), ()) 0 (
                        M17 (IntKind.wrap .i64 (n15 + (1 : Int)))))))))))
            (fun (n46 : Int) =>
              K14 n46 (IntKind.wrap .i64 (n16 + (1 : Int))))) (
            Q)) (0 : Int) (0 : Int))))
def ref05_Disk_Crash.ann : Ann := .seq (.leaf) (.seq (.leaf) (.seq (.draw [4, 5, 6, 7, 8, 9, 10, 11, 12, 13, 14] (.take 0 (.take 1 (.take 2 (.take 3 (.take 4 (.take 5 (.take 6 (.take 7 (.take 8 (.take 9 (.take 10 (.take 11 (.alt 12 (.take 13 (.take 14 (.take 15 (.done)))) (.none))))))))))))))) (.seq (.leaf) (.seq (.leaf) (.seq (.leaf) (.block (.loop [(5, .sc (.int .i64)), (6, .sc (.int .i64))] (.seq (.seq (.leaf) (.cond (.leaf) (.leaf))) (.join [(5, .sc (.int .i64))] (.block (.seq (.draw [4, 5, 6, 7, 8, 10, 11] (.take 0 (.take 1 (.take 2 (.take 3 (.take 4 (.take 5 (.take 6 (.take 7 (.take 8 (.take 9 (.take 10 (.alt 11 (.alt 12 (.done) (.none)) (.none)))))))))))))) (.seq (.seq (.leaf) (.cond (.leaf) (.leaf))) (.seq (.draw [2, 3, 5, 6, 7, 8, 9, 10, 11, 12, 13] (.take 0 (.take 1 (.take 2 (.take 3 (.take 4 (.take 5 (.take 6 (.take 7 (.take 8 (.take 9 (.take 10 (.take 11 (.alt 12 (.take 13 (.take 14 (.done))) (.none))))))))))))))) (.seq (.draw [4, 5, 6, 7, 8, 9, 10, 11, 12] (.take 0 (.take 1 (.take 2 (.take 3 (.take 4 (.take 5 (.take 6 (.take 7 (.take 8 (.take 9 (.take 10 (.take 11 (.alt 12 (.take 13 (.alt 14 (.done) (.none))) (.none))))))))))))))) (.leaf)))))) (.leaf))))))))))
theorem ref05_Disk_Crash.eq (x0 : Option Addr) (x1_0 : Int) (x1_1 : Sl) (x1_2 : Sl) (Q : PP) : denF Tryz.prog Tryz.f162 ref05_Disk_Crash.ann [.pointer x0, .agg #[.int .i64 x1_0, .slice x1_1.p x1_1.len x1_1.cap, .slice x1_2.p x1_2.len x1_2.cap]] [] Q = ref05_Disk_Crash.F x0 x1_0 x1_1 x1_2 Q := by kernel_rfl
theorem ref05_Disk_Crash.ok (x0 : Option Addr) (x1_0 : Int) (x1_1 : Sl) (x1_2 : Sl) (Q : PP) (h : Heap) (hh : ref05_Disk_Crash.F x0 x1_0 x1_1 x1_2 Q h) : ref05_Disk_Crash.C x0 x1_0 x1_1 x1_2 Q h :=
  call_of_den callOK mixed Tryz.func162 (by kernel_rfl) (by rw [ref05_Disk_Crash.eq]; exact hh)
def law05_Said.F (x0 : Option Addr) (x1_0 : Int) (x1_1 : Bytes) (x1_2 : Bytes) (x1_3 : Int) (x1_4 : Int) (x1_5 : Sl) (x1_6 : Sl) (Q : Bytes → Int → PP) : PP :=
  newP 44 [.int .u8 x1_0, .string (bs x1_1), .string (bs x1_2), .int .i64 x1_3, .int .i64 x1_4, .slice x1_5.p x1_5.len x1_5.cap, .slice x1_6.p x1_6.len x1_6.cap] fun (a1 : Addr) =>
  ld (.int .u8) (a1.add 0) fun (n2 : Int) =>
  ifB (n2 == (0 : Int)) (
    ld (.str) (a1.add 1) fun (s3 : Bytes) =>
    ref05_Disk_Create.C x0 s3 fun (n4 : Int) =>
    Q ([] : Bytes) n4) (
    ifB (n2 == (1 : Int)) (
      ld (.str) (a1.add 1) fun (s5 : Bytes) =>
      ld (.str) (a1.add 2) fun (s6 : Bytes) =>
      ref05_Disk_Append.C x0 s5 s6 fun (n7 : Int) =>
      Q ([] : Bytes) n7) (
      ifB (n2 == (2 : Int)) (
        ld (.str) (a1.add 1) fun (s8 : Bytes) =>
        ref05_Disk_Sync.C x0 s8 fun (n9 : Int) =>
        Q ([] : Bytes) n9) (
        ifB (n2 == (3 : Int)) (
          ld (.str) (a1.add 1) fun (s10 : Bytes) =>
          ld (.str) (a1.add 2) fun (s11 : Bytes) =>
          ref05_Disk_Rename.C x0 s10 s11 fun (n12 : Int) =>
          Q ([] : Bytes) n12) (
          ifB (n2 == (4 : Int)) (
            ld (.str) (a1.add 1) fun (s13 : Bytes) =>
            ref05_Disk_Delete.C x0 s13 fun (n14 : Int) =>
            Q ([] : Bytes) n14) (
            ifB (n2 == (5 : Int)) (
              ref05_Disk_DirSync.C x0 fun (n15 : Int) =>
              Q ([] : Bytes) n15) (
              ifB (n2 == (6 : Int)) (
                ld (.int .i64) (a1.add 3) fun (n16 : Int) =>
                ref05_Disk_SetFuse.C x0 n16 (
                  Q ([] : Bytes) (0 : Int))) (
                ifB (n2 == (7 : Int)) (
                  lds [.int .i64, .slice, .slice] (a1.add 4) fun (n17 : Int) (l18 : Sl) (l19 : Sl) =>
                  ref05_Disk_Crash.C x0 n17 l18 l19 (
                    Q ([] : Bytes) (0 : Int))) (
                  ifB (n2 == (8 : Int)) (
                    nilP x0 fun (a20 : Addr) =>
                    stP (.bool) (a20.add 3) false (
                      Q ([] : Bytes) (0 : Int))) (
                    ifB (n2 == (9 : Int)) (
                      ld (.str) (a1.add 1) fun (s21 : Bytes) =>
                      ref05_Disk_Read.C x0 s21 fun (s22 : Bytes) (n23 : Int) =>
                      Q s22 n23) (
                      Q ([] : Bytes) (0 : Int)))))))))))
def law05_Said.ann : Ann := .seq (.leaf) (.seq (.seq (.leaf) (.block (.seq (.leaf) (.cond (.seq (.leaf) (.leaf)) (.seq (.leaf) (.cond (.seq (.leaf) (.leaf)) (.seq (.leaf) (.cond (.seq (.leaf) (.leaf)) (.seq (.leaf) (.cond (.seq (.leaf) (.leaf)) (.seq (.leaf) (.cond (.seq (.leaf) (.leaf)) (.seq (.leaf) (.cond (.seq (.leaf) (.leaf)) (.seq (.leaf) (.cond (.leaf) (.seq (.leaf) (.cond (.leaf) (.seq (.leaf) (.cond (.leaf) (.seq (.leaf) (.cond (.seq (.leaf) (.leaf)) (.leaf))))))))))))))))))))))) (.seq (.leaf) (.leaf)))
theorem law05_Said.eq (x0 : Option Addr) (x1_0 : Int) (x1_1 : Bytes) (x1_2 : Bytes) (x1_3 : Int) (x1_4 : Int) (x1_5 : Sl) (x1_6 : Sl) (Q : Bytes → Int → PP) : denF Tryz.prog Tryz.f83 law05_Said.ann [.pointer x0, .agg #[.int .u8 x1_0, .string (bs x1_1), .string (bs x1_2), .int .i64 x1_3, .int .i64 x1_4, .slice x1_5.p x1_5.len x1_5.cap, .slice x1_6.p x1_6.len x1_6.cap]] [.sc .str, .sc (.int .i64)] Q = law05_Said.F x0 x1_0 x1_1 x1_2 x1_3 x1_4 x1_5 x1_6 Q := by kernel_rfl
theorem law05_Said.ok (x0 : Option Addr) (x1_0 : Int) (x1_1 : Bytes) (x1_2 : Bytes) (x1_3 : Int) (x1_4 : Int) (x1_5 : Sl) (x1_6 : Sl) (Q : Bytes → Int → PP) (h : Heap) (hh : law05_Said.F x0 x1_0 x1_1 x1_2 x1_3 x1_4 x1_5 x1_6 Q h) : law05_Said.C x0 x1_0 x1_1 x1_2 x1_3 x1_4 x1_5 x1_6 Q h :=
  call_of_den callOK mixed Tryz.func83 (by kernel_rfl) (by rw [law05_Said.eq]; exact hh)
def law07_said.F (x0 : Option Addr) (x1 : Int) (x2 : Bool) (x3_0 : Int) (x3_1 : Int) (x3_2 : Int) (x3_3 : Sl) (x3_4 : Int) (x3_5 : Bytes) (x3_6 : Bytes) (x3_7 : Int) (x3_8 : Int) (x3_9 : Sl) (x3_10 : Sl) (Q : Int → Bool → Sl → Int → PP) : PP :=
  newP 46 [.int .u8 x3_0, .int .u64 x3_1, .int .u64 x3_2, .slice x3_3.p x3_3.len x3_3.cap, .int .u8 x3_4, .string (bs x3_5), .string (bs x3_6), .int .i64 x3_7, .int .i64 x3_8, .slice x3_9.p x3_9.len x3_9.cap, .slice x3_10.p x3_10.len x3_10.cap] fun (a1 : Addr) =>
  ld (.int .u8) (a1.add 0) fun (n2 : Int) =>
  ifB (n2 == (0 : Int)) (
    ld (.int .u64) (a1.add 1) fun (n3 : Int) =>
    ref07_Begin.C x0 n3 fun (n4 : Int) =>
    ifB (n4 == (0 : Int)) (
      ld (.int .u64) (a1.add 1) fun (n5 : Int) =>
      Q n5 true (⟨(none : Option Addr), 0, 0⟩ : Sl) n4) (
      Q x1 x2 (⟨(none : Option Addr), 0, 0⟩ : Sl) n4)) (
    ifB (n2 == (1 : Int)) (
      ifB (!x2) (
        Q x1 x2 (⟨(none : Option Addr), 0, 0⟩ : Sl) (2 : Int)) (
        lds [.int .u64, .slice] (a1.add 2) fun (n6 : Int) (l7 : Sl) =>
        law06_Given.C n6 l7 fun (n8 : Int) (l9 : Sl) =>
        ref07_Add.C x0 x1 n8 l9 fun (n10 : Int) =>
        Q x1 x2 (⟨(none : Option Addr), 0, 0⟩ : Sl) n10)) (
      ifB (n2 == (2 : Int)) (
        ld (.int .u64) (a1.add 1) fun (n11 : Int) =>
        ref07_Replay.C x0 n11 fun (l12 : Sl) (n13 : Int) =>
        Q x1 x2 l12 n13) (
        ifB (n2 == (3 : Int)) (
          ld (.int .u64) (a1.add 1) fun (n14 : Int) =>
          ref07_Retire.C x0 n14 fun (n15 : Int) =>
          Q x1 x2 (⟨(none : Option Addr), 0, 0⟩ : Sl) n15) (
          ifB (n2 == (4 : Int)) (
            lds [.int .u8, .str, .str, .int .i64, .int .i64, .slice, .slice] (a1.add 4) fun (n16 : Int) (s17 : Bytes) (s18 : Bytes) (n19 : Int) (n20 : Int) (l21 : Sl) (l22 : Sl) =>
            law05_Said.C x0 n16 s17 s18 n19 n20 l21 l22 fun (s23 : Bytes) (n24 : Int) =>
            Q x1 x2 (⟨(none : Option Addr), 0, 0⟩ : Sl) n24) (
            Q x1 x2 (⟨(none : Option Addr), 0, 0⟩ : Sl) (0 : Int))))))
def law07_said.ann : Ann := .seq (.leaf) (.seq (.seq (.leaf) (.block (.seq (.leaf) (.cond (.seq (.leaf) (.seq (.seq (.leaf) (.cond (.seq (.leaf) (.leaf)) (.leaf))) (.seq (.leaf) (.leaf)))) (.seq (.leaf) (.cond (.seq (.seq (.leaf) (.cond (.seq (.leaf) (.leaf)) (.leaf))) (.seq (.leaf) (.leaf))) (.seq (.leaf) (.cond (.seq (.leaf) (.seq (.leaf) (.leaf))) (.seq (.leaf) (.cond (.seq (.leaf) (.leaf)) (.seq (.leaf) (.cond (.seq (.leaf) (.seq (.leaf) (.leaf))) (.leaf))))))))))))) (.seq (.leaf) (.leaf)))
theorem law07_said.eq (x0 : Option Addr) (x1 : Int) (x2 : Bool) (x3_0 : Int) (x3_1 : Int) (x3_2 : Int) (x3_3 : Sl) (x3_4 : Int) (x3_5 : Bytes) (x3_6 : Bytes) (x3_7 : Int) (x3_8 : Int) (x3_9 : Sl) (x3_10 : Sl) (Q : Int → Bool → Sl → Int → PP) : denF Tryz.prog Tryz.f17 law07_said.ann [.pointer x0, .int .u64 x1, .bool x2, .agg #[.int .u8 x3_0, .int .u64 x3_1, .int .u64 x3_2, .slice x3_3.p x3_3.len x3_3.cap, .int .u8 x3_4, .string (bs x3_5), .string (bs x3_6), .int .i64 x3_7, .int .i64 x3_8, .slice x3_9.p x3_9.len x3_9.cap, .slice x3_10.p x3_10.len x3_10.cap]] [.sc (.int .u64), .sc .bool, .sc .slice, .sc (.int .i64)] Q = law07_said.F x0 x1 x2 x3_0 x3_1 x3_2 x3_3 x3_4 x3_5 x3_6 x3_7 x3_8 x3_9 x3_10 Q := by kernel_rfl
theorem law07_said.ok (x0 : Option Addr) (x1 : Int) (x2 : Bool) (x3_0 : Int) (x3_1 : Int) (x3_2 : Int) (x3_3 : Sl) (x3_4 : Int) (x3_5 : Bytes) (x3_6 : Bytes) (x3_7 : Int) (x3_8 : Int) (x3_9 : Sl) (x3_10 : Sl) (Q : Int → Bool → Sl → Int → PP) (h : Heap) (hh : law07_said.F x0 x1 x2 x3_0 x3_1 x3_2 x3_3 x3_4 x3_5 x3_6 x3_7 x3_8 x3_9 x3_10 Q h) : law07_said.C x0 x1 x2 x3_0 x3_1 x3_2 x3_3 x3_4 x3_5 x3_6 x3_7 x3_8 x3_9 x3_10 Q h :=
  call_of_den callOK mixed Tryz.func17 (by kernel_rfl) (by rw [law07_said.eq]; exact hh)
end Go.Proofs.W
end
section
set_option maxRecDepth 100000
set_option linter.unusedVariables false
namespace Go.Proofs.W
open Go Go.Shal
def ref06_Same.F (x0_0 : Int) (x0_1 : Sl) (x1_0 : Int) (x1_1 : Sl) (Q : Bool → PP) : PP :=
  newP 144 [.int .u64 x0_0, .slice x0_1.p x0_1.len x0_1.cap] fun (a1 : Addr) =>
  newP 144 [.int .u64 x1_0, .slice x1_1.p x1_1.len x1_1.cap] fun (a2 : Addr) =>
  joinT [.bool] (fun (M3 : Bool → PP) =>
    ld (.int .u64) (a1.add 0) fun (n4 : Int) =>
    ld (.int .u64) (a2.add 0) fun (n5 : Int) =>
    ifB (n4 != n5) (
      M3 true) (
      ld (.slice) (a1.add 1) fun (l6 : Sl) =>
      ld (.slice) (a2.add 1) fun (l7 : Sl) =>
      M3 ((l6.len : Int) != (l7.len : Int))))
  (fun (b8 : Bool) =>
    ifB b8 (
      Q false) (
      loopT [.bool, .int .i64] (fun (K9 : Bool → Int → PP) (b10 : Bool) (n11 : Int) =>
        ld (.slice) (a1.add 1) fun (l12 : Sl) =>
        ifB (decide (n11 < (l12.len : Int))) (
          drawT fun (S13 : PP) =>
          ldG S13 (.slice) (a1.add 1) fun (l14 : Sl) =>
          idxP 3 l14.p l14.len n11 fun (a15 : Addr) =>
          ldsG S13 [.str, .str, .bool] a15 fun (s16 : Bytes) (s17 : Bytes) (b18 : Bool) =>
          ldG S13 (.slice) (a2.add 1) fun (l19 : Sl) =>
          idxP 3 l19.p l19.len n11 fun (a20 : Addr) =>
          ldsG S13 [.str, .str, .bool] a20 fun (s21 : Bytes) (s22 : Bytes) (b23 : Bool) =>
          seqP Tryz.prog 124 (.agg #[.string (bs s16), .string (bs s17), .bool b18]) (.agg #[.string (bs s21), .string (bs s22), .bool b23]) fun (b24 : Bool) =>
          ifB (!b24) (
            Q false) (
            K9 b10 (IntKind.wrap .i64 (n11 + (1 : Int))))) (
          Q true)) false (0 : Int)))
def ref06_Same.ann : Ann := .seq (.leaf) (.seq (.join [(19, .sc .bool)] (.leaf) (.cond (.seq (.leaf) (.leaf)) (.leaf))) (.seq (.seq (.leaf) (.block (.loop [(4, .sc .bool), (5, .sc (.int .i64))] (.seq (.seq (.leaf) (.cond (.leaf) (.leaf))) (.seq (.block (.seq (.draw [2, 4, 5, 6, 7, 8, 9, 10] (.take 0 (.take 1 (.take 2 (.take 3 (.take 4 (.take 5 (.take 6 (.take 7 (.take 8 (.take 9 (.take 10 (.done))))))))))))) (.cond (.seq (.leaf) (.leaf)) (.leaf)))) (.leaf)))))) (.seq (.leaf) (.leaf))))
theorem ref06_Same.eq (x0_0 : Int) (x0_1 : Sl) (x1_0 : Int) (x1_1 : Sl) (Q : Bool → PP) : denF Tryz.prog Tryz.f84 ref06_Same.ann [.agg #[.int .u64 x0_0, .slice x0_1.p x0_1.len x0_1.cap], .agg #[.int .u64 x1_0, .slice x1_1.p x1_1.len x1_1.cap]] [.sc .bool] Q = ref06_Same.F x0_0 x0_1 x1_0 x1_1 Q := by kernel_rfl
theorem ref06_Same.ok (x0_0 : Int) (x0_1 : Sl) (x1_0 : Int) (x1_1 : Sl) (Q : Bool → PP) (h : Heap) (hh : ref06_Same.F x0_0 x0_1 x1_0 x1_1 Q h) : ref06_Same.C x0_0 x0_1 x1_0 x1_1 Q h :=
  call_of_den callOK mixed Tryz.func84 (by kernel_rfl) (by rw [ref06_Same.eq]; exact hh)
def law07_Same.F (x0 : Sl) (x1 : Sl) (Q : Bool → PP) : PP :=
  ifB ((x0.len : Int) != (x1.len : Int)) (
    Q false) (
    loopT [.bool, .int .i64] (fun (K1 : Bool → Int → PP) (b2 : Bool) (n3 : Int) =>
      ifB (decide (n3 < (x0.len : Int))) (
        drawT fun (S4 : PP) =>
        idxP 2 x0.p x0.len n3 fun (a5 : Addr) =>
        ldsG S4 [.int .u64, .slice] a5 fun (n6 : Int) (l7 : Sl) =>
        idxP 2 x1.p x1.len n3 fun (a8 : Addr) =>
        ldsG S4 [.int .u64, .slice] a8 fun (n9 : Int) (l10 : Sl) =>
        law06_Given.C n6 l7 fun (n11 : Int) (l12 : Sl) =>
        withS S4 (
          ref06_Same.C n11 l12 n9 l10 fun (b13 : Bool) =>
          withS S4 (
            ifB (!b13) (
              Q false) (
              K1 b2 (IntKind.wrap .i64 (n3 + (1 : Int))))))) (
        Q true)) false (0 : Int))
def law07_Same.ann : Ann := .seq (.leaf) (.seq (.seq (.leaf) (.cond (.seq (.leaf) (.leaf)) (.leaf))) (.seq (.seq (.leaf) (.block (.loop [(4, .sc .bool), (5, .sc (.int .i64))] (.seq (.seq (.leaf) (.cond (.leaf) (.leaf))) (.seq (.block (.seq (.draw [4, 5, 6, 7, 8, 9, 10] (.take 0 (.take 1 (.take 2 (.take 3 (.take 5 (.take 6 (.take 7 (.take 8 (.alt 4 (.alt 9 (.take 10 (.done)) (.none)) (.none))))))))))) (.cond (.seq (.leaf) (.leaf)) (.leaf)))) (.leaf)))))) (.seq (.leaf) (.leaf))))
theorem law07_Same.eq (x0 : Sl) (x1 : Sl) (Q : Bool → PP) : denF Tryz.prog Tryz.f18 law07_Same.ann [.slice x0.p x0.len x0.cap, .slice x1.p x1.len x1.cap] [.sc .bool] Q = law07_Same.F x0 x1 Q := by kernel_rfl
theorem law07_Same.ok (x0 : Sl) (x1 : Sl) (Q : Bool → PP) (h : Heap) (hh : law07_Same.F x0 x1 Q h) : law07_Same.C x0 x1 Q h :=
  call_of_den callOK mixed Tryz.func18 (by kernel_rfl) (by rw [law07_Same.eq]; exact hh)
def disk_Disk_Fused.F (x0 : Option Addr) (Q : Int → PP) : PP :=
  disk_Disk_none.C x0 fun (b1 : Bool) =>
  ifB b1 (
    Q (0 : Int)) (
    nilP x0 fun (a2 : Addr) =>
    ld (.int .i64) (a2.add 5) fun (n3 : Int) =>
    Q n3)
def disk_Disk_Fused.ann : Ann := .seq (.leaf) (.seq (.seq (.leaf) (.cond (.seq (.leaf) (.leaf)) (.leaf))) (.seq (.leaf) (.leaf)))
theorem disk_Disk_Fused.eq (x0 : Option Addr) (Q : Int → PP) : denF Tryz.prog Tryz.f88 disk_Disk_Fused.ann [.pointer x0] [.sc (.int .i64)] Q = disk_Disk_Fused.F x0 Q := by kernel_rfl
theorem disk_Disk_Fused.ok (x0 : Option Addr) (Q : Int → PP) (h : Heap) (hh : disk_Disk_Fused.F x0 Q h) : disk_Disk_Fused.C x0 Q h :=
  call_of_den callOK mixed Tryz.func88 (by kernel_rfl) (by rw [disk_Disk_Fused.eq]; exact hh)
def disk_Disk_Down.F (x0 : Option Addr) (Q : Bool → PP) : PP :=
  disk_Disk_none.C x0 fun (b1 : Bool) =>
  ifB b1 (
    Q true) (
    nilP x0 fun (a2 : Addr) =>
    ld (.bool) (a2.add 4) fun (b3 : Bool) =>
    Q b3)
def disk_Disk_Down.ann : Ann := .seq (.leaf) (.seq (.leaf) (.leaf))
theorem disk_Disk_Down.eq (x0 : Option Addr) (Q : Bool → PP) : denF Tryz.prog Tryz.f58 disk_Disk_Down.ann [.pointer x0] [.sc .bool] Q = disk_Disk_Down.F x0 Q := by kernel_rfl
theorem disk_Disk_Down.ok (x0 : Option Addr) (Q : Bool → PP) (h : Heap) (hh : disk_Disk_Down.F x0 Q h) : disk_Disk_Down.C x0 Q h :=
  call_of_den callOK mixed Tryz.func58 (by kernel_rfl) (by rw [disk_Disk_Down.eq]; exact hh)
def disk_Disk_Room.F (x0 : Option Addr) (Q : Int → PP) : PP :=
  disk_Disk_none.C x0 fun (b1 : Bool) =>
  ifB b1 (
    Q (0 : Int)) (
    nilP x0 fun (a2 : Addr) =>
    ld (.int .i64) (a2.add 0) fun (n3 : Int) =>
    Q n3)
def disk_Disk_Room.ann : Ann := .seq (.leaf) (.seq (.seq (.leaf) (.cond (.seq (.leaf) (.leaf)) (.leaf))) (.seq (.leaf) (.leaf)))
theorem disk_Disk_Room.eq (x0 : Option Addr) (Q : Int → PP) : denF Tryz.prog Tryz.f32 disk_Disk_Room.ann [.pointer x0] [.sc (.int .i64)] Q = disk_Disk_Room.F x0 Q := by kernel_rfl
theorem disk_Disk_Room.ok (x0 : Option Addr) (Q : Int → PP) (h : Heap) (hh : disk_Disk_Room.F x0 Q h) : disk_Disk_Room.C x0 Q h :=
  call_of_den callOK mixed Tryz.func32 (by kernel_rfl) (by rw [disk_Disk_Room.eq]; exact hh)
def law05_Stands.F (x0 : Option Addr) (x1 : Option Addr) (Q : Bool → PP) : PP :=
  disk_Disk_List.C x0 fun (l1 : Sl) =>
  ref05_Disk_Now.C x1 fun (l2 : Sl) =>
  joinT [.bool] (fun (M3 : Bool → PP) =>
    drawT fun (S4 : PP) =>
    ifB ((l1.len : Int) != (l2.len : Int)) (
      andP (
        andP (
          andP (
            M3 true) (
            M3 true)) (
          andP (
            M3 true) (
            M3 true))) (
        andP (
          andP (
            M3 true) (
            M3 true)) (
          andP (
            M3 true) (
            M3 true)))) (
      disk_Disk_Used.C x0 fun (n5 : Int) =>
      ref05_Disk_Used.C x1 fun (n6 : Int) =>
      ifB (n5 != n6) (
        andP (
          andP (
            andP (
              M3 true) (
              M3 true)) (
            andP (
              M3 true) (
              M3 true))) (
          andP (
            andP (
              M3 true) (
              M3 true)) (
            andP (
              M3 true) (
              M3 true)))) (
        nilP x1 fun (a7 : Addr) =>
        andP (
          disk_Disk_Fused.C x0 fun (n8 : Int) =>
          ld (.int .i64) (a7.add 4) fun (n9 : Int) =>
          ifB (n8 != n9) (
            andP (
              andP (
                M3 true) (
                M3 true)) (
              andP (
                M3 true) (
                M3 true))) (
            nilP x1 fun (a10 : Addr) =>
            andP (
              disk_Disk_Down.C x0 fun (b11 : Bool) =>
              ld (.bool) (a10.add 3) fun (b12 : Bool) =>
              ifB (!(b11 == b12)) (
                andP (
                  M3 true) (
                  M3 true)) (
                nilP x1 fun (a13 : Addr) =>
                andP (
                  disk_Disk_Room.C x0 fun (n14 : Int) =>
                  ld (.int .i64) (a13.add 0) fun (n15 : Int) =>
                  M3 (n14 != n15)) (
                  ld (.int .i64) (a13.add 0) fun (n16 : Int) =>
                  disk_Disk_Room.C x0 fun (n17 : Int) =>
                  M3 (n17 != n16)))) (
              ld (.bool) (a10.add 3) fun (b18 : Bool) =>
              disk_Disk_Down.C x0 fun (b19 : Bool) =>
              ifB (!(b19 == b18)) (
                andP (
                  M3 true) (
                  M3 true)) (
                nilP x1 fun (a20 : Addr) =>
                andP (
                  disk_Disk_Room.C x0 fun (n21 : Int) =>
                  ld (.int .i64) (a20.add 0) fun (n22 : Int) =>
                  M3 (n21 != n22)) (
                  ld (.int .i64) (a20.add 0) fun (n23 : Int) =>
                  disk_Disk_Room.C x0 fun (n24 : Int) =>
                  M3 (n24 != n23)))))) (
          ld (.int .i64) (a7.add 4) fun (n25 : Int) =>
          disk_Disk_Fused.C x0 fun (n26 : Int) =>
          ifB (n26 != n25) (
            andP (
              andP (
                M3 true) (
                M3 true)) (
              andP (
                M3 true) (
                M3 true))) (
            nilP x1 fun (a27 : Addr) =>
            andP (
              disk_Disk_Down.C x0 fun (b28 : Bool) =>
              ld (.bool) (a27.add 3) fun (b29 : Bool) =>
              ifB (!(b28 == b29)) (
                andP (
                  M3 true) (
                  M3 true)) (
                nilP x1 fun (a30 : Addr) =>
                andP (
                  disk_Disk_Room.C x0 fun (n31 : Int) =>
                  ld (.int .i64) (a30.add 0) fun (n32 : Int) =>
                  M3 (n31 != n32)) (
                  ld (.int .i64) (a30.add 0) fun (n33 : Int) =>
                  disk_Disk_Room.C x0 fun (n34 : Int) =>
                  M3 (n34 != n33)))) (
              ld (.bool) (a27.add 3) fun (b35 : Bool) =>
              disk_Disk_Down.C x0 fun (b36 : Bool) =>
              ifB (!(b36 == b35)) (
                andP (
                  M3 true) (
                  M3 true)) (
                nilP x1 fun (a37 : Addr) =>
                andP (
                  disk_Disk_Room.C x0 fun (n38 : Int) =>
                  ld (.int .i64) (a37.add 0) fun (n39 : Int) =>
                  M3 (n38 != n39)) (
                  ld (.int .i64) (a37.add 0) fun (n40 : Int) =>
                  disk_Disk_Room.C x0 fun (n41 : Int) =>
                  M3 (n41 != n40)))))))))
  (fun (b42 : Bool) =>
    ifB b42 (
      Q false) (
      loopT [.bool, .int .i64] (fun (K43 : Bool → Int → PP) (b44 : Bool) (n45 : Int) =>
        ifB (decide (n45 < (l1.len : Int))) (
          idxP 1 l1.p l1.len n45 fun (a46 : Addr) =>
          ld (.str) a46 fun (s47 : Bytes) =>
          disk_Disk_Read.C x0 s47 fun (s48 : Bytes) (n49 : Int) =>
          idxP 2 l2.p l2.len n45 fun (a50 : Addr) =>
          ld (.str) (a50.add 0) fun (s51 : Bytes) =>
          ref05_Disk_Read.C x1 s51 fun (s52 : Bytes) (n53 : Int) =>
          joinT [.bool] (fun (M54 : Bool → PP) =>
            drawT fun (S55 : PP) =>
            idxP 1 l1.p l1.len n45 fun (a56 : Addr) =>
            ldG S55 (.str) a56 fun (s57 : Bytes) =>
            idxP 2 l2.p l2.len n45 fun (a58 : Addr) =>
            ldG S55 (.str) (a58.add 0) fun (s59 : Bytes) =>
            ifB (!(s57 == s59)) (
              M54 true) (
              ifB (!(s48 == s52)) (
                M54 true) (
                M54 (n49 != n53))))
          (fun (b60 : Bool) =>
            ifB b60 (
              Q false) (
              K43 b44 (IntKind.wrap .i64 (n45 + (1 : Int)))))) (
          Q true)) false (0 : Int)))
def law05_Stands.ann : Ann := .seq (.leaf) (.seq (.leaf) (.seq (.leaf) (.seq (.join [(54, .sc .bool)] (.draw [] (.take 0 (.take 1 (.take 2 (.take 3 (.take 4 (.take 5 (.take 6 (.take 8 (.alt 7 (.alt 9 (.take 10 (.take 11 (.take 12 (.take 13 (.take 15 (.take 16 (.take 17 (.alt 14 (.alt 18 (.take 19 (.take 20 (.take 21 (.take 22 (.take 24 (.take 25 (.take 26 (.alt 23 (.alt 27 (.take 28 (.take 29 (.take 30 (.take 31 (.take 33 (.take 34 (.take 35 (.alt 32 (.alt 36 (.take 37 (.take 38 (.done))) (.none)) (.alt 36 (.alt 32 (.take 37 (.take 38 (.done))) (.none)) (.none)))))))))) (.none)) (.alt 27 (.alt 23 (.take 28 (.take 29 (.take 30 (.take 31 (.take 33 (.take 34 (.take 35 (.alt 32 (.alt 36 (.take 37 (.take 38 (.done))) (.none)) (.alt 36 (.alt 32 (.take 37 (.take 38 (.done))) (.none)) (.none)))))))))) (.none)) (.none)))))))))) (.none)) (.alt 18 (.alt 14 (.take 19 (.take 20 (.take 21 (.take 22 (.take 24 (.take 25 (.take 26 (.alt 23 (.alt 27 (.take 28 (.take 29 (.take 30 (.take 31 (.take 33 (.take 34 (.take 35 (.alt 32 (.alt 36 (.take 37 (.take 38 (.done))) (.none)) (.alt 36 (.alt 32 (.take 37 (.take 38 (.done))) (.none)) (.none)))))))))) (.none)) (.alt 27 (.alt 23 (.take 28 (.take 29 (.take 30 (.take 31 (.take 33 (.take 34 (.take 35 (.alt 32 (.alt 36 (.take 37 (.take 38 (.done))) (.none)) (.alt 36 (.alt 32 (.take 37 (.take 38 (.done))) (.none)) (.none)))))))))) (.none)) (.none)))))))))) (.none)) (.none)))))))))) (.none)) (.none))))))))))) (.cond (.seq (.leaf) (.leaf)) (.leaf))) (.seq (.seq (.leaf) (.block (.loop [(4, .sc .bool), (7, .sc (.int .i64))] (.seq (.seq (.leaf) (.cond (.leaf) (.leaf))) (.seq (.block (.seq (.leaf) (.seq (.leaf) (.join [(99, .sc .bool)] (.draw [4, 5, 6, 7, 8, 10, 11, 12, 13, 14, 15, 16, 17, 18, 19] (.take 0 (.take 1 (.take 2 (.take 3 (.take 4 (.take 5 (.take 6 (.take 7 (.take 8 (.take 9 (.take 10 (.take 11 (.take 12 (.take 13 (.take 14 (.take 15 (.take 16 (.take 17 (.take 18 (.take 19 (.done)))))))))))))))))))))) (.cond (.seq (.leaf) (.leaf)) (.leaf)))))) (.leaf)))))) (.seq (.leaf) (.leaf))))))
theorem law05_Stands.eq (x0 : Option Addr) (x1 : Option Addr) (Q : Bool → PP) : denF Tryz.prog Tryz.f20 law05_Stands.ann [.pointer x0, .pointer x1] [.sc .bool] Q = law05_Stands.F x0 x1 Q := by kernel_rfl
theorem law05_Stands.ok (x0 : Option Addr) (x1 : Option Addr) (Q : Bool → PP) (h : Heap) (hh : law05_Stands.F x0 x1 Q h) : law05_Stands.C x0 x1 Q h :=
  call_of_den callOK mixed Tryz.func20 (by kernel_rfl) (by rw [law05_Stands.eq]; exact hh)
def law07_WalPlays.F (x0 : Int) (x1 : Sl) (Q : Bool → PP) : PP :=
  law07_Great.C x1 fun (b1 : Bool) =>
  ifB b1 (
    law07_awake.C  fun (b2 : Bool) =>
    Q b2) (
    disk_New.C x0 fun (p3 : Option Addr) =>
    ref05_New.C x0 fun (p4 : Option Addr) =>
    loopT [.ptr, .int .u64, .bool, .bool, .int .i64] (fun (K5 : (Option Addr) → Int → Bool → Bool → Int → PP) (p6 : Option Addr) (n7 : Int) (b8 : Bool) (b9 : Bool) (n10 : Int) =>
      ifB (decide (n10 < (x1.len : Int))) (
        idxP 11 x1.p x1.len n10 fun (a11 : Addr) =>
        lds [.int .u8, .int .u64, .int .u64, .slice, .int .u8, .str, .str, .int .i64, .int .i64, .slice, .slice] a11 fun (n12 : Int) (n13 : Int) (n14 : Int) (l15 : Sl) (n16 : Int) (s17 : Bytes) (s18 : Bytes) (n19 : Int) (n20 : Int) (l21 : Sl) (l22 : Sl) =>
        law07_does.C p3 p6 n12 n13 n14 l15 n16 s17 s18 n19 n20 l21 l22 fun (p23 : Option Addr) (l24 : Sl) (n25 : Int) =>
        idxP 11 x1.p x1.len n10 fun (a26 : Addr) =>
        lds [.int .u8, .int .u64, .int .u64, .slice, .int .u8, .str, .str, .int .i64, .int .i64, .slice, .slice] a26 fun (n27 : Int) (n28 : Int) (n29 : Int) (l30 : Sl) (n31 : Int) (s32 : Bytes) (s33 : Bytes) (n34 : Int) (n35 : Int) (l36 : Sl) (l37 : Sl) =>
        law07_said.C p4 n7 b8 n27 n28 n29 l30 n31 s32 s33 n34 n35 l36 l37 fun (n38 : Int) (b39 : Bool) (l40 : Sl) (n41 : Int) =>
        joinT [.bool] (fun (M42 : Bool → PP) =>
          ifB (n25 != n41) (
            M42 true) (
            law07_Same.C l24 l40 fun (b43 : Bool) =>
            ifB (!b43) (
              M42 true) (
              wal_Log_N.C p23 fun (n44 : Int) =>
              ifB (n44 != n38) (
                M42 true) (
                law05_Stands.C p3 p4 fun (b45 : Bool) =>
                M42 (!b45)))))
        (fun (b46 : Bool) =>
          ifB b46 (
            Q false) (
            K5 p23 n38 b39 b9 (IntKind.wrap .i64 (n10 + (1 : Int)))))) (
        wal_Logs.C p3 fun (l47 : Sl) =>
        ref07_Logs.C p4 fun (l48 : Sl) =>
        ifB ((l47.len : Int) != (l48.len : Int)) (
          Q false) (
          loopT [.bool, .int .i64] (fun (K49 : Bool → Int → PP) (b50 : Bool) (n51 : Int) =>
            ifB (decide (n51 < (l47.len : Int))) (
              drawT fun (S52 : PP) =>
              idxP 1 l47.p l47.len n51 fun (a53 : Addr) =>
              ldG S52 (.int .u64) a53 fun (n54 : Int) =>
              idxP 1 l48.p l48.len n51 fun (a55 : Addr) =>
              ldG S52 (.int .u64) a55 fun (n56 : Int) =>
              ifB (n54 != n56) (
                Q false) (
                K49 b50 (IntKind.wrap .i64 (n51 + (1 : Int))))) (
              law07_awake.C  fun (b57 : Bool) =>
              Q b57)) b9 (0 : Int)))) (none : Option Addr) (0 : Int) false false (0 : Int))
def law07_WalPlays.ann : Ann := .seq (.leaf) (.seq (.seq (.leaf) (.cond (.seq (.leaf) (.leaf)) (.leaf))) (.seq (.leaf) (.seq (.leaf) (.seq (.leaf) (.seq (.leaf) (.seq (.leaf) (.seq (.seq (.leaf) (.block (.loop [(7, .sc .ptr), (8, .sc (.int .u64)), (9, .sc .bool), (4, .sc .bool), (10, .sc (.int .i64))] (.seq (.seq (.leaf) (.cond (.leaf) (.leaf))) (.seq (.block (.seq (.leaf) (.seq (.leaf) (.seq (.leaf) (.seq (.leaf) (.seq (.leaf) (.join [(75, .sc .bool)] (.leaf) (.cond (.seq (.leaf) (.leaf)) (.leaf))))))))) (.leaf)))))) (.seq (.leaf) (.seq (.leaf) (.seq (.seq (.leaf) (.cond (.seq (.leaf) (.leaf)) (.leaf))) (.seq (.seq (.leaf) (.block (.loop [(4, .sc .bool), (17, .sc (.int .i64))] (.seq (.seq (.leaf) (.cond (.leaf) (.leaf))) (.seq (.block (.seq (.draw [4, 5, 6, 7] (.take 0 (.take 1 (.take 2 (.take 3 (.take 4 (.take 5 (.take 6 (.take 7 (.take 8 (.done))))))))))) (.cond (.seq (.leaf) (.leaf)) (.leaf)))) (.leaf)))))) (.seq (.leaf) (.leaf)))))))))))))
theorem law07_WalPlays.eq (x0 : Int) (x1 : Sl) (Q : Bool → PP) : denF Tryz.prog Tryz.f3 law07_WalPlays.ann [.int .i64 x0, .slice x1.p x1.len x1.cap] [.sc .bool] Q = law07_WalPlays.F x0 x1 Q := by kernel_rfl
theorem law07_WalPlays.ok (x0 : Int) (x1 : Sl) (Q : Bool → PP) (h : Heap) (hh : law07_WalPlays.F x0 x1 Q h) : law07_WalPlays.C x0 x1 Q h :=
  call_of_den callOK mixed Tryz.func3 (by kernel_rfl) (by rw [law07_WalPlays.eq]; exact hh)
end Go.Proofs.W
end
