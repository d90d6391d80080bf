/-  -/
import Derived.Test.YtemfgkhholobgaaGreatDoorWGC
section
set_option maxRecDepth 100000
set_option linter.unusedVariables false
namespace Go.Proofs.W
open Go Go.Shal
def slices_partitionOrdered_uint64.F (x0 : Sl) (x1 : Int) (x2 : Int) (x3 : Int) (Q : Int → Bool → PP) : PP :=
  drawT fun (S1 : PP) =>
  idxP 1 x0.p x0.len x3 fun (a2 : Addr) =>
  ldG S1 (.int .u64) a2 fun (n3 : Int) =>
  idxP 1 x0.p x0.len x1 fun (a4 : Addr) =>
  ldG S1 (.int .u64) a4 fun (n5 : Int) =>
  idxP 1 x0.p x0.len x1 fun (a6 : Addr) =>
  stP (.int .u64) a6 n3 (
    idxP 1 x0.p x0.len x3 fun (a7 : Addr) =>
    stP (.int .u64) a7 n5 (
      loopT [.int .i64] (fun (K8 : Int → PP) (n9 : Int) =>
        joinT [.bool] (fun (M10 : Bool → PP) =>
          drawT fun (S11 : PP) =>
          ifB (decide (n9 ≤ (IntKind.wrap .i64 (x2 - (1 : Int))))) (
            idxP 1 x0.p x0.len n9 fun (a12 : Addr) =>
            ldG S11 (.int .u64) a12 fun (n13 : Int) =>
            idxP 1 x0.p x0.len x1 fun (a14 : Addr) =>
            ldG S11 (.int .u64) a14 fun (n15 : Int) =>
            cmp_Less_uint64.C n13 n15 fun (b16 : Bool) =>
            M10 b16) (
            M10 false))
        (fun (b17 : Bool) =>
          ifB b17 (
            K8 (IntKind.wrap .i64 (n9 + (1 : Int)))) (
            loopT [.int .i64] (fun (K18 : Int → PP) (n19 : Int) =>
              joinT [.bool] (fun (M20 : Bool → PP) =>
                drawT fun (S21 : PP) =>
                ifB (decide (n9 ≤ n19)) (
                  idxP 1 x0.p x0.len n19 fun (a22 : Addr) =>
                  ldG S21 (.int .u64) a22 fun (n23 : Int) =>
                  idxP 1 x0.p x0.len x1 fun (a24 : Addr) =>
                  ldG S21 (.int .u64) a24 fun (n25 : Int) =>
                  cmp_Less_uint64.C n23 n25 fun (b26 : Bool) =>
                  M20 (!b26)) (
                  M20 false))
              (fun (b27 : Bool) =>
                ifB b27 (
                  K18 (IntKind.wrap .i64 (n19 - (1 : Int)))) (
                  ifB (decide (n9 > n19)) (
                    drawT fun (S28 : PP) =>
                    idxP 1 x0.p x0.len x1 fun (a29 : Addr) =>
                    ldG S28 (.int .u64) a29 fun (n30 : Int) =>
                    idxP 1 x0.p x0.len n19 fun (a31 : Addr) =>
                    ldG S28 (.int .u64) a31 fun (n32 : Int) =>
                    idxP 1 x0.p x0.len n19 fun (a33 : Addr) =>
                    stP (.int .u64) a33 n30 (
                      idxP 1 x0.p x0.len x1 fun (a34 : Addr) =>
                      stP (.int .u64) a34 n32 (
                        Q n19 true))) (
                    drawT fun (S35 : PP) =>
                    idxP 1 x0.p x0.len n19 fun (a36 : Addr) =>
                    ldG S35 (.int .u64) a36 fun (n37 : Int) =>
                    idxP 1 x0.p x0.len n9 fun (a38 : Addr) =>
                    ldG S35 (.int .u64) a38 fun (n39 : Int) =>
                    idxP 1 x0.p x0.len n9 fun (a40 : Addr) =>
                    stP (.int .u64) a40 n37 (
                      idxP 1 x0.p x0.len n19 fun (a41 : Addr) =>
                      stP (.int .u64) a41 n39 (
                        loopT [.int .i64, .int .i64] (fun (K42 : Int → Int → PP) (n43 : Int) (n44 : Int) =>
                        loopT [.int .i64] (fun (K45 : Int → PP) (n46 : Int) =>
                        joinT [.bool] (fun (M47 : Bool → PP) =>
                        drawT fun (S48 : PP) =>
                        ifB (decide (n46 ≤ n44)) (
                        idxP 1 x0.p x0.len n46 fun (a49 : Addr) =>
                        ldG S48 (.int .u64) a49 fun (n50 : Int) =>
                        idxP 1 x0.p x0.len x1 fun (a51 : Addr) =>
                        ldG S48 (.int .u64) a51 fun (n52 : Int) =>
                        cmp_Less_uint64.C n50 n52 fun (b53 : Bool) =>
                        M47 b53) (
                        M47 false))
                        (fun (b54 : Bool) =>
                        ifB b54 (
                        K45 (IntKind.wrap .i64 (n46 + (1 : Int)))) (
                        loopT [.int .i64] (fun (K55 : Int → PP) (n56 : Int) =>
                        joinT [.bool] (fun (M57 : Bool → PP) =>
                        drawT fun (S58 : PP) =>
                        ifB (decide (n46 ≤ n56)) (
                        idxP 1 x0.p x0.len n56 fun (a59 : Addr) =>
                        ldG S58 (.int .u64) a59 fun (n60 : Int) =>
                        idxP 1 x0.p x0.len x1 fun (a61 : Addr) =>
                        ldG S58 (.int .u64) a61 fun (n62 : Int) =>
                        cmp_Less_uint64.C n60 n62 fun (b63 : Bool) =>
                        M57 (!b63)) (
                        M57 false))
                        (fun (b64 : Bool) =>
                        ifB b64 (
                        K55 (IntKind.wrap .i64 (n56 - (1 : Int)))) (
                        ifB (decide (n46 > n56)) (
                        drawT fun (S65 : PP) =>
                        idxP 1 x0.p x0.len x1 fun (a66 : Addr) =>
                        ldG S65 (.int .u64) a66 fun (n67 : Int) =>
                        idxP 1 x0.p x0.len n56 fun (a68 : Addr) =>
                        ldG S65 (.int .u64) a68 fun (n69 : Int) =>
                        idxP 1 x0.p x0.len n56 fun (a70 : Addr) =>
                        stP (.int .u64) a70 n67 (
                        idxP 1 x0.p x0.len x1 fun (a71 : Addr) =>
                        stP (.int .u64) a71 n69 (
                        Q n56 false))) (
                        drawT fun (S72 : PP) =>
                        idxP 1 x0.p x0.len n56 fun (a73 : Addr) =>
                        ldG S72 (.int .u64) a73 fun (n74 : Int) =>
                        idxP 1 x0.p x0.len n46 fun (a75 : Addr) =>
                        ldG S72 (.int .u64) a75 fun (n76 : Int) =>
                        idxP 1 x0.p x0.len n46 fun (a77 : Addr) =>
                        stP (.int .u64) a77 n74 (
                        idxP 1 x0.p x0.len n56 fun (a78 : Addr) =>
                        stP (.int .u64) a78 n76 (
                        K42 (IntKind.wrap .i64 (n46 + (1 : Int))) (IntKind.wrap .i64 (n56 - (1 : Int))))))))) n44))) n43) (IntKind.wrap .i64 (n9 + (1 : Int))) (IntKind.wrap .i64 (n19 - (1 : Int))))))))) (IntKind.wrap .i64 (x2 - (1 : Int)))))) (IntKind.wrap .i64 (x1 + (1 : Int)))))
def slices_partitionOrdered_uint64.ann : Ann := .seq (.leaf) (.seq (.draw [8, 9, 10, 11] (.take 0 (.take 1 (.take 2 (.take 3 (.take 4 (.take 5 (.take 6 (.take 7 (.take 8 (.take 9 (.take 10 (.take 11 (.take 12 (.alt 13 (.take 14 (.alt 15 (.done) (.none))) (.none)))))))))))))))) (.seq (.leaf) (.seq (.block (.loop [(10, .sc (.int .i64))] (.seq (.join [(43, .sc .bool)] (.draw [8, 9, 10, 11, 13] (.take 0 (.take 1 (.take 2 (.take 3 (.take 4 (.take 5 (.take 6 (.take 7 (.take 8 (.take 9 (.take 10 (.take 11 (.alt 12 (.take 13 (.done)) (.none))))))))))))))) (.cond (.leaf) (.leaf))) (.block (.leaf))))) (.seq (.block (.loop [(11, .sc (.int .i64))] (.seq (.join [(60, .sc .bool)] (.draw [8, 9, 10, 11, 13, 14] (.take 0 (.take 1 (.take 2 (.take 3 (.take 4 (.take 5 (.take 6 (.take 7 (.take 8 (.take 9 (.take 10 (.take 11 (.alt 12 (.take 13 (.take 14 (.done))) (.none))))))))))))))) (.cond (.leaf) (.leaf))) (.block (.leaf))))) (.seq (.seq (.leaf) (.cond (.seq (.draw [8, 9, 10, 11] (.take 0 (.take 1 (.take 2 (.take 3 (.take 4 (.take 5 (.take 6 (.take 7 (.take 8 (.take 9 (.take 10 (.take 11 (.take 12 (.alt 13 (.take 14 (.alt 15 (.done) (.none))) (.none)))))))))))))))) (.seq (.leaf) (.leaf))) (.leaf))) (.seq (.draw [8, 9, 10, 11] (.take 0 (.take 1 (.take 2 (.take 3 (.take 4 (.take 5 (.take 6 (.take 7 (.take 8 (.take 9 (.take 10 (.take 11 (.take 12 (.alt 13 (.take 14 (.alt 15 (.done) (.none))) (.none)))))))))))))))) (.seq (.leaf) (.seq (.leaf) (.seq (.block (.loop [(10, .sc (.int .i64)), (11, .sc (.int .i64))] (.block (.seq (.block (.loop [(10, .sc (.int .i64))] (.seq (.join [(112, .sc .bool)] (.draw [8, 9, 10, 11, 13] (.take 0 (.take 1 (.take 2 (.take 3 (.take 4 (.take 5 (.take 6 (.take 7 (.take 8 (.take 9 (.take 10 (.take 11 (.alt 12 (.take 13 (.done)) (.none))))))))))))))) (.cond (.leaf) (.leaf))) (.block (.leaf))))) (.seq (.block (.loop [(11, .sc (.int .i64))] (.seq (.join [(129, .sc .bool)] (.draw [8, 9, 10, 11, 13, 14] (.take 0 (.take 1 (.take 2 (.take 3 (.take 4 (.take 5 (.take 6 (.take 7 (.take 8 (.take 9 (.take 10 (.take 11 (.alt 12 (.take 13 (.take 14 (.done))) (.none))))))))))))))) (.cond (.leaf) (.leaf))) (.block (.leaf))))) (.seq (.seq (.leaf) (.cond (.leaf) (.leaf))) (.seq (.draw [8, 9, 10, 11] (.take 0 (.take 1 (.take 2 (.take 3 (.take 4 (.take 5 (.take 6 (.take 7 (.take 8 (.take 9 (.take 10 (.take 11 (.take 12 (.alt 13 (.take 14 (.alt 15 (.done) (.none))) (.none)))))))))))))))) (.seq (.leaf) (.leaf))))))))) (.seq (.draw [8, 9, 10, 11] (.take 0 (.take 1 (.take 2 (.take 3 (.take 4 (.take 5 (.take 6 (.take 7 (.take 8 (.take 9 (.take 10 (.take 11 (.take 12 (.alt 13 (.take 14 (.alt 15 (.done) (.none))) (.none)))))))))))))))) (.seq (.leaf) (.leaf))))))))))))
theorem slices_partitionOrdered_uint64.eq (x0 : Sl) (x1 : Int) (x2 : Int) (x3 : Int) (Q : Int → Bool → PP) : denF Tryz.prog Tryz.f238 slices_partitionOrdered_uint64.ann [.slice x0.p x0.len x0.cap, .int .i64 x1, .int .i64 x2, .int .i64 x3] [.sc (.int .i64), .sc .bool] Q = slices_partitionOrdered_uint64.F x0 x1 x2 x3 Q := by kernel_rfl
theorem slices_partitionOrdered_uint64.ok (x0 : Sl) (x1 : Int) (x2 : Int) (x3 : Int) (Q : Int → Bool → PP) (h : Heap) (hh : slices_partitionOrdered_uint64.F x0 x1 x2 x3 Q h) : slices_partitionOrdered_uint64.C x0 x1 x2 x3 Q h :=
  call_of_den callOK mixed Tryz.func238 (by kernel_rfl) (by rw [slices_partitionOrdered_uint64.eq]; exact hh)
def slices_pdqsortOrdered_uint64.F (x0 : Sl) (x1 : Int) (x2 : Int) (x3 : Int) (Q : PP) : PP :=
  loopT [.int .i64, .int .i64, .bool, .bool, .int .i64] (fun (K1 : Int → Int → Bool → Bool → Int → PP) (n2 : Int) (n3 : Int) (b4 : Bool) (b5 : Bool) (n6 : Int) =>
    ifB (decide ((IntKind.wrap .i64 (n6 - n3)) ≤ (12 : Int))) (
      slices_insertionSortOrdered_uint64.C x0 n3 n6 (
        Q)) (
      ifB (n2 == (0 : Int)) (
        slices_heapSortOrdered_uint64.C x0 n3 n6 (
          Q)) (
        joinT [.int .i64] (fun (M7 : Int → PP) =>
          ifB (!b5) (
            slices_breakPatternsOrdered_uint64.C x0 n3 n6 (
              M7 (IntKind.wrap .i64 (n2 - (1 : Int))))) (
            M7 n2))
        (fun (n8 : Int) =>
          slices_choosePivotOrdered_uint64.C x0 n3 n6 fun (n9 : Int) (n10 : Int) =>
          joinT [.int .i64, .int .i64] (fun (M11 : Int → Int → PP) =>
            ifB (n10 == (2 : Int)) (
              slices_reverseRangeOrdered_uint64.C x0 n3 n6 (
                M11 (IntKind.wrap .i64 ((IntKind.wrap .i64 (n6 - (1 : Int))) - (IntKind.wrap .i64 (n9 - n3)))) (1 : Int))) (
              M11 n9 n10))
          (fun (n12 : Int) (n13 : Int) =>
            joinT [] (fun (M14 : PP) =>
              joinT [.bool] (fun (M15 : Bool → PP) =>
                ifB b5 (
                  ifB b4 (
                    M15 (n13 == (1 : Int))) (
                    M15 false)) (
                  M15 false))
              (fun (b16 : Bool) =>
                ifB b16 (
                  slices_partialInsertionSortOrdered_uint64.C x0 n3 n6 fun (b17 : Bool) =>
                  ifB b17 (
                    Q) (
                    M14)) (
                  M14)))
            (
              joinT [.bool] (fun (M18 : Bool → PP) =>
                drawT fun (S19 : PP) =>
                ifB (decide (n3 > (0 : Int))) (
                  idxP 1 x0.p x0.len (IntKind.wrap .i64 (n3 - (1 : Int))) fun (a20 : Addr) =>
                  ldG S19 (.int .u64) a20 fun (n21 : Int) =>
                  idxP 1 x0.p x0.len n12 fun (a22 : Addr) =>
                  ldG S19 (.int .u64) a22 fun (n23 : Int) =>
                  cmp_Less_uint64.C n21 n23 fun (b24 : Bool) =>
                  M18 (!b24)) (
                  M18 false))
              (fun (b25 : Bool) =>
                ifB b25 (
                  slices_partitionEqualOrdered_uint64.C x0 n3 n6 n12 fun (n26 : Int) =>
                  K1 n8 n26 b4 b5 n6) (
                  slices_partitionOrdered_uint64.C x0 n3 n6 n12 fun (n27 : Int) (b28 : Bool) =>
                  guardP ((8 : Int) ≠ 0) (ifB (decide ((IntKind.wrap .i64 (n27 - n3)) < (IntKind.wrap .i64 (n6 - n27)))) (
                      slices_pdqsortOrdered_uint64.C x0 n3 n27 n8 (
                        K1 n8 (IntKind.wrap .i64 (n27 + (1 : Int))) b28 (decide ((IntKind.wrap .i64 (n27 - n3)) ≥ (IntKind.wrap .i64 (Int.tdiv (IntKind.wrap .i64 (n6 - n3)) (8 : Int))))) n6)) (
                      slices_pdqsortOrdered_uint64.C x0 (IntKind.wrap .i64 (n27 + (1 : Int))) n6 n8 (
                        K1 n8 n3 b28 (decide ((IntKind.wrap .i64 (n6 - n27)) ≥ (IntKind.wrap .i64 (Int.tdiv (IntKind.wrap .i64 (n6 - n3)) (8 : Int))))) n27))))))))))) x3 x1 true true x2
def slices_pdqsortOrdered_uint64.ann : Ann := .seq (.leaf) (.seq (.leaf) (.block (.loop [(3, .sc (.int .i64)), (1, .sc (.int .i64)), (9, .sc .bool), (8, .sc .bool), (2, .sc (.int .i64))] (.block (.seq (.leaf) (.seq (.seq (.leaf) (.cond (.seq (.leaf) (.leaf)) (.leaf))) (.seq (.seq (.leaf) (.cond (.seq (.leaf) (.leaf)) (.leaf))) (.join [(3, .sc (.int .i64))] (.seq (.leaf) (.cond (.seq (.leaf) (.leaf)) (.leaf))) (.seq (.leaf) (.join [(11, .sc (.int .i64)), (12, .sc (.int .i64))] (.seq (.leaf) (.cond (.seq (.leaf) (.seq (.leaf) (.leaf))) (.leaf))) (.join [] (.join [(68, .sc .bool)] (.leaf) (.cond (.seq (.leaf) (.cond (.leaf) (.leaf))) (.leaf))) (.seq (.join [(87, .sc .bool)] (.draw [8, 9, 10, 11, 13, 14] (.take 0 (.take 1 (.take 2 (.take 3 (.take 4 (.take 5 (.take 6 (.take 7 (.take 8 (.take 9 (.take 10 (.take 11 (.alt 12 (.take 13 (.take 14 (.done))) (.none))))))))))))))) (.cond (.seq (.leaf) (.seq (.leaf) (.leaf))) (.leaf))) (.seq (.leaf) (.seq (.leaf) (.seq (.leaf) (.seq (.leaf) (.seq (.leaf) (.cond (.seq (.leaf) (.seq (.leaf) (.leaf))) (.seq (.leaf) (.seq (.leaf) (.leaf)))))))))))))))))))))
theorem slices_pdqsortOrdered_uint64.eq (x0 : Sl) (x1 : Int) (x2 : Int) (x3 : Int) (Q : PP) : denF Tryz.prog Tryz.f164 slices_pdqsortOrdered_uint64.ann [.slice x0.p x0.len x0.cap, .int .i64 x1, .int .i64 x2, .int .i64 x3] [] Q = slices_pdqsortOrdered_uint64.F x0 x1 x2 x3 Q := by kernel_rfl
theorem slices_pdqsortOrdered_uint64.ok (x0 : Sl) (x1 : Int) (x2 : Int) (x3 : Int) (Q : PP) (h : Heap) (hh : slices_pdqsortOrdered_uint64.F x0 x1 x2 x3 Q h) : slices_pdqsortOrdered_uint64.C x0 x1 x2 x3 Q h :=
  call_of_den callOK mixed Tryz.func164 (by kernel_rfl) (by rw [slices_pdqsortOrdered_uint64.eq]; exact hh)
def slices_Sort_uint64_uint64.F (x0 : Sl) (Q : PP) : PP :=
  math_bits_Len.C (IntKind.wrap .u64 (x0.len : Int)) fun (n1 : Int) =>
  slices_pdqsortOrdered_uint64.C x0 (0 : Int) (x0.len : Int) n1 (
    Q)
def slices_Sort_uint64_uint64.ann : Ann := .seq (.leaf) (.leaf)
theorem slices_Sort_uint64_uint64.eq (x0 : Sl) (Q : PP) : denF Tryz.prog Tryz.f90 slices_Sort_uint64_uint64.ann [.slice x0.p x0.len x0.cap] [] Q = slices_Sort_uint64_uint64.F x0 Q := by kernel_rfl
theorem slices_Sort_uint64_uint64.ok (x0 : Sl) (Q : PP) (h : Heap) (hh : slices_Sort_uint64_uint64.F x0 Q h) : slices_Sort_uint64_uint64.C x0 Q h :=
  call_of_den callOK mixed Tryz.func90 (by kernel_rfl) (by rw [slices_Sort_uint64_uint64.eq]; exact hh)
def wal_Logs.F (x0 : Option Addr) (Q : Sl → PP) : PP :=
  disk_Disk_List.C x0 fun (l1 : Sl) =>
  loopT [.slice, .int .i64] (fun (K2 : Sl → Int → PP) (l3 : Sl) (n4 : Int) =>
    ifB (decide (n4 < (l1.len : Int))) (
      joinT [.slice] (fun (M5 : Sl → PP) =>
        idxP 1 l1.p l1.len n4 fun (a6 : Addr) =>
        ld (.str) a6 fun (s7 : Bytes) =>
        disk_Number.C ([108, 111, 103] : Bytes) s7 fun (n8 : Int) (b9 : Bool) =>
        ifB b9 (
          newP 30 [.int .u64 n8] fun (a10 : Addr) =>
          appP 30 1 8 #[.int .u64 (0 : Int)] l3.p l3.len l3.cap (.slice (some a10) 1 1) fun (p11 : Option Addr) (k12 c13 : Nat) =>
          M5 (⟨p11, k12, c13⟩ : Sl)) (
          M5 l3))
      (fun (l14 : Sl) =>
        K2 l14 (IntKind.wrap .i64 (n4 + (1 : Int))))) (
      slices_Sort_uint64_uint64.C l3 (
        Q l3))) (⟨(none : Option Addr), 0, 0⟩ : Sl) (0 : Int)
def wal_Logs.ann : Ann := .seq (.leaf) (.seq (.leaf) (.seq (.seq (.leaf) (.block (.loop [(3, .sc .slice), (11, .sc (.int .i64))] (.seq (.leaf) (.seq (.cond (.leaf) (.leaf)) (.join [(3, .sc .slice)] (.block (.seq (.leaf) (.seq (.leaf) (.seq (.leaf) (.cond (.leaf) (.leaf)))))) (.leaf))))))) (.seq (.leaf) (.seq (.leaf) (.leaf)))))
theorem wal_Logs.eq (x0 : Option Addr) (Q : Sl → PP) : denF Tryz.prog Tryz.f21 wal_Logs.ann [.pointer x0] [.sc .slice] Q = wal_Logs.F x0 Q := by kernel_rfl
theorem wal_Logs.ok (x0 : Option Addr) (Q : Sl → PP) (h : Heap) (hh : wal_Logs.F x0 Q h) : wal_Logs.C x0 Q h :=
  call_of_den callOK mixed Tryz.func21 (by kernel_rfl) (by rw [wal_Logs.eq]; exact hh)
def wal_each.F (x0 : Option Addr) (x1 : Value) (x2 : Value) (Q : Int → PP) : PP :=
  disk_Disk_Read.C x0 ([] : Bytes) fun (s1 : Bytes) (n2 : Int) =>
  ifB (n2 != (4 : Int)) (
    Q n2) (
    wal_Logs.C x0 fun (l3 : Sl) =>
    loopT [.int .i64, .int .i64] (fun (K4 : Int → Int → PP) (n5 : Int) (n6 : Int) =>
      ifB (decide (n6 < (l3.len : Int))) (
        joinT [.int .i64] (fun (M7 : Int → PP) =>
          idxP 1 l3.p l3.len n6 fun (a8 : Addr) =>
          ld (.int .u64) a8 fun (n9 : Int) =>
          callV Tryz.prog x1 #[.int .u64 n9] [.sc .bool] fun (b10 : Bool) =>
          ifB (!b10) (
            M7 n5) (
            disk_Name.C ([108, 111, 103] : Bytes) n9 fun (s11 : Bytes) =>
            callV Tryz.prog x2 #[.string (bs s11)] [.sc (.int .i64)] fun (n12 : Int) =>
            ifB (n12 != (0 : Int)) (
              Q n12) (
              M7 n5)))
        (fun (n13 : Int) =>
          K4 n13 (IntKind.wrap .i64 (n6 + (1 : Int))))) (
        Q (0 : Int))) (0 : Int) (0 : Int))
def wal_each.ann : Ann := .seq (.leaf) (.seq (.seq (.leaf) (.seq (.leaf) (.cond (.seq (.leaf) (.leaf)) (.leaf)))) (.seq (.seq (.leaf) (.block (.loop [(6, .sc (.int .i64)), (23, .sc (.int .i64))] (.seq (.leaf) (.seq (.cond (.leaf) (.leaf)) (.join [(6, .sc (.int .i64))] (.block (.seq (.leaf) (.seq (.seq (.leaf) (.cond (.leaf) (.leaf))) (.seq (.leaf) (.seq (.leaf) (.cond (.seq (.leaf) (.leaf)) (.leaf))))))) (.leaf))))))) (.seq (.leaf) (.leaf))))
theorem wal_each.eq (x0 : Option Addr) (x1 : Value) (x2 : Value) (Q : Int → PP) : denF Tryz.prog Tryz.f143 wal_each.ann [.pointer x0, x1, x2] [.sc (.int .i64)] Q = wal_each.F x0 x1 x2 Q := by kernel_rfl
theorem wal_each.ok (x0 : Option Addr) (x1 : Value) (x2 : Value) (Q : Int → PP) (h : Heap) (hh : wal_each.F x0 x1 x2 Q h) : wal_each.C x0 x1 x2 Q h :=
  call_of_den callOK mixed Tryz.func143 (by kernel_rfl) (by rw [wal_each.eq]; exact hh)
def wal_Replay.F (x0 : Option Addr) (x1 : Int) (Q : Sl → Int → PP) : PP :=
  newP 25 [.pointer x0] fun (a1 : Addr) =>
  newP 30 [.int .u64 x1] fun (a2 : Addr) =>
  newP 31 [.slice (none : Option Addr) 0 0] fun (a3 : Addr) =>
  ld (.ptr) a1 fun (p4 : Option Addr) =>
  wal_each.C p4 (.func (.func 144) #[] #[.pointer (some a2)] : Value) (.func (.func 145) #[] #[.pointer (some a1), .pointer (some a3)] : Value) fun (n5 : Int) =>
  ld (.slice) a3 fun (l6 : Sl) =>
  Q l6 n5
def wal_Replay.ann : Ann := .seq (.leaf) (.seq (.leaf) (.seq (.leaf) (.seq (.leaf) (.leaf))))
theorem wal_Replay.eq (x0 : Option Addr) (x1 : Int) (Q : Sl → Int → PP) : denF Tryz.prog Tryz.f74 wal_Replay.ann [.pointer x0, .int .u64 x1] [.sc .slice, .sc (.int .i64)] Q = wal_Replay.F x0 x1 Q := by kernel_rfl
theorem wal_Replay.ok (x0 : Option Addr) (x1 : Int) (Q : Sl → Int → PP) (h : Heap) (hh : wal_Replay.F x0 x1 Q h) : wal_Replay.C x0 x1 Q h :=
  call_of_den callOK mixed Tryz.func74 (by kernel_rfl) (by rw [wal_Replay.eq]; exact hh)
def law07_awake.F  (Q : Bool → PP) : PP :=
  disk_New.C (1048576 : Int) fun (p1 : Option Addr) =>
  wal_Begin.C p1 (3 : Int) fun (p2 : Option Addr) (n3 : Int) =>
  joinT [.bool] (fun (M4 : Bool → PP) =>
    ifB (n3 != (0 : Int)) (
      M4 true) (
      guardP (ptrNil p2 (none : Option Addr)) (ifB (decide (p2 = (none : Option Addr))) (
          M4 true) (
          wal_Log_N.C p2 fun (n5 : Int) =>
          M4 (n5 != (3 : Int))))))
  (fun (b6 : Bool) =>
    ifB b6 (
      Q false) (
      law07_small.C (1 : Int) fun (n7 : Int) (l8 : Sl) =>
      wal_Log_Add.C p2 n7 l8 fun (n9 : Int) =>
      disk_Disk_Fuse.C p1 (2 : Int) (
        law07_small.C (2 : Int) fun (n10 : Int) (l11 : Sl) =>
        wal_Log_Add.C p2 n10 l11 fun (n12 : Int) =>
        newP 3 [.int .i64 (31 : Int)] fun (a13 : Addr) =>
        disk_Disk_Crash.C p1 (0 : Int) (⟨some a13, 1, 1⟩ : Sl) (⟨(none : Option Addr), 0, 0⟩ : Sl) (
          disk_Disk_Start.C p1 (
            wal_Replay.C p1 (0 : Int) fun (l14 : Sl) (n15 : Int) =>
            wal_Logs.C p1 fun (l16 : Sl) =>
            ifB (n9 == (0 : Int)) (
              ifB (n12 == (7 : Int)) (
                ifB (n15 == (0 : Int)) (
                  ifB ((l14.len : Int) == (1 : Int)) (
                    idxP 2 l14.p l14.len (0 : Int) fun (a17 : Addr) =>
                    ld (.int .u64) (a17.add 0) fun (n18 : Int) =>
                    ifB (n18 == (1 : Int)) (
                      idxP 2 l14.p l14.len (0 : Int) fun (a19 : Addr) =>
                      ld (.slice) (a19.add 1) fun (l20 : Sl) =>
                      ifB ((l20.len : Int) == (1 : Int)) (
                        idxP 2 l14.p l14.len (0 : Int) fun (a21 : Addr) =>
                        ld (.slice) (a21.add 1) fun (l22 : Sl) =>
                        idxP 3 l22.p l22.len (0 : Int) fun (a23 : Addr) =>
                        ld (.str) (a23.add 1) fun (s24 : Bytes) =>
                        ifB (s24 == ([120] : Bytes)) (
                        ifB ((l16.len : Int) == (1 : Int)) (
                        idxP 1 l16.p l16.len (0 : Int) fun (a25 : Addr) =>
                        ld (.int .u64) a25 fun (n26 : Int) =>
                        Q (n26 == (3 : Int))) (
                        Q false)) (
                        Q false)) (
                        Q false)) (
                      Q false)) (
                    Q false)) (
                  Q false)) (
                Q false)) (
              Q false))))))
def law07_awake.ann : Ann := .seq (.leaf) (.seq (.leaf) (.seq (.leaf) (.seq (.join [(25, .sc .bool)] (.leaf) (.cond (.seq (.leaf) (.leaf)) (.leaf))) (.seq (.leaf) (.seq (.leaf) (.seq (.leaf) (.seq (.leaf) (.seq (.leaf) (.seq (.leaf) (.seq (.leaf) (.seq (.leaf) (.leaf))))))))))))
theorem law07_awake.eq  (Q : Bool → PP) : denF Tryz.prog Tryz.f13 law07_awake.ann [] [.sc .bool] Q = law07_awake.F  Q := by kernel_rfl
theorem law07_awake.ok  (Q : Bool → PP) (h : Heap) (hh : law07_awake.F  Q h) : law07_awake.C  Q h :=
  call_of_den callOK mixed Tryz.func13 (by kernel_rfl) (by rw [law07_awake.eq]; exact hh)
def ref05_held.F (x0 : Int) (x1 : Int) (Q : Int → PP) : PP :=
  ifB (decide (x0 < (0 : Int))) (
    Q (0 : Int)) (
    ifB (decide (x0 > x1)) (
      Q x1) (
      Q x0))
def ref05_held.ann : Ann := .seq (.leaf) (.seq (.seq (.leaf) (.cond (.seq (.leaf) (.leaf)) (.leaf))) (.seq (.seq (.leaf) (.cond (.seq (.leaf) (.leaf)) (.leaf))) (.seq (.leaf) (.leaf))))
theorem ref05_held.eq (x0 : Int) (x1 : Int) (Q : Int → PP) : denF Tryz.prog Tryz.f75 ref05_held.ann [.int .i64 x0, .int .i64 x1] [.sc (.int .i64)] Q = ref05_held.F x0 x1 Q := by kernel_rfl
theorem ref05_held.ok (x0 : Int) (x1 : Int) (Q : Int → PP) (h : Heap) (hh : ref05_held.F x0 x1 Q h) : ref05_held.C x0 x1 Q h :=
  call_of_den callOK mixed Tryz.func75 (by kernel_rfl) (by rw [ref05_held.eq]; exact hh)
def ref05_New.F (x0 : Int) (Q : (Option Addr) → PP) : PP :=
  ref05_held.C x0 (1048576 : Int) fun (n1 : Int) =>
  newP 152 [.slice (none : Option Addr) 0 0] fun (a2 : Addr) =>
  newP 139 [.int .i64 n1, .slice (none : Option Addr) 0 0, .slice (some a2) 1 1, .bool false, .int .i64 (0 : Int)] fun (a3 : Addr) =>
  Q (some a3)
def ref05_New.ann : Ann := .seq (.leaf) (.seq (.leaf) (.leaf))
theorem ref05_New.eq (x0 : Int) (Q : (Option Addr) → PP) : denF Tryz.prog Tryz.f15 ref05_New.ann [.int .i64 x0] [.sc .ptr] Q = ref05_New.F x0 Q := by kernel_rfl
theorem ref05_New.ok (x0 : Int) (Q : (Option Addr) → PP) (h : Heap) (hh : ref05_New.F x0 Q h) : ref05_New.C x0 Q h :=
  call_of_den callOK mixed Tryz.func15 (by kernel_rfl) (by rw [ref05_New.eq]; exact hh)
def wal_Retire_1.F (x0 : Int) (x1 : Addr) (Q : Bool → PP) : PP :=
  ld (.int .u64) x1 fun (n1 : Int) =>
  Q (decide (x0 < n1))
def wal_Retire_1.ann : Ann := .seq (.leaf) (.seq (.leaf) (.leaf))
theorem wal_Retire_1.eq (x0 : Int) (x1 : Addr) (Q : Bool → PP) : denF Tryz.prog Tryz.f148 wal_Retire_1.ann [.int .u64 x0, .pointer (some x1)] [.sc .bool] Q = wal_Retire_1.F x0 x1 Q := by kernel_rfl
theorem wal_Retire_1.ok (x0 : Int) (x1 : Addr) (Q : Bool → PP) (h : Heap) (hh : wal_Retire_1.F x0 x1 Q h) : wal_Retire_1.C x0 x1 Q h :=
  call_of_den callOK mixed Tryz.func148 (by kernel_rfl) (by rw [wal_Retire_1.eq]; exact hh)
end Go.Proofs.W
end
section
set_option maxRecDepth 100000
set_option linter.unusedVariables false
namespace Go.Proofs.W
open Go Go.Shal
def disk_Disk_Delete.F (x0 : Option Addr) (x1 : Bytes) (Q : Int → PP) : PP :=
  disk_Disk_file.C x0 x1 fun (p1 : Option Addr) (n2 : Int) =>
  ifB (n2 != (0 : Int)) (
    Q n2) (
    disk_Disk_changed.C x0 x1 ([] : Bytes) (none : Option Addr) fun (n3 : Int) =>
    Q n3)
def disk_Disk_Delete.ann : Ann := .seq (.leaf) (.seq (.seq (.leaf) (.seq (.leaf) (.cond (.seq (.leaf) (.leaf)) (.leaf)))) (.seq (.leaf) (.leaf)))
theorem disk_Disk_Delete.eq (x0 : Option Addr) (x1 : Bytes) (Q : Int → PP) : denF Tryz.prog Tryz.f149 disk_Disk_Delete.ann [.pointer x0, .string (bs x1)] [.sc (.int .i64)] Q = disk_Disk_Delete.F x0 x1 Q := by kernel_rfl
theorem disk_Disk_Delete.ok (x0 : Option Addr) (x1 : Bytes) (Q : Int → PP) (h : Heap) (hh : disk_Disk_Delete.F x0 x1 Q h) : disk_Disk_Delete.C x0 x1 Q h :=
  call_of_den callOK mixed Tryz.func149 (by kernel_rfl) (by rw [disk_Disk_Delete.eq]; exact hh)
def wal_Retire.F (x0 : Option Addr) (x1 : Int) (Q : Int → PP) : PP :=
  newP 30 [.int .u64 x1] fun (a1 : Addr) =>
  wal_each.C x0 (.func (.func 148) #[] #[.pointer (some a1)] : Value) (.func (.func 149) #[.pointer x0] #[] : Value) fun (n2 : Int) =>
  Q n2
def wal_Retire.ann : Ann := .seq (.leaf) (.seq (.leaf) (.leaf))
theorem wal_Retire.eq (x0 : Option Addr) (x1 : Int) (Q : Int → PP) : denF Tryz.prog Tryz.f76 wal_Retire.ann [.pointer x0, .int .u64 x1] [.sc (.int .i64)] Q = wal_Retire.F x0 x1 Q := by kernel_rfl
theorem wal_Retire.ok (x0 : Option Addr) (x1 : Int) (Q : Int → PP) (h : Heap) (hh : wal_Retire.F x0 x1 Q h) : wal_Retire.C x0 x1 Q h :=
  call_of_den callOK mixed Tryz.func76 (by kernel_rfl) (by rw [wal_Retire.eq]; exact hh)
def disk_Disk_Rename.F (x0 : Option Addr) (x1 : Bytes) (x2 : Bytes) (Q : Int → PP) : PP :=
  disk_Disk_file.C x0 x1 fun (p1 : Option Addr) (n2 : Int) =>
  joinT [.bool] (fun (M3 : Bool → PP) =>
    ifB (n2 == (0 : Int)) (
      disk_right.C x2 fun (b4 : Bool) =>
      M3 (!b4)) (
      ifB (n2 == (4 : Int)) (
        disk_right.C x2 fun (b5 : Bool) =>
        M3 (!b5)) (
        M3 false)))
  (fun (b6 : Bool) =>
    ifB b6 (
      Q (1 : Int)) (
      ifB (n2 != (0 : Int)) (
        Q n2) (
        ifB (x1 == x2) (
          disk_Disk_burns.C x0 fun (n7 : Int) =>
          Q n7) (
          disk_Disk_changed.C x0 x1 x2 p1 fun (n8 : Int) =>
          Q n8))))
def disk_Disk_Rename.ann : Ann := .seq (.leaf) (.seq (.leaf) (.seq (.block (.join [(15, .sc .bool)] (.leaf) (.cond (.seq (.leaf) (.leaf)) (.seq (.leaf) (.cond (.seq (.leaf) (.leaf)) (.seq (.leaf) (.cond (.seq (.leaf) (.leaf)) (.leaf)))))))) (.seq (.leaf) (.leaf))))
theorem disk_Disk_Rename.eq (x0 : Option Addr) (x1 : Bytes) (x2 : Bytes) (Q : Int → PP) : denF Tryz.prog Tryz.f150 disk_Disk_Rename.ann [.pointer x0, .string (bs x1), .string (bs x2)] [.sc (.int .i64)] Q = disk_Disk_Rename.F x0 x1 x2 Q := by kernel_rfl
theorem disk_Disk_Rename.ok (x0 : Option Addr) (x1 : Bytes) (x2 : Bytes) (Q : Int → PP) (h : Heap) (hh : disk_Disk_Rename.F x0 x1 x2 Q h) : disk_Disk_Rename.C x0 x1 x2 Q h :=
  call_of_den callOK mixed Tryz.func150 (by kernel_rfl) (by rw [disk_Disk_Rename.eq]; exact hh)
def law05_Does.F (x0 : Option Addr) (x1_0 : Int) (x1_1 : Bytes) (x1_2 : Bytes) (x1_3 : Int) (x1_4 : Int) (x1_5 : Sl) (x1_6 : Sl) (Q : Bytes → Int → PP) : PP :=
  newP 44 [.int .u8 x1_0, .string (bs x1_1), .string (bs x1_2), .int .i64 x1_3, .int .i64 x1_4, .slice x1_5.p x1_5.len x1_5.cap, .slice x1_6.p x1_6.len x1_6.cap] fun (a1 : Addr) =>
  ld (.int .u8) (a1.add 0) fun (n2 : Int) =>
  ifB (n2 == (0 : Int)) (
    ld (.str) (a1.add 1) fun (s3 : Bytes) =>
    disk_Disk_Create.C x0 s3 fun (n4 : Int) =>
    Q ([] : Bytes) n4) (
    ifB (n2 == (1 : Int)) (
      ld (.str) (a1.add 1) fun (s5 : Bytes) =>
      ld (.str) (a1.add 2) fun (s6 : Bytes) =>
      disk_Disk_Append.C x0 s5 s6 fun (n7 : Int) =>
      Q ([] : Bytes) n7) (
      ifB (n2 == (2 : Int)) (
        ld (.str) (a1.add 1) fun (s8 : Bytes) =>
        disk_Disk_Sync.C x0 s8 fun (n9 : Int) =>
        Q ([] : Bytes) n9) (
        ifB (n2 == (3 : Int)) (
          ld (.str) (a1.add 1) fun (s10 : Bytes) =>
          ld (.str) (a1.add 2) fun (s11 : Bytes) =>
          disk_Disk_Rename.C x0 s10 s11 fun (n12 : Int) =>
          Q ([] : Bytes) n12) (
          ifB (n2 == (4 : Int)) (
            ld (.str) (a1.add 1) fun (s13 : Bytes) =>
            disk_Disk_Delete.C x0 s13 fun (n14 : Int) =>
            Q ([] : Bytes) n14) (
            ifB (n2 == (5 : Int)) (
              disk_Disk_DirSync.C x0 fun (n15 : Int) =>
              Q ([] : Bytes) n15) (
              ifB (n2 == (6 : Int)) (
                ld (.int .i64) (a1.add 3) fun (n16 : Int) =>
                disk_Disk_Fuse.C x0 n16 (
                  Q ([] : Bytes) (0 : Int))) (
                ifB (n2 == (7 : Int)) (
                  lds [.int .i64, .slice, .slice] (a1.add 4) fun (n17 : Int) (l18 : Sl) (l19 : Sl) =>
                  disk_Disk_Crash.C x0 n17 l18 l19 (
                    Q ([] : Bytes) (0 : Int))) (
                  ifB (n2 == (8 : Int)) (
                    disk_Disk_Start.C x0 (
                      Q ([] : Bytes) (0 : Int))) (
                    ifB (n2 == (9 : Int)) (
                      ld (.str) (a1.add 1) fun (s20 : Bytes) =>
                      disk_Disk_Read.C x0 s20 fun (s21 : Bytes) (n22 : Int) =>
                      Q s21 n22) (
                      Q ([] : Bytes) (0 : Int)))))))))))
def law05_Does.ann : Ann := .seq (.leaf) (.seq (.seq (.leaf) (.block (.seq (.leaf) (.cond (.seq (.leaf) (.leaf)) (.seq (.leaf) (.cond (.seq (.leaf) (.leaf)) (.seq (.leaf) (.cond (.seq (.leaf) (.leaf)) (.seq (.leaf) (.cond (.seq (.leaf) (.leaf)) (.seq (.leaf) (.cond (.seq (.leaf) (.leaf)) (.seq (.leaf) (.cond (.seq (.leaf) (.leaf)) (.seq (.leaf) (.cond (.leaf) (.seq (.leaf) (.cond (.leaf) (.seq (.leaf) (.cond (.leaf) (.seq (.leaf) (.cond (.seq (.leaf) (.leaf)) (.leaf))))))))))))))))))))))) (.seq (.leaf) (.leaf)))
theorem law05_Does.eq (x0 : Option Addr) (x1_0 : Int) (x1_1 : Bytes) (x1_2 : Bytes) (x1_3 : Int) (x1_4 : Int) (x1_5 : Sl) (x1_6 : Sl) (Q : Bytes → Int → PP) : denF Tryz.prog Tryz.f77 law05_Does.ann [.pointer x0, .agg #[.int .u8 x1_0, .string (bs x1_1), .string (bs x1_2), .int .i64 x1_3, .int .i64 x1_4, .slice x1_5.p x1_5.len x1_5.cap, .slice x1_6.p x1_6.len x1_6.cap]] [.sc .str, .sc (.int .i64)] Q = law05_Does.F x0 x1_0 x1_1 x1_2 x1_3 x1_4 x1_5 x1_6 Q := by kernel_rfl
theorem law05_Does.ok (x0 : Option Addr) (x1_0 : Int) (x1_1 : Bytes) (x1_2 : Bytes) (x1_3 : Int) (x1_4 : Int) (x1_5 : Sl) (x1_6 : Sl) (Q : Bytes → Int → PP) (h : Heap) (hh : law05_Does.F x0 x1_0 x1_1 x1_2 x1_3 x1_4 x1_5 x1_6 Q h) : law05_Does.C x0 x1_0 x1_1 x1_2 x1_3 x1_4 x1_5 x1_6 Q h :=
  call_of_den callOK mixed Tryz.func77 (by kernel_rfl) (by rw [law05_Does.eq]; exact hh)
def law07_does.F (x0 : Option Addr) (x1 : Option Addr) (x2_0 : Int) (x2_1 : Int) (x2_2 : Int) (x2_3 : Sl) (x2_4 : Int) (x2_5 : Bytes) (x2_6 : Bytes) (x2_7 : Int) (x2_8 : Int) (x2_9 : Sl) (x2_10 : Sl) (Q : (Option Addr) → Sl → Int → PP) : PP :=
  newP 46 [.int .u8 x2_0, .int .u64 x2_1, .int .u64 x2_2, .slice x2_3.p x2_3.len x2_3.cap, .int .u8 x2_4, .string (bs x2_5), .string (bs x2_6), .int .i64 x2_7, .int .i64 x2_8, .slice x2_9.p x2_9.len x2_9.cap, .slice x2_10.p x2_10.len x2_10.cap] fun (a1 : Addr) =>
  ld (.int .u8) (a1.add 0) fun (n2 : Int) =>
  ifB (n2 == (0 : Int)) (
    ld (.int .u64) (a1.add 1) fun (n3 : Int) =>
    wal_Begin.C x0 n3 fun (p4 : Option Addr) (n5 : Int) =>
    ifB (n5 == (0 : Int)) (
      Q p4 (⟨(none : Option Addr), 0, 0⟩ : Sl) n5) (
      Q x1 (⟨(none : Option Addr), 0, 0⟩ : Sl) n5)) (
    ifB (n2 == (1 : Int)) (
      lds [.int .u64, .slice] (a1.add 2) fun (n6 : Int) (l7 : Sl) =>
      wal_Log_Add.C x1 n6 l7 fun (n8 : Int) =>
      Q x1 (⟨(none : Option Addr), 0, 0⟩ : Sl) n8) (
      ifB (n2 == (2 : Int)) (
        ld (.int .u64) (a1.add 1) fun (n9 : Int) =>
        wal_Replay.C x0 n9 fun (l10 : Sl) (n11 : Int) =>
        Q x1 l10 n11) (
        ifB (n2 == (3 : Int)) (
          ld (.int .u64) (a1.add 1) fun (n12 : Int) =>
          wal_Retire.C x0 n12 fun (n13 : Int) =>
          Q x1 (⟨(none : Option Addr), 0, 0⟩ : Sl) n13) (
          ifB (n2 == (4 : Int)) (
            lds [.int .u8, .str, .str, .int .i64, .int .i64, .slice, .slice] (a1.add 4) fun (n14 : Int) (s15 : Bytes) (s16 : Bytes) (n17 : Int) (n18 : Int) (l19 : Sl) (l20 : Sl) =>
            law05_Does.C x0 n14 s15 s16 n17 n18 l19 l20 fun (s21 : Bytes) (n22 : Int) =>
            Q x1 (⟨(none : Option Addr), 0, 0⟩ : Sl) n22) (
            Q x1 (⟨(none : Option Addr), 0, 0⟩ : Sl) (0 : Int))))))
def law07_does.ann : Ann := .seq (.leaf) (.seq (.seq (.leaf) (.block (.seq (.leaf) (.cond (.seq (.leaf) (.seq (.seq (.leaf) (.cond (.leaf) (.leaf))) (.seq (.leaf) (.leaf)))) (.seq (.leaf) (.cond (.seq (.leaf) (.leaf)) (.seq (.leaf) (.cond (.seq (.leaf) (.seq (.leaf) (.leaf))) (.seq (.leaf) (.cond (.seq (.leaf) (.leaf)) (.seq (.leaf) (.cond (.seq (.leaf) (.seq (.leaf) (.leaf))) (.leaf))))))))))))) (.seq (.leaf) (.leaf)))
theorem law07_does.eq (x0 : Option Addr) (x1 : Option Addr) (x2_0 : Int) (x2_1 : Int) (x2_2 : Int) (x2_3 : Sl) (x2_4 : Int) (x2_5 : Bytes) (x2_6 : Bytes) (x2_7 : Int) (x2_8 : Int) (x2_9 : Sl) (x2_10 : Sl) (Q : (Option Addr) → Sl → Int → PP) : denF Tryz.prog Tryz.f16 law07_does.ann [.pointer x0, .pointer x1, .agg #[.int .u8 x2_0, .int .u64 x2_1, .int .u64 x2_2, .slice x2_3.p x2_3.len x2_3.cap, .int .u8 x2_4, .string (bs x2_5), .string (bs x2_6), .int .i64 x2_7, .int .i64 x2_8, .slice x2_9.p x2_9.len x2_9.cap, .slice x2_10.p x2_10.len x2_10.cap]] [.sc .ptr, .sc .slice, .sc (.int .i64)] Q = law07_does.F x0 x1 x2_0 x2_1 x2_2 x2_3 x2_4 x2_5 x2_6 x2_7 x2_8 x2_9 x2_10 Q := by kernel_rfl
theorem law07_does.ok (x0 : Option Addr) (x1 : Option Addr) (x2_0 : Int) (x2_1 : Int) (x2_2 : Int) (x2_3 : Sl) (x2_4 : Int) (x2_5 : Bytes) (x2_6 : Bytes) (x2_7 : Int) (x2_8 : Int) (x2_9 : Sl) (x2_10 : Sl) (Q : (Option Addr) → Sl → Int → PP) (h : Heap) (hh : law07_does.F x0 x1 x2_0 x2_1 x2_2 x2_3 x2_4 x2_5 x2_6 x2_7 x2_8 x2_9 x2_10 Q h) : law07_does.C x0 x1 x2_0 x2_1 x2_2 x2_3 x2_4 x2_5 x2_6 x2_7 x2_8 x2_9 x2_10 Q h :=
  call_of_den callOK mixed Tryz.func16 (by kernel_rfl) (by rw [law07_does.eq]; exact hh)
def ref05_Name.F (x0 : Bytes) (x1 : Int) (Q : Bytes → PP) : PP :=
  loopT [.str, .int .u64] (fun (K1 : Bytes → Int → PP) (s2 : Bytes) (n3 : Int) =>
    joinT [.bool] (fun (M4 : Bool → PP) =>
      ifB (decide (n3 > (0 : Int))) (
        M4 true) (
        M4 (decide ((s2.length : Int) < (8 : Int)))))
    (fun (b5 : Bool) =>
      ifB b5 (
        guardP ((10 : Int) ≠ 0) (newP 5 [.int .u8 (IntKind.wrap .u8 (IntKind.wrap .u64 ((48 : Int) + (Int.tmod n3 (10 : Int)))))] fun (a6 : Addr) =>
          bytesP (some a6) 1 fun (s7 : Bytes) =>
          guardP (s7.length + s2.length ≤ 9223372036854775807) (guardP ((10 : Int) ≠ 0) (K1 (s7 ++ s2) (IntKind.wrap .u64 (Int.tdiv n3 (10 : Int))))))) (
        guardP (x0.length + ([46] : Bytes).length ≤ 9223372036854775807) (guardP ((x0 ++ ([46] : Bytes)).length + s2.length ≤ 9223372036854775807) (Q ((x0 ++ ([46] : Bytes)) ++ s2)))))) ([] : Bytes) x1
def ref05_Name.ann : Ann := .seq (.leaf) (.seq (.leaf) (.seq (.block (.loop [(5, .sc .str), (1, .sc (.int .u64))] (.seq (.join [(12, .sc .bool)] (.leaf) (.cond (.leaf) (.leaf))) (.block (.seq (.leaf) (.leaf)))))) (.seq (.leaf) (.leaf))))
theorem ref05_Name.eq (x0 : Bytes) (x1 : Int) (Q : Bytes → PP) : denF Tryz.prog Tryz.f152 ref05_Name.ann [.string (bs x0), .int .u64 x1] [.sc .str] Q = ref05_Name.F x0 x1 Q := by kernel_rfl
theorem ref05_Name.ok (x0 : Bytes) (x1 : Int) (Q : Bytes → PP) (h : Heap) (hh : ref05_Name.F x0 x1 Q h) : ref05_Name.C x0 x1 Q h :=
  call_of_den callOK mixed Tryz.func152 (by kernel_rfl) (by rw [ref05_Name.eq]; exact hh)
def ref05_Right.F (x0 : Bytes) (Q : Bool → PP) : PP :=
  joinT [.bool] (fun (M1 : Bool → PP) =>
    ifB (decide ((x0.length : Int) < (1 : Int))) (
      M1 true) (
      M1 (decide ((x0.length : Int) > (24 : Int)))))
  (fun (b2 : Bool) =>
    ifB b2 (
      Q false) (
      loopT [.bool, .int .i64] (fun (K3 : Bool → Int → PP) (b4 : Bool) (n5 : Int) =>
        ifB (decide (n5 < (x0.length : Int))) (
          atS x0 n5 fun (c6 : UInt8) =>
          joinT [.bool] (fun (M7 : Bool → PP) =>
            ifB (decide ((c6.toNat : Int) ≥ (97 : Int))) (
              ifB (!(decide ((c6.toNat : Int) ≤ (122 : Int)))) (
                ifB (decide ((c6.toNat : Int) ≥ (48 : Int))) (
                  ifB (!(decide ((c6.toNat : Int) ≤ (57 : Int)))) (
                    ifB ((c6.toNat : Int) != (46 : Int)) (
                      M7 ((c6.toNat : Int) != (45 : Int))) (
                      M7 false)) (
                    M7 false)) (
                  ifB (!false) (
                    ifB ((c6.toNat : Int) != (46 : Int)) (
                      M7 ((c6.toNat : Int) != (45 : Int))) (
                      M7 false)) (
                    M7 false))) (
                M7 false)) (
              ifB (!false) (
                ifB (decide ((c6.toNat : Int) ≥ (48 : Int))) (
                  ifB (!(decide ((c6.toNat : Int) ≤ (57 : Int)))) (
                    ifB ((c6.toNat : Int) != (46 : Int)) (
                      M7 ((c6.toNat : Int) != (45 : Int))) (
                      M7 false)) (
                    M7 false)) (
                  ifB (!false) (
                    ifB ((c6.toNat : Int) != (46 : Int)) (
                      M7 ((c6.toNat : Int) != (45 : Int))) (
                      M7 false)) (
                    M7 false))) (
                M7 false)))
          (fun (b8 : Bool) =>
            ifB b8 (
              Q false) (
              K3 b4 (IntKind.wrap .i64 (n5 + (1 : Int)))))) (
          Q true)) false (0 : Int)))
def ref05_Right.ann : Ann := .seq (.leaf) (.seq (.join [(12, .sc .bool)] (.leaf) (.cond (.seq (.leaf) (.leaf)) (.leaf))) (.seq (.seq (.leaf) (.block (.loop [(2, .sc .bool), (3, .sc (.int .i64))] (.seq (.seq (.leaf) (.cond (.leaf) (.leaf))) (.seq (.block (.seq (.leaf) (.join [(45, .sc .bool)] (.leaf) (.cond (.seq (.leaf) (.leaf)) (.leaf))))) (.leaf)))))) (.seq (.leaf) (.leaf))))
theorem ref05_Right.eq (x0 : Bytes) (Q : Bool → PP) : denF Tryz.prog Tryz.f219 ref05_Right.ann [.string (bs x0)] [.sc .bool] Q = ref05_Right.F x0 Q := by kernel_rfl
theorem ref05_Right.ok (x0 : Bytes) (Q : Bool → PP) (h : Heap) (hh : ref05_Right.F x0 Q h) : ref05_Right.C x0 Q h :=
  call_of_den callOK mixed Tryz.func219 (by kernel_rfl) (by rw [ref05_Right.eq]; exact hh)
def ref05_Disk_Now.F (x0 : Option Addr) (Q : Sl → PP) : PP :=
  drawT fun (S1 : PP) =>
  nilP x0 fun (a2 : Addr) =>
  ldG S1 (.slice) (a2.add 2) fun (l3 : Sl) =>
  nilP x0 fun (a4 : Addr) =>
  ldG S1 (.slice) (a4.add 2) fun (l5 : Sl) =>
  idxP 1 l3.p l3.len (IntKind.wrap .i64 ((l5.len : Int) - (1 : Int))) fun (a6 : Addr) =>
  ldG S1 (.slice) a6 fun (l7 : Sl) =>
  Q l7
def ref05_Disk_Now.ann : Ann := .seq (.leaf) (.seq (.draw [4, 5, 6, 7, 8, 9, 10, 11] (.take 0 (.take 1 (.take 2 (.take 3 (.take 4 (.take 5 (.take 6 (.take 7 (.take 8 (.take 9 (.take 10 (.take 11 (.take 12 (.done))))))))))))))) (.leaf))
theorem ref05_Disk_Now.eq (x0 : Option Addr) (Q : Sl → PP) : denF Tryz.prog Tryz.f86 ref05_Disk_Now.ann [.pointer x0] [.sc .slice] Q = ref05_Disk_Now.F x0 Q := by kernel_rfl
theorem ref05_Disk_Now.ok (x0 : Option Addr) (Q : Sl → PP) (h : Heap) (hh : ref05_Disk_Now.F x0 Q h) : ref05_Disk_Now.C x0 Q h :=
  call_of_den callOK mixed Tryz.func86 (by kernel_rfl) (by rw [ref05_Disk_Now.eq]; exact hh)
def ref05_Disk_find.F (x0 : Option Addr) (x1 : Bytes) (Q : Int → PP) : PP :=
  ref05_Disk_Now.C x0 fun (l1 : Sl) =>
  loopT [.int .i64, .int .i64] (fun (K2 : Int → Int → PP) (n3 : Int) (n4 : Int) =>
    ifB (decide (n4 < (l1.len : Int))) (
      idxP 2 l1.p l1.len n4 fun (a5 : Addr) =>
      ld (.str) (a5.add 0) fun (s6 : Bytes) =>
      ifB (s6 == x1) (
        idxP 2 l1.p l1.len n4 fun (a7 : Addr) =>
        ld (.int .i64) (a7.add 1) fun (n8 : Int) =>
        Q n8) (
        K2 n3 (IntKind.wrap .i64 (n4 + (1 : Int))))) (
      Q (-1 : Int))) (0 : Int) (0 : Int)
def ref05_Disk_find.ann : Ann := .seq (.leaf) (.seq (.leaf) (.seq (.seq (.leaf) (.block (.loop [(4, .sc (.int .i64)), (6, .sc (.int .i64))] (.seq (.seq (.leaf) (.cond (.leaf) (.leaf))) (.seq (.block (.seq (.leaf) (.cond (.seq (.leaf) (.leaf)) (.leaf)))) (.leaf)))))) (.seq (.leaf) (.leaf))))
theorem ref05_Disk_find.eq (x0 : Option Addr) (x1 : Bytes) (Q : Int → PP) : denF Tryz.prog Tryz.f163 ref05_Disk_find.ann [.pointer x0, .string (bs x1)] [.sc (.int .i64)] Q = ref05_Disk_find.F x0 x1 Q := by kernel_rfl
theorem ref05_Disk_find.ok (x0 : Option Addr) (x1 : Bytes) (Q : Int → PP) (h : Heap) (hh : ref05_Disk_find.F x0 x1 Q h) : ref05_Disk_find.C x0 x1 Q h :=
  call_of_den callOK mixed Tryz.func163 (by kernel_rfl) (by rw [ref05_Disk_find.eq]; exact hh)
def ref05_Disk_goes.F (x0 : Option Addr) (Q : Bool → PP) : PP :=
  joinT [] (fun (M1 : PP) =>
    nilP x0 fun (a2 : Addr) =>
    ld (.int .i64) (a2.add 4) fun (n3 : Int) =>
    ifB (n3 == (1 : Int)) (
      nilP x0 fun (a4 : Addr) =>
      stP (.bool) (a4.add 3) true (
        M1)) (
      M1))
  (
    joinT [] (fun (M5 : PP) =>
      nilP x0 fun (a6 : Addr) =>
      ld (.int .i64) (a6.add 4) fun (n7 : Int) =>
      ifB (decide (n7 > (0 : Int))) (
        nilP x0 fun (a8 : Addr) =>
        ld (.int .i64) (a8.add 4) fun (n9 : Int) =>
        nilP x0 fun (a10 : Addr) =>
        stP (.int .i64) (a10.add 4) (IntKind.wrap .i64 (n9 - (1 : Int))) (
          M5)) (
        M5))
    (
      nilP x0 fun (a11 : Addr) =>
      ld (.bool) (a11.add 3) fun (b12 : Bool) =>
      Q (!b12)))
def ref05_Disk_goes.ann : Ann := .seq (.leaf) (.join [] (.seq (.leaf) (.cond (.leaf) (.leaf))) (.join [] (.seq (.leaf) (.cond (.leaf) (.leaf))) (.seq (.leaf) (.leaf))))
theorem ref05_Disk_goes.eq (x0 : Option Addr) (Q : Bool → PP) : denF Tryz.prog Tryz.f220 ref05_Disk_goes.ann [.pointer x0] [.sc .bool] Q = ref05_Disk_goes.F x0 Q := by kernel_rfl
theorem ref05_Disk_goes.ok (x0 : Option Addr) (Q : Bool → PP) (h : Heap) (hh : ref05_Disk_goes.F x0 Q h) : ref05_Disk_goes.C x0 Q h :=
  call_of_den callOK mixed Tryz.func220 (by kernel_rfl) (by rw [ref05_Disk_goes.eq]; exact hh)
def ref05_with.F (x0 : Sl) (x1_0 : Bytes) (x1_1 : Int) (Q : Sl → PP) : PP :=
  newP 155 [.string (bs x1_0), .int .i64 x1_1] fun (a1 : Addr) =>
  loopT [.slice, .bool, .int .i64] (fun (K2 : Sl → Bool → Int → PP) (l3 : Sl) (b4 : Bool) (n5 : Int) =>
    ifB (decide (n5 < (x0.len : Int))) (
      joinT [.slice, .bool] (fun (M6 : Sl → Bool → PP) =>
        joinT [.bool] (fun (M7 : Bool → PP) =>
          drawT fun (S8 : PP) =>
          ifB (!b4) (
            ldG S8 (.str) (a1.add 0) fun (s9 : Bytes) =>
            idxP 2 x0.p x0.len n5 fun (a10 : Addr) =>
            ldG S8 (.str) (a10.add 0) fun (s11 : Bytes) =>
            M7 (Op.bytesLess s9 s11)) (
            M7 false))
        (fun (b12 : Bool) =>
          ifB b12 (
            lds [.str, .int .i64] a1 fun (s13 : Bytes) (n14 : Int) =>
            newP 155 [.string (bs s13), .int .i64 n14] fun (a15 : Addr) =>
            appP 155 2 24 #[.string (bs ([] : Bytes)), .int .i64 (0 : Int)] l3.p l3.len l3.cap (.slice (some a15) 1 1) fun (p16 : Option Addr) (k17 c18 : Nat) =>
            M6 (⟨p16, k17, c18⟩ : Sl) true) (
            M6 l3 b4)))
      (fun (l19 : Sl) (b20 : Bool) =>
        idxP 2 x0.p x0.len n5 fun (a21 : Addr) =>
        lds [.str, .int .i64] a21 fun (s22 : Bytes) (n23 : Int) =>
        newP 155 [.string (bs s22), .int .i64 n23] fun (a24 : Addr) =>
        appP 155 2 24 #[.string (bs ([] : Bytes)), .int .i64 (0 : Int)] l19.p l19.len l19.cap (.slice (some a24) 1 1) fun (p25 : Option Addr) (k26 c27 : Nat) =>
        K2 (⟨p25, k26, c27⟩ : Sl) b20 (IntKind.wrap .i64 (n5 + (1 : Int))))) (
      ifB (!b4) (
        lds [.str, .int .i64] a1 fun (s28 : Bytes) (n29 : Int) =>
        newP 155 [.string (bs s28), .int .i64 n29] fun (a30 : Addr) =>
        appP 155 2 24 #[.string (bs ([] : Bytes)), .int .i64 (0 : Int)] l3.p l3.len l3.cap (.slice (some a30) 1 1) fun (p31 : Option Addr) (k32 c33 : Nat) =>
        Q (⟨p31, k32, c33⟩ : Sl)) (
        Q l3))) (⟨(none : Option Addr), 0, 0⟩ : Sl) false (0 : Int)
def ref05_with.ann : Ann := .seq (.leaf) (.seq (.leaf) (.seq (.leaf) (.seq (.seq (.leaf) (.block (.loop [(5, .sc .slice), (6, .sc .bool), (7, .sc (.int .i64))] (.seq (.seq (.leaf) (.cond (.leaf) (.leaf))) (.seq (.block (.join [(5, .sc .slice), (6, .sc .bool)] (.join [(25, .sc .bool)] (.draw [5, 6, 7, 8, 9, 11] (.take 0 (.take 1 (.take 2 (.take 3 (.take 4 (.take 5 (.take 6 (.take 7 (.take 8 (.take 9 (.take 10 (.take 11 (.done)))))))))))))) (.cond (.seq (.leaf) (.leaf)) (.leaf))) (.leaf))) (.leaf)))))) (.seq (.seq (.leaf) (.cond (.leaf) (.leaf))) (.seq (.leaf) (.leaf))))))
theorem ref05_with.eq (x0 : Sl) (x1_0 : Bytes) (x1_1 : Int) (Q : Sl → PP) : denF Tryz.prog Tryz.f221 ref05_with.ann [.slice x0.p x0.len x0.cap, .agg #[.string (bs x1_0), .int .i64 x1_1]] [.sc .slice] Q = ref05_with.F x0 x1_0 x1_1 Q := by kernel_rfl
theorem ref05_with.ok (x0 : Sl) (x1_0 : Bytes) (x1_1 : Int) (Q : Sl → PP) (h : Heap) (hh : ref05_with.F x0 x1_0 x1_1 Q h) : ref05_with.C x0 x1_0 x1_1 Q h :=
  call_of_den callOK mixed Tryz.func221 (by kernel_rfl) (by rw [ref05_with.eq]; exact hh)
end Go.Proofs.W
end
section
set_option maxRecDepth 100000
set_option linter.unusedVariables false
namespace Go.Proofs.W
open Go Go.Shal
def ref05_Disk_Create.F (x0 : Option Addr) (x1 : Bytes) (Q : Int → PP) : PP :=
  nilP x0 fun (a1 : Addr) =>
  ld (.bool) (a1.add 3) fun (b2 : Bool) =>
  ifB b2 (
    Q (7 : Int)) (
    ref05_Right.C x1 fun (b3 : Bool) =>
    ifB (!b3) (
      Q (1 : Int)) (
      ref05_Disk_find.C x0 x1 fun (n4 : Int) =>
      ifB (decide (n4 ≥ (0 : Int))) (
        Q (5 : Int)) (
        ref05_Disk_goes.C x0 fun (b5 : Bool) =>
        ifB (!b5) (
          Q (7 : Int)) (
          nilP x0 fun (a6 : Addr) =>
          ld (.slice) (a6.add 1) fun (l7 : Sl) =>
          newP 226 [.string (bs ([] : Bytes)), .int .i64 (0 : Int)] fun (a8 : Addr) =>
          appP 226 2 24 #[.string (bs ([] : Bytes)), .int .i64 (0 : Int)] l7.p l7.len l7.cap (.slice (some a8) 1 1) fun (p9 : Option Addr) (k10 c11 : Nat) =>
          nilP x0 fun (a12 : Addr) =>
          stP (.slice) (a12.add 1) (⟨p9, k10, c11⟩ : Sl) (
            drawT fun (S13 : PP) =>
            nilP x0 fun (a14 : Addr) =>
            ldG S13 (.slice) (a14.add 2) fun (l15 : Sl) =>
            nilP x0 fun (a16 : Addr) =>
            ldG S13 (.slice) (a16.add 1) fun (l17 : Sl) =>
            andP (
              ref05_Disk_Now.C x0 fun (l18 : Sl) =>
              withS S13 (
                withS S13 (
                  ref05_with.C l18 x1 (IntKind.wrap .i64 ((l17.len : Int) - (1 : Int))) fun (l19 : Sl) =>
                  withS S13 (
                    newP 152 [.slice l19.p l19.len l19.cap] fun (a20 : Addr) =>
                    withS S13 (
                      appP 152 1 24 #[.slice (none : Option Addr) 0 0] l15.p l15.len l15.cap (.slice (some a20) 1 1) fun (p21 : Option Addr) (k22 c23 : Nat) =>
                      withS S13 (
                        nilP x0 fun (a24 : Addr) =>
                        stP (.slice) (a24.add 2) (⟨p21, k22, c23⟩ : Sl) (
                        Q (0 : Int)))))))) (
              withS S13 (
                ref05_Disk_Now.C x0 fun (l25 : Sl) =>
                withS S13 (
                  ref05_with.C l25 x1 (IntKind.wrap .i64 ((l17.len : Int) - (1 : Int))) fun (l26 : Sl) =>
                  withS S13 (
                    newP 152 [.slice l26.p l26.len l26.cap] fun (a27 : Addr) =>
                    withS S13 (
                      appP 152 1 24 #[.slice (none : Option Addr) 0 0] l15.p l15.len l15.cap (.slice (some a27) 1 1) fun (p28 : Option Addr) (k29 c30 : Nat) =>
                      withS S13 (
                        nilP x0 fun (a31 : Addr) =>
                        stP (.slice) (a31.add 2) (⟨p28, k29, c30⟩ : Sl) (
                        Q (0 : Int)))))))))))))
def ref05_Disk_Create.ann : Ann := .seq (.leaf) (.seq (.seq (.leaf) (.cond (.seq (.leaf) (.leaf)) (.leaf))) (.seq (.seq (.leaf) (.cond (.seq (.leaf) (.leaf)) (.leaf))) (.seq (.seq (.leaf) (.cond (.seq (.leaf) (.leaf)) (.leaf))) (.seq (.seq (.leaf) (.cond (.seq (.leaf) (.leaf)) (.leaf))) (.seq (.leaf) (.seq (.draw [5, 6, 7, 8, 9, 10, 11, 12, 13, 14, 15, 16, 17] (.take 0 (.take 1 (.take 2 (.take 3 (.take 4 (.take 5 (.take 7 (.take 8 (.take 9 (.take 10 (.take 11 (.take 12 (.take 13 (.alt 6 (.alt 14 (.alt 15 (.alt 16 (.alt 17 (.take 18 (.take 19 (.alt 20 (.done) (.none)))) (.none)) (.none)) (.none)) (.none)) (.alt 14 (.alt 6 (.alt 15 (.alt 16 (.alt 17 (.take 18 (.take 19 (.alt 20 (.done) (.none)))) (.none)) (.none)) (.none)) (.none)) (.none))))))))))))))))) (.seq (.leaf) (.leaf))))))))
theorem ref05_Disk_Create.eq (x0 : Option Addr) (x1 : Bytes) (Q : Int → PP) : denF Tryz.prog Tryz.f151 ref05_Disk_Create.ann [.pointer x0, .string (bs x1)] [.sc (.int .i64)] Q = ref05_Disk_Create.F x0 x1 Q := by kernel_rfl
theorem ref05_Disk_Create.ok (x0 : Option Addr) (x1 : Bytes) (Q : Int → PP) (h : Heap) (hh : ref05_Disk_Create.F x0 x1 Q h) : ref05_Disk_Create.C x0 x1 Q h :=
  call_of_den callOK mixed Tryz.func151 (by kernel_rfl) (by rw [ref05_Disk_Create.eq]; exact hh)
def ref05_Disk_DirSync.F (x0 : Option Addr) (Q : Int → PP) : PP :=
  joinT [.bool] (fun (M1 : Bool → PP) =>
    nilP x0 fun (a2 : Addr) =>
    ld (.bool) (a2.add 3) fun (b3 : Bool) =>
    ifB b3 (
      M1 true) (
      ref05_Disk_goes.C x0 fun (b4 : Bool) =>
      M1 (!b4)))
  (fun (b5 : Bool) =>
    ifB b5 (
      Q (7 : Int)) (
      ref05_Disk_Now.C x0 fun (l6 : Sl) =>
      newP 152 [.slice l6.p l6.len l6.cap] fun (a7 : Addr) =>
      nilP x0 fun (a8 : Addr) =>
      stP (.slice) (a8.add 2) (⟨some a7, 1, 1⟩ : Sl) (
        Q (0 : Int))))
def ref05_Disk_DirSync.ann : Ann := .seq (.leaf) (.seq (.join [(11, .sc .bool)] (.leaf) (.cond (.seq (.leaf) (.leaf)) (.leaf))) (.seq (.leaf) (.seq (.leaf) (.leaf))))
theorem ref05_Disk_DirSync.eq (x0 : Option Addr) (Q : Int → PP) : denF Tryz.prog Tryz.f153 ref05_Disk_DirSync.ann [.pointer x0] [.sc (.int .i64)] Q = ref05_Disk_DirSync.F x0 Q := by kernel_rfl
theorem ref05_Disk_DirSync.ok (x0 : Option Addr) (Q : Int → PP) (h : Heap) (hh : ref05_Disk_DirSync.F x0 Q h) : ref05_Disk_DirSync.C x0 Q h :=
  call_of_den callOK mixed Tryz.func153 (by kernel_rfl) (by rw [ref05_Disk_DirSync.eq]; exact hh)
def ref07_Begin.F (x0 : Option Addr) (x1 : Int) (Q : Int → PP) : PP :=
  ref05_Name.C ([108, 111, 103] : Bytes) x1 fun (s1 : Bytes) =>
  ref05_Disk_Create.C x0 s1 fun (n2 : Int) =>
  ifB (n2 == (0 : Int)) (
    ref05_Disk_DirSync.C x0 fun (n3 : Int) =>
    Q n3) (
    Q n2)
def ref07_Begin.ann : Ann := .seq (.leaf) (.seq (.leaf) (.seq (.seq (.leaf) (.cond (.leaf) (.leaf))) (.seq (.leaf) (.leaf))))
theorem ref07_Begin.eq (x0 : Option Addr) (x1 : Int) (Q : Int → PP) : denF Tryz.prog Tryz.f78 ref07_Begin.ann [.pointer x0, .int .u64 x1] [.sc (.int .i64)] Q = ref07_Begin.F x0 x1 Q := by kernel_rfl
theorem ref07_Begin.ok (x0 : Option Addr) (x1 : Int) (Q : Int → PP) (h : Heap) (hh : ref07_Begin.F x0 x1 Q h) : ref07_Begin.C x0 x1 Q h :=
  call_of_den callOK mixed Tryz.func78 (by kernel_rfl) (by rw [ref07_Begin.eq]; exact hh)
def law06_Given.F (x0_0 : Int) (x0_1 : Sl) (Q : Int → Sl → PP) : PP :=
  newP 38 [.int .u64 x0_0, .slice x0_1.p x0_1.len x0_1.cap] fun (a1 : Addr) =>
  newP 144 [.int .u64 (0 : Int), .slice (none : Option Addr) 0 0] fun (a2 : Addr) =>
  ld (.int .u64) (a1.add 0) fun (n3 : Int) =>
  ld (.slice) (a1.add 1) fun (l4 : Sl) =>
  stsP a2 [.int .u64, .slice] (n3, l4, ()) 0 (
    lds [.int .u64, .slice] a2 fun (n5 : Int) (l6 : Sl) =>
    Q n5 l6)
def law06_Given.ann : Ann := .seq (.leaf) (.seq (.leaf) (.leaf))
theorem law06_Given.eq (x0_0 : Int) (x0_1 : Sl) (Q : Int → Sl → PP) : denF Tryz.prog Tryz.f80 law06_Given.ann [.agg #[.int .u64 x0_0, .slice x0_1.p x0_1.len x0_1.cap]] [.agg [.int .u64, .slice]] Q = law06_Given.F x0_0 x0_1 Q := by kernel_rfl
theorem law06_Given.ok (x0_0 : Int) (x0_1 : Sl) (Q : Int → Sl → PP) (h : Heap) (hh : law06_Given.F x0_0 x0_1 Q h) : law06_Given.C x0_0 x0_1 Q h :=
  call_of_den callOK mixed Tryz.func80 (by kernel_rfl) (by rw [law06_Given.eq]; exact hh)
def ref06_Check.F (x0_0 : Int) (x0_1 : Sl) (Q : Int → PP) : PP :=
  newP 144 [.int .u64 x0_0, .slice x0_1.p x0_1.len x0_1.cap] fun (a1 : Addr) =>
  ld (.slice) (a1.add 1) fun (l2 : Sl) =>
  ifB (decide ((l2.len : Int) > (16 : Int))) (
    Q (3 : Int)) (
    loopT [.int .i64, .int .i64] (fun (K3 : Int → Int → PP) (n4 : Int) (n5 : Int) =>
      ld (.slice) (a1.add 1) fun (l6 : Sl) =>
      ifB (decide (n5 < (l6.len : Int))) (
        joinT [.bool] (fun (M7 : Bool → PP) =>
          ld (.slice) (a1.add 1) fun (l8 : Sl) =>
          idxP 3 l8.p l8.len n5 fun (a9 : Addr) =>
          ld (.str) (a9.add 0) fun (s10 : Bytes) =>
          ifB (decide ((s10.length : Int) > (64 : Int))) (
            M7 true) (
            ld (.slice) (a1.add 1) fun (l11 : Sl) =>
            idxP 3 l11.p l11.len n5 fun (a12 : Addr) =>
            ld (.str) (a12.add 1) fun (s13 : Bytes) =>
            M7 (decide ((s13.length : Int) > (512 : Int)))))
        (fun (b14 : Bool) =>
          ifB b14 (
            Q (3 : Int)) (
            K3 n4 (IntKind.wrap .i64 (n5 + (1 : Int)))))) (
        joinT [.bool] (fun (M15 : Bool → PP) =>
          ld (.slice) (a1.add 1) fun (l16 : Sl) =>
          ifB ((l16.len : Int) == (0 : Int)) (
            M15 true) (
            ld (.int .u64) (a1.add 0) fun (n17 : Int) =>
            ifB (decide (n17 < (1 : Int))) (
              M15 true) (
              ld (.int .u64) (a1.add 0) fun (n18 : Int) =>
              ifB (decide (n18 > (9223372036854775808 : Int))) (
                M15 true) (
                ld (.int .u64) (a1.add 0) fun (n19 : Int) =>
                ld (.slice) (a1.add 1) fun (l20 : Sl) =>
                M15 (decide ((IntKind.wrap .u64 (n19 + (IntKind.wrap .u64 (l20.len : Int)))) > (9223372036854775809 : Int)))))))
        (fun (b21 : Bool) =>
          ifB b21 (
            Q (1 : Int)) (
            loopT [.int .i64, .int .i64] (fun (K22 : Int → Int → PP) (n23 : Int) (n24 : Int) =>
              ld (.slice) (a1.add 1) fun (l25 : Sl) =>
              ifB (decide (n24 < (l25.len : Int))) (
                joinT [.bool] (fun (M26 : Bool → PP) =>
                  ld (.slice) (a1.add 1) fun (l27 : Sl) =>
                  idxP 3 l27.p l27.len n24 fun (a28 : Addr) =>
                  ld (.str) (a28.add 0) fun (s29 : Bytes) =>
                  ifB ((s29.length : Int) == (0 : Int)) (
                    M26 true) (
                    ld (.slice) (a1.add 1) fun (l30 : Sl) =>
                    idxP 3 l30.p l30.len n24 fun (a31 : Addr) =>
                    ld (.bool) (a31.add 2) fun (b32 : Bool) =>
                    ifB b32 (
                      ld (.slice) (a1.add 1) fun (l33 : Sl) =>
                      idxP 3 l33.p l33.len n24 fun (a34 : Addr) =>
                      ld (.str) (a34.add 1) fun (s35 : Bytes) =>
                      M26 (decide ((s35.length : Int) > (0 : Int)))) (
                      M26 false)))
                (fun (b36 : Bool) =>
                  ifB b36 (
                    Q (1 : Int)) (
                    K22 n23 (IntKind.wrap .i64 (n24 + (1 : Int)))))) (
                Q (0 : Int))) n4 (0 : Int))))) (0 : Int) (0 : Int))
def ref06_Check.ann : Ann := .seq (.leaf) (.seq (.seq (.leaf) (.cond (.seq (.leaf) (.leaf)) (.leaf))) (.seq (.seq (.leaf) (.block (.loop [(2, .sc (.int .i64)), (3, .sc (.int .i64))] (.seq (.seq (.leaf) (.cond (.leaf) (.leaf))) (.seq (.block (.join [(33, .sc .bool)] (.leaf) (.cond (.seq (.leaf) (.leaf)) (.leaf)))) (.leaf)))))) (.seq (.join [(57, .sc .bool)] (.leaf) (.cond (.seq (.leaf) (.leaf)) (.leaf))) (.seq (.seq (.leaf) (.block (.loop [(2, .sc (.int .i64)), (4, .sc (.int .i64))] (.seq (.seq (.leaf) (.cond (.leaf) (.leaf))) (.seq (.block (.join [(90, .sc .bool)] (.leaf) (.cond (.seq (.leaf) (.leaf)) (.leaf)))) (.leaf)))))) (.seq (.leaf) (.leaf))))))
theorem ref06_Check.eq (x0_0 : Int) (x0_1 : Sl) (Q : Int → PP) : denF Tryz.prog Tryz.f222 ref06_Check.ann [.agg #[.int .u64 x0_0, .slice x0_1.p x0_1.len x0_1.cap]] [.sc (.int .i64)] Q = ref06_Check.F x0_0 x0_1 Q := by kernel_rfl
theorem ref06_Check.ok (x0_0 : Int) (x0_1 : Sl) (Q : Int → PP) (h : Heap) (hh : ref06_Check.F x0_0 x0_1 Q h) : ref06_Check.C x0_0 x0_1 Q h :=
  call_of_den callOK mixed Tryz.func222 (by kernel_rfl) (by rw [ref06_Check.eq]; exact hh)
def ref01_bytesOf.F (x0 : Int) (Q : Bytes → PP) : PP :=
  loopT [.str, .int .u64] (fun (K1 : Bytes → Int → PP) (s2 : Bytes) (n3 : Int) =>
    ifB (decide (n3 > (0 : Int))) (
      guardP ((256 : Int) ≠ 0) (newP 5 [.int .u8 (IntKind.wrap .u8 (Int.tmod n3 (256 : Int)))] fun (a4 : Addr) =>
        bytesP (some a4) 1 fun (s5 : Bytes) =>
        guardP (s5.length + s2.length ≤ 9223372036854775807) (guardP ((256 : Int) ≠ 0) (K1 (s5 ++ s2) (IntKind.wrap .u64 (Int.tdiv n3 (256 : Int))))))) (
      Q s2)) ([] : Bytes) x0
def ref01_bytesOf.ann : Ann := .seq (.leaf) (.seq (.leaf) (.seq (.block (.loop [(3, .sc .str), (0, .sc (.int .u64))] (.seq (.seq (.leaf) (.cond (.leaf) (.leaf))) (.block (.seq (.leaf) (.leaf)))))) (.seq (.leaf) (.leaf))))
theorem ref01_bytesOf.eq (x0 : Int) (Q : Bytes → PP) : denF Tryz.prog Tryz.f307 ref01_bytesOf.ann [.int .u64 x0] [.sc .str] Q = ref01_bytesOf.F x0 Q := by kernel_rfl
theorem ref01_bytesOf.ok (x0 : Int) (Q : Bytes → PP) (h : Heap) (hh : ref01_bytesOf.F x0 Q h) : ref01_bytesOf.C x0 Q h :=
  call_of_den callOK mixed Tryz.func307 (by kernel_rfl) (by rw [ref01_bytesOf.eq]; exact hh)
def ref01_Row.F (x0 : Int) (Q : Bytes → PP) : PP :=
  ifB (decide (x0 < (248 : Int))) (
    newP 5 [.int .u8 (IntKind.wrap .u8 x0)] fun (a1 : Addr) =>
    bytesP (some a1) 1 fun (s2 : Bytes) =>
    Q s2) (
    ref01_bytesOf.C x0 fun (s3 : Bytes) =>
    newP 5 [.int .u8 (IntKind.wrap .u8 (IntKind.wrap .i64 ((247 : Int) + (s3.length : Int))))] fun (a4 : Addr) =>
    bytesP (some a4) 1 fun (s5 : Bytes) =>
    guardP (s5.length + s3.length ≤ 9223372036854775807) (Q (s5 ++ s3)))
def ref01_Row.ann : Ann := .seq (.leaf) (.seq (.seq (.leaf) (.cond (.seq (.leaf) (.leaf)) (.leaf))) (.seq (.leaf) (.seq (.leaf) (.leaf))))
theorem ref01_Row.eq (x0 : Int) (Q : Bytes → PP) : denF Tryz.prog Tryz.f223 ref01_Row.ann [.int .u64 x0] [.sc .str] Q = ref01_Row.F x0 Q := by kernel_rfl
theorem ref01_Row.ok (x0 : Int) (Q : Bytes → PP) (h : Heap) (hh : ref01_Row.F x0 Q h) : ref01_Row.C x0 Q h :=
  call_of_den callOK mixed Tryz.func223 (by kernel_rfl) (by rw [ref01_Row.eq]; exact hh)
def ref01_Text.F (x0 : Sl) (Q : Bytes → PP) : PP :=
  loopT [.str, .int .i64] (fun (K1 : Bytes → Int → PP) (s2 : Bytes) (n3 : Int) =>
    ifB (decide (n3 < (x0.len : Int))) (
      drawT fun (S4 : PP) =>
      idxP 1 x0.p x0.len n3 fun (a5 : Addr) =>
      ldG S4 (.str) a5 fun (s6 : Bytes) =>
      idxP 1 x0.p x0.len n3 fun (a7 : Addr) =>
      ldG S4 (.str) a7 fun (s8 : Bytes) =>
      ref01_Row.C (IntKind.wrap .u64 (s6.length : Int)) fun (s9 : Bytes) =>
      withS S4 (
        guardP (s2.length + s9.length ≤ 9223372036854775807) (guardP ((s2 ++ s9).length + s8.length ≤ 9223372036854775807) (K1 ((s2 ++ s9) ++ s8) (IntKind.wrap .i64 (n3 + (1 : Int))))))) (
      Q s2)) ([] : Bytes) (0 : Int)
def ref01_Text.ann : Ann := .seq (.leaf) (.seq (.leaf) (.seq (.seq (.leaf) (.block (.loop [(3, .sc .str), (4, .sc (.int .i64))] (.seq (.seq (.leaf) (.cond (.leaf) (.leaf))) (.seq (.block (.draw [6, 7, 8, 9, 10, 11, 12, 13] (.take 0 (.take 1 (.take 2 (.take 3 (.take 4 (.take 5 (.take 6 (.take 9 (.take 10 (.take 11 (.take 12 (.alt 7 (.take 8 (.take 13 (.take 14 (.done)))) (.none))))))))))))))) (.leaf)))))) (.seq (.leaf) (.leaf))))
theorem ref01_Text.eq (x0 : Sl) (Q : Bytes → PP) : denF Tryz.prog Tryz.f224 ref01_Text.ann [.slice x0.p x0.len x0.cap] [.sc .str] Q = ref01_Text.F x0 Q := by kernel_rfl
theorem ref01_Text.ok (x0 : Sl) (Q : Bytes → PP) (h : Heap) (hh : ref01_Text.F x0 Q h) : ref01_Text.C x0 Q h :=
  call_of_den callOK mixed Tryz.func224 (by kernel_rfl) (by rw [ref01_Text.eq]; exact hh)
def ref06_Encode.F (x0_0 : Int) (x0_1 : Sl) (Q : Bytes → Int → PP) : PP :=
  newP 144 [.int .u64 x0_0, .slice x0_1.p x0_1.len x0_1.cap] fun (a1 : Addr) =>
  lds [.int .u64, .slice] a1 fun (n2 : Int) (l3 : Sl) =>
  ref06_Check.C n2 l3 fun (n4 : Int) =>
  ifB (n4 != (0 : Int)) (
    Q ([] : Bytes) n4) (
    drawT fun (S5 : PP) =>
    ldG S5 (.int .u64) (a1.add 0) fun (n6 : Int) =>
    ldG S5 (.slice) (a1.add 1) fun (l7 : Sl) =>
    ref01_Row.C n6 fun (s8 : Bytes) =>
    withS S5 (
      ref01_Row.C (IntKind.wrap .u64 (l7.len : Int)) fun (s9 : Bytes) =>
      withS S5 (
        guardP (s8.length + s9.length ≤ 9223372036854775807) (loopT [.str, .int .i64] (fun (K10 : Bytes → Int → PP) (s11 : Bytes) (n12 : Int) =>
            ld (.slice) (a1.add 1) fun (l13 : Sl) =>
            ifB (decide (n12 < (l13.len : Int))) (
              joinT [.str] (fun (M14 : Bytes → PP) =>
                ld (.slice) (a1.add 1) fun (l15 : Sl) =>
                idxP 3 l15.p l15.len n12 fun (a16 : Addr) =>
                lds [.str, .str, .bool] a16 fun (s17 : Bytes) (s18 : Bytes) (b19 : Bool) =>
                newP 124 [.string (bs ([] : Bytes)), .string (bs ([] : Bytes)), .bool false] fun (a20 : Addr) =>
                stsP a20 [.str, .str, .bool] (s17, s18, b19, ()) 0 (
                  ld (.bool) (a20.add 2) fun (b21 : Bool) =>
                  ifB b21 (
                    guardP (s11.length + ([1] : Bytes).length ≤ 9223372036854775807) (ld (.str) (a20.add 0) fun (s22 : Bytes) =>
                      newP 9 [.string (bs s22)] fun (a23 : Addr) =>
                      ref01_Text.C (⟨some a23, 1, 1⟩ : Sl) fun (s24 : Bytes) =>
                      guardP ((s11 ++ ([1] : Bytes)).length + s24.length ≤ 9223372036854775807) (M14 ((s11 ++ ([1] : Bytes)) ++ s24)))) (
                    guardP (s11.length + ([0] : Bytes).length ≤ 9223372036854775807) (ld (.str) (a20.add 0) fun (s25 : Bytes) =>
                      ld (.str) (a20.add 1) fun (s26 : Bytes) =>
                      newP 9 [.string (bs s25), .string (bs s26)] fun (a27 : Addr) =>
                      ref01_Text.C (⟨some a27, 2, 2⟩ : Sl) fun (s28 : Bytes) =>
                      guardP ((s11 ++ ([0] : Bytes)).length + s28.length ≤ 9223372036854775807) (M14 ((s11 ++ ([0] : Bytes)) ++ s28))))))
              (fun (s29 : Bytes) =>
                K10 s29 (IntKind.wrap .i64 (n12 + (1 : Int))))) (
              Q s11 (0 : Int))) (s8 ++ s9) (0 : Int)))))
def ref06_Encode.ann : Ann := .seq (.leaf) (.seq (.leaf) (.seq (.seq (.leaf) (.cond (.seq (.leaf) (.leaf)) (.leaf))) (.seq (.draw [2, 3, 4, 5, 6, 7, 8] (.take 0 (.take 1 (.take 3 (.take 4 (.take 5 (.take 6 (.alt 2 (.alt 7 (.take 8 (.take 9 (.done))) (.none)) (.none))))))))) (.seq (.seq (.leaf) (.block (.loop [(5, .sc .str), (6, .sc (.int .i64))] (.seq (.seq (.leaf) (.cond (.leaf) (.leaf))) (.join [(5, .sc .str)] (.block (.seq (.leaf) (.seq (.leaf) (.cond (.leaf) (.leaf))))) (.leaf)))))) (.seq (.leaf) (.leaf))))))
theorem ref06_Encode.eq (x0_0 : Int) (x0_1 : Sl) (Q : Bytes → Int → PP) : denF Tryz.prog Tryz.f154 ref06_Encode.ann [.agg #[.int .u64 x0_0, .slice x0_1.p x0_1.len x0_1.cap]] [.sc .str, .sc (.int .i64)] Q = ref06_Encode.F x0_0 x0_1 Q := by kernel_rfl
theorem ref06_Encode.ok (x0_0 : Int) (x0_1 : Sl) (Q : Bytes → Int → PP) (h : Heap) (hh : ref06_Encode.F x0_0 x0_1 Q h) : ref06_Encode.C x0_0 x0_1 Q h :=
  call_of_den callOK mixed Tryz.func154 (by kernel_rfl) (by rw [ref06_Encode.eq]; exact hh)
def ref03_May.F (x0_0 : Bool) (x0_1 : Bool) (x0_2 : Int) (x0_3 : Bytes) (Q : Bool → PP) : PP :=
  newP 297 [.bool x0_0, .bool x0_1, .int .i64 x0_2, .string (bs x0_3)] fun (a1 : Addr) =>
  joinT [.bool] (fun (M2 : Bool → PP) =>
    ld (.int .i64) (a1.add 2) fun (n3 : Int) =>
    ifB (decide (n3 < (0 : Int))) (
      M2 true) (
      ld (.int .i64) (a1.add 2) fun (n4 : Int) =>
      ifB (decide (n4 > (65535 : Int))) (
        M2 true) (
        ld (.bool) (a1.add 0) fun (b5 : Bool) =>
        ifB b5 (
          ld (.int .i64) (a1.add 2) fun (n6 : Int) =>
          ifB (n6 != (0 : Int)) (
            M2 true) (
            ld (.bool) (a1.add 0) fun (b7 : Bool) =>
            ifB (!b7) (
              ld (.int .i64) (a1.add 2) fun (n8 : Int) =>
              M2 (n8 == (0 : Int))) (
              M2 false))) (
          ld (.bool) (a1.add 0) fun (b9 : Bool) =>
          ifB (!b9) (
            ld (.int .i64) (a1.add 2) fun (n10 : Int) =>
            M2 (n10 == (0 : Int))) (
            M2 false)))))
  (fun (b11 : Bool) =>
    ifB b11 (
      Q false) (
      joinT [.bool] (fun (M12 : Bool → PP) =>
        ld (.str) (a1.add 3) fun (s13 : Bytes) =>
        ifB (decide ((s13.length : Int) > (24 : Int))) (
          M12 true) (
          ld (.str) (a1.add 3) fun (s14 : Bytes) =>
          ifB (decide ((s14.length : Int) < (24 : Int))) (
            ld (.bool) (a1.add 1) fun (b15 : Bool) =>
            M12 (!b15)) (
            M12 false)))
      (fun (b16 : Bool) =>
        ifB b16 (
          Q false) (
          ld (.str) (a1.add 3) fun (s17 : Bytes) =>
          ifB (decide ((s17.length : Int) > (0 : Int))) (
            Q true) (
            ld (.bool) (a1.add 0) fun (b18 : Bool) =>
            ifB b18 (
              ld (.bool) (a1.add 1) fun (b19 : Bool) =>
              Q b19) (
              Q false))))))
def ref03_May.ann : Ann := .seq (.leaf) (.seq (.join [(29, .sc .bool)] (.leaf) (.cond (.seq (.leaf) (.leaf)) (.leaf))) (.seq (.join [(44, .sc .bool)] (.leaf) (.cond (.seq (.leaf) (.leaf)) (.leaf))) (.seq (.leaf) (.leaf))))
theorem ref03_May.eq (x0_0 : Bool) (x0_1 : Bool) (x0_2 : Int) (x0_3 : Bytes) (Q : Bool → PP) : denF Tryz.prog Tryz.f308 ref03_May.ann [.agg #[.bool x0_0, .bool x0_1, .int .i64 x0_2, .string (bs x0_3)]] [.sc .bool] Q = ref03_May.F x0_0 x0_1 x0_2 x0_3 Q := by kernel_rfl
theorem ref03_May.ok (x0_0 : Bool) (x0_1 : Bool) (x0_2 : Int) (x0_3 : Bytes) (Q : Bool → PP) (h : Heap) (hh : ref03_May.F x0_0 x0_1 x0_2 x0_3 Q h) : ref03_May.C x0_0 x0_1 x0_2 x0_3 Q h :=
  call_of_den callOK mixed Tryz.func308 (by kernel_rfl) (by rw [ref03_May.eq]; exact hh)
def ref03_Crc.F (x0 : Bytes) (Q : Int → PP) : PP :=
  loopT [.int .u32, .int .i64] (fun (K1 : Int → Int → PP) (n2 : Int) (n3 : Int) =>
    ifB (decide (n3 < (x0.length : Int))) (
      loopT [.int .u32, .int .i64] (fun (K4 : Int → Int → PP) (n5 : Int) (n6 : Int) =>
        ifB (decide (n6 < (8 : Int))) (
          joinT [.int .u32] (fun (M7 : Int → PP) =>
            atS x0 n3 fun (c8 : UInt8) =>
            guardP (0 ≤ (IntKind.wrap .u64 n6)) (guardP ((2 : Int) ≠ 0) (ifB ((andI .u32 (xor2I .u32 n5 (Int.fdiv (IntKind.wrap .u32 (c8.toNat : Int)) (2 ^ (min (IntKind.wrap .u64 n6).toNat (IntKind.bits .u32))))) (1 : Int)) == (1 : Int)) (
                  M7 (xor2I .u32 (IntKind.wrap .u32 (Int.tdiv n5 (2 : Int))) (3988292384 : Int))) (
                  M7 (IntKind.wrap .u32 (Int.tdiv n5 (2 : Int)))))))
          (fun (n9 : Int) =>
            K4 n9 (IntKind.wrap .i64 (n6 + (1 : Int))))) (
          K1 n5 (IntKind.wrap .i64 (n3 + (1 : Int))))) n2 (0 : Int)) (
      Q (xor2I .u32 n2 (4294967295 : Int)))) (4294967295 : Int) (0 : Int)
def ref03_Crc.ann : Ann := .seq (.leaf) (.seq (.leaf) (.seq (.seq (.leaf) (.block (.loop [(3, .sc (.int .u32)), (4, .sc (.int .i64))] (.seq (.seq (.leaf) (.cond (.leaf) (.leaf))) (.seq (.block (.seq (.leaf) (.block (.loop [(3, .sc (.int .u32)), (5, .sc (.int .i64))] (.seq (.seq (.leaf) (.cond (.leaf) (.leaf))) (.join [(3, .sc (.int .u32))] (.block (.seq (.leaf) (.seq (.leaf) (.seq (.leaf) (.cond (.leaf) (.leaf)))))) (.leaf))))))) (.leaf)))))) (.seq (.leaf) (.leaf))))
theorem ref03_Crc.eq (x0 : Bytes) (Q : Int → PP) : denF Tryz.prog Tryz.f309 ref03_Crc.ann [.string (bs x0)] [.sc (.int .u32)] Q = ref03_Crc.F x0 Q := by kernel_rfl
theorem ref03_Crc.ok (x0 : Bytes) (Q : Int → PP) (h : Heap) (hh : ref03_Crc.F x0 Q h) : ref03_Crc.C x0 Q h :=
  call_of_den callOK mixed Tryz.func309 (by kernel_rfl) (by rw [ref03_Crc.eq]; exact hh)
end Go.Proofs.W
end
