/-  -/
import Derived.Test.YtemfgkhholobgaaGreatDoorWGC
section
set_option maxRecDepth 100000
set_option linter.unusedVariables false
namespace Go.Proofs.W
open Go Go.Shal
def law06_Great.F (x0_0 : Int) (x0_1 : Sl) (Q : Bool → PP) : PP :=
  newP 38 [.int .u64 x0_0, .slice x0_1.p x0_1.len x0_1.cap] fun (a1 : Addr) =>
  ld (.slice) (a1.add 1) fun (l2 : Sl) =>
  ifB (decide ((l2.len : Int) > (60 : Int))) (
    Q true) (
    loopT [.bool, .int .i64, .int .i64] (fun (K3 : Bool → Int → Int → PP) (b4 : Bool) (n5 : Int) (n6 : Int) =>
      ld (.slice) (a1.add 1) fun (l7 : Sl) =>
      ifB (decide (n6 < (l7.len : Int))) (
        joinT [.bool] (fun (M8 : Bool → PP) =>
          ld (.slice) (a1.add 1) fun (l9 : Sl) =>
          idxP 3 l9.p l9.len n6 fun (a10 : Addr) =>
          ld (.str) (a10.add 0) fun (s11 : Bytes) =>
          ifB (decide ((s11.length : Int) > (12000 : Int))) (
            M8 true) (
            ld (.slice) (a1.add 1) fun (l12 : Sl) =>
            idxP 3 l12.p l12.len n6 fun (a13 : Addr) =>
            ld (.str) (a13.add 1) fun (s14 : Bytes) =>
            M8 (decide ((s14.length : Int) > (12000 : Int)))))
        (fun (b15 : Bool) =>
          ifB b15 (
            Q true) (
            drawT fun (S16 : PP) =>
            ldG S16 (.slice) (a1.add 1) fun (l17 : Sl) =>
            idxP 3 l17.p l17.len n6 fun (a18 : Addr) =>
            ldG S16 (.str) (a18.add 0) fun (s19 : Bytes) =>
            ldG S16 (.slice) (a1.add 1) fun (l20 : Sl) =>
            idxP 3 l20.p l20.len n6 fun (a21 : Addr) =>
            ldG S16 (.str) (a21.add 1) fun (s22 : Bytes) =>
            K3 b4 (IntKind.wrap .i64 ((IntKind.wrap .i64 (n5 + (s19.length : Int))) + (s22.length : Int))) (IntKind.wrap .i64 (n6 + (1 : Int)))))) (
        Q (decide (n5 > (12000 : Int))))) false (0 : Int) (0 : Int))
def law06_Great.ann : Ann := .seq (.leaf) (.seq (.seq (.leaf) (.cond (.seq (.leaf) (.leaf)) (.leaf))) (.seq (.leaf) (.seq (.seq (.leaf) (.block (.loop [(2, .sc .bool), (3, .sc (.int .i64)), (4, .sc (.int .i64))] (.seq (.seq (.leaf) (.cond (.leaf) (.leaf))) (.seq (.block (.seq (.join [(33, .sc .bool)] (.leaf) (.cond (.seq (.leaf) (.leaf)) (.leaf))) (.draw [3, 5, 6, 7, 8, 9, 10, 11, 12, 13, 14, 15, 16] (.take 0 (.take 1 (.take 2 (.take 3 (.take 4 (.take 5 (.take 6 (.take 7 (.take 8 (.take 9 (.take 10 (.take 11 (.take 12 (.take 13 (.take 14 (.take 15 (.take 16 (.take 17 (.done)))))))))))))))))))))) (.leaf)))))) (.seq (.leaf) (.leaf)))))
theorem law06_Great.eq (x0_0 : Int) (x0_1 : Sl) (Q : Bool → PP) : denF Tryz.prog Tryz.f69 law06_Great.ann [.agg #[.int .u64 x0_0, .slice x0_1.p x0_1.len x0_1.cap]] [.sc .bool] Q = law06_Great.F x0_0 x0_1 Q := by kernel_rfl
theorem law06_Great.ok (x0_0 : Int) (x0_1 : Sl) (Q : Bool → PP) (h : Heap) (hh : law06_Great.F x0_0 x0_1 Q h) : law06_Great.C x0_0 x0_1 Q h :=
  call_of_den callOK mixed Tryz.func69 (by kernel_rfl) (by rw [law06_Great.eq]; exact hh)
def law05_GreatCrash.F (x0_0 : Int) (x0_1 : Sl) (x0_2 : Sl) (Q : Bool → PP) : PP :=
  newP 42 [.int .i64 x0_0, .slice x0_1.p x0_1.len x0_1.cap, .slice x0_2.p x0_2.len x0_2.cap] fun (a1 : Addr) =>
  ld (.slice) (a1.add 1) fun (l2 : Sl) =>
  ifB (decide ((l2.len : Int) > (100 : Int))) (
    Q true) (
    ld (.slice) (a1.add 2) fun (l3 : Sl) =>
    Q (decide ((l3.len : Int) > (100 : Int))))
def law05_GreatCrash.ann : Ann := .seq (.leaf) (.seq (.leaf) (.leaf))
theorem law05_GreatCrash.eq (x0_0 : Int) (x0_1 : Sl) (x0_2 : Sl) (Q : Bool → PP) : denF Tryz.prog Tryz.f140 law05_GreatCrash.ann [.agg #[.int .i64 x0_0, .slice x0_1.p x0_1.len x0_1.cap, .slice x0_2.p x0_2.len x0_2.cap]] [.sc .bool] Q = law05_GreatCrash.F x0_0 x0_1 x0_2 Q := by kernel_rfl
theorem law05_GreatCrash.ok (x0_0 : Int) (x0_1 : Sl) (x0_2 : Sl) (Q : Bool → PP) (h : Heap) (hh : law05_GreatCrash.F x0_0 x0_1 x0_2 Q h) : law05_GreatCrash.C x0_0 x0_1 x0_2 Q h :=
  call_of_den callOK mixed Tryz.func140 (by kernel_rfl) (by rw [law05_GreatCrash.eq]; exact hh)
def law05_Great.F (x0 : Sl) (Q : Bool → PP) : PP :=
  ifB (decide ((x0.len : Int) > (120 : Int))) (
    Q true) (
    loopT [.bool, .int .i64, .int .i64] (fun (K1 : Bool → Int → Int → PP) (b2 : Bool) (n3 : Int) (n4 : Int) =>
      ifB (decide (n4 < (x0.len : Int))) (
        joinT [.bool] (fun (M5 : Bool → PP) =>
          idxP 7 x0.p x0.len n4 fun (a6 : Addr) =>
          ld (.str) (a6.add 1) fun (s7 : Bytes) =>
          ifB (decide ((s7.length : Int) > (20000 : Int))) (
            M5 true) (
            idxP 7 x0.p x0.len n4 fun (a8 : Addr) =>
            ld (.str) (a8.add 2) fun (s9 : Bytes) =>
            ifB (decide ((s9.length : Int) > (20000 : Int))) (
              M5 true) (
              idxP 7 x0.p x0.len n4 fun (a10 : Addr) =>
              lds [.int .i64, .slice, .slice] (a10.add 4) fun (n11 : Int) (l12 : Sl) (l13 : Sl) =>
              law05_GreatCrash.C n11 l12 l13 fun (b14 : Bool) =>
              M5 b14)))
        (fun (b15 : Bool) =>
          ifB b15 (
            Q true) (
            drawT fun (S16 : PP) =>
            idxP 7 x0.p x0.len n4 fun (a17 : Addr) =>
            ldG S16 (.str) (a17.add 1) fun (s18 : Bytes) =>
            idxP 7 x0.p x0.len n4 fun (a19 : Addr) =>
            ldG S16 (.str) (a19.add 2) fun (s20 : Bytes) =>
            K1 b2 (IntKind.wrap .i64 ((IntKind.wrap .i64 (n3 + (s18.length : Int))) + (s20.length : Int))) (IntKind.wrap .i64 (n4 + (1 : Int)))))) (
        Q (decide (n3 > (20000 : Int))))) false (0 : Int) (0 : Int))
def law05_Great.ann : Ann := .seq (.leaf) (.seq (.seq (.leaf) (.cond (.seq (.leaf) (.leaf)) (.leaf))) (.seq (.leaf) (.seq (.seq (.leaf) (.block (.loop [(2, .sc .bool), (3, .sc (.int .i64)), (4, .sc (.int .i64))] (.seq (.seq (.leaf) (.cond (.leaf) (.leaf))) (.seq (.block (.seq (.join [(37, .sc .bool)] (.leaf) (.cond (.seq (.leaf) (.leaf)) (.leaf))) (.draw [7, 8, 9, 10, 11, 12, 13, 14] (.take 0 (.take 1 (.take 2 (.take 3 (.take 4 (.take 5 (.take 6 (.take 7 (.take 8 (.take 9 (.take 10 (.take 11 (.take 12 (.take 13 (.take 14 (.take 15 (.done)))))))))))))))))))) (.leaf)))))) (.seq (.leaf) (.leaf)))))
theorem law05_Great.eq (x0 : Sl) (Q : Bool → PP) : denF Tryz.prog Tryz.f70 law05_Great.ann [.slice x0.p x0.len x0.cap] [.sc .bool] Q = law05_Great.F x0 Q := by kernel_rfl
theorem law05_Great.ok (x0 : Sl) (Q : Bool → PP) (h : Heap) (hh : law05_Great.F x0 Q h) : law05_Great.C x0 Q h :=
  call_of_den callOK mixed Tryz.func70 (by kernel_rfl) (by rw [law05_Great.eq]; exact hh)
def law07_Great.F (x0 : Sl) (Q : Bool → PP) : PP :=
  ifB (decide ((x0.len : Int) > (80 : Int))) (
    Q true) (
    loopT [.bool, .int .i64, .int .i64] (fun (K1 : Bool → Int → Int → PP) (b2 : Bool) (n3 : Int) (n4 : Int) =>
      ifB (decide (n4 < (x0.len : Int))) (
        joinT [.bool] (fun (M5 : Bool → PP) =>
          idxP 11 x0.p x0.len n4 fun (a6 : Addr) =>
          lds [.int .u64, .slice] (a6.add 2) fun (n7 : Int) (l8 : Sl) =>
          law06_Great.C n7 l8 fun (b9 : Bool) =>
          ifB b9 (
            M5 true) (
            idxP 11 x0.p x0.len n4 fun (a10 : Addr) =>
            lds [.int .u8, .str, .str, .int .i64, .int .i64, .slice, .slice] (a10.add 4) fun (n11 : Int) (s12 : Bytes) (s13 : Bytes) (n14 : Int) (n15 : Int) (l16 : Sl) (l17 : Sl) =>
            newP 44 [.int .u8 n11, .string (bs s12), .string (bs s13), .int .i64 n14, .int .i64 n15, .slice l16.p l16.len l16.cap, .slice l17.p l17.len l17.cap] fun (a18 : Addr) =>
            law05_Great.C (⟨some a18, 1, 1⟩ : Sl) fun (b19 : Bool) =>
            M5 b19))
        (fun (b20 : Bool) =>
          ifB b20 (
            Q true) (
            drawT fun (S21 : PP) =>
            idxP 11 x0.p x0.len n4 fun (a22 : Addr) =>
            ldG S21 (.str) ((a22.add 4).add 1) fun (s23 : Bytes) =>
            idxP 11 x0.p x0.len n4 fun (a24 : Addr) =>
            ldG S21 (.str) ((a24.add 4).add 2) fun (s25 : Bytes) =>
            loopT [.int .i64, .int .i64] (fun (K26 : Int → Int → PP) (n27 : Int) (n28 : Int) =>
              idxP 11 x0.p x0.len n4 fun (a29 : Addr) =>
              ld (.slice) ((a29.add 2).add 1) fun (l30 : Sl) =>
              ifB (decide (n28 < (l30.len : Int))) (
                drawT fun (S31 : PP) =>
                idxP 11 x0.p x0.len n4 fun (a32 : Addr) =>
                ldG S31 (.slice) ((a32.add 2).add 1) fun (l33 : Sl) =>
                idxP 3 l33.p l33.len n28 fun (a34 : Addr) =>
                ldG S31 (.str) (a34.add 0) fun (s35 : Bytes) =>
                idxP 11 x0.p x0.len n4 fun (a36 : Addr) =>
                ldG S31 (.slice) ((a36.add 2).add 1) fun (l37 : Sl) =>
                idxP 3 l37.p l37.len n28 fun (a38 : Addr) =>
                ldG S31 (.str) (a38.add 1) fun (s39 : Bytes) =>
                K26 (IntKind.wrap .i64 ((IntKind.wrap .i64 (n27 + (s35.length : Int))) + (s39.length : Int))) (IntKind.wrap .i64 (n28 + (1 : Int)))) (
                K1 b2 n27 (IntKind.wrap .i64 (n4 + (1 : Int))))) (IntKind.wrap .i64 ((IntKind.wrap .i64 (n3 + (s23.length : Int))) + (s25.length : Int))) (0 : Int)))) (
        Q (decide (n3 > (20000 : Int))))) false (0 : Int) (0 : Int))
def law07_Great.ann : Ann := .seq (.leaf) (.seq (.seq (.leaf) (.cond (.seq (.leaf) (.leaf)) (.leaf))) (.seq (.leaf) (.seq (.seq (.leaf) (.block (.loop [(2, .sc .bool), (3, .sc (.int .i64)), (4, .sc (.int .i64))] (.seq (.seq (.leaf) (.cond (.leaf) (.leaf))) (.seq (.block (.seq (.join [(29, .sc .bool)] (.leaf) (.cond (.seq (.leaf) (.leaf)) (.leaf))) (.seq (.draw [8, 9, 10, 11, 12, 13, 14, 15, 16] (.take 0 (.take 1 (.take 2 (.take 3 (.take 4 (.take 5 (.take 6 (.take 7 (.take 8 (.take 9 (.take 10 (.take 11 (.take 12 (.take 13 (.take 14 (.take 15 (.take 16 (.take 17 (.done)))))))))))))))))))) (.seq (.leaf) (.block (.loop [(3, .sc (.int .i64)), (5, .sc (.int .i64))] (.seq (.seq (.leaf) (.cond (.leaf) (.leaf))) (.seq (.block (.draw [7, 9, 10, 11, 12, 13, 14, 15, 16, 17, 18, 19, 20, 21, 22, 23, 24] (.take 0 (.take 1 (.take 2 (.take 3 (.take 4 (.take 5 (.take 6 (.take 7 (.take 8 (.take 9 (.take 10 (.take 11 (.take 12 (.take 13 (.take 14 (.take 15 (.take 16 (.take 17 (.take 18 (.take 19 (.take 20 (.take 21 (.take 22 (.take 23 (.take 24 (.take 25 (.done))))))))))))))))))))))))))))) (.leaf))))))))) (.leaf)))))) (.seq (.leaf) (.leaf)))))
theorem law07_Great.eq (x0 : Sl) (Q : Bool → PP) : denF Tryz.prog Tryz.f12 law07_Great.ann [.slice x0.p x0.len x0.cap] [.sc .bool] Q = law07_Great.F x0 Q := by kernel_rfl
theorem law07_Great.ok (x0 : Sl) (Q : Bool → PP) (h : Heap) (hh : law07_Great.F x0 Q h) : law07_Great.C x0 Q h :=
  call_of_den callOK mixed Tryz.func12 (by kernel_rfl) (by rw [law07_Great.eq]; exact hh)
def disk_New.F (x0 : Int) (Q : (Option Addr) → PP) : PP :=
  newM fun (r1 : Nat) =>
  newM fun (r2 : Nat) =>
  newP 134 [.int .i64 (if (1048576 : Int) < (if (0 : Int) > x0 then (0 : Int) else x0) then (1048576 : Int) else (if (0 : Int) > x0 then (0 : Int) else x0)), .map (some r1), .map (some r2), .slice (none : Option Addr) 0 0, .bool false, .int .i64 (0 : Int)] fun (a3 : Addr) =>
  Q (some a3)
def disk_New.ann : Ann := .seq (.leaf) (.seq (.leaf) (.leaf))
theorem disk_New.eq (x0 : Int) (Q : (Option Addr) → PP) : denF Tryz.prog Tryz.f14 disk_New.ann [.int .i64 x0] [.sc .ptr] Q = disk_New.F x0 Q := by kernel_rfl
theorem disk_New.ok (x0 : Int) (Q : (Option Addr) → PP) (h : Heap) (hh : disk_New.F x0 Q h) : disk_New.C x0 Q h :=
  call_of_den callOK mixed Tryz.func14 (by kernel_rfl) (by rw [disk_New.eq]; exact hh)
def internal_strconv_FormatUint.F (x0 : Int) (x1 : Int) (Q : Bytes → PP) : PP :=
  ifB (x1 == (10 : Int)) (
    ifB (decide (x0 < (100 : Int))) (
      internal_strconv_small.C (IntKind.wrap .i64 x0) fun (s1 : Bytes) =>
      Q s1) (
      newP 335 [.int .u8 (0 : Int), .int .u8 (0 : Int), .int .u8 (0 : Int), .int .u8 (0 : Int), .int .u8 (0 : Int), .int .u8 (0 : Int), .int .u8 (0 : Int), .int .u8 (0 : Int), .int .u8 (0 : Int), .int .u8 (0 : Int), .int .u8 (0 : Int), .int .u8 (0 : Int), .int .u8 (0 : Int), .int .u8 (0 : Int), .int .u8 (0 : Int), .int .u8 (0 : Int), .int .u8 (0 : Int), .int .u8 (0 : Int), .int .u8 (0 : Int), .int .u8 (0 : Int), .int .u8 (0 : Int), .int .u8 (0 : Int), .int .u8 (0 : Int), .int .u8 (0 : Int)] fun (a2 : Addr) =>
      internal_strconv_numDigits.C x0 fun (n3 : Int) =>
      sliceSl 1 (some a2) 24 0 n3 (24 : Int) fun (p4 : Option Addr) (k5 c6 : Nat) =>
      internal_strconv_formatBase10.C (⟨p4, k5, c6⟩ : Sl) x0 (
        sliceSl 1 (some a2) 24 0 n3 (24 : Int) fun (p7 : Option Addr) (k8 c9 : Nat) =>
        bytesP p7 k8 fun (s10 : Bytes) =>
        Q s10))) (
    internal_strconv_formatBits.C (⟨(none : Option Addr), 0, 0⟩ : Sl) x0 x1 false false fun (l11 : Sl) (s12 : Bytes) =>
    Q s12)
def internal_strconv_FormatUint.ann : Ann := .seq (.leaf) (.seq (.seq (.leaf) (.cond (.seq (.seq (.leaf) (.cond (.seq (.leaf) (.leaf)) (.leaf))) (.seq (.leaf) (.seq (.leaf) (.seq (.leaf) (.seq (.leaf) (.leaf)))))) (.leaf))) (.seq (.leaf) (.seq (.leaf) (.leaf))))
theorem internal_strconv_FormatUint.eq (x0 : Int) (x1 : Int) (Q : Bytes → PP) : denF Tryz.prog Tryz.f183 internal_strconv_FormatUint.ann [.int .u64 x0, .int .i64 x1] [.sc .str] Q = internal_strconv_FormatUint.F x0 x1 Q := by kernel_rfl
theorem internal_strconv_FormatUint.ok (x0 : Int) (x1 : Int) (Q : Bytes → PP) (h : Heap) (hh : internal_strconv_FormatUint.F x0 x1 Q h) : internal_strconv_FormatUint.C x0 x1 Q h :=
  call_of_den callOK mixed Tryz.func183 (by kernel_rfl) (by rw [internal_strconv_FormatUint.eq]; exact hh)
def strconv_FormatUint.F (x0 : Int) (x1 : Int) (Q : Bytes → PP) : PP :=
  internal_strconv_FormatUint.C x0 x1 fun (s1 : Bytes) =>
  Q s1
def strconv_FormatUint.ann : Ann := .seq (.leaf) (.seq (.leaf) (.leaf))
theorem strconv_FormatUint.eq (x0 : Int) (x1 : Int) (Q : Bytes → PP) : denF Tryz.prog Tryz.f119 strconv_FormatUint.ann [.int .u64 x0, .int .i64 x1] [.sc .str] Q = strconv_FormatUint.F x0 x1 Q := by kernel_rfl
theorem strconv_FormatUint.ok (x0 : Int) (x1 : Int) (Q : Bytes → PP) (h : Heap) (hh : strconv_FormatUint.F x0 x1 Q h) : strconv_FormatUint.C x0 x1 Q h :=
  call_of_den callOK mixed Tryz.func119 (by kernel_rfl) (by rw [strconv_FormatUint.eq]; exact hh)
def strings_Builder_WriteString.F (x0 : Option Addr) (x1 : Bytes) (Q : Int → Value → PP) : PP :=
  strings_Builder_copyCheck.C x0 (
    nilP x0 fun (a1 : Addr) =>
    ld (.slice) (a1.add 1) fun (l2 : Sl) =>
    appP 5 1 1 #[.int .u8 (0 : Int)] l2.p l2.len l2.cap (.string (bs x1)) fun (p3 : Option Addr) (k4 c5 : Nat) =>
    nilP x0 fun (a6 : Addr) =>
    stP (.slice) (a6.add 1) (⟨p3, k4, c5⟩ : Sl) (
      Q (x1.length : Int) (.nilIface : Value)))
def strings_Builder_WriteString.ann : Ann := .seq (.leaf) (.seq (.leaf) (.seq (.leaf) (.seq (.leaf) (.leaf))))
theorem strings_Builder_WriteString.eq (x0 : Option Addr) (x1 : Bytes) (Q : Int → Value → PP) : denF Tryz.prog Tryz.f187 strings_Builder_WriteString.ann [.pointer x0, .string (bs x1)] [.sc (.int .i64), .sc .any] Q = strings_Builder_WriteString.F x0 x1 Q := by kernel_rfl
theorem strings_Builder_WriteString.ok (x0 : Option Addr) (x1 : Bytes) (Q : Int → Value → PP) (h : Heap) (hh : strings_Builder_WriteString.F x0 x1 Q h) : strings_Builder_WriteString.C x0 x1 Q h :=
  call_of_den callOK mixed Tryz.func187 (by kernel_rfl) (by rw [strings_Builder_WriteString.eq]; exact hh)
def strings_Builder_Len.F (x0 : Option Addr) (Q : Int → PP) : PP :=
  nilP x0 fun (a1 : Addr) =>
  ld (.slice) (a1.add 1) fun (l2 : Sl) =>
  Q (l2.len : Int)
def strings_Builder_Len.ann : Ann := .seq (.leaf) (.seq (.leaf) (.leaf))
theorem strings_Builder_Len.eq (x0 : Option Addr) (Q : Int → PP) : denF Tryz.prog Tryz.f188 strings_Builder_Len.ann [.pointer x0] [.sc (.int .i64)] Q = strings_Builder_Len.F x0 Q := by kernel_rfl
theorem strings_Builder_Len.ok (x0 : Option Addr) (Q : Int → PP) (h : Heap) (hh : strings_Builder_Len.F x0 Q h) : strings_Builder_Len.C x0 Q h :=
  call_of_den callOK mixed Tryz.func188 (by kernel_rfl) (by rw [strings_Builder_Len.eq]; exact hh)
def disk_Name.F (x0 : Bytes) (x1 : Int) (Q : Bytes → PP) : PP :=
  strconv_FormatUint.C x1 (10 : Int) fun (s1 : Bytes) =>
  guardP (x0.length + ([46] : Bytes).length ≤ 9223372036854775807) (strings_Repeat.C ([48] : Bytes) (if (0 : Int) > (IntKind.wrap .i64 ((8 : Int) - (s1.length : Int))) then (0 : Int) else (IntKind.wrap .i64 ((8 : Int) - (s1.length : Int)))) fun (s2 : Bytes) =>
    guardP ((x0 ++ ([46] : Bytes)).length + s2.length ≤ 9223372036854775807) (guardP (((x0 ++ ([46] : Bytes)) ++ s2).length + s1.length ≤ 9223372036854775807) (Q (((x0 ++ ([46] : Bytes)) ++ s2) ++ s1))))
def disk_Name.ann : Ann := .seq (.leaf) (.seq (.leaf) (.seq (.leaf) (.leaf)))
theorem disk_Name.eq (x0 : Bytes) (x1 : Int) (Q : Bytes → PP) : denF Tryz.prog Tryz.f43 disk_Name.ann [.string (bs x0), .int .u64 x1] [.sc .str] Q = disk_Name.F x0 x1 Q := by kernel_rfl
theorem disk_Name.ok (x0 : Bytes) (x1 : Int) (Q : Bytes → PP) (h : Heap) (hh : disk_Name.F x0 x1 Q h) : disk_Name.C x0 x1 Q h :=
  call_of_den callOK mixed Tryz.func43 (by kernel_rfl) (by rw [disk_Name.eq]; exact hh)
def disk_Disk_none.F (x0 : Option Addr) (Q : Bool → PP) : PP :=
  guardP (ptrNil x0 (none : Option Addr)) (ifB (decide (x0 = (none : Option Addr))) (
      Q true) (
      nilP x0 fun (a1 : Addr) =>
      ld (.map) (a1.add 1) fun (m2 : Option Nat) =>
      guardP (m2 = none ∨ (none : Option Nat) = none) (Q (decide (m2 = (none : Option Nat))))))
def disk_Disk_none.ann : Ann := .seq (.leaf) (.seq (.leaf) (.leaf))
theorem disk_Disk_none.eq (x0 : Option Addr) (Q : Bool → PP) : denF Tryz.prog Tryz.f99 disk_Disk_none.ann [.pointer x0] [.sc .bool] Q = disk_Disk_none.F x0 Q := by kernel_rfl
theorem disk_Disk_none.ok (x0 : Option Addr) (Q : Bool → PP) (h : Heap) (hh : disk_Disk_none.F x0 Q h) : disk_Disk_none.C x0 Q h :=
  call_of_den callOK mixed Tryz.func99 (by kernel_rfl) (by rw [disk_Disk_none.eq]; exact hh)
def disk_Disk_power.F (x0 : Option Addr) (Q : Int → PP) : PP :=
  disk_Disk_none.C x0 fun (b1 : Bool) =>
  ifB b1 (
    Q (2 : Int)) (
    nilP x0 fun (a2 : Addr) =>
    ld (.bool) (a2.add 4) fun (b3 : Bool) =>
    ifB b3 (
      Q (7 : Int)) (
      Q (0 : Int)))
def disk_Disk_power.ann : Ann := .seq (.leaf) (.seq (.block (.seq (.leaf) (.cond (.seq (.leaf) (.leaf)) (.seq (.leaf) (.cond (.seq (.leaf) (.leaf)) (.leaf)))))) (.seq (.leaf) (.leaf)))
theorem disk_Disk_power.eq (x0 : Option Addr) (Q : Int → PP) : denF Tryz.prog Tryz.f125 disk_Disk_power.ann [.pointer x0] [.sc (.int .i64)] Q = disk_Disk_power.F x0 Q := by kernel_rfl
theorem disk_Disk_power.ok (x0 : Option Addr) (Q : Int → PP) (h : Heap) (hh : disk_Disk_power.F x0 Q h) : disk_Disk_power.C x0 Q h :=
  call_of_den callOK mixed Tryz.func125 (by kernel_rfl) (by rw [disk_Disk_power.eq]; exact hh)
def disk_Disk_file.F (x0 : Option Addr) (x1 : Bytes) (Q : (Option Addr) → Int → PP) : PP :=
  disk_Disk_power.C x0 fun (n1 : Int) =>
  ifB (n1 != (0 : Int)) (
    Q (none : Option Addr) n1) (
    nilP x0 fun (a2 : Addr) =>
    ld (.map) (a2.add 1) fun (m3 : Option Nat) =>
    lookS (.ptr) (none : Option Addr) m3 x1 fun (p4 : Option Addr) (b5 : Bool) =>
    ifB (!b5) (
      Q (none : Option Addr) (4 : Int)) (
      Q p4 (0 : Int)))
def disk_Disk_file.ann : Ann := .seq (.leaf) (.seq (.seq (.leaf) (.seq (.leaf) (.cond (.seq (.leaf) (.leaf)) (.leaf)))) (.seq (.leaf) (.seq (.seq (.leaf) (.cond (.seq (.leaf) (.leaf)) (.leaf))) (.seq (.leaf) (.leaf)))))
theorem disk_Disk_file.eq (x0 : Option Addr) (x1 : Bytes) (Q : (Option Addr) → Int → PP) : denF Tryz.prog Tryz.f95 disk_Disk_file.ann [.pointer x0, .string (bs x1)] [.sc .ptr, .sc (.int .i64)] Q = disk_Disk_file.F x0 x1 Q := by kernel_rfl
theorem disk_Disk_file.ok (x0 : Option Addr) (x1 : Bytes) (Q : (Option Addr) → Int → PP) (h : Heap) (hh : disk_Disk_file.F x0 x1 Q h) : disk_Disk_file.C x0 x1 Q h :=
  call_of_den callOK mixed Tryz.func95 (by kernel_rfl) (by rw [disk_Disk_file.eq]; exact hh)
def slices_IndexFunc_byte_byte.F (x0 : Sl) (x1 : Value) (Q : Int → PP) : PP :=
  loopT [.int .i64, .int .i64] (fun (K1 : Int → Int → PP) (n2 : Int) (n3 : Int) =>
    ifB (decide (n3 < (x0.len : Int))) (
      idxP 1 x0.p x0.len n3 fun (a4 : Addr) =>
      ld (.int .u8) a4 fun (n5 : Int) =>
      callV Tryz.prog x1 #[.int .u8 n5] [.sc .bool] fun (b6 : Bool) =>
      ifB b6 (
        Q n3) (
        K1 n2 (IntKind.wrap .i64 (n3 + (1 : Int))))) (
      Q (-1 : Int))) (0 : Int) (0 : Int)
def slices_IndexFunc_byte_byte.ann : Ann := .seq (.leaf) (.seq (.seq (.leaf) (.block (.loop [(4, .sc (.int .i64)), (8, .sc (.int .i64))] (.seq (.leaf) (.seq (.cond (.leaf) (.leaf)) (.seq (.block (.seq (.leaf) (.seq (.leaf) (.cond (.seq (.leaf) (.leaf)) (.leaf))))) (.leaf))))))) (.seq (.leaf) (.leaf)))
theorem slices_IndexFunc_byte_byte.eq (x0 : Sl) (x1 : Value) (Q : Int → PP) : denF Tryz.prog Tryz.f246 slices_IndexFunc_byte_byte.ann [.slice x0.p x0.len x0.cap, x1] [.sc (.int .i64)] Q = slices_IndexFunc_byte_byte.F x0 x1 Q := by kernel_rfl
theorem slices_IndexFunc_byte_byte.ok (x0 : Sl) (x1 : Value) (Q : Int → PP) (h : Heap) (hh : slices_IndexFunc_byte_byte.F x0 x1 Q h) : slices_IndexFunc_byte_byte.C x0 x1 Q h :=
  call_of_den callOK mixed Tryz.func246 (by kernel_rfl) (by rw [slices_IndexFunc_byte_byte.eq]; exact hh)
def slices_ContainsFunc_byte_byte.F (x0 : Sl) (x1 : Value) (Q : Bool → PP) : PP :=
  slices_IndexFunc_byte_byte.C x0 x1 fun (n1 : Int) =>
  Q (decide (n1 ≥ (0 : Int)))
def slices_ContainsFunc_byte_byte.ann : Ann := .seq (.leaf) (.seq (.leaf) (.leaf))
theorem slices_ContainsFunc_byte_byte.eq (x0 : Sl) (x1 : Value) (Q : Bool → PP) : denF Tryz.prog Tryz.f168 slices_ContainsFunc_byte_byte.ann [.slice x0.p x0.len x0.cap, x1] [.sc .bool] Q = slices_ContainsFunc_byte_byte.F x0 x1 Q := by kernel_rfl
theorem slices_ContainsFunc_byte_byte.ok (x0 : Sl) (x1 : Value) (Q : Bool → PP) (h : Heap) (hh : slices_ContainsFunc_byte_byte.F x0 x1 Q h) : slices_ContainsFunc_byte_byte.C x0 x1 Q h :=
  call_of_den callOK mixed Tryz.func168 (by kernel_rfl) (by rw [slices_ContainsFunc_byte_byte.eq]; exact hh)
def disk_right_1.F (x0 : Int) (Q : Bool → PP) : PP :=
  ifB (decide (x0 < (97 : Int))) (
    ifB (decide (x0 < (48 : Int))) (
      ifB (x0 != (46 : Int)) (
        Q (x0 != (45 : Int))) (
        Q false)) (
      ifB (decide (x0 > (57 : Int))) (
        ifB (x0 != (46 : Int)) (
          Q (x0 != (45 : Int))) (
          Q false)) (
        Q false))) (
    ifB (decide (x0 > (122 : Int))) (
      ifB (decide (x0 < (48 : Int))) (
        ifB (x0 != (46 : Int)) (
          Q (x0 != (45 : Int))) (
          Q false)) (
        ifB (decide (x0 > (57 : Int))) (
          ifB (x0 != (46 : Int)) (
            Q (x0 != (45 : Int))) (
            Q false)) (
          Q false))) (
      Q false))
def disk_right_1.ann : Ann := .seq (.leaf) (.seq (.leaf) (.leaf))
theorem disk_right_1.eq (x0 : Int) (Q : Bool → PP) : denF Tryz.prog Tryz.f169 disk_right_1.ann [.int .u8 x0] [.sc .bool] Q = disk_right_1.F x0 Q := by kernel_rfl
theorem disk_right_1.ok (x0 : Int) (Q : Bool → PP) (h : Heap) (hh : disk_right_1.F x0 Q h) : disk_right_1.C x0 Q h :=
  call_of_den callOK mixed Tryz.func169 (by kernel_rfl) (by rw [disk_right_1.eq]; exact hh)
def disk_right.F (x0 : Bytes) (Q : Bool → PP) : PP :=
  ifB (!(x0 == ([] : Bytes))) (
    ifB (decide ((x0.length : Int) ≤ (24 : Int))) (
      ofStrP 5 x0 fun (p1 : Option Addr) (k2 c3 : Nat) =>
      slices_ContainsFunc_byte_byte.C (⟨p1, k2, c3⟩ : Sl) (.func (.func 169) #[] #[] : Value) fun (b4 : Bool) =>
      Q (!b4)) (
      Q false)) (
    Q false)
def disk_right.ann : Ann := .seq (.leaf) (.seq (.leaf) (.leaf))
theorem disk_right.eq (x0 : Bytes) (Q : Bool → PP) : denF Tryz.prog Tryz.f96 disk_right.ann [.string (bs x0)] [.sc .bool] Q = disk_right.F x0 Q := by kernel_rfl
theorem disk_right.ok (x0 : Bytes) (Q : Bool → PP) (h : Heap) (hh : disk_right.F x0 Q h) : disk_right.C x0 Q h :=
  call_of_den callOK mixed Tryz.func96 (by kernel_rfl) (by rw [disk_right.eq]; exact hh)
def disk_Disk_burns.F (x0 : Option Addr) (Q : Int → PP) : PP :=
  joinT [] (fun (M1 : PP) =>
    nilP x0 fun (a2 : Addr) =>
    ld (.int .i64) (a2.add 5) fun (n3 : Int) =>
    ifB (decide (n3 > (0 : Int))) (
      nilP x0 fun (a4 : Addr) =>
      ld (.int .i64) (a4.add 5) fun (n5 : Int) =>
      nilP x0 fun (a6 : Addr) =>
      stP (.int .i64) (a6.add 5) (IntKind.wrap .i64 (n5 - (1 : Int))) (
        nilP x0 fun (a7 : Addr) =>
        ld (.int .i64) (a7.add 5) fun (n8 : Int) =>
        nilP x0 fun (a9 : Addr) =>
        stP (.bool) (a9.add 4) (n8 == (0 : Int)) (
          M1))) (
      M1))
  (
    disk_Disk_power.C x0 fun (n10 : Int) =>
    Q n10)
def disk_Disk_burns.ann : Ann := .seq (.leaf) (.join [] (.seq (.leaf) (.cond (.seq (.leaf) (.leaf)) (.leaf))) (.seq (.leaf) (.leaf)))
theorem disk_Disk_burns.eq (x0 : Option Addr) (Q : Int → PP) : denF Tryz.prog Tryz.f98 disk_Disk_burns.ann [.pointer x0] [.sc (.int .i64)] Q = disk_Disk_burns.F x0 Q := by kernel_rfl
theorem disk_Disk_burns.ok (x0 : Option Addr) (Q : Int → PP) (h : Heap) (hh : disk_Disk_burns.F x0 Q h) : disk_Disk_burns.C x0 Q h :=
  call_of_den callOK mixed Tryz.func98 (by kernel_rfl) (by rw [disk_Disk_burns.eq]; exact hh)
end Go.Proofs.W
end
section
set_option maxRecDepth 100000
set_option linter.unusedVariables false
namespace Go.Proofs.W
open Go Go.Shal
def disk_change_does.F (x0_0 : Bytes) (x0_1 : Bytes) (x0_2 : Option Addr) (x1 : Option Nat) (Q : PP) : PP :=
  newP 169 [.string (bs x0_0), .string (bs x0_1), .pointer x0_2] fun (a1 : Addr) =>
  joinT [] (fun (M2 : PP) =>
    ld (.str) (a1.add 0) fun (s3 : Bytes) =>
    ifB (!(s3 == ([] : Bytes))) (
      ld (.str) (a1.add 0) fun (s4 : Bytes) =>
      delP x1 s4 (
        M2)) (
      M2))
  (
    ld (.str) (a1.add 1) fun (s5 : Bytes) =>
    ifB (!(s5 == ([] : Bytes))) (
      ld (.str) (a1.add 1) fun (s6 : Bytes) =>
      ld (.ptr) (a1.add 2) fun (p7 : Option Addr) =>
      updP x1 s6 (.pointer p7) (
        Q)) (
      Q))
def disk_change_does.ann : Ann := .seq (.leaf) (.join [] (.seq (.leaf) (.cond (.leaf) (.leaf))) (.seq (.leaf) (.cond (.leaf) (.leaf))))
theorem disk_change_does.eq (x0_0 : Bytes) (x0_1 : Bytes) (x0_2 : Option Addr) (x1 : Option Nat) (Q : PP) : denF Tryz.prog Tryz.f127 disk_change_does.ann [.agg #[.string (bs x0_0), .string (bs x0_1), .pointer x0_2], .map x1] [] Q = disk_change_does.F x0_0 x0_1 x0_2 x1 Q := by kernel_rfl
theorem disk_change_does.ok (x0_0 : Bytes) (x0_1 : Bytes) (x0_2 : Option Addr) (x1 : Option Nat) (Q : PP) (h : Heap) (hh : disk_change_does.F x0_0 x0_1 x0_2 x1 Q h) : disk_change_does.C x0_0 x0_1 x0_2 x1 Q h :=
  call_of_den callOK mixed Tryz.func127 (by kernel_rfl) (by rw [disk_change_does.eq]; exact hh)
def disk_Disk_changed.F (x0 : Option Addr) (x1_0 : Bytes) (x1_1 : Bytes) (x1_2 : Option Addr) (Q : Int → PP) : PP :=
  newP 169 [.string (bs x1_0), .string (bs x1_1), .pointer x1_2] fun (a1 : Addr) =>
  disk_Disk_burns.C x0 fun (n2 : Int) =>
  ifB (n2 != (0 : Int)) (
    Q n2) (
    drawT fun (S3 : PP) =>
    ldsG S3 [.str, .str, .ptr] a1 fun (s4 : Bytes) (s5 : Bytes) (p6 : Option Addr) =>
    nilP x0 fun (a7 : Addr) =>
    ldG S3 (.map) (a7.add 1) fun (m8 : Option Nat) =>
    disk_change_does.C s4 s5 p6 m8 (
      drawT fun (S9 : PP) =>
      nilP x0 fun (a10 : Addr) =>
      ldG S9 (.slice) (a10.add 3) fun (l11 : Sl) =>
      ldsG S9 [.str, .str, .ptr] a1 fun (s12 : Bytes) (s13 : Bytes) (p14 : Option Addr) =>
      newP 169 [.string (bs s12), .string (bs s13), .pointer p14] fun (a15 : Addr) =>
      withS S9 (
        appP 169 3 40 #[.string (bs ([] : Bytes)), .string (bs ([] : Bytes)), .pointer (none : Option Addr)] l11.p l11.len l11.cap (.slice (some a15) 1 1) fun (p16 : Option Addr) (k17 c18 : Nat) =>
        withS S9 (
          nilP x0 fun (a19 : Addr) =>
          stP (.slice) (a19.add 3) (⟨p16, k17, c18⟩ : Sl) (
            Q (0 : Int))))))
def disk_Disk_changed.ann : Ann := .seq (.leaf) (.seq (.seq (.leaf) (.seq (.leaf) (.cond (.seq (.leaf) (.leaf)) (.leaf)))) (.seq (.draw [1, 2, 3, 4] (.take 0 (.take 1 (.take 2 (.take 3 (.take 4 (.alt 5 (.done) (.none)))))))) (.seq (.draw [5, 6, 7] (.take 0 (.take 1 (.take 2 (.take 3 (.take 4 (.take 5 (.alt 6 (.alt 7 (.take 8 (.take 9 (.alt 10 (.done) (.none)))) (.none)) (.none))))))))) (.seq (.leaf) (.leaf)))))
theorem disk_Disk_changed.eq (x0 : Option Addr) (x1_0 : Bytes) (x1_1 : Bytes) (x1_2 : Option Addr) (Q : Int → PP) : denF Tryz.prog Tryz.f97 disk_Disk_changed.ann [.pointer x0, .agg #[.string (bs x1_0), .string (bs x1_1), .pointer x1_2]] [.sc (.int .i64)] Q = disk_Disk_changed.F x0 x1_0 x1_1 x1_2 Q := by kernel_rfl
theorem disk_Disk_changed.ok (x0 : Option Addr) (x1_0 : Bytes) (x1_1 : Bytes) (x1_2 : Option Addr) (Q : Int → PP) (h : Heap) (hh : disk_Disk_changed.F x0 x1_0 x1_1 x1_2 Q h) : disk_Disk_changed.C x0 x1_0 x1_1 x1_2 Q h :=
  call_of_den callOK mixed Tryz.func97 (by kernel_rfl) (by rw [disk_Disk_changed.eq]; exact hh)
def disk_Disk_Create.F (x0 : Option Addr) (x1 : Bytes) (Q : Int → PP) : PP :=
  disk_Disk_file.C x0 x1 fun (p1 : Option Addr) (n2 : Int) =>
  ifB (n2 == (0 : Int)) (
    Q (5 : Int)) (
    ifB (n2 != (4 : Int)) (
      Q n2) (
      disk_right.C x1 fun (b3 : Bool) =>
      ifB (!b3) (
        Q (1 : Int)) (
        newP 167 [.slice (none : Option Addr) 0 0, .int .i64 (0 : Int)] fun (a4 : Addr) =>
        disk_Disk_changed.C x0 ([] : Bytes) x1 (some a4) fun (n5 : Int) =>
        Q n5)))
def disk_Disk_Create.ann : Ann := .seq (.leaf) (.seq (.leaf) (.seq (.block (.seq (.leaf) (.cond (.seq (.leaf) (.leaf)) (.seq (.leaf) (.cond (.seq (.leaf) (.leaf)) (.seq (.leaf) (.cond (.seq (.leaf) (.leaf)) (.leaf)))))))) (.seq (.leaf) (.leaf))))
theorem disk_Disk_Create.eq (x0 : Option Addr) (x1 : Bytes) (Q : Int → PP) : denF Tryz.prog Tryz.f26 disk_Disk_Create.ann [.pointer x0, .string (bs x1)] [.sc (.int .i64)] Q = disk_Disk_Create.F x0 x1 Q := by kernel_rfl
theorem disk_Disk_Create.ok (x0 : Option Addr) (x1 : Bytes) (Q : Int → PP) (h : Heap) (hh : disk_Disk_Create.F x0 x1 Q h) : disk_Disk_Create.C x0 x1 Q h :=
  call_of_den callOK mixed Tryz.func26 (by kernel_rfl) (by rw [disk_Disk_Create.eq]; exact hh)
def disk_Disk_DirSync.F (x0 : Option Addr) (Q : Int → PP) : PP :=
  disk_Disk_power.C x0 fun (n1 : Int) =>
  ifB (n1 != (0 : Int)) (
    Q n1) (
    disk_Disk_burns.C x0 fun (n2 : Int) =>
    ifB (n2 != (0 : Int)) (
      Q n2) (
      nilP x0 fun (a3 : Addr) =>
      ld (.map) (a3.add 1) fun (m4 : Option Nat) =>
      maps_Clone_map_string_disk_file_string_disk_file.C m4 fun (m5 : Option Nat) =>
      nilP x0 fun (a6 : Addr) =>
      stP (.map) (a6.add 2) m5 (
        nilP x0 fun (a7 : Addr) =>
        stP (.slice) (a7.add 3) (⟨(none : Option Addr), 0, 0⟩ : Sl) (
          Q (0 : Int)))))
def disk_Disk_DirSync.ann : Ann := .seq (.leaf) (.seq (.seq (.leaf) (.seq (.leaf) (.cond (.seq (.leaf) (.leaf)) (.leaf)))) (.seq (.seq (.leaf) (.seq (.leaf) (.cond (.seq (.leaf) (.leaf)) (.leaf)))) (.seq (.leaf) (.seq (.leaf) (.leaf)))))
theorem disk_Disk_DirSync.eq (x0 : Option Addr) (Q : Int → PP) : denF Tryz.prog Tryz.f55 disk_Disk_DirSync.ann [.pointer x0] [.sc (.int .i64)] Q = disk_Disk_DirSync.F x0 Q := by kernel_rfl
theorem disk_Disk_DirSync.ok (x0 : Option Addr) (Q : Int → PP) (h : Heap) (hh : disk_Disk_DirSync.F x0 Q h) : disk_Disk_DirSync.C x0 Q h :=
  call_of_den callOK mixed Tryz.func55 (by kernel_rfl) (by rw [disk_Disk_DirSync.eq]; exact hh)
def disk_Disk_Used.F (x0 : Option Addr) (Q : Int → PP) : PP :=
  disk_Disk_none.C x0 fun (b1 : Bool) =>
  ifB b1 (
    Q (0 : Int)) (
    nilP x0 fun (a2 : Addr) =>
    ld (.map) (a2.add 1) fun (m3 : Option Nat) =>
    rangeMP m3 fun (a4 : Addr) =>
    loopT [.int .i64] (fun (K5 : Int → PP) (n6 : Int) =>
      joinT [.bool] (fun (M7 : Bool → PP) =>
        nextMP a4 (M7 false)
        fun (e8 : MapEntry) =>
        M7 true)
      (fun (b9 : Bool) =>
        ifB b9 (
          entryP a4 fun (s10 : Bytes) (p11 : Option Addr) =>
          nilP p11 fun (a12 : Addr) =>
          ld (.slice) (a12.add 0) fun (l13 : Sl) =>
          K5 (IntKind.wrap .i64 (n6 + (l13.len : Int)))) (
          Q n6))) (0 : Int))
def disk_Disk_Used.ann : Ann := .seq (.leaf) (.seq (.seq (.leaf) (.cond (.seq (.leaf) (.leaf)) (.leaf))) (.seq (.leaf) (.seq (.seq (.leaf) (.block (.loop [(3, .sc (.int .i64))] (.join [(14, .sc .bool)] (.leaf) (.seq (.cond (.leaf) (.leaf)) (.block (.seq (.leaf) (.leaf)))))))) (.seq (.leaf) (.leaf)))))
theorem disk_Disk_Used.eq (x0 : Option Addr) (Q : Int → PP) : denF Tryz.prog Tryz.f28 disk_Disk_Used.ann [.pointer x0] [.sc (.int .i64)] Q = disk_Disk_Used.F x0 Q := by kernel_rfl
theorem disk_Disk_Used.ok (x0 : Option Addr) (Q : Int → PP) (h : Heap) (hh : disk_Disk_Used.F x0 Q h) : disk_Disk_Used.C x0 Q h :=
  call_of_den callOK mixed Tryz.func28 (by kernel_rfl) (by rw [disk_Disk_Used.eq]; exact hh)
def disk_Disk_Append.F (x0 : Option Addr) (x1 : Bytes) (x2 : Bytes) (Q : Int → PP) : PP :=
  disk_Disk_file.C x0 x1 fun (p1 : Option Addr) (n2 : Int) =>
  ifB (n2 != (0 : Int)) (
    Q n2) (
    drawT fun (S3 : PP) =>
    nilP x0 fun (a4 : Addr) =>
    ldG S3 (.int .i64) (a4.add 0) fun (n5 : Int) =>
    disk_Disk_Used.C x0 fun (n6 : Int) =>
    withS S3 (
      ifB (decide ((x2.length : Int) > (IntKind.wrap .i64 (n5 - n6)))) (
        Q (6 : Int)) (
        disk_Disk_burns.C x0 fun (n7 : Int) =>
        ifB (n7 != (0 : Int)) (
          Q n7) (
          nilP p1 fun (a8 : Addr) =>
          ld (.slice) (a8.add 0) fun (l9 : Sl) =>
          appP 5 1 1 #[.int .u8 (0 : Int)] l9.p l9.len l9.cap (.string (bs x2)) fun (p10 : Option Addr) (k11 c12 : Nat) =>
          nilP p1 fun (a13 : Addr) =>
          stP (.slice) (a13.add 0) (⟨p10, k11, c12⟩ : Sl) (
            Q (0 : Int))))))
def disk_Disk_Append.ann : Ann := .seq (.leaf) (.seq (.leaf) (.seq (.block (.seq (.leaf) (.cond (.seq (.leaf) (.leaf)) (.seq (.draw [6, 7, 9, 10] (.take 0 (.take 1 (.take 2 (.take 3 (.take 4 (.take 5 (.take 6 (.alt 7 (.take 8 (.take 9 (.take 10 (.done)))) (.none)))))))))) (.cond (.seq (.leaf) (.leaf)) (.leaf)))))) (.seq (.seq (.leaf) (.seq (.leaf) (.cond (.seq (.leaf) (.leaf)) (.leaf)))) (.seq (.leaf) (.seq (.leaf) (.leaf))))))
theorem disk_Disk_Append.eq (x0 : Option Addr) (x1 : Bytes) (x2 : Bytes) (Q : Int → PP) : denF Tryz.prog Tryz.f27 disk_Disk_Append.ann [.pointer x0, .string (bs x1), .string (bs x2)] [.sc (.int .i64)] Q = disk_Disk_Append.F x0 x1 x2 Q := by kernel_rfl
theorem disk_Disk_Append.ok (x0 : Option Addr) (x1 : Bytes) (x2 : Bytes) (Q : Int → PP) (h : Heap) (hh : disk_Disk_Append.F x0 x1 x2 Q h) : disk_Disk_Append.C x0 x1 x2 Q h :=
  call_of_den callOK mixed Tryz.func27 (by kernel_rfl) (by rw [disk_Disk_Append.eq]; exact hh)
def disk_Disk_Sync.F (x0 : Option Addr) (x1 : Bytes) (Q : Int → PP) : PP :=
  disk_Disk_file.C x0 x1 fun (p1 : Option Addr) (n2 : Int) =>
  joinT [.int .i64] (fun (M3 : Int → PP) =>
    ifB (n2 == (0 : Int)) (
      disk_Disk_burns.C x0 fun (n4 : Int) =>
      M3 n4) (
      M3 n2))
  (fun (n5 : Int) =>
    ifB (n5 == (0 : Int)) (
      nilP p1 fun (a6 : Addr) =>
      ld (.slice) (a6.add 0) fun (l7 : Sl) =>
      nilP p1 fun (a8 : Addr) =>
      stP (.int .i64) (a8.add 1) (l7.len : Int) (
        Q n5)) (
      Q n5))
def disk_Disk_Sync.ann : Ann := .seq (.leaf) (.seq (.leaf) (.join [(6, .sc (.int .i64))] (.seq (.leaf) (.cond (.leaf) (.leaf))) (.seq (.seq (.leaf) (.cond (.leaf) (.leaf))) (.seq (.leaf) (.leaf)))))
theorem disk_Disk_Sync.eq (x0 : Option Addr) (x1 : Bytes) (Q : Int → PP) : denF Tryz.prog Tryz.f54 disk_Disk_Sync.ann [.pointer x0, .string (bs x1)] [.sc (.int .i64)] Q = disk_Disk_Sync.F x0 x1 Q := by kernel_rfl
theorem disk_Disk_Sync.ok (x0 : Option Addr) (x1 : Bytes) (Q : Int → PP) (h : Heap) (hh : disk_Disk_Sync.F x0 x1 Q h) : disk_Disk_Sync.C x0 x1 Q h :=
  call_of_den callOK mixed Tryz.func54 (by kernel_rfl) (by rw [disk_Disk_Sync.eq]; exact hh)
def wal_Begin.F (x0 : Option Addr) (x1 : Int) (Q : (Option Addr) → Int → PP) : PP :=
  disk_Name.C ([108, 111, 103] : Bytes) x1 fun (s1 : Bytes) =>
  disk_Disk_Create.C x0 s1 fun (n2 : Int) =>
  ifB (n2 != (0 : Int)) (
    Q (none : Option Addr) n2) (
    disk_Disk_DirSync.C x0 fun (n3 : Int) =>
    ifB (n3 != (0 : Int)) (
      Q (none : Option Addr) n3) (
      newP 151 [.int .u64 x1, .func (.func 27) #[.pointer x0] #[], .func (.func 54) #[.pointer x0] #[]] fun (a4 : Addr) =>
      Q (some a4) (0 : Int)))
def wal_Begin.ann : Ann := .seq (.leaf) (.seq (.seq (.leaf) (.seq (.leaf) (.cond (.seq (.leaf) (.leaf)) (.leaf)))) (.seq (.seq (.leaf) (.seq (.leaf) (.cond (.seq (.leaf) (.leaf)) (.leaf)))) (.seq (.leaf) (.leaf))))
theorem wal_Begin.eq (x0 : Option Addr) (x1 : Int) (Q : (Option Addr) → Int → PP) : denF Tryz.prog Tryz.f71 wal_Begin.ann [.pointer x0, .int .u64 x1] [.sc .ptr, .sc (.int .i64)] Q = wal_Begin.F x0 x1 Q := by kernel_rfl
theorem wal_Begin.ok (x0 : Option Addr) (x1 : Int) (Q : (Option Addr) → Int → PP) (h : Heap) (hh : wal_Begin.F x0 x1 Q h) : wal_Begin.C x0 x1 Q h :=
  call_of_den callOK mixed Tryz.func71 (by kernel_rfl) (by rw [wal_Begin.eq]; exact hh)
def wal_Log_none.F (x0 : Option Addr) (Q : Bool → PP) : PP :=
  guardP (ptrNil x0 (none : Option Addr)) (ifB (decide (x0 = (none : Option Addr))) (
      Q true) (
      nilP x0 fun (a1 : Addr) =>
      ld (.any) (a1.add 1) fun (v2 : Value) =>
      funcP v2 (.nilFunc : Value) fun (b3 : Bool) =>
      Q b3))
def wal_Log_none.ann : Ann := .seq (.leaf) (.seq (.leaf) (.leaf))
theorem wal_Log_none.eq (x0 : Option Addr) (Q : Bool → PP) : denF Tryz.prog Tryz.f85 wal_Log_none.ann [.pointer x0] [.sc .bool] Q = wal_Log_none.F x0 Q := by kernel_rfl
theorem wal_Log_none.ok (x0 : Option Addr) (Q : Bool → PP) (h : Heap) (hh : wal_Log_none.F x0 Q h) : wal_Log_none.C x0 Q h :=
  call_of_den callOK mixed Tryz.func85 (by kernel_rfl) (by rw [wal_Log_none.eq]; exact hh)
def wal_Log_N.F (x0 : Option Addr) (Q : Int → PP) : PP :=
  wal_Log_none.C x0 fun (b1 : Bool) =>
  ifB b1 (
    Q (0 : Int)) (
    nilP x0 fun (a2 : Addr) =>
    ld (.int .u64) (a2.add 0) fun (n3 : Int) =>
    Q n3)
def wal_Log_N.ann : Ann := .seq (.leaf) (.seq (.seq (.leaf) (.cond (.seq (.leaf) (.leaf)) (.leaf))) (.seq (.leaf) (.leaf)))
theorem wal_Log_N.eq (x0 : Option Addr) (Q : Int → PP) : denF Tryz.prog Tryz.f19 wal_Log_N.ann [.pointer x0] [.sc (.int .u64)] Q = wal_Log_N.F x0 Q := by kernel_rfl
theorem wal_Log_N.ok (x0 : Option Addr) (Q : Int → PP) (h : Heap) (hh : wal_Log_N.F x0 Q h) : wal_Log_N.C x0 Q h :=
  call_of_den callOK mixed Tryz.func19 (by kernel_rfl) (by rw [wal_Log_N.eq]; exact hh)
def law07_small.F (x0 : Int) (Q : Int → Sl → PP) : PP :=
  newP 38 [.int .u64 (0 : Int), .slice (none : Option Addr) 0 0] fun (a1 : Addr) =>
  newP 124 [.string (bs ([97] : Bytes)), .string (bs ([120] : Bytes)), .bool false] fun (a2 : Addr) =>
  stsP a1 [.int .u64, .slice] (x0, (⟨some a2, 1, 1⟩ : Sl), ()) 0 (
    lds [.int .u64, .slice] a1 fun (n3 : Int) (l4 : Sl) =>
    Q n3 l4)
def law07_small.ann : Ann := .seq (.leaf) (.seq (.leaf) (.leaf))
theorem law07_small.eq (x0 : Int) (Q : Int → Sl → PP) : denF Tryz.prog Tryz.f73 law07_small.ann [.int .u64 x0] [.agg [.int .u64, .slice]] Q = law07_small.F x0 Q := by kernel_rfl
theorem law07_small.ok (x0 : Int) (Q : Int → Sl → PP) (h : Heap) (hh : law07_small.F x0 Q h) : law07_small.C x0 Q h :=
  call_of_den callOK mixed Tryz.func73 (by kernel_rfl) (by rw [law07_small.eq]; exact hh)
def slices_IndexFunc_api_Op_api_Op.F (x0 : Sl) (x1 : Value) (Q : Int → PP) : PP :=
  loopT [.int .i64, .int .i64] (fun (K1 : Int → Int → PP) (n2 : Int) (n3 : Int) =>
    ifB (decide (n3 < (x0.len : Int))) (
      idxP 3 x0.p x0.len n3 fun (a4 : Addr) =>
      lds [.str, .str, .bool] a4 fun (s5 : Bytes) (s6 : Bytes) (b7 : Bool) =>
      callV Tryz.prog x1 #[.agg #[.string (bs s5), .string (bs s6), .bool b7]] [.sc .bool] fun (b8 : Bool) =>
      ifB b8 (
        Q n3) (
        K1 n2 (IntKind.wrap .i64 (n3 + (1 : Int))))) (
      Q (-1 : Int))) (0 : Int) (0 : Int)
def slices_IndexFunc_api_Op_api_Op.ann : Ann := .seq (.leaf) (.seq (.seq (.leaf) (.block (.loop [(4, .sc (.int .i64)), (8, .sc (.int .i64))] (.seq (.leaf) (.seq (.cond (.leaf) (.leaf)) (.seq (.block (.seq (.leaf) (.seq (.leaf) (.cond (.seq (.leaf) (.leaf)) (.leaf))))) (.leaf))))))) (.seq (.leaf) (.leaf)))
theorem slices_IndexFunc_api_Op_api_Op.eq (x0 : Sl) (x1 : Value) (Q : Int → PP) : denF Tryz.prog Tryz.f353 slices_IndexFunc_api_Op_api_Op.ann [.slice x0.p x0.len x0.cap, x1] [.sc (.int .i64)] Q = slices_IndexFunc_api_Op_api_Op.F x0 x1 Q := by kernel_rfl
theorem slices_IndexFunc_api_Op_api_Op.ok (x0 : Sl) (x1 : Value) (Q : Int → PP) (h : Heap) (hh : slices_IndexFunc_api_Op_api_Op.F x0 x1 Q h) : slices_IndexFunc_api_Op_api_Op.C x0 x1 Q h :=
  call_of_den callOK mixed Tryz.func353 (by kernel_rfl) (by rw [slices_IndexFunc_api_Op_api_Op.eq]; exact hh)
def slices_ContainsFunc_api_Op_api_Op.F (x0 : Sl) (x1 : Value) (Q : Bool → PP) : PP :=
  slices_IndexFunc_api_Op_api_Op.C x0 x1 fun (n1 : Int) =>
  Q (decide (n1 ≥ (0 : Int)))
def slices_ContainsFunc_api_Op_api_Op.ann : Ann := .seq (.leaf) (.seq (.leaf) (.leaf))
theorem slices_ContainsFunc_api_Op_api_Op.eq (x0 : Sl) (x1 : Value) (Q : Bool → PP) : denF Tryz.prog Tryz.f298 slices_ContainsFunc_api_Op_api_Op.ann [.slice x0.p x0.len x0.cap, x1] [.sc .bool] Q = slices_ContainsFunc_api_Op_api_Op.F x0 x1 Q := by kernel_rfl
theorem slices_ContainsFunc_api_Op_api_Op.ok (x0 : Sl) (x1 : Value) (Q : Bool → PP) (h : Heap) (hh : slices_ContainsFunc_api_Op_api_Op.F x0 x1 Q h) : slices_ContainsFunc_api_Op_api_Op.C x0 x1 Q h :=
  call_of_den callOK mixed Tryz.func298 (by kernel_rfl) (by rw [slices_ContainsFunc_api_Op_api_Op.eq]; exact hh)
def batch_long.F (x0_0 : Bytes) (x0_1 : Bytes) (x0_2 : Bool) (Q : Bool → PP) : PP :=
  newP 124 [.string (bs x0_0), .string (bs x0_1), .bool x0_2] fun (a1 : Addr) =>
  ld (.str) (a1.add 0) fun (s2 : Bytes) =>
  ifB (decide ((s2.length : Int) > (64 : Int))) (
    Q true) (
    ld (.str) (a1.add 1) fun (s3 : Bytes) =>
    Q (decide ((s3.length : Int) > (512 : Int))))
def batch_long.ann : Ann := .seq (.leaf) (.seq (.leaf) (.leaf))
theorem batch_long.eq (x0_0 : Bytes) (x0_1 : Bytes) (x0_2 : Bool) (Q : Bool → PP) : denF Tryz.prog Tryz.f299 batch_long.ann [.agg #[.string (bs x0_0), .string (bs x0_1), .bool x0_2]] [.sc .bool] Q = batch_long.F x0_0 x0_1 x0_2 Q := by kernel_rfl
theorem batch_long.ok (x0_0 : Bytes) (x0_1 : Bytes) (x0_2 : Bool) (Q : Bool → PP) (h : Heap) (hh : batch_long.F x0_0 x0_1 x0_2 Q h) : batch_long.C x0_0 x0_1 x0_2 Q h :=
  call_of_den callOK mixed Tryz.func299 (by kernel_rfl) (by rw [batch_long.eq]; exact hh)
def batch_Batch_Last.F (x0_0 : Int) (x0_1 : Sl) (Q : Int → PP) : PP :=
  newP 38 [.int .u64 x0_0, .slice x0_1.p x0_1.len x0_1.cap] fun (a1 : Addr) =>
  ld (.int .u64) (a1.add 0) fun (n2 : Int) =>
  ld (.slice) (a1.add 1) fun (l3 : Sl) =>
  Q (IntKind.wrap .u64 ((IntKind.wrap .u64 (n2 + (IntKind.wrap .u64 (if (1 : Int) > (l3.len : Int) then (1 : Int) else (l3.len : Int))))) - (1 : Int)))
def batch_Batch_Last.ann : Ann := .seq (.leaf) (.seq (.leaf) (.leaf))
theorem batch_Batch_Last.eq (x0_0 : Int) (x0_1 : Sl) (Q : Int → PP) : denF Tryz.prog Tryz.f300 batch_Batch_Last.ann [.agg #[.int .u64 x0_0, .slice x0_1.p x0_1.len x0_1.cap]] [.sc (.int .u64)] Q = batch_Batch_Last.F x0_0 x0_1 Q := by kernel_rfl
theorem batch_Batch_Last.ok (x0_0 : Int) (x0_1 : Sl) (Q : Int → PP) (h : Heap) (hh : batch_Batch_Last.F x0_0 x0_1 Q h) : batch_Batch_Last.C x0_0 x0_1 Q h :=
  call_of_den callOK mixed Tryz.func300 (by kernel_rfl) (by rw [batch_Batch_Last.eq]; exact hh)
def batch_bad.F (x0_0 : Bytes) (x0_1 : Bytes) (x0_2 : Bool) (Q : Bool → PP) : PP :=
  newP 124 [.string (bs x0_0), .string (bs x0_1), .bool x0_2] fun (a1 : Addr) =>
  ld (.str) (a1.add 0) fun (s2 : Bytes) =>
  ifB (s2 == ([] : Bytes)) (
    Q true) (
    ld (.bool) (a1.add 2) fun (b3 : Bool) =>
    ifB b3 (
      ld (.str) (a1.add 1) fun (s4 : Bytes) =>
      Q (!(s4 == ([] : Bytes)))) (
      Q false))
def batch_bad.ann : Ann := .seq (.leaf) (.seq (.leaf) (.leaf))
theorem batch_bad.eq (x0_0 : Bytes) (x0_1 : Bytes) (x0_2 : Bool) (Q : Bool → PP) : denF Tryz.prog Tryz.f301 batch_bad.ann [.agg #[.string (bs x0_0), .string (bs x0_1), .bool x0_2]] [.sc .bool] Q = batch_bad.F x0_0 x0_1 x0_2 Q := by kernel_rfl
theorem batch_bad.ok (x0_0 : Bytes) (x0_1 : Bytes) (x0_2 : Bool) (Q : Bool → PP) (h : Heap) (hh : batch_bad.F x0_0 x0_1 x0_2 Q h) : batch_bad.C x0_0 x0_1 x0_2 Q h :=
  call_of_den callOK mixed Tryz.func301 (by kernel_rfl) (by rw [batch_bad.eq]; exact hh)
def batch_Check.F (x0_0 : Int) (x0_1 : Sl) (Q : Int → PP) : PP :=
  newP 38 [.int .u64 x0_0, .slice x0_1.p x0_1.len x0_1.cap] fun (a1 : Addr) =>
  ld (.slice) (a1.add 1) fun (l2 : Sl) =>
  joinT [.bool] (fun (M3 : Bool → PP) =>
    ifB (decide ((l2.len : Int) > (16 : Int))) (
      M3 true) (
      ld (.slice) (a1.add 1) fun (l4 : Sl) =>
      slices_ContainsFunc_api_Op_api_Op.C l4 (.func (.func 299) #[] #[] : Value) fun (b5 : Bool) =>
      M3 b5))
  (fun (b6 : Bool) =>
    ifB b6 (
      Q (3 : Int)) (
      joinT [.bool] (fun (M7 : Bool → PP) =>
        ifB ((l2.len : Int) == (0 : Int)) (
          M7 true) (
          ld (.int .u64) (a1.add 0) fun (n8 : Int) =>
          ifB (n8 == (0 : Int)) (
            M7 true) (
            ld (.int .u64) (a1.add 0) fun (n9 : Int) =>
            ifB (decide (n9 > (9223372036854775808 : Int))) (
              M7 true) (
              lds [.int .u64, .slice] a1 fun (n10 : Int) (l11 : Sl) =>
              batch_Batch_Last.C n10 l11 fun (n12 : Int) =>
              ifB (decide (n12 > (9223372036854775808 : Int))) (
                M7 true) (
                ld (.slice) (a1.add 1) fun (l13 : Sl) =>
                slices_ContainsFunc_api_Op_api_Op.C l13 (.func (.func 301) #[] #[] : Value) fun (b14 : Bool) =>
                M7 b14)))))
      (fun (b15 : Bool) =>
        ifB b15 (
          Q (1 : Int)) (
          Q (0 : Int)))))
def batch_Check.ann : Ann := .seq (.leaf) (.seq (.leaf) (.seq (.block (.join [(7, .sc .bool)] (.leaf) (.cond (.seq (.leaf) (.leaf)) (.join [(15, .sc .bool)] (.leaf) (.cond (.seq (.leaf) (.leaf)) (.leaf)))))) (.seq (.leaf) (.leaf))))
theorem batch_Check.eq (x0_0 : Int) (x0_1 : Sl) (Q : Int → PP) : denF Tryz.prog Tryz.f212 batch_Check.ann [.agg #[.int .u64 x0_0, .slice x0_1.p x0_1.len x0_1.cap]] [.sc (.int .i64)] Q = batch_Check.F x0_0 x0_1 Q := by kernel_rfl
theorem batch_Check.ok (x0_0 : Int) (x0_1 : Sl) (Q : Int → PP) (h : Heap) (hh : batch_Check.F x0_0 x0_1 Q h) : batch_Check.C x0_0 x0_1 Q h :=
  call_of_den callOK mixed Tryz.func212 (by kernel_rfl) (by rw [batch_Check.eq]; exact hh)
def num_behind.F (x0 : Int) (Q : Int → PP) : PP :=
  ifB (decide (x0 < (248 : Int))) (
    Q (0 : Int)) (
    math_bits_Len64.C x0 fun (n1 : Int) =>
    guardP ((8 : Int) ≠ 0) (Q (IntKind.wrap .i64 (Int.tdiv (IntKind.wrap .i64 (n1 + (7 : Int))) (8 : Int)))))
def num_behind.ann : Ann := .seq (.leaf) (.seq (.seq (.leaf) (.cond (.seq (.leaf) (.leaf)) (.leaf))) (.seq (.leaf) (.leaf)))
theorem num_behind.eq (x0 : Int) (Q : Int → PP) : denF Tryz.prog Tryz.f302 num_behind.ann [.int .u64 x0] [.sc (.int .i64)] Q = num_behind.F x0 Q := by kernel_rfl
theorem num_behind.ok (x0 : Int) (Q : Int → PP) (h : Heap) (hh : num_behind.F x0 Q h) : num_behind.C x0 Q h :=
  call_of_den callOK mixed Tryz.func302 (by kernel_rfl) (by rw [num_behind.eq]; exact hh)
def num_put.F (x0 : Sl) (x1 : Int) (x2 : Int) (Q : Sl → PP) : PP :=
  loopT [.slice, .int .i64] (fun (K1 : Sl → Int → PP) (l2 : Sl) (n3 : Int) =>
    ifB (decide (n3 ≥ (0 : Int))) (
      guardP (0 ≤ (IntKind.wrap .i64 ((8 : Int) * n3))) (newP 5 [.int .u8 (IntKind.wrap .u8 (Int.fdiv x1 (2 ^ (min (IntKind.wrap .i64 ((8 : Int) * n3)).toNat (IntKind.bits .u64)))))] fun (a4 : Addr) =>
        appP 5 1 1 #[.int .u8 (0 : Int)] l2.p l2.len l2.cap (.slice (some a4) 1 1) fun (p5 : Option Addr) (k6 c7 : Nat) =>
        K1 (⟨p5, k6, c7⟩ : Sl) (IntKind.wrap .i64 (n3 - (1 : Int))))) (
      Q l2)) x0 (IntKind.wrap .i64 (x2 - (1 : Int)))
def num_put.ann : Ann := .seq (.leaf) (.seq (.seq (.leaf) (.block (.loop [(0, .sc .slice), (7, .sc (.int .i64))] (.seq (.seq (.leaf) (.cond (.leaf) (.leaf))) (.seq (.block (.leaf)) (.leaf)))))) (.seq (.leaf) (.leaf)))
theorem num_put.eq (x0 : Sl) (x1 : Int) (x2 : Int) (Q : Sl → PP) : denF Tryz.prog Tryz.f303 num_put.ann [.slice x0.p x0.len x0.cap, .int .u64 x1, .int .i64 x2] [.sc .slice] Q = num_put.F x0 x1 x2 Q := by kernel_rfl
theorem num_put.ok (x0 : Sl) (x1 : Int) (x2 : Int) (Q : Sl → PP) (h : Heap) (hh : num_put.F x0 x1 x2 Q h) : num_put.C x0 x1 x2 Q h :=
  call_of_den callOK mixed Tryz.func303 (by kernel_rfl) (by rw [num_put.eq]; exact hh)
end Go.Proofs.W
end
section
set_option maxRecDepth 100000
set_option linter.unusedVariables false
namespace Go.Proofs.W
open Go Go.Shal
def num_Var.F (x0 : Sl) (Q : Bytes → PP) : PP :=
  loopT [.slice, .int .i64] (fun (K1 : Sl → Int → PP) (l2 : Sl) (n3 : Int) =>
    ifB (decide (n3 < (x0.len : Int))) (
      joinT [.slice] (fun (M4 : Sl → PP) =>
        idxP 1 x0.p x0.len n3 fun (a5 : Addr) =>
        ld (.int .u64) a5 fun (n6 : Int) =>
        num_behind.C n6 fun (n7 : Int) =>
        ifB (decide (n7 > (0 : Int))) (
          newP 5 [.int .u8 (IntKind.wrap .u8 (IntKind.wrap .i64 ((247 : Int) + n7)))] fun (a8 : Addr) =>
          appP 5 1 1 #[.int .u8 (0 : Int)] l2.p l2.len l2.cap (.slice (some a8) 1 1) fun (p9 : Option Addr) (k10 c11 : Nat) =>
          num_put.C (⟨p9, k10, c11⟩ : Sl) n6 n7 fun (l12 : Sl) =>
          M4 l12) (
          newP 5 [.int .u8 (IntKind.wrap .u8 n6)] fun (a13 : Addr) =>
          appP 5 1 1 #[.int .u8 (0 : Int)] l2.p l2.len l2.cap (.slice (some a13) 1 1) fun (p14 : Option Addr) (k15 c16 : Nat) =>
          M4 (⟨p14, k15, c16⟩ : Sl)))
      (fun (l17 : Sl) =>
        K1 l17 (IntKind.wrap .i64 (n3 + (1 : Int))))) (
      bytesP l2.p l2.len fun (s18 : Bytes) =>
      Q s18)) (⟨(none : Option Addr), 0, 0⟩ : Sl) (0 : Int)
def num_Var.ann : Ann := .seq (.leaf) (.seq (.leaf) (.seq (.seq (.leaf) (.block (.loop [(3, .sc .slice), (9, .sc (.int .i64))] (.seq (.leaf) (.seq (.cond (.leaf) (.leaf)) (.join [(3, .sc .slice)] (.block (.seq (.leaf) (.seq (.leaf) (.seq (.leaf) (.cond (.leaf) (.leaf)))))) (.leaf))))))) (.seq (.leaf) (.leaf))))
theorem num_Var.eq (x0 : Sl) (Q : Bytes → PP) : denF Tryz.prog Tryz.f213 num_Var.ann [.slice x0.p x0.len x0.cap] [.sc .str] Q = num_Var.F x0 Q := by kernel_rfl
theorem num_Var.ok (x0 : Sl) (Q : Bytes → PP) (h : Heap) (hh : num_Var.F x0 Q h) : num_Var.C x0 Q h :=
  call_of_den callOK mixed Tryz.func213 (by kernel_rfl) (by rw [num_Var.eq]; exact hh)
def num_Text.F (x0 : Sl) (Q : Bytes → PP) : PP :=
  loopT [.str, .int .i64] (fun (K1 : Bytes → Int → PP) (s2 : Bytes) (n3 : Int) =>
    ifB (decide (n3 < (x0.len : Int))) (
      idxP 1 x0.p x0.len n3 fun (a4 : Addr) =>
      ld (.str) a4 fun (s5 : Bytes) =>
      newP 30 [.int .u64 (IntKind.wrap .u64 (s5.length : Int))] fun (a6 : Addr) =>
      num_Var.C (⟨some a6, 1, 1⟩ : Sl) fun (s7 : Bytes) =>
      guardP (s7.length + s5.length ≤ 9223372036854775807) (guardP (s2.length + (s7 ++ s5).length ≤ 9223372036854775807) (K1 (s2 ++ (s7 ++ s5)) (IntKind.wrap .i64 (n3 + (1 : Int)))))) (
      Q s2)) ([] : Bytes) (0 : Int)
def num_Text.ann : Ann := .seq (.leaf) (.seq (.leaf) (.seq (.seq (.leaf) (.block (.loop [(3, .sc .str), (8, .sc (.int .i64))] (.seq (.leaf) (.seq (.cond (.leaf) (.leaf)) (.seq (.block (.seq (.leaf) (.leaf))) (.leaf))))))) (.seq (.leaf) (.leaf))))
theorem num_Text.eq (x0 : Sl) (Q : Bytes → PP) : denF Tryz.prog Tryz.f214 num_Text.ann [.slice x0.p x0.len x0.cap] [.sc .str] Q = num_Text.F x0 Q := by kernel_rfl
theorem num_Text.ok (x0 : Sl) (Q : Bytes → PP) (h : Heap) (hh : num_Text.F x0 Q h) : num_Text.C x0 Q h :=
  call_of_den callOK mixed Tryz.func214 (by kernel_rfl) (by rw [num_Text.eq]; exact hh)
def batch_Encode.F (x0_0 : Int) (x0_1 : Sl) (Q : Bytes → Int → PP) : PP :=
  newP 38 [.int .u64 x0_0, .slice x0_1.p x0_1.len x0_1.cap] fun (a1 : Addr) =>
  lds [.int .u64, .slice] a1 fun (n2 : Int) (l3 : Sl) =>
  batch_Check.C n2 l3 fun (n4 : Int) =>
  ifB (n4 != (0 : Int)) (
    Q ([] : Bytes) n4) (
    newP 251 [.pointer (none : Option Addr), .slice (none : Option Addr) 0 0] fun (a5 : Addr) =>
    ld (.int .u64) (a1.add 0) fun (n6 : Int) =>
    ld (.slice) (a1.add 1) fun (l7 : Sl) =>
    newP 30 [.int .u64 n6, .int .u64 (IntKind.wrap .u64 (l7.len : Int))] fun (a8 : Addr) =>
    num_Var.C (⟨some a8, 2, 2⟩ : Sl) fun (s9 : Bytes) =>
    strings_Builder_WriteString.C (some a5) s9 fun (n10 : Int) (v11 : Value) =>
    ld (.slice) (a1.add 1) fun (l12 : Sl) =>
    loopT [.int .i64] (fun (K13 : Int → PP) (n14 : Int) =>
      ifB (decide (n14 < (l12.len : Int))) (
        joinT [] (fun (M15 : PP) =>
          idxP 3 l12.p l12.len n14 fun (a16 : Addr) =>
          lds [.str, .str, .bool] a16 fun (s17 : Bytes) (s18 : Bytes) (b19 : Bool) =>
          newP 124 [.string (bs ([] : Bytes)), .string (bs ([] : Bytes)), .bool false] fun (a20 : Addr) =>
          stsP a20 [.str, .str, .bool] (s17, s18, b19, ()) 0 (
            ld (.bool) (a20.add 2) fun (b21 : Bool) =>
            ifB b21 (
              ld (.str) (a20.add 0) fun (s22 : Bytes) =>
              newP 9 [.string (bs s22)] fun (a23 : Addr) =>
              num_Text.C (⟨some a23, 1, 1⟩ : Sl) fun (s24 : Bytes) =>
              guardP (([1] : Bytes).length + s24.length ≤ 9223372036854775807) (strings_Builder_WriteString.C (some a5) (([1] : Bytes) ++ s24) fun (n25 : Int) (v26 : Value) =>
                M15)) (
              ld (.str) (a20.add 0) fun (s27 : Bytes) =>
              ld (.str) (a20.add 1) fun (s28 : Bytes) =>
              newP 9 [.string (bs s27), .string (bs s28)] fun (a29 : Addr) =>
              num_Text.C (⟨some a29, 2, 2⟩ : Sl) fun (s30 : Bytes) =>
              guardP (([0] : Bytes).length + s30.length ≤ 9223372036854775807) (strings_Builder_WriteString.C (some a5) (([0] : Bytes) ++ s30) fun (n31 : Int) (v32 : Value) =>
                M15))))
        (
          K13 (IntKind.wrap .i64 (n14 + (1 : Int))))) (
        strings_Builder_String.C (some a5) fun (s33 : Bytes) =>
        Q s33 (0 : Int))) (0 : Int))
def batch_Encode.ann : Ann := .seq (.leaf) (.seq (.seq (.leaf) (.seq (.leaf) (.cond (.seq (.leaf) (.leaf)) (.leaf)))) (.seq (.leaf) (.seq (.leaf) (.seq (.seq (.leaf) (.block (.loop [(25, .sc (.int .i64))] (.seq (.leaf) (.seq (.cond (.leaf) (.leaf)) (.join [] (.block (.seq (.leaf) (.seq (.leaf) (.cond (.leaf) (.leaf))))) (.leaf))))))) (.seq (.leaf) (.leaf))))))
theorem batch_Encode.eq (x0_0 : Int) (x0_1 : Sl) (Q : Bytes → Int → PP) : denF Tryz.prog Tryz.f141 batch_Encode.ann [.agg #[.int .u64 x0_0, .slice x0_1.p x0_1.len x0_1.cap]] [.sc .str, .sc (.int .i64)] Q = batch_Encode.F x0_0 x0_1 Q := by kernel_rfl
theorem batch_Encode.ok (x0_0 : Int) (x0_1 : Sl) (Q : Bytes → Int → PP) (h : Heap) (hh : batch_Encode.F x0_0 x0_1 Q h) : batch_Encode.C x0_0 x0_1 Q h :=
  call_of_den callOK mixed Tryz.func141 (by kernel_rfl) (by rw [batch_Encode.eq]; exact hh)
def cell_may.F (x0_0 : Bool) (x0_1 : Bool) (x0_2 : Int) (x0_3 : Bytes) (Q : Bool → PP) : PP :=
  newP 367 [.bool x0_0, .bool x0_1, .int .i64 x0_2, .string (bs x0_3)] fun (a1 : Addr) =>
  ld (.str) (a1.add 3) fun (s2 : Bytes) =>
  joinT [.bool] (fun (M3 : Bool → PP) =>
    ld (.int .i64) (a1.add 2) fun (n4 : Int) =>
    ifB (decide (n4 < (0 : Int))) (
      M3 true) (
      ld (.int .i64) (a1.add 2) fun (n5 : Int) =>
      ifB (decide (n5 > (65535 : Int))) (
        M3 true) (
        ld (.bool) (a1.add 0) fun (b6 : Bool) =>
        ld (.int .i64) (a1.add 2) fun (n7 : Int) =>
        M3 (!(b6 == (n7 == (0 : Int)))))))
  (fun (b8 : Bool) =>
    ifB b8 (
      Q false) (
      ifB ((s2.length : Int) == (24 : Int)) (
        Q true) (
        ifB (decide ((s2.length : Int) < (24 : Int))) (
          ld (.bool) (a1.add 1) fun (b9 : Bool) =>
          ifB b9 (
            ifB (decide ((s2.length : Int) > (0 : Int))) (
              Q true) (
              ld (.bool) (a1.add 0) fun (b10 : Bool) =>
              Q b10)) (
            Q false)) (
          Q false))))
def cell_may.ann : Ann := .seq (.leaf) (.seq (.leaf) (.seq (.join [(22, .sc .bool)] (.leaf) (.cond (.seq (.leaf) (.leaf)) (.leaf))) (.seq (.leaf) (.leaf))))
theorem cell_may.eq (x0_0 : Bool) (x0_1 : Bool) (x0_2 : Int) (x0_3 : Bytes) (Q : Bool → PP) : denF Tryz.prog Tryz.f354 cell_may.ann [.agg #[.bool x0_0, .bool x0_1, .int .i64 x0_2, .string (bs x0_3)]] [.sc .bool] Q = cell_may.F x0_0 x0_1 x0_2 x0_3 Q := by kernel_rfl
theorem cell_may.ok (x0_0 : Bool) (x0_1 : Bool) (x0_2 : Int) (x0_3 : Bytes) (Q : Bool → PP) (h : Heap) (hh : cell_may.F x0_0 x0_1 x0_2 x0_3 Q h) : cell_may.C x0_0 x0_1 x0_2 x0_3 Q h :=
  call_of_den callOK mixed Tryz.func354 (by kernel_rfl) (by rw [cell_may.eq]; exact hh)
def cell_Crc.F (x0 : Sl) (Q : Int → PP) : PP :=
  loopT [.int .u32, .int .i64] (fun (K1 : Int → Int → PP) (n2 : Int) (n3 : Int) =>
    ifB (decide (n3 < (x0.len : Int))) (
      idxP 1 x0.p x0.len n3 fun (a4 : Addr) =>
      ld (.str) a4 fun (s5 : Bytes) =>
      ofStrP 5 s5 fun (p6 : Option Addr) (k7 c8 : Nat) =>
      loopT [.int .u32, .int .i64] (fun (K9 : Int → Int → PP) (n10 : Int) (n11 : Int) =>
        ifB (decide (n11 < (k7 : Int))) (
          idxP 1 p6 k7 n11 fun (a12 : Addr) =>
          ld (.int .u8) a12 fun (n13 : Int) =>
          guardP (0 ≤ (4 : Int)) (idxP 1 (some (⟨1, 0, none⟩)) 16 (andI .u32 (xor2I .u32 n10 (IntKind.wrap .u32 n13)) (15 : Int)) fun (a14 : Addr) =>
            ld (.int .u32) a14 fun (n15 : Int) =>
            guardP (0 ≤ (4 : Int)) (idxP 1 (some (⟨1, 0, none⟩)) 16 (andI .u32 (xor2I .u32 (Int.fdiv (xor2I .u32 n10 (IntKind.wrap .u32 n13)) (2 ^ (min (4 : Int).toNat (IntKind.bits .u32)))) n15) (15 : Int)) fun (a16 : Addr) =>
              ld (.int .u32) a16 fun (n17 : Int) =>
              K9 (xor2I .u32 (Int.fdiv (xor2I .u32 (Int.fdiv (xor2I .u32 n10 (IntKind.wrap .u32 n13)) (2 ^ (min (4 : Int).toNat (IntKind.bits .u32)))) n15) (2 ^ (min (4 : Int).toNat (IntKind.bits .u32)))) n17) (IntKind.wrap .i64 (n11 + (1 : Int)))))) (
          K1 n10 (IntKind.wrap .i64 (n3 + (1 : Int))))) n2 (0 : Int)) (
      Q (xorI .u32 n2))) (4294967295 : Int) (0 : Int)
def cell_Crc.ann : Ann := .seq (.leaf) (.seq (.leaf) (.seq (.seq (.leaf) (.block (.loop [(3, .sc (.int .u32)), (10, .sc (.int .i64))] (.seq (.leaf) (.seq (.cond (.leaf) (.leaf)) (.seq (.block (.seq (.leaf) (.seq (.leaf) (.block (.loop [(3, .sc (.int .u32)), (17, .sc (.int .i64))] (.seq (.leaf) (.seq (.cond (.leaf) (.leaf)) (.seq (.block (.seq (.leaf) (.seq (.leaf) (.seq (.leaf) (.leaf))))) (.leaf))))))))) (.leaf))))))) (.seq (.leaf) (.leaf))))
theorem cell_Crc.eq (x0 : Sl) (Q : Int → PP) : denF Tryz.prog Tryz.f284 cell_Crc.ann [.slice x0.p x0.len x0.cap] [.sc (.int .u32)] Q = cell_Crc.F x0 Q := by kernel_rfl
theorem cell_Crc.ok (x0 : Sl) (Q : Int → PP) (h : Heap) (hh : cell_Crc.F x0 Q h) : cell_Crc.C x0 Q h :=
  call_of_den callOK mixed Tryz.func284 (by kernel_rfl) (by rw [cell_Crc.eq]; exact hh)
def cell_Make.F (x0_0 : Bool) (x0_1 : Bool) (x0_2 : Int) (x0_3 : Bytes) (Q : Bytes → Int → PP) : PP :=
  newP 367 [.bool x0_0, .bool x0_1, .int .i64 x0_2, .string (bs x0_3)] fun (a1 : Addr) =>
  lds [.bool, .bool, .int .i64, .str] a1 fun (b2 : Bool) (b3 : Bool) (n4 : Int) (s5 : Bytes) =>
  cell_may.C b2 b3 n4 s5 fun (b6 : Bool) =>
  ifB (!b6) (
    Q ([] : Bytes) (1 : Int)) (
    newP 411 [.int .u8 (0 : Int), .int .u8 (0 : Int), .int .u8 (0 : Int), .int .u8 (0 : Int), .int .u8 (0 : Int), .int .u8 (0 : Int), .int .u8 (0 : Int), .int .u8 (0 : Int), .int .u8 (0 : Int), .int .u8 (0 : Int), .int .u8 (0 : Int), .int .u8 (0 : Int), .int .u8 (0 : Int), .int .u8 (0 : Int), .int .u8 (0 : Int), .int .u8 (0 : Int), .int .u8 (0 : Int), .int .u8 (0 : Int), .int .u8 (0 : Int), .int .u8 (0 : Int), .int .u8 (0 : Int), .int .u8 (0 : Int), .int .u8 (0 : Int), .int .u8 (0 : Int), .int .u8 (0 : Int), .int .u8 (0 : Int), .int .u8 (0 : Int), .int .u8 (0 : Int), .int .u8 (0 : Int), .int .u8 (0 : Int), .int .u8 (0 : Int), .int .u8 (0 : Int)] fun (a7 : Addr) =>
    idxP 1 (some a7) 32 (0 : Int) fun (a8 : Addr) =>
    stP (.int .u8) a8 (64 : Int) (
      joinT [] (fun (M9 : PP) =>
        ld (.bool) (a1.add 0) fun (b10 : Bool) =>
        ifB b10 (
          idxP 1 (some a7) 32 (0 : Int) fun (a11 : Addr) =>
          ld (.int .u8) a11 fun (n12 : Int) =>
          idxP 1 (some a7) 32 (0 : Int) fun (a13 : Addr) =>
          stP (.int .u8) a13 (orI .u8 n12 (1 : Int)) (
            M9)) (
          M9))
      (
        joinT [] (fun (M14 : PP) =>
          ld (.bool) (a1.add 1) fun (b15 : Bool) =>
          ifB b15 (
            idxP 1 (some a7) 32 (0 : Int) fun (a16 : Addr) =>
            ld (.int .u8) a16 fun (n17 : Int) =>
            idxP 1 (some a7) 32 (0 : Int) fun (a18 : Addr) =>
            stP (.int .u8) a18 (orI .u8 n17 (2 : Int)) (
              M14)) (
            M14))
        (
          drawT fun (S19 : PP) =>
          ldG S19 (.str) (a1.add 3) fun (s20 : Bytes) =>
          ldG S19 (.int .i64) (a1.add 2) fun (n21 : Int) =>
          ldG S19 (.int .i64) (a1.add 2) fun (n22 : Int) =>
          guardP (0 ≤ (8 : Int)) (idxP 1 (some a7) 32 (1 : Int) fun (a23 : Addr) =>
            stP (.int .u8) a23 (IntKind.wrap .u8 (s20.length : Int)) (
              withS S19 (
                idxP 1 (some a7) 32 (2 : Int) fun (a24 : Addr) =>
                stP (.int .u8) a24 (IntKind.wrap .u8 n21) (
                  withS S19 (
                    idxP 1 (some a7) 32 (3 : Int) fun (a25 : Addr) =>
                    stP (.int .u8) a25 (IntKind.wrap .u8 (Int.fdiv n22 (2 ^ (min (8 : Int).toNat (IntKind.bits .i64))))) (
                      drawT fun (S26 : PP) =>
                      sliceSl 1 (some a7) 32 (4 : Int) (32 : Int) (32 : Int) fun (p27 : Option Addr) (k28 c29 : Nat) =>
                      ldG S26 (.str) (a1.add 3) fun (s30 : Bytes) =>
                      copyP 1 p27 k28 (.string (bs s30)) fun (m31 : Nat) =>
                      sliceSl 1 (some a7) 32 0 (28 : Int) (32 : Int) fun (p32 : Option Addr) (k33 c34 : Nat) =>
                      bytesP p32 k33 fun (s35 : Bytes) =>
                      newP 9 [.string (bs s35)] fun (a36 : Addr) =>
                      cell_Crc.C (⟨some a36, 1, 1⟩ : Sl) fun (n37 : Int) =>
                      loopT [.int .u32, .int .i64] (fun (K38 : Int → Int → PP) (n39 : Int) (n40 : Int) =>
                        ifB (decide (n40 < (32 : Int))) (
                        idxP 1 (some a7) 32 n40 fun (a41 : Addr) =>
                        stP (.int .u8) a41 (IntKind.wrap .u8 n39) (
                        guardP (0 ≤ (8 : Int)) (K38 (Int.fdiv n39 (2 ^ (min (8 : Int).toNat (IntKind.bits .u32)))) (IntKind.wrap .i64 (n40 + (1 : Int)))))) (
                        sliceSl 1 (some a7) 32 0 (32 : Int) (32 : Int) fun (p42 : Option Addr) (k43 c44 : Nat) =>
                        bytesP p42 k43 fun (s45 : Bytes) =>
                        Q s45 (0 : Int))) n37 (28 : Int)))))))))))
def cell_Make.ann : Ann := .seq (.leaf) (.seq (.seq (.leaf) (.cond (.seq (.leaf) (.leaf)) (.leaf))) (.seq (.leaf) (.seq (.leaf) (.join [] (.seq (.leaf) (.cond (.leaf) (.leaf))) (.join [] (.seq (.leaf) (.cond (.leaf) (.leaf))) (.seq (.draw [3, 4, 5, 6, 7, 8, 9, 10, 11, 12, 13, 14] (.take 0 (.take 1 (.take 2 (.take 3 (.take 4 (.take 5 (.take 6 (.take 7 (.take 8 (.take 9 (.take 10 (.take 11 (.alt 12 (.take 13 (.alt 14 (.take 15 (.alt 16 (.done) (.none))) (.none))) (.none))))))))))))))) (.seq (.draw [] (.take 0 (.take 1 (.take 2 (.alt 3 (.done) (.none)))))) (.seq (.leaf) (.seq (.seq (.leaf) (.block (.loop [(5, .sc (.int .u32)), (6, .sc (.int .i64))] (.seq (.seq (.leaf) (.cond (.leaf) (.leaf))) (.seq (.block (.seq (.leaf) (.leaf))) (.leaf)))))) (.seq (.leaf) (.leaf)))))))))))
theorem cell_Make.eq (x0_0 : Bool) (x0_1 : Bool) (x0_2 : Int) (x0_3 : Bytes) (Q : Bytes → Int → PP) : denF Tryz.prog Tryz.f304 cell_Make.ann [.agg #[.bool x0_0, .bool x0_1, .int .i64 x0_2, .string (bs x0_3)]] [.sc .str, .sc (.int .i64)] Q = cell_Make.F x0_0 x0_1 x0_2 x0_3 Q := by kernel_rfl
theorem cell_Make.ok (x0_0 : Bool) (x0_1 : Bool) (x0_2 : Int) (x0_3 : Bytes) (Q : Bytes → Int → PP) (h : Heap) (hh : cell_Make.F x0_0 x0_1 x0_2 x0_3 Q h) : cell_Make.C x0_0 x0_1 x0_2 x0_3 Q h :=
  call_of_den callOK mixed Tryz.func304 (by kernel_rfl) (by rw [cell_Make.eq]; exact hh)
def frame_put.F (x0 : Option Addr) (x1 : Bytes) (Q : PP) : PP :=
  loopT [.bool, .str, .int .i64] (fun (K1 : Bool → Bytes → Int → PP) (b2 : Bool) (s3 : Bytes) (n4 : Int) =>
    ifB b2 (
      sliceStr s3 0 (if (24 : Int) < (s3.length : Int) then (24 : Int) else (s3.length : Int)) fun (s5 : Bytes) =>
      cell_Make.C (n4 == (0 : Int)) (!(decide ((if (24 : Int) < (s3.length : Int) then (24 : Int) else (s3.length : Int)) < (s3.length : Int)))) n4 s5 fun (s6 : Bytes) (n7 : Int) =>
      strings_Builder_WriteString.C x0 s6 fun (n8 : Int) (v9 : Value) =>
      sliceStr s3 (if (24 : Int) < (s3.length : Int) then (24 : Int) else (s3.length : Int)) (s3.length : Int) fun (s10 : Bytes) =>
      K1 (decide ((if (24 : Int) < (s3.length : Int) then (24 : Int) else (s3.length : Int)) < (s3.length : Int))) s10 (IntKind.wrap .i64 (n4 + (1 : Int)))) (
      Q)) true x1 (0 : Int)
def frame_put.ann : Ann := .seq (.leaf) (.block (.loop [(5, .sc .bool), (1, .sc .str), (4, .sc (.int .i64))] (.seq (.seq (.leaf) (.cond (.leaf) (.leaf))) (.seq (.block (.seq (.leaf) (.seq (.leaf) (.seq (.leaf) (.seq (.leaf) (.leaf)))))) (.leaf)))))
theorem frame_put.eq (x0 : Option Addr) (x1 : Bytes) (Q : PP) : denF Tryz.prog Tryz.f215 frame_put.ann [.pointer x0, .string (bs x1)] [] Q = frame_put.F x0 x1 Q := by kernel_rfl
theorem frame_put.ok (x0 : Option Addr) (x1 : Bytes) (Q : PP) (h : Heap) (hh : frame_put.F x0 x1 Q h) : frame_put.C x0 x1 Q h :=
  call_of_den callOK mixed Tryz.func215 (by kernel_rfl) (by rw [frame_put.eq]; exact hh)
def frame_Write.F (x0 : Sl) (Q : Bytes → Int → PP) : PP :=
  newP 251 [.pointer (none : Option Addr), .slice (none : Option Addr) 0 0] fun (a1 : Addr) =>
  loopT [.str, .int .i64, .int .i64] (fun (K2 : Bytes → Int → Int → PP) (s3 : Bytes) (n4 : Int) (n5 : Int) =>
    ifB (decide (n5 < (x0.len : Int))) (
      idxP 1 x0.p x0.len n5 fun (a6 : Addr) =>
      ld (.str) a6 fun (s7 : Bytes) =>
      ifB (decide ((s7.length : Int) > (524288 : Int))) (
        Q ([] : Bytes) (3 : Int)) (
        frame_put.C (some a1) s7 (
          K2 s3 n4 (IntKind.wrap .i64 (n5 + (1 : Int)))))) (
      strings_Builder_String.C (some a1) fun (s8 : Bytes) =>
      Q s8 (0 : Int))) ([] : Bytes) (0 : Int) (0 : Int)
def frame_Write.ann : Ann := .seq (.leaf) (.seq (.leaf) (.seq (.seq (.leaf) (.block (.loop [(2, .sc .str), (3, .sc (.int .i64)), (9, .sc (.int .i64))] (.seq (.leaf) (.seq (.cond (.leaf) (.leaf)) (.seq (.block (.seq (.leaf) (.seq (.seq (.leaf) (.cond (.seq (.leaf) (.leaf)) (.leaf))) (.leaf)))) (.leaf))))))) (.seq (.leaf) (.leaf))))
theorem frame_Write.eq (x0 : Sl) (Q : Bytes → Int → PP) : denF Tryz.prog Tryz.f142 frame_Write.ann [.slice x0.p x0.len x0.cap] [.sc .str, .sc (.int .i64)] Q = frame_Write.F x0 Q := by kernel_rfl
theorem frame_Write.ok (x0 : Sl) (Q : Bytes → Int → PP) (h : Heap) (hh : frame_Write.F x0 Q h) : frame_Write.C x0 Q h :=
  call_of_den callOK mixed Tryz.func142 (by kernel_rfl) (by rw [frame_Write.eq]; exact hh)
def wal_Log_Add.F (x0 : Option Addr) (x1_0 : Int) (x1_1 : Sl) (Q : Int → PP) : PP :=
  newP 38 [.int .u64 x1_0, .slice x1_1.p x1_1.len x1_1.cap] fun (a1 : Addr) =>
  wal_Log_none.C x0 fun (b2 : Bool) =>
  ifB b2 (
    Q (2 : Int)) (
    lds [.int .u64, .slice] a1 fun (n3 : Int) (l4 : Sl) =>
    batch_Encode.C n3 l4 fun (s5 : Bytes) (n6 : Int) =>
    ifB (n6 != (0 : Int)) (
      Q n6) (
      newP 9 [.string (bs s5)] fun (a7 : Addr) =>
      frame_Write.C (⟨some a7, 1, 1⟩ : Sl) fun (s8 : Bytes) (n9 : Int) =>
      ifB (n9 != (0 : Int)) (
        Q n9) (
        nilP x0 fun (a10 : Addr) =>
        ld (.int .u64) (a10.add 0) fun (n11 : Int) =>
        disk_Name.C ([108, 111, 103] : Bytes) n11 fun (s12 : Bytes) =>
        nilP x0 fun (a13 : Addr) =>
        ld (.any) (a13.add 1) fun (v14 : Value) =>
        callV Tryz.prog v14 #[.string (bs s12), .string (bs s8)] [.sc (.int .i64)] fun (n15 : Int) =>
        ifB (n15 != (0 : Int)) (
          Q n15) (
          nilP x0 fun (a16 : Addr) =>
          ld (.any) (a16.add 2) fun (v17 : Value) =>
          callV Tryz.prog v17 #[.string (bs s12)] [.sc (.int .i64)] fun (n18 : Int) =>
          Q n18))))
def wal_Log_Add.ann : Ann := .seq (.leaf) (.seq (.seq (.leaf) (.cond (.seq (.leaf) (.leaf)) (.leaf))) (.seq (.leaf) (.seq (.seq (.leaf) (.cond (.seq (.leaf) (.leaf)) (.leaf))) (.seq (.leaf) (.seq (.seq (.leaf) (.cond (.seq (.leaf) (.leaf)) (.leaf))) (.seq (.leaf) (.seq (.seq (.leaf) (.seq (.leaf) (.cond (.seq (.leaf) (.leaf)) (.leaf)))) (.seq (.leaf) (.leaf)))))))))
theorem wal_Log_Add.eq (x0 : Option Addr) (x1_0 : Int) (x1_1 : Sl) (Q : Int → PP) : denF Tryz.prog Tryz.f72 wal_Log_Add.ann [.pointer x0, .agg #[.int .u64 x1_0, .slice x1_1.p x1_1.len x1_1.cap]] [.sc (.int .i64)] Q = wal_Log_Add.F x0 x1_0 x1_1 Q := by kernel_rfl
theorem wal_Log_Add.ok (x0 : Option Addr) (x1_0 : Int) (x1_1 : Sl) (Q : Int → PP) (h : Heap) (hh : wal_Log_Add.F x0 x1_0 x1_1 Q h) : wal_Log_Add.C x0 x1_0 x1_1 Q h :=
  call_of_den callOK mixed Tryz.func72 (by kernel_rfl) (by rw [wal_Log_Add.eq]; exact hh)
def disk_Disk_Fuse.F (x0 : Option Addr) (x1 : Int) (Q : PP) : PP :=
  disk_Disk_none.C x0 fun (b1 : Bool) =>
  ifB (!b1) (
    nilP x0 fun (a2 : Addr) =>
    stP (.int .i64) (a2.add 5) (if (0 : Int) > x1 then (0 : Int) else x1) (
      Q)) (
    Q)
def disk_Disk_Fuse.ann : Ann := .seq (.leaf) (.cond (.leaf) (.leaf))
theorem disk_Disk_Fuse.eq (x0 : Option Addr) (x1 : Int) (Q : PP) : denF Tryz.prog Tryz.f56 disk_Disk_Fuse.ann [.pointer x0, .int .i64 x1] [] Q = disk_Disk_Fuse.F x0 x1 Q := by kernel_rfl
theorem disk_Disk_Fuse.ok (x0 : Option Addr) (x1 : Int) (Q : PP) (h : Heap) (hh : disk_Disk_Fuse.F x0 x1 Q h) : disk_Disk_Fuse.C x0 x1 Q h :=
  call_of_den callOK mixed Tryz.func56 (by kernel_rfl) (by rw [disk_Disk_Fuse.eq]; exact hh)
def slices_nextPowerOfTwo.F (x0 : Int) (Q : Int → PP) : PP :=
  math_bits_Len.C (IntKind.wrap .u64 x0) fun (n1 : Int) =>
  guardP (0 ≤ n1) (Q (IntKind.wrap .u64 ((1 : Int) * 2 ^ (min n1.toNat (IntKind.bits .u64)))))
def slices_nextPowerOfTwo.ann : Ann := .seq (.leaf) (.seq (.leaf) (.leaf))
theorem slices_nextPowerOfTwo.eq (x0 : Int) (Q : Int → PP) : denF Tryz.prog Tryz.f314 slices_nextPowerOfTwo.ann [.int .i64 x0] [.sc (.int .u64)] Q = slices_nextPowerOfTwo.F x0 Q := by kernel_rfl
theorem slices_nextPowerOfTwo.ok (x0 : Int) (Q : Int → PP) (h : Heap) (hh : slices_nextPowerOfTwo.F x0 Q h) : slices_nextPowerOfTwo.C x0 Q h :=
  call_of_den callOK mixed Tryz.func314 (by kernel_rfl) (by rw [slices_nextPowerOfTwo.eq]; exact hh)
def slices_xorshift_Next.F (x0 : Option Addr) (Q : Int → PP) : PP :=
  drawT fun (S1 : PP) =>
  nilP x0 fun (a2 : Addr) =>
  ldG S1 (.int .u64) a2 fun (n3 : Int) =>
  nilP x0 fun (a4 : Addr) =>
  ldG S1 (.int .u64) a4 fun (n5 : Int) =>
  guardP (0 ≤ (13 : Int)) (nilP x0 fun (a6 : Addr) =>
    stP (.int .u64) a6 (xor2I .u64 n3 (IntKind.wrap .u64 (n5 * 2 ^ (min (13 : Int).toNat (IntKind.bits .u64))))) (
      drawT fun (S7 : PP) =>
      nilP x0 fun (a8 : Addr) =>
      ldG S7 (.int .u64) a8 fun (n9 : Int) =>
      nilP x0 fun (a10 : Addr) =>
      ldG S7 (.int .u64) a10 fun (n11 : Int) =>
      guardP (0 ≤ (7 : Int)) (nilP x0 fun (a12 : Addr) =>
        stP (.int .u64) a12 (xor2I .u64 n9 (Int.fdiv n11 (2 ^ (min (7 : Int).toNat (IntKind.bits .u64))))) (
          drawT fun (S13 : PP) =>
          nilP x0 fun (a14 : Addr) =>
          ldG S13 (.int .u64) a14 fun (n15 : Int) =>
          nilP x0 fun (a16 : Addr) =>
          ldG S13 (.int .u64) a16 fun (n17 : Int) =>
          guardP (0 ≤ (17 : Int)) (nilP x0 fun (a18 : Addr) =>
            stP (.int .u64) a18 (xor2I .u64 n15 (IntKind.wrap .u64 (n17 * 2 ^ (min (17 : Int).toNat (IntKind.bits .u64))))) (
              nilP x0 fun (a19 : Addr) =>
              ld (.int .u64) a19 fun (n20 : Int) =>
              Q n20))))))
def slices_xorshift_Next.ann : Ann := .seq (.leaf) (.seq (.draw [3, 4, 5, 6, 7] (.take 0 (.take 1 (.take 2 (.take 3 (.take 4 (.take 5 (.take 6 (.take 7 (.take 8 (.alt 9 (.done) (.none)))))))))))) (.seq (.draw [3, 4, 5, 6, 7] (.take 0 (.take 1 (.take 2 (.take 3 (.take 4 (.take 5 (.take 6 (.take 7 (.take 8 (.alt 9 (.done) (.none)))))))))))) (.seq (.draw [3, 4, 5, 6, 7] (.take 0 (.take 1 (.take 2 (.take 3 (.take 4 (.take 5 (.take 6 (.take 7 (.take 8 (.alt 9 (.done) (.none)))))))))))) (.seq (.leaf) (.leaf)))))
theorem slices_xorshift_Next.eq (x0 : Option Addr) (Q : Int → PP) : denF Tryz.prog Tryz.f315 slices_xorshift_Next.ann [.pointer x0] [.sc (.int .u64)] Q = slices_xorshift_Next.F x0 Q := by kernel_rfl
theorem slices_xorshift_Next.ok (x0 : Option Addr) (Q : Int → PP) (h : Heap) (hh : slices_xorshift_Next.F x0 Q h) : slices_xorshift_Next.C x0 Q h :=
  call_of_den callOK mixed Tryz.func315 (by kernel_rfl) (by rw [slices_xorshift_Next.eq]; exact hh)
end Go.Proofs.W
end
