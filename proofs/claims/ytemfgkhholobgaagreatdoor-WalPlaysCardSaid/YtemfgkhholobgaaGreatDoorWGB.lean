/-  -/
import Derived.Test.YtemfgkhholobgaaGreatDoorWGC
section
set_option maxRecDepth 100000
set_option linter.unusedVariables false
namespace Go.Proofs.W
open Go Go.Shal
def disk_Disk_List.F (x0 : Option Addr) (Q : Sl → PP) : PP :=
  disk_Disk_none.C x0 fun (b1 : Bool) =>
  ifB b1 (
    Q (⟨(none : Option Addr), 0, 0⟩ : Sl)) (
    nilP x0 fun (a2 : Addr) =>
    ld (.map) (a2.add 1) fun (m3 : Option Nat) =>
    maps_Keys_map_string_disk_file_string_disk_file.C m3 fun (v4 : Value) =>
    slices_Sorted_string.C v4 fun (l5 : Sl) =>
    Q l5)
def disk_Disk_List.ann : Ann := .seq (.leaf) (.seq (.seq (.leaf) (.cond (.seq (.leaf) (.leaf)) (.leaf))) (.seq (.leaf) (.leaf)))
theorem disk_Disk_List.eq (x0 : Option Addr) (Q : Sl → PP) : denF Tryz.prog Tryz.f33 disk_Disk_List.ann [.pointer x0] [.sc .slice] Q = disk_Disk_List.F x0 Q := by kernel_rfl
theorem disk_Disk_List.ok (x0 : Option Addr) (Q : Sl → PP) (h : Heap) (hh : disk_Disk_List.F x0 Q h) : disk_Disk_List.C x0 Q h :=
  call_of_den callOK mixed Tryz.func33 (by kernel_rfl) (by rw [disk_Disk_List.eq]; exact hh)
def disk_file_crash.F (x0 : Option Addr) (x1_0 : Int) (x1_1 : Sl) (x1_2 : Sl) (x2 : Int) (Q : PP) : PP :=
  newP 42 [.int .i64 x1_0, .slice x1_1.p x1_1.len x1_1.cap, .slice x1_2.p x1_2.len x1_2.cap] fun (a1 : Addr) =>
  joinT [.int .i64] (fun (M2 : Int → PP) =>
    ld (.slice) (a1.add 1) fun (l3 : Sl) =>
    ifB (decide (x2 < (l3.len : Int))) (
      drawT fun (S4 : PP) =>
      ldG S4 (.slice) (a1.add 1) fun (l5 : Sl) =>
      idxP 1 l5.p l5.len x2 fun (a6 : Addr) =>
      ldG S4 (.int .i64) a6 fun (n7 : Int) =>
      nilP x0 fun (a8 : Addr) =>
      ldG S4 (.slice) (a8.add 0) fun (l9 : Sl) =>
      nilP x0 fun (a10 : Addr) =>
      ldG S4 (.int .i64) (a10.add 1) fun (n11 : Int) =>
      M2 (if (IntKind.wrap .i64 ((l9.len : Int) - n11)) < (if (0 : Int) > n7 then (0 : Int) else n7) then (IntKind.wrap .i64 ((l9.len : Int) - n11)) else (if (0 : Int) > n7 then (0 : Int) else n7))) (
      M2 (0 : Int)))
  (fun (n12 : Int) =>
    drawT fun (S13 : PP) =>
    nilP x0 fun (a14 : Addr) =>
    ldG S13 (.slice) (a14.add 0) fun (l15 : Sl) =>
    nilP x0 fun (a16 : Addr) =>
    ldG S13 (.int .i64) (a16.add 1) fun (n17 : Int) =>
    nilP x0 fun (a18 : Addr) =>
    ldG S13 (.int .i64) (a18.add 1) fun (n19 : Int) =>
    sliceSl 1 l15.p l15.cap n17 (IntKind.wrap .i64 (n19 + n12)) (l15.cap : Int) fun (p20 : Option Addr) (k21 c22 : Nat) =>
    joinT [] (fun (M23 : PP) =>
      joinT [.bool] (fun (M24 : Bool → PP) =>
        ifB (decide (n12 > (0 : Int))) (
          ld (.slice) (a1.add 2) fun (l25 : Sl) =>
          M24 (decide (x2 < (l25.len : Int)))) (
          M24 false))
      (fun (b26 : Bool) =>
        ifB b26 (
          ld (.slice) (a1.add 2) fun (l27 : Sl) =>
          idxP 2 l27.p l27.len x2 fun (a28 : Addr) =>
          ld (.int .i64) (a28.add 0) fun (n29 : Int) =>
          guardP (n12 ≠ 0) (guardP (n12 ≠ 0) (loopT [.int .i64] (fun (K30 : Int → PP) (n31 : Int) =>
                ifB (decide (n31 < (if (IntKind.wrap .i64 (n12 - (Int.tmod (IntKind.wrap .i64 ((Int.tmod n29 n12) + n12)) n12))) < (4 : Int) then (IntKind.wrap .i64 (n12 - (Int.tmod (IntKind.wrap .i64 ((Int.tmod n29 n12) + n12)) n12))) else (4 : Int)))) (
                  drawT fun (S32 : PP) =>
                  idxP 1 p20 k21 (IntKind.wrap .i64 ((Int.tmod (IntKind.wrap .i64 ((Int.tmod n29 n12) + n12)) n12) + n31)) fun (a33 : Addr) =>
                  ldG S32 (.int .u8) a33 fun (n34 : Int) =>
                  ldG S32 (.slice) (a1.add 2) fun (l35 : Sl) =>
                  idxP 2 l35.p l35.len x2 fun (a36 : Addr) =>
                  ldG S32 (.int .u32) (a36.add 1) fun (n37 : Int) =>
                  guardP (0 ≤ (IntKind.wrap .i64 ((8 : Int) * n31))) (idxP 1 p20 k21 (IntKind.wrap .i64 ((Int.tmod (IntKind.wrap .i64 ((Int.tmod n29 n12) + n12)) n12) + n31)) fun (a38 : Addr) =>
                    stP (.int .u8) a38 (xor2I .u8 n34 (IntKind.wrap .u8 (Int.fdiv n37 (2 ^ (min (IntKind.wrap .i64 ((8 : Int) * n31)).toNat (IntKind.bits .u32)))))) (
                      K30 (IntKind.wrap .i64 (n31 + (1 : Int)))))) (
                  M23)) (0 : Int)))) (
          M23)))
    (
      drawT fun (S39 : PP) =>
      nilP x0 fun (a40 : Addr) =>
      ldG S39 (.slice) (a40.add 0) fun (l41 : Sl) =>
      nilP x0 fun (a42 : Addr) =>
      ldG S39 (.int .i64) (a42.add 1) fun (n43 : Int) =>
      sliceSl 1 l41.p l41.cap 0 (IntKind.wrap .i64 (n43 + n12)) (l41.cap : Int) fun (p44 : Option Addr) (k45 c46 : Nat) =>
      nilP x0 fun (a47 : Addr) =>
      stP (.slice) (a47.add 0) (⟨p44, k45, c46⟩ : Sl) (
        Q)))
def disk_file_crash.ann : Ann := .seq (.leaf) (.seq (.leaf) (.join [(6, .sc (.int .i64))] (.seq (.leaf) (.cond (.draw [2, 4, 5, 6, 7, 8, 9, 10, 11, 12, 13, 14, 15, 16] (.take 0 (.take 1 (.take 2 (.take 3 (.take 4 (.take 5 (.take 6 (.take 7 (.take 8 (.take 9 (.take 10 (.take 11 (.take 12 (.take 13 (.take 14 (.take 15 (.take 16 (.take 17 (.done)))))))))))))))))))) (.leaf))) (.seq (.draw [4, 5, 6, 7, 8, 9, 10, 11, 12, 13, 14] (.take 0 (.take 1 (.take 2 (.take 3 (.take 4 (.take 5 (.take 6 (.take 7 (.take 8 (.take 9 (.take 10 (.take 11 (.take 12 (.take 13 (.take 14 (.take 15 (.done)))))))))))))))))) (.join [] (.join [(55, .sc .bool)] (.leaf) (.cond (.seq (.leaf) (.seq (.leaf) (.block (.loop [(72, .sc (.int .i64))] (.seq (.leaf) (.seq (.cond (.leaf) (.leaf)) (.seq (.block (.seq (.leaf) (.draw [6, 7, 8, 9, 10, 11, 12, 13, 14, 15, 16] (.take 0 (.take 1 (.take 2 (.take 3 (.take 4 (.take 5 (.take 6 (.take 7 (.take 8 (.take 9 (.take 10 (.take 11 (.take 12 (.take 13 (.take 14 (.take 15 (.take 16 (.take 17 (.alt 18 (.done) (.none))))))))))))))))))))))) (.leaf)))))))) (.leaf))) (.draw [5, 6, 7, 8, 9, 10, 11] (.take 0 (.take 1 (.take 2 (.take 3 (.take 4 (.take 5 (.take 6 (.take 7 (.take 8 (.take 9 (.take 10 (.take 11 (.take 12 (.take 13 (.alt 14 (.done) (.none)))))))))))))))))))))
theorem disk_file_crash.eq (x0 : Option Addr) (x1_0 : Int) (x1_1 : Sl) (x1_2 : Sl) (x2 : Int) (Q : PP) : denF Tryz.prog Tryz.f128 disk_file_crash.ann [.pointer x0, .agg #[.int .i64 x1_0, .slice x1_1.p x1_1.len x1_1.cap, .slice x1_2.p x1_2.len x1_2.cap], .int .i64 x2] [] Q = disk_file_crash.F x0 x1_0 x1_1 x1_2 x2 Q := by kernel_rfl
theorem disk_file_crash.ok (x0 : Option Addr) (x1_0 : Int) (x1_1 : Sl) (x1_2 : Sl) (x2 : Int) (Q : PP) (h : Heap) (hh : disk_file_crash.F x0 x1_0 x1_1 x1_2 x2 Q h) : disk_file_crash.C x0 x1_0 x1_1 x1_2 x2 Q h :=
  call_of_den callOK mixed Tryz.func128 (by kernel_rfl) (by rw [disk_file_crash.eq]; exact hh)
def disk_Disk_Crash.F (x0 : Option Addr) (x1_0 : Int) (x1_1 : Sl) (x1_2 : Sl) (Q : PP) : PP :=
  newP 42 [.int .i64 x1_0, .slice x1_1.p x1_1.len x1_1.cap, .slice x1_2.p x1_2.len x1_2.cap] fun (a1 : Addr) =>
  disk_Disk_none.C x0 fun (b2 : Bool) =>
  ifB b2 (
    Q) (
    nilP x0 fun (a3 : Addr) =>
    stP (.bool) (a3.add 4) true (
      drawT fun (S4 : PP) =>
      nilP x0 fun (a5 : Addr) =>
      ldG S4 (.slice) (a5.add 3) fun (l6 : Sl) =>
      ldG S4 (.int .i64) (a1.add 0) fun (n7 : Int) =>
      nilP x0 fun (a8 : Addr) =>
      ldG S4 (.slice) (a8.add 3) fun (l9 : Sl) =>
      sliceSl 3 l6.p l6.cap 0 (if (l9.len : Int) < (if (0 : Int) > n7 then (0 : Int) else n7) then (l9.len : Int) else (if (0 : Int) > n7 then (0 : Int) else n7)) (l6.cap : Int) fun (p10 : Option Addr) (k11 c12 : Nat) =>
      loopT [.int .i64] (fun (K13 : Int → PP) (n14 : Int) =>
        ifB (decide (n14 < (k11 : Int))) (
          idxP 3 p10 k11 n14 fun (a15 : Addr) =>
          lds [.str, .str, .ptr] a15 fun (s16 : Bytes) (s17 : Bytes) (p18 : Option Addr) =>
          newP 169 [.string (bs ([] : Bytes)), .string (bs ([] : Bytes)), .pointer (none : Option Addr)] fun (a19 : Addr) =>
          stsP a19 [.str, .str, .ptr] (s16, s17, p18, ()) 0 (
            drawT fun (S20 : PP) =>
            ldsG S20 [.str, .str, .ptr] a19 fun (s21 : Bytes) (s22 : Bytes) (p23 : Option Addr) =>
            nilP x0 fun (a24 : Addr) =>
            ldG S20 (.map) (a24.add 2) fun (m25 : Option Nat) =>
            disk_change_does.C s21 s22 p23 m25 (
              K13 (IntKind.wrap .i64 (n14 + (1 : Int)))))) (
          nilP x0 fun (a26 : Addr) =>
          ld (.map) (a26.add 2) fun (m27 : Option Nat) =>
          maps_Clone_map_string_disk_file_string_disk_file.C m27 fun (m28 : Option Nat) =>
          nilP x0 fun (a29 : Addr) =>
          stP (.map) (a29.add 1) m28 (
            nilP x0 fun (a30 : Addr) =>
            stP (.slice) (a30.add 3) (⟨(none : Option Addr), 0, 0⟩ : Sl) (
              disk_Disk_List.C x0 fun (l31 : Sl) =>
              loopT [.int .i64, .int .i64] (fun (K32 : Int → Int → PP) (n33 : Int) (n34 : Int) =>
                ifB (decide (n34 < (l31.len : Int))) (
                  joinT [.int .i64] (fun (M35 : Int → PP) =>
                    idxP 1 l31.p l31.len n34 fun (a36 : Addr) =>
                    ld (.str) a36 fun (s37 : Bytes) =>
                    nilP x0 fun (a38 : Addr) =>
                    ld (.map) (a38.add 1) fun (m39 : Option Nat) =>
                    lookS (.ptr) (none : Option Addr) m39 s37 fun (p40 : Option Addr) (b41 : Bool) =>
                    drawT fun (S42 : PP) =>
                    nilP p40 fun (a43 : Addr) =>
                    ldG S42 (.int .i64) (a43.add 1) fun (n44 : Int) =>
                    nilP p40 fun (a45 : Addr) =>
                    ldG S42 (.slice) (a45.add 0) fun (l46 : Sl) =>
                    ifB (decide (n44 < (l46.len : Int))) (
                      lds [.int .i64, .slice, .slice] a1 fun (n47 : Int) (l48 : Sl) (l49 : Sl) =>
                      disk_file_crash.C p40 n47 l48 l49 n33 (
                        nilP p40 fun (a50 : Addr) =>
                        ld (.slice) (a50.add 0) fun (l51 : Sl) =>
                        nilP p40 fun (a52 : Addr) =>
                        stP (.int .i64) (a52.add 1) (l51.len : Int) (
                        M35 (IntKind.wrap .i64 (n33 + (1 : Int)))))) (
                      M35 n33))
                  (fun (n53 : Int) =>
                    K32 n53 (IntKind.wrap .i64 (n34 + (1 : Int))))) (
                  Q)) (0 : Int) (0 : Int))))) (0 : Int)))
def disk_Disk_Crash.ann : Ann := .seq (.leaf) (.seq (.seq (.leaf) (.cond (.leaf) (.leaf))) (.seq (.leaf) (.seq (.seq (.draw [4, 5, 6, 7, 8, 9, 10, 11, 12, 13, 14, 15] (.take 0 (.take 1 (.take 2 (.take 3 (.take 4 (.take 5 (.take 6 (.take 7 (.take 8 (.take 9 (.take 10 (.take 11 (.take 12 (.take 13 (.take 14 (.take 15 (.done)))))))))))))))))) (.block (.loop [(30, .sc (.int .i64))] (.seq (.leaf) (.seq (.cond (.leaf) (.leaf)) (.seq (.block (.seq (.leaf) (.draw [1, 2, 3, 4] (.take 0 (.take 1 (.take 2 (.take 3 (.take 4 (.alt 5 (.done) (.none)))))))))) (.leaf))))))) (.seq (.leaf) (.seq (.leaf) (.seq (.leaf) (.block (.loop [(6, .sc (.int .i64)), (55, .sc (.int .i64))] (.seq (.leaf) (.seq (.cond (.leaf) (.leaf)) (.join [(6, .sc (.int .i64))] (.block (.seq (.leaf) (.seq (.leaf) (.seq (.draw [4, 5, 6, 7, 8, 9] (.take 0 (.take 1 (.take 2 (.take 3 (.take 4 (.take 5 (.take 6 (.take 7 (.take 8 (.take 9 (.done)))))))))))) (.cond (.seq (.leaf) (.seq (.leaf) (.leaf))) (.leaf)))))) (.leaf))))))))))))
theorem disk_Disk_Crash.eq (x0 : Option Addr) (x1_0 : Int) (x1_1 : Sl) (x1_2 : Sl) (Q : PP) : denF Tryz.prog Tryz.f60 disk_Disk_Crash.ann [.pointer x0, .agg #[.int .i64 x1_0, .slice x1_1.p x1_1.len x1_1.cap, .slice x1_2.p x1_2.len x1_2.cap]] [] Q = disk_Disk_Crash.F x0 x1_0 x1_1 x1_2 Q := by kernel_rfl
theorem disk_Disk_Crash.ok (x0 : Option Addr) (x1_0 : Int) (x1_1 : Sl) (x1_2 : Sl) (Q : PP) (h : Heap) (hh : disk_Disk_Crash.F x0 x1_0 x1_1 x1_2 Q h) : disk_Disk_Crash.C x0 x1_0 x1_1 x1_2 Q h :=
  call_of_den callOK mixed Tryz.func60 (by kernel_rfl) (by rw [disk_Disk_Crash.eq]; exact hh)
def disk_Disk_Start.F (x0 : Option Addr) (Q : PP) : PP :=
  disk_Disk_none.C x0 fun (b1 : Bool) =>
  ifB (!b1) (
    nilP x0 fun (a2 : Addr) =>
    stP (.bool) (a2.add 4) false (
      Q)) (
    Q)
def disk_Disk_Start.ann : Ann := .seq (.leaf) (.cond (.leaf) (.leaf))
theorem disk_Disk_Start.eq (x0 : Option Addr) (Q : PP) : denF Tryz.prog Tryz.f59 disk_Disk_Start.ann [.pointer x0] [] Q = disk_Disk_Start.F x0 Q := by kernel_rfl
theorem disk_Disk_Start.ok (x0 : Option Addr) (Q : PP) (h : Heap) (hh : disk_Disk_Start.F x0 Q h) : disk_Disk_Start.C x0 Q h :=
  call_of_den callOK mixed Tryz.func59 (by kernel_rfl) (by rw [disk_Disk_Start.eq]; exact hh)
def wal_Replay_1.F (x0 : Int) (x1 : Addr) (Q : Bool → PP) : PP :=
  ld (.int .u64) x1 fun (n1 : Int) =>
  Q (decide (x0 ≥ n1))
def wal_Replay_1.ann : Ann := .seq (.leaf) (.seq (.leaf) (.leaf))
theorem wal_Replay_1.eq (x0 : Int) (x1 : Addr) (Q : Bool → PP) : denF Tryz.prog Tryz.f144 wal_Replay_1.ann [.int .u64 x0, .pointer (some x1)] [.sc .bool] Q = wal_Replay_1.F x0 x1 Q := by kernel_rfl
theorem wal_Replay_1.ok (x0 : Int) (x1 : Addr) (Q : Bool → PP) (h : Heap) (hh : wal_Replay_1.F x0 x1 Q h) : wal_Replay_1.C x0 x1 Q h :=
  call_of_den callOK mixed Tryz.func144 (by kernel_rfl) (by rw [wal_Replay_1.eq]; exact hh)
def disk_Disk_Read.F (x0 : Option Addr) (x1 : Bytes) (Q : Bytes → Int → PP) : PP :=
  disk_Disk_file.C x0 x1 fun (p1 : Option Addr) (n2 : Int) =>
  ifB (n2 != (0 : Int)) (
    Q ([] : Bytes) n2) (
    nilP p1 fun (a3 : Addr) =>
    ld (.slice) (a3.add 0) fun (l4 : Sl) =>
    bytesP l4.p l4.len fun (s5 : Bytes) =>
    Q s5 (0 : Int))
def disk_Disk_Read.ann : Ann := .seq (.leaf) (.seq (.leaf) (.seq (.seq (.leaf) (.cond (.seq (.leaf) (.leaf)) (.leaf))) (.seq (.leaf) (.leaf))))
theorem disk_Disk_Read.eq (x0 : Option Addr) (x1 : Bytes) (Q : Bytes → Int → PP) : denF Tryz.prog Tryz.f47 disk_Disk_Read.ann [.pointer x0, .string (bs x1)] [.sc .str, .sc (.int .i64)] Q = disk_Disk_Read.F x0 x1 Q := by kernel_rfl
theorem disk_Disk_Read.ok (x0 : Option Addr) (x1 : Bytes) (Q : Bytes → Int → PP) (h : Heap) (hh : disk_Disk_Read.F x0 x1 Q h) : disk_Disk_Read.C x0 x1 Q h :=
  call_of_den callOK mixed Tryz.func47 (by kernel_rfl) (by rw [disk_Disk_Read.eq]; exact hh)
def cell_Read.F (x0 : Bytes) (Q : Bool → Bool → Int → Bytes → Bool → PP) : PP :=
  newP 367 [.bool false, .bool false, .int .i64 (0 : Int), .string (bs ([] : Bytes))] fun (a1 : Addr) =>
  joinT [.bool] (fun (M2 : Bool → PP) =>
    ifB ((x0.length : Int) != (32 : Int)) (
      M2 true) (
      atS x0 (1 : Int) fun (c3 : UInt8) =>
      M2 (decide ((c3.toNat : Int) > (24 : Int)))))
  (fun (b4 : Bool) =>
    ifB b4 (
      stsP a1 [.bool, .bool, .int .i64, .str] (false, false, (0 : Int), ([] : Bytes), ()) 0 (
        lds [.bool, .bool, .int .i64, .str] a1 fun (b5 : Bool) (b6 : Bool) (n7 : Int) (s8 : Bytes) =>
        Q b5 b6 n7 s8 false)) (
      joinT [.addr] (fun (M9 : Addr → PP) =>
        drawT fun (S10 : PP) =>
        atS x0 (0 : Int) fun (c11 : UInt8) =>
        atS x0 (0 : Int) fun (c12 : UInt8) =>
        atS x0 (2 : Int) fun (c13 : UInt8) =>
        atS x0 (3 : Int) fun (c14 : UInt8) =>
        guardP (0 ≤ (8 : Int)) (atS x0 (1 : Int) fun (c15 : UInt8) =>
          sliceStr x0 (4 : Int) (IntKind.wrap .i64 ((4 : Int) + (IntKind.wrap .i64 (c15.toNat : Int)))) fun (s16 : Bytes) =>
          andP (
            withS S10 (
              newP 367 [.bool false, .bool false, .int .i64 (0 : Int), .string (bs ([] : Bytes))] fun (a17 : Addr) =>
              withS S10 (
                stsP a17 [.bool, .bool, .int .i64, .str] (((andI .u8 (c11.toNat : Int) (1 : Int)) != (0 : Int)), ((andI .u8 (c12.toNat : Int) (2 : Int)) != (0 : Int)), (orI .i64 (IntKind.wrap .i64 (c13.toNat : Int)) (IntKind.wrap .i64 ((IntKind.wrap .i64 (c14.toNat : Int)) * 2 ^ (min (8 : Int).toNat (IntKind.bits .i64))))), s16, ()) 0 (
                  M9 a17)))) (
            newP 367 [.bool false, .bool false, .int .i64 (0 : Int), .string (bs ([] : Bytes))] fun (a18 : Addr) =>
            withS S10 (
              withS S10 (
                stsP a18 [.bool, .bool, .int .i64, .str] (((andI .u8 (c11.toNat : Int) (1 : Int)) != (0 : Int)), ((andI .u8 (c12.toNat : Int) (2 : Int)) != (0 : Int)), (orI .i64 (IntKind.wrap .i64 (c13.toNat : Int)) (IntKind.wrap .i64 ((IntKind.wrap .i64 (c14.toNat : Int)) * 2 ^ (min (8 : Int).toNat (IntKind.bits .i64))))), s16, ()) 0 (
                  M9 a18))))))
      (fun (a19 : Addr) =>
        lds [.bool, .bool, .int .i64, .str] a19 fun (b20 : Bool) (b21 : Bool) (n22 : Int) (s23 : Bytes) =>
        cell_Make.C b20 b21 n22 s23 fun (s24 : Bytes) (n25 : Int) =>
        joinT [.bool] (fun (M26 : Bool → PP) =>
          ifB (n25 != (0 : Int)) (
            M26 true) (
            M26 (!(s24 == x0))))
        (fun (b27 : Bool) =>
          ifB b27 (
            stsP a1 [.bool, .bool, .int .i64, .str] (false, false, (0 : Int), ([] : Bytes), ()) 0 (
              lds [.bool, .bool, .int .i64, .str] a1 fun (b28 : Bool) (b29 : Bool) (n30 : Int) (s31 : Bytes) =>
              Q b28 b29 n30 s31 false)) (
            lds [.bool, .bool, .int .i64, .str] a19 fun (b32 : Bool) (b33 : Bool) (n34 : Int) (s35 : Bytes) =>
            stsP a1 [.bool, .bool, .int .i64, .str] (b32, b33, n34, s35, ()) 0 (
              lds [.bool, .bool, .int .i64, .str] a1 fun (b36 : Bool) (b37 : Bool) (n38 : Int) (s39 : Bytes) =>
              Q b36 b37 n38 s39 true))))))
def cell_Read.ann : Ann := .seq (.leaf) (.seq (.join [(14, .sc .bool)] (.leaf) (.cond (.seq (.leaf) (.leaf)) (.leaf))) (.join [(4, .sc .addr)] (.draw [11, 12, 13, 14, 15, 16, 17, 18, 19, 20, 21, 22, 23] (.take 0 (.take 1 (.take 2 (.take 3 (.take 4 (.take 5 (.take 6 (.take 7 (.take 8 (.take 9 (.take 10 (.take 11 (.take 12 (.take 13 (.take 14 (.take 15 (.take 16 (.take 17 (.take 18 (.take 19 (.take 20 (.take 21 (.alt 22 (.alt 23 (.alt 24 (.done) (.none)) (.none)) (.alt 23 (.alt 22 (.alt 24 (.done) (.none)) (.none)) (.none)))))))))))))))))))))))))) (.seq (.seq (.leaf) (.join [(50, .sc .bool)] (.leaf) (.cond (.seq (.leaf) (.leaf)) (.leaf)))) (.seq (.leaf) (.leaf)))))
theorem cell_Read.eq (x0 : Bytes) (Q : Bool → Bool → Int → Bytes → Bool → PP) : denF Tryz.prog Tryz.f305 cell_Read.ann [.string (bs x0)] [.agg [.bool, .bool, .int .i64, .str], .sc .bool] Q = cell_Read.F x0 Q := by kernel_rfl
theorem cell_Read.ok (x0 : Bytes) (Q : Bool → Bool → Int → Bytes → Bool → PP) (h : Heap) (hh : cell_Read.F x0 Q h) : cell_Read.C x0 Q h :=
  call_of_den callOK mixed Tryz.func305 (by kernel_rfl) (by rw [cell_Read.eq]; exact hh)
def frame_one.F (x0 : Bytes) (Q : Bytes → Int → PP) : PP :=
  newP 251 [.pointer (none : Option Addr), .slice (none : Option Addr) 0 0] fun (a1 : Addr) =>
  loopT [.int .i64, .str, .int .i64] (fun (K2 : Int → Bytes → Int → PP) (n3 : Int) (s4 : Bytes) (n5 : Int) =>
    joinT [.bool] (fun (M6 : Bool → PP) =>
      ifB (decide ((x0.length : Int) ≥ (IntKind.wrap .i64 (n3 + (32 : Int))))) (
        strings_Builder_Len.C (some a1) fun (n7 : Int) =>
        M6 (decide (n7 ≤ (524288 : Int)))) (
        M6 false))
    (fun (b8 : Bool) =>
      ifB b8 (
        sliceStr x0 n3 (IntKind.wrap .i64 (n3 + (32 : Int))) fun (s9 : Bytes) =>
        cell_Read.C s9 fun (b10 : Bool) (b11 : Bool) (n12 : Int) (s13 : Bytes) (b14 : Bool) =>
        newP 367 [.bool false, .bool false, .int .i64 (0 : Int), .string (bs ([] : Bytes))] fun (a15 : Addr) =>
        stsP a15 [.bool, .bool, .int .i64, .str] (b10, b11, n12, s13, ()) 0 (
          joinT [.bool] (fun (M16 : Bool → PP) =>
            ifB (!b14) (
              M16 true) (
              ld (.int .i64) (a15.add 2) fun (n17 : Int) =>
              M16 (n17 != n5)))
          (fun (b18 : Bool) =>
            ifB b18 (
              Q ([] : Bytes) (0 : Int)) (
              ld (.str) (a15.add 3) fun (s19 : Bytes) =>
              strings_Builder_WriteString.C (some a1) s19 fun (n20 : Int) (v21 : Value) =>
              joinT [.bool] (fun (M22 : Bool → PP) =>
                ld (.bool) (a15.add 1) fun (b23 : Bool) =>
                ifB b23 (
                  strings_Builder_Len.C (some a1) fun (n24 : Int) =>
                  M22 (decide (n24 ≤ (524288 : Int)))) (
                  M22 false))
              (fun (b25 : Bool) =>
                ifB b25 (
                  strings_Builder_String.C (some a1) fun (s26 : Bytes) =>
                  Q s26 (IntKind.wrap .i64 (n3 + (32 : Int)))) (
                  K2 (IntKind.wrap .i64 (n3 + (32 : Int))) s4 (IntKind.wrap .i64 (n5 + (1 : Int))))))))) (
        Q ([] : Bytes) (0 : Int)))) (0 : Int) ([] : Bytes) (0 : Int)
def frame_one.ann : Ann := .seq (.leaf) (.seq (.leaf) (.seq (.seq (.leaf) (.block (.loop [(3, .sc (.int .i64)), (2, .sc .str), (5, .sc (.int .i64))] (.seq (.join [(16, .sc .bool)] (.leaf) (.cond (.leaf) (.leaf))) (.seq (.block (.seq (.leaf) (.seq (.join [(35, .sc .bool)] (.leaf) (.cond (.leaf) (.leaf))) (.seq (.leaf) (.seq (.leaf) (.join [(46, .sc .bool)] (.leaf) (.cond (.seq (.leaf) (.leaf)) (.leaf)))))))) (.leaf)))))) (.seq (.leaf) (.leaf))))
theorem frame_one.eq (x0 : Bytes) (Q : Bytes → Int → PP) : denF Tryz.prog Tryz.f216 frame_one.ann [.string (bs x0)] [.sc .str, .sc (.int .i64)] Q = frame_one.F x0 Q := by kernel_rfl
theorem frame_one.ok (x0 : Bytes) (Q : Bytes → Int → PP) (h : Heap) (hh : frame_one.F x0 Q h) : frame_one.C x0 Q h :=
  call_of_den callOK mixed Tryz.func216 (by kernel_rfl) (by rw [frame_one.eq]; exact hh)
def frame_Read.F (x0 : Bytes) (Q : Sl → Int → PP) : PP :=
  loopT [.slice, .int .i64] (fun (K1 : Sl → Int → PP) (l2 : Sl) (n3 : Int) =>
    sliceStr x0 n3 (x0.length : Int) fun (s4 : Bytes) =>
    frame_one.C s4 fun (s5 : Bytes) (n6 : Int) =>
    ifB (n6 == (0 : Int)) (
      Q l2 n3) (
      newP 9 [.string (bs s5)] fun (a7 : Addr) =>
      appP 9 1 16 #[.string (bs ([] : Bytes))] l2.p l2.len l2.cap (.slice (some a7) 1 1) fun (p8 : Option Addr) (k9 c10 : Nat) =>
      K1 (⟨p8, k9, c10⟩ : Sl) (IntKind.wrap .i64 (n3 + n6)))) (⟨(none : Option Addr), 0, 0⟩ : Sl) (0 : Int)
def frame_Read.ann : Ann := .seq (.leaf) (.block (.loop [(2, .sc .slice), (3, .sc (.int .i64))] (.block (.seq (.leaf) (.seq (.seq (.leaf) (.cond (.seq (.leaf) (.leaf)) (.leaf))) (.leaf))))))
theorem frame_Read.eq (x0 : Bytes) (Q : Sl → Int → PP) : denF Tryz.prog Tryz.f146 frame_Read.ann [.string (bs x0)] [.sc .slice, .sc (.int .i64)] Q = frame_Read.F x0 Q := by kernel_rfl
theorem frame_Read.ok (x0 : Bytes) (Q : Sl → Int → PP) (h : Heap) (hh : frame_Read.F x0 Q h) : frame_Read.C x0 Q h :=
  call_of_den callOK mixed Tryz.func146 (by kernel_rfl) (by rw [frame_Read.eq]; exact hh)
def num_ReadBig.F (x0 : Bytes) (x1 : Int) (Q : Int → Bool → PP) : PP :=
  joinT [.bool] (fun (M1 : Bool → PP) =>
    ifB (decide (x1 < (1 : Int))) (
      M1 true) (
      ifB (decide (x1 > (8 : Int))) (
        M1 true) (
        M1 (decide ((x0.length : Int) < x1)))))
  (fun (b2 : Bool) =>
    ifB b2 (
      Q (0 : Int) false) (
      sliceStr x0 0 x1 fun (s3 : Bytes) =>
      ofStrP 5 s3 fun (p4 : Option Addr) (k5 c6 : Nat) =>
      loopT [.int .u64, .int .i64] (fun (K7 : Int → Int → PP) (n8 : Int) (n9 : Int) =>
        ifB (decide (n9 < (k5 : Int))) (
          idxP 1 p4 k5 n9 fun (a10 : Addr) =>
          ld (.int .u8) a10 fun (n11 : Int) =>
          guardP (0 ≤ (8 : Int)) (K7 (orI .u64 (IntKind.wrap .u64 (n8 * 2 ^ (min (8 : Int).toNat (IntKind.bits .u64)))) (IntKind.wrap .u64 n11)) (IntKind.wrap .i64 (n9 + (1 : Int))))) (
          Q n8 true)) (0 : Int) (0 : Int)))
def num_ReadBig.ann : Ann := .seq (.leaf) (.seq (.join [(19, .sc .bool)] (.leaf) (.cond (.seq (.leaf) (.leaf)) (.leaf))) (.seq (.seq (.leaf) (.block (.loop [(4, .sc (.int .u64)), (25, .sc (.int .i64))] (.seq (.leaf) (.seq (.cond (.leaf) (.leaf)) (.seq (.block (.seq (.leaf) (.leaf))) (.leaf))))))) (.seq (.leaf) (.leaf))))
theorem num_ReadBig.eq (x0 : Bytes) (x1 : Int) (Q : Int → Bool → PP) : denF Tryz.prog Tryz.f179 num_ReadBig.ann [.string (bs x0), .int .i64 x1] [.sc (.int .u64), .sc .bool] Q = num_ReadBig.F x0 x1 Q := by kernel_rfl
theorem num_ReadBig.ok (x0 : Bytes) (x1 : Int) (Q : Int → Bool → PP) (h : Heap) (hh : num_ReadBig.F x0 x1 Q h) : num_ReadBig.C x0 x1 Q h :=
  call_of_den callOK mixed Tryz.func179 (by kernel_rfl) (by rw [num_ReadBig.eq]; exact hh)
end Go.Proofs.W
end
section
set_option maxRecDepth 100000
set_option linter.unusedVariables false
namespace Go.Proofs.W
open Go Go.Shal
def num_ReadVar.F (x0 : Bytes) (Q : Int → Int → Bool → PP) : PP :=
  ifB (x0 == ([] : Bytes)) (
    Q (0 : Int) (0 : Int) false) (
    atS x0 (0 : Int) fun (c1 : UInt8) =>
    ifB (decide ((IntKind.wrap .i64 ((IntKind.wrap .i64 ((IntKind.wrap .i64 (c1.toNat : Int)) - (248 : Int))) + (1 : Int))) < (1 : Int))) (
      atS x0 (0 : Int) fun (c2 : UInt8) =>
      Q (IntKind.wrap .u64 (c2.toNat : Int)) (1 : Int) true) (
      sliceStr x0 (1 : Int) (x0.length : Int) fun (s3 : Bytes) =>
      num_ReadBig.C s3 (IntKind.wrap .i64 ((IntKind.wrap .i64 ((IntKind.wrap .i64 (c1.toNat : Int)) - (248 : Int))) + (1 : Int))) fun (n4 : Int) (b5 : Bool) =>
      joinT [.bool] (fun (M6 : Bool → PP) =>
        ifB (!b5) (
          M6 true) (
          num_behind.C n4 fun (n7 : Int) =>
          M6 (n7 != (IntKind.wrap .i64 ((IntKind.wrap .i64 ((IntKind.wrap .i64 (c1.toNat : Int)) - (248 : Int))) + (1 : Int))))))
      (fun (b8 : Bool) =>
        ifB b8 (
          Q (0 : Int) (0 : Int) false) (
          Q n4 (IntKind.wrap .i64 ((1 : Int) + (IntKind.wrap .i64 ((IntKind.wrap .i64 ((IntKind.wrap .i64 (c1.toNat : Int)) - (248 : Int))) + (1 : Int))))) true))))
def num_ReadVar.ann : Ann := .seq (.leaf) (.seq (.seq (.leaf) (.cond (.seq (.leaf) (.leaf)) (.leaf))) (.seq (.leaf) (.seq (.seq (.leaf) (.cond (.seq (.leaf) (.leaf)) (.leaf))) (.seq (.seq (.leaf) (.join [(32, .sc .bool)] (.leaf) (.cond (.seq (.leaf) (.leaf)) (.leaf)))) (.seq (.leaf) (.leaf))))))
theorem num_ReadVar.eq (x0 : Bytes) (Q : Int → Int → Bool → PP) : denF Tryz.prog Tryz.f217 num_ReadVar.ann [.string (bs x0)] [.sc (.int .u64), .sc (.int .i64), .sc .bool] Q = num_ReadVar.F x0 Q := by kernel_rfl
theorem num_ReadVar.ok (x0 : Bytes) (Q : Int → Int → Bool → PP) (h : Heap) (hh : num_ReadVar.F x0 Q h) : num_ReadVar.C x0 Q h :=
  call_of_den callOK mixed Tryz.func217 (by kernel_rfl) (by rw [num_ReadVar.eq]; exact hh)
def num_ReadText.F (x0 : Bytes) (x1 : Int) (Q : Bytes → Int → Bool → PP) : PP :=
  num_ReadVar.C x0 fun (n1 : Int) (n2 : Int) (b3 : Bool) =>
  joinT [.bool] (fun (M4 : Bool → PP) =>
    ifB (!b3) (
      M4 true) (
      ifB (decide (x1 < (0 : Int))) (
        M4 true) (
        ifB (decide (n1 > (IntKind.wrap .u64 x1))) (
          M4 true) (
          M4 (decide (n1 > (IntKind.wrap .u64 (IntKind.wrap .i64 ((x0.length : Int) - n2)))))))))
  (fun (b5 : Bool) =>
    ifB b5 (
      Q ([] : Bytes) (0 : Int) false) (
      sliceStr x0 n2 (IntKind.wrap .i64 (n2 + (IntKind.wrap .i64 n1))) fun (s6 : Bytes) =>
      Q s6 (IntKind.wrap .i64 (n2 + (IntKind.wrap .i64 n1))) true))
def num_ReadText.ann : Ann := .seq (.leaf) (.seq (.leaf) (.seq (.join [(35, .sc .bool)] (.leaf) (.cond (.seq (.leaf) (.leaf)) (.leaf))) (.seq (.leaf) (.seq (.leaf) (.leaf)))))
theorem num_ReadText.eq (x0 : Bytes) (x1 : Int) (Q : Bytes → Int → Bool → PP) : denF Tryz.prog Tryz.f306 num_ReadText.ann [.string (bs x0), .int .i64 x1] [.sc .str, .sc (.int .i64), .sc .bool] Q = num_ReadText.F x0 x1 Q := by kernel_rfl
theorem num_ReadText.ok (x0 : Bytes) (x1 : Int) (Q : Bytes → Int → Bool → PP) (h : Heap) (hh : num_ReadText.F x0 x1 Q h) : num_ReadText.C x0 x1 Q h :=
  call_of_den callOK mixed Tryz.func306 (by kernel_rfl) (by rw [num_ReadText.eq]; exact hh)
def batch_one.F (x0 : Bytes) (Q : Bytes → Bytes → Bool → Bytes → Bool → PP) : PP :=
  newP 124 [.string (bs ([] : Bytes)), .string (bs ([] : Bytes)), .bool false] fun (a1 : Addr) =>
  ifB (x0 == ([] : Bytes)) (
    stsP a1 [.str, .str, .bool] (([] : Bytes), ([] : Bytes), false, ()) 0 (
      lds [.str, .str, .bool] a1 fun (s2 : Bytes) (s3 : Bytes) (b4 : Bool) =>
      Q s2 s3 b4 ([] : Bytes) false)) (
    sliceStr x0 0 (1 : Int) fun (s5 : Bytes) =>
    sliceStr x0 (1 : Int) (x0.length : Int) fun (s6 : Bytes) =>
    num_ReadText.C s6 (64 : Int) fun (s7 : Bytes) (n8 : Int) (b9 : Bool) =>
    joinT [.bool] (fun (M10 : Bool → PP) =>
      ifB (!b9) (
        M10 true) (
        ifB (!(s5 == ([0] : Bytes))) (
          M10 (!(s5 == ([1] : Bytes)))) (
          M10 false)))
    (fun (b11 : Bool) =>
      ifB b11 (
        stsP a1 [.str, .str, .bool] (([] : Bytes), ([] : Bytes), false, ()) 0 (
          lds [.str, .str, .bool] a1 fun (s12 : Bytes) (s13 : Bytes) (b14 : Bool) =>
          Q s12 s13 b14 ([] : Bytes) false)) (
        sliceStr x0 (IntKind.wrap .i64 ((1 : Int) + n8)) (x0.length : Int) fun (s15 : Bytes) =>
        ifB (s5 == ([1] : Bytes)) (
          stsP a1 [.str, .str, .bool] (s7, ([] : Bytes), true, ()) 0 (
            lds [.str, .str, .bool] a1 fun (s16 : Bytes) (s17 : Bytes) (b18 : Bool) =>
            Q s16 s17 b18 s15 true)) (
          num_ReadText.C s15 (512 : Int) fun (s19 : Bytes) (n20 : Int) (b21 : Bool) =>
          ifB (!b21) (
            stsP a1 [.str, .str, .bool] (([] : Bytes), ([] : Bytes), false, ()) 0 (
              lds [.str, .str, .bool] a1 fun (s22 : Bytes) (s23 : Bytes) (b24 : Bool) =>
              Q s22 s23 b24 ([] : Bytes) false)) (
            drawT fun (S25 : PP) =>
            sliceStr s15 n20 (s15.length : Int) fun (s26 : Bytes) =>
            stsP a1 [.str, .str, .bool] (s7, s19, false, ()) 0 (
              lds [.str, .str, .bool] a1 fun (s27 : Bytes) (s28 : Bytes) (b29 : Bool) =>
              Q s27 s28 b29 s26 true))))))
def batch_one.ann : Ann := .seq (.leaf) (.seq (.seq (.leaf) (.cond (.seq (.leaf) (.leaf)) (.leaf))) (.seq (.leaf) (.seq (.leaf) (.seq (.join [(30, .sc .bool)] (.leaf) (.cond (.seq (.leaf) (.leaf)) (.leaf))) (.seq (.leaf) (.seq (.seq (.leaf) (.cond (.seq (.leaf) (.leaf)) (.leaf))) (.seq (.leaf) (.seq (.seq (.leaf) (.cond (.seq (.leaf) (.leaf)) (.leaf))) (.seq (.draw [] (.take 0 (.take 1 (.take 3 (.take 4 (.take 5 (.alt 2 (.alt 6 (.take 7 (.take 8 (.done))) (.none)) (.none)))))))) (.leaf))))))))))
theorem batch_one.eq (x0 : Bytes) (Q : Bytes → Bytes → Bool → Bytes → Bool → PP) : denF Tryz.prog Tryz.f218 batch_one.ann [.string (bs x0)] [.agg [.str, .str, .bool], .sc .str, .sc .bool] Q = batch_one.F x0 Q := by kernel_rfl
theorem batch_one.ok (x0 : Bytes) (Q : Bytes → Bytes → Bool → Bytes → Bool → PP) (h : Heap) (hh : batch_one.F x0 Q h) : batch_one.C x0 Q h :=
  call_of_den callOK mixed Tryz.func218 (by kernel_rfl) (by rw [batch_one.eq]; exact hh)
def batch_Decode.F (x0 : Bytes) (Q : Int → Sl → Bool → PP) : PP :=
  newP 38 [.int .u64 (0 : Int), .slice (none : Option Addr) 0 0] fun (a1 : Addr) =>
  num_ReadVar.C x0 fun (n2 : Int) (n3 : Int) (b4 : Bool) =>
  ifB (!b4) (
    stsP a1 [.int .u64, .slice] ((0 : Int), (⟨(none : Option Addr), 0, 0⟩ : Sl), ()) 0 (
      lds [.int .u64, .slice] a1 fun (n5 : Int) (l6 : Sl) =>
      Q n5 l6 false)) (
    sliceStr x0 n3 (x0.length : Int) fun (s7 : Bytes) =>
    num_ReadVar.C s7 fun (n8 : Int) (n9 : Int) (b10 : Bool) =>
    joinT [.bool] (fun (M11 : Bool → PP) =>
      ifB (!b10) (
        M11 true) (
        M11 (decide (n8 > (16 : Int)))))
    (fun (b12 : Bool) =>
      ifB b12 (
        stsP a1 [.int .u64, .slice] ((0 : Int), (⟨(none : Option Addr), 0, 0⟩ : Sl), ()) 0 (
          lds [.int .u64, .slice] a1 fun (n13 : Int) (l14 : Sl) =>
          Q n13 l14 false)) (
        newP 38 [.int .u64 (0 : Int), .slice (none : Option Addr) 0 0] fun (a15 : Addr) =>
        stsP a15 [.int .u64, .slice] (n2, (⟨(none : Option Addr), 0, 0⟩ : Sl), ()) 0 (
          sliceStr x0 (IntKind.wrap .i64 (n3 + n9)) (x0.length : Int) fun (s16 : Bytes) =>
          loopT [.bool, .str, .int .u64] (fun (K17 : Bool → Bytes → Int → PP) (b18 : Bool) (s19 : Bytes) (n20 : Int) =>
            ifB (decide (n20 > (0 : Int))) (
              batch_one.C s19 fun (s21 : Bytes) (s22 : Bytes) (b23 : Bool) (s24 : Bytes) (b25 : Bool) =>
              newP 124 [.string (bs ([] : Bytes)), .string (bs ([] : Bytes)), .bool false] fun (a26 : Addr) =>
              stsP a26 [.str, .str, .bool] (s21, s22, b23, ()) 0 (
                ifB (!b25) (
                  stsP a1 [.int .u64, .slice] ((0 : Int), (⟨(none : Option Addr), 0, 0⟩ : Sl), ()) 0 (
                    lds [.int .u64, .slice] a1 fun (n27 : Int) (l28 : Sl) =>
                    Q n27 l28 false)) (
                  ld (.slice) (a15.add 1) fun (l29 : Sl) =>
                  lds [.str, .str, .bool] a26 fun (s30 : Bytes) (s31 : Bytes) (b32 : Bool) =>
                  newP 124 [.string (bs s30), .string (bs s31), .bool b32] fun (a33 : Addr) =>
                  appP 124 3 40 #[.string (bs ([] : Bytes)), .string (bs ([] : Bytes)), .bool false] l29.p l29.len l29.cap (.slice (some a33) 1 1) fun (p34 : Option Addr) (k35 c36 : Nat) =>
                  stP (.slice) (a15.add 1) (⟨p34, k35, c36⟩ : Sl) (
                    K17 b18 s24 (IntKind.wrap .u64 (n20 - (1 : Int))))))) (
              joinT [.bool] (fun (M37 : Bool → PP) =>
                ifB (!(s19 == ([] : Bytes))) (
                  M37 true) (
                  lds [.int .u64, .slice] a15 fun (n38 : Int) (l39 : Sl) =>
                  batch_Check.C n38 l39 fun (n40 : Int) =>
                  M37 (n40 != (0 : Int))))
              (fun (b41 : Bool) =>
                ifB b41 (
                  stsP a1 [.int .u64, .slice] ((0 : Int), (⟨(none : Option Addr), 0, 0⟩ : Sl), ()) 0 (
                    lds [.int .u64, .slice] a1 fun (n42 : Int) (l43 : Sl) =>
                    Q n42 l43 false)) (
                  lds [.int .u64, .slice] a15 fun (n44 : Int) (l45 : Sl) =>
                  stsP a1 [.int .u64, .slice] (n44, l45, ()) 0 (
                    lds [.int .u64, .slice] a1 fun (n46 : Int) (l47 : Sl) =>
                    Q n46 l47 true))))) false s16 n8))))
def batch_Decode.ann : Ann := .seq (.leaf) (.seq (.leaf) (.seq (.seq (.leaf) (.cond (.seq (.leaf) (.leaf)) (.leaf))) (.seq (.leaf) (.seq (.join [(35, .sc .bool)] (.leaf) (.cond (.seq (.leaf) (.leaf)) (.leaf))) (.seq (.leaf) (.seq (.seq (.leaf) (.block (.loop [(3, .sc .bool), (0, .sc .str), (7, .sc (.int .u64))] (.seq (.seq (.leaf) (.cond (.leaf) (.leaf))) (.seq (.block (.seq (.leaf) (.seq (.seq (.leaf) (.cond (.seq (.leaf) (.leaf)) (.leaf))) (.leaf)))) (.leaf)))))) (.seq (.join [(70, .sc .bool)] (.leaf) (.cond (.seq (.leaf) (.leaf)) (.leaf))) (.seq (.leaf) (.leaf)))))))))
theorem batch_Decode.eq (x0 : Bytes) (Q : Int → Sl → Bool → PP) : denF Tryz.prog Tryz.f147 batch_Decode.ann [.string (bs x0)] [.agg [.int .u64, .slice], .sc .bool] Q = batch_Decode.F x0 Q := by kernel_rfl
theorem batch_Decode.ok (x0 : Bytes) (Q : Int → Sl → Bool → PP) (h : Heap) (hh : batch_Decode.F x0 Q h) : batch_Decode.C x0 Q h :=
  call_of_den callOK mixed Tryz.func147 (by kernel_rfl) (by rw [batch_Decode.eq]; exact hh)
def wal_Replay_2.F (x0 : Bytes) (x1 : Addr) (x2 : Addr) (Q : Int → PP) : PP :=
  ld (.ptr) x1 fun (p1 : Option Addr) =>
  disk_Disk_Read.C p1 x0 fun (s2 : Bytes) (n3 : Int) =>
  frame_Read.C s2 fun (l4 : Sl) (n5 : Int) =>
  loopT [.int .i64] (fun (K6 : Int → PP) (n7 : Int) =>
    ifB (decide (n7 < (l4.len : Int))) (
      idxP 1 l4.p l4.len n7 fun (a8 : Addr) =>
      ld (.str) a8 fun (s9 : Bytes) =>
      batch_Decode.C s9 fun (n10 : Int) (l11 : Sl) (b12 : Bool) =>
      newP 38 [.int .u64 (0 : Int), .slice (none : Option Addr) 0 0] fun (a13 : Addr) =>
      stsP a13 [.int .u64, .slice] (n10, l11, ()) 0 (
        ifB (!b12) (
          Q n3) (
          ld (.slice) x2 fun (l14 : Sl) =>
          lds [.int .u64, .slice] a13 fun (n15 : Int) (l16 : Sl) =>
          newP 38 [.int .u64 n15, .slice l16.p l16.len l16.cap] fun (a17 : Addr) =>
          appP 38 2 32 #[.int .u64 (0 : Int), .slice (none : Option Addr) 0 0] l14.p l14.len l14.cap (.slice (some a17) 1 1) fun (p18 : Option Addr) (k19 c20 : Nat) =>
          stP (.slice) x2 (⟨p18, k19, c20⟩ : Sl) (
            K6 (IntKind.wrap .i64 (n7 + (1 : Int))))))) (
      Q n3)) (0 : Int)
def wal_Replay_2.ann : Ann := .seq (.leaf) (.seq (.leaf) (.seq (.leaf) (.seq (.seq (.leaf) (.block (.loop [(26, .sc (.int .i64))] (.seq (.leaf) (.seq (.cond (.leaf) (.leaf)) (.seq (.block (.seq (.leaf) (.seq (.leaf) (.seq (.seq (.leaf) (.cond (.leaf) (.leaf))) (.leaf))))) (.leaf))))))) (.seq (.leaf) (.leaf)))))
theorem wal_Replay_2.eq (x0 : Bytes) (x1 : Addr) (x2 : Addr) (Q : Int → PP) : denF Tryz.prog Tryz.f145 wal_Replay_2.ann [.string (bs x0), .pointer (some x1), .pointer (some x2)] [.sc (.int .i64)] Q = wal_Replay_2.F x0 x1 x2 Q := by kernel_rfl
theorem wal_Replay_2.ok (x0 : Bytes) (x1 : Addr) (x2 : Addr) (Q : Int → PP) (h : Heap) (hh : wal_Replay_2.F x0 x1 x2 Q h) : wal_Replay_2.C x0 x1 x2 Q h :=
  call_of_den callOK mixed Tryz.func145 (by kernel_rfl) (by rw [wal_Replay_2.eq]; exact hh)
def disk_Number.F (x0 : Bytes) (x1 : Bytes) (Q : Int → Bool → PP) : PP :=
  guardP (x0.length + ([46] : Bytes).length ≤ 9223372036854775807) (strings_CutPrefix.C x1 (x0 ++ ([46] : Bytes)) fun (s1 : Bytes) (b2 : Bool) =>
    strconv_ParseUint.C s1 (10 : Int) (64 : Int) fun (n3 : Int) (v4 : Value) =>
    joinT [.bool] (fun (M5 : Bool → PP) =>
      ifaceP v4 (.nilIface : Value) fun (b6 : Bool) =>
      ifB (!b6) (
        M5 true) (
        disk_Name.C x0 n3 fun (s7 : Bytes) =>
        M5 (!(s7 == x1))))
    (fun (b8 : Bool) =>
      ifB b8 (
        Q (0 : Int) false) (
        Q n3 true)))
def disk_Number.ann : Ann := .seq (.leaf) (.seq (.leaf) (.seq (.leaf) (.seq (.join [(30, .sc .bool)] (.leaf) (.cond (.seq (.leaf) (.leaf)) (.leaf))) (.seq (.leaf) (.leaf)))))
theorem disk_Number.eq (x0 : Bytes) (x1 : Bytes) (Q : Int → Bool → PP) : denF Tryz.prog Tryz.f61 disk_Number.ann [.string (bs x0), .string (bs x1)] [.sc (.int .u64), .sc .bool] Q = disk_Number.F x0 x1 Q := by kernel_rfl
theorem disk_Number.ok (x0 : Bytes) (x1 : Bytes) (Q : Int → Bool → PP) (h : Heap) (hh : disk_Number.F x0 x1 Q h) : disk_Number.C x0 x1 Q h :=
  call_of_den callOK mixed Tryz.func61 (by kernel_rfl) (by rw [disk_Number.eq]; exact hh)
def cmp_isNaN_uint64.F (x0 : Int) (Q : Bool → PP) : PP :=
  Q (x0 != x0)
def cmp_isNaN_uint64.ann : Ann := .seq (.leaf) (.seq (.leaf) (.leaf))
theorem cmp_isNaN_uint64.eq (x0 : Int) (Q : Bool → PP) : denF Tryz.prog Tryz.f295 cmp_isNaN_uint64.ann [.int .u64 x0] [.sc .bool] Q = cmp_isNaN_uint64.F x0 Q := by kernel_rfl
theorem cmp_isNaN_uint64.ok (x0 : Int) (Q : Bool → PP) (h : Heap) (hh : cmp_isNaN_uint64.F x0 Q h) : cmp_isNaN_uint64.C x0 Q h :=
  call_of_den callOK mixed Tryz.func295 (by kernel_rfl) (by rw [cmp_isNaN_uint64.eq]; exact hh)
def cmp_Less_uint64.F (x0 : Int) (x1 : Int) (Q : Bool → PP) : PP :=
  cmp_isNaN_uint64.C x0 fun (b1 : Bool) =>
  ifB b1 (
    cmp_isNaN_uint64.C x1 fun (b2 : Bool) =>
    ifB (!b2) (
      Q true) (
      Q (decide (x0 < x1)))) (
    Q (decide (x0 < x1)))
def cmp_Less_uint64.ann : Ann := .seq (.leaf) (.seq (.leaf) (.leaf))
theorem cmp_Less_uint64.eq (x0 : Int) (x1 : Int) (Q : Bool → PP) : denF Tryz.prog Tryz.f236 cmp_Less_uint64.ann [.int .u64 x0, .int .u64 x1] [.sc .bool] Q = cmp_Less_uint64.F x0 x1 Q := by kernel_rfl
theorem cmp_Less_uint64.ok (x0 : Int) (x1 : Int) (Q : Bool → PP) (h : Heap) (hh : cmp_Less_uint64.F x0 x1 Q h) : cmp_Less_uint64.C x0 x1 Q h :=
  call_of_den callOK mixed Tryz.func236 (by kernel_rfl) (by rw [cmp_Less_uint64.eq]; exact hh)
def slices_insertionSortOrdered_uint64.F (x0 : Sl) (x1 : Int) (x2 : Int) (Q : PP) : PP :=
  loopT [.int .i64] (fun (K1 : Int → PP) (n2 : Int) =>
    ifB (decide (n2 < x2)) (
      loopT [.int .i64] (fun (K3 : Int → PP) (n4 : Int) =>
        joinT [.bool] (fun (M5 : Bool → PP) =>
          drawT fun (S6 : PP) =>
          ifB (decide (n4 > x1)) (
            idxP 1 x0.p x0.len n4 fun (a7 : Addr) =>
            ldG S6 (.int .u64) a7 fun (n8 : Int) =>
            idxP 1 x0.p x0.len (IntKind.wrap .i64 (n4 - (1 : Int))) fun (a9 : Addr) =>
            ldG S6 (.int .u64) a9 fun (n10 : Int) =>
            cmp_Less_uint64.C n8 n10 fun (b11 : Bool) =>
            M5 b11) (
            M5 false))
        (fun (b12 : Bool) =>
          ifB b12 (
            drawT fun (S13 : PP) =>
            idxP 1 x0.p x0.len (IntKind.wrap .i64 (n4 - (1 : Int))) fun (a14 : Addr) =>
            ldG S13 (.int .u64) a14 fun (n15 : Int) =>
            idxP 1 x0.p x0.len n4 fun (a16 : Addr) =>
            ldG S13 (.int .u64) a16 fun (n17 : Int) =>
            idxP 1 x0.p x0.len n4 fun (a18 : Addr) =>
            stP (.int .u64) a18 n15 (
              idxP 1 x0.p x0.len (IntKind.wrap .i64 (n4 - (1 : Int))) fun (a19 : Addr) =>
              stP (.int .u64) a19 n17 (
                K3 (IntKind.wrap .i64 (n4 - (1 : Int)))))) (
            K1 (IntKind.wrap .i64 (n2 + (1 : Int)))))) n2) (
      Q)) (IntKind.wrap .i64 (x1 + (1 : Int)))
def slices_insertionSortOrdered_uint64.ann : Ann := .seq (.leaf) (.block (.loop [(6, .sc (.int .i64))] (.seq (.seq (.leaf) (.cond (.leaf) (.leaf))) (.seq (.block (.seq (.leaf) (.block (.loop [(7, .sc (.int .i64))] (.seq (.join [(30, .sc .bool)] (.draw [8, 9, 10, 11, 12, 14] (.take 0 (.take 1 (.take 2 (.take 3 (.take 4 (.take 5 (.take 6 (.take 7 (.take 8 (.take 9 (.take 10 (.take 11 (.take 12 (.alt 13 (.take 14 (.done)) (.none)))))))))))))))) (.cond (.leaf) (.leaf))) (.seq (.block (.draw [10, 11, 12, 13] (.take 0 (.take 1 (.take 2 (.take 3 (.take 4 (.take 5 (.take 6 (.take 7 (.take 8 (.take 9 (.take 10 (.take 11 (.take 12 (.take 13 (.take 14 (.alt 15 (.take 16 (.alt 17 (.done) (.none))) (.none))))))))))))))))))) (.leaf))))))) (.leaf)))))
theorem slices_insertionSortOrdered_uint64.eq (x0 : Sl) (x1 : Int) (x2 : Int) (Q : PP) : denF Tryz.prog Tryz.f230 slices_insertionSortOrdered_uint64.ann [.slice x0.p x0.len x0.cap, .int .i64 x1, .int .i64 x2] [] Q = slices_insertionSortOrdered_uint64.F x0 x1 x2 Q := by kernel_rfl
theorem slices_insertionSortOrdered_uint64.ok (x0 : Sl) (x1 : Int) (x2 : Int) (Q : PP) (h : Heap) (hh : slices_insertionSortOrdered_uint64.F x0 x1 x2 Q h) : slices_insertionSortOrdered_uint64.C x0 x1 x2 Q h :=
  call_of_den callOK mixed Tryz.func230 (by kernel_rfl) (by rw [slices_insertionSortOrdered_uint64.eq]; exact hh)
def slices_siftDownOrdered_uint64.F (x0 : Sl) (x1 : Int) (x2 : Int) (x3 : Int) (Q : PP) : PP :=
  loopT [.int .i64] (fun (K1 : Int → PP) (n2 : Int) =>
    ifB (decide ((IntKind.wrap .i64 ((IntKind.wrap .i64 ((2 : Int) * n2)) + (1 : Int))) ≥ x2)) (
      Q) (
      joinT [.int .i64] (fun (M3 : Int → PP) =>
        joinT [.bool] (fun (M4 : Bool → PP) =>
          drawT fun (S5 : PP) =>
          ifB (decide ((IntKind.wrap .i64 ((IntKind.wrap .i64 ((IntKind.wrap .i64 ((2 : Int) * n2)) + (1 : Int))) + (1 : Int))) < x2)) (
            idxP 1 x0.p x0.len (IntKind.wrap .i64 (x3 + (IntKind.wrap .i64 ((IntKind.wrap .i64 ((2 : Int) * n2)) + (1 : Int))))) fun (a6 : Addr) =>
            ldG S5 (.int .u64) a6 fun (n7 : Int) =>
            idxP 1 x0.p x0.len (IntKind.wrap .i64 ((IntKind.wrap .i64 (x3 + (IntKind.wrap .i64 ((IntKind.wrap .i64 ((2 : Int) * n2)) + (1 : Int))))) + (1 : Int))) fun (a8 : Addr) =>
            ldG S5 (.int .u64) a8 fun (n9 : Int) =>
            cmp_Less_uint64.C n7 n9 fun (b10 : Bool) =>
            M4 b10) (
            M4 false))
        (fun (b11 : Bool) =>
          ifB b11 (
            M3 (IntKind.wrap .i64 ((IntKind.wrap .i64 ((IntKind.wrap .i64 ((2 : Int) * n2)) + (1 : Int))) + (1 : Int)))) (
            M3 (IntKind.wrap .i64 ((IntKind.wrap .i64 ((2 : Int) * n2)) + (1 : Int))))))
      (fun (n12 : Int) =>
        drawT fun (S13 : PP) =>
        idxP 1 x0.p x0.len (IntKind.wrap .i64 (x3 + n2)) fun (a14 : Addr) =>
        ldG S13 (.int .u64) a14 fun (n15 : Int) =>
        idxP 1 x0.p x0.len (IntKind.wrap .i64 (x3 + n12)) fun (a16 : Addr) =>
        ldG S13 (.int .u64) a16 fun (n17 : Int) =>
        cmp_Less_uint64.C n15 n17 fun (b18 : Bool) =>
        ifB (!b18) (
          Q) (
          drawT fun (S19 : PP) =>
          idxP 1 x0.p x0.len (IntKind.wrap .i64 (x3 + n12)) fun (a20 : Addr) =>
          ldG S19 (.int .u64) a20 fun (n21 : Int) =>
          idxP 1 x0.p x0.len (IntKind.wrap .i64 (x3 + n2)) fun (a22 : Addr) =>
          ldG S19 (.int .u64) a22 fun (n23 : Int) =>
          idxP 1 x0.p x0.len (IntKind.wrap .i64 (x3 + n2)) fun (a24 : Addr) =>
          stP (.int .u64) a24 n21 (
            idxP 1 x0.p x0.len (IntKind.wrap .i64 (x3 + n12)) fun (a25 : Addr) =>
            stP (.int .u64) a25 n23 (
              K1 n12)))))) x1
def slices_siftDownOrdered_uint64.ann : Ann := .seq (.leaf) (.block (.loop [(8, .sc (.int .i64))] (.block (.seq (.leaf) (.seq (.seq (.leaf) (.cond (.leaf) (.leaf))) (.join [(9, .sc (.int .i64))] (.join [(36, .sc .bool)] (.draw [11, 12, 13, 14, 15, 16, 17, 19] (.take 0 (.take 1 (.take 2 (.take 3 (.take 4 (.take 5 (.take 6 (.take 7 (.take 8 (.take 9 (.take 10 (.take 11 (.take 12 (.take 13 (.take 14 (.take 15 (.take 16 (.take 17 (.alt 18 (.take 19 (.done)) (.none))))))))))))))))))))) (.cond (.leaf) (.leaf))) (.seq (.seq (.draw [6, 7, 8, 9, 10, 11, 13] (.take 0 (.take 1 (.take 2 (.take 3 (.take 4 (.take 5 (.take 6 (.take 7 (.take 8 (.take 9 (.take 10 (.take 11 (.alt 12 (.take 13 (.done)) (.none))))))))))))))) (.cond (.leaf) (.leaf))) (.seq (.draw [14, 15, 16, 17, 18, 19] (.take 0 (.take 1 (.take 2 (.take 3 (.take 4 (.take 5 (.take 6 (.take 7 (.take 8 (.take 9 (.take 10 (.take 11 (.take 12 (.take 13 (.take 14 (.take 15 (.take 16 (.take 17 (.take 18 (.take 19 (.take 20 (.alt 21 (.take 22 (.alt 23 (.done) (.none))) (.none)))))))))))))))))))))))) (.leaf)))))))))
theorem slices_siftDownOrdered_uint64.eq (x0 : Sl) (x1 : Int) (x2 : Int) (x3 : Int) (Q : PP) : denF Tryz.prog Tryz.f313 slices_siftDownOrdered_uint64.ann [.slice x0.p x0.len x0.cap, .int .i64 x1, .int .i64 x2, .int .i64 x3] [] Q = slices_siftDownOrdered_uint64.F x0 x1 x2 x3 Q := by kernel_rfl
theorem slices_siftDownOrdered_uint64.ok (x0 : Sl) (x1 : Int) (x2 : Int) (x3 : Int) (Q : PP) (h : Heap) (hh : slices_siftDownOrdered_uint64.F x0 x1 x2 x3 Q h) : slices_siftDownOrdered_uint64.C x0 x1 x2 x3 Q h :=
  call_of_den callOK mixed Tryz.func313 (by kernel_rfl) (by rw [slices_siftDownOrdered_uint64.eq]; exact hh)
def slices_heapSortOrdered_uint64.F (x0 : Sl) (x1 : Int) (x2 : Int) (Q : PP) : PP :=
  guardP ((2 : Int) ≠ 0) (loopT [.int .i64] (fun (K1 : Int → PP) (n2 : Int) =>
      ifB (decide (n2 ≥ (0 : Int))) (
        slices_siftDownOrdered_uint64.C x0 n2 (IntKind.wrap .i64 (x2 - x1)) x1 (
          K1 (IntKind.wrap .i64 (n2 - (1 : Int))))) (
        loopT [.int .i64] (fun (K3 : Int → PP) (n4 : Int) =>
          ifB (decide (n4 ≥ (0 : Int))) (
            drawT fun (S5 : PP) =>
            idxP 1 x0.p x0.len (IntKind.wrap .i64 (x1 + n4)) fun (a6 : Addr) =>
            ldG S5 (.int .u64) a6 fun (n7 : Int) =>
            idxP 1 x0.p x0.len x1 fun (a8 : Addr) =>
            ldG S5 (.int .u64) a8 fun (n9 : Int) =>
            idxP 1 x0.p x0.len x1 fun (a10 : Addr) =>
            stP (.int .u64) a10 n7 (
              idxP 1 x0.p x0.len (IntKind.wrap .i64 (x1 + n4)) fun (a11 : Addr) =>
              stP (.int .u64) a11 n9 (
                slices_siftDownOrdered_uint64.C x0 (0 : Int) n4 x1 (
                  K3 (IntKind.wrap .i64 (n4 - (1 : Int))))))) (
            Q)) (IntKind.wrap .i64 ((IntKind.wrap .i64 (x2 - x1)) - (1 : Int))))) (IntKind.wrap .i64 (Int.tdiv (IntKind.wrap .i64 ((IntKind.wrap .i64 (x2 - x1)) - (1 : Int))) (2 : Int))))
def slices_heapSortOrdered_uint64.ann : Ann := .seq (.leaf) (.seq (.leaf) (.seq (.leaf) (.seq (.seq (.leaf) (.block (.loop [(9, .sc (.int .i64))] (.seq (.seq (.leaf) (.cond (.leaf) (.leaf))) (.seq (.block (.leaf)) (.leaf)))))) (.seq (.leaf) (.block (.loop [(10, .sc (.int .i64))] (.seq (.seq (.leaf) (.cond (.leaf) (.leaf))) (.seq (.block (.seq (.draw [12, 13, 14, 15] (.take 0 (.take 1 (.take 2 (.take 3 (.take 4 (.take 5 (.take 6 (.take 7 (.take 8 (.take 9 (.take 10 (.take 11 (.take 12 (.take 13 (.take 14 (.take 15 (.take 16 (.alt 17 (.take 18 (.alt 19 (.done) (.none))) (.none)))))))))))))))))))) (.leaf))) (.leaf)))))))))
theorem slices_heapSortOrdered_uint64.eq (x0 : Sl) (x1 : Int) (x2 : Int) (Q : PP) : denF Tryz.prog Tryz.f231 slices_heapSortOrdered_uint64.ann [.slice x0.p x0.len x0.cap, .int .i64 x1, .int .i64 x2] [] Q = slices_heapSortOrdered_uint64.F x0 x1 x2 Q := by kernel_rfl
theorem slices_heapSortOrdered_uint64.ok (x0 : Sl) (x1 : Int) (x2 : Int) (Q : PP) (h : Heap) (hh : slices_heapSortOrdered_uint64.F x0 x1 x2 Q h) : slices_heapSortOrdered_uint64.C x0 x1 x2 Q h :=
  call_of_den callOK mixed Tryz.func231 (by kernel_rfl) (by rw [slices_heapSortOrdered_uint64.eq]; exact hh)
end Go.Proofs.W
end
section
set_option maxRecDepth 100000
set_option linter.unusedVariables false
namespace Go.Proofs.W
open Go Go.Shal
def slices_breakPatternsOrdered_uint64.F (x0 : Sl) (x1 : Int) (x2 : Int) (Q : PP) : PP :=
  ifB (decide ((IntKind.wrap .i64 (x2 - x1)) ≥ (8 : Int))) (
    newP 375 [.int .u64 (0 : Int)] fun (a1 : Addr) =>
    stP (.int .u64) a1 (IntKind.wrap .u64 (IntKind.wrap .i64 (x2 - x1))) (
      slices_nextPowerOfTwo.C (IntKind.wrap .i64 (x2 - x1)) fun (n2 : Int) =>
      guardP ((4 : Int) ≠ 0) (loopT [.int .i64] (fun (K3 : Int → PP) (n4 : Int) =>
          guardP ((4 : Int) ≠ 0) (ifB (decide (n4 ≤ (IntKind.wrap .i64 ((IntKind.wrap .i64 (x1 + (IntKind.wrap .i64 ((IntKind.wrap .i64 (Int.tdiv (IntKind.wrap .i64 (x2 - x1)) (4 : Int))) * (2 : Int))))) + (1 : Int))))) (
              slices_xorshift_Next.C (some a1) fun (n5 : Int) =>
              joinT [.int .i64] (fun (M6 : Int → PP) =>
                ifB (decide ((IntKind.wrap .i64 (andI .u64 n5 (IntKind.wrap .u64 (n2 - (1 : Int))))) ≥ (IntKind.wrap .i64 (x2 - x1)))) (
                  M6 (IntKind.wrap .i64 ((IntKind.wrap .i64 (andI .u64 n5 (IntKind.wrap .u64 (n2 - (1 : Int))))) - (IntKind.wrap .i64 (x2 - x1))))) (
                  M6 (IntKind.wrap .i64 (andI .u64 n5 (IntKind.wrap .u64 (n2 - (1 : Int)))))))
              (fun (n7 : Int) =>
                drawT fun (S8 : PP) =>
                idxP 1 x0.p x0.len (IntKind.wrap .i64 (x1 + n7)) fun (a9 : Addr) =>
                ldG S8 (.int .u64) a9 fun (n10 : Int) =>
                idxP 1 x0.p x0.len n4 fun (a11 : Addr) =>
                ldG S8 (.int .u64) a11 fun (n12 : Int) =>
                idxP 1 x0.p x0.len n4 fun (a13 : Addr) =>
                stP (.int .u64) a13 n10 (
                  idxP 1 x0.p x0.len (IntKind.wrap .i64 (x1 + n7)) fun (a14 : Addr) =>
                  stP (.int .u64) a14 n12 (
                    K3 (IntKind.wrap .i64 (n4 + (1 : Int))))))) (
              Q))) (IntKind.wrap .i64 ((IntKind.wrap .i64 (x1 + (IntKind.wrap .i64 ((IntKind.wrap .i64 (Int.tdiv (IntKind.wrap .i64 (x2 - x1)) (4 : Int))) * (2 : Int))))) - (1 : Int)))))) (
    Q)
def slices_breakPatternsOrdered_uint64.ann : Ann := .seq (.leaf) (.seq (.leaf) (.cond (.seq (.leaf) (.seq (.leaf) (.seq (.leaf) (.block (.loop [(9, .sc (.int .i64))] (.seq (.seq (.leaf) (.cond (.leaf) (.leaf))) (.seq (.block (.seq (.leaf) (.join [(10, .sc (.int .i64))] (.seq (.leaf) (.cond (.leaf) (.leaf))) (.draw [12, 13, 14, 15] (.take 0 (.take 1 (.take 2 (.take 3 (.take 4 (.take 5 (.take 6 (.take 7 (.take 8 (.take 9 (.take 10 (.take 11 (.take 12 (.take 13 (.take 14 (.take 15 (.take 16 (.alt 17 (.take 18 (.alt 19 (.done) (.none))) (.none))))))))))))))))))))))) (.leaf)))))))) (.leaf)))
theorem slices_breakPatternsOrdered_uint64.eq (x0 : Sl) (x1 : Int) (x2 : Int) (Q : PP) : denF Tryz.prog Tryz.f232 slices_breakPatternsOrdered_uint64.ann [.slice x0.p x0.len x0.cap, .int .i64 x1, .int .i64 x2] [] Q = slices_breakPatternsOrdered_uint64.F x0 x1 x2 Q := by kernel_rfl
theorem slices_breakPatternsOrdered_uint64.ok (x0 : Sl) (x1 : Int) (x2 : Int) (Q : PP) (h : Heap) (hh : slices_breakPatternsOrdered_uint64.F x0 x1 x2 Q h) : slices_breakPatternsOrdered_uint64.C x0 x1 x2 Q h :=
  call_of_den callOK mixed Tryz.func232 (by kernel_rfl) (by rw [slices_breakPatternsOrdered_uint64.eq]; exact hh)
def slices_order2Ordered_uint64.F (x0 : Sl) (x1 : Int) (x2 : Int) (x3 : Option Addr) (Q : Int → Int → PP) : PP :=
  drawT fun (S1 : PP) =>
  idxP 1 x0.p x0.len x2 fun (a2 : Addr) =>
  ldG S1 (.int .u64) a2 fun (n3 : Int) =>
  idxP 1 x0.p x0.len x1 fun (a4 : Addr) =>
  ldG S1 (.int .u64) a4 fun (n5 : Int) =>
  cmp_Less_uint64.C n3 n5 fun (b6 : Bool) =>
  ifB b6 (
    nilP x3 fun (a7 : Addr) =>
    ld (.int .i64) a7 fun (n8 : Int) =>
    nilP x3 fun (a9 : Addr) =>
    stP (.int .i64) a9 (IntKind.wrap .i64 (n8 + (1 : Int))) (
      Q x2 x1)) (
    Q x1 x2)
def slices_order2Ordered_uint64.ann : Ann := .seq (.leaf) (.seq (.seq (.draw [4, 5, 6, 7] (.take 0 (.take 1 (.take 2 (.take 3 (.take 4 (.take 5 (.take 6 (.take 7 (.alt 8 (.done) (.none))))))))))) (.cond (.seq (.leaf) (.seq (.leaf) (.leaf))) (.leaf))) (.seq (.leaf) (.leaf)))
theorem slices_order2Ordered_uint64.eq (x0 : Sl) (x1 : Int) (x2 : Int) (x3 : Option Addr) (Q : Int → Int → PP) : denF Tryz.prog Tryz.f356 slices_order2Ordered_uint64.ann [.slice x0.p x0.len x0.cap, .int .i64 x1, .int .i64 x2, .pointer x3] [.sc (.int .i64), .sc (.int .i64)] Q = slices_order2Ordered_uint64.F x0 x1 x2 x3 Q := by kernel_rfl
theorem slices_order2Ordered_uint64.ok (x0 : Sl) (x1 : Int) (x2 : Int) (x3 : Option Addr) (Q : Int → Int → PP) (h : Heap) (hh : slices_order2Ordered_uint64.F x0 x1 x2 x3 Q h) : slices_order2Ordered_uint64.C x0 x1 x2 x3 Q h :=
  call_of_den callOK mixed Tryz.func356 (by kernel_rfl) (by rw [slices_order2Ordered_uint64.eq]; exact hh)
def slices_medianOrdered_uint64.F (x0 : Sl) (x1 : Int) (x2 : Int) (x3 : Int) (x4 : Option Addr) (Q : Int → PP) : PP :=
  slices_order2Ordered_uint64.C x0 x1 x2 x4 fun (n1 : Int) (n2 : Int) =>
  slices_order2Ordered_uint64.C x0 n2 x3 x4 fun (n3 : Int) (n4 : Int) =>
  slices_order2Ordered_uint64.C x0 n1 n3 x4 fun (n5 : Int) (n6 : Int) =>
  Q n6
def slices_medianOrdered_uint64.ann : Ann := .seq (.leaf) (.seq (.leaf) (.seq (.leaf) (.seq (.leaf) (.seq (.leaf) (.leaf)))))
theorem slices_medianOrdered_uint64.eq (x0 : Sl) (x1 : Int) (x2 : Int) (x3 : Int) (x4 : Option Addr) (Q : Int → PP) : denF Tryz.prog Tryz.f317 slices_medianOrdered_uint64.ann [.slice x0.p x0.len x0.cap, .int .i64 x1, .int .i64 x2, .int .i64 x3, .pointer x4] [.sc (.int .i64)] Q = slices_medianOrdered_uint64.F x0 x1 x2 x3 x4 Q := by kernel_rfl
theorem slices_medianOrdered_uint64.ok (x0 : Sl) (x1 : Int) (x2 : Int) (x3 : Int) (x4 : Option Addr) (Q : Int → PP) (h : Heap) (hh : slices_medianOrdered_uint64.F x0 x1 x2 x3 x4 Q h) : slices_medianOrdered_uint64.C x0 x1 x2 x3 x4 Q h :=
  call_of_den callOK mixed Tryz.func317 (by kernel_rfl) (by rw [slices_medianOrdered_uint64.eq]; exact hh)
def slices_medianAdjacentOrdered_uint64.F (x0 : Sl) (x1 : Int) (x2 : Option Addr) (Q : Int → PP) : PP :=
  slices_medianOrdered_uint64.C x0 (IntKind.wrap .i64 (x1 - (1 : Int))) x1 (IntKind.wrap .i64 (x1 + (1 : Int))) x2 fun (n1 : Int) =>
  Q n1
def slices_medianAdjacentOrdered_uint64.ann : Ann := .seq (.leaf) (.seq (.leaf) (.leaf))
theorem slices_medianAdjacentOrdered_uint64.eq (x0 : Sl) (x1 : Int) (x2 : Option Addr) (Q : Int → PP) : denF Tryz.prog Tryz.f316 slices_medianAdjacentOrdered_uint64.ann [.slice x0.p x0.len x0.cap, .int .i64 x1, .pointer x2] [.sc (.int .i64)] Q = slices_medianAdjacentOrdered_uint64.F x0 x1 x2 Q := by kernel_rfl
theorem slices_medianAdjacentOrdered_uint64.ok (x0 : Sl) (x1 : Int) (x2 : Option Addr) (Q : Int → PP) (h : Heap) (hh : slices_medianAdjacentOrdered_uint64.F x0 x1 x2 Q h) : slices_medianAdjacentOrdered_uint64.C x0 x1 x2 Q h :=
  call_of_den callOK mixed Tryz.func316 (by kernel_rfl) (by rw [slices_medianAdjacentOrdered_uint64.eq]; exact hh)
def slices_choosePivotOrdered_uint64.F (x0 : Sl) (x1 : Int) (x2 : Int) (Q : Int → Int → PP) : PP :=
  newP 3 [.int .i64 (0 : Int)] fun (a1 : Addr) =>
  guardP ((4 : Int) ≠ 0) (guardP ((4 : Int) ≠ 0) (guardP ((4 : Int) ≠ 0) (joinT [.int .i64, .int .i64, .int .i64] (fun (M2 : Int → Int → Int → PP) =>
          ifB (decide ((IntKind.wrap .i64 (x2 - x1)) ≥ (8 : Int))) (
            joinT [.int .i64, .int .i64, .int .i64] (fun (M3 : Int → Int → Int → PP) =>
              ifB (decide ((IntKind.wrap .i64 (x2 - x1)) ≥ (50 : Int))) (
                slices_medianAdjacentOrdered_uint64.C x0 (IntKind.wrap .i64 (x1 + (IntKind.wrap .i64 ((IntKind.wrap .i64 (Int.tdiv (IntKind.wrap .i64 (x2 - x1)) (4 : Int))) * (1 : Int))))) (some a1) fun (n4 : Int) =>
                slices_medianAdjacentOrdered_uint64.C x0 (IntKind.wrap .i64 (x1 + (IntKind.wrap .i64 ((IntKind.wrap .i64 (Int.tdiv (IntKind.wrap .i64 (x2 - x1)) (4 : Int))) * (2 : Int))))) (some a1) fun (n5 : Int) =>
                slices_medianAdjacentOrdered_uint64.C x0 (IntKind.wrap .i64 (x1 + (IntKind.wrap .i64 ((IntKind.wrap .i64 (Int.tdiv (IntKind.wrap .i64 (x2 - x1)) (4 : Int))) * (3 : Int))))) (some a1) fun (n6 : Int) =>
                M3 n4 n5 n6) (
                M3 (IntKind.wrap .i64 (x1 + (IntKind.wrap .i64 ((IntKind.wrap .i64 (Int.tdiv (IntKind.wrap .i64 (x2 - x1)) (4 : Int))) * (1 : Int))))) (IntKind.wrap .i64 (x1 + (IntKind.wrap .i64 ((IntKind.wrap .i64 (Int.tdiv (IntKind.wrap .i64 (x2 - x1)) (4 : Int))) * (2 : Int))))) (IntKind.wrap .i64 (x1 + (IntKind.wrap .i64 ((IntKind.wrap .i64 (Int.tdiv (IntKind.wrap .i64 (x2 - x1)) (4 : Int))) * (3 : Int)))))))
            (fun (n7 : Int) (n8 : Int) (n9 : Int) =>
              slices_medianOrdered_uint64.C x0 n7 n8 n9 (some a1) fun (n10 : Int) =>
              M2 n7 n10 n9)) (
            M2 (IntKind.wrap .i64 (x1 + (IntKind.wrap .i64 ((IntKind.wrap .i64 (Int.tdiv (IntKind.wrap .i64 (x2 - x1)) (4 : Int))) * (1 : Int))))) (IntKind.wrap .i64 (x1 + (IntKind.wrap .i64 ((IntKind.wrap .i64 (Int.tdiv (IntKind.wrap .i64 (x2 - x1)) (4 : Int))) * (2 : Int))))) (IntKind.wrap .i64 (x1 + (IntKind.wrap .i64 ((IntKind.wrap .i64 (Int.tdiv (IntKind.wrap .i64 (x2 - x1)) (4 : Int))) * (3 : Int)))))))
        (fun (n11 : Int) (n12 : Int) (n13 : Int) =>
          ld (.int .i64) a1 fun (n14 : Int) =>
          ifB (n14 == (0 : Int)) (
            Q n12 (1 : Int)) (
            ifB (n14 == (12 : Int)) (
              Q n12 (2 : Int)) (
              Q n12 (0 : Int)))))))
def slices_choosePivotOrdered_uint64.ann : Ann := .seq (.leaf) (.seq (.leaf) (.seq (.leaf) (.seq (.leaf) (.seq (.leaf) (.seq (.leaf) (.join [(10, .sc (.int .i64)), (11, .sc (.int .i64)), (12, .sc (.int .i64))] (.seq (.leaf) (.cond (.join [(10, .sc (.int .i64)), (11, .sc (.int .i64)), (12, .sc (.int .i64))] (.seq (.leaf) (.cond (.seq (.leaf) (.seq (.leaf) (.leaf))) (.leaf))) (.leaf)) (.leaf))) (.seq (.leaf) (.block (.seq (.leaf) (.cond (.seq (.leaf) (.leaf)) (.seq (.leaf) (.cond (.seq (.leaf) (.leaf)) (.seq (.leaf) (.leaf))))))))))))))
theorem slices_choosePivotOrdered_uint64.eq (x0 : Sl) (x1 : Int) (x2 : Int) (Q : Int → Int → PP) : denF Tryz.prog Tryz.f233 slices_choosePivotOrdered_uint64.ann [.slice x0.p x0.len x0.cap, .int .i64 x1, .int .i64 x2] [.sc (.int .i64), .sc (.int .i64)] Q = slices_choosePivotOrdered_uint64.F x0 x1 x2 Q := by kernel_rfl
theorem slices_choosePivotOrdered_uint64.ok (x0 : Sl) (x1 : Int) (x2 : Int) (Q : Int → Int → PP) (h : Heap) (hh : slices_choosePivotOrdered_uint64.F x0 x1 x2 Q h) : slices_choosePivotOrdered_uint64.C x0 x1 x2 Q h :=
  call_of_den callOK mixed Tryz.func233 (by kernel_rfl) (by rw [slices_choosePivotOrdered_uint64.eq]; exact hh)
def slices_reverseRangeOrdered_uint64.F (x0 : Sl) (x1 : Int) (x2 : Int) (Q : PP) : PP :=
  loopT [.int .i64, .int .i64] (fun (K1 : Int → Int → PP) (n2 : Int) (n3 : Int) =>
    ifB (decide (n2 < n3)) (
      drawT fun (S4 : PP) =>
      idxP 1 x0.p x0.len n3 fun (a5 : Addr) =>
      ldG S4 (.int .u64) a5 fun (n6 : Int) =>
      idxP 1 x0.p x0.len n2 fun (a7 : Addr) =>
      ldG S4 (.int .u64) a7 fun (n8 : Int) =>
      idxP 1 x0.p x0.len n2 fun (a9 : Addr) =>
      stP (.int .u64) a9 n6 (
        idxP 1 x0.p x0.len n3 fun (a10 : Addr) =>
        stP (.int .u64) a10 n8 (
          K1 (IntKind.wrap .i64 (n2 + (1 : Int))) (IntKind.wrap .i64 (n3 - (1 : Int)))))) (
      Q)) x1 (IntKind.wrap .i64 (x2 - (1 : Int)))
def slices_reverseRangeOrdered_uint64.ann : Ann := .seq (.leaf) (.seq (.leaf) (.block (.loop [(6, .sc (.int .i64)), (7, .sc (.int .i64))] (.seq (.seq (.leaf) (.cond (.leaf) (.leaf))) (.block (.seq (.draw [8, 9, 10, 11] (.take 0 (.take 1 (.take 2 (.take 3 (.take 4 (.take 5 (.take 6 (.take 7 (.take 8 (.take 9 (.take 10 (.take 11 (.take 12 (.alt 13 (.take 14 (.alt 15 (.done) (.none))) (.none)))))))))))))))) (.seq (.leaf) (.leaf))))))))
theorem slices_reverseRangeOrdered_uint64.eq (x0 : Sl) (x1 : Int) (x2 : Int) (Q : PP) : denF Tryz.prog Tryz.f234 slices_reverseRangeOrdered_uint64.ann [.slice x0.p x0.len x0.cap, .int .i64 x1, .int .i64 x2] [] Q = slices_reverseRangeOrdered_uint64.F x0 x1 x2 Q := by kernel_rfl
theorem slices_reverseRangeOrdered_uint64.ok (x0 : Sl) (x1 : Int) (x2 : Int) (Q : PP) (h : Heap) (hh : slices_reverseRangeOrdered_uint64.F x0 x1 x2 Q h) : slices_reverseRangeOrdered_uint64.C x0 x1 x2 Q h :=
  call_of_den callOK mixed Tryz.func234 (by kernel_rfl) (by rw [slices_reverseRangeOrdered_uint64.eq]; exact hh)
def slices_partialInsertionSortOrdered_uint64.F (x0 : Sl) (x1 : Int) (x2 : Int) (Q : Bool → PP) : PP :=
  loopT [.int .i64, .bool, .int .i64] (fun (K1 : Int → Bool → Int → PP) (n2 : Int) (b3 : Bool) (n4 : Int) =>
    ifB (decide (n4 < (5 : Int))) (
      joinT [.int .i64, .bool] (fun (M5 : Int → Bool → PP) =>
        loopT [.int .i64] (fun (K6 : Int → PP) (n7 : Int) =>
          joinT [.bool] (fun (M8 : Bool → PP) =>
            drawT fun (S9 : PP) =>
            ifB (decide (n7 < x2)) (
              idxP 1 x0.p x0.len n7 fun (a10 : Addr) =>
              ldG S9 (.int .u64) a10 fun (n11 : Int) =>
              idxP 1 x0.p x0.len (IntKind.wrap .i64 (n7 - (1 : Int))) fun (a12 : Addr) =>
              ldG S9 (.int .u64) a12 fun (n13 : Int) =>
              cmp_Less_uint64.C n11 n13 fun (b14 : Bool) =>
              M8 (!b14)) (
              M8 false))
          (fun (b15 : Bool) =>
            ifB b15 (
              K6 (IntKind.wrap .i64 (n7 + (1 : Int)))) (
              ifB (n7 == x2) (
                Q true) (
                ifB (decide ((IntKind.wrap .i64 (x2 - x1)) < (50 : Int))) (
                  Q false) (
                  drawT fun (S16 : PP) =>
                  idxP 1 x0.p x0.len (IntKind.wrap .i64 (n7 - (1 : Int))) fun (a17 : Addr) =>
                  ldG S16 (.int .u64) a17 fun (n18 : Int) =>
                  idxP 1 x0.p x0.len n7 fun (a19 : Addr) =>
                  ldG S16 (.int .u64) a19 fun (n20 : Int) =>
                  idxP 1 x0.p x0.len n7 fun (a21 : Addr) =>
                  stP (.int .u64) a21 n18 (
                    idxP 1 x0.p x0.len (IntKind.wrap .i64 (n7 - (1 : Int))) fun (a22 : Addr) =>
                    stP (.int .u64) a22 n20 (
                      joinT [] (fun (M23 : PP) =>
                        ifB (decide ((IntKind.wrap .i64 (n7 - x1)) ≥ (2 : Int))) (
                        loopT [.int .i64] (fun (K24 : Int → PP) (n25 : Int) =>
                        ifB (decide (n25 ≥ (1 : Int))) (
                        drawT fun (S26 : PP) =>
                        idxP 1 x0.p x0.len n25 fun (a27 : Addr) =>
                        ldG S26 (.int .u64) a27 fun (n28 : Int) =>
                        idxP 1 x0.p x0.len (IntKind.wrap .i64 (n25 - (1 : Int))) fun (a29 : Addr) =>
                        ldG S26 (.int .u64) a29 fun (n30 : Int) =>
                        cmp_Less_uint64.C n28 n30 fun (b31 : Bool) =>
                        ifB (!b31) (
                        M23) (
                        drawT fun (S32 : PP) =>
                        idxP 1 x0.p x0.len (IntKind.wrap .i64 (n25 - (1 : Int))) fun (a33 : Addr) =>
                        ldG S32 (.int .u64) a33 fun (n34 : Int) =>
                        idxP 1 x0.p x0.len n25 fun (a35 : Addr) =>
                        ldG S32 (.int .u64) a35 fun (n36 : Int) =>
                        idxP 1 x0.p x0.len n25 fun (a37 : Addr) =>
                        stP (.int .u64) a37 n34 (
                        idxP 1 x0.p x0.len (IntKind.wrap .i64 (n25 - (1 : Int))) fun (a38 : Addr) =>
                        stP (.int .u64) a38 n36 (
                        K24 (IntKind.wrap .i64 (n25 - (1 : Int))))))) (
                        M23)) (IntKind.wrap .i64 (n7 - (1 : Int)))) (
                        M23))
                      (
                        ifB (decide ((IntKind.wrap .i64 (x2 - n7)) ≥ (2 : Int))) (
                        loopT [.int .i64] (fun (K39 : Int → PP) (n40 : Int) =>
                        ifB (decide (n40 < x2)) (
                        drawT fun (S41 : PP) =>
                        idxP 1 x0.p x0.len n40 fun (a42 : Addr) =>
                        ldG S41 (.int .u64) a42 fun (n43 : Int) =>
                        idxP 1 x0.p x0.len (IntKind.wrap .i64 (n40 - (1 : Int))) fun (a44 : Addr) =>
                        ldG S41 (.int .u64) a44 fun (n45 : Int) =>
                        cmp_Less_uint64.C n43 n45 fun (b46 : Bool) =>
                        ifB (!b46) (
                        M5 n7 b3) (
                        drawT fun (S47 : PP) =>
                        idxP 1 x0.p x0.len (IntKind.wrap .i64 (n40 - (1 : Int))) fun (a48 : Addr) =>
                        ldG S47 (.int .u64) a48 fun (n49 : Int) =>
                        idxP 1 x0.p x0.len n40 fun (a50 : Addr) =>
                        ldG S47 (.int .u64) a50 fun (n51 : Int) =>
                        idxP 1 x0.p x0.len n40 fun (a52 : Addr) =>
                        stP (.int .u64) a52 n49 (
                        idxP 1 x0.p x0.len (IntKind.wrap .i64 (n40 - (1 : Int))) fun (a53 : Addr) =>
                        stP (.int .u64) a53 n51 (
                        K39 (IntKind.wrap .i64 (n40 + (1 : Int))))))) (
                        M5 n7 b3)) (IntKind.wrap .i64 (n7 + (1 : Int)))) (
                        M5 n7 b3))))))))) n2)
      (fun (n54 : Int) (b55 : Bool) =>
        K1 n54 b55 (IntKind.wrap .i64 (n4 + (1 : Int))))) (
      Q false)) (IntKind.wrap .i64 (x1 + (1 : Int))) false (0 : Int)
def slices_partialInsertionSortOrdered_uint64.ann : Ann := .seq (.leaf) (.seq (.leaf) (.seq (.seq (.leaf) (.block (.loop [(7, .sc (.int .i64)), (6, .sc .bool), (8, .sc (.int .i64))] (.seq (.seq (.leaf) (.cond (.leaf) (.leaf))) (.join [(7, .sc (.int .i64)), (6, .sc .bool)] (.block (.seq (.block (.loop [(7, .sc (.int .i64))] (.seq (.join [(32, .sc .bool)] (.draw [8, 9, 10, 11, 12, 14, 15] (.take 0 (.take 1 (.take 2 (.take 3 (.take 4 (.take 5 (.take 6 (.take 7 (.take 8 (.take 9 (.take 10 (.take 11 (.take 12 (.alt 13 (.take 14 (.take 15 (.done))) (.none)))))))))))))))) (.cond (.leaf) (.leaf))) (.block (.leaf))))) (.seq (.seq (.leaf) (.cond (.seq (.leaf) (.leaf)) (.leaf))) (.seq (.seq (.leaf) (.cond (.seq (.leaf) (.leaf)) (.leaf))) (.seq (.draw [10, 11, 12, 13] (.take 0 (.take 1 (.take 2 (.take 3 (.take 4 (.take 5 (.take 6 (.take 7 (.take 8 (.take 9 (.take 10 (.take 11 (.take 12 (.take 13 (.take 14 (.alt 15 (.take 16 (.alt 17 (.done) (.none))) (.none)))))))))))))))))) (.join [] (.seq (.leaf) (.cond (.seq (.leaf) (.block (.loop [(9, .sc (.int .i64))] (.seq (.seq (.leaf) (.cond (.leaf) (.leaf))) (.seq (.block (.seq (.seq (.draw [4, 5, 6, 7, 8, 10] (.take 0 (.take 1 (.take 2 (.take 3 (.take 4 (.take 5 (.take 6 (.take 7 (.take 8 (.alt 9 (.take 10 (.done)) (.none)))))))))))) (.cond (.leaf) (.leaf))) (.draw [10, 11, 12, 13] (.take 0 (.take 1 (.take 2 (.take 3 (.take 4 (.take 5 (.take 6 (.take 7 (.take 8 (.take 9 (.take 10 (.take 11 (.take 12 (.take 13 (.take 14 (.alt 15 (.take 16 (.alt 17 (.done) (.none))) (.none)))))))))))))))))))) (.leaf)))))) (.leaf))) (.seq (.leaf) (.cond (.seq (.leaf) (.block (.loop [(10, .sc (.int .i64))] (.seq (.seq (.leaf) (.cond (.leaf) (.leaf))) (.seq (.block (.seq (.seq (.draw [4, 5, 6, 7, 8, 10] (.take 0 (.take 1 (.take 2 (.take 3 (.take 4 (.take 5 (.take 6 (.take 7 (.take 8 (.alt 9 (.take 10 (.done)) (.none)))))))))))) (.cond (.leaf) (.leaf))) (.draw [10, 11, 12, 13] (.take 0 (.take 1 (.take 2 (.take 3 (.take 4 (.take 5 (.take 6 (.take 7 (.take 8 (.take 9 (.take 10 (.take 11 (.take 12 (.take 13 (.take 14 (.alt 15 (.take 16 (.alt 17 (.done) (.none))) (.none)))))))))))))))))))) (.leaf)))))) (.leaf))))))))) (.leaf)))))) (.seq (.leaf) (.leaf))))
theorem slices_partialInsertionSortOrdered_uint64.eq (x0 : Sl) (x1 : Int) (x2 : Int) (Q : Bool → PP) : denF Tryz.prog Tryz.f235 slices_partialInsertionSortOrdered_uint64.ann [.slice x0.p x0.len x0.cap, .int .i64 x1, .int .i64 x2] [.sc .bool] Q = slices_partialInsertionSortOrdered_uint64.F x0 x1 x2 Q := by kernel_rfl
theorem slices_partialInsertionSortOrdered_uint64.ok (x0 : Sl) (x1 : Int) (x2 : Int) (Q : Bool → PP) (h : Heap) (hh : slices_partialInsertionSortOrdered_uint64.F x0 x1 x2 Q h) : slices_partialInsertionSortOrdered_uint64.C x0 x1 x2 Q h :=
  call_of_den callOK mixed Tryz.func235 (by kernel_rfl) (by rw [slices_partialInsertionSortOrdered_uint64.eq]; exact hh)
def slices_partitionEqualOrdered_uint64.F (x0 : Sl) (x1 : Int) (x2 : Int) (x3 : Int) (Q : Int → PP) : PP :=
  drawT fun (S1 : PP) =>
  idxP 1 x0.p x0.len x3 fun (a2 : Addr) =>
  ldG S1 (.int .u64) a2 fun (n3 : Int) =>
  idxP 1 x0.p x0.len x1 fun (a4 : Addr) =>
  ldG S1 (.int .u64) a4 fun (n5 : Int) =>
  idxP 1 x0.p x0.len x1 fun (a6 : Addr) =>
  stP (.int .u64) a6 n3 (
    idxP 1 x0.p x0.len x3 fun (a7 : Addr) =>
    stP (.int .u64) a7 n5 (
      loopT [.int .i64, .int .i64] (fun (K8 : Int → Int → PP) (n9 : Int) (n10 : Int) =>
        loopT [.int .i64] (fun (K11 : Int → PP) (n12 : Int) =>
          joinT [.bool] (fun (M13 : Bool → PP) =>
            drawT fun (S14 : PP) =>
            ifB (decide (n12 ≤ n10)) (
              idxP 1 x0.p x0.len x1 fun (a15 : Addr) =>
              ldG S14 (.int .u64) a15 fun (n16 : Int) =>
              idxP 1 x0.p x0.len n12 fun (a17 : Addr) =>
              ldG S14 (.int .u64) a17 fun (n18 : Int) =>
              cmp_Less_uint64.C n16 n18 fun (b19 : Bool) =>
              M13 (!b19)) (
              M13 false))
          (fun (b20 : Bool) =>
            ifB b20 (
              K11 (IntKind.wrap .i64 (n12 + (1 : Int)))) (
              loopT [.int .i64] (fun (K21 : Int → PP) (n22 : Int) =>
                joinT [.bool] (fun (M23 : Bool → PP) =>
                  drawT fun (S24 : PP) =>
                  ifB (decide (n12 ≤ n22)) (
                    idxP 1 x0.p x0.len x1 fun (a25 : Addr) =>
                    ldG S24 (.int .u64) a25 fun (n26 : Int) =>
                    idxP 1 x0.p x0.len n22 fun (a27 : Addr) =>
                    ldG S24 (.int .u64) a27 fun (n28 : Int) =>
                    cmp_Less_uint64.C n26 n28 fun (b29 : Bool) =>
                    M23 b29) (
                    M23 false))
                (fun (b30 : Bool) =>
                  ifB b30 (
                    K21 (IntKind.wrap .i64 (n22 - (1 : Int)))) (
                    ifB (decide (n12 > n22)) (
                      Q n12) (
                      drawT fun (S31 : PP) =>
                      idxP 1 x0.p x0.len n22 fun (a32 : Addr) =>
                      ldG S31 (.int .u64) a32 fun (n33 : Int) =>
                      idxP 1 x0.p x0.len n12 fun (a34 : Addr) =>
                      ldG S31 (.int .u64) a34 fun (n35 : Int) =>
                      idxP 1 x0.p x0.len n12 fun (a36 : Addr) =>
                      stP (.int .u64) a36 n33 (
                        idxP 1 x0.p x0.len n22 fun (a37 : Addr) =>
                        stP (.int .u64) a37 n35 (
                        K8 (IntKind.wrap .i64 (n12 + (1 : Int))) (IntKind.wrap .i64 (n22 - (1 : Int))))))))) n10))) n9) (IntKind.wrap .i64 (x1 + (1 : Int))) (IntKind.wrap .i64 (x2 - (1 : Int)))))
def slices_partitionEqualOrdered_uint64.ann : Ann := .seq (.leaf) (.seq (.draw [8, 9, 10, 11] (.take 0 (.take 1 (.take 2 (.take 3 (.take 4 (.take 5 (.take 6 (.take 7 (.take 8 (.take 9 (.take 10 (.take 11 (.take 12 (.alt 13 (.take 14 (.alt 15 (.done) (.none))) (.none)))))))))))))))) (.seq (.leaf) (.seq (.block (.loop [(9, .sc (.int .i64)), (10, .sc (.int .i64))] (.block (.seq (.block (.loop [(9, .sc (.int .i64))] (.seq (.join [(43, .sc .bool)] (.draw [8, 9, 10, 11, 13, 14] (.take 0 (.take 1 (.take 2 (.take 3 (.take 4 (.take 5 (.take 6 (.take 7 (.take 8 (.take 9 (.take 10 (.take 11 (.alt 12 (.take 13 (.take 14 (.done))) (.none))))))))))))))) (.cond (.leaf) (.leaf))) (.block (.leaf))))) (.seq (.block (.loop [(10, .sc (.int .i64))] (.seq (.join [(59, .sc .bool)] (.draw [8, 9, 10, 11, 13] (.take 0 (.take 1 (.take 2 (.take 3 (.take 4 (.take 5 (.take 6 (.take 7 (.take 8 (.take 9 (.take 10 (.take 11 (.alt 12 (.take 13 (.done)) (.none))))))))))))))) (.cond (.leaf) (.leaf))) (.block (.leaf))))) (.seq (.seq (.leaf) (.cond (.leaf) (.leaf))) (.seq (.draw [8, 9, 10, 11] (.take 0 (.take 1 (.take 2 (.take 3 (.take 4 (.take 5 (.take 6 (.take 7 (.take 8 (.take 9 (.take 10 (.take 11 (.take 12 (.alt 13 (.take 14 (.alt 15 (.done) (.none))) (.none)))))))))))))))) (.seq (.leaf) (.leaf))))))))) (.seq (.leaf) (.leaf)))))
theorem slices_partitionEqualOrdered_uint64.eq (x0 : Sl) (x1 : Int) (x2 : Int) (x3 : Int) (Q : Int → PP) : denF Tryz.prog Tryz.f237 slices_partitionEqualOrdered_uint64.ann [.slice x0.p x0.len x0.cap, .int .i64 x1, .int .i64 x2, .int .i64 x3] [.sc (.int .i64)] Q = slices_partitionEqualOrdered_uint64.F x0 x1 x2 x3 Q := by kernel_rfl
theorem slices_partitionEqualOrdered_uint64.ok (x0 : Sl) (x1 : Int) (x2 : Int) (x3 : Int) (Q : Int → PP) (h : Heap) (hh : slices_partitionEqualOrdered_uint64.F x0 x1 x2 x3 Q h) : slices_partitionEqualOrdered_uint64.C x0 x1 x2 x3 Q h :=
  call_of_den callOK mixed Tryz.func237 (by kernel_rfl) (by rw [slices_partitionEqualOrdered_uint64.eq]; exact hh)
end Go.Proofs.W
end
