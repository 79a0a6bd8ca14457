/- The functions' code in the pure machine: written by fs.py out of the reckoning; the kernel compares. -/
import Derived.Test.YtpcjnpkpmaahiaaDoorPmO
import Derived.Test.YtpcjnpkpmaahiaaDoorPmDf
import Derived.Test.YtpcjnpkpmaahiaaDoorProg
import Derived.KernelRfl
set_option maxRecDepth 100000
set_option linter.unusedVariables false
namespace Go.Proofs.YtpcjnpkpmaahiaaDoor.Fs
open Go Go.Proofs.YtpcjnpkpmaahiaaDoor.Pm
abbrev f_wal_Frame : Nat := 7
def B_wal_Frame : PC := (.seq (.ops [gI 4 (.mov (.k (.slice .none 0 0))), gI 5 (.mov (.k (.int .i64 0)))]) (.seq (.block 0 (.seq (.ops [gM 7 0, gI 8 (.bin .eql (.t 7) (.k (.int .u64 0))), gM 6 8]) (.cond (.t 6) (.seq (.ops [gI 4 (.mov (.k (.slice .none 0 0))), gI 5 (.mov (.k (.int .i64 1)))]) .ret) (.seq (.ops [gM 10 1, gI 11 (.lenS (.t 10)), gI 12 (.bin .gtr (.t 11) (.k (.int .i64 65536))), gM 9 12]) (.cond (.t 9) (.seq (.ops [gI 4 (.mov (.k (.slice .none 0 0))), gI 5 (.mov (.k (.int .i64 4)))]) .ret) .skip))))) (.seq (.ops [gM 13 0, gM 14 1, gI 15 (.build [(.int .u64 0), (.slice .none 0 0)] [(0, (1, (.t 13))), (1, (1, (.t 14)))]), gI 16 (.call 25 [(.t 15)]), gM 4 16, gI 5 (.mov (.k (.int .i64 0)))]) .ret)))
def F_wal_Frame : PF := ⟨17, B_wal_Frame, [(.t 4), (.t 5)]⟩
theorem r_wal_Frame : F_wal_Frame.res = [(.t 4), (.t 5)] := rfl
theorem n_wal_Frame : F_wal_Frame.n = 17 := rfl
theorem b_wal_Frame : F_wal_Frame.body = B_wal_Frame := rfl
theorem st_wal_Frame : StandsF Tryd.prog 7 F_wal_Frame := compF_ok (by kernel_rfl)
abbrev f_ref07_Frame : Nat := 8
def B_ref07_Frame : PC := (.seq (.ops [gI 4 (.mov (.k (.slice .none 0 0))), gI 5 (.mov (.k (.int .i64 0)))]) (.seq (.seq (.ops [gM 8 0, gI 9 (.bin .eql (.t 8) (.k (.int .u64 0)))]) (.cond (.t 9) (.seq (.ops [gI 4 (.mov (.k (.slice .none 0 0))), gI 5 (.mov (.k (.int .i64 1)))]) .ret) .skip)) (.seq (.seq (.ops [gM 10 1, gI 11 (.lenS (.t 10)), gI 12 (.bin .gtr (.t 11) (.k (.int .i64 65536)))]) (.cond (.t 12) (.seq (.ops [gI 4 (.mov (.k (.slice .none 0 0))), gI 5 (.mov (.k (.int .i64 4)))]) .ret) .skip)) (.seq (.ops [gI 6 (.mov (.k (.slice .none 0 0)))]) (.seq (.ops [gM 13 6, gM 14 0, gI 15 (.call 26 [(.t 13), (.t 14)]), gM 6 15]) (.seq (.ops [gM 16 6, gM 17 1, gI 18 (.lenS (.t 17)), gI 19 (.convI .u64 (.t 18)), gI 20 (.call 26 [(.t 16), (.t 19)]), gM 6 20]) (.seq (.ops [gM 21 6, gM 22 1, gI 23 (.append 1 1 [(.int .u8 0)] (.t 21) (.t 22)), gM 6 23]) (.seq (.ops [gM 24 6, gI 25 (.call 27 [(.t 24)]), gM 7 25]) (.seq (.ops [gM 26 6, gM 27 7, gI 28 (.convI .u8 (.t 27)), gM 29 7, gI 30 (.bin .shr (.t 29) (.k (.int .u64 8))), gI 31 (.convI .u8 (.t 30)), gM 32 7, gI 33 (.bin .shr (.t 32) (.k (.int .u64 16))), gI 34 (.convI .u8 (.t 33)), gM 35 7, gI 36 (.bin .shr (.t 35) (.k (.int .u64 24))), gI 37 (.convI .u8 (.t 36)), gI 38 (.row 1 4 [(.int .u8 0), (.int .u8 0), (.int .u8 0), (.int .u8 0)] [(0, (1, (.t 28))), (1, (1, (.t 31))), (2, (1, (.t 34))), (3, (1, (.t 37)))]), gI 39 (.append 1 1 [(.int .u8 0)] (.t 26) (.t 38)), gM 6 39]) (.seq (.ops [gM 40 6, gM 4 40, gI 5 (.mov (.k (.int .i64 0)))]) .ret))))))))))
def F_ref07_Frame : PF := ⟨41, B_ref07_Frame, [(.t 4), (.t 5)]⟩
theorem r_ref07_Frame : F_ref07_Frame.res = [(.t 4), (.t 5)] := rfl
theorem n_ref07_Frame : F_ref07_Frame.n = 41 := rfl
theorem b_ref07_Frame : F_ref07_Frame.body = B_ref07_Frame := rfl
theorem st_ref07_Frame : StandsF Tryd.prog 8 F_ref07_Frame := compF_ok (by kernel_rfl)
abbrev f_wal_Frames : Nat := 10
def B_wal_Frames : PC := (.seq (.ops [gI 2 (.mov (.k (.slice .none 0 0))), gI 3 (.mov (.k (.int .u64 0))), gI 4 (.mov (.k (.int .i64 0)))]) (.seq (.ops [gM 12 0, gI 13 (.call 28 [(.t 12)]), gM 11 13, gI 14 (.extract (.t 11) 0), gI 15 (.extract (.t 11) 1), gM 5 14, gM 6 15]) (.seq (.ops [gI 7 (.mov (.k (.slice .none 0 0)))]) (.seq (.ops [gI 8 (.mov (.k (.int .u64 0)))]) (.seq (.seq (.ops [gM 16 5, gI 17 (.lenS (.t 16)), gI 18 (.mov (.k (.int .i64 0)))]) (.block 0 (.loop (.seq (.ops [gI 19 (.bin .lss (.t 18) (.t 17))]) (.seq (.cond (.t 19) .skip (.exit 0)) (.seq (.block 1 (.seq (.ops [gI 20 (.idxS 2 (.t 16) (.t 18)), gI 21 (.load (.some 2) (.t 20)), gI 10 (.alloc [(.int .u64 0), (.slice .none 0 0)]), gN (.store 2 (.t 10) (.t 21))]) (.seq (.ops [gM 22 7, gI 23 (.fieldAddr 1 (.t 10)), gI 24 (.load .none (.t 23)), gI 25 (.row 1 1 [(.slice .none 0 0)] [(0, (1, (.t 24)))]), gI 26 (.append 1 24 [(.slice .none 0 0)] (.t 22) (.t 25)), gM 7 26]) (.ops [gI 27 (.fieldAddr 0 (.t 10)), gI 28 (.load .none (.t 27)), gM 8 28])))) (.ops [gI 29 (.bin .add (.t 18) (.k (.int .i64 1))), gM 18 29]))))))) (.seq (.ops [gM 30 7, gM 31 8, gM 32 6, gM 2 30, gM 3 31, gM 4 32]) .ret))))))
def F_wal_Frames : PF := ⟨33, B_wal_Frames, [(.t 2), (.t 3), (.t 4)]⟩
theorem r_wal_Frames : F_wal_Frames.res = [(.t 2), (.t 3), (.t 4)] := rfl
theorem n_wal_Frames : F_wal_Frames.n = 33 := rfl
theorem b_wal_Frames : F_wal_Frames.body = B_wal_Frames := rfl
theorem st_wal_Frames : StandsF Tryd.prog 10 F_wal_Frames := compF_ok (by kernel_rfl)
abbrev f_ref07_Frames : Nat := 11
def B_ref07_Frames : PC := (.seq (.ops [gI 2 (.mov (.k (.slice .none 0 0))), gI 3 (.mov (.k (.int .u64 0))), gI 4 (.mov (.k (.int .i64 0)))]) (.seq (.ops [gI 5 (.mov (.k (.slice .none 0 0)))]) (.seq (.ops [gI 6 (.mov (.k (.int .u64 0)))]) (.seq (.ops [gI 7 (.mov (.k (.int .i64 0)))]) (.seq (.block 0 (.loop (.seq (.seq (.ops [gM 12 7, gM 13 0, gI 14 (.lenS (.t 13)), gI 15 (.bin .lss (.t 12) (.t 14))]) (.cond (.t 15) .skip (.exit 0))) (.block 1 (.seq (.ops [gM 17 0, gM 18 7, gI 19 (.slS 1 (.t 17) (.some (.t 18)) .none .none), gI 20 (.call 29 [(.t 19)]), gM 16 20, gI 21 (.extract (.t 16) 0), gI 22 (.extract (.t 16) 1), gI 23 (.extract (.t 16) 2), gM 8 21, gM 9 22, gM 10 23]) (.seq (.seq (.ops [gM 24 10, gI 25 (.bin .eql (.t 24) (.k (.int .i64 0))), gM 26 25, gF 27 26 (.mov (.t 5)), gF 28 26 (.lenS (.t 27)), gF 29 26 (.bin .gtr (.t 28) (.k (.int .i64 0))), gF 30 26 (.mov (.t 29)), gT 31 30 (.mov (.t 8)), gT 32 30 (.mov (.t 6)), gT 33 30 (.bin .add (.t 32) (.k (.int .u64 1))), gT 34 30 (.bin .neq (.t 31) (.t 33)), gF 35 26 (.pick (.t 30) (.t 34) (.k (.bool .false))), gI 36 (.pick (.t 26) (.k (.bool .true)) (.t 35))]) (.cond (.t 36) (.exit 0) .skip)) (.seq (.ops [gI 11 (.mov (.k (.slice .none 0 0)))]) (.seq (.ops [gM 37 11, gM 38 9, gI 39 (.append 1 1 [(.int .u8 0)] (.t 37) (.t 38)), gM 11 39]) (.seq (.ops [gM 40 5, gM 41 11, gI 42 (.row 1 1 [(.slice .none 0 0)] [(0, (1, (.t 41)))]), gI 43 (.append 1 24 [(.slice .none 0 0)] (.t 40) (.t 42)), gM 5 43]) (.seq (.ops [gM 44 8, gM 6 44]) (.ops [gM 45 7, gM 46 10, gI 47 (.bin .add (.t 45) (.t 46)), gM 7 47]))))))))))) (.seq (.ops [gM 48 5, gM 49 6, gM 50 7, gM 2 48, gM 3 49, gM 4 50]) .ret))))))
def F_ref07_Frames : PF := ⟨51, B_ref07_Frames, [(.t 2), (.t 3), (.t 4)]⟩
theorem r_ref07_Frames : F_ref07_Frames.res = [(.t 2), (.t 3), (.t 4)] := rfl
theorem n_ref07_Frames : F_ref07_Frames.n = 51 := rfl
theorem b_ref07_Frames : F_ref07_Frames.body = B_ref07_Frames := rfl
theorem st_ref07_Frames : StandsF Tryd.prog 11 F_ref07_Frames := compF_ok (by kernel_rfl)
abbrev f_law07_same : Nat := 12
def B_law07_same : PC := (.seq (.ops [gI 4 (.mov (.k (.bool .false)))]) (.seq (.seq (.ops [gM 6 0, gI 7 (.lenS (.t 6)), gM 8 1, gI 9 (.lenS (.t 8)), gI 10 (.bin .neq (.t 7) (.t 9))]) (.cond (.t 10) (.seq (.ops [gI 4 (.mov (.k (.bool .false)))]) .ret) .skip)) (.seq (.seq (.ops [gI 5 (.mov (.k (.int .i64 0)))]) (.block 0 (.loop (.seq (.seq (.ops [gM 11 5, gM 12 0, gI 13 (.lenS (.t 12)), gI 14 (.bin .lss (.t 11) (.t 13))]) (.cond (.t 14) .skip (.exit 0))) (.seq (.block 1 (.seq (.quiet [gM 17 0, gM 18 5, gI 19 (.idxS 1 (.t 17) (.t 18)), gI 20 (.load .none (.t 19)), gI 21 (.ofBytes (.t 20)), gM 22 1, gM 23 5, gI 24 (.idxS 1 (.t 22) (.t 23)), gI 25 (.load .none (.t 24)), gI 26 (.ofBytes (.t 25)), gI 27 (.bin .neq (.t 21) (.t 26))]) (.cond (.t 27) (.seq (.ops [gI 4 (.mov (.k (.bool .false)))]) .ret) .skip))) (.ops [gM 15 5, gI 16 (.bin .add (.t 15) (.k (.int .i64 1))), gM 5 16])))))) (.seq (.ops [gI 4 (.mov (.k (.bool .true)))]) .ret))))
def F_law07_same : PF := ⟨28, B_law07_same, [(.t 4)]⟩
theorem r_law07_same : F_law07_same.res = [(.t 4)] := rfl
theorem n_law07_same : F_law07_same.n = 28 := rfl
theorem b_law07_same : F_law07_same.body = B_law07_same := rfl
theorem st_law07_same : StandsF Tryd.prog 12 F_law07_same := compF_ok (by kernel_rfl)
abbrev f_wal_frame : Nat := 25
def B_wal_frame : PC := (.seq (.ops [gI 1 (.box (.t 0)), gI 2 (.mov (.k (.slice .none 0 0)))]) (.seq (.draw [dI 5 (.fieldAddr 0 (.t 1)), dI 6 (.load .none (.t 5)), dI 8 (.fieldAddr 1 (.t 1)), dI 9 (.load .none (.t 8)), dI 10 (.lenS (.t 9)), dI 11 (.convI .u64 (.t 10)), ⟨gI 7 (.call 41 [(.k (.slice .none 0 0)), (.t 6)]), [gI 9 (.load .none (.t 8))]⟩, dI 12 (.call 41 [(.t 7), (.t 11)]), dM 3 12]) (.seq (.ops [gM 13 3, gI 14 (.fieldAddr 1 (.t 1)), gI 15 (.load .none (.t 14)), gI 16 (.append 1 1 [(.int .u8 0)] (.t 13) (.t 15)), gM 3 16]) (.seq (.ops [gM 17 3, gI 18 (.call 42 [(.t 17)]), gM 4 18]) (.seq (.ops [gM 19 3, gM 20 4, gI 21 (.convI .u8 (.t 20)), gM 22 4, gI 23 (.bin .shr (.t 22) (.k (.int .u64 8))), gI 24 (.convI .u8 (.t 23)), gM 25 4, gI 26 (.bin .shr (.t 25) (.k (.int .u64 16))), gI 27 (.convI .u8 (.t 26)), gM 28 4, gI 29 (.bin .shr (.t 28) (.k (.int .u64 24))), gI 30 (.convI .u8 (.t 29)), gI 31 (.row 1 4 [(.int .u8 0), (.int .u8 0), (.int .u8 0), (.int .u8 0)] [(0, (1, (.t 21))), (1, (1, (.t 24))), (2, (1, (.t 27))), (3, (1, (.t 30)))]), gI 32 (.append 1 1 [(.int .u8 0)] (.t 19) (.t 31)), gM 2 32]) .ret)))))
def F_wal_frame : PF := ⟨33, B_wal_frame, [(.t 2)]⟩
theorem r_wal_frame : F_wal_frame.res = [(.t 2)] := rfl
theorem n_wal_frame : F_wal_frame.n = 33 := rfl
theorem b_wal_frame : F_wal_frame.body = B_wal_frame := rfl
theorem st_wal_frame : StandsF Tryd.prog 25 F_wal_frame := compF_ok (by kernel_rfl)
abbrev f_wal_good : Nat := 28
def B_wal_good : PC := (.seq (.ops [gI 2 (.mov (.k (.slice .none 0 0))), gI 3 (.mov (.k (.int .i64 0)))]) (.seq (.ops [gI 4 (.mov (.k (.slice .none 0 0)))]) (.seq (.ops [gI 5 (.mov (.k (.int .i64 0)))]) (.seq (.block 0 (.loop (.seq (.seq (.ops [gM 8 5, gM 9 0, gI 10 (.lenS (.t 9)), gI 11 (.bin .lss (.t 8) (.t 10))]) (.cond (.t 11) .skip (.exit 0))) (.block 1 (.seq (.ops [gM 13 0, gM 14 5, gI 15 (.slS 1 (.t 13) (.some (.t 14)) .none .none), gI 16 (.call 43 [(.t 15)]), gM 12 16, gI 17 (.extract (.t 12) 0), gI 18 (.extract (.t 12) 1), gI 6 (.alloc [(.int .u64 0), (.slice .none 0 0)]), gN (.store 2 (.t 6) (.t 17)), gM 7 18]) (.seq (.seq (.quiet [gM 19 7, gI 20 (.bin .eql (.t 19) (.k (.int .i64 0))), gM 21 20, gF 22 21 (.mov (.t 4)), gF 23 21 (.lenS (.t 22)), gF 24 21 (.bin .gtr (.t 23) (.k (.int .i64 0))), gF 25 21 (.mov (.t 24)), gT 26 25 (.fieldAddr 0 (.t 6)), gT 27 25 (.load .none (.t 26)), gT 28 25 (.mov (.t 4)), gT 29 25 (.mov (.t 4)), gT 30 25 (.lenS (.t 29)), gT 31 25 (.bin .sub (.t 30) (.k (.int .i64 1))), gT 32 25 (.idxS 2 (.t 28) (.t 31)), gT 33 25 (.fieldAddr 0 (.t 32)), gT 34 25 (.load .none (.t 33)), gT 35 25 (.bin .add (.t 34) (.k (.int .u64 1))), gT 36 25 (.bin .neq (.t 27) (.t 35)), gF 37 21 (.pick (.t 25) (.t 36) (.k (.bool .false))), gI 38 (.pick (.t 21) (.k (.bool .true)) (.t 37))]) (.cond (.t 38) (.exit 0) .skip)) (.seq (.ops [gM 39 4, gI 40 (.load (.some 2) (.t 6)), gI 41 (.row 2 1 [(.int .u64 0), (.slice .none 0 0)] [(0, (2, (.t 40)))]), gI 42 (.append 2 32 [(.int .u64 0), (.slice .none 0 0)] (.t 39) (.t 41)), gM 4 42]) (.ops [gM 43 5, gM 44 7, gI 45 (.bin .add (.t 43) (.t 44)), gM 5 45])))))))) (.seq (.ops [gM 46 4, gM 47 5, gM 2 46, gM 3 47]) .ret)))))
def F_wal_good : PF := ⟨48, B_wal_good, [(.t 2), (.t 3)]⟩
theorem r_wal_good : F_wal_good.res = [(.t 2), (.t 3)] := rfl
theorem n_wal_good : F_wal_good.n = 48 := rfl
theorem b_wal_good : F_wal_good.body = B_wal_good := rfl
theorem st_wal_good : StandsF Tryd.prog 28 F_wal_good := compF_ok (by kernel_rfl)
abbrev f_ref07_one : Nat := 29
def B_ref07_one : PC := (.seq (.ops [gI 2 (.mov (.k (.int .u64 0))), gI 3 (.mov (.k (.slice .none 0 0))), gI 4 (.mov (.k (.int .i64 0)))]) (.seq (.ops [gM 11 0, gI 12 (.call 44 [(.t 11), (.k (.int .i64 0))]), gM 10 12, gI 13 (.extract (.t 10) 0), gI 14 (.extract (.t 10) 1), gI 15 (.extract (.t 10) 2), gM 5 13, gM 6 14, gM 7 15]) (.seq (.seq (.ops [gM 16 7, gI 17 (.bin .neq (.t 16) (.k (.int .i64 0)))]) (.cond (.t 17) (.seq (.ops [gI 2 (.mov (.k (.int .u64 0))), gI 3 (.mov (.k (.slice .none 0 0))), gI 4 (.mov (.k (.int .i64 0)))]) .ret) .skip)) (.seq (.ops [gM 19 0, gM 20 6, gI 21 (.call 44 [(.t 19), (.t 20)]), gM 18 21, gI 22 (.extract (.t 18) 0), gI 23 (.extract (.t 18) 1), gI 24 (.extract (.t 18) 2), gM 8 22, gM 6 23, gM 7 24]) (.seq (.seq (.ops [gM 25 7, gI 26 (.bin .neq (.t 25) (.k (.int .i64 0))), gM 27 26, gF 28 27 (.mov (.t 8)), gF 29 27 (.bin .gtr (.t 28) (.k (.int .u64 65536))), gI 30 (.pick (.t 27) (.k (.bool .true)) (.t 29)), gM 31 30, gF 32 31 (.mov (.t 8)), gF 33 31 (.convI .i64 (.t 32)), gF 34 31 (.mov (.t 0)), gF 35 31 (.lenS (.t 34)), gF 36 31 (.mov (.t 6)), gF 37 31 (.bin .sub (.t 35) (.t 36)), gF 38 31 (.bin .gtr (.t 33) (.t 37)), gI 39 (.pick (.t 31) (.k (.bool .true)) (.t 38))]) (.cond (.t 39) (.seq (.ops [gI 2 (.mov (.k (.int .u64 0))), gI 3 (.mov (.k (.slice .none 0 0))), gI 4 (.mov (.k (.int .i64 0)))]) .ret) .skip)) (.seq (.ops [gM 41 5, gM 42 0, gM 43 6, gM 44 6, gM 45 8, gI 46 (.convI .i64 (.t 45)), gI 47 (.bin .add (.t 44) (.t 46)), gI 48 (.slS 1 (.t 42) (.some (.t 43)) (.some (.t 47)) .none), gI 49 (.call 8 [(.t 41), (.t 48)]), gM 40 49, gI 50 (.extract (.t 40) 0), gI 51 (.extract (.t 40) 1), gM 9 50, gM 7 51]) (.seq (.seq (.quiet [gM 52 7, gI 53 (.bin .neq (.t 52) (.k (.int .i64 0))), gM 54 53, gF 55 54 (.mov (.t 9)), gF 56 54 (.lenS (.t 55)), gF 57 54 (.mov (.t 0)), gF 58 54 (.lenS (.t 57)), gF 59 54 (.bin .gtr (.t 56) (.t 58)), gI 60 (.pick (.t 54) (.k (.bool .true)) (.t 59)), gM 61 60, gF 62 61 (.mov (.t 9)), gF 63 61 (.ofBytes (.t 62)), gF 64 61 (.mov (.t 0)), gF 65 61 (.mov (.t 9)), gF 66 61 (.lenS (.t 65)), gF 67 61 (.slS 1 (.t 64) .none (.some (.t 66)) .none), gF 68 61 (.ofBytes (.t 67)), gF 69 61 (.bin .neq (.t 63) (.t 68)), gI 70 (.pick (.t 61) (.k (.bool .true)) (.t 69))]) (.cond (.t 70) (.seq (.ops [gI 2 (.mov (.k (.int .u64 0))), gI 3 (.mov (.k (.slice .none 0 0))), gI 4 (.mov (.k (.int .i64 0)))]) .ret) .skip)) (.seq (.quiet [gM 71 5, gM 72 0, gM 73 6, gM 74 6, gM 75 8, gI 76 (.convI .i64 (.t 75)), gI 77 (.bin .add (.t 74) (.t 76)), gI 78 (.slS 1 (.t 72) (.some (.t 73)) (.some (.t 77)) .none), gM 79 9, gI 80 (.lenS (.t 79)), gM 2 71, gM 3 78, gM 4 80]) .ret))))))))
def F_ref07_one : PF := ⟨81, B_ref07_one, [(.t 2), (.t 3), (.t 4)]⟩
theorem r_ref07_one : F_ref07_one.res = [(.t 2), (.t 3), (.t 4)] := rfl
theorem n_ref07_one : F_ref07_one.n = 81 := rfl
theorem b_ref07_one : F_ref07_one.body = B_ref07_one := rfl
theorem st_ref07_one : StandsF Tryd.prog 29 F_ref07_one := compF_ok (by kernel_rfl)
abbrev f_wal_cut : Nat := 43
def B_wal_cut : PD := (.seq (.code (.ops [gI 2 (.alloc [(.int .u64 0), (.slice .none 0 0)]), gI 3 (.alloc [(.int .i64 0)])])) (.seq (.ops [gI 9 (.mkFunc (.func 53) [] [(.t 3), (.t 2)])] (.t 9) [] .none) (.code (.seq (.ops [gM 11 0, gI 12 (.call 54 [(.t 11), (.k (.int .i64 0))]), gM 10 12, gI 13 (.extract (.t 10) 0), gI 14 (.extract (.t 10) 1), gI 15 (.extract (.t 10) 2), gM 4 13, gM 5 14, gM 6 15]) (.seq (.seq (.ops [gM 16 6, gI 17 (.bin .neq (.t 16) (.k (.int .i64 0))), gM 18 17, gF 19 18 (.mov (.t 4)), gF 20 18 (.bin .eql (.t 19) (.k (.int .u64 0))), gI 21 (.pick (.t 18) (.k (.bool .true)) (.t 20))]) (.cond (.t 21) (.seq (.ops [gI 22 (.load (.some 2) (.t 2)), gN (.store 2 (.t 2) (.t 22)), gN (.store 1 (.t 3) (.k (.int .i64 0)))]) .ret) .skip)) (.seq (.ops [gM 24 0, gM 25 5, gI 26 (.call 54 [(.t 24), (.t 25)]), gM 23 26, gI 27 (.extract (.t 23) 0), gI 28 (.extract (.t 23) 1), gI 29 (.extract (.t 23) 2), gM 7 27, gM 5 28, gM 6 29]) (.seq (.seq (.ops [gM 30 6, gI 31 (.bin .neq (.t 30) (.k (.int .i64 0))), gM 32 31, gF 33 32 (.mov (.t 7)), gF 34 32 (.bin .gtr (.t 33) (.k (.int .u64 65536))), gI 35 (.pick (.t 32) (.k (.bool .true)) (.t 34)), gM 36 35, gF 37 36 (.mov (.t 7)), gF 38 36 (.convI .i64 (.t 37)), gF 39 36 (.mov (.t 0)), gF 40 36 (.lenS (.t 39)), gF 41 36 (.mov (.t 5)), gF 42 36 (.bin .sub (.t 40) (.t 41)), gF 43 36 (.bin .gtr (.t 38) (.t 42)), gI 44 (.pick (.t 36) (.k (.bool .true)) (.t 43))]) (.cond (.t 44) (.seq (.ops [gI 45 (.load (.some 2) (.t 2)), gN (.store 2 (.t 2) (.t 45)), gN (.store 1 (.t 3) (.k (.int .i64 0)))]) .ret) .skip)) (.seq (.ops [gM 46 4, gM 47 0, gM 48 5, gM 49 5, gM 50 7, gI 51 (.convI .i64 (.t 50)), gI 52 (.bin .add (.t 49) (.t 51)), gI 53 (.slS 1 (.t 47) (.some (.t 48)) (.some (.t 52)) .none), gI 54 (.append 1 1 [(.int .u8 0)] (.k (.slice .none 0 0)) (.t 53)), gI 55 (.build [(.int .u64 0), (.slice .none 0 0)] [(0, (1, (.t 46))), (1, (1, (.t 54)))]), gN (.store 2 (.t 2) (.t 55))]) (.seq (.ops [gI 56 (.load (.some 2) (.t 2)), gI 57 (.call 25 [(.t 56)]), gM 8 57]) (.seq (.seq (.quiet [gM 58 8, gI 59 (.lenS (.t 58)), gM 60 0, gI 61 (.lenS (.t 60)), gI 62 (.bin .gtr (.t 59) (.t 61)), gM 63 62, gF 64 63 (.mov (.t 8)), gF 65 63 (.ofBytes (.t 64)), gF 66 63 (.mov (.t 0)), gF 67 63 (.mov (.t 8)), gF 68 63 (.lenS (.t 67)), gF 69 63 (.slS 1 (.t 66) .none (.some (.t 68)) .none), gF 70 63 (.ofBytes (.t 69)), gF 71 63 (.bin .neq (.t 65) (.t 70)), gI 72 (.pick (.t 63) (.k (.bool .true)) (.t 71))]) (.cond (.t 72) (.seq (.ops [gI 73 (.load (.some 2) (.t 2)), gN (.store 2 (.t 2) (.t 73)), gN (.store 1 (.t 3) (.k (.int .i64 0)))]) .ret) .skip)) (.seq (.ops [gI 74 (.load (.some 2) (.t 2)), gM 75 8, gI 76 (.lenS (.t 75)), gN (.store 2 (.t 2) (.t 74)), gN (.store 1 (.t 3) (.t 76))]) .ret)))))))))))
def F_wal_cut : PFD := ⟨77, B_wal_cut, [(.cell 2 (.some 2)), (.cell 3 .none)]⟩
theorem r_wal_cut : F_wal_cut.res = [(.cell 2 (.some 2)), (.cell 3 .none)] := rfl
theorem n_wal_cut : F_wal_cut.n = 77 := rfl
theorem b_wal_cut : F_wal_cut.body = B_wal_cut := rfl
theorem st_wal_cut : StandsFD Tryd.prog 43 F_wal_cut := compFD_ok (by kernel_rfl)
abbrev f_wal_cut_1 : Nat := 53
def B_wal_cut_1 : PC := (.seq (.ops [gI 2 (.load .none (.t 0)), gI 3 (.bin .eql (.t 2) (.k (.int .i64 0)))]) (.cond (.t 3) (.ops [gI 4 (.build [(.int .u64 0), (.slice .none 0 0)] []), gN (.store 2 (.t 1) (.t 4))]) .skip))
def F_wal_cut_1 : PF := ⟨5, B_wal_cut_1, []⟩
theorem r_wal_cut_1 : F_wal_cut_1.res = [] := rfl
theorem n_wal_cut_1 : F_wal_cut_1.n = 5 := rfl
theorem b_wal_cut_1 : F_wal_cut_1.body = B_wal_cut_1 := rfl
theorem st_wal_cut_1 : StandsF Tryd.prog 53 F_wal_cut_1 := compF_ok (by kernel_rfl)
theorem st0_wal_cut_1 : StandsF0 Tryd.prog 53 F_wal_cut_1 := compF0_ok (by kernel_rfl)
abbrev f_wal_Open : Nat := 16
def B_wal_Open : PC := (.seq (.ops [gI 4 (.mov (.k (.pointer .none))), gI 5 (.mov (.k (.int .i64 0)))]) (.seq (.block 0 (.seq (.ops [gM 19 0, gI 20 (.eqNil .ptr .false (.t 19) (.k (.pointer .none))), gM 18 20]) (.cond (.t 18) (.seq (.ops [gI 4 (.mov (.k (.pointer .none))), gI 5 (.mov (.k (.int .i64 2)))]) .ret) (.seq (.ops [gM 22 1, gI 23 (.bin .add (.t 22) (.k (.string (⟨(#[46, 108, 111, 103])⟩ : ByteArray)))), gI 24 (.bin .add (.t 23) (.k (.string (⟨(#[46, 110, 101, 119])⟩ : ByteArray)))), gI 25 (.call 32 [(.t 24)]), gI 26 (.un .not (.t 25)), gM 21 26]) (.cond (.t 21) (.seq (.ops [gI 4 (.mov (.k (.pointer .none))), gI 5 (.mov (.k (.int .i64 40)))]) .ret) .skip))))) (.seq (.ops [gM 27 0, gM 28 1, gI 29 (.build [(.pointer .none), (.string (⟨(#[])⟩ : ByteArray)), (.pointer .none), (.slice .none 0 0), (.int .i64 0)] [(0, (1, (.t 27))), (1, (1, (.t 28)))]), gI 30 (.box (.t 29)), gM 6 30]) (.seq (.seq (.ops [gM 32 0, gM 33 1, gI 34 (.bin .add (.t 33) (.k (.string (⟨(#[46, 99, 107, 112])⟩ : ByteArray)))), gI 35 (.call 33 [(.t 32), (.t 34)]), gM 31 35, gI 36 (.extract (.t 31) 0), gI 37 (.extract (.t 31) 1), gM 7 36, gM 8 37]) (.seq (.ops [gM 38 8, gI 39 (.bin .eql (.t 38) (.k (.int .i64 0)))]) (.cond (.t 39) (.seq (.ops [gM 41 7, gI 42 (.call 28 [(.t 41)]), gM 40 42, gI 43 (.extract (.t 40) 0), gI 44 (.extract (.t 40) 1), gM 9 43, gM 10 44]) (.seq (.seq (.ops [gM 45 9, gI 46 (.lenS (.t 45)), gI 47 (.bin .neq (.t 46) (.k (.int .i64 1))), gM 48 47, gF 49 48 (.mov (.t 10)), gF 50 48 (.mov (.t 7)), gF 51 48 (.lenS (.t 50)), gF 52 48 (.bin .neq (.t 49) (.t 51)), gI 53 (.pick (.t 48) (.k (.bool .true)) (.t 52))]) (.cond (.t 53) (.seq (.ops [gI 4 (.mov (.k (.pointer .none))), gI 5 (.mov (.k (.int .i64 70)))]) .ret) .skip)) (.ops [gM 54 6, gM 55 9, gI 56 (.idxS 2 (.t 55) (.k (.int .i64 0))), gI 57 (.nilck (.t 54)), gI 58 (.fieldAddr 2 (.t 57)), gN (.store 1 (.t 58) (.t 56))]))) .skip))) (.seq (.ops [gM 59 0, gM 60 1, gI 61 (.bin .add (.t 60) (.k (.string (⟨(#[46, 99, 107, 112])⟩ : ByteArray)))), gI 62 (.bin .add (.t 61) (.k (.string (⟨(#[46, 110, 101, 119])⟩ : ByteArray)))), gI 63 (.call 34 [(.t 59), (.t 62)])]) (.seq (.ops [gM 65 0, gM 66 1, gI 67 (.bin .add (.t 66) (.k (.string (⟨(#[46, 108, 111, 103])⟩ : ByteArray)))), gI 68 (.call 33 [(.t 65), (.t 67)]), gM 64 68, gI 69 (.extract (.t 64) 0), gI 70 (.extract (.t 64) 1), gM 11 69, gM 12 70]) (.seq (.seq (.ops [gM 71 12, gI 72 (.bin .neq (.t 71) (.k (.int .i64 0)))]) (.cond (.t 72) (.seq (.ops [gM 73 6, gM 4 73, gI 5 (.mov (.k (.int .i64 0)))]) .ret) .skip)) (.seq (.ops [gM 74 6, gI 75 (.call 23 [(.t 74)]), gM 13 75]) (.seq (.ops [gM 77 11, gI 78 (.call 28 [(.t 77)]), gM 76 78, gI 79 (.extract (.t 76) 0), gI 80 (.extract (.t 76) 1), gM 14 79, gM 15 80]) (.seq (.seq (.ops [gM 81 14, gI 82 (.lenS (.t 81)), gI 83 (.bin .eql (.t 82) (.k (.int .i64 0))), gM 84 83, gF 85 84 (.mov (.t 14)), gF 86 84 (.idxS 2 (.t 85) (.k (.int .i64 0))), gF 87 84 (.fieldAddr 0 (.t 86)), gF 88 84 (.load .none (.t 87)), gF 89 84 (.mov (.t 13)), gF 90 84 (.bin .add (.t 89) (.k (.int .u64 1))), gF 91 84 (.bin .gtr (.t 88) (.t 90)), gI 92 (.pick (.t 84) (.k (.bool .true)) (.t 91)), gM 93 92, gF 94 93 (.mov (.t 14)), gF 95 93 (.mov (.t 14)), gF 96 93 (.lenS (.t 95)), gF 97 93 (.bin .sub (.t 96) (.k (.int .i64 1))), gF 98 93 (.idxS 2 (.t 94) (.t 97)), gF 99 93 (.fieldAddr 0 (.t 98)), gF 100 93 (.load .none (.t 99)), gF 101 93 (.mov (.t 13)), gF 102 93 (.bin .leq (.t 100) (.t 101)), gI 103 (.pick (.t 93) (.k (.bool .true)) (.t 102))]) (.cond (.t 103) (.ops [gI 14 (.mov (.k (.slice .none 0 0))), gI 15 (.mov (.k (.int .i64 0)))]) .skip)) (.seq (.seq (.ops [gM 104 6, gM 105 11, gI 106 (.lenS (.t 105)), gM 107 15, gI 108 (.bin .sub (.t 106) (.t 107)), gI 109 (.nilck (.t 104)), gI 110 (.fieldAddr 4 (.t 109)), gN (.store 1 (.t 110) (.t 108))]) (.seq (.ops [gM 111 6, gI 112 (.nilck (.t 111)), gI 113 (.fieldAddr 4 (.t 112)), gI 114 (.load .none (.t 113)), gI 115 (.bin .gtr (.t 114) (.k (.int .i64 0)))]) (.cond (.t 115) (.ops [gM 116 0, gM 117 1, gI 118 (.bin .add (.t 117) (.k (.string (⟨(#[46, 108, 111, 103])⟩ : ByteArray)))), gM 119 15, gI 120 (.call 35 [(.t 116), (.t 118), (.t 119)])]) .skip))) (.seq (.seq (.ops [gM 121 14, gI 122 (.lenS (.t 121)), gI 123 (.mov (.k (.int .i64 0)))]) (.block 1 (.loop (.seq (.ops [gI 124 (.bin .lss (.t 123) (.t 122))]) (.seq (.cond (.t 124) .skip (.exit 1)) (.seq (.block 2 (.seq (.ops [gI 125 (.idxS 2 (.t 121) (.t 123)), gI 126 (.load (.some 2) (.t 125)), gI 17 (.alloc [(.int .u64 0), (.slice .none 0 0)]), gN (.store 2 (.t 17) (.t 126))]) (.seq (.ops [gI 127 (.fieldAddr 0 (.t 17)), gI 128 (.load .none (.t 127)), gM 129 13, gI 130 (.bin .gtr (.t 128) (.t 129))]) (.cond (.t 130) (.draw [dM 131 6, dM 132 6, dI 133 (.nilck (.t 132)), dI 134 (.fieldAddr 3 (.t 133)), dI 135 (.load .none (.t 134)), dI 136 (.load (.some 2) (.t 17)), ⟨gI 137 (.row 2 1 [(.int .u64 0), (.slice .none 0 0)] [(0, (2, (.t 136)))]), [gI 135 (.load .none (.t 134))]⟩, dI 138 (.append 2 32 [(.int .u64 0), (.slice .none 0 0)] (.t 135) (.t 137)), dI 139 (.nilck (.t 131)), dI 140 (.fieldAddr 3 (.t 139)), ⟨gN (.store 1 (.t 140) (.t 138)), []⟩]) .skip)))) (.ops [gI 141 (.bin .add (.t 123) (.k (.int .i64 1))), gM 123 141]))))))) (.seq (.ops [gM 142 6, gM 4 142, gI 5 (.mov (.k (.int .i64 0)))]) .ret)))))))))))))
def F_wal_Open : PF := ⟨143, B_wal_Open, [(.t 4), (.t 5)]⟩
theorem r_wal_Open : F_wal_Open.res = [(.t 4), (.t 5)] := rfl
theorem n_wal_Open : F_wal_Open.n = 143 := rfl
theorem b_wal_Open : F_wal_Open.body = B_wal_Open := rfl
theorem st_wal_Open : StandsF Tryd.prog 16 F_wal_Open := compF_ok (by kernel_rfl)
abbrev f_wal_Log_All : Nat := 17
def B_wal_Log_All : PC := (.seq (.ops [gI 1 (.box (.t 0)), gI 2 (.mov (.k .nilFunc))]) (.seq (.ops [gI 3 (.mkFunc (.func 36) [] [(.t 1)]), gM 2 3]) .ret))
def F_wal_Log_All : PF := ⟨4, B_wal_Log_All, [(.t 2)]⟩
theorem r_wal_Log_All : F_wal_Log_All.res = [(.t 2)] := rfl
theorem n_wal_Log_All : F_wal_Log_All.n = 4 := rfl
theorem b_wal_Log_All : F_wal_Log_All.body = B_wal_Log_All := rfl
theorem st_wal_Log_All : StandsF Tryd.prog 17 F_wal_Log_All := compF_ok (by kernel_rfl)
abbrev f_wal_Log_Base : Nat := 18
def B_wal_Log_Base : PC := (.seq (.ops [gI 2 (.mov (.k (.slice .none 0 0))), gI 3 (.mov (.k (.bool .false)))]) (.seq (.seq (.ops [gM 4 0, gI 5 (.eqNil .ptr .false (.t 4) (.k (.pointer .none))), gM 6 5, gF 7 6 (.mov (.t 0)), gF 8 6 (.nilck (.t 7)), gF 9 6 (.fieldAddr 2 (.t 8)), gF 10 6 (.load .none (.t 9)), gF 11 6 (.eqNil .ptr .false (.t 10) (.k (.pointer .none))), gI 12 (.pick (.t 6) (.k (.bool .true)) (.t 11))]) (.cond (.t 12) (.seq (.ops [gI 2 (.mov (.k (.slice .none 0 0))), gI 3 (.mov (.k (.bool .false)))]) .ret) .skip)) (.seq (.ops [gM 13 0, gI 14 (.nilck (.t 13)), gI 15 (.fieldAddr 2 (.t 14)), gI 16 (.load .none (.t 15)), gI 17 (.nilck (.t 16)), gI 18 (.fieldAddr 1 (.t 17)), gI 19 (.load .none (.t 18)), gI 20 (.append 1 1 [(.int .u8 0)] (.k (.slice .none 0 0)) (.t 19)), gM 2 20, gI 3 (.mov (.k (.bool .true)))]) .ret)))
def F_wal_Log_Base : PF := ⟨21, B_wal_Log_Base, [(.t 2), (.t 3)]⟩
theorem r_wal_Log_Base : F_wal_Log_Base.res = [(.t 2), (.t 3)] := rfl
theorem n_wal_Log_Base : F_wal_Log_Base.n = 21 := rfl
theorem b_wal_Log_Base : F_wal_Log_Base.body = B_wal_Log_Base := rfl
theorem st_wal_Log_Base : StandsF Tryd.prog 18 F_wal_Log_Base := compF_ok (by kernel_rfl)
abbrev f_wal_Log_Append : Nat := 19
def B_wal_Log_Append : PC := (.seq (.ops [gI 4 (.mov (.k (.int .i64 0)))]) (.seq (.block 0 (.seq (.ops [gM 8 0, gI 9 (.eqNil .ptr .false (.t 8) (.k (.pointer .none))), gM 7 9]) (.cond (.t 7) (.seq (.ops [gI 4 (.mov (.k (.int .i64 2)))]) .ret) (.seq (.ops [gM 11 1, gI 12 (.lenS (.t 11)), gI 13 (.bin .gtr (.t 12) (.k (.int .i64 65536))), gM 10 13]) (.cond (.t 10) (.seq (.ops [gI 4 (.mov (.k (.int .i64 4)))]) .ret) .skip))))) (.seq (.ops [gM 14 0, gI 15 (.call 23 [(.t 14)]), gI 16 (.bin .add (.t 15) (.k (.int .u64 1))), gM 17 1, gI 18 (.append 1 1 [(.int .u8 0)] (.k (.slice .none 0 0)) (.t 17)), gI 19 (.build [(.int .u64 0), (.slice .none 0 0)] [(0, (1, (.t 16))), (1, (1, (.t 18)))]), gI 5 (.alloc [(.int .u64 0), (.slice .none 0 0)]), gN (.store 2 (.t 5) (.t 19))]) (.seq (.seq (.draw [dM 20 0, dI 21 (.nilck (.t 20)), dI 22 (.fieldAddr 0 (.t 21)), dI 23 (.load .none (.t 22)), dM 24 0, dI 25 (.nilck (.t 24)), dI 26 (.fieldAddr 1 (.t 25)), dI 27 (.load .none (.t 26)), dI 28 (.bin .add (.t 27) (.k (.string (⟨(#[46, 108, 111, 103])⟩ : ByteArray)))), dI 29 (.load (.some 2) (.t 5)), ⟨gI 30 (.call 25 [(.t 29)]), [gI 27 (.load .none (.t 26)), gI 23 (.load .none (.t 22))]⟩, dI 31 (.call 37 [(.t 23), (.t 28), (.t 30)]), dM 6 31]) (.seq (.ops [gM 32 6, gI 33 (.bin .neq (.t 32) (.k (.int .i64 0)))]) (.cond (.t 33) (.seq (.ops [gM 34 6, gM 4 34]) .ret) .skip))) (.seq (.draw [dM 35 0, dM 36 0, dI 37 (.nilck (.t 36)), dI 38 (.fieldAddr 3 (.t 37)), dI 39 (.load .none (.t 38)), dI 40 (.load (.some 2) (.t 5)), ⟨gI 41 (.row 2 1 [(.int .u64 0), (.slice .none 0 0)] [(0, (2, (.t 40)))]), [gI 39 (.load .none (.t 38))]⟩, dI 42 (.append 2 32 [(.int .u64 0), (.slice .none 0 0)] (.t 39) (.t 41)), dI 43 (.nilck (.t 35)), dI 44 (.fieldAddr 3 (.t 43)), ⟨gN (.store 1 (.t 44) (.t 42)), []⟩]) (.seq (.ops [gI 4 (.mov (.k (.int .i64 0)))]) .ret))))))
def F_wal_Log_Append : PF := ⟨45, B_wal_Log_Append, [(.t 4)]⟩
theorem r_wal_Log_Append : F_wal_Log_Append.res = [(.t 4)] := rfl
theorem n_wal_Log_Append : F_wal_Log_Append.n = 45 := rfl
theorem b_wal_Log_Append : F_wal_Log_Append.body = B_wal_Log_Append := rfl
theorem st_wal_Log_Append : StandsF Tryd.prog 19 F_wal_Log_Append := compF_ok (by kernel_rfl)
abbrev f_wal_Log_Sync : Nat := 20
def B_wal_Log_Sync : PC := (.seq (.ops [gI 2 (.mov (.k (.int .i64 0)))]) (.seq (.seq (.ops [gM 3 0, gI 4 (.eqNil .ptr .false (.t 3) (.k (.pointer .none)))]) (.cond (.t 4) (.seq (.ops [gI 2 (.mov (.k (.int .i64 2)))]) .ret) .skip)) (.seq (.draw [dM 5 0, dI 6 (.nilck (.t 5)), dI 7 (.fieldAddr 0 (.t 6)), dI 8 (.load .none (.t 7)), dM 9 0, dI 10 (.nilck (.t 9)), dI 11 (.fieldAddr 1 (.t 10)), dI 12 (.load .none (.t 11)), dI 13 (.bin .add (.t 12) (.k (.string (⟨(#[46, 108, 111, 103])⟩ : ByteArray)))), dI 14 (.call 38 [(.t 8), (.t 13)])]) (.seq (.ops [gI 2 (.mov (.k (.int .i64 0)))]) .ret))))
def F_wal_Log_Sync : PF := ⟨15, B_wal_Log_Sync, [(.t 2)]⟩
theorem r_wal_Log_Sync : F_wal_Log_Sync.res = [(.t 2)] := rfl
theorem n_wal_Log_Sync : F_wal_Log_Sync.n = 15 := rfl
theorem b_wal_Log_Sync : F_wal_Log_Sync.body = B_wal_Log_Sync := rfl
theorem st_wal_Log_Sync : StandsF Tryd.prog 20 F_wal_Log_Sync := compF_ok (by kernel_rfl)
abbrev f_wal_Log_Checkpoint : Nat := 21
def B_wal_Log_Checkpoint : PD := (.seq (.code (.ops [gI 2 (.box (.t 0)), gI 4 (.alloc [(.int .i64 0)])])) (.seq (.code (.block 0 (.seq (.ops [gI 9 (.load .none (.t 2)), gI 10 (.eqNil .ptr .false (.t 9) (.k (.pointer .none))), gM 8 10]) (.cond (.t 8) (.seq (.ops [gN (.store 1 (.t 4) (.k (.int .i64 2)))]) .ret) (.seq (.ops [gM 12 1, gI 13 (.lenS (.t 12)), gI 14 (.bin .gtr (.t 13) (.k (.int .i64 65536))), gM 11 14]) (.cond (.t 11) (.seq (.ops [gN (.store 1 (.t 4) (.k (.int .i64 4)))]) .ret) (.seq (.ops [gI 16 (.load .none (.t 2)), gI 17 (.call 23 [(.t 16)]), gI 18 (.bin .eql (.t 17) (.k (.int .u64 0))), gM 15 18]) (.cond (.t 15) (.seq (.ops [gN (.store 1 (.t 4) (.k (.int .i64 5)))]) .ret) .skip)))))))) (.seq (.code (.ops [gI 19 (.load .none (.t 2)), gI 20 (.call 23 [(.t 19)]), gM 21 1, gI 22 (.append 1 1 [(.int .u8 0)] (.k (.slice .none 0 0)) (.t 21)), gI 23 (.build [(.int .u64 0), (.slice .none 0 0)] [(0, (1, (.t 20))), (1, (1, (.t 22)))]), gI 5 (.alloc [(.int .u64 0), (.slice .none 0 0)]), gN (.store 2 (.t 5) (.t 23))])) (.seq (.code (.ops [gI 24 (.load .none (.t 2)), gI 25 (.nilck (.t 24)), gI 26 (.fieldAddr 1 (.t 25)), gI 27 (.load .none (.t 26)), gI 28 (.bin .add (.t 27) (.k (.string (⟨(#[46, 99, 107, 112])⟩ : ByteArray)))), gI 29 (.bin .add (.t 28) (.k (.string (⟨(#[46, 110, 101, 119])⟩ : ByteArray)))), gI 6 (.alloc [(.string (⟨(#[])⟩ : ByteArray))]), gN (.store 1 (.t 6) (.t 29))])) (.seq (.ops [gI 30 (.mkFunc (.func 39) [] [(.t 4), (.t 2), (.t 6)])] (.t 30) [] .none) (.code (.seq (.seq (.draw [dI 31 (.load .none (.t 2)), dI 32 (.nilck (.t 31)), dI 33 (.fieldAddr 0 (.t 32)), dI 34 (.load .none (.t 33)), dI 35 (.load .none (.t 6)), dI 36 (.load (.some 2) (.t 5)), ⟨gI 37 (.call 25 [(.t 36)]), [gI 35 (.load .none (.t 6)), gI 34 (.load .none (.t 33)), gI 31 (.load .none (.t 2))]⟩, dI 38 (.call 37 [(.t 34), (.t 35), (.t 37)]), dM 7 38]) (.seq (.ops [gM 39 7, gI 40 (.bin .neq (.t 39) (.k (.int .i64 0)))]) (.cond (.t 40) (.seq (.ops [gM 41 7, gN (.store 1 (.t 4) (.t 41))]) .ret) .skip))) (.seq (.draw [dI 42 (.load .none (.t 2)), dI 43 (.nilck (.t 42)), dI 44 (.fieldAddr 0 (.t 43)), dI 45 (.load .none (.t 44)), dI 46 (.load .none (.t 6)), dI 47 (.call 38 [(.t 45), (.t 46)])]) (.seq (.draw [dI 48 (.load .none (.t 2)), dI 49 (.nilck (.t 48)), dI 50 (.fieldAddr 0 (.t 49)), dI 51 (.load .none (.t 50)), dI 52 (.load .none (.t 6)), dI 53 (.load .none (.t 2)), dI 54 (.nilck (.t 53)), dI 55 (.fieldAddr 1 (.t 54)), dI 56 (.load .none (.t 55)), dI 57 (.bin .add (.t 56) (.k (.string (⟨(#[46, 99, 107, 112])⟩ : ByteArray)))), dI 58 (.call 40 [(.t 51), (.t 52), (.t 57)])]) (.seq (.draw [dI 59 (.load .none (.t 2)), dI 60 (.nilck (.t 59)), dI 61 (.fieldAddr 0 (.t 60)), dI 62 (.load .none (.t 61)), dI 63 (.load .none (.t 2)), dI 64 (.nilck (.t 63)), dI 65 (.fieldAddr 1 (.t 64)), dI 66 (.load .none (.t 65)), dI 67 (.bin .add (.t 66) (.k (.string (⟨(#[46, 108, 111, 103])⟩ : ByteArray)))), dI 68 (.call 35 [(.t 62), (.t 67), (.k (.int .i64 0))])]) (.seq (.draw [dI 69 (.load .none (.t 2)), dI 70 (.load .none (.t 2)), dI 71 (.nilck (.t 69)), dI 72 (.fieldAddr 2 (.t 71)), ⟨gN (.store 1 (.t 72) (.t 5)), [gI 70 (.load .none (.t 2))]⟩, dI 73 (.nilck (.t 70)), dI 74 (.fieldAddr 3 (.t 73)), ⟨gN (.store 1 (.t 74) (.k (.slice .none 0 0))), []⟩]) (.seq (.ops [gN (.store 1 (.t 4) (.k (.int .i64 0)))]) .ret))))))))))))
def F_wal_Log_Checkpoint : PFD := ⟨75, B_wal_Log_Checkpoint, [(.cell 4 .none)]⟩
theorem r_wal_Log_Checkpoint : F_wal_Log_Checkpoint.res = [(.cell 4 .none)] := rfl
theorem n_wal_Log_Checkpoint : F_wal_Log_Checkpoint.n = 75 := rfl
theorem b_wal_Log_Checkpoint : F_wal_Log_Checkpoint.body = B_wal_Log_Checkpoint := rfl
theorem st_wal_Log_Checkpoint : StandsFD Tryd.prog 21 F_wal_Log_Checkpoint := compFD_ok (by kernel_rfl)
abbrev f_wal_Log_Len : Nat := 22
def B_wal_Log_Len : PC := (.seq (.ops [gI 2 (.mov (.k (.int .i64 0)))]) (.seq (.ops [gI 3 (.alloc [(.int .i64 0)]), gN (.store 1 (.t 3) (.k (.int .i64 0)))]) (.seq (.seq (.ops [gM 4 0, gI 5 (.call 17 [(.t 4)])]) (.block 0 (.rangeF (.t 5) [6] .skip (.block 1 (.ops [gI 7 (.load .none (.t 3)), gI 8 (.bin .add (.t 7) (.k (.int .i64 1))), gN (.store 1 (.t 3) (.t 8))]))))) (.seq (.ops [gI 9 (.load .none (.t 3)), gM 2 9]) .ret))))
def F_wal_Log_Len : PF := ⟨10, B_wal_Log_Len, [(.t 2)]⟩
theorem r_wal_Log_Len : F_wal_Log_Len.res = [(.t 2)] := rfl
theorem n_wal_Log_Len : F_wal_Log_Len.n = 10 := rfl
theorem b_wal_Log_Len : F_wal_Log_Len.body = B_wal_Log_Len := rfl
theorem st_wal_Log_Len : StandsF Tryd.prog 22 F_wal_Log_Len := compF_ok (by kernel_rfl)
abbrev f_wal_Log_Seq : Nat := 23
def B_wal_Log_Seq : PC := (.seq (.ops [gI 2 (.mov (.k (.int .u64 0)))]) (.seq (.block 0 (.seq (.ops [gM 4 0, gI 5 (.eqNil .ptr .false (.t 4) (.k (.pointer .none))), gM 3 5]) (.cond (.t 3) (.seq (.ops [gI 2 (.mov (.k (.int .u64 0)))]) .ret) (.seq (.ops [gM 7 0, gI 8 (.nilck (.t 7)), gI 9 (.fieldAddr 3 (.t 8)), gI 10 (.load .none (.t 9)), gI 11 (.lenS (.t 10)), gI 12 (.bin .gtr (.t 11) (.k (.int .i64 0))), gM 6 12]) (.cond (.t 6) (.seq (.quiet [gM 13 0, gI 14 (.nilck (.t 13)), gI 15 (.fieldAddr 3 (.t 14)), gI 16 (.load .none (.t 15)), gM 17 0, gI 18 (.nilck (.t 17)), gI 19 (.fieldAddr 3 (.t 18)), gI 20 (.load .none (.t 19)), gI 21 (.lenS (.t 20)), gI 22 (.bin .sub (.t 21) (.k (.int .i64 1))), gI 23 (.idxS 2 (.t 16) (.t 22)), gI 24 (.fieldAddr 0 (.t 23)), gI 25 (.load .none (.t 24)), gM 2 25]) .ret) (.seq (.ops [gM 27 0, gI 28 (.nilck (.t 27)), gI 29 (.fieldAddr 2 (.t 28)), gI 30 (.load .none (.t 29)), gI 31 (.eqNil .ptr .true (.t 30) (.k (.pointer .none))), gM 26 31]) (.cond (.t 26) (.seq (.ops [gM 32 0, gI 33 (.nilck (.t 32)), gI 34 (.fieldAddr 2 (.t 33)), gI 35 (.load .none (.t 34)), gI 36 (.nilck (.t 35)), gI 37 (.fieldAddr 0 (.t 36)), gI 38 (.load .none (.t 37)), gM 2 38]) .ret) .skip))))))) (.seq (.ops [gI 2 (.mov (.k (.int .u64 0)))]) .ret)))
def F_wal_Log_Seq : PF := ⟨39, B_wal_Log_Seq, [(.t 2)]⟩
theorem r_wal_Log_Seq : F_wal_Log_Seq.res = [(.t 2)] := rfl
theorem n_wal_Log_Seq : F_wal_Log_Seq.n = 39 := rfl
theorem b_wal_Log_Seq : F_wal_Log_Seq.body = B_wal_Log_Seq := rfl
theorem st_wal_Log_Seq : StandsF Tryd.prog 23 F_wal_Log_Seq := compF_ok (by kernel_rfl)
abbrev f_wal_Log_Cut : Nat := 24
def B_wal_Log_Cut : PC := (.seq (.ops [gI 2 (.mov (.k (.int .i64 0)))]) (.seq (.seq (.ops [gM 3 0, gI 4 (.eqNil .ptr .false (.t 3) (.k (.pointer .none)))]) (.cond (.t 4) (.seq (.ops [gI 2 (.mov (.k (.int .i64 0)))]) .ret) .skip)) (.seq (.ops [gM 5 0, gI 6 (.nilck (.t 5)), gI 7 (.fieldAddr 4 (.t 6)), gI 8 (.load .none (.t 7)), gM 2 8]) .ret)))
def F_wal_Log_Cut : PF := ⟨9, B_wal_Log_Cut, [(.t 2)]⟩
theorem r_wal_Log_Cut : F_wal_Log_Cut.res = [(.t 2)] := rfl
theorem n_wal_Log_Cut : F_wal_Log_Cut.n = 9 := rfl
theorem b_wal_Log_Cut : F_wal_Log_Cut.body = B_wal_Log_Cut := rfl
theorem st_wal_Log_Cut : StandsF Tryd.prog 24 F_wal_Log_Cut := compF_ok (by kernel_rfl)
abbrev f_wal_Log_All_1 : Nat := 36
def B_wal_Log_All_1 : PC := (.seq (.seq (.ops [gI 5 (.load .none (.t 1)), gI 6 (.eqNil .ptr .false (.t 5) (.k (.pointer .none)))]) (.cond (.t 6) .ret .skip)) (.seq (.ops [gI 7 (.load .none (.t 1)), gI 8 (.nilck (.t 7)), gI 9 (.fieldAddr 3 (.t 8)), gI 10 (.load .none (.t 9)), gI 11 (.lenS (.t 10)), gI 12 (.mov (.k (.int .i64 0)))]) (.block 0 (.loop (.seq (.ops [gI 13 (.bin .lss (.t 12) (.t 11))]) (.seq (.cond (.t 13) .skip (.exit 0)) (.seq (.block 1 (.seq (.ops [gI 14 (.idxS 2 (.t 10) (.t 12)), gI 15 (.load (.some 2) (.t 14)), gI 4 (.alloc [(.int .u64 0), (.slice .none 0 0)]), gN (.store 2 (.t 4) (.t 15))]) (.seq (.ops [gM 16 0, gI 17 (.fieldAddr 1 (.t 4)), gI 18 (.load .none (.t 17)), gI 19 (.append 1 1 [(.int .u8 0)] (.k (.slice .none 0 0)) (.t 18)), gI 20 (.callv (.t 16) [(.t 19)]), gI 21 (.un .not (.t 20))]) (.cond (.t 21) .ret .skip)))) (.ops [gI 22 (.bin .add (.t 12) (.k (.int .i64 1))), gM 12 22]))))))))
def F_wal_Log_All_1 : PF := ⟨23, B_wal_Log_All_1, []⟩
theorem r_wal_Log_All_1 : F_wal_Log_All_1.res = [] := rfl
theorem n_wal_Log_All_1 : F_wal_Log_All_1.n = 23 := rfl
theorem b_wal_Log_All_1 : F_wal_Log_All_1.body = B_wal_Log_All_1 := rfl
theorem st_wal_Log_All_1 : StandsF Tryd.prog 36 F_wal_Log_All_1 := compF_ok (by kernel_rfl)
abbrev f_wal_Log_Checkpoint_1 : Nat := 39
def B_wal_Log_Checkpoint_1 : PC := (.seq (.ops [gI 3 (.load .none (.t 0)), gI 4 (.bin .neq (.t 3) (.k (.int .i64 0)))]) (.cond (.t 4) (.draw [dI 5 (.load .none (.t 1)), dI 6 (.nilck (.t 5)), dI 7 (.fieldAddr 0 (.t 6)), dI 8 (.load .none (.t 7)), dI 9 (.load .none (.t 2)), dI 10 (.call 34 [(.t 8), (.t 9)])]) .skip))
def F_wal_Log_Checkpoint_1 : PF := ⟨11, B_wal_Log_Checkpoint_1, []⟩
theorem r_wal_Log_Checkpoint_1 : F_wal_Log_Checkpoint_1.res = [] := rfl
theorem n_wal_Log_Checkpoint_1 : F_wal_Log_Checkpoint_1.n = 11 := rfl
theorem b_wal_Log_Checkpoint_1 : F_wal_Log_Checkpoint_1.body = B_wal_Log_Checkpoint_1 := rfl
theorem st_wal_Log_Checkpoint_1 : StandsF Tryd.prog 39 F_wal_Log_Checkpoint_1 := compF_ok (by kernel_rfl)
theorem st0_wal_Log_Checkpoint_1 : StandsF0 Tryd.prog 39 F_wal_Log_Checkpoint_1 := compF0_ok (by kernel_rfl)
def GB : Nat → Option PF
  | 7 => some F_wal_Frame
  | 8 => some F_ref07_Frame
  | 10 => some F_wal_Frames
  | 11 => some F_ref07_Frames
  | 12 => some F_law07_same
  | 25 => some F_wal_frame
  | 28 => some F_wal_good
  | 29 => some F_ref07_one
  | 53 => some F_wal_cut_1
  | 16 => some F_wal_Open
  | 17 => some F_wal_Log_All
  | 18 => some F_wal_Log_Base
  | 19 => some F_wal_Log_Append
  | 20 => some F_wal_Log_Sync
  | 22 => some F_wal_Log_Len
  | 23 => some F_wal_Log_Seq
  | 24 => some F_wal_Log_Cut
  | 36 => some F_wal_Log_All_1
  | 39 => some F_wal_Log_Checkpoint_1
  | _ => none
theorem GB_ok : ∀ f F, GB f = some F → StandsF Tryd.prog f F := by
  intro f F h
  unfold GB at h
  split at h <;> first
    | (injection h with h; subst h; exact st_wal_Frame)
    | (injection h with h; subst h; exact st_ref07_Frame)
    | (injection h with h; subst h; exact st_wal_Frames)
    | (injection h with h; subst h; exact st_ref07_Frames)
    | (injection h with h; subst h; exact st_law07_same)
    | (injection h with h; subst h; exact st_wal_frame)
    | (injection h with h; subst h; exact st_wal_good)
    | (injection h with h; subst h; exact st_ref07_one)
    | (injection h with h; subst h; exact st_wal_cut_1)
    | (injection h with h; subst h; exact st_wal_Open)
    | (injection h with h; subst h; exact st_wal_Log_All)
    | (injection h with h; subst h; exact st_wal_Log_Base)
    | (injection h with h; subst h; exact st_wal_Log_Append)
    | (injection h with h; subst h; exact st_wal_Log_Sync)
    | (injection h with h; subst h; exact st_wal_Log_Len)
    | (injection h with h; subst h; exact st_wal_Log_Seq)
    | (injection h with h; subst h; exact st_wal_Log_Cut)
    | (injection h with h; subst h; exact st_wal_Log_All_1)
    | (injection h with h; subst h; exact st_wal_Log_Checkpoint_1)
    | cases h
end Go.Proofs.YtpcjnpkpmaahiaaDoor.Fs
