/- The functions' code in the pure machine: written by fs.py out of the reckoning; the kernel compares. -/
import Derived.Test.YtpcjnpkpmaahiaaDoorPmO
import Derived.Test.YtpcjnpkpmaahiaaDoorPmDf
import Derived.Test.YtpcjnpkpmaahiaaDoorProg
import Derived.KernelRfl
set_option maxRecDepth 100000
set_option linter.unusedVariables false
namespace Go.Proofs.YtpcjnpkpmaahiaaDoor.Fs
open Go Go.Proofs.YtpcjnpkpmaahiaaDoor.Pm
abbrev f_law07_known : Nat := 14
def B_law07_known : PC := (.seq (.ops [gI 0 (.mov (.k (.bool .false)))]) (.seq (.ops [gI 7 (.call 30 []), gM 1 7]) (.seq (.ops [gM 9 1, gI 10 (.call 16 [(.t 9), (.k (.string (⟨(#[97])⟩ : ByteArray)))]), gM 8 10, gI 11 (.extract (.t 8) 0), gI 12 (.extract (.t 8) 1), gM 2 11, gM 3 12]) (.seq (.seq (.ops [gM 13 3, gI 14 (.bin .neq (.t 13) (.k (.int .i64 0))), gM 15 14, gF 16 15 (.mov (.t 2)), gF 17 15 (.eqNil .ptr .false (.t 16) (.k (.pointer .none))), gI 18 (.pick (.t 15) (.k (.bool .true)) (.t 17))]) (.cond (.t 18) (.seq (.ops [gI 0 (.mov (.k (.bool .false)))]) .ret) .skip)) (.seq (.ops [gM 19 2, gI 20 (.row 1 1 [(.int .u8 0)] [(0, (1, (.k (.int .u8 120))))]), gI 21 (.sameB (.t 20)), gI 22 (.call 19 [(.t 19), (.t 21)]), gM 4 22]) (.seq (.ops [gM 23 2, gI 24 (.call 20 [(.t 23)])]) (.seq (.ops [gM 25 2, gI 26 (.row 1 1 [(.int .u8 0)] [(0, (1, (.k (.int .u8 121))))]), gI 27 (.sameB (.t 26)), gI 28 (.call 19 [(.t 25), (.t 27)])]) (.seq (.ops [gM 29 1, gI 30 (.row 1 1 [(.int .i64 0)] [(0, (1, (.k (.int .i64 2))))]), ⟨(.some 31), .none, (.build [(.string (⟨(#[])⟩ : ByteArray)), (.slice .none 0 0)] [(0, (1, (.k (.string (⟨(#[97, 46, 108, 111, 103])⟩ : ByteArray))))), (1, (1, (.t 30)))])⟩, gI 32 (.row 2 1 [(.string (⟨(#[])⟩ : ByteArray)), (.slice .none 0 0)] [(0, (2, (.t 31)))]), gI 33 (.call 31 [(.t 29), (.t 32)])]) (.seq (.ops [gM 35 1, gI 36 (.call 16 [(.t 35), (.k (.string (⟨(#[97])⟩ : ByteArray)))]), gM 34 36, gI 37 (.extract (.t 34) 0), gI 38 (.extract (.t 34) 1), gM 5 37, gM 6 38]) (.seq (.seq (.ops [gM 39 4, gI 40 (.bin .neq (.t 39) (.k (.int .i64 0))), gM 41 40, gF 42 41 (.mov (.t 6)), gF 43 41 (.bin .neq (.t 42) (.k (.int .i64 0))), gI 44 (.pick (.t 41) (.k (.bool .true)) (.t 43)), gM 45 44, gF 46 45 (.mov (.t 5)), gF 47 45 (.eqNil .ptr .false (.t 46) (.k (.pointer .none))), gI 48 (.pick (.t 45) (.k (.bool .true)) (.t 47))]) (.cond (.t 48) (.seq (.ops [gI 0 (.mov (.k (.bool .false)))]) .ret) .skip)) (.seq (.ops [gM 49 5, gI 50 (.call 22 [(.t 49)]), gI 51 (.bin .eql (.t 50) (.k (.int .i64 1))), gM 52 51, gT 53 52 (.mov (.t 5)), gT 54 52 (.call 24 [(.t 53)]), gT 55 52 (.bin .eql (.t 54) (.k (.int .i64 2))), gI 56 (.pick (.t 52) (.t 55) (.k (.bool .false))), gM 57 56, gT 58 57 (.mov (.t 5)), gT 59 57 (.call 23 [(.t 58)]), gT 60 57 (.bin .eql (.t 59) (.k (.int .u64 1))), gI 61 (.pick (.t 57) (.t 60) (.k (.bool .false))), gM 0 61]) .ret)))))))))))
def F_law07_known : PF := ⟨62, B_law07_known, [(.t 0)]⟩
theorem r_law07_known : F_law07_known.res = [(.t 0)] := rfl
theorem n_law07_known : F_law07_known.n = 62 := rfl
theorem b_law07_known : F_law07_known.body = B_law07_known := rfl
theorem st_law07_known : StandsF Tryd.prog 14 F_law07_known := compF_ok (by kernel_rfl)
abbrev f_disk_New : Nat := 30
def B_disk_New : PC := (.seq (.ops [gI 0 (.mov (.k (.pointer .none)))]) (.seq (.ops [⟨(.some 1), .none, .makeMap⟩, gI 2 (.build [(.map .none), (.int .i64 0)] [(0, (1, (.t 1)))]), gI 3 (.box (.t 2)), gM 0 3]) .ret))
def F_disk_New : PF := ⟨4, B_disk_New, [(.t 0)]⟩
theorem r_disk_New : F_disk_New.res = [(.t 0)] := rfl
theorem n_disk_New : F_disk_New.n = 4 := rfl
theorem b_disk_New : F_disk_New.body = B_disk_New := rfl
theorem st_disk_New : StandsF Tryd.prog 30 F_disk_New := compF_ok (by kernel_rfl)
abbrev f_disk_Disk_Crash : Nat := 31
def B_disk_Disk_Crash : PC := (.seq (.ops [gI 4 (.mov (.k (.int .i64 0)))]) (.seq (.seq (.ops [gM 11 0, gI 12 (.eqNil .ptr .false (.t 11) (.k (.pointer .none)))]) (.cond (.t 12) (.seq (.ops [gI 4 (.mov (.k (.int .i64 2)))]) .ret) .skip)) (.seq (.seq (.ops [gM 13 0, gM 14 1, gI 15 (.call 45 [(.t 13), (.t 14)]), gM 5 15]) (.seq (.ops [gM 16 5, gI 17 (.eqNil .ifc .true (.t 16) (.k .nilIface))]) (.cond (.t 17) (.seq (.ops [gM 18 5, gI 19 (.call 46 [(.t 18)]), gM 4 19]) .ret) .skip))) (.seq (.ops [⟨(.some 20), .none, .makeMap⟩, gM 6 20]) (.seq (.seq (.ops [gM 21 1, gI 22 (.lenS (.t 21)), gI 23 (.mov (.k (.int .i64 0)))]) (.block 0 (.loop (.seq (.ops [gI 24 (.bin .lss (.t 23) (.t 22))]) (.seq (.cond (.t 24) .skip (.exit 0)) (.seq (.block 1 (.seq (.ops [gI 25 (.idxS 2 (.t 21) (.t 23)), gI 26 (.load (.some 2) (.t 25)), gI 8 (.alloc [(.string (⟨(#[])⟩ : ByteArray)), (.slice .none 0 0)]), gN (.store 2 (.t 8) (.t 26))]) (.ops [gM 27 6, gI 28 (.fieldAddr 0 (.t 8)), gI 29 (.load .none (.t 28)), gI 30 (.fieldAddr 1 (.t 8)), gI 31 (.load .none (.t 30)), gN (.mapSet .s (.t 27) (.t 29) (.t 31))]))) (.ops [gI 32 (.bin .add (.t 23) (.k (.int .i64 1))), gM 23 32]))))))) (.seq (.seq (.ops [gM 33 0, gI 34 (.nilck (.t 33)), gI 35 (.fieldAddr 0 (.t 34)), gI 36 (.load .none (.t 35)), gI 37 (.rangeM (.t 36))]) (.block 2 (.loop (.seq (.ops [gI 38 (.nextM (.t 37)), gI 39 (.extract (.t 38) 0)]) (.seq (.cond (.t 39) .skip (.exit 2)) (.block 3 (.seq (.ops [gI 40 (.entryM (.t 37)), gI 41 (.extract (.t 40) 0), gI 42 (.extract (.t 40) 1), gM 9 41, gM 10 42]) (.ops [gM 43 10, gM 44 6, gM 45 9, gI 46 (.lookup .s .false (.slice .none 0 0) (.t 44) (.t 45)), gI 47 (.call 47 [(.t 43), (.t 46)])])))))))) (.seq (.ops [gI 4 (.mov (.k (.int .i64 0)))]) .ret)))))))
def F_disk_Disk_Crash : PF := ⟨48, B_disk_Disk_Crash, [(.t 4)]⟩
theorem r_disk_Disk_Crash : F_disk_Disk_Crash.res = [(.t 4)] := rfl
theorem n_disk_Disk_Crash : F_disk_Disk_Crash.n = 48 := rfl
theorem b_disk_Disk_Crash : F_disk_Disk_Crash.body = B_disk_Disk_Crash := rfl
theorem st_disk_Disk_Crash : StandsF Tryd.prog 31 F_disk_Disk_Crash := compF_ok (by kernel_rfl)
abbrev f_disk_Name : Nat := 32
def B_disk_Name : PC := (.seq (.ops [gI 2 (.mov (.k (.bool .false)))]) (.scope (.seq (.ops [gM 6 0, gI 7 (.lenStr (.t 6)), gI 8 (.bin .geq (.t 7) (.k (.int .i64 1))), gM 9 8, gT 10 9 (.mov (.t 0)), gT 11 9 (.lenStr (.t 10)), gT 12 9 (.bin .leq (.t 11) (.k (.int .i64 32))), gI 13 (.pick (.t 9) (.t 12) (.k (.bool .false))), gM 3 13]) (.seq (.label 0) (.seq (.seq (.ops [gM 14 0, gI 15 (.lenStr (.t 14)), gI 16 (.mov (.k (.int .i64 0)))]) (.block 0 (.loop (.seq (.ops [gI 17 (.bin .lss (.t 16) (.t 15))]) (.seq (.cond (.t 17) .skip (.exit 0)) (.seq (.block 1 (.seq (.ops [gM 18 16, gM 4 18]) (.seq (.ops [gM 19 0, gM 20 4, gI 21 (.idxStr (.t 19) (.t 20)), gM 5 21]) (.block 2 (.seq (.seq (.ops [gM 23 5, gI 24 (.bin .geq (.t 23) (.k (.int .u8 97))), gM 25 24, gT 26 25 (.mov (.t 5)), gT 27 25 (.bin .leq (.t 26) (.k (.int .u8 122))), gI 28 (.pick (.t 25) (.t 27) (.k (.bool .false))), gM 22 28]) (.cond (.t 22) .skip (.seq (.ops [gM 29 5, gI 30 (.bin .geq (.t 29) (.k (.int .u8 48))), gM 31 30, gT 32 31 (.mov (.t 5)), gT 33 31 (.bin .leq (.t 32) (.k (.int .u8 57))), gI 34 (.pick (.t 31) (.t 33) (.k (.bool .false))), gM 22 34]) (.cond (.t 22) .skip (.ops [gM 35 5, gI 36 (.bin .eql (.t 35) (.k (.int .u8 46))), gM 22 36]))))) (.cond (.t 22) .skip (.seq (.ops [gI 3 (.mov (.k (.bool .false)))]) (.exit 0)))))))) (.ops [gI 37 (.bin .add (.t 16) (.k (.int .i64 1))), gM 16 37]))))))) (.seq (.ops [gM 38 3, gM 2 38]) .ret))))))
def F_disk_Name : PF := ⟨39, B_disk_Name, [(.t 2)]⟩
theorem r_disk_Name : F_disk_Name.res = [(.t 2)] := rfl
theorem n_disk_Name : F_disk_Name.n = 39 := rfl
theorem b_disk_Name : F_disk_Name.body = B_disk_Name := rfl
theorem st_disk_Name : StandsF Tryd.prog 32 F_disk_Name := compF_ok (by kernel_rfl)
abbrev f_disk_Disk_Read : Nat := 33
def B_disk_Disk_Read : PC := (.seq (.ops [gI 4 (.mov (.k (.slice .none 0 0))), gI 5 (.mov (.k (.int .i64 0)))]) (.seq (.seq (.ops [gM 8 0, gI 9 (.eqNil .ptr .false (.t 8) (.k (.pointer .none)))]) (.cond (.t 9) (.seq (.ops [gI 4 (.mov (.k (.slice .none 0 0))), gI 5 (.mov (.k (.int .i64 2)))]) .ret) .skip)) (.seq (.ops [gM 11 0, gM 12 1, gI 13 (.call 48 [(.t 11), (.t 12)]), gM 10 13, gI 14 (.extract (.t 10) 0), gI 15 (.extract (.t 10) 1), gM 6 14, gM 7 15]) (.seq (.seq (.ops [gM 16 7, gI 17 (.eqNil .ifc .true (.t 16) (.k .nilIface))]) (.cond (.t 17) (.seq (.ops [gM 18 7, gI 19 (.call 46 [(.t 18)]), gI 4 (.mov (.k (.slice .none 0 0))), gM 5 19]) .ret) .skip)) (.seq (.ops [gM 20 6, gI 21 (.call 49 [(.t 20)]), gM 4 21, gI 5 (.mov (.k (.int .i64 0)))]) .ret)))))
def F_disk_Disk_Read : PF := ⟨22, B_disk_Disk_Read, [(.t 4), (.t 5)]⟩
theorem r_disk_Disk_Read : F_disk_Disk_Read.res = [(.t 4), (.t 5)] := rfl
theorem n_disk_Disk_Read : F_disk_Disk_Read.n = 22 := rfl
theorem b_disk_Disk_Read : F_disk_Disk_Read.body = B_disk_Disk_Read := rfl
theorem st_disk_Disk_Read : StandsF Tryd.prog 33 F_disk_Disk_Read := compF_ok (by kernel_rfl)
abbrev f_disk_Disk_Remove : Nat := 34
def B_disk_Disk_Remove : PC := (.seq (.ops [gI 4 (.mov (.k (.int .i64 0)))]) (.seq (.seq (.ops [gM 7 0, gI 8 (.eqNil .ptr .false (.t 7) (.k (.pointer .none)))]) (.cond (.t 8) (.seq (.ops [gI 4 (.mov (.k (.int .i64 2)))]) .ret) .skip)) (.seq (.ops [gM 10 0, gM 11 1, gI 12 (.call 48 [(.t 10), (.t 11)]), gM 9 12, gI 13 (.extract (.t 9) 0), gI 14 (.extract (.t 9) 1), gM 5 13, gM 6 14]) (.seq (.seq (.ops [gM 15 6, gI 16 (.eqNil .ifc .false (.t 15) (.k .nilIface))]) (.cond (.t 16) (.ops [gM 17 0, gI 18 (.nilck (.t 17)), gI 19 (.fieldAddr 0 (.t 18)), gI 20 (.load .none (.t 19)), gM 21 1, gN (.mapDel .s (.t 20) (.t 21))]) .skip)) (.seq (.ops [gM 22 6, gI 23 (.call 46 [(.t 22)]), gM 4 23]) .ret)))))
def F_disk_Disk_Remove : PF := ⟨24, B_disk_Disk_Remove, [(.t 4)]⟩
theorem r_disk_Disk_Remove : F_disk_Disk_Remove.res = [(.t 4)] := rfl
theorem n_disk_Disk_Remove : F_disk_Disk_Remove.n = 24 := rfl
theorem b_disk_Disk_Remove : F_disk_Disk_Remove.body = B_disk_Disk_Remove := rfl
theorem st_disk_Disk_Remove : StandsF Tryd.prog 34 F_disk_Disk_Remove := compF_ok (by kernel_rfl)
abbrev f_disk_Disk_Cut : Nat := 35
def B_disk_Disk_Cut : PC := (.seq (.ops [gI 6 (.mov (.k (.int .i64 0)))]) (.seq (.seq (.ops [gM 9 0, gI 10 (.eqNil .ptr .false (.t 9) (.k (.pointer .none)))]) (.cond (.t 10) (.seq (.ops [gI 6 (.mov (.k (.int .i64 2)))]) .ret) .skip)) (.seq (.ops [gM 12 0, gM 13 1, gI 14 (.call 48 [(.t 12), (.t 13)]), gM 11 14, gI 15 (.extract (.t 11) 0), gI 16 (.extract (.t 11) 1), gM 7 15, gM 8 16]) (.seq (.block 0 (.seq (.ops [gM 18 8, gI 19 (.eqNil .ifc .true (.t 18) (.k .nilIface)), gM 17 19]) (.cond (.t 17) (.seq (.ops [gM 20 8, gI 21 (.call 46 [(.t 20)]), gM 6 21]) .ret) (.seq (.ops [gM 23 2, gI 24 (.bin .lss (.t 23) (.k (.int .i64 0))), gM 25 24, gF 26 25 (.mov (.t 2)), gF 27 25 (.mov (.t 7)), gF 28 25 (.call 50 [(.t 27)]), gF 29 25 (.bin .gtr (.t 26) (.t 28)), gI 30 (.pick (.t 25) (.k (.bool .true)) (.t 29)), gM 22 30]) (.cond (.t 22) (.seq (.ops [gI 6 (.mov (.k (.int .i64 1)))]) .ret) .skip))))) (.seq (.ops [gM 31 7, gM 32 7, gM 33 7, gI 34 (.call 49 [(.t 33)]), gM 35 2, gM 36 2, gI 37 (.slS 1 (.t 34) .none (.some (.t 35)) (.some (.t 36))), gI 38 (.nilck (.t 31)), gI 39 (.fieldAddr 0 (.t 38)), gN (.store 1 (.t 39) (.t 37)), gI 40 (.nilck (.t 32)), gI 41 (.fieldAddr 1 (.t 40)), gN (.store 1 (.t 41) (.k (.slice .none 0 0)))]) (.seq (.ops [gI 6 (.mov (.k (.int .i64 0)))]) .ret))))))
def F_disk_Disk_Cut : PF := ⟨42, B_disk_Disk_Cut, [(.t 6)]⟩
theorem r_disk_Disk_Cut : F_disk_Disk_Cut.res = [(.t 6)] := rfl
theorem n_disk_Disk_Cut : F_disk_Disk_Cut.n = 42 := rfl
theorem b_disk_Disk_Cut : F_disk_Disk_Cut.body = B_disk_Disk_Cut := rfl
theorem st_disk_Disk_Cut : StandsF Tryd.prog 35 F_disk_Disk_Cut := compF_ok (by kernel_rfl)
abbrev f_disk_Disk_Append : Nat := 37
def B_disk_Disk_Append : PC := (.seq (.ops [gI 6 (.mov (.k (.int .i64 0)))]) (.seq (.block 0 (.seq (.ops [gM 11 0, gI 12 (.eqNil .ptr .false (.t 11) (.k (.pointer .none))), gM 10 12]) (.cond (.t 10) (.seq (.ops [gI 6 (.mov (.k (.int .i64 2)))]) .ret) (.seq (.ops [gM 14 1, gI 15 (.call 32 [(.t 14)]), gI 16 (.un .not (.t 15)), gM 13 16]) (.cond (.t 13) (.seq (.ops [gI 6 (.mov (.k (.int .i64 40)))]) .ret) .skip))))) (.seq (.ops [gM 18 0, gM 19 1, gI 20 (.call 48 [(.t 18), (.t 19)]), gM 17 20, gI 21 (.extract (.t 17) 0), gI 22 (.extract (.t 17) 1), gM 7 21, gM 8 22]) (.seq (.ops [gI 9 (.mov (.k (.int .i64 0)))]) (.seq (.seq (.ops [gM 23 8, gI 24 (.eqNil .ifc .false (.t 23) (.k .nilIface))]) (.cond (.t 24) (.ops [gM 25 7, gI 26 (.call 50 [(.t 25)]), gM 9 26]) .skip)) (.seq (.block 1 (.seq (.ops [gM 28 2, gI 29 (.lenS (.t 28)), gM 30 9, gI 31 (.bin .sub (.k (.int .i64 1048576)) (.t 30)), gI 32 (.bin .gtr (.t 29) (.t 31)), gM 27 32]) (.cond (.t 27) (.seq (.ops [gI 6 (.mov (.k (.int .i64 4)))]) .ret) (.seq (.ops [gM 34 8, gI 35 (.eqNil .ifc .true (.t 34) (.k .nilIface)), gM 36 35, gT 37 36 (.mov (.t 0)), gT 38 36 (.nilck (.t 37)), gT 39 36 (.fieldAddr 0 (.t 38)), gT 40 36 (.load .none (.t 39)), gT 41 36 (.lenM (.t 40)), gT 42 36 (.bin .geq (.t 41) (.k (.int .i64 64))), gI 43 (.pick (.t 36) (.t 42) (.k (.bool .false))), gM 33 43]) (.cond (.t 33) (.seq (.ops [gI 6 (.mov (.k (.int .i64 7)))]) .ret) (.seq (.ops [gM 45 8, gI 46 (.eqNil .ifc .true (.t 45) (.k .nilIface)), gM 44 46]) (.cond (.t 44) (.seq (.ops [gI 47 (.build [(.slice .none 0 0), (.slice .none 0 0)] []), gI 48 (.box (.t 47)), gM 7 48]) (.ops [gM 49 0, gI 50 (.nilck (.t 49)), gI 51 (.fieldAddr 0 (.t 50)), gI 52 (.load .none (.t 51)), gM 53 1, gM 54 7, gN (.mapSet .s (.t 52) (.t 53) (.t 54))])) .skip))))))) (.seq (.seq (.ops [gM 55 2, gI 56 (.lenS (.t 55)), gI 57 (.bin .gtr (.t 56) (.k (.int .i64 0)))]) (.cond (.t 57) (.draw [dM 58 7, dM 59 7, dI 60 (.nilck (.t 59)), dI 61 (.fieldAddr 1 (.t 60)), dI 62 (.load .none (.t 61)), dM 63 9, dM 64 2, ⟨gI 65 (.append 1 1 [(.int .u8 0)] (.k (.slice .none 0 0)) (.t 64)), [gI 62 (.load .none (.t 61))]⟩, dI 66 (.build [(.int .i64 0), (.slice .none 0 0)] [(0, (1, (.t 63))), (1, (1, (.t 65)))]), ⟨gI 67 (.row 2 1 [(.int .i64 0), (.slice .none 0 0)] [(0, (2, (.t 66)))]), [gI 62 (.load .none (.t 61))]⟩, dI 68 (.append 2 32 [(.int .i64 0), (.slice .none 0 0)] (.t 62) (.t 67)), dI 69 (.nilck (.t 58)), dI 70 (.fieldAddr 1 (.t 69)), ⟨gN (.store 1 (.t 70) (.t 68)), []⟩]) .skip)) (.seq (.ops [gI 6 (.mov (.k (.int .i64 0)))]) .ret))))))))
def F_disk_Disk_Append : PF := ⟨71, B_disk_Disk_Append, [(.t 6)]⟩
theorem r_disk_Disk_Append : F_disk_Disk_Append.res = [(.t 6)] := rfl
theorem n_disk_Disk_Append : F_disk_Disk_Append.n = 71 := rfl
theorem b_disk_Disk_Append : F_disk_Disk_Append.body = B_disk_Disk_Append := rfl
theorem st_disk_Disk_Append : StandsF Tryd.prog 37 F_disk_Disk_Append := compF_ok (by kernel_rfl)
abbrev f_disk_Disk_Sync : Nat := 38
def B_disk_Disk_Sync : PC := (.seq (.ops [gI 4 (.mov (.k (.int .i64 0)))]) (.seq (.seq (.ops [gM 7 0, gI 8 (.eqNil .ptr .false (.t 7) (.k (.pointer .none)))]) (.cond (.t 8) (.seq (.ops [gI 4 (.mov (.k (.int .i64 2)))]) .ret) .skip)) (.seq (.ops [gM 10 0, gM 11 1, gI 12 (.call 48 [(.t 10), (.t 11)]), gM 9 12, gI 13 (.extract (.t 9) 0), gI 14 (.extract (.t 9) 1), gM 5 13, gM 6 14]) (.seq (.seq (.ops [gM 15 6, gI 16 (.eqNil .ifc .true (.t 15) (.k .nilIface))]) (.cond (.t 16) (.seq (.ops [gM 17 6, gI 18 (.call 46 [(.t 17)]), gM 4 18]) .ret) .skip)) (.seq (.ops [gM 19 5, gM 20 5, gM 21 5, gI 22 (.call 49 [(.t 21)]), gI 23 (.nilck (.t 19)), gI 24 (.fieldAddr 0 (.t 23)), gN (.store 1 (.t 24) (.t 22)), gI 25 (.nilck (.t 20)), gI 26 (.fieldAddr 1 (.t 25)), gN (.store 1 (.t 26) (.k (.slice .none 0 0)))]) (.seq (.ops [gM 27 0, gI 28 (.nilck (.t 27)), gI 29 (.fieldAddr 1 (.t 28)), gI 30 (.load .none (.t 29)), gI 31 (.bin .add (.t 30) (.k (.int .i64 1))), gI 32 (.nilck (.t 27)), gI 33 (.fieldAddr 1 (.t 32)), gN (.store 1 (.t 33) (.t 31))]) (.seq (.ops [gI 4 (.mov (.k (.int .i64 0)))]) .ret)))))))
def F_disk_Disk_Sync : PF := ⟨34, B_disk_Disk_Sync, [(.t 4)]⟩
theorem r_disk_Disk_Sync : F_disk_Disk_Sync.res = [(.t 4)] := rfl
theorem n_disk_Disk_Sync : F_disk_Disk_Sync.n = 34 := rfl
theorem b_disk_Disk_Sync : F_disk_Disk_Sync.body = B_disk_Disk_Sync := rfl
theorem st_disk_Disk_Sync : StandsF Tryd.prog 38 F_disk_Disk_Sync := compF_ok (by kernel_rfl)
abbrev f_disk_Disk_Rename : Nat := 40
def B_disk_Disk_Rename : PC := (.seq (.ops [gI 6 (.mov (.k (.int .i64 0)))]) (.seq (.seq (.ops [gM 9 0, gI 10 (.eqNil .ptr .false (.t 9) (.k (.pointer .none)))]) (.cond (.t 10) (.seq (.ops [gI 6 (.mov (.k (.int .i64 2)))]) .ret) .skip)) (.seq (.ops [gM 12 0, gM 13 1, gI 14 (.call 48 [(.t 12), (.t 13)]), gM 11 14, gI 15 (.extract (.t 11) 0), gI 16 (.extract (.t 11) 1), gM 7 15, gM 8 16]) (.seq (.block 0 (.seq (.ops [gM 18 8, gI 19 (.eqNil .ifc .true (.t 18) (.k .nilIface)), gM 17 19]) (.cond (.t 17) (.seq (.ops [gM 20 8, gI 21 (.call 46 [(.t 20)]), gM 6 21]) .ret) (.seq (.ops [gM 23 2, gI 24 (.call 32 [(.t 23)]), gI 25 (.un .not (.t 24)), gM 22 25]) (.cond (.t 22) (.seq (.ops [gI 6 (.mov (.k (.int .i64 40)))]) .ret) .skip))))) (.seq (.ops [gM 26 0, gI 27 (.nilck (.t 26)), gI 28 (.fieldAddr 0 (.t 27)), gI 29 (.load .none (.t 28)), gM 30 1, gN (.mapDel .s (.t 29) (.t 30))]) (.seq (.ops [gM 31 0, gI 32 (.nilck (.t 31)), gI 33 (.fieldAddr 0 (.t 32)), gI 34 (.load .none (.t 33)), gM 35 2, gM 36 7, gN (.mapSet .s (.t 34) (.t 35) (.t 36))]) (.seq (.ops [gI 6 (.mov (.k (.int .i64 0)))]) .ret)))))))
def F_disk_Disk_Rename : PF := ⟨37, B_disk_Disk_Rename, [(.t 6)]⟩
theorem r_disk_Disk_Rename : F_disk_Disk_Rename.res = [(.t 6)] := rfl
theorem n_disk_Disk_Rename : F_disk_Disk_Rename.n = 37 := rfl
theorem b_disk_Disk_Rename : F_disk_Disk_Rename.body = B_disk_Disk_Rename := rfl
theorem st_disk_Disk_Rename : StandsF Tryd.prog 40 F_disk_Disk_Rename := compF_ok (by kernel_rfl)
abbrev f_disk_Disk_wrong : Nat := 45
def B_disk_Disk_wrong : PC := (.seq (.ops [gI 4 (.mov (.k .nilIface))]) (.seq (.ops [⟨(.some 10), .none, .makeMap⟩, gM 5 10]) (.seq (.seq (.ops [gM 11 1, gI 12 (.lenS (.t 11)), gI 13 (.mov (.k (.int .i64 0)))]) (.block 0 (.loop (.seq (.ops [gI 14 (.bin .lss (.t 13) (.t 12))]) (.seq (.cond (.t 14) .skip (.exit 0)) (.seq (.block 1 (.seq (.ops [gI 15 (.idxS 2 (.t 11) (.t 13)), gI 16 (.load (.some 2) (.t 15)), gI 7 (.alloc [(.string (⟨(#[])⟩ : ByteArray)), (.slice .none 0 0)]), gN (.store 2 (.t 7) (.t 16))]) (.seq (.ops [gM 18 0, gI 19 (.fieldAddr 0 (.t 7)), gI 20 (.load .none (.t 19)), gI 21 (.call 48 [(.t 18), (.t 20)]), gM 17 21, gI 22 (.extract (.t 17) 0), gI 23 (.extract (.t 17) 1), gM 8 22, gM 9 23]) (.seq (.block 2 (.seq (.ops [gM 25 9, gI 26 (.eqNil .ifc .true (.t 25) (.k .nilIface)), gM 24 26]) (.cond (.t 24) (.seq (.ops [gM 27 9, gM 4 27]) .ret) (.seq (.ops [gM 29 5, gI 30 (.fieldAddr 0 (.t 7)), gI 31 (.load .none (.t 30)), gI 32 (.lookup .s .false (.bool .false) (.t 29) (.t 31)), gM 28 32]) (.cond (.t 28) (.seq (.ops [gI 33 (.fieldAddr 0 (.t 7)), gI 34 (.load .none (.t 33)), gI 35 (.build [(.string (⟨(#[])⟩ : ByteArray)), (.int .i64 0)] [(0, (1, (.t 34))), (1, (1, (.k (.int .i64 6))))]), gI 36 (.box (.t 35)), gI 37 (.mkIface 105 (.t 36)), gM 4 37]) .ret) (.seq (.draw [dI 39 (.fieldAddr 1 (.t 7)), dI 40 (.load .none (.t 39)), dI 41 (.lenS (.t 40)), dM 42 8, dI 43 (.nilck (.t 42)), dI 44 (.fieldAddr 1 (.t 43)), dI 45 (.load .none (.t 44)), dI 46 (.lenS (.t 45)), dI 47 (.bin .gtr (.t 41) (.t 46)), dM 48 47, dF 49 48 (.fieldAddr 1 (.t 7)), dF 50 48 (.load .none (.t 49)), dF 51 48 (.call 55 [(.t 50), (.k (.func (.func 56) (#[]) (#[])))]), dI 52 (.pick (.t 48) (.k (.bool .true)) (.t 51)), dM 38 52]) (.cond (.t 38) (.seq (.ops [gI 53 (.fieldAddr 0 (.t 7)), gI 54 (.load .none (.t 53)), gI 55 (.build [(.string (⟨(#[])⟩ : ByteArray)), (.int .i64 0)] [(0, (1, (.t 54))), (1, (1, (.k (.int .i64 1))))]), gI 56 (.box (.t 55)), gI 57 (.mkIface 105 (.t 56)), gM 4 57]) .ret) .skip))))))) (.ops [gM 58 5, gI 59 (.fieldAddr 0 (.t 7)), gI 60 (.load .none (.t 59)), gN (.mapSet .s (.t 58) (.t 60) (.k (.bool .true)))]))))) (.ops [gI 61 (.bin .add (.t 13) (.k (.int .i64 1))), gM 13 61]))))))) (.seq (.ops [gI 4 (.mov (.k .nilIface))]) .ret))))
def F_disk_Disk_wrong : PF := ⟨62, B_disk_Disk_wrong, [(.t 4)]⟩
theorem r_disk_Disk_wrong : F_disk_Disk_wrong.res = [(.t 4)] := rfl
theorem n_disk_Disk_wrong : F_disk_Disk_wrong.n = 62 := rfl
theorem b_disk_Disk_wrong : F_disk_Disk_wrong.body = B_disk_Disk_wrong := rfl
theorem st_disk_Disk_wrong : StandsF Tryd.prog 45 F_disk_Disk_wrong := compF_ok (by kernel_rfl)
abbrev f_disk_file_crash : Nat := 47
def B_disk_file_crash : PC := (.seq (.seq (.ops [gM 6 0, gI 7 (.nilck (.t 6)), gI 8 (.fieldAddr 1 (.t 7)), gI 9 (.load .none (.t 8)), gI 10 (.lenS (.t 9)), gI 11 (.mov (.k (.int .i64 0)))]) (.block 0 (.loop (.seq (.ops [gI 12 (.bin .lss (.t 11) (.t 10))]) (.seq (.cond (.t 12) .skip (.exit 0)) (.seq (.block 1 (.seq (.ops [gM 13 11, gI 14 (.idxS 2 (.t 9) (.t 11)), gI 15 (.load (.some 2) (.t 14)), gI 5 (.alloc [(.int .i64 0), (.slice .none 0 0)]), gM 4 13, gN (.store 2 (.t 5) (.t 15))]) (.seq (.seq (.ops [gM 16 4, gM 17 1, gI 18 (.lenS (.t 17)), gI 19 (.bin .geq (.t 16) (.t 18)), gM 20 19, gF 21 20 (.mov (.t 1)), gF 22 20 (.mov (.t 4)), gF 23 20 (.idxS 1 (.t 21) (.t 22)), gF 24 20 (.load .none (.t 23)), gF 25 20 (.bin .eql (.t 24) (.k (.int .i64 0))), gI 26 (.pick (.t 20) (.k (.bool .true)) (.t 25))]) (.cond (.t 26) (.exit 1) .skip)) (.seq (.draw [dM 27 0, dM 28 0, dI 29 (.nilck (.t 28)), dI 30 (.fieldAddr 0 (.t 29)), dI 31 (.load .none (.t 30)), dI 32 (.fieldAddr 0 (.t 5)), dI 33 (.load .none (.t 32)), dM 34 0, dI 35 (.nilck (.t 34)), dI 36 (.fieldAddr 0 (.t 35)), dI 37 (.load .none (.t 36)), dI 38 (.lenS (.t 37)), dI 39 (.bin .sub (.t 33) (.t 38)), dI 40 (.appendZ 1 1 [(.int .u8 0)] (.t 31) (.t 39)), dI 41 (.nilck (.t 27)), dI 42 (.fieldAddr 0 (.t 41)), ⟨gN (.store 1 (.t 42) (.t 40)), []⟩]) (.draw [dM 43 0, dM 44 0, dI 45 (.nilck (.t 44)), dI 46 (.fieldAddr 0 (.t 45)), dI 47 (.load .none (.t 46)), dI 48 (.fieldAddr 1 (.t 5)), dI 49 (.load .none (.t 48)), dM 50 1, dM 51 4, dI 52 (.idxS 1 (.t 50) (.t 51)), dI 53 (.load .none (.t 52)), dI 54 (.fieldAddr 1 (.t 5)), dI 55 (.load .none (.t 54)), dI 56 (.lenS (.t 55)), dI 57 (.minmax .false (.t 53) (.t 56)), dI 58 (.slS 1 (.t 49) .none (.some (.t 57)) .none), dI 59 (.append 1 1 [(.int .u8 0)] (.t 47) (.t 58)), dI 60 (.nilck (.t 43)), dI 61 (.fieldAddr 0 (.t 60)), ⟨gN (.store 1 (.t 61) (.t 59)), []⟩]))))) (.ops [gI 62 (.bin .add (.t 11) (.k (.int .i64 1))), gM 11 62]))))))) (.ops [gM 63 0, gI 64 (.nilck (.t 63)), gI 65 (.fieldAddr 1 (.t 64)), gN (.store 1 (.t 65) (.k (.slice .none 0 0)))]))
def F_disk_file_crash : PF := ⟨66, B_disk_file_crash, []⟩
theorem r_disk_file_crash : F_disk_file_crash.res = [] := rfl
theorem n_disk_file_crash : F_disk_file_crash.n = 66 := rfl
theorem b_disk_file_crash : F_disk_file_crash.body = B_disk_file_crash := rfl
theorem st_disk_file_crash : StandsF Tryd.prog 47 F_disk_file_crash := compF_ok (by kernel_rfl)
abbrev f_disk_Disk_find : Nat := 48
def B_disk_Disk_find : PC := (.seq (.ops [gI 4 (.mov (.k (.pointer .none))), gI 5 (.mov (.k .nilIface))]) (.seq (.seq (.ops [gM 7 0, gI 8 (.nilck (.t 7)), gI 9 (.fieldAddr 0 (.t 8)), gI 10 (.load .none (.t 9)), gM 11 1, gI 12 (.lookup .s .false (.pointer .none) (.t 10) (.t 11)), gM 6 12]) (.seq (.ops [gM 13 6, gI 14 (.eqNil .ptr .true (.t 13) (.k (.pointer .none)))]) (.cond (.t 14) (.seq (.ops [gM 15 6, gM 4 15, gI 5 (.mov (.k .nilIface))]) .ret) .skip))) (.seq (.ops [gM 16 1, gI 17 (.build [(.string (⟨(#[])⟩ : ByteArray)), (.int .i64 0)] [(0, (1, (.t 16))), (1, (1, (.k (.int .i64 5))))]), gI 18 (.box (.t 17)), gI 19 (.mkIface 105 (.t 18)), gI 4 (.mov (.k (.pointer .none))), gM 5 19]) .ret)))
def F_disk_Disk_find : PF := ⟨20, B_disk_Disk_find, [(.t 4), (.t 5)]⟩
theorem r_disk_Disk_find : F_disk_Disk_find.res = [(.t 4), (.t 5)] := rfl
theorem n_disk_Disk_find : F_disk_Disk_find.n = 20 := rfl
theorem b_disk_Disk_find : F_disk_Disk_find.body = B_disk_Disk_find := rfl
theorem st_disk_Disk_find : StandsF Tryd.prog 48 F_disk_Disk_find := compF_ok (by kernel_rfl)
abbrev f_disk_file_all : Nat := 49
def B_disk_file_all : PC := (.seq (.ops [gI 2 (.mov (.k (.slice .none 0 0)))]) (.seq (.ops [gM 6 0, gI 7 (.nilck (.t 6)), gI 8 (.fieldAddr 0 (.t 7)), gI 9 (.load .none (.t 8)), gI 10 (.append 1 1 [(.int .u8 0)] (.k (.slice .none 0 0)) (.t 9)), gM 3 10]) (.seq (.seq (.ops [gM 11 0, gI 12 (.nilck (.t 11)), gI 13 (.fieldAddr 1 (.t 12)), gI 14 (.load .none (.t 13)), gI 15 (.lenS (.t 14)), gI 16 (.mov (.k (.int .i64 0)))]) (.block 0 (.loop (.seq (.ops [gI 17 (.bin .lss (.t 16) (.t 15))]) (.seq (.cond (.t 17) .skip (.exit 0)) (.seq (.block 1 (.seq (.ops [gI 18 (.idxS 2 (.t 14) (.t 16)), gI 19 (.load (.some 2) (.t 18)), gI 5 (.alloc [(.int .i64 0), (.slice .none 0 0)]), gN (.store 2 (.t 5) (.t 19))]) (.ops [gM 20 3, gI 21 (.fieldAddr 1 (.t 5)), gI 22 (.load .none (.t 21)), gI 23 (.append 1 1 [(.int .u8 0)] (.t 20) (.t 22)), gM 3 23]))) (.ops [gI 24 (.bin .add (.t 16) (.k (.int .i64 1))), gM 16 24]))))))) (.seq (.ops [gM 25 3, gM 2 25]) .ret))))
def F_disk_file_all : PF := ⟨26, B_disk_file_all, [(.t 2)]⟩
theorem r_disk_file_all : F_disk_file_all.res = [(.t 2)] := rfl
theorem n_disk_file_all : F_disk_file_all.n = 26 := rfl
theorem b_disk_file_all : F_disk_file_all.body = B_disk_file_all := rfl
theorem st_disk_file_all : StandsF Tryd.prog 49 F_disk_file_all := compF_ok (by kernel_rfl)
abbrev f_disk_file_size : Nat := 50
def B_disk_file_size : PC := (.seq (.ops [gI 2 (.mov (.k (.int .i64 0)))]) (.seq (.ops [gM 6 0, gI 7 (.nilck (.t 6)), gI 8 (.fieldAddr 0 (.t 7)), gI 9 (.load .none (.t 8)), gI 10 (.lenS (.t 9)), gM 3 10]) (.seq (.seq (.ops [gM 11 0, gI 12 (.nilck (.t 11)), gI 13 (.fieldAddr 1 (.t 12)), gI 14 (.load .none (.t 13)), gI 15 (.lenS (.t 14)), gI 16 (.mov (.k (.int .i64 0)))]) (.block 0 (.loop (.seq (.ops [gI 17 (.bin .lss (.t 16) (.t 15))]) (.seq (.cond (.t 17) .skip (.exit 0)) (.seq (.block 1 (.seq (.ops [gI 18 (.idxS 2 (.t 14) (.t 16)), gI 19 (.load (.some 2) (.t 18)), gI 5 (.alloc [(.int .i64 0), (.slice .none 0 0)]), gN (.store 2 (.t 5) (.t 19))]) (.ops [gM 20 3, gI 21 (.fieldAddr 1 (.t 5)), gI 22 (.load .none (.t 21)), gI 23 (.lenS (.t 22)), gI 24 (.bin .add (.t 20) (.t 23)), gM 3 24]))) (.ops [gI 25 (.bin .add (.t 16) (.k (.int .i64 1))), gM 16 25]))))))) (.seq (.ops [gM 26 3, gM 2 26]) .ret))))
def F_disk_file_size : PF := ⟨27, B_disk_file_size, [(.t 2)]⟩
theorem r_disk_file_size : F_disk_file_size.res = [(.t 2)] := rfl
theorem n_disk_file_size : F_disk_file_size.n = 27 := rfl
theorem b_disk_file_size : F_disk_file_size.body = B_disk_file_size := rfl
theorem st_disk_file_size : StandsF Tryd.prog 50 F_disk_file_size := compF_ok (by kernel_rfl)
abbrev f_slices_ContainsFunc_int_int : Nat := 55
def B_slices_ContainsFunc_int_int : PC := (.seq (.ops [gI 4 (.mov (.k (.bool .false)))]) (.seq (.ops [gM 5 0, gM 6 1, gI 7 (.call 59 [(.t 5), (.t 6)]), gI 8 (.bin .geq (.t 7) (.k (.int .i64 0))), gM 4 8]) .ret))
def F_slices_ContainsFunc_int_int : PF := ⟨9, B_slices_ContainsFunc_int_int, [(.t 4)]⟩
theorem r_slices_ContainsFunc_int_int : F_slices_ContainsFunc_int_int.res = [(.t 4)] := rfl
theorem n_slices_ContainsFunc_int_int : F_slices_ContainsFunc_int_int.n = 9 := rfl
theorem b_slices_ContainsFunc_int_int : F_slices_ContainsFunc_int_int.body = B_slices_ContainsFunc_int_int := rfl
theorem st_slices_ContainsFunc_int_int : StandsF Tryd.prog 55 F_slices_ContainsFunc_int_int := compF_ok (by kernel_rfl)
abbrev f_disk_Disk_wrong_1 : Nat := 56
def B_disk_Disk_wrong_1 : PC := (.seq (.ops [gI 2 (.mov (.k (.bool .false)))]) (.seq (.ops [gM 3 0, gI 4 (.bin .lss (.t 3) (.k (.int .i64 0))), gM 2 4]) .ret))
def F_disk_Disk_wrong_1 : PF := ⟨5, B_disk_Disk_wrong_1, [(.t 2)]⟩
theorem r_disk_Disk_wrong_1 : F_disk_Disk_wrong_1.res = [(.t 2)] := rfl
theorem n_disk_Disk_wrong_1 : F_disk_Disk_wrong_1.n = 5 := rfl
theorem b_disk_Disk_wrong_1 : F_disk_Disk_wrong_1.body = B_disk_Disk_wrong_1 := rfl
theorem st_disk_Disk_wrong_1 : StandsF Tryd.prog 56 F_disk_Disk_wrong_1 := compF_ok (by kernel_rfl)
abbrev f_slices_IndexFunc_int_int : Nat := 59
def B_slices_IndexFunc_int_int : PC := (.seq (.ops [gI 4 (.mov (.k (.int .i64 0)))]) (.seq (.seq (.ops [gM 6 0, gI 7 (.lenS (.t 6)), gI 8 (.mov (.k (.int .i64 0)))]) (.block 0 (.loop (.seq (.ops [gI 9 (.bin .lss (.t 8) (.t 7))]) (.seq (.cond (.t 9) .skip (.exit 0)) (.seq (.block 1 (.seq (.ops [gM 10 8, gM 5 10]) (.seq (.ops [gM 11 1, gM 12 0, gM 13 5, gI 14 (.idxS 1 (.t 12) (.t 13)), gI 15 (.load .none (.t 14)), gI 16 (.callv (.t 11) [(.t 15)])]) (.cond (.t 16) (.seq (.ops [gM 17 5, gM 4 17]) .ret) .skip)))) (.ops [gI 18 (.bin .add (.t 8) (.k (.int .i64 1))), gM 8 18]))))))) (.seq (.ops [gI 4 (.mov (.k (.int .i64 (-1))))]) .ret)))
def F_slices_IndexFunc_int_int : PF := ⟨19, B_slices_IndexFunc_int_int, [(.t 4)]⟩
theorem r_slices_IndexFunc_int_int : F_slices_IndexFunc_int_int.res = [(.t 4)] := rfl
theorem n_slices_IndexFunc_int_int : F_slices_IndexFunc_int_int.n = 19 := rfl
theorem b_slices_IndexFunc_int_int : F_slices_IndexFunc_int_int.body = B_slices_IndexFunc_int_int := rfl
theorem st_slices_IndexFunc_int_int : StandsF Tryd.prog 59 F_slices_IndexFunc_int_int := compF_ok (by kernel_rfl)
def GC : Nat → Option PF
  | 14 => some F_law07_known
  | 30 => some F_disk_New
  | 31 => some F_disk_Disk_Crash
  | 32 => some F_disk_Name
  | 33 => some F_disk_Disk_Read
  | 34 => some F_disk_Disk_Remove
  | 35 => some F_disk_Disk_Cut
  | 37 => some F_disk_Disk_Append
  | 38 => some F_disk_Disk_Sync
  | 40 => some F_disk_Disk_Rename
  | 45 => some F_disk_Disk_wrong
  | 47 => some F_disk_file_crash
  | 48 => some F_disk_Disk_find
  | 49 => some F_disk_file_all
  | 50 => some F_disk_file_size
  | 55 => some F_slices_ContainsFunc_int_int
  | 56 => some F_disk_Disk_wrong_1
  | 59 => some F_slices_IndexFunc_int_int
  | _ => none
theorem GC_ok : ∀ f F, GC f = some F → StandsF Tryd.prog f F := by
  intro f F h
  unfold GC at h
  split at h <;> first
    | (injection h with h; subst h; exact st_law07_known)
    | (injection h with h; subst h; exact st_disk_New)
    | (injection h with h; subst h; exact st_disk_Disk_Crash)
    | (injection h with h; subst h; exact st_disk_Name)
    | (injection h with h; subst h; exact st_disk_Disk_Read)
    | (injection h with h; subst h; exact st_disk_Disk_Remove)
    | (injection h with h; subst h; exact st_disk_Disk_Cut)
    | (injection h with h; subst h; exact st_disk_Disk_Append)
    | (injection h with h; subst h; exact st_disk_Disk_Sync)
    | (injection h with h; subst h; exact st_disk_Disk_Rename)
    | (injection h with h; subst h; exact st_disk_Disk_wrong)
    | (injection h with h; subst h; exact st_disk_file_crash)
    | (injection h with h; subst h; exact st_disk_Disk_find)
    | (injection h with h; subst h; exact st_disk_file_all)
    | (injection h with h; subst h; exact st_disk_file_size)
    | (injection h with h; subst h; exact st_slices_ContainsFunc_int_int)
    | (injection h with h; subst h; exact st_disk_Disk_wrong_1)
    | (injection h with h; subst h; exact st_slices_IndexFunc_int_int)
    | cases h
end Go.Proofs.YtpcjnpkpmaahiaaDoor.Fs
