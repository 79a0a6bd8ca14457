/- The functions' code in the pure machine: written by fs.py out of the reckoning; the kernel compares. -/
import Derived.Test.YtpcjnpkpmaahiaaDoorPmO
import Derived.Test.YtpcjnpkpmaahiaaDoorPmDf
import Derived.Test.YtpcjnpkpmaahiaaDoorProg
import Derived.KernelRfl
set_option maxRecDepth 100000
set_option linter.unusedVariables false
namespace Go.Proofs.YtpcjnpkpmaahiaaDoor.Fs
open Go Go.Proofs.YtpcjnpkpmaahiaaDoor.Pm
abbrev f_disk_told : Nat := 46
abbrev f_errors_Is : Nat := 57
abbrev f_errors_As : Nat := 58
abbrev f_ref02_Lent : Nat := 6
def B_ref02_Lent : PC := (.seq (.ops [gI 2 (.mov (.k (.slice .none 0 0)))]) (.seq (.ops [gI 3 (.mov (.k (.slice .none 0 0)))]) (.seq (.ops [gM 4 3, gM 5 0, gI 6 (.append 1 1 [(.int .u8 0)] (.t 4) (.t 5)), gM 3 6]) (.seq (.ops [gM 7 3, gI 8 (.row 1 1 [(.int .u8 0)] [(0, (1, (.k (.int .u8 77))))]), gI 9 (.append 1 1 [(.int .u8 0)] (.t 7) (.t 8)), gM 3 9]) (.seq (.ops [gM 10 3, gM 11 0, gI 12 (.lenS (.t 11)), gI 13 (.slS 1 (.t 10) .none (.some (.t 12)) .none), gM 2 13]) .ret)))))
def F_ref02_Lent : PF := ⟨14, B_ref02_Lent, [(.t 2)]⟩
theorem r_ref02_Lent : F_ref02_Lent.res = [(.t 2)] := rfl
theorem n_ref02_Lent : F_ref02_Lent.n = 14 := rfl
theorem b_ref02_Lent : F_ref02_Lent.body = B_ref02_Lent := rfl
theorem st_ref02_Lent : StandsF Tryd.prog 6 F_ref02_Lent := compF_ok (by kernel_rfl)
abbrev f_ref02_Kept : Nat := 9
def B_ref02_Kept : PC := (.seq (.ops [gI 4 (.mov (.k (.bool .false)))]) (.seq (.ops [gM 5 0, gI 6 (.ofBytes (.t 5)), gM 7 1, gI 8 (.ofBytes (.t 7)), gI 9 (.bin .eql (.t 6) (.t 8)), gM 10 9, gT 11 10 (.mov (.t 0)), gT 12 10 (.mov (.t 1)), gT 13 10 (.lenS (.t 12)), gT 14 10 (.bin .add (.t 13) (.k (.int .i64 1))), gT 15 10 (.slS 1 (.t 11) .none (.some (.t 14)) .none), gT 16 10 (.mov (.t 1)), gT 17 10 (.lenS (.t 16)), gT 18 10 (.idxS 1 (.t 15) (.t 17)), gT 19 10 (.load .none (.t 18)), gT 20 10 (.bin .eql (.t 19) (.k (.int .u8 77))), gI 21 (.pick (.t 10) (.t 20) (.k (.bool .false))), gM 4 21]) .ret))
def F_ref02_Kept : PF := ⟨22, B_ref02_Kept, [(.t 4)]⟩
theorem r_ref02_Kept : F_ref02_Kept.res = [(.t 4)] := rfl
theorem n_ref02_Kept : F_ref02_Kept.n = 22 := rfl
theorem b_ref02_Kept : F_ref02_Kept.body = B_ref02_Kept := rfl
theorem st_ref02_Kept : StandsF Tryd.prog 9 F_ref02_Kept := compF_ok (by kernel_rfl)
abbrev f_ref02_Spoil : Nat := 13
def B_ref02_Spoil : PC := (.seq (.seq (.ops [gI 2 (.mov (.k (.int .i64 0)))]) (.block 0 (.loop (.seq (.seq (.ops [gM 3 2, gM 4 0, gI 5 (.lenS (.t 4)), gI 6 (.bin .lss (.t 3) (.t 5))]) (.cond (.t 6) .skip (.exit 0))) (.seq (.block 1 (.ops [gM 9 0, gM 10 2, gM 11 0, gM 12 2, gI 13 (.idxS 1 (.t 11) (.t 12)), gI 14 (.load .none (.t 13)), gI 15 (.bin .xor (.t 14) (.k (.int .u8 90))), gI 16 (.idxS 1 (.t 9) (.t 10)), gN (.store 1 (.t 16) (.t 15))])) (.ops [gM 7 2, gI 8 (.bin .add (.t 7) (.k (.int .i64 1))), gM 2 8])))))) (.seq (.ops [gM 17 0, gI 18 (.row 1 1 [(.int .u8 0)] [(0, (1, (.k (.int .u8 99))))]), gI 19 (.append 1 1 [(.int .u8 0)] (.t 17) (.t 18)), gM 0 19]) (.ops [gM 20 0, gM 21 0, gI 22 (.lenS (.t 21)), gI 23 (.bin .sub (.t 22) (.k (.int .i64 1))), gI 24 (.idxS 1 (.t 20) (.t 23)), gN (.store 1 (.t 24) (.k (.int .u8 98)))])))
def F_ref02_Spoil : PF := ⟨25, B_ref02_Spoil, []⟩
theorem r_ref02_Spoil : F_ref02_Spoil.res = [] := rfl
theorem n_ref02_Spoil : F_ref02_Spoil.n = 25 := rfl
theorem b_ref02_Spoil : F_ref02_Spoil.body = B_ref02_Spoil := rfl
theorem st_ref02_Spoil : StandsF Tryd.prog 13 F_ref02_Spoil := compF_ok (by kernel_rfl)
abbrev f_ref02_Count : Nat := 15
def B_ref02_Count : PC := (.seq (.ops [gI 4 (.mov (.k (.int .i64 0)))]) (.seq (.ops [gM 5 0, gM 6 1, gI 7 (.bin .rem (.t 5) (.t 6)), gM 0 7]) (.seq (.seq (.ops [gM 8 0, gI 9 (.bin .lss (.t 8) (.k (.int .i64 0)))]) (.cond (.t 9) (.ops [gM 10 0, gM 11 1, gI 12 (.bin .add (.t 10) (.t 11)), gM 0 12]) .skip)) (.seq (.ops [gM 13 0, gM 4 13]) .ret))))
def F_ref02_Count : PF := ⟨14, B_ref02_Count, [(.t 4)]⟩
theorem r_ref02_Count : F_ref02_Count.res = [(.t 4)] := rfl
theorem n_ref02_Count : F_ref02_Count.n = 14 := rfl
theorem b_ref02_Count : F_ref02_Count.body = B_ref02_Count := rfl
theorem st_ref02_Count : StandsF Tryd.prog 15 F_ref02_Count := compF_ok (by kernel_rfl)
abbrev f_ref02_Put : Nat := 26
def B_ref02_Put : PC := (.seq (.ops [gI 4 (.mov (.k (.slice .none 0 0)))]) (.seq (.ops [gI 5 (.mov (.k (.slice .none 0 0)))]) (.seq (.ops [gM 6 5, gM 7 0, gI 8 (.append 1 1 [(.int .u8 0)] (.t 6) (.t 7)), gM 5 8]) (.seq (.block 0 (.loop (.seq (.seq (.ops [gM 9 1, gI 10 (.bin .geq (.t 9) (.k (.int .u64 128)))]) (.cond (.t 10) .skip (.exit 0))) (.block 1 (.seq (.ops [gM 11 5, gM 12 1, gI 13 (.bin .rem (.t 12) (.k (.int .u64 128))), gI 14 (.bin .add (.t 13) (.k (.int .u64 128))), gI 15 (.convI .u8 (.t 14)), gI 16 (.row 1 1 [(.int .u8 0)] [(0, (1, (.t 15)))]), gI 17 (.append 1 1 [(.int .u8 0)] (.t 11) (.t 16)), gM 5 17]) (.ops [gM 18 1, gI 19 (.bin .quo (.t 18) (.k (.int .u64 128))), gM 1 19])))))) (.seq (.ops [gM 20 5, gM 21 1, gI 22 (.convI .u8 (.t 21)), gI 23 (.row 1 1 [(.int .u8 0)] [(0, (1, (.t 22)))]), gI 24 (.append 1 1 [(.int .u8 0)] (.t 20) (.t 23)), gM 5 24]) (.seq (.ops [gM 25 5, gM 4 25]) .ret))))))
def F_ref02_Put : PF := ⟨26, B_ref02_Put, [(.t 4)]⟩
theorem r_ref02_Put : F_ref02_Put.res = [(.t 4)] := rfl
theorem n_ref02_Put : F_ref02_Put.n = 26 := rfl
theorem b_ref02_Put : F_ref02_Put.body = B_ref02_Put := rfl
theorem st_ref02_Put : StandsF Tryd.prog 26 F_ref02_Put := compF_ok (by kernel_rfl)
abbrev f_ref02_Sum : Nat := 27
def B_ref02_Sum : PC := (.seq (.ops [gI 2 (.mov (.k (.int .u32 0)))]) (.seq (.ops [gI 3 (.mov (.k (.int .u32 4294967295)))]) (.seq (.seq (.ops [gI 4 (.mov (.k (.int .i64 0)))]) (.block 0 (.loop (.seq (.seq (.ops [gM 6 4, gM 7 0, gI 8 (.lenS (.t 7)), gI 9 (.bin .lss (.t 6) (.t 8))]) (.cond (.t 9) .skip (.exit 0))) (.seq (.block 1 (.seq (.ops [gM 12 3, gM 13 0, gM 14 4, gI 15 (.idxS 1 (.t 13) (.t 14)), gI 16 (.load .none (.t 15)), gI 17 (.convI .u32 (.t 16)), gI 18 (.bin .xor (.t 12) (.t 17)), gM 3 18]) (.seq (.ops [gI 5 (.mov (.k (.int .i64 0)))]) (.block 2 (.loop (.seq (.seq (.ops [gM 19 5, gI 20 (.bin .lss (.t 19) (.k (.int .i64 8)))]) (.cond (.t 20) .skip (.exit 2))) (.seq (.block 3 (.seq (.ops [gM 23 3, gI 24 (.bin .and (.t 23) (.k (.int .u32 1))), gI 25 (.bin .eql (.t 24) (.k (.int .u32 1)))]) (.cond (.t 25) (.ops [gM 26 3, gI 27 (.bin .shr (.t 26) (.k (.int .u64 1))), gI 28 (.bin .xor (.t 27) (.k (.int .u32 2197175160))), gM 3 28]) (.ops [gM 29 3, gI 30 (.bin .shr (.t 29) (.k (.int .u64 1))), gM 3 30])))) (.ops [gM 21 5, gI 22 (.bin .add (.t 21) (.k (.int .i64 1))), gM 5 22])))))))) (.ops [gM 10 4, gI 11 (.bin .add (.t 10) (.k (.int .i64 1))), gM 4 11])))))) (.seq (.ops [gM 31 3, gI 32 (.un .xor (.t 31)), gM 2 32]) .ret))))
def F_ref02_Sum : PF := ⟨33, B_ref02_Sum, [(.t 2)]⟩
theorem r_ref02_Sum : F_ref02_Sum.res = [(.t 2)] := rfl
theorem n_ref02_Sum : F_ref02_Sum.n = 33 := rfl
theorem b_ref02_Sum : F_ref02_Sum.body = B_ref02_Sum := rfl
theorem st_ref02_Sum : StandsF Tryd.prog 27 F_ref02_Sum := compF_ok (by kernel_rfl)
abbrev f_wire_Put : Nat := 41
def B_wire_Put : PC := (.seq (.ops [gI 4 (.mov (.k (.slice .none 0 0)))]) (.seq (.ops [gM 5 0, gI 6 (.lenS (.t 5)), gI 7 (.bin .add (.t 6) (.k (.int .i64 10))), gI 8 (.makeSl 1 1 [(.int .u8 0)] (.k (.int .i64 0)) (.t 7)), gM 9 0, gI 10 (.append 1 1 [(.int .u8 0)] (.t 8) (.t 9)), gM 11 1, gI 12 (.call 51 [(.t 10), (.t 11)]), gM 4 12]) .ret))
def F_wire_Put : PF := ⟨13, B_wire_Put, [(.t 4)]⟩
theorem r_wire_Put : F_wire_Put.res = [(.t 4)] := rfl
theorem n_wire_Put : F_wire_Put.n = 13 := rfl
theorem b_wire_Put : F_wire_Put.body = B_wire_Put := rfl
theorem st_wire_Put : StandsF Tryd.prog 41 F_wire_Put := compF_ok (by kernel_rfl)
abbrev f_wire_Sum : Nat := 42
def B_wire_Sum : PC := (.seq (.ops [gI 2 (.mov (.k (.int .u32 0)))]) (.seq (.ops [gI 7 (.call 52 []), gI 3 (.alloc [(.int .u32 0), (.int .u32 0), (.int .u32 0), (.int .u32 0), (.int .u32 0), (.int .u32 0), (.int .u32 0), (.int .u32 0), (.int .u32 0), (.int .u32 0), (.int .u32 0), (.int .u32 0), (.int .u32 0), (.int .u32 0), (.int .u32 0), (.int .u32 0)]), gN (.store 16 (.t 3) (.t 7))]) (.seq (.ops [gI 4 (.mov (.k (.int .u32 4294967295)))]) (.seq (.seq (.ops [gM 8 0, gI 9 (.lenS (.t 8)), gI 10 (.mov (.k (.int .i64 0)))]) (.block 0 (.loop (.seq (.ops [gI 11 (.bin .lss (.t 10) (.t 9))]) (.seq (.cond (.t 11) .skip (.exit 0)) (.seq (.block 1 (.seq (.ops [gI 12 (.idxS 1 (.t 8) (.t 10)), gI 13 (.load .none (.t 12)), gM 6 13]) (.seq (.ops [gM 14 4, gM 15 6, gI 16 (.convI .u32 (.t 15)), gI 17 (.bin .xor (.t 14) (.t 16)), gM 4 17]) (.seq (.ops [gM 18 4, gI 19 (.bin .shr (.t 18) (.k (.int .u64 4))), gM 20 4, gI 21 (.bin .and (.t 20) (.k (.int .u32 15))), gI 22 (.idxA 16 1 (.t 3) (.t 21)), gI 23 (.load .none (.t 22)), gI 24 (.bin .xor (.t 19) (.t 23)), gM 4 24]) (.ops [gM 25 4, gI 26 (.bin .shr (.t 25) (.k (.int .u64 4))), gM 27 4, gI 28 (.bin .and (.t 27) (.k (.int .u32 15))), gI 29 (.idxA 16 1 (.t 3) (.t 28)), gI 30 (.load .none (.t 29)), gI 31 (.bin .xor (.t 26) (.t 30)), gM 4 31]))))) (.ops [gI 32 (.bin .add (.t 10) (.k (.int .i64 1))), gM 10 32]))))))) (.seq (.ops [gM 33 4, gI 34 (.un .xor (.t 33)), gM 2 34]) .ret)))))
def F_wire_Sum : PF := ⟨35, B_wire_Sum, [(.t 2)]⟩
theorem r_wire_Sum : F_wire_Sum.res = [(.t 2)] := rfl
theorem n_wire_Sum : F_wire_Sum.n = 35 := rfl
theorem b_wire_Sum : F_wire_Sum.body = B_wire_Sum := rfl
theorem st_wire_Sum : StandsF Tryd.prog 42 F_wire_Sum := compF_ok (by kernel_rfl)
abbrev f_ref02_Get : Nat := 44
def B_ref02_Get : PC := (.seq (.ops [gI 4 (.mov (.k (.int .u64 0))), gI 5 (.mov (.k (.int .i64 0))), gI 6 (.mov (.k (.int .i64 0)))]) (.seq (.seq (.ops [gM 10 1, gI 11 (.bin .lss (.t 10) (.k (.int .i64 0))), gM 12 11, gF 13 12 (.mov (.t 1)), gF 14 12 (.mov (.t 0)), gF 15 12 (.lenS (.t 14)), gF 16 12 (.bin .gtr (.t 13) (.t 15)), gI 17 (.pick (.t 12) (.k (.bool .true)) (.t 16))]) (.cond (.t 17) (.seq (.ops [gI 4 (.mov (.k (.int .u64 0))), gI 5 (.mov (.k (.int .i64 0))), gI 6 (.mov (.k (.int .i64 1)))]) .ret) .skip)) (.seq (.ops [gI 7 (.mov (.k (.int .u64 0)))]) (.seq (.seq (.ops [gI 8 (.mov (.k (.int .i64 0)))]) (.block 0 (.loop (.seq (.seq (.ops [gM 18 8, gI 19 (.bin .lss (.t 18) (.k (.int .i64 10)))]) (.cond (.t 19) .skip (.exit 0))) (.seq (.block 1 (.seq (.seq (.ops [gM 22 1, gM 23 8, gI 24 (.bin .add (.t 22) (.t 23)), gM 25 0, gI 26 (.lenS (.t 25)), gI 27 (.bin .geq (.t 24) (.t 26))]) (.cond (.t 27) (.seq (.ops [gI 4 (.mov (.k (.int .u64 0))), gI 5 (.mov (.k (.int .i64 0))), gI 6 (.mov (.k (.int .i64 8)))]) .ret) .skip)) (.seq (.ops [gM 28 0, gM 29 1, gM 30 8, gI 31 (.bin .add (.t 29) (.t 30)), gI 32 (.idxS 1 (.t 28) (.t 31)), gI 33 (.load .none (.t 32)), gM 9 33]) (.seq (.seq (.ops [gM 34 8, gI 35 (.bin .eql (.t 34) (.k (.int .i64 9))), gM 36 35, gT 37 36 (.mov (.t 9)), gT 38 36 (.bin .gtr (.t 37) (.k (.int .u8 1))), gI 39 (.pick (.t 36) (.t 38) (.k (.bool .false)))]) (.cond (.t 39) (.seq (.ops [gI 4 (.mov (.k (.int .u64 0))), gI 5 (.mov (.k (.int .i64 0))), gI 6 (.mov (.k (.int .i64 30)))]) .ret) .skip)) (.seq (.ops [gM 40 7, gM 41 9, gI 42 (.bin .and (.t 41) (.k (.int .u8 127))), gI 43 (.convI .u64 (.t 42)), gM 44 8, gI 45 (.bin .mul (.k (.int .i64 7)) (.t 44)), gI 46 (.convI .u64 (.t 45)), gI 47 (.bin .shl (.t 43) (.t 46)), gI 48 (.bin .or (.t 40) (.t 47)), gM 7 48]) (.seq (.ops [gM 49 9, gI 50 (.bin .lss (.t 49) (.k (.int .u8 128)))]) (.cond (.t 50) (.seq (.ops [gM 51 7, gM 52 1, gM 53 8, gI 54 (.bin .add (.t 52) (.t 53)), gI 55 (.bin .add (.t 54) (.k (.int .i64 1))), gM 4 51, gM 5 55, gI 6 (.mov (.k (.int .i64 0)))]) .ret) .skip))))))) (.ops [gM 20 8, gI 21 (.bin .add (.t 20) (.k (.int .i64 1))), gM 8 21])))))) (.seq (.ops [gI 4 (.mov (.k (.int .u64 0))), gI 5 (.mov (.k (.int .i64 0))), gI 6 (.mov (.k (.int .i64 30)))]) .ret)))))
def F_ref02_Get : PF := ⟨56, B_ref02_Get, [(.t 4), (.t 5), (.t 6)]⟩
theorem r_ref02_Get : F_ref02_Get.res = [(.t 4), (.t 5), (.t 6)] := rfl
theorem n_ref02_Get : F_ref02_Get.n = 56 := rfl
theorem b_ref02_Get : F_ref02_Get.body = B_ref02_Get := rfl
theorem st_ref02_Get : StandsF Tryd.prog 44 F_ref02_Get := compF_ok (by kernel_rfl)
abbrev f_wire_grown : Nat := 51
def B_wire_grown : PC := (.seq (.ops [gI 4 (.mov (.k (.slice .none 0 0)))]) (.seq (.block 0 (.loop (.seq (.seq (.ops [gM 5 1, gI 6 (.bin .gtr (.t 5) (.k (.int .u64 127)))]) (.cond (.t 6) .skip (.exit 0))) (.seq (.block 1 (.ops [gM 9 0, gM 10 1, gI 11 (.convI .u8 (.t 10)), gI 12 (.bin .or (.t 11) (.k (.int .u8 128))), gI 13 (.row 1 1 [(.int .u8 0)] [(0, (1, (.t 12)))]), gI 14 (.append 1 1 [(.int .u8 0)] (.t 9) (.t 13)), gM 0 14])) (.ops [gM 7 1, gI 8 (.bin .shr (.t 7) (.k (.int .u64 7))), gM 1 8]))))) (.seq (.ops [gM 15 0, gM 16 1, gI 17 (.convI .u8 (.t 16)), gI 18 (.row 1 1 [(.int .u8 0)] [(0, (1, (.t 17)))]), gI 19 (.append 1 1 [(.int .u8 0)] (.t 15) (.t 18)), gM 4 19]) .ret)))
def F_wire_grown : PF := ⟨20, B_wire_grown, [(.t 4)]⟩
theorem r_wire_grown : F_wire_grown.res = [(.t 4)] := rfl
theorem n_wire_grown : F_wire_grown.n = 20 := rfl
theorem b_wire_grown : F_wire_grown.body = B_wire_grown := rfl
theorem st_wire_grown : StandsF Tryd.prog 51 F_wire_grown := compF_ok (by kernel_rfl)
abbrev f_wire_table : Nat := 52
def B_wire_table : PC := (.seq (.ops [gI 0 (.alloc [(.int .u32 0), (.int .u32 0), (.int .u32 0), (.int .u32 0), (.int .u32 0), (.int .u32 0), (.int .u32 0), (.int .u32 0), (.int .u32 0), (.int .u32 0), (.int .u32 0), (.int .u32 0), (.int .u32 0), (.int .u32 0), (.int .u32 0), (.int .u32 0)])]) (.seq (.seq (.ops [gI 3 (.mov (.k (.int .i64 0)))]) (.block 0 (.loop (.seq (.ops [gI 4 (.bin .lss (.t 3) (.k (.int .i64 16)))]) (.seq (.cond (.t 4) .skip (.exit 0)) (.seq (.block 1 (.seq (.ops [gM 5 3, gM 1 5]) (.seq (.ops [gM 6 1, gI 7 (.convI .u32 (.t 6)), gM 2 7]) (.seq (.seq (.ops [gI 8 (.mov (.k (.int .i64 0)))]) (.block 2 (.loop (.seq (.ops [gI 9 (.bin .lss (.t 8) (.k (.int .i64 4)))]) (.seq (.cond (.t 9) .skip (.exit 2)) (.seq (.block 3 (.seq (.ops [gM 10 2, gI 11 (.bin .and (.t 10) (.k (.int .u32 1))), gI 12 (.bin .eql (.t 11) (.k (.int .u32 1)))]) (.cond (.t 12) (.ops [gM 13 2, gI 14 (.bin .shr (.t 13) (.k (.int .u64 1))), gI 15 (.bin .xor (.t 14) (.k (.int .u32 2197175160))), gM 2 15]) (.ops [gM 16 2, gI 17 (.bin .shr (.t 16) (.k (.int .u64 1))), gM 2 17])))) (.ops [gI 18 (.bin .add (.t 8) (.k (.int .i64 1))), gM 8 18]))))))) (.ops [gM 19 1, gM 20 2, gI 21 (.idxA 16 1 (.t 0) (.t 19)), gN (.store 1 (.t 21) (.t 20))]))))) (.ops [gI 22 (.bin .add (.t 3) (.k (.int .i64 1))), gM 3 22]))))))) (.seq (.ops [gI 23 (.load (.some 16) (.t 0)), gN (.store 16 (.t 0) (.t 23))]) .ret)))
def F_wire_table : PF := ⟨24, B_wire_table, [(.cell 0 (.some 16))]⟩
theorem r_wire_table : F_wire_table.res = [(.cell 0 (.some 16))] := rfl
theorem n_wire_table : F_wire_table.n = 24 := rfl
theorem b_wire_table : F_wire_table.body = B_wire_table := rfl
theorem st_wire_table : StandsF Tryd.prog 52 F_wire_table := compF_ok (by kernel_rfl)
abbrev f_wire_Get : Nat := 54
def B_wire_Get : PC := (.seq (.ops [gI 4 (.mov (.k (.int .u64 0))), gI 5 (.mov (.k (.int .i64 0))), gI 6 (.mov (.k (.int .i64 0)))]) (.scope (.seq (.seq (.ops [gM 11 1, gI 12 (.bin .lss (.t 11) (.k (.int .i64 0))), gM 13 12, gF 14 13 (.mov (.t 1)), gF 15 13 (.mov (.t 0)), gF 16 13 (.lenS (.t 15)), gF 17 13 (.bin .gtr (.t 14) (.t 16)), gI 18 (.pick (.t 13) (.k (.bool .true)) (.t 17))]) (.cond (.t 18) (.seq (.ops [gI 4 (.mov (.k (.int .u64 0))), gI 5 (.mov (.k (.int .i64 0))), gI 6 (.mov (.k (.int .i64 1)))]) .ret) .skip)) (.seq (.ops [gI 7 (.mov (.k (.int .u64 0)))]) (.seq (.ops [gI 8 (.mov (.k (.int .i64 0)))]) (.seq (.label 0) (.seq (.seq (.ops [gM 19 0, gM 20 1, gI 21 (.slS 1 (.t 19) (.some (.t 20)) .none .none), gI 22 (.lenS (.t 21)), gI 23 (.mov (.k (.int .i64 0)))]) (.block 0 (.loop (.seq (.ops [gI 24 (.bin .lss (.t 23) (.t 22))]) (.seq (.cond (.t 24) .skip (.exit 0)) (.seq (.block 1 (.seq (.ops [gM 25 23, gI 26 (.idxS 1 (.t 21) (.t 23)), gI 27 (.load .none (.t 26)), gM 9 25, gM 10 27]) (.seq (.block 2 (.seq (.ops [gM 29 8, gI 30 (.bin .eql (.t 29) (.k (.int .i64 63))), gM 31 30, gT 32 31 (.mov (.t 10)), gT 33 31 (.bin .gtr (.t 32) (.k (.int .u8 1))), gI 34 (.pick (.t 31) (.t 33) (.k (.bool .false))), gM 28 34]) (.cond (.t 28) (.seq (.ops [gI 4 (.mov (.k (.int .u64 0))), gI 5 (.mov (.k (.int .i64 0))), gI 6 (.mov (.k (.int .i64 30)))]) .ret) (.seq (.ops [gM 36 10, gI 37 (.bin .lss (.t 36) (.k (.int .u8 128))), gM 35 37]) (.cond (.t 35) (.seq (.ops [gM 38 7, gM 39 10, gI 40 (.convI .u64 (.t 39)), gM 41 8, gI 42 (.bin .shl (.t 40) (.t 41)), gI 43 (.bin .or (.t 38) (.t 42)), gM 44 1, gM 45 9, gI 46 (.bin .add (.t 44) (.t 45)), gI 47 (.bin .add (.t 46) (.k (.int .i64 1))), gM 4 43, gM 5 47, gI 6 (.mov (.k (.int .i64 0)))]) .ret) .skip))))) (.seq (.ops [gM 48 7, gM 49 10, gI 50 (.bin .and (.t 49) (.k (.int .u8 127))), gI 51 (.convI .u64 (.t 50)), gM 52 8, gI 53 (.bin .shl (.t 51) (.t 52)), gI 54 (.bin .or (.t 48) (.t 53)), gM 7 54]) (.seq (.ops [gM 55 8, gI 56 (.bin .add (.t 55) (.k (.int .i64 7))), gM 8 56]) (.seq (.ops [gM 57 8, gI 58 (.bin .gtr (.t 57) (.k (.int .i64 63)))]) (.cond (.t 58) (.exit 0) .skip))))))) (.ops [gI 59 (.bin .add (.t 23) (.k (.int .i64 1))), gM 23 59]))))))) (.seq (.ops [gI 4 (.mov (.k (.int .u64 0))), gI 5 (.mov (.k (.int .i64 0))), gI 6 (.mov (.k (.int .i64 8)))]) .ret))))))))
def F_wire_Get : PF := ⟨60, B_wire_Get, [(.t 4), (.t 5), (.t 6)]⟩
theorem r_wire_Get : F_wire_Get.res = [(.t 4), (.t 5), (.t 6)] := rfl
theorem n_wire_Get : F_wire_Get.n = 60 := rfl
theorem b_wire_Get : F_wire_Get.body = B_wire_Get := rfl
theorem st_wire_Get : StandsF Tryd.prog 54 F_wire_Get := compF_ok (by kernel_rfl)
def GA : Nat → Option PF
  | 6 => some F_ref02_Lent
  | 9 => some F_ref02_Kept
  | 13 => some F_ref02_Spoil
  | 15 => some F_ref02_Count
  | 26 => some F_ref02_Put
  | 27 => some F_ref02_Sum
  | 41 => some F_wire_Put
  | 42 => some F_wire_Sum
  | 44 => some F_ref02_Get
  | 51 => some F_wire_grown
  | 52 => some F_wire_table
  | 54 => some F_wire_Get
  | _ => none
theorem GA_ok : ∀ f F, GA f = some F → StandsF Tryd.prog f F := by
  intro f F h
  unfold GA at h
  split at h <;> first
    | (injection h with h; subst h; exact st_ref02_Lent)
    | (injection h with h; subst h; exact st_ref02_Kept)
    | (injection h with h; subst h; exact st_ref02_Spoil)
    | (injection h with h; subst h; exact st_ref02_Count)
    | (injection h with h; subst h; exact st_ref02_Put)
    | (injection h with h; subst h; exact st_ref02_Sum)
    | (injection h with h; subst h; exact st_wire_Put)
    | (injection h with h; subst h; exact st_wire_Sum)
    | (injection h with h; subst h; exact st_ref02_Get)
    | (injection h with h; subst h; exact st_wire_grown)
    | (injection h with h; subst h; exact st_wire_table)
    | (injection h with h; subst h; exact st_wire_Get)
    | cases h
end Go.Proofs.YtpcjnpkpmaahiaaDoor.Fs
