/- The functions' code in the pure machine: written by fs.py out of the reckoning; the kernel compares. -/
import Derived.Test.YtgnmhonbcejnfaaGreatDoorPmO
import Derived.Test.YtgnmhonbcejnfaaGreatDoorProg
import Derived.KernelRfl
set_option maxRecDepth 100000
set_option linter.unusedVariables false
namespace Go.Proofs.YtgnmhonbcejnfaaGreatDoor.Fs
open Go Go.Proofs.YtgnmhonbcejnfaaGreatDoor.Pm
abbrev f_slices_Sort_string_string : Nat := 60
def B_slices_Sort_string_string : PC := (.seq (.ops [gM 3 0, gI 4 (.lenS (.t 3)), gM 2 4]) (.ops [gM 5 0, gM 6 2, gM 7 2, gI 8 (.convI .u64 (.t 7)), gI 9 (.call 71 [(.t 8)]), gI 10 (.call 70 [(.t 5), (.k (.int .i64 0)), (.t 6), (.t 9)])]))
def F_slices_Sort_string_string : PF := ⟨11, B_slices_Sort_string_string, []⟩
theorem r_slices_Sort_string_string : F_slices_Sort_string_string.res = [] := rfl
theorem n_slices_Sort_string_string : F_slices_Sort_string_string.n = 11 := rfl
theorem b_slices_Sort_string_string : F_slices_Sort_string_string.body = B_slices_Sort_string_string := rfl
theorem st_slices_Sort_string_string : StandsF Tryz.prog 60 F_slices_Sort_string_string := compF_ok (by kernel_rfl)
abbrev f_slices_pdqsortOrdered_string : Nat := 70
def B_slices_pdqsortOrdered_string : PC := (.seq (.ops [gI 8 (.mov (.k (.bool .true)))]) (.seq (.ops [gI 9 (.mov (.k (.bool .true)))]) (.block 0 (.loop (.block 1 (.seq (.ops [gM 19 2, gM 20 1, gI 21 (.bin .sub (.t 19) (.t 20)), gM 10 21]) (.seq (.seq (.ops [gM 22 10, gI 23 (.bin .leq (.t 22) (.k (.int .i64 12)))]) (.cond (.t 23) (.seq (.ops [gM 24 0, gM 25 1, gM 26 2, gI 27 (.call 74 [(.t 24), (.t 25), (.t 26)])]) .ret) .skip)) (.seq (.seq (.ops [gM 28 3, gI 29 (.bin .eql (.t 28) (.k (.int .i64 0)))]) (.cond (.t 29) (.seq (.ops [gM 30 0, gM 31 1, gM 32 2, gI 33 (.call 75 [(.t 30), (.t 31), (.t 32)])]) .ret) .skip)) (.seq (.seq (.ops [gM 34 8, gI 35 (.un .not (.t 34))]) (.cond (.t 35) (.seq (.ops [gM 36 0, gM 37 1, gM 38 2, gI 39 (.call 76 [(.t 36), (.t 37), (.t 38)])]) (.ops [gM 40 3, gI 41 (.bin .sub (.t 40) (.k (.int .i64 1))), gM 3 41])) .skip)) (.seq (.ops [gM 43 0, gM 44 1, gM 45 2, gI 46 (.call 77 [(.t 43), (.t 44), (.t 45)]), gM 42 46, gI 47 (.extract (.t 42) 0), gI 48 (.extract (.t 42) 1), gM 11 47, gM 12 48]) (.seq (.seq (.ops [gM 49 12, gI 50 (.bin .eql (.t 49) (.k (.int .i64 2)))]) (.cond (.t 50) (.seq (.ops [gM 51 0, gM 52 1, gM 53 2, gI 54 (.call 78 [(.t 51), (.t 52), (.t 53)])]) (.seq (.ops [gM 55 2, gI 56 (.bin .sub (.t 55) (.k (.int .i64 1))), gM 57 11, gM 58 1, gI 59 (.bin .sub (.t 57) (.t 58)), gI 60 (.bin .sub (.t 56) (.t 59)), gM 11 60]) (.ops [gI 12 (.mov (.k (.int .i64 1)))]))) .skip)) (.seq (.seq (.ops [gM 61 8, gM 62 61, gT 63 62 (.mov (.t 9)), gI 64 (.pick (.t 62) (.t 63) (.k (.bool .false))), gM 65 64, gT 66 65 (.mov (.t 12)), gT 67 65 (.bin .eql (.t 66) (.k (.int .i64 1))), gI 68 (.pick (.t 65) (.t 67) (.k (.bool .false)))]) (.cond (.t 68) (.seq (.ops [gM 69 0, gM 70 1, gM 71 2, gI 72 (.call 79 [(.t 69), (.t 70), (.t 71)])]) (.cond (.t 72) .ret .skip)) .skip)) (.seq (.seq (.draw [dM 73 1, dI 74 (.bin .gtr (.t 73) (.k (.int .i64 0))), dM 75 74, dT 76 75 (.mov (.t 0)), dT 77 75 (.mov (.t 1)), dT 78 75 (.bin .sub (.t 77) (.k (.int .i64 1))), dT 79 75 (.idxS 1 (.t 76) (.t 78)), dT 80 75 (.load .none (.t 79)), dT 81 75 (.mov (.t 0)), dT 82 75 (.mov (.t 11)), dT 83 75 (.idxS 1 (.t 81) (.t 82)), dT 84 75 (.load .none (.t 83)), dT 85 75 (.call 80 [(.t 80), (.t 84)]), dT 86 75 (.un .not (.t 85)), dI 87 (.pick (.t 75) (.t 86) (.k (.bool .false)))]) (.cond (.t 87) (.seq (.ops [gM 88 0, gM 89 1, gM 90 2, gM 91 11, gI 92 (.call 81 [(.t 88), (.t 89), (.t 90), (.t 91)]), gM 13 92]) (.seq (.ops [gM 93 13, gM 1 93]) (.exit 1))) .skip)) (.seq (.ops [gM 95 0, gM 96 1, gM 97 2, gM 98 11, gI 99 (.call 82 [(.t 95), (.t 96), (.t 97), (.t 98)]), gM 94 99, gI 100 (.extract (.t 94) 0), gI 101 (.extract (.t 94) 1), gM 14 100, gM 15 101]) (.seq (.ops [gM 102 15, gM 9 102]) (.seq (.ops [gM 103 14, gM 104 1, gI 105 (.bin .sub (.t 103) (.t 104)), gM 106 2, gM 107 14, gI 108 (.bin .sub (.t 106) (.t 107)), gM 16 105, gM 17 108]) (.seq (.ops [gM 109 10, gI 110 (.bin .quo (.t 109) (.k (.int .i64 8))), gM 18 110]) (.seq (.ops [gM 111 16, gM 112 17, gI 113 (.bin .lss (.t 111) (.t 112))]) (.cond (.t 113) (.seq (.ops [gM 114 16, gM 115 18, gI 116 (.bin .geq (.t 114) (.t 115)), gM 8 116]) (.seq (.ops [gM 117 0, gM 118 1, gM 119 14, gM 120 3, gI 121 (.call 70 [(.t 117), (.t 118), (.t 119), (.t 120)])]) (.ops [gM 122 14, gI 123 (.bin .add (.t 122) (.k (.int .i64 1))), gM 1 123]))) (.seq (.ops [gM 124 17, gM 125 18, gI 126 (.bin .geq (.t 124) (.t 125)), gM 8 126]) (.seq (.ops [gM 127 0, gM 128 14, gI 129 (.bin .add (.t 128) (.k (.int .i64 1))), gM 130 2, gM 131 3, gI 132 (.call 70 [(.t 127), (.t 129), (.t 130), (.t 131)])]) (.ops [gM 133 14, gM 2 133]))))))))))))))))))))))
def F_slices_pdqsortOrdered_string : PF := ⟨134, B_slices_pdqsortOrdered_string, []⟩
theorem r_slices_pdqsortOrdered_string : F_slices_pdqsortOrdered_string.res = [] := rfl
theorem n_slices_pdqsortOrdered_string : F_slices_pdqsortOrdered_string.n = 134 := rfl
theorem b_slices_pdqsortOrdered_string : F_slices_pdqsortOrdered_string.body = B_slices_pdqsortOrdered_string := rfl
theorem st_slices_pdqsortOrdered_string : StandsF Tryz.prog 70 F_slices_pdqsortOrdered_string := compF_ok (by kernel_rfl)
abbrev f_bits_Len : Nat := 71
def B_bits_Len : PC := (.seq (.ops [gI 2 (.mov (.k (.int .i64 0)))]) (.seq (.cond (.k (.bool .false)) (.seq (.ops [gM 3 0, gI 4 (.convI .u32 (.t 3)), gI 5 (.call 83 [(.t 4)]), gM 2 5]) .ret) .skip) (.seq (.ops [gM 6 0, gI 7 (.call 84 [(.t 6)]), gM 2 7]) .ret)))
def F_bits_Len : PF := ⟨8, B_bits_Len, [(.t 2)]⟩
theorem r_bits_Len : F_bits_Len.res = [(.t 2)] := rfl
theorem n_bits_Len : F_bits_Len.n = 8 := rfl
theorem b_bits_Len : F_bits_Len.body = B_bits_Len := rfl
theorem st_bits_Len : StandsF Tryz.prog 71 F_bits_Len := compF_ok (by kernel_rfl)
abbrev f_slices_insertionSortOrdered_string : Nat := 74
def B_slices_insertionSortOrdered_string : PC := (.seq (.ops [gM 8 1, gI 9 (.bin .add (.t 8) (.k (.int .i64 1))), gM 6 9]) (.block 0 (.loop (.seq (.seq (.ops [gM 10 6, gM 11 2, gI 12 (.bin .lss (.t 10) (.t 11))]) (.cond (.t 12) .skip (.exit 0))) (.seq (.block 1 (.seq (.ops [gM 15 6, gM 7 15]) (.block 2 (.loop (.seq (.seq (.draw [dM 16 7, dM 17 1, dI 18 (.bin .gtr (.t 16) (.t 17)), dM 19 18, dT 20 19 (.mov (.t 0)), dT 21 19 (.mov (.t 7)), dT 22 19 (.idxS 1 (.t 20) (.t 21)), dT 23 19 (.load .none (.t 22)), dT 24 19 (.mov (.t 0)), dT 25 19 (.mov (.t 7)), dT 26 19 (.bin .sub (.t 25) (.k (.int .i64 1))), dT 27 19 (.idxS 1 (.t 24) (.t 26)), dT 28 19 (.load .none (.t 27)), dT 29 19 (.call 80 [(.t 23), (.t 28)]), dI 30 (.pick (.t 19) (.t 29) (.k (.bool .false)))]) (.cond (.t 30) .skip (.exit 2))) (.seq (.block 3 (.draw [dM 33 0, dM 34 7, dM 35 0, dM 36 7, dI 37 (.bin .sub (.t 36) (.k (.int .i64 1))), dM 38 0, dM 39 7, dI 40 (.bin .sub (.t 39) (.k (.int .i64 1))), dI 41 (.idxS 1 (.t 38) (.t 40)), dI 42 (.load .none (.t 41)), dM 43 0, dM 44 7, dI 45 (.idxS 1 (.t 43) (.t 44)), dI 46 (.load .none (.t 45)), dI 47 (.idxS 1 (.t 33) (.t 34)), ⟨gN (.store 1 (.t 47) (.t 42)), []⟩, dI 48 (.idxS 1 (.t 35) (.t 37)), ⟨gN (.store 1 (.t 48) (.t 46)), []⟩])) (.ops [gM 31 7, gI 32 (.bin .sub (.t 31) (.k (.int .i64 1))), gM 7 32]))))))) (.ops [gM 13 6, gI 14 (.bin .add (.t 13) (.k (.int .i64 1))), gM 6 14]))))))
def F_slices_insertionSortOrdered_string : PF := ⟨49, B_slices_insertionSortOrdered_string, []⟩
theorem r_slices_insertionSortOrdered_string : F_slices_insertionSortOrdered_string.res = [] := rfl
theorem n_slices_insertionSortOrdered_string : F_slices_insertionSortOrdered_string.n = 49 := rfl
theorem b_slices_insertionSortOrdered_string : F_slices_insertionSortOrdered_string.body = B_slices_insertionSortOrdered_string := rfl
theorem st_slices_insertionSortOrdered_string : StandsF Tryz.prog 74 F_slices_insertionSortOrdered_string := compF_ok (by kernel_rfl)
abbrev f_bits_Len64 : Nat := 84
def B_bits_Len64 : PC := (.seq (.ops [gI 2 (.mov (.k (.int .i64 0)))]) (.seq (.seq (.ops [gM 3 0, gI 4 (.bin .geq (.t 3) (.k (.int .u64 4294967296)))]) (.cond (.t 4) (.seq (.ops [gM 5 0, gI 6 (.bin .shr (.t 5) (.k (.int .u64 32))), gM 0 6]) (.ops [gI 2 (.mov (.k (.int .i64 32)))])) .skip)) (.seq (.seq (.ops [gM 7 0, gI 8 (.bin .geq (.t 7) (.k (.int .u64 65536)))]) (.cond (.t 8) (.seq (.ops [gM 9 0, gI 10 (.bin .shr (.t 9) (.k (.int .u64 16))), gM 0 10]) (.ops [gM 11 2, gI 12 (.bin .add (.t 11) (.k (.int .i64 16))), gM 2 12])) .skip)) (.seq (.seq (.ops [gM 13 0, gI 14 (.bin .geq (.t 13) (.k (.int .u64 256)))]) (.cond (.t 14) (.seq (.ops [gM 15 0, gI 16 (.bin .shr (.t 15) (.k (.int .u64 8))), gM 0 16]) (.ops [gM 17 2, gI 18 (.bin .add (.t 17) (.k (.int .i64 8))), gM 2 18])) .skip)) (.seq (.ops [gM 19 2, gM 20 0, gI 21 (.convI .u8 (.t 20)), gI 22 (.idxStr (.k (.string (⟨(#[0, 1, 2, 2, 3, 3, 3, 3, 4, 4, 4, 4, 4, 4, 4, 4, 5, 5, 5, 5, 5, 5, 5, 5, 5, 5, 5, 5, 5, 5, 5, 5, 6, 6, 6, 6, 6, 6, 6, 6, 6, 6, 6, 6, 6, 6, 6, 6, 6, 6, 6, 6, 6, 6, 6, 6, 6, 6, 6, 6, 6, 6, 6, 6, 7, 7, 7, 7, 7, 7, 7, 7, 7, 7, 7, 7, 7, 7, 7, 7, 7, 7, 7, 7, 7, 7, 7, 7, 7, 7, 7, 7, 7, 7, 7, 7, 7, 7, 7, 7, 7, 7, 7, 7, 7, 7, 7, 7, 7, 7, 7, 7, 7, 7, 7, 7, 7, 7, 7, 7, 7, 7, 7, 7, 7, 7, 7, 7, 8, 8, 8, 8, 8, 8, 8, 8, 8, 8, 8, 8, 8, 8, 8, 8, 8, 8, 8, 8, 8, 8, 8, 8, 8, 8, 8, 8, 8, 8, 8, 8, 8, 8, 8, 8, 8, 8, 8, 8, 8, 8, 8, 8, 8, 8, 8, 8, 8, 8, 8, 8, 8, 8, 8, 8, 8, 8, 8, 8, 8, 8, 8, 8, 8, 8, 8, 8, 8, 8, 8, 8, 8, 8, 8, 8, 8, 8, 8, 8, 8, 8, 8, 8, 8, 8, 8, 8, 8, 8, 8, 8, 8, 8, 8, 8, 8, 8, 8, 8, 8, 8, 8, 8, 8, 8, 8, 8, 8, 8, 8, 8, 8, 8, 8, 8, 8, 8, 8, 8, 8, 8, 8, 8, 8, 8, 8, 8])⟩ : ByteArray))) (.t 21)), gI 23 (.convI .i64 (.t 22)), gI 24 (.bin .add (.t 19) (.t 23)), gM 2 24]) .ret)))))
def F_bits_Len64 : PF := ⟨25, B_bits_Len64, [(.t 2)]⟩
theorem r_bits_Len64 : F_bits_Len64.res = [(.t 2)] := rfl
theorem n_bits_Len64 : F_bits_Len64.n = 25 := rfl
theorem b_bits_Len64 : F_bits_Len64.body = B_bits_Len64 := rfl
theorem st_bits_Len64 : StandsF Tryz.prog 84 F_bits_Len64 := compF_ok (by kernel_rfl)
abbrev f_bits_Len32 : Nat := 83
def B_bits_Len32 : PC := (.seq (.ops [gI 2 (.mov (.k (.int .i64 0)))]) (.seq (.seq (.ops [gM 3 0, gI 4 (.bin .geq (.t 3) (.k (.int .u32 65536)))]) (.cond (.t 4) (.seq (.ops [gM 5 0, gI 6 (.bin .shr (.t 5) (.k (.int .u64 16))), gM 0 6]) (.ops [gI 2 (.mov (.k (.int .i64 16)))])) .skip)) (.seq (.seq (.ops [gM 7 0, gI 8 (.bin .geq (.t 7) (.k (.int .u32 256)))]) (.cond (.t 8) (.seq (.ops [gM 9 0, gI 10 (.bin .shr (.t 9) (.k (.int .u64 8))), gM 0 10]) (.ops [gM 11 2, gI 12 (.bin .add (.t 11) (.k (.int .i64 8))), gM 2 12])) .skip)) (.seq (.ops [gM 13 2, gM 14 0, gI 15 (.convI .u8 (.t 14)), gI 16 (.idxStr (.k (.string (⟨(#[0, 1, 2, 2, 3, 3, 3, 3, 4, 4, 4, 4, 4, 4, 4, 4, 5, 5, 5, 5, 5, 5, 5, 5, 5, 5, 5, 5, 5, 5, 5, 5, 6, 6, 6, 6, 6, 6, 6, 6, 6, 6, 6, 6, 6, 6, 6, 6, 6, 6, 6, 6, 6, 6, 6, 6, 6, 6, 6, 6, 6, 6, 6, 6, 7, 7, 7, 7, 7, 7, 7, 7, 7, 7, 7, 7, 7, 7, 7, 7, 7, 7, 7, 7, 7, 7, 7, 7, 7, 7, 7, 7, 7, 7, 7, 7, 7, 7, 7, 7, 7, 7, 7, 7, 7, 7, 7, 7, 7, 7, 7, 7, 7, 7, 7, 7, 7, 7, 7, 7, 7, 7, 7, 7, 7, 7, 7, 7, 8, 8, 8, 8, 8, 8, 8, 8, 8, 8, 8, 8, 8, 8, 8, 8, 8, 8, 8, 8, 8, 8, 8, 8, 8, 8, 8, 8, 8, 8, 8, 8, 8, 8, 8, 8, 8, 8, 8, 8, 8, 8, 8, 8, 8, 8, 8, 8, 8, 8, 8, 8, 8, 8, 8, 8, 8, 8, 8, 8, 8, 8, 8, 8, 8, 8, 8, 8, 8, 8, 8, 8, 8, 8, 8, 8, 8, 8, 8, 8, 8, 8, 8, 8, 8, 8, 8, 8, 8, 8, 8, 8, 8, 8, 8, 8, 8, 8, 8, 8, 8, 8, 8, 8, 8, 8, 8, 8, 8, 8, 8, 8, 8, 8, 8, 8, 8, 8, 8, 8, 8, 8, 8, 8, 8, 8, 8, 8])⟩ : ByteArray))) (.t 15)), gI 17 (.convI .i64 (.t 16)), gI 18 (.bin .add (.t 13) (.t 17)), gM 2 18]) .ret))))
def F_bits_Len32 : PF := ⟨19, B_bits_Len32, [(.t 2)]⟩
theorem r_bits_Len32 : F_bits_Len32.res = [(.t 2)] := rfl
theorem n_bits_Len32 : F_bits_Len32.n = 19 := rfl
theorem b_bits_Len32 : F_bits_Len32.body = B_bits_Len32 := rfl
theorem st_bits_Len32 : StandsF Tryz.prog 83 F_bits_Len32 := compF_ok (by kernel_rfl)
def GS : Nat → Option PF
  | 60 => some F_slices_Sort_string_string
  | 70 => some F_slices_pdqsortOrdered_string
  | 71 => some F_bits_Len
  | 74 => some F_slices_insertionSortOrdered_string
  | 84 => some F_bits_Len64
  | 83 => some F_bits_Len32
  | _ => none
theorem GS_ok : ∀ f F, GS f = some F → StandsF Tryz.prog f F := by
  intro f F h
  unfold GS at h
  split at h <;> first
    | (injection h with h; subst h; exact st_slices_Sort_string_string)
    | (injection h with h; subst h; exact st_slices_pdqsortOrdered_string)
    | (injection h with h; subst h; exact st_bits_Len)
    | (injection h with h; subst h; exact st_slices_insertionSortOrdered_string)
    | (injection h with h; subst h; exact st_bits_Len64)
    | (injection h with h; subst h; exact st_bits_Len32)
    | cases h
end Go.Proofs.YtgnmhonbcejnfaaGreatDoor.Fs
