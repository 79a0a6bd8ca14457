/- The functions' code in the pure machine: written by fs.py out of the reckoning; the kernel compares. -/
import Derived.Test.YtoenamablkkocaaPmO
import Derived.Test.YtoenamablkkocaaProg
import Derived.KernelRfl
set_option maxRecDepth 100000
set_option linter.unusedVariables false
namespace Go.Proofs.Ytoenamablkkocaa.Fs
open Go Go.Proofs.Ytoenamablkkocaa.Pm
abbrev f_slices_Sort_string_string : Nat := 60
abbrev f_fair_New : Nat := 19
def B_fair_New : PC := (.seq (.ops [gI 0 (.mov (.k (.pointer .none)))]) (.seq (.ops [⟨(.some 1), .none, .makeMap⟩, gI 2 (.build [(.map .none), (.int .i64 0), (.string (⟨(#[])⟩ : ByteArray)), (.int .i64 0)] [(0, (1, (.t 1)))]), gI 3 (.box (.t 2)), gM 0 3]) .ret))
def F_fair_New : PF := ⟨4, B_fair_New, [(.t 0)]⟩
theorem r_fair_New : F_fair_New.res = [(.t 0)] := rfl
theorem n_fair_New : F_fair_New.n = 4 := rfl
theorem b_fair_New : F_fair_New.body = B_fair_New := rfl
theorem st_fair_New : StandsF Try.prog 19 F_fair_New := compF_ok (by kernel_rfl)
abbrev f_fair_Sched_Set : Nat := 22
def B_fair_Sched_Set : PC := (.seq (.ops [gI 6 (.mov (.k (.int .i64 0)))]) (.seq (.block 0 (.seq (.ops [gM 9 0, gI 10 (.eqNil .ptr .false (.t 9) (.k (.pointer .none))), gM 8 10]) (.cond (.t 8) (.seq (.ops [gI 6 (.mov (.k (.int .i64 2)))]) .ret) (.seq (.ops [gM 12 2, gI 13 (.bin .lss (.t 12) (.k (.int .i64 1))), gM 14 13, gF 15 14 (.mov (.t 2)), gF 16 14 (.bin .gtr (.t 15) (.k (.int .i64 16))), gI 17 (.pick (.t 14) (.k (.bool .true)) (.t 16)), gM 11 17]) (.cond (.t 11) (.seq (.ops [gI 6 (.mov (.k (.int .i64 1)))]) .ret) .skip))))) (.seq (.ops [gM 18 0, gI 19 (.nilck (.t 18)), gI 20 (.fieldAddr 0 (.t 19)), gI 21 (.load .none (.t 20)), gM 22 1, gI 23 (.lookup .s .false (.pointer .none) (.t 21) (.t 22)), gM 7 23]) (.seq (.block 1 (.seq (.ops [gM 38 7, gI 39 (.eqNil .ptr .true (.t 38) (.k (.pointer .none))), gM 40 39, gT 41 40 (.mov (.t 7)), gT 42 40 (.nilck (.t 41)), gT 43 40 (.fieldAddr 2 (.t 42)), gT 44 40 (.load .none (.t 43)), gT 45 40 (.call 38 [(.t 44)]), gT 46 40 (.bin .gtr (.t 45) (.k (.int .i64 0))), gI 47 (.pick (.t 40) (.t 46) (.k (.bool .false))), gM 37 47]) (.cond (.t 37) (.seq (.ops [gI 6 (.mov (.k (.int .i64 200)))]) .ret) (.seq (.ops [gM 49 7, gI 50 (.eqNil .ptr .true (.t 49) (.k (.pointer .none))), gM 48 50]) (.cond (.t 48) (.ops [gM 51 7, gM 52 7, gM 53 2, gM 54 0, gI 55 (.nilck (.t 54)), gI 56 (.fieldAddr 1 (.t 55)), gI 57 (.load .none (.t 56)), gI 58 (.nilck (.t 51)), gI 59 (.fieldAddr 0 (.t 58)), gN (.store 1 (.t 59) (.t 53)), gI 60 (.nilck (.t 52)), gI 61 (.fieldAddr 1 (.t 60)), gN (.store 1 (.t 61) (.t 57))]) (.seq (.ops [gM 63 0, gI 64 (.nilck (.t 63)), gI 65 (.fieldAddr 0 (.t 64)), gI 66 (.load .none (.t 65)), gI 67 (.lenM (.t 66)), gI 68 (.bin .geq (.t 67) (.k (.int .i64 16))), gM 62 68]) (.cond (.t 62) (.seq (.ops [gI 6 (.mov (.k (.int .i64 7)))]) .ret) (.draw [dM 24 0, dI 25 (.nilck (.t 24)), dI 26 (.fieldAddr 0 (.t 25)), dI 27 (.load .none (.t 26)), dM 28 1, dM 29 2, dM 30 0, dI 31 (.nilck (.t 30)), dI 32 (.fieldAddr 1 (.t 31)), dI 33 (.load .none (.t 32)), ⟨gI 34 (.call 39 [(.k (.int .i64 16))]), [gI 33 (.load .none (.t 32)), gI 27 (.load .none (.t 26))]⟩, dI 35 (.build [(.int .i64 0), (.int .i64 0), (.pointer .none)] [(0, (1, (.t 29))), (1, (1, (.t 33))), (2, (1, (.t 34)))]), ⟨gI 36 (.box (.t 35)), [gI 27 (.load .none (.t 26))]⟩, ⟨gN (.mapSet .s (.t 27) (.t 28) (.t 36)), []⟩])))))))) (.seq (.ops [gI 6 (.mov (.k (.int .i64 0)))]) .ret)))))
def F_fair_Sched_Set : PF := ⟨69, B_fair_Sched_Set, [(.t 6)]⟩
theorem r_fair_Sched_Set : F_fair_Sched_Set.res = [(.t 6)] := rfl
theorem n_fair_Sched_Set : F_fair_Sched_Set.n = 69 := rfl
theorem b_fair_Sched_Set : F_fair_Sched_Set.body = B_fair_Sched_Set := rfl
theorem st_fair_Sched_Set : StandsF Try.prog 22 F_fair_Sched_Set := compF_ok (by kernel_rfl)
abbrev f_fair_Sched_Push : Nat := 26
def B_fair_Sched_Push : PC := (.seq (.ops [gI 5 (.box (.t 2)), gI 6 (.mov (.k (.int .i64 0)))]) (.seq (.seq (.ops [gM 10 0, gI 11 (.eqNil .ptr .false (.t 10) (.k (.pointer .none)))]) (.cond (.t 11) (.seq (.ops [gI 6 (.mov (.k (.int .i64 2)))]) .ret) .skip)) (.seq (.ops [gM 12 0, gI 13 (.nilck (.t 12)), gI 14 (.fieldAddr 0 (.t 13)), gI 15 (.load .none (.t 14)), gM 16 1, gI 17 (.lookup .s .false (.pointer .none) (.t 15) (.t 16)), gM 7 17]) (.seq (.block 0 (.seq (.ops [gM 19 7, gI 20 (.eqNil .ptr .false (.t 19) (.k (.pointer .none))), gM 18 20]) (.cond (.t 18) (.seq (.ops [gI 6 (.mov (.k (.int .i64 5)))]) .ret) (.seq (.ops [gI 22 (.fieldAddr 1 (.t 5)), gI 23 (.load .none (.t 22)), gI 24 (.bin .lss (.t 23) (.k (.int .i64 1))), gM 25 24, gF 26 25 (.fieldAddr 1 (.t 5)), gF 27 25 (.load .none (.t 26)), gF 28 25 (.bin .gtr (.t 27) (.k (.int .i64 1000))), gI 29 (.pick (.t 25) (.k (.bool .true)) (.t 28)), gM 21 29]) (.cond (.t 21) (.seq (.ops [gI 6 (.mov (.k (.int .i64 1)))]) .ret) .skip))))) (.seq (.draw [dI 30 (.load (.some 2) (.t 5)), dM 31 0, dI 32 (.nilck (.t 31)), dI 33 (.fieldAddr 1 (.t 32)), dI 34 (.load .none (.t 33)), dM 35 7, dI 36 (.nilck (.t 35)), dI 37 (.fieldAddr 1 (.t 36)), dI 38 (.load .none (.t 37)), dI 39 (.minmax .true (.t 34) (.t 38)), dI 40 (.build [(.int .i64 0), (.int .i64 0), (.int .i64 0)] [(0, (2, (.t 30))), (2, (1, (.t 39)))]), ⟨gI 8 (.alloc [(.int .i64 0), (.int .i64 0), (.int .i64 0)]), [gI 38 (.load .none (.t 37)), gI 34 (.load .none (.t 33)), gI 30 (.load (.some 2) (.t 5))]⟩, ⟨gN (.store 3 (.t 8) (.t 40)), []⟩]) (.seq (.seq (.draw [dM 41 7, dI 42 (.nilck (.t 41)), dI 43 (.fieldAddr 2 (.t 42)), dI 44 (.load .none (.t 43)), dI 45 (.load (.some 3) (.t 8)), dI 46 (.call 44 [(.t 44), (.t 45)]), dM 9 46]) (.seq (.ops [gM 47 9, gI 48 (.bin .neq (.t 47) (.k (.int .i64 0)))]) (.cond (.t 48) (.seq (.ops [gM 49 9, gM 6 49]) .ret) .skip))) (.seq (.draw [dM 50 7, dI 51 (.fieldAddr 2 (.t 8)), dI 52 (.load .none (.t 51)), dI 53 (.fieldAddr 1 (.t 5)), dI 54 (.load .none (.t 53)), dM 55 7, dI 56 (.nilck (.t 55)), dI 57 (.fieldAddr 0 (.t 56)), dI 58 (.load .none (.t 57)), dI 59 (.bin .quo (.k (.int .i64 720720)) (.t 58)), dI 60 (.bin .mul (.t 54) (.t 59)), dI 61 (.bin .add (.t 52) (.t 60)), dI 62 (.nilck (.t 50)), dI 63 (.fieldAddr 1 (.t 62)), ⟨gN (.store 1 (.t 63) (.t 61)), []⟩]) (.seq (.ops [gI 6 (.mov (.k (.int .i64 0)))]) .ret))))))))
def F_fair_Sched_Push : PF := ⟨64, B_fair_Sched_Push, [(.t 6)]⟩
theorem r_fair_Sched_Push : F_fair_Sched_Push.res = [(.t 6)] := rfl
theorem n_fair_Sched_Push : F_fair_Sched_Push.n = 64 := rfl
theorem b_fair_Sched_Push : F_fair_Sched_Push.body = B_fair_Sched_Push := rfl
theorem st_fair_Sched_Push : StandsF Try.prog 26 F_fair_Sched_Push := compF_ok (by kernel_rfl)
abbrev f_fair_Sched_Step : Nat := 28
def B_fair_Sched_Step : PC := (.seq (.ops [gI 2 (.mov (.k (.string (⟨(#[])⟩ : ByteArray)))), gI 3 (.alloc [(.int .i64 0), (.int .i64 0)]), gI 4 (.mov (.k (.bool .false))), gI 5 (.mov (.k (.bool .false)))]) (.seq (.seq (.ops [gM 11 0, gI 12 (.eqNil .ptr .false (.t 11) (.k (.pointer .none))), gM 13 12, gF 14 13 (.mov (.t 0)), gF 15 13 (.call 45 [(.t 14)]), gI 16 (.pick (.t 13) (.k (.bool .true)) (.t 15))]) (.cond (.t 16) (.seq (.ops [gI 17 (.build [(.int .i64 0), (.int .i64 0)] []), gI 2 (.mov (.k (.string (⟨(#[])⟩ : ByteArray)))), gN (.store 2 (.t 3) (.t 17)), gI 4 (.mov (.k (.bool .false))), gI 5 (.mov (.k (.bool .false)))]) .ret) .skip)) (.seq (.seq (.ops [gM 18 0, gI 19 (.nilck (.t 18)), gI 20 (.fieldAddr 3 (.t 19)), gI 21 (.load .none (.t 20)), gI 22 (.bin .eql (.t 21) (.k (.int .i64 0)))]) (.cond (.t 22) (.seq (.ops [gM 24 0, gM 25 0, gI 26 (.call 46 [(.t 25)]), gM 23 26, gI 27 (.extract (.t 23) 0), gI 28 (.extract (.t 23) 1), gI 29 (.nilck (.t 24)), gI 30 (.fieldAddr 2 (.t 29)), gN (.store 1 (.t 30) (.t 27))]) (.seq (.drawT (.step ⟨gM 32 0, []⟩ (.step ⟨gI 33 (.nilck (.t 32)), []⟩ (.step ⟨gI 34 (.fieldAddr 0 (.t 33)), []⟩ (.step ⟨gI 35 (.load .none (.t 34)), []⟩ (.step ⟨gM 36 0, []⟩ (.step ⟨gI 37 (.nilck (.t 36)), []⟩ (.step ⟨gI 38 (.fieldAddr 2 (.t 37)), []⟩ (.step ⟨gI 39 (.load .none (.t 38)), []⟩ (.step ⟨gI 40 (.lookup .s .false (.pointer .none) (.t 35) (.t 39)), []⟩ (.step ⟨gI 41 (.nilck (.t 40)), []⟩ (.step ⟨gI 42 (.fieldAddr 2 (.t 41)), []⟩ (.step ⟨gI 43 (.load .none (.t 42)), []⟩ (.alt (.step ⟨gI 44 (.call 47 [(.t 43)]), []⟩ (.step ⟨gM 31 44, []⟩ (.step ⟨gI 45 (.extract (.t 31) 0), []⟩ (.step ⟨gI 46 (.extract (.t 31) 1), []⟩ (.step ⟨gI 6 (.alloc [(.int .i64 0), (.int .i64 0), (.int .i64 0)]), [gI 43 (.load .none (.t 42)), gI 40 (.lookup .s .false (.pointer .none) (.t 35) (.t 39)), gI 39 (.load .none (.t 38)), gI 35 (.load .none (.t 34))]⟩ (.step ⟨gN (.store 3 (.t 6) (.t 45)), []⟩ (.step ⟨gM 7 46, []⟩ .nil))))))) (.step ⟨gI 6 (.alloc [(.int .i64 0), (.int .i64 0), (.int .i64 0)]), [gI 43 (.load .none (.t 42)), gI 40 (.lookup .s .false (.pointer .none) (.t 35) (.t 39)), gI 39 (.load .none (.t 38)), gI 35 (.load .none (.t 34))]⟩ (.step ⟨gI 44 (.call 47 [(.t 43)]), []⟩ (.step ⟨gM 31 44, []⟩ (.step ⟨gI 45 (.extract (.t 31) 0), []⟩ (.step ⟨gI 46 (.extract (.t 31) 1), []⟩ (.step ⟨gN (.store 3 (.t 6) (.t 45)), []⟩ (.step ⟨gM 7 46, []⟩ .nil))))))))))))))))))))) (.ops [gM 47 0, gI 48 (.fieldAddr 2 (.t 6)), gI 49 (.load .none (.t 48)), gI 50 (.nilck (.t 47)), gI 51 (.fieldAddr 1 (.t 50)), gN (.store 1 (.t 51) (.t 49))]))) .skip)) (.seq (.quiet [gM 52 0, gI 53 (.nilck (.t 52)), gI 54 (.fieldAddr 0 (.t 53)), gI 55 (.load .none (.t 54)), gM 56 0, gI 57 (.nilck (.t 56)), gI 58 (.fieldAddr 2 (.t 57)), gI 59 (.load .none (.t 58)), gI 60 (.lookup .s .false (.pointer .none) (.t 55) (.t 59)), gI 61 (.nilck (.t 60)), gI 62 (.fieldAddr 2 (.t 61)), gI 63 (.load .none (.t 62)), gM 8 63]) (.seq (.ops [gM 65 8, gI 66 (.call 47 [(.t 65)]), gM 64 66, gI 67 (.extract (.t 64) 0), gI 68 (.extract (.t 64) 1), gI 9 (.alloc [(.int .i64 0), (.int .i64 0), (.int .i64 0)]), gN (.store 3 (.t 9) (.t 67)), gM 10 68]) (.seq (.ops [gM 69 0, gI 70 (.nilck (.t 69)), gI 71 (.fieldAddr 3 (.t 70)), gI 72 (.load .none (.t 71)), gI 73 (.bin .add (.t 72) (.k (.int .i64 1))), gI 74 (.nilck (.t 69)), gI 75 (.fieldAddr 3 (.t 74)), gN (.store 1 (.t 75) (.t 73))]) (.seq (.seq (.quiet [gM 76 0, gI 77 (.nilck (.t 76)), gI 78 (.fieldAddr 3 (.t 77)), gI 79 (.load .none (.t 78)), gI 80 (.fieldAddr 0 (.t 9)), gI 81 (.fieldAddr 1 (.t 80)), gI 82 (.load .none (.t 81)), gI 83 (.bin .lss (.t 79) (.t 82))]) (.cond (.t 83) (.seq (.draw [dM 84 0, dI 85 (.nilck (.t 84)), dI 86 (.fieldAddr 2 (.t 85)), dI 87 (.load .none (.t 86)), dI 88 (.fieldAddr 0 (.t 9)), dI 89 (.load (.some 2) (.t 88)), dM 2 87, ⟨gN (.store 2 (.t 3) (.t 89)), []⟩, dI 4 (.mov (.k (.bool .false))), dI 5 (.mov (.k (.bool .true)))]) .ret) .skip)) (.seq (.ops [gM 90 8, gI 91 (.call 48 [(.t 90)])]) (.seq (.ops [gM 92 0, gI 93 (.nilck (.t 92)), gI 94 (.fieldAddr 3 (.t 93)), gN (.store 1 (.t 94) (.k (.int .i64 0)))]) (.seq (.seq (.ops [gM 95 0, gI 96 (.call 45 [(.t 95)])]) (.cond (.t 96) (.ops [gM 97 0, gI 98 (.call 49 [(.t 97)])]) .skip)) (.seq (.draw [dM 99 0, dI 100 (.nilck (.t 99)), dI 101 (.fieldAddr 2 (.t 100)), dI 102 (.load .none (.t 101)), dI 103 (.fieldAddr 0 (.t 9)), dI 104 (.load (.some 2) (.t 103)), dM 2 102, ⟨gN (.store 2 (.t 3) (.t 104)), []⟩, dI 4 (.mov (.k (.bool .true))), dI 5 (.mov (.k (.bool .true)))]) .ret)))))))))))
def F_fair_Sched_Step : PF := ⟨105, B_fair_Sched_Step, [(.t 2), (.cell 3 (.some 2)), (.t 4), (.t 5)]⟩
theorem r_fair_Sched_Step : F_fair_Sched_Step.res = [(.t 2), (.cell 3 (.some 2)), (.t 4), (.t 5)] := rfl
theorem n_fair_Sched_Step : F_fair_Sched_Step.n = 105 := rfl
theorem b_fair_Sched_Step : F_fair_Sched_Step.body = B_fair_Sched_Step := rfl
theorem st_fair_Sched_Step : StandsF Try.prog 28 F_fair_Sched_Step := compF_ok (by kernel_rfl)
abbrev f_fair_Queue_fair_work_Len : Nat := 38
def B_fair_Queue_fair_work_Len : PC := (.seq (.ops [gI 2 (.mov (.k (.int .i64 0)))]) (.seq (.seq (.ops [gM 3 0, gI 4 (.eqNil .ptr .false (.t 3) (.k (.pointer .none)))]) (.cond (.t 4) (.seq (.ops [gI 2 (.mov (.k (.int .i64 0)))]) .ret) .skip)) (.seq (.ops [gM 5 0, gI 6 (.nilck (.t 5)), gI 7 (.fieldAddr 1 (.t 6)), gI 8 (.load .none (.t 7)), gI 9 (.lenS (.t 8)), gM 2 9]) .ret)))
def F_fair_Queue_fair_work_Len : PF := ⟨10, B_fair_Queue_fair_work_Len, [(.t 2)]⟩
theorem r_fair_Queue_fair_work_Len : F_fair_Queue_fair_work_Len.res = [(.t 2)] := rfl
theorem n_fair_Queue_fair_work_Len : F_fair_Queue_fair_work_Len.n = 10 := rfl
theorem b_fair_Queue_fair_work_Len : F_fair_Queue_fair_work_Len.body = B_fair_Queue_fair_work_Len := rfl
theorem st_fair_Queue_fair_work_Len : StandsF Try.prog 38 F_fair_Queue_fair_work_Len := compF_ok (by kernel_rfl)
abbrev f_fair_NewQueue_fair_work : Nat := 39
def B_fair_NewQueue_fair_work : PC := (.seq (.ops [gI 2 (.mov (.k (.pointer .none)))]) (.seq (.seq (.ops [gM 3 0, gI 4 (.bin .lss (.t 3) (.k (.int .i64 1)))]) (.cond (.t 4) (.seq (.ops [gI 2 (.mov (.k (.pointer .none)))]) .ret) .skip)) (.seq (.ops [gM 5 0, gI 6 (.build [(.int .i64 0), (.slice .none 0 0)] [(0, (1, (.t 5)))]), gI 7 (.box (.t 6)), gM 2 7]) .ret)))
def F_fair_NewQueue_fair_work : PF := ⟨8, B_fair_NewQueue_fair_work, [(.t 2)]⟩
theorem r_fair_NewQueue_fair_work : F_fair_NewQueue_fair_work.res = [(.t 2)] := rfl
theorem n_fair_NewQueue_fair_work : F_fair_NewQueue_fair_work.n = 8 := rfl
theorem b_fair_NewQueue_fair_work : F_fair_NewQueue_fair_work.body = B_fair_NewQueue_fair_work := rfl
theorem st_fair_NewQueue_fair_work : StandsF Try.prog 39 F_fair_NewQueue_fair_work := compF_ok (by kernel_rfl)
abbrev f_fair_Queue_fair_work_Push : Nat := 44
def B_fair_Queue_fair_work_Push : PC := (.seq (.ops [gI 3 (.box (.t 1)), gI 4 (.mov (.k (.int .i64 0)))]) (.seq (.block 0 (.seq (.ops [gM 6 0, gI 7 (.eqNil .ptr .false (.t 6) (.k (.pointer .none))), gM 5 7]) (.cond (.t 5) (.seq (.ops [gI 4 (.mov (.k (.int .i64 2)))]) .ret) (.seq (.quiet [gM 9 0, gI 10 (.nilck (.t 9)), gI 11 (.fieldAddr 1 (.t 10)), gI 12 (.load .none (.t 11)), gI 13 (.lenS (.t 12)), gM 14 0, gI 15 (.nilck (.t 14)), gI 16 (.fieldAddr 0 (.t 15)), gI 17 (.load .none (.t 16)), gI 18 (.bin .geq (.t 13) (.t 17)), gM 8 18]) (.cond (.t 8) (.seq (.ops [gI 4 (.mov (.k (.int .i64 200)))]) .ret) .skip))))) (.seq (.draw [dM 19 0, dM 20 0, dI 21 (.nilck (.t 20)), dI 22 (.fieldAddr 1 (.t 21)), dI 23 (.load .none (.t 22)), dI 24 (.load (.some 3) (.t 3)), ⟨gI 25 (.row 3 1 [(.int .i64 0), (.int .i64 0), (.int .i64 0)] [(0, (3, (.t 24)))]), [gI 23 (.load .none (.t 22))]⟩, dI 26 (.append 3 24 [(.int .i64 0), (.int .i64 0), (.int .i64 0)] (.t 23) (.t 25)), dI 27 (.nilck (.t 19)), dI 28 (.fieldAddr 1 (.t 27)), ⟨gN (.store 1 (.t 28) (.t 26)), []⟩]) (.seq (.ops [gI 4 (.mov (.k (.int .i64 0)))]) .ret))))
def F_fair_Queue_fair_work_Push : PF := ⟨29, B_fair_Queue_fair_work_Push, [(.t 4)]⟩
theorem r_fair_Queue_fair_work_Push : F_fair_Queue_fair_work_Push.res = [(.t 4)] := rfl
theorem n_fair_Queue_fair_work_Push : F_fair_Queue_fair_work_Push.n = 29 := rfl
theorem b_fair_Queue_fair_work_Push : F_fair_Queue_fair_work_Push.body = B_fair_Queue_fair_work_Push := rfl
theorem st_fair_Queue_fair_work_Push : StandsF Try.prog 44 F_fair_Queue_fair_work_Push := compF_ok (by kernel_rfl)
abbrev f_fair_Sched_idle : Nat := 45
def B_fair_Sched_idle : PC := (.seq (.ops [gI 2 (.mov (.k (.bool .false)))]) (.seq (.seq (.ops [gM 5 0, gI 6 (.nilck (.t 5)), gI 7 (.fieldAddr 0 (.t 6)), gI 8 (.load .none (.t 7)), gI 9 (.rangeM (.t 8))]) (.block 0 (.loop (.seq (.ops [gI 10 (.nextM (.t 9)), gI 11 (.extract (.t 10) 0)]) (.seq (.cond (.t 11) .skip (.exit 0)) (.block 1 (.seq (.ops [gI 12 (.entryM (.t 9)), gI 13 (.extract (.t 12) 1), gM 4 13]) (.seq (.ops [gM 14 4, gI 15 (.nilck (.t 14)), gI 16 (.fieldAddr 2 (.t 15)), gI 17 (.load .none (.t 16)), gI 18 (.call 38 [(.t 17)]), gI 19 (.bin .gtr (.t 18) (.k (.int .i64 0)))]) (.cond (.t 19) (.seq (.ops [gI 2 (.mov (.k (.bool .false)))]) .ret) .skip))))))))) (.seq (.ops [gI 2 (.mov (.k (.bool .true)))]) .ret)))
def F_fair_Sched_idle : PF := ⟨20, B_fair_Sched_idle, [(.t 2)]⟩
theorem r_fair_Sched_idle : F_fair_Sched_idle.res = [(.t 2)] := rfl
theorem n_fair_Sched_idle : F_fair_Sched_idle.n = 20 := rfl
theorem b_fair_Sched_idle : F_fair_Sched_idle.body = B_fair_Sched_idle := rfl
theorem st_fair_Sched_idle : StandsF Try.prog 45 F_fair_Sched_idle := compF_ok (by kernel_rfl)
abbrev f_fair_Sched_next : Nat := 46
def B_fair_Sched_next : PC := (.seq (.ops [gI 2 (.mov (.k (.string (⟨(#[])⟩ : ByteArray)))), gI 3 (.mov (.k (.bool .false)))]) (.seq (.ops [gI 4 (.mov (.k (.string (⟨(#[])⟩ : ByteArray)))), gI 5 (.mov (.k (.int .i64 0))), gI 6 (.mov (.k (.bool .false)))]) (.seq (.seq (.ops [gM 11 0, gI 12 (.nilck (.t 11)), gI 13 (.fieldAddr 0 (.t 12)), gI 14 (.load .none (.t 13)), gI 15 (.call 56 [(.t 14)]), gI 16 (.call 55 [(.t 15)]), gI 17 (.lenS (.t 16)), gI 18 (.mov (.k (.int .i64 0)))]) (.block 0 (.loop (.seq (.ops [gI 19 (.bin .lss (.t 18) (.t 17))]) (.seq (.cond (.t 19) .skip (.exit 0)) (.seq (.block 1 (.seq (.ops [gI 20 (.idxS 1 (.t 16) (.t 18)), gI 21 (.load .none (.t 20)), gM 8 21]) (.seq (.ops [gM 23 0, gI 24 (.nilck (.t 23)), gI 25 (.fieldAddr 0 (.t 24)), gI 26 (.load .none (.t 25)), gM 27 8, gI 28 (.lookup .s .false (.pointer .none) (.t 26) (.t 27)), gI 29 (.nilck (.t 28)), gI 30 (.fieldAddr 2 (.t 29)), gI 31 (.load .none (.t 30)), gI 32 (.call 47 [(.t 31)]), gM 22 32, gI 33 (.extract (.t 22) 0), gI 34 (.extract (.t 22) 1), gI 9 (.alloc [(.int .i64 0), (.int .i64 0), (.int .i64 0)]), gN (.store 3 (.t 9) (.t 33)), gM 10 34]) (.seq (.ops [gM 35 10, gM 36 35, gT 37 36 (.mov (.t 6)), gT 38 36 (.un .not (.t 37)), gT 39 36 (.mov (.t 38)), gF 40 39 (.fieldAddr 2 (.t 9)), gF 41 39 (.load .none (.t 40)), gF 42 39 (.mov (.t 5)), gF 43 39 (.bin .lss (.t 41) (.t 42)), gT 44 36 (.pick (.t 39) (.k (.bool .true)) (.t 43)), gI 45 (.pick (.t 36) (.t 44) (.k (.bool .false)))]) (.cond (.t 45) (.quiet [gM 46 8, gI 47 (.fieldAddr 2 (.t 9)), gI 48 (.load .none (.t 47)), gM 4 46, gM 5 48, gI 6 (.mov (.k (.bool .true)))]) .skip))))) (.ops [gI 49 (.bin .add (.t 18) (.k (.int .i64 1))), gM 18 49]))))))) (.seq (.ops [gM 50 4, gM 51 6, gM 2 50, gM 3 51]) .ret))))
def F_fair_Sched_next : PF := ⟨52, B_fair_Sched_next, [(.t 2), (.t 3)]⟩
theorem r_fair_Sched_next : F_fair_Sched_next.res = [(.t 2), (.t 3)] := rfl
theorem n_fair_Sched_next : F_fair_Sched_next.n = 52 := rfl
theorem b_fair_Sched_next : F_fair_Sched_next.body = B_fair_Sched_next := rfl
theorem st_fair_Sched_next : StandsF Try.prog 46 F_fair_Sched_next := compF_ok (by kernel_rfl)
abbrev f_fair_Queue_fair_work_Peek : Nat := 47
def B_fair_Queue_fair_work_Peek : PC := (.seq (.ops [gI 2 (.alloc [(.int .i64 0), (.int .i64 0), (.int .i64 0)]), gI 3 (.mov (.k (.bool .false)))]) (.seq (.seq (.ops [gM 4 0, gI 5 (.eqNil .ptr .false (.t 4) (.k (.pointer .none))), gM 6 5, gF 7 6 (.mov (.t 0)), gF 8 6 (.nilck (.t 7)), gF 9 6 (.fieldAddr 1 (.t 8)), gF 10 6 (.load .none (.t 9)), gF 11 6 (.lenS (.t 10)), gF 12 6 (.bin .eql (.t 11) (.k (.int .i64 0))), gI 13 (.pick (.t 6) (.k (.bool .true)) (.t 12))]) (.cond (.t 13) (.seq (.ops [gI 14 (.load (.some 3) (.t 2)), gN (.store 3 (.t 2) (.t 14)), gI 3 (.mov (.k (.bool .false)))]) .ret) .skip)) (.seq (.ops [gM 15 0, gI 16 (.nilck (.t 15)), gI 17 (.fieldAddr 1 (.t 16)), gI 18 (.load .none (.t 17)), gI 19 (.idxS 3 (.t 18) (.k (.int .i64 0))), gI 20 (.load (.some 3) (.t 19)), gN (.store 3 (.t 2) (.t 20)), gI 3 (.mov (.k (.bool .true)))]) .ret)))
def F_fair_Queue_fair_work_Peek : PF := ⟨21, B_fair_Queue_fair_work_Peek, [(.cell 2 (.some 3)), (.t 3)]⟩
theorem r_fair_Queue_fair_work_Peek : F_fair_Queue_fair_work_Peek.res = [(.cell 2 (.some 3)), (.t 3)] := rfl
theorem n_fair_Queue_fair_work_Peek : F_fair_Queue_fair_work_Peek.n = 21 := rfl
theorem b_fair_Queue_fair_work_Peek : F_fair_Queue_fair_work_Peek.body = B_fair_Queue_fair_work_Peek := rfl
theorem st_fair_Queue_fair_work_Peek : StandsF Try.prog 47 F_fair_Queue_fair_work_Peek := compF_ok (by kernel_rfl)
abbrev f_fair_Queue_fair_work_Pop : Nat := 48
def B_fair_Queue_fair_work_Pop : PC := (.seq (.ops [gI 2 (.alloc [(.int .i64 0), (.int .i64 0), (.int .i64 0)]), gI 3 (.mov (.k (.bool .false)))]) (.seq (.ops [gM 7 0, gI 8 (.call 47 [(.t 7)]), gM 6 8, gI 9 (.extract (.t 6) 0), gI 10 (.extract (.t 6) 1), gI 4 (.alloc [(.int .i64 0), (.int .i64 0), (.int .i64 0)]), gN (.store 3 (.t 4) (.t 9)), gM 5 10]) (.seq (.seq (.ops [gM 11 5]) (.cond (.t 11) (.ops [gM 12 0, gM 13 0, gI 14 (.nilck (.t 13)), gI 15 (.fieldAddr 1 (.t 14)), gI 16 (.load .none (.t 15)), gI 17 (.slS 3 (.t 16) (.some (.k (.int .i64 1))) .none .none), gI 18 (.nilck (.t 12)), gI 19 (.fieldAddr 1 (.t 18)), gN (.store 1 (.t 19) (.t 17))]) .skip)) (.seq (.ops [gI 20 (.load (.some 3) (.t 4)), gM 21 5, gN (.store 3 (.t 2) (.t 20)), gM 3 21]) .ret))))
def F_fair_Queue_fair_work_Pop : PF := ⟨22, B_fair_Queue_fair_work_Pop, [(.cell 2 (.some 3)), (.t 3)]⟩
theorem r_fair_Queue_fair_work_Pop : F_fair_Queue_fair_work_Pop.res = [(.cell 2 (.some 3)), (.t 3)] := rfl
theorem n_fair_Queue_fair_work_Pop : F_fair_Queue_fair_work_Pop.n = 22 := rfl
theorem b_fair_Queue_fair_work_Pop : F_fair_Queue_fair_work_Pop.body = B_fair_Queue_fair_work_Pop := rfl
theorem st_fair_Queue_fair_work_Pop : StandsF Try.prog 48 F_fair_Queue_fair_work_Pop := compF_ok (by kernel_rfl)
abbrev f_fair_Sched_rest : Nat := 49
def B_fair_Sched_rest : PC := (.seq (.ops [gM 4 0, gM 5 0, gI 6 (.nilck (.t 4)), gI 7 (.fieldAddr 1 (.t 6)), gN (.store 1 (.t 7) (.k (.int .i64 0))), gI 8 (.nilck (.t 5)), gI 9 (.fieldAddr 3 (.t 8)), gN (.store 1 (.t 9) (.k (.int .i64 0)))]) (.seq (.ops [gM 10 0, gI 11 (.nilck (.t 10)), gI 12 (.fieldAddr 0 (.t 11)), gI 13 (.load .none (.t 12)), gI 14 (.rangeM (.t 13))]) (.block 0 (.loop (.seq (.ops [gI 15 (.nextM (.t 14)), gI 16 (.extract (.t 15) 0)]) (.seq (.cond (.t 16) .skip (.exit 0)) (.block 1 (.seq (.ops [gI 17 (.entryM (.t 14)), gI 18 (.extract (.t 17) 1), gM 3 18]) (.ops [gM 19 3, gI 20 (.nilck (.t 19)), gI 21 (.fieldAddr 1 (.t 20)), gN (.store 1 (.t 21) (.k (.int .i64 0)))])))))))))
def F_fair_Sched_rest : PF := ⟨22, B_fair_Sched_rest, []⟩
theorem r_fair_Sched_rest : F_fair_Sched_rest.res = [] := rfl
theorem n_fair_Sched_rest : F_fair_Sched_rest.n = 22 := rfl
theorem b_fair_Sched_rest : F_fair_Sched_rest.body = B_fair_Sched_rest := rfl
theorem st_fair_Sched_rest : StandsF Try.prog 49 F_fair_Sched_rest := compF_ok (by kernel_rfl)
abbrev f_slices_Sorted_string : Nat := 55
def B_slices_Sorted_string : PC := (.seq (.ops [gI 2 (.mov (.k (.slice .none 0 0)))]) (.seq (.ops [gM 4 0, gI 5 (.call 59 [(.t 4)]), gM 3 5]) (.seq (.ops [gM 6 3, gI 7 (.call 60 [(.t 6)])]) (.seq (.ops [gM 8 3, gM 2 8]) .ret))))
def F_slices_Sorted_string : PF := ⟨9, B_slices_Sorted_string, [(.t 2)]⟩
theorem r_slices_Sorted_string : F_slices_Sorted_string.res = [(.t 2)] := rfl
theorem n_slices_Sorted_string : F_slices_Sorted_string.n = 9 := rfl
theorem b_slices_Sorted_string : F_slices_Sorted_string.body = B_slices_Sorted_string := rfl
theorem st_slices_Sorted_string : StandsF Try.prog 55 F_slices_Sorted_string := compF_ok (by kernel_rfl)
abbrev f_maps_Keys_map_string_fair_tenant_string_fair_tenant : Nat := 56
def B_maps_Keys_map_string_fair_tenant_string_fair_tenant : PC := (.seq (.ops [gI 1 (.box (.t 0)), gI 2 (.mov (.k .nilFunc))]) (.seq (.ops [gI 3 (.mkFunc (.func 61) [] [(.t 1)]), gM 2 3]) .ret))
def F_maps_Keys_map_string_fair_tenant_string_fair_tenant : PF := ⟨4, B_maps_Keys_map_string_fair_tenant_string_fair_tenant, [(.t 2)]⟩
theorem r_maps_Keys_map_string_fair_tenant_string_fair_tenant : F_maps_Keys_map_string_fair_tenant_string_fair_tenant.res = [(.t 2)] := rfl
theorem n_maps_Keys_map_string_fair_tenant_string_fair_tenant : F_maps_Keys_map_string_fair_tenant_string_fair_tenant.n = 4 := rfl
theorem b_maps_Keys_map_string_fair_tenant_string_fair_tenant : F_maps_Keys_map_string_fair_tenant_string_fair_tenant.body = B_maps_Keys_map_string_fair_tenant_string_fair_tenant := rfl
theorem st_maps_Keys_map_string_fair_tenant_string_fair_tenant : StandsF Try.prog 56 F_maps_Keys_map_string_fair_tenant_string_fair_tenant := compF_ok (by kernel_rfl)
abbrev f_slices_Collect_string : Nat := 59
def B_slices_Collect_string : PC := (.seq (.ops [gI 2 (.mov (.k (.slice .none 0 0)))]) (.seq (.ops [gM 3 0, gI 4 (.call 62 [(.k (.slice .none 0 0)), (.t 3)]), gM 2 4]) .ret))
def F_slices_Collect_string : PF := ⟨5, B_slices_Collect_string, [(.t 2)]⟩
theorem r_slices_Collect_string : F_slices_Collect_string.res = [(.t 2)] := rfl
theorem n_slices_Collect_string : F_slices_Collect_string.n = 5 := rfl
theorem b_slices_Collect_string : F_slices_Collect_string.body = B_slices_Collect_string := rfl
theorem st_slices_Collect_string : StandsF Try.prog 59 F_slices_Collect_string := compF_ok (by kernel_rfl)
abbrev f_maps_Keys_map_string_fair_tenant_string_fair_tenant_1 : Nat := 61
def B_maps_Keys_map_string_fair_tenant_string_fair_tenant_1 : PC := (.seq (.ops [gI 4 (.load .none (.t 1)), gI 5 (.rangeM (.t 4))]) (.block 0 (.loop (.seq (.ops [gI 6 (.nextM (.t 5)), gI 7 (.extract (.t 6) 0)]) (.seq (.cond (.t 7) .skip (.exit 0)) (.block 1 (.seq (.ops [gI 8 (.entryM (.t 5)), gI 9 (.extract (.t 8) 0), gM 3 9]) (.seq (.ops [gM 10 0, gM 11 3, gI 12 (.callv (.t 10) [(.t 11)]), gI 13 (.un .not (.t 12))]) (.cond (.t 13) .ret .skip)))))))))
def F_maps_Keys_map_string_fair_tenant_string_fair_tenant_1 : PF := ⟨14, B_maps_Keys_map_string_fair_tenant_string_fair_tenant_1, []⟩
theorem r_maps_Keys_map_string_fair_tenant_string_fair_tenant_1 : F_maps_Keys_map_string_fair_tenant_string_fair_tenant_1.res = [] := rfl
theorem n_maps_Keys_map_string_fair_tenant_string_fair_tenant_1 : F_maps_Keys_map_string_fair_tenant_string_fair_tenant_1.n = 14 := rfl
theorem b_maps_Keys_map_string_fair_tenant_string_fair_tenant_1 : F_maps_Keys_map_string_fair_tenant_string_fair_tenant_1.body = B_maps_Keys_map_string_fair_tenant_string_fair_tenant_1 := rfl
theorem st_maps_Keys_map_string_fair_tenant_string_fair_tenant_1 : StandsF Try.prog 61 F_maps_Keys_map_string_fair_tenant_string_fair_tenant_1 := compF_ok (by kernel_rfl)
abbrev f_slices_AppendSeq_string_string : Nat := 62
def B_slices_AppendSeq_string_string : PC := (.seq (.ops [gI 2 (.box (.t 0)), gI 4 (.mov (.k (.slice .none 0 0)))]) (.seq (.seq (.ops [gM 6 1]) (.block 0 (.rangeF (.t 6) [7] (.ops [gM 5 7]) (.block 1 (.ops [gI 8 (.load .none (.t 2)), gM 9 5, gI 10 (.row 0 1 [(.string (⟨(#[])⟩ : ByteArray))] [(0, (1, (.t 9)))]), gI 11 (.append 1 16 [(.string (⟨(#[])⟩ : ByteArray))] (.t 8) (.t 10)), gN (.store 1 (.t 2) (.t 11))]))))) (.seq (.ops [gI 12 (.load .none (.t 2)), gM 4 12]) .ret)))
def F_slices_AppendSeq_string_string : PF := ⟨13, B_slices_AppendSeq_string_string, [(.t 4)]⟩
theorem r_slices_AppendSeq_string_string : F_slices_AppendSeq_string_string.res = [(.t 4)] := rfl
theorem n_slices_AppendSeq_string_string : F_slices_AppendSeq_string_string.n = 13 := rfl
theorem b_slices_AppendSeq_string_string : F_slices_AppendSeq_string_string.body = B_slices_AppendSeq_string_string := rfl
theorem st_slices_AppendSeq_string_string : StandsF Try.prog 62 F_slices_AppendSeq_string_string := compF_ok (by kernel_rfl)
def GA : Nat → Option PF
  | 19 => some F_fair_New
  | 22 => some F_fair_Sched_Set
  | 26 => some F_fair_Sched_Push
  | 28 => some F_fair_Sched_Step
  | 38 => some F_fair_Queue_fair_work_Len
  | 39 => some F_fair_NewQueue_fair_work
  | 44 => some F_fair_Queue_fair_work_Push
  | 45 => some F_fair_Sched_idle
  | 46 => some F_fair_Sched_next
  | 47 => some F_fair_Queue_fair_work_Peek
  | 48 => some F_fair_Queue_fair_work_Pop
  | 49 => some F_fair_Sched_rest
  | 55 => some F_slices_Sorted_string
  | 56 => some F_maps_Keys_map_string_fair_tenant_string_fair_tenant
  | 59 => some F_slices_Collect_string
  | 61 => some F_maps_Keys_map_string_fair_tenant_string_fair_tenant_1
  | 62 => some F_slices_AppendSeq_string_string
  | _ => none
theorem GA_ok : ∀ f F, GA f = some F → StandsF Try.prog f F := by
  intro f F h
  unfold GA at h
  split at h <;> first
    | (injection h with h; subst h; exact st_fair_New)
    | (injection h with h; subst h; exact st_fair_Sched_Set)
    | (injection h with h; subst h; exact st_fair_Sched_Push)
    | (injection h with h; subst h; exact st_fair_Sched_Step)
    | (injection h with h; subst h; exact st_fair_Queue_fair_work_Len)
    | (injection h with h; subst h; exact st_fair_NewQueue_fair_work)
    | (injection h with h; subst h; exact st_fair_Queue_fair_work_Push)
    | (injection h with h; subst h; exact st_fair_Sched_idle)
    | (injection h with h; subst h; exact st_fair_Sched_next)
    | (injection h with h; subst h; exact st_fair_Queue_fair_work_Peek)
    | (injection h with h; subst h; exact st_fair_Queue_fair_work_Pop)
    | (injection h with h; subst h; exact st_fair_Sched_rest)
    | (injection h with h; subst h; exact st_slices_Sorted_string)
    | (injection h with h; subst h; exact st_maps_Keys_map_string_fair_tenant_string_fair_tenant)
    | (injection h with h; subst h; exact st_slices_Collect_string)
    | (injection h with h; subst h; exact st_maps_Keys_map_string_fair_tenant_string_fair_tenant_1)
    | (injection h with h; subst h; exact st_slices_AppendSeq_string_string)
    | cases h
end Go.Proofs.Ytoenamablkkocaa.Fs
