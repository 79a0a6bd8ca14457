/- The functions' code in the pure machine: written by fs.py out of the reckoning; the kernel compares. -/
import Derived.Test.YtdnkpgbggpbgaaaPmO
import Derived.Test.YtdnkpgbggpbgaaaProg
import Derived.KernelRfl
set_option maxRecDepth 100000
set_option linter.unusedVariables false
namespace Go.Proofs.Ytdnkpgbggpbgaaa.Fs
open Go Go.Proofs.Ytdnkpgbggpbgaaa.Pm
abbrev f_law09_made : Nat := 16
def B_law09_made : PC := (.seq (.ops [gI 2 (.mov (.k (.slice .none 0 0))), gI 3 (.mov (.k (.pointer .none))), gI 4 (.mov (.k (.slice .none 0 0)))]) (.seq (.ops [gI 11 (.build [(.int .i64 0), (.int .u8 0), (.int .u8 0), (.int .u8 0), (.int .u8 0), (.int .u8 0), (.int .u8 0), (.int .u8 0), (.int .u8 0), (.int .u8 0), (.int .u8 0), (.int .u8 0), (.int .u8 0), (.int .u8 0), (.int .u8 0), (.int .u8 0), (.int .u8 0), (.int .u8 0), (.int .u8 0), (.int .u8 0), (.int .u8 0), (.int .u8 0), (.int .u8 0), (.int .u8 0), (.int .u8 0), (.int .u8 0), (.int .u8 0), (.int .u8 0), (.int .u8 0), (.int .u8 0), (.int .u8 0), (.int .u8 0), (.int .u8 0), (.slice .none 0 0)] []), gI 12 (.box (.t 11)), gM 5 12]) (.seq (.ops [gI 6 (.mov (.k (.slice .none 0 0)))]) (.seq (.ops [gI 7 (.mov (.k (.slice .none 0 0)))]) (.seq (.seq (.ops [gI 8 (.mov (.k (.int .i64 0)))]) (.block 0 (.loop (.seq (.seq (.ops [gM 13 8, gM 14 0, gI 15 (.lenS (.t 14)), gI 16 (.bin .lss (.t 13) (.t 15)), gM 17 16, gT 18 17 (.mov (.t 8)), gT 19 17 (.bin .lss (.t 18) (.k (.int .i64 40))), gI 20 (.pick (.t 17) (.t 19) (.k (.bool .false)))]) (.cond (.t 20) .skip (.exit 0))) (.seq (.block 1 (.seq (.ops [gM 24 5, gM 25 0, gM 26 8, gI 27 (.idxS 4 (.t 25) (.t 26)), gI 28 (.load (.some 4) (.t 27)), gI 29 (.call 12 [(.t 24), (.t 28)]), gM 23 29, gI 30 (.extract (.t 23) 0), gI 31 (.extract (.t 23) 1), gM 9 30, gM 10 31]) (.seq (.ops [gM 32 10, gI 33 (.bin .eql (.t 32) (.k (.int .i64 0)))]) (.cond (.t 33) (.seq (.ops [gM 34 6, gM 35 9, gI 36 (.append 1 1 [(.int .u8 0)] (.t 34) (.t 35)), gM 6 36]) (.ops [gM 37 7, gM 38 0, gM 39 8, gI 40 (.idxS 4 (.t 38) (.t 39)), gI 41 (.load (.some 4) (.t 40)), gI 42 (.row 4 1 [(.string (⟨(#[])⟩ : ByteArray)), (.int .i64 0), (.string (⟨(#[])⟩ : ByteArray)), (.slice .none 0 0)] [(0, (4, (.t 41)))]), gI 43 (.append 4 64 [(.string (⟨(#[])⟩ : ByteArray)), (.int .i64 0), (.string (⟨(#[])⟩ : ByteArray)), (.slice .none 0 0)] (.t 37) (.t 42)), gM 7 43])) .skip)))) (.ops [gM 21 8, gI 22 (.bin .add (.t 21) (.k (.int .i64 1))), gM 8 22])))))) (.seq (.ops [gM 44 6, gM 45 5, gM 46 7, gM 2 44, gM 3 45, gM 4 46]) .ret))))))
def F_law09_made : PF := ⟨47, B_law09_made, [(.t 2), (.t 3), (.t 4)]⟩
theorem r_law09_made : F_law09_made.res = [(.t 2), (.t 3), (.t 4)] := rfl
theorem n_law09_made : F_law09_made.n = 47 := rfl
theorem b_law09_made : F_law09_made.body = B_law09_made := rfl
theorem st_law09_made : StandsF Try.prog 16 F_law09_made := compF_ok (by kernel_rfl)
abbrev f_ref02_Count : Nat := 18
def B_ref02_Count : PC := (.seq (.ops [gI 4 (.mov (.k (.int .i64 0)))]) (.seq (.ops [gM 5 0, gM 6 1, gI 7 (.bin .rem (.t 5) (.t 6)), gM 0 7]) (.seq (.seq (.ops [gM 8 0, gI 9 (.bin .lss (.t 8) (.k (.int .i64 0)))]) (.cond (.t 9) (.ops [gM 10 0, gM 11 1, gI 12 (.bin .add (.t 10) (.t 11)), gM 0 12]) .skip)) (.seq (.ops [gM 13 0, gM 4 13]) .ret))))
def F_ref02_Count : PF := ⟨14, B_ref02_Count, [(.t 4)]⟩
theorem r_ref02_Count : F_ref02_Count.res = [(.t 4)] := rfl
theorem n_ref02_Count : F_ref02_Count.n = 14 := rfl
theorem b_ref02_Count : F_ref02_Count.body = B_ref02_Count := rfl
theorem st_ref02_Count : StandsF Try.prog 18 F_ref02_Count := compF_ok (by kernel_rfl)
abbrev f_audit_Resume : Nat := 26
def B_audit_Resume : PC := (.seq (.ops [gI 2 (.mov (.k (.pointer .none))), gI 3 (.mov (.k (.int .i64 0)))]) (.seq (.ops [gM 5 0, gI 6 (.call 44 [(.t 5)]), gI 4 (.alloc [(.slice .none 0 0), (.slice .none 0 0), (.slice .none 0 0), (.pointer .none), (.int .i64 0), (.int .i64 0)]), gN (.store 6 (.t 4) (.t 6))]) (.seq (.quiet [gI 7 (.fieldAddr 3 (.t 4)), gI 8 (.load .none (.t 7)), gI 9 (.fieldAddr 5 (.t 4)), gI 10 (.load .none (.t 9)), gM 2 8, gM 3 10]) .ret)))
def F_audit_Resume : PF := ⟨11, B_audit_Resume, [(.t 2), (.t 3)]⟩
theorem r_audit_Resume : F_audit_Resume.res = [(.t 2), (.t 3)] := rfl
theorem n_audit_Resume : F_audit_Resume.n = 11 := rfl
theorem b_audit_Resume : F_audit_Resume.body = B_audit_Resume := rfl
theorem st_audit_Resume : StandsF Try.prog 26 F_audit_Resume := compF_ok (by kernel_rfl)
def GD : Nat → Option PF
  | 16 => some F_law09_made
  | 18 => some F_ref02_Count
  | 26 => some F_audit_Resume
  | _ => none
theorem GD_ok : ∀ f F, GD f = some F → StandsF Try.prog f F := by
  intro f F h
  unfold GD at h
  split at h <;> first
    | (injection h with h; subst h; exact st_law09_made)
    | (injection h with h; subst h; exact st_ref02_Count)
    | (injection h with h; subst h; exact st_audit_Resume)
    | cases h
end Go.Proofs.Ytdnkpgbggpbgaaa.Fs
