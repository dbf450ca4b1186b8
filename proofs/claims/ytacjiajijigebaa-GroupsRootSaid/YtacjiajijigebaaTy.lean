/- The types of this seat, as the evaluator is told of them. No condition. (Printed by a program of this seat's prover, gen_ty.py.) -/
import Derived.Test.YtacjiajijigebaaProg
import Derived.Test.YtacjiajijigebaaEvL
import Derived.KernelRfl
namespace Go.Proofs.Ytacjiajijigebaa
open Go Go.Ev
def ti3 : TI := .int .i64
theorem ty3 : TyOk Try.prog 3 ti3 := ⟨by kernel_rfl, by kernel_rfl⟩
def ti4 : TI := .bool
theorem ty4 : TyOk Try.prog 4 ti4 := ⟨by kernel_rfl, by kernel_rfl⟩
def ti5 : TI := .int .u8
theorem ty5 : TyOk Try.prog 5 ti5 := ⟨by kernel_rfl, by kernel_rfl⟩
def ti9 : TI := .str
theorem ty9 : TyOk Try.prog 9 ti9 := ⟨by kernel_rfl, by kernel_rfl⟩
def ti22 : TI := .int .u64
theorem ty22 : TyOk Try.prog 22 ti22 := ⟨by kernel_rfl, by kernel_rfl⟩
def ti24 : TI := .slice 39 1
theorem ty24 : TyOk Try.prog 24 ti24 := ⟨by kernel_rfl, by kernel_rfl, by kernel_rfl⟩
def ti26 : TI := .arr 4 22 1 [.num 0]
theorem ty26 : TyOk Try.prog 26 ti26 := tyArr (by kernel_rfl) (by kernel_rfl) (by kernel_rfl) (by decide) (by kernel_rfl)
def ti29 : TI := .int .i64
theorem ty29 : TyOk Try.prog 29 ti29 := ⟨by kernel_rfl, by kernel_rfl⟩
def ti33 : TI := .arr 32 5 1 [.vec 32 (fun _ => .int .u8 0)]
theorem ty33 : TyOk Try.prog 33 ti33 := tyArr (by kernel_rfl) (by kernel_rfl) (by kernel_rfl) (by decide) (by kernel_rfl)
def ti37 : TI := .arr 2 9 1 [.cell (.v (.string ByteArray.empty)), .cell (.v (.string ByteArray.empty))]
theorem ty37 : TyOk Try.prog 37 ti37 := tyArr (by kernel_rfl) (by kernel_rfl) (by kernel_rfl) (by decide) (by kernel_rfl)
def ti39 : TI := .slice 5 1
theorem ty39 : TyOk Try.prog 39 ti39 := ⟨by kernel_rfl, by kernel_rfl, by kernel_rfl⟩
def ti45 : TI := .st [(0, 4), (4, 4), (8, 4), (12, 4)] 16 [.num 0, .num 0, .num 0, .num 0]
theorem ty45 : TyOk Try.prog 45 ti45 := tySt (by kernel_rfl) (by kernel_rfl) (by decide) (by kernel_rfl)
def ti54 : TI := .slice 56 9
theorem ty54 : TyOk Try.prog 54 ti54 := ⟨by kernel_rfl, by kernel_rfl, by kernel_rfl⟩
def ti56 : TI := .st [(0, 4), (4, 4), (8, 1)] 9 [.num 0, .num 0, .cell (.v (.slice none 0 0))]
theorem ty56 : TyOk Try.prog 56 ti56 := tySt (by kernel_rfl) (by kernel_rfl) (by decide) (by kernel_rfl)
def ti59 : TI := .sc (.v .nilFunc)
theorem ty59 : TyOk Try.prog 59 ti59 := tySc (by kernel_rfl) (by kernel_rfl)
def ti62 : TI := .st [(0, 4), (4, 4)] 8 [.num 0, .num 0]
theorem ty62 : TyOk Try.prog 62 ti62 := tySt (by kernel_rfl) (by kernel_rfl) (by decide) (by kernel_rfl)
def ti64 : TI := .st [(0, 4), (4, 4), (8, 4), (12, 32), (44, 8)] 52 [.num 0, .num 0, .num 0, .vec 32 (fun _ => .int .u8 0), .num 0, .num 0]
theorem ty64 : TyOk Try.prog 64 ti64 := tySt (by kernel_rfl) (by kernel_rfl) (by decide) (by kernel_rfl)
def ti78 : TI := .st [(0, 4), (4, 4)] 8 [.num 0, .num 0]
theorem ty78 : TyOk Try.prog 78 ti78 := tySt (by kernel_rfl) (by kernel_rfl) (by decide) (by kernel_rfl)
def ti80 : TI := .st [(0, 1), (1, 4), (5, 4), (9, 4), (13, 4), (17, 4), (21, 4), (25, 8)] 33 [.cell (.v (.string ByteArray.empty)), .num 0, .num 0, .num 0, .num 0, .num 0, .num 0, .num 0, .num 0]
theorem ty80 : TyOk Try.prog 80 ti80 := tySt (by kernel_rfl) (by kernel_rfl) (by decide) (by kernel_rfl)
def ti86 : TI := .int .u16
theorem ty86 : TyOk Try.prog 86 ti86 := ⟨by kernel_rfl, by kernel_rfl⟩
def ti90 : TI := .st [(0, 4), (4, 1)] 5 [.num 0, .cell (.int .u16 0)]
theorem ty90 : TyOk Try.prog 90 ti90 := tySt (by kernel_rfl) (by kernel_rfl) (by decide) (by kernel_rfl)
def ti94 : TI := .arr 2 56 9 [.num 0, .num 0, .cell (.v (.slice none 0 0)), .num 0, .num 0, .cell (.v (.slice none 0 0))]
theorem ty94 : TyOk Try.prog 94 ti94 := tyArr (by kernel_rfl) (by kernel_rfl) (by kernel_rfl) (by decide) (by kernel_rfl)
def ti95 : TI := .slice 26 4
theorem ty95 : TyOk Try.prog 95 ti95 := ⟨by kernel_rfl, by kernel_rfl, by kernel_rfl⟩
def ti96 : TI := .arr 2 95 1 [.cell (.v (.slice none 0 0)), .cell (.v (.slice none 0 0))]
theorem ty96 : TyOk Try.prog 96 ti96 := tyArr (by kernel_rfl) (by kernel_rfl) (by kernel_rfl) (by decide) (by kernel_rfl)
def ti102 : TI := .arr 2 26 4 [.num 0, .num 0]
theorem ty102 : TyOk Try.prog 102 ti102 := tyArr (by kernel_rfl) (by kernel_rfl) (by kernel_rfl) (by decide) (by kernel_rfl)
def ti105 : TI := .slice 102 8
theorem ty105 : TyOk Try.prog 105 ti105 := ⟨by kernel_rfl, by kernel_rfl, by kernel_rfl⟩
def ti113 : TI := .int .u64
theorem ty113 : TyOk Try.prog 113 ti113 := ⟨by kernel_rfl, by kernel_rfl⟩
def ti117 : TI := .sc (.v (.pointer none))
theorem ty117 : TyOk Try.prog 117 ti117 := ⟨_, .pointer 175, by kernel_rfl, by kernel_rfl, rfl, rfl, fun _ => rfl⟩
def ti129 : TI := .sc (.v .nilFunc)
theorem ty129 : TyOk Try.prog 129 ti129 := tySc (by kernel_rfl) (by kernel_rfl)
def ti136 : TI := .arr 8 22 1 [.vec 8 (fun _ => .int .u64 0)]
theorem ty136 : TyOk Try.prog 136 ti136 := tyArr (by kernel_rfl) (by kernel_rfl) (by kernel_rfl) (by decide) (by kernel_rfl)
def ti139 : TI := .slice 22 1
theorem ty139 : TyOk Try.prog 139 ti139 := ⟨by kernel_rfl, by kernel_rfl, by kernel_rfl⟩
def ti146 : TI := .st [(0, 16), (16, 1)] 17 [.num 0, .num 0, .num 0, .num 0, .cell (.v (.string ByteArray.empty))]
theorem ty146 : TyOk Try.prog 146 ti146 := tySt (by kernel_rfl) (by kernel_rfl) (by decide) (by kernel_rfl)
def ti148 : TI := .sc (.v .nilFunc)
theorem ty148 : TyOk Try.prog 148 ti148 := tySc (by kernel_rfl) (by kernel_rfl)
def ti150 : TI := .st [(0, 1)] 1 [.cell (.v .nilFunc)]
theorem ty150 : TyOk Try.prog 150 ti150 := tySt (by kernel_rfl) (by kernel_rfl) (by decide) (by kernel_rfl)
def ti153 : TI := .sc (.v .nilFunc)
theorem ty153 : TyOk Try.prog 153 ti153 := tySc (by kernel_rfl) (by kernel_rfl)
def ti159 : TI := .arr 4 3 1 [.vec 4 (fun _ => .int .i64 0)]
theorem ty159 : TyOk Try.prog 159 ti159 := tyArr (by kernel_rfl) (by kernel_rfl) (by kernel_rfl) (by decide) (by kernel_rfl)
def ti165 : TI := .arr 4 26 4 [.num 0, .num 0, .num 0, .num 0]
theorem ty165 : TyOk Try.prog 165 ti165 := tyArr (by kernel_rfl) (by kernel_rfl) (by kernel_rfl) (by decide) (by kernel_rfl)
def ti169 : TI := .int .u32
theorem ty169 : TyOk Try.prog 169 ti169 := ⟨by kernel_rfl, by kernel_rfl⟩
def ti170 : TI := .arr 8 169 1 [.vec 8 (fun _ => .int .u32 0)]
theorem ty170 : TyOk Try.prog 170 ti170 := tyArr (by kernel_rfl) (by kernel_rfl) (by kernel_rfl) (by decide) (by kernel_rfl)
def ti171 : TI := .arr 8 169 1 [.vec 8 (fun _ => .int .u32 0)]
theorem ty171 : TyOk Try.prog 171 ti171 := tyArr (by kernel_rfl) (by kernel_rfl) (by kernel_rfl) (by decide) (by kernel_rfl)
def ti173 : TI := .arr 64 5 1 [.vec 64 (fun _ => .int .u8 0)]
theorem ty173 : TyOk Try.prog 173 ti173 := tyArr (by kernel_rfl) (by kernel_rfl) (by kernel_rfl) (by decide) (by kernel_rfl)
def ti175 : TI := .st [(0, 1), (1, 8), (9, 64), (73, 1)] 74 [.cell (.int .i64 0), .vec 8 (fun _ => .int .u32 0), .vec 64 (fun _ => .int .u8 0), .cell (.int .u64 0)]
theorem ty175 : TyOk Try.prog 175 ti175 := tySt (by kernel_rfl) (by kernel_rfl) (by decide) (by kernel_rfl)
def ti178 : TI := .slice 169 1
theorem ty178 : TyOk Try.prog 178 ti178 := ⟨by kernel_rfl, by kernel_rfl, by kernel_rfl⟩
def ti188 : TI := .arr 16 22 1 [.vec 16 (fun _ => .int .u64 0)]
theorem ty188 : TyOk Try.prog 188 ti188 := tyArr (by kernel_rfl) (by kernel_rfl) (by kernel_rfl) (by decide) (by kernel_rfl)
def ti191 : TI := .slice 139 1
theorem ty191 : TyOk Try.prog 191 ti191 := ⟨by kernel_rfl, by kernel_rfl, by kernel_rfl⟩
def ti195 : TI := .arr 64 169 1 [.vec 64 (fun _ => .int .u32 0)]
theorem ty195 : TyOk Try.prog 195 ti195 := tyArr (by kernel_rfl) (by kernel_rfl) (by kernel_rfl) (by decide) (by kernel_rfl)
def ti199 : TI := .arr 32 22 1 [.vec 32 (fun _ => .int .u64 0)]
theorem ty199 : TyOk Try.prog 199 ti199 := tyArr (by kernel_rfl) (by kernel_rfl) (by kernel_rfl) (by decide) (by kernel_rfl)
def ti201 : TI := .slice 3 1
theorem ty201 : TyOk Try.prog 201 ti201 := ⟨by kernel_rfl, by kernel_rfl, by kernel_rfl⟩
def tys : BT := (.node 102 ti102 (.node 54 ti54 (.node 26 ti26 (.node 9 ti9 (.node 4 ti4 (.node 3 ti3 .leaf .leaf) (.node 5 ti5 .leaf .leaf)) (.node 24 ti24 (.node 22 ti22 .leaf .leaf) .leaf)) (.node 37 ti37 (.node 33 ti33 (.node 29 ti29 .leaf .leaf) .leaf) (.node 45 ti45 (.node 39 ti39 .leaf .leaf) .leaf))) (.node 80 ti80 (.node 62 ti62 (.node 59 ti59 (.node 56 ti56 .leaf .leaf) .leaf) (.node 78 ti78 (.node 64 ti64 .leaf .leaf) .leaf)) (.node 94 ti94 (.node 90 ti90 (.node 86 ti86 .leaf .leaf) .leaf) (.node 96 ti96 (.node 95 ti95 .leaf .leaf) .leaf)))) (.node 165 ti165 (.node 139 ti139 (.node 117 ti117 (.node 113 ti113 (.node 105 ti105 .leaf .leaf) .leaf) (.node 136 ti136 (.node 129 ti129 .leaf .leaf) .leaf)) (.node 150 ti150 (.node 148 ti148 (.node 146 ti146 .leaf .leaf) .leaf) (.node 159 ti159 (.node 153 ti153 .leaf .leaf) .leaf))) (.node 178 ti178 (.node 171 ti171 (.node 170 ti170 (.node 169 ti169 .leaf .leaf) .leaf) (.node 175 ti175 (.node 173 ti173 .leaf .leaf) .leaf)) (.node 195 ti195 (.node 191 ti191 (.node 188 ti188 .leaf .leaf) .leaf) (.node 201 ti201 (.node 199 ti199 .leaf .leaf) .leaf)))))
theorem tys_ok : tys.All (TyOk Try.prog) := ⟨ty102, ⟨ty54, ⟨ty26, ⟨ty9, ⟨ty4, ⟨ty3, trivial, trivial⟩, ⟨ty5, trivial, trivial⟩⟩, ⟨ty24, ⟨ty22, trivial, trivial⟩, trivial⟩⟩, ⟨ty37, ⟨ty33, ⟨ty29, trivial, trivial⟩, trivial⟩, ⟨ty45, ⟨ty39, trivial, trivial⟩, trivial⟩⟩⟩, ⟨ty80, ⟨ty62, ⟨ty59, ⟨ty56, trivial, trivial⟩, trivial⟩, ⟨ty78, ⟨ty64, trivial, trivial⟩, trivial⟩⟩, ⟨ty94, ⟨ty90, ⟨ty86, trivial, trivial⟩, trivial⟩, ⟨ty96, ⟨ty95, trivial, trivial⟩, trivial⟩⟩⟩⟩, ⟨ty165, ⟨ty139, ⟨ty117, ⟨ty113, ⟨ty105, trivial, trivial⟩, trivial⟩, ⟨ty136, ⟨ty129, trivial, trivial⟩, trivial⟩⟩, ⟨ty150, ⟨ty148, ⟨ty146, trivial, trivial⟩, trivial⟩, ⟨ty159, ⟨ty153, trivial, trivial⟩, trivial⟩⟩⟩, ⟨ty178, ⟨ty171, ⟨ty170, ⟨ty169, trivial, trivial⟩, trivial⟩, ⟨ty175, ⟨ty173, trivial, trivial⟩, trivial⟩⟩, ⟨ty195, ⟨ty191, ⟨ty188, trivial, trivial⟩, trivial⟩, ⟨ty201, ⟨ty199, trivial, trivial⟩, trivial⟩⟩⟩⟩⟩
def tyT (t : Nat) : TI := tys.getT t
theorem tyT_ok (t : Nat) : TyOk Try.prog t (tyT t) := BT.getT_ok tys_ok t
end Go.Proofs.Ytacjiajijigebaa
