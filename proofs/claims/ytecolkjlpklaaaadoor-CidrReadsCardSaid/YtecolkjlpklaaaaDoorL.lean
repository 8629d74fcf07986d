/- The package variables that the rows list: what they hold, as facts on worlds. By a program of this project (laid.py). -/
import Derived.Test.YtecolkjlpklaaaaDoorG
import Derived.Test.YtecolkjlpklaaaaDoorRows
set_option linter.unusedVariables false
namespace Go.Proofs.YtecolkjlpklaaaaDoor
open E Go.RowKit
theorem g_bits_deBruijn32tab : Tryd.prog.globalNamed "math/bits.deBruijn32tab" = some 4 := by kernel_rfl
theorem gt_bits_deBruijn32tab : (Tryd.prog.globals[4]?).map (·.type) = some 164 := by kernel_rfl
def GV_bits_deBruijn32tab (w : World) : Prop := Lib.TabIs Tryd.prog w "math/bits.deBruijn32tab" .u8 [0, 1, 28, 2, 29, 14, 24, 3, 30, 22, 20, 15, 25, 17, 4, 8, 31, 27, 13, 23, 21, 19, 16, 7, 26, 12, 18, 6, 11, 5, 10, 9]
theorem GV_bits_deBruijn32tab.on {w w' : World} (h : GV_bits_deBruijn32tab w) (hb : Below w.heap.size w w') : GV_bits_deBruijn32tab w' := var_on h hb
theorem GV_bits_deBruijn32tab.of_laid {l : List (String × DataW Unit)} {w : World} (h : laidMet Tryd.prog l w) (hm : ("math/bits.deBruijn32tab", Rows.laid_math_bits_deBruijn32tab) ∈ l) : GV_bits_deBruijn32tab w := tab_of_reads g_bits_deBruijn32tab gt_bits_deBruijn32tab Tryd.underlying164 Tryd.underlying5 (by kernel_rfl) (by kernel_rfl) (reads_of h hm)
theorem g_bits_deBruijn64tab : Tryd.prog.globalNamed "math/bits.deBruijn64tab" = some 5 := by kernel_rfl
theorem gt_bits_deBruijn64tab : (Tryd.prog.globals[5]?).map (·.type) = some 165 := by kernel_rfl
def GV_bits_deBruijn64tab (w : World) : Prop := Lib.TabIs Tryd.prog w "math/bits.deBruijn64tab" .u8 [0, 1, 56, 2, 57, 49, 28, 3, 61, 58, 42, 50, 38, 29, 17, 4, 62, 47, 59, 36, 45, 43, 51, 22, 53, 39, 33, 30, 24, 18, 12, 5, 63, 55, 48, 27, 60, 41, 37, 16, 46, 35, 44, 21, 52, 32, 23, 11, 54, 26, 40, 15, 34, 20, 31, 10, 25, 14, 19, 9, 13, 8, 7, 6]
theorem GV_bits_deBruijn64tab.on {w w' : World} (h : GV_bits_deBruijn64tab w) (hb : Below w.heap.size w w') : GV_bits_deBruijn64tab w' := var_on h hb
theorem GV_bits_deBruijn64tab.of_laid {l : List (String × DataW Unit)} {w : World} (h : laidMet Tryd.prog l w) (hm : ("math/bits.deBruijn64tab", Rows.laid_math_bits_deBruijn64tab) ∈ l) : GV_bits_deBruijn64tab w := tab_of_reads g_bits_deBruijn64tab gt_bits_deBruijn64tab Tryd.underlying165 Tryd.underlying5 (by kernel_rfl) (by kernel_rfl) (reads_of h hm)
theorem g_strconv_uint64pow10 : Tryd.prog.globalNamed "internal/strconv.uint64pow10" = some 1 := by kernel_rfl
theorem gt_strconv_uint64pow10 : (Tryd.prog.globals[1]?).map (·.type) = some 151 := by kernel_rfl
def GV_strconv_uint64pow10 (w : World) : Prop := Lib.TabIs Tryd.prog w "internal/strconv.uint64pow10" .u64 Lib.pow10Tab
theorem GV_strconv_uint64pow10.on {w w' : World} (h : GV_strconv_uint64pow10 w) (hb : Below w.heap.size w w') : GV_strconv_uint64pow10 w' := var_on h hb
theorem GV_strconv_uint64pow10.of_laid {l : List (String × DataW Unit)} {w : World} (h : laidMet Tryd.prog l w) (hm : ("internal/strconv.uint64pow10", Rows.laid_internal_strconv_uint64pow10) ∈ l) : GV_strconv_uint64pow10 w := tab_of_reads g_strconv_uint64pow10 gt_strconv_uint64pow10 Tryd.underlying151 Tryd.underlying83 (by kernel_rfl) (by kernel_rfl) (reads_of h hm)
theorem g_strconv_ErrRange : Tryd.prog.globalNamed "strconv.ErrRange" = some 3 := by kernel_rfl
theorem gt_strconv_ErrRange : (Tryd.prog.globals[3]?).map (·.type) = some 113 := by kernel_rfl
def GV_strconv_ErrRange (w : World) : Prop := GErr Tryd.prog w "strconv.ErrRange"
theorem GV_strconv_ErrRange.on {w w' : World} (h : GV_strconv_ErrRange w) (hb : Below w.heap.size w w') : GV_strconv_ErrRange w' := GErr.on h hb
theorem GV_strconv_ErrRange.of_laid {l : List (String × DataW Unit)} {w : World} (h : laidMet Tryd.prog l w) (hm : ("strconv.ErrRange", Rows.laid_strconv_ErrRange) ∈ l) : GV_strconv_ErrRange w := gerr_of_reads g_strconv_ErrRange gt_strconv_ErrRange Tryd.underlying113 (reads_of h hm)
theorem g_strconv_ErrSyntax : Tryd.prog.globalNamed "strconv.ErrSyntax" = some 2 := by kernel_rfl
theorem gt_strconv_ErrSyntax : (Tryd.prog.globals[2]?).map (·.type) = some 113 := by kernel_rfl
def GV_strconv_ErrSyntax (w : World) : Prop := GErr Tryd.prog w "strconv.ErrSyntax"
theorem GV_strconv_ErrSyntax.on {w w' : World} (h : GV_strconv_ErrSyntax w) (hb : Below w.heap.size w w') : GV_strconv_ErrSyntax w' := GErr.on h hb
theorem GV_strconv_ErrSyntax.of_laid {l : List (String × DataW Unit)} {w : World} (h : laidMet Tryd.prog l w) (hm : ("strconv.ErrSyntax", Rows.laid_strconv_ErrSyntax) ∈ l) : GV_strconv_ErrSyntax w := gerr_of_reads g_strconv_ErrSyntax gt_strconv_ErrSyntax Tryd.underlying113 (reads_of h hm)
end Go.Proofs.YtecolkjlpklaaaaDoor
