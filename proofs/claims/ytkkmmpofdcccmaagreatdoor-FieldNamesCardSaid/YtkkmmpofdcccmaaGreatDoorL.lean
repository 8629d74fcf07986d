/- The package variables that the rows list: what they hold, as facts on worlds. By a program of this project (laid.py). -/
import Derived.Test.YtkkmmpofdcccmaaGreatDoorG
import Derived.Test.YtkkmmpofdcccmaaGreatDoorRows
set_option linter.unusedVariables false
namespace Go.Proofs.YtkkmmpofdcccmaaGreatDoor
open E Go.RowKit
theorem g_bits_deBruijn32tab : Tryz.prog.globalNamed "math/bits.deBruijn32tab" = some 7 := by kernel_rfl
theorem gt_bits_deBruijn32tab : (Tryz.prog.globals[7]?).map (·.type) = some 28 := by kernel_rfl
def GV_bits_deBruijn32tab (w : World) : Prop := Lib.TabIs Tryz.prog w "math/bits.deBruijn32tab" .u8 [0, 1, 28, 2, 29, 14, 24, 3, 30, 22, 20, 15, 25, 17, 4, 8, 31, 27, 13, 23, 21, 19, 16, 7, 26, 12, 18, 6, 11, 5, 10, 9]
theorem GV_bits_deBruijn32tab.on {w w' : World} (h : GV_bits_deBruijn32tab w) (hb : Below w.heap.size w w') : GV_bits_deBruijn32tab w' := var_on h hb
theorem GV_bits_deBruijn32tab.of_laid {l : List (String × DataW Unit)} {w : World} (h : laidMet Tryz.prog l w) (hm : ("math/bits.deBruijn32tab", Rows.laid_math_bits_deBruijn32tab) ∈ l) : GV_bits_deBruijn32tab w := tab_of_reads g_bits_deBruijn32tab gt_bits_deBruijn32tab Tryz.underlying28 Tryz.underlying5 (by kernel_rfl) (by kernel_rfl) (reads_of h hm)
theorem g_bits_deBruijn64tab : Tryz.prog.globalNamed "math/bits.deBruijn64tab" = some 8 := by kernel_rfl
theorem gt_bits_deBruijn64tab : (Tryz.prog.globals[8]?).map (·.type) = some 257 := by kernel_rfl
def GV_bits_deBruijn64tab (w : World) : Prop := Lib.TabIs Tryz.prog w "math/bits.deBruijn64tab" .u8 [0, 1, 56, 2, 57, 49, 28, 3, 61, 58, 42, 50, 38, 29, 17, 4, 62, 47, 59, 36, 45, 43, 51, 22, 53, 39, 33, 30, 24, 18, 12, 5, 63, 55, 48, 27, 60, 41, 37, 16, 46, 35, 44, 21, 52, 32, 23, 11, 54, 26, 40, 15, 34, 20, 31, 10, 25, 14, 19, 9, 13, 8, 7, 6]
theorem GV_bits_deBruijn64tab.on {w w' : World} (h : GV_bits_deBruijn64tab w) (hb : Below w.heap.size w w') : GV_bits_deBruijn64tab w' := var_on h hb
theorem GV_bits_deBruijn64tab.of_laid {l : List (String × DataW Unit)} {w : World} (h : laidMet Tryz.prog l w) (hm : ("math/bits.deBruijn64tab", Rows.laid_math_bits_deBruijn64tab) ∈ l) : GV_bits_deBruijn64tab w := tab_of_reads g_bits_deBruijn64tab gt_bits_deBruijn64tab Tryz.underlying257 Tryz.underlying5 (by kernel_rfl) (by kernel_rfl) (reads_of h hm)
theorem g_strconv_uint64pow10 : Tryz.prog.globalNamed "internal/strconv.uint64pow10" = some 4 := by kernel_rfl
theorem gt_strconv_uint64pow10 : (Tryz.prog.globals[4]?).map (·.type) = some 242 := by kernel_rfl
def GV_strconv_uint64pow10 (w : World) : Prop := Lib.TabIs Tryz.prog w "internal/strconv.uint64pow10" .u64 Lib.pow10Tab
theorem GV_strconv_uint64pow10.on {w w' : World} (h : GV_strconv_uint64pow10 w) (hb : Below w.heap.size w w') : GV_strconv_uint64pow10 w' := var_on h hb
theorem GV_strconv_uint64pow10.of_laid {l : List (String × DataW Unit)} {w : World} (h : laidMet Tryz.prog l w) (hm : ("internal/strconv.uint64pow10", Rows.laid_internal_strconv_uint64pow10) ∈ l) : GV_strconv_uint64pow10 w := tab_of_reads g_strconv_uint64pow10 gt_strconv_uint64pow10 Tryz.underlying242 Tryz.underlying31 (by kernel_rfl) (by kernel_rfl) (reads_of h hm)
theorem g_strconv_ErrRange : Tryz.prog.globalNamed "strconv.ErrRange" = some 3 := by kernel_rfl
theorem gt_strconv_ErrRange : (Tryz.prog.globals[3]?).map (·.type) = some 140 := by kernel_rfl
def GV_strconv_ErrRange (w : World) : Prop := GErr Tryz.prog w "strconv.ErrRange"
theorem GV_strconv_ErrRange.on {w w' : World} (h : GV_strconv_ErrRange w) (hb : Below w.heap.size w w') : GV_strconv_ErrRange w' := GErr.on h hb
theorem GV_strconv_ErrRange.of_laid {l : List (String × DataW Unit)} {w : World} (h : laidMet Tryz.prog l w) (hm : ("strconv.ErrRange", Rows.laid_strconv_ErrRange) ∈ l) : GV_strconv_ErrRange w := gerr_of_reads g_strconv_ErrRange gt_strconv_ErrRange Tryz.underlying140 (reads_of h hm)
theorem g_strconv_ErrSyntax : Tryz.prog.globalNamed "strconv.ErrSyntax" = some 2 := by kernel_rfl
theorem gt_strconv_ErrSyntax : (Tryz.prog.globals[2]?).map (·.type) = some 140 := by kernel_rfl
def GV_strconv_ErrSyntax (w : World) : Prop := GErr Tryz.prog w "strconv.ErrSyntax"
theorem GV_strconv_ErrSyntax.on {w w' : World} (h : GV_strconv_ErrSyntax w) (hb : Below w.heap.size w w') : GV_strconv_ErrSyntax w' := GErr.on h hb
theorem GV_strconv_ErrSyntax.of_laid {l : List (String × DataW Unit)} {w : World} (h : laidMet Tryz.prog l w) (hm : ("strconv.ErrSyntax", Rows.laid_strconv_ErrSyntax) ∈ l) : GV_strconv_ErrSyntax w := gerr_of_reads g_strconv_ErrSyntax gt_strconv_ErrSyntax Tryz.underlying140 (reads_of h hm)
theorem g_field_names : Tryz.prog.globalNamed "crawlway/field.names" = some 0 := by kernel_rfl
theorem gt_field_names : (Tryz.prog.globals[0]?).map (·.type) = some 75 := by kernel_rfl
def gval_field_names : Vector ByteArray 17 := #v[⟨#[]⟩, ⟨#[112, 114, 105, 118, 97, 116, 101, 95, 107, 101, 121]⟩, ⟨#[108, 105, 115, 116, 101, 110, 95, 112, 111, 114, 116]⟩, ⟨#[102, 119, 109, 97, 114, 107]⟩, ⟨#[114, 101, 112, 108, 97, 99, 101, 95, 112, 101, 101, 114, 115]⟩, ⟨#[112, 117, 98, 108, 105, 99, 95, 107, 101, 121]⟩, ⟨#[114, 101, 109, 111, 118, 101]⟩, ⟨#[117, 112, 100, 97, 116, 101, 95, 111, 110, 108, 121]⟩, ⟨#[112, 114, 101, 115, 104, 97, 114, 101, 100, 95, 107, 101, 121]⟩, ⟨#[101, 110, 100, 112, 111, 105, 110, 116]⟩, ⟨#[112, 101, 114, 115, 105, 115, 116, 101, 110, 116, 95, 107, 101, 101, 112, 97, 108, 105, 118, 101, 95, 105, 110, 116, 101, 114, 118, 97, 108]⟩, ⟨#[114, 101, 112, 108, 97, 99, 101, 95, 97, 108, 108, 111, 119, 101, 100, 95, 105, 112, 115]⟩, ⟨#[97, 108, 108, 111, 119, 101, 100, 95, 105, 112]⟩, ⟨#[112, 114, 111, 116, 111, 99, 111, 108, 95, 118, 101, 114, 115, 105, 111, 110]⟩, ⟨#[116, 120, 95, 98, 121, 116, 101, 115]⟩, ⟨#[114, 120, 95, 98, 121, 116, 101, 115]⟩, ⟨#[101, 114, 114, 110, 111]⟩]
def GV_field_names (w : World) : Prop := Gv Tryz.prog w "crawlway/field.names" (cVec cStr 17 (by decide)) gval_field_names
theorem GV_field_names.on {w w' : World} (h : GV_field_names w) (hb : Below w.heap.size w w') : GV_field_names w' := Gv.on h hb
theorem GV_field_names.of_laid {l : List (String × DataW Unit)} {w : World} (h : laidMet Tryz.prog l w) (hm : ("crawlway/field.names", Rows.laid_crawlway_field_names) ∈ l) : GV_field_names w := gv_of_strs g_field_names gt_field_names Tryz.underlying75 Tryz.underlying9 (by kernel_rfl) (by kernel_rfl) (reads_of h hm)
end Go.Proofs.YtkkmmpofdcccmaaGreatDoor
