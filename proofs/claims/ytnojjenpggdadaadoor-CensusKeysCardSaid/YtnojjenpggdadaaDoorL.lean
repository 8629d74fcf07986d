/- The package variables that the rows list: what they hold, as facts on worlds. By a program of this project (laid.py). -/
import Derived.Test.YtnojjenpggdadaaDoorG
import Derived.Test.YtnojjenpggdadaaDoorRows
set_option linter.unusedVariables false
namespace Go.Proofs.YtnojjenpggdadaaDoor
open E Go.RowKit
theorem g_bits_deBruijn32tab : Tryd.prog.globalNamed "math/bits.deBruijn32tab" = some 5 := by kernel_rfl
theorem gt_bits_deBruijn32tab : (Tryd.prog.globals[5]?).map (·.type) = some 47 := by kernel_rfl
def GV_bits_deBruijn32tab (w : World) : Prop := Lib.TabIs Tryd.prog w "math/bits.deBruijn32tab" .u8 [0, 1, 28, 2, 29, 14, 24, 3, 30, 22, 20, 15, 25, 17, 4, 8, 31, 27, 13, 23, 21, 19, 16, 7, 26, 12, 18, 6, 11, 5, 10, 9]
theorem GV_bits_deBruijn32tab.on {w w' : World} (h : GV_bits_deBruijn32tab w) (hb : Below w.heap.size w w') : GV_bits_deBruijn32tab w' := var_on h hb
theorem GV_bits_deBruijn32tab.of_laid {l : List (String × DataW Unit)} {w : World} (h : laidMet Tryd.prog l w) (hm : ("math/bits.deBruijn32tab", Rows.laid_math_bits_deBruijn32tab) ∈ l) : GV_bits_deBruijn32tab w := tab_of_reads g_bits_deBruijn32tab gt_bits_deBruijn32tab Tryd.underlying47 Tryd.underlying5 (by kernel_rfl) (by kernel_rfl) (reads_of h hm)
theorem g_bits_deBruijn64tab : Tryd.prog.globalNamed "math/bits.deBruijn64tab" = some 6 := by kernel_rfl
theorem gt_bits_deBruijn64tab : (Tryd.prog.globals[6]?).map (·.type) = some 115 := by kernel_rfl
def GV_bits_deBruijn64tab (w : World) : Prop := Lib.TabIs Tryd.prog w "math/bits.deBruijn64tab" .u8 [0, 1, 56, 2, 57, 49, 28, 3, 61, 58, 42, 50, 38, 29, 17, 4, 62, 47, 59, 36, 45, 43, 51, 22, 53, 39, 33, 30, 24, 18, 12, 5, 63, 55, 48, 27, 60, 41, 37, 16, 46, 35, 44, 21, 52, 32, 23, 11, 54, 26, 40, 15, 34, 20, 31, 10, 25, 14, 19, 9, 13, 8, 7, 6]
theorem GV_bits_deBruijn64tab.on {w w' : World} (h : GV_bits_deBruijn64tab w) (hb : Below w.heap.size w w') : GV_bits_deBruijn64tab w' := var_on h hb
theorem GV_bits_deBruijn64tab.of_laid {l : List (String × DataW Unit)} {w : World} (h : laidMet Tryd.prog l w) (hm : ("math/bits.deBruijn64tab", Rows.laid_math_bits_deBruijn64tab) ∈ l) : GV_bits_deBruijn64tab w := tab_of_reads g_bits_deBruijn64tab gt_bits_deBruijn64tab Tryd.underlying115 Tryd.underlying5 (by kernel_rfl) (by kernel_rfl) (reads_of h hm)
theorem g_strconv_uint64pow10 : Tryd.prog.globalNamed "internal/strconv.uint64pow10" = some 2 := by kernel_rfl
theorem gt_strconv_uint64pow10 : (Tryd.prog.globals[2]?).map (·.type) = some 102 := by kernel_rfl
def GV_strconv_uint64pow10 (w : World) : Prop := Lib.TabIs Tryd.prog w "internal/strconv.uint64pow10" .u64 Lib.pow10Tab
theorem GV_strconv_uint64pow10.on {w w' : World} (h : GV_strconv_uint64pow10 w) (hb : Below w.heap.size w w') : GV_strconv_uint64pow10 w' := var_on h hb
theorem GV_strconv_uint64pow10.of_laid {l : List (String × DataW Unit)} {w : World} (h : laidMet Tryd.prog l w) (hm : ("internal/strconv.uint64pow10", Rows.laid_internal_strconv_uint64pow10) ∈ l) : GV_strconv_uint64pow10 w := tab_of_reads g_strconv_uint64pow10 gt_strconv_uint64pow10 Tryd.underlying102 Tryd.underlying22 (by kernel_rfl) (by kernel_rfl) (reads_of h hm)
theorem g_strconv_ErrRange : Tryd.prog.globalNamed "strconv.ErrRange" = some 4 := by kernel_rfl
theorem gt_strconv_ErrRange : (Tryd.prog.globals[4]?).map (·.type) = some 63 := by kernel_rfl
def GV_strconv_ErrRange (w : World) : Prop := GErr Tryd.prog w "strconv.ErrRange"
theorem GV_strconv_ErrRange.on {w w' : World} (h : GV_strconv_ErrRange w) (hb : Below w.heap.size w w') : GV_strconv_ErrRange w' := GErr.on h hb
theorem GV_strconv_ErrRange.of_laid {l : List (String × DataW Unit)} {w : World} (h : laidMet Tryd.prog l w) (hm : ("strconv.ErrRange", Rows.laid_strconv_ErrRange) ∈ l) : GV_strconv_ErrRange w := gerr_of_reads g_strconv_ErrRange gt_strconv_ErrRange Tryd.underlying63 (reads_of h hm)
theorem g_strconv_ErrSyntax : Tryd.prog.globalNamed "strconv.ErrSyntax" = some 3 := by kernel_rfl
theorem gt_strconv_ErrSyntax : (Tryd.prog.globals[3]?).map (·.type) = some 63 := by kernel_rfl
def GV_strconv_ErrSyntax (w : World) : Prop := GErr Tryd.prog w "strconv.ErrSyntax"
theorem GV_strconv_ErrSyntax.on {w w' : World} (h : GV_strconv_ErrSyntax w) (hb : Below w.heap.size w w') : GV_strconv_ErrSyntax w' := GErr.on h hb
theorem GV_strconv_ErrSyntax.of_laid {l : List (String × DataW Unit)} {w : World} (h : laidMet Tryd.prog l w) (hm : ("strconv.ErrSyntax", Rows.laid_strconv_ErrSyntax) ∈ l) : GV_strconv_ErrSyntax w := gerr_of_reads g_strconv_ErrSyntax gt_strconv_ErrSyntax Tryd.underlying63 (reads_of h hm)
theorem g_show_units : Tryd.prog.globalNamed "crawlway/show.units" = some 0 := by kernel_rfl
theorem gt_show_units : (Tryd.prog.globals[0]?).map (·.type) = some 67 := by kernel_rfl
def gval_show_units : Vector ByteArray 6 := #v[⟨#[75, 105, 66]⟩, ⟨#[77, 105, 66]⟩, ⟨#[71, 105, 66]⟩, ⟨#[84, 105, 66]⟩, ⟨#[80, 105, 66]⟩, ⟨#[69, 105, 66]⟩]
def GV_show_units (w : World) : Prop := Gv Tryd.prog w "crawlway/show.units" (cVec cStr 6 (by decide)) gval_show_units
theorem GV_show_units.on {w w' : World} (h : GV_show_units w) (hb : Below w.heap.size w w') : GV_show_units w' := Gv.on h hb
theorem GV_show_units.of_laid {l : List (String × DataW Unit)} {w : World} (h : laidMet Tryd.prog l w) (hm : ("crawlway/show.units", Rows.laid_crawlway_show_units) ∈ l) : GV_show_units w := gv_of_strs g_show_units gt_show_units Tryd.underlying67 Tryd.underlying9 (by kernel_rfl) (by kernel_rfl) (reads_of h hm)
theorem g_census_names : Tryd.prog.globalNamed "crawlway/census.names" = some 1 := by kernel_rfl
theorem gt_census_names : (Tryd.prog.globals[1]?).map (·.type) = some 74 := by kernel_rfl
def gval_census_names : Vector ByteArray 7 := #v[⟨#[]⟩, ⟨#[114, 101, 112, 108, 121]⟩, ⟨#[115, 101, 110, 100]⟩, ⟨#[100, 101, 108, 105, 118, 101, 114]⟩, ⟨#[114, 101, 102, 117, 115, 101]⟩, ⟨#[100, 114, 111, 112]⟩, ⟨#[112, 97, 115, 115]⟩]
def GV_census_names (w : World) : Prop := Gv Tryd.prog w "crawlway/census.names" (cVec cStr 7 (by decide)) gval_census_names
theorem GV_census_names.on {w w' : World} (h : GV_census_names w) (hb : Below w.heap.size w w') : GV_census_names w' := Gv.on h hb
theorem GV_census_names.of_laid {l : List (String × DataW Unit)} {w : World} (h : laidMet Tryd.prog l w) (hm : ("crawlway/census.names", Rows.laid_crawlway_census_names) ∈ l) : GV_census_names w := gv_of_strs g_census_names gt_census_names Tryd.underlying74 Tryd.underlying9 (by kernel_rfl) (by kernel_rfl) (reads_of h hm)
end Go.Proofs.YtnojjenpggdadaaDoor
