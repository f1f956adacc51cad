/- Texts of this claim, packed. -/
import Derived.Test.YtodmkjeankbieaaGreatDoorKAllk28
import Derived.Test.YtodmkjeankbieaaGreatDoorCards
import Derived.Test.YtodmkjeankbieaaGreatDoorTie
import Derived.Lay
import Derived.Deep.DeepHandedRow
import Derived.Lib.LaidTab
import Derived.Stop.LaidErr
import Derived.MakeChecks
import Derived.SevenTiedAt
import Derived.RowKitTokens
set_option linter.all false
namespace Go.Proofs.YtodmkjeankbieaaGreatDoor
open Go.RowKit Go.Sort Go.Lib

theorem gRng : Tryz.prog.globalNamed "strconv.ErrRange" = some 4 := by kernel_rfl
theorem gRngT : (Tryz.prog.globals[4]?).map (·.type) = some 154 := by kernel_rfl
theorem gSyn : Tryz.prog.globalNamed "strconv.ErrSyntax" = some 3 := by kernel_rfl
theorem gSynT : (Tryz.prog.globals[3]?).map (·.type) = some 154 := by kernel_rfl
theorem gPow : Tryz.prog.globalNamed "internal/strconv.uint64pow10" = some 5 := by kernel_rfl
theorem gPowT : (Tryz.prog.globals[5]?).map (·.type) = some 209 := by kernel_rfl
theorem cellsES : Tryz.prog.cellsOf 216 = 1 := by kernel_rfl
theorem cellsST : Tryz.prog.cellsOf 9 = 1 := by kernel_rfl
theorem cellsU64 : Tryz.prog.cellsOf 71 = 1 := by kernel_rfl
theorem cellsPow : Tryz.prog.cellsOf 209 = 20 := by kernel_rfl
theorem starES : "*" ++ "errors.errorString" = "*errors.errorString" := by decide
theorem rowES (u : TypeId) (h : Tryz.prog.typeName? 3 u = some "*errors.errorString") : u = 214 :=
 typeName_ptr_named (nm := "errors.errorString") (by rw [starES]; kernel_rfl) (by kernel_rfl) (by decide) u (by rw [starES]; exact h)
theorem env_of {W : World} (hL : laidMet Tryz.prog Rows.driveTellsUptoRow.laid W) (hsh : W.ShapedOpen Tryz.prog) : Env W := by
 have t2 : laidMet Tryz.prog (("internal/strconv.uint64pow10", Lib.tabData .u64 Lib.pow10Tab) :: [("unicode/utf8.acceptRanges", Rows.laid_unicode_utf8_acceptRanges), ("strconv.ErrRange", Rows.laid_strconv_ErrRange), ("strconv.ErrSyntax", Rows.laid_strconv_ErrSyntax), ("unicode/utf8.first", Rows.laid_unicode_utf8_first)]) W := hL.tail.tail
 have t4 : laidMet Tryz.prog (("strconv.ErrRange", Rows.laid_strconv_ErrRange) :: [("strconv.ErrSyntax", Rows.laid_strconv_ErrSyntax), ("unicode/utf8.first", Rows.laid_unicode_utf8_first)]) W := t2.tail.tail
 obtain ⟨a0, _, h0, _⟩ := laid_sentinel t4 gRng gRngT Tryz.underlying154 rowES Tryz.underlying214 Tryz.underlying216 rfl rfl Tryz.underlying9 cellsES cellsST
 obtain ⟨a1, _, h1, _⟩ := laid_sentinel t4.tail gSyn gSynT Tryz.underlying154 rowES Tryz.underlying214 Tryz.underlying216 rfl rfl Tryz.underlying9 cellsES cellsST
 exact ⟨Lib.tabIs_of_head gPow gPowT Tryz.underlying209 Tryz.underlying71 cellsU64 cellsPow t2, ⟨_, _, h0⟩, ⟨_, _, h1⟩,
   Go.Proofs.cell_of_shapedOpen_int (zero := #[.int .i64 0]) (t := 3) hsh (of_decide_eq_true (by kernel_rfl)) (by kernel_rfl) rfl (by kernel_rfl) (by kernel_rfl) Tryz.underlying3⟩
end Go.Proofs.YtodmkjeankbieaaGreatDoor

