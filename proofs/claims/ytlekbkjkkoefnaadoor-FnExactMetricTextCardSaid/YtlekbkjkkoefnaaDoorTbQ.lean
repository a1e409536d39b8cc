
/- The table of powers of ten out of a card's condition. -/
import Derived.Test.YtlekbkjkkoefnaaDoorRows
import Derived.Test.YtlekbkjkkoefnaaDoorMT1
import Derived.Lib.LaidTab
import Derived.LaidMore
namespace Go.Proofs.YtlekbkjkkoefnaaDoor
open Go
theorem tbp_of_laid {W : World} (h : laidMetH Tryd.prog [("math/bits.deBruijn32tab", Rows.laid_math_bits_deBruijn32tab), ("math/bits.deBruijn64tab", Rows.laid_math_bits_deBruijn64tab), ("internal/strconv.uint64pow10", Rows.laid_internal_strconv_uint64pow10)] W) : TbP W := by
  rw [MakeChecks.laidMetH_plain _ _ _ (by kernel_rfl)] at h
  obtain ⟨ps, ⟨_, _, _, _, _, _, _, _, _, _, ⟨_, _, _, _, _, _, _, _, _, _, ⟨g', t', cs, fuel, p, q, hg', ht', hvar, hd, _, _⟩, _⟩, _⟩, _⟩ := h
  obtain rfl := Option.some.inj ((show Tryd.prog.globalNamed "internal/strconv.uint64pow10" = some 1 by kernel_rfl).symm.trans hg')
  obtain rfl := Option.some.inj ((show (Tryd.prog.globals[1]?).map (·.type) = some 160 by kernel_rfl).symm.trans ht')
  unfold TbP Lib.TabIs
  have hd' : DataW.trod (fun _ => ()) Tryd.prog W 0 (fun _ => true) false fuel 160 cs.toList = some (Lib.tabData .u64 Lib.pow10Tab, p) := by
    rw [hd]
    have e : (Rows.laid_internal_strconv_uint64pow10 : DataW Unit) = Lib.tabData .u64 Lib.pow10Tab := by kernel_rfl
    rw [e]
  rw [hvar, ← Lib.cells_of_tab (n := 20) (e := 71) (by kernel_rfl) (by kernel_rfl) (by kernel_rfl) (by kernel_rfl) hd']
end Go.Proofs.YtlekbkjkkoefnaaDoor
