/- from the row's facts to Env -/
import Derived.Test.YtapdgeajbnbdjaaDoorLex
import Derived.Test.YtapdgeajbnbdjaaDoorRows
import Derived.Lib.LaidTab
import Derived.ShapedOpen
import Derived.Deep.DeepHandedRow
namespace Go.Proofs.YtapdgeajbnbdjaaDoor
open Go.RowKit

theorem many : decide (4 ≤ (begin Tryd.prog (fun _ _ => 0) default).world.heap.size && Tryd.prog.globals.size < (begin Tryd.prog (fun _ _ => 0) default).world.heap.size) = true := by kernel_rfl

theorem size_of_shaped {W : World} (h : W.ShapedOpen Tryd.prog) : 4 ≤ W.heap.size := by
  have hm := of_decide_eq_true many
  rw [Bool.and_eq_true, decide_eq_true_iff, decide_eq_true_iff] at hm
  obtain ⟨o, o0, h1, _⟩ := h.2 ((begin Tryd.prog (fun _ _ => 0) default).world.heap.size - 1) (by omega) (by omega)
  have := (Array.getElem?_eq_some_iff.1 h1).1
  omega

theorem powType : (Tryd.prog.globals[1]?).map (·.type) = some 129 := by kernel_rfl
theorem powData : (Rows.laid_internal_strconv_uint64pow10 : DataW Unit) = Lib.tabData .u64 Lib.pow10Tab := by rfl
theorem powTab {W : World} {a b : String × DataW Unit} (h : laidMet Tryd.prog [a, b, ("internal/strconv.uint64pow10", Rows.laid_internal_strconv_uint64pow10)] W) : Lib.TabIs Tryd.prog W "internal/strconv.uint64pow10" .u64 Lib.pow10Tab := by
  obtain ⟨ps, ⟨_, _, _, _, _, _, _, _, _, _, ⟨_, _, _, _, _, _, _, _, _, _, ⟨g', t', cs, fuel, p, q, hg', ht', hvar, hd, _, _⟩, _⟩, _⟩, _⟩ := h
  obtain rfl := Option.some.inj (powNamed.symm.trans hg')
  obtain rfl := Option.some.inj (powType.symm.trans ht')
  rw [powData] at hd
  unfold Lib.TabIs
  rw [hvar, ← Lib.cells_of_tab Tryd.underlying129 Tryd.underlying104 (by kernel_rfl) (by kernel_rfl) hd]

theorem maxLen_of {W : World} (h : W.ShapedOpen Tryd.prog) : ∃ m : Int, W.cell? ⟨0, 0, none⟩ = some (.int .i64 m) :=
  Go.Proofs.cell_of_shapedOpen_int (zero := #[.int .i64 0]) (t := 3) h (of_decide_eq_true (by kernel_rfl)) (by kernel_rfl) rfl (by kernel_rfl) (by kernel_rfl) Tryd.underlying3

theorem env_of {W : World} {a b : String × DataW Unit} (hS : W.ShapedOpen Tryd.prog) (h : laidMet Tryd.prog [a, b, ("internal/strconv.uint64pow10", Rows.laid_internal_strconv_uint64pow10)] W) : Env W := ⟨maxLen_of hS, size_of_shaped hS, powTab h⟩
end Go.Proofs.YtapdgeajbnbdjaaDoor
