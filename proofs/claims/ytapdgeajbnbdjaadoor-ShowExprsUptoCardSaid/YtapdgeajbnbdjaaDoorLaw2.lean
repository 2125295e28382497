/- ShowExprs. -/
import Derived.Test.YtapdgeajbnbdjaaDoorLaw1
import Derived.Test.YtapdgeajbnbdjaaDoorEnv
import Derived.Test.YtapdgeajbnbdjaaDoorOpen
import Derived.Test.YtapdgeajbnbdjaaDoorCards
import Derived.Test.YtapdgeajbnbdjaaDoorTie
import Derived.ProofKit
import Derived.Deep.DeepHandedRow
namespace Go.Proofs.YtapdgeajbnbdjaaDoor
open Go.RowKit

theorem showExpr_any' (e : Ex) (c : Array Value) (w : World) (hE : Env w) (hR : Ex.R w e c) (hbulk : e.bulk ≤ 1048576) :
    Calls Tryd.prog 7 #[.agg c] w fun x w' => x = .returned (.tuple #[.string (exprS e), .int .i64 (exprN e)]) ∧ Below w.heap.size w w' := showExpr_any e c w hE hR hbulk

set_option maxRecDepth 100000 in
theorem lawShowExprs (e : Ex) (c : Array Value) (w : World) (hE : Env w) (hR : Ex.R w e c) (hbulk : e.bulk ≤ 1048576) :
    Calls Tryd.prog 3 #[.agg c] w (Ret w (.bool true)) := by
  obtain ⟨A, n, cap, rfl⟩ := hR.cells
  have HR := Lib.hid hR; have HE := Lib.hid hE; have HB := Lib.hid hbulk
  clear hR hE hbulk
  have hA := Below.alloc (Below.refl w.heap.size w) (Nat.le_refl _)
  go_enter Tryd.func3, Tryd.ntmps3
  go_wp2_with fail
  refine (showExpr_any' e _ _ (HE.out.below (hA _) (Nat.le_refl _)) (Ex.R.below (hA _) (Nat.le_refl _) e _ HR.out) HB.out).mono ?_; rintro x w1 ⟨rfl, hb⟩
  obtain ⟨hq, hf⟩ := bcell hb
  have hz1 : w.heap.size < w1.heap.size := by have := hb.size; simp at this; omega
  have HB1 := Lib.hid ((hA _).trans (hb.mono (by simp))); clear hb
  go_wp2_with fail
  refine (refExpr_any e _ _ (Ex.R.below HB1.out (Nat.le_refl _) e _ HR.out) HB.out).mono ?_; rintro x w2 ⟨rfl, hb⟩
  have HB2 := Lib.hid (HB1.out.trans (hb.mono HB1.out.size)); clear hb
  go_wp2_with fail
  refine Calls.mono (live_any _ (HE.out.below HB2.out (Nat.le_refl _))) ?_; rintro x w3 ⟨rfl, hb⟩
  have HB3 := Lib.hid (HB2.out.trans (hb.mono HB2.out.size)); clear hb
  go_wp2_with fail
  go_ret
  exact ⟨rfl, HB3.out⟩
end Go.Proofs.YtapdgeajbnbdjaaDoor
