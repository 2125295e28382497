/- mordantlaw03.main; ShowTexts. -/
import Derived.Test.YtapdgeajbnbdjaaDoorRef12
import Derived.Test.YtapdgeajbnbdjaaDoorLaw1
import Derived.Test.YtapdgeajbnbdjaaDoorEnv
import Derived.Test.YtapdgeajbnbdjaaDoorOpen2
import Derived.Test.YtapdgeajbnbdjaaDoorCards
import Derived.Test.YtapdgeajbnbdjaaDoorTie
import Derived.ProofKit
import Derived.Deep.DeepHandedRow
namespace Go.Proofs.YtapdgeajbnbdjaaDoor
open Go.RowKit

def prNone : Pr := ⟨[], []⟩
theorem none_R (w : World) : Pr.R w prNone #[.slice none 0 0, .slice none 0 0] := ⟨_, _, rfl, ⟨[], SlV.nil w 4, rfl⟩, [], SlV.nil w 7, by show Sts.R w [] []; simp only [Sts.R]⟩
theorem none_ok : prOK prNone = true := by decide +kernel
theorem none_text : programT prNone = [109, 97, 105, 110, 32, 123, 10, 125, 10] := by decide +kernel
theorem none_S : prS prNone = ⟨#[109, 97, 105, 110, 32, 123, 10, 125, 10]⟩ := by unfold prS; rw [none_ok, none_text]; rfl
theorem none_N : prN prNone = 0 := by unfold prN; rw [none_ok, none_text]; rfl

set_option maxRecDepth 100000 in
theorem lawMain_any (w : World) (hE : Env w) : Calls Tryd.prog 12 #[] w (Ret w (.bool true)) := by
  have HT := Lib.hid (fun (W : World) (hW : Env W) => showText_any prNone _ W hW (none_R W) (by decide))
  have HE := Lib.hid hE; have HS := Lib.hid none_S; have HN := Lib.hid none_N
  clear hE
  go_enter Tryd.func12, Tryd.ntmps12
  go_wp2_with fail
  refine (HT.out _ HE.out).mono ?_; rw [HS.out, HN.out]; rintro x w1 ⟨rfl, hb⟩
  go_wp2_with fail
  go_ret
  exact ⟨rfl, hb⟩

set_option maxRecDepth 100000 in
theorem lawShowTexts (p : Pr) (c : Array Value) (w : World) (hE : Env w) (hR : Pr.R w p c) (hbulk : p.bulk ≤ 2000000) :
    Calls Tryd.prog 4 #[.agg c] w (Ret w (.bool true)) := by
  have hT := fun (W : World) (hb : Below w.heap.size w W) => showText_any p c W (hE.below hb (Nat.le_refl _)) (hR.below hb (Nat.le_refl _)) hbulk
  have hU := fun (W : World) (hb : Below w.heap.size w W) => refText_any' p c W (hR.below hb (Nat.le_refl _)) hbulk
  obtain ⟨cv, mv, rfl, ⟨xs, ⟨A, cap, rfl, _⟩, _⟩, ys, ⟨Am, capm, rfl, _⟩, _⟩ := hR
  have HT := Lib.hid hT; have HU := Lib.hid hU; have HE := Lib.hid hE
  clear hT hU hE hbulk
  have hA := Below.alloc (Below.refl w.heap.size w) (Nat.le_refl _)
  obtain ⟨S, hS⟩ : ∃ S, S = prS p := ⟨_, rfl⟩
  obtain ⟨n, hn⟩ : ∃ n, n = prN p := ⟨_, rfl⟩
  rw [← hS, ← hn] at HT HU
  clear hS hn
  go_enter Tryd.func4, Tryd.ntmps4
  go_wp2_with fail
  refine (HT.out _ (hA _)).mono ?_; rintro x w1 ⟨rfl, hb⟩
  obtain ⟨hq, hf⟩ := bcell hb
  have hz1 : w.heap.size < w1.heap.size := by have := hb.size; simp at this; omega
  have HB1 := Lib.hid ((hA _).trans (hb.mono (by simp))); clear hb
  go_wp2_with fail
  refine (HU.out _ HB1.out).mono ?_; rintro x w2 ⟨rfl, hb⟩
  have HB2 := Lib.hid (HB1.out.trans (hb.mono HB1.out.size)); clear hb
  go_wp2_with fail
  refine Calls.mono (lawMain_any _ (HE.out.below HB2.out (Nat.le_refl _))) ?_; rintro x w3 ⟨rfl, hb⟩
  have HB3 := Lib.hid (HB2.out.trans (hb.mono HB2.out.size)); clear hb
  go_wp2_with fail
  go_ret
  exact ⟨rfl, HB3.out⟩
end Go.Proofs.YtapdgeajbnbdjaaDoor
