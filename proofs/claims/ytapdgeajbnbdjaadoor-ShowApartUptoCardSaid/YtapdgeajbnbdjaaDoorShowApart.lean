/-
  PROVED: for every two program trees, their texts by show.Text, where both are given (errno OK), are equal exactly where the trees are the same by the reference: mordantlaw03.ShowApart returns true, and both arguments read afterwards as they did before.
  CONDITIONS: the second form (UptoCardSaid): what the call reads holds at most 1048576 values and letters, each counted each time it is reached; the tables math/bits.deBruijn32tab, deBruijn64tab and internal/strconv.uint64pow10 hold what the program's text lays (the card ties them).
-/
import Derived.Test.YtapdgeajbnbdjaaDoorLaw3
import Derived.Test.YtapdgeajbnbdjaaDoorSame4
import Derived.Test.YtapdgeajbnbdjaaDoorApart6
namespace Go.Proofs.YtapdgeajbnbdjaaDoor
open Go.RowKit

theorem prN_zero {p : Pr} (h : prN p = 0) : prOK p = true ∧ prS p = ⟨(programT p).toArray⟩ := by
  unfold prN at h
  unfold prS
  by_cases hk : prOK p = true
  · rw [if_pos hk] at h ⊢
    unfold doneN at h
    unfold doneS
    by_cases hl : (programT p).length > 8192
    · rw [if_pos hl] at h; cases h
    · rw [if_neg hl]; exact ⟨hk, rfl⟩
  · rw [if_neg hk] at h; cases h
theorem texts_apart {p q : Pr} (hp : prN p = 0) (hq : prN q = 0) (h : p ≠ q) : prS p ≠ prS q := by
  obtain ⟨h1, h2⟩ := prN_zero hp
  obtain ⟨h3, h4⟩ := prN_zero hq
  rw [h2, h4]
  intro he
  refine h (read_program h1 h3 ?_)
  have := congrArg (fun x : ByteArray => x.data.toList) he
  simpa using this

set_option maxRecDepth 100000 in
set_option maxHeartbeats 4000000 in
theorem lawShowApart (p q : Pr) (c d : Array Value) (w : World) (hE : Env w) (hR : Pr.R w p c) (hR' : Pr.R w q d) (hbulk : p.bulk ≤ 2000000) (hbulk' : q.bulk ≤ 2000000) :
    Calls Tryd.prog 5 #[.agg c, .agg d] w (Ret w (.bool true)) := by
  have hT := fun (W : World) (hb : Below w.heap.size w W) => showText_any p c W (hE.below hb (Nat.le_refl _)) (hR.below hb (Nat.le_refl _)) hbulk
  have hT' := fun (W : World) (hb : Below w.heap.size w W) => showText_any q d W (hE.below hb (Nat.le_refl _)) (hR'.below hb (Nat.le_refl _)) hbulk'
  have hS := fun (W : World) (hb : Below w.heap.size w W) => same_any p q c d W (hR.below hb (Nat.le_refl _)) (hR'.below hb (Nat.le_refl _))
  have hap := fun (hp : prN p = 0) (hq : prN q = 0) (h : p ≠ q) => texts_apart hp hq h
  obtain ⟨cv, mv, rfl, ⟨xs, ⟨A, cap, rfl, _⟩, _⟩, ys, ⟨Am, capm, rfl, _⟩, _⟩ := hR
  obtain ⟨cv', mv', rfl, ⟨xs', ⟨A', cap', rfl, _⟩, _⟩, ys', ⟨Am', capm', rfl, _⟩, _⟩ := hR'
  have HE := Lib.hid hE
  clear hE hbulk hbulk'
  have hA : Below w.heap.size w ((w.alloc (.cells #[.slice A xs.length cap, .slice Am ys.length capm] 33)).alloc (.cells #[.slice A' xs'.length cap', .slice Am' ys'.length capm'] 33)) := ((Below.refl _ w).alloc (Nat.le_refl _) _).alloc (by simp) _
  have HA := Lib.hid hA; clear hA
  obtain ⟨S, hSv⟩ : ∃ S, S = prS p := ⟨_, rfl⟩
  obtain ⟨n, hn⟩ : ∃ n, n = prN p := ⟨_, rfl⟩
  obtain ⟨S', hSv'⟩ : ∃ S, S = prS q := ⟨_, rfl⟩
  obtain ⟨m, hm⟩ : ∃ n, n = prN q := ⟨_, rfl⟩
  obtain ⟨B, hB⟩ : ∃ B, B = eqB p q := ⟨_, rfl⟩
  have hgood : n = 0 → m = 0 → (S.toList == S'.toList) = B := fun h1 h2 => by
    rw [hSv, hSv', hB]
    by_cases h : p = q
    · subst h; rw [eqB_true rfl]; simp
    · rw [eqB_false h]
      have := hap (hn ▸ h1) (hm ▸ h2) h
      simp only [beq_eq_false_iff_ne, ne_eq]
      intro h9
      exact this (ba_ext (by rw [← ba_toList, ← ba_toList]; exact h9))
  rw [← hSv, ← hn] at hT
  rw [← hSv', ← hm] at hT'
  rw [← hB] at hS
  clear hSv hSv' hn hm hB hap
  have HT := Lib.hid hT; have HT' := Lib.hid hT'; have HS := Lib.hid hS; have HG := Lib.hid hgood
  clear hT hT' hS hgood
  go_enter Tryd.func5, Tryd.ntmps5
  go_wp2_with fail
  refine Calls.mono (lawMain_any _ (HE.out.below HA.out (Nat.le_refl _))) ?_; rintro x w1 ⟨rfl, hb⟩
  obtain ⟨hq, hf⟩ := bcell hb
  have hb1 := hb
  have hz1 : w.heap.size + 1 < w1.heap.size := by have := hb.size; simp at this; omega
  have HB1 := Lib.hid (HA.out.trans (hb.mono HA.out.size)); clear hb
  go_wp2_with fail
  refine (HT.out _ HB1.out).mono ?_; rintro x w2 ⟨rfl, hb⟩
  obtain ⟨hq2, hf2⟩ := bcell hb
  have hb2 := hb
  have hz2 : w.heap.size + 1 < w2.heap.size := by have := hb.size; omega
  have HB2 := Lib.hid (HB1.out.trans (hb.mono HB1.out.size)); clear hb
  go_wp2_with fail
  refine (HT'.out _ HB2.out).mono ?_; rintro x w3 ⟨rfl, hb⟩
  obtain ⟨hq3, hf3⟩ := bcell hb
  have hb3 := hb
  have hz3 : w.heap.size + 1 < w3.heap.size := by have := hb.size; omega
  have HB3 := Lib.hid (HB2.out.trans (hb.mono HB2.out.size)); clear hb
  by_cases h1 : n = 0
  case neg =>
    have h9 : (n != 0) = true := by simp [h1]
    clear h1
    go_wp2_with fail
    go_ret
    exact ⟨rfl, HB3.out⟩
  subst h1
  by_cases h2 : m = 0
  case neg =>
    have h9 : (m != 0) = true := by simp [h2]
    clear h2
    go_wp2_with fail
    go_ret
    exact ⟨rfl, HB3.out⟩
  subst h2
  have hg := HG.out rfl rfl
  clear HG
  have e0 : ((w.alloc (.cells #[.slice A xs.length cap, .slice Am ys.length capm] 33)).alloc (.cells #[.slice A' xs'.length cap', .slice Am' ys'.length capm'] 33)).heap[w.heap.size]? = some (.cells #[.slice A xs.length cap, .slice Am ys.length capm] 33 (0, 0)) := old_at (new_at w _) _
  have e1 : ((w.alloc (.cells #[.slice A xs.length cap, .slice Am ys.length capm] 33)).alloc (.cells #[.slice A' xs'.length cap', .slice Am' ys'.length capm'] 33)).heap[w.heap.size + 1]? = some (.cells #[.slice A' xs'.length cap', .slice Am' ys'.length capm'] 33 (0, 0)) := by
    have := new_at (w.alloc (.cells #[.slice A xs.length cap, .slice Am ys.length capm] 33)) (.cells #[.slice A' xs'.length cap', .slice Am' ys'.length capm'] 33)
    simpa using this
  have f0 := below_heap hb3 (below_heap hb2 (below_heap hb1 e0))
  have f1 := below_heap hb3 (below_heap hb2 (below_heap hb1 e1))
  have k00 : w3.cell? ⟨w.heap.size, 0, none⟩ = some (.slice A xs.length cap) := by rw [Lib.cell_of_heap f0]; rfl
  have k01 : w3.cell? ⟨w.heap.size, 1, none⟩ = some (.slice Am ys.length capm) := by rw [Lib.cell_of_heap f0]; rfl
  have k10 : w3.cell? ⟨w.heap.size + 1, 0, none⟩ = some (.slice A' xs'.length cap') := by rw [Lib.cell_of_heap f1]; rfl
  have k11 : w3.cell? ⟨w.heap.size + 1, 1, none⟩ = some (.slice Am' ys'.length capm') := by rw [Lib.cell_of_heap f1]; rfl
  clear hq hf hq2 hf2 hq3 hf3 e0 e1 f0 f1 hb1 hb2 hb3 HT HT'
  go_wp2_with (first
    | (go_at_call 13; refine Calls.mono (HS.out _ HB3.out) ?_; rintro e w4 ⟨rfl, hb4⟩))
  go_ret
  exact ⟨rfl, HB3.out.trans (hb4.mono HB3.out.size)⟩
end Go.Proofs.YtapdgeajbnbdjaaDoor
namespace Go.Proofs.YtapdgeajbnbdjaaDoor.showApart
open Go.ChangeShapes Go.WideShapes Go.ChangeAt Go.RowKit

theorem own : ownKnob Tryd.prog.godebug = none := by kernel_rfl

set_option maxRecDepth 100000 in
theorem contract (H : Type) (enc : TypeId × Value → H) (W : World) (base : Nat) (args : Array Value) (ds gs : List (DataW H)) (before : List MemPlace)
    (hval : ∀ (j : Nat) t v, Tryd.f5.params[j]? = some t → args[j]? = some v → Value.okWide Tryd.prog W .any base t v)
    (hW : DataW.Whole enc Tryd.prog Tryd.f5.params.toList Rows.showApartSpec.vars false W args.toList ds gs before) (hk : Rows.uptoSmall H (ds ++ gs) = true) (hL : laidMetH Tryd.prog Rows.showApartRow.laid W) (hS : W.ShapedOpen Tryd.prog) :
    Calls Tryd.prog 5 args W fun e W' => ∃ v, e = .returned v ∧ Rows.showApartSpec.post enc Tryd.prog Tryd.f5 false true false false W args v W' := by
  have hW' := hW
  obtain ⟨p, q, hA0, hV, rfl, hfz, hnd⟩ := hW
  have hA : DataW.TrodAll enc Tryd.prog W 0 (fun _ => true) true Tryd.f5.params.toList args.toList ds p := hA0
  rw [Tryd.params5] at hA hval
  have hA1 := hA
  obtain ⟨v0, vs0, d0, ds0, p0, q0, hargs, rfl, rfl, h0, r0⟩ := trodAll_cons hA
  obtain ⟨v1, vs1, d1, ds1, p1, q1, hargs1, rfl, rfl, h1, r1⟩ := trodAll_cons r0
  obtain ⟨rfl, rfl, rfl⟩ := trodAll_nil r1
  obtain rfl : args = #[v0, v1] := by cases args; simp_all
  obtain ⟨rfl, rfl⟩ := trodVars_none hV
  obtain ⟨cs, rfl, _⟩ := okWide_struct Tryd.underlying33 (hval 0 33 v0 rfl rfl)
  obtain ⟨cs', rfl, _⟩ := okWide_struct Tryd.underlying33 (hval 1 33 v1 rfl rfl)
  obtain ⟨fuel, hf⟩ := h0
  obtain ⟨fuel', hf'⟩ := h1
  obtain ⟨e, hR, hb⟩ := open_pr fuel _ _ hf
  obtain ⟨e', hR', hb'⟩ := open_pr fuel' _ _ hf'
  have hb : e.bulk ≤ Rows.uptoBulk d0 := hb
  have hb' : e'.bulk ≤ Rows.uptoBulk d1 := hb'
  have hbulk : Rows.uptoBulkAll ([d0, d1] ++ ([] : List (DataW H))) ≤ 1048576 := of_decide_eq_true hk
  have hc : e.bulk ≤ 2000000 := by simp only [List.append_nil, Rows.uptoBulkAll] at hbulk; omega
  have hc' : e'.bulk ≤ 2000000 := by simp only [List.append_nil, Rows.uptoBulkAll] at hbulk; omega
  simp only [List.append_nil] at hW'
  refine (lawShowApart e e' cs cs' W (env_of hS hL) hR hR' hc hc').mono fun x W' ⟨hx, hB⟩ => ?_
  subst hx
  exact ⟨_, rfl, law_post hW' rfl (by kernel_rfl) rfl (by rw [Tryd.params5]; decide) hB⟩

/-- a world for the witness: the tables hold what their initialisers lay -/
def datCells : DataW Unit → Array Value
  | .agg l => (l.map fun d => match d with | .lit (.int k n) => Value.int k n | _ => undef).toArray
  | _ => #[]
def laying (d : DataW Unit) : Obj → Obj
  | .cells _ t frozen => .cells (datCells d) t frozen
  | o => o
noncomputable def laidWorld (os : Os) : World :=
  { World.holding Tryd.prog os ⟨#[], #[], []⟩ with heap := (((World.holding Tryd.prog os ⟨#[], #[], []⟩).heap.modify 2 (laying Rows.laid_math_bits_deBruijn32tab)).modify 3 (laying Rows.laid_math_bits_deBruijn64tab)).modify 1 (laying Rows.laid_internal_strconv_uint64pow10) }
def arg : Value := .agg #[.slice none 0 0, .slice none 0 0]
def dat {H : Type} : DataW H := .agg [.nil, .nil]
theorem laid_met (os : Os) : laidMet Tryd.prog Rows.showApartRow.laid ((laidWorld os).forCall (fun _ _ => 0) ⟨#[], #[arg, arg], []⟩).memory :=
  laidMet_of_run' 8 (by kernel_rfl) (by kernel_rfl)
theorem reads (os : Os) {H : Type} (enc : TypeId × Value → H) : ∃ places, DataW.whole enc Tryd.prog ((laidWorld os).forCall (fun _ _ => 0) ⟨#[], #[arg, arg], []⟩).memory Tryd.f5.params.toList Rows.showApartSpec.vars false #[arg, arg].toList 8 = some ([dat, dat], [], places) :=
  ⟨[], by kernel_rfl⟩

set_option maxRecDepth 100000 in
theorem lifted (os : Os) (started : os.Started) (H : Type) (enc : TypeId × Value → H) (F : Stop.Interp) :
    ReturnsInHanded {} Tryd.checked os 5 .any ((Rows.OpenSpec.upto Rows.showApartSpec).preRow enc Tryd.prog Tryd.f5 Rows.showApartUptoRow.domain false Rows.showApartUptoRow.laid) (((Rows.OpenSpec.upto Rows.showApartSpec).at F).post enc Tryd.prog Tryd.f5 false true false false) := by
  obtain ⟨places, hx⟩ := reads os enc
  refine returnsInHanded_of_row (C := Tryd.checked) (s := Rows.OpenSpec.upto Rows.showApartSpec) own started (by kernel_rfl) Tryd.func5
    (witness_row_at (enc := enc) (C := Tryd.checked) false (laidWorld os) #[arg, arg] rfl (by kernel_rfl) (by kernel_rfl) (by kernel_rfl)
      (OpenSpec.preRow_of_cond 8 hx (by kernel_rfl) (fun k hk => by cases hk; kernel_rfl) (by kernel_rfl) (laid_met os))) ?_
  intro W base args ds gs before hval hW _ hcond _ hL hS _
  exact contract H enc W base args ds gs before hval hW (hcond _ rfl) hL hS

theorem said : Rows.ShowApartUptoSaid :=
  OpenClaim.holds_of_cond 5 Tryd.f5 rfl rfl rfl rfl rfl rfl rfl ⟨rfl, rfl, rfl, rfl, rfl⟩ rfl rfl rfl rfl rfl (by kernel_rfl) Tryd.func5 (by kernel_rfl)
    (of_decide_eq_true (by kernel_rfl)) (by unfold Func.isWrapper; first | (rw [if_pos (by decide +kernel)]; kernel_rfl) | (rw [if_neg (by decide +kernel)]; exact ⟨rfl, rfl⟩))
    (fun os started H enc _ F => by rw [OpenClaim.pre_eq_preRow]; exact lifted os started H enc F)

theorem plain (f : FuncId) (fn : Func) (hf : Tryd.pinned.checked.prog.funcNamed "mordant/mordantlaw03.ShowApart" = some f) (hfn : Tryd.pinned.checked.prog.funcs[f]? = some fn) :
    false = Tryd.pinned.checked.prog.looks [] ∧ ∀ (j : Nat) t, fn.params[j]? = some t → Tryd.pinned.checked.prog.wantsStandIn t = false := by
  obtain rfl : f = 5 := Option.some.inj ((show Tryd.prog.funcNamed "mordant/mordantlaw03.ShowApart" = some 5 by kernel_rfl).symm.trans hf) |>.symm
  obtain rfl : fn = Tryd.f5 := (Option.some.inj (Tryd.func5.symm.trans hfn)).symm
  refine ⟨by kernel_rfl, fun j t ht => ?_⟩
  rw [Tryd.params5] at ht
  obtain rfl : t = 33 := by simpa using Array.mem_of_getElem? ht
  exact (show Tryd.prog.wantsStandIn 33 = false by kernel_rfl)

theorem card : Rows.ShowApartUptoCardSaid :=
  Claim7.holds_tied_plain_at .later [] _ _ _ _ said (fun _ h => by cases h) (by kernel_rfl) (fun _ h => by cases h) showApartUpto_row_tie rfl ⟨rfl, rfl⟩ (by kernel_rfl) rfl plain (by kernel_rfl)
end Go.Proofs.YtapdgeajbnbdjaaDoor.showApart
