/- ref03.SameSlots. -/
import Derived.Test.YtapdgeajbnbdjaaDoorSame1
namespace Go.Proofs.YtapdgeajbnbdjaaDoor
open Go.RowKit

theorem str_ne2 {a b : ByteArray} (h : a ≠ b) : ¬ a.toList = b.toList := fun h2 => h (ba_ext (by rw [← ba_toList, ← ba_toList]; exact h2))
def SameLR (l l' : List Sl) : Prop := ∀ (v v' : Value) (W : World), Sls.V W l v → Sls.V W l' v' → Calls Tryd.prog 31 #[v, v'] W (Ret W (.bool (eqB l l')))

set_option maxRecDepth 100000 in
set_option maxHeartbeats 8000000 in
theorem sameSlots_any (l l' : List Sl) : SameLR l l' := by
  intro v v' w hv hv'
  obtain ⟨xs, ⟨A, cap, rfl, hc1, hc2, _, hrows⟩, hX⟩ := hv
  obtain ⟨ys, ⟨A', cap', rfl, hc1', hc2', _, hrows'⟩, hY⟩ := hv'
  have hlx := hX.len
  have hly := hY.len
  obtain ⟨N, hN⟩ : ∃ N, N = xs.length := ⟨_, rfl⟩
  obtain ⟨M, hM⟩ : ∃ M, M = ys.length := ⟨_, rfl⟩
  rw [← hN] at hc1 ⊢
  rw [← hM] at hc1' ⊢
  unfold maxLen at hc2 hc2'
  by_cases hNM : N = M
  · subst hNM
    have HX := Lib.hid hX; have HY := Lib.hid hY; have HR := Lib.hid hrows; have HR' := Lib.hid hrows'; have HN := Lib.hid (And.intro hN hlx); have HM := Lib.hid (And.intro hM hly)
    clear hX hY hrows hrows' hN hlx hM hly
    go_enter Tryd.func31, Tryd.ntmps31
    go_wp2_with fail
    go_loopw [4, 5, 13] (fun _ _ i wr => ∃ k : Nat, k ≤ N ∧ i = .int .i64 k ∧ Below w.heap.size w wr ∧ Hid (l.take k = l'.take k)) (fun _ _ i _ => N - (intOf i).toNat)
    case atStart => exact ⟨0, Nat.zero_le _, rfl, Below.refl _ _, by simp [Hid]⟩
    case round =>
      obtain ⟨k, hk, rfl, hbr, Hall⟩ := hrel
      have HBr := Lib.hid hbr; clear hbr
      have hBr := HBr.out.size
      by_cases hlt : k < N
      · obtain ⟨x, hx⟩ : ∃ x, xs[k]? = some x := ⟨xs[k]'(by have := HN.out; omega), List.getElem?_eq_getElem _⟩
        obtain ⟨y, hy⟩ : ∃ y, ys[k]? = some y := ⟨ys[k]'(by have := HM.out; omega), List.getElem?_eq_getElem _⟩
        obtain ⟨e, he, hRe⟩ := HX.out.at_ k x hx
        obtain ⟨e', he', hRe'⟩ := HY.out.at_ k y hy
        obtain ⟨bk, off, c0, c1, rfl, hbk, hxx, hq0, hq1⟩ := (HR.out.below HBr.out (Nat.le_refl _)).at2 hx
        obtain ⟨bk', off', d0, d1, rfl, hbk', hyy, hr0, hr1⟩ := (HR'.out.below HBr.out (Nat.le_refl _)).at2 hy
        have htk : l.take (k + 1) = l.take k ++ [e] := by rw [List.take_add_one, he]; rfl
        have htk' : l'.take (k + 1) = l'.take k ++ [e'] := by rw [List.take_add_one, he']; rfl
        have hbad : e ≠ e' → eqB l l' = false := fun h => eqB_false fun h2 => h (by rw [h2] at he; rw [he] at he'; exact Option.some.inj he')
        obtain ⟨et, en⟩ := e
        obtain ⟨ft, fn⟩ := e'
        obtain ⟨hcs, _, _⟩ := hRe
        obtain ⟨hcs', _, _⟩ := hRe'
        rw [hxx] at hcs
        rw [hyy] at hcs'
        obtain ⟨rfl, rfl⟩ := arr2_inj hcs
        obtain ⟨rfl, rfl⟩ := arr2_inj hcs'
        have x0 := fun q : In wr => q.lt hbk
        have x1 := fun q : In wr => q.cell hq0
        have x2 := fun q : In wr => q.cell hq1
        have y0 := fun q : In wr => q.lt hbk'
        have y1 := fun q : In wr => q.cell hr0
        have y2 := fun q : In wr => q.cell hr1
        have HBAD := Lib.hid hbad; have HTK := Lib.hid (And.intro htk htk')
        clear hbad htk htk' hcs hcs' hxx hyy hx hy he he' hq0 hq1 hr0 hr1
        dsimp only at x1 x2 y1 y2
        by_cases g1 : et = ft
        · subst g1
          by_cases g2 : en = fn
          · subst g2
            go_wp2
            refine wp_region_in (by kernel_rfl) (by kernel_rfl) ?_
            repeat (go_big_quiet_step (fail))
            refine wpQuiet_nil ?_
            intro _ hw'
            obtain ⟨q, hw''⟩ := hw'
            subst hw''
            go_wp2_with fail
            go_roundw
            case rel => exact ⟨k + 1, by omega, by go_num, HBr.out.trans (q.h.mono hBr), by rw [Hid, HTK.out.1, HTK.out.2, Hall.out]⟩
            case measure => simp [intOf]; omega
          · have g9 := str_ne2 g2
            have h2 : (en.toList == fn.toList) = false := by simp [g9]
            have h2' : (en.toList != fn.toList) = true := by simp [g9]
            have G := Lib.hid g2; clear g2
            go_wp2
            refine wp_region_in (by kernel_rfl) (by kernel_rfl) ?_
            repeat (go_big_quiet_step (fail))
            refine wpQuiet_nil ?_
            intro _ hw'
            obtain ⟨q, hw''⟩ := hw'
            subst hw''
            go_wp2_with fail
            go_ret
            exact ⟨ret_bool (HBAD.out (fun h => G.out (by injection h))).symm, HBr.out.trans (q.h.mono hBr)⟩
        · have g9 := str_ne2 g1
          have h1 : (et.toList == ft.toList) = false := by simp [g9]
          have h1' : (et.toList != ft.toList) = true := by simp [g9]
          have G := Lib.hid g1; clear g1
          go_wp2
          refine wp_region_in (by kernel_rfl) (by kernel_rfl) ?_
          repeat (go_big_quiet_step (fail))
          refine wpQuiet_nil ?_
          intro _ hw'
          obtain ⟨q, hw''⟩ := hw'
          subst hw''
          go_wp2_with fail
          go_ret
          exact ⟨ret_bool (HBAD.out (fun h => G.out (by injection h))).symm, HBr.out.trans (q.h.mono hBr)⟩
      · have hall : eqB l l' = true := by
          have h1 := Hall.out
          rw [List.take_of_length_le (by have := HN.out; omega), List.take_of_length_le (by have := HM.out; omega)] at h1
          exact eqB_true h1
        have HAL := Lib.hid hall; clear hall
        go_wp2_with fail
        go_ret
        exact ⟨ret_bool HAL.out.symm, HBr.out⟩
  · have hbad : eqB l l' = false := eqB_false fun h => hNM (by rw [hN, hM, hlx, hly, h])
    have HB := Lib.hid hbad
    clear hbad hX hY hrows hrows' hN hlx hM hly
    go_enter Tryd.func31, Tryd.ntmps31
    go_wp2_with fail
    go_ret
    exact ⟨ret_bool HB.out.symm, Below.refl _ _⟩
end Go.Proofs.YtapdgeajbnbdjaaDoor
