/- ref03.Same. -/
import Derived.Test.YtapdgeajbnbdjaaDoorSame2
import Derived.Test.YtapdgeajbnbdjaaDoorSame3
namespace Go.Proofs.YtapdgeajbnbdjaaDoor
open Go.RowKit

theorem eqB_list {α : Type} {l l' : List α} {k : Nat} {e e' : α} (he : l[k]? = some e) (he' : l'[k]? = some e') (h : e ≠ e') : l ≠ l' := fun h2 => h (by rw [h2] at he; rw [he] at he'; exact Option.some.inj he')

set_option maxRecDepth 100000 in
set_option maxHeartbeats 16000000 in
theorem same_any (p q : Pr) (c c' : Array Value) (w : World) (hR : Pr.R w p c) (hR' : Pr.R w q c') :
    Calls Tryd.prog 13 #[.agg c, .agg c'] w (Ret w (.bool (eqB p q))) := by
  obtain ⟨cv, mv, rfl, hC, hM⟩ := hR
  obtain ⟨cv', mv', rfl, hC', hM'⟩ := hR'
  obtain ⟨xs, ⟨A, cap, rfl, hc1, hc2, _, hrows⟩, hX⟩ := hC
  obtain ⟨ys, ⟨A', cap', rfl, hc1', hc2', _, hrows'⟩, hY⟩ := hC'
  obtain ⟨zs, ⟨Am, capm, rfl, _⟩, _⟩ := id hM
  obtain ⟨zs', ⟨Am', capm', rfl, _⟩, _⟩ := id hM'
  have hlx := hX.len
  have hly := hY.len
  obtain ⟨N, hN⟩ : ∃ N, N = xs.length := ⟨_, rfl⟩
  obtain ⟨M, hM1⟩ : ∃ M, M = ys.length := ⟨_, rfl⟩
  rw [← hN] at hc1 ⊢
  rw [← hM1] at hc1' ⊢
  unfold maxLen at hc2 hc2'
  have hbad1 : p.classes ≠ q.classes → eqB p q = false := fun h => eqB_false fun h2 => h (by rw [h2])
  have hbad2 : p.main ≠ q.main → eqB p q = false := fun h => eqB_false fun h2 => h (by rw [h2])
  have hgood : p.classes = q.classes → p.main = q.main → eqB p q = true := fun h1 h2 => eqB_true (by cases p; cases q; simp only at h1 h2; rw [h1, h2])
  have HBAD1 := Lib.hid hbad1; have HBAD2 := Lib.hid hbad2; have HGOOD := Lib.hid hgood
  clear hbad1 hbad2 hgood
  have HX := Lib.hid hX; have HY := Lib.hid hY; have HR := Lib.hid hrows; have HR' := Lib.hid hrows'; have HN := Lib.hid (And.intro hN hlx); have HM := Lib.hid (And.intro hM1 hly)
  clear hX hY hrows hrows' hN hlx hM1 hly
  have hB0 : Below w.heap.size w ((w.alloc (.cells #[.slice A N cap, .slice Am zs.length capm] 33)).alloc (.cells #[.slice A' M cap', .slice Am' zs'.length capm'] 33)) := ((Below.refl _ w).alloc (Nat.le_refl _) _).alloc (by simp) _
  have HB0 := Lib.hid hB0; clear hB0
  by_cases hNM : N = M
  case neg =>
    have hne : ((N : Int) != (M : Int)) = true := by simp; omega
    have hb : eqB p q = false := HBAD1.out fun h => hNM (by rw [HN.out.1, HM.out.1, HN.out.2, HM.out.2, h])
    have HBB := Lib.hid hb; clear hb hNM
    go_enter Tryd.func13, Tryd.ntmps13
    go_wp2_with fail
    go_ret
    exact ⟨ret_bool HBB.out.symm, HB0.out⟩
  subst hNM
  have hst := sameStmts_any _ p.main (Nat.le_refl _) q.main _ _ _ (hM.below HB0.out (Nat.le_refl _)) (hM'.below HB0.out (Nat.le_refl _))
  clear hM hM'
  by_cases hmm : p.main = q.main
  case neg =>
    rw [eqB_false hmm] at hst
    have HST := Lib.hid hst
    have HBB := Lib.hid (HBAD2.out hmm)
    clear hst hmm
    go_enter Tryd.func13, Tryd.ntmps13
    go_wp2_with (first
      | (go_at_call 30; refine Calls.mono HST.out ?_; rintro e w1 ⟨rfl, hb1⟩))
    go_ret
    exact ⟨ret_bool HBB.out.symm, HB0.out.trans (hb1.mono HB0.out.size)⟩
  rw [eqB_true hmm] at hst
  have HST := Lib.hid hst; have HMM := Lib.hid hmm
  clear hst hmm
  go_enter Tryd.func13, Tryd.ntmps13
  go_wp2_with (first
    | (go_at_call 30; refine Calls.mono HST.out ?_; rintro e w1 ⟨rfl, hb1⟩; obtain ⟨hq1, hf1⟩ := bcell hb1; have hz1 : w.heap.size + 1 < w1.heap.size := (by have := hb1.size; simp at this; omega); have HB1 := Lib.hid (HB0.out.trans (hb1.mono HB0.out.size)); have HBX := Lib.hid hb1))
  go_loopw [4, 5, 6, 7, 8, 9, 10, 29] (fun _ _ _ _ _ _ _ i wr => ∃ k : Nat, k ≤ N ∧ i = .int .i64 k ∧ Below w1.heap.size w1 wr ∧ Hid (p.classes.take k = q.classes.take k)) (fun _ _ _ _ _ _ _ i _ => N - (intOf i).toNat)
  case atStart => exact ⟨0, Nat.zero_le _, rfl, Below.refl _ _, by simp [Hid]⟩
  case round =>
    obtain ⟨k, hk, rfl, hbr, Hall⟩ := hrel
    rename World => wo
    have HBr := Lib.hid hbr; clear hbr
    have HBW := Lib.hid (HB1.out.trans (HBr.out.mono HB1.out.size))
    have hBr := HBr.out.size
    have hzr : w.heap.size + 1 < wo.heap.size := by omega
    have qd : wo.cell? ⟨w.heap.size + 1, 0, none⟩ = some (.slice A' N cap') := by
      have e0 : ((w.alloc (.cells #[.slice A N cap, .slice Am zs.length capm] 33)).alloc (.cells #[.slice A' N cap', .slice Am' zs'.length capm'] 33)).heap[w.heap.size + 1]? = some (.cells #[.slice A' N cap', .slice Am' zs'.length capm'] 33 (0, 0)) := by
        have := new_at (w.alloc (.cells #[.slice A N cap, .slice Am zs.length capm] 33)) (.cells #[.slice A' N cap', .slice Am' zs'.length capm'] 33)
        simpa using this
      rw [Lib.cell_of_heap (below_heap HBr.out (below_heap HBX.out e0))]; rfl
    by_cases hlt : k < N
    · obtain ⟨x, hx⟩ : ∃ x, xs[k]? = some x := ⟨xs[k]'(by have := HN.out; omega), List.getElem?_eq_getElem _⟩
      obtain ⟨y, hy⟩ : ∃ y, ys[k]? = some y := ⟨ys[k]'(by have := HM.out; omega), List.getElem?_eq_getElem _⟩
      obtain ⟨e, he, hRe⟩ := HX.out.at_ k x hx
      obtain ⟨e', he', hRe'⟩ := HY.out.at_ k y hy
      have hRe := Cl.R.below HBW.out (Nat.le_refl _) _ _ hRe
      have hRe' := Cl.R.below HBW.out (Nat.le_refl _) _ _ hRe'
      obtain ⟨bk, off, c0, c1, c2, c3, rfl, hbk, hxx, hq0, hq1', hq2, hq3⟩ := (HR.out.below HBW.out (Nat.le_refl _)).at4 hx
      obtain ⟨bk', off', d0, d1, d2, d3, rfl, hbk', hyy, hr0, hr1, hr2, hr3⟩ := (HR'.out.below HBW.out (Nat.le_refl _)).at4 hy
      have htk : p.classes.take (k + 1) = p.classes.take k ++ [e] := by rw [List.take_add_one, he]; rfl
      have htk' : q.classes.take (k + 1) = q.classes.take k ++ [e'] := by rw [List.take_add_one, he']; rfl
      have hbad : e ≠ e' → eqB p q = false := fun h => HBAD1.out (eqB_list he he' h)
      obtain ⟨cn, cs, cf, cm⟩ := e
      obtain ⟨dn, ds, df, dm⟩ := e'
      obtain ⟨fv, uv, hcs, _, _, hF, hU⟩ := hRe
      obtain ⟨fv', uv', hcs', _, _, hF', hU'⟩ := hRe'
      dsimp only at hcs hcs' hF hF' hU hU'
      rw [hxx] at hcs
      rw [hyy] at hcs'
      obtain ⟨rfl, rfl, rfl, rfl⟩ := arr4_inj hcs
      obtain ⟨rfl, rfl, rfl, rfl⟩ := arr4_inj hcs'
      obtain ⟨fs, ⟨Af, capf, rfl, _⟩, _⟩ := id hF
      obtain ⟨fs', ⟨Af', capf', rfl, _⟩, _⟩ := id hF'
      obtain ⟨us, ⟨Au, capu, rfl, hu1, hu2, _, hurows⟩, hUs⟩ := id hU
      obtain ⟨us', ⟨Au', capu', rfl, hu1', hu2', _, hurows'⟩, hUs'⟩ := id hU'
      have hlu := hUs.len
      have hlu' := hUs'.len
      obtain ⟨NU, hNU⟩ : ∃ NU, NU = us.length := ⟨_, rfl⟩
      obtain ⟨MU, hMU⟩ : ∃ MU, MU = us'.length := ⟨_, rfl⟩
      rw [← hNU] at hu1 hq3
      rw [← hMU] at hu1' hr3
      unfold maxLen at hu2 hu2'
      have HUs := Lib.hid hUs; have HUs' := Lib.hid hUs'; have HUR := Lib.hid hurows; have HUR' := Lib.hid hurows'; have HNU := Lib.hid (And.intro hNU hlu); have HMU := Lib.hid (And.intro hMU hlu')
      have HBAD := Lib.hid hbad; have HTK := Lib.hid (And.intro htk htk'); have HF := Lib.hid hF; have HF' := Lib.hid hF'
      clear hbad htk htk' hcs hcs' hxx hyy hx hy he he' hF hF' hU hU' hUs hUs' hurows hurows' hNU hMU hlu hlu'
      obtain ⟨V, hV⟩ : ∃ V, V = (wo.alloc (.cells #[.string cn, .string cs, .slice Af fs.length capf, .slice Au NU capu] 57)).alloc (.cells #[.string dn, .string ds, .slice Af' fs'.length capf', .slice Au' MU capu'] 57) := ⟨_, rfl⟩
      have hBV : Below wo.heap.size wo V := by rw [hV]; exact ((Below.refl _ wo).alloc (Nat.le_refl _) _).alloc (by simp) _
      have hVs : V.heap.size = wo.heap.size + 1 + 1 := by rw [hV]; simp
      have hsl := sameSlots_any cf df _ _ V (HF.out.below hBV (Nat.le_refl _)) (HF'.out.below hBV (Nat.le_refl _))
      have hV0 : V.heap[wo.heap.size]? = some (.cells #[.string cn, .string cs, .slice Af fs.length capf, .slice Au NU capu] 57 (0, 0)) := by rw [hV]; exact old_at (new_at wo _) _
      have hV1 : V.heap[wo.heap.size + 1]? = some (.cells #[.string dn, .string ds, .slice Af' fs'.length capf', .slice Au' MU capu'] 57 (0, 0)) := by
        rw [hV]
        have := new_at (wo.alloc (.cells #[.string cn, .string cs, .slice Af fs.length capf, .slice Au NU capu] 57)) (.cells #[.string dn, .string ds, .slice Af' fs'.length capf', .slice Au' MU capu'] 57)
        simpa using this
      have HV0 := Lib.hid hV0; have HV1 := Lib.hid hV1; have HVB := Lib.hid hBV; have HVS := Lib.hid hVs
      clear hV0 hV1 hBV hVs
      by_cases g1 : cn = dn
      case neg =>
        have g9 := str_ne2 g1
        have h1 : (cn.toList == dn.toList) = false := by simp [g9]
        have h1' : (cn.toList != dn.toList) = true := by simp [g9]
        have G := Lib.hid g1; clear g1 hsl
        have HVV := Lib.hid hV; clear hV
        go_wp2_with fail
        go_ret
        exact ⟨ret_bool (HBAD.out (fun h => G.out (by injection h))).symm, by have h := HBW.out.trans (HVB.out.mono HBW.out.size); rw [HVV.out] at h; exact h⟩
      subst g1
      by_cases g2 : cs = ds
      case neg =>
        have g9 := str_ne2 g2
        have h1 : (cs.toList == ds.toList) = false := by simp [g9]
        have h1' : (cs.toList != ds.toList) = true := by simp [g9]
        have G := Lib.hid g2; clear g2 hsl
        have HVV := Lib.hid hV; clear hV
        go_wp2_with fail
        go_ret
        exact ⟨ret_bool (HBAD.out (fun h => G.out (by injection h))).symm, by have h := HBW.out.trans (HVB.out.mono HBW.out.size); rw [HVV.out] at h; exact h⟩
      subst g2
      by_cases g3 : cf = df
      case neg =>
        rw [eqB_false g3] at hsl
        rw [hV] at hsl
        have HSL := Lib.hid hsl; have G := Lib.hid g3; clear g3 hsl
        have HVV := Lib.hid hV; clear hV
        go_wp2_with (first
          | (go_at_call 31; refine Calls.mono HSL.out ?_; rintro e w3 ⟨rfl, hb3⟩))
        go_ret
        exact ⟨ret_bool (HBAD.out (fun h => G.out (by injection h))).symm, by have h := HBW.out.trans (HVB.out.mono HBW.out.size); rw [HVV.out] at h; exact h.trans (hb3.mono h.size)⟩
      subst g3
      rw [eqB_true rfl] at hsl
      have hslV := hsl
      rw [hV] at hsl
      have HSL := Lib.hid hsl
      by_cases g4 : NU = MU
      case neg =>
        have hne : ((NU : Int) != (MU : Int)) = true := by simp; omega
        have G := Lib.hid g4; clear g4 hsl hslV
        have HVV := Lib.hid hV; clear hV
        go_wp2_with (first
          | (go_at_call 31; refine Calls.mono HSL.out ?_; rintro e w3 ⟨rfl, hb3⟩; obtain ⟨hq3', hf3⟩ := bcell hb3; have hz3 : wo.heap.size + 1 < w3.heap.size := (by have := hb3.size; simp at this; omega)))
        go_ret
        exact ⟨ret_bool (HBAD.out (fun h => G.out (by injection h with _ _ _ h4; rw [HNU.out.1, HNU.out.2, HMU.out.1, HMU.out.2]; exact congrArg List.length h4))).symm, by have h := HBW.out.trans (HVB.out.mono HBW.out.size); rw [HVV.out] at h; exact h.trans (hb3.mono h.size)⟩
      subst g4
      clear hsl hslV
      have HVV := Lib.hid hV; clear hV
      go_wp2_with (first
        | (go_at_call 31; refine Calls.mono HSL.out ?_; rintro e w3 ⟨rfl, hb3⟩; obtain ⟨hq3', hf3⟩ := bcell hb3; have hz3 : wo.heap.size + 1 < w3.heap.size := (by have := hb3.size; simp at this; omega); have HB3 := Lib.hid hb3))
      have HB3V : Hid (Below V.heap.size V w3) := Lib.hid (by rw [HVV.out]; exact HB3.out)
      have HW3 := Lib.hid (HBW.out.trans ((HVB.out.trans (HB3V.out.mono HVB.out.size)).mono HBW.out.size))
      clear hq3' hf3 hb3 qd
      go_loopw [4, 8, 9, 10, 71] (fun _ _ _ _ i wr => ∃ j : Nat, j ≤ NU ∧ i = .int .i64 j ∧ Below w3.heap.size w3 wr ∧ Hid (cm.take j = dm.take j)) (fun _ _ _ _ i _ => NU - (intOf i).toNat)
      case atStart => exact ⟨0, Nat.zero_le _, rfl, Below.refl _ _, by simp [Hid]⟩
      case round =>
        obtain ⟨j, hj, rfl, hbr, Hal2⟩ := hrel
        have HBi := Lib.hid hbr; clear hbr
        have hBi := HBi.out.size
        have HBo : Hid (Below wo.heap.size wo wr) := Lib.hid (HVB.out.trans ((HB3V.out.trans (HBi.out.mono HB3V.out.size)).mono HVB.out.size))
        have HBT : Hid (Below w.heap.size w wr) := Lib.hid (HBW.out.trans (HBo.out.mono HBW.out.size))
        have hzi : wo.heap.size + 1 < wr.heap.size := by omega
        have qd2 : wr.cell? ⟨wo.heap.size + 1, 3, none⟩ = some (.slice Au' NU capu') := by
          rw [Lib.cell_of_heap (below_heap HBi.out (below_heap HB3V.out HV1.out))]; rfl
        by_cases hlj : j < NU
        · obtain ⟨x, hx⟩ : ∃ x, us[j]? = some x := ⟨us[j]'(by have := HNU.out; omega), List.getElem?_eq_getElem _⟩
          obtain ⟨y, hy⟩ : ∃ y, us'[j]? = some y := ⟨us'[j]'(by have := HMU.out; omega), List.getElem?_eq_getElem _⟩
          obtain ⟨e, he, hRe⟩ := HUs.out.at_ j x hx
          obtain ⟨e', he', hRe'⟩ := HUs'.out.at_ j y hy
          have hRe := Me.R.below HBo.out (Nat.le_refl _) _ _ hRe
          have hRe' := Me.R.below HBo.out (Nat.le_refl _) _ _ hRe'
          obtain ⟨bu, ou, c0, c1, c2, c3, rfl, hbu, hxx, hs0, hs1, hs2, hs3⟩ := (HUR.out.below HBo.out (Nat.le_refl _)).at4 hx
          obtain ⟨bu', ou', d0, d1, d2, d3, rfl, hbu', hyy, ht0, ht1, ht2, ht3⟩ := (HUR'.out.below HBo.out (Nat.le_refl _)).at4 hy
          have htk : cm.take (j + 1) = cm.take j ++ [e] := by rw [List.take_add_one, he]; rfl
          have htk' : dm.take (j + 1) = dm.take j ++ [e'] := by rw [List.take_add_one, he']; rfl
          have hbad : e ≠ e' → eqB p q = false := fun h => HBAD.out fun h2 => eqB_list he he' h (by injection h2)
          obtain ⟨mt, mn, mp, mb⟩ := e
          obtain ⟨nt, nn, np, nb⟩ := e'
          obtain ⟨fv, uv, hcs, _, _, hP, hS⟩ := hRe
          obtain ⟨fv', uv', hcs', _, _, hP', hS'⟩ := hRe'
          dsimp only at hcs hcs' hP hP' hS hS'
          rw [hxx] at hcs
          rw [hyy] at hcs'
          obtain ⟨rfl, rfl, rfl, rfl⟩ := arr4_inj hcs
          obtain ⟨rfl, rfl, rfl, rfl⟩ := arr4_inj hcs'
          obtain ⟨ps, ⟨Ap, capp, rfl, _⟩, _⟩ := id hP
          obtain ⟨ps', ⟨Ap', capp', rfl, _⟩, _⟩ := id hP'
          obtain ⟨bs, ⟨Ab, capb, rfl, _⟩, _⟩ := id hS
          obtain ⟨bs', ⟨Ab', capb', rfl, _⟩, _⟩ := id hS'
          have HBD := Lib.hid hbad; have HTM := Lib.hid (And.intro htk htk')
          clear hbad htk htk' hcs hcs' hxx hyy hx hy he he'
          obtain ⟨U, hU⟩ : ∃ U, U = (wr.alloc (.cells #[.string mt, .string mn, .slice Ap ps.length capp, .slice Ab bs.length capb] 62)).alloc (.cells #[.string nt, .string nn, .slice Ap' ps'.length capp', .slice Ab' bs'.length capb'] 62) := ⟨_, rfl⟩
          have hBU : Below wr.heap.size wr U := by rw [hU]; exact ((Below.refl _ wr).alloc (Nat.le_refl _) _).alloc (by simp) _
          have hUs : U.heap.size = wr.heap.size + 1 + 1 := by rw [hU]; simp
          have hsp := sameSlots_any mp np _ _ U (hP.below hBU (Nat.le_refl _)) (hP'.below hBU (Nat.le_refl _))
          have hU0 : U.heap[wr.heap.size]? = some (.cells #[.string mt, .string mn, .slice Ap ps.length capp, .slice Ab bs.length capb] 62 (0, 0)) := by rw [hU]; exact old_at (new_at wr _) _
          have hU1 : U.heap[wr.heap.size + 1]? = some (.cells #[.string nt, .string nn, .slice Ap' ps'.length capp', .slice Ab' bs'.length capb'] 62 (0, 0)) := by
            rw [hU]
            have := new_at (wr.alloc (.cells #[.string mt, .string mn, .slice Ap ps.length capp, .slice Ab bs.length capb] 62)) (.cells #[.string nt, .string nn, .slice Ap' ps'.length capp', .slice Ab' bs'.length capb'] 62)
            simpa using this
          have hbd := fun (W : World) (h : Below U.heap.size U W) => sameStmts_any _ mb (Nat.le_refl _) nb _ _ W (hS.below (hBU.trans (h.mono hBU.size)) (Nat.le_refl _)) (hS'.below (hBU.trans (h.mono hBU.size)) (Nat.le_refl _))
          have HU0 := Lib.hid hU0; have HU1 := Lib.hid hU1; have HUB := Lib.hid hBU; have HUS := Lib.hid hUs
          clear hU0 hU1 hBU hUs hP hP' hS hS'
          by_cases g1 : mt = nt
          case neg =>
            have g9 := str_ne2 g1
            have h1 : (mt.toList == nt.toList) = false := by simp [g9]
            have h1' : (mt.toList != nt.toList) = true := by simp [g9]
            have G := Lib.hid g1; clear g1 hsp hbd
            have HUU := Lib.hid hU; clear hU
            go_wp2_with fail
            go_ret
            exact ⟨ret_bool (HBD.out (fun h => G.out (by injection h))).symm, by have h := HBT.out.trans (HUB.out.mono HBT.out.size); rw [HUU.out] at h; exact h⟩
          subst g1
          by_cases g2 : mn = nn
          case neg =>
            have g9 := str_ne2 g2
            have h1 : (mn.toList == nn.toList) = false := by simp [g9]
            have h1' : (mn.toList != nn.toList) = true := by simp [g9]
            have G := Lib.hid g2; clear g2 hsp hbd
            have HUU := Lib.hid hU; clear hU
            go_wp2_with fail
            go_ret
            exact ⟨ret_bool (HBD.out (fun h => G.out (by injection h))).symm, by have h := HBT.out.trans (HUB.out.mono HBT.out.size); rw [HUU.out] at h; exact h⟩
          subst g2
          by_cases g3 : mp = np
          case neg =>
            rw [eqB_false g3] at hsp
            rw [hU] at hsp
            have HSP := Lib.hid hsp; have G := Lib.hid g3; clear g3 hsp hbd
            have HUU := Lib.hid hU; clear hU
            go_wp2_with (first
              | (go_at_call 31; refine Calls.mono HSP.out ?_; rintro e w4 ⟨rfl, hb4⟩))
            go_ret
            exact ⟨ret_bool (HBD.out (fun h => G.out (by injection h))).symm, by have h := HBT.out.trans (HUB.out.mono HBT.out.size); rw [HUU.out] at h; exact h.trans (hb4.mono h.size)⟩
          subst g3
          rw [eqB_true rfl] at hsp
          rw [hU] at hsp
          have HSP := Lib.hid hsp
          by_cases g4 : mb = nb
          case neg =>
            simp only [eqB_false g4] at hbd
            have HBU := Lib.hid hbd; have G := Lib.hid g4; clear g4 hsp hbd
            have HUU := Lib.hid hU; clear hU
            go_wp2_with (first
              | (go_at_call 31; refine Calls.mono HSP.out ?_; rintro e w4 ⟨rfl, hb4⟩; obtain ⟨hq4', hf4⟩ := bcell hb4; have hz4 : wr.heap.size + 1 < w4.heap.size := (by have := hb4.size; simp at this; omega); have HB4 : Hid (Below U.heap.size U w4) := Lib.hid (by rw [HUU.out]; exact hb4))
              | (go_at_call 30; refine Calls.mono (HBU.out _ HB4.out) ?_; rintro e w5 ⟨rfl, hb5⟩))
            go_ret
            exact ⟨ret_bool (HBD.out (fun h => G.out (by injection h))).symm, by have h := HBT.out.trans (HUB.out.mono HBT.out.size); have h2 := h.trans (HB4.out.mono h.size); exact h2.trans (hb5.mono h2.size)⟩
          subst g4
          simp only [eqB_true rfl] at hbd
          have HBU := Lib.hid hbd; clear hsp hbd
          have HUU := Lib.hid hU; clear hU
          go_wp2_with (first
            | (go_at_call 31; refine Calls.mono HSP.out ?_; rintro e w4 ⟨rfl, hb4⟩; obtain ⟨hq4', hf4⟩ := bcell hb4; have hz4 : wr.heap.size + 1 < w4.heap.size := (by have := hb4.size; simp at this; omega); have HB4 : Hid (Below U.heap.size U w4) := Lib.hid (by rw [HUU.out]; exact hb4))
            | (go_at_call 30; refine Calls.mono (HBU.out _ HB4.out) ?_; rintro e w5 ⟨rfl, hb5⟩))
          go_roundw
          case rel => exact ⟨j + 1, by omega, by go_num, by have h := HBi.out.trans (HUB.out.mono HBi.out.size); have h2 := h.trans (HB4.out.mono h.size); exact h2.trans (hb5.mono h2.size), by rw [Hid, HTM.out.1, HTM.out.2, Hal2.out]⟩
          case measure => simp [intOf]; omega
        · have hall : cm = dm := by
            have h1 := Hal2.out
            rwa [List.take_of_length_le (by have := HNU.out; omega), List.take_of_length_le (by have := HMU.out; omega)] at h1
          have HAL := Lib.hid hall; clear hall
          go_wp2_with fail
          go_roundw
          case rel => exact ⟨k + 1, by omega, by go_num, HBr.out.trans (HBo.out.mono HBr.out.size), by rw [Hid, HTK.out.1, HTK.out.2, Hall.out, HAL.out]⟩
          case measure => simp [intOf]; omega
    · have hall : p.classes = q.classes := by
        have h1 := Hall.out
        rwa [List.take_of_length_le (by have := HN.out; omega), List.take_of_length_le (by have := HM.out; omega)] at h1
      have HAL := Lib.hid hall; clear hall
      go_wp2_with fail
      go_ret
      exact ⟨ret_bool (HGOOD.out HAL.out HMM.out).symm, HBW.out⟩
end Go.Proofs.YtapdgeajbnbdjaaDoor
