/- ref03.Check. -/
import Derived.Test.YtapdgeajbnbdjaaDoorRef9
import Derived.Test.YtapdgeajbnbdjaaDoorShow5
import Derived.Deep.DeepCutAuto
namespace Go.Proofs.YtapdgeajbnbdjaaDoor
open Go.RowKit

set_option maxRecDepth 100000 in
set_option maxHeartbeats 4000000 in
theorem refCheck_any (p : Pr) (c : Array Value) (w : World) (hR : Pr.R w p c) (hbulk : p.bulk ≤ 2000000) :
    Calls Tryd.prog 27 #[.agg c] w fun e w' => e = .returned (.int .i64 (chkN p)) ∧ Below w.heap.size w w' := by
  obtain ⟨cv, mv, rfl, hC, hM⟩ := hR
  obtain ⟨ys, ⟨Am, capm, rfl, _⟩, _⟩ := id hM
  obtain ⟨xs, ⟨A, cap, rfl, hc1, hc2, _, hrows⟩, hX⟩ := hC
  have hlx := hX.len
  obtain ⟨N, hN⟩ : ∃ N, N = xs.length := ⟨_, rfl⟩
  rw [← hN] at hc1 ⊢
  unfold maxLen at hc2
  have hmain : MayR p.main := mayStmts_any 2000000 p.main (by unfold Pr.bulk at hbulk; omega) (Nat.le_refl _)
  have HM := Lib.hid hM; have HX := Lib.hid hX; have HN := Lib.hid (And.intro hN hlx); have HR := Lib.hid hrows; have HB := Lib.hid hbulk; have HMA := Lib.hid hmain
  have hPR : stsOK p.main = false ∨ p.classes.all classOK = false → chkN p = 30 := by
    intro h
    unfold chkN prOK
    rcases h with h | h <;> rw [h] <;> simp
  have HPR := Lib.hid hPR
  clear hM hX hN hlx hrows hbulk hmain hPR
  have hA := Below.alloc (Below.refl w.heap.size w) (Nat.le_refl _) (.cells #[.slice A N cap, .slice Am ys.length capm] 33)
  have HA := Lib.hid hA; clear hA
  go_enter Tryd.func27, Tryd.ntmps27
  go_wp2_with fail
  go_loopw [2, 4, 6, 10] (fun _ _ _ i wr => ∃ (k : Nat), k ≤ N ∧ i = .int .i64 k ∧ Hid ((p.classes.take k).all classOK = true) ∧ Below (w.alloc (.cells #[.slice A N cap, .slice Am ys.length capm] 33)).heap.size (w.alloc (.cells #[.slice A N cap, .slice Am ys.length capm] 33)) wr) (fun _ _ _ i _ => N - (intOf i).toNat)
  case atStart => exact ⟨0, Nat.zero_le _, rfl, by simp [Hid], Below.refl _ _⟩
  case round =>
    obtain ⟨k, hk, rfl, HG, hbr0⟩ := hrel
    have HBr0 := Lib.hid hbr0
    have HBr := Lib.hid (HA.out.trans (hbr0.mono (by simp))); clear hbr0
    have hBr := HBr.out.size
    by_cases hlt : k < N
    · have hn1 := HN.out.1
      have hn2 := HN.out.2
      obtain ⟨x, hx⟩ : ∃ x, xs[k]? = some x := ⟨xs[k]'(by omega), List.getElem?_eq_getElem _⟩
      obtain ⟨cl, hcl, hRc⟩ := HX.out.at_ k x hx
      have hRc := Cl.R.below HBr.out (Nat.le_refl _) _ _ hRc
      obtain ⟨bk, off, c0, c1, c2, c3, rfl, _, hxx, hq0, hq1, hq2, hq3⟩ := (HR.out.below HBr.out (Nat.le_refl _)).at4 hx
      obtain ⟨fv, mv', hcs, hs1, hs2, hF, hMe⟩ := hRc
      rw [hxx] at hcs
      obtain ⟨rfl, rfl, rfl, rfl⟩ := arr4_inj hcs
      obtain ⟨ms, ⟨Am', capm', rfl, hm1, hm2, _, hmrows⟩, hMs⟩ := id hMe
      obtain ⟨fs, ⟨Af, capf, rfl, _⟩, _⟩ := id hF
      have hlm := hMs.len
      obtain ⟨NM, hNM⟩ : ∃ NM, NM = ms.length := ⟨_, rfl⟩
      rw [← hNM] at hm1 hq3
      unfold maxLen at hm2
      have hbu := Cls.bulk_le (List.mem_of_getElem? hcl)
      have hbu2 : cl.bulk ≤ 2000000 := by have := HB.out; unfold Pr.bulk at this; omega
      have hsucc := all_take_succ classOK p.classes k cl hcl
      rw [HG.out, Bool.true_and] at hsucc
      have hbad : classOK cl = false → chkN p = 30 := fun he => HPR.out (.inr (by rw [List.all_eq_false]; exact ⟨cl, List.mem_of_getElem? hcl, by simp [he]⟩))
      have HGS := Lib.hid hsucc; have HBAD := Lib.hid hbad; have HF := Lib.hid hF; have HMs := Lib.hid hMs; have HNM := Lib.hid (And.intro hNM hlm); have HMR := Lib.hid hmrows; have HBU := Lib.hid hbu2
      clear hsucc hbad hF hMe hMs hNM hlm hmrows hbu hbu2 hcs hxx hx hcl hn1 hn2
      go_upto_region 4 with fail
      go_cut [34] (fun s3 wx => s3 = .bool (!classHead cl) ∧ Below (wr.heap.size + 1) (wr.alloc (.cells #[.string cl.name, .string cl.super, .slice Af fs.length capf, .slice Am' NM capm'] 57)) wx)
      case first =>
        have hFa := Lib.hid (HF.out.below ((Below.refl wr.heap.size wr).alloc (Nat.le_refl _) (.cells #[.string cl.name, .string cl.super, .slice Af fs.length capf, .slice Am' NM capm'] 57)) (Nat.le_refl _))
        cases h1 : isName cl.name.data.toList
        · have H1 := Lib.hid h1; clear h1
          go_wp2_with (first
            | (go_at_call_of 44 (Value.string cl.name); with_reducible refine (risName_any cl.name _ hs1).mono ?_; rw [H1.out]; rintro e w2 ⟨rfl, rfl⟩))
          go_meet
          exact ⟨by simp [classHead, H1.out], Below.refl _ _⟩
        have H1 := Lib.hid h1; clear h1
        by_cases h2 : cl.super.toList = []
        · have h2' : (cl.super.toList == []) = true := by simp [h2]
          have H2 := Lib.hid h2'; clear h2'
          go_wp2_with (first
            | (go_at_call_of 44 (Value.string cl.name); with_reducible refine (risName_any cl.name _ hs1).mono ?_; rw [H1.out]; rintro e w2 ⟨rfl, rfl⟩)
            | (go_at_call 52; refine (maySlots_any cl.fields _ _ hFa.out).mono ?_; rintro e w2 ⟨rfl, hb2⟩))
          go_meet
          exact ⟨by unfold classHead; rw [H1.out, H2.out]; simp, hb2.mono (by simp)⟩
        · have h2' : (cl.super.toList == []) = false := by simp [h2]
          have H2 := Lib.hid h2'; clear h2'
          cases h3 : isName cl.super.data.toList
          · have H3 := Lib.hid h3; clear h3
            go_wp2_with (first
              | (go_at_call_of 44 (Value.string cl.name); with_reducible refine (risName_any cl.name _ hs1).mono ?_; rw [H1.out]; rintro e w2 ⟨rfl, rfl⟩)
              | (go_at_call_of 44 (Value.string cl.super); with_reducible refine (risName_any cl.super _ hs2).mono ?_; rw [H3.out]; rintro e w2 ⟨rfl, rfl⟩))
            go_meet
            exact ⟨by unfold classHead; rw [H1.out, H2.out, H3.out]; simp, Below.refl _ _⟩
          · have H3 := Lib.hid h3; clear h3
            go_wp2_with (first
              | (go_at_call_of 44 (Value.string cl.name); with_reducible refine (risName_any cl.name _ hs1).mono ?_; rw [H1.out]; rintro e w2 ⟨rfl, rfl⟩)
              | (go_at_call_of 44 (Value.string cl.super); with_reducible refine (risName_any cl.super _ hs2).mono ?_; rw [H3.out]; rintro e w2 ⟨rfl, rfl⟩)
              | (go_at_call 52; refine (maySlots_any cl.fields _ _ hFa.out).mono ?_; rintro e w2 ⟨rfl, hb2⟩))
            go_meet
            exact ⟨by unfold classHead; rw [H1.out, H2.out, H3.out]; simp, hb2.mono (by simp)⟩
      case rest =>
        obtain ⟨rfl, hbc⟩ := hcut
        have hqc : ∀ o, wc.cell? ⟨wr.heap.size, o, none⟩ = #[Value.string cl.name, .string cl.super, .slice Af fs.length capf, .slice Am' NM capm'][o]? := fun o => by
          rw [hbc.cell (p := ⟨wr.heap.size, o, none⟩) (Nat.lt_succ_self _)]
          exact Lib.cell_of_heap (new_at wr _) o
        have hq3 : wc.cell? ⟨wr.heap.size, 3, none⟩ = some (.slice Am' NM capm') := hqc 3
        have hzc : wr.heap.size < wc.heap.size := by have := hbc.size; simp at this; omega
        have HBc := Lib.hid (((Below.refl wr.heap.size wr).alloc (Nat.le_refl _) _).trans (hbc.mono (Nat.le_succ _)))
        clear hqc hbc
        cases hd : classHead cl
        · have HD := Lib.hid hd; clear hd
          go_wp2_with fail
          go_ret
          exact ⟨ret_int (HBAD.out (by unfold classOK; rw [HD.out]; rfl)).symm, HBr.out.trans (HBc.out.mono hBr)⟩
        have HD := Lib.hid hd; clear hd
        go_wp2_with fail
        go_loopw [2, 6, 38] (fun _ _ i wx => ∃ (j : Nat), j ≤ NM ∧ i = .int .i64 j ∧ Hid ((cl.methods.take j).all methodOK = true) ∧ Below wr.heap.size wr wx) (fun _ _ i _ => NM - (intOf i).toNat)
        case atStart => exact ⟨0, Nat.zero_le _, rfl, by simp [Hid], HBc.out⟩
        case round =>
          obtain ⟨j, hj, rfl, HG2, hbr2⟩ := hrel
          have HBr2 := Lib.hid hbr2; clear hbr2
          by_cases hlt2 : j < NM
          · have hn1 := HNM.out.1
            have hn2 := HNM.out.2
            obtain ⟨x, hx⟩ : ∃ x, ms[j]? = some x := ⟨ms[j]'(by omega), List.getElem?_eq_getElem _⟩
            obtain ⟨me, hme, hRm⟩ := HMs.out.at_ j x hx
            have hRm := Me.R.below HBr2.out (Nat.le_refl _) _ _ hRm
            obtain ⟨bk', off', d0, d1, d2, d3, rfl, _, hxx, hr0, hr1, hr2, hr3⟩ := (HMR.out.below HBr2.out (Nat.le_refl _)).at4 hx
            obtain ⟨pv, bv, hcs, ht1, ht2, hP, hBo⟩ := hRm
            rw [hxx] at hcs
            obtain ⟨rfl, rfl, rfl, rfl⟩ := arr4_inj hcs
            obtain ⟨ps, ⟨Ap, capp, rfl, _⟩, hps⟩ := id hP
            obtain ⟨bs, ⟨Ab, capb, rfl, _⟩, _⟩ := id hBo
            have hlp := hps.len
            have hbu := Mes.bulk_le (List.mem_of_getElem? hme)
            have hbu2 : MayR me.body := mayStmts_any 2000000 me.body (by have := HBU.out; unfold Cl.bulk at this; unfold Me.bulk at hbu; omega) (Nat.le_refl _)
            have hsucc := all_take_succ methodOK cl.methods j me hme
            rw [HG2.out, Bool.true_and] at hsucc
            have hbad2 : methodOK me = false → chkN p = 30 := fun he => HBAD.out (by
              have : cl.methods.all methodOK = false := by rw [List.all_eq_false]; exact ⟨me, List.mem_of_getElem? hme, by simp [he]⟩
              unfold classOK; rw [this]; simp)
            have hB0 := Below.alloc (Below.refl wr.heap.size wr) (Nat.le_refl _) (.cells #[.string me.type, .string me.name, .slice Ap ps.length capp, .slice Ab bs.length capb] 62)
            have hPa := Lib.hid (hP.below hB0 (Nat.le_refl _))
            have hSa := Lib.hid (hBo.below hB0 (Nat.le_refl _))
            have hzz := HBr2.out.size
            have HBW := Lib.hid (HBr.out.trans ((HBr2.out.trans (hB0.mono hzz)).mono hBr))
            have HBI := Lib.hid (HBr2.out.trans (hB0.mono hzz))
            have hww : w.heap.size ≤ wr.heap.size + 1 := by omega
            have HGS2 := Lib.hid hsucc; have HBU2 := Lib.hid hbu2; have HLP := Lib.hid hlp; have HBAD2 := Lib.hid hbad2
            clear hsucc hP hBo hbu hbu2 hcs hxx hx hme hn1 hn2 hps hlp hB0 hbad2
            have hsl : slotOK ⟨me.type, me.name⟩ = (isType me.type.data.toList && isName me.name.data.toList) := rfl
            have HSL := Lib.hid hsl; clear hsl
            have a1 : ∀ V : World, Calls Tryd.prog 53 #[.string me.type] V fun e w' => e = .returned (.bool (isType me.type.data.toList)) ∧ w' = V := fun V => refType_any me.type V ht1
            have a2 : ∀ V : World, Calls Tryd.prog 44 #[.string me.name] V fun e w' => e = .returned (.bool (isName me.name.data.toList)) ∧ w' = V := fun V => risName_any me.name V ht2
            have A1 := Lib.hid a1; have A2 := Lib.hid a2
            clear a1 a2
            cases h1 : isType me.type.data.toList
            · have H1 := Lib.hid h1; clear h1
              go_wp2_with (first
                | (go_at_call 53; refine (A1.out _).mono ?_; rw [H1.out]; rintro e w2 ⟨rfl, rfl⟩))
              go_ret
              exact ⟨ret_int (HBAD2.out (by unfold methodOK; rw [HSL.out, H1.out]; rfl)).symm, HBW.out⟩
            have H1 := Lib.hid h1; clear h1
            cases h2 : isName me.name.data.toList
            · have H2 := Lib.hid h2; clear h2
              go_wp2_with (first
                | (go_at_call 53; refine (A1.out _).mono ?_; rw [H1.out]; rintro e w2 ⟨rfl, rfl⟩)
                | (go_at_call 44; refine (A2.out _).mono ?_; rw [H2.out]; rintro e w3 ⟨rfl, rfl⟩))
              go_ret
              exact ⟨ret_int (HBAD2.out (by unfold methodOK; rw [HSL.out, H1.out, H2.out]; rfl)).symm, HBW.out⟩
            have H2 := Lib.hid h2; clear h2
            by_cases h3 : ps.length ≤ 4
            · have h3' : decide (me.params.length ≤ 4) = true := by simpa [← HLP.out] using h3
              have H3 := Lib.hid h3'; clear h3'
              cases h4 : me.params.all slotOK
              · have H4 := Lib.hid h4; clear h4
                go_wp2_with (first
                  | (go_at_call 53; refine (A1.out _).mono ?_; rw [H1.out]; rintro e w2 ⟨rfl, rfl⟩)
                  | (go_at_call 44; refine (A2.out _).mono ?_; rw [H2.out]; rintro e w3 ⟨rfl, rfl⟩)
                  | (go_at_call 52; refine (maySlots_any me.params _ _ hPa.out).mono ?_; rw [H4.out]; rintro e w4 ⟨rfl, hb4⟩))
                go_ret
                exact ⟨ret_int (HBAD2.out (by unfold methodOK; rw [H4.out]; simp)).symm, HBW.out.trans (hb4.mono (by simp; omega))⟩
              have H4 := Lib.hid h4; clear h4
              cases h5 : stsOK me.body
              all_goals have H5 := Lib.hid h5
              all_goals clear h5
              all_goals go_wp2_with (first
                  | (go_at_call 53; refine (A1.out _).mono ?_; rw [H1.out]; rintro e w2 ⟨rfl, rfl⟩)
                  | (go_at_call 44; refine (A2.out _).mono ?_; rw [H2.out]; rintro e w3 ⟨rfl, rfl⟩)
                  | (go_at_call 52; refine (maySlots_any me.params _ _ hPa.out).mono ?_; rw [H4.out]; rintro e w4 ⟨rfl, hb4⟩; obtain ⟨hq4, hf4⟩ := bcell hb4; have hz4 : wr.heap.size < w4.heap.size := (by have := hb4.size; simp at this; omega); have hS4 := Lib.hid (hSa.out.below hb4 (Nat.le_refl _)); have HB4 := Lib.hid (HBW.out.trans (hb4.mono (by simp; omega))); have HBI4 := Lib.hid (HBI.out.trans (hb4.mono (by simp; omega))))
                  | (go_at_call 54; refine (HBU2.out _ _ hS4.out).mono ?_; rw [H5.out]; rintro e w5 ⟨rfl, hb5⟩))
              · go_ret
                exact ⟨ret_int (HBAD2.out (by unfold methodOK; rw [H5.out]; simp)).symm, HB4.out.trans (hb5.mono HB4.out.size)⟩
              · go_roundw
                case rel => ((repeat apply Exists.intro); exact ⟨⟨j + 1, by omega, by go_num, by rw [Hid, HGS2.out]; unfold methodOK; rw [HSL.out, H1.out, H2.out, H3.out, H4.out, H5.out]; rfl, HBI4.out.trans (hb5.mono HBI4.out.size)⟩, rfl⟩)
                case measure => simp [intOf]; omega
            · have h3' : decide (me.params.length ≤ 4) = false := by simpa [← HLP.out] using h3
              have H3 := Lib.hid h3'; clear h3'
              go_wp2_with (first
                | (go_at_call 53; refine (A1.out _).mono ?_; rw [H1.out]; rintro e w2 ⟨rfl, rfl⟩)
                | (go_at_call 44; refine (A2.out _).mono ?_; rw [H2.out]; rintro e w3 ⟨rfl, rfl⟩))
              go_ret
              exact ⟨ret_int (HBAD2.out (by unfold methodOK; rw [H3.out]; simp)).symm, HBW.out⟩
          · have hfin : classOK cl = true := by
              have h := HG2.out
              rw [List.take_of_length_le (by have := HNM.out; omega)] at h
              unfold classOK; rw [HD.out, h]; rfl
            have HFI := Lib.hid hfin; clear hfin
            go_wp2_with fail
            go_roundw
            case rel => exact ⟨k + 1, by omega, by go_num, by rw [Hid, HGS.out]; exact HFI.out, HBr0.out.trans (HBr2.out.mono HBr0.out.size)⟩
            case measure => simp [intOf]; omega
    · have hcls : p.classes.all classOK = true := by
        have h := HG.out
        rw [List.take_of_length_le (by have := HN.out; omega)] at h
        exact h
      have hcell : wr.cell? ⟨w.heap.size, 1, none⟩ = some (.slice Am ys.length capm) := by
        rw [HBr0.out.cell (p := ⟨w.heap.size, 1, none⟩) (by simp)]
        rw [Lib.cell_of_heap (new_at w _)]; rfl
      have hzw : w.heap.size < wr.heap.size := by have := HBr0.out.size; simp at this; omega
      have HMW := Lib.hid (HM.out.below HBr.out (Nat.le_refl _))
      have hfin : chkN p = if stsOK p.main then 0 else 30 := by unfold chkN prOK; rw [hcls]; simp
      have HFI := Lib.hid hfin
      clear hcls hfin
      cases hm : stsOK p.main
      all_goals have HSM := Lib.hid hm
      all_goals clear hm
      all_goals go_wp2_with (first
        | (go_at_call 54; refine (HMA.out _ _ HMW.out).mono ?_; rw [HSM.out]; rintro e w5 ⟨rfl, hb5⟩))
      all_goals go_ret
      all_goals exact ⟨ret_int (by rw [HFI.out, HSM.out]; rfl), HBr.out.trans (hb5.mono hBr)⟩
end Go.Proofs.YtapdgeajbnbdjaaDoor
