/- show.Check: whether a program's tree may be. -/
import Derived.Test.YtapdgeajbnbdjaaDoorText
import Derived.Test.YtapdgeajbnbdjaaDoorPage3
import Derived.Deep.DeepCutAuto
namespace Go.Proofs.YtapdgeajbnbdjaaDoor
open Go.RowKit

/-- what show.Check answers -/
def chkN (p : Pr) : Int := if prOK p then 0 else 30

set_option maxRecDepth 100000 in
set_option maxHeartbeats 4000000 in
theorem showCheck_any (p : Pr) (c : Array Value) (w : World) (hE : Env w) (hR : Pr.R w p c) (hbulk : p.bulk ≤ 2000000) :
    Calls Tryd.prog 14 #[.agg c] w fun e w' => e = .returned (.int .i64 (chkN p)) ∧ Below w.heap.size w w' := by
  obtain ⟨cv, mv, rfl, hC, hM⟩ := hR
  obtain ⟨ys, ⟨Am, capm, rfl, _⟩, _⟩ := id hM
  obtain ⟨xs, ⟨A, cap, rfl, hc1, hc2, _, hrows⟩, hX⟩ := hC
  have hlx := hX.len
  obtain ⟨N, hN⟩ : ∃ N, N = xs.length := ⟨_, rfl⟩
  rw [← hN] at hc1 ⊢
  unfold maxLen at hc2
  have HE := Lib.hid hE; have HM := Lib.hid hM; have HX := Lib.hid hX; have HN := Lib.hid (And.intro hN hlx); have HR := Lib.hid hrows; have HB := Lib.hid hbulk
  clear hE hM hX hN hlx hrows hbulk
  have hA := Below.alloc (Below.refl w.heap.size w) (Nat.le_refl _)
  go_enter Tryd.func14, Tryd.ntmps14
  go_wp2_with fail
  refine (stmts_any p.main _ _ (by have := HB.out; unfold Pr.bulk at this; omega) (HE.out.below (hA _) (Nat.le_refl _)) (Sts.V.below (hA _) (Nat.le_refl _) HM.out)).mono ?_
  rintro x w1 ⟨rfl, hb⟩
  obtain ⟨hq, hf⟩ := bcell hb
  have hz1 : w.heap.size < w1.heap.size := by have := hb.size; simp at this; omega
  have HB1 := Lib.hid ((hA _).trans (hb.mono (by simp))); clear hb
  obtain ⟨g0, hg0⟩ : ∃ g, g = stsOK p.main := ⟨_, rfl⟩
  rw [← hg0]
  have HG0 := Lib.hid hg0; clear hg0
  go_wp2_with fail
  go_loopw [3, 5, 7, 14] (fun s3 _ _ i wr => ∃ (k : Nat) (g : Bool), k ≤ N ∧ i = .int .i64 k ∧ s3 = .bool g ∧ Hid (g = (g0 && (p.classes.take k).all classOK)) ∧ Below w.heap.size w wr) (fun _ _ _ i _ => N - (intOf i).toNat)
  case atStart => exact ⟨0, g0, Nat.zero_le _, rfl, rfl, by simp [Hid], HB1.out⟩
  case round =>
    obtain ⟨k, g, hk, rfl, rfl, HG, hbr⟩ := hrel
    have HBr := Lib.hid hbr; clear hbr
    by_cases hlt : k < N
    · have hn1 := HN.out.1
      have hn2 := HN.out.2
      obtain ⟨x, hx⟩ : ∃ x, xs[k]? = some x := ⟨xs[k]'(by omega), List.getElem?_eq_getElem _⟩
      obtain ⟨cl, hcl, hRc⟩ := HX.out.at_ k x hx
      have hRc := Cl.R.below HBr.out (Nat.le_refl _) _ _ hRc
      obtain ⟨bk, off, c0, c1, c2, c3, rfl, _, hxx, hq0, hq1, hq2, hq3⟩ := (HR.out.below HBr.out (Nat.le_refl _)).at4 hx
      obtain ⟨fv, mv', hcs, hs1, hs2, hF, hMe⟩ := hRc
      rw [hxx] at hcs
      obtain ⟨rfl, rfl, rfl, rfl⟩ := arr4_inj hcs
      obtain ⟨ms, ⟨Am', capm', rfl, hm1, hm2, _, hmrows⟩, hMs⟩ := id hMe
      obtain ⟨fs, ⟨Af, capf, rfl, _⟩, _⟩ := id hF
      have hlm := hMs.len
      obtain ⟨NM, hNM⟩ : ∃ NM, NM = ms.length := ⟨_, rfl⟩
      rw [← hNM] at hm1 hq3
      unfold maxLen at hm2
      have hbu := Cls.bulk_le (List.mem_of_getElem? hcl)
      have hbu2 : cl.bulk ≤ 2000000 := by have := HB.out; unfold Pr.bulk at this; omega
      have hsucc := all_take_succ classOK p.classes k cl hcl
      have hgs : (g0 && (p.classes.take (k + 1)).all classOK) = (g && classHead cl && cl.methods.all methodOK) := by rw [hsucc, HG.out]; unfold classOK; simp [Bool.and_assoc]
      have HGS := Lib.hid hgs; have HF := Lib.hid hF; have HMs := Lib.hid hMs; have HNM := Lib.hid (And.intro hNM hlm); have HMR := Lib.hid hmrows; have HBU := Lib.hid hbu2
      clear hgs hF hMe hMs hNM hlm hmrows hbu hbu2 hsucc hcs hxx hx hcl hn1 hn2
      have hBr := HBr.out.size
      go_upto_region 5 with fail
      go_cut [3] (fun s3 wx => s3 = .bool (g && classHead cl) ∧ Below (wr.heap.size + 1) (wr.alloc (.cells #[.string cl.name, .string cl.super, .slice Af fs.length capf, .slice Am' NM capm'] 57)) wx)
      case first =>
        have hEa := Lib.hid (HE.out.below (HBr.out.alloc hBr (.cells #[.string cl.name, .string cl.super, .slice Af fs.length capf, .slice Am' NM capm'] 57)) (Nat.le_refl _))
        have hFa := Lib.hid (HF.out.below ((Below.refl wr.heap.size wr).alloc (Nat.le_refl _) (.cells #[.string cl.name, .string cl.super, .slice Af fs.length capf, .slice Am' NM capm'] 57)) (Nat.le_refl _))
        cases g
        · go_wp2_with fail
          go_meet
          exact ⟨by simp, Below.refl _ _⟩
        cases h1 : isName cl.name.data.toList
        · have H1 := Lib.hid h1; clear h1
          go_wp2_with (first
            | (go_at_call 33; refine (isName_any cl.name _ hEa.out hs1).mono ?_; rw [H1.out]; rintro e w2 ⟨rfl, rfl⟩))
          go_meet
          exact ⟨by simp [classHead, H1.out], Below.refl _ _⟩
        have H1 := Lib.hid h1; clear h1
        by_cases h2 : cl.super.toList = []
        · have h2' : (cl.super.toList == []) = true := by simp [h2]
          have H2 := Lib.hid h2'; clear h2'
          go_wp2_with (first
            | (go_at_call 33; refine (isName_any cl.name _ hEa.out hs1).mono ?_; rw [H1.out]; rintro e w2 ⟨rfl, rfl⟩)
            | (go_at_call 34; refine (slots_any cl.fields _ _ hEa.out hFa.out).mono ?_; rintro e w2 ⟨rfl, hb2⟩))
          go_meet
          exact ⟨by unfold classHead; rw [H1.out, H2.out]; simp, hb2.mono (by simp)⟩
        · have h2' : (cl.super.toList == []) = false := by simp [h2]
          have H2 := Lib.hid h2'; clear h2'
          cases h3 : isName cl.super.data.toList
          · have H3 := Lib.hid h3; clear h3
            go_wp2_with (first
              | (go_at_call_of 33 (Value.string cl.name); with_reducible refine (isName_any cl.name _ hEa.out hs1).mono ?_; rw [H1.out]; rintro e w2 ⟨rfl, rfl⟩)
              | (go_at_call_of 33 (Value.string cl.super); with_reducible refine (isName_any cl.super _ hEa.out hs2).mono ?_; rw [H3.out]; rintro e w2 ⟨rfl, rfl⟩))
            go_meet
            exact ⟨by unfold classHead; rw [H1.out, H2.out, H3.out]; simp, Below.refl _ _⟩
          · have H3 := Lib.hid h3; clear h3
            go_wp2_with (first
              | (go_at_call_of 33 (Value.string cl.name); with_reducible refine (isName_any cl.name _ hEa.out hs1).mono ?_; rw [H1.out]; rintro e w2 ⟨rfl, rfl⟩)
              | (go_at_call_of 33 (Value.string cl.super); with_reducible refine (isName_any cl.super _ hEa.out hs2).mono ?_; rw [H3.out]; rintro e w2 ⟨rfl, rfl⟩)
              | (go_at_call 34; refine (slots_any cl.fields _ _ hEa.out hFa.out).mono ?_; rintro e w2 ⟨rfl, hb2⟩))
            go_meet
            exact ⟨by unfold classHead; rw [H1.out, H2.out, H3.out]; simp, hb2.mono (by simp)⟩
      case rest =>
        obtain ⟨rfl, hbc⟩ := hcut
        obtain ⟨gc, hgc⟩ : ∃ gc, gc = (g && classHead cl) := ⟨_, rfl⟩
        rw [← hgc]
        rw [← hgc] at HGS
        have HGC := Lib.hid hgc; clear hgc
        have hqc : ∀ o, wc.cell? ⟨wr.heap.size, o, none⟩ = #[Value.string cl.name, .string cl.super, .slice Af fs.length capf, .slice Am' NM capm'][o]? := fun o => by
          rw [hbc.cell (p := ⟨wr.heap.size, o, none⟩) (Nat.lt_succ_self _)]
          exact Lib.cell_of_heap (new_at wr _) o
        have hq3 : wc.cell? ⟨wr.heap.size, 3, none⟩ = some (.slice Am' NM capm') := hqc 3
        have hzc : wr.heap.size < wc.heap.size := by have := hbc.size; simp at this; omega
        have HBc := Lib.hid (((Below.refl wr.heap.size wr).alloc (Nat.le_refl _) _).trans (hbc.mono (Nat.le_succ _)))
        clear hqc hbc
        go_wp2_with fail
        go_loopw [3, 7, 42] (fun s3 _ i wx => ∃ (j : Nat) (g : Bool), j ≤ NM ∧ i = .int .i64 j ∧ s3 = .bool g ∧ Hid (g = (gc && (cl.methods.take j).all methodOK)) ∧ Below wr.heap.size wr wx) (fun _ _ i _ => NM - (intOf i).toNat)
        case atStart => exact ⟨0, gc, Nat.zero_le _, rfl, rfl, by simp [Hid], HBc.out⟩
        case round =>
          obtain ⟨j, g2, hj, rfl, rfl, HG2, hbr2⟩ := hrel
          have HBr2 := Lib.hid hbr2; clear hbr2
          by_cases hlt2 : j < NM
          · have hn1 := HNM.out.1
            have hn2 := HNM.out.2
            obtain ⟨x, hx⟩ : ∃ x, ms[j]? = some x := ⟨ms[j]'(by omega), List.getElem?_eq_getElem _⟩
            obtain ⟨me, hme, hRm⟩ := HMs.out.at_ j x hx
            have hRm := Me.R.below HBr2.out (Nat.le_refl _) _ _ hRm
            obtain ⟨bk', off', d0, d1, d2, d3, rfl, _, hxx, hr0, hr1, hr2, hr3⟩ := (HMR.out.below HBr2.out (Nat.le_refl _)).at4 hx
            obtain ⟨pv, bv, hcs, ht1, ht2, hP, hBo⟩ := hRm
            rw [hxx] at hcs
            obtain ⟨rfl, rfl, rfl, rfl⟩ := arr4_inj hcs
            obtain ⟨ps, ⟨Ap, capp, rfl, _⟩, hps⟩ := id hP
            obtain ⟨bs, ⟨Ab, capb, rfl, _⟩, _⟩ := id hBo
            have hlp := hps.len
            have hbu := Mes.bulk_le (List.mem_of_getElem? hme)
            have hbu2 : Sts.bulk me.body ≤ 2000000 := by have := HBU.out; unfold Cl.bulk at this; unfold Me.bulk at hbu; omega
            have hsucc := all_take_succ methodOK cl.methods j me hme
            have hgs : (gc && (cl.methods.take (j + 1)).all methodOK) = (g2 && methodOK me) := by rw [hsucc, HG2.out]; simp [Bool.and_assoc]
            have hEa := Lib.hid (HE.out.below ((HBr.out.trans (HBr2.out.mono hBr)).alloc (Nat.le_trans hBr HBr2.out.size) (.cells #[.string me.type, .string me.name, .slice Ap ps.length capp, .slice Ab bs.length capb] 62)) (Nat.le_refl _))
            have hB0 := Below.alloc (Below.refl wr.heap.size wr) (Nat.le_refl _) (.cells #[.string me.type, .string me.name, .slice Ap ps.length capp, .slice Ab bs.length capb] 62)
            have hPa := Lib.hid (hP.below hB0 (Nat.le_refl _))
            have hSa := Lib.hid (hBo.below hB0 (Nat.le_refl _))
            have hzz := HBr2.out.size
            have HB0 := Lib.hid hB0
            have HGS2 := Lib.hid hgs; have HBU2 := Lib.hid hbu2; have HLP := Lib.hid hlp
            clear hgs hP hBo hbu hbu2 hsucc hcs hxx hx hme hn1 hn2 hps hlp hB0
            cases g2
            · go_wp2_with fail
              go_roundw
              case rel => exact ⟨j + 1, false, by omega, by go_num, rfl, by rw [Hid, HGS2.out]; rfl, HBr2.out.trans (HB0.out.mono hzz)⟩
              case measure => simp [intOf]; omega
            cases h1 : slotOK ⟨me.type, me.name⟩
            · have H1 := Lib.hid h1; clear h1
              go_wp2_with (first
                | (go_at_call 35; refine (slot_any ⟨me.type, me.name⟩ _ hEa.out ht1 ht2).mono ?_; rw [H1.out]; rintro e w2 ⟨rfl, hb2⟩))
              go_roundw
              case rel => exact ⟨j + 1, false, by omega, by go_num, rfl, by rw [Hid, HGS2.out]; simp [methodOK, H1.out], HBr2.out.trans ((HB0.out.trans (hb2.mono (by simp))).mono hzz)⟩
              case measure => simp [intOf]; omega
            have H1 := Lib.hid h1; clear h1
            by_cases h2 : ps.length ≤ 4
            · have h2' : decide (me.params.length ≤ 4) = true := by simpa [← HLP.out] using h2
              have H2 := Lib.hid h2'; clear h2'
              cases h3 : me.params.all slotOK
              · have H3 := Lib.hid h3; clear h3
                go_wp2_with (first
                  | (go_at_call 35; refine (slot_any ⟨me.type, me.name⟩ _ hEa.out ht1 ht2).mono ?_; rw [H1.out]; rintro e w2 ⟨rfl, hb2⟩; obtain ⟨hq2, hf2⟩ := bcell hb2; have hz2 : wr.heap.size < w2.heap.size := (by have := hb2.size; simp at this; omega); have HB2 := Lib.hid (HB0.out.trans (hb2.mono (by simp))); have hP2 := Lib.hid (hPa.out.below hb2 (Nat.le_refl _)); have hE2 := Lib.hid (hEa.out.below hb2 (Nat.le_refl _)))
                  | (go_at_call 34; refine (slots_any me.params _ _ hE2.out hP2.out).mono ?_; rw [H3.out]; rintro e w3 ⟨rfl, hb3⟩))
                go_roundw
                case rel => exact ⟨j + 1, false, by omega, by go_num, rfl, by rw [Hid, HGS2.out]; unfold methodOK; rw [H1.out, H3.out]; simp, HBr2.out.trans ((HB2.out.trans (hb3.mono HB2.out.size)).mono hzz)⟩
                case measure => simp [intOf]; omega
              · have H3 := Lib.hid h3; clear h3
                go_wp2_with (first
                  | (go_at_call 35; refine (slot_any ⟨me.type, me.name⟩ _ hEa.out ht1 ht2).mono ?_; rw [H1.out]; rintro e w2 ⟨rfl, hb2⟩; obtain ⟨hq2, hf2⟩ := bcell hb2; have hz2 : wr.heap.size < w2.heap.size := (by have := hb2.size; simp at this; omega); have HB2 := Lib.hid (HB0.out.trans (hb2.mono (by simp))); have hP2 := Lib.hid (hPa.out.below hb2 (Nat.le_refl _)); have hE2 := Lib.hid (hEa.out.below hb2 (Nat.le_refl _)); have hS2 := Lib.hid (hSa.out.below hb2 (Nat.le_refl _)))
                  | (go_at_call 34; refine (slots_any me.params _ _ hE2.out hP2.out).mono ?_; rw [H3.out]; rintro e w3 ⟨rfl, hb3⟩; obtain ⟨hq3', hf3⟩ := bcell hb3; have hz3 : wr.heap.size < w3.heap.size := Nat.lt_of_lt_of_le hz2 hb3.size; have HB3 := Lib.hid (HB2.out.trans (hb3.mono HB2.out.size)); have hE3 := Lib.hid (hE2.out.below hb3 (Nat.le_refl _)); have hS3 := Lib.hid (hS2.out.below hb3 (Nat.le_refl _)))
                  | (go_at_call 32; refine (stmts_any me.body _ _ HBU2.out hE3.out hS3.out).mono ?_; rintro e w4 ⟨rfl, hb4⟩))
                go_roundw
                case rel => exact ⟨j + 1, stsOK me.body, by omega, by go_num, by simp, by rw [Hid, HGS2.out]; unfold methodOK; rw [H1.out, H2.out, H3.out]; simp, HBr2.out.trans ((HB3.out.trans (hb4.mono HB3.out.size)).mono hzz)⟩
                case measure => simp [intOf]; omega
            · have h2' : decide (me.params.length ≤ 4) = false := by simpa [← HLP.out] using h2
              have H2 := Lib.hid h2'; clear h2'
              go_wp2_with (first
                | (go_at_call 35; refine (slot_any ⟨me.type, me.name⟩ _ hEa.out ht1 ht2).mono ?_; rw [H1.out]; rintro e w2 ⟨rfl, hb2⟩; obtain ⟨hq2, hf2⟩ := bcell hb2; have hz2 : wr.heap.size < w2.heap.size := (by have := hb2.size; simp at this; omega)))
              go_roundw
              case rel => exact ⟨j + 1, false, by omega, by go_num, rfl, by rw [Hid, HGS2.out]; unfold methodOK; rw [H2.out]; simp, HBr2.out.trans ((HB0.out.trans (hb2.mono (by simp))).mono hzz)⟩
              case measure => simp [intOf]; omega
          · have hfin : g2 = (g0 && (p.classes.take (k + 1)).all classOK) := by
              have h := HG2.out
              rw [List.take_of_length_le (by have := HNM.out; omega)] at h
              rw [HGS.out, h]
            have HFI := Lib.hid hfin; clear hfin
            go_wp2_with fail
            go_roundw
            case rel => exact ⟨k + 1, g2, by omega, by go_num, rfl, HFI, HBr.out.trans (HBr2.out.mono hBr)⟩
            case measure => simp [intOf]; omega
    · cases g
      · have h0 : prOK p = false := by
          have h := HG.out
          rw [List.take_of_length_le (by have := HN.out; omega)] at h
          unfold prOK
          rw [← HG0.out]
          exact h.symm
        have H0 := Lib.hid h0; clear h0
        go_wp2_with fail
        go_ret
        exact ⟨ret_int (by unfold chkN; rw [H0.out]; rfl), HBr.out⟩
      · have h0 : prOK p = true := by
          have h := HG.out
          rw [List.take_of_length_le (by have := HN.out; omega)] at h
          unfold prOK
          rw [← HG0.out]
          exact h.symm
        have H0 := Lib.hid h0; clear h0
        go_wp2_with fail
        go_ret
        exact ⟨ret_int (by unfold chkN; rw [H0.out]; rfl), HBr.out⟩
end Go.Proofs.YtapdgeajbnbdjaaDoor
