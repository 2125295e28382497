/- ref03.method, Text. -/
import Derived.Test.YtapdgeajbnbdjaaDoorRef11
import Derived.Test.YtapdgeajbnbdjaaDoorShow6
namespace Go.Proofs.YtapdgeajbnbdjaaDoor
open Go.RowKit

def meHead (m : Me) : List UInt8 := 9 :: (m.type.data.toList ++ 32 :: m.name.data.toList ++ [40])
theorem methodT_eq (m : Me) : methodT m = meHead m ++ commas (m.params.map slotT) ++ [41, 32, 123, 10] ++ stsT 2 m.body ++ [9, 125, 10] := by simp [methodT, meHead, blockT, tabsT]

set_option maxRecDepth 100000 in
set_option maxHeartbeats 4000000 in
theorem refMethod_any (m : Me) (c : Array Value) (w : World) (hok : methodOK m = true) (hbulk : m.bulk ≤ 2000000) (hR : Me.R w m c) :
    Calls Tryd.prog 28 #[.agg c] w (Ret w (.string ⟨(methodT m).toArray⟩)) := by
  obtain ⟨pv, bv, rfl, ht1, ht2, hP, hBo⟩ := hR
  obtain ⟨ps, ⟨Ap, capp, rfl, hp1, hp2, _, hprows⟩, hPs⟩ := hP
  obtain ⟨bs, ⟨Ab, capb, rfl, _⟩, _⟩ := id hBo
  have hlp := hPs.len
  obtain ⟨NP, hNP⟩ : ∃ NP, NP = ps.length := ⟨_, rfl⟩
  obtain ⟨NB, hNB⟩ : ∃ NB, NB = bs.length := ⟨_, rfl⟩
  rw [← hNP] at hp1 ⊢
  rw [← hNB] at hBo ⊢
  unfold maxLen at hp2
  have hm := hok
  unfold methodOK at hm
  simp only [Bool.and_eq_true] at hm
  have hsts : StR m.body := refStmts_any 2000000 m.body (by unfold Me.bulk at hbulk; omega) (Nat.le_refl _) hm.2.2.2
  have hst2 : ∀ (V : World) (v : Value), Sts.V V m.body v → Calls Tryd.prog 29 #[v, .string ⟨#[9, 9]⟩] V (Ret V (.string ⟨(stsT 2 m.body).toArray⟩)) := fun V v hV => hsts 2 v V hV (by unfold Me.bulk at hbulk; omega)
  have hlen := method_len m hok hbulk
  have hlen2 : (methodT m).length ≤ 100000000000000 := by
    have : 8000600 * m.bulk ≤ 8000600 * 2000000 := Nat.mul_le_mul_left _ hbulk
    omega
  have hml : (methodT m).length = (meHead m).length + (commas (m.params.map slotT)).length + 4 + (stsT 2 m.body).length + 3 := by rw [methodT_eq]; simp only [List.length_append, List.length_cons, List.length_nil]
  have hmh : (meHead m).length = 1 + m.type.size + 1 + m.name.size + 1 := by unfold meHead; simp only [List.length_append, List.length_cons, List.length_nil, ba_len]; omega
  have hbt : m.type.size + m.name.size ≤ 2000000 := by unfold Me.bulk at hbulk; omega
  have hsl : Sls.bulk m.params ≤ 2000000 := by unfold Me.bulk at hbulk; omega
  have l1 : ¬ 9223372036854775807 < 1 + m.type.size := by omega
  have l2 : ¬ 9223372036854775807 < 1 + m.type.size + 1 := by omega
  have l3 : ¬ 9223372036854775807 < 1 + m.type.size + 1 + m.name.size := by omega
  have l4 : ¬ 9223372036854775807 < 1 + m.type.size + 1 + m.name.size + 1 := by omega
  have HPS := Lib.hid hPs; have HNP := Lib.hid (And.intro hNP hlp); have HPR := Lib.hid hprows; have HBO := Lib.hid hBo; have HST := Lib.hid hst2; have HLEN := Lib.hid hlen2; have HML := Lib.hid hml; have HMH := Lib.hid hmh; have HBT := Lib.hid hbt; have HSL := Lib.hid hsl
  clear hPs hNP hNB hlp hprows hBo hst2 hsts hlen hlen2 hml hmh hbt hm hok hbulk hsl
  have HB0 := Lib.hid ((Below.refl w.heap.size w).alloc (Nat.le_refl _) (.cells #[.string m.type, .string m.name, .slice Ap NP capp, .slice Ab NB capb] 62))
  have hnew := new_at w (.cells #[.string m.type, .string m.name, .slice Ap NP capp, .slice Ab NB capb] 62)
  have HNEW := Lib.hid hnew; clear hnew
  go_enter Tryd.func28, Tryd.ntmps28
  go_wp2_with fail
  go_loopw [3, 4, 5, 17] (fun s3 _ _ i wr => ∃ (j : Nat) (O : ByteArray), j ≤ NP ∧ i = .int .i64 j ∧ s3 = .string O ∧ Hid (O.data.toList = meHead m ++ commas ((m.params.take j).map slotT)) ∧ Below (w.alloc (.cells #[.string m.type, .string m.name, .slice Ap NP capp, .slice Ab NB capb] 62)).heap.size (w.alloc (.cells #[.string m.type, .string m.name, .slice Ap NP capp, .slice Ab NB capb] 62)) wr) (fun _ _ _ i _ => NP - (intOf i).toNat)
  case atStart => exact ⟨0, _, Nat.zero_le _, rfl, rfl, by simp [Hid, meHead, commas], Below.refl _ _⟩
  case round =>
    obtain ⟨j, O, hj, rfl, rfl, HO, hbr⟩ := hrel
    have HBr := Lib.hid hbr; clear hbr
    have hBW : Below w.heap.size w wr := HB0.out.trans (HBr.out.mono (by simp))
    have HBW := Lib.hid hBW; clear hBW
    have hz : w.heap.size < wr.heap.size := by have := HBr.out.size; simp at this; omega
    have hcel : ∀ o, wr.cell? ⟨w.heap.size, o, none⟩ = #[Value.string m.type, .string m.name, .slice Ap NP capp, .slice Ab NB capb][o]? := fun o => by
      rw [HBr.out.cell (p := ⟨w.heap.size, o, none⟩) (by simp)]
      exact Lib.cell_of_heap HNEW.out o
    have q3 : wr.cell? ⟨w.heap.size, 3, none⟩ = some (.slice Ab NB capb) := hcel 3
    clear hcel
    by_cases hlt : j < NP
    · have hn1 := HNP.out.1
      have hn2 := HNP.out.2
      obtain ⟨x, hx⟩ : ∃ x, ps[j]? = some x := ⟨ps[j]'(by omega), List.getElem?_eq_getElem _⟩
      obtain ⟨s, hss, hRs⟩ := HPS.out.at_ j x hx
      obtain ⟨bf, off, d0, d1, rfl, hbf, hxx, hr0, hr1⟩ := (HPR.out.below HBW.out (Nat.le_refl _)).at2 hx
      obtain ⟨hcs, hz2, hz3⟩ := hRs
      rw [hxx] at hcs
      obtain ⟨rfl, rfl⟩ := arr2_inj hcs
      have hsb := Sls.bulk_le (List.mem_of_getElem? hss)
      have hsb2 : s.type.size + s.name.size ≤ 2000000 := by have := HSL.out; unfold Sl.bulk at hsb; omega
      have hOs : O.size ≤ 100000000000000 := by
        have h1 : O.size = O.data.toList.length := rfl
        rw [h1, HO.out, List.length_append]
        have h2 := HLEN.out; have h3 := HML.out
        have h4 := commas_take_le (m.params.map slotT) j (slotT s) (by rw [List.getElem?_map, hss]; rfl)
        rw [← List.map_take] at h4
        omega
      have htk : (m.params.take (j + 1)).map slotT = (m.params.take j).map slotT ++ [slotT s] := by rw [List.take_add_one, hss]; simp
      have m1 : ¬ 9223372036854775807 < s.type.size + 1 := by omega
      have m2 : ¬ 9223372036854775807 < s.type.size + 1 + s.name.size := by omega
      have m3 : ¬ 9223372036854775807 < O.size + 2 := by omega
      have m4 : ¬ 9223372036854775807 < O.size + 2 + (s.type.size + 1 + s.name.size) := by omega
      have m5 : ¬ 9223372036854775807 < O.size + (s.type.size + 1 + s.name.size) := by omega
      have hne : 0 < j → (m.params.take j).map slotT ≠ [] := fun h0 hc => by
        rw [List.map_eq_nil_iff] at hc
        have h := congrArg List.length hc
        rw [List.length_take, List.length_nil] at h
        have := HNP.out.1
        have := HNP.out.2
        omega
      have HTK := Lib.hid htk; have HNE := Lib.hid hne
      clear hcs hxx hx hss hn1 hn2 hsb hsb2 htk hOs hne
      by_cases h0 : 0 < j
      · go_wp2_with fail
        go_roundw
        case rel => exact ⟨j + 1, _, by omega, by go_num, rfl, by rw [Hid, HTK.out, commas_snoc _ _ (HNE.out h0)]; simp [HO.out, slotT], HBr.out.alloc HBr.out.size _⟩
        case measure => simp [intOf]; omega
      · obtain rfl : j = 0 := by omega
        simp only [Nat.zero_mul, Nat.add_zero] at hr0 hr1
        go_wp2_with fail
        go_roundw
        case rel => exact ⟨0 + 1, _, by omega, by go_num, rfl, by rw [Hid, HTK.out]; simp [HO.out, slotT, commas], HBr.out.alloc HBr.out.size _⟩
        case measure => simp [intOf]; omega
    · have htake : m.params.take j = m.params := List.take_of_length_le (by have := HNP.out; omega)
      rw [htake] at HO
      have hOl : O.size = (meHead m).length + (commas (m.params.map slotT)).length := by
        have h1 : O.size = O.data.toList.length := rfl
        rw [h1, HO.out, List.length_append]
      have n1 : ¬ 9223372036854775807 < O.size + 4 := by have := HLEN.out; have := HML.out; omega
      have n2 : ¬ 9223372036854775807 < O.size + 4 + (stsT 2 m.body).length := by have := HLEN.out; have := HML.out; omega
      have n3 : ¬ 9223372036854775807 < O.size + 4 + (stsT 2 m.body).length + 3 := by have := HLEN.out; have := HML.out; omega
      clear hOl htake
      go_wp2_with fail
      refine Calls.mono (HST.out _ _ (HBO.out.below HBW.out (Nat.le_refl _))) ?_; rintro e w2 ⟨rfl, hb2⟩
      go_wp2_with fail
      go_ret
      refine ⟨ret_str ?_, HBW.out.trans (hb2.mono HBW.out.size)⟩
      apply ba_ext
      rw [methodT_eq]
      simp [HO.out]

set_option maxRecDepth 100000 in
set_option maxHeartbeats 4000000 in
theorem refText_any' (p : Pr) (c : Array Value) (w : World) (hR : Pr.R w p c) (hbulk : p.bulk ≤ 2000000) :
    Calls Tryd.prog 11 #[.agg c] w fun e w' => e = .returned (.tuple #[.string (prS p), .int .i64 (prN p)]) ∧ Below w.heap.size w w' := by
  have hChk := fun o : Obj => refCheck_any p c (w.alloc o) (hR.below ((Below.refl _ w).alloc (Nat.le_refl _) o) (Nat.le_refl _)) hbulk
  obtain ⟨cv, mv, rfl, hC, hM⟩ := hR
  obtain ⟨ys, ⟨Am, capm, rfl, _⟩, _⟩ := id hM
  obtain ⟨xs, ⟨A, cap, rfl, hc1, hc2, _, hrows⟩, hX⟩ := hC
  have hlx := hX.len
  obtain ⟨N, hN⟩ : ∃ N, N = xs.length := ⟨_, rfl⟩
  rw [← hN] at hc1 hChk ⊢
  unfold maxLen at hc2
  have HM := Lib.hid hM; have HX := Lib.hid hX; have HN := Lib.hid (And.intro hN hlx); have HR := Lib.hid hrows; have HB := Lib.hid hbulk; have HC := Lib.hid hChk
  clear hM hX hN hlx hrows hbulk hChk
  have hA := Below.alloc (Below.refl w.heap.size w) (Nat.le_refl _)
  cases hok : prOK p
  · have hs : prS p = ⟨#[]⟩ := by unfold prS; rw [hok]; rfl
    have hn : prN p = 30 := by unfold prN; rw [hok]; rfl
    have hc : chkN p = 30 := by unfold chkN; rw [hok]; rfl
    rw [hs, hn]
    have HCN := Lib.hid hc
    clear hs hn hc hok
    go_enter Tryd.func11, Tryd.ntmps11
    go_wp2_with fail
    refine (HC.out _).mono ?_; rw [HCN.out]; rintro x w1 ⟨rfl, hb⟩
    go_wp2_with fail
    go_ret2
    exact ⟨rfl, (hA _).trans (hb.mono (by simp))⟩
  · have hs : prS p = doneS (programT p) := by unfold prS; rw [hok]; rfl
    have hn : prN p = doneN (programT p) := by unfold prN; rw [hok]; rfl
    have hc : chkN p = 0 := by unfold chkN; rw [hok]; rfl
    have hlen : (programT p).length ≤ 100000000000000 := program_len p hok HB.out
    have hmok : stsOK p.main = true := by unfold prOK at hok; rw [Bool.and_eq_true] at hok; exact hok.1
    have hst : StR p.main := refStmts_any 2000000 p.main (by have := HB.out; unfold Pr.bulk at this; omega) (Nat.le_refl _) hmok
    have hst1 : ∀ (V : World) (v : Value), Sts.V V p.main v → Calls Tryd.prog 29 #[v, .string ⟨#[9]⟩] V (Ret V (.string ⟨(stsT 1 p.main).toArray⟩)) := fun V v hV => hst 1 v V hV (by have := HB.out; unfold Pr.bulk at this; omega)
    have hpl : programT p = p.classes.flatMap classT ++ ([109, 97, 105, 110, 32, 123, 10] ++ stsT 1 p.main ++ [125, 10]) := by simp [programT, blockT, tabsT]
    have hpn : (programT p).length = (p.classes.flatMap classT).length + (7 + (stsT 1 p.main).length + 2) := by rw [hpl]; simp only [List.length_append, List.length_cons, List.length_nil]
    rw [hs, hn]
    have HCN := Lib.hid hc; have HOK := Lib.hid hok; have HLEN := Lib.hid hlen; have HST := Lib.hid hst1; have HPL := Lib.hid hpl; have HPN := Lib.hid hpn
    clear hs hn hc hok hlen hst hst1 hpl hpn hmok
    go_enter Tryd.func11, Tryd.ntmps11
    go_wp2_with fail
    refine (HC.out _).mono ?_; rw [HCN.out]; rintro x w1 ⟨rfl, hb⟩
    have hz1 : w.heap.size < w1.heap.size := by have := hb.size; simp at this; omega
    have hbox : w1.heap[w.heap.size]? = some (.cells #[.slice A N cap, .slice Am ys.length capm] 33 (0, 0)) := by
      exact below_heap hb (new_at w _)
    have c0 : w1.cell? ⟨w.heap.size, 0, none⟩ = some (.slice A N cap) := by rw [Lib.cell_of_heap hbox]; rfl
    have HBOX := Lib.hid hbox
    have HB1 := Lib.hid ((hA _).trans (hb.mono (by simp)))
    clear hb hbox
    go_wp2_with fail
    go_loopw [5, 7, 9, 11, 20] (fun s5 _ _ _ i wr => ∃ (k : Nat) (O : ByteArray), k ≤ N ∧ i = .int .i64 k ∧ s5 = .string O ∧ Hid (O.data.toList = (p.classes.take k).flatMap classT) ∧ Below w1.heap.size w1 wr) (fun _ _ _ _ i _ => N - (intOf i).toNat)
    case atStart => exact ⟨0, ⟨#[]⟩, Nat.zero_le _, rfl, rfl, by simp [Hid], Below.refl _ _⟩
    case round =>
      obtain ⟨k, O, hk, rfl, rfl, HO, hbr⟩ := hrel
      have HBr := Lib.hid hbr; clear hbr
      have hBW := HB1.out.trans (HBr.out.mono HB1.out.size)
      have HBW := Lib.hid hBW; clear hBW
      have hzr : w.heap.size < wr.heap.size := Nat.lt_of_lt_of_le hz1 HBr.out.size
      have qb : wr.cell? ⟨w.heap.size, 1, none⟩ = some (.slice Am ys.length capm) := by
        rw [Lib.cell_of_heap (below_heap HBr.out HBOX.out)]; rfl
      by_cases hlt : k < N
      · have hn1 := HN.out.1
        have hn2 := HN.out.2
        obtain ⟨x, hx⟩ : ∃ x, xs[k]? = some x := ⟨xs[k]'(by omega), List.getElem?_eq_getElem _⟩
        obtain ⟨cl, hcl, hRc⟩ := HX.out.at_ k x hx
        have hRc := Cl.R.below HBW.out (Nat.le_refl _) _ _ hRc
        obtain ⟨bk, off, d0, d1, d2, d3, rfl, _, hxx, hq0, hq1, hq2, hq3⟩ := (HR.out.below HBW.out (Nat.le_refl _)).at4 hx
        obtain ⟨fv, mv', hcs, hs1, hs2, hF, hMe⟩ := hRc
        rw [hxx] at hcs
        obtain ⟨rfl, rfl, rfl, rfl⟩ := arr4_inj hcs
        obtain ⟨ms, ⟨Am', capm', rfl, hm1, hm2, _, hmrows⟩, hMs⟩ := id hMe
        obtain ⟨fs, ⟨Af, capf, rfl, hf1, hf2, _, hfrows⟩, hFs⟩ := id hF
        have hlm := hMs.len
        have hlf := hFs.len
        obtain ⟨NM, hNM⟩ : ∃ NM, NM = ms.length := ⟨_, rfl⟩
        obtain ⟨NF, hNF⟩ : ∃ NF, NF = fs.length := ⟨_, rfl⟩
        rw [← hNM] at hm1 hq3
        rw [← hNF] at hf1 hq2
        unfold maxLen at hm2 hf2
        have hbu := Cls.bulk_le (List.mem_of_getElem? hcl)
        have hbu2 : cl.bulk ≤ 2000000 := by have := HB.out; unfold Pr.bulk at this; omega
        have hcok : classOK cl = true := by
          have := HOK.out
          unfold prOK at this
          rw [Bool.and_eq_true, List.all_eq_true] at this
          exact this.2 cl (List.mem_of_getElem? hcl)
        have hsp := flat_le classT p.classes k cl hcl
        have hOl : O.size = ((p.classes.take k).flatMap classT).length := by rw [← HO.out]; rfl
        have hspl : O.size + (classT cl).length ≤ 100000000000000 := by have := HLEN.out; have := HPN.out; omega
        have htk := flat_take classT p.classes k cl hcl
        have hcl2 : (classT cl).length = 6 + (cl.name.size + ((superT cl.super).length + ((cl.fields.flatMap fieldT).length + ((cl.methods.flatMap methodT).length + 2) + 3))) := by
          rw [class_form]
          simp only [List.length_append, List.length_cons, List.length_nil, ba_len]
        have l1 : ¬ 9223372036854775807 < 6 + cl.name.size := by omega
        have l2 : ¬ 9223372036854775807 < O.size + (6 + cl.name.size) := by omega
        have HFs := Lib.hid hFs; have HMs := Lib.hid hMs; have HNM := Lib.hid (And.intro hNM hlm); have HNF := Lib.hid (And.intro hNF hlf); have HMR := Lib.hid hmrows; have HFR := Lib.hid hfrows; have HBU := Lib.hid hbu2
        have HS := Lib.hid hspl; have HTK := Lib.hid htk; have HCL := Lib.hid hcl2; have HCOK := Lib.hid hcok
        clear hF hFs hMe hMs hNM hlm hNF hlf hmrows hfrows hbu hbu2 hcs hxx hx hcl hn1 hn2 hsp hspl htk hcl2 hcok hOl
        have hnew := Lib.hid (new_at wr (.cells #[.string cl.name, .string cl.super, .slice Af NF capf, .slice Am' NM capm'] 57))
        have hBn := Lib.hid ((Below.refl wr.heap.size wr).alloc (Nat.le_refl _) (.cells #[.string cl.name, .string cl.super, .slice Af NF capf, .slice Am' NM capm'] 57))
        go_upto_if 31 with fail
        go_cut [5] (fun s5 wx => ∃ O1 : ByteArray, s5 = .string O1 ∧ Hid (O1.data.toList = O.data.toList ++ [99, 108, 97, 115, 115, 32] ++ cl.name.data.toList ++ superT cl.super) ∧ wx = wr.alloc (.cells #[.string cl.name, .string cl.super, .slice Af NF capf, .slice Am' NM capm'] 57))
        case first =>
          by_cases hsup : cl.super.toList = []
          · have hse : superT cl.super = [] := by unfold superT; rw [if_pos hsup]
            have HSE := Lib.hid hse; clear hse
            rw [show (!cl.super.toList.isEmpty) = false by simp [hsup]]
            clear hsup
            go_wp2_with fail
            go_meet
            exact ⟨_, rfl, by rw [Hid, HSE.out]; simp, rfl⟩
          · have hse : superT cl.super = [32, 101, 120, 116, 101, 110, 100, 115, 32] ++ cl.super.data.toList := by unfold superT; rw [if_neg hsup]
            have hsl : (superT cl.super).length = 9 + cl.super.size := by rw [hse]; simp only [List.length_append, List.length_cons, List.length_nil, ba_len]
            have l3 : ¬ 9223372036854775807 < 9 + cl.super.size := by have := HS.out; have := HCL.out; omega
            have l4 : ¬ 9223372036854775807 < O.size + (6 + cl.name.size) + (9 + cl.super.size) := by have := HS.out; have := HCL.out; omega
            have HSE := Lib.hid hse; clear hse hsl
            rw [show (!cl.super.toList.isEmpty) = true by simp [hsup]]
            clear hsup
            go_wp2_with fail
            go_meet
            exact ⟨_, rfl, by rw [Hid, HSE.out]; simp, rfl⟩
        case rest =>
          obtain ⟨O1, rfl, HO1, rfl⟩ := hcut
          obtain ⟨kb, hkb⟩ : ∃ kb, kb = wr.heap.size := ⟨_, rfl⟩
          rw [← hkb] at hnew
          rw [← hkb]
          have qf : (wr.alloc (.cells #[.string cl.name, .string cl.super, .slice Af NF capf, .slice Am' NM capm'] 57)).cell? ⟨kb, 2, none⟩ = some (.slice Af NF capf) := by rw [Lib.cell_of_heap hnew.out]; rfl
          have hkz : kb < (wr.alloc (.cells #[.string cl.name, .string cl.super, .slice Af NF capf, .slice Am' NM capm'] 57)).heap.size := heap_lt hnew.out
          have HKB := Lib.hid hkb; clear hkb
          have hO1 : O1.size = O.size + 6 + cl.name.size + (superT cl.super).length := by
            have h1 : O1.size = O1.data.toList.length := rfl
            rw [h1, HO1.out]; simp only [List.length_append, List.length_cons, List.length_nil, ba_len]
          have l5 : ¬ 9223372036854775807 < O1.size + 3 := by have := HS.out; have := HCL.out; omega
          have HO1s := Lib.hid hO1; clear hO1
          go_wp2_with fail
          go_loopw [5, 9, 42] (fun s5 _ i wx => ∃ (j : Nat) (O2 : ByteArray), j ≤ NF ∧ i = .int .i64 j ∧ s5 = .string O2 ∧ Hid (O2.data.toList = O1.data.toList ++ [32, 123, 10] ++ (cl.fields.take j).flatMap fieldT) ∧ Below (wr.alloc (.cells #[.string cl.name, .string cl.super, .slice Af NF capf, .slice Am' NM capm'] 57)).heap.size (wr.alloc (.cells #[.string cl.name, .string cl.super, .slice Af NF capf, .slice Am' NM capm'] 57)) wx) (fun _ _ i _ => NF - (intOf i).toNat)
          case atStart => exact ⟨0, _, Nat.zero_le _, rfl, rfl, by simp [Hid], Below.refl _ _⟩
          case round =>
            obtain ⟨j, O2, hj, rfl, rfl, HO2, hbr2⟩ := hrel
            have HBr2 := Lib.hid hbr2; clear hbr2
            have HB2 := Lib.hid (hBn.out.trans (HBr2.out.mono hBn.out.size))
            have HW2 := Lib.hid (HBW.out.trans (HB2.out.mono HBW.out.size))
            by_cases hlt2 : j < NF
            · have hn1 := HNF.out.1
              have hn2 := HNF.out.2
              obtain ⟨x, hx⟩ : ∃ x, fs[j]? = some x := ⟨fs[j]'(by omega), List.getElem?_eq_getElem _⟩
              obtain ⟨s, hss, hRs⟩ := HFs.out.at_ j x hx
              obtain ⟨bf, off2, e0, e1, rfl, _, hxx, hr0, hr1⟩ := (HFR.out.below HB2.out (Nat.le_refl _)).at2 hx
              obtain ⟨hcs, hz2, hz3⟩ := hRs
              rw [hxx] at hcs
              obtain ⟨rfl, rfl⟩ := arr2_inj hcs
              have hfl := flat_le fieldT cl.fields j s hss
              have hft := flat_take fieldT cl.fields j s hss
              have hfs : (fieldT s).length = 1 + s.type.size + 1 + s.name.size + 2 := by unfold fieldT; simp only [List.length_append, List.length_cons, List.length_nil, slotT_len]; omega
              have hO2 : O2.size = O1.size + 3 + ((cl.fields.take j).flatMap fieldT).length := by
                have h1 : O2.size = O2.data.toList.length := rfl
                rw [h1, HO2.out]; simp only [List.length_append, List.length_cons, List.length_nil, ba_len]
              have hO2s : O2.size + (1 + s.type.size + 1 + s.name.size + 2) ≤ 100000000000000 := by have := HS.out; have := HCL.out; have := HO1s.out; omega
              have m1 : ¬ 9223372036854775807 < 1 + s.type.size := by omega
              have m2 : ¬ 9223372036854775807 < 1 + s.type.size + 1 := by omega
              have m3 : ¬ 9223372036854775807 < 1 + s.type.size + 1 + s.name.size := by omega
              have m4 : ¬ 9223372036854775807 < 1 + s.type.size + 1 + s.name.size + 2 := by omega
              have m5 : ¬ 9223372036854775807 < O2.size + (1 + s.type.size + 1 + s.name.size + 2) := by omega
              have HFT := Lib.hid hft
              clear hcs hxx hx hss hn1 hn2 hfl hft hfs hO2 hO2s
              go_wp2_with fail
              go_roundw
              case rel => exact ⟨j + 1, _, by omega, by go_num, rfl, by rw [Hid, HFT.out]; simp [HO2.out, fieldT, slotT], HBr2.out.alloc HBr2.out.size _⟩
              case measure => simp [intOf]; omega
            · have htake : cl.fields.take j = cl.fields := List.take_of_length_le (by have := HNF.out; omega)
              rw [htake] at HO2
              clear htake
              have qm : wr.cell? ⟨kb, 3, none⟩ = some (.slice Am' NM capm') := by
                rw [Lib.cell_of_heap (below_heap HBr2.out hnew.out)]; rfl
              have hzk : kb < wr.heap.size := heap_lt (below_heap HBr2.out hnew.out)
              go_wp2_with fail
              go_loopw [5, 11, 60] (fun s5 _ i wx => ∃ (j : Nat) (O3 : ByteArray), j ≤ NM ∧ i = .int .i64 j ∧ s5 = .string O3 ∧ Hid (O3.data.toList = O2.data.toList ++ (cl.methods.take j).flatMap methodT) ∧ Below wr.heap.size wr wx) (fun _ _ i _ => NM - (intOf i).toNat)
              case atStart => exact ⟨0, _, Nat.zero_le _, rfl, rfl, by simp [Hid], Below.refl _ _⟩
              case round =>
                obtain ⟨j', O3, hj', rfl, rfl, HO3, hbr3⟩ := hrel
                have HBr3 := Lib.hid hbr3; clear hbr3
                have HB3 := Lib.hid (HB2.out.trans (HBr3.out.mono HB2.out.size))
                have hO3 : O3.size = O1.size + 3 + (cl.fields.flatMap fieldT).length + ((cl.methods.take j').flatMap methodT).length := by
                  have h1 : O3.size = O3.data.toList.length := rfl
                  rw [h1, HO3.out, HO2.out]; simp only [List.length_append, List.length_cons, List.length_nil, ba_len]
                by_cases hlt3 : j' < NM
                · have hn1 := HNM.out.1
                  have hn2 := HNM.out.2
                  obtain ⟨x, hx⟩ : ∃ x, ms[j']? = some x := ⟨ms[j']'(by omega), List.getElem?_eq_getElem _⟩
                  obtain ⟨me, hme, hRm⟩ := HMs.out.at_ j' x hx
                  have hRm := Me.R.below HB3.out (Nat.le_refl _) _ _ hRm
                  obtain ⟨bm, off3, e0, e1, e2, e3, rfl, _, hxx, hr0, hr1, hr2, hr3⟩ := (HMR.out.below HB3.out (Nat.le_refl _)).at4 hx
                  have hRm' := hRm
                  obtain ⟨pv, bv, hcs, ht1, ht2, hP, hBo⟩ := hRm'
                  rw [hxx] at hcs
                  obtain ⟨rfl, rfl, rfl, rfl⟩ := arr4_inj hcs
                  obtain ⟨ps, ⟨Ap, capp, rfl, _⟩, _⟩ := hP
                  obtain ⟨bs, ⟨Ab, capb, rfl, _⟩, _⟩ := hBo
                  subst hxx
                  have hbu := Mes.bulk_le (List.mem_of_getElem? hme)
                  have hbu2 : me.bulk ≤ 2000000 := by have := HBU.out; unfold Cl.bulk at this; omega
                  have hok : methodOK me = true := by
                    have := HCOK.out
                    unfold classOK at this
                    rw [Bool.and_eq_true, List.all_eq_true] at this
                    exact this.2 me (List.mem_of_getElem? hme)
                  have hml := flat_le methodT cl.methods j' me hme
                  have hmt := flat_take methodT cl.methods j' me hme
                  have hcall := fun o => refMethod_any me _ (wr.alloc o) hok hbu2 (Me.R.below ((Below.refl wr.heap.size wr).alloc (Nat.le_refl _) o) (Nat.le_refl _) me _ hRm)
                  have m1 : ¬ 9223372036854775807 < O3.size + (methodT me).length := by have := HS.out; have := HCL.out; have := HO1s.out; omega
                  have HMT := Lib.hid hmt; have HCA := Lib.hid hcall
                  clear hx hme hRm hbu hbu2 hok hml hmt hcall hn1 hn2 hO3
                  go_wp2_with fail
                  refine Calls.mono (HCA.out _) ?_; rintro e w5 ⟨rfl, hb5⟩
                  go_wp2_with fail
                  go_roundw
                  case rel => exact ⟨j' + 1, _, by omega, by go_num, rfl, by rw [Hid, HMT.out]; simp [HO3.out], HBr3.out.trans (((Below.refl wr.heap.size wr).alloc (Nat.le_refl _) _ |>.trans (hb5.mono (by simp))).mono HBr3.out.size)⟩
                  case measure => simp [intOf]; omega
                · have htake : cl.methods.take j' = cl.methods := List.take_of_length_le (by have := HNM.out; omega)
                  rw [htake] at HO3 hO3
                  have m1 : ¬ 9223372036854775807 < O3.size + 2 := by have := HS.out; have := HCL.out; have := HO1s.out; omega
                  have hce : classT cl = [99, 108, 97, 115, 115, 32] ++ (cl.name.data.toList ++ (superT cl.super ++ ([32, 123, 10] ++ (cl.fields.flatMap fieldT ++ (cl.methods.flatMap methodT ++ [125, 10]))))) := by rw [class_form]; simp
                  have HCE := Lib.hid hce
                  clear hce htake hO3
                  go_wp2_with fail
                  go_roundw
                  case rel => exact ⟨k + 1, _, by omega, by go_num, rfl, by rw [Hid, HTK.out, HCE.out]; simp [HO3.out, HO2.out, HO1.out, HO.out], HBr.out.trans (HB3.out.mono HBr.out.size)⟩
                  case measure => simp [intOf]; omega
      · have htake : p.classes.take k = p.classes := List.take_of_length_le (by have := HN.out; omega)
        rw [htake] at HO
        have hOl : O.size = (p.classes.flatMap classT).length := by rw [← HO.out]; rfl
        have m1 : ¬ 9223372036854775807 < 7 + (stsT 1 p.main).length := by have := HLEN.out; have := HPN.out; omega
        have m2 : ¬ 9223372036854775807 < 7 + (stsT 1 p.main).length + 2 := by have := HLEN.out; have := HPN.out; omega
        have m3 : ¬ 9223372036854775807 < O.size + (7 + (stsT 1 p.main).length + 2) := by have := HLEN.out; have := HPN.out; omega
        have hpn : (programT p).length = O.size + (7 + (stsT 1 p.main).length + 2) := by have := HPN.out; omega
        have HPQ := Lib.hid hpn
        clear htake hOl hpn
        go_wp2_with fail
        refine Calls.mono (HST.out _ _ (HM.out.below HBW.out (Nat.le_refl _))) ?_; rintro e w5 ⟨rfl, hb5⟩
        by_cases hbig : 8192 < O.size + (7 + (stsT 1 p.main).length + 2)
        · have hds : doneS (programT p) = ⟨#[]⟩ := by unfold doneS; rw [if_pos (by have := HPQ.out; omega)]
          have hdn : doneN (programT p) = 2 := by unfold doneN; rw [if_pos (by have := HPQ.out; omega)]
          have HDS := Lib.hid hds; have HDN := Lib.hid hdn
          clear hds hdn
          go_wp2_with fail
          go_ret2
          exact ⟨by rw [HDS.out, HDN.out]; rfl, HBW.out.trans (hb5.mono HBW.out.size)⟩
        · have hds : doneS (programT p) = O ++ (⟨#[109, 97, 105, 110, 32, 123, 10]⟩ ++ ⟨(stsT 1 p.main).toArray⟩ ++ ⟨#[125, 10]⟩) := by
            unfold doneS
            rw [if_neg (by have := HPQ.out; omega)]
            apply ba_ext
            rw [HPL.out]; simp [HO.out]
          have hdn : doneN (programT p) = 0 := by unfold doneN; rw [if_neg (by have := HPQ.out; omega)]
          have HDS := Lib.hid hds; have HDN := Lib.hid hdn
          clear hds hdn
          go_wp2_with fail
          go_ret2
          exact ⟨by rw [HDS.out, HDN.out]; rfl, HBW.out.trans (hb5.mono HBW.out.size)⟩
end Go.Proofs.YtapdgeajbnbdjaaDoor
