/- ref03.stmts. (gen_ref11.py) -/
import Derived.Test.YtapdgeajbnbdjaaDoorRef10
import Derived.Test.YtapdgeajbnbdjaaDoorRef8
import Derived.Test.YtapdgeajbnbdjaaDoorApart5
namespace Go.Proofs.YtapdgeajbnbdjaaDoor
open Go.RowKit

def StR (l : List St) : Prop := ∀ (t : Nat) (v : Value) (W : World), Sts.V W l v → t + Sts.bulk l ≤ 4000000 → Calls Tryd.prog 29 #[v, .string ⟨(tabsT t).toArray⟩] W (Ret W (.string ⟨(stsT t l).toArray⟩))
theorem tabs_more (t : Nat) : (⟨(tabsT t).toArray⟩ : ByteArray) ++ ⟨#[9]⟩ = ⟨(tabsT (t + 1)).toArray⟩ := by
  rw [show (⟨#[9]⟩ : ByteArray) = ⟨[9].toArray⟩ from rfl, ba_app]
  congr 2
  unfold tabsT; rw [List.replicate_succ']

set_option maxRecDepth 100000 in
set_option maxHeartbeats 8000000 in
theorem sts_step (l : List St) (hok : stsOK l = true) (hbulk : Sts.bulk l ≤ 2000000) (ih : ∀ s, s ∈ l → StR s.thn ∧ StR s.els) : StR l := by
  intro t v w hv hT
  obtain ⟨xs, ⟨A, cap, rfl, hc1, hc2, _, hrows⟩, hR⟩ := hv
  have hR' := (Sts.R.all2 l xs).1 hR
  have hlx := hR'.len
  obtain ⟨N, hN⟩ : ∃ N, N = xs.length := ⟨_, rfl⟩
  rw [← hN] at hc1 ⊢
  unfold maxLen at hc2
  have htot := stsT_len 4000000 l t hok hT
  have htot2 : (stsT t l).length ≤ 1000000000000000 := by
    have : (4 * 4000000 + 200) * Sts.bulk l ≤ (4 * 4000000 + 200) * 2000000 := Nat.mul_le_mul_left _ hbulk
    omega
  have htl := tabsT_len t
  have ht4 : (tabsT t).length ≤ 4000000 := by omega
  have HX := Lib.hid hR'; have HN := Lib.hid (And.intro hN hlx); have HR := Lib.hid hrows; have HB := Lib.hid hbulk; have HI := Lib.hid ih; have HTT := Lib.hid htot2; have HOK := Lib.hid hok; have HT4 := Lib.hid ht4; have HTB := Lib.hid hT
  clear hR hR' hN hlx hrows hbulk ih htot htot2 hok htl ht4 hT
  have ht1 : ¬ 9223372036854775807 < (tabsT t).length + 1 := by have := HT4.out; omega
  go_enter Tryd.func29, Tryd.ntmps29
  go_wp2_with fail
  go_loopw [5, 7, 10] (fun s5 _ i wr => ∃ (k : Nat) (O : ByteArray), k ≤ N ∧ i = .int .i64 k ∧ s5 = .string O ∧ Hid (O.data.toList = stsT t (l.take k)) ∧ Below w.heap.size w wr) (fun _ _ i _ => N - (intOf i).toNat)
  case atStart => exact ⟨0, ⟨#[]⟩, Nat.zero_le _, rfl, rfl, by simp [Hid, stsT], Below.refl _ _⟩
  case round =>
    obtain ⟨k, O, hk, rfl, rfl, HO, hbr⟩ := hrel
    have HBr := Lib.hid hbr; clear hbr
    have hBr := HBr.out.size
    by_cases hlt : k < N
    · have hn1 := HN.out.1
      have hn2 := HN.out.2
      obtain ⟨x, hx⟩ : ∃ x, xs[k]? = some x := ⟨xs[k]'(by omega), List.getElem?_eq_getElem _⟩
      obtain ⟨s, hss, hRs⟩ := HX.out.at_ k x hx
      have hRs := St.R.below HBr.out (Nat.le_refl _) _ _ hRs
      obtain ⟨bk, off, c0, c1, c2, c3, c4, c5, c6, rfl, _, hxx, hq0, hq1, hq2, hq3, hq4, hq5, hq6⟩ := (HR.out.below HBr.out (Nat.le_refl _)).at7 hx
      have hsp := stsT_le t l k s hss
      have htk := stsT_take t l k s hss
      have hih := HI.out s (List.mem_of_getElem? hss)
      have hsok : stmtOK s = true := by have := HOK.out; rw [stsOK_all, List.all_eq_true] at this; exact this s (List.mem_of_getElem? hss)
      have hbu := Sts.bulk_le (List.mem_of_getElem? hss)
      have hbb := HB.out
      have hTB := HTB.out
      have hOs : O.size = (stsT t (l.take k)).length := by rw [← HO.out]; rfl
      have hsz : O.size + (stT t s).length ≤ 1000000000000000 := by have := HTT.out; omega
      obtain ⟨O', hO'⟩ : ∃ O', O ++ ⟨(tabsT t).toArray⟩ = O' := ⟨_, rfl⟩
      have hO'd : O'.data.toList = stsT t (l.take k) ++ tabsT t := by rw [← hO', ← HO.out]; simp
      have hO's : O'.size = O.size + (tabsT t).length := by rw [← hO']; simp [ByteArray.size_append]; rfl
      have h0 : ¬ 9223372036854775807 < O.size + (tabsT t).length := by have := HT4.out; omega
      have HSZ := Lib.hid hsz; have HTK := Lib.hid htk; have HOD := Lib.hid hO'd; have HOS := Lib.hid hO's
      clear hsp htk hsz hOs hO'd hO's
      cases s with
      | mk sk sn sty snm es al bl =>
        simp only [St.R] at hRs
        obtain ⟨ev, av, bv, hcs, hk1, hk2, hsz1, hsz2, ⟨ex, hev, hex⟩, hva, hvb⟩ := hRs
        have hva : Sts.V wr al av := hva
        have hvb : Sts.V wr bl bv := hvb
        rw [hxx] at hcs
        obtain ⟨rfl, rfl, rfl, rfl, rfl, rfl, rfl⟩ := arr7_inj hcs
        obtain ⟨z1, z7, p1, p2, p3, p4, p5, p6, p7, -, p9, p10⟩ := st_parts hsok
        have hle := ((Exs.R.all2 es ex).1 hex).len
        obtain ⟨Ae, cape, rfl, he1, he2, _, herows⟩ := hev
        obtain ⟨ya, ⟨Aa, capa, rfl, _⟩, hya⟩ := id hva
        obtain ⟨yb, ⟨Ab, capb, rfl, _⟩, hyb⟩ := id hvb
        have hlb := ((Sts.R.all2 bl yb).1 hyb).len
        simp only [St.bulk] at hbu
        have hA : ∀ (V : World) (v : Value), Sts.V V al v → Calls Tryd.prog 29 #[v, .string ((⟨(tabsT t).toArray⟩ : ByteArray) ++ ⟨#[9]⟩)] V (Ret V (.string ⟨(stsT (t + 1) al).toArray⟩)) := fun V v hV => by
          rw [tabs_more]; exact hih.1 (t + 1) v V hV (by show t + 1 + Sts.bulk al ≤ _; omega)
        have hB : ∀ (V : World) (v : Value), Sts.V V bl v → Calls Tryd.prog 29 #[v, .string ((⟨(tabsT t).toArray⟩ : ByteArray) ++ ⟨#[9]⟩)] V (Ret V (.string ⟨(stsT (t + 1) bl).toArray⟩)) := fun V v hV => by
          rw [tabs_more]; exact hih.2 (t + 1) v V hV (by show t + 1 + Sts.bulk bl ≤ _; omega)
        have hE : ∀ e, e ∈ es → TextR e := fun e he => reftext_any e.bulk e (Nat.le_refl _) (by have := Exs.bulk_le he; omega) (exsOK_mem p7 e he)
        have hEl : ∀ e, e ∈ es → (exT e).length ≤ 1000000000 := fun e he => by have := exT_len e (exsOK_mem p7 e he); have := Exs.bulk_le he; omega
        have hAl : (stsT (t + 1) al).length ≤ 1000000000000000 := by
          have := stsT_len 4000000 al (t + 1) p9 (by omega)
          have : (4 * 4000000 + 200) * Sts.bulk al ≤ (4 * 4000000 + 200) * 2000000 := Nat.mul_le_mul_left _ (by omega)
          omega
        have hBl : (stsT (t + 1) bl).length ≤ 1000000000000000 := by
          have := stsT_len 4000000 bl (t + 1) p10 (by omega)
          have : (4 * 4000000 + 200) * Sts.bulk bl ≤ (4 * 4000000 + 200) * 2000000 := Nat.mul_le_mul_left _ (by omega)
          omega
        have hkid : ∀ i e, es[i]? = some e → _ := fun i e he => kid_facts (Nat.le_refl _) herows hex i e he
        obtain ⟨NE, hNE⟩ : ∃ NE, NE = ex.length := ⟨_, rfl⟩
        obtain ⟨NA, hNA⟩ : ∃ NA, NA = ya.length := ⟨_, rfl⟩
        obtain ⟨NB, hNB⟩ : ∃ NB, NB = yb.length := ⟨_, rfl⟩
        rw [← hNE] at he1 hq4
        rw [← hNA] at hq5 hva
        rw [← hNB] at hq6 hvb
        unfold maxLen at he2
        have hNE2 : NE = es.length := by omega
        have hNB2 : NB = bl.length := by omega
        have hOb : O'.size ≤ 2000000000000000 := by have := HOS.out; have := HSZ.out; have := HT4.out; omega
        have hst : sty.size + snm.size ≤ 2000000 := by omega
        have HA := Lib.hid hA; have HBB := Lib.hid hB; have HE := Lib.hid hE; have HEL := Lib.hid hEl; have HAL := Lib.hid hAl; have HBL := Lib.hid hBl; have HVA := Lib.hid hva; have HVB := Lib.hid hvb; have HKID := Lib.hid hkid; have HNE := Lib.hid hNE2; have HNB := Lib.hid hNB2; have HOB := Lib.hid hOb; have HST := Lib.hid hst; have HN64 := Lib.hid hk2
        clear hA hB hE hEl hAl hBl hva hvb hkid hNE hNA hNB hNE2 hNB2 hlb hle hOb hst hih hbu hbb hTB hsok hex herows hya hyb hcs hxx hx hss hn1 hn2 hsz1 hsz2 hk2 hk1
        have one : ∀ {es : List Ex}, es.length = manyOf sk es.length → sk ≠ 1 → sk ≠ 2 → ∃ e, es = [e] := fun {es} h a b => by
          unfold manyOf at h
          simp [a, b] at h
          match es, h with
          | [e], _ => exact ⟨e, rfl⟩
        have hcases : sk = 1 ∨ sk = 2 ∨ sk = 3 ∨ sk = 4 ∨ sk = 5 ∨ sk = 6 ∨ sk = 7 := by omega
        rcases hcases with rfl | rfl | rfl | rfl | rfl | rfl | rfl
        · have hes : es = [] ∨ ∃ e, es = [e] := by
            match es, p4 with
            | [], _ => exact .inl rfl
            | [e], _ => exact .inr ⟨e, rfl⟩
            | _ :: _ :: _, h => simp [manyOf] at h
          have l0 : ¬ 9223372036854775807 < sty.size + 1 := by have a1 := HOB.out; have a2 := HT4.out; have a3 := HAL.out; have a4 := HBL.out; have a5 := HST.out; omega
          have l1 : ¬ 9223372036854775807 < sty.size + 1 + snm.size := by have a1 := HOB.out; have a2 := HT4.out; have a3 := HAL.out; have a4 := HBL.out; have a5 := HST.out; omega
          have l2 : ¬ 9223372036854775807 < O'.size + (sty.size + 1 + snm.size) := by have a1 := HOB.out; have a2 := HT4.out; have a3 := HAL.out; have a4 := HBL.out; have a5 := HST.out; omega
          rcases hes with rfl | ⟨e0, rfl⟩
          · have hm0 : NE < 1 := by have := HNE.out; simp at this; omega
            have m0 : ¬ 9223372036854775807 < O'.size + (sty.size + 1 + snm.size) + 2 := by have a1 := HOB.out; have a2 := HT4.out; have a3 := HAL.out; have a4 := HBL.out; have a5 := HST.out; omega
            have htx : stT t (.mk 1 sn sty snm [] al bl) = tabsT t ++ (sty.data.toList ++ 32 :: snm.data.toList ++ [59, 10]) := by simp [stT, blockT, listT_one, at_one]
            have HTX := Lib.hid htx; clear htx
            go_wp2_with fail
            go_roundw
            case rel => exact ⟨k + 1, _, by omega, by go_num, rfl, by rw [Hid, HTK.out, HTX.out]; simp [HOD.out, blockT, List.append_assoc, at_one, listT_one], HBr.out.trans (((Below.refl wr.heap.size wr).alloc (Nat.le_refl _) _).mono hBr)⟩
            case measure => simp [intOf]; omega
          · have hm0 : 0 < NE := by have := HNE.out; simp at this; omega
            have m0 : ¬ 9223372036854775807 < 3 + (exT e0).length := by have a1 := HOB.out; have a2 := HT4.out; have a3 := HAL.out; have a4 := HBL.out; have a5 := HST.out; have be0 := HEL.out e0 (by simp); omega
            have m1 : ¬ 9223372036854775807 < O'.size + (sty.size + 1 + snm.size) + (3 + (exT e0).length) := by have a1 := HOB.out; have a2 := HT4.out; have a3 := HAL.out; have a4 := HBL.out; have a5 := HST.out; have be0 := HEL.out e0 (by simp); omega
            have m2 : ¬ 9223372036854775807 < O'.size + (sty.size + 1 + snm.size) + (3 + (exT e0).length) + 2 := by have a1 := HOB.out; have a2 := HT4.out; have a3 := HAL.out; have a4 := HBL.out; have a5 := HST.out; have be0 := HEL.out e0 (by simp); omega
            obtain ⟨k00, k01, k02, k0A, k0n, k0c, be0, of0, hA0, hR0, hc0⟩ := HKID.out 0 e0 rfl
            subst hA0
            have HR0 := Lib.hid hR0; clear hR0
            have j0 := hc0 wr (Below.refl _ _)
            have j0b := j0.1
            have j00 : wr.cell? ⟨be0, of0, none⟩ = some (.int .i64 k00) := by simpa using j0.2.1
            have j01 : wr.cell? ⟨be0, of0 + 1, none⟩ = some (.int .i64 k01) := by simpa using j0.2.2.1
            have j02 : wr.cell? ⟨be0, of0 + 2, none⟩ = some (.string k02) := by simpa using j0.2.2.2.1
            have j03 : wr.cell? ⟨be0, of0 + 3, none⟩ = some (.slice k0A k0n k0c) := by simpa using j0.2.2.2.2
            clear j0
            have htx : stT t (.mk 1 sn sty snm [e0] al bl) = tabsT t ++ (sty.data.toList ++ 32 :: snm.data.toList ++ ([32, 61, 32] ++ exT e0) ++ [59, 10]) := by simp [stT, blockT, listT_one, at_one]
            have HTX := Lib.hid htx; clear htx
            have HE0 := Lib.hid (HE.out e0 (by simp))
            go_wp2_with fail
            refine (HE0.out _ _ (Ex.R.below ((Below.refl wr.heap.size wr).alloc (Nat.le_refl _) _) (Nat.le_refl _) e0 _ HR0.out)).mono ?_; rintro e w1 ⟨rfl, hb1⟩
            go_wp2_with fail
            go_roundw
            case rel => exact ⟨k + 1, _, by omega, by go_num, rfl, by rw [Hid, HTK.out, HTX.out]; simp [HOD.out, blockT, List.append_assoc, at_one, listT_one], HBr.out.trans ((((Below.refl wr.heap.size wr).alloc (Nat.le_refl _) _).trans (hb1.mono (by simp))).mono hBr)⟩
            case measure => simp [intOf]; omega
        · obtain ⟨e0, e1, rfl⟩ := two_of (show es.length = 2 by simpa [manyOf] using p4)
          have hm0 : 0 < NE := by have := HNE.out; simp at this; omega
          have hm1 : (1 : Int) < (NE : Int) := by have := HNE.out; simp at this; omega
          have hm1n : 1 < NE := by omega
          have l0 : ¬ 9223372036854775807 < (exT e0).length + 3 := by have a1 := HOB.out; have a2 := HT4.out; have a3 := HAL.out; have a4 := HBL.out; have a5 := HST.out; have be0 := HEL.out e0 (by simp); have be1 := HEL.out e1 (by simp); omega
          have l1 : ¬ 9223372036854775807 < (exT e0).length + 3 + (exT e1).length := by have a1 := HOB.out; have a2 := HT4.out; have a3 := HAL.out; have a4 := HBL.out; have a5 := HST.out; have be0 := HEL.out e0 (by simp); have be1 := HEL.out e1 (by simp); omega
          have l2 : ¬ 9223372036854775807 < (exT e0).length + 3 + (exT e1).length + 2 := by have a1 := HOB.out; have a2 := HT4.out; have a3 := HAL.out; have a4 := HBL.out; have a5 := HST.out; have be0 := HEL.out e0 (by simp); have be1 := HEL.out e1 (by simp); omega
          have l3 : ¬ 9223372036854775807 < O'.size + ((exT e0).length + 3 + (exT e1).length + 2) := by have a1 := HOB.out; have a2 := HT4.out; have a3 := HAL.out; have a4 := HBL.out; have a5 := HST.out; have be0 := HEL.out e0 (by simp); have be1 := HEL.out e1 (by simp); omega
          obtain ⟨k00, k01, k02, k0A, k0n, k0c, be0, of0, hA0, hR0, hc0⟩ := HKID.out 0 e0 rfl
          subst hA0
          obtain ⟨k10, k11, k12, k1A, k1n, k1c, be1, of1, hA1, hR1, hc1⟩ := HKID.out 1 e1 rfl
          injection hA1 with hA1
          injection hA1 with hb1 ho1
          subst hb1; subst ho1
          have HR0 := Lib.hid hR0; have HR1 := Lib.hid hR1; clear hR0 hR1
          have HIn : Hid (∀ q : In (wr.alloc (.cells #[.int .i64 2, .int .i64 sn, .string sty, .string snm, .slice (some ⟨be0, of0, none⟩) NE cape, .slice Aa NA capa, .slice Ab NB capb] 39)), Below wr.heap.size wr q.W) := Lib.hid (fun q => box_in q)
          have x0b : ∀ q : In (wr.alloc (.cells #[.int .i64 2, .int .i64 sn, .string sty, .string snm, .slice (some ⟨be0, of0, none⟩) NE cape, .slice Aa NA capa, .slice Ab NB capb] 39)), be0 < q.W.heap.size := fun q => (hc0 _ (HIn.out q)).1
          have x00 : ∀ q : In (wr.alloc (.cells #[.int .i64 2, .int .i64 sn, .string sty, .string snm, .slice (some ⟨be0, of0, none⟩) NE cape, .slice Aa NA capa, .slice Ab NB capb] 39)), q.W.cell? ⟨be0, of0, none⟩ = some (.int .i64 k00) := fun q => by simpa using (hc0 _ (HIn.out q)).2.1
          have x01 : ∀ q : In (wr.alloc (.cells #[.int .i64 2, .int .i64 sn, .string sty, .string snm, .slice (some ⟨be0, of0, none⟩) NE cape, .slice Aa NA capa, .slice Ab NB capb] 39)), q.W.cell? ⟨be0, of0 + 1, none⟩ = some (.int .i64 k01) := fun q => by simpa using (hc0 _ (HIn.out q)).2.2.1
          have x02 : ∀ q : In (wr.alloc (.cells #[.int .i64 2, .int .i64 sn, .string sty, .string snm, .slice (some ⟨be0, of0, none⟩) NE cape, .slice Aa NA capa, .slice Ab NB capb] 39)), q.W.cell? ⟨be0, of0 + 2, none⟩ = some (.string k02) := fun q => by simpa using (hc0 _ (HIn.out q)).2.2.2.1
          have x03 : ∀ q : In (wr.alloc (.cells #[.int .i64 2, .int .i64 sn, .string sty, .string snm, .slice (some ⟨be0, of0, none⟩) NE cape, .slice Aa NA capa, .slice Ab NB capb] 39)), q.W.cell? ⟨be0, of0 + 3, none⟩ = some (.slice k0A k0n k0c) := fun q => by simpa using (hc0 _ (HIn.out q)).2.2.2.2
          have x1b : ∀ q : In (wr.alloc (.cells #[.int .i64 2, .int .i64 sn, .string sty, .string snm, .slice (some ⟨be0, of0, none⟩) NE cape, .slice Aa NA capa, .slice Ab NB capb] 39)), be0 < q.W.heap.size := fun q => (hc1 _ (HIn.out q)).1
          have x10 : ∀ q : In (wr.alloc (.cells #[.int .i64 2, .int .i64 sn, .string sty, .string snm, .slice (some ⟨be0, of0, none⟩) NE cape, .slice Aa NA capa, .slice Ab NB capb] 39)), q.W.cell? ⟨be0, of0 + 4, none⟩ = some (.int .i64 k10) := fun q => by simpa using (hc1 _ (HIn.out q)).2.1
          have x11 : ∀ q : In (wr.alloc (.cells #[.int .i64 2, .int .i64 sn, .string sty, .string snm, .slice (some ⟨be0, of0, none⟩) NE cape, .slice Aa NA capa, .slice Ab NB capb] 39)), q.W.cell? ⟨be0, of0 + 4 + 1, none⟩ = some (.int .i64 k11) := fun q => by simpa using (hc1 _ (HIn.out q)).2.2.1
          have x12 : ∀ q : In (wr.alloc (.cells #[.int .i64 2, .int .i64 sn, .string sty, .string snm, .slice (some ⟨be0, of0, none⟩) NE cape, .slice Aa NA capa, .slice Ab NB capb] 39)), q.W.cell? ⟨be0, of0 + 4 + 2, none⟩ = some (.string k12) := fun q => by simpa using (hc1 _ (HIn.out q)).2.2.2.1
          have x13 : ∀ q : In (wr.alloc (.cells #[.int .i64 2, .int .i64 sn, .string sty, .string snm, .slice (some ⟨be0, of0, none⟩) NE cape, .slice Aa NA capa, .slice Ab NB capb] 39)), q.W.cell? ⟨be0, of0 + 4 + 3, none⟩ = some (.slice k1A k1n k1c) := fun q => by simpa using (hc1 _ (HIn.out q)).2.2.2.2
          have y9 : ∀ q : In (wr.alloc (.cells #[.int .i64 2, .int .i64 sn, .string sty, .string snm, .slice (some ⟨be0, of0, none⟩) NE cape, .slice Aa NA capa, .slice Ab NB capb] 39)), wr.heap.size < q.W.heap.size := fun q => box_in_lt q
          have y0 : ∀ q : In (wr.alloc (.cells #[.int .i64 2, .int .i64 sn, .string sty, .string snm, .slice (some ⟨be0, of0, none⟩) NE cape, .slice Aa NA capa, .slice Ab NB capb] 39)), q.W.cell? ⟨wr.heap.size, 0, none⟩ = some (.int .i64 2) := fun q => box_in_cell q 0
          have y4 : ∀ q : In (wr.alloc (.cells #[.int .i64 2, .int .i64 sn, .string sty, .string snm, .slice (some ⟨be0, of0, none⟩) NE cape, .slice Aa NA capa, .slice Ab NB capb] 39)), q.W.cell? ⟨wr.heap.size, 4, none⟩ = some (.slice (some ⟨be0, of0, none⟩) NE cape) := fun q => box_in_cell q 4
          have htx : stT t (.mk 2 sn sty snm [e0, e1] al bl) = tabsT t ++ (exT e0 ++ [32, 61, 32] ++ exT e1 ++ [59, 10]) := by simp [stT, blockT, listT_one, at_one]
          have HTX := Lib.hid htx; clear htx
          have HE0 := Lib.hid (HE.out e0 (by simp))
          have HE1 := Lib.hid (HE.out e1 (by simp))
          clear hc0 hc1
          go_wp2
          refine wp_region_in (by kernel_rfl) (by kernel_rfl) ?_
          iterate 5 go_big_quiet_step (fail)
          go_big_quiet_step (exact Calls.in_of (HE0.out _ _ (Ex.R.below (HIn.out _) (Nat.le_refl _) e0 _ HR0.out)))
          iterate 5 go_big_quiet_step (fail)
          go_big_quiet_step (exact Calls.in_of (HE1.out _ _ (Ex.R.below (HIn.out _) (Nat.le_refl _) e1 _ HR1.out)))
          repeat (go_big_quiet_step (fail))
          refine wpQuiet_nil ?_
          intro _ hw'
          obtain ⟨q, hw''⟩ := hw'
          subst hw''
          go_wp2_with fail
          go_roundw
          case rel => exact ⟨k + 1, _, by omega, by go_num, rfl, by rw [Hid, HTK.out, HTX.out]; simp [HOD.out, blockT, List.append_assoc, at_one, listT_one], HBr.out.trans ((HIn.out q).mono hBr)⟩
          case measure => simp [intOf]; omega
        · obtain ⟨e0, rfl⟩ := one p4 (by decide) (by decide)
          have hm0 : 0 < NE := by have := HNE.out; simp at this; omega
          have l0 : ¬ 9223372036854775807 < 4 + (exT e0).length := by have a1 := HOB.out; have a2 := HT4.out; have a3 := HAL.out; have a4 := HBL.out; have a5 := HST.out; have be0 := HEL.out e0 (by simp); omega
          have l1 : ¬ 9223372036854775807 < 4 + (exT e0).length + 4 := by have a1 := HOB.out; have a2 := HT4.out; have a3 := HAL.out; have a4 := HBL.out; have a5 := HST.out; have be0 := HEL.out e0 (by simp); omega
          have l2 : ¬ 9223372036854775807 < 4 + (exT e0).length + 4 + (stsT (t + 1) al).length := by have a1 := HOB.out; have a2 := HT4.out; have a3 := HAL.out; have a4 := HBL.out; have a5 := HST.out; have be0 := HEL.out e0 (by simp); omega
          have l3 : ¬ 9223372036854775807 < 4 + (exT e0).length + 4 + (stsT (t + 1) al).length + (tabsT t).length := by have a1 := HOB.out; have a2 := HT4.out; have a3 := HAL.out; have a4 := HBL.out; have a5 := HST.out; have be0 := HEL.out e0 (by simp); omega
          have l4 : ¬ 9223372036854775807 < 4 + (exT e0).length + 4 + (stsT (t + 1) al).length + (tabsT t).length + 1 := by have a1 := HOB.out; have a2 := HT4.out; have a3 := HAL.out; have a4 := HBL.out; have a5 := HST.out; have be0 := HEL.out e0 (by simp); omega
          have l5 : ¬ 9223372036854775807 < O'.size + (4 + (exT e0).length + 4 + (stsT (t + 1) al).length + (tabsT t).length + 1) := by have a1 := HOB.out; have a2 := HT4.out; have a3 := HAL.out; have a4 := HBL.out; have a5 := HST.out; have be0 := HEL.out e0 (by simp); omega
          obtain ⟨k00, k01, k02, k0A, k0n, k0c, be0, of0, hA0, hR0, hc0⟩ := HKID.out 0 e0 rfl
          subst hA0
          have HR0 := Lib.hid hR0; clear hR0
          have HIn : Hid (∀ q : In (wr.alloc (.cells #[.int .i64 3, .int .i64 sn, .string sty, .string snm, .slice (some ⟨be0, of0, none⟩) NE cape, .slice Aa NA capa, .slice Ab NB capb] 39)), Below wr.heap.size wr q.W) := Lib.hid (fun q => box_in q)
          have x0b : ∀ q : In (wr.alloc (.cells #[.int .i64 3, .int .i64 sn, .string sty, .string snm, .slice (some ⟨be0, of0, none⟩) NE cape, .slice Aa NA capa, .slice Ab NB capb] 39)), be0 < q.W.heap.size := fun q => (hc0 _ (HIn.out q)).1
          have x00 : ∀ q : In (wr.alloc (.cells #[.int .i64 3, .int .i64 sn, .string sty, .string snm, .slice (some ⟨be0, of0, none⟩) NE cape, .slice Aa NA capa, .slice Ab NB capb] 39)), q.W.cell? ⟨be0, of0, none⟩ = some (.int .i64 k00) := fun q => by simpa using (hc0 _ (HIn.out q)).2.1
          have x01 : ∀ q : In (wr.alloc (.cells #[.int .i64 3, .int .i64 sn, .string sty, .string snm, .slice (some ⟨be0, of0, none⟩) NE cape, .slice Aa NA capa, .slice Ab NB capb] 39)), q.W.cell? ⟨be0, of0 + 1, none⟩ = some (.int .i64 k01) := fun q => by simpa using (hc0 _ (HIn.out q)).2.2.1
          have x02 : ∀ q : In (wr.alloc (.cells #[.int .i64 3, .int .i64 sn, .string sty, .string snm, .slice (some ⟨be0, of0, none⟩) NE cape, .slice Aa NA capa, .slice Ab NB capb] 39)), q.W.cell? ⟨be0, of0 + 2, none⟩ = some (.string k02) := fun q => by simpa using (hc0 _ (HIn.out q)).2.2.2.1
          have x03 : ∀ q : In (wr.alloc (.cells #[.int .i64 3, .int .i64 sn, .string sty, .string snm, .slice (some ⟨be0, of0, none⟩) NE cape, .slice Aa NA capa, .slice Ab NB capb] 39)), q.W.cell? ⟨be0, of0 + 3, none⟩ = some (.slice k0A k0n k0c) := fun q => by simpa using (hc0 _ (HIn.out q)).2.2.2.2
          have y9 : ∀ q : In (wr.alloc (.cells #[.int .i64 3, .int .i64 sn, .string sty, .string snm, .slice (some ⟨be0, of0, none⟩) NE cape, .slice Aa NA capa, .slice Ab NB capb] 39)), wr.heap.size < q.W.heap.size := fun q => box_in_lt q
          have y0 : ∀ q : In (wr.alloc (.cells #[.int .i64 3, .int .i64 sn, .string sty, .string snm, .slice (some ⟨be0, of0, none⟩) NE cape, .slice Aa NA capa, .slice Ab NB capb] 39)), q.W.cell? ⟨wr.heap.size, 0, none⟩ = some (.int .i64 3) := fun q => box_in_cell q 0
          have y4 : ∀ q : In (wr.alloc (.cells #[.int .i64 3, .int .i64 sn, .string sty, .string snm, .slice (some ⟨be0, of0, none⟩) NE cape, .slice Aa NA capa, .slice Ab NB capb] 39)), q.W.cell? ⟨wr.heap.size, 4, none⟩ = some (.slice (some ⟨be0, of0, none⟩) NE cape) := fun q => box_in_cell q 4
          have y5 : ∀ q : In (wr.alloc (.cells #[.int .i64 3, .int .i64 sn, .string sty, .string snm, .slice (some ⟨be0, of0, none⟩) NE cape, .slice Aa NA capa, .slice Ab NB capb] 39)), q.W.cell? ⟨wr.heap.size, 5, none⟩ = some (.slice Aa NA capa) := fun q => box_in_cell q 5
          have y6 : ∀ q : In (wr.alloc (.cells #[.int .i64 3, .int .i64 sn, .string sty, .string snm, .slice (some ⟨be0, of0, none⟩) NE cape, .slice Aa NA capa, .slice Ab NB capb] 39)), q.W.cell? ⟨wr.heap.size, 6, none⟩ = some (.slice Ab NB capb) := fun q => box_in_cell q 6
          have HE0 := Lib.hid (HE.out e0 (by simp))
          clear hc0
          by_cases hbl : bl = []
          · have hb0 : NB < 1 := by have := HNB.out; rw [hbl] at this; simp at this; omega
            have m0 : ¬ 9223372036854775807 < O'.size + (4 + (exT e0).length + 4 + (stsT (t + 1) al).length + (tabsT t).length + 1) + 1 := by have a1 := HOB.out; have a2 := HT4.out; have a3 := HAL.out; have a4 := HBL.out; have a5 := HST.out; have be0 := HEL.out e0 (by simp); omega
            have htx : stT t (.mk 3 sn sty snm [e0] al bl) = tabsT t ++ ([105, 102, 32, 40] ++ exT e0 ++ [41, 32, 123, 10] ++ stsT (t + 1) al ++ tabsT t ++ [125] ++ [10]) := by simp [stT, blockT, listT_one, at_one, hbl]
            have HTX := Lib.hid htx; clear htx
            clear hbl
            go_wp2
            refine wp_region_in (by kernel_rfl) (by kernel_rfl) ?_
            iterate 5 go_big_quiet_step (fail)
            go_big_quiet_step (exact Calls.in_of (HE0.out _ _ (Ex.R.below (HIn.out _) (Nat.le_refl _) e0 _ HR0.out)))
            iterate 6 go_big_quiet_step (fail)
            go_big_quiet_step (exact Calls.in_of (HA.out _ _ (HVA.out.below (HIn.out _) (Nat.le_refl _))))
            repeat (go_big_quiet_step (fail))
            refine wpQuiet_nil ?_
            intro _ hw'
            obtain ⟨q, hw''⟩ := hw'
            subst hw''
            go_wp2_with fail
            go_roundw
            case rel => exact ⟨k + 1, _, by omega, by go_num, rfl, by rw [Hid, HTK.out, HTX.out]; simp [HOD.out, blockT, List.append_assoc, at_one, listT_one], HBr.out.trans ((HIn.out q).mono hBr)⟩
            case measure => simp [intOf]; omega
          · have hb0 : 0 < NB := by have := HNB.out; have := List.length_pos_iff.2 hbl; omega
            have m0 : ¬ 9223372036854775807 < 8 + (stsT (t + 1) bl).length := by have a1 := HOB.out; have a2 := HT4.out; have a3 := HAL.out; have a4 := HBL.out; have a5 := HST.out; have be0 := HEL.out e0 (by simp); omega
            have m1 : ¬ 9223372036854775807 < 8 + (stsT (t + 1) bl).length + (tabsT t).length := by have a1 := HOB.out; have a2 := HT4.out; have a3 := HAL.out; have a4 := HBL.out; have a5 := HST.out; have be0 := HEL.out e0 (by simp); omega
            have m2 : ¬ 9223372036854775807 < 8 + (stsT (t + 1) bl).length + (tabsT t).length + 1 := by have a1 := HOB.out; have a2 := HT4.out; have a3 := HAL.out; have a4 := HBL.out; have a5 := HST.out; have be0 := HEL.out e0 (by simp); omega
            have m3 : ¬ 9223372036854775807 < O'.size + (4 + (exT e0).length + 4 + (stsT (t + 1) al).length + (tabsT t).length + 1) + (8 + (stsT (t + 1) bl).length + (tabsT t).length + 1) := by have a1 := HOB.out; have a2 := HT4.out; have a3 := HAL.out; have a4 := HBL.out; have a5 := HST.out; have be0 := HEL.out e0 (by simp); omega
            have m4 : ¬ 9223372036854775807 < O'.size + (4 + (exT e0).length + 4 + (stsT (t + 1) al).length + (tabsT t).length + 1) + (8 + (stsT (t + 1) bl).length + (tabsT t).length + 1) + 1 := by have a1 := HOB.out; have a2 := HT4.out; have a3 := HAL.out; have a4 := HBL.out; have a5 := HST.out; have be0 := HEL.out e0 (by simp); omega
            have htx : stT t (.mk 3 sn sty snm [e0] al bl) = tabsT t ++ ([105, 102, 32, 40] ++ exT e0 ++ [41, 32, 123, 10] ++ stsT (t + 1) al ++ tabsT t ++ [125] ++ ([32, 101, 108, 115, 101, 32, 123, 10] ++ stsT (t + 1) bl ++ tabsT t ++ [125]) ++ [10]) := by simp [stT, blockT, listT_one, at_one, hbl]
            have HTX := Lib.hid htx; clear htx
            clear hbl
            go_wp2
            refine wp_region_in (by kernel_rfl) (by kernel_rfl) ?_
            iterate 5 go_big_quiet_step (fail)
            go_big_quiet_step (exact Calls.in_of (HE0.out _ _ (Ex.R.below (HIn.out _) (Nat.le_refl _) e0 _ HR0.out)))
            iterate 6 go_big_quiet_step (fail)
            go_big_quiet_step (exact Calls.in_of (HA.out _ _ (HVA.out.below (HIn.out _) (Nat.le_refl _))))
            repeat (go_big_quiet_step (fail))
            refine wpQuiet_nil ?_
            intro _ hw'
            obtain ⟨q, hw''⟩ := hw'
            subst hw''
            go_wp2_with fail
            refine Calls.mono (HBB.out _ _ (HVB.out.below (HIn.out q) (Nat.le_refl _))) ?_; rintro e w2 ⟨rfl, hb2⟩
            go_wp2_with fail
            go_roundw
            case rel => exact ⟨k + 1, _, by omega, by go_num, rfl, by rw [Hid, HTK.out, HTX.out]; simp [HOD.out, blockT, List.append_assoc, at_one, listT_one], HBr.out.trans (((HIn.out q).trans (hb2.mono (HIn.out q).size)).mono hBr)⟩
            case measure => simp [intOf]; omega
        · obtain ⟨e0, rfl⟩ := one p4 (by decide) (by decide)
          have hm0 : 0 < NE := by have := HNE.out; simp at this; omega
          have l0 : ¬ 9223372036854775807 < 7 + (exT e0).length := by have a1 := HOB.out; have a2 := HT4.out; have a3 := HAL.out; have a4 := HBL.out; have a5 := HST.out; have be0 := HEL.out e0 (by simp); omega
          have l1 : ¬ 9223372036854775807 < 7 + (exT e0).length + 4 := by have a1 := HOB.out; have a2 := HT4.out; have a3 := HAL.out; have a4 := HBL.out; have a5 := HST.out; have be0 := HEL.out e0 (by simp); omega
          have l2 : ¬ 9223372036854775807 < 7 + (exT e0).length + 4 + (stsT (t + 1) al).length := by have a1 := HOB.out; have a2 := HT4.out; have a3 := HAL.out; have a4 := HBL.out; have a5 := HST.out; have be0 := HEL.out e0 (by simp); omega
          have l3 : ¬ 9223372036854775807 < 7 + (exT e0).length + 4 + (stsT (t + 1) al).length + (tabsT t).length := by have a1 := HOB.out; have a2 := HT4.out; have a3 := HAL.out; have a4 := HBL.out; have a5 := HST.out; have be0 := HEL.out e0 (by simp); omega
          have l4 : ¬ 9223372036854775807 < 7 + (exT e0).length + 4 + (stsT (t + 1) al).length + (tabsT t).length + 2 := by have a1 := HOB.out; have a2 := HT4.out; have a3 := HAL.out; have a4 := HBL.out; have a5 := HST.out; have be0 := HEL.out e0 (by simp); omega
          have l5 : ¬ 9223372036854775807 < O'.size + (7 + (exT e0).length + 4 + (stsT (t + 1) al).length + (tabsT t).length + 2) := by have a1 := HOB.out; have a2 := HT4.out; have a3 := HAL.out; have a4 := HBL.out; have a5 := HST.out; have be0 := HEL.out e0 (by simp); omega
          obtain ⟨k00, k01, k02, k0A, k0n, k0c, be0, of0, hA0, hR0, hc0⟩ := HKID.out 0 e0 rfl
          subst hA0
          have HR0 := Lib.hid hR0; clear hR0
          have HIn : Hid (∀ q : In (wr.alloc (.cells #[.int .i64 4, .int .i64 sn, .string sty, .string snm, .slice (some ⟨be0, of0, none⟩) NE cape, .slice Aa NA capa, .slice Ab NB capb] 39)), Below wr.heap.size wr q.W) := Lib.hid (fun q => box_in q)
          have x0b : ∀ q : In (wr.alloc (.cells #[.int .i64 4, .int .i64 sn, .string sty, .string snm, .slice (some ⟨be0, of0, none⟩) NE cape, .slice Aa NA capa, .slice Ab NB capb] 39)), be0 < q.W.heap.size := fun q => (hc0 _ (HIn.out q)).1
          have x00 : ∀ q : In (wr.alloc (.cells #[.int .i64 4, .int .i64 sn, .string sty, .string snm, .slice (some ⟨be0, of0, none⟩) NE cape, .slice Aa NA capa, .slice Ab NB capb] 39)), q.W.cell? ⟨be0, of0, none⟩ = some (.int .i64 k00) := fun q => by simpa using (hc0 _ (HIn.out q)).2.1
          have x01 : ∀ q : In (wr.alloc (.cells #[.int .i64 4, .int .i64 sn, .string sty, .string snm, .slice (some ⟨be0, of0, none⟩) NE cape, .slice Aa NA capa, .slice Ab NB capb] 39)), q.W.cell? ⟨be0, of0 + 1, none⟩ = some (.int .i64 k01) := fun q => by simpa using (hc0 _ (HIn.out q)).2.2.1
          have x02 : ∀ q : In (wr.alloc (.cells #[.int .i64 4, .int .i64 sn, .string sty, .string snm, .slice (some ⟨be0, of0, none⟩) NE cape, .slice Aa NA capa, .slice Ab NB capb] 39)), q.W.cell? ⟨be0, of0 + 2, none⟩ = some (.string k02) := fun q => by simpa using (hc0 _ (HIn.out q)).2.2.2.1
          have x03 : ∀ q : In (wr.alloc (.cells #[.int .i64 4, .int .i64 sn, .string sty, .string snm, .slice (some ⟨be0, of0, none⟩) NE cape, .slice Aa NA capa, .slice Ab NB capb] 39)), q.W.cell? ⟨be0, of0 + 3, none⟩ = some (.slice k0A k0n k0c) := fun q => by simpa using (hc0 _ (HIn.out q)).2.2.2.2
          have y9 : ∀ q : In (wr.alloc (.cells #[.int .i64 4, .int .i64 sn, .string sty, .string snm, .slice (some ⟨be0, of0, none⟩) NE cape, .slice Aa NA capa, .slice Ab NB capb] 39)), wr.heap.size < q.W.heap.size := fun q => box_in_lt q
          have y0 : ∀ q : In (wr.alloc (.cells #[.int .i64 4, .int .i64 sn, .string sty, .string snm, .slice (some ⟨be0, of0, none⟩) NE cape, .slice Aa NA capa, .slice Ab NB capb] 39)), q.W.cell? ⟨wr.heap.size, 0, none⟩ = some (.int .i64 4) := fun q => box_in_cell q 0
          have y4 : ∀ q : In (wr.alloc (.cells #[.int .i64 4, .int .i64 sn, .string sty, .string snm, .slice (some ⟨be0, of0, none⟩) NE cape, .slice Aa NA capa, .slice Ab NB capb] 39)), q.W.cell? ⟨wr.heap.size, 4, none⟩ = some (.slice (some ⟨be0, of0, none⟩) NE cape) := fun q => box_in_cell q 4
          have y5 : ∀ q : In (wr.alloc (.cells #[.int .i64 4, .int .i64 sn, .string sty, .string snm, .slice (some ⟨be0, of0, none⟩) NE cape, .slice Aa NA capa, .slice Ab NB capb] 39)), q.W.cell? ⟨wr.heap.size, 5, none⟩ = some (.slice Aa NA capa) := fun q => box_in_cell q 5
          have y6 : ∀ q : In (wr.alloc (.cells #[.int .i64 4, .int .i64 sn, .string sty, .string snm, .slice (some ⟨be0, of0, none⟩) NE cape, .slice Aa NA capa, .slice Ab NB capb] 39)), q.W.cell? ⟨wr.heap.size, 6, none⟩ = some (.slice Ab NB capb) := fun q => box_in_cell q 6
          have HE0 := Lib.hid (HE.out e0 (by simp))
          clear hc0
          have hbl : bl = [] := p6.resolve_left (by decide)
          have htx : stT t (.mk 4 sn sty snm [e0] al bl) = tabsT t ++ ([119, 104, 105, 108, 101, 32, 40] ++ exT e0 ++ [41, 32, 123, 10] ++ stsT (t + 1) al ++ tabsT t ++ [125, 10]) := by simp [stT, blockT, listT_one, at_one, hbl]
          have HTX := Lib.hid htx; clear htx
          clear hbl
          go_wp2
          refine wp_region_in (by kernel_rfl) (by kernel_rfl) ?_
          iterate 5 go_big_quiet_step (fail)
          go_big_quiet_step (exact Calls.in_of (HE0.out _ _ (Ex.R.below (HIn.out _) (Nat.le_refl _) e0 _ HR0.out)))
          iterate 6 go_big_quiet_step (fail)
          go_big_quiet_step (exact Calls.in_of (HA.out _ _ (HVA.out.below (HIn.out _) (Nat.le_refl _))))
          repeat (go_big_quiet_step (fail))
          refine wpQuiet_nil ?_
          intro _ hw'
          obtain ⟨q, hw''⟩ := hw'
          subst hw''
          go_wp2_with fail
          go_roundw
          case rel => exact ⟨k + 1, _, by omega, by go_num, rfl, by rw [Hid, HTK.out, HTX.out]; simp [HOD.out, blockT, List.append_assoc, at_one, listT_one], HBr.out.trans ((HIn.out q).mono hBr)⟩
          case measure => simp [intOf]; omega
        · obtain ⟨e0, rfl⟩ := one p4 (by decide) (by decide)
          have hm0 : 0 < NE := by have := HNE.out; simp at this; omega
          have hit := itoa_len sn HN64.out
          have l0 : ¬ 9223372036854775807 < 6 + (Lib.itoa sn).length := by have a1 := HOB.out; have a2 := HT4.out; have a3 := HAL.out; have a4 := HBL.out; have a5 := HST.out; have be0 := HEL.out e0 (by simp); omega
          have l1 : ¬ 9223372036854775807 < 6 + (Lib.itoa sn).length + 2 := by have a1 := HOB.out; have a2 := HT4.out; have a3 := HAL.out; have a4 := HBL.out; have a5 := HST.out; have be0 := HEL.out e0 (by simp); omega
          have l2 : ¬ 9223372036854775807 < 6 + (Lib.itoa sn).length + 2 + (exT e0).length := by have a1 := HOB.out; have a2 := HT4.out; have a3 := HAL.out; have a4 := HBL.out; have a5 := HST.out; have be0 := HEL.out e0 (by simp); omega
          have l3 : ¬ 9223372036854775807 < 6 + (Lib.itoa sn).length + 2 + (exT e0).length + 3 := by have a1 := HOB.out; have a2 := HT4.out; have a3 := HAL.out; have a4 := HBL.out; have a5 := HST.out; have be0 := HEL.out e0 (by simp); omega
          have l4 : ¬ 9223372036854775807 < O'.size + (6 + (Lib.itoa sn).length + 2 + (exT e0).length + 3) := by have a1 := HOB.out; have a2 := HT4.out; have a3 := HAL.out; have a4 := HBL.out; have a5 := HST.out; have be0 := HEL.out e0 (by simp); omega
          clear hit
          obtain ⟨k00, k01, k02, k0A, k0n, k0c, be0, of0, hA0, hR0, hc0⟩ := HKID.out 0 e0 rfl
          subst hA0
          have HR0 := Lib.hid hR0; clear hR0
          have HIn : Hid (∀ q : In (wr.alloc (.cells #[.int .i64 5, .int .i64 sn, .string sty, .string snm, .slice (some ⟨be0, of0, none⟩) NE cape, .slice Aa NA capa, .slice Ab NB capb] 39)), Below wr.heap.size wr q.W) := Lib.hid (fun q => box_in q)
          have x0b : ∀ q : In (wr.alloc (.cells #[.int .i64 5, .int .i64 sn, .string sty, .string snm, .slice (some ⟨be0, of0, none⟩) NE cape, .slice Aa NA capa, .slice Ab NB capb] 39)), be0 < q.W.heap.size := fun q => (hc0 _ (HIn.out q)).1
          have x00 : ∀ q : In (wr.alloc (.cells #[.int .i64 5, .int .i64 sn, .string sty, .string snm, .slice (some ⟨be0, of0, none⟩) NE cape, .slice Aa NA capa, .slice Ab NB capb] 39)), q.W.cell? ⟨be0, of0, none⟩ = some (.int .i64 k00) := fun q => by simpa using (hc0 _ (HIn.out q)).2.1
          have x01 : ∀ q : In (wr.alloc (.cells #[.int .i64 5, .int .i64 sn, .string sty, .string snm, .slice (some ⟨be0, of0, none⟩) NE cape, .slice Aa NA capa, .slice Ab NB capb] 39)), q.W.cell? ⟨be0, of0 + 1, none⟩ = some (.int .i64 k01) := fun q => by simpa using (hc0 _ (HIn.out q)).2.2.1
          have x02 : ∀ q : In (wr.alloc (.cells #[.int .i64 5, .int .i64 sn, .string sty, .string snm, .slice (some ⟨be0, of0, none⟩) NE cape, .slice Aa NA capa, .slice Ab NB capb] 39)), q.W.cell? ⟨be0, of0 + 2, none⟩ = some (.string k02) := fun q => by simpa using (hc0 _ (HIn.out q)).2.2.2.1
          have x03 : ∀ q : In (wr.alloc (.cells #[.int .i64 5, .int .i64 sn, .string sty, .string snm, .slice (some ⟨be0, of0, none⟩) NE cape, .slice Aa NA capa, .slice Ab NB capb] 39)), q.W.cell? ⟨be0, of0 + 3, none⟩ = some (.slice k0A k0n k0c) := fun q => by simpa using (hc0 _ (HIn.out q)).2.2.2.2
          have y9 : ∀ q : In (wr.alloc (.cells #[.int .i64 5, .int .i64 sn, .string sty, .string snm, .slice (some ⟨be0, of0, none⟩) NE cape, .slice Aa NA capa, .slice Ab NB capb] 39)), wr.heap.size < q.W.heap.size := fun q => box_in_lt q
          have y0 : ∀ q : In (wr.alloc (.cells #[.int .i64 5, .int .i64 sn, .string sty, .string snm, .slice (some ⟨be0, of0, none⟩) NE cape, .slice Aa NA capa, .slice Ab NB capb] 39)), q.W.cell? ⟨wr.heap.size, 0, none⟩ = some (.int .i64 5) := fun q => box_in_cell q 0
          have y1 : ∀ q : In (wr.alloc (.cells #[.int .i64 5, .int .i64 sn, .string sty, .string snm, .slice (some ⟨be0, of0, none⟩) NE cape, .slice Aa NA capa, .slice Ab NB capb] 39)), q.W.cell? ⟨wr.heap.size, 1, none⟩ = some (.int .i64 sn) := fun q => box_in_cell q 1
          have y4 : ∀ q : In (wr.alloc (.cells #[.int .i64 5, .int .i64 sn, .string sty, .string snm, .slice (some ⟨be0, of0, none⟩) NE cape, .slice Aa NA capa, .slice Ab NB capb] 39)), q.W.cell? ⟨wr.heap.size, 4, none⟩ = some (.slice (some ⟨be0, of0, none⟩) NE cape) := fun q => box_in_cell q 4
          have htx : stT t (.mk 5 sn sty snm [e0] al bl) = tabsT t ++ ([112, 114, 105, 110, 116, 40] ++ Lib.itoa sn ++ [44, 32] ++ exT e0 ++ [41, 59, 10]) := by simp [stT, blockT, listT_one, at_one]
          have HTX := Lib.hid htx; clear htx
          have HE0 := Lib.hid (HE.out e0 (by simp))
          clear hc0
          go_wp2
          refine wp_region_in (by kernel_rfl) (by kernel_rfl) ?_
          iterate 3 go_big_quiet_step (fail)
          go_big_quiet_step (exact Calls.in_of (refText_any sn HN64.out _))
          iterate 6 go_big_quiet_step (fail)
          go_big_quiet_step (exact Calls.in_of (HE0.out _ _ (Ex.R.below (HIn.out _) (Nat.le_refl _) e0 _ HR0.out)))
          repeat (go_big_quiet_step (fail))
          refine wpQuiet_nil ?_
          intro _ hw'
          obtain ⟨q, hw''⟩ := hw'
          subst hw''
          go_wp2_with fail
          go_roundw
          case rel => exact ⟨k + 1, _, by omega, by go_num, rfl, by rw [Hid, HTK.out, HTX.out]; simp [HOD.out, blockT, List.append_assoc, at_one, listT_one], HBr.out.trans ((HIn.out q).mono hBr)⟩
          case measure => simp [intOf]; omega
        · obtain ⟨e0, rfl⟩ := one p4 (by decide) (by decide)
          have hm0 : 0 < NE := by have := HNE.out; simp at this; omega
          have l0 : ¬ 9223372036854775807 < 7 + (exT e0).length := by have a1 := HOB.out; have a2 := HT4.out; have a3 := HAL.out; have a4 := HBL.out; have a5 := HST.out; have be0 := HEL.out e0 (by simp); omega
          have l1 : ¬ 9223372036854775807 < 7 + (exT e0).length + 2 := by have a1 := HOB.out; have a2 := HT4.out; have a3 := HAL.out; have a4 := HBL.out; have a5 := HST.out; have be0 := HEL.out e0 (by simp); omega
          have l2 : ¬ 9223372036854775807 < O'.size + (7 + (exT e0).length + 2) := by have a1 := HOB.out; have a2 := HT4.out; have a3 := HAL.out; have a4 := HBL.out; have a5 := HST.out; have be0 := HEL.out e0 (by simp); omega
          obtain ⟨k00, k01, k02, k0A, k0n, k0c, be0, of0, hA0, hR0, hc0⟩ := HKID.out 0 e0 rfl
          subst hA0
          have HR0 := Lib.hid hR0; clear hR0
          have j0 := hc0 wr (Below.refl _ _)
          have j0b := j0.1
          have j00 : wr.cell? ⟨be0, of0, none⟩ = some (.int .i64 k00) := by simpa using j0.2.1
          have j01 : wr.cell? ⟨be0, of0 + 1, none⟩ = some (.int .i64 k01) := by simpa using j0.2.2.1
          have j02 : wr.cell? ⟨be0, of0 + 2, none⟩ = some (.string k02) := by simpa using j0.2.2.2.1
          have j03 : wr.cell? ⟨be0, of0 + 3, none⟩ = some (.slice k0A k0n k0c) := by simpa using j0.2.2.2.2
          clear j0
          have htx : stT t (.mk 6 sn sty snm [e0] al bl) = tabsT t ++ ([114, 101, 116, 117, 114, 110, 32] ++ exT e0 ++ [59, 10]) := by simp [stT, blockT, listT_one, at_one]
          have HTX := Lib.hid htx; clear htx
          have HE0 := Lib.hid (HE.out e0 (by simp))
          go_wp2_with fail
          refine (HE0.out _ _ (Ex.R.below ((Below.refl wr.heap.size wr).alloc (Nat.le_refl _) _) (Nat.le_refl _) e0 _ HR0.out)).mono ?_; rintro e w1 ⟨rfl, hb1⟩
          go_wp2_with fail
          go_roundw
          case rel => exact ⟨k + 1, _, by omega, by go_num, rfl, by rw [Hid, HTK.out, HTX.out]; simp [HOD.out, blockT, List.append_assoc, at_one, listT_one], HBr.out.trans ((((Below.refl wr.heap.size wr).alloc (Nat.le_refl _) _).trans (hb1.mono (by simp))).mono hBr)⟩
          case measure => simp [intOf]; omega
        · obtain ⟨e0, rfl⟩ := one p4 (by decide) (by decide)
          have hm0 : 0 < NE := by have := HNE.out; simp at this; omega
          have l0 : ¬ 9223372036854775807 < (exT e0).length + 2 := by have a1 := HOB.out; have a2 := HT4.out; have a3 := HAL.out; have a4 := HBL.out; have a5 := HST.out; have be0 := HEL.out e0 (by simp); omega
          have l1 : ¬ 9223372036854775807 < O'.size + ((exT e0).length + 2) := by have a1 := HOB.out; have a2 := HT4.out; have a3 := HAL.out; have a4 := HBL.out; have a5 := HST.out; have be0 := HEL.out e0 (by simp); omega
          obtain ⟨k00, k01, k02, k0A, k0n, k0c, be0, of0, hA0, hR0, hc0⟩ := HKID.out 0 e0 rfl
          subst hA0
          have HR0 := Lib.hid hR0; clear hR0
          have j0 := hc0 wr (Below.refl _ _)
          have j0b := j0.1
          have j00 : wr.cell? ⟨be0, of0, none⟩ = some (.int .i64 k00) := by simpa using j0.2.1
          have j01 : wr.cell? ⟨be0, of0 + 1, none⟩ = some (.int .i64 k01) := by simpa using j0.2.2.1
          have j02 : wr.cell? ⟨be0, of0 + 2, none⟩ = some (.string k02) := by simpa using j0.2.2.2.1
          have j03 : wr.cell? ⟨be0, of0 + 3, none⟩ = some (.slice k0A k0n k0c) := by simpa using j0.2.2.2.2
          clear j0
          have htx : stT t (.mk 7 sn sty snm [e0] al bl) = tabsT t ++ (exT e0 ++ [59, 10]) := by simp [stT, blockT, listT_one, at_one]
          have HTX := Lib.hid htx; clear htx
          have HE0 := Lib.hid (HE.out e0 (by simp))
          go_wp2_with fail
          refine (HE0.out _ _ (Ex.R.below ((Below.refl wr.heap.size wr).alloc (Nat.le_refl _) _) (Nat.le_refl _) e0 _ HR0.out)).mono ?_; rintro e w1 ⟨rfl, hb1⟩
          go_wp2_with fail
          go_roundw
          case rel => exact ⟨k + 1, _, by omega, by go_num, rfl, by rw [Hid, HTK.out, HTX.out]; simp [HOD.out, blockT, List.append_assoc, at_one, listT_one], HBr.out.trans ((((Below.refl wr.heap.size wr).alloc (Nat.le_refl _) _).trans (hb1.mono (by simp))).mono hBr)⟩
          case measure => simp [intOf]; omega
    · have htake : l.take k = l := List.take_of_length_le (by have := HN.out; omega)
      have hO : O = ⟨(stsT t l).toArray⟩ := ba_ext (by have h := HO.out; rw [htake] at h; rw [h])
      have HOF := Lib.hid hO; clear hO htake
      go_wp2_with fail
      go_ret
      exact ⟨ret_str HOF.out, HBr.out⟩

theorem refStmts_any (b : Nat) : ∀ (l : List St), Sts.bulk l ≤ b → b ≤ 2000000 → stsOK l = true → StR l := by
  induction b with
  | zero => intro l hb; cases l with
    | nil => simp only [Sts.bulk] at hb; omega
    | cons s l => cases s; simp only [Sts.bulk, St.bulk] at hb; omega
  | succ b ih =>
    intro l hb h2 hok
    refine sts_step l hok (by omega) fun s hs => ?_
    have h := Sts.bulk_le hs
    rw [stsOK_all, List.all_eq_true] at hok
    have hs := hok s hs
    cases s with
    | mk k n t nm es al bl =>
      simp only [St.bulk] at h
      obtain ⟨_, _, _, _, _, _, _, _, _, _, p9, p10⟩ := st_parts hs
      exact ⟨ih al (by omega) (by omega) p9, ih bl (by omega) (by omega) p10⟩
end Go.Proofs.YtapdgeajbnbdjaaDoor
