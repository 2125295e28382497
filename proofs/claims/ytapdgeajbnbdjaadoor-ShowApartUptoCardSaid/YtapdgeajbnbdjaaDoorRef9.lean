/- ref03.mayStmts. -/
import Derived.Test.YtapdgeajbnbdjaaDoorRef3
import Derived.Test.YtapdgeajbnbdjaaDoorRef1
import Derived.Test.YtapdgeajbnbdjaaDoorPage9
namespace Go.Proofs.YtapdgeajbnbdjaaDoor
open Go.RowKit

theorem shape_any (k n : Int) (t s : ByteArray) (A0 A1 A2 : Option Addr) (m cap0 m1 cap1 m2 cap2 : Nat) (w : World) (ht : t.size ≤ maxLen) (hs : s.size ≤ maxLen) (hm : m ≤ 2000000) (hm1 : m1 ≤ 2000000) (hm2 : m2 ≤ 2000000) :
    Calls Tryd.prog 78 #[.agg #[.int .i64 k, .int .i64 n, .string t, .string s, .slice A0 m cap0, .slice A1 m1 cap1, .slice A2 m2 cap2]] w fun e w' => e = .returned (.bool (stHead k n t s m m1 m2)) ∧ Below w.heap.size w w' := by
  by_cases h : 1 ≤ k ∧ k ≤ 7
  · have hk : k = 1 ∨ k = 2 ∨ k = 3 ∨ k = 4 ∨ k = 5 ∨ k = 6 ∨ k = 7 := by omega
    rcases hk with rfl | rfl | rfl | rfl | rfl | rfl | rfl
    · exact shape_1 n t s A0 A1 A2 m cap0 m1 cap1 m2 cap2 w ht hs hm hm1 hm2
    · exact shape_2 n t s A0 A1 A2 m cap0 m1 cap1 m2 cap2 w ht hs hm hm1 hm2
    · exact shape_3 n t s A0 A1 A2 m cap0 m1 cap1 m2 cap2 w ht hs hm hm1 hm2
    · exact shape_4 n t s A0 A1 A2 m cap0 m1 cap1 m2 cap2 w ht hs hm hm1 hm2
    · exact shape_5 n t s A0 A1 A2 m cap0 m1 cap1 m2 cap2 w ht hs hm hm1 hm2
    · exact shape_6 n t s A0 A1 A2 m cap0 m1 cap1 m2 cap2 w ht hs hm hm1 hm2
    · exact shape_7 n t s A0 A1 A2 m cap0 m1 cap1 m2 cap2 w ht hs hm hm1 hm2
  · exact shape_x k (by omega) n t s A0 A1 A2 m cap0 m1 cap1 m2 cap2 w ht hs hm hm1 hm2

def firstOf (k : Int) : List Ex → Bool
  | [] => true
  | e :: _ => firstK k e.kind
theorem stmtOK_eq (k n : Int) (t s : ByteArray) (es : List Ex) (a b : List St) : stmtOK (.mk k n t s es a b) = (stHead k n t s es.length a.length b.length && (exsOK es && (firstOf k es && (stsOK a && stsOK b)))) := by
  cases es <;> simp only [stmtOK, firstOf]
def MayR (l : List St) : Prop := ∀ (v : Value) (W : World), Sts.V W l v → Calls Tryd.prog 54 #[v] W (fun e W' => e = .returned (.bool (stsOK l)) ∧ Below W.heap.size W W')

set_option maxRecDepth 100000 in
set_option maxHeartbeats 4000000 in
theorem may_step (l : List St) (hb : Sts.bulk l ≤ 2000000) (ih : ∀ s, s ∈ l → MayR s.thn ∧ MayR s.els) : MayR l := by
  intro v w hv
  obtain ⟨xs, ⟨A, cap, rfl, hc1, hc2, _, hrows⟩, hR⟩ := hv
  have hR' := (Sts.R.all2 l xs).1 hR
  have hlx := hR'.len
  obtain ⟨N, hN⟩ : ∃ N, N = xs.length := ⟨_, rfl⟩
  rw [← hN] at hc1 ⊢
  unfold maxLen at hc2
  have HX := Lib.hid hR'; have HN := Lib.hid (And.intro hN hlx); have HR := Lib.hid hrows; have HB := Lib.hid hb; have HI := Lib.hid ih
  clear hR hR' hN hlx hrows hb ih
  go_enter Tryd.func54, Tryd.ntmps54
  go_wp2_with fail
  go_loopw [2, 4, 10] (fun _ _ i wr => ∃ k : Nat, k ≤ N ∧ i = .int .i64 k ∧ Below w.heap.size w wr ∧ Hid ((l.take k).all stmtOK = true)) (fun _ _ i _ => N - (intOf i).toNat)
  case atStart => exact ⟨0, Nat.zero_le _, rfl, Below.refl _ _, by simp [Hid]⟩
  case round =>
    obtain ⟨k, hk, rfl, hbr, Hall⟩ := hrel
    have HBr := Lib.hid hbr; clear hbr
    have hBr := HBr.out.size
    by_cases hlt : k < N
    · have hn1 := HN.out.1
      have hn2 := HN.out.2
      obtain ⟨x, hx⟩ : ∃ x, xs[k]? = some x := ⟨xs[k]'(by omega), List.getElem?_eq_getElem _⟩
      obtain ⟨s, hss, hRs⟩ := HX.out.at_ k x hx
      have hRs := St.R.below HBr.out (Nat.le_refl _) _ _ hRs
      obtain ⟨bk, off, c0, c1, c2, c3, c4, c5, c6, rfl, _, hxx, hq0, hq1, hq2, hq3, hq4, hq5, hq6⟩ := (HR.out.below HBr.out (Nat.le_refl _)).at7 hx
      have hsucc := all_take_succ stmtOK l k s hss
      rw [Hall.out, Bool.true_and] at hsucc
      have hbad : stmtOK s = false → stsOK l = false := fun he => by
        rw [stsOK_all, List.all_eq_false]; exact ⟨s, List.mem_of_getElem? hss, by simp [he]⟩
      have hih := HI.out s (List.mem_of_getElem? hss)
      have hbu := Sts.bulk_le (List.mem_of_getElem? hss)
      have hbb := HB.out
      have HSU := Lib.hid hsucc; have HBAD := Lib.hid hbad
      clear hsucc hbad
      cases s with
      | mk sk sn sty snm es al bl =>
        simp only [St.R] at hRs
        obtain ⟨ev, av, bv, hcs, hk1, hk2, hsz1, hsz2, ⟨ex, hev, hex⟩, hva, hvb⟩ := hRs
        have hva : Sts.V wr al av := hva
        have hvb : Sts.V wr bl bv := hvb
        rw [hxx] at hcs
        obtain ⟨rfl, rfl, rfl, rfl, rfl, rfl, rfl⟩ := arr7_inj hcs
        have hex' := (Exs.R.all2 es ex).1 hex
        have hle := hex'.len
        obtain ⟨Ae, cape, rfl, he1, he2, _, herows⟩ := hev
        obtain ⟨ya, ⟨Aa, capa, rfl, _⟩, hya⟩ := id hva
        obtain ⟨yb, ⟨Ab, capb, rfl, _⟩, hyb⟩ := id hvb
        have hla := ((Sts.R.all2 al ya).1 hya).len
        have hlb := ((Sts.R.all2 bl yb).1 hyb).len
        have hle2 := Exs.len_le es
        have hla2 := Sts.len_le al
        have hlb2 := Sts.len_le bl
        simp only [St.bulk] at hbu
        obtain ⟨NE, hNE⟩ : ∃ NE, NE = ex.length := ⟨_, rfl⟩
        obtain ⟨NA, hNA⟩ : ∃ NA, NA = ya.length := ⟨_, rfl⟩
        obtain ⟨NB, hNB⟩ : ∃ NB, NB = yb.length := ⟨_, rfl⟩
        rw [← hNE] at he1 hq4
        rw [← hNA] at hq5 hva
        rw [← hNB] at hq6 hvb
        unfold maxLen at he2
        have hdef : stmtOK (.mk sk sn sty snm es al bl) = (stHead sk sn sty snm NE NA NB && (exsOK es && (firstOf sk es && (stsOK al && stsOK bl)))) := by
          rw [hNE, hle, hNA, hla, hNB, hlb]; exact stmtOK_eq _ _ _ _ _ _ _
        have hsh := fun W => shape_any sk sn sty snm Ae Aa Ab NE cape NA capa NB capb W hsz1 hsz2 (by omega) (by omega) (by omega)
        have hih1 : MayR al := hih.1
        have hih2 : MayR bl := hih.2
        have hNE2 : NE = es.length := by omega
        have HDEF := Lib.hid hdef; have HSH := Lib.hid hsh; have HI1 := Lib.hid hih1; have HI2 := Lib.hid hih2; have HNE := Lib.hid (And.intro hNE hle); have HEX := Lib.hid hex'; have HER := Lib.hid herows; have HVA := Lib.hid hva; have HVB := Lib.hid hvb; have HNE2 := Lib.hid hNE2
        clear hdef hsh hih hih1 hih2 hNE hle hNE2 hNA hNB hla hlb hle2 hla2 hlb2 hbu hbb hex hex' herows hva hvb hya hyb hcs hxx hx hss hn1 hn2
        cases hd : stHead sk sn sty snm NE NA NB
        · have HD := Lib.hid hd; clear hd
          go_wp2_with fail
          refine (HSH.out _).mono ?_; rw [HD.out]; rintro e w1 ⟨rfl, hb1⟩
          go_wp2_with fail
          go_ret
          exact ⟨ret_bool (HBAD.out (by rw [HDEF.out, HD.out]; rfl)).symm, HBr.out.trans (((Below.refl wr.heap.size wr).alloc (Nat.le_refl _) _ |>.trans (hb1.mono (by simp))).mono hBr)⟩
        have HD := Lib.hid hd; clear hd
        go_wp2_with fail
        refine (HSH.out _).mono ?_; rw [HD.out]; rintro e w1 ⟨rfl, hb1⟩
        obtain ⟨kb, hkb⟩ : ∃ kb, kb = wr.heap.size := ⟨_, rfl⟩
        have hcell : ∀ o, w1.cell? ⟨wr.heap.size, o, none⟩ = #[Value.int .i64 sk, .int .i64 sn, .string sty, .string snm, .slice Ae NE cape, .slice Aa NA capa, .slice Ab NB capb][o]? := fun o => by
          rw [hb1.cell (p := ⟨wr.heap.size, o, none⟩) (by simp)]
          exact Lib.cell_of_heap (new_at wr _) o
        have HBw := Lib.hid ((Below.refl wr.heap.size wr).alloc (Nat.le_refl _) (.cells #[Value.int .i64 sk, .int .i64 sn, .string sty, .string snm, .slice Ae NE cape, .slice Aa NA capa, .slice Ab NB capb] 39) |>.trans (hb1.mono (by simp)))
        have hzz : wr.heap.size < w1.heap.size := by have := hb1.size; simp at this; omega
        rw [← hkb] at hcell hzz ⊢
        have q0 : w1.cell? ⟨kb, 0, none⟩ = some (.int .i64 sk) := hcell 0
        have q4 : w1.cell? ⟨kb, 4, none⟩ = some (.slice Ae NE cape) := hcell 4
        have q5 : w1.cell? ⟨kb, 5, none⟩ = some (.slice Aa NA capa) := hcell 5
        have q6 : w1.cell? ⟨kb, 6, none⟩ = some (.slice Ab NB capb) := hcell 6
        have HCE := Lib.hid hcell; have HKB := Lib.hid hkb
        clear hcell hb1 hkb
        go_wp2_with fail
        go_loopw [2, 6, 20] (fun _ _ i wx => ∃ j : Nat, j ≤ NE ∧ i = .int .i64 j ∧ Below w1.heap.size w1 wx ∧ Hid ((es.take j).all exprOK = true)) (fun _ _ i _ => NE - (intOf i).toNat)
        case atStart => exact ⟨0, Nat.zero_le _, rfl, Below.refl _ _, by simp [Hid]⟩
        case round =>
          obtain ⟨j, hj, rfl, hb2, Hall2⟩ := hrel
          have HB2 := Lib.hid hb2; clear hb2
          have hB2 := HB2.out.size
          by_cases hlt2 : j < NE
          · have hn1 := HNE.out.1
            have hn2 := HNE.out.2
            obtain ⟨x, hx⟩ : ∃ x, ex[j]? = some x := ⟨ex[j]'(by omega), List.getElem?_eq_getElem _⟩
            obtain ⟨e, hee, hRe⟩ := HEX.out.at_ j x hx
            have hRe := Ex.R.below (HBw.out.trans (HB2.out.mono HBw.out.size)) (Nat.le_refl _) _ _ hRe
            obtain ⟨be, offe, d0, d1, d2, d3, rfl, _, hxx, hr0, hr1, hr2, hr3⟩ := (HER.out.below (HBw.out.trans (HB2.out.mono HBw.out.size)) (Nat.le_refl _)).at4 hx
            have HRe := Lib.hid hRe
            obtain ⟨A9, n9, cap9, hcs⟩ := hRe.cells
            rw [hxx] at hcs
            obtain ⟨rfl, rfl, rfl, rfl⟩ := arr4_inj hcs
            subst hxx
            have hsu2 := all_take_succ exprOK es j e hee
            rw [Hall2.out, Bool.true_and] at hsu2
            have hbad2 : exprOK e = false → exsOK es = false := fun he => by
              rw [exsOK_all, List.all_eq_false]; exact ⟨e, List.mem_of_getElem? hee, by simp [he]⟩
            have hmay := fun o => mayExpr_any e.bulk e _ _ (Nat.le_refl _) (Ex.R.below ((Below.refl wr.heap.size wr).alloc (Nat.le_refl _) o) (Nat.le_refl _) e _ HRe.out)
            have HSU2 := Lib.hid hsu2; have HBAD2 := Lib.hid hbad2; have HMAY := Lib.hid hmay
            clear hsu2 hbad2 hmay hcs hx hee hRe hn1 hn2
            cases he : exprOK e
            · have HE := Lib.hid he; clear he
              go_wp2_with fail
              refine (HMAY.out _).mono ?_; rw [HE.out]; rintro e1 w3 ⟨rfl, hb3⟩
              go_wp2_with fail
              go_ret
              refine ⟨ret_bool (HBAD.out (by rw [HDEF.out, HBAD2.out HE.out]; simp)).symm, ?_⟩
              exact HBr.out.trans ((HBw.out.trans ((HB2.out.trans (((Below.refl wr.heap.size wr).alloc (Nat.le_refl _) _ |>.trans (hb3.mono (by simp))).mono hB2)).mono HBw.out.size)).mono hBr)
            · have HE := Lib.hid he; clear he
              go_wp2_with fail
              refine (HMAY.out _).mono ?_; rw [HE.out]; rintro e1 w3 ⟨rfl, hb3⟩
              go_wp2_with fail
              go_roundw
              case rel => exact ⟨j + 1, by omega, by go_num, HB2.out.trans (((Below.refl wr.heap.size wr).alloc (Nat.le_refl _) _ |>.trans (hb3.mono (by simp))).mono hB2), by rw [Hid, HSU2.out]; exact HE.out⟩
              case measure => simp [intOf]; omega
          · have hall : exsOK es = true := by
              have h1 := Hall2.out
              rw [List.take_of_length_le (by have := HNE.out; omega)] at h1
              rw [exsOK_all, h1]
            have HT := Lib.hid (HBw.out.trans (HB2.out.mono HBw.out.size))
            have HVAI := Lib.hid (HVA.out.below HT.out (Nat.le_refl _))
            have HVBI := Lib.hid (HVB.out.below HT.out (Nat.le_refl _))
            have hcel : ∀ o, wr.cell? ⟨kb, o, none⟩ = w1.cell? ⟨kb, o, none⟩ := fun o => HB2.out.cell (p := ⟨kb, o, none⟩) hzz
            have i0 : wr.cell? ⟨kb, 0, none⟩ = some (.int .i64 sk) := (hcel 0).trans q0
            have i4 : wr.cell? ⟨kb, 4, none⟩ = some (.slice Ae NE cape) := (hcel 4).trans q4
            have i5 : wr.cell? ⟨kb, 5, none⟩ = some (.slice Aa NA capa) := (hcel 5).trans q5
            have i6 : wr.cell? ⟨kb, 6, none⟩ = some (.slice Ab NB capb) := (hcel 6).trans q6
            have hkbi : kb < wr.heap.size := Nat.lt_of_lt_of_le hzz hB2
            have hdef2 : stmtOK (.mk sk sn sty snm es al bl) = (firstOf sk es && (stsOK al && stsOK bl)) := by
              rw [HDEF.out, HD.out, hall]; simp
            have hhead : 1 ≤ sk ∧ sk ≤ 7 ∧ es.length = manyOf sk es.length := by
              have h := HD.out
              rw [HNE2.out] at h
              unfold stHead at h
              simp only [Bool.and_eq_true, decide_eq_true_iff] at h
              exact ⟨h.1, h.2.1, h.2.2.2.2.2.1⟩
            have hfirst : (∃ k0, (sk = 2 ∨ sk = 7) ∧ 0 < NE ∧ firstOf sk es = firstK sk k0 ∧ ∃ be offe, Ae = some ⟨be, offe, none⟩ ∧ be < wr.heap.size ∧ wr.cell? ⟨be, offe, none⟩ = some (.int .i64 k0)) ∨
                ((sk ≠ 2 ∧ sk ≠ 7) ∧ firstOf sk es = true) := by
              by_cases h27 : sk = 2 ∨ sk = 7
              · refine .inl ?_
                have hpos : 0 < es.length := by
                  have := hhead.2.2
                  unfold manyOf at this
                  rcases h27 with h | h <;> (subst h; simp at this; omega)
                match es, HEX.out, HNE.out, HNE2.out, hpos with
                | e0 :: r0, hex, hne, hne2, _ =>
                  obtain ⟨x, hx0⟩ : ∃ x, ex[0]? = some x := ⟨ex[0]'(by have := hne.2; simp at this; omega), List.getElem?_eq_getElem _⟩
                  obtain ⟨be, offe, d0, d1, d2, d3, hA, hlt, rfl, hc0, _⟩ := (HER.out.below HT.out (Nat.le_refl _)).at4 hx0
                  obtain ⟨e, hee, hRe⟩ := hex.at_ 0 _ hx0
                  obtain rfl : e0 = e := by simpa using hee
                  obtain ⟨A9, n9, cap9, hcs⟩ := hRe.cells
                  obtain ⟨rfl, _⟩ := arr4_inj hcs
                  exact ⟨e0.kind, h27, by rw [hne2]; simp, rfl, be, offe, hA, hlt, by simpa using hc0⟩
              · refine .inr ⟨by omega, ?_⟩
                cases es with
                | nil => rfl
                | cons e0 r0 => simp only [firstOf, firstK]; rw [if_neg (by omega), if_neg (by omega)]
            have HDEF2 := Lib.hid hdef2
            clear hcel hdef2 hhead hall
            have hcases : (stsOK al = false) ∨ (stsOK al = true ∧ stsOK bl = false) ∨ (stsOK al = true ∧ stsOK bl = true) := by cases stsOK al <;> cases stsOK bl <;> simp
            have hres : ∀ f, firstOf sk es = f → stmtOK (.mk sk sn sty snm es al bl) = (f && (stsOK al && stsOK bl)) := fun f hf => by rw [HDEF2.out, hf]
            rcases hfirst with ⟨k0, h27, hpos, hf, be, offe, rfl, hbe, hck⟩ | ⟨h27, hf⟩
            · have hres := hres _ hf
              have HRES := Lib.hid hres; clear hres hf
              rcases h27 with rfl | rfl
              all_goals rcases hcases with hsa | ⟨hsa, hsb⟩ | ⟨hsa, hsb⟩
              all_goals have HSA := Lib.hid hsa
              all_goals try have HSB := Lib.hid hsb
              all_goals clear hsa
              all_goals try clear hsb
              all_goals go_wp2_with (first
              | (go_at_call_of 54 (Value.slice Aa NA capa); refine (HI1.out _ _ HVAI.out).mono ?_; rw [HSA.out]; rintro e w5 ⟨rfl, hb5⟩; obtain ⟨hq5', hf5'⟩ := bcell hb5; have HB5 := Lib.hid (HT.out.trans (hb5.mono HT.out.size)); have hkb5 : kb < w5.heap.size := Nat.lt_of_lt_of_le hkbi hb5.size; have HVB5 := Lib.hid (HVBI.out.below hb5 (Nat.le_refl _)))
              | (go_at_call_of 54 (Value.slice Ab NB capb); refine (HI2.out _ _ HVB5.out).mono ?_; rw [HSB.out]; rintro e w6 ⟨rfl, hb6⟩; have HB6 := Lib.hid (HB5.out.trans (hb6.mono HB5.out.size))))
              all_goals first
                | (go_ret
                   refine ⟨ret_bool (HBAD.out ?_).symm, by first | exact HBr.out.trans (HB6.out.mono hBr) | exact HBr.out.trans (HB5.out.mono hBr) | exact HBr.out.trans (HT.out.mono hBr)⟩
                   rw [HRES.out]
                   first | (rw [HSB.out]; simp; done) | (rw [HSA.out]; simp; done) | (simp_all [firstK]; done))
                | (go_roundw
                   case rel => exact ⟨k + 1, by omega, by go_num, HBr.out.trans (HB6.out.mono hBr), by rw [Hid, HSU.out, HRES.out, HSA.out, HSB.out]; simp_all [firstK]⟩
                   case measure => simp [intOf]; omega)
            · have hres := hres _ hf
              have HRES := Lib.hid hres; clear hres hf
              obtain ⟨h2, h7⟩ := h27
              have e2 : (sk == 2) = false := by simp; omega
              have e7 : (sk == 7) = false := by simp; omega
              clear h2 h7
              rcases hcases with hsa | ⟨hsa, hsb⟩ | ⟨hsa, hsb⟩
              all_goals have HSA := Lib.hid hsa
              all_goals try have HSB := Lib.hid hsb
              all_goals clear hsa
              all_goals try clear hsb
              all_goals go_wp2_with (first
              | (go_at_call_of 54 (Value.slice Aa NA capa); refine (HI1.out _ _ HVAI.out).mono ?_; rw [HSA.out]; rintro e w5 ⟨rfl, hb5⟩; obtain ⟨hq5', hf5'⟩ := bcell hb5; have HB5 := Lib.hid (HT.out.trans (hb5.mono HT.out.size)); have hkb5 : kb < w5.heap.size := Nat.lt_of_lt_of_le hkbi hb5.size; have HVB5 := Lib.hid (HVBI.out.below hb5 (Nat.le_refl _)))
              | (go_at_call_of 54 (Value.slice Ab NB capb); refine (HI2.out _ _ HVB5.out).mono ?_; rw [HSB.out]; rintro e w6 ⟨rfl, hb6⟩; have HB6 := Lib.hid (HB5.out.trans (hb6.mono HB5.out.size))))
              all_goals first
                | (go_ret
                   refine ⟨ret_bool (HBAD.out ?_).symm, by first | exact HBr.out.trans (HB6.out.mono hBr) | exact HBr.out.trans (HB5.out.mono hBr) | exact HBr.out.trans (HT.out.mono hBr)⟩
                   rw [HRES.out]
                   first | (rw [HSB.out]; simp; done) | (rw [HSA.out]; simp; done) | (simp_all [firstK]; done))
                | (go_roundw
                   case rel => exact ⟨k + 1, by omega, by go_num, HBr.out.trans (HB6.out.mono hBr), by rw [Hid, HSU.out, HRES.out, HSA.out, HSB.out]; simp_all [firstK]⟩
                   case measure => simp [intOf]; omega)
    · go_wp2_with fail
      go_ret
      refine ⟨ret_bool ?_, HBr.out⟩
      have h1 := Hall.out
      rw [List.take_of_length_le (by have := HN.out; omega)] at h1
      rw [stsOK_all, h1]

theorem mayStmts_any (b : Nat) : ∀ (l : List St), Sts.bulk l ≤ b → b ≤ 2000000 → MayR l := by
  induction b with
  | zero => intro l hb; cases l with
    | nil => simp only [Sts.bulk] at hb; omega
    | cons s l => cases s; simp only [Sts.bulk, St.bulk] at hb; omega
  | succ b ih =>
    intro l hb h2
    refine may_step l (by omega) fun s hs => ?_
    have h := Sts.bulk_le hs
    cases s with
    | mk k n t nm es al bl =>
      simp only [St.bulk] at h
      exact ⟨ih al (by omega) (by omega), ih bl (by omega) (by omega)⟩
end Go.Proofs.YtapdgeajbnbdjaaDoor
