/- mordantref03.kids, MayExpr. -/
import Derived.Test.YtapdgeajbnbdjaaDoorShow2
import Derived.Deep.DeepCutAuto
namespace Go.Proofs.YtapdgeajbnbdjaaDoor
open Go.RowKit

def kidsLo (k : Int) : Int := if isKind k then (shapeOf k).least else -1
def kidsHi (k : Int) : Int := if isKind k then (shapeOf k).most else -1

theorem shape_other (k : Int) (h : ¬ (1 ≤ k ∧ k ≤ 18)) : shapeOf k = ⟨0, 0, false, 0, 4, []⟩ := by
  unfold shapeOf
  repeat rw [if_neg (by omega)]
theorem shape_least (k : Int) : 0 ≤ (shapeOf k).least := by
  by_cases h : 1 ≤ k ∧ k ≤ 18
  · have hk : k = 1 ∨ k = 2 ∨ k = 3 ∨ k = 4 ∨ k = 5 ∨ k = 6 ∨ k = 7 ∨ k = 8 ∨ k = 9 ∨ k = 10 ∨ k = 11 ∨ k = 12 ∨ k = 13 ∨ k = 14 ∨ k = 15 ∨ k = 16 ∨ k = 17 ∨ k = 18 := by omega
    rcases hk with rfl | rfl | rfl | rfl | rfl | rfl | rfl | rfl | rfl | rfl | rfl | rfl | rfl | rfl | rfl | rfl | rfl | rfl <;> decide
  · rw [shape_other k h]; decide

set_option maxHeartbeats 1000000 in
theorem kids_any (k : Int) (w : World) :
    Calls Tryd.prog 43 #[.int .i64 k] w fun e w' => e = .returned (.tuple #[.int .i64 (kidsLo k), .int .i64 (kidsHi k)]) ∧ w = w' := by
  by_cases h : 1 ≤ k ∧ k ≤ 18
  · have hk : k = 1 ∨ k = 2 ∨ k = 3 ∨ k = 4 ∨ k = 5 ∨ k = 6 ∨ k = 7 ∨ k = 8 ∨ k = 9 ∨ k = 10 ∨ k = 11 ∨ k = 12 ∨ k = 13 ∨ k = 14 ∨ k = 15 ∨ k = 16 ∨ k = 17 ∨ k = 18 := by omega
    rcases hk with rfl | rfl | rfl | rfl | rfl | rfl | rfl | rfl | rfl | rfl | rfl | rfl | rfl | rfl | rfl | rfl | rfl | rfl
    all_goals
      go_enter Tryd.func43, Tryd.ntmps43
      go_wp2
      go_ret2
      exact ⟨by simp [kidsLo, kidsHi, isKind, shapeOf], rfl⟩
  · have h1 : isKind k = false := by unfold isKind; simp; omega
    have h2 : kidsLo k = -1 ∧ kidsHi k = -1 := by simp [kidsLo, kidsHi, h1]
    rw [h2.1, h2.2]
    clear h1 h2
    have e1 : (k == 1) = false := by simp; omega
    have e2 : (k == 2) = false := by simp; omega
    have e3 : (k == 3) = false := by simp; omega
    have e4 : (k == 4) = false := by simp; omega
    have e5 : (k == 5) = false := by simp; omega
    have e6 : (k == 6) = false := by simp; omega
    have e7 : (k == 7) = false := by simp; omega
    have e8 : (k == 8) = false := by simp; omega
    have e9 : (k == 9) = false := by simp; omega
    have e10 : (k == 10) = false := by simp; omega
    have e11 : (k == 11) = false := by simp; omega
    have e12 : (k == 12) = false := by simp; omega
    have e13 : (k == 13) = false := by simp; omega
    have e14 : (k == 14) = false := by simp; omega
    have e15 : (k == 15) = false := by simp; omega
    have e16 : (k == 16) = false := by simp; omega
    have e17 : (k == 17) = false := by simp; omega
    have e18 : (k == 18) = false := by simp; omega
    clear h
    go_enter Tryd.func43, Tryd.ntmps43
    go_wp2
    go_ret2
    exact ⟨rfl, rfl⟩

def restOK (k n : Int) (s : List UInt8) : Bool :=
  if k = 1 then decide (0 ≤ n) && s.isEmpty else if k = 11 then decide (0 ≤ n) && (decide (n ≤ 99) && s.isEmpty)
  else if k = 4 ∨ k = 5 ∨ k = 7 ∨ k = 10 then decide (n = 0) && isName s else decide (n = 0) && s.isEmpty
theorem head_rest (k n : Int) (s : List UInt8) (m : Nat) (hn : n ≤ 9223372036854775807) (q1 : 0 ≤ kidsLo k) (q2 : kidsLo k ≤ (m : Int)) (q3 : (m : Int) ≤ kidsHi k) : headOK k n s m = restOK k n s := by
  by_cases h : 1 ≤ k ∧ k ≤ 18
  · have hk : k = 1 ∨ k = 2 ∨ k = 3 ∨ k = 4 ∨ k = 5 ∨ k = 6 ∨ k = 7 ∨ k = 8 ∨ k = 9 ∨ k = 10 ∨ k = 11 ∨ k = 12 ∨ k = 13 ∨ k = 14 ∨ k = 15 ∨ k = 16 ∨ k = 17 ∨ k = 18 := by omega
    have e1 : isKind k = true := by unfold isKind; simp; omega
    unfold kidsLo at q2
    unfold kidsHi at q3
    rw [e1] at q2 q3
    simp only [if_true] at q2 q3
    unfold headOK
    rw [e1, decide_eq_true q2, decide_eq_true q3]
    simp only [Bool.true_and]
    rcases hk with rfl | rfl | rfl | rfl | rfl | rfl | rfl | rfl | rfl | rfl | rfl | rfl | rfl | rfl | rfl | rfl | rfl | rfl
    all_goals (rw [Bool.eq_iff_iff]; simp [shapeOf, nameOK, restOK])
    all_goals first | (rw [← and_assoc, show (0 ≤ n ∧ n ≤ 0) ↔ n = 0 from by omega]; done) | omega | (intros; omega)
  · have e1 : isKind k = false := by unfold isKind; simp; omega
    simp [kidsLo, e1] at q1

set_option maxRecDepth 100000 in
set_option maxHeartbeats 4000000 in
theorem mayExpr_step (k n : Int) (s : ByteArray) (ks : List Ex) (kv : Value) (w : World) (hn : n ≤ 9223372036854775807) (hs : s.size ≤ maxLen) (hv : Exs.V w ks kv)
    (hask : ∀ xs, Exs.R w ks xs → Asks 18 #[] w xs (ks.map exprOK)) :
    Calls Tryd.prog 18 #[.agg #[.int .i64 k, .int .i64 n, .string s, kv]] w fun e w' => e = .returned (.bool (exprOK (.mk k n s ks))) ∧ Below w.heap.size w w' := by
  obtain ⟨xs, h1, h2⟩ := hv
  have hA := hask xs h2
  have hlen := ((Exs.R.all2 ks xs).1 h2).len
  obtain ⟨A, cap, rfl, hc1, hc2, hc3, hrows⟩ := h1
  obtain ⟨m, hm⟩ : ∃ m, m = xs.length := ⟨_, rfl⟩
  have hdef : exprOK (.mk k n s ks) = (headOK k n s.data.toList m && ks.all exprOK) := by rw [exprOK, hm, hlen, exsOK_all]
  rw [← hm] at hc1 ⊢
  unfold maxLen at hc2
  have HX := Lib.hid ((Exs.R.all2 ks xs).1 h2)
  have HD := Lib.hid hdef; have HA := Lib.hid hA; have HR := Lib.hid hrows; have HM := Lib.hid (And.intro hm hlen); have HN := Lib.hid hn
  clear hdef hA hrows hask h2 hm hlen hc3 hn
  have hcount : (kidsLo k < 0 ∨ (m : Int) < kidsLo k ∨ kidsHi k < (m : Int)) ∨ (0 ≤ kidsLo k ∧ kidsLo k ≤ (m : Int) ∧ (m : Int) ≤ kidsHi k) := by omega
  rcases hcount with hcount | ⟨q1, q2, q3⟩
  · have hbad : headOK k n s.data.toList m = false := by
      unfold headOK
      unfold kidsLo kidsHi at hcount
      cases hk : isKind k
      · rfl
      · rw [hk] at hcount
        simp only [if_true] at hcount
        have hl := shape_least k
        rcases hcount with h | h | h
        · omega
        · simp; intros; omega
        · simp; intros; omega
    have HB := Lib.hid hbad; clear hbad
    have HK := Lib.hid (kids_any k)
    generalize kidsLo k = lo at hcount HK
    generalize kidsHi k = hi at hcount HK
    rcases hcount with q | q | q
    all_goals
      go_enter Tryd.func18, Tryd.ntmps18
      go_wp2_with (first
        | (go_at_call 43; refine (HK.out _).mono ?_; rintro e w1 ⟨rfl, rfl⟩))
      all_goals go_ret
      all_goals exact ⟨ret_bool (by rw [HD.out, HB.out]; rfl), (Below.refl _ _).alloc (Nat.le_refl _) _⟩
  · have hrest := head_rest k n s.data.toList m HN.out q1 q2 q3
    have HB := Lib.hid hrest; clear hrest
    have HK := Lib.hid (kids_any k)
    generalize kidsLo k = lo at q1 q2 q3 HK
    generalize kidsHi k = hi at q1 q2 q3 HK
    go_enter Tryd.func18, Tryd.ntmps18
    go_upto_block 0 with (first
      | (go_at_call 43; refine (HK.out _).mono ?_; rintro e w1 ⟨rfl, rfl⟩))
    go_cut [1] (fun p wr => p = .pointer (some ⟨w.heap.size, 0, none⟩) ∧ headOK k n s.data.toList m = true ∧ wr.cell? ⟨w.heap.size, 3, none⟩ = some (.slice A m cap) ∧ Below w.heap.size w wr ∧ w.heap.size < wr.heap.size)
    case first =>
      cases hz : (n != 0)
      all_goals go_wp2_with (first
        | (go_at_call 44; refine (risName_any _ _ hs).mono ?_; rintro e w1 ⟨rfl, rfl⟩))
      all_goals clear HA HR HM HN HK HX q1 q2 q3
      all_goals first | go_ret | go_meet
      all_goals first
        | refine ⟨ret_bool ?_, (Below.refl _ _).alloc (Nat.le_refl _) _⟩
        | refine ⟨rfl, ?_, by simp, (Below.refl _ _).alloc (Nat.le_refl _) _, by simp⟩
      all_goals try rw [HD.out]
      all_goals rw [HB.out]
      all_goals clear HD HB
      all_goals clear hs hc1 hc2
      all_goals try clear HE
      all_goals try generalize ks.all exprOK = R
      all_goals try simp only [ba_toList] at *
      all_goals generalize s.data.toList = S at *
      all_goals simp only [beq_iff_eq, beq_eq_false_iff_ne, bne_iff_ne, ne_eq, Bool.not_eq_true', Bool.not_eq_false', Bool.not_eq_true, Bool.not_eq_false, bne_eq_false_iff_eq] at *
      all_goals simp [restOK, *]
      all_goals try omega
      all_goals (intro hS; subst hS; simp at *; try omega)
    case rest =>
      obtain ⟨rfl, hh, hc3, hB, hz⟩ := hcut
      have HH := Lib.hid hh; clear hh HB HK q1 q2 q3
      go_wp2_with fail
      go_loopw [2, 6, 81] (fun _ _ i wr => ∃ j : Nat, j ≤ m ∧ i = .int .i64 j ∧ Below w.heap.size w wr ∧ Hid ((ks.take j).all exprOK = true)) (fun _ _ i _ => m - (intOf i).toNat)
      case atStart => exact ⟨0, Nat.zero_le _, rfl, hB, by simp [Hid]⟩
      case round =>
        obtain ⟨j, hj, rfl, hBr, Hall⟩ := hrel
        clear hc3 hB hz
        by_cases hlt : j < m
        · have hm1 := HM.out.1
          have hm2 := HM.out.2
          obtain ⟨x, hx⟩ : ∃ x, xs[j]? = some x := ⟨xs[j]'(by omega), List.getElem?_eq_getElem _⟩
          obtain ⟨e, hee⟩ : ∃ e, ks[j]? = some e := ⟨ks[j]'(by omega), List.getElem?_eq_getElem _⟩
          obtain ⟨bk, off, c0, c1, c2, c3, rfl, _, hxx, hc0, hc1, hc2, hc3⟩ := (HR.out.below hBr (Nat.le_refl _)).at4 hx
          obtain ⟨e', hee', hRe⟩ := HX.out.at_ j x hx
          obtain ⟨A9, n9, cap9, hcs⟩ := hRe.cells
          rw [hxx] at hcs
          obtain ⟨rfl, rfl, rfl, rfl⟩ := arr4_inj hcs
          subst hxx
          clear hcs hee' hRe
          have hF := fun o => HA.out j _ (exprOK e) (wr.alloc o) hx (by rw [List.getElem?_map, hee]; rfl) (hBr.alloc hBr.size o)
          have hsucc : (ks.take (j + 1)).all exprOK = exprOK e := by
            rw [List.take_add_one, hee, List.all_append, Hall.out]; simp
          have hall2 : exprOK e = false → ks.all exprOK = false := fun he => by
            rw [List.all_eq_false]; exact ⟨e, List.mem_of_getElem? hee, by simp [he]⟩
          have HF := Lib.hid hF; have HS := Lib.hid hsucc; have H2 := Lib.hid hall2
          clear hF hsucc hall2 hx hee hm1 hm2
          cases hoe : exprOK e
          · have HO := Lib.hid hoe; clear hoe
            go_wp2_with (first
              | (go_at_call 18; refine (HF.out _).mono ?_; rw [HO.out]; rintro e1 w1 ⟨rfl, hb1⟩))
            go_ret
            exact ⟨ret_bool (by rw [HD.out, H2.out HO.out]; simp), (hBr.alloc hBr.size _).trans (hb1.mono (by have := hBr.size; simp; omega))⟩
          · have HO := Lib.hid hoe; clear hoe
            go_wp2_with (first
              | (go_at_call 18; refine (HF.out _).mono ?_; rw [HO.out]; rintro e1 w1 ⟨rfl, hb1⟩))
            go_roundw
            case rel => exact ⟨j + 1, by omega, by go_num, (hBr.alloc hBr.size _).trans (hb1.mono (by have := hBr.size; simp; omega)), by rw [Hid, HS.out]; exact HO.out⟩
            case measure => simp [intOf]; omega
        · go_wp2_with fail
          go_ret
          refine ⟨ret_bool ?_, hBr⟩
          have h1 := Hall.out
          have hm1 := HM.out.1
          have hm2 := HM.out.2
          rw [List.take_of_length_le (by omega)] at h1
          rw [HD.out, HH.out, h1]
          rfl

theorem mayExpr_any (b : Nat) : ∀ (x : Ex) (c : Array Value) (w : World), x.bulk ≤ b → Ex.R w x c →
    Calls Tryd.prog 18 #[.agg c] w fun e w' => e = .returned (.bool (exprOK x)) ∧ Below w.heap.size w w' := by
  induction b with
  | zero => intro x c w hb; cases x; simp only [Ex.bulk] at hb; omega
  | succ b ih =>
    intro x c w hb hx
    cases x with
    | mk k n s ks =>
      simp only [Ex.R] at hx
      obtain ⟨kv, rfl, _, hn, hs, hv⟩ := hx
      refine mayExpr_step k n s ks kv w hn.2 hs hv ?_
      intro xs hxs i x bb W hix hbb hB
      obtain ⟨e, hei, hR⟩ := ((Exs.R.all2 ks xs).1 hxs).at_ i x hix
      rw [List.getElem?_map, hei] at hbb
      obtain rfl : exprOK e = bb := by simpa using hbb
      have hlt := Exs.bulk_le (List.mem_of_getElem? hei)
      have hlt2 := Ex.bulk_kids k n s ks
      exact ih e x W (by omega) (Ex.R.below hB (Nat.le_refl _) e x hR)
end Go.Proofs.YtapdgeajbnbdjaaDoor
