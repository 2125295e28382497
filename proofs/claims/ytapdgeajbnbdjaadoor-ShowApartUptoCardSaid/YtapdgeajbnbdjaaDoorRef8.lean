/- ref03.text for every tree that may be; ref03.Expr. (gen_ref8.py) -/
import Derived.Test.YtapdgeajbnbdjaaDoorRef6
import Derived.Test.YtapdgeajbnbdjaaDoorRef7
import Derived.Test.YtapdgeajbnbdjaaDoorRef1
namespace Go.Proofs.YtapdgeajbnbdjaaDoor
open Go.RowKit

theorem small_at (want : Int) (e : Ex) (h : exprOK e = true) (hb : e.bulk ≤ 2000000) : (atT want e).length ≤ 1000000000 := by
  have h1 := exT_len e h
  have h2 := atP_len want ((shapeOf e.kind).level, exT e)
  unfold atT
  simp only at h2
  omega
theorem small_list : ∀ (es : List Ex), exsOK es = true → (listT es).length ≤ 40 * Exs.bulk es := by
  intro es h
  have h1 := commas_len (kidsT es)
  rw [commas_kids] at h1
  have h2 := kidsT_len es h
  omega

set_option maxHeartbeats 4000000 in
theorem reftext_any (bound : Nat) : ∀ (e : Ex), e.bulk ≤ bound → e.bulk ≤ 2000000 → exprOK e = true → TextR e := by
  induction bound with
  | zero => intro e hb; cases e; simp only [Ex.bulk] at hb; omega
  | succ bound ih =>
    intro e hb hbig hok c w hR
    cases e with
    | mk k n s ks =>
      have hbk := Ex.bulk_kids k n s ks
      rw [exprOK, Bool.and_eq_true] at hok
      obtain ⟨hhead, hkids'⟩ := hok
      have hkids := hkids'
      rw [exsOK_all, List.all_eq_true] at hkids
      have hss : s.size ≤ 1000000000 := by have := hbig; simp only [Ex.bulk] at this; omega
      have hA : ∀ e, e ∈ ks → AtR e := fun e he => at_any e (ih e (by have := Exs.bulk_le he; omega) (by have := Exs.bulk_le he; omega) (hkids e he)) (by have := exT_len e (hkids e he); have := Exs.bulk_le he; omega)
      have hL : ∀ e, e ∈ ks → ∀ want, (atT want e).length ≤ 1000000000 := fun e he want => small_at want e (hkids e he) (by have := Exs.bulk_le he; omega)
      have hnum := head_num hhead
      simp only [Ex.R] at hR
      obtain ⟨kv, rfl, _, _, hs, xs, hv, hRs⟩ := hR
      have hv' := hv
      have hlx := ((Exs.R.all2 ks xs).1 hRs).len
      obtain ⟨A, cap, rfl, hc1, hc2, _, hrows⟩ := hv
      unfold headOK at hhead
      simp only [Bool.and_eq_true, decide_eq_true_iff] at hhead
      obtain ⟨hk, hlo, hhi, _, _, hname⟩ := hhead
      have hk' : 1 ≤ k ∧ k ≤ 18 := by unfold isKind at hk; simpa using hk
      have hcases : k = 1 ∨ k = 2 ∨ k = 3 ∨ k = 4 ∨ k = 5 ∨ k = 6 ∨ k = 7 ∨ k = 8 ∨ k = 9 ∨ k = 10 ∨ k = 11 ∨ k = 12 ∨ k = 13 ∨ k = 14 ∨ k = 15 ∨ k = 16 ∨ k = 17 ∨ k = 18 := by omega
      rcases hcases with rfl | rfl | rfl | rfl | rfl | rfl | rfl | rfl | rfl | rfl | rfl | rfl | rfl | rfl | rfl | rfl | rfl | rfl
      · -- kind 1
        have htx : exT (.mk 1 n s ks) = Lib.itoa n := by simp [exT, joinT]
        rw [htx]
        exact rtext_1 n s xs.length cap w A hnum
      · -- kind 2
        have htx : exT (.mk 2 n s ks) = [110, 117, 108, 108] := by simp [exT, joinT]
        rw [htx]
        exact rtext_2 n s xs.length cap w A
      · -- kind 3
        have htx : exT (.mk 3 n s ks) = [116, 104, 105, 115] := by simp [exT, joinT]
        rw [htx]
        exact rtext_3 n s xs.length cap w A
      · -- kind 4
        have htx : exT (.mk 4 n s ks) = s.data.toList := by simp [exT, joinT]
        rw [htx]
        exact rtext_4 n s xs.length cap w A
      · -- kind 5
        have htx : exT (.mk 5 n s ks) = [110, 101, 119, 32] ++ s.data.toList ++ [40, 41] := by simp [exT, joinT]
        rw [htx]
        exact rtext_5 n s xs.length cap w A (Lib.hid hss)
      · -- kind 6
        simp [shapeOf] at hlo hhi
        obtain ⟨e0, rfl⟩ : ∃ e0, ks = [e0] := by
          match ks, hlo, hhi with
          | [e0], _, _ => exact ⟨e0, rfl⟩
        obtain ⟨c0, c1, c2, A9, n9, cap9, bk, off, hA0, hR0, hk0⟩ := kid_facts (Nat.le_refl _) hrows hRs 0 e0 rfl
        have hk00 : ∀ V, Below w.heap.size w V → bk < V.heap.size ∧ V.cell? ⟨bk, off, none⟩ = some (.int .i64 c0) ∧ V.cell? ⟨bk, off + 1, none⟩ = some (.int .i64 c1) ∧ V.cell? ⟨bk, off + 2, none⟩ = some (.string c2) ∧ V.cell? ⟨bk, off + 3, none⟩ = some (.slice A9 n9 cap9) := fun V hV => by simpa using hk0 V hV
        have hm0 : 0 < xs.length := by rw [hlx]; simp
        subst hA0
        have htx : exT (.mk 6 n s [e0]) = [110, 101, 119, 32, 105, 110, 116, 91] ++ atT 1 e0 ++ [93] := by simp [exT, joinT, kidsT, commas, atT]
        rw [htx]
        exact rtext_6 n s xs.length cap w e0 c0 c1 c2 A9 n9 cap9 bk off (Lib.hid hk00) hm0 (Lib.hid hR0) (Lib.hid (hA e0 (by simp))) (Lib.hid (hL e0 (by simp) 1))
      · -- kind 7
        simp [shapeOf] at hlo hhi
        obtain ⟨e0, rfl⟩ : ∃ e0, ks = [e0] := by
          match ks, hlo, hhi with
          | [e0], _, _ => exact ⟨e0, rfl⟩
        obtain ⟨c0, c1, c2, A9, n9, cap9, bk, off, hA0, hR0, hk0⟩ := kid_facts (Nat.le_refl _) hrows hRs 0 e0 rfl
        have hk00 : ∀ V, Below w.heap.size w V → bk < V.heap.size ∧ V.cell? ⟨bk, off, none⟩ = some (.int .i64 c0) ∧ V.cell? ⟨bk, off + 1, none⟩ = some (.int .i64 c1) ∧ V.cell? ⟨bk, off + 2, none⟩ = some (.string c2) ∧ V.cell? ⟨bk, off + 3, none⟩ = some (.slice A9 n9 cap9) := fun V hV => by simpa using hk0 V hV
        have hm0 : 0 < xs.length := by rw [hlx]; simp
        subst hA0
        have htx : exT (.mk 7 n s [e0]) = atT 4 e0 ++ 46 :: s.data.toList := by simp [exT, joinT, kidsT, commas, atT]
        rw [htx]
        exact rtext_7 n s xs.length cap w e0 c0 c1 c2 A9 n9 cap9 bk off (Lib.hid hk00) hm0 (Lib.hid hR0) (Lib.hid (hA e0 (by simp))) (Lib.hid (hL e0 (by simp) 4)) (Lib.hid hss)
      · -- kind 8
        simp [shapeOf] at hlo hhi
        obtain ⟨e0, e1, rfl⟩ : ∃ e0 e1, ks = [e0, e1] := by
          match ks, hlo, hhi with
          | [e0, e1], _, _ => exact ⟨e0, e1, rfl⟩
        obtain ⟨c0, c1, c2, A9, n9, cap9, bk, off, hA0, hR0, hk0⟩ := kid_facts (Nat.le_refl _) hrows hRs 0 e0 rfl
        have hk00 : ∀ V, Below w.heap.size w V → bk < V.heap.size ∧ V.cell? ⟨bk, off, none⟩ = some (.int .i64 c0) ∧ V.cell? ⟨bk, off + 1, none⟩ = some (.int .i64 c1) ∧ V.cell? ⟨bk, off + 2, none⟩ = some (.string c2) ∧ V.cell? ⟨bk, off + 3, none⟩ = some (.slice A9 n9 cap9) := fun V hV => by simpa using hk0 V hV
        have hm0 : 0 < xs.length := by rw [hlx]; simp
        obtain ⟨d0, d1, d2, D9, m9, dap9, bk', off', hA', hR1, hk1⟩ := kid_facts (Nat.le_refl _) hrows hRs 1 e1 rfl
        rw [hA0] at hA'
        injection hA' with hA'
        injection hA' with hb1 ho1
        subst hb1; subst ho1
        have hk11 : ∀ V, Below w.heap.size w V → bk < V.heap.size ∧ V.cell? ⟨bk, off + 4, none⟩ = some (.int .i64 d0) ∧ V.cell? ⟨bk, off + 4 + 1, none⟩ = some (.int .i64 d1) ∧ V.cell? ⟨bk, off + 4 + 2, none⟩ = some (.string d2) ∧ V.cell? ⟨bk, off + 4 + 3, none⟩ = some (.slice D9 m9 dap9) := fun V hV => by simpa using hk1 V hV
        have hm1 : 1 < xs.length := by rw [hlx]; simp
        subst hA0
        have htx : exT (.mk 8 n s [e0, e1]) = atT 4 e0 ++ 91 :: (atT 1 e1 ++ [93]) := by
          simp [exT, joinT, kidsT, commas, atT]
        rw [htx]
        exact rtext_8 n s xs.length cap w e0 e1 c0 c1 c2 A9 n9 cap9 bk off d0 d1 d2 D9 m9 dap9 (Lib.hid hk00) hm0 (Lib.hid hR0) (Lib.hid (hA e0 (by simp))) (Lib.hid (hL e0 (by simp) 4)) (Lib.hid hk11) hm1 (Lib.hid hR1) (Lib.hid (hA e1 (by simp))) (Lib.hid (hL e1 (by simp) 1))
      · -- kind 9
        simp [shapeOf] at hlo hhi
        obtain ⟨e0, rfl⟩ : ∃ e0, ks = [e0] := by
          match ks, hlo, hhi with
          | [e0], _, _ => exact ⟨e0, rfl⟩
        obtain ⟨c0, c1, c2, A9, n9, cap9, bk, off, hA0, hR0, hk0⟩ := kid_facts (Nat.le_refl _) hrows hRs 0 e0 rfl
        have hk00 : ∀ V, Below w.heap.size w V → bk < V.heap.size ∧ V.cell? ⟨bk, off, none⟩ = some (.int .i64 c0) ∧ V.cell? ⟨bk, off + 1, none⟩ = some (.int .i64 c1) ∧ V.cell? ⟨bk, off + 2, none⟩ = some (.string c2) ∧ V.cell? ⟨bk, off + 3, none⟩ = some (.slice A9 n9 cap9) := fun V hV => by simpa using hk0 V hV
        have hm0 : 0 < xs.length := by rw [hlx]; simp
        subst hA0
        have htx : exT (.mk 9 n s [e0]) = atT 4 e0 ++ [46, 108, 101, 110, 103, 116, 104] := by simp [exT, joinT, kidsT, commas, atT]
        rw [htx]
        exact rtext_9 n s xs.length cap w e0 c0 c1 c2 A9 n9 cap9 bk off (Lib.hid hk00) hm0 (Lib.hid hR0) (Lib.hid (hA e0 (by simp))) (Lib.hid (hL e0 (by simp) 4))
      · -- kind 10
        simp [shapeOf] at hlo hhi
        obtain ⟨e0, es, rfl⟩ : ∃ e0 es, ks = e0 :: es := by
          match ks, hlo, hhi with
          | e0 :: es, _, _ => exact ⟨e0, es, rfl⟩
        obtain ⟨c0, c1, c2, A9, n9, cap9, bk, off, hA0, hR0, hk0⟩ := kid_facts (Nat.le_refl _) hrows hRs 0 e0 rfl
        have hk00 : ∀ V, Below w.heap.size w V → bk < V.heap.size ∧ V.cell? ⟨bk, off, none⟩ = some (.int .i64 c0) ∧ V.cell? ⟨bk, off + 1, none⟩ = some (.int .i64 c1) ∧ V.cell? ⟨bk, off + 2, none⟩ = some (.string c2) ∧ V.cell? ⟨bk, off + 3, none⟩ = some (.slice A9 n9 cap9) := fun V hV => by simpa using hk0 V hV
        have hm0 : 0 < xs.length := by rw [hlx]; simp
        have htx : exT (.mk 10 n s (e0 :: es)) = atT 4 e0 ++ 46 :: (s.data.toList ++ 40 :: (listT es ++ [41])) := by
          simp [exT, joinT, kidsT, ← commas_kids, atT]
        rw [htx]
        have htv := tail_V hv' hRs hA0
        subst hA0
        have hes : (listT es).length ≤ 1000000000 := by
          have h1 := small_list es (by rw [exsOK, Bool.and_eq_true] at hkids'; exact hkids'.2)
          have : Exs.bulk es ≤ Exs.bulk (e0 :: es) := by simp [Exs.bulk]
          omega
        exact rtext_10 n s xs.length cap w e0 es c0 c1 c2 A9 n9 cap9 bk off (Lib.hid hk00) hm0 hc1 hc2 (Lib.hid hR0) (Lib.hid (hA e0 (by simp))) (Lib.hid (hL e0 (by simp) 4)) (Lib.hid hss) (Lib.hid htv) (Lib.hid (fun e he => hA e (by simp [he]))) (Lib.hid hes)
      · -- kind 11
        have htx : exT (.mk 11 n s ks) = [114, 101, 97, 100, 40] ++ Lib.itoa n ++ [41] := by simp [exT, joinT]
        rw [htx]
        exact rtext_11 n s xs.length cap w A hnum
      · -- kind 12
        simp [shapeOf] at hlo hhi
        obtain ⟨e0, rfl⟩ : ∃ e0, ks = [e0] := by
          match ks, hlo, hhi with
          | [e0], _, _ => exact ⟨e0, rfl⟩
        obtain ⟨c0, c1, c2, A9, n9, cap9, bk, off, hA0, hR0, hk0⟩ := kid_facts (Nat.le_refl _) hrows hRs 0 e0 rfl
        have hk00 : ∀ V, Below w.heap.size w V → bk < V.heap.size ∧ V.cell? ⟨bk, off, none⟩ = some (.int .i64 c0) ∧ V.cell? ⟨bk, off + 1, none⟩ = some (.int .i64 c1) ∧ V.cell? ⟨bk, off + 2, none⟩ = some (.string c2) ∧ V.cell? ⟨bk, off + 3, none⟩ = some (.slice A9 n9 cap9) := fun V hV => by simpa using hk0 V hV
        have hm0 : 0 < xs.length := by rw [hlx]; simp
        subst hA0
        have htx : exT (.mk 12 n s [e0]) = [100, 101, 99, 108, 97, 115, 115, 105, 102, 121, 40] ++ atT 1 e0 ++ [41] := by simp [exT, joinT, kidsT, commas, atT]
        rw [htx]
        exact rtext_12 n s xs.length cap w e0 c0 c1 c2 A9 n9 cap9 bk off (Lib.hid hk00) hm0 (Lib.hid hR0) (Lib.hid (hA e0 (by simp))) (Lib.hid (hL e0 (by simp) 1))
      · -- kind 13
        simp [shapeOf] at hlo hhi
        obtain ⟨e0, e1, rfl⟩ : ∃ e0 e1, ks = [e0, e1] := by
          match ks, hlo, hhi with
          | [e0, e1], _, _ => exact ⟨e0, e1, rfl⟩
        obtain ⟨c0, c1, c2, A9, n9, cap9, bk, off, hA0, hR0, hk0⟩ := kid_facts (Nat.le_refl _) hrows hRs 0 e0 rfl
        have hk00 : ∀ V, Below w.heap.size w V → bk < V.heap.size ∧ V.cell? ⟨bk, off, none⟩ = some (.int .i64 c0) ∧ V.cell? ⟨bk, off + 1, none⟩ = some (.int .i64 c1) ∧ V.cell? ⟨bk, off + 2, none⟩ = some (.string c2) ∧ V.cell? ⟨bk, off + 3, none⟩ = some (.slice A9 n9 cap9) := fun V hV => by simpa using hk0 V hV
        have hm0 : 0 < xs.length := by rw [hlx]; simp
        obtain ⟨d0, d1, d2, D9, m9, dap9, bk', off', hA', hR1, hk1⟩ := kid_facts (Nat.le_refl _) hrows hRs 1 e1 rfl
        rw [hA0] at hA'
        injection hA' with hA'
        injection hA' with hb1 ho1
        subst hb1; subst ho1
        have hk11 : ∀ V, Below w.heap.size w V → bk < V.heap.size ∧ V.cell? ⟨bk, off + 4, none⟩ = some (.int .i64 d0) ∧ V.cell? ⟨bk, off + 4 + 1, none⟩ = some (.int .i64 d1) ∧ V.cell? ⟨bk, off + 4 + 2, none⟩ = some (.string d2) ∧ V.cell? ⟨bk, off + 4 + 3, none⟩ = some (.slice D9 m9 dap9) := fun V hV => by simpa using hk1 V hV
        have hm1 : 1 < xs.length := by rw [hlx]; simp
        subst hA0
        have htx : exT (.mk 13 n s [e0, e1]) = atT 2 e0 ++ 32 :: (opSign 13 ++ 32 :: atT 3 e1) := by
          simp [exT, joinT, kidsT, atT, shapeOf, opSign, (by decide : max (3 : Int) 2 = 3), (by decide : max (1 : Int) 2 = 2)]
        rw [htx]
        exact rtext_13 n s xs.length cap w e0 e1 c0 c1 c2 A9 n9 cap9 bk off d0 d1 d2 D9 m9 dap9 (Lib.hid hk00) hm0 (Lib.hid hR0) (Lib.hid (hA e0 (by simp))) (Lib.hid (hL e0 (by simp) 2)) (Lib.hid hk11) hm1 (Lib.hid hR1) (Lib.hid (hA e1 (by simp))) (Lib.hid (hL e1 (by simp) 3))
      · -- kind 14
        simp [shapeOf] at hlo hhi
        obtain ⟨e0, e1, rfl⟩ : ∃ e0 e1, ks = [e0, e1] := by
          match ks, hlo, hhi with
          | [e0, e1], _, _ => exact ⟨e0, e1, rfl⟩
        obtain ⟨c0, c1, c2, A9, n9, cap9, bk, off, hA0, hR0, hk0⟩ := kid_facts (Nat.le_refl _) hrows hRs 0 e0 rfl
        have hk00 : ∀ V, Below w.heap.size w V → bk < V.heap.size ∧ V.cell? ⟨bk, off, none⟩ = some (.int .i64 c0) ∧ V.cell? ⟨bk, off + 1, none⟩ = some (.int .i64 c1) ∧ V.cell? ⟨bk, off + 2, none⟩ = some (.string c2) ∧ V.cell? ⟨bk, off + 3, none⟩ = some (.slice A9 n9 cap9) := fun V hV => by simpa using hk0 V hV
        have hm0 : 0 < xs.length := by rw [hlx]; simp
        obtain ⟨d0, d1, d2, D9, m9, dap9, bk', off', hA', hR1, hk1⟩ := kid_facts (Nat.le_refl _) hrows hRs 1 e1 rfl
        rw [hA0] at hA'
        injection hA' with hA'
        injection hA' with hb1 ho1
        subst hb1; subst ho1
        have hk11 : ∀ V, Below w.heap.size w V → bk < V.heap.size ∧ V.cell? ⟨bk, off + 4, none⟩ = some (.int .i64 d0) ∧ V.cell? ⟨bk, off + 4 + 1, none⟩ = some (.int .i64 d1) ∧ V.cell? ⟨bk, off + 4 + 2, none⟩ = some (.string d2) ∧ V.cell? ⟨bk, off + 4 + 3, none⟩ = some (.slice D9 m9 dap9) := fun V hV => by simpa using hk1 V hV
        have hm1 : 1 < xs.length := by rw [hlx]; simp
        subst hA0
        have htx : exT (.mk 14 n s [e0, e1]) = atT 2 e0 ++ 32 :: (opSign 14 ++ 32 :: atT 3 e1) := by
          simp [exT, joinT, kidsT, atT, shapeOf, opSign, (by decide : max (3 : Int) 2 = 3), (by decide : max (1 : Int) 2 = 2)]
        rw [htx]
        exact rtext_14 n s xs.length cap w e0 e1 c0 c1 c2 A9 n9 cap9 bk off d0 d1 d2 D9 m9 dap9 (Lib.hid hk00) hm0 (Lib.hid hR0) (Lib.hid (hA e0 (by simp))) (Lib.hid (hL e0 (by simp) 2)) (Lib.hid hk11) hm1 (Lib.hid hR1) (Lib.hid (hA e1 (by simp))) (Lib.hid (hL e1 (by simp) 3))
      · -- kind 15
        simp [shapeOf] at hlo hhi
        obtain ⟨e0, e1, rfl⟩ : ∃ e0 e1, ks = [e0, e1] := by
          match ks, hlo, hhi with
          | [e0, e1], _, _ => exact ⟨e0, e1, rfl⟩
        obtain ⟨c0, c1, c2, A9, n9, cap9, bk, off, hA0, hR0, hk0⟩ := kid_facts (Nat.le_refl _) hrows hRs 0 e0 rfl
        have hk00 : ∀ V, Below w.heap.size w V → bk < V.heap.size ∧ V.cell? ⟨bk, off, none⟩ = some (.int .i64 c0) ∧ V.cell? ⟨bk, off + 1, none⟩ = some (.int .i64 c1) ∧ V.cell? ⟨bk, off + 2, none⟩ = some (.string c2) ∧ V.cell? ⟨bk, off + 3, none⟩ = some (.slice A9 n9 cap9) := fun V hV => by simpa using hk0 V hV
        have hm0 : 0 < xs.length := by rw [hlx]; simp
        obtain ⟨d0, d1, d2, D9, m9, dap9, bk', off', hA', hR1, hk1⟩ := kid_facts (Nat.le_refl _) hrows hRs 1 e1 rfl
        rw [hA0] at hA'
        injection hA' with hA'
        injection hA' with hb1 ho1
        subst hb1; subst ho1
        have hk11 : ∀ V, Below w.heap.size w V → bk < V.heap.size ∧ V.cell? ⟨bk, off + 4, none⟩ = some (.int .i64 d0) ∧ V.cell? ⟨bk, off + 4 + 1, none⟩ = some (.int .i64 d1) ∧ V.cell? ⟨bk, off + 4 + 2, none⟩ = some (.string d2) ∧ V.cell? ⟨bk, off + 4 + 3, none⟩ = some (.slice D9 m9 dap9) := fun V hV => by simpa using hk1 V hV
        have hm1 : 1 < xs.length := by rw [hlx]; simp
        subst hA0
        have htx : exT (.mk 15 n s [e0, e1]) = atT 3 e0 ++ 32 :: (opSign 15 ++ 32 :: atT 4 e1) := by
          simp [exT, joinT, kidsT, atT, shapeOf, opSign, (by decide : max (3 : Int) 2 = 3), (by decide : max (1 : Int) 2 = 2)]
        rw [htx]
        exact rtext_15 n s xs.length cap w e0 e1 c0 c1 c2 A9 n9 cap9 bk off d0 d1 d2 D9 m9 dap9 (Lib.hid hk00) hm0 (Lib.hid hR0) (Lib.hid (hA e0 (by simp))) (Lib.hid (hL e0 (by simp) 3)) (Lib.hid hk11) hm1 (Lib.hid hR1) (Lib.hid (hA e1 (by simp))) (Lib.hid (hL e1 (by simp) 4))
      · -- kind 16
        simp [shapeOf] at hlo hhi
        obtain ⟨e0, e1, rfl⟩ : ∃ e0 e1, ks = [e0, e1] := by
          match ks, hlo, hhi with
          | [e0, e1], _, _ => exact ⟨e0, e1, rfl⟩
        obtain ⟨c0, c1, c2, A9, n9, cap9, bk, off, hA0, hR0, hk0⟩ := kid_facts (Nat.le_refl _) hrows hRs 0 e0 rfl
        have hk00 : ∀ V, Below w.heap.size w V → bk < V.heap.size ∧ V.cell? ⟨bk, off, none⟩ = some (.int .i64 c0) ∧ V.cell? ⟨bk, off + 1, none⟩ = some (.int .i64 c1) ∧ V.cell? ⟨bk, off + 2, none⟩ = some (.string c2) ∧ V.cell? ⟨bk, off + 3, none⟩ = some (.slice A9 n9 cap9) := fun V hV => by simpa using hk0 V hV
        have hm0 : 0 < xs.length := by rw [hlx]; simp
        obtain ⟨d0, d1, d2, D9, m9, dap9, bk', off', hA', hR1, hk1⟩ := kid_facts (Nat.le_refl _) hrows hRs 1 e1 rfl
        rw [hA0] at hA'
        injection hA' with hA'
        injection hA' with hb1 ho1
        subst hb1; subst ho1
        have hk11 : ∀ V, Below w.heap.size w V → bk < V.heap.size ∧ V.cell? ⟨bk, off + 4, none⟩ = some (.int .i64 d0) ∧ V.cell? ⟨bk, off + 4 + 1, none⟩ = some (.int .i64 d1) ∧ V.cell? ⟨bk, off + 4 + 2, none⟩ = some (.string d2) ∧ V.cell? ⟨bk, off + 4 + 3, none⟩ = some (.slice D9 m9 dap9) := fun V hV => by simpa using hk1 V hV
        have hm1 : 1 < xs.length := by rw [hlx]; simp
        subst hA0
        have htx : exT (.mk 16 n s [e0, e1]) = atT 3 e0 ++ 32 :: (opSign 16 ++ 32 :: atT 4 e1) := by
          simp [exT, joinT, kidsT, atT, shapeOf, opSign, (by decide : max (3 : Int) 2 = 3), (by decide : max (1 : Int) 2 = 2)]
        rw [htx]
        exact rtext_16 n s xs.length cap w e0 e1 c0 c1 c2 A9 n9 cap9 bk off d0 d1 d2 D9 m9 dap9 (Lib.hid hk00) hm0 (Lib.hid hR0) (Lib.hid (hA e0 (by simp))) (Lib.hid (hL e0 (by simp) 3)) (Lib.hid hk11) hm1 (Lib.hid hR1) (Lib.hid (hA e1 (by simp))) (Lib.hid (hL e1 (by simp) 4))
      · -- kind 17
        simp [shapeOf] at hlo hhi
        obtain ⟨e0, e1, rfl⟩ : ∃ e0 e1, ks = [e0, e1] := by
          match ks, hlo, hhi with
          | [e0, e1], _, _ => exact ⟨e0, e1, rfl⟩
        obtain ⟨c0, c1, c2, A9, n9, cap9, bk, off, hA0, hR0, hk0⟩ := kid_facts (Nat.le_refl _) hrows hRs 0 e0 rfl
        have hk00 : ∀ V, Below w.heap.size w V → bk < V.heap.size ∧ V.cell? ⟨bk, off, none⟩ = some (.int .i64 c0) ∧ V.cell? ⟨bk, off + 1, none⟩ = some (.int .i64 c1) ∧ V.cell? ⟨bk, off + 2, none⟩ = some (.string c2) ∧ V.cell? ⟨bk, off + 3, none⟩ = some (.slice A9 n9 cap9) := fun V hV => by simpa using hk0 V hV
        have hm0 : 0 < xs.length := by rw [hlx]; simp
        obtain ⟨d0, d1, d2, D9, m9, dap9, bk', off', hA', hR1, hk1⟩ := kid_facts (Nat.le_refl _) hrows hRs 1 e1 rfl
        rw [hA0] at hA'
        injection hA' with hA'
        injection hA' with hb1 ho1
        subst hb1; subst ho1
        have hk11 : ∀ V, Below w.heap.size w V → bk < V.heap.size ∧ V.cell? ⟨bk, off + 4, none⟩ = some (.int .i64 d0) ∧ V.cell? ⟨bk, off + 4 + 1, none⟩ = some (.int .i64 d1) ∧ V.cell? ⟨bk, off + 4 + 2, none⟩ = some (.string d2) ∧ V.cell? ⟨bk, off + 4 + 3, none⟩ = some (.slice D9 m9 dap9) := fun V hV => by simpa using hk1 V hV
        have hm1 : 1 < xs.length := by rw [hlx]; simp
        subst hA0
        have htx : exT (.mk 17 n s [e0, e1]) = atT 2 e0 ++ 32 :: (opSign 17 ++ 32 :: atT 2 e1) := by
          simp [exT, joinT, kidsT, atT, shapeOf, opSign, (by decide : max (3 : Int) 2 = 3), (by decide : max (1 : Int) 2 = 2)]
        rw [htx]
        exact rtext_17 n s xs.length cap w e0 e1 c0 c1 c2 A9 n9 cap9 bk off d0 d1 d2 D9 m9 dap9 (Lib.hid hk00) hm0 (Lib.hid hR0) (Lib.hid (hA e0 (by simp))) (Lib.hid (hL e0 (by simp) 2)) (Lib.hid hk11) hm1 (Lib.hid hR1) (Lib.hid (hA e1 (by simp))) (Lib.hid (hL e1 (by simp) 2))
      · -- kind 18
        simp [shapeOf] at hlo hhi
        obtain ⟨e0, e1, rfl⟩ : ∃ e0 e1, ks = [e0, e1] := by
          match ks, hlo, hhi with
          | [e0, e1], _, _ => exact ⟨e0, e1, rfl⟩
        obtain ⟨c0, c1, c2, A9, n9, cap9, bk, off, hA0, hR0, hk0⟩ := kid_facts (Nat.le_refl _) hrows hRs 0 e0 rfl
        have hk00 : ∀ V, Below w.heap.size w V → bk < V.heap.size ∧ V.cell? ⟨bk, off, none⟩ = some (.int .i64 c0) ∧ V.cell? ⟨bk, off + 1, none⟩ = some (.int .i64 c1) ∧ V.cell? ⟨bk, off + 2, none⟩ = some (.string c2) ∧ V.cell? ⟨bk, off + 3, none⟩ = some (.slice A9 n9 cap9) := fun V hV => by simpa using hk0 V hV
        have hm0 : 0 < xs.length := by rw [hlx]; simp
        obtain ⟨d0, d1, d2, D9, m9, dap9, bk', off', hA', hR1, hk1⟩ := kid_facts (Nat.le_refl _) hrows hRs 1 e1 rfl
        rw [hA0] at hA'
        injection hA' with hA'
        injection hA' with hb1 ho1
        subst hb1; subst ho1
        have hk11 : ∀ V, Below w.heap.size w V → bk < V.heap.size ∧ V.cell? ⟨bk, off + 4, none⟩ = some (.int .i64 d0) ∧ V.cell? ⟨bk, off + 4 + 1, none⟩ = some (.int .i64 d1) ∧ V.cell? ⟨bk, off + 4 + 2, none⟩ = some (.string d2) ∧ V.cell? ⟨bk, off + 4 + 3, none⟩ = some (.slice D9 m9 dap9) := fun V hV => by simpa using hk1 V hV
        have hm1 : 1 < xs.length := by rw [hlx]; simp
        subst hA0
        have htx : exT (.mk 18 n s [e0, e1]) = atT 2 e0 ++ 32 :: (opSign 18 ++ 32 :: atT 2 e1) := by
          simp [exT, joinT, kidsT, atT, shapeOf, opSign, (by decide : max (3 : Int) 2 = 3), (by decide : max (1 : Int) 2 = 2)]
        rw [htx]
        exact rtext_18 n s xs.length cap w e0 e1 c0 c1 c2 A9 n9 cap9 bk off d0 d1 d2 D9 m9 dap9 (Lib.hid hk00) hm0 (Lib.hid hR0) (Lib.hid (hA e0 (by simp))) (Lib.hid (hL e0 (by simp) 2)) (Lib.hid hk11) hm1 (Lib.hid hR1) (Lib.hid (hA e1 (by simp))) (Lib.hid (hL e1 (by simp) 2))

/-- what an expression is answered with -/
def exprS (e : Ex) : ByteArray := if exprOK e then doneS (exT e) else ⟨#[]⟩
def exprN (e : Ex) : Int := if exprOK e then doneN (exT e) else 30

set_option maxRecDepth 100000 in
theorem refExpr_any (e : Ex) (c : Array Value) (w : World) (hR : Ex.R w e c) (hbulk : e.bulk ≤ 2000000) :
    Calls Tryd.prog 8 #[.agg c] w fun x w' => x = .returned (.tuple #[.string (exprS e), .int .i64 (exprN e)]) ∧ Below w.heap.size w w' := by
  unfold exprS exprN
  obtain ⟨A, n, cap, rfl⟩ := hR.cells
  have HR := Lib.hid hR; clear hR
  have hA := Below.alloc (Below.refl w.heap.size w) (Nat.le_refl _)
  by_cases hok : exprOK e = true
  · have hT := reftext_any e.bulk e (Nat.le_refl _) hbulk hok
    rw [if_pos hok, if_pos hok]
    have HOK := Lib.hid hok; clear hok
    have HT := Lib.hid hT; clear hT
    by_cases hl : (exT e).length > 8192
    · have e1 : doneS (exT e) = ⟨#[]⟩ := if_pos hl
      have e2 : doneN (exT e) = 2 := if_pos hl
      rw [e1, e2]
      clear e1 e2
      go_enter Tryd.func8, Tryd.ntmps8
      go_wp2_with fail
      refine (mayExpr_any e.bulk e _ _ (Nat.le_refl _) (Ex.R.below (hA _) (Nat.le_refl _) e _ HR.out)).mono ?_; rintro x w1 ⟨rfl, hb⟩
      rw [HOK.out]
      obtain ⟨hq, hf⟩ := bcell hb
      have hz1 : w.heap.size < w1.heap.size := by have := hb.size; simp at this; omega
      have HB := Lib.hid ((hA _).trans (hb.mono (by simp))); clear hb
      go_wp2_with fail
      refine (HT.out _ _ (Ex.R.below HB.out (Nat.le_refl _) e _ HR.out)).mono ?_; rintro x w2 ⟨rfl, hb⟩
      have HB2 := Lib.hid (HB.out.trans (hb.mono (Nat.le_of_lt hz1))); clear hb
      go_wp2_with fail
      go_ret2
      exact ⟨rfl, HB2.out⟩
    · have e1 : doneS (exT e) = ⟨(exT e).toArray⟩ := if_neg hl
      have e2 : doneN (exT e) = 0 := if_neg hl
      rw [e1, e2]
      clear e1 e2
      go_enter Tryd.func8, Tryd.ntmps8
      go_wp2_with fail
      refine (mayExpr_any e.bulk e _ _ (Nat.le_refl _) (Ex.R.below (hA _) (Nat.le_refl _) e _ HR.out)).mono ?_; rintro x w1 ⟨rfl, hb⟩
      rw [HOK.out]
      obtain ⟨hq, hf⟩ := bcell hb
      have hz1 : w.heap.size < w1.heap.size := by have := hb.size; simp at this; omega
      have HB := Lib.hid ((hA _).trans (hb.mono (by simp))); clear hb
      go_wp2_with fail
      refine (HT.out _ _ (Ex.R.below HB.out (Nat.le_refl _) e _ HR.out)).mono ?_; rintro x w2 ⟨rfl, hb⟩
      have HB2 := Lib.hid (HB.out.trans (hb.mono (Nat.le_of_lt hz1))); clear hb
      go_wp2_with fail
      go_ret2
      exact ⟨rfl, HB2.out⟩
  · have hok : exprOK e = false := by simpa using hok
    rw [hok]
    have HOK := Lib.hid hok; clear hok
    go_enter Tryd.func8, Tryd.ntmps8
    go_wp2_with fail
    refine (mayExpr_any e.bulk e _ _ (Nat.le_refl _) (Ex.R.below (hA _) (Nat.le_refl _) e _ HR.out)).mono ?_; rintro x w1 ⟨rfl, hb⟩
    rw [HOK.out]
    have HB := Lib.hid ((hA _).trans (hb.mono (by simp))); clear hb
    go_wp2_with fail
    go_ret2
    exact ⟨rfl, HB.out⟩
end Go.Proofs.YtapdgeajbnbdjaaDoor
