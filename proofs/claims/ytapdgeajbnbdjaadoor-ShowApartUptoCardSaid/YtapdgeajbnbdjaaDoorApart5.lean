/- Statements' and blocks' texts read one way alone: the theorem. -/
import Derived.Test.YtapdgeajbnbdjaaDoorApart4
namespace Go.Proofs.YtapdgeajbnbdjaaDoor
open Go.RowKit

def elseT (t : Nat) (b : List St) : List UInt8 := if b = [] then [] else [32, 101, 108, 115, 101, 32] ++ blockT t b
def decT (es : List Ex) : List UInt8 := (if es = [] then [] else [32, 61, 32] ++ listT es) ++ [59, 10]
theorem form1 (t n ty nm es a b) : bodyT t (.mk 1 n ty nm es a b) = ty.data.toList ++ 32 :: (nm.data.toList ++ decT es) := by simp [bodyT, decT]
theorem form2 (t n ty nm e d a b) : bodyT t (.mk 2 n ty nm [e, d] a b) = exT e ++ 32 :: 61 :: 32 :: (exT d ++ [59, 10]) := by simp [bodyT, at_one]
theorem form3 (t n ty nm e a b) : bodyT t (.mk 3 n ty nm [e] a b) = [105, 102] ++ 32 :: 40 :: (exT e ++ 41 :: 32 :: (blockT t a ++ (elseT t b ++ [10]))) := by simp [bodyT, listT_one, elseT]
theorem form4 (t n ty nm e a b) : bodyT t (.mk 4 n ty nm [e] a b) = [119, 104, 105, 108, 101] ++ 32 :: 40 :: (exT e ++ 41 :: 32 :: (blockT t a ++ (elseT t b ++ [10]))) := by simp [bodyT, listT_one, elseT]
theorem form5 (t n ty nm e a b) : bodyT t (.mk 5 n ty nm [e] a b) = [112, 114, 105, 110, 116] ++ 40 :: (Lib.itoa n ++ 44 :: 32 :: (exT e ++ [41, 59, 10])) := by simp [bodyT, listT_one]
theorem form6 (t n ty nm e a b) : bodyT t (.mk 6 n ty nm [e] a b) = [114, 101, 116, 117, 114, 110] ++ 32 :: (exT e ++ [59, 10]) := by simp [bodyT, listT_one]
theorem form7 (t n ty nm e a b) : bodyT t (.mk 7 n ty nm [e] a b) = exT e ++ [59, 10] := by simp [bodyT, listT_one]

theorem good_is (r : List UInt8) : Good (32 :: 61 :: 32 :: r) := (fol_is r).2
theorem good_59 (r : List UInt8) : Good (59 :: r) := (fol_59 r).2
theorem type_word {t w r s : List UInt8} (ht : isType t = true) (hw : isWord w = true) (hi : w ≠ [105, 110, 116]) (hall : ∀ c ∈ w, within c = true) (hr : ∀ c, r.head? = some c → within c = false) : ¬ t ++ 32 :: s = w ++ r := by
  intro he
  unfold isType at ht
  simp only [Bool.or_eq_true, beq_iff_eq] at ht
  rcases ht with rfl | rfl | ht
  · exact hi (within_span (a := [105, 110, 116]) (by decide +kernel) hall (fun c hc => head_is (c := 32) (by decide) hc) hr he).1.symm
  · exact hi (within_span (a := [105, 110, 116]) (r := 91 :: 93 :: 32 :: s) (by decide +kernel) hall (fun c hc => head_is (c := 91) (by decide) hc) hr (by simpa using he)).1.symm
  · exact name_ne ht hw (within_span (name_all ht) hall (fun c hc => head_is (c := 32) (by decide) hc) hr he).1
theorem name_letter {l : List UInt8} (h : isName l = true) (r : List UInt8) : ∃ c r', l ++ r = c :: r' ∧ letter c = true := by
  obtain ⟨c, l', rfl, hc, _⟩ := name_parts h
  exact ⟨c, _, rfl, hc⟩

/-- a statement's kind shows -/
theorem kind_shows {k k' n n' : Int} {ty ty' nm nm' : ByteArray} {es es' : List Ex} {a a' b b' : List St} (t : Nat) (R R' : List UInt8) (h1 : stmtOK (.mk k n ty nm es a b) = true) (h2 : stmtOK (.mk k' n' ty' nm' es' a' b') = true) (hlt : k < k') :
    ¬ bodyT t (.mk k n ty nm es a b) ++ R = bodyT t (.mk k' n' ty' nm' es' a' b') ++ R' := by
  intro he
  obtain ⟨k1, k7, p1, p2, p3, p4, p5, p6, p7, p8, _⟩ := st_parts h1
  obtain ⟨k1', k7', q1, q2, q3, q4, q5, q6, q7, q8, _⟩ := st_parts h2
  have w3 : ∀ c ∈ ([105, 102] : List UInt8), within c = true := by decide +kernel
  have w4 : ∀ c ∈ ([119, 104, 105, 108, 101] : List UInt8), within c = true := by decide +kernel
  have w5 : ∀ c ∈ ([112, 114, 105, 110, 116] : List UInt8), within c = true := by decide +kernel
  have w6 : ∀ c ∈ ([114, 101, 116, 117, 114, 110] : List UInt8), within c = true := by decide +kernel
  have i3 : isWord [105, 102] = true := by decide +kernel
  have i4 : isWord [119, 104, 105, 108, 101] = true := by decide +kernel
  have i5 : isWord [112, 114, 105, 110, 116] = true := by decide +kernel
  have i6 : isWord [114, 101, 116, 117, 114, 110] = true := by decide +kernel
  have h32 : ∀ (r : List UInt8) c, ((32 : UInt8) :: r).head? = some c → within c = false := fun r c hc => head_is (by decide) hc
  have h40 : ∀ (r : List UInt8) c, ((40 : UInt8) :: r).head? = some c → within c = false := fun r c hc => head_is (by decide) hc
  have hk : k = 1 ∨ k = 2 ∨ k = 3 ∨ k = 4 ∨ k = 5 ∨ k = 6 := by omega
  have hk' : k' = 2 ∨ k' = 3 ∨ k' = 4 ∨ k' = 5 ∨ k' = 6 ∨ k' = 7 := by omega
  have one : ∀ {k : Int} {es : List Ex}, es.length = manyOf k es.length → k ≠ 1 → k ≠ 2 → ∃ e, es = [e] := fun h a b => one_of (many_one h a b)
  rcases hk with rfl | rfl | rfl | rfl | rfl | rfl
  · rw [if_pos rfl] at p1
    rw [form1] at he
    obtain ⟨c, r', hc, hl⟩ := name_letter p1.2 (decT es ++ R)
    simp only [List.append_assoc, List.cons_append] at he
    rcases hk' with rfl | rfl | rfl | rfl | rfl | rfl
    · obtain ⟨e, d, rfl⟩ := two_of (show es'.length = 2 by simpa [manyOf] using q4)
      rw [form2] at he
      simp only [exsOK, Bool.and_eq_true] at q7
      simp only [List.append_assoc, List.cons_append] at he
      rw [hc] at he
      exact not_decl q7.1 p1.1 hl (good_is _) (by intro d r h; simp at h; rw [← h.1]; decide) he
    · obtain ⟨e, rfl⟩ := one q4 (by decide) (by decide)
      rw [form3, List.append_assoc] at he
      exact type_word p1.1 i3 (by decide) w3 (h32 _) he
    · obtain ⟨e, rfl⟩ := one q4 (by decide) (by decide)
      rw [form4, List.append_assoc] at he
      exact type_word p1.1 i4 (by decide) w4 (h32 _) he
    · obtain ⟨e, rfl⟩ := one q4 (by decide) (by decide)
      rw [form5, List.append_assoc] at he
      exact type_word p1.1 i5 (by decide) w5 (h40 _) he
    · obtain ⟨e, rfl⟩ := one q4 (by decide) (by decide)
      rw [form6, List.append_assoc] at he
      exact type_word p1.1 i6 (by decide) w6 (h32 _) he
    · obtain ⟨e, rfl⟩ := one q4 (by decide) (by decide)
      rw [form7, List.append_assoc] at he
      simp only [exsOK, Bool.and_true] at q7
      rw [hc] at he
      exact not_decl q7 p1.1 hl (good_59 _) (by intro d r h; simp at h) he
  · obtain ⟨e, d, rfl⟩ := two_of (show es.length = 2 by simpa [manyOf] using p4)
    rw [form2, List.append_assoc] at he
    simp only [exsOK, Bool.and_eq_true, Bool.and_true] at p7
    rcases hk' with hk' | rfl | rfl | rfl | rfl | rfl
    · omega
    all_goals obtain ⟨f, rfl⟩ := one q4 (by decide) (by decide)
    · rw [form3, List.append_assoc] at he
      exact not_word p7.1 i3 (by decide +kernel) w3 (h32 _) (good_is _) he.symm
    · rw [form4, List.append_assoc] at he
      exact not_word p7.1 i4 (by decide +kernel) w4 (h32 _) (good_is _) he.symm
    · rw [form5, List.append_assoc] at he
      exact not_word p7.1 i5 (by decide +kernel) w5 (h40 _) (good_is _) he.symm
    · rw [form6, List.append_assoc] at he
      exact not_word p7.1 i6 (by decide +kernel) w6 (h32 _) (good_is _) he.symm
    · rw [form7, List.append_assoc] at he
      simp only [exsOK, Bool.and_true] at q7
      have := (read_ex p7.1 q7 (fol_is _) (fol_59 _) he).2
      simp at this
  all_goals obtain ⟨e, rfl⟩ := one p4 (by decide) (by decide)
  · rw [form3] at he
    rcases hk' with hk' | hk' | rfl | rfl | rfl | rfl
    · omega
    · omega
    all_goals obtain ⟨f, rfl⟩ := one q4 (by decide) (by decide)
    · rw [form4] at he; simp at he
    · rw [form5] at he; simp at he
    · rw [form6] at he; simp at he
    · rw [form7, List.append_assoc, List.append_assoc] at he
      simp only [exsOK, Bool.and_true] at q7
      exact not_word q7 i3 (by decide +kernel) w3 (h32 _) (good_59 _) he
  · rw [form4] at he
    rcases hk' with hk' | hk' | hk' | rfl | rfl | rfl
    · omega
    · omega
    · omega
    all_goals obtain ⟨f, rfl⟩ := one q4 (by decide) (by decide)
    · rw [form5] at he; simp at he
    · rw [form6] at he; simp at he
    · rw [form7, List.append_assoc, List.append_assoc] at he
      simp only [exsOK, Bool.and_true] at q7
      exact not_word q7 i4 (by decide +kernel) w4 (h32 _) (good_59 _) he
  · rw [form5] at he
    rcases hk' with hk' | hk' | hk' | hk' | rfl | rfl
    · omega
    · omega
    · omega
    · omega
    all_goals obtain ⟨f, rfl⟩ := one q4 (by decide) (by decide)
    · rw [form6] at he; simp at he
    · rw [form7, List.append_assoc, List.append_assoc] at he
      simp only [exsOK, Bool.and_true] at q7
      exact not_word q7 i5 (by decide +kernel) w5 (h40 _) (good_59 _) he
  · rw [form6] at he
    obtain rfl : k' = 7 := by omega
    obtain ⟨f, rfl⟩ := one q4 (by decide) (by decide)
    rw [form7, List.append_assoc, List.append_assoc] at he
    simp only [exsOK, Bool.and_true] at q7
    exact not_word q7 i6 (by decide +kernel) w6 (h32 _) (good_59 _) he

theorem read_else {N : Nat} (IH : RdB N) {t : Nat} {b b' : List St} {R R' : List UInt8} (h1 : stsOK b = true) (h2 : stsOK b' = true) (hb : Sts.bulk b + Sts.bulk b' < N) (h : elseT t b ++ 10 :: R = elseT t b' ++ 10 :: R') : b = b' ∧ R = R' := by
  unfold elseT at h
  by_cases e1 : b = []
  · by_cases e2 : b' = []
    · rw [if_pos e1, if_pos e2] at h
      simp at h
      exact ⟨e1.trans e2.symm, h⟩
    · rw [if_pos e1, if_neg e2] at h
      simp at h
  · by_cases e2 : b' = []
    · rw [if_neg e1, if_pos e2] at h
      simp at h
    · rw [if_neg e1, if_neg e2] at h
      simp only [List.append_assoc, List.append_cancel_left_eq] at h
      replace h := IH _ _ _ _ _ h1 h2 hb h
      obtain ⟨rfl, h⟩ := h
      simp at h
      exact ⟨rfl, h⟩

theorem read_body {N : Nat} (IH : RdB N) {t : Nat} {s s' : St} {R R' : List UInt8} (h1 : stmtOK s = true) (h2 : stmtOK s' = true) (hN : s.bulk + s'.bulk ≤ N) (he : bodyT t s ++ R = bodyT t s' ++ R') : s = s' ∧ R = R' := by
  cases s with
  | mk k n ty nm es a b =>
    cases s' with
    | mk k' n' ty' nm' es' a' b' =>
      have hkk : k = k' := by
        rcases Int.lt_trichotomy k k' with h | h | h
        · exact absurd he (kind_shows t R R' h1 h2 h)
        · exact h
        · exact absurd he.symm (kind_shows t R' R h2 h1 h)
      subst hkk
      obtain ⟨k1, k7, p1, p2, p3, p4, p5, p6, p7, p8, p9, p10⟩ := st_parts h1
      obtain ⟨_, _, q1, q2, q3, q4, q5, q6, q7, q8, q9, q10⟩ := st_parts h2
      simp only [St.bulk] at hN
      have one : ∀ {es : List Ex}, es.length = manyOf k es.length → k ≠ 1 → k ≠ 2 → ∃ e, es = [e] := fun h a b => one_of (many_one h a b)
      have hk : k = 1 ∨ k = 2 ∨ k = 3 ∨ k = 4 ∨ k = 5 ∨ k = 6 ∨ k = 7 := by omega
      rcases hk with rfl | rfl | rfl | rfl | rfl | rfl | rfl
      · simp at p1 p3 p5 p6 q1 q3 q5 q6
        rw [form1, form1] at he
        simp only [List.append_assoc, List.cons_append] at he
        replace he := space_span p1.1 q1.1 he
        obtain ⟨e1, he⟩ := he
        have hd : ∀ (es : List Ex) (R : List UInt8) c, (decT es ++ R).head? = some c → within c = false := by
          intro es R c hc
          unfold decT at hc
          split at hc
          · exact head_is (c := 59) (r := 10 :: R) (by decide) (by simpa using hc)
          · exact head_is (c := 32) (by decide) hc
        replace he := within_span (name_all p1.2) (name_all q1.2) (hd _ _) (hd _ _) he
        obtain ⟨e2, he⟩ := he
        have lens : es = [] ∨ ∃ e, es = [e] := by
          match es, p4 with
          | [], _ => exact .inl rfl
          | [e], _ => exact .inr ⟨e, rfl⟩
          | _ :: _ :: _, h => simp [manyOf] at h
        have lens' : es' = [] ∨ ∃ e, es' = [e] := by
          match es', q4 with
          | [], _ => exact .inl rfl
          | [e], _ => exact .inr ⟨e, rfl⟩
          | _ :: _ :: _, h => simp [manyOf] at h
        have hes : es = es' ∧ R = R' := by
          rcases lens with rfl | ⟨e, rfl⟩
          · rcases lens' with rfl | ⟨e', rfl⟩
            · simp [decT] at he; exact ⟨rfl, he⟩
            · simp [decT] at he
          · rcases lens' with rfl | ⟨e', rfl⟩
            · simp [decT] at he
            · simp only [exsOK, Bool.and_true] at p7 q7
              simp only [decT, List.cons_ne_nil, if_false, listT_one, List.append_assoc, List.append_cancel_left_eq] at he
              replace he := read_ex p7 q7 (fol_59 _) (fol_59 _) he
              obtain ⟨rfl, he⟩ := he
              simp at he
              exact ⟨rfl, he⟩
        obtain ⟨rfl, rfl⟩ := hes
        rw [ba_ext e1, ba_ext e2, p5, q5, p6, q6, show n = n' by omega]
        exact ⟨rfl, rfl⟩
      · simp at p1 p3 p5 p6 q1 q3 q5 q6
        obtain ⟨e, d, rfl⟩ := two_of (show es.length = 2 by simpa [manyOf] using p4)
        obtain ⟨e', d', rfl⟩ := two_of (show es'.length = 2 by simpa [manyOf] using q4)
        simp only [exsOK, Bool.and_true, Bool.and_eq_true] at p7 q7
        rw [form2, form2, List.append_assoc, List.append_assoc] at he
        replace he := read_ex p7.1 q7.1 (fol_is _) (fol_is _) he
        obtain ⟨rfl, he⟩ := he
        simp only [List.append_eq, List.cons_append, List.nil_append, List.append_assoc, List.cons.injEq, true_and] at he
        replace he := read_ex p7.2 q7.2 (fol_59 _) (fol_59 _) he
        obtain ⟨rfl, he⟩ := he
        simp at he
        rw [p1.1, p1.2, q1.1, q1.2, p5, q5, p6, q6, show n = n' by omega]
        exact ⟨rfl, he⟩
      · simp at p1 p3 q1 q3
        obtain ⟨e, rfl⟩ := one p4 (by decide) (by decide)
        obtain ⟨e', rfl⟩ := one q4 (by decide) (by decide)
        simp only [exsOK, Bool.and_true] at p7 q7
        rw [form3, form3] at he
        simp only [List.cons_append, List.append_assoc, List.append_cancel_left_eq, List.cons.injEq, true_and] at he
        replace he := read_ex p7 q7 (fol_41 _) (fol_41 _) he
        obtain ⟨rfl, he⟩ := he
        simp only [List.cons.injEq, true_and] at he
        replace he := IH _ _ _ _ _ p9 q9 (by omega) he
        obtain ⟨rfl, he⟩ := he
        obtain ⟨rfl, rfl⟩ := read_else IH p10 q10 (by omega) (by simpa using he)
        rw [p1.1, p1.2, q1.1, q1.2, show n = n' by omega]
        exact ⟨rfl, rfl⟩
      · simp at p1 p3 p6 q1 q3 q6
        obtain ⟨e, rfl⟩ := one p4 (by decide) (by decide)
        obtain ⟨e', rfl⟩ := one q4 (by decide) (by decide)
        simp only [exsOK, Bool.and_true] at p7 q7
        rw [form4, form4] at he
        simp only [List.cons_append, List.append_assoc, List.append_cancel_left_eq, List.cons.injEq, true_and] at he
        replace he := read_ex p7 q7 (fol_41 _) (fol_41 _) he
        obtain ⟨rfl, he⟩ := he
        simp only [List.cons.injEq, true_and] at he
        replace he := IH _ _ _ _ _ p9 q9 (by omega) he
        obtain ⟨rfl, he⟩ := he
        obtain ⟨rfl, rfl⟩ := read_else IH p10 q10 (by omega) (by simpa using he)
        rw [p1.1, p1.2, q1.1, q1.2, show n = n' by omega]
        exact ⟨rfl, rfl⟩
      · simp at p1 p5 p6 q1 q5 q6
        obtain ⟨e, rfl⟩ := one p4 (by decide) (by decide)
        obtain ⟨e', rfl⟩ := one q4 (by decide) (by decide)
        simp only [exsOK, Bool.and_true] at p7 q7
        rw [form5, form5] at he
        simp only [List.cons_append, List.append_assoc, List.append_cancel_left_eq, List.cons.injEq, true_and] at he
        replace he := within_span (fun c hc => digit_within c (itoa_digit p2 c hc)) (fun c hc => digit_within c (itoa_digit q2 c hc)) (fun c hc => head_is (c := 44) (by decide) hc) (fun c hc => head_is (c := 44) (by decide) hc) he
        obtain ⟨e1, he⟩ := he
        obtain rfl := itoa_inj p2 q2 e1
        simp only [List.cons.injEq, true_and] at he
        replace he := read_ex p7 q7 (fol_41 _) (fol_41 _) he
        obtain ⟨rfl, he⟩ := he
        simp at he
        rw [p1.1, p1.2, q1.1, q1.2, p5, q5, p6, q6]
        exact ⟨rfl, he⟩
      · simp at p1 p3 p5 p6 q1 q3 q5 q6
        obtain ⟨e, rfl⟩ := one p4 (by decide) (by decide)
        obtain ⟨e', rfl⟩ := one q4 (by decide) (by decide)
        simp only [exsOK, Bool.and_true] at p7 q7
        rw [form6, form6] at he
        simp only [List.cons_append, List.append_assoc, List.append_cancel_left_eq, List.cons.injEq, true_and] at he
        replace he := read_ex p7 q7 (fol_59 _) (fol_59 _) he
        obtain ⟨rfl, he⟩ := he
        simp at he
        rw [p1.1, p1.2, q1.1, q1.2, p5, q5, p6, q6, show n = n' by omega]
        exact ⟨rfl, he⟩
      · simp at p1 p3 p5 p6 q1 q3 q5 q6
        obtain ⟨e, rfl⟩ := one p4 (by decide) (by decide)
        obtain ⟨e', rfl⟩ := one q4 (by decide) (by decide)
        simp only [exsOK, Bool.and_true] at p7 q7
        rw [form7, form7, List.append_assoc, List.append_assoc] at he
        replace he := read_ex p7 q7 (fol_59 _) (fol_59 _) he
        obtain ⟨rfl, he⟩ := he
        simp at he
        rw [p1.1, p1.2, q1.1, q1.2, p5, q5, p6, q6, show n = n' by omega]
        exact ⟨rfl, he⟩

theorem read_sts {N : Nat} (IH : RdB N) (t : Nat) : ∀ (l l' : List St) (R R' : List UInt8), stsOK l = true → stsOK l' = true → Sts.bulk l + Sts.bulk l' ≤ N →
    stsT (t + 1) l ++ (tabsT t ++ 125 :: R) = stsT (t + 1) l' ++ (tabsT t ++ 125 :: R') → l = l' ∧ R = R'
  | [], [], R, R', _, _, _, h => by
    have := tabs_cancel h
    simp at this
    exact ⟨rfl, this⟩
  | [], s :: l', R, R', _, _, _, h => by
    rw [stsT, stsT, stT_body, List.nil_append, List.append_assoc, List.append_assoc] at h
    exact absurd h tabs_end
  | s :: l, [], R, R', _, _, _, h => by
    rw [stsT, stsT, stT_body, List.nil_append, List.append_assoc, List.append_assoc] at h
    exact absurd h.symm tabs_end
  | s :: l, s' :: l', R, R', h1, h2, hb, h => by
    rw [stsT, stsT, stT_body, stT_body, List.append_assoc, List.append_assoc, List.append_assoc, List.append_assoc] at h
    rw [stsOK, Bool.and_eq_true] at h1 h2
    simp only [Sts.bulk] at hb
    replace h := read_body IH h1.1 h2.1 (by omega) (tabs_cancel h)
    obtain ⟨rfl, h⟩ := h
    obtain ⟨rfl, rfl⟩ := read_sts IH t l l' R R' h1.2 h2.2 (by omega) h
    exact ⟨rfl, rfl⟩
theorem rdb (N : Nat) : RdB N := by
  induction N with
  | zero => intro l l' t r s _ _ h; omega
  | succ N IH =>
    intro l l' t r s h1 h2 hb h
    unfold blockT at h
    simp only [List.append_assoc, List.append_cancel_left_eq] at h
    exact read_sts IH t l l' r s h1 h2 (by omega) (by simpa using h)
theorem read_block {l l' : List St} {t : Nat} {r s : List UInt8} (h1 : stsOK l = true) (h2 : stsOK l' = true) (h : blockT t l ++ r = blockT t l' ++ s) : l = l' ∧ r = s :=
  rdb _ l l' t r s h1 h2 (Nat.lt_succ_self _) h
end Go.Proofs.YtapdgeajbnbdjaaDoor
