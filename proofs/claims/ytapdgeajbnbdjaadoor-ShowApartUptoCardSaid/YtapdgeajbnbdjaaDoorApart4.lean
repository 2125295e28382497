/- Statements' texts read one way alone. -/
import Derived.Test.YtapdgeajbnbdjaaDoorApart3
namespace Go.Proofs.YtapdgeajbnbdjaaDoor
open Go.RowKit

theorem type_space {l : List UInt8} (h : isType l = true) : ∀ c ∈ l, (c != 32) = true := by
  unfold isType at h
  simp only [Bool.or_eq_true, beq_iff_eq] at h
  rcases h with rfl | rfl | h
  · decide
  · decide
  · intro c hc
    have := name_all h c hc
    simp
    rintro rfl
    exact absurd this (by decide)
theorem space_span {a b r s : List UInt8} (ha : isType a = true) (hb : isType b = true) (h : a ++ 32 :: r = b ++ 32 :: s) : a = b ∧ r = s := by
  obtain ⟨e1, e2⟩ := span_inj (· != 32) a b (32 :: r) (32 :: s) (type_space ha) (type_space hb) (by simp) (by simp) h
  simp at e2
  exact ⟨e1, e2⟩

/-- the first word of an expression is none of some -/
theorem first_word {e : Ex} (h : exprOK e = true) : ∃ (p : Bool) (hd : Ex) (ss : List Step), exT e = headSp p hd ++ (headRest p hd ++ ss.flatMap stepT) ∧ exprOK hd = true ∧ (p = false → isAtom hd) ∧ (∀ x ∈ ss, stepOK x = true) := by
  obtain ⟨p, hd, ss, hs⟩ := Sp.exists (e.bulk + 1) 1 e (by omega) h
  have ht := hs.text
  obtain ⟨p1, p2, p3, p4, p5, p6⟩ := hs.parts h
  rw [at_one, head_text p hd p1 p3, List.append_assoc] at ht
  exact ⟨p, hd, ss, ht, p1, p3, fun x hx => (p5 x hx).1⟩
theorem tag_word {l : List UInt8} (h : tag l = 4) {p : Bool} {e : Ex} (ho : exprOK e = true) (ha : p = false → isAtom e) (hl : headSp p e = l) : p = false ∧ e.kind = 4 ∧ isName l = true := by
  have h2 := (head_sp p e ho ha).2
  rw [hl, h] at h2
  cases p with
  | true => simp [tagOf] at h2
  | false =>
    have hk : e.kind = 4 := by
      simp [tagOf] at h2
      split at h2 <;> omega
    refine ⟨rfl, hk, ?_⟩
    cases e with
    | mk k n s ks =>
      simp only [Ex.kind] at hk
      subst hk
      obtain ⟨_, _, _, _, _, _, h7, _⟩ := ok_parts ho
      simp [shapeOf] at h7
      rw [← hl]
      simpa [headSp, Ex.kind, Ex.name] using h7
/-- an expression that begins with a word that is none of its own -/
theorem not_word {e : Ex} (h : exprOK e = true) {w : List UInt8} (hw : isWord w = true) (ht : tag w = 4) (hall : ∀ c ∈ w, within c = true) {r s : List UInt8} (hr : ∀ c, r.head? = some c → within c = false) (hs : Good s) : ¬ w ++ r = exT e ++ s := by
  intro he
  obtain ⟨p, hd, ss, hx, ho, ha, hss⟩ := first_word h
  rw [hx] at he
  simp only [List.append_assoc] at he
  have gX : Good (ss.flatMap stepT ++ s) := by
    cases ss with
    | nil => simpa using hs
    | cons x l => rw [List.flatMap_cons, List.append_assoc]; exact (step_good x (hss x (by simp)) _).1
  obtain ⟨h1, _⟩ := within_span hall (head_sp p hd ho ha).1 hr (headRest_good p hd _ gX) he
  obtain ⟨_, _, hn⟩ := tag_word ht ho ha h1.symm
  exact name_ne hn hw rfl
/-- a type, a blank and a letter begin no expression -/
theorem not_decl {e : Ex} (h : exprOK e = true) {t r s : List UInt8} {c : UInt8} (ht : isType t = true) (hc : letter c = true) (hs : Good s) (hs2 : ∀ d r', s = 32 :: d :: r' → letter d = false) : ¬ t ++ 32 :: c :: r = exT e ++ s := by
  intro he
  obtain ⟨p, hd, ss, hx, ho, ha, hss⟩ := first_word h
  have gX : Good (ss.flatMap stepT ++ s) := by
    cases ss with
    | nil => simpa using hs
    | cons x l => rw [List.flatMap_cons, List.append_assoc]; exact (step_good x (hss x (by simp)) _).1
  unfold isType at ht
  simp only [Bool.or_eq_true, beq_iff_eq] at ht
  rcases ht with rfl | rfl | ht
  · exact not_word h (w := [105, 110, 116]) (by decide +kernel) (by decide +kernel) (by decide +kernel) (fun c hc => head_is (c := 32) (by decide) hc) hs he
  · exact not_word h (w := [105, 110, 116]) (r := 91 :: 93 :: 32 :: c :: r) (by decide +kernel) (by decide +kernel) (by decide +kernel) (fun c hc => head_is (c := 91) (by decide) hc) hs (by simpa using he)
  · rw [hx] at he
    simp only [List.append_assoc] at he
    obtain ⟨h1, h2⟩ := within_span (name_all ht) (head_sp p hd ho ha).1 (fun c hc => head_is (c := 32) (by decide) hc) (headRest_good p hd _ gX) he
    have htag : tag t = 4 := by
      obtain ⟨c, r, hl, hc, hall, hw⟩ := name_parts ht
      have e1 := name_ne ht (show isWord [110, 117, 108, 108] = true by decide +kernel)
      have e2 := name_ne ht (show isWord [116, 104, 105, 115] = true by decide +kernel)
      have e3 := name_ne ht (show isWord [110, 101, 119] = true by decide +kernel)
      have e4 := name_ne ht (show isWord [114, 101, 97, 100] = true by decide +kernel)
      have e5 := name_ne ht (show isWord [100, 101, 99, 108, 97, 115, 115, 105, 102, 121] = true by decide +kernel)
      have e6 : t ≠ [] := by rw [hl]; simp
      have hh : letter (t.headD 0) = true := by rw [hl]; exact hc
      unfold tag
      rw [if_neg e6, if_neg e1, if_neg e2, if_neg e3, if_neg e4, if_neg e5, if_pos hh]
    obtain ⟨rfl, hk, _⟩ := tag_word htag ho ha h1.symm
    have hr : headRest false hd = [] := by unfold headRest; rw [if_neg (by decide), if_pos (by simp [hk])]
    rw [hr, List.nil_append] at h2
    cases ss with
    | nil =>
      have := hs2 c r (by simpa using h2.symm)
      rw [hc] at this; cases this
    | cons x l =>
      have hx := hss x (by simp)
      rw [List.flatMap_cons, List.append_assoc] at h2
      cases x with
      | field s => simp [stepT] at h2
      | elem s => simp [stepT] at h2
      | len => simp [stepT] at h2
      | call s l => simp [stepT] at h2
      | bin k e =>
        simp only [stepOK, Bool.and_eq_true, decide_eq_true_iff] at hx
        rcases bins hx.1 hx.2.1 with rfl | rfl | rfl | rfl | rfl | rfl <;> (simp [stepT, shapeOf] at h2; rw [h2.1] at hc; exact absurd hc (by decide))

theorem tabs_cancel {t : Nat} {r s : List UInt8} (h : tabsT t ++ r = tabsT t ++ s) : r = s := List.append_cancel_left h
theorem tabs_end {t : Nat} {r s : List UInt8} : ¬ tabsT t ++ 125 :: r = tabsT (t + 1) ++ s := by
  intro h
  have : tabsT (t + 1) = tabsT t ++ [9] := by unfold tabsT; rw [List.replicate_succ']
  rw [this, List.append_assoc] at h
  have := List.append_cancel_left h
  simp at this

/-- a statement's text behind its tabs -/
def bodyT (t : Nat) : St → List UInt8
  | .mk k n ty nm es a b =>
     if k = 1 then ty.data.toList ++ 32 :: nm.data.toList ++ (if es = [] then [] else [32, 61, 32] ++ listT es) ++ [59, 10]
     else if k = 2 then atT 1 (es.headD default) ++ [32, 61, 32] ++ atT 1 (es.tail.headD default) ++ [59, 10]
     else if k = 3 ∨ k = 4 then (if k = 3 then [105, 102, 32, 40] else [119, 104, 105, 108, 101, 32, 40]) ++ listT es ++ [41, 32] ++ blockT t a ++
         (if b = [] then [] else [32, 101, 108, 115, 101, 32] ++ blockT t b) ++ [10]
     else if k = 5 then [112, 114, 105, 110, 116, 40] ++ Lib.itoa n ++ [44, 32] ++ listT es ++ [41] ++ [59, 10]
     else if k = 6 then [114, 101, 116, 117, 114, 110, 32] ++ listT es ++ [59, 10]
     else listT es ++ [59, 10]
theorem stT_body (t : Nat) (s : St) : stT t s = tabsT t ++ bodyT t s := by
  cases s with
  | mk k n ty nm es a b => rw [stT, bodyT]; rfl
theorem listT_one (e : Ex) : listT [e] = exT e := by rw [listT_cons]; simp

/-- which first words a statement's text has -/
theorem many_one {k : Int} {m : Nat} (h : m = manyOf k m) (h1 : k ≠ 1) (h2 : k ≠ 2) : m = 1 := by
  unfold manyOf at h
  simpa [h1, h2] using h

/-- where blocks read one way -/
def RdB (N : Nat) : Prop := ∀ (l l' : List St) (t : Nat) (r s : List UInt8), stsOK l = true → stsOK l' = true → Sts.bulk l + Sts.bulk l' < N → blockT t l ++ r = blockT t l' ++ s → l = l' ∧ r = s

theorem one_of {es : List Ex} (h : es.length = 1) : ∃ e, es = [e] := by
  match es, h with
  | [e], _ => exact ⟨e, rfl⟩
theorem two_of {es : List Ex} (h : es.length = 2) : ∃ e d, es = [e, d] := by
  match es, h with
  | [e, d], _ => exact ⟨e, d, rfl⟩
end Go.Proofs.YtapdgeajbnbdjaaDoor
