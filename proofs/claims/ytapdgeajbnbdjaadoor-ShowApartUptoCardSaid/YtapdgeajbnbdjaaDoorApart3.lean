/- Expressions' texts read one way alone: the theorem. -/
import Derived.Test.YtapdgeajbnbdjaaDoorApart2
namespace Go.Proofs.YtapdgeajbnbdjaaDoor
open Go.RowKit

theorem good_cons {c : UInt8} (h1 : within c = false) (h2 : c ≠ 40) (r : List UInt8) : Good (c :: r) := by
  intro d hd
  simp at hd
  subst hd
  exact ⟨h1, h2⟩
theorem step_good (x : Step) (hx : stepOK x = true) (r : List UInt8) : Good (stepT x ++ r) ∧ tok (stepT x ++ r) = stepLv x := by
  cases x with
  | field s => exact ⟨good_cons (by decide) (by decide) _, by simp [stepT, tok, stepLv]⟩
  | elem s => exact ⟨good_cons (by decide) (by decide) _, by simp [stepT, tok, stepLv]⟩
  | len => exact ⟨good_cons (by decide) (by decide) _, by simp [stepT, tok, stepLv]⟩
  | call s l => exact ⟨good_cons (by decide) (by decide) _, by simp [stepT, tok, stepLv]⟩
  | bin k e =>
    simp only [stepOK, Bool.and_eq_true, decide_eq_true_iff] at hx
    rcases bins hx.1 hx.2.1 with rfl | rfl | rfl | rfl | rfl | rfl <;> exact ⟨good_cons (by decide) (by decide) _, by simp [stepT, tok, stepLv, shapeOf]⟩
theorem rest_fol {w : Int} {ss : List Step} {r : List UInt8} {L : Int} (h : ∀ x ∈ ss, stepOK x = true) (hL : ∀ x ∈ ss, stepLv x ≤ L) (hw : w ≤ L) (hF : Fol w r) : Fol (L + 1) (ss.flatMap stepT ++ r) := by
  cases ss with
  | nil => exact ⟨by have := hF.1; simp; omega, by simpa using hF.2⟩
  | cons x l =>
    have := step_good x (h x (by simp)) (l.flatMap stepT ++ r)
    rw [List.flatMap_cons, List.append_assoc]
    refine ⟨?_, this.1⟩
    rw [this.2]
    have := hL x (by simp)
    omega

/-- texts up to a measure read one way alone -/
def Rd (M : Nat) : Prop := ∀ (w : Int) (a b : Ex) (r s : List UInt8), 1 ≤ w → w ≤ 4 → exprOK a = true → exprOK b = true → 2 * (a.bulk + b.bulk) + (if w = 1 then 0 else 1) < M → Fol w r → Fol w s → atT w a ++ r = atT w b ++ s → a = b ∧ r = s

theorem Rd.one {M : Nat} (h : Rd M) {a b : Ex} {r s : List UInt8} (oa : exprOK a = true) (ob : exprOK b = true) (hm : 2 * (a.bulk + b.bulk) < M) (hr : Fol 1 r) (hs : Fol 1 s) (he : exT a ++ r = exT b ++ s) : a = b ∧ r = s :=
  h 1 a b r s (by omega) (by omega) oa ob (by simpa using hm) hr hs (by rw [at_one, at_one]; exact he)
theorem fol_41 (r : List UInt8) : Fol 1 (41 :: r) := ⟨by simp [tok], good_cons (by decide) (by decide) r⟩
theorem fol_93 (r : List UInt8) : Fol 1 (93 :: r) := ⟨by simp [tok], good_cons (by decide) (by decide) r⟩
theorem fol_44 (r : List UInt8) : Fol 1 (44 :: r) := ⟨by simp [tok], good_cons (by decide) (by decide) r⟩
theorem fol_59 (r : List UInt8) : Fol 1 (59 :: r) := ⟨by simp [tok], good_cons (by decide) (by decide) r⟩
theorem fol_is (r : List UInt8) : Fol 1 (32 :: 61 :: 32 :: r) := ⟨by simp [tok], good_cons (by decide) (by decide) _⟩

theorem first_char {e : Ex} (h : exprOK e = true) : ∃ c r, exT e = c :: r ∧ (within c = true ∨ c = 40) := by
  obtain ⟨p, hd, ss, hs⟩ := Sp.exists (e.bulk + 1) 1 e (by omega) h
  have ht := hs.text
  obtain ⟨p1, p2, p3, p4, p5, p6⟩ := hs.parts h
  have h1 := head_text p hd p1 p3
  obtain ⟨h2, h3⟩ := head_sp p hd p1 p3
  rw [at_one, h1] at ht
  rw [ht]
  cases hsp : headSp p hd with
  | cons c r => exact ⟨c, _, rfl, .inl (h2 c (by rw [hsp]; simp))⟩
  | nil =>
    cases p with
    | true => exact ⟨40, _, rfl, .inr rfl⟩
    | false =>
      rw [hsp] at h3
      simp [tag, tagOf] at h3
      have := p3 rfl
      unfold isAtom at this
      split at h3 <;> omega
theorem first_ne {e : Ex} (h : exprOK e = true) {d : UInt8} (h1 : within d = false) (h2 : d ≠ 40) (r s : List UInt8) : ¬ d :: r = exT e ++ s := by
  obtain ⟨c, r', hc, hw⟩ := first_char h
  rw [hc]
  intro he
  simp only [List.cons_append, List.cons.injEq] at he
  rcases hw with hw | hw
  · rw [← he.1, h1] at hw; cases hw
  · exact h2 (he.1.trans hw)

theorem readTail {M A B : Nat} (IH : Rd M) (hM : 2 * (A + B) ≤ M) : ∀ (l l' : List Ex) (r s : List UInt8), (∀ e ∈ l, exprOK e = true ∧ e.bulk < A) → (∀ e ∈ l', exprOK e = true ∧ e.bulk < B) →
    l.flatMap (fun e => 44 :: 32 :: exT e) ++ 41 :: r = l'.flatMap (fun e => 44 :: 32 :: exT e) ++ 41 :: s → l = l' ∧ r = s
  | [], [], r, s, _, _, h => by simp at h; exact ⟨rfl, h⟩
  | [], e :: l', r, s, _, _, h => by simp at h
  | e :: l, [], r, s, _, _, h => by simp at h
  | e :: l, d :: l', r, s, h1, h2, h => by
    simp only [List.flatMap_cons, List.cons_append, List.append_assoc, List.cons.injEq, true_and] at h
    have g1 := h1 e (by simp); have g2 := h2 d (by simp)
    have f : ∀ (l : List Ex) (r : List UInt8), Fol 1 (l.flatMap (fun e => 44 :: 32 :: exT e) ++ 41 :: r) := fun l r => by
      cases l with
      | nil => exact fol_41 r
      | cons a l => exact fol_44 _
    obtain ⟨rfl, h'⟩ := IH.one g1.1 g2.1 (by omega) (f l r) (f l' s) h
    obtain ⟨rfl, rfl⟩ := readTail IH hM l l' r s (fun e he => h1 e (by simp [he])) (fun e he => h2 e (by simp [he])) h'
    exact ⟨rfl, rfl⟩
theorem listT_cons (e : Ex) (l : List Ex) : listT (e :: l) = exT e ++ l.flatMap (fun e => 44 :: 32 :: exT e) := by
  unfold listT
  rw [List.map_cons, commas_cons, at_one, List.flatMap_map]
  simp only [at_one]
theorem readList {M A B : Nat} (IH : Rd M) (hM : 2 * (A + B) ≤ M) (l l' : List Ex) (r s : List UInt8) (h1 : ∀ e ∈ l, exprOK e = true ∧ e.bulk < A) (h2 : ∀ e ∈ l', exprOK e = true ∧ e.bulk < B)
    (h : listT l ++ 41 :: r = listT l' ++ 41 :: s) : l = l' ∧ r = s := by
  cases l with
  | nil =>
    cases l' with
    | nil => simpa [listT, commas] using h
    | cons d l' =>
      rw [listT_cons, List.append_assoc] at h
      exact absurd h (first_ne (h2 d (by simp)).1 (by decide) (by decide) _ _)
  | cons e l =>
    cases l' with
    | nil =>
      rw [listT_cons, List.append_assoc] at h
      exact absurd h.symm (first_ne (h1 e (by simp)).1 (by decide) (by decide) _ _)
    | cons d l' =>
      refine readTail (A := A) (B := B) IH hM (e :: l) (d :: l') r s h1 h2 ?_
      rw [listT_cons, listT_cons] at h
      simpa using h

theorem within_span {a b r s : List UInt8} (ha : ∀ c ∈ a, within c = true) (hb : ∀ c ∈ b, within c = true) (hr : ∀ c, r.head? = some c → within c = false) (hs : ∀ c, s.head? = some c → within c = false) (h : a ++ r = b ++ s) : a = b ∧ r = s :=
  span_inj within a b r s ha hb hr hs h
theorem name_all {s : List UInt8} (h : isName s = true) : ∀ c ∈ s, within c = true := by
  obtain ⟨_, _, _, _, h, _⟩ := name_parts h; exact h
theorem head_is {c d : UInt8} {r : List UInt8} (hc : within c = false) (h : (c :: r).head? = some d) : within d = false := by
  simp at h; subst h; exact hc

theorem exsOK_mem {l : List Ex} (h : exsOK l = true) : ∀ e ∈ l, exprOK e = true := by rw [exsOK_all, List.all_eq_true] at h; exact h

theorem readStep {A B : Nat} (IH : Rd (2 * (A + B))) (x y : Step) (X Y : List UInt8) (hx : stepOK x = true) (hy : stepOK y = true) (bx : stepBulk x < A) (by_ : stepBulk y < B)
    (fX : Fol (stepLv x + 1) X) (fY : Fol (stepLv y + 1) Y) (h : stepT x ++ X = stepT y ++ Y) : x = y ∧ X = Y := by
  have gX : ∀ c, X.head? = some c → within c = false := fun c hc => (fX.2 c hc).1
  have gY : ∀ c, Y.head? = some c → within c = false := fun c hc => (fY.2 c hc).1
  have len : isWord [108, 101, 110, 103, 116, 104] = true := by decide +kernel
  have lenw : ∀ c ∈ ([108, 101, 110, 103, 116, 104] : List UInt8), within c = true := by decide +kernel
  have h40 : ∀ (r : List UInt8) c, ((40 : UInt8) :: r).head? = some c → within c = false := fun r c hc => head_is (by decide) hc
  have nb : ∀ (c : UInt8) (l : List UInt8) (k : Int) (e : Ex) (Z : List UInt8), c ≠ 32 → stepOK (.bin k e) = true → ¬ c :: l = stepT (.bin k e) ++ Z := by
    intro c l k e Z hc hk he
    simp only [stepOK, Bool.and_eq_true, decide_eq_true_iff] at hk
    rcases bins hk.1 hk.2.1 with rfl | rfl | rfl | rfl | rfl | rfl <;> (simp [stepT, shapeOf] at he; exact hc he.1)
  cases x with
  | field s =>
    cases y with
    | field s' =>
      simp only [stepT, List.cons_append, List.cons.injEq, true_and] at h
      obtain ⟨e1, e2⟩ := within_span (name_all hx) (name_all hy) gX gY h
      rw [ba_ext e1]; exact ⟨rfl, e2⟩
    | elem e => simp [stepT] at h
    | len =>
      simp only [stepT, List.cons_append, List.nil_append, List.cons.injEq, true_and] at h
      exact absurd (within_span (b := [108, 101, 110, 103, 116, 104]) (s := Y) (name_all hx) lenw gX gY h).1 (name_ne hx len)
    | call s' l =>
      simp only [stepT, List.cons_append, List.append_assoc, List.cons.injEq, true_and] at h
      simp only [stepOK, Bool.and_eq_true] at hy
      obtain ⟨_, e2⟩ := within_span (name_all hx) (name_all hy.1) gX (h40 _) h
      exact absurd rfl (fX.2 40 (by rw [e2]; rfl)).2
    | bin k e => exact absurd h (nb _ _ k e _ (by decide) hy)
  | elem e =>
    cases y with
    | elem d =>
      simp only [stepT, List.cons_append, List.append_assoc, List.cons.injEq, true_and, at_one] at h
      simp only [stepBulk] at bx by_
      obtain ⟨rfl, h⟩ := IH.one hx hy (by omega) (fol_93 _) (fol_93 _) h
      simp at h
      exact ⟨rfl, h⟩
    | field s => simp [stepT] at h
    | len => simp [stepT] at h
    | call s' l => simp [stepT] at h
    | bin k e => exact absurd h (nb _ _ k e _ (by decide) hy)
  | len =>
    cases y with
    | len => simpa [stepT] using h
    | elem e => simp [stepT] at h
    | field s =>
      simp only [stepT, List.cons_append, List.nil_append, List.cons.injEq, true_and] at h
      exact absurd (within_span (b := [108, 101, 110, 103, 116, 104]) (s := X) (name_all hy) lenw gY gX h.symm).1 (name_ne hy len)
    | call s l =>
      simp only [stepT, List.cons_append, List.nil_append, List.append_assoc, List.cons.injEq, true_and] at h
      simp only [stepOK, Bool.and_eq_true] at hy
      exact absurd (within_span (b := [108, 101, 110, 103, 116, 104]) (s := X) (name_all hy.1) lenw (h40 _) gX h.symm).1 (name_ne hy.1 len)
    | bin k e => exact absurd h (nb _ _ k e _ (by decide) hy)
  | call s l =>
    cases y with
    | call s' l' =>
      simp only [stepT, List.cons_append, List.append_assoc, List.cons.injEq, true_and] at h
      simp only [stepOK, Bool.and_eq_true] at hx hy
      obtain ⟨e1, e2⟩ := within_span (name_all hx.1) (name_all hy.1) (h40 _) (h40 _) h
      simp only [List.cons.injEq, true_and] at e2
      simp only [stepBulk] at bx by_
      obtain ⟨rfl, e3⟩ := readList (A := A) (B := B) IH (Nat.le_refl _) l l' X Y (fun e he => ⟨exsOK_mem hx.2 e he, by have := Exs.bulk_le he; omega⟩) (fun e he => ⟨exsOK_mem hy.2 e he, by have := Exs.bulk_le he; omega⟩) (by simpa using e2)
      rw [ba_ext e1]; exact ⟨rfl, e3⟩
    | field s' =>
      simp only [stepT, List.cons_append, List.append_assoc, List.cons.injEq, true_and] at h
      simp only [stepOK, Bool.and_eq_true] at hx
      obtain ⟨_, e2⟩ := within_span (name_all hx.1) (name_all hy) (h40 _) gY h
      exact absurd rfl (fY.2 40 (by rw [← e2]; rfl)).2
    | elem e => simp [stepT] at h
    | len =>
      simp only [stepT, List.cons_append, List.nil_append, List.append_assoc, List.cons.injEq, true_and] at h
      simp only [stepOK, Bool.and_eq_true] at hx
      exact absurd (within_span (b := [108, 101, 110, 103, 116, 104]) (s := Y) (name_all hx.1) lenw (h40 _) gY h).1 (name_ne hx.1 len)
    | bin k e => exact absurd h (nb _ _ k e _ (by decide) hy)
  | bin k e =>
    cases y with
    | field s => exact absurd h.symm (nb _ _ k e _ (by decide) hx)
    | elem s => exact absurd h.symm (nb _ _ k e _ (by decide) hx)
    | len => exact absurd h.symm (nb _ _ k e _ (by decide) hx)
    | call s l => exact absurd h.symm (nb _ _ k e _ (by decide) hx)
    | bin k' d =>
      simp only [stepBulk] at bx by_
      simp only [stepLv] at fX fY
      simp only [stepOK, Bool.and_eq_true, decide_eq_true_iff] at hx hy
      have hl := level_bin hx.1 hx.2.1
      have hkk : k = k' := by
        rcases bins hx.1 hx.2.1 with rfl | rfl | rfl | rfl | rfl | rfl <;> rcases bins hy.1 hy.2.1 with rfl | rfl | rfl | rfl | rfl | rfl <;> first | rfl | (simp [stepT, shapeOf] at h)
      subst hkk
      simp only [stepT, List.append_assoc, List.append_cancel_left_eq] at h
      obtain ⟨rfl, rfl⟩ := IH _ e d X Y (by omega) (by omega) hx.2.2 hy.2.2 (by split <;> omega) fX fY h
      exact ⟨rfl, rfl⟩

theorem readSteps {A B : Nat} (IH : Rd (2 * (A + B))) {w : Int} : ∀ (ss ss' : List Step) (r s : List UInt8), (∀ x ∈ ss, stepOK x = true ∧ stepBulk x < A ∧ w ≤ stepLv x) → ss.Pairwise (fun x y => stepLv y ≤ stepLv x) →
    (∀ x ∈ ss', stepOK x = true ∧ stepBulk x < B ∧ w ≤ stepLv x) → ss'.Pairwise (fun x y => stepLv y ≤ stepLv x) → Fol w r → Fol w s → ss.flatMap stepT ++ r = ss'.flatMap stepT ++ s → ss = ss' ∧ r = s
  | [], [], r, s, _, _, _, _, _, _, h => by simp at h; exact ⟨rfl, h⟩
  | [], y :: l', r, s, _, _, h2, _, hr, _, h => by
    rw [List.flatMap_cons, List.append_assoc] at h
    have := (step_good y (h2 y (by simp)).1 (l'.flatMap stepT ++ s)).2
    have h' : r = stepT y ++ (l'.flatMap stepT ++ s) := h
    rw [← h'] at this
    have h3 := (h2 y (by simp)).2.2
    have := hr.1
    omega
  | x :: l, [], r, s, h1, _, _, _, _, hs, h => by
    rw [List.flatMap_cons, List.append_assoc] at h
    have := (step_good x (h1 x (by simp)).1 (l.flatMap stepT ++ r)).2
    have h' : s = stepT x ++ (l.flatMap stepT ++ r) := h.symm
    rw [← h'] at this
    have h3 := (h1 x (by simp)).2.2
    have := hs.1
    omega
  | x :: l, y :: l', r, s, h1, p1, h2, p2, hr, hs, h => by
    rw [List.flatMap_cons, List.append_assoc, List.flatMap_cons, List.append_assoc] at h
    rw [List.pairwise_cons] at p1 p2
    have g1 := h1 x (by simp); have g2 := h2 y (by simp)
    obtain ⟨rfl, h'⟩ := readStep IH x y _ _ g1.1 g2.1 g1.2.1 g2.2.1 (rest_fol (fun z hz => (h1 z (by simp [hz])).1) (fun z hz => p1.1 z hz) g1.2.2 hr) (rest_fol (fun z hz => (h2 z (by simp [hz])).1) (fun z hz => p2.1 z hz) g2.2.2 hs) h
    obtain ⟨rfl, rfl⟩ := readSteps IH l l' r s (fun z hz => h1 z (by simp [hz])) p1.2 (fun z hz => h2 z (by simp [hz])) p2.2 hr hs h'
    exact ⟨rfl, rfl⟩

theorem tagOf_val (k n s ks) : tagOf false (.mk k n s ks) = if k = 6 then 5 else k := rfl
theorem hr5 (n s ks) : headRest false (.mk 5 n s ks) = 32 :: (s.data.toList ++ [40, 41]) := by simp [headRest, Ex.kind, Ex.name]
theorem hr6 (n s d) : headRest false (.mk 6 n s [d]) = [32, 105, 110, 116, 91] ++ exT d ++ [93] := by simp [headRest, Ex.kind, Ex.kids]
theorem hr11 (n s ks) : headRest false (.mk 11 n s ks) = 40 :: (Lib.itoa n ++ [41]) := by simp [headRest, Ex.kind, Ex.num]
theorem hr12 (n s d) : headRest false (.mk 12 n s [d]) = 40 :: (exT d ++ [41]) := by simp [headRest, Ex.kind, Ex.kids]
theorem readHead {M : Nat} (IH : Rd M) (p p' : Bool) (a b : Ex) (X Y : List UInt8) (oa : exprOK a = true) (ob : exprOK b = true) (ha : p = false → isAtom a) (hb : p' = false → isAtom b)
    (hM : p = true → p' = true → 2 * (a.bulk + b.bulk) < M) (hM2 : 2 * (a.bulk + b.bulk) ≤ M) (gX : Good X) (gY : Good Y) (h : headT p a ++ X = headT p' b ++ Y) : p = p' ∧ a = b ∧ X = Y := by
  rw [head_text p a oa ha, head_text p' b ob hb, List.append_assoc, List.append_assoc] at h
  obtain ⟨s1, t1⟩ := head_sp p a oa ha
  obtain ⟨s2, t2⟩ := head_sp p' b ob hb
  obtain ⟨h1, h2⟩ := within_span s1 s2 (headRest_good p a X gX) (headRest_good p' b Y gY) h
  have ht : tagOf p a = tagOf p' b := by rw [← t1, ← t2, h1]
  cases p with
  | true =>
    cases p' with
    | false =>
      have := hb rfl
      unfold isAtom at this
      unfold tagOf at ht
      simp at ht
      split at ht <;> omega
    | true =>
      simp only [headRest, if_true, List.cons_append, List.append_assoc, List.cons.injEq, true_and] at h2
      obtain ⟨rfl, h3⟩ := IH.one oa ob (hM rfl rfl) (fol_41 _) (fol_41 _) h2
      simp at h3
      exact ⟨rfl, rfl, h3⟩
  | false =>
    cases p' with
    | true =>
      have := ha rfl
      unfold isAtom at this
      unfold tagOf at ht
      simp at ht
      split at ht <;> omega
    | false =>
      have ha := ha rfl
      have hb := hb rfl
      refine ⟨rfl, ?_⟩
      cases a with
      | mk k n s ks =>
        cases b with
        | mk k' n' s' ks' =>
          obtain ⟨_, _, a3, a4, a5, a6, a7, a8⟩ := ok_parts oa
          obtain ⟨_, _, b3, b4, b5, b6, b7, b8⟩ := ok_parts ob
          unfold isAtom at ha hb
          simp only [Ex.kind] at ha hb
          rw [tagOf_val, tagOf_val] at ht
          have nil : ∀ l : List Ex, (l.length : Int) ≤ 0 → l = [] := fun l hl => List.eq_nil_of_length_eq_zero (by omega)
          have hk : k = k' ∨ (k = 5 ∧ k' = 6) ∨ (k = 6 ∧ k' = 5) := by
            by_cases g1 : k = 6
            · by_cases g2 : k' = 6
              · omega
              · rw [if_pos g1, if_neg g2] at ht; omega
            · by_cases g2 : k' = 6
              · rw [if_neg g1, if_pos g2] at ht; omega
              · rw [if_neg g1, if_neg g2] at ht; omega
          rcases hk with rfl | ⟨rfl, rfl⟩ | ⟨rfl, rfl⟩
          · rcases ha with rfl | rfl | rfl | rfl | rfl | rfl | rfl | rfl
            · simp [shapeOf] at a4 a7 b4 b7
              simp [headSp, Ex.kind, Ex.num] at h1
              simp [headRest, Ex.kind] at h2
              obtain rfl := itoa_inj a5 b5 h1
              rw [a4, b4, a7, b7]
              exact ⟨rfl, h2⟩
            · simp [shapeOf] at a4 a6 a7 b4 b6 b7
              simp [headRest, Ex.kind] at h2
              rw [a4, b4, a7, b7, show n = n' by omega]
              exact ⟨rfl, h2⟩
            · simp [shapeOf] at a4 a6 a7 b4 b6 b7
              simp [headRest, Ex.kind] at h2
              rw [a4, b4, a7, b7, show n = n' by omega]
              exact ⟨rfl, h2⟩
            · simp [shapeOf] at a4 a6 b4 b6
              simp [headRest, Ex.kind] at h2
              simp [headSp, Ex.kind, Ex.name] at h1
              rw [a4, b4, ByteArray.ext h1, show n = n' by omega]
              exact ⟨rfl, h2⟩
            · simp [shapeOf] at a4 a6 a7 b4 b6 b7
              rw [hr5, hr5] at h2
              simp only [List.cons_append, List.append_assoc, List.cons.injEq, true_and] at h2
              obtain ⟨e1, e2⟩ := within_span (name_all a7) (name_all b7) (fun c hc => head_is (by decide) hc) (fun c hc => head_is (by decide) hc) h2
              simp at e2
              rw [a4, b4, ba_ext e1, show n = n' by omega]
              exact ⟨rfl, e2⟩
            · simp [shapeOf] at a3 a4 a6 a7 b3 b4 b6 b7
              match ks, a3, a4, ks', b3, b4 with
              | [d], _, _, [d'], _, _ =>
                simp only [exsOK, Bool.and_true] at a8 b8
                rw [hr6, hr6] at h2
                simp only [List.append_assoc, List.append_cancel_left_eq] at h2
                simp only [Ex.bulk, Exs.bulk] at hM2
                obtain ⟨rfl, e2⟩ := IH.one a8 b8 (by omega) (fol_93 _) (fol_93 _) h2
                simp at e2
                rw [a7, b7, show n = n' by omega]
                exact ⟨rfl, e2⟩
            · simp [shapeOf] at a4 a7 b4 b7
              rw [hr11, hr11] at h2
              simp only [List.cons_append, List.append_assoc, List.cons.injEq, true_and] at h2
              obtain ⟨e1, e2⟩ := within_span (fun c hc => digit_within c (itoa_digit a5 c hc)) (fun c hc => digit_within c (itoa_digit b5 c hc)) (fun c hc => head_is (by decide) hc) (fun c hc => head_is (by decide) hc) h2
              simp at e2
              obtain rfl := itoa_inj a5 b5 e1
              rw [a4, b4, a7, b7]
              exact ⟨rfl, e2⟩
            · simp [shapeOf] at a3 a4 a6 a7 b3 b4 b6 b7
              match ks, a3, a4, ks', b3, b4 with
              | [d], _, _, [d'], _, _ =>
                simp only [exsOK, Bool.and_true] at a8 b8
                rw [hr12, hr12] at h2
                simp only [List.cons_append, List.append_assoc, List.cons.injEq, true_and] at h2
                simp only [Ex.bulk, Exs.bulk] at hM2
                obtain ⟨rfl, e2⟩ := IH.one a8 b8 (by omega) (fol_41 _) (fol_41 _) h2
                simp at e2
                rw [a7, b7, show n = n' by omega]
                exact ⟨rfl, e2⟩
          · exfalso
            simp [shapeOf] at a7 b3 b4
            match ks', b3, b4 with
            | [d'], _, _ =>
            rw [hr5, hr6] at h2
            simp only [List.cons_append, List.nil_append, List.append_assoc, List.cons.injEq, true_and] at h2
            exact absurd (within_span (b := [105, 110, 116]) (name_all a7) (by decide +kernel) (fun c hc => head_is (by decide) hc) (fun c hc => head_is (c := 91) (by decide) hc) h2).1 (name_ne a7 (by decide +kernel))
          · exfalso
            simp [shapeOf] at b7 a3 a4
            match ks, a3, a4 with
            | [d'], _, _ =>
            rw [hr5, hr6] at h2
            simp only [List.cons_append, List.nil_append, List.append_assoc, List.cons.injEq, true_and] at h2
            exact absurd (within_span (b := [105, 110, 116]) (name_all b7) (by decide +kernel) (fun c hc => head_is (by decide) hc) (fun c hc => head_is (c := 91) (by decide) hc) h2.symm).1 (name_ne b7 (by decide +kernel))

theorem rd_mono {M N : Nat} (h : Rd M) (hN : N ≤ M) : Rd N := fun w a b r s h1 h2 h3 h4 h5 => h w a b r s h1 h2 h3 h4 (by omega)
theorem reads (M : Nat) : Rd M := by
  induction M with
  | zero => intro w a b r s _ _ _ _ h; omega
  | succ M IH =>
    intro w a b r s w1 w4 oa ob hM hr hs h
    obtain ⟨p, ha, ss, Sa⟩ := Sp.exists (a.bulk + 1) w a (by omega) oa
    obtain ⟨p', hb, ss', Sb⟩ := Sp.exists (b.bulk + 1) w b (by omega) ob
    rw [Sa.text, Sb.text, List.append_assoc, List.append_assoc] at h
    obtain ⟨a1, a2, a3, a4, a5, a6⟩ := Sa.parts oa
    obtain ⟨b1, b2, b3, b4, b5, b6⟩ := Sb.parts ob
    have la := lv_bd a; have lb := lv_bd b
    have gX : Good (ss.flatMap stepT ++ r) := by
      cases ss with
      | nil => simpa using hr.2
      | cons x l => rw [List.flatMap_cons, List.append_assoc]; exact (step_good x (a5 x (by simp)).1 _).1
    have gY : Good (ss'.flatMap stepT ++ s) := by
      cases ss' with
      | nil => simpa using hs.2
      | cons x l => rw [List.flatMap_cons, List.append_assoc]; exact (step_good x (b5 x (by simp)).1 _).1
    have hM' : 2 * (a.bulk + b.bulk) + (if w = 1 then 0 else 1) ≤ M := by omega
    obtain ⟨rfl, rfl, h'⟩ := readHead IH p p' ha hb _ _ a1 b1 a3 b3 (fun e1 e2 => by
      by_cases hw : w = 1
      · rw [if_pos hw] at hM'
        have g1 := a4 e1
        have g2 := b4 e2
        omega
      · rw [if_neg hw] at hM'; omega) (by have : 2 * (a.bulk + b.bulk) ≤ M := by (split at hM' <;> omega)
                                          omega) gX gY h
    obtain ⟨rfl, rfl⟩ := readSteps (A := a.bulk) (B := b.bulk) (rd_mono IH (by split at hM' <;> omega)) ss ss' r s a5 a6 b5 b6 hr hs h'
    exact ⟨Sa.inj Sb oa ob, rfl⟩

/-- an expression's text, and what follows, tell the expression -/
theorem read_ex {a b : Ex} {r s : List UInt8} (oa : exprOK a = true) (ob : exprOK b = true) (hr : Fol 1 r) (hs : Fol 1 s) (h : exT a ++ r = exT b ++ s) : a = b ∧ r = s :=
  (reads _).one oa ob (Nat.lt_succ_self _) hr hs h
end Go.Proofs.YtapdgeajbnbdjaaDoor
