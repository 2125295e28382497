/- Expressions' texts read one way alone. -/
import Derived.Test.YtapdgeajbnbdjaaDoorApart1
namespace Go.Proofs.YtapdgeajbnbdjaaDoor
open Go.RowKit

/-- the spine: the head, whether it stands in brackets, and the steps behind it -/
inductive Sp : Int → Ex → Bool → Ex → List Step → Prop
  | par (w e) : lv e < w → Sp w e true e []
  | atom (w e) : w ≤ lv e → isAtom e → Sp w e false e []
  | step (w e e0 st p h ss) : w ≤ lv e → Left e e0 st → Sp (leftOf st) e0 p h ss → Sp w e p h (ss ++ [st])

theorem ok_kinds {e : Ex} (h : exprOK e = true) : isAtom e ∨ ∃ e0 st, Left e e0 st := by
  cases e with
  | mk k n s ks =>
    obtain ⟨h1, h2, h3, h4, _⟩ := ok_parts h
    by_cases ha : isAtom (.mk k n s ks)
    · exact .inl ha
    · refine .inr ?_
      have hk : k = 7 ∨ k = 8 ∨ k = 9 ∨ k = 10 ∨ (13 ≤ k ∧ k ≤ 18) := by
        unfold isAtom at ha
        simp only [Ex.kind] at ha
        omega
      rcases hk with rfl | rfl | rfl | rfl | ⟨g1, g2⟩
      · simp [shapeOf] at h3 h4
        match ks, h3, h4 with
        | [e], _, _ => exact ⟨_, _, .field n s e⟩
      · simp [shapeOf] at h3 h4
        match ks, h3, h4 with
        | [e, d], _, _ => exact ⟨_, _, .elem n s e d⟩
      · simp [shapeOf] at h3 h4
        match ks, h3, h4 with
        | [e], _, _ => exact ⟨_, _, .len n s e⟩
      · simp [shapeOf] at h3 h4
        match ks, h3, h4 with
        | e :: l, _, _ => exact ⟨_, _, .call n s e l⟩
      · have h34 : (shapeOf k).least = 2 ∧ (shapeOf k).most = 2 := by rcases bins g1 g2 with rfl | rfl | rfl | rfl | rfl | rfl <;> decide
        rw [h34.1] at h3
        rw [h34.2] at h4
        match ks, h3, h4 with
        | [e, d], _, _ => exact ⟨_, _, .bin k n s e d g1 g2⟩
        | [], h3, _ => simp at h3
        | [_], h3, _ => simp at h3
        | _ :: _ :: _ :: _, _, h4 => simp at h4; omega

theorem Sp.exists (b : Nat) : ∀ (w : Int) (e : Ex), e.bulk < b → exprOK e = true → ∃ p h ss, Sp w e p h ss := by
  induction b with
  | zero => intro w e h; omega
  | succ b ih =>
    intro w e hb ho
    by_cases hl : lv e < w
    · exact ⟨_, _, _, .par w e hl⟩
    · rcases ok_kinds ho with ha | ⟨e0, st, hL⟩
      · exact ⟨_, _, _, .atom w e (by omega) ha⟩
      · obtain ⟨h0, _, hlt⟩ := hL.ok ho
        obtain ⟨p, h, ss, hs⟩ := ih (leftOf st) e0 (by omega) h0
        exact ⟨p, h, _, .step w e e0 st p h ss (by omega) hL hs⟩

def headT (p : Bool) (e : Ex) : List UInt8 := if p then 40 :: (exT e ++ [41]) else exT e

theorem Sp.text {w e p h ss} (hs : Sp w e p h ss) : atT w e = headT p h ++ ss.flatMap stepT := by
  induction hs with
  | par w e hl => rw [at_low hl]; simp [headT]
  | atom w e hl _ => rw [at_high hl]; simp [headT]
  | step w e e0 st p h ss hl hL _ ih => rw [at_high hl, hL.text, ih]; simp

/-- what is known of a spine's parts -/
theorem Sp.parts {w e p h ss} (hs : Sp w e p h ss) : exprOK e = true → exprOK h = true ∧ h.bulk ≤ e.bulk ∧ (p = false → isAtom h) ∧ (p = true → (h.bulk < e.bulk ∨ (h = e ∧ lv e < w))) ∧
    (∀ x ∈ ss, stepOK x = true ∧ stepBulk x < e.bulk ∧ w ≤ stepLv x) ∧ ss.Pairwise (fun x y => stepLv y ≤ stepLv x) := by
  induction hs with
  | par w e hl => intro ho; exact ⟨ho, Nat.le_refl _, (fun h => by cases h), fun _ => .inr ⟨rfl, hl⟩, by simp, by simp⟩
  | atom w e hl ha => intro ho; exact ⟨ho, Nat.le_refl _, fun _ => ha, (fun h => by cases h), by simp, by simp⟩
  | step w e e0 st p h ss hl hL hs' ih =>
    intro ho
    obtain ⟨h0, h1, h2⟩ := hL.ok ho
    obtain ⟨i1, i2, i3, i4, i5, i6⟩ := ih h0
    have hlv := hL.lv
    have hge := left_ge h1
    refine ⟨i1, by omega, i3, fun hp => .inl ?_, ?_, ?_⟩
    · rcases i4 hp with i4 | ⟨rfl, _⟩ <;> omega
    · intro x hx
      rcases List.mem_append.1 hx with hx | hx
      · obtain ⟨j1, j2, j3⟩ := i5 x hx
        exact ⟨j1, by omega, by omega⟩
      · simp at hx; subst hx
        exact ⟨h1, by omega, by omega⟩
    · rw [List.pairwise_append]
      refine ⟨i6, by simp, fun x hx y hy => ?_⟩
      simp at hy; subst hy
      have := (i5 x hx).2.2
      omega

theorem Left.inj {a b e0 : Ex} {st : Step} (ha : Left a e0 st) (hb : Left b e0 st) (oa : exprOK a = true) (ob : exprOK b = true) : a = b := by
  cases ha with
  | field n s =>
    cases hb with
    | field m _ =>
      have h1 := ok_parts oa; have h2 := ok_parts ob
      simp [shapeOf] at h1 h2
      obtain rfl : n = m := by omega
      rfl
  | elem n s _ d =>
    cases hb with
    | elem m s' _ _ =>
      have h1 := ok_parts oa; have h2 := ok_parts ob
      simp [shapeOf] at h1 h2
      obtain rfl : n = m := by omega
      obtain rfl : s = s' := by rw [h1.2.2.1, h2.2.2.1]
      rfl
  | len n s =>
    cases hb with
    | len m s' _ =>
      have h1 := ok_parts oa; have h2 := ok_parts ob
      simp [shapeOf] at h1 h2
      obtain rfl : n = m := by omega
      obtain rfl : s = s' := by rw [h1.2.2.1, h2.2.2.1]
      rfl
  | call n s _ l =>
    cases hb with
    | call m _ _ _ =>
      have h1 := ok_parts oa; have h2 := ok_parts ob
      simp [shapeOf] at h1 h2
      obtain rfl : n = m := by omega
      rfl
  | bin k n s _ d g1 g2 =>
    cases hb with
    | bin _ m s' _ _ _ _ =>
      have h1 := ok_parts oa; have h2 := ok_parts ob
      have hk : (shapeOf k).num = 0 ∧ (shapeOf k).name = false := by rcases bins g1 g2 with rfl | rfl | rfl | rfl | rfl | rfl <;> decide
      rw [hk.1, hk.2] at h1 h2
      obtain ⟨_, _, _, _, a5, a6, a7, _⟩ := h1
      obtain ⟨_, _, _, _, b5, b6, b7, _⟩ := h2
      simp at a7 b7
      obtain rfl : n = m := by omega
      obtain rfl : s = s' := by rw [a7, b7]
      rfl

theorem Sp.inj {w a p h ss} (ha : Sp w a p h ss) : ∀ {b}, Sp w b p h ss → exprOK a = true → exprOK b = true → a = b := by
  induction ha with
  | par w e hl => 
    intro b hb _ _
    generalize hq : ([] : List Step) = q at hb
    generalize hp : true = pp at hb
    cases hb with
    | par => rfl
    | atom => cases hp
    | step => simp at hq
  | atom w e hl ha =>
    intro b hb _ _
    generalize hq : ([] : List Step) = q at hb
    generalize hp : false = pp at hb
    cases hb with
    | par => cases hp
    | atom => rfl
    | step => simp at hq
  | step w e e0 st p h ss hl hL hs ih =>
    intro b hb oa ob
    generalize hq : ss ++ [st] = q at hb
    cases hb with
    | par => simp at hq
    | atom => simp at hq
    | step _ _ e1 st' _ _ ss' _ hL' hs' =>
      obtain ⟨rfl, h2⟩ := List.append_inj' hq rfl
      simp at h2
      subst h2
      obtain rfl := ih hs' (hL.ok oa).1 (hL'.ok ob).1
      exact hL.inj hL' oa ob

-- the head: its first word, and what comes behind
def headSp (p : Bool) (e : Ex) : List UInt8 :=
  if p then [] else if e.kind = 1 then Lib.itoa e.num else if e.kind = 2 then [110, 117, 108, 108] else if e.kind = 3 then [116, 104, 105, 115] else if e.kind = 4 then e.name.data.toList
  else if e.kind = 5 ∨ e.kind = 6 then [110, 101, 119] else if e.kind = 11 then [114, 101, 97, 100] else [100, 101, 99, 108, 97, 115, 115, 105, 102, 121]
def headRest (p : Bool) (e : Ex) : List UInt8 :=
  if p then 40 :: (exT e ++ [41]) else if e.kind = 1 ∨ e.kind = 2 ∨ e.kind = 3 ∨ e.kind = 4 then [] else if e.kind = 5 then 32 :: (e.name.data.toList ++ [40, 41])
  else if e.kind = 6 then [32, 105, 110, 116, 91] ++ exT (e.kids.headD default) ++ [93] else if e.kind = 11 then 40 :: (Lib.itoa e.num ++ [41]) else 40 :: (exT (e.kids.headD default) ++ [41])
/-- which head a first word tells -/
def tag (l : List UInt8) : Int :=
  if l = [] then 0 else if l = [110, 117, 108, 108] then 2 else if l = [116, 104, 105, 115] then 3 else if l = [110, 101, 119] then 5 else if l = [114, 101, 97, 100] then 11
  else if l = [100, 101, 99, 108, 97, 115, 115, 105, 102, 121] then 12 else if letter (l.headD 0) then 4 else 1
def tagOf (p : Bool) (e : Ex) : Int := if p then 0 else if e.kind = 6 then 5 else e.kind

theorem head_text (p : Bool) (e : Ex) (ho : exprOK e = true) (ha : p = false → isAtom e) : headT p e = headSp p e ++ headRest p e := by
  cases p with
  | true => simp [headT, headSp, headRest]
  | false =>
    have ha := ha rfl
    cases e with
    | mk k n s ks =>
      obtain ⟨h1, h2, h3, h4, _⟩ := ok_parts ho
      unfold isAtom at ha
      simp only [Ex.kind] at ha
      rcases ha with rfl | rfl | rfl | rfl | rfl | rfl | rfl | rfl
      · simp [headT, headSp, headRest, Ex.kind, exT, joinT, Ex.num]
      · simp [headT, headSp, headRest, Ex.kind, exT, joinT]
      · simp [headT, headSp, headRest, Ex.kind, exT, joinT]
      · simp [headT, headSp, headRest, Ex.kind, exT, joinT, Ex.name]
      · simp [headT, headSp, headRest, Ex.kind, exT, joinT, Ex.name]
      · simp [shapeOf] at h3 h4
        match ks, h3, h4 with
        | [d], _, _ =>
          have : atP 1 ((shapeOf d.kind).level, exT d) = exT d := at_one d
          simp [headT, headSp, headRest, Ex.kind, exT, joinT, Ex.kids, kidsT, commas]
          exact this
      · simp [headT, headSp, headRest, Ex.kind, exT, joinT, Ex.num]
      · simp [shapeOf] at h3 h4
        match ks, h3, h4 with
        | [d], _, _ =>
          have : atP 1 ((shapeOf d.kind).level, exT d) = exT d := at_one d
          simp [headT, headSp, headRest, Ex.kind, exT, joinT, Ex.kids, kidsT, commas]
          exact this

theorem letter_within {c : UInt8} (h : letter c = true) : within c = true := by unfold within; rw [h]; simp
theorem digit_letter : ∀ c : UInt8, digit c = true → letter c = false := by
  intro c
  have : ∀ n : Fin 256, digit (UInt8.ofNat n.val) = true → letter (UInt8.ofNat n.val) = false := by decide +kernel
  have h := this ⟨c.toNat, c.toNat_lt⟩
  simpa using h
theorem name_ne {l w : List UInt8} (h : isName l = true) (hw : isWord w = true) : l ≠ w := by
  rintro rfl
  obtain ⟨_, _, _, _, _, h⟩ := name_parts h
  rw [hw] at h; cases h

theorem head_sp (p : Bool) (e : Ex) (ho : exprOK e = true) (ha : p = false → isAtom e) : (∀ c ∈ headSp p e, within c = true) ∧ tag (headSp p e) = tagOf p e := by
  cases p with
  | true => simp [headSp, tag, tagOf]
  | false =>
    have ha := ha rfl
    cases e with
    | mk k n s ks =>
      obtain ⟨h1, h2, h3, h4, h5, h6, h7, _⟩ := ok_parts ho
      unfold isAtom at ha
      simp only [Ex.kind] at ha
      rcases ha with rfl | rfl | rfl | rfl | rfl | rfl | rfl | rfl
      · have hd := itoa_digit h5
        have hne := itoa_ne n
        obtain ⟨c, r, hc⟩ : ∃ c r, Lib.itoa n = c :: r := by cases hl : Lib.itoa n with | nil => exact absurd hl hne | cons c r => exact ⟨c, r, rfl⟩
        refine ⟨fun c hc => digit_within c (hd c (by simpa [headSp, Ex.kind, Ex.num] using hc)), ?_⟩
        have hcd : digit c = true := hd c (by rw [hc]; simp)
        have hl := digit_letter c hcd
        have hw : ∀ x : UInt8, letter x = true → c ≠ x := fun x hx e => by rw [e] at hl; rw [hx] at hl; cases hl
        have e1 := hw 110 (by decide); have e2 := hw 116 (by decide); have e3 := hw 114 (by decide); have e4 := hw 100 (by decide)
        simp [headSp, tag, tagOf, Ex.kind, Ex.num, hc, hl, e1, e2, e3, e4]
      · exact ⟨by simp [headSp, Ex.kind]; decide +kernel, by simp [headSp, tag, tagOf, Ex.kind]⟩
      · exact ⟨by simp [headSp, Ex.kind]; decide +kernel, by simp [headSp, tag, tagOf, Ex.kind]⟩
      · simp [shapeOf] at h7
        obtain ⟨c, r, hl, hc, hall, hw⟩ := name_parts h7
        have e1 := name_ne h7 (show isWord [110, 117, 108, 108] = true by decide +kernel)
        have e2 := name_ne h7 (show isWord [116, 104, 105, 115] = true by decide +kernel)
        have e3 := name_ne h7 (show isWord [110, 101, 119] = true by decide +kernel)
        have e4 := name_ne h7 (show isWord [114, 101, 97, 100] = true by decide +kernel)
        have e5 := name_ne h7 (show isWord [100, 101, 99, 108, 97, 115, 115, 105, 102, 121] = true by decide +kernel)
        have e6 : s.data.toList ≠ [] := by rw [hl]; simp
        have hh : letter (s.data.toList.headD 0) = true := by rw [hl]; exact hc
        have hsp : headSp false (.mk 4 n s ks) = s.data.toList := by simp [headSp, Ex.kind, Ex.name]
        have htg : tagOf false (.mk 4 n s ks) = 4 := by simp [tagOf, Ex.kind]
        rw [hsp, htg]
        refine ⟨hall, ?_⟩
        unfold tag
        rw [if_neg e6, if_neg e1, if_neg e2, if_neg e3, if_neg e4, if_neg e5, if_pos hh]
      · exact ⟨by simp [headSp, Ex.kind]; decide +kernel, by simp [headSp, tag, tagOf, Ex.kind]⟩
      · exact ⟨by simp [headSp, Ex.kind]; decide +kernel, by simp [headSp, tag, tagOf, Ex.kind]⟩
      · exact ⟨by simp [headSp, Ex.kind]; decide +kernel, by simp [headSp, tag, tagOf, Ex.kind]⟩
      · exact ⟨by simp [headSp, Ex.kind]; decide +kernel, by simp [headSp, tag, tagOf, Ex.kind]⟩

theorem headRest_good (p : Bool) (e : Ex) (X : List UInt8) (hX : Good X) : ∀ c, (headRest p e ++ X).head? = some c → within c = false := by
  intro c hc
  unfold headRest at hc
  split at hc
  · simp at hc; subst hc; decide
  split at hc
  · exact (hX c (by simpa using hc)).1
  split at hc
  · simp at hc; subst hc; decide
  split at hc
  · simp at hc; subst hc; decide
  split at hc
  · simp at hc; subst hc; decide
  · simp at hc; subst hc; decide
end Go.Proofs.YtapdgeajbnbdjaaDoor
