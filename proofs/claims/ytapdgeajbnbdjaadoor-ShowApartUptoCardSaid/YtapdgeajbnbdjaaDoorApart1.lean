/- Texts read one way alone: names, numbers, the spine of an expression. -/
import Derived.Test.YtapdgeajbnbdjaaDoorText
import Derived.Test.YtapdgeajbnbdjaaDoorPage8
namespace Go.Proofs.YtapdgeajbnbdjaaDoor
open Go.RowKit

theorem span_inj (p : UInt8 → Bool) : ∀ (a b r s : List UInt8), (∀ c ∈ a, p c = true) → (∀ c ∈ b, p c = true) → (∀ c, r.head? = some c → p c = false) → (∀ c, s.head? = some c → p c = false) → a ++ r = b ++ s → a = b ∧ r = s
  | [], [], r, s, _, _, _, _, h => ⟨rfl, h⟩
  | [], c :: b, r, s, _, hb, hr, _, h => by
    have h' : r = c :: (b ++ s) := h
    have := hr c (by rw [h']; rfl)
    rw [hb c (by simp)] at this; cases this
  | c :: a, [], r, s, ha, _, _, hs, h => by
    have h' : s = c :: (a ++ r) := h.symm
    have := hs c (by rw [h']; rfl)
    rw [ha c (by simp)] at this; cases this
  | c :: a, d :: b, r, s, ha, hb, hr, hs, h => by
    simp only [List.cons_append, List.cons.injEq] at h
    obtain ⟨rfl, h⟩ := h
    obtain ⟨rfl, rfl⟩ := span_inj p a b r s (fun c hc => ha c (by simp [hc])) (fun c hc => hb c (by simp [hc])) hr hs h
    exact ⟨rfl, rfl⟩

theorem ba_ext {a b : ByteArray} (h : a.data.toList = b.data.toList) : a = b := by
  apply ByteArray.ext
  exact Array.toList_inj.1 h

-- numbers
def valOf (l : List UInt8) : Nat := l.foldl (fun a c => a * 10 + (c.toNat - 48)) 0
theorem decDigits_val (b : Nat) : ∀ u, u < b → valOf (Lib.decDigits u) = u := by
  induction b with
  | zero => intro u h; omega
  | succ b ih =>
    intro u hu
    have key : ∀ d, d < 10 → (UInt8.ofNat (48 + d)).toNat - 48 = d := fun d hd => by simp; omega
    by_cases h : u < 10
    · rw [Lib.decDigits_one h]
      show 0 * 10 + ((UInt8.ofNat (48 + u)).toNat - 48) = u
      rw [key u h]; omega
    · rw [Lib.decDigits, dif_neg h]
      unfold valOf
      rw [List.foldl_append]
      have h2 := ih (u / 10) (by omega)
      unfold valOf at h2
      rw [h2]
      show u / 10 * 10 + ((UInt8.ofNat (48 + u % 10)).toNat - 48) = u
      rw [key (u % 10) (by omega)]; omega
theorem itoa_inj {n m : Int} (hn : 0 ≤ n) (hm : 0 ≤ m) (h : Lib.itoa n = Lib.itoa m) : n = m := by
  unfold Lib.itoa at h
  rw [if_neg (by omega), if_neg (by omega)] at h
  have h1 := decDigits_val (n.toNat + 1) n.toNat (by omega)
  have h2 := decDigits_val (m.toNat + 1) m.toNat (by omega)
  rw [h] at h1
  omega
theorem digit_within (c : UInt8) (h : digit c = true) : within c = true := by unfold within; rw [h]; simp
theorem decDigits_digit (b : Nat) : ∀ u, u < b → ∀ c ∈ Lib.decDigits u, digit c = true := by
  induction b with
  | zero => intro u h; omega
  | succ b ih =>
    intro u hu c hc
    have key : ∀ d, d < 10 → digit (UInt8.ofNat (48 + d)) = true := by decide +kernel
    by_cases h : u < 10
    · rw [Lib.decDigits_one h] at hc
      simp at hc
      subst hc
      have := key u h
      simpa using this
    · rw [Lib.decDigits, dif_neg h] at hc
      rcases List.mem_append.1 hc with hc | hc
      · exact ih (u / 10) (by omega) c hc
      · simp at hc
        subst hc
        have := key (u % 10) (by omega)
        simpa using this
theorem itoa_digit {n : Int} (hn : 0 ≤ n) : ∀ c ∈ Lib.itoa n, digit c = true := by
  unfold Lib.itoa
  rw [if_neg (by omega)]
  exact decDigits_digit _ _ (Nat.lt_succ_self _)

-- names
theorem name_parts {l : List UInt8} (h : isName l = true) : ∃ c r, l = c :: r ∧ letter c = true ∧ (∀ d ∈ l, within d = true) ∧ isWord l = false := by
  unfold isName at h
  simp only [Bool.and_eq_true, decide_eq_true_iff, Bool.not_eq_true', List.all_eq_true] at h
  obtain ⟨⟨⟨⟨h1, _⟩, h3⟩, h4⟩, h5⟩ := h
  cases l with
  | nil => simp at h1
  | cons c r => exact ⟨c, r, rfl, h3, h4, h5⟩

/-- how tightly what begins a text binds to what stands ahead -/
def tok (r : List UInt8) : Int :=
  if r.take 1 = [46] ∨ r.take 1 = [91] then 4 else if r.take 2 = [32, 42] ∨ r.take 2 = [32, 47] then 3 else if r.take 2 = [32, 43] ∨ r.take 2 = [32, 45] then 2
  else if r.take 2 = [32, 60] ∨ r.take 3 = [32, 61, 61] then 1 else 0
def Good (r : List UInt8) : Prop := ∀ c, r.head? = some c → within c = false ∧ c ≠ 40
def Fol (w : Int) (r : List UInt8) : Prop := tok r < w ∧ Good r

inductive Step where
  | field (s : ByteArray)
  | elem (e : Ex)
  | len
  | call (s : ByteArray) (l : List Ex)
  | bin (k : Int) (e : Ex)
def stepT : Step → List UInt8
  | .field s => 46 :: s.data.toList
  | .elem e => 91 :: (atT 1 e ++ [93])
  | .len => [46, 108, 101, 110, 103, 116, 104]
  | .call s l => 46 :: (s.data.toList ++ 40 :: (listT l ++ [41]))
  | .bin k e => (shapeOf k).sign ++ atT ((shapeOf k).level + 1) e
def stepLv : Step → Int
  | .bin k _ => (shapeOf k).level
  | _ => 4
def stepOK : Step → Bool
  | .field s => isName s.data.toList
  | .elem e => exprOK e
  | .len => true
  | .call s l => isName s.data.toList && exsOK l
  | .bin k e => decide (13 ≤ k) && (decide (k ≤ 18) && exprOK e)
def stepBulk : Step → Nat
  | .elem e => e.bulk
  | .call _ l => Exs.bulk l
  | .bin _ e => e.bulk
  | _ => 0
/-- the level that is asked of the left kid -/
def leftOf : Step → Int
  | .bin k _ => max (shapeOf k).level 2
  | _ => 4

/-- an expression whose text begins with its first kid's -/
inductive Left : Ex → Ex → Step → Prop
  | field (n s e) : Left (.mk 7 n s [e]) e (.field s)
  | elem (n s e d) : Left (.mk 8 n s [e, d]) e (.elem d)
  | len (n s e) : Left (.mk 9 n s [e]) e .len
  | call (n s e l) : Left (.mk 10 n s (e :: l)) e (.call s l)
  | bin (k n s e d) : 13 ≤ k → k ≤ 18 → Left (.mk k n s [e, d]) e (.bin k d)
def isAtom (e : Ex) : Prop := e.kind = 1 ∨ e.kind = 2 ∨ e.kind = 3 ∨ e.kind = 4 ∨ e.kind = 5 ∨ e.kind = 6 ∨ e.kind = 11 ∨ e.kind = 12

def lv (e : Ex) : Int := (shapeOf e.kind).level
theorem level_high {k : Int} (h : k < 13 ∨ 18 < k) : (shapeOf k).level = 4 := by
  unfold shapeOf
  rw [if_neg (show ¬ k = 13 by omega), if_neg (show ¬ k = 14 by omega), if_neg (show ¬ k = 15 by omega), if_neg (show ¬ k = 16 by omega), if_neg (show ¬ k = 17 by omega), if_neg (show ¬ k = 18 by omega)]
  simp only [apply_ite Shape.level, ite_self]
theorem bins {k : Int} (h : 13 ≤ k) (h2 : k ≤ 18) : k = 13 ∨ k = 14 ∨ k = 15 ∨ k = 16 ∨ k = 17 ∨ k = 18 := by omega
theorem level_bin {k : Int} (h : 13 ≤ k) (h2 : k ≤ 18) : 1 ≤ (shapeOf k).level ∧ (shapeOf k).level ≤ 3 := by
  rcases bins h h2 with rfl | rfl | rfl | rfl | rfl | rfl <;> decide
theorem lv_bd (e : Ex) : 1 ≤ lv e ∧ lv e ≤ 4 := by
  unfold lv
  by_cases h : 13 ≤ e.kind ∧ e.kind ≤ 18
  · have := level_bin h.1 h.2; omega
  · rw [level_high (by omega)]; omega
theorem at_low {w : Int} {e : Ex} (h : lv e < w) : atT w e = 40 :: (exT e ++ [41]) := by unfold atT atP; rw [if_pos (by exact h)]
theorem at_high {w : Int} {e : Ex} (h : w ≤ lv e) : atT w e = exT e := by unfold atT atP; rw [if_neg (by unfold lv at h; simp only; omega)]
theorem at_one (e : Ex) : atT 1 e = exT e := at_high (lv_bd e).1

theorem Left.text {e e0 : Ex} {st : Step} (h : Left e e0 st) : exT e = atT (leftOf st) e0 ++ stepT st := by
  cases h with
  | field n s => simp [exT, joinT, kidsT, leftOf, stepT, atT]
  | elem n s _ d => simp [exT, joinT, kidsT, leftOf, stepT, atT, commas]
  | len n s => simp [exT, joinT, kidsT, leftOf, stepT, atT]
  | call n s _ l => simp [exT, joinT, kidsT, leftOf, stepT, atT, ← commas_kids]
  | bin k n s _ d h1 h2 =>
    rcases bins h1 h2 with rfl | rfl | rfl | rfl | rfl | rfl <;> simp [exT, joinT, kidsT, leftOf, stepT, atT]
theorem Left.lv {e e0 : Ex} {st : Step} (h : Left e e0 st) : lv e = stepLv st := by
  cases h with
  | field n s => rfl
  | elem n s _ d => rfl
  | len n s => rfl
  | call n s _ l => rfl
  | bin k n s _ d h1 h2 => rfl
theorem left_ge {st : Step} (h : stepOK st = true) : stepLv st ≤ leftOf st ∧ 2 ≤ leftOf st ∧ leftOf st ≤ 4 ∧ 1 ≤ stepLv st ∧ stepLv st ≤ 4 := by
  cases st with
  | bin k e =>
    simp only [stepOK, Bool.and_eq_true, decide_eq_true_iff] at h
    have := level_bin h.1 h.2.1
    simp only [stepLv, leftOf]
    omega
  | _ => simp [stepLv, leftOf]

/-- what there is in an expression that may be -/
theorem ok_parts {k n : Int} {s : ByteArray} {ks : List Ex} (h : exprOK (.mk k n s ks) = true) :
    1 ≤ k ∧ k ≤ 18 ∧ (shapeOf k).least ≤ (ks.length : Int) ∧ (ks.length : Int) ≤ (shapeOf k).most ∧ 0 ≤ n ∧ n ≤ (shapeOf k).num ∧ (if (shapeOf k).name then isName s.data.toList = true else s = ⟨#[]⟩) ∧ exsOK ks = true := by
  rw [exprOK, Bool.and_eq_true] at h
  obtain ⟨h, hk⟩ := h
  unfold headOK isKind nameOK at h
  simp only [Bool.and_eq_true, decide_eq_true_iff] at h
  obtain ⟨⟨h1, h2⟩, h3, h4, h5, h6, h7⟩ := h
  refine ⟨h1, h2, h3, h4, h5, h6, ?_, hk⟩
  split at h7
  · rename_i hn; rw [if_pos hn]; exact h7
  · rename_i hn; rw [if_neg hn]
    apply ba_ext
    simpa using h7
theorem Left.ok {e e0 : Ex} {st : Step} (h : Left e e0 st) (ho : exprOK e = true) : exprOK e0 = true ∧ stepOK st = true ∧ e0.bulk + stepBulk st < e.bulk := by
  cases h with
  | field n s =>
    obtain ⟨_, _, _, _, _, _, h7, h8⟩ := ok_parts ho
    simp [shapeOf] at h7
    simp only [exsOK, Bool.and_true] at h8
    refine ⟨h8, h7, ?_⟩
    simp only [Ex.bulk, Exs.bulk, stepBulk]; omega
  | elem n s _ d =>
    obtain ⟨_, _, _, _, _, _, h7, h8⟩ := ok_parts ho
    simp only [exsOK, Bool.and_true, Bool.and_eq_true] at h8
    refine ⟨h8.1, h8.2, ?_⟩
    simp only [Ex.bulk, Exs.bulk, stepBulk]; omega
  | len n s =>
    obtain ⟨_, _, _, _, _, _, h7, h8⟩ := ok_parts ho
    simp only [exsOK, Bool.and_true] at h8
    refine ⟨h8, rfl, ?_⟩
    simp only [Ex.bulk, Exs.bulk, stepBulk]; omega
  | call n s _ l =>
    obtain ⟨_, _, _, _, _, _, h7, h8⟩ := ok_parts ho
    simp [shapeOf] at h7
    simp only [exsOK, Bool.and_eq_true] at h8
    refine ⟨h8.1, by simp [stepOK, h7, h8.2], ?_⟩
    simp only [Ex.bulk, Exs.bulk, stepBulk]; omega
  | bin k n s _ d h1 h2 =>
    obtain ⟨_, _, _, _, _, _, h7, h8⟩ := ok_parts ho
    simp only [exsOK, Bool.and_true, Bool.and_eq_true] at h8
    refine ⟨h8.1, by simp [stepOK, h1, h2, h8.2], ?_⟩
    simp only [Ex.bulk, Exs.bulk, stepBulk]; omega
end Go.Proofs.YtapdgeajbnbdjaaDoor
