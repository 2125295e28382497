/- Plain lemmas on bytes and names: no program in sight. -/
import Derived.Lib.IndexMore
import Derived.Lib.Bytealg
import Derived.Laws.BitsAll
namespace Go.Proofs.YtapdgeajbnbdjaaDoor

def letter (c : UInt8) : Bool := (decide (97 ≤ (c.toNat : Int)) && decide ((c.toNat : Int) ≤ 122)) || (decide (65 ≤ (c.toNat : Int)) && decide ((c.toNat : Int) ≤ 90))
def digit (c : UInt8) : Bool := decide (48 ≤ (c.toNat : Int)) && decide ((c.toNat : Int) ≤ 57)
def within (c : UInt8) : Bool := letter c || (digit c || ((c.toNat : Int) == 95))

def wordList : List (List UInt8) :=
  [[99, 108, 97, 115, 115], [101, 120, 116, 101, 110, 100, 115], [105, 110, 116], [109, 97, 105, 110], [105, 102], [101, 108, 115, 101], [119, 104, 105, 108, 101],
   [112, 114, 105, 110, 116], [114, 101, 116, 117, 114, 110], [110, 117, 108, 108], [116, 104, 105, 115], [110, 101, 119], [114, 101, 97, 100], [100, 101, 99, 108, 97, 115, 115, 105, 102, 121], [108, 101, 110, 103, 116, 104]]
def isWord (l : List UInt8) : Bool := wordList.contains l
def isName (l : List UInt8) : Bool := !l.isEmpty && decide (l.length ≤ 16) && letter (l.headD 0) && l.all within && !isWord l

def wordText : List UInt8 := 32 :: wordList.flatMap (fun l => l ++ [32])

theorem or32 : ∀ n : Fin 256, (decide (97 ≤ bits BinOp.or IntKind.u8 ((n.val : Nat) : Int) 32) && decide (bits BinOp.or IntKind.u8 ((n.val : Nat) : Int) 32 ≤ 122)) =
    ((decide (97 ≤ ((n.val : Nat) : Int)) && decide (((n.val : Nat) : Int) ≤ 122)) || (decide (65 ≤ ((n.val : Nat) : Int)) && decide (((n.val : Nat) : Int) ≤ 90))) := by decide +kernel
theorem letter_or (c : UInt8) : (decide (97 ≤ bits BinOp.or IntKind.u8 (c.toNat : Int) 32) && decide (bits BinOp.or IntKind.u8 (c.toNat : Int) 32 ≤ 122)) = letter c :=
  or32 ⟨c.toNat, c.toNat_lt⟩

theorem bnot_bool (b : Bool) : (!b) = (b == false) := by cases b <;> rfl

/-- the part of a list ahead of its first blank -/
def chunk (l : List UInt8) : List UInt8 := l.takeWhile (· != 32)

theorem prefix_chunk (s l : List UInt8) (hs : (32 : UInt8) ∉ s) : (s ++ [32]).isPrefixOf l = (decide (chunk l = s) && decide (s.length < l.length)) := by
  induction s generalizing l with
  | nil =>
    cases l with
    | nil => simp [chunk]
    | cons c l =>
      by_cases hc : c = 32
      · subst hc; simp [chunk]
      · have h2 : ((32 : UInt8) == c) = false := beq_eq_false_iff_ne.2 fun h => hc h.symm
        simp [chunk, hc, List.isPrefixOf, h2]
  | cons a s ih =>
    have ha : a ≠ 32 := fun h => hs (by simp [h])
    have hs' : (32 : UInt8) ∉ s := fun h => hs (by simp [h])
    cases l with
    | nil => simp
    | cons c l =>
      by_cases hc : a = c
      · subst hc
        have := ih l hs'
        have e : chunk (a :: l) = a :: chunk l := by simp [chunk, ha]
        simp only [List.cons_append, List.isPrefixOf, beq_self_eq_true, Bool.true_and, this, e, List.cons.injEq, true_and, List.length_cons, Nat.add_lt_add_iff_right]
      · have hc' : ¬ (a == c) = true := by simpa using hc
        simp only [List.cons_append, List.isPrefixOf, hc', Bool.false_and, chunk]
        by_cases h32 : c = 32
        · subst h32; simp
        · have h3 : ¬ c = a := fun h => hc h.symm
          simp [h32, h3]

theorem index_nonneg (s sub : List UInt8) (hsub : sub ≠ []) : (0 ≤ Lib.index s sub) ↔ ∃ i, i < s.length ∧ sub.isPrefixOf (s.drop i) = true := by
  induction s with
  | nil =>
    unfold Lib.index
    have : sub.isEmpty = false := by cases sub <;> simp_all
    simp [this]
  | cons b l ih =>
    unfold Lib.index
    by_cases h : sub.isPrefixOf (b :: l) = true
    · simp only [h, if_true]
      exact ⟨fun _ => ⟨0, by simp, by simpa using h⟩, fun _ => by omega⟩
    · simp only [h, if_false, Bool.false_eq_true]
      have hge := Lib.index_ge l sub
      constructor
      · intro h0
        have h1 : 0 ≤ Lib.index l sub := by
          by_cases e : Lib.index l sub = -1
          · simp [e] at h0
          · omega
        obtain ⟨i, hi, hp⟩ := ih.1 h1
        exact ⟨i + 1, by simp; omega, by simpa using hp⟩
      · rintro ⟨i, hi, hp⟩
        cases i with
        | zero => simp only [List.drop_zero] at hp; exact absurd hp h
        | succ i =>
          have h1 := ih.2 ⟨i, by simpa using hi, by simpa using hp⟩
          have e : (Lib.index l sub == -1) = false := by simp; omega
          simp only [e]
          simp
          omega

theorem indexByte_nonneg (s : List UInt8) (c : UInt8) : (0 ≤ Lib.indexByte s c) ↔ c ∈ s := by
  induction s with
  | nil => simp [Lib.indexByte]
  | cons b l ih =>
    unfold Lib.indexByte
    by_cases h : b = c
    · subst h; simp
    · have h' : ¬ c = b := fun e => h e.symm
      have hb : (b == c) = false := by simpa using h
      simp only [hb, List.mem_cons, h', false_or, ← ih]
      simp
      split <;> omega
/-- lex.IsWord's way to ask -/
theorem isWord_text (s : List UInt8) : (!s.isEmpty && !decide (0 ≤ Lib.indexByte s 32) && Lib.contains wordText (32 :: (s ++ [32]))) = isWord s := by
  by_cases he : s = []
  · subst he; decide +kernel
  · by_cases h32 : (32 : UInt8) ∈ s
    · have h1 : decide (0 ≤ Lib.indexByte s 32) = true := by simpa using (indexByte_nonneg s 32).2 h32
      have h2 : isWord s = false := by
        unfold isWord
        rw [Bool.eq_false_iff]
        intro h
        rw [List.contains_iff_mem] at h
        have hall : ∀ l ∈ wordList, (32 : UInt8) ∉ l := by decide +kernel
        exact hall s h h32
      simp [h1, h2]
    · have h1 : decide (0 ≤ Lib.indexByte s 32) = false := by simpa using fun h => h32 ((indexByte_nonneg s 32).1 h)
      have h2 : s.isEmpty = false := by cases s <;> simp_all
      rw [h1, h2]
      simp only [Bool.not_false, Bool.true_and]
      unfold Lib.contains
      rw [Bool.eq_iff_iff, decide_eq_true_iff, index_nonneg _ _ (by simp)]
      have key : ∀ i, ((32 :: (s ++ [32])).isPrefixOf (wordText.drop i) = true) ↔ (wordText[i]? = some 32 ∧ chunk (wordText.drop (i + 1)) = s ∧ s.length < (wordText.drop (i + 1)).length) := by
        intro i
        cases hd : wordText.drop i with
        | nil =>
          have hn : wordText[i]? = none := by
            rw [List.drop_eq_nil_iff] at hd
            exact List.getElem?_eq_none hd
          simp [hn]
        | cons c l =>
          have hc : wordText[i]? = some c := by
            have := congrArg (·[0]?) hd
            simpa using this
          have hl : wordText.drop (i + 1) = l := by
            have := congrArg List.tail hd
            simpa using this
          rw [hl, hc]
          simp only [List.isPrefixOf, Bool.and_eq_true, beq_iff_eq, prefix_chunk s l h32, decide_eq_true_iff, Option.some.injEq]
          constructor
          · rintro ⟨rfl, h⟩; exact ⟨rfl, h⟩
          · rintro ⟨rfl, h⟩; exact ⟨rfl, h⟩
      constructor
      · rintro ⟨i, hi, hp⟩
        obtain ⟨h3, h4, h5⟩ := (key i).1 hp
        have hall : ∀ i, i < wordText.length → wordText[i]? = some 32 → 0 < (wordText.drop (i + 1)).length → wordList.contains (chunk (wordText.drop (i + 1))) = true := by decide +kernel
        have := hall i hi h3 (by omega)
        rw [h4] at this
        exact this
      · intro hw
        have hall : ∀ l ∈ wordList, ∃ i, i < wordText.length ∧ wordText[i]? = some 32 ∧ chunk (wordText.drop (i + 1)) = l ∧ l.length < (wordText.drop (i + 1)).length := by decide +kernel
        obtain ⟨i, hi, h3⟩ := hall s (List.contains_iff_mem.1 hw)
        exact ⟨i, hi, (key i).2 h3⟩
end Go.Proofs.YtapdgeajbnbdjaaDoor
