/- The text of statements, methods, classes, a program; how long it can be. -/
import Derived.Test.YtapdgeajbnbdjaaDoorPage7
import Derived.Test.YtapdgeajbnbdjaaDoorShow4
namespace Go.Proofs.YtapdgeajbnbdjaaDoor
open Go.RowKit

-- which programs may be
def methodOK (m : Me) : Bool := slotOK ⟨m.type, m.name⟩ && (decide (m.params.length ≤ 4) && (m.params.all slotOK && stsOK m.body))
def classHead (c : Cl) : Bool := isName c.name.data.toList && ((c.super.toList == [] || isName c.super.data.toList) && c.fields.all slotOK)
def classOK (c : Cl) : Bool := classHead c && c.methods.all methodOK
def prOK (p : Pr) : Bool := stsOK p.main && p.classes.all classOK

instance : Inhabited Ex := ⟨.mk 0 0 ⟨#[]⟩ []⟩
def tabsT (t : Nat) : List UInt8 := List.replicate t 9
mutual
def stT (t : Nat) : St → List UInt8
  | .mk k n ty nm es a b => tabsT t ++ (
     if k = 1 then ty.data.toList ++ 32 :: nm.data.toList ++ (if es = [] then [] else [32, 61, 32] ++ listT es) ++ [59, 10]
     else if k = 2 then atT 1 (es.headD default) ++ [32, 61, 32] ++ atT 1 (es.tail.headD default) ++ [59, 10]
     else if k = 3 ∨ k = 4 then (if k = 3 then [105, 102, 32, 40] else [119, 104, 105, 108, 101, 32, 40]) ++ listT es ++ [41, 32] ++ ([123, 10] ++ stsT (t + 1) a ++ tabsT t ++ [125]) ++
         (if b = [] then [] else [32, 101, 108, 115, 101, 32] ++ ([123, 10] ++ stsT (t + 1) b ++ tabsT t ++ [125])) ++ [10]
     else if k = 5 then [112, 114, 105, 110, 116, 40] ++ Lib.itoa n ++ [44, 32] ++ listT es ++ [41] ++ [59, 10]
     else if k = 6 then [114, 101, 116, 117, 114, 110, 32] ++ listT es ++ [59, 10]
     else listT es ++ [59, 10])
def stsT (t : Nat) : List St → List UInt8
  | [] => []
  | s :: ss => stT t s ++ stsT t ss
end
/-- a block in braces -/
def blockT (t : Nat) (l : List St) : List UInt8 := [123, 10] ++ stsT (t + 1) l ++ tabsT t ++ [125]
def slotT (s : Sl) : List UInt8 := s.type.data.toList ++ 32 :: s.name.data.toList
def fieldT (s : Sl) : List UInt8 := 9 :: (slotT s ++ [59, 10])
def methodT (m : Me) : List UInt8 := 9 :: (m.type.data.toList ++ 32 :: m.name.data.toList ++ [40] ++ commas (m.params.map slotT) ++ [41, 32] ++ blockT 1 m.body ++ [10])
def classT (c : Cl) : List UInt8 :=
  [99, 108, 97, 115, 115, 32] ++ c.name.data.toList ++ (if c.super.toList = [] then [] else [32, 101, 120, 116, 101, 110, 100, 115, 32] ++ c.super.data.toList) ++ [32, 123, 10] ++
    c.fields.flatMap fieldT ++ c.methods.flatMap methodT ++ [125, 10]
def programT (p : Pr) : List UInt8 := p.classes.flatMap classT ++ ([109, 97, 105, 110, 32] ++ blockT 0 p.main ++ [10])

theorem stsT_flat (t : Nat) : ∀ l : List St, stsT t l = l.flatMap (stT t)
  | [] => rfl
  | s :: ss => by simp [stsT, stsT_flat t ss]
theorem stsT_take (t : Nat) (l : List St) (k : Nat) (s : St) (h : l[k]? = some s) : stsT t (l.take (k + 1)) = stsT t (l.take k) ++ stT t s := by
  rw [List.take_add_one, h, stsT_flat, stsT_flat]; simp
theorem tabsT_len (t : Nat) : (tabsT t).length = t := by simp [tabsT]

theorem listT_len (es : List Ex) (h : exsOK es = true) : (listT es).length ≤ 40 * Exs.bulk es := by
  have h1 := commas_len (kidsT es)
  rw [commas_kids] at h1
  have h2 := kidsT_len es h
  omega
theorem default_len : (atT 1 (default : Ex)).length ≤ 10 := by decide +kernel
theorem head_at_len (es : List Ex) (h : exsOK es = true) : (atT 1 (es.headD default)).length + (atT 1 (es.tail.headD default)).length ≤ 40 * Exs.bulk es + 100 := by
  have hd := default_len
  have hone : ∀ e : Ex, exprOK e = true → (atT 1 e).length ≤ 40 * e.bulk + 2 := fun e he => by
    have h1 := exT_len e he
    have h2 := atP_len 1 ((shapeOf e.kind).level, exT e)
    unfold atT
    simp only at h2
    omega
  match es, h with
  | [], _ => simp [Exs.bulk]; omega
  | [a], h =>
    simp only [exsOK, Bool.and_eq_true] at h
    have := hone a h.1
    simp only [Exs.bulk, List.headD_cons, List.tail_cons, List.headD_nil]
    omega
  | a :: b :: l, h =>
    simp only [exsOK, Bool.and_eq_true] at h
    have := hone a h.1
    have := hone b h.2.1
    simp only [Exs.bulk, List.headD_cons, List.tail_cons]
    omega

mutual
theorem stT_len (M : Nat) : ∀ (s : St) (t : Nat), stmtOK s = true → t + s.bulk ≤ M → (stT t s).length + 400 ≤ (4 * M + 200) * s.bulk
  | .mk k n ty nm es a b, t, hok, hM => by
    simp only [stmtOK, Bool.and_eq_true] at hok
    obtain ⟨hh, he, _, ha, hb⟩ := hok
    simp only [St.bulk] at hM
    have hA := stsT_len M a (t + 1) ha (by omega)
    have hB := stsT_len M b (t + 1) hb (by omega)
    have hL := listT_len es he
    have hH := head_at_len es he
    have hT := tabsT_len t
    have hn : I64 n := by
      unfold stHead at hh
      simp only [Bool.and_eq_true, decide_eq_true_iff] at hh
      obtain ⟨_, _, _, h0, h9, _⟩ := hh
      have : n ≤ 99 := by split at h9 <;> omega
      exact ⟨by omega, by omega⟩
    have hI := itoa_len n hn
    have hty : ty.data.toList.length = ty.size := rfl
    have hnm : nm.data.toList.length = nm.size := rfl
    have e1 : (4 * M + 200) * St.bulk (.mk k n ty nm es a b) = (4 * M + 200) * ty.size + (4 * M + 200) * nm.size + (4 * M + 200) * Exs.bulk es + (4 * M + 200) * Sts.bulk a + (4 * M + 200) * Sts.bulk b + (4 * M + 200) * 5 := by
      simp only [St.bulk, Nat.mul_add]
    have m1 : 40 * Exs.bulk es ≤ (4 * M + 200) * Exs.bulk es := Nat.mul_le_mul_right _ (by omega)
    have m2 : ty.size ≤ (4 * M + 200) * ty.size := Nat.le_mul_of_pos_left _ (by omega)
    have m3 : nm.size ≤ (4 * M + 200) * nm.size := Nat.le_mul_of_pos_left _ (by omega)
    rw [e1]
    rw [stT, List.length_append, hT]
    split
    · split <;> (simp only [List.length_append, List.length_cons, List.length_nil, hty, hnm]; omega)
    split
    · simp only [List.length_append, List.length_cons, List.length_nil]; omega
    split
    · split <;> split <;> (simp only [List.length_append, List.length_cons, List.length_nil, hT]; omega)
    split
    · simp only [List.length_append, List.length_cons, List.length_nil]; omega
    split
    · simp only [List.length_append, List.length_cons, List.length_nil]; omega
    · simp only [List.length_append, List.length_cons, List.length_nil]; omega
theorem stsT_len (M : Nat) : ∀ (l : List St) (t : Nat), stsOK l = true → t + Sts.bulk l ≤ M → (stsT t l).length ≤ (4 * M + 200) * Sts.bulk l
  | [], t, _, _ => by simp [stsT]
  | s :: ss, t, hok, hM => by
    rw [stsOK, Bool.and_eq_true] at hok
    simp only [Sts.bulk] at hM ⊢
    have h1 := stT_len M s t hok.1 (by omega)
    have h2 := stsT_len M ss t hok.2 (by omega)
    rw [stsT, List.length_append, Nat.mul_add]
    omega
end
/-- what there is in a statement that may be -/
theorem st_parts {k n : Int} {t s : ByteArray} {es : List Ex} {a b : List St} (h : stmtOK (.mk k n t s es a b) = true) :
    1 ≤ k ∧ k ≤ 7 ∧ (if k = 1 then isType t.data.toList = true ∧ isName s.data.toList = true else t = ⟨#[]⟩ ∧ s = ⟨#[]⟩) ∧ 0 ≤ n ∧ n ≤ (if k = 5 then 99 else 0) ∧ es.length = manyOf k es.length ∧
      (k = 3 ∨ k = 4 ∨ a = []) ∧ (k = 3 ∨ b = []) ∧ exsOK es = true ∧ (match es with | [] => True | e :: _ => firstK k e.kind = true) ∧ stsOK a = true ∧ stsOK b = true := by
  simp only [stmtOK, Bool.and_eq_true] at h
  obtain ⟨hh, h1, h2, h3, h4⟩ := h
  unfold stHead at hh
  simp only [Bool.and_eq_true, decide_eq_true_iff, Bool.or_eq_true] at hh
  obtain ⟨g1, g2, g3, g4, g5, g6, g7, g8⟩ := hh
  refine ⟨g1, g2, ?_, g4, g5, g6, ?_, ?_, h1, ?_, h3, h4⟩
  · split at g3
    · rename_i hk
      rw [if_pos hk]
      simpa [slotOK] using g3
    · rename_i hk
      rw [if_neg hk]
      rw [ba_toList] at g3
      simp at g3
      exact ⟨ByteArray.ext g3.1, ByteArray.ext g3.2⟩
  · rcases g7 with g | g | g
    · exact .inl g
    · exact .inr (.inl g)
    · exact .inr (.inr (List.eq_nil_of_length_eq_zero g))
  · rcases g8 with g | g
    · exact .inl g
    · exact .inr (List.eq_nil_of_length_eq_zero g)
  · cases es with
    | nil => trivial
    | cons e l => exact h2

theorem method_form (m : Me) : methodT m = 9 :: (slotT ⟨m.type, m.name⟩ ++ 40 :: (commas (m.params.map slotT) ++ 41 :: 32 :: (blockT 1 m.body ++ [10]))) := by simp [methodT, slotT]
def superT (s : ByteArray) : List UInt8 := if s.toList = [] then [] else [32, 101, 120, 116, 101, 110, 100, 115, 32] ++ s.data.toList
theorem class_form (c : Cl) : classT c = [99, 108, 97, 115, 115, 32] ++ (c.name.data.toList ++ (superT c.super ++ 32 :: 123 :: 10 :: (c.fields.flatMap fieldT ++ (c.methods.flatMap methodT ++ [125, 10])))) := by simp [classT, superT]
theorem commas_cons (a : List UInt8) (l : List (List UInt8)) : commas (a :: l) = a ++ l.flatMap (fun b => 44 :: 32 :: b) := by
  induction l generalizing a with
  | nil => simp [commas]
  | cons b l ih => rw [commas, ih b]; simp

-- how long
theorem blockT_len (l : List St) (t : Nat) (h : stsOK l = true) (hb : t + 1 + Sts.bulk l ≤ 2000010) : (blockT t l).length ≤ 8000500 * Sts.bulk l + t + 3 := by
  have h1 := stsT_len 2000010 l (t + 1) h hb
  have h2 := tabsT_len t
  unfold blockT
  simp only [List.length_append, List.length_cons, List.length_nil]
  have : (4 * 2000010 + 200) * Sts.bulk l ≤ 8000500 * Sts.bulk l := Nat.mul_le_mul_right _ (by omega)
  omega
theorem slotT_len (s : Sl) : (slotT s).length = s.type.size + s.name.size + 1 := by simp only [slotT, List.length_append, List.length_cons, ba_len]; omega
theorem slots_len (l : List Sl) : (commas (l.map slotT)).length ≤ 4 * Sls.bulk l := by
  have h : ∀ l : List Sl, (l.flatMap (fun e => 44 :: 32 :: slotT e)).length ≤ 4 * Sls.bulk l := by
    intro l
    induction l with
    | nil => simp [Sls.bulk]
    | cons s l ih =>
      simp only [List.flatMap_cons, List.length_append, List.length_cons, Sls.bulk, Sl.bulk, slotT_len]
      omega
  cases l with
  | nil => simp [commas, Sls.bulk]
  | cons s l =>
    rw [List.map_cons, commas_cons, List.flatMap_map]
    have := h l
    simp only [List.length_append, Sls.bulk, Sl.bulk, slotT_len]
    omega
theorem fields_len (l : List Sl) : (l.flatMap fieldT).length ≤ 4 * Sls.bulk l := by
  induction l with
  | nil => simp [Sls.bulk]
  | cons s l ih =>
    simp only [List.flatMap_cons, List.length_append, List.length_cons, List.length_nil, Sls.bulk, Sl.bulk, fieldT, slotT_len]
    omega
theorem method_len (m : Me) (h : methodOK m = true) (hb : m.bulk ≤ 2000000) : (methodT m).length ≤ 8000600 * m.bulk := by
  unfold methodOK at h
  simp only [Bool.and_eq_true] at h
  unfold Me.bulk at hb ⊢
  have h1 := blockT_len m.body 1 h.2.2.2 (by omega)
  have h2 := slots_len m.params
  rw [method_form]
  simp only [List.length_append, List.length_cons, List.length_nil, slotT, ba_len]
  have : 8000500 * Sts.bulk m.body + 100 * Sts.bulk m.body = 8000600 * Sts.bulk m.body := by rw [← Nat.add_mul]
  simp only [Nat.mul_add]
  omega
theorem methods_len : ∀ l : List Me, l.all methodOK = true → Mes.bulk l ≤ 2000000 → (l.flatMap methodT).length ≤ 8000600 * Mes.bulk l
  | [], _, _ => by simp
  | m :: l, h, hb => by
    simp only [List.all_cons, Bool.and_eq_true] at h
    simp only [Mes.bulk] at hb ⊢
    have h1 := method_len m h.1 (by omega)
    have h2 := methods_len l h.2 (by omega)
    rw [List.flatMap_cons, List.length_append, Nat.mul_add]
    omega
theorem class_len (c : Cl) (h : classOK c = true) (hb : c.bulk ≤ 2000000) : (classT c).length ≤ 8000600 * c.bulk := by
  unfold classOK at h
  simp only [Bool.and_eq_true] at h
  unfold Cl.bulk at hb ⊢
  have h1 := methods_len c.methods h.2 (by omega)
  have h2 := fields_len c.fields
  have h3 : (superT c.super).length ≤ c.super.size + 9 := by
    unfold superT
    split
    · simp
    · simp only [List.length_append, List.length_cons, List.length_nil, ba_len]; omega
  rw [class_form]
  simp only [List.length_append, List.length_cons, List.length_nil, ba_len, Nat.mul_add]
  omega
theorem classes_len : ∀ l : List Cl, l.all classOK = true → Cls.bulk l ≤ 2000000 → (l.flatMap classT).length ≤ 8000600 * Cls.bulk l
  | [], _, _ => by simp
  | m :: l, h, hb => by
    simp only [List.all_cons, Bool.and_eq_true] at h
    simp only [Cls.bulk] at hb ⊢
    have h1 := class_len m h.1 (by omega)
    have h2 := classes_len l h.2 (by omega)
    rw [List.flatMap_cons, List.length_append, Nat.mul_add]
    omega
theorem program_len (p : Pr) (h : prOK p = true) (hb : p.bulk ≤ 2000000) : (programT p).length ≤ 100000000000000 := by
  unfold prOK at h
  simp only [Bool.and_eq_true] at h
  unfold Pr.bulk at hb
  have h1 := classes_len p.classes h.2 (by omega)
  have h2 := blockT_len p.main 0 h.1 (by omega)
  unfold programT
  simp only [List.length_append, List.length_cons, List.length_nil]
  have : 8000600 * Cls.bulk p.classes + 8000600 * Sts.bulk p.main ≤ 8000600 * 2000000 := by
    rw [← Nat.mul_add]; exact Nat.mul_le_mul_left _ (by omega)
  omega
theorem all_take_succ {α : Type} (p : α → Bool) (l : List α) (k : Nat) (x : α) (h : l[k]? = some x) : (l.take (k + 1)).all p = ((l.take k).all p && p x) := by
  rw [List.take_add_one, h, List.all_append]; simp

end Go.Proofs.YtapdgeajbnbdjaaDoor
