/- show.stmt: whether a statement's tree may be: a walk for each kind. -/
import Derived.Test.YtapdgeajbnbdjaaDoorShow2
namespace Go.Proofs.YtapdgeajbnbdjaaDoor
open Go.RowKit

def manyOf (k : Int) (m : Nat) : Nat := if k = 1 then min m 1 else if k = 2 then 2 else 1
def stHead (k n : Int) (t s : ByteArray) (m m1 m2 : Nat) : Bool :=
  decide (1 ≤ k) && (decide (k ≤ 7) && ((if k = 1 then slotOK ⟨t, s⟩ else (t ++ s).toList.isEmpty) && (decide (0 ≤ n) && (decide (n ≤ if k = 5 then 99 else 0) && (decide (m = manyOf k m) &&
    ((decide (k = 3) || (decide (k = 4) || decide (m1 = 0))) && (decide (k = 3) || decide (m2 = 0))))))))
/-- the first expression's kind k0 under a statement's kind -/
def firstK (k k0 : Int) : Bool := if k = 2 then decide (k0 = 4) || (decide (k0 = 7) || decide (k0 = 8)) else if k = 7 then decide (k0 = 10) else true

theorem first1_any (k : Int) (w : World) : Calls Tryd.prog 80 #[.int .i64 k] w fun e w' => e = .returned (.bool true) ∧ w = w' := by
  go_enter Tryd.func80, Tryd.ntmps80
  go_wp2
  go_ret
  exact ⟨rfl, rfl⟩
theorem first2_any (k : Int) (w : World) : Calls Tryd.prog 81 #[.int .i64 k] w fun e w' => e = .returned (.bool (decide (k = 4) || (decide (k = 7) || decide (k = 8)))) ∧ w = w' := by
  go_enter Tryd.func81, Tryd.ntmps81
  go_wp2
  all_goals go_ret
  all_goals refine ⟨ret_bool ?_, rfl⟩
  all_goals (rw [Bool.eq_iff_iff]; simp; omega)
theorem first3_any (k : Int) (w : World) : Calls Tryd.prog 82 #[.int .i64 k] w fun e w' => e = .returned (.bool (decide (k = 10))) ∧ w = w' := by
  go_enter Tryd.func82, Tryd.ntmps82
  go_wp2
  go_ret
  exact ⟨ret_bool (by rw [Bool.eq_iff_iff]; simp), rfl⟩

set_option maxRecDepth 100000 in
set_option maxHeartbeats 4000000 in
theorem stmt_1_nil (n : Int) (t s : ByteArray) (A0 A1 A2 : Option Addr) (m cap0 m1 cap1 m2 cap2 : Nat) (eo so1 so2 : Bool) (w : World)
    (hE : Hid (∀ W, Below w.heap.size w W → Env W)) (ht : t.size ≤ 2000000) (hs : s.size ≤ 2000000) (hm : m ≤ 2000000) (hm1 : m1 ≤ 2000000) (hm2 : m2 ≤ 2000000) (h0 : m < 1)
    (HC : Hid (∀ W, Below w.heap.size w W → Calls Tryd.prog 37 #[.slice A0 m cap0, .func (.func 83) #[] #[]] W fun e w' => e = .returned (.bool (!eo)) ∧ Below W.heap.size W w'))
    (H1 : Hid (∀ W, Below w.heap.size w W → Calls Tryd.prog 32 #[.slice A1 m1 cap1] W fun e w' => e = .returned (.bool so1) ∧ Below W.heap.size W w'))
    (H2 : Hid (∀ W, Below w.heap.size w W → Calls Tryd.prog 32 #[.slice A2 m2 cap2] W fun e w' => e = .returned (.bool so2) ∧ Below W.heap.size W w')) :
    Calls Tryd.prog 58 #[.agg #[.int .i64 1, .int .i64 n, .string t, .string s, .slice A0 m cap0, .slice A1 m1 cap1, .slice A2 m2 cap2]] w fun e w' => e = .returned (.bool (stHead 1 n t s m m1 m2 && (eo && (true && (so1 && so2))))) ∧ Below w.heap.size w w' := by
  have HL := Lib.hid (Nat.le_refl w.heap.size)
  have hall : slotOK ⟨t, s⟩ = false ∨ (slotOK ⟨t, s⟩ = true ∧ eo = false) ∨ (slotOK ⟨t, s⟩ = true ∧ eo = true ∧ so1 = false) ∨ (slotOK ⟨t, s⟩ = true ∧ eo = true ∧ so1 = true) := by cases slotOK ⟨t, s⟩ <;> cases eo <;> cases so1 <;> simp
  have hne : ((m : Int) != min (m : Int) 1) = decide (1 < m) := by rw [Bool.eq_iff_iff]; simp; omega
  obtain ⟨q, hq⟩ : ∃ q, q = decide (1 < m) := ⟨_, rfl⟩
  rw [← hq] at hne
  have HQ := Lib.hid hq; clear hq
  cases q
  all_goals rcases hall with hsl | ⟨hsl, rfl⟩ | ⟨hsl, rfl, rfl⟩ | ⟨hsl, rfl, rfl⟩
  all_goals go_enter Tryd.func58, Tryd.ntmps58
  all_goals go_wp2_with (first
    | (go_at_call 35; refine (slot_any ⟨t, s⟩ _ (hE.out _ ((Below.refl w.heap.size w).alloc (Nat.le_refl _) _)) (by show t.size ≤ maxLen; unfold maxLen; omega) (by show s.size ≤ maxLen; unfold maxLen; omega)).mono ?_; rw [hsl]; rintro e w0 ⟨rfl, hb0⟩; obtain ⟨hq0, hf0⟩ := bcell hb0; have hz0 : w.heap.size < w0.heap.size := (by have := hb0.size; simp at this; omega); have hB0 := ((Below.refl w.heap.size w).alloc (Nat.le_refl _) _).trans (hb0.mono (by simp)))
    | (go_at_call 37; refine (HC.out _ hB0).mono ?_; rintro e w1 ⟨rfl, hb1⟩; obtain ⟨hq1, hf1⟩ := bcell hb1; have hz1 : w.heap.size < w1.heap.size := Nat.lt_of_lt_of_le hz0 hb1.size; have hB1 := hB0.trans (hb1.mono hB0.size); skip)
    | (go_at_call 80; refine (first1_any _ _).mono ?_; rintro e w2 ⟨rfl, rfl⟩)
    | (go_at_call 81; refine (first2_any _ _).mono ?_; rintro e w2 ⟨rfl, rfl⟩)
    | (go_at_call 82; refine (first3_any _ _).mono ?_; rintro e w2 ⟨rfl, rfl⟩)
    | (go_at_call_of 32 (Value.slice A1 m1 cap1); with_reducible refine (H1.out _ hB1).mono ?_; rintro e w3 ⟨rfl, hb3⟩; obtain ⟨hq3, hf3⟩ := bcell hb3; have hB3 := hB1.trans (hb3.mono hB1.size))
    | (go_at_call_of 32 (Value.slice A2 m2 cap2); with_reducible refine (H2.out _ hB3).mono ?_; rintro e w4 ⟨rfl, hb4⟩; have hB4 := hB3.trans (hb4.mono hB3.size)))
  all_goals go_ret
  all_goals refine ⟨ret_bool ?_, by first | exact hB4 | exact hB3 | exact hB1 | exact hB0 | exact ((Below.refl w.heap.size w).alloc (Nat.le_refl _) _)⟩
  all_goals clear hne
  all_goals clear HC H1 H2 hE HL
  all_goals try clear hB4
  all_goals try clear hb4
  all_goals try clear hB3
  all_goals try clear hq3
  all_goals try clear hf3
  all_goals try clear hb3
  all_goals try clear hcx
  all_goals try clear hB1
  all_goals try clear hz1
  all_goals try clear hq1
  all_goals try clear hf1
  all_goals try clear hb1
  all_goals try clear hB0
  all_goals try clear hz0
  all_goals try clear hq0
  all_goals try clear hf0
  all_goals try clear hb0
  all_goals (have hq := HQ.out; clear HQ; simp at hq)
  all_goals simp_all [stHead, manyOf, firstK]
  all_goals first | (intros; omega) | (cases so2 <;> simp <;> omega)

set_option maxRecDepth 100000 in
set_option maxHeartbeats 4000000 in
theorem stmt_1_cons (n : Int) (t s : ByteArray) (A0 A1 A2 : Option Addr) (m cap0 m1 cap1 m2 cap2 : Nat) (eo so1 so2 : Bool) (w : World)
    (hE : Hid (∀ W, Below w.heap.size w W → Env W)) (ht : t.size ≤ 2000000) (hs : s.size ≤ 2000000) (hm : m ≤ 2000000) (hm1 : m1 ≤ 2000000) (hm2 : m2 ≤ 2000000)
    (bk off : Nat) (k0 : Int) (hA : A0 = some ⟨bk, off, none⟩) (hbk : bk < w.heap.size) (hc0 : w.cell? ⟨bk, off, none⟩ = some (.int .i64 k0)) (hpos : 0 < m)
    (HC : Hid (∀ W, Below w.heap.size w W → Calls Tryd.prog 37 #[.slice A0 m cap0, .func (.func 83) #[] #[]] W fun e w' => e = .returned (.bool (!eo)) ∧ Below W.heap.size W w'))
    (H1 : Hid (∀ W, Below w.heap.size w W → Calls Tryd.prog 32 #[.slice A1 m1 cap1] W fun e w' => e = .returned (.bool so1) ∧ Below W.heap.size W w'))
    (H2 : Hid (∀ W, Below w.heap.size w W → Calls Tryd.prog 32 #[.slice A2 m2 cap2] W fun e w' => e = .returned (.bool so2) ∧ Below W.heap.size W w')) :
    Calls Tryd.prog 58 #[.agg #[.int .i64 1, .int .i64 n, .string t, .string s, .slice A0 m cap0, .slice A1 m1 cap1, .slice A2 m2 cap2]] w fun e w' => e = .returned (.bool (stHead 1 n t s m m1 m2 && (eo && (firstK 1 k0 && (so1 && so2))))) ∧ Below w.heap.size w w' := by
  subst hA
  have hbk' : bk ≤ w.heap.size := by omega
  have HL := Lib.hid (Nat.le_refl w.heap.size)
  have hall : slotOK ⟨t, s⟩ = false ∨ (slotOK ⟨t, s⟩ = true ∧ eo = false) ∨ (slotOK ⟨t, s⟩ = true ∧ eo = true ∧ so1 = false) ∨ (slotOK ⟨t, s⟩ = true ∧ eo = true ∧ so1 = true) := by cases slotOK ⟨t, s⟩ <;> cases eo <;> cases so1 <;> simp
  have hne : ((m : Int) != min (m : Int) 1) = decide (1 < m) := by rw [Bool.eq_iff_iff]; simp; omega
  obtain ⟨q, hq⟩ : ∃ q, q = decide (1 < m) := ⟨_, rfl⟩
  rw [← hq] at hne
  have HQ := Lib.hid hq; clear hq
  cases q
  all_goals rcases hall with hsl | ⟨hsl, rfl⟩ | ⟨hsl, rfl, rfl⟩ | ⟨hsl, rfl, rfl⟩
  all_goals go_enter Tryd.func58, Tryd.ntmps58
  all_goals go_wp2_with (first
    | (go_at_call 35; refine (slot_any ⟨t, s⟩ _ (hE.out _ ((Below.refl w.heap.size w).alloc (Nat.le_refl _) _)) (by show t.size ≤ maxLen; unfold maxLen; omega) (by show s.size ≤ maxLen; unfold maxLen; omega)).mono ?_; rw [hsl]; rintro e w0 ⟨rfl, hb0⟩; obtain ⟨hq0, hf0⟩ := bcell hb0; have hz0 : w.heap.size < w0.heap.size := (by have := hb0.size; simp at this; omega); have hB0 := ((Below.refl w.heap.size w).alloc (Nat.le_refl _) _).trans (hb0.mono (by simp)))
    | (go_at_call 37; refine (HC.out _ hB0).mono ?_; rintro e w1 ⟨rfl, hb1⟩; obtain ⟨hq1, hf1⟩ := bcell hb1; have hz1 : w.heap.size < w1.heap.size := Nat.lt_of_lt_of_le hz0 hb1.size; have hB1 := hB0.trans (hb1.mono hB0.size); have hcx : w1.cell? ⟨bk, off, none⟩ = some (.int .i64 k0) := ((hB1.cell (p := ⟨bk, off, none⟩) hbk).trans hc0); skip)
    | (go_at_call 80; refine (first1_any _ _).mono ?_; rintro e w2 ⟨rfl, rfl⟩)
    | (go_at_call 81; refine (first2_any _ _).mono ?_; rintro e w2 ⟨rfl, rfl⟩)
    | (go_at_call 82; refine (first3_any _ _).mono ?_; rintro e w2 ⟨rfl, rfl⟩)
    | (go_at_call_of 32 (Value.slice A1 m1 cap1); with_reducible refine (H1.out _ hB1).mono ?_; rintro e w3 ⟨rfl, hb3⟩; obtain ⟨hq3, hf3⟩ := bcell hb3; have hB3 := hB1.trans (hb3.mono hB1.size))
    | (go_at_call_of 32 (Value.slice A2 m2 cap2); with_reducible refine (H2.out _ hB3).mono ?_; rintro e w4 ⟨rfl, hb4⟩; have hB4 := hB3.trans (hb4.mono hB3.size)))
  all_goals go_ret
  all_goals refine ⟨ret_bool ?_, by first | exact hB4 | exact hB3 | exact hB1 | exact hB0 | exact ((Below.refl w.heap.size w).alloc (Nat.le_refl _) _)⟩
  all_goals clear hne
  all_goals clear HC H1 H2 hE HL
  all_goals try clear hB4
  all_goals try clear hb4
  all_goals try clear hB3
  all_goals try clear hq3
  all_goals try clear hf3
  all_goals try clear hb3
  all_goals try clear hcx
  all_goals try clear hB1
  all_goals try clear hz1
  all_goals try clear hq1
  all_goals try clear hf1
  all_goals try clear hb1
  all_goals try clear hB0
  all_goals try clear hz0
  all_goals try clear hq0
  all_goals try clear hf0
  all_goals try clear hb0
  all_goals try clear hc0
  all_goals try clear hbk'
  all_goals try clear hbk
  all_goals (have hq := HQ.out; clear HQ; simp at hq)
  all_goals simp_all [stHead, manyOf, firstK]
  all_goals first | (intros; omega) | (cases so2 <;> simp <;> omega)

set_option maxRecDepth 100000 in
set_option maxHeartbeats 4000000 in
theorem stmt_2_nil (n : Int) (t s : ByteArray) (A0 A1 A2 : Option Addr) (m cap0 m1 cap1 m2 cap2 : Nat) (eo so1 so2 : Bool) (w : World)
    (hE : Hid (∀ W, Below w.heap.size w W → Env W)) (ht : t.size ≤ 2000000) (hs : s.size ≤ 2000000) (hm : m ≤ 2000000) (hm1 : m1 ≤ 2000000) (hm2 : m2 ≤ 2000000) (h0 : m < 1)
    (HC : Hid (∀ W, Below w.heap.size w W → Calls Tryd.prog 37 #[.slice A0 m cap0, .func (.func 83) #[] #[]] W fun e w' => e = .returned (.bool (!eo)) ∧ Below W.heap.size W w'))
    (H1 : Hid (∀ W, Below w.heap.size w W → Calls Tryd.prog 32 #[.slice A1 m1 cap1] W fun e w' => e = .returned (.bool so1) ∧ Below W.heap.size W w'))
    (H2 : Hid (∀ W, Below w.heap.size w W → Calls Tryd.prog 32 #[.slice A2 m2 cap2] W fun e w' => e = .returned (.bool so2) ∧ Below W.heap.size W w')) :
    Calls Tryd.prog 58 #[.agg #[.int .i64 2, .int .i64 n, .string t, .string s, .slice A0 m cap0, .slice A1 m1 cap1, .slice A2 m2 cap2]] w fun e w' => e = .returned (.bool (stHead 2 n t s m m1 m2 && (eo && (true && (so1 && so2))))) ∧ Below w.heap.size w w' := by
  have hne : ((m : Int) != 2) = true := by simp; omega
  have HL := Lib.hid (Nat.le_refl w.heap.size)
  have hall : (t ++ s).toList.isEmpty = false ∨ ((t ++ s).toList.isEmpty = true ∧ eo = false) ∨ ((t ++ s).toList.isEmpty = true ∧ eo = true ∧ so1 = false) ∨ ((t ++ s).toList.isEmpty = true ∧ eo = true ∧ so1 = true) := by cases (t ++ s).toList.isEmpty <;> cases eo <;> cases so1 <;> simp
  rcases hall with hte | ⟨hte, rfl⟩ | ⟨hte, rfl, rfl⟩ | ⟨hte, rfl, rfl⟩
  all_goals go_enter Tryd.func58, Tryd.ntmps58
  all_goals go_wp2_with (first
    | (go_at_call 37; refine (HC.out _ ((Below.refl w.heap.size w).alloc (Nat.le_refl _) _)).mono ?_; rintro e w1 ⟨rfl, hb1⟩; obtain ⟨hq1, hf1⟩ := bcell hb1; have hz1 : w.heap.size < w1.heap.size := (by have := hb1.size; simp at this; omega); have hB1 := ((Below.refl w.heap.size w).alloc (Nat.le_refl _) _).trans (hb1.mono (by simp)); skip)
    | (go_at_call 80; refine (first1_any _ _).mono ?_; rintro e w2 ⟨rfl, rfl⟩)
    | (go_at_call 81; refine (first2_any _ _).mono ?_; rintro e w2 ⟨rfl, rfl⟩)
    | (go_at_call 82; refine (first3_any _ _).mono ?_; rintro e w2 ⟨rfl, rfl⟩)
    | (go_at_call_of 32 (Value.slice A1 m1 cap1); with_reducible refine (H1.out _ hB1).mono ?_; rintro e w3 ⟨rfl, hb3⟩; obtain ⟨hq3, hf3⟩ := bcell hb3; have hB3 := hB1.trans (hb3.mono hB1.size))
    | (go_at_call_of 32 (Value.slice A2 m2 cap2); with_reducible refine (H2.out _ hB3).mono ?_; rintro e w4 ⟨rfl, hb4⟩; have hB4 := hB3.trans (hb4.mono hB3.size)))
  all_goals go_ret
  all_goals refine ⟨ret_bool ?_, by first | exact hB4 | exact hB3 | exact hB1 | exact ((Below.refl w.heap.size w).alloc (Nat.le_refl _) _)⟩
  all_goals clear HC H1 H2 hE HL
  all_goals try clear hB4
  all_goals try clear hb4
  all_goals try clear hB3
  all_goals try clear hq3
  all_goals try clear hf3
  all_goals try clear hb3
  all_goals try clear hcx
  all_goals try clear hB1
  all_goals try clear hz1
  all_goals try clear hq1
  all_goals try clear hf1
  all_goals try clear hb1
  all_goals try clear hB0
  all_goals try clear hz0
  all_goals try clear hq0
  all_goals try clear hf0
  all_goals try clear hb0
  all_goals simp_all [stHead, manyOf, firstK]
  all_goals first | (intros; omega) | (cases so2 <;> simp <;> omega)

set_option maxRecDepth 100000 in
set_option maxHeartbeats 4000000 in
theorem stmt_2_cons (n : Int) (t s : ByteArray) (A0 A1 A2 : Option Addr) (m cap0 m1 cap1 m2 cap2 : Nat) (eo so1 so2 : Bool) (w : World)
    (hE : Hid (∀ W, Below w.heap.size w W → Env W)) (ht : t.size ≤ 2000000) (hs : s.size ≤ 2000000) (hm : m ≤ 2000000) (hm1 : m1 ≤ 2000000) (hm2 : m2 ≤ 2000000)
    (bk off : Nat) (k0 : Int) (hA : A0 = some ⟨bk, off, none⟩) (hbk : bk < w.heap.size) (hc0 : w.cell? ⟨bk, off, none⟩ = some (.int .i64 k0)) (hpos : 0 < m)
    (HC : Hid (∀ W, Below w.heap.size w W → Calls Tryd.prog 37 #[.slice A0 m cap0, .func (.func 83) #[] #[]] W fun e w' => e = .returned (.bool (!eo)) ∧ Below W.heap.size W w'))
    (H1 : Hid (∀ W, Below w.heap.size w W → Calls Tryd.prog 32 #[.slice A1 m1 cap1] W fun e w' => e = .returned (.bool so1) ∧ Below W.heap.size W w'))
    (H2 : Hid (∀ W, Below w.heap.size w W → Calls Tryd.prog 32 #[.slice A2 m2 cap2] W fun e w' => e = .returned (.bool so2) ∧ Below W.heap.size W w')) :
    Calls Tryd.prog 58 #[.agg #[.int .i64 2, .int .i64 n, .string t, .string s, .slice A0 m cap0, .slice A1 m1 cap1, .slice A2 m2 cap2]] w fun e w' => e = .returned (.bool (stHead 2 n t s m m1 m2 && (eo && (firstK 2 k0 && (so1 && so2))))) ∧ Below w.heap.size w w' := by
  subst hA
  have hbk' : bk ≤ w.heap.size := by omega
  have HL := Lib.hid (Nat.le_refl w.heap.size)
  have hall : (t ++ s).toList.isEmpty = false ∨ ((t ++ s).toList.isEmpty = true ∧ eo = false) ∨ ((t ++ s).toList.isEmpty = true ∧ eo = true ∧ so1 = false) ∨ ((t ++ s).toList.isEmpty = true ∧ eo = true ∧ so1 = true) := by cases (t ++ s).toList.isEmpty <;> cases eo <;> cases so1 <;> simp
  rcases hall with hte | ⟨hte, rfl⟩ | ⟨hte, rfl, rfl⟩ | ⟨hte, rfl, rfl⟩
  all_goals go_enter Tryd.func58, Tryd.ntmps58
  all_goals go_wp2_with (first
    | (go_at_call 37; refine (HC.out _ ((Below.refl w.heap.size w).alloc (Nat.le_refl _) _)).mono ?_; rintro e w1 ⟨rfl, hb1⟩; obtain ⟨hq1, hf1⟩ := bcell hb1; have hz1 : w.heap.size < w1.heap.size := (by have := hb1.size; simp at this; omega); have hB1 := ((Below.refl w.heap.size w).alloc (Nat.le_refl _) _).trans (hb1.mono (by simp)); have hcx : w1.cell? ⟨bk, off, none⟩ = some (.int .i64 k0) := ((hB1.cell (p := ⟨bk, off, none⟩) hbk).trans hc0); skip)
    | (go_at_call 80; refine (first1_any _ _).mono ?_; rintro e w2 ⟨rfl, rfl⟩)
    | (go_at_call 81; refine (first2_any _ _).mono ?_; rintro e w2 ⟨rfl, rfl⟩)
    | (go_at_call 82; refine (first3_any _ _).mono ?_; rintro e w2 ⟨rfl, rfl⟩)
    | (go_at_call_of 32 (Value.slice A1 m1 cap1); with_reducible refine (H1.out _ hB1).mono ?_; rintro e w3 ⟨rfl, hb3⟩; obtain ⟨hq3, hf3⟩ := bcell hb3; have hB3 := hB1.trans (hb3.mono hB1.size))
    | (go_at_call_of 32 (Value.slice A2 m2 cap2); with_reducible refine (H2.out _ hB3).mono ?_; rintro e w4 ⟨rfl, hb4⟩; have hB4 := hB3.trans (hb4.mono hB3.size)))
  all_goals go_ret
  all_goals refine ⟨ret_bool ?_, by first | exact hB4 | exact hB3 | exact hB1 | exact ((Below.refl w.heap.size w).alloc (Nat.le_refl _) _)⟩
  all_goals clear HC H1 H2 hE HL
  all_goals try clear hB4
  all_goals try clear hb4
  all_goals try clear hB3
  all_goals try clear hq3
  all_goals try clear hf3
  all_goals try clear hb3
  all_goals try clear hcx
  all_goals try clear hB1
  all_goals try clear hz1
  all_goals try clear hq1
  all_goals try clear hf1
  all_goals try clear hb1
  all_goals try clear hB0
  all_goals try clear hz0
  all_goals try clear hq0
  all_goals try clear hf0
  all_goals try clear hb0
  all_goals try clear hc0
  all_goals try clear hbk'
  all_goals try clear hbk
  all_goals simp_all [stHead, manyOf, firstK]
  all_goals first | (intros; omega) | (cases so2 <;> simp <;> omega)

set_option maxRecDepth 100000 in
set_option maxHeartbeats 4000000 in
theorem stmt_3_nil (n : Int) (t s : ByteArray) (A0 A1 A2 : Option Addr) (m cap0 m1 cap1 m2 cap2 : Nat) (eo so1 so2 : Bool) (w : World)
    (hE : Hid (∀ W, Below w.heap.size w W → Env W)) (ht : t.size ≤ 2000000) (hs : s.size ≤ 2000000) (hm : m ≤ 2000000) (hm1 : m1 ≤ 2000000) (hm2 : m2 ≤ 2000000) (h0 : m < 1)
    (HC : Hid (∀ W, Below w.heap.size w W → Calls Tryd.prog 37 #[.slice A0 m cap0, .func (.func 83) #[] #[]] W fun e w' => e = .returned (.bool (!eo)) ∧ Below W.heap.size W w'))
    (H1 : Hid (∀ W, Below w.heap.size w W → Calls Tryd.prog 32 #[.slice A1 m1 cap1] W fun e w' => e = .returned (.bool so1) ∧ Below W.heap.size W w'))
    (H2 : Hid (∀ W, Below w.heap.size w W → Calls Tryd.prog 32 #[.slice A2 m2 cap2] W fun e w' => e = .returned (.bool so2) ∧ Below W.heap.size W w')) :
    Calls Tryd.prog 58 #[.agg #[.int .i64 3, .int .i64 n, .string t, .string s, .slice A0 m cap0, .slice A1 m1 cap1, .slice A2 m2 cap2]] w fun e w' => e = .returned (.bool (stHead 3 n t s m m1 m2 && (eo && (true && (so1 && so2))))) ∧ Below w.heap.size w w' := by
  have hne : ((m : Int) != 1) = true := by simp; omega
  have HL := Lib.hid (Nat.le_refl w.heap.size)
  have hall : (t ++ s).toList.isEmpty = false ∨ ((t ++ s).toList.isEmpty = true ∧ eo = false) ∨ ((t ++ s).toList.isEmpty = true ∧ eo = true ∧ so1 = false) ∨ ((t ++ s).toList.isEmpty = true ∧ eo = true ∧ so1 = true) := by cases (t ++ s).toList.isEmpty <;> cases eo <;> cases so1 <;> simp
  rcases hall with hte | ⟨hte, rfl⟩ | ⟨hte, rfl, rfl⟩ | ⟨hte, rfl, rfl⟩
  all_goals go_enter Tryd.func58, Tryd.ntmps58
  all_goals go_wp2_with (first
    | (go_at_call 37; refine (HC.out _ ((Below.refl w.heap.size w).alloc (Nat.le_refl _) _)).mono ?_; rintro e w1 ⟨rfl, hb1⟩; obtain ⟨hq1, hf1⟩ := bcell hb1; have hz1 : w.heap.size < w1.heap.size := (by have := hb1.size; simp at this; omega); have hB1 := ((Below.refl w.heap.size w).alloc (Nat.le_refl _) _).trans (hb1.mono (by simp)); skip)
    | (go_at_call 80; refine (first1_any _ _).mono ?_; rintro e w2 ⟨rfl, rfl⟩)
    | (go_at_call 81; refine (first2_any _ _).mono ?_; rintro e w2 ⟨rfl, rfl⟩)
    | (go_at_call 82; refine (first3_any _ _).mono ?_; rintro e w2 ⟨rfl, rfl⟩)
    | (go_at_call_of 32 (Value.slice A1 m1 cap1); with_reducible refine (H1.out _ hB1).mono ?_; rintro e w3 ⟨rfl, hb3⟩; obtain ⟨hq3, hf3⟩ := bcell hb3; have hB3 := hB1.trans (hb3.mono hB1.size))
    | (go_at_call_of 32 (Value.slice A2 m2 cap2); with_reducible refine (H2.out _ hB3).mono ?_; rintro e w4 ⟨rfl, hb4⟩; have hB4 := hB3.trans (hb4.mono hB3.size)))
  all_goals go_ret
  all_goals refine ⟨ret_bool ?_, by first | exact hB4 | exact hB3 | exact hB1 | exact ((Below.refl w.heap.size w).alloc (Nat.le_refl _) _)⟩
  all_goals clear HC H1 H2 hE HL
  all_goals try clear hB4
  all_goals try clear hb4
  all_goals try clear hB3
  all_goals try clear hq3
  all_goals try clear hf3
  all_goals try clear hb3
  all_goals try clear hcx
  all_goals try clear hB1
  all_goals try clear hz1
  all_goals try clear hq1
  all_goals try clear hf1
  all_goals try clear hb1
  all_goals try clear hB0
  all_goals try clear hz0
  all_goals try clear hq0
  all_goals try clear hf0
  all_goals try clear hb0
  all_goals simp_all [stHead, manyOf, firstK]
  all_goals first | (intros; omega) | (cases so2 <;> simp <;> omega)

set_option maxRecDepth 100000 in
set_option maxHeartbeats 4000000 in
theorem stmt_3_cons (n : Int) (t s : ByteArray) (A0 A1 A2 : Option Addr) (m cap0 m1 cap1 m2 cap2 : Nat) (eo so1 so2 : Bool) (w : World)
    (hE : Hid (∀ W, Below w.heap.size w W → Env W)) (ht : t.size ≤ 2000000) (hs : s.size ≤ 2000000) (hm : m ≤ 2000000) (hm1 : m1 ≤ 2000000) (hm2 : m2 ≤ 2000000)
    (bk off : Nat) (k0 : Int) (hA : A0 = some ⟨bk, off, none⟩) (hbk : bk < w.heap.size) (hc0 : w.cell? ⟨bk, off, none⟩ = some (.int .i64 k0)) (hpos : 0 < m)
    (HC : Hid (∀ W, Below w.heap.size w W → Calls Tryd.prog 37 #[.slice A0 m cap0, .func (.func 83) #[] #[]] W fun e w' => e = .returned (.bool (!eo)) ∧ Below W.heap.size W w'))
    (H1 : Hid (∀ W, Below w.heap.size w W → Calls Tryd.prog 32 #[.slice A1 m1 cap1] W fun e w' => e = .returned (.bool so1) ∧ Below W.heap.size W w'))
    (H2 : Hid (∀ W, Below w.heap.size w W → Calls Tryd.prog 32 #[.slice A2 m2 cap2] W fun e w' => e = .returned (.bool so2) ∧ Below W.heap.size W w')) :
    Calls Tryd.prog 58 #[.agg #[.int .i64 3, .int .i64 n, .string t, .string s, .slice A0 m cap0, .slice A1 m1 cap1, .slice A2 m2 cap2]] w fun e w' => e = .returned (.bool (stHead 3 n t s m m1 m2 && (eo && (firstK 3 k0 && (so1 && so2))))) ∧ Below w.heap.size w w' := by
  subst hA
  have hbk' : bk ≤ w.heap.size := by omega
  have HL := Lib.hid (Nat.le_refl w.heap.size)
  have hall : (t ++ s).toList.isEmpty = false ∨ ((t ++ s).toList.isEmpty = true ∧ eo = false) ∨ ((t ++ s).toList.isEmpty = true ∧ eo = true ∧ so1 = false) ∨ ((t ++ s).toList.isEmpty = true ∧ eo = true ∧ so1 = true) := by cases (t ++ s).toList.isEmpty <;> cases eo <;> cases so1 <;> simp
  rcases hall with hte | ⟨hte, rfl⟩ | ⟨hte, rfl, rfl⟩ | ⟨hte, rfl, rfl⟩
  all_goals go_enter Tryd.func58, Tryd.ntmps58
  all_goals go_wp2_with (first
    | (go_at_call 37; refine (HC.out _ ((Below.refl w.heap.size w).alloc (Nat.le_refl _) _)).mono ?_; rintro e w1 ⟨rfl, hb1⟩; obtain ⟨hq1, hf1⟩ := bcell hb1; have hz1 : w.heap.size < w1.heap.size := (by have := hb1.size; simp at this; omega); have hB1 := ((Below.refl w.heap.size w).alloc (Nat.le_refl _) _).trans (hb1.mono (by simp)); have hcx : w1.cell? ⟨bk, off, none⟩ = some (.int .i64 k0) := ((hB1.cell (p := ⟨bk, off, none⟩) hbk).trans hc0); skip)
    | (go_at_call 80; refine (first1_any _ _).mono ?_; rintro e w2 ⟨rfl, rfl⟩)
    | (go_at_call 81; refine (first2_any _ _).mono ?_; rintro e w2 ⟨rfl, rfl⟩)
    | (go_at_call 82; refine (first3_any _ _).mono ?_; rintro e w2 ⟨rfl, rfl⟩)
    | (go_at_call_of 32 (Value.slice A1 m1 cap1); with_reducible refine (H1.out _ hB1).mono ?_; rintro e w3 ⟨rfl, hb3⟩; obtain ⟨hq3, hf3⟩ := bcell hb3; have hB3 := hB1.trans (hb3.mono hB1.size))
    | (go_at_call_of 32 (Value.slice A2 m2 cap2); with_reducible refine (H2.out _ hB3).mono ?_; rintro e w4 ⟨rfl, hb4⟩; have hB4 := hB3.trans (hb4.mono hB3.size)))
  all_goals go_ret
  all_goals refine ⟨ret_bool ?_, by first | exact hB4 | exact hB3 | exact hB1 | exact ((Below.refl w.heap.size w).alloc (Nat.le_refl _) _)⟩
  all_goals clear HC H1 H2 hE HL
  all_goals try clear hB4
  all_goals try clear hb4
  all_goals try clear hB3
  all_goals try clear hq3
  all_goals try clear hf3
  all_goals try clear hb3
  all_goals try clear hcx
  all_goals try clear hB1
  all_goals try clear hz1
  all_goals try clear hq1
  all_goals try clear hf1
  all_goals try clear hb1
  all_goals try clear hB0
  all_goals try clear hz0
  all_goals try clear hq0
  all_goals try clear hf0
  all_goals try clear hb0
  all_goals try clear hc0
  all_goals try clear hbk'
  all_goals try clear hbk
  all_goals simp_all [stHead, manyOf, firstK]
  all_goals first | (intros; omega) | (cases so2 <;> simp <;> omega)

set_option maxRecDepth 100000 in
set_option maxHeartbeats 4000000 in
theorem stmt_4_nil (n : Int) (t s : ByteArray) (A0 A1 A2 : Option Addr) (m cap0 m1 cap1 m2 cap2 : Nat) (eo so1 so2 : Bool) (w : World)
    (hE : Hid (∀ W, Below w.heap.size w W → Env W)) (ht : t.size ≤ 2000000) (hs : s.size ≤ 2000000) (hm : m ≤ 2000000) (hm1 : m1 ≤ 2000000) (hm2 : m2 ≤ 2000000) (h0 : m < 1)
    (HC : Hid (∀ W, Below w.heap.size w W → Calls Tryd.prog 37 #[.slice A0 m cap0, .func (.func 83) #[] #[]] W fun e w' => e = .returned (.bool (!eo)) ∧ Below W.heap.size W w'))
    (H1 : Hid (∀ W, Below w.heap.size w W → Calls Tryd.prog 32 #[.slice A1 m1 cap1] W fun e w' => e = .returned (.bool so1) ∧ Below W.heap.size W w'))
    (H2 : Hid (∀ W, Below w.heap.size w W → Calls Tryd.prog 32 #[.slice A2 m2 cap2] W fun e w' => e = .returned (.bool so2) ∧ Below W.heap.size W w')) :
    Calls Tryd.prog 58 #[.agg #[.int .i64 4, .int .i64 n, .string t, .string s, .slice A0 m cap0, .slice A1 m1 cap1, .slice A2 m2 cap2]] w fun e w' => e = .returned (.bool (stHead 4 n t s m m1 m2 && (eo && (true && (so1 && so2))))) ∧ Below w.heap.size w w' := by
  have hne : ((m : Int) != 1) = true := by simp; omega
  have HL := Lib.hid (Nat.le_refl w.heap.size)
  have hall : (t ++ s).toList.isEmpty = false ∨ ((t ++ s).toList.isEmpty = true ∧ eo = false) ∨ ((t ++ s).toList.isEmpty = true ∧ eo = true ∧ so1 = false) ∨ ((t ++ s).toList.isEmpty = true ∧ eo = true ∧ so1 = true) := by cases (t ++ s).toList.isEmpty <;> cases eo <;> cases so1 <;> simp
  rcases hall with hte | ⟨hte, rfl⟩ | ⟨hte, rfl, rfl⟩ | ⟨hte, rfl, rfl⟩
  all_goals go_enter Tryd.func58, Tryd.ntmps58
  all_goals go_wp2_with (first
    | (go_at_call 37; refine (HC.out _ ((Below.refl w.heap.size w).alloc (Nat.le_refl _) _)).mono ?_; rintro e w1 ⟨rfl, hb1⟩; obtain ⟨hq1, hf1⟩ := bcell hb1; have hz1 : w.heap.size < w1.heap.size := (by have := hb1.size; simp at this; omega); have hB1 := ((Below.refl w.heap.size w).alloc (Nat.le_refl _) _).trans (hb1.mono (by simp)); skip)
    | (go_at_call 80; refine (first1_any _ _).mono ?_; rintro e w2 ⟨rfl, rfl⟩)
    | (go_at_call 81; refine (first2_any _ _).mono ?_; rintro e w2 ⟨rfl, rfl⟩)
    | (go_at_call 82; refine (first3_any _ _).mono ?_; rintro e w2 ⟨rfl, rfl⟩)
    | (go_at_call_of 32 (Value.slice A1 m1 cap1); with_reducible refine (H1.out _ hB1).mono ?_; rintro e w3 ⟨rfl, hb3⟩; obtain ⟨hq3, hf3⟩ := bcell hb3; have hB3 := hB1.trans (hb3.mono hB1.size))
    | (go_at_call_of 32 (Value.slice A2 m2 cap2); with_reducible refine (H2.out _ hB3).mono ?_; rintro e w4 ⟨rfl, hb4⟩; have hB4 := hB3.trans (hb4.mono hB3.size)))
  all_goals go_ret
  all_goals refine ⟨ret_bool ?_, by first | exact hB4 | exact hB3 | exact hB1 | exact ((Below.refl w.heap.size w).alloc (Nat.le_refl _) _)⟩
  all_goals clear HC H1 H2 hE HL
  all_goals try clear hB4
  all_goals try clear hb4
  all_goals try clear hB3
  all_goals try clear hq3
  all_goals try clear hf3
  all_goals try clear hb3
  all_goals try clear hcx
  all_goals try clear hB1
  all_goals try clear hz1
  all_goals try clear hq1
  all_goals try clear hf1
  all_goals try clear hb1
  all_goals try clear hB0
  all_goals try clear hz0
  all_goals try clear hq0
  all_goals try clear hf0
  all_goals try clear hb0
  all_goals simp_all [stHead, manyOf, firstK]
  all_goals first | (intros; omega) | (cases so2 <;> simp <;> omega)

set_option maxRecDepth 100000 in
set_option maxHeartbeats 4000000 in
theorem stmt_4_cons (n : Int) (t s : ByteArray) (A0 A1 A2 : Option Addr) (m cap0 m1 cap1 m2 cap2 : Nat) (eo so1 so2 : Bool) (w : World)
    (hE : Hid (∀ W, Below w.heap.size w W → Env W)) (ht : t.size ≤ 2000000) (hs : s.size ≤ 2000000) (hm : m ≤ 2000000) (hm1 : m1 ≤ 2000000) (hm2 : m2 ≤ 2000000)
    (bk off : Nat) (k0 : Int) (hA : A0 = some ⟨bk, off, none⟩) (hbk : bk < w.heap.size) (hc0 : w.cell? ⟨bk, off, none⟩ = some (.int .i64 k0)) (hpos : 0 < m)
    (HC : Hid (∀ W, Below w.heap.size w W → Calls Tryd.prog 37 #[.slice A0 m cap0, .func (.func 83) #[] #[]] W fun e w' => e = .returned (.bool (!eo)) ∧ Below W.heap.size W w'))
    (H1 : Hid (∀ W, Below w.heap.size w W → Calls Tryd.prog 32 #[.slice A1 m1 cap1] W fun e w' => e = .returned (.bool so1) ∧ Below W.heap.size W w'))
    (H2 : Hid (∀ W, Below w.heap.size w W → Calls Tryd.prog 32 #[.slice A2 m2 cap2] W fun e w' => e = .returned (.bool so2) ∧ Below W.heap.size W w')) :
    Calls Tryd.prog 58 #[.agg #[.int .i64 4, .int .i64 n, .string t, .string s, .slice A0 m cap0, .slice A1 m1 cap1, .slice A2 m2 cap2]] w fun e w' => e = .returned (.bool (stHead 4 n t s m m1 m2 && (eo && (firstK 4 k0 && (so1 && so2))))) ∧ Below w.heap.size w w' := by
  subst hA
  have hbk' : bk ≤ w.heap.size := by omega
  have HL := Lib.hid (Nat.le_refl w.heap.size)
  have hall : (t ++ s).toList.isEmpty = false ∨ ((t ++ s).toList.isEmpty = true ∧ eo = false) ∨ ((t ++ s).toList.isEmpty = true ∧ eo = true ∧ so1 = false) ∨ ((t ++ s).toList.isEmpty = true ∧ eo = true ∧ so1 = true) := by cases (t ++ s).toList.isEmpty <;> cases eo <;> cases so1 <;> simp
  rcases hall with hte | ⟨hte, rfl⟩ | ⟨hte, rfl, rfl⟩ | ⟨hte, rfl, rfl⟩
  all_goals go_enter Tryd.func58, Tryd.ntmps58
  all_goals go_wp2_with (first
    | (go_at_call 37; refine (HC.out _ ((Below.refl w.heap.size w).alloc (Nat.le_refl _) _)).mono ?_; rintro e w1 ⟨rfl, hb1⟩; obtain ⟨hq1, hf1⟩ := bcell hb1; have hz1 : w.heap.size < w1.heap.size := (by have := hb1.size; simp at this; omega); have hB1 := ((Below.refl w.heap.size w).alloc (Nat.le_refl _) _).trans (hb1.mono (by simp)); have hcx : w1.cell? ⟨bk, off, none⟩ = some (.int .i64 k0) := ((hB1.cell (p := ⟨bk, off, none⟩) hbk).trans hc0); skip)
    | (go_at_call 80; refine (first1_any _ _).mono ?_; rintro e w2 ⟨rfl, rfl⟩)
    | (go_at_call 81; refine (first2_any _ _).mono ?_; rintro e w2 ⟨rfl, rfl⟩)
    | (go_at_call 82; refine (first3_any _ _).mono ?_; rintro e w2 ⟨rfl, rfl⟩)
    | (go_at_call_of 32 (Value.slice A1 m1 cap1); with_reducible refine (H1.out _ hB1).mono ?_; rintro e w3 ⟨rfl, hb3⟩; obtain ⟨hq3, hf3⟩ := bcell hb3; have hB3 := hB1.trans (hb3.mono hB1.size))
    | (go_at_call_of 32 (Value.slice A2 m2 cap2); with_reducible refine (H2.out _ hB3).mono ?_; rintro e w4 ⟨rfl, hb4⟩; have hB4 := hB3.trans (hb4.mono hB3.size)))
  all_goals go_ret
  all_goals refine ⟨ret_bool ?_, by first | exact hB4 | exact hB3 | exact hB1 | exact ((Below.refl w.heap.size w).alloc (Nat.le_refl _) _)⟩
  all_goals clear HC H1 H2 hE HL
  all_goals try clear hB4
  all_goals try clear hb4
  all_goals try clear hB3
  all_goals try clear hq3
  all_goals try clear hf3
  all_goals try clear hb3
  all_goals try clear hcx
  all_goals try clear hB1
  all_goals try clear hz1
  all_goals try clear hq1
  all_goals try clear hf1
  all_goals try clear hb1
  all_goals try clear hB0
  all_goals try clear hz0
  all_goals try clear hq0
  all_goals try clear hf0
  all_goals try clear hb0
  all_goals try clear hc0
  all_goals try clear hbk'
  all_goals try clear hbk
  all_goals simp_all [stHead, manyOf, firstK]
  all_goals first | (intros; omega) | (cases so2 <;> simp <;> omega)

set_option maxRecDepth 100000 in
set_option maxHeartbeats 4000000 in
theorem stmt_5_nil (n : Int) (t s : ByteArray) (A0 A1 A2 : Option Addr) (m cap0 m1 cap1 m2 cap2 : Nat) (eo so1 so2 : Bool) (w : World)
    (hE : Hid (∀ W, Below w.heap.size w W → Env W)) (ht : t.size ≤ 2000000) (hs : s.size ≤ 2000000) (hm : m ≤ 2000000) (hm1 : m1 ≤ 2000000) (hm2 : m2 ≤ 2000000) (h0 : m < 1)
    (HC : Hid (∀ W, Below w.heap.size w W → Calls Tryd.prog 37 #[.slice A0 m cap0, .func (.func 83) #[] #[]] W fun e w' => e = .returned (.bool (!eo)) ∧ Below W.heap.size W w'))
    (H1 : Hid (∀ W, Below w.heap.size w W → Calls Tryd.prog 32 #[.slice A1 m1 cap1] W fun e w' => e = .returned (.bool so1) ∧ Below W.heap.size W w'))
    (H2 : Hid (∀ W, Below w.heap.size w W → Calls Tryd.prog 32 #[.slice A2 m2 cap2] W fun e w' => e = .returned (.bool so2) ∧ Below W.heap.size W w')) :
    Calls Tryd.prog 58 #[.agg #[.int .i64 5, .int .i64 n, .string t, .string s, .slice A0 m cap0, .slice A1 m1 cap1, .slice A2 m2 cap2]] w fun e w' => e = .returned (.bool (stHead 5 n t s m m1 m2 && (eo && (true && (so1 && so2))))) ∧ Below w.heap.size w w' := by
  have hne : ((m : Int) != 1) = true := by simp; omega
  have HL := Lib.hid (Nat.le_refl w.heap.size)
  have hall : (t ++ s).toList.isEmpty = false ∨ ((t ++ s).toList.isEmpty = true ∧ eo = false) ∨ ((t ++ s).toList.isEmpty = true ∧ eo = true ∧ so1 = false) ∨ ((t ++ s).toList.isEmpty = true ∧ eo = true ∧ so1 = true) := by cases (t ++ s).toList.isEmpty <;> cases eo <;> cases so1 <;> simp
  rcases hall with hte | ⟨hte, rfl⟩ | ⟨hte, rfl, rfl⟩ | ⟨hte, rfl, rfl⟩
  all_goals go_enter Tryd.func58, Tryd.ntmps58
  all_goals go_wp2_with (first
    | (go_at_call 37; refine (HC.out _ ((Below.refl w.heap.size w).alloc (Nat.le_refl _) _)).mono ?_; rintro e w1 ⟨rfl, hb1⟩; obtain ⟨hq1, hf1⟩ := bcell hb1; have hz1 : w.heap.size < w1.heap.size := (by have := hb1.size; simp at this; omega); have hB1 := ((Below.refl w.heap.size w).alloc (Nat.le_refl _) _).trans (hb1.mono (by simp)); skip)
    | (go_at_call 80; refine (first1_any _ _).mono ?_; rintro e w2 ⟨rfl, rfl⟩)
    | (go_at_call 81; refine (first2_any _ _).mono ?_; rintro e w2 ⟨rfl, rfl⟩)
    | (go_at_call 82; refine (first3_any _ _).mono ?_; rintro e w2 ⟨rfl, rfl⟩)
    | (go_at_call_of 32 (Value.slice A1 m1 cap1); with_reducible refine (H1.out _ hB1).mono ?_; rintro e w3 ⟨rfl, hb3⟩; obtain ⟨hq3, hf3⟩ := bcell hb3; have hB3 := hB1.trans (hb3.mono hB1.size))
    | (go_at_call_of 32 (Value.slice A2 m2 cap2); with_reducible refine (H2.out _ hB3).mono ?_; rintro e w4 ⟨rfl, hb4⟩; have hB4 := hB3.trans (hb4.mono hB3.size)))
  all_goals go_ret
  all_goals refine ⟨ret_bool ?_, by first | exact hB4 | exact hB3 | exact hB1 | exact ((Below.refl w.heap.size w).alloc (Nat.le_refl _) _)⟩
  all_goals clear HC H1 H2 hE HL
  all_goals try clear hB4
  all_goals try clear hb4
  all_goals try clear hB3
  all_goals try clear hq3
  all_goals try clear hf3
  all_goals try clear hb3
  all_goals try clear hcx
  all_goals try clear hB1
  all_goals try clear hz1
  all_goals try clear hq1
  all_goals try clear hf1
  all_goals try clear hb1
  all_goals try clear hB0
  all_goals try clear hz0
  all_goals try clear hq0
  all_goals try clear hf0
  all_goals try clear hb0
  all_goals simp_all [stHead, manyOf, firstK]
  all_goals first | (intros; omega) | (cases so2 <;> simp <;> omega)

set_option maxRecDepth 100000 in
set_option maxHeartbeats 4000000 in
theorem stmt_5_cons (n : Int) (t s : ByteArray) (A0 A1 A2 : Option Addr) (m cap0 m1 cap1 m2 cap2 : Nat) (eo so1 so2 : Bool) (w : World)
    (hE : Hid (∀ W, Below w.heap.size w W → Env W)) (ht : t.size ≤ 2000000) (hs : s.size ≤ 2000000) (hm : m ≤ 2000000) (hm1 : m1 ≤ 2000000) (hm2 : m2 ≤ 2000000)
    (bk off : Nat) (k0 : Int) (hA : A0 = some ⟨bk, off, none⟩) (hbk : bk < w.heap.size) (hc0 : w.cell? ⟨bk, off, none⟩ = some (.int .i64 k0)) (hpos : 0 < m)
    (HC : Hid (∀ W, Below w.heap.size w W → Calls Tryd.prog 37 #[.slice A0 m cap0, .func (.func 83) #[] #[]] W fun e w' => e = .returned (.bool (!eo)) ∧ Below W.heap.size W w'))
    (H1 : Hid (∀ W, Below w.heap.size w W → Calls Tryd.prog 32 #[.slice A1 m1 cap1] W fun e w' => e = .returned (.bool so1) ∧ Below W.heap.size W w'))
    (H2 : Hid (∀ W, Below w.heap.size w W → Calls Tryd.prog 32 #[.slice A2 m2 cap2] W fun e w' => e = .returned (.bool so2) ∧ Below W.heap.size W w')) :
    Calls Tryd.prog 58 #[.agg #[.int .i64 5, .int .i64 n, .string t, .string s, .slice A0 m cap0, .slice A1 m1 cap1, .slice A2 m2 cap2]] w fun e w' => e = .returned (.bool (stHead 5 n t s m m1 m2 && (eo && (firstK 5 k0 && (so1 && so2))))) ∧ Below w.heap.size w w' := by
  subst hA
  have hbk' : bk ≤ w.heap.size := by omega
  have HL := Lib.hid (Nat.le_refl w.heap.size)
  have hall : (t ++ s).toList.isEmpty = false ∨ ((t ++ s).toList.isEmpty = true ∧ eo = false) ∨ ((t ++ s).toList.isEmpty = true ∧ eo = true ∧ so1 = false) ∨ ((t ++ s).toList.isEmpty = true ∧ eo = true ∧ so1 = true) := by cases (t ++ s).toList.isEmpty <;> cases eo <;> cases so1 <;> simp
  rcases hall with hte | ⟨hte, rfl⟩ | ⟨hte, rfl, rfl⟩ | ⟨hte, rfl, rfl⟩
  all_goals go_enter Tryd.func58, Tryd.ntmps58
  all_goals go_wp2_with (first
    | (go_at_call 37; refine (HC.out _ ((Below.refl w.heap.size w).alloc (Nat.le_refl _) _)).mono ?_; rintro e w1 ⟨rfl, hb1⟩; obtain ⟨hq1, hf1⟩ := bcell hb1; have hz1 : w.heap.size < w1.heap.size := (by have := hb1.size; simp at this; omega); have hB1 := ((Below.refl w.heap.size w).alloc (Nat.le_refl _) _).trans (hb1.mono (by simp)); have hcx : w1.cell? ⟨bk, off, none⟩ = some (.int .i64 k0) := ((hB1.cell (p := ⟨bk, off, none⟩) hbk).trans hc0); skip)
    | (go_at_call 80; refine (first1_any _ _).mono ?_; rintro e w2 ⟨rfl, rfl⟩)
    | (go_at_call 81; refine (first2_any _ _).mono ?_; rintro e w2 ⟨rfl, rfl⟩)
    | (go_at_call 82; refine (first3_any _ _).mono ?_; rintro e w2 ⟨rfl, rfl⟩)
    | (go_at_call_of 32 (Value.slice A1 m1 cap1); with_reducible refine (H1.out _ hB1).mono ?_; rintro e w3 ⟨rfl, hb3⟩; obtain ⟨hq3, hf3⟩ := bcell hb3; have hB3 := hB1.trans (hb3.mono hB1.size))
    | (go_at_call_of 32 (Value.slice A2 m2 cap2); with_reducible refine (H2.out _ hB3).mono ?_; rintro e w4 ⟨rfl, hb4⟩; have hB4 := hB3.trans (hb4.mono hB3.size)))
  all_goals go_ret
  all_goals refine ⟨ret_bool ?_, by first | exact hB4 | exact hB3 | exact hB1 | exact ((Below.refl w.heap.size w).alloc (Nat.le_refl _) _)⟩
  all_goals clear HC H1 H2 hE HL
  all_goals try clear hB4
  all_goals try clear hb4
  all_goals try clear hB3
  all_goals try clear hq3
  all_goals try clear hf3
  all_goals try clear hb3
  all_goals try clear hcx
  all_goals try clear hB1
  all_goals try clear hz1
  all_goals try clear hq1
  all_goals try clear hf1
  all_goals try clear hb1
  all_goals try clear hB0
  all_goals try clear hz0
  all_goals try clear hq0
  all_goals try clear hf0
  all_goals try clear hb0
  all_goals try clear hc0
  all_goals try clear hbk'
  all_goals try clear hbk
  all_goals simp_all [stHead, manyOf, firstK]
  all_goals first | (intros; omega) | (cases so2 <;> simp <;> omega)

set_option maxRecDepth 100000 in
set_option maxHeartbeats 4000000 in
theorem stmt_6_nil (n : Int) (t s : ByteArray) (A0 A1 A2 : Option Addr) (m cap0 m1 cap1 m2 cap2 : Nat) (eo so1 so2 : Bool) (w : World)
    (hE : Hid (∀ W, Below w.heap.size w W → Env W)) (ht : t.size ≤ 2000000) (hs : s.size ≤ 2000000) (hm : m ≤ 2000000) (hm1 : m1 ≤ 2000000) (hm2 : m2 ≤ 2000000) (h0 : m < 1)
    (HC : Hid (∀ W, Below w.heap.size w W → Calls Tryd.prog 37 #[.slice A0 m cap0, .func (.func 83) #[] #[]] W fun e w' => e = .returned (.bool (!eo)) ∧ Below W.heap.size W w'))
    (H1 : Hid (∀ W, Below w.heap.size w W → Calls Tryd.prog 32 #[.slice A1 m1 cap1] W fun e w' => e = .returned (.bool so1) ∧ Below W.heap.size W w'))
    (H2 : Hid (∀ W, Below w.heap.size w W → Calls Tryd.prog 32 #[.slice A2 m2 cap2] W fun e w' => e = .returned (.bool so2) ∧ Below W.heap.size W w')) :
    Calls Tryd.prog 58 #[.agg #[.int .i64 6, .int .i64 n, .string t, .string s, .slice A0 m cap0, .slice A1 m1 cap1, .slice A2 m2 cap2]] w fun e w' => e = .returned (.bool (stHead 6 n t s m m1 m2 && (eo && (true && (so1 && so2))))) ∧ Below w.heap.size w w' := by
  have hne : ((m : Int) != 1) = true := by simp; omega
  have HL := Lib.hid (Nat.le_refl w.heap.size)
  have hall : (t ++ s).toList.isEmpty = false ∨ ((t ++ s).toList.isEmpty = true ∧ eo = false) ∨ ((t ++ s).toList.isEmpty = true ∧ eo = true ∧ so1 = false) ∨ ((t ++ s).toList.isEmpty = true ∧ eo = true ∧ so1 = true) := by cases (t ++ s).toList.isEmpty <;> cases eo <;> cases so1 <;> simp
  rcases hall with hte | ⟨hte, rfl⟩ | ⟨hte, rfl, rfl⟩ | ⟨hte, rfl, rfl⟩
  all_goals go_enter Tryd.func58, Tryd.ntmps58
  all_goals go_wp2_with (first
    | (go_at_call 37; refine (HC.out _ ((Below.refl w.heap.size w).alloc (Nat.le_refl _) _)).mono ?_; rintro e w1 ⟨rfl, hb1⟩; obtain ⟨hq1, hf1⟩ := bcell hb1; have hz1 : w.heap.size < w1.heap.size := (by have := hb1.size; simp at this; omega); have hB1 := ((Below.refl w.heap.size w).alloc (Nat.le_refl _) _).trans (hb1.mono (by simp)); skip)
    | (go_at_call 80; refine (first1_any _ _).mono ?_; rintro e w2 ⟨rfl, rfl⟩)
    | (go_at_call 81; refine (first2_any _ _).mono ?_; rintro e w2 ⟨rfl, rfl⟩)
    | (go_at_call 82; refine (first3_any _ _).mono ?_; rintro e w2 ⟨rfl, rfl⟩)
    | (go_at_call_of 32 (Value.slice A1 m1 cap1); with_reducible refine (H1.out _ hB1).mono ?_; rintro e w3 ⟨rfl, hb3⟩; obtain ⟨hq3, hf3⟩ := bcell hb3; have hB3 := hB1.trans (hb3.mono hB1.size))
    | (go_at_call_of 32 (Value.slice A2 m2 cap2); with_reducible refine (H2.out _ hB3).mono ?_; rintro e w4 ⟨rfl, hb4⟩; have hB4 := hB3.trans (hb4.mono hB3.size)))
  all_goals go_ret
  all_goals refine ⟨ret_bool ?_, by first | exact hB4 | exact hB3 | exact hB1 | exact ((Below.refl w.heap.size w).alloc (Nat.le_refl _) _)⟩
  all_goals clear HC H1 H2 hE HL
  all_goals try clear hB4
  all_goals try clear hb4
  all_goals try clear hB3
  all_goals try clear hq3
  all_goals try clear hf3
  all_goals try clear hb3
  all_goals try clear hcx
  all_goals try clear hB1
  all_goals try clear hz1
  all_goals try clear hq1
  all_goals try clear hf1
  all_goals try clear hb1
  all_goals try clear hB0
  all_goals try clear hz0
  all_goals try clear hq0
  all_goals try clear hf0
  all_goals try clear hb0
  all_goals simp_all [stHead, manyOf, firstK]
  all_goals first | (intros; omega) | (cases so2 <;> simp <;> omega)

set_option maxRecDepth 100000 in
set_option maxHeartbeats 4000000 in
theorem stmt_6_cons (n : Int) (t s : ByteArray) (A0 A1 A2 : Option Addr) (m cap0 m1 cap1 m2 cap2 : Nat) (eo so1 so2 : Bool) (w : World)
    (hE : Hid (∀ W, Below w.heap.size w W → Env W)) (ht : t.size ≤ 2000000) (hs : s.size ≤ 2000000) (hm : m ≤ 2000000) (hm1 : m1 ≤ 2000000) (hm2 : m2 ≤ 2000000)
    (bk off : Nat) (k0 : Int) (hA : A0 = some ⟨bk, off, none⟩) (hbk : bk < w.heap.size) (hc0 : w.cell? ⟨bk, off, none⟩ = some (.int .i64 k0)) (hpos : 0 < m)
    (HC : Hid (∀ W, Below w.heap.size w W → Calls Tryd.prog 37 #[.slice A0 m cap0, .func (.func 83) #[] #[]] W fun e w' => e = .returned (.bool (!eo)) ∧ Below W.heap.size W w'))
    (H1 : Hid (∀ W, Below w.heap.size w W → Calls Tryd.prog 32 #[.slice A1 m1 cap1] W fun e w' => e = .returned (.bool so1) ∧ Below W.heap.size W w'))
    (H2 : Hid (∀ W, Below w.heap.size w W → Calls Tryd.prog 32 #[.slice A2 m2 cap2] W fun e w' => e = .returned (.bool so2) ∧ Below W.heap.size W w')) :
    Calls Tryd.prog 58 #[.agg #[.int .i64 6, .int .i64 n, .string t, .string s, .slice A0 m cap0, .slice A1 m1 cap1, .slice A2 m2 cap2]] w fun e w' => e = .returned (.bool (stHead 6 n t s m m1 m2 && (eo && (firstK 6 k0 && (so1 && so2))))) ∧ Below w.heap.size w w' := by
  subst hA
  have hbk' : bk ≤ w.heap.size := by omega
  have HL := Lib.hid (Nat.le_refl w.heap.size)
  have hall : (t ++ s).toList.isEmpty = false ∨ ((t ++ s).toList.isEmpty = true ∧ eo = false) ∨ ((t ++ s).toList.isEmpty = true ∧ eo = true ∧ so1 = false) ∨ ((t ++ s).toList.isEmpty = true ∧ eo = true ∧ so1 = true) := by cases (t ++ s).toList.isEmpty <;> cases eo <;> cases so1 <;> simp
  rcases hall with hte | ⟨hte, rfl⟩ | ⟨hte, rfl, rfl⟩ | ⟨hte, rfl, rfl⟩
  all_goals go_enter Tryd.func58, Tryd.ntmps58
  all_goals go_wp2_with (first
    | (go_at_call 37; refine (HC.out _ ((Below.refl w.heap.size w).alloc (Nat.le_refl _) _)).mono ?_; rintro e w1 ⟨rfl, hb1⟩; obtain ⟨hq1, hf1⟩ := bcell hb1; have hz1 : w.heap.size < w1.heap.size := (by have := hb1.size; simp at this; omega); have hB1 := ((Below.refl w.heap.size w).alloc (Nat.le_refl _) _).trans (hb1.mono (by simp)); have hcx : w1.cell? ⟨bk, off, none⟩ = some (.int .i64 k0) := ((hB1.cell (p := ⟨bk, off, none⟩) hbk).trans hc0); skip)
    | (go_at_call 80; refine (first1_any _ _).mono ?_; rintro e w2 ⟨rfl, rfl⟩)
    | (go_at_call 81; refine (first2_any _ _).mono ?_; rintro e w2 ⟨rfl, rfl⟩)
    | (go_at_call 82; refine (first3_any _ _).mono ?_; rintro e w2 ⟨rfl, rfl⟩)
    | (go_at_call_of 32 (Value.slice A1 m1 cap1); with_reducible refine (H1.out _ hB1).mono ?_; rintro e w3 ⟨rfl, hb3⟩; obtain ⟨hq3, hf3⟩ := bcell hb3; have hB3 := hB1.trans (hb3.mono hB1.size))
    | (go_at_call_of 32 (Value.slice A2 m2 cap2); with_reducible refine (H2.out _ hB3).mono ?_; rintro e w4 ⟨rfl, hb4⟩; have hB4 := hB3.trans (hb4.mono hB3.size)))
  all_goals go_ret
  all_goals refine ⟨ret_bool ?_, by first | exact hB4 | exact hB3 | exact hB1 | exact ((Below.refl w.heap.size w).alloc (Nat.le_refl _) _)⟩
  all_goals clear HC H1 H2 hE HL
  all_goals try clear hB4
  all_goals try clear hb4
  all_goals try clear hB3
  all_goals try clear hq3
  all_goals try clear hf3
  all_goals try clear hb3
  all_goals try clear hcx
  all_goals try clear hB1
  all_goals try clear hz1
  all_goals try clear hq1
  all_goals try clear hf1
  all_goals try clear hb1
  all_goals try clear hB0
  all_goals try clear hz0
  all_goals try clear hq0
  all_goals try clear hf0
  all_goals try clear hb0
  all_goals try clear hc0
  all_goals try clear hbk'
  all_goals try clear hbk
  all_goals simp_all [stHead, manyOf, firstK]
  all_goals first | (intros; omega) | (cases so2 <;> simp <;> omega)

set_option maxRecDepth 100000 in
set_option maxHeartbeats 4000000 in
theorem stmt_7_nil (n : Int) (t s : ByteArray) (A0 A1 A2 : Option Addr) (m cap0 m1 cap1 m2 cap2 : Nat) (eo so1 so2 : Bool) (w : World)
    (hE : Hid (∀ W, Below w.heap.size w W → Env W)) (ht : t.size ≤ 2000000) (hs : s.size ≤ 2000000) (hm : m ≤ 2000000) (hm1 : m1 ≤ 2000000) (hm2 : m2 ≤ 2000000) (h0 : m < 1)
    (HC : Hid (∀ W, Below w.heap.size w W → Calls Tryd.prog 37 #[.slice A0 m cap0, .func (.func 83) #[] #[]] W fun e w' => e = .returned (.bool (!eo)) ∧ Below W.heap.size W w'))
    (H1 : Hid (∀ W, Below w.heap.size w W → Calls Tryd.prog 32 #[.slice A1 m1 cap1] W fun e w' => e = .returned (.bool so1) ∧ Below W.heap.size W w'))
    (H2 : Hid (∀ W, Below w.heap.size w W → Calls Tryd.prog 32 #[.slice A2 m2 cap2] W fun e w' => e = .returned (.bool so2) ∧ Below W.heap.size W w')) :
    Calls Tryd.prog 58 #[.agg #[.int .i64 7, .int .i64 n, .string t, .string s, .slice A0 m cap0, .slice A1 m1 cap1, .slice A2 m2 cap2]] w fun e w' => e = .returned (.bool (stHead 7 n t s m m1 m2 && (eo && (true && (so1 && so2))))) ∧ Below w.heap.size w w' := by
  have hne : ((m : Int) != 1) = true := by simp; omega
  have HL := Lib.hid (Nat.le_refl w.heap.size)
  have hall : (t ++ s).toList.isEmpty = false ∨ ((t ++ s).toList.isEmpty = true ∧ eo = false) ∨ ((t ++ s).toList.isEmpty = true ∧ eo = true ∧ so1 = false) ∨ ((t ++ s).toList.isEmpty = true ∧ eo = true ∧ so1 = true) := by cases (t ++ s).toList.isEmpty <;> cases eo <;> cases so1 <;> simp
  rcases hall with hte | ⟨hte, rfl⟩ | ⟨hte, rfl, rfl⟩ | ⟨hte, rfl, rfl⟩
  all_goals go_enter Tryd.func58, Tryd.ntmps58
  all_goals go_wp2_with (first
    | (go_at_call 37; refine (HC.out _ ((Below.refl w.heap.size w).alloc (Nat.le_refl _) _)).mono ?_; rintro e w1 ⟨rfl, hb1⟩; obtain ⟨hq1, hf1⟩ := bcell hb1; have hz1 : w.heap.size < w1.heap.size := (by have := hb1.size; simp at this; omega); have hB1 := ((Below.refl w.heap.size w).alloc (Nat.le_refl _) _).trans (hb1.mono (by simp)); skip)
    | (go_at_call 80; refine (first1_any _ _).mono ?_; rintro e w2 ⟨rfl, rfl⟩)
    | (go_at_call 81; refine (first2_any _ _).mono ?_; rintro e w2 ⟨rfl, rfl⟩)
    | (go_at_call 82; refine (first3_any _ _).mono ?_; rintro e w2 ⟨rfl, rfl⟩)
    | (go_at_call_of 32 (Value.slice A1 m1 cap1); with_reducible refine (H1.out _ hB1).mono ?_; rintro e w3 ⟨rfl, hb3⟩; obtain ⟨hq3, hf3⟩ := bcell hb3; have hB3 := hB1.trans (hb3.mono hB1.size))
    | (go_at_call_of 32 (Value.slice A2 m2 cap2); with_reducible refine (H2.out _ hB3).mono ?_; rintro e w4 ⟨rfl, hb4⟩; have hB4 := hB3.trans (hb4.mono hB3.size)))
  all_goals go_ret
  all_goals refine ⟨ret_bool ?_, by first | exact hB4 | exact hB3 | exact hB1 | exact ((Below.refl w.heap.size w).alloc (Nat.le_refl _) _)⟩
  all_goals clear HC H1 H2 hE HL
  all_goals try clear hB4
  all_goals try clear hb4
  all_goals try clear hB3
  all_goals try clear hq3
  all_goals try clear hf3
  all_goals try clear hb3
  all_goals try clear hcx
  all_goals try clear hB1
  all_goals try clear hz1
  all_goals try clear hq1
  all_goals try clear hf1
  all_goals try clear hb1
  all_goals try clear hB0
  all_goals try clear hz0
  all_goals try clear hq0
  all_goals try clear hf0
  all_goals try clear hb0
  all_goals simp_all [stHead, manyOf, firstK]
  all_goals first | (intros; omega) | (cases so2 <;> simp <;> omega)

set_option maxRecDepth 100000 in
set_option maxHeartbeats 4000000 in
theorem stmt_7_cons (n : Int) (t s : ByteArray) (A0 A1 A2 : Option Addr) (m cap0 m1 cap1 m2 cap2 : Nat) (eo so1 so2 : Bool) (w : World)
    (hE : Hid (∀ W, Below w.heap.size w W → Env W)) (ht : t.size ≤ 2000000) (hs : s.size ≤ 2000000) (hm : m ≤ 2000000) (hm1 : m1 ≤ 2000000) (hm2 : m2 ≤ 2000000)
    (bk off : Nat) (k0 : Int) (hA : A0 = some ⟨bk, off, none⟩) (hbk : bk < w.heap.size) (hc0 : w.cell? ⟨bk, off, none⟩ = some (.int .i64 k0)) (hpos : 0 < m)
    (HC : Hid (∀ W, Below w.heap.size w W → Calls Tryd.prog 37 #[.slice A0 m cap0, .func (.func 83) #[] #[]] W fun e w' => e = .returned (.bool (!eo)) ∧ Below W.heap.size W w'))
    (H1 : Hid (∀ W, Below w.heap.size w W → Calls Tryd.prog 32 #[.slice A1 m1 cap1] W fun e w' => e = .returned (.bool so1) ∧ Below W.heap.size W w'))
    (H2 : Hid (∀ W, Below w.heap.size w W → Calls Tryd.prog 32 #[.slice A2 m2 cap2] W fun e w' => e = .returned (.bool so2) ∧ Below W.heap.size W w')) :
    Calls Tryd.prog 58 #[.agg #[.int .i64 7, .int .i64 n, .string t, .string s, .slice A0 m cap0, .slice A1 m1 cap1, .slice A2 m2 cap2]] w fun e w' => e = .returned (.bool (stHead 7 n t s m m1 m2 && (eo && (firstK 7 k0 && (so1 && so2))))) ∧ Below w.heap.size w w' := by
  subst hA
  have hbk' : bk ≤ w.heap.size := by omega
  have HL := Lib.hid (Nat.le_refl w.heap.size)
  have hall : (t ++ s).toList.isEmpty = false ∨ ((t ++ s).toList.isEmpty = true ∧ eo = false) ∨ ((t ++ s).toList.isEmpty = true ∧ eo = true ∧ so1 = false) ∨ ((t ++ s).toList.isEmpty = true ∧ eo = true ∧ so1 = true) := by cases (t ++ s).toList.isEmpty <;> cases eo <;> cases so1 <;> simp
  rcases hall with hte | ⟨hte, rfl⟩ | ⟨hte, rfl, rfl⟩ | ⟨hte, rfl, rfl⟩
  all_goals go_enter Tryd.func58, Tryd.ntmps58
  all_goals go_wp2_with (first
    | (go_at_call 37; refine (HC.out _ ((Below.refl w.heap.size w).alloc (Nat.le_refl _) _)).mono ?_; rintro e w1 ⟨rfl, hb1⟩; obtain ⟨hq1, hf1⟩ := bcell hb1; have hz1 : w.heap.size < w1.heap.size := (by have := hb1.size; simp at this; omega); have hB1 := ((Below.refl w.heap.size w).alloc (Nat.le_refl _) _).trans (hb1.mono (by simp)); have hcx : w1.cell? ⟨bk, off, none⟩ = some (.int .i64 k0) := ((hB1.cell (p := ⟨bk, off, none⟩) hbk).trans hc0); skip)
    | (go_at_call 80; refine (first1_any _ _).mono ?_; rintro e w2 ⟨rfl, rfl⟩)
    | (go_at_call 81; refine (first2_any _ _).mono ?_; rintro e w2 ⟨rfl, rfl⟩)
    | (go_at_call 82; refine (first3_any _ _).mono ?_; rintro e w2 ⟨rfl, rfl⟩)
    | (go_at_call_of 32 (Value.slice A1 m1 cap1); with_reducible refine (H1.out _ hB1).mono ?_; rintro e w3 ⟨rfl, hb3⟩; obtain ⟨hq3, hf3⟩ := bcell hb3; have hB3 := hB1.trans (hb3.mono hB1.size))
    | (go_at_call_of 32 (Value.slice A2 m2 cap2); with_reducible refine (H2.out _ hB3).mono ?_; rintro e w4 ⟨rfl, hb4⟩; have hB4 := hB3.trans (hb4.mono hB3.size)))
  all_goals go_ret
  all_goals refine ⟨ret_bool ?_, by first | exact hB4 | exact hB3 | exact hB1 | exact ((Below.refl w.heap.size w).alloc (Nat.le_refl _) _)⟩
  all_goals clear HC H1 H2 hE HL
  all_goals try clear hB4
  all_goals try clear hb4
  all_goals try clear hB3
  all_goals try clear hq3
  all_goals try clear hf3
  all_goals try clear hb3
  all_goals try clear hcx
  all_goals try clear hB1
  all_goals try clear hz1
  all_goals try clear hq1
  all_goals try clear hf1
  all_goals try clear hb1
  all_goals try clear hB0
  all_goals try clear hz0
  all_goals try clear hq0
  all_goals try clear hf0
  all_goals try clear hb0
  all_goals try clear hc0
  all_goals try clear hbk'
  all_goals try clear hbk
  all_goals simp_all [stHead, manyOf, firstK]
  all_goals first | (intros; omega) | (cases so2 <;> simp <;> omega)

set_option maxRecDepth 100000 in
set_option maxHeartbeats 4000000 in
theorem stmt_x_nil (k : Int) (hk : k < 1 ∨ 7 < k) (n : Int) (t s : ByteArray) (A0 A1 A2 : Option Addr) (m cap0 m1 cap1 m2 cap2 : Nat) (eo so1 so2 : Bool) (w : World)
    (hE : Hid (∀ W, Below w.heap.size w W → Env W)) (ht : t.size ≤ 2000000) (hs : s.size ≤ 2000000) (hm : m ≤ 2000000) (hm1 : m1 ≤ 2000000) (hm2 : m2 ≤ 2000000) (h0 : m < 1)
    (HC : Hid (∀ W, Below w.heap.size w W → Calls Tryd.prog 37 #[.slice A0 m cap0, .func (.func 83) #[] #[]] W fun e w' => e = .returned (.bool (!eo)) ∧ Below W.heap.size W w'))
    (H1 : Hid (∀ W, Below w.heap.size w W → Calls Tryd.prog 32 #[.slice A1 m1 cap1] W fun e w' => e = .returned (.bool so1) ∧ Below W.heap.size W w'))
    (H2 : Hid (∀ W, Below w.heap.size w W → Calls Tryd.prog 32 #[.slice A2 m2 cap2] W fun e w' => e = .returned (.bool so2) ∧ Below W.heap.size W w')) :
    Calls Tryd.prog 58 #[.agg #[.int .i64 k, .int .i64 n, .string t, .string s, .slice A0 m cap0, .slice A1 m1 cap1, .slice A2 m2 cap2]] w fun e w' => e = .returned (.bool (stHead k n t s m m1 m2 && (eo && (true && (so1 && so2))))) ∧ Below w.heap.size w w' := by
  have h1 : (k == 1) = false := by simp; omega
  have h2 : (k == 2) = false := by simp; omega
  have h3 : (k == 3) = false := by simp; omega
  have h4 : (k == 4) = false := by simp; omega
  have h5 : (k == 5) = false := by simp; omega
  have h6 : (k == 6) = false := by simp; omega
  have h7 : (k == 7) = false := by simp; omega
  have HK := Lib.hid hk; clear hk
  have HL := Lib.hid (Nat.le_refl w.heap.size)
  go_enter Tryd.func58, Tryd.ntmps58
  go_wp2_with fail
  all_goals go_ret
  all_goals refine ⟨ret_bool ?_, by first | exact hB4 | exact hB3 | exact hB1 | exact ((Below.refl w.heap.size w).alloc (Nat.le_refl _) _)⟩
  all_goals (have hk := HK.out; have : stHead k n t s m m1 m2 = false := (by unfold stHead; rcases hk with h | h <;> simp <;> omega))
  all_goals simp [this]

set_option maxRecDepth 100000 in
set_option maxHeartbeats 4000000 in
theorem stmt_x_cons (k : Int) (hk : k < 1 ∨ 7 < k) (n : Int) (t s : ByteArray) (A0 A1 A2 : Option Addr) (m cap0 m1 cap1 m2 cap2 : Nat) (eo so1 so2 : Bool) (w : World)
    (hE : Hid (∀ W, Below w.heap.size w W → Env W)) (ht : t.size ≤ 2000000) (hs : s.size ≤ 2000000) (hm : m ≤ 2000000) (hm1 : m1 ≤ 2000000) (hm2 : m2 ≤ 2000000)
    (bk off : Nat) (k0 : Int) (hA : A0 = some ⟨bk, off, none⟩) (hbk : bk < w.heap.size) (hc0 : w.cell? ⟨bk, off, none⟩ = some (.int .i64 k0)) (hpos : 0 < m)
    (HC : Hid (∀ W, Below w.heap.size w W → Calls Tryd.prog 37 #[.slice A0 m cap0, .func (.func 83) #[] #[]] W fun e w' => e = .returned (.bool (!eo)) ∧ Below W.heap.size W w'))
    (H1 : Hid (∀ W, Below w.heap.size w W → Calls Tryd.prog 32 #[.slice A1 m1 cap1] W fun e w' => e = .returned (.bool so1) ∧ Below W.heap.size W w'))
    (H2 : Hid (∀ W, Below w.heap.size w W → Calls Tryd.prog 32 #[.slice A2 m2 cap2] W fun e w' => e = .returned (.bool so2) ∧ Below W.heap.size W w')) :
    Calls Tryd.prog 58 #[.agg #[.int .i64 k, .int .i64 n, .string t, .string s, .slice A0 m cap0, .slice A1 m1 cap1, .slice A2 m2 cap2]] w fun e w' => e = .returned (.bool (stHead k n t s m m1 m2 && (eo && (firstK k k0 && (so1 && so2))))) ∧ Below w.heap.size w w' := by
  subst hA
  have hbk' : bk ≤ w.heap.size := by omega
  have h1 : (k == 1) = false := by simp; omega
  have h2 : (k == 2) = false := by simp; omega
  have h3 : (k == 3) = false := by simp; omega
  have h4 : (k == 4) = false := by simp; omega
  have h5 : (k == 5) = false := by simp; omega
  have h6 : (k == 6) = false := by simp; omega
  have h7 : (k == 7) = false := by simp; omega
  have HK := Lib.hid hk; clear hk
  have HL := Lib.hid (Nat.le_refl w.heap.size)
  go_enter Tryd.func58, Tryd.ntmps58
  go_wp2_with fail
  all_goals go_ret
  all_goals refine ⟨ret_bool ?_, by first | exact hB4 | exact hB3 | exact hB1 | exact ((Below.refl w.heap.size w).alloc (Nat.le_refl _) _)⟩
  all_goals (have hk := HK.out; have : stHead k n t s m m1 m2 = false := (by unfold stHead; rcases hk with h | h <;> simp <;> omega))
  all_goals simp [this]

end Go.Proofs.YtapdgeajbnbdjaaDoor
