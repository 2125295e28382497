/- ref03.exprs, shape. (gen_ref3.py) -/
import Derived.Test.YtapdgeajbnbdjaaDoorRef2
import Derived.Test.YtapdgeajbnbdjaaDoorShow4
namespace Go.Proofs.YtapdgeajbnbdjaaDoor
open Go.RowKit

def exLo (k : Int) : Int := if k = 1 then 0 else if k = 2 then 2 else if 3 ≤ k ∧ k ≤ 7 then 1 else -1
def exHi (k : Int) : Int := if k = 1 then 1 else if k = 2 then 2 else if 3 ≤ k ∧ k ≤ 7 then 1 else -1

set_option maxHeartbeats 1000000 in
theorem rexprs_any (k : Int) (w : World) :
    Calls Tryd.prog 94 #[.int .i64 k] w fun e w' => e = .returned (.tuple #[.int .i64 (exLo k), .int .i64 (exHi k)]) ∧ w = w' := by
  by_cases h : 1 ≤ k ∧ k ≤ 7
  · have hk : k = 1 ∨ k = 2 ∨ k = 3 ∨ k = 4 ∨ k = 5 ∨ k = 6 ∨ k = 7 := by omega
    rcases hk with rfl | rfl | rfl | rfl | rfl | rfl | rfl
    all_goals
      go_enter Tryd.func94, Tryd.ntmps94
      go_wp2
      go_ret2
      exact ⟨rfl, rfl⟩
  · have h2 : exLo k = -1 ∧ exHi k = -1 := by
      unfold exLo exHi
      constructor <;> (repeat rw [if_neg (by omega)])
    rw [h2.1, h2.2]
    clear h2
    have e1 : (k == 1) = false := by simp; omega
    have e2 : (k == 2) = false := by simp; omega
    have e3 : (k == 3) = false := by simp; omega
    have e4 : (k == 4) = false := by simp; omega
    have e5 : (k == 5) = false := by simp; omega
    have e6 : (k == 6) = false := by simp; omega
    have e7 : (k == 7) = false := by simp; omega
    clear h
    go_enter Tryd.func94, Tryd.ntmps94
    go_wp2
    go_ret2
    exact ⟨rfl, rfl⟩

set_option maxRecDepth 100000 in
set_option maxHeartbeats 4000000 in
theorem shape_1 (n : Int) (t s : ByteArray) (A0 A1 A2 : Option Addr) (m cap0 m1 cap1 m2 cap2 : Nat) (w : World) (ht : t.size ≤ maxLen) (hs : s.size ≤ maxLen) (hm : m ≤ 2000000) (hm1 : m1 ≤ 2000000) (hm2 : m2 ≤ 2000000) :
    Calls Tryd.prog 78 #[.agg #[.int .i64 1, .int .i64 n, .string t, .string s, .slice A0 m cap0, .slice A1 m1 cap1, .slice A2 m2 cap2]] w fun e w' => e = .returned (.bool (stHead 1 n t s m m1 m2)) ∧ Below w.heap.size w w' := by
  have HX : Hid (∀ W, Calls Tryd.prog 94 #[.int .i64 1] W fun e w' => e = .returned (.tuple #[.int .i64 0, .int .i64 1]) ∧ W = w') := Lib.hid fun W => by
    exact rexprs_any 1 W
  have hsl : slotOK ⟨t, s⟩ = (isType t.data.toList && isName s.data.toList) := rfl
  cases h1 : isType t.data.toList
  all_goals cases h2 : isName s.data.toList
  all_goals (rw [h1, h2] at hsl; have H1 := Lib.hid h1; have H2 := Lib.hid h2; have HS := Lib.hid hsl; clear h1 h2 hsl)
  all_goals go_enter Tryd.func78, Tryd.ntmps78
  all_goals go_wp2_with (first
    | (go_at_call 94; refine (HX.out _).mono ?_; rintro e w1 ⟨rfl, rfl⟩)
    | (go_at_call 53; refine (refType_any t _ ht).mono ?_; rw [H1.out]; rintro e w2 ⟨rfl, rfl⟩)
    | (go_at_call 44; refine (risName_any s _ hs).mono ?_; rw [H2.out]; rintro e w3 ⟨rfl, rfl⟩))
  all_goals go_ret
  all_goals refine ⟨ret_bool ?_, (Below.refl _ w).alloc (Nat.le_refl _) _⟩
  all_goals (have hs9 := HS.out; clear HX HS)
  all_goals (unfold stHead manyOf; simp_all)
  all_goals first | omega | (rw [Bool.eq_iff_iff]; simp; omega)

set_option maxRecDepth 100000 in
set_option maxHeartbeats 4000000 in
theorem shape_2 (n : Int) (t s : ByteArray) (A0 A1 A2 : Option Addr) (m cap0 m1 cap1 m2 cap2 : Nat) (w : World) (ht : t.size ≤ maxLen) (hs : s.size ≤ maxLen) (hm : m ≤ 2000000) (hm1 : m1 ≤ 2000000) (hm2 : m2 ≤ 2000000) :
    Calls Tryd.prog 78 #[.agg #[.int .i64 2, .int .i64 n, .string t, .string s, .slice A0 m cap0, .slice A1 m1 cap1, .slice A2 m2 cap2]] w fun e w' => e = .returned (.bool (stHead 2 n t s m m1 m2)) ∧ Below w.heap.size w w' := by
  have HX : Hid (∀ W, Calls Tryd.prog 94 #[.int .i64 2] W fun e w' => e = .returned (.tuple #[.int .i64 2, .int .i64 2]) ∧ W = w') := Lib.hid fun W => by
    exact rexprs_any 2 W
  have hall : (t.toList = [] ∧ s.toList = [] ∧ Hid ((t ++ s).toList.isEmpty = true)) ∨ (t.toList = [] ∧ ¬ s.toList = [] ∧ Hid ((t ++ s).toList.isEmpty = false)) ∨ (¬ t.toList = [] ∧ Hid ((t ++ s).toList.isEmpty = false)) := by
    have e : (t ++ s).toList = t.toList ++ s.toList := by rw [ba_toList, ba_toList, ba_toList]; simp
    unfold Hid
    rw [e]
    cases h1 : t.toList <;> cases h2 : s.toList <;> simp
  rcases hall with ⟨g1, g2, HS⟩ | ⟨g1, g2, HS⟩ | ⟨g1, HS⟩
  all_goals go_enter Tryd.func78, Tryd.ntmps78
  all_goals go_wp2_with (first
    | (go_at_call 94; refine (HX.out _).mono ?_; rintro e w1 ⟨rfl, rfl⟩))
  all_goals go_ret
  all_goals refine ⟨ret_bool ?_, (Below.refl _ w).alloc (Nat.le_refl _) _⟩
  all_goals (have hs9 := HS.out; clear HX HS)
  all_goals (unfold stHead manyOf; simp_all)
  all_goals first | omega | (rw [Bool.eq_iff_iff]; simp; omega)

set_option maxRecDepth 100000 in
set_option maxHeartbeats 4000000 in
theorem shape_3 (n : Int) (t s : ByteArray) (A0 A1 A2 : Option Addr) (m cap0 m1 cap1 m2 cap2 : Nat) (w : World) (ht : t.size ≤ maxLen) (hs : s.size ≤ maxLen) (hm : m ≤ 2000000) (hm1 : m1 ≤ 2000000) (hm2 : m2 ≤ 2000000) :
    Calls Tryd.prog 78 #[.agg #[.int .i64 3, .int .i64 n, .string t, .string s, .slice A0 m cap0, .slice A1 m1 cap1, .slice A2 m2 cap2]] w fun e w' => e = .returned (.bool (stHead 3 n t s m m1 m2)) ∧ Below w.heap.size w w' := by
  have HX : Hid (∀ W, Calls Tryd.prog 94 #[.int .i64 3] W fun e w' => e = .returned (.tuple #[.int .i64 1, .int .i64 1]) ∧ W = w') := Lib.hid fun W => by
    exact rexprs_any 3 W
  have hall : (t.toList = [] ∧ s.toList = [] ∧ Hid ((t ++ s).toList.isEmpty = true)) ∨ (t.toList = [] ∧ ¬ s.toList = [] ∧ Hid ((t ++ s).toList.isEmpty = false)) ∨ (¬ t.toList = [] ∧ Hid ((t ++ s).toList.isEmpty = false)) := by
    have e : (t ++ s).toList = t.toList ++ s.toList := by rw [ba_toList, ba_toList, ba_toList]; simp
    unfold Hid
    rw [e]
    cases h1 : t.toList <;> cases h2 : s.toList <;> simp
  rcases hall with ⟨g1, g2, HS⟩ | ⟨g1, g2, HS⟩ | ⟨g1, HS⟩
  all_goals go_enter Tryd.func78, Tryd.ntmps78
  all_goals go_wp2_with (first
    | (go_at_call 94; refine (HX.out _).mono ?_; rintro e w1 ⟨rfl, rfl⟩))
  all_goals go_ret
  all_goals refine ⟨ret_bool ?_, (Below.refl _ w).alloc (Nat.le_refl _) _⟩
  all_goals (have hs9 := HS.out; clear HX HS)
  all_goals (unfold stHead manyOf; simp_all)
  all_goals first | omega | (rw [Bool.eq_iff_iff]; simp; omega)

set_option maxRecDepth 100000 in
set_option maxHeartbeats 4000000 in
theorem shape_4 (n : Int) (t s : ByteArray) (A0 A1 A2 : Option Addr) (m cap0 m1 cap1 m2 cap2 : Nat) (w : World) (ht : t.size ≤ maxLen) (hs : s.size ≤ maxLen) (hm : m ≤ 2000000) (hm1 : m1 ≤ 2000000) (hm2 : m2 ≤ 2000000) :
    Calls Tryd.prog 78 #[.agg #[.int .i64 4, .int .i64 n, .string t, .string s, .slice A0 m cap0, .slice A1 m1 cap1, .slice A2 m2 cap2]] w fun e w' => e = .returned (.bool (stHead 4 n t s m m1 m2)) ∧ Below w.heap.size w w' := by
  have HX : Hid (∀ W, Calls Tryd.prog 94 #[.int .i64 4] W fun e w' => e = .returned (.tuple #[.int .i64 1, .int .i64 1]) ∧ W = w') := Lib.hid fun W => by
    exact rexprs_any 4 W
  have hall : (t.toList = [] ∧ s.toList = [] ∧ Hid ((t ++ s).toList.isEmpty = true)) ∨ (t.toList = [] ∧ ¬ s.toList = [] ∧ Hid ((t ++ s).toList.isEmpty = false)) ∨ (¬ t.toList = [] ∧ Hid ((t ++ s).toList.isEmpty = false)) := by
    have e : (t ++ s).toList = t.toList ++ s.toList := by rw [ba_toList, ba_toList, ba_toList]; simp
    unfold Hid
    rw [e]
    cases h1 : t.toList <;> cases h2 : s.toList <;> simp
  rcases hall with ⟨g1, g2, HS⟩ | ⟨g1, g2, HS⟩ | ⟨g1, HS⟩
  all_goals go_enter Tryd.func78, Tryd.ntmps78
  all_goals go_wp2_with (first
    | (go_at_call 94; refine (HX.out _).mono ?_; rintro e w1 ⟨rfl, rfl⟩))
  all_goals go_ret
  all_goals refine ⟨ret_bool ?_, (Below.refl _ w).alloc (Nat.le_refl _) _⟩
  all_goals (have hs9 := HS.out; clear HX HS)
  all_goals (unfold stHead manyOf; simp_all)
  all_goals first | omega | (rw [Bool.eq_iff_iff]; simp; omega)

set_option maxRecDepth 100000 in
set_option maxHeartbeats 4000000 in
theorem shape_5 (n : Int) (t s : ByteArray) (A0 A1 A2 : Option Addr) (m cap0 m1 cap1 m2 cap2 : Nat) (w : World) (ht : t.size ≤ maxLen) (hs : s.size ≤ maxLen) (hm : m ≤ 2000000) (hm1 : m1 ≤ 2000000) (hm2 : m2 ≤ 2000000) :
    Calls Tryd.prog 78 #[.agg #[.int .i64 5, .int .i64 n, .string t, .string s, .slice A0 m cap0, .slice A1 m1 cap1, .slice A2 m2 cap2]] w fun e w' => e = .returned (.bool (stHead 5 n t s m m1 m2)) ∧ Below w.heap.size w w' := by
  have HX : Hid (∀ W, Calls Tryd.prog 94 #[.int .i64 5] W fun e w' => e = .returned (.tuple #[.int .i64 1, .int .i64 1]) ∧ W = w') := Lib.hid fun W => by
    exact rexprs_any 5 W
  have hall : (t.toList = [] ∧ s.toList = [] ∧ Hid ((t ++ s).toList.isEmpty = true)) ∨ (t.toList = [] ∧ ¬ s.toList = [] ∧ Hid ((t ++ s).toList.isEmpty = false)) ∨ (¬ t.toList = [] ∧ Hid ((t ++ s).toList.isEmpty = false)) := by
    have e : (t ++ s).toList = t.toList ++ s.toList := by rw [ba_toList, ba_toList, ba_toList]; simp
    unfold Hid
    rw [e]
    cases h1 : t.toList <;> cases h2 : s.toList <;> simp
  rcases hall with ⟨g1, g2, HS⟩ | ⟨g1, g2, HS⟩ | ⟨g1, HS⟩
  all_goals go_enter Tryd.func78, Tryd.ntmps78
  all_goals go_wp2_with (first
    | (go_at_call 94; refine (HX.out _).mono ?_; rintro e w1 ⟨rfl, rfl⟩))
  all_goals go_ret
  all_goals refine ⟨ret_bool ?_, (Below.refl _ w).alloc (Nat.le_refl _) _⟩
  all_goals (have hs9 := HS.out; clear HX HS)
  all_goals (unfold stHead manyOf; simp_all)
  all_goals first | omega | (rw [Bool.eq_iff_iff]; simp; omega)

set_option maxRecDepth 100000 in
set_option maxHeartbeats 4000000 in
theorem shape_6 (n : Int) (t s : ByteArray) (A0 A1 A2 : Option Addr) (m cap0 m1 cap1 m2 cap2 : Nat) (w : World) (ht : t.size ≤ maxLen) (hs : s.size ≤ maxLen) (hm : m ≤ 2000000) (hm1 : m1 ≤ 2000000) (hm2 : m2 ≤ 2000000) :
    Calls Tryd.prog 78 #[.agg #[.int .i64 6, .int .i64 n, .string t, .string s, .slice A0 m cap0, .slice A1 m1 cap1, .slice A2 m2 cap2]] w fun e w' => e = .returned (.bool (stHead 6 n t s m m1 m2)) ∧ Below w.heap.size w w' := by
  have HX : Hid (∀ W, Calls Tryd.prog 94 #[.int .i64 6] W fun e w' => e = .returned (.tuple #[.int .i64 1, .int .i64 1]) ∧ W = w') := Lib.hid fun W => by
    exact rexprs_any 6 W
  have hall : (t.toList = [] ∧ s.toList = [] ∧ Hid ((t ++ s).toList.isEmpty = true)) ∨ (t.toList = [] ∧ ¬ s.toList = [] ∧ Hid ((t ++ s).toList.isEmpty = false)) ∨ (¬ t.toList = [] ∧ Hid ((t ++ s).toList.isEmpty = false)) := by
    have e : (t ++ s).toList = t.toList ++ s.toList := by rw [ba_toList, ba_toList, ba_toList]; simp
    unfold Hid
    rw [e]
    cases h1 : t.toList <;> cases h2 : s.toList <;> simp
  rcases hall with ⟨g1, g2, HS⟩ | ⟨g1, g2, HS⟩ | ⟨g1, HS⟩
  all_goals go_enter Tryd.func78, Tryd.ntmps78
  all_goals go_wp2_with (first
    | (go_at_call 94; refine (HX.out _).mono ?_; rintro e w1 ⟨rfl, rfl⟩))
  all_goals go_ret
  all_goals refine ⟨ret_bool ?_, (Below.refl _ w).alloc (Nat.le_refl _) _⟩
  all_goals (have hs9 := HS.out; clear HX HS)
  all_goals (unfold stHead manyOf; simp_all)
  all_goals first | omega | (rw [Bool.eq_iff_iff]; simp; omega)

set_option maxRecDepth 100000 in
set_option maxHeartbeats 4000000 in
theorem shape_7 (n : Int) (t s : ByteArray) (A0 A1 A2 : Option Addr) (m cap0 m1 cap1 m2 cap2 : Nat) (w : World) (ht : t.size ≤ maxLen) (hs : s.size ≤ maxLen) (hm : m ≤ 2000000) (hm1 : m1 ≤ 2000000) (hm2 : m2 ≤ 2000000) :
    Calls Tryd.prog 78 #[.agg #[.int .i64 7, .int .i64 n, .string t, .string s, .slice A0 m cap0, .slice A1 m1 cap1, .slice A2 m2 cap2]] w fun e w' => e = .returned (.bool (stHead 7 n t s m m1 m2)) ∧ Below w.heap.size w w' := by
  have HX : Hid (∀ W, Calls Tryd.prog 94 #[.int .i64 7] W fun e w' => e = .returned (.tuple #[.int .i64 1, .int .i64 1]) ∧ W = w') := Lib.hid fun W => by
    exact rexprs_any 7 W
  have hall : (t.toList = [] ∧ s.toList = [] ∧ Hid ((t ++ s).toList.isEmpty = true)) ∨ (t.toList = [] ∧ ¬ s.toList = [] ∧ Hid ((t ++ s).toList.isEmpty = false)) ∨ (¬ t.toList = [] ∧ Hid ((t ++ s).toList.isEmpty = false)) := by
    have e : (t ++ s).toList = t.toList ++ s.toList := by rw [ba_toList, ba_toList, ba_toList]; simp
    unfold Hid
    rw [e]
    cases h1 : t.toList <;> cases h2 : s.toList <;> simp
  rcases hall with ⟨g1, g2, HS⟩ | ⟨g1, g2, HS⟩ | ⟨g1, HS⟩
  all_goals go_enter Tryd.func78, Tryd.ntmps78
  all_goals go_wp2_with (first
    | (go_at_call 94; refine (HX.out _).mono ?_; rintro e w1 ⟨rfl, rfl⟩))
  all_goals go_ret
  all_goals refine ⟨ret_bool ?_, (Below.refl _ w).alloc (Nat.le_refl _) _⟩
  all_goals (have hs9 := HS.out; clear HX HS)
  all_goals (unfold stHead manyOf; simp_all)
  all_goals first | omega | (rw [Bool.eq_iff_iff]; simp; omega)

set_option maxRecDepth 100000 in
set_option maxHeartbeats 4000000 in
theorem shape_x (k : Int) (hk : k < 1 ∨ 7 < k) (n : Int) (t s : ByteArray) (A0 A1 A2 : Option Addr) (m cap0 m1 cap1 m2 cap2 : Nat) (w : World) (ht : t.size ≤ maxLen) (hs : s.size ≤ maxLen) (hm : m ≤ 2000000) (hm1 : m1 ≤ 2000000) (hm2 : m2 ≤ 2000000) :
    Calls Tryd.prog 78 #[.agg #[.int .i64 k, .int .i64 n, .string t, .string s, .slice A0 m cap0, .slice A1 m1 cap1, .slice A2 m2 cap2]] w fun e w' => e = .returned (.bool (stHead k n t s m m1 m2)) ∧ Below w.heap.size w w' := by
  have HX : Hid (∀ W, Calls Tryd.prog 94 #[.int .i64 k] W fun e w' => e = .returned (.tuple #[.int .i64 (-1), .int .i64 (-1)]) ∧ W = w') := Lib.hid fun W => by
    have h := rexprs_any k W
    have h2 : exLo k = -1 ∧ exHi k = -1 := by
      unfold exLo exHi
      constructor <;> (repeat rw [if_neg (by omega)])
    rw [h2.1, h2.2] at h; exact h
  have hf : stHead k n t s m m1 m2 = false := by unfold stHead; rcases hk with h | h <;> simp <;> omega
  rw [hf]; clear hf hk
  go_enter Tryd.func78, Tryd.ntmps78
  go_wp2_with (first
    | (go_at_call 94; refine (HX.out _).mono ?_; rintro e w1 ⟨rfl, rfl⟩))
  all_goals go_ret
  all_goals exact ⟨rfl, (Below.refl _ w).alloc (Nat.le_refl _) _⟩

end Go.Proofs.YtapdgeajbnbdjaaDoor
