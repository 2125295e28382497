/- ref01.Text and what it calls; ref03.level, sign. -/
import Derived.Test.YtapdgeajbnbdjaaDoorPage8
import Derived.Lib.SlBytesRow
namespace Go.Proofs.YtapdgeajbnbdjaaDoor
open Go.RowKit

theorem ofNat48 (d : Nat) : UInt8.ofNat (48 + d) = 48 + UInt8.ofNat d := by rw [UInt8.ofNat_add]; rfl
theorem ba_app (a b : List UInt8) : (⟨a.toArray⟩ : ByteArray) ++ ⟨b.toArray⟩ = ⟨(a ++ b).toArray⟩ := by
  apply ByteArray.ext
  simp

theorem conv_one (d : Nat) (hd : d < 10) (w : World) (z : Int) (hz : z = 48 + (d : Int)) :
    (convert 43 9 (.slice (some ⟨w.heap.size, 0, none⟩) 1 1)).run Tryd.prog (w.alloc (.cells #[.int .u8 z] 5)) = .ok (.string ⟨#[UInt8.ofNat (48 + d)]⟩) (w.alloc (.cells #[.int .u8 z] 5)) := by
  refine Lib.run_convert_whole _ 43 5 9 Tryd.underlying43 Tryd.underlying5 Tryd.underlying9 w.heap.size 0 ⟨#[UInt8.ofNat (48 + d)]⟩ ?_ 1
  intro i hi
  have hi0 : i = 0 := by
    have : i < 1 := hi
    omega
  subst hi0
  have hv : (UInt8.ofNat (48 + d)).toNat = 48 + d := by
    simp
    omega
  have : ((⟨#[UInt8.ofNat (48 + d)]⟩ : ByteArray)[0]'hi) = UInt8.ofNat (48 + d) := rfl
  rw [this, hv, hz]
  simp

set_option maxRecDepth 100000 in
theorem digits_any (b : Nat) : ∀ (u : Nat), u < b → u < 18446744073709551616 → ∀ w : World, Calls Tryd.prog 71 #[.int .u64 u] w (Ret w (.string ⟨(Lib.decDigits u).toArray⟩)) := by
  induction b with
  | zero => intro u h; omega
  | succ b ih =>
    intro u hb hu w
    by_cases h10 : u < 10
    · rw [Lib.decDigits_one h10]
      have hc := conv_one u h10 w (48 + (u : Int) % 10) (by omega)
      go_enter Tryd.func71, Tryd.ntmps71
      go_wp2
      go_ret
      exact ⟨ret_str (by rw [ofNat48]), (Below.refl _ w).alloc (Nat.le_refl _) _⟩
    · rw [Lib.decDigits, dif_neg h10]
      have hl := decDigits_len 19 (u / 10) (by have : (10 : Nat) ^ (19 + 1) = 100000000000000000000 := by decide
                                               omega)
      have hl2 : ¬ 9223372036854775807 < (Lib.decDigits (u / 10)).length + 1 := by omega
      have IH := fun w => Lib.hid (ih (u / 10) (by omega) (by omega) w)
      have hc := conv_one (u % 10) (by omega) w (48 + (u : Int) % 10) (by omega)
      clear ih
      go_enter Tryd.func71, Tryd.ntmps71
      go_wp2_with fail
      refine (Calls.mono (IH _).out ?_); rintro e w1 ⟨rfl, hb1⟩
      go_wp2_with fail
      go_ret
      refine ⟨ret_str ?_, ((Below.refl _ w).alloc (Nat.le_refl _) _).trans (hb1.mono (by simp))⟩
      rw [ofNat48]
      exact ba_app _ _

theorem lt64 (n : Int) (h : I64 n) : 0 ≤ n → n.toNat < 18446744073709551616 := by
  obtain ⟨h0, h1⟩ := h
  intro h
  omega

set_option maxRecDepth 100000 in
theorem size_any (n : Int) (hn : I64 n) (w : World) : Calls Tryd.prog 72 #[.int .i64 n] w (fun e w' => e = .returned (.int .u64 (n.natAbs : Int)) ∧ w' = w) := by
  obtain ⟨h0, h1⟩ := hn
  by_cases hneg : n < 0
  · have : (n.natAbs : Int) = -n := by omega
    rw [this]
    clear this
    go_enter Tryd.func72, Tryd.ntmps72
    go_wp2
    go_ret
    exact ⟨ret_int (by omega), rfl⟩
  · have : (n.natAbs : Int) = n := by omega
    rw [this]
    clear this
    go_enter Tryd.func72, Tryd.ntmps72
    go_wp2
    go_ret
    exact ⟨ret_int (by omega), rfl⟩
set_option maxRecDepth 100000 in
theorem refText_any (n : Int) (hn : I64 n) (w : World) : Calls Tryd.prog 45 #[.int .i64 n] w (Ret w (.string ⟨(Lib.itoa n).toArray⟩)) := by
  have HD := fun w => Lib.hid (digits_any (n.natAbs + 1) n.natAbs (Nat.lt_succ_self _) (by obtain ⟨h0, h1⟩ := hn; omega) w)
  have HS := fun w => Lib.hid (size_any n hn w)
  obtain ⟨h0, h1⟩ := hn
  have hl := decDigits_len 19 n.natAbs (by have : (10 : Nat) ^ (19 + 1) = 100000000000000000000 := by decide
                                           omega)
  have hl2 : ¬ 9223372036854775807 < 1 + (Lib.decDigits n.natAbs).length := by omega
  by_cases hneg : n < 0
  · have hi : Lib.itoa n = 45 :: Lib.decDigits n.natAbs := by unfold Lib.itoa; rw [if_pos hneg]
    rw [hi]; clear hi
    go_enter Tryd.func45, Tryd.ntmps45
    go_wp2_with fail
    refine (HS _).out.mono ?_; rintro e w1 ⟨rfl, rfl⟩
    go_wp2_with fail
    refine Calls.mono (HD _).out ?_; rintro e w1 ⟨rfl, hb⟩
    go_wp2_with fail
    go_ret
    exact ⟨ret_str (by rw [ba_app]; rfl), hb⟩
  · have hi : Lib.itoa n = Lib.decDigits n.natAbs := by unfold Lib.itoa; rw [if_neg hneg]; congr 1; omega
    rw [hi]; clear hi
    go_enter Tryd.func45, Tryd.ntmps45
    go_wp2_with fail
    refine (HS _).out.mono ?_; rintro e w1 ⟨rfl, rfl⟩
    go_wp2_with fail
    refine Calls.mono (HD _).out ?_; rintro e w1 ⟨rfl, hb⟩
    go_wp2_with fail
    go_ret
    exact ⟨rfl, hb⟩
/-- an operator's sign -/
def opSign (k : Int) : List UInt8 := if k = 17 then [60] else if k = 18 then [61, 61] else if k = 13 then [43] else if k = 14 then [45] else if k = 15 then [42] else [47]

set_option maxRecDepth 100000 in
theorem sign_any (k : Int) (w : World) : Calls Tryd.prog 47 #[.int .i64 k] w (fun e w' => e = .returned (.string ⟨(opSign k).toArray⟩) ∧ w' = w) := by
  unfold opSign
  by_cases h17 : k = 17
  · subst h17
    rw [if_pos rfl]
    go_enter Tryd.func47, Tryd.ntmps47
    go_wp2
    go_ret
    exact ⟨rfl, rfl⟩
  by_cases h18 : k = 18
  · subst h18
    rw [if_neg (by decide), if_pos rfl]
    go_enter Tryd.func47, Tryd.ntmps47
    go_wp2
    go_ret
    exact ⟨rfl, rfl⟩
  by_cases h13 : k = 13
  · subst h13
    rw [if_neg (by decide), if_neg (by decide), if_pos rfl]
    go_enter Tryd.func47, Tryd.ntmps47
    go_wp2
    go_ret
    exact ⟨rfl, rfl⟩
  by_cases h14 : k = 14
  · subst h14
    rw [if_neg (by decide), if_neg (by decide), if_neg (by decide), if_pos rfl]
    go_enter Tryd.func47, Tryd.ntmps47
    go_wp2
    go_ret
    exact ⟨rfl, rfl⟩
  by_cases h15 : k = 15
  · subst h15
    rw [if_neg (by decide), if_neg (by decide), if_neg (by decide), if_neg (by decide), if_pos rfl]
    go_enter Tryd.func47, Tryd.ntmps47
    go_wp2
    go_ret
    exact ⟨rfl, rfl⟩
  rw [if_neg h17, if_neg h18, if_neg h13, if_neg h14, if_neg h15]
  go_enter Tryd.func47, Tryd.ntmps47
  go_wp2
  go_ret
  exact ⟨rfl, rfl⟩

set_option maxRecDepth 100000 in
theorem level_any (k : Int) (w : World) : Calls Tryd.prog 73 #[.int .i64 k] w (fun e w' => e = .returned (.int .i64 (shapeOf k).level) ∧ w' = w) := by
  by_cases h : 1 ≤ k ∧ k ≤ 18
  · have hk : k = 1 ∨ k = 2 ∨ k = 3 ∨ k = 4 ∨ k = 5 ∨ k = 6 ∨ k = 7 ∨ k = 8 ∨ k = 9 ∨ k = 10 ∨ k = 11 ∨ k = 12 ∨ k = 13 ∨ k = 14 ∨ k = 15 ∨ k = 16 ∨ k = 17 ∨ k = 18 := by omega
    clear h
    rcases hk with rfl | rfl | rfl | rfl | rfl | rfl | rfl | rfl | rfl | rfl | rfl | rfl | rfl | rfl | rfl | rfl | rfl | rfl
    all_goals
      go_enter Tryd.func73, Tryd.ntmps73
      go_wp2
      go_ret
      exact ⟨ret_int (by simp [shapeOf]), rfl⟩
  · have : (shapeOf k).level = 4 := by
      have : shapeOf k = ⟨0, 0, false, 0, 4, []⟩ := by
        unfold shapeOf
        repeat rw [if_neg (by omega)]
      rw [this]
    rw [this]
    clear this
    have h17 : ¬ k = 17 := by omega
    have h18 : ¬ k = 18 := by omega
    have h13 : ¬ k = 13 := by omega
    have h14 : ¬ k = 14 := by omega
    have h15 : ¬ k = 15 := by omega
    have h16 : ¬ k = 16 := by omega
    clear h
    go_enter Tryd.func73, Tryd.ntmps73
    go_wp2
    go_ret
    exact ⟨rfl, rfl⟩
end Go.Proofs.YtapdgeajbnbdjaaDoor
