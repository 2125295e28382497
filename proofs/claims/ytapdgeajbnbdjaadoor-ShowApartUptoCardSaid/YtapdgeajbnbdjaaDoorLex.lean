/- The walks of layer 2's names: lex.begins, figure, goes, run, IsWord, IsName; the same of the reference. -/
import Derived.Test.YtapdgeajbnbdjaaDoorBase
import Derived.Test.YtapdgeajbnbdjaaDoorPlain
import Derived.Test.YtapdgeajbnbdjaaDoorShelf
import Derived.Lib.LaidTab
import Derived.Lib.ItoaNum
namespace Go.Proofs.YtapdgeajbnbdjaaDoor
open Go.RowKit

/-- what the walks ask of the package-level variables -/
structure Env (w : World) : Prop where
  maxLen : ∃ m : Int, w.cell? ⟨0, 0, none⟩ = some (.int .i64 m)
  size : 4 ≤ w.heap.size
  tab : Lib.TabIs Tryd.prog w "internal/strconv.uint64pow10" .u64 Lib.pow10Tab

theorem powNamed : Tryd.prog.globalNamed "internal/strconv.uint64pow10" = some 1 := by kernel_rfl

theorem Env.below {w w' : World} {B : Nat} (h : Env w) (hb : Below B w w') (hB : w.heap.size ≤ B) : Env w' where
  maxLen := by
    obtain ⟨m, hm⟩ := h.maxLen
    exact ⟨m, (hb.cell (p := ⟨0, 0, none⟩) (Nat.lt_of_lt_of_le (cell_lt hm) hB)).trans hm⟩
  size := Nat.le_trans h.size hb.size
  tab := var?_below hb powNamed (by have := h.size; omega) h.tab

set_option maxHeartbeats 400000 in
theorem begins_any (c : UInt8) (w : World) :
    Calls Tryd.prog 59 #[.int .u8 c.toNat] w fun e w' => e = .returned (.bool (letter c)) ∧ w' = w := by
  have hl := letter_or c
  go_enter Tryd.func59, Tryd.ntmps59
  have Hl := Lib.hid hl; clear hl
  go_wp2
  · have h : 97 ≤ bits BinOp.or IntKind.u8 (c.toNat : Int) 32 := by assumption
    go_ret
    exact ⟨ret_bool (by rw [← Hl.out]; simp [h]), rfl⟩
  · have h : bits BinOp.or IntKind.u8 (c.toNat : Int) 32 < 97 := by assumption
    go_ret
    exact ⟨ret_bool (by rw [← Hl.out]; simp; intro h'; omega), rfl⟩

set_option maxHeartbeats 400000 in
theorem figure_any (c : UInt8) (w : World) :
    Calls Tryd.prog 84 #[.int .u8 c.toNat] w fun e w' => e = .returned (.bool (digit c)) ∧ w' = w := by
  go_enter Tryd.func84, Tryd.ntmps84
  go_wp2
  · have h : (48 : Int) ≤ (c.toNat : Int) := by assumption
    go_ret
    exact ⟨ret_bool (by simp [digit, h]), rfl⟩
  · have h : (c.toNat : Int) < 48 := by assumption
    go_ret
    exact ⟨ret_bool (by simp [digit]; intro h'; omega), rfl⟩

set_option maxHeartbeats 400000 in
theorem goes_any (c : UInt8) (w : World) :
    Calls Tryd.prog 61 #[.int .u8 c.toNat] w fun e w' => e = .returned (.bool (within c)) ∧ w' = w := by
  cases h1 : letter c
  · cases h2 : digit c
    · go_enter Tryd.func61, Tryd.ntmps61
      have H1 := Lib.hid h1; clear h1
      have H2 := Lib.hid h2; clear h2
      go_wp2_with (first
        | (go_at_call 59; refine (begins_any _ _).mono ?_; rw [H1.out]; rintro e w' ⟨rfl, rfl⟩)
        | (go_at_call 84; refine (figure_any _ _).mono ?_; rw [H2.out]; rintro e w' ⟨rfl, rfl⟩))
      go_ret
      exact ⟨ret_bool (by simp [within, H1.out, H2.out]), rfl⟩
    · go_enter Tryd.func61, Tryd.ntmps61
      have H1 := Lib.hid h1; clear h1
      have H2 := Lib.hid h2; clear h2
      go_wp2_with (first
        | (go_at_call 59; refine (begins_any _ _).mono ?_; rw [H1.out]; rintro e w' ⟨rfl, rfl⟩)
        | (go_at_call 84; refine (figure_any _ _).mono ?_; rw [H2.out]; rintro e w' ⟨rfl, rfl⟩))
      go_ret
      exact ⟨ret_bool (by simp [within, H1.out, H2.out]), rfl⟩
  · go_enter Tryd.func61, Tryd.ntmps61
    have H1 := Lib.hid h1; clear h1
    go_wp2_with (first
      | (go_at_call 59; refine (begins_any _ _).mono ?_; rw [H1.out]; rintro e w' ⟨rfl, rfl⟩))
    go_ret
    exact ⟨ret_bool (by simp [within, H1.out]), rfl⟩

/-- a function that can be called by its value -/
def Callable (f : FuncId) : Prop := ∀ args w, (callFunc f args).run Tryd.prog w = .ok (.enter f args) w

theorem goes_callable : Callable 61 := fun _ _ => by kernel_rfl

def lead (p : UInt8 → Bool) (s : ByteArray) : Nat := (s.data.toList.takeWhile p).length

theorem takeWhile_len {p : UInt8 → Bool} : ∀ (l : List UInt8) (k : Nat), k ≤ l.length → (∀ i (h : i < l.length), i < k → p l[i] = true) → (∀ (h : k < l.length), p l[k] = false) → (l.takeWhile p).length = k
  | [], k, hk, _, _ => by simp at hk; subst hk; rfl
  | c :: l, 0, _, _, hn => by
    have := hn (by simp)
    simp at this
    simp [this]
  | c :: l, k + 1, hk, ha, hn => by
    have h0 := ha 0 (by simp) (by omega)
    simp at h0
    simp only [List.takeWhile_cons, h0, if_true, List.length_cons]
    rw [takeWhile_len l k (by simpa using hk) (fun i h hi => by have := ha (i + 1) (by simp; omega) (by omega); simpa using this) (fun h => by have := hn (by simp; omega); simpa using this)]

set_option maxRecDepth 100000 in
set_option maxHeartbeats 400000 in
theorem run_any (s : ByteArray) (f : FuncId) (p : UInt8 → Bool) (w : World) (hs : s.size ≤ maxLen) (hf : Callable f)
    (hp : ∀ (c : UInt8) W, Calls Tryd.prog f #[.int .u8 c.toNat] W fun e w' => e = .returned (.bool (p c)) ∧ w' = W) :
    Calls Tryd.prog 60 #[.string s, .func (.func f) #[] #[]] w fun e w' => e = .returned (.int .i64 (lead p s)) ∧ w' = w := by
  unfold maxLen at hs
  have hcall : ∀ args w, (callFunc f args).run Tryd.prog w = .ok (.enter f args) w := hf
  go_enter Tryd.func60, Tryd.ntmps60
  have Hp := Lib.hid hp; clear hp hf
  go_wp2
  go_loop [5] (fun i => ∃ k : Nat, k ≤ s.size ∧ i = .int .i64 k ∧ Hid (∀ i (h : i < s.data.toList.length), i < k → p s.data.toList[i] = true)) (fun i => s.size - (intOf i).toNat)
  case atStart => exact ⟨0, Nat.zero_le _, rfl, fun i _ h => absurd h (by omega)⟩
  case round =>
    obtain ⟨k, hk, rfl, Hall⟩ := hrel
    by_cases hlt : k < s.size
    · cases hpk : p (s[k]'hlt)
      · have HP := Lib.hid hpk; clear hpk
        go_wp2_with (refine (Hp.out _ _).mono ?_; rw [HP.out]; rintro e w' ⟨rfl, rfl⟩)
        go_ret
        exact ⟨ret_int (by unfold lead; rw [takeWhile_len s.data.toList k (by simpa using hk) Hall.out (fun h => HP.out)]), rfl⟩
      · have HP := Lib.hid hpk; clear hpk
        go_wp2_with (refine (Hp.out _ _).mono ?_; rw [HP.out]; rintro e w' ⟨rfl, rfl⟩)
        go_round
        case rel => exact ⟨k + 1, by omega, by go_num, fun i h hi => by
          by_cases e : i = k
          · subst e; exact HP.out
          · exact Hall.out i h (by omega)⟩
        case measure => simp [intOf]; omega
    · go_wp2_with fail
      go_ret
      exact ⟨ret_int (by unfold lead; rw [takeWhile_len s.data.toList k (by simpa using hk) Hall.out (fun h => absurd h (by simpa using hlt))]), rfl⟩
end Go.Proofs.YtapdgeajbnbdjaaDoor
