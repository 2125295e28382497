/- slices.IndexFunc and slices.ContainsFunc at the program's own element types, handed a function that answers a bool and leaves what was there. -/
import Derived.Test.YtapdgeajbnbdjaaDoorData
import Derived.Test.YtapdgeajbnbdjaaDoorLex2
namespace Go.Proofs.YtapdgeajbnbdjaaDoor
open Go.RowKit

/-- where the first true one stands; -1: nowhere -/
def firstTrue : List Bool → Int
  | [] => -1
  | true :: _ => 0
  | false :: l => if firstTrue l = -1 then -1 else firstTrue l + 1

theorem firstTrue_ge (l : List Bool) : -1 ≤ firstTrue l := by
  induction l with
  | nil => decide
  | cons b l ih =>
    cases b
    · simp only [firstTrue]; split <;> omega
    · simp [firstTrue]

theorem firstTrue_eq : ∀ (l : List Bool) (k : Nat), (∀ i, i < k → l[i]? = some false) → l[k]? = some true → firstTrue l = k
  | [], k, _, h => by simp at h
  | b :: l, 0, _, h => by simp at h; subst h; rfl
  | b :: l, k + 1, ha, h => by
    have h0 := ha 0 (by omega)
    simp at h0; subst h0
    have := firstTrue_eq l k (fun i hi => by have := ha (i + 1) (by omega); simpa using this) (by simpa using h)
    simp only [firstTrue, this]
    split <;> omega

theorem firstTrue_none : ∀ (l : List Bool), (∀ i, i < l.length → l[i]? = some false) → firstTrue l = -1
  | [], _ => rfl
  | b :: l, ha => by
    have h0 := ha 0 (by simp)
    simp at h0; subst h0
    have := firstTrue_none l (fun i hi => by have := ha (i + 1) (by simp; omega); simpa using this)
    simp [firstTrue, this]

theorem firstTrue_any (l : List Bool) : decide (0 ≤ firstTrue l) = l.any id := by
  induction l with
  | nil => rfl
  | cons b l ih =>
    cases b
    · have := firstTrue_ge l
      rw [List.any_cons, show (id false || l.any id) = l.any id from rfl, ← ih]
      refine decide_eq_decide.2 ?_
      rw [firstTrue]
      by_cases h : firstTrue l = -1
      · rw [if_pos h, h]
      · rw [if_neg h]; omega
    · simp [firstTrue]

/-- what is asked of a function handed in -/
def Asks (f : FuncId) (cl : Array Value) (w : World) (xs : List (Array Value)) (ps : List Bool) : Prop :=
  ∀ (i : Nat) x b W, xs[i]? = some x → ps[i]? = some b → Below w.heap.size w W → Calls Tryd.prog f (#[.agg x] ++ cl) W fun e W' => e = .returned (.bool b) ∧ Below W.heap.size W W'


set_option maxRecDepth 100000 in
set_option maxHeartbeats 800000 in
theorem indexFunc_Expr (A : Option Addr) (xs : List (Array Value)) (cap : Nat) (f : FuncId) (cl : Array Value) (w : World) (ps : List Bool) (hcal : Callable f) (hl : ps.length = xs.length) (hm : xs.length ≤ maxLen) (hr : Rws w 4 A xs)
    (hp : Asks f cl w xs ps) :
    Calls Tryd.prog 66 #[.slice A xs.length cap, .func (.func f) #[] cl] w fun e w' => e = .returned (.int .i64 (firstTrue ps)) ∧ Below w.heap.size w w' := by
  unfold maxLen at hm
  have hcall : ∀ args w, (callFunc f args).run Tryd.prog w = .ok (.enter f args) w := hcal
  obtain ⟨n, hn⟩ : ∃ n, n = xs.length := ⟨_, rfl⟩
  rw [← hn] at hm ⊢
  go_enter Tryd.func66, Tryd.ntmps66
  have Hn := Lib.hid hn; have Hp := Lib.hid hp; have Hr := Lib.hid hr; have Hl := Lib.hid hl
  clear hn hp hr hl hcal
  go_wp2
  go_loopw [4, 5, 8] (fun _ _ i wr => ∃ k : Nat, k ≤ n ∧ i = .int .i64 k ∧ Below w.heap.size w wr ∧ Hid (∀ j, j < k → ps[j]? = some false)) (fun _ _ i _ => n - (intOf i).toNat)
  case atStart => exact ⟨0, Nat.zero_le _, rfl, Below.refl _ _, fun j h => absurd h (by omega)⟩
  case round =>
    obtain ⟨k, hk, rfl, hb, Hall⟩ := hrel
    by_cases hlt : k < n
    · obtain ⟨x, hx⟩ : ∃ x, xs[k]? = some x := ⟨xs[k]'(by have := Hn.out; omega), List.getElem?_eq_getElem _⟩
      obtain ⟨b, hbk⟩ : ∃ b, ps[k]? = some b := ⟨ps[k]'(by have := Hn.out; have := Hl.out; omega), List.getElem?_eq_getElem _⟩
      obtain ⟨bk, off, c0, c1, c2, c3, rfl, _, rfl, hc0, hc1, hc2, hc3⟩ := (Hr.out.below hb (Nat.le_refl _)).at4 hx
      have HF := Lib.hid (Hp.out k _ b wr hx hbk hb)
      have Hx := Lib.hid hbk
      clear hx hbk
      cases b
      · go_wp2_with (refine (HF.out).mono ?_; rintro e w1 ⟨rfl, hb1⟩)
        go_roundw
        case rel => exact ⟨k + 1, by omega, by go_num, hb.trans (hb1.mono hb.size), fun j hj => by
          by_cases e : j = k
          · subst e; exact Hx.out
          · exact Hall.out j (by omega)⟩
        case measure => simp [intOf]; omega
      · go_wp2_with (refine (HF.out).mono ?_; rintro e w1 ⟨rfl, hb1⟩)
        go_ret
        exact ⟨ret_int (firstTrue_eq ps k Hall.out Hx.out).symm, hb.trans (hb1.mono hb.size)⟩
    · go_wp2_with fail
      go_ret
      exact ⟨ret_int (firstTrue_none ps (fun i hi => Hall.out i (by have := Hn.out; have := Hl.out; omega))).symm, hb⟩


set_option maxHeartbeats 400000 in
theorem containsFunc_Expr (v : Value) (xs : List (Array Value)) (f : FuncId) (cl : Array Value) (w : World) (ps : List Bool) (hcal : Callable f) (hl : ps.length = xs.length) (hv : SlV w 4 v xs)
    (hp : Asks f cl w xs ps) :
    Calls Tryd.prog 37 #[v, .func (.func f) #[] cl] w fun e w' => e = .returned (.bool (ps.any id)) ∧ Below w.heap.size w w' := by
  obtain ⟨A, cap, rfl, h1, h2, _, hr⟩ := hv
  have H := Lib.hid (indexFunc_Expr A xs cap f cl w ps hcal hl (by omega) hr hp)
  rw [← firstTrue_any]
  clear hr hp hl hcal
  go_enter Tryd.func37, Tryd.ntmps37
  go_wp2_with (go_at_call 66; refine (H.out).mono ?_; rintro e w1 ⟨rfl, hb1⟩)
  go_ret
  exact ⟨rfl, hb1⟩


set_option maxRecDepth 100000 in
set_option maxHeartbeats 800000 in
theorem indexFunc_Stmt (A : Option Addr) (xs : List (Array Value)) (cap : Nat) (f : FuncId) (cl : Array Value) (w : World) (ps : List Bool) (hcal : Callable f) (hl : ps.length = xs.length) (hm : xs.length ≤ maxLen) (hr : Rws w 7 A xs)
    (hp : Asks f cl w xs ps) :
    Calls Tryd.prog 79 #[.slice A xs.length cap, .func (.func f) #[] cl] w fun e w' => e = .returned (.int .i64 (firstTrue ps)) ∧ Below w.heap.size w w' := by
  unfold maxLen at hm
  have hcall : ∀ args w, (callFunc f args).run Tryd.prog w = .ok (.enter f args) w := hcal
  obtain ⟨n, hn⟩ : ∃ n, n = xs.length := ⟨_, rfl⟩
  rw [← hn] at hm ⊢
  go_enter Tryd.func79, Tryd.ntmps79
  have Hn := Lib.hid hn; have Hp := Lib.hid hp; have Hr := Lib.hid hr; have Hl := Lib.hid hl
  clear hn hp hr hl hcal
  go_wp2
  go_loopw [4, 5, 8] (fun _ _ i wr => ∃ k : Nat, k ≤ n ∧ i = .int .i64 k ∧ Below w.heap.size w wr ∧ Hid (∀ j, j < k → ps[j]? = some false)) (fun _ _ i _ => n - (intOf i).toNat)
  case atStart => exact ⟨0, Nat.zero_le _, rfl, Below.refl _ _, fun j h => absurd h (by omega)⟩
  case round =>
    obtain ⟨k, hk, rfl, hb, Hall⟩ := hrel
    by_cases hlt : k < n
    · obtain ⟨x, hx⟩ : ∃ x, xs[k]? = some x := ⟨xs[k]'(by have := Hn.out; omega), List.getElem?_eq_getElem _⟩
      obtain ⟨b, hbk⟩ : ∃ b, ps[k]? = some b := ⟨ps[k]'(by have := Hn.out; have := Hl.out; omega), List.getElem?_eq_getElem _⟩
      obtain ⟨bk, off, c0, c1, c2, c3, c4, c5, c6, rfl, _, rfl, hc0, hc1, hc2, hc3, hc4, hc5, hc6⟩ := (Hr.out.below hb (Nat.le_refl _)).at7 hx
      have HF := Lib.hid (Hp.out k _ b wr hx hbk hb)
      have Hx := Lib.hid hbk
      clear hx hbk
      cases b
      · go_wp2_with (refine (HF.out).mono ?_; rintro e w1 ⟨rfl, hb1⟩)
        go_roundw
        case rel => exact ⟨k + 1, by omega, by go_num, hb.trans (hb1.mono hb.size), fun j hj => by
          by_cases e : j = k
          · subst e; exact Hx.out
          · exact Hall.out j (by omega)⟩
        case measure => simp [intOf]; omega
      · go_wp2_with (refine (HF.out).mono ?_; rintro e w1 ⟨rfl, hb1⟩)
        go_ret
        exact ⟨ret_int (firstTrue_eq ps k Hall.out Hx.out).symm, hb.trans (hb1.mono hb.size)⟩
    · go_wp2_with fail
      go_ret
      exact ⟨ret_int (firstTrue_none ps (fun i hi => Hall.out i (by have := Hn.out; have := Hl.out; omega))).symm, hb⟩


set_option maxHeartbeats 400000 in
theorem containsFunc_Stmt (v : Value) (xs : List (Array Value)) (f : FuncId) (cl : Array Value) (w : World) (ps : List Bool) (hcal : Callable f) (hl : ps.length = xs.length) (hv : SlV w 7 v xs)
    (hp : Asks f cl w xs ps) :
    Calls Tryd.prog 56 #[v, .func (.func f) #[] cl] w fun e w' => e = .returned (.bool (ps.any id)) ∧ Below w.heap.size w w' := by
  obtain ⟨A, cap, rfl, h1, h2, _, hr⟩ := hv
  have H := Lib.hid (indexFunc_Stmt A xs cap f cl w ps hcal hl (by omega) hr hp)
  rw [← firstTrue_any]
  clear hr hp hl hcal
  go_enter Tryd.func56, Tryd.ntmps56
  go_wp2_with (go_at_call 79; refine (H.out).mono ?_; rintro e w1 ⟨rfl, hb1⟩)
  go_ret
  exact ⟨rfl, hb1⟩


set_option maxRecDepth 100000 in
set_option maxHeartbeats 800000 in
theorem indexFunc_Slot (A : Option Addr) (xs : List (Array Value)) (cap : Nat) (f : FuncId) (cl : Array Value) (w : World) (ps : List Bool) (hcal : Callable f) (hl : ps.length = xs.length) (hm : xs.length ≤ maxLen) (hr : Rws w 2 A xs)
    (hp : Asks f cl w xs ps) :
    Calls Tryd.prog 86 #[.slice A xs.length cap, .func (.func f) #[] cl] w fun e w' => e = .returned (.int .i64 (firstTrue ps)) ∧ Below w.heap.size w w' := by
  unfold maxLen at hm
  have hcall : ∀ args w, (callFunc f args).run Tryd.prog w = .ok (.enter f args) w := hcal
  obtain ⟨n, hn⟩ : ∃ n, n = xs.length := ⟨_, rfl⟩
  rw [← hn] at hm ⊢
  go_enter Tryd.func86, Tryd.ntmps86
  have Hn := Lib.hid hn; have Hp := Lib.hid hp; have Hr := Lib.hid hr; have Hl := Lib.hid hl
  clear hn hp hr hl hcal
  go_wp2
  go_loopw [4, 5, 8] (fun _ _ i wr => ∃ k : Nat, k ≤ n ∧ i = .int .i64 k ∧ Below w.heap.size w wr ∧ Hid (∀ j, j < k → ps[j]? = some false)) (fun _ _ i _ => n - (intOf i).toNat)
  case atStart => exact ⟨0, Nat.zero_le _, rfl, Below.refl _ _, fun j h => absurd h (by omega)⟩
  case round =>
    obtain ⟨k, hk, rfl, hb, Hall⟩ := hrel
    by_cases hlt : k < n
    · obtain ⟨x, hx⟩ : ∃ x, xs[k]? = some x := ⟨xs[k]'(by have := Hn.out; omega), List.getElem?_eq_getElem _⟩
      obtain ⟨b, hbk⟩ : ∃ b, ps[k]? = some b := ⟨ps[k]'(by have := Hn.out; have := Hl.out; omega), List.getElem?_eq_getElem _⟩
      obtain ⟨bk, off, c0, c1, rfl, _, rfl, hc0, hc1⟩ := (Hr.out.below hb (Nat.le_refl _)).at2 hx
      have HF := Lib.hid (Hp.out k _ b wr hx hbk hb)
      have Hx := Lib.hid hbk
      clear hx hbk
      cases b
      · go_wp2_with (refine (HF.out).mono ?_; rintro e w1 ⟨rfl, hb1⟩)
        go_roundw
        case rel => exact ⟨k + 1, by omega, by go_num, hb.trans (hb1.mono hb.size), fun j hj => by
          by_cases e : j = k
          · subst e; exact Hx.out
          · exact Hall.out j (by omega)⟩
        case measure => simp [intOf]; omega
      · go_wp2_with (refine (HF.out).mono ?_; rintro e w1 ⟨rfl, hb1⟩)
        go_ret
        exact ⟨ret_int (firstTrue_eq ps k Hall.out Hx.out).symm, hb.trans (hb1.mono hb.size)⟩
    · go_wp2_with fail
      go_ret
      exact ⟨ret_int (firstTrue_none ps (fun i hi => Hall.out i (by have := Hn.out; have := Hl.out; omega))).symm, hb⟩


set_option maxHeartbeats 400000 in
theorem containsFunc_Slot (v : Value) (xs : List (Array Value)) (f : FuncId) (cl : Array Value) (w : World) (ps : List Bool) (hcal : Callable f) (hl : ps.length = xs.length) (hv : SlV w 2 v xs)
    (hp : Asks f cl w xs ps) :
    Calls Tryd.prog 63 #[v, .func (.func f) #[] cl] w fun e w' => e = .returned (.bool (ps.any id)) ∧ Below w.heap.size w w' := by
  obtain ⟨A, cap, rfl, h1, h2, _, hr⟩ := hv
  have H := Lib.hid (indexFunc_Slot A xs cap f cl w ps hcal hl (by omega) hr hp)
  rw [← firstTrue_any]
  clear hr hp hl hcal
  go_enter Tryd.func63, Tryd.ntmps63
  go_wp2_with (go_at_call 86; refine (H.out).mono ?_; rintro e w1 ⟨rfl, hb1⟩)
  go_ret
  exact ⟨rfl, hb1⟩









end Go.Proofs.YtapdgeajbnbdjaaDoor
