/- show.typ, slot, slots, expr. -/
import Derived.Test.YtapdgeajbnbdjaaDoorOf
namespace Go.Proofs.YtapdgeajbnbdjaaDoor
open Go.RowKit

def isType (l : List UInt8) : Bool := l == [105, 110, 116] || (l == [105, 110, 116, 91, 93] || isName l)

set_option maxHeartbeats 400000 in
theorem typ_any (s : ByteArray) (w : World) (he : Env w) (hs : s.size ≤ maxLen) :
    Calls Tryd.prog 65 #[.string s] w fun e w' => e = .returned (.bool (isType s.data.toList)) ∧ w' = w := by
  have hd : isType s.data.toList = (s.toList == [105, 110, 116] || (s.toList == [105, 110, 116, 91, 93] || isName s.data.toList)) := by rw [ba_toList]; rfl
  cases h1 : (s.toList == [105, 110, 116])
  · cases h2 : (s.toList == [105, 110, 116, 91, 93])
    · rw [h1, h2] at hd
      go_enter Tryd.func65, Tryd.ntmps65
      have Hd := Lib.hid hd; clear hd
      go_wp2_with (first
        | (go_at_call 33; refine (isName_any _ _ he hs).mono ?_; rintro e w' ⟨rfl, rfl⟩))
      go_ret
      exact ⟨ret_bool (by rw [Hd.out]; simp), rfl⟩
    · rw [h1, h2] at hd
      go_enter Tryd.func65, Tryd.ntmps65
      have Hd := Lib.hid hd; clear hd
      go_wp2_with fail
      go_ret
      exact ⟨ret_bool (by rw [Hd.out]; simp), rfl⟩
  · rw [h1] at hd
    go_enter Tryd.func65, Tryd.ntmps65
    have Hd := Lib.hid hd; clear hd
    go_wp2_with fail
    go_ret
    exact ⟨ret_bool (by rw [Hd.out]; simp), rfl⟩

def slotOK (s : Sl) : Bool := isType s.type.data.toList && isName s.name.data.toList

set_option maxHeartbeats 400000 in
theorem slot_any (s : Sl) (w : World) (he : Env w) (h1 : s.type.size ≤ maxLen) (h2 : s.name.size ≤ maxLen) :
    Calls Tryd.prog 35 #[.agg #[.string s.type, .string s.name]] w fun e w' => e = .returned (.bool (slotOK s)) ∧ Below w.heap.size w w' := by
  have hE := fun o => he.below ((Below.refl _ w).alloc (Nat.le_refl _) o) (Nat.le_refl _)
  cases h : isType s.type.data.toList
  all_goals
    have H := Lib.hid h; clear h
    go_enter Tryd.func35, Tryd.ntmps35
    go_wp2_with (first
      | (go_at_call 65; refine (typ_any _ _ (hE _) h1).mono ?_; rw [H.out]; rintro e w' ⟨rfl, rfl⟩)
      | (go_at_call 33; refine (isName_any _ _ (hE _) h2).mono ?_; rintro e w' ⟨rfl, rfl⟩))
    go_ret
    exact ⟨ret_bool (by simp [slotOK, H.out]), (Below.refl _ _).alloc (Nat.le_refl _) _⟩

set_option maxHeartbeats 400000 in
theorem slots_f1 (s : Sl) (w : World) (he : Env w) (h1 : s.type.size ≤ maxLen) (h2 : s.name.size ≤ maxLen) :
    Calls Tryd.prog 64 #[.agg #[.string s.type, .string s.name]] w fun e w' => e = .returned (.bool (!slotOK s)) ∧ Below w.heap.size w w' := by
  have hE := fun o => he.below ((Below.refl _ w).alloc (Nat.le_refl _) o) (Nat.le_refl _)
  go_enter Tryd.func64, Tryd.ntmps64
  go_wp2_with (first
    | (go_at_call 35; refine (slot_any s _ (hE _) h1 h2).mono ?_; rintro e w1 ⟨rfl, hb1⟩))
  go_ret
  exact ⟨rfl, ((Below.refl _ _).alloc (Nat.le_refl _) _).trans (hb1.mono (by simp))⟩

theorem slots_f1_callable : Callable 64 := fun _ _ => by kernel_rfl

theorem any_not {α : Type} (p : α → Bool) (l : List α) : (l.map (fun a => !p a)).any id = !l.all p := by
  induction l with
  | nil => rfl
  | cons a l ih => simp [ih, List.all_cons]

set_option maxHeartbeats 400000 in
theorem slots_any (l : List Sl) (v : Value) (w : World) (he : Env w) (hv : Sls.V w l v) :
    Calls Tryd.prog 34 #[v] w fun e w' => e = .returned (.bool (l.all slotOK)) ∧ Below w.heap.size w w' := by
  obtain ⟨xs, h1, h2⟩ := hv
  have hask : Asks 64 #[] w xs (l.map fun s => !slotOK s) := by
    intro i x b W hx hb hB
    obtain ⟨s, hs, rfl, h3, h4⟩ := h2.at_ i x hx
    rw [List.getElem?_map, hs] at hb
    obtain rfl : (!slotOK s) = b := by simpa using hb
    exact slots_f1 s W (he.below hB (Nat.le_refl _)) h3 h4
  have H := Lib.hid (containsFunc_Slot v xs 64 #[] w _ slots_f1_callable (by simp [h2.len]) h1 hask)
  clear hask h2
  obtain ⟨A, cap, rfl, _⟩ := h1
  go_enter Tryd.func34, Tryd.ntmps34
  go_wp2_with (first
    | (go_at_call 63; refine H.out.mono ?_; rw [any_not]; rintro e w1 ⟨rfl, hb1⟩))
  go_ret
  exact ⟨ret_bool (by simp), hb1⟩
end Go.Proofs.YtapdgeajbnbdjaaDoor
