/- show.page.done, show.Expr. -/
import Derived.Test.YtapdgeajbnbdjaaDoorPage7
namespace Go.Proofs.YtapdgeajbnbdjaaDoor
open Go.RowKit

/-- what a text is answered with: the text, and 0; or none, and 2, if it is too long -/
def doneS (l : List UInt8) : ByteArray := if l.length > 8192 then ⟨#[]⟩ else ⟨l.toArray⟩
def doneN (l : List UInt8) : Int := if l.length > 8192 then 2 else 0

set_option maxRecDepth 100000 in
theorem done_any (B b : Nat) (l : List UInt8) (t : Int) (w : World) (h : PageAt B b l t w) (h0 : l ≠ []) (hlen : l.length ≤ 140737488355328) :
    Calls Tryd.prog 17 #[.pointer (some ⟨b, 0, none⟩)] w fun e w' => e = .returned (.tuple #[.string (doneS l), .int .i64 (doneN l)]) ∧ Below B w w' := by
  have H := Lib.hid h; clear h
  have H0 := Lib.hid h0; clear h0
  by_cases hl : l.length > 8192
  · have hs : doneS l = ⟨#[]⟩ := if_pos hl
    have hn : doneN l = 2 := if_pos hl
    rw [hs, hn]
    clear hs hn
    go_enter Tryd.func17, Tryd.ntmps17
    go_wp2_with fail
    refine (len_any B b l t _ H.out).mono ?_; rintro e w1 ⟨rfl, rfl⟩
    go_wp2_with fail
    go_ret2
    exact ⟨rfl, Below.refl _ _⟩
  · have hs : doneS l = ⟨l.toArray⟩ := if_neg hl
    have hn : doneN l = 0 := if_neg hl
    rw [hs, hn]
    clear hs hn
    go_enter Tryd.func17, Tryd.ntmps17
    go_wp2_with fail
    refine (len_any B b l t _ H.out).mono ?_; rintro e w1 ⟨rfl, rfl⟩
    go_wp2_with fail
    refine (string_any B b l t _ H.out H0.out).mono ?_; rintro e w1 ⟨rfl, hb⟩
    go_wp2_with fail
    go_ret2
    exact ⟨rfl, hb⟩

theorem pageAt_new {B : Nat} {w : World} (hB : B ≤ w.heap.size) : PageAt B w.heap.size [] 0 (w.alloc (Obj.cells #[.pointer none, .slice none 0 0, .int .i64 0] 47)) :=
  .inl ⟨hB, .slice none 0 0, by simp only [World.alloc]; exact Array.getElem?_push_size, ⟨rfl, .inl ⟨rfl, rfl⟩⟩, by intro h; cases h⟩
theorem level_pos (k : Int) : 1 ≤ (shapeOf k).level := by
  by_cases h : 1 ≤ k ∧ k ≤ 18
  · have hk : k = 1 ∨ k = 2 ∨ k = 3 ∨ k = 4 ∨ k = 5 ∨ k = 6 ∨ k = 7 ∨ k = 8 ∨ k = 9 ∨ k = 10 ∨ k = 11 ∨ k = 12 ∨ k = 13 ∨ k = 14 ∨ k = 15 ∨ k = 16 ∨ k = 17 ∨ k = 18 := by omega
    rcases hk with rfl | rfl | rfl | rfl | rfl | rfl | rfl | rfl | rfl | rfl | rfl | rfl | rfl | rfl | rfl | rfl | rfl | rfl <;> decide
  · have : shapeOf k = ⟨0, 0, false, 0, 4, []⟩ := by
      unfold shapeOf
      repeat rw [if_neg (by omega)]
    rw [this]; decide
theorem itoa_ne (n : Int) : Lib.itoa n ≠ [] := by
  unfold Lib.itoa
  split
  · simp
  · rw [Lib.decDigits]
    split <;> simp
theorem exT_ne : ∀ (e : Ex), exprOK e = true → exT e ≠ []
  | .mk k n s ks, h => by
    rw [exprOK, Bool.and_eq_true] at h
    have hh := h.1
    unfold headOK at hh
    simp only [Bool.and_eq_true, decide_eq_true_iff] at hh
    obtain ⟨hk, hlo, hhi, _, _, hname⟩ := hh
    have hk' : 1 ≤ k ∧ k ≤ 18 := by unfold isKind at hk; simpa using hk
    rw [exT]
    unfold joinT
    by_cases h1 : k = 1
    · rw [if_pos h1]
      exact itoa_ne n
    rw [if_neg h1]
    by_cases h2 : k = 2
    · rw [if_pos h2]; simp
    rw [if_neg h2]
    by_cases h3 : k = 3
    · rw [if_pos h3]; simp
    rw [if_neg h3]
    by_cases h4 : k = 4
    · rw [if_pos h4]
      subst h4
      intro hs
      rw [hs] at hname
      simp [shapeOf, nameOK, isName] at hname
    rw [if_neg h4]
    repeat (split; · simp)
    intro hc
    have hc := congrArg List.length hc
    have : k = 13 ∨ k = 14 ∨ k = 15 ∨ k = 16 ∨ k = 17 ∨ k = 18 := by omega
    rcases this with rfl | rfl | rfl | rfl | rfl | rfl <;> simp [shapeOf] at hc

set_option maxRecDepth 100000 in
theorem showExpr_any (e : Ex) (c : Array Value) (w : World) (hE : Env w) (hR : Ex.R w e c) (hbulk : e.bulk ≤ 2000000) :
    Calls Tryd.prog 7 #[.agg c] w fun x w' =>
      x = .returned (.tuple #[.string (if exprOK e then doneS (exT e) else ⟨#[]⟩), .int .i64 (if exprOK e then doneN (exT e) else 30)]) ∧ Below w.heap.size w w' := by
  obtain ⟨A, n, cap, rfl⟩ := hR.cells
  have HR := Lib.hid hR; clear hR
  have HE := Lib.hid hE; clear hE
  by_cases hok : exprOK e = true
  · have HW := fun b => Lib.hid (writes_any w.heap.size b 0 w (Nat.le_refl _) HE.out e.bulk e (Nat.le_refl _) hok 1 (by omega) (by omega))
    have hlen := exT_len e hok
    have hat : atT 1 e = exT e := by
      unfold atT atP
      rw [if_neg]
      show ¬ (shapeOf e.kind).level < 1
      have : 1 ≤ (shapeOf e.kind).level := by have := level_pos e.kind; exact this
      omega
    have hne := exT_ne e hok
    rw [if_pos hok, if_pos hok]
    have HOK := Lib.hid hok; clear hok
    have HL := Lib.hid hlen; clear hlen
    have HA := Lib.hid hat; clear hat
    have HN := Lib.hid hne; clear hne
    go_enter Tryd.func7, Tryd.ntmps7
    go_wp2_with fail
    refine (expr_any e.bulk e _ _ (Nat.le_refl _) (HE.out.below ((Below.refl _ w).alloc (Nat.le_refl _) _) (Nat.le_refl _)) (Ex.R.below ((Below.refl _ w).alloc (Nat.le_refl _) _) (Nat.le_refl _) e _ HR.out)).mono ?_
    rintro x w1 ⟨rfl, hb⟩
    rw [HOK.out]
    obtain ⟨hq, hf⟩ := bcell hb
    have hz1 : w.heap.size < w1.heap.size := by have := hb.size; simp at this; omega
    have HB := Lib.hid hb; clear hb
    go_wp2_with fail
    have hp : PageAt w.heap.size w1.heap.size [] 0 (w1.alloc (Obj.cells #[.pointer none, .slice none 0 0, .int .i64 0] 47)) := by
      exact pageAt_new (Nat.le_of_lt hz1)
    have hB := (((Below.refl _ w).alloc (Nat.le_refl _) _).trans (HB.out.mono (by simp))).alloc (Nat.le_of_lt hz1) (Obj.cells #[.pointer none, .slice none 0 0, .int .i64 0] 47)
    refine ((HW w1.heap.size).out _ _ [] HR.out hB hp (by rw [HA.out]; have := HL.out; simp; omega)).mono ?_
    rintro x w2 ⟨rfl, hp2, hk2⟩
    rw [HA.out, List.nil_append] at hp2
    have HP := Lib.hid hp2; clear hp2
    have HK := Lib.hid (hB.trans hk2.1); clear hk2 hp hB
    go_wp2_with fail
    refine (done_any _ _ _ _ _ HP.out HN.out (by have := HL.out; omega)).mono ?_
    rintro x w3 ⟨rfl, hb3⟩
    go_wp2_with fail
    go_ret2
    exact ⟨rfl, HK.out.trans hb3⟩
  · have hok : exprOK e = false := by simpa using hok
    rw [hok]
    have HOK := Lib.hid hok; clear hok
    go_enter Tryd.func7, Tryd.ntmps7
    go_wp2_with fail
    refine (expr_any e.bulk e _ _ (Nat.le_refl _) (HE.out.below ((Below.refl _ w).alloc (Nat.le_refl _) _) (Nat.le_refl _)) (Ex.R.below ((Below.refl _ w).alloc (Nat.le_refl _) _) (Nat.le_refl _) e _ HR.out)).mono ?_
    rintro x w1 ⟨rfl, hb⟩
    rw [HOK.out]
    go_wp2_with fail
    go_ret2
    exact ⟨rfl, (Below.refl _ w).alloc (Nat.le_refl _) _ |>.trans (hb.mono (by simp))⟩
end Go.Proofs.YtapdgeajbnbdjaaDoor
