/- show.expr: whether an expression's tree may be. -/
import Derived.Test.YtapdgeajbnbdjaaDoorShow1
namespace Go.Proofs.YtapdgeajbnbdjaaDoor
open Go.RowKit

def nameOK (sh : Shape) (s : List UInt8) : Bool := if sh.name then isName s else s.isEmpty
def headOK (k n : Int) (s : List UInt8) (m : Nat) : Bool :=
  isKind k && (decide ((shapeOf k).least ≤ (m : Int)) && (decide ((m : Int) ≤ (shapeOf k).most) && (decide (0 ≤ n) && (decide (n ≤ (shapeOf k).num) && nameOK (shapeOf k) s))))
mutual
def exprOK : Ex → Bool
  | .mk k n s ks => headOK k n s.data.toList ks.length && exsOK ks
def exsOK : List Ex → Bool
  | [] => true
  | e :: es => exprOK e && exsOK es
end
theorem exsOK_all : ∀ l : List Ex, exsOK l = l.all exprOK
  | [] => rfl
  | e :: es => by simp [exsOK, exsOK_all es]

set_option maxRecDepth 100000 in
set_option maxHeartbeats 1000000 in
theorem expr_step (k n : Int) (s : ByteArray) (ks : List Ex) (kv : Value) (w : World) (he : Env w) (hs : s.size ≤ maxLen) (hv : Exs.V w ks kv)
    (hask : ∀ xs, Exs.R w ks xs → Asks 38 #[] w xs (ks.map fun e => !exprOK e)) (hcal : Callable 38) :
    Calls Tryd.prog 15 #[.agg #[.int .i64 k, .int .i64 n, .string s, kv]] w fun e w' => e = .returned (.bool (exprOK (.mk k n s ks))) ∧ Below w.heap.size w w' := by
  obtain ⟨xs, h1, h2⟩ := hv
  have hE := fun W (hb : Below w.heap.size w W) => he.below hb (Nat.le_refl _)
  have HC := fun W (hb : Below w.heap.size w W) => containsFunc_Expr kv xs 38 #[] W _ hcal (by simp [(Exs.R.all2 ks xs).1 h2 |>.len]) (h1.below hb (Nat.le_refl _))
    (fun i x b W' hx hb' hB => hask xs h2 i x b W' hx hb' (hb.trans (hB.mono hb.size)))
  rw [any_not, ← exsOK_all] at HC
  have hlen := ((Exs.R.all2 ks xs).1 h2).len
  obtain ⟨A, cap, rfl, hc1, hc2, _⟩ := h1
  obtain ⟨m, hm⟩ : ∃ m, m = xs.length := ⟨_, rfl⟩
  rw [← hm] at HC hc1 hlen ⊢
  have hdef : exprOK (.mk k n s ks) = (headOK k n s.data.toList m && exsOK ks) := by rw [exprOK, ← hlen]
  unfold headOK nameOK at hdef
  have hof := of_any k
  generalize shapeOf k = sh at hdef hof
  obtain ⟨le, mo, nm, nu, lv, sg⟩ := sh
  simp only [Shape.cells] at hof hdef
  have HE := Lib.hid hE; have HC' := Lib.hid HC; have HD := Lib.hid hdef; have HO := Lib.hid hof
  clear hE HC hdef hof hlen hm h2 he
  unfold maxLen at hc2
  have hall : (isKind k = false ∨ (isKind k = true ∧ (m : Int) < le) ∨ (isKind k = true ∧ le ≤ (m : Int) ∧ mo < (m : Int)) ∨ (isKind k = true ∧ le ≤ (m : Int) ∧ (m : Int) ≤ mo ∧ n < 0) ∨
      (isKind k = true ∧ le ≤ (m : Int) ∧ (m : Int) ≤ mo ∧ 0 ≤ n ∧ nu < n)) ∨ (isKind k = true ∧ le ≤ (m : Int) ∧ (m : Int) ≤ mo ∧ 0 ≤ n ∧ n ≤ nu) := by
    cases isKind k
    · exact .inl (.inl rfl)
    · simp; omega
  rcases hall with hall | ⟨hk, q1, q2, q3, q4⟩
  · rcases hall with hk | ⟨hk, q1⟩ | ⟨hk, q1, q2⟩ | ⟨hk, q1, q2, q3⟩ | ⟨hk, q1, q2, q3, q4⟩
    all_goals
      go_enter Tryd.func15, Tryd.ntmps15
      go_wp2_with (first
        | (go_at_call 36; refine (HO.out _).mono ?_; rintro e w1 ⟨rfl, hb1⟩; obtain ⟨hq1, hf1⟩ := bcell hb1; have hz1 : w.heap.size < w1.heap.size := (by have := hb1.size; simp at this; omega); have hB1 := ((Below.refl w.heap.size w).alloc (Nat.le_refl _) _).trans (hb1.mono (by simp))))
      go_ret
      refine ⟨ret_bool ?_, hB1.alloc hB1.size _⟩
      rw [HD.out, hk]
      simp
      try omega
  cases nm
  · cases hnm : s.toList.isEmpty
    · have hne : ¬ s.toList = [] := by simpa using hnm
      go_enter Tryd.func15, Tryd.ntmps15
      go_wp2_with (first
        | (go_at_call 36; refine (HO.out _).mono ?_; rintro e w1 ⟨rfl, hb1⟩; obtain ⟨hq1, hf1⟩ := bcell hb1; have hz1 : w.heap.size < w1.heap.size := (by have := hb1.size; simp at this; omega); have hB1 := ((Below.refl w.heap.size w).alloc (Nat.le_refl _) _).trans (hb1.mono (by simp))))
      go_ret
      refine ⟨ret_bool ?_, hB1.alloc hB1.size _⟩
      rw [HD.out, hk, ← ba_toList, hnm]
      simp
    · have hne : s.toList = [] := by simpa using hnm
      go_enter Tryd.func15, Tryd.ntmps15
      go_wp2_with (first
        | (go_at_call 36; refine (HO.out _).mono ?_; rintro e w1 ⟨rfl, hb1⟩; obtain ⟨hq1, hf1⟩ := bcell hb1; have hz1 : w.heap.size < w1.heap.size := (by have := hb1.size; simp at this; omega); have hB1 := ((Below.refl w.heap.size w).alloc (Nat.le_refl _) _).trans (hb1.mono (by simp)))
        | (go_at_call 37; refine (HC'.out _ (hB1.alloc hB1.size _)).mono ?_; rintro e w2 ⟨rfl, hb2⟩))
      go_ret
      refine ⟨ret_bool ?_, (hB1.alloc hB1.size _).trans (hb2.mono (by have := hB1.size; simp; omega))⟩
      rw [HD.out, hk, ← ba_toList, hnm]
      simp [q1, q2, q3, q4]
  · cases hnm : isName s.data.toList
    · have HN := Lib.hid hnm; clear hnm
      go_enter Tryd.func15, Tryd.ntmps15
      go_wp2_with (first
        | (go_at_call 36; refine (HO.out _).mono ?_; rintro e w1 ⟨rfl, hb1⟩; obtain ⟨hq1, hf1⟩ := bcell hb1; have hz1 : w.heap.size < w1.heap.size := (by have := hb1.size; simp at this; omega); have hB1 := ((Below.refl w.heap.size w).alloc (Nat.le_refl _) _).trans (hb1.mono (by simp)))
        | (go_at_call 33; refine (isName_any _ _ (HE.out _ (hB1.alloc hB1.size _)) hs).mono ?_; rw [HN.out]; rintro e w2 ⟨rfl, rfl⟩))
      go_ret
      refine ⟨ret_bool ?_, hB1.alloc hB1.size _⟩
      rw [HD.out, hk, HN.out]
      simp
    · have HN := Lib.hid hnm; clear hnm
      go_enter Tryd.func15, Tryd.ntmps15
      go_wp2_with (first
        | (go_at_call 36; refine (HO.out _).mono ?_; rintro e w1 ⟨rfl, hb1⟩; obtain ⟨hq1, hf1⟩ := bcell hb1; have hz1 : w.heap.size < w1.heap.size := (by have := hb1.size; simp at this; omega); have hB1 := ((Below.refl w.heap.size w).alloc (Nat.le_refl _) _).trans (hb1.mono (by simp)))
        | (go_at_call 33; refine (isName_any _ _ (HE.out _ (hB1.alloc hB1.size _)) hs).mono ?_; rw [HN.out]; rintro e w2 ⟨rfl, rfl⟩)
        | (go_at_call 37; refine (HC'.out _ (hB1.alloc hB1.size _)).mono ?_; rintro e w2 ⟨rfl, hb2⟩))
      go_ret
      refine ⟨ret_bool ?_, (hB1.alloc hB1.size _).trans (hb2.mono (by have := hB1.size; simp; omega))⟩
      rw [HD.out, hk, HN.out]
      simp [q1, q2, q3, q4]

set_option maxHeartbeats 400000 in
theorem expr_f1 (k n : Int) (s : ByteArray) (ks : List Ex) (kv : Value) (w : World)
    (H : ∀ o, Calls Tryd.prog 15 #[.agg #[.int .i64 k, .int .i64 n, .string s, kv]] (w.alloc o) fun e w' => e = .returned (.bool (exprOK (.mk k n s ks))) ∧ Below (w.alloc o).heap.size (w.alloc o) w') (hkv : ∃ A n cap, kv = .slice A n cap) :
    Calls Tryd.prog 38 #[.agg #[.int .i64 k, .int .i64 n, .string s, kv]] w fun e w' => e = .returned (.bool (!exprOK (.mk k n s ks))) ∧ Below w.heap.size w w' := by
  obtain ⟨A, l, cap, rfl⟩ := hkv
  have HH := Lib.hid H; clear H
  go_enter Tryd.func38, Tryd.ntmps38
  go_wp2_with (first
    | (go_at_call 15; refine (HH.out _).mono ?_; rintro e w1 ⟨rfl, hb1⟩))
  go_ret
  exact ⟨rfl, ((Below.refl _ _).alloc (Nat.le_refl _) _).trans (hb1.mono (by simp))⟩

theorem expr_f1_callable : Callable 38 := fun _ _ => by kernel_rfl

theorem Ex.bulk_kids (k n : Int) (s : ByteArray) (ks : List Ex) : Exs.bulk ks < Ex.bulk (.mk k n s ks) := by simp only [Ex.bulk]; omega

theorem expr_any (b : Nat) : ∀ (x : Ex) (c : Array Value) (w : World), x.bulk ≤ b → Env w → Ex.R w x c →
    Calls Tryd.prog 15 #[.agg c] w fun e w' => e = .returned (.bool (exprOK x)) ∧ Below w.heap.size w w' := by
  induction b with
  | zero => intro x c w hb; cases x; simp only [Ex.bulk] at hb; omega
  | succ b ih =>
    intro x c w hb he hx
    cases x with
    | mk k n s ks =>
      simp only [Ex.R] at hx
      obtain ⟨kv, rfl, _, _, hs, hv⟩ := hx
      refine expr_step k n s ks kv w he hs hv ?_ expr_f1_callable
      intro xs hxs i x bb W hix hbb hB
      obtain ⟨e, hei, hR⟩ := ((Exs.R.all2 ks xs).1 hxs).at_ i x hix
      rw [List.getElem?_map, hei] at hbb
      obtain rfl : (!exprOK e) = bb := by simpa using hbb
      have hlt := Exs.bulk_le (List.mem_of_getElem? hei)
      have hlt2 := Ex.bulk_kids k n s ks
      have hW := fun o => ih e x (W.alloc o) (by omega) (he.below (hB.trans ((Below.refl _ W).alloc (Nat.le_refl _) o |>.mono hB.size)) (Nat.le_refl _)) (Ex.R.below (hB.trans ((Below.refl _ W).alloc (Nat.le_refl _) o |>.mono hB.size)) (Nat.le_refl _) e x hR)
      cases e with
      | mk k2 n2 s2 ks2 =>
        simp only [Ex.R] at hR
        obtain ⟨kv2, rfl, _, _, _, xs2, ⟨A2, cap2, rfl, _⟩, _⟩ := hR
        exact expr_f1 k2 n2 s2 ks2 _ W hW ⟨_, _, _, rfl⟩
end Go.Proofs.YtapdgeajbnbdjaaDoor
