/- ref03.text, kind by kind. (gen_ref.py) -/
import Derived.Test.YtapdgeajbnbdjaaDoorRef5
namespace Go.Proofs.YtapdgeajbnbdjaaDoor
open Go.RowKit

set_option maxRecDepth 100000 in
set_option maxHeartbeats 4000000 in
theorem rtext_1 (n : Int) (s : ByteArray) (m cap : Nat) (w : World) (A : Option Addr) (hn : I64 n) :
    Calls Tryd.prog 19 #[.agg #[.int .i64 1, .int .i64 n, .string s, .slice A m cap]] w (Ret w (.string ⟨(Lib.itoa n).toArray⟩)) := by
  have HN := Lib.hid hn; clear hn
  go_enter Tryd.func19, Tryd.ntmps19
  go_wp2_with fail
  refine (refText_any n HN.out _).mono ?_; rintro e w1 ⟨rfl, hb⟩
  go_wp2_with fail
  go_ret
  exact ⟨ret_str (by apply ByteArray.ext; simp), ((Below.refl _ w).alloc (Nat.le_refl _) _).trans (hb.mono (by simp))⟩

set_option maxRecDepth 100000 in
set_option maxHeartbeats 4000000 in
theorem rtext_2 (n : Int) (s : ByteArray) (m cap : Nat) (w : World) (A : Option Addr) :
    Calls Tryd.prog 19 #[.agg #[.int .i64 2, .int .i64 n, .string s, .slice A m cap]] w (Ret w (.string ⟨([110, 117, 108, 108]).toArray⟩)) := by
  go_enter Tryd.func19, Tryd.ntmps19
  go_wp2_with fail
  go_ret
  exact ⟨ret_str (by apply ByteArray.ext; simp), (Below.refl _ w).alloc (Nat.le_refl _) _⟩

set_option maxRecDepth 100000 in
set_option maxHeartbeats 4000000 in
theorem rtext_3 (n : Int) (s : ByteArray) (m cap : Nat) (w : World) (A : Option Addr) :
    Calls Tryd.prog 19 #[.agg #[.int .i64 3, .int .i64 n, .string s, .slice A m cap]] w (Ret w (.string ⟨([116, 104, 105, 115]).toArray⟩)) := by
  go_enter Tryd.func19, Tryd.ntmps19
  go_wp2_with fail
  go_ret
  exact ⟨ret_str (by apply ByteArray.ext; simp), (Below.refl _ w).alloc (Nat.le_refl _) _⟩

set_option maxRecDepth 100000 in
set_option maxHeartbeats 4000000 in
theorem rtext_4 (n : Int) (s : ByteArray) (m cap : Nat) (w : World) (A : Option Addr) :
    Calls Tryd.prog 19 #[.agg #[.int .i64 4, .int .i64 n, .string s, .slice A m cap]] w (Ret w (.string ⟨(s.data.toList).toArray⟩)) := by
  go_enter Tryd.func19, Tryd.ntmps19
  go_wp2_with fail
  go_ret
  exact ⟨ret_str (by apply ByteArray.ext; simp), (Below.refl _ w).alloc (Nat.le_refl _) _⟩

set_option maxRecDepth 100000 in
set_option maxHeartbeats 4000000 in
theorem rtext_5 (n : Int) (s : ByteArray) (m cap : Nat) (w : World) (A : Option Addr) (hs : Hid (s.size ≤ 1000000000)) :
    Calls Tryd.prog 19 #[.agg #[.int .i64 5, .int .i64 n, .string s, .slice A m cap]] w (Ret w (.string ⟨([110, 101, 119, 32] ++ s.data.toList ++ [40, 41]).toArray⟩)) := by
  have l1 : ¬ 9223372036854775807 < 4 + s.size := by have := hs.out; omega
  have l2 : ¬ 9223372036854775807 < 4 + s.size + 2 := by have := hs.out; omega
  go_enter Tryd.func19, Tryd.ntmps19
  go_wp2_with fail
  go_ret
  exact ⟨ret_str (by apply ByteArray.ext; simp), (Below.refl _ w).alloc (Nat.le_refl _) _⟩

set_option maxRecDepth 100000 in
set_option maxHeartbeats 4000000 in
theorem rtext_6 (n : Int) (s : ByteArray) (m cap : Nat) (w : World) (e0 : Ex) (c0 c1 : Int) (c2 : ByteArray) (A9 : Option Addr) (n9 cap9 bk off : Nat)
    (h0 : Hid (∀ V, Below w.heap.size w V → bk < V.heap.size ∧ V.cell? ⟨bk, off, none⟩ = some (.int .i64 c0) ∧ V.cell? ⟨bk, off + 1, none⟩ = some (.int .i64 c1) ∧ V.cell? ⟨bk, off + 2, none⟩ = some (.string c2) ∧ V.cell? ⟨bk, off + 3, none⟩ = some (.slice A9 n9 cap9))) (hm0 : 0 < m) (hR0 : Hid (Ex.R w e0 #[.int .i64 c0, .int .i64 c1, .string c2, .slice A9 n9 cap9])) (ht0 : Hid (AtR e0)) (hl0 : Hid ((atT 1 e0).length ≤ 1000000000)) :
    Calls Tryd.prog 19 #[.agg #[.int .i64 6, .int .i64 n, .string s, .slice (some ⟨bk, off, none⟩) m cap]] w (Ret w (.string ⟨([110, 101, 119, 32, 105, 110, 116, 91] ++ atT 1 e0 ++ [93]).toArray⟩)) := by
  have l1 : ¬ 9223372036854775807 < 8 + (atT 1 e0).length := by have := hl0.out; omega
  have l2 : ¬ 9223372036854775807 < 8 + (atT 1 e0).length + 1 := by have := hl0.out; omega
  obtain ⟨x0, x1, x2, x3, x4⟩ := h0.out w (Below.refl _ w)
  go_enter Tryd.func19, Tryd.ntmps19
  go_wp2_with fail
  refine (ht0.out _ _ 1 (Ex.R.below ((Below.refl _ w).alloc (Nat.le_refl _) _) (Nat.le_refl _) e0 _ hR0.out)).mono ?_; rintro e w1 ⟨rfl, hb⟩
  go_wp2_with fail
  go_ret
  exact ⟨ret_str (by apply ByteArray.ext; simp), ((Below.refl _ w).alloc (Nat.le_refl _) _).trans (hb.mono (by simp))⟩

set_option maxRecDepth 100000 in
set_option maxHeartbeats 4000000 in
theorem rtext_7 (n : Int) (s : ByteArray) (m cap : Nat) (w : World) (e0 : Ex) (c0 c1 : Int) (c2 : ByteArray) (A9 : Option Addr) (n9 cap9 bk off : Nat)
    (h0 : Hid (∀ V, Below w.heap.size w V → bk < V.heap.size ∧ V.cell? ⟨bk, off, none⟩ = some (.int .i64 c0) ∧ V.cell? ⟨bk, off + 1, none⟩ = some (.int .i64 c1) ∧ V.cell? ⟨bk, off + 2, none⟩ = some (.string c2) ∧ V.cell? ⟨bk, off + 3, none⟩ = some (.slice A9 n9 cap9))) (hm0 : 0 < m) (hR0 : Hid (Ex.R w e0 #[.int .i64 c0, .int .i64 c1, .string c2, .slice A9 n9 cap9])) (ht0 : Hid (AtR e0)) (hl0 : Hid ((atT 4 e0).length ≤ 1000000000))
    (hs : Hid (s.size ≤ 1000000000)) :
    Calls Tryd.prog 19 #[.agg #[.int .i64 7, .int .i64 n, .string s, .slice (some ⟨bk, off, none⟩) m cap]] w (Ret w (.string ⟨(atT 4 e0 ++ 46 :: s.data.toList).toArray⟩)) := by
  have HI : Hid (∀ q : In (w.alloc (.cells #[.int .i64 7, .int .i64 n, .string s, .slice (some ⟨bk, off, none⟩) m cap] 24)), Below w.heap.size w q.W) := Lib.hid (fun q => box_in q)
  have x0 : ∀ q : In (w.alloc (.cells #[.int .i64 7, .int .i64 n, .string s, .slice (some ⟨bk, off, none⟩) m cap] 24)), bk < q.W.heap.size := fun q => (h0.out _ (HI.out q)).1
  have x1 : ∀ q : In (w.alloc (.cells #[.int .i64 7, .int .i64 n, .string s, .slice (some ⟨bk, off, none⟩) m cap] 24)), q.W.cell? ⟨bk, off, none⟩ = some (.int .i64 c0) := fun q => (h0.out _ (HI.out q)).2.1
  have x2 : ∀ q : In (w.alloc (.cells #[.int .i64 7, .int .i64 n, .string s, .slice (some ⟨bk, off, none⟩) m cap] 24)), q.W.cell? ⟨bk, off + 1, none⟩ = some (.int .i64 c1) := fun q => (h0.out _ (HI.out q)).2.2.1
  have x3 : ∀ q : In (w.alloc (.cells #[.int .i64 7, .int .i64 n, .string s, .slice (some ⟨bk, off, none⟩) m cap] 24)), q.W.cell? ⟨bk, off + 2, none⟩ = some (.string c2) := fun q => (h0.out _ (HI.out q)).2.2.2.1
  have x4 : ∀ q : In (w.alloc (.cells #[.int .i64 7, .int .i64 n, .string s, .slice (some ⟨bk, off, none⟩) m cap] 24)), q.W.cell? ⟨bk, off + 3, none⟩ = some (.slice A9 n9 cap9) := fun q => (h0.out _ (HI.out q)).2.2.2.2
  have y0 : ∀ q : In (w.alloc (.cells #[.int .i64 7, .int .i64 n, .string s, .slice (some ⟨bk, off, none⟩) m cap] 24)), w.heap.size < q.W.heap.size := fun q => box_in_lt q
  have y1 : ∀ q : In (w.alloc (.cells #[.int .i64 7, .int .i64 n, .string s, .slice (some ⟨bk, off, none⟩) m cap] 24)), q.W.cell? ⟨w.heap.size, 0, none⟩ = some (.int .i64 7) := fun q => box_in_cell q 0
  have y3 : ∀ q : In (w.alloc (.cells #[.int .i64 7, .int .i64 n, .string s, .slice (some ⟨bk, off, none⟩) m cap] 24)), q.W.cell? ⟨w.heap.size, 2, none⟩ = some (.string s) := fun q => box_in_cell q 2
  have y4 : ∀ q : In (w.alloc (.cells #[.int .i64 7, .int .i64 n, .string s, .slice (some ⟨bk, off, none⟩) m cap] 24)), q.W.cell? ⟨w.heap.size, 3, none⟩ = some (.slice (some ⟨bk, off, none⟩) m cap) := fun q => box_in_cell q 3
  have l0 : ¬ 9223372036854775807 < (atT 4 e0).length + 1 := by have h0 := hl0.out; have h2 := hs.out; omega
  have l1 : ¬ 9223372036854775807 < (atT 4 e0).length + 1 + s.size := by have h0 := hl0.out; have h2 := hs.out; omega
  go_enter Tryd.func19, Tryd.ntmps19
  go_wp2
  refine wp_region_in (by kernel_rfl) (by kernel_rfl) ?_
  iterate 4 go_big_quiet_step (fail)
  go_big_quiet_step (exact Calls.in_of (ht0.out _ _ 4 (Ex.R.below (HI.out _) (Nat.le_refl _) e0 _ hR0.out)))
  repeat (go_big_quiet_step (fail))
  refine wpQuiet_nil ?_
  intro _ hw'
  obtain ⟨q, hw''⟩ := hw'
  subst hw''
  go_wp2_with fail
  go_ret
  exact ⟨ret_str (by apply ByteArray.ext; simp), HI.out q⟩

set_option maxRecDepth 100000 in
set_option maxHeartbeats 4000000 in
theorem rtext_8 (n : Int) (s : ByteArray) (m cap : Nat) (w : World) (e0 e1 : Ex) (c0 c1 : Int) (c2 : ByteArray) (A9 : Option Addr) (n9 cap9 bk off : Nat) (d0 d1 : Int) (d2 : ByteArray) (D9 : Option Addr) (m9 dap9 : Nat)
    (h0 : Hid (∀ V, Below w.heap.size w V → bk < V.heap.size ∧ V.cell? ⟨bk, off, none⟩ = some (.int .i64 c0) ∧ V.cell? ⟨bk, off + 1, none⟩ = some (.int .i64 c1) ∧ V.cell? ⟨bk, off + 2, none⟩ = some (.string c2) ∧ V.cell? ⟨bk, off + 3, none⟩ = some (.slice A9 n9 cap9))) (hm0 : 0 < m) (hR0 : Hid (Ex.R w e0 #[.int .i64 c0, .int .i64 c1, .string c2, .slice A9 n9 cap9])) (ht0 : Hid (AtR e0)) (hl0 : Hid ((atT 4 e0).length ≤ 1000000000))
    (h1 : Hid (∀ V, Below w.heap.size w V → bk < V.heap.size ∧ V.cell? ⟨bk, off + 4, none⟩ = some (.int .i64 d0) ∧ V.cell? ⟨bk, off + 4 + 1, none⟩ = some (.int .i64 d1) ∧ V.cell? ⟨bk, off + 4 + 2, none⟩ = some (.string d2) ∧ V.cell? ⟨bk, off + 4 + 3, none⟩ = some (.slice D9 m9 dap9))) (hm1 : 1 < m) (hR1 : Hid (Ex.R w e1 #[.int .i64 d0, .int .i64 d1, .string d2, .slice D9 m9 dap9])) (ht1 : Hid (AtR e1)) (hl1 : Hid ((atT 1 e1).length ≤ 1000000000)) :
    Calls Tryd.prog 19 #[.agg #[.int .i64 8, .int .i64 n, .string s, .slice (some ⟨bk, off, none⟩) m cap]] w (Ret w (.string ⟨(atT 4 e0 ++ 91 :: (atT 1 e1 ++ [93])).toArray⟩)) := by
  have HI : Hid (∀ q : In (w.alloc (.cells #[.int .i64 8, .int .i64 n, .string s, .slice (some ⟨bk, off, none⟩) m cap] 24)), Below w.heap.size w q.W) := Lib.hid (fun q => box_in q)
  have x0 : ∀ q : In (w.alloc (.cells #[.int .i64 8, .int .i64 n, .string s, .slice (some ⟨bk, off, none⟩) m cap] 24)), bk < q.W.heap.size := fun q => (h0.out _ (HI.out q)).1
  have x1 : ∀ q : In (w.alloc (.cells #[.int .i64 8, .int .i64 n, .string s, .slice (some ⟨bk, off, none⟩) m cap] 24)), q.W.cell? ⟨bk, off, none⟩ = some (.int .i64 c0) := fun q => (h0.out _ (HI.out q)).2.1
  have x2 : ∀ q : In (w.alloc (.cells #[.int .i64 8, .int .i64 n, .string s, .slice (some ⟨bk, off, none⟩) m cap] 24)), q.W.cell? ⟨bk, off + 1, none⟩ = some (.int .i64 c1) := fun q => (h0.out _ (HI.out q)).2.2.1
  have x3 : ∀ q : In (w.alloc (.cells #[.int .i64 8, .int .i64 n, .string s, .slice (some ⟨bk, off, none⟩) m cap] 24)), q.W.cell? ⟨bk, off + 2, none⟩ = some (.string c2) := fun q => (h0.out _ (HI.out q)).2.2.2.1
  have x4 : ∀ q : In (w.alloc (.cells #[.int .i64 8, .int .i64 n, .string s, .slice (some ⟨bk, off, none⟩) m cap] 24)), q.W.cell? ⟨bk, off + 3, none⟩ = some (.slice A9 n9 cap9) := fun q => (h0.out _ (HI.out q)).2.2.2.2
  have z0 : ∀ q : In (w.alloc (.cells #[.int .i64 8, .int .i64 n, .string s, .slice (some ⟨bk, off, none⟩) m cap] 24)), bk < q.W.heap.size := fun q => (h1.out _ (HI.out q)).1
  have z1 : ∀ q : In (w.alloc (.cells #[.int .i64 8, .int .i64 n, .string s, .slice (some ⟨bk, off, none⟩) m cap] 24)), q.W.cell? ⟨bk, off + 4, none⟩ = some (.int .i64 d0) := fun q => (h1.out _ (HI.out q)).2.1
  have z2 : ∀ q : In (w.alloc (.cells #[.int .i64 8, .int .i64 n, .string s, .slice (some ⟨bk, off, none⟩) m cap] 24)), q.W.cell? ⟨bk, off + 4 + 1, none⟩ = some (.int .i64 d1) := fun q => (h1.out _ (HI.out q)).2.2.1
  have z3 : ∀ q : In (w.alloc (.cells #[.int .i64 8, .int .i64 n, .string s, .slice (some ⟨bk, off, none⟩) m cap] 24)), q.W.cell? ⟨bk, off + 4 + 2, none⟩ = some (.string d2) := fun q => (h1.out _ (HI.out q)).2.2.2.1
  have z4 : ∀ q : In (w.alloc (.cells #[.int .i64 8, .int .i64 n, .string s, .slice (some ⟨bk, off, none⟩) m cap] 24)), q.W.cell? ⟨bk, off + 4 + 3, none⟩ = some (.slice D9 m9 dap9) := fun q => (h1.out _ (HI.out q)).2.2.2.2
  have y0 : ∀ q : In (w.alloc (.cells #[.int .i64 8, .int .i64 n, .string s, .slice (some ⟨bk, off, none⟩) m cap] 24)), w.heap.size < q.W.heap.size := fun q => box_in_lt q
  have y1 : ∀ q : In (w.alloc (.cells #[.int .i64 8, .int .i64 n, .string s, .slice (some ⟨bk, off, none⟩) m cap] 24)), q.W.cell? ⟨w.heap.size, 0, none⟩ = some (.int .i64 8) := fun q => box_in_cell q 0
  have y3 : ∀ q : In (w.alloc (.cells #[.int .i64 8, .int .i64 n, .string s, .slice (some ⟨bk, off, none⟩) m cap] 24)), q.W.cell? ⟨w.heap.size, 2, none⟩ = some (.string s) := fun q => box_in_cell q 2
  have y4 : ∀ q : In (w.alloc (.cells #[.int .i64 8, .int .i64 n, .string s, .slice (some ⟨bk, off, none⟩) m cap] 24)), q.W.cell? ⟨w.heap.size, 3, none⟩ = some (.slice (some ⟨bk, off, none⟩) m cap) := fun q => box_in_cell q 3
  have l0 : ¬ 9223372036854775807 < (atT 4 e0).length + 1 := by have h0 := hl0.out; have h1 := hl1.out; omega
  have l1 : ¬ 9223372036854775807 < (atT 4 e0).length + 1 + (atT 1 e1).length := by have h0 := hl0.out; have h1 := hl1.out; omega
  have l2 : ¬ 9223372036854775807 < (atT 4 e0).length + 1 + (atT 1 e1).length + 1 := by have h0 := hl0.out; have h1 := hl1.out; omega
  go_enter Tryd.func19, Tryd.ntmps19
  go_wp2
  refine wp_region_in (by kernel_rfl) (by kernel_rfl) ?_
  iterate 4 go_big_quiet_step (fail)
  go_big_quiet_step (exact Calls.in_of (ht0.out _ _ 4 (Ex.R.below (HI.out _) (Nat.le_refl _) e0 _ hR0.out)))
  iterate 5 go_big_quiet_step (fail)
  go_big_quiet_step (exact Calls.in_of (ht1.out _ _ 1 (Ex.R.below (HI.out _) (Nat.le_refl _) e1 _ hR1.out)))
  repeat (go_big_quiet_step (fail))
  refine wpQuiet_nil ?_
  intro _ hw'
  obtain ⟨q, hw''⟩ := hw'
  subst hw''
  go_wp2_with fail
  go_ret
  exact ⟨ret_str (by apply ByteArray.ext; simp), HI.out q⟩

set_option maxRecDepth 100000 in
set_option maxHeartbeats 4000000 in
theorem rtext_9 (n : Int) (s : ByteArray) (m cap : Nat) (w : World) (e0 : Ex) (c0 c1 : Int) (c2 : ByteArray) (A9 : Option Addr) (n9 cap9 bk off : Nat)
    (h0 : Hid (∀ V, Below w.heap.size w V → bk < V.heap.size ∧ V.cell? ⟨bk, off, none⟩ = some (.int .i64 c0) ∧ V.cell? ⟨bk, off + 1, none⟩ = some (.int .i64 c1) ∧ V.cell? ⟨bk, off + 2, none⟩ = some (.string c2) ∧ V.cell? ⟨bk, off + 3, none⟩ = some (.slice A9 n9 cap9))) (hm0 : 0 < m) (hR0 : Hid (Ex.R w e0 #[.int .i64 c0, .int .i64 c1, .string c2, .slice A9 n9 cap9])) (ht0 : Hid (AtR e0)) (hl0 : Hid ((atT 4 e0).length ≤ 1000000000)) :
    Calls Tryd.prog 19 #[.agg #[.int .i64 9, .int .i64 n, .string s, .slice (some ⟨bk, off, none⟩) m cap]] w (Ret w (.string ⟨(atT 4 e0 ++ [46, 108, 101, 110, 103, 116, 104]).toArray⟩)) := by
  have l1 : ¬ 9223372036854775807 < (atT 4 e0).length + 7 := by have := hl0.out; omega
  obtain ⟨x0, x1, x2, x3, x4⟩ := h0.out w (Below.refl _ w)
  go_enter Tryd.func19, Tryd.ntmps19
  go_wp2_with fail
  refine (ht0.out _ _ 4 (Ex.R.below ((Below.refl _ w).alloc (Nat.le_refl _) _) (Nat.le_refl _) e0 _ hR0.out)).mono ?_; rintro e w1 ⟨rfl, hb⟩
  go_wp2_with fail
  go_ret
  exact ⟨ret_str (by apply ByteArray.ext; simp), ((Below.refl _ w).alloc (Nat.le_refl _) _).trans (hb.mono (by simp))⟩

set_option maxRecDepth 100000 in
set_option maxHeartbeats 4000000 in
theorem rtext_11 (n : Int) (s : ByteArray) (m cap : Nat) (w : World) (A : Option Addr) (hn : I64 n) :
    Calls Tryd.prog 19 #[.agg #[.int .i64 11, .int .i64 n, .string s, .slice A m cap]] w (Ret w (.string ⟨([114, 101, 97, 100, 40] ++ Lib.itoa n ++ [41]).toArray⟩)) := by
  have hi := itoa_len n hn
  have l1 : ¬ 9223372036854775807 < 5 + (Lib.itoa n).length := by omega
  have l2 : ¬ 9223372036854775807 < 5 + (Lib.itoa n).length + 1 := by omega
  clear hi
  have HN := Lib.hid hn; clear hn
  go_enter Tryd.func19, Tryd.ntmps19
  go_wp2_with fail
  refine (refText_any n HN.out _).mono ?_; rintro e w1 ⟨rfl, hb⟩
  go_wp2_with fail
  go_ret
  exact ⟨ret_str (by apply ByteArray.ext; simp), ((Below.refl _ w).alloc (Nat.le_refl _) _).trans (hb.mono (by simp))⟩

set_option maxRecDepth 100000 in
set_option maxHeartbeats 4000000 in
theorem rtext_12 (n : Int) (s : ByteArray) (m cap : Nat) (w : World) (e0 : Ex) (c0 c1 : Int) (c2 : ByteArray) (A9 : Option Addr) (n9 cap9 bk off : Nat)
    (h0 : Hid (∀ V, Below w.heap.size w V → bk < V.heap.size ∧ V.cell? ⟨bk, off, none⟩ = some (.int .i64 c0) ∧ V.cell? ⟨bk, off + 1, none⟩ = some (.int .i64 c1) ∧ V.cell? ⟨bk, off + 2, none⟩ = some (.string c2) ∧ V.cell? ⟨bk, off + 3, none⟩ = some (.slice A9 n9 cap9))) (hm0 : 0 < m) (hR0 : Hid (Ex.R w e0 #[.int .i64 c0, .int .i64 c1, .string c2, .slice A9 n9 cap9])) (ht0 : Hid (AtR e0)) (hl0 : Hid ((atT 1 e0).length ≤ 1000000000)) :
    Calls Tryd.prog 19 #[.agg #[.int .i64 12, .int .i64 n, .string s, .slice (some ⟨bk, off, none⟩) m cap]] w (Ret w (.string ⟨([100, 101, 99, 108, 97, 115, 115, 105, 102, 121, 40] ++ atT 1 e0 ++ [41]).toArray⟩)) := by
  have l1 : ¬ 9223372036854775807 < 11 + (atT 1 e0).length := by have := hl0.out; omega
  have l2 : ¬ 9223372036854775807 < 11 + (atT 1 e0).length + 1 := by have := hl0.out; omega
  obtain ⟨x0, x1, x2, x3, x4⟩ := h0.out w (Below.refl _ w)
  go_enter Tryd.func19, Tryd.ntmps19
  go_wp2_with fail
  refine (ht0.out _ _ 1 (Ex.R.below ((Below.refl _ w).alloc (Nat.le_refl _) _) (Nat.le_refl _) e0 _ hR0.out)).mono ?_; rintro e w1 ⟨rfl, hb⟩
  go_wp2_with fail
  go_ret
  exact ⟨ret_str (by apply ByteArray.ext; simp), ((Below.refl _ w).alloc (Nat.le_refl _) _).trans (hb.mono (by simp))⟩

set_option maxRecDepth 100000 in
set_option maxHeartbeats 4000000 in
theorem rtext_13 (n : Int) (s : ByteArray) (m cap : Nat) (w : World) (e0 e1 : Ex) (c0 c1 : Int) (c2 : ByteArray) (A9 : Option Addr) (n9 cap9 bk off : Nat) (d0 d1 : Int) (d2 : ByteArray) (D9 : Option Addr) (m9 dap9 : Nat)
    (h0 : Hid (∀ V, Below w.heap.size w V → bk < V.heap.size ∧ V.cell? ⟨bk, off, none⟩ = some (.int .i64 c0) ∧ V.cell? ⟨bk, off + 1, none⟩ = some (.int .i64 c1) ∧ V.cell? ⟨bk, off + 2, none⟩ = some (.string c2) ∧ V.cell? ⟨bk, off + 3, none⟩ = some (.slice A9 n9 cap9))) (hm0 : 0 < m) (hR0 : Hid (Ex.R w e0 #[.int .i64 c0, .int .i64 c1, .string c2, .slice A9 n9 cap9])) (ht0 : Hid (AtR e0)) (hl0 : Hid ((atT 2 e0).length ≤ 1000000000))
    (h1 : Hid (∀ V, Below w.heap.size w V → bk < V.heap.size ∧ V.cell? ⟨bk, off + 4, none⟩ = some (.int .i64 d0) ∧ V.cell? ⟨bk, off + 4 + 1, none⟩ = some (.int .i64 d1) ∧ V.cell? ⟨bk, off + 4 + 2, none⟩ = some (.string d2) ∧ V.cell? ⟨bk, off + 4 + 3, none⟩ = some (.slice D9 m9 dap9))) (hm1 : 1 < m) (hR1 : Hid (Ex.R w e1 #[.int .i64 d0, .int .i64 d1, .string d2, .slice D9 m9 dap9])) (ht1 : Hid (AtR e1)) (hl1 : Hid ((atT 3 e1).length ≤ 1000000000)) :
    Calls Tryd.prog 19 #[.agg #[.int .i64 13, .int .i64 n, .string s, .slice (some ⟨bk, off, none⟩) m cap]] w (Ret w (.string ⟨(atT 2 e0 ++ 32 :: (opSign 13 ++ 32 :: atT 3 e1)).toArray⟩)) := by
  have HI : Hid (∀ q : In (w.alloc (.cells #[.int .i64 13, .int .i64 n, .string s, .slice (some ⟨bk, off, none⟩) m cap] 24)), Below w.heap.size w q.W) := Lib.hid (fun q => box_in q)
  have x0 : ∀ q : In (w.alloc (.cells #[.int .i64 13, .int .i64 n, .string s, .slice (some ⟨bk, off, none⟩) m cap] 24)), bk < q.W.heap.size := fun q => (h0.out _ (HI.out q)).1
  have x1 : ∀ q : In (w.alloc (.cells #[.int .i64 13, .int .i64 n, .string s, .slice (some ⟨bk, off, none⟩) m cap] 24)), q.W.cell? ⟨bk, off, none⟩ = some (.int .i64 c0) := fun q => (h0.out _ (HI.out q)).2.1
  have x2 : ∀ q : In (w.alloc (.cells #[.int .i64 13, .int .i64 n, .string s, .slice (some ⟨bk, off, none⟩) m cap] 24)), q.W.cell? ⟨bk, off + 1, none⟩ = some (.int .i64 c1) := fun q => (h0.out _ (HI.out q)).2.2.1
  have x3 : ∀ q : In (w.alloc (.cells #[.int .i64 13, .int .i64 n, .string s, .slice (some ⟨bk, off, none⟩) m cap] 24)), q.W.cell? ⟨bk, off + 2, none⟩ = some (.string c2) := fun q => (h0.out _ (HI.out q)).2.2.2.1
  have x4 : ∀ q : In (w.alloc (.cells #[.int .i64 13, .int .i64 n, .string s, .slice (some ⟨bk, off, none⟩) m cap] 24)), q.W.cell? ⟨bk, off + 3, none⟩ = some (.slice A9 n9 cap9) := fun q => (h0.out _ (HI.out q)).2.2.2.2
  have z0 : ∀ q : In (w.alloc (.cells #[.int .i64 13, .int .i64 n, .string s, .slice (some ⟨bk, off, none⟩) m cap] 24)), bk < q.W.heap.size := fun q => (h1.out _ (HI.out q)).1
  have z1 : ∀ q : In (w.alloc (.cells #[.int .i64 13, .int .i64 n, .string s, .slice (some ⟨bk, off, none⟩) m cap] 24)), q.W.cell? ⟨bk, off + 4, none⟩ = some (.int .i64 d0) := fun q => (h1.out _ (HI.out q)).2.1
  have z2 : ∀ q : In (w.alloc (.cells #[.int .i64 13, .int .i64 n, .string s, .slice (some ⟨bk, off, none⟩) m cap] 24)), q.W.cell? ⟨bk, off + 4 + 1, none⟩ = some (.int .i64 d1) := fun q => (h1.out _ (HI.out q)).2.2.1
  have z3 : ∀ q : In (w.alloc (.cells #[.int .i64 13, .int .i64 n, .string s, .slice (some ⟨bk, off, none⟩) m cap] 24)), q.W.cell? ⟨bk, off + 4 + 2, none⟩ = some (.string d2) := fun q => (h1.out _ (HI.out q)).2.2.2.1
  have z4 : ∀ q : In (w.alloc (.cells #[.int .i64 13, .int .i64 n, .string s, .slice (some ⟨bk, off, none⟩) m cap] 24)), q.W.cell? ⟨bk, off + 4 + 3, none⟩ = some (.slice D9 m9 dap9) := fun q => (h1.out _ (HI.out q)).2.2.2.2
  have y0 : ∀ q : In (w.alloc (.cells #[.int .i64 13, .int .i64 n, .string s, .slice (some ⟨bk, off, none⟩) m cap] 24)), w.heap.size < q.W.heap.size := fun q => box_in_lt q
  have y1 : ∀ q : In (w.alloc (.cells #[.int .i64 13, .int .i64 n, .string s, .slice (some ⟨bk, off, none⟩) m cap] 24)), q.W.cell? ⟨w.heap.size, 0, none⟩ = some (.int .i64 13) := fun q => box_in_cell q 0
  have y3 : ∀ q : In (w.alloc (.cells #[.int .i64 13, .int .i64 n, .string s, .slice (some ⟨bk, off, none⟩) m cap] 24)), q.W.cell? ⟨w.heap.size, 2, none⟩ = some (.string s) := fun q => box_in_cell q 2
  have y4 : ∀ q : In (w.alloc (.cells #[.int .i64 13, .int .i64 n, .string s, .slice (some ⟨bk, off, none⟩) m cap] 24)), q.W.cell? ⟨w.heap.size, 3, none⟩ = some (.slice (some ⟨bk, off, none⟩) m cap) := fun q => box_in_cell q 3
  have l0 : ¬ 9223372036854775807 < (atT 2 e0).length + 1 := by have h0 := hl0.out; have h1 := hl1.out; omega
  have l1 : ¬ 9223372036854775807 < (atT 2 e0).length + 1 + 1 := by have h0 := hl0.out; have h1 := hl1.out; omega
  have l2 : ¬ 9223372036854775807 < (atT 2 e0).length + 1 + 1 + 1 := by have h0 := hl0.out; have h1 := hl1.out; omega
  have l3 : ¬ 9223372036854775807 < (atT 2 e0).length + 1 + 1 + 1 + (atT 3 e1).length := by have h0 := hl0.out; have h1 := hl1.out; omega
  have hsg : Hid (∀ v : World, Calls Tryd.prog 47 #[.int .i64 13] v (fun e w' => e = .returned (.string ⟨#[43]⟩) ∧ w' = v)) := Lib.hid (fun v => sign_any 13 v)
  have hos : opSign 13 = [43] := by decide
  rw [hos]; clear hos
  go_enter Tryd.func19, Tryd.ntmps19
  go_wp2
  refine wp_region_in (by kernel_rfl) (by kernel_rfl) ?_
  iterate 4 go_big_quiet_step (fail)
  go_big_quiet_step (exact Calls.in_of (ht0.out _ _ 2 (Ex.R.below (HI.out _) (Nat.le_refl _) e0 _ hR0.out)))
  iterate 3 go_big_quiet_step (fail)
  go_big_quiet_step (exact Calls.in_of_same (hsg.out _))
  iterate 6 go_big_quiet_step (fail)
  go_big_quiet_step (exact Calls.in_of (ht1.out _ _ 3 (Ex.R.below (HI.out _) (Nat.le_refl _) e1 _ hR1.out)))
  repeat (go_big_quiet_step (fail))
  refine wpQuiet_nil ?_
  intro _ hw'
  obtain ⟨q, hw''⟩ := hw'
  subst hw''
  go_wp2_with fail
  go_ret
  exact ⟨ret_str (by apply ByteArray.ext; simp), HI.out q⟩

set_option maxRecDepth 100000 in
set_option maxHeartbeats 4000000 in
theorem rtext_14 (n : Int) (s : ByteArray) (m cap : Nat) (w : World) (e0 e1 : Ex) (c0 c1 : Int) (c2 : ByteArray) (A9 : Option Addr) (n9 cap9 bk off : Nat) (d0 d1 : Int) (d2 : ByteArray) (D9 : Option Addr) (m9 dap9 : Nat)
    (h0 : Hid (∀ V, Below w.heap.size w V → bk < V.heap.size ∧ V.cell? ⟨bk, off, none⟩ = some (.int .i64 c0) ∧ V.cell? ⟨bk, off + 1, none⟩ = some (.int .i64 c1) ∧ V.cell? ⟨bk, off + 2, none⟩ = some (.string c2) ∧ V.cell? ⟨bk, off + 3, none⟩ = some (.slice A9 n9 cap9))) (hm0 : 0 < m) (hR0 : Hid (Ex.R w e0 #[.int .i64 c0, .int .i64 c1, .string c2, .slice A9 n9 cap9])) (ht0 : Hid (AtR e0)) (hl0 : Hid ((atT 2 e0).length ≤ 1000000000))
    (h1 : Hid (∀ V, Below w.heap.size w V → bk < V.heap.size ∧ V.cell? ⟨bk, off + 4, none⟩ = some (.int .i64 d0) ∧ V.cell? ⟨bk, off + 4 + 1, none⟩ = some (.int .i64 d1) ∧ V.cell? ⟨bk, off + 4 + 2, none⟩ = some (.string d2) ∧ V.cell? ⟨bk, off + 4 + 3, none⟩ = some (.slice D9 m9 dap9))) (hm1 : 1 < m) (hR1 : Hid (Ex.R w e1 #[.int .i64 d0, .int .i64 d1, .string d2, .slice D9 m9 dap9])) (ht1 : Hid (AtR e1)) (hl1 : Hid ((atT 3 e1).length ≤ 1000000000)) :
    Calls Tryd.prog 19 #[.agg #[.int .i64 14, .int .i64 n, .string s, .slice (some ⟨bk, off, none⟩) m cap]] w (Ret w (.string ⟨(atT 2 e0 ++ 32 :: (opSign 14 ++ 32 :: atT 3 e1)).toArray⟩)) := by
  have HI : Hid (∀ q : In (w.alloc (.cells #[.int .i64 14, .int .i64 n, .string s, .slice (some ⟨bk, off, none⟩) m cap] 24)), Below w.heap.size w q.W) := Lib.hid (fun q => box_in q)
  have x0 : ∀ q : In (w.alloc (.cells #[.int .i64 14, .int .i64 n, .string s, .slice (some ⟨bk, off, none⟩) m cap] 24)), bk < q.W.heap.size := fun q => (h0.out _ (HI.out q)).1
  have x1 : ∀ q : In (w.alloc (.cells #[.int .i64 14, .int .i64 n, .string s, .slice (some ⟨bk, off, none⟩) m cap] 24)), q.W.cell? ⟨bk, off, none⟩ = some (.int .i64 c0) := fun q => (h0.out _ (HI.out q)).2.1
  have x2 : ∀ q : In (w.alloc (.cells #[.int .i64 14, .int .i64 n, .string s, .slice (some ⟨bk, off, none⟩) m cap] 24)), q.W.cell? ⟨bk, off + 1, none⟩ = some (.int .i64 c1) := fun q => (h0.out _ (HI.out q)).2.2.1
  have x3 : ∀ q : In (w.alloc (.cells #[.int .i64 14, .int .i64 n, .string s, .slice (some ⟨bk, off, none⟩) m cap] 24)), q.W.cell? ⟨bk, off + 2, none⟩ = some (.string c2) := fun q => (h0.out _ (HI.out q)).2.2.2.1
  have x4 : ∀ q : In (w.alloc (.cells #[.int .i64 14, .int .i64 n, .string s, .slice (some ⟨bk, off, none⟩) m cap] 24)), q.W.cell? ⟨bk, off + 3, none⟩ = some (.slice A9 n9 cap9) := fun q => (h0.out _ (HI.out q)).2.2.2.2
  have z0 : ∀ q : In (w.alloc (.cells #[.int .i64 14, .int .i64 n, .string s, .slice (some ⟨bk, off, none⟩) m cap] 24)), bk < q.W.heap.size := fun q => (h1.out _ (HI.out q)).1
  have z1 : ∀ q : In (w.alloc (.cells #[.int .i64 14, .int .i64 n, .string s, .slice (some ⟨bk, off, none⟩) m cap] 24)), q.W.cell? ⟨bk, off + 4, none⟩ = some (.int .i64 d0) := fun q => (h1.out _ (HI.out q)).2.1
  have z2 : ∀ q : In (w.alloc (.cells #[.int .i64 14, .int .i64 n, .string s, .slice (some ⟨bk, off, none⟩) m cap] 24)), q.W.cell? ⟨bk, off + 4 + 1, none⟩ = some (.int .i64 d1) := fun q => (h1.out _ (HI.out q)).2.2.1
  have z3 : ∀ q : In (w.alloc (.cells #[.int .i64 14, .int .i64 n, .string s, .slice (some ⟨bk, off, none⟩) m cap] 24)), q.W.cell? ⟨bk, off + 4 + 2, none⟩ = some (.string d2) := fun q => (h1.out _ (HI.out q)).2.2.2.1
  have z4 : ∀ q : In (w.alloc (.cells #[.int .i64 14, .int .i64 n, .string s, .slice (some ⟨bk, off, none⟩) m cap] 24)), q.W.cell? ⟨bk, off + 4 + 3, none⟩ = some (.slice D9 m9 dap9) := fun q => (h1.out _ (HI.out q)).2.2.2.2
  have y0 : ∀ q : In (w.alloc (.cells #[.int .i64 14, .int .i64 n, .string s, .slice (some ⟨bk, off, none⟩) m cap] 24)), w.heap.size < q.W.heap.size := fun q => box_in_lt q
  have y1 : ∀ q : In (w.alloc (.cells #[.int .i64 14, .int .i64 n, .string s, .slice (some ⟨bk, off, none⟩) m cap] 24)), q.W.cell? ⟨w.heap.size, 0, none⟩ = some (.int .i64 14) := fun q => box_in_cell q 0
  have y3 : ∀ q : In (w.alloc (.cells #[.int .i64 14, .int .i64 n, .string s, .slice (some ⟨bk, off, none⟩) m cap] 24)), q.W.cell? ⟨w.heap.size, 2, none⟩ = some (.string s) := fun q => box_in_cell q 2
  have y4 : ∀ q : In (w.alloc (.cells #[.int .i64 14, .int .i64 n, .string s, .slice (some ⟨bk, off, none⟩) m cap] 24)), q.W.cell? ⟨w.heap.size, 3, none⟩ = some (.slice (some ⟨bk, off, none⟩) m cap) := fun q => box_in_cell q 3
  have l0 : ¬ 9223372036854775807 < (atT 2 e0).length + 1 := by have h0 := hl0.out; have h1 := hl1.out; omega
  have l1 : ¬ 9223372036854775807 < (atT 2 e0).length + 1 + 1 := by have h0 := hl0.out; have h1 := hl1.out; omega
  have l2 : ¬ 9223372036854775807 < (atT 2 e0).length + 1 + 1 + 1 := by have h0 := hl0.out; have h1 := hl1.out; omega
  have l3 : ¬ 9223372036854775807 < (atT 2 e0).length + 1 + 1 + 1 + (atT 3 e1).length := by have h0 := hl0.out; have h1 := hl1.out; omega
  have hsg : Hid (∀ v : World, Calls Tryd.prog 47 #[.int .i64 14] v (fun e w' => e = .returned (.string ⟨#[45]⟩) ∧ w' = v)) := Lib.hid (fun v => sign_any 14 v)
  have hos : opSign 14 = [45] := by decide
  rw [hos]; clear hos
  go_enter Tryd.func19, Tryd.ntmps19
  go_wp2
  refine wp_region_in (by kernel_rfl) (by kernel_rfl) ?_
  iterate 4 go_big_quiet_step (fail)
  go_big_quiet_step (exact Calls.in_of (ht0.out _ _ 2 (Ex.R.below (HI.out _) (Nat.le_refl _) e0 _ hR0.out)))
  iterate 3 go_big_quiet_step (fail)
  go_big_quiet_step (exact Calls.in_of_same (hsg.out _))
  iterate 6 go_big_quiet_step (fail)
  go_big_quiet_step (exact Calls.in_of (ht1.out _ _ 3 (Ex.R.below (HI.out _) (Nat.le_refl _) e1 _ hR1.out)))
  repeat (go_big_quiet_step (fail))
  refine wpQuiet_nil ?_
  intro _ hw'
  obtain ⟨q, hw''⟩ := hw'
  subst hw''
  go_wp2_with fail
  go_ret
  exact ⟨ret_str (by apply ByteArray.ext; simp), HI.out q⟩

set_option maxRecDepth 100000 in
set_option maxHeartbeats 4000000 in
theorem rtext_15 (n : Int) (s : ByteArray) (m cap : Nat) (w : World) (e0 e1 : Ex) (c0 c1 : Int) (c2 : ByteArray) (A9 : Option Addr) (n9 cap9 bk off : Nat) (d0 d1 : Int) (d2 : ByteArray) (D9 : Option Addr) (m9 dap9 : Nat)
    (h0 : Hid (∀ V, Below w.heap.size w V → bk < V.heap.size ∧ V.cell? ⟨bk, off, none⟩ = some (.int .i64 c0) ∧ V.cell? ⟨bk, off + 1, none⟩ = some (.int .i64 c1) ∧ V.cell? ⟨bk, off + 2, none⟩ = some (.string c2) ∧ V.cell? ⟨bk, off + 3, none⟩ = some (.slice A9 n9 cap9))) (hm0 : 0 < m) (hR0 : Hid (Ex.R w e0 #[.int .i64 c0, .int .i64 c1, .string c2, .slice A9 n9 cap9])) (ht0 : Hid (AtR e0)) (hl0 : Hid ((atT 3 e0).length ≤ 1000000000))
    (h1 : Hid (∀ V, Below w.heap.size w V → bk < V.heap.size ∧ V.cell? ⟨bk, off + 4, none⟩ = some (.int .i64 d0) ∧ V.cell? ⟨bk, off + 4 + 1, none⟩ = some (.int .i64 d1) ∧ V.cell? ⟨bk, off + 4 + 2, none⟩ = some (.string d2) ∧ V.cell? ⟨bk, off + 4 + 3, none⟩ = some (.slice D9 m9 dap9))) (hm1 : 1 < m) (hR1 : Hid (Ex.R w e1 #[.int .i64 d0, .int .i64 d1, .string d2, .slice D9 m9 dap9])) (ht1 : Hid (AtR e1)) (hl1 : Hid ((atT 4 e1).length ≤ 1000000000)) :
    Calls Tryd.prog 19 #[.agg #[.int .i64 15, .int .i64 n, .string s, .slice (some ⟨bk, off, none⟩) m cap]] w (Ret w (.string ⟨(atT 3 e0 ++ 32 :: (opSign 15 ++ 32 :: atT 4 e1)).toArray⟩)) := by
  have HI : Hid (∀ q : In (w.alloc (.cells #[.int .i64 15, .int .i64 n, .string s, .slice (some ⟨bk, off, none⟩) m cap] 24)), Below w.heap.size w q.W) := Lib.hid (fun q => box_in q)
  have x0 : ∀ q : In (w.alloc (.cells #[.int .i64 15, .int .i64 n, .string s, .slice (some ⟨bk, off, none⟩) m cap] 24)), bk < q.W.heap.size := fun q => (h0.out _ (HI.out q)).1
  have x1 : ∀ q : In (w.alloc (.cells #[.int .i64 15, .int .i64 n, .string s, .slice (some ⟨bk, off, none⟩) m cap] 24)), q.W.cell? ⟨bk, off, none⟩ = some (.int .i64 c0) := fun q => (h0.out _ (HI.out q)).2.1
  have x2 : ∀ q : In (w.alloc (.cells #[.int .i64 15, .int .i64 n, .string s, .slice (some ⟨bk, off, none⟩) m cap] 24)), q.W.cell? ⟨bk, off + 1, none⟩ = some (.int .i64 c1) := fun q => (h0.out _ (HI.out q)).2.2.1
  have x3 : ∀ q : In (w.alloc (.cells #[.int .i64 15, .int .i64 n, .string s, .slice (some ⟨bk, off, none⟩) m cap] 24)), q.W.cell? ⟨bk, off + 2, none⟩ = some (.string c2) := fun q => (h0.out _ (HI.out q)).2.2.2.1
  have x4 : ∀ q : In (w.alloc (.cells #[.int .i64 15, .int .i64 n, .string s, .slice (some ⟨bk, off, none⟩) m cap] 24)), q.W.cell? ⟨bk, off + 3, none⟩ = some (.slice A9 n9 cap9) := fun q => (h0.out _ (HI.out q)).2.2.2.2
  have z0 : ∀ q : In (w.alloc (.cells #[.int .i64 15, .int .i64 n, .string s, .slice (some ⟨bk, off, none⟩) m cap] 24)), bk < q.W.heap.size := fun q => (h1.out _ (HI.out q)).1
  have z1 : ∀ q : In (w.alloc (.cells #[.int .i64 15, .int .i64 n, .string s, .slice (some ⟨bk, off, none⟩) m cap] 24)), q.W.cell? ⟨bk, off + 4, none⟩ = some (.int .i64 d0) := fun q => (h1.out _ (HI.out q)).2.1
  have z2 : ∀ q : In (w.alloc (.cells #[.int .i64 15, .int .i64 n, .string s, .slice (some ⟨bk, off, none⟩) m cap] 24)), q.W.cell? ⟨bk, off + 4 + 1, none⟩ = some (.int .i64 d1) := fun q => (h1.out _ (HI.out q)).2.2.1
  have z3 : ∀ q : In (w.alloc (.cells #[.int .i64 15, .int .i64 n, .string s, .slice (some ⟨bk, off, none⟩) m cap] 24)), q.W.cell? ⟨bk, off + 4 + 2, none⟩ = some (.string d2) := fun q => (h1.out _ (HI.out q)).2.2.2.1
  have z4 : ∀ q : In (w.alloc (.cells #[.int .i64 15, .int .i64 n, .string s, .slice (some ⟨bk, off, none⟩) m cap] 24)), q.W.cell? ⟨bk, off + 4 + 3, none⟩ = some (.slice D9 m9 dap9) := fun q => (h1.out _ (HI.out q)).2.2.2.2
  have y0 : ∀ q : In (w.alloc (.cells #[.int .i64 15, .int .i64 n, .string s, .slice (some ⟨bk, off, none⟩) m cap] 24)), w.heap.size < q.W.heap.size := fun q => box_in_lt q
  have y1 : ∀ q : In (w.alloc (.cells #[.int .i64 15, .int .i64 n, .string s, .slice (some ⟨bk, off, none⟩) m cap] 24)), q.W.cell? ⟨w.heap.size, 0, none⟩ = some (.int .i64 15) := fun q => box_in_cell q 0
  have y3 : ∀ q : In (w.alloc (.cells #[.int .i64 15, .int .i64 n, .string s, .slice (some ⟨bk, off, none⟩) m cap] 24)), q.W.cell? ⟨w.heap.size, 2, none⟩ = some (.string s) := fun q => box_in_cell q 2
  have y4 : ∀ q : In (w.alloc (.cells #[.int .i64 15, .int .i64 n, .string s, .slice (some ⟨bk, off, none⟩) m cap] 24)), q.W.cell? ⟨w.heap.size, 3, none⟩ = some (.slice (some ⟨bk, off, none⟩) m cap) := fun q => box_in_cell q 3
  have l0 : ¬ 9223372036854775807 < (atT 3 e0).length + 1 := by have h0 := hl0.out; have h1 := hl1.out; omega
  have l1 : ¬ 9223372036854775807 < (atT 3 e0).length + 1 + 1 := by have h0 := hl0.out; have h1 := hl1.out; omega
  have l2 : ¬ 9223372036854775807 < (atT 3 e0).length + 1 + 1 + 1 := by have h0 := hl0.out; have h1 := hl1.out; omega
  have l3 : ¬ 9223372036854775807 < (atT 3 e0).length + 1 + 1 + 1 + (atT 4 e1).length := by have h0 := hl0.out; have h1 := hl1.out; omega
  have hsg : Hid (∀ v : World, Calls Tryd.prog 47 #[.int .i64 15] v (fun e w' => e = .returned (.string ⟨#[42]⟩) ∧ w' = v)) := Lib.hid (fun v => sign_any 15 v)
  have hos : opSign 15 = [42] := by decide
  rw [hos]; clear hos
  go_enter Tryd.func19, Tryd.ntmps19
  go_wp2
  refine wp_region_in (by kernel_rfl) (by kernel_rfl) ?_
  iterate 4 go_big_quiet_step (fail)
  go_big_quiet_step (exact Calls.in_of (ht0.out _ _ 3 (Ex.R.below (HI.out _) (Nat.le_refl _) e0 _ hR0.out)))
  iterate 3 go_big_quiet_step (fail)
  go_big_quiet_step (exact Calls.in_of_same (hsg.out _))
  iterate 6 go_big_quiet_step (fail)
  go_big_quiet_step (exact Calls.in_of (ht1.out _ _ 4 (Ex.R.below (HI.out _) (Nat.le_refl _) e1 _ hR1.out)))
  repeat (go_big_quiet_step (fail))
  refine wpQuiet_nil ?_
  intro _ hw'
  obtain ⟨q, hw''⟩ := hw'
  subst hw''
  go_wp2_with fail
  go_ret
  exact ⟨ret_str (by apply ByteArray.ext; simp), HI.out q⟩

set_option maxRecDepth 100000 in
set_option maxHeartbeats 4000000 in
theorem rtext_16 (n : Int) (s : ByteArray) (m cap : Nat) (w : World) (e0 e1 : Ex) (c0 c1 : Int) (c2 : ByteArray) (A9 : Option Addr) (n9 cap9 bk off : Nat) (d0 d1 : Int) (d2 : ByteArray) (D9 : Option Addr) (m9 dap9 : Nat)
    (h0 : Hid (∀ V, Below w.heap.size w V → bk < V.heap.size ∧ V.cell? ⟨bk, off, none⟩ = some (.int .i64 c0) ∧ V.cell? ⟨bk, off + 1, none⟩ = some (.int .i64 c1) ∧ V.cell? ⟨bk, off + 2, none⟩ = some (.string c2) ∧ V.cell? ⟨bk, off + 3, none⟩ = some (.slice A9 n9 cap9))) (hm0 : 0 < m) (hR0 : Hid (Ex.R w e0 #[.int .i64 c0, .int .i64 c1, .string c2, .slice A9 n9 cap9])) (ht0 : Hid (AtR e0)) (hl0 : Hid ((atT 3 e0).length ≤ 1000000000))
    (h1 : Hid (∀ V, Below w.heap.size w V → bk < V.heap.size ∧ V.cell? ⟨bk, off + 4, none⟩ = some (.int .i64 d0) ∧ V.cell? ⟨bk, off + 4 + 1, none⟩ = some (.int .i64 d1) ∧ V.cell? ⟨bk, off + 4 + 2, none⟩ = some (.string d2) ∧ V.cell? ⟨bk, off + 4 + 3, none⟩ = some (.slice D9 m9 dap9))) (hm1 : 1 < m) (hR1 : Hid (Ex.R w e1 #[.int .i64 d0, .int .i64 d1, .string d2, .slice D9 m9 dap9])) (ht1 : Hid (AtR e1)) (hl1 : Hid ((atT 4 e1).length ≤ 1000000000)) :
    Calls Tryd.prog 19 #[.agg #[.int .i64 16, .int .i64 n, .string s, .slice (some ⟨bk, off, none⟩) m cap]] w (Ret w (.string ⟨(atT 3 e0 ++ 32 :: (opSign 16 ++ 32 :: atT 4 e1)).toArray⟩)) := by
  have HI : Hid (∀ q : In (w.alloc (.cells #[.int .i64 16, .int .i64 n, .string s, .slice (some ⟨bk, off, none⟩) m cap] 24)), Below w.heap.size w q.W) := Lib.hid (fun q => box_in q)
  have x0 : ∀ q : In (w.alloc (.cells #[.int .i64 16, .int .i64 n, .string s, .slice (some ⟨bk, off, none⟩) m cap] 24)), bk < q.W.heap.size := fun q => (h0.out _ (HI.out q)).1
  have x1 : ∀ q : In (w.alloc (.cells #[.int .i64 16, .int .i64 n, .string s, .slice (some ⟨bk, off, none⟩) m cap] 24)), q.W.cell? ⟨bk, off, none⟩ = some (.int .i64 c0) := fun q => (h0.out _ (HI.out q)).2.1
  have x2 : ∀ q : In (w.alloc (.cells #[.int .i64 16, .int .i64 n, .string s, .slice (some ⟨bk, off, none⟩) m cap] 24)), q.W.cell? ⟨bk, off + 1, none⟩ = some (.int .i64 c1) := fun q => (h0.out _ (HI.out q)).2.2.1
  have x3 : ∀ q : In (w.alloc (.cells #[.int .i64 16, .int .i64 n, .string s, .slice (some ⟨bk, off, none⟩) m cap] 24)), q.W.cell? ⟨bk, off + 2, none⟩ = some (.string c2) := fun q => (h0.out _ (HI.out q)).2.2.2.1
  have x4 : ∀ q : In (w.alloc (.cells #[.int .i64 16, .int .i64 n, .string s, .slice (some ⟨bk, off, none⟩) m cap] 24)), q.W.cell? ⟨bk, off + 3, none⟩ = some (.slice A9 n9 cap9) := fun q => (h0.out _ (HI.out q)).2.2.2.2
  have z0 : ∀ q : In (w.alloc (.cells #[.int .i64 16, .int .i64 n, .string s, .slice (some ⟨bk, off, none⟩) m cap] 24)), bk < q.W.heap.size := fun q => (h1.out _ (HI.out q)).1
  have z1 : ∀ q : In (w.alloc (.cells #[.int .i64 16, .int .i64 n, .string s, .slice (some ⟨bk, off, none⟩) m cap] 24)), q.W.cell? ⟨bk, off + 4, none⟩ = some (.int .i64 d0) := fun q => (h1.out _ (HI.out q)).2.1
  have z2 : ∀ q : In (w.alloc (.cells #[.int .i64 16, .int .i64 n, .string s, .slice (some ⟨bk, off, none⟩) m cap] 24)), q.W.cell? ⟨bk, off + 4 + 1, none⟩ = some (.int .i64 d1) := fun q => (h1.out _ (HI.out q)).2.2.1
  have z3 : ∀ q : In (w.alloc (.cells #[.int .i64 16, .int .i64 n, .string s, .slice (some ⟨bk, off, none⟩) m cap] 24)), q.W.cell? ⟨bk, off + 4 + 2, none⟩ = some (.string d2) := fun q => (h1.out _ (HI.out q)).2.2.2.1
  have z4 : ∀ q : In (w.alloc (.cells #[.int .i64 16, .int .i64 n, .string s, .slice (some ⟨bk, off, none⟩) m cap] 24)), q.W.cell? ⟨bk, off + 4 + 3, none⟩ = some (.slice D9 m9 dap9) := fun q => (h1.out _ (HI.out q)).2.2.2.2
  have y0 : ∀ q : In (w.alloc (.cells #[.int .i64 16, .int .i64 n, .string s, .slice (some ⟨bk, off, none⟩) m cap] 24)), w.heap.size < q.W.heap.size := fun q => box_in_lt q
  have y1 : ∀ q : In (w.alloc (.cells #[.int .i64 16, .int .i64 n, .string s, .slice (some ⟨bk, off, none⟩) m cap] 24)), q.W.cell? ⟨w.heap.size, 0, none⟩ = some (.int .i64 16) := fun q => box_in_cell q 0
  have y3 : ∀ q : In (w.alloc (.cells #[.int .i64 16, .int .i64 n, .string s, .slice (some ⟨bk, off, none⟩) m cap] 24)), q.W.cell? ⟨w.heap.size, 2, none⟩ = some (.string s) := fun q => box_in_cell q 2
  have y4 : ∀ q : In (w.alloc (.cells #[.int .i64 16, .int .i64 n, .string s, .slice (some ⟨bk, off, none⟩) m cap] 24)), q.W.cell? ⟨w.heap.size, 3, none⟩ = some (.slice (some ⟨bk, off, none⟩) m cap) := fun q => box_in_cell q 3
  have l0 : ¬ 9223372036854775807 < (atT 3 e0).length + 1 := by have h0 := hl0.out; have h1 := hl1.out; omega
  have l1 : ¬ 9223372036854775807 < (atT 3 e0).length + 1 + 1 := by have h0 := hl0.out; have h1 := hl1.out; omega
  have l2 : ¬ 9223372036854775807 < (atT 3 e0).length + 1 + 1 + 1 := by have h0 := hl0.out; have h1 := hl1.out; omega
  have l3 : ¬ 9223372036854775807 < (atT 3 e0).length + 1 + 1 + 1 + (atT 4 e1).length := by have h0 := hl0.out; have h1 := hl1.out; omega
  have hsg : Hid (∀ v : World, Calls Tryd.prog 47 #[.int .i64 16] v (fun e w' => e = .returned (.string ⟨#[47]⟩) ∧ w' = v)) := Lib.hid (fun v => sign_any 16 v)
  have hos : opSign 16 = [47] := by decide
  rw [hos]; clear hos
  go_enter Tryd.func19, Tryd.ntmps19
  go_wp2
  refine wp_region_in (by kernel_rfl) (by kernel_rfl) ?_
  iterate 4 go_big_quiet_step (fail)
  go_big_quiet_step (exact Calls.in_of (ht0.out _ _ 3 (Ex.R.below (HI.out _) (Nat.le_refl _) e0 _ hR0.out)))
  iterate 3 go_big_quiet_step (fail)
  go_big_quiet_step (exact Calls.in_of_same (hsg.out _))
  iterate 6 go_big_quiet_step (fail)
  go_big_quiet_step (exact Calls.in_of (ht1.out _ _ 4 (Ex.R.below (HI.out _) (Nat.le_refl _) e1 _ hR1.out)))
  repeat (go_big_quiet_step (fail))
  refine wpQuiet_nil ?_
  intro _ hw'
  obtain ⟨q, hw''⟩ := hw'
  subst hw''
  go_wp2_with fail
  go_ret
  exact ⟨ret_str (by apply ByteArray.ext; simp), HI.out q⟩

set_option maxRecDepth 100000 in
set_option maxHeartbeats 4000000 in
theorem rtext_17 (n : Int) (s : ByteArray) (m cap : Nat) (w : World) (e0 e1 : Ex) (c0 c1 : Int) (c2 : ByteArray) (A9 : Option Addr) (n9 cap9 bk off : Nat) (d0 d1 : Int) (d2 : ByteArray) (D9 : Option Addr) (m9 dap9 : Nat)
    (h0 : Hid (∀ V, Below w.heap.size w V → bk < V.heap.size ∧ V.cell? ⟨bk, off, none⟩ = some (.int .i64 c0) ∧ V.cell? ⟨bk, off + 1, none⟩ = some (.int .i64 c1) ∧ V.cell? ⟨bk, off + 2, none⟩ = some (.string c2) ∧ V.cell? ⟨bk, off + 3, none⟩ = some (.slice A9 n9 cap9))) (hm0 : 0 < m) (hR0 : Hid (Ex.R w e0 #[.int .i64 c0, .int .i64 c1, .string c2, .slice A9 n9 cap9])) (ht0 : Hid (AtR e0)) (hl0 : Hid ((atT 2 e0).length ≤ 1000000000))
    (h1 : Hid (∀ V, Below w.heap.size w V → bk < V.heap.size ∧ V.cell? ⟨bk, off + 4, none⟩ = some (.int .i64 d0) ∧ V.cell? ⟨bk, off + 4 + 1, none⟩ = some (.int .i64 d1) ∧ V.cell? ⟨bk, off + 4 + 2, none⟩ = some (.string d2) ∧ V.cell? ⟨bk, off + 4 + 3, none⟩ = some (.slice D9 m9 dap9))) (hm1 : 1 < m) (hR1 : Hid (Ex.R w e1 #[.int .i64 d0, .int .i64 d1, .string d2, .slice D9 m9 dap9])) (ht1 : Hid (AtR e1)) (hl1 : Hid ((atT 2 e1).length ≤ 1000000000)) :
    Calls Tryd.prog 19 #[.agg #[.int .i64 17, .int .i64 n, .string s, .slice (some ⟨bk, off, none⟩) m cap]] w (Ret w (.string ⟨(atT 2 e0 ++ 32 :: (opSign 17 ++ 32 :: atT 2 e1)).toArray⟩)) := by
  have HI : Hid (∀ q : In (w.alloc (.cells #[.int .i64 17, .int .i64 n, .string s, .slice (some ⟨bk, off, none⟩) m cap] 24)), Below w.heap.size w q.W) := Lib.hid (fun q => box_in q)
  have x0 : ∀ q : In (w.alloc (.cells #[.int .i64 17, .int .i64 n, .string s, .slice (some ⟨bk, off, none⟩) m cap] 24)), bk < q.W.heap.size := fun q => (h0.out _ (HI.out q)).1
  have x1 : ∀ q : In (w.alloc (.cells #[.int .i64 17, .int .i64 n, .string s, .slice (some ⟨bk, off, none⟩) m cap] 24)), q.W.cell? ⟨bk, off, none⟩ = some (.int .i64 c0) := fun q => (h0.out _ (HI.out q)).2.1
  have x2 : ∀ q : In (w.alloc (.cells #[.int .i64 17, .int .i64 n, .string s, .slice (some ⟨bk, off, none⟩) m cap] 24)), q.W.cell? ⟨bk, off + 1, none⟩ = some (.int .i64 c1) := fun q => (h0.out _ (HI.out q)).2.2.1
  have x3 : ∀ q : In (w.alloc (.cells #[.int .i64 17, .int .i64 n, .string s, .slice (some ⟨bk, off, none⟩) m cap] 24)), q.W.cell? ⟨bk, off + 2, none⟩ = some (.string c2) := fun q => (h0.out _ (HI.out q)).2.2.2.1
  have x4 : ∀ q : In (w.alloc (.cells #[.int .i64 17, .int .i64 n, .string s, .slice (some ⟨bk, off, none⟩) m cap] 24)), q.W.cell? ⟨bk, off + 3, none⟩ = some (.slice A9 n9 cap9) := fun q => (h0.out _ (HI.out q)).2.2.2.2
  have z0 : ∀ q : In (w.alloc (.cells #[.int .i64 17, .int .i64 n, .string s, .slice (some ⟨bk, off, none⟩) m cap] 24)), bk < q.W.heap.size := fun q => (h1.out _ (HI.out q)).1
  have z1 : ∀ q : In (w.alloc (.cells #[.int .i64 17, .int .i64 n, .string s, .slice (some ⟨bk, off, none⟩) m cap] 24)), q.W.cell? ⟨bk, off + 4, none⟩ = some (.int .i64 d0) := fun q => (h1.out _ (HI.out q)).2.1
  have z2 : ∀ q : In (w.alloc (.cells #[.int .i64 17, .int .i64 n, .string s, .slice (some ⟨bk, off, none⟩) m cap] 24)), q.W.cell? ⟨bk, off + 4 + 1, none⟩ = some (.int .i64 d1) := fun q => (h1.out _ (HI.out q)).2.2.1
  have z3 : ∀ q : In (w.alloc (.cells #[.int .i64 17, .int .i64 n, .string s, .slice (some ⟨bk, off, none⟩) m cap] 24)), q.W.cell? ⟨bk, off + 4 + 2, none⟩ = some (.string d2) := fun q => (h1.out _ (HI.out q)).2.2.2.1
  have z4 : ∀ q : In (w.alloc (.cells #[.int .i64 17, .int .i64 n, .string s, .slice (some ⟨bk, off, none⟩) m cap] 24)), q.W.cell? ⟨bk, off + 4 + 3, none⟩ = some (.slice D9 m9 dap9) := fun q => (h1.out _ (HI.out q)).2.2.2.2
  have y0 : ∀ q : In (w.alloc (.cells #[.int .i64 17, .int .i64 n, .string s, .slice (some ⟨bk, off, none⟩) m cap] 24)), w.heap.size < q.W.heap.size := fun q => box_in_lt q
  have y1 : ∀ q : In (w.alloc (.cells #[.int .i64 17, .int .i64 n, .string s, .slice (some ⟨bk, off, none⟩) m cap] 24)), q.W.cell? ⟨w.heap.size, 0, none⟩ = some (.int .i64 17) := fun q => box_in_cell q 0
  have y3 : ∀ q : In (w.alloc (.cells #[.int .i64 17, .int .i64 n, .string s, .slice (some ⟨bk, off, none⟩) m cap] 24)), q.W.cell? ⟨w.heap.size, 2, none⟩ = some (.string s) := fun q => box_in_cell q 2
  have y4 : ∀ q : In (w.alloc (.cells #[.int .i64 17, .int .i64 n, .string s, .slice (some ⟨bk, off, none⟩) m cap] 24)), q.W.cell? ⟨w.heap.size, 3, none⟩ = some (.slice (some ⟨bk, off, none⟩) m cap) := fun q => box_in_cell q 3
  have l0 : ¬ 9223372036854775807 < (atT 2 e0).length + 1 := by have h0 := hl0.out; have h1 := hl1.out; omega
  have l1 : ¬ 9223372036854775807 < (atT 2 e0).length + 1 + 1 := by have h0 := hl0.out; have h1 := hl1.out; omega
  have l2 : ¬ 9223372036854775807 < (atT 2 e0).length + 1 + 1 + 1 := by have h0 := hl0.out; have h1 := hl1.out; omega
  have l3 : ¬ 9223372036854775807 < (atT 2 e0).length + 1 + 1 + 1 + (atT 2 e1).length := by have h0 := hl0.out; have h1 := hl1.out; omega
  have hsg : Hid (∀ v : World, Calls Tryd.prog 47 #[.int .i64 17] v (fun e w' => e = .returned (.string ⟨#[60]⟩) ∧ w' = v)) := Lib.hid (fun v => sign_any 17 v)
  have hos : opSign 17 = [60] := by decide
  rw [hos]; clear hos
  go_enter Tryd.func19, Tryd.ntmps19
  go_wp2
  refine wp_region_in (by kernel_rfl) (by kernel_rfl) ?_
  iterate 4 go_big_quiet_step (fail)
  go_big_quiet_step (exact Calls.in_of (ht0.out _ _ 2 (Ex.R.below (HI.out _) (Nat.le_refl _) e0 _ hR0.out)))
  iterate 3 go_big_quiet_step (fail)
  go_big_quiet_step (exact Calls.in_of_same (hsg.out _))
  iterate 6 go_big_quiet_step (fail)
  go_big_quiet_step (exact Calls.in_of (ht1.out _ _ 2 (Ex.R.below (HI.out _) (Nat.le_refl _) e1 _ hR1.out)))
  repeat (go_big_quiet_step (fail))
  refine wpQuiet_nil ?_
  intro _ hw'
  obtain ⟨q, hw''⟩ := hw'
  subst hw''
  go_wp2_with fail
  go_ret
  exact ⟨ret_str (by apply ByteArray.ext; simp), HI.out q⟩

set_option maxRecDepth 100000 in
set_option maxHeartbeats 4000000 in
theorem rtext_18 (n : Int) (s : ByteArray) (m cap : Nat) (w : World) (e0 e1 : Ex) (c0 c1 : Int) (c2 : ByteArray) (A9 : Option Addr) (n9 cap9 bk off : Nat) (d0 d1 : Int) (d2 : ByteArray) (D9 : Option Addr) (m9 dap9 : Nat)
    (h0 : Hid (∀ V, Below w.heap.size w V → bk < V.heap.size ∧ V.cell? ⟨bk, off, none⟩ = some (.int .i64 c0) ∧ V.cell? ⟨bk, off + 1, none⟩ = some (.int .i64 c1) ∧ V.cell? ⟨bk, off + 2, none⟩ = some (.string c2) ∧ V.cell? ⟨bk, off + 3, none⟩ = some (.slice A9 n9 cap9))) (hm0 : 0 < m) (hR0 : Hid (Ex.R w e0 #[.int .i64 c0, .int .i64 c1, .string c2, .slice A9 n9 cap9])) (ht0 : Hid (AtR e0)) (hl0 : Hid ((atT 2 e0).length ≤ 1000000000))
    (h1 : Hid (∀ V, Below w.heap.size w V → bk < V.heap.size ∧ V.cell? ⟨bk, off + 4, none⟩ = some (.int .i64 d0) ∧ V.cell? ⟨bk, off + 4 + 1, none⟩ = some (.int .i64 d1) ∧ V.cell? ⟨bk, off + 4 + 2, none⟩ = some (.string d2) ∧ V.cell? ⟨bk, off + 4 + 3, none⟩ = some (.slice D9 m9 dap9))) (hm1 : 1 < m) (hR1 : Hid (Ex.R w e1 #[.int .i64 d0, .int .i64 d1, .string d2, .slice D9 m9 dap9])) (ht1 : Hid (AtR e1)) (hl1 : Hid ((atT 2 e1).length ≤ 1000000000)) :
    Calls Tryd.prog 19 #[.agg #[.int .i64 18, .int .i64 n, .string s, .slice (some ⟨bk, off, none⟩) m cap]] w (Ret w (.string ⟨(atT 2 e0 ++ 32 :: (opSign 18 ++ 32 :: atT 2 e1)).toArray⟩)) := by
  have HI : Hid (∀ q : In (w.alloc (.cells #[.int .i64 18, .int .i64 n, .string s, .slice (some ⟨bk, off, none⟩) m cap] 24)), Below w.heap.size w q.W) := Lib.hid (fun q => box_in q)
  have x0 : ∀ q : In (w.alloc (.cells #[.int .i64 18, .int .i64 n, .string s, .slice (some ⟨bk, off, none⟩) m cap] 24)), bk < q.W.heap.size := fun q => (h0.out _ (HI.out q)).1
  have x1 : ∀ q : In (w.alloc (.cells #[.int .i64 18, .int .i64 n, .string s, .slice (some ⟨bk, off, none⟩) m cap] 24)), q.W.cell? ⟨bk, off, none⟩ = some (.int .i64 c0) := fun q => (h0.out _ (HI.out q)).2.1
  have x2 : ∀ q : In (w.alloc (.cells #[.int .i64 18, .int .i64 n, .string s, .slice (some ⟨bk, off, none⟩) m cap] 24)), q.W.cell? ⟨bk, off + 1, none⟩ = some (.int .i64 c1) := fun q => (h0.out _ (HI.out q)).2.2.1
  have x3 : ∀ q : In (w.alloc (.cells #[.int .i64 18, .int .i64 n, .string s, .slice (some ⟨bk, off, none⟩) m cap] 24)), q.W.cell? ⟨bk, off + 2, none⟩ = some (.string c2) := fun q => (h0.out _ (HI.out q)).2.2.2.1
  have x4 : ∀ q : In (w.alloc (.cells #[.int .i64 18, .int .i64 n, .string s, .slice (some ⟨bk, off, none⟩) m cap] 24)), q.W.cell? ⟨bk, off + 3, none⟩ = some (.slice A9 n9 cap9) := fun q => (h0.out _ (HI.out q)).2.2.2.2
  have z0 : ∀ q : In (w.alloc (.cells #[.int .i64 18, .int .i64 n, .string s, .slice (some ⟨bk, off, none⟩) m cap] 24)), bk < q.W.heap.size := fun q => (h1.out _ (HI.out q)).1
  have z1 : ∀ q : In (w.alloc (.cells #[.int .i64 18, .int .i64 n, .string s, .slice (some ⟨bk, off, none⟩) m cap] 24)), q.W.cell? ⟨bk, off + 4, none⟩ = some (.int .i64 d0) := fun q => (h1.out _ (HI.out q)).2.1
  have z2 : ∀ q : In (w.alloc (.cells #[.int .i64 18, .int .i64 n, .string s, .slice (some ⟨bk, off, none⟩) m cap] 24)), q.W.cell? ⟨bk, off + 4 + 1, none⟩ = some (.int .i64 d1) := fun q => (h1.out _ (HI.out q)).2.2.1
  have z3 : ∀ q : In (w.alloc (.cells #[.int .i64 18, .int .i64 n, .string s, .slice (some ⟨bk, off, none⟩) m cap] 24)), q.W.cell? ⟨bk, off + 4 + 2, none⟩ = some (.string d2) := fun q => (h1.out _ (HI.out q)).2.2.2.1
  have z4 : ∀ q : In (w.alloc (.cells #[.int .i64 18, .int .i64 n, .string s, .slice (some ⟨bk, off, none⟩) m cap] 24)), q.W.cell? ⟨bk, off + 4 + 3, none⟩ = some (.slice D9 m9 dap9) := fun q => (h1.out _ (HI.out q)).2.2.2.2
  have y0 : ∀ q : In (w.alloc (.cells #[.int .i64 18, .int .i64 n, .string s, .slice (some ⟨bk, off, none⟩) m cap] 24)), w.heap.size < q.W.heap.size := fun q => box_in_lt q
  have y1 : ∀ q : In (w.alloc (.cells #[.int .i64 18, .int .i64 n, .string s, .slice (some ⟨bk, off, none⟩) m cap] 24)), q.W.cell? ⟨w.heap.size, 0, none⟩ = some (.int .i64 18) := fun q => box_in_cell q 0
  have y3 : ∀ q : In (w.alloc (.cells #[.int .i64 18, .int .i64 n, .string s, .slice (some ⟨bk, off, none⟩) m cap] 24)), q.W.cell? ⟨w.heap.size, 2, none⟩ = some (.string s) := fun q => box_in_cell q 2
  have y4 : ∀ q : In (w.alloc (.cells #[.int .i64 18, .int .i64 n, .string s, .slice (some ⟨bk, off, none⟩) m cap] 24)), q.W.cell? ⟨w.heap.size, 3, none⟩ = some (.slice (some ⟨bk, off, none⟩) m cap) := fun q => box_in_cell q 3
  have l0 : ¬ 9223372036854775807 < (atT 2 e0).length + 1 := by have h0 := hl0.out; have h1 := hl1.out; omega
  have l1 : ¬ 9223372036854775807 < (atT 2 e0).length + 1 + 2 := by have h0 := hl0.out; have h1 := hl1.out; omega
  have l2 : ¬ 9223372036854775807 < (atT 2 e0).length + 1 + 2 + 1 := by have h0 := hl0.out; have h1 := hl1.out; omega
  have l3 : ¬ 9223372036854775807 < (atT 2 e0).length + 1 + 2 + 1 + (atT 2 e1).length := by have h0 := hl0.out; have h1 := hl1.out; omega
  have hsg : Hid (∀ v : World, Calls Tryd.prog 47 #[.int .i64 18] v (fun e w' => e = .returned (.string ⟨#[61, 61]⟩) ∧ w' = v)) := Lib.hid (fun v => sign_any 18 v)
  have hos : opSign 18 = [61, 61] := by decide
  rw [hos]; clear hos
  go_enter Tryd.func19, Tryd.ntmps19
  go_wp2
  refine wp_region_in (by kernel_rfl) (by kernel_rfl) ?_
  iterate 4 go_big_quiet_step (fail)
  go_big_quiet_step (exact Calls.in_of (ht0.out _ _ 2 (Ex.R.below (HI.out _) (Nat.le_refl _) e0 _ hR0.out)))
  iterate 3 go_big_quiet_step (fail)
  go_big_quiet_step (exact Calls.in_of_same (hsg.out _))
  iterate 6 go_big_quiet_step (fail)
  go_big_quiet_step (exact Calls.in_of (ht1.out _ _ 2 (Ex.R.below (HI.out _) (Nat.le_refl _) e1 _ hR1.out)))
  repeat (go_big_quiet_step (fail))
  refine wpQuiet_nil ?_
  intro _ hw'
  obtain ⟨q, hw''⟩ := hw'
  subst hw''
  go_wp2_with fail
  go_ret
  exact ⟨ret_str (by apply ByteArray.ext; simp), HI.out q⟩

end Go.Proofs.YtapdgeajbnbdjaaDoor
