/- show.page.expr: a walk for each operator's kind. -/
import Derived.Test.YtapdgeajbnbdjaaDoorPage4
import Derived.StillTailTactics
namespace Go.Proofs.YtapdgeajbnbdjaaDoor
open Go.RowKit

set_option maxRecDepth 100000 in
set_option maxHeartbeats 4000000 in
theorem wexpr_13 (B b : Nat) (l : List UInt8) (t want n : Int) (s : ByteArray) (m cap : Nat) (w0 w : World) (hB : w0.heap.size ≤ B) (hw : Below B w0 w) (hp : PageAt B b l t w) (hwant : want ≤ 2)
    (e0 e1 : Ex) (c0 c1 : Int) (c2 : ByteArray) (A9 : Option Addr) (n9 cap9 : Nat) (d0 d1 : Int) (d2 : ByteArray) (D9 : Option Addr) (m9 dap9 bk off : Nat)
    (hk : Hid (∀ V, Below B w0 V → bk < V.heap.size ∧ V.cell? ⟨bk, off, none⟩ = some (.int .i64 c0) ∧ V.cell? ⟨bk, off + 1, none⟩ = some (.int .i64 c1) ∧ V.cell? ⟨bk, off + 2, none⟩ = some (.string c2) ∧ V.cell? ⟨bk, off + 3, none⟩ = some (.slice A9 n9 cap9)))
    (hk' : Hid (∀ V, Below B w0 V → V.cell? ⟨bk, off + 4, none⟩ = some (.int .i64 d0) ∧ V.cell? ⟨bk, off + 4 + 1, none⟩ = some (.int .i64 d1) ∧ V.cell? ⟨bk, off + 4 + 2, none⟩ = some (.string d2) ∧ V.cell? ⟨bk, off + 4 + 3, none⟩ = some (.slice D9 m9 dap9)))
    (hm : 1 < m) (hR : Hid (Ex.R w0 e0 #[.int .i64 c0, .int .i64 c1, .string c2, .slice A9 n9 cap9])) (hR' : Hid (Ex.R w0 e1 #[.int .i64 d0, .int .i64 d1, .string d2, .slice D9 m9 dap9])) (ih : Hid (Writes B b t w0 e0 2)) (ih' : Hid (Writes B b t w0 e1 3))
    (hlen : Hid (l.length + (atT 2 e0).length + (cat [⟨#[32, 43, 32]⟩]).length + (atT 3 e1).length ≤ 140737488355328)) :
    Calls Tryd.prog 16 #[.pointer (some ⟨b, 0, none⟩), .agg #[.int .i64 13, .int .i64 n, .string s, .slice (some ⟨bk, off, none⟩) m cap], .int .i64 want] w fun x w' => x = .returned (.tuple #[]) ∧ PageAt B b (l ++ atT 2 e0 ++ cat [⟨#[32, 43, 32]⟩] ++ atT 3 e1) t w' ∧ Kept B b w w' := by
  have hbs1 := buildOne
  have hm0 : 0 < m := by omega
  have hm1 : (1 : Int) < (m : Int) := by omega
  have hI0 := Lib.hid ((Inv.start hB hw hp).add #[.int .i64 13, .int .i64 n, .string s, .slice (some ⟨bk, off, none⟩) m cap] 24 (by decide))
  clear hB hw hp
  go_enter Tryd.func16, Tryd.ntmps16
  go_wp2_with fail
  refine (of_13 _).mono ?_; rintro e w1 ⟨rfl, hb⟩
  have hI1 := Lib.hid (hI0.out.below hb); clear hb
  have hx1 := hI1.out.lt _ _ _ (List.Mem.head _)
  have q1_0 : w1.cell? ⟨w.heap.size, 0, none⟩ = some (.int .i64 13) := hI1.out.cell _ _ _ (List.Mem.head _) 0
  have q1_3 : w1.cell? ⟨w.heap.size, 3, none⟩ = some (.slice (some ⟨bk, off, none⟩) m cap) := hI1.out.cell _ _ _ (List.Mem.head _) 3
  have hS1 := Lib.hid (hI1.out.add #[.int .i64 2, .int .i64 2, .bool false, .int .i64 0, .int .i64 2, .string ⟨#[32, 43, 32]⟩] 75 (by decide))
  obtain ⟨hbk1, k1_0, k1_1, k1_2, k1_3⟩ := hk.out w1 hI1.out.old
  go_wp2_with fail
  refine wp_region_still_tail 8 (by kernel_rfl) (by kernel_rfl) ?_
  simp only [List.take_succ_cons, List.take_zero, List.drop_succ_cons, List.drop_zero]
  change wpStill _ _ (World.drew _) (fun a' => wpList _ _ _ _ a' (World.drew _)) _ _
  repeat still_step
  refine wpStill_nil ?_
  go_wp2_with fail
  refine (hS1.out.drew.expr ih.out hR.out (by have h := hlen.out; (try simp only [List.length_append] at h ⊢); omega)).mono ?_; rintro e w2 ⟨rfl, hi⟩
  have hI2 := Lib.hid hi; clear hi
  have hx2 := hI2.out.lt _ _ _ (List.Mem.tail _ (List.Mem.head _))
  have hy2 := hI2.out.lt _ _ _ (List.Mem.head _)
  have q2_0 : w2.cell? ⟨w.heap.size, 0, none⟩ = some (.int .i64 13) := hI2.out.cell _ _ _ (List.Mem.tail _ (List.Mem.head _)) 0
  have q2_3 : w2.cell? ⟨w.heap.size, 3, none⟩ = some (.slice (some ⟨bk, off, none⟩) m cap) := hI2.out.cell _ _ _ (List.Mem.tail _ (List.Mem.head _)) 3
  have s2_4 : w2.cell? ⟨w1.heap.size, 4, none⟩ = some (.int .i64 2) := hI2.out.cell _ _ _ (List.Mem.head _) 4
  have s2_5 : w2.cell? ⟨w1.heap.size, 5, none⟩ = some (.string ⟨#[32, 43, 32]⟩) := hI2.out.cell _ _ _ (List.Mem.head _) 5
  go_wp2_with fail
  refine (hI2.out.lay [⟨#[32, 43, 32]⟩] _ (by simp) (by simp) (by have h := hlen.out; (try simp only [List.length_append] at h ⊢); omega)).mono ?_; rintro e w3 ⟨rfl, hi⟩
  have hI3 := Lib.hid hi; clear hi
  have hx3 := hI3.out.lt _ _ _ (List.Mem.tail _ (List.Mem.head _))
  have hy3 := hI3.out.lt _ _ _ (List.Mem.head _)
  have q3_0 : w3.cell? ⟨w.heap.size, 0, none⟩ = some (.int .i64 13) := hI3.out.cell _ _ _ (List.Mem.tail _ (List.Mem.head _)) 0
  have q3_3 : w3.cell? ⟨w.heap.size, 3, none⟩ = some (.slice (some ⟨bk, off, none⟩) m cap) := hI3.out.cell _ _ _ (List.Mem.tail _ (List.Mem.head _)) 3
  have s3_4 : w3.cell? ⟨w1.heap.size, 4, none⟩ = some (.int .i64 2) := hI3.out.cell _ _ _ (List.Mem.head _) 4
  have s3_5 : w3.cell? ⟨w1.heap.size, 5, none⟩ = some (.string ⟨#[32, 43, 32]⟩) := hI3.out.cell _ _ _ (List.Mem.head _) 5
  obtain ⟨k3_4, k3_5, k3_6, k3_7⟩ := hk'.out w3 hI3.out.old
  have hbk3 := (hk.out w3 hI3.out.old).1
  go_wp2_with fail
  refine wp_region_still_tail 8 (by kernel_rfl) (by kernel_rfl) ?_
  simp only [List.take_succ_cons, List.take_zero, List.drop_succ_cons, List.drop_zero]
  change wpStill _ _ (World.drew _) (fun a' => wpList _ _ _ _ a' (World.drew _)) _ _
  repeat still_step
  refine wpStill_nil ?_
  go_wp2_with fail
  refine (hI3.out.drew.expr ih'.out hR'.out (by have h := hlen.out; (try simp only [List.length_append] at h ⊢); omega)).mono ?_; rintro e w4 ⟨rfl, hi⟩
  have hI4 := Lib.hid hi; clear hi
  go_wp2_with fail
  go_end0
  exact ⟨rfl, hI4.out.page, hI4.out.kept⟩

set_option maxRecDepth 100000 in
set_option maxHeartbeats 4000000 in
theorem wexpr_13p (B b : Nat) (l : List UInt8) (t want n : Int) (s : ByteArray) (m cap : Nat) (w0 w : World) (hB : w0.heap.size ≤ B) (hw : Below B w0 w) (hp : PageAt B b l t w) (hwant : 2 < want)
    (e0 e1 : Ex) (c0 c1 : Int) (c2 : ByteArray) (A9 : Option Addr) (n9 cap9 : Nat) (d0 d1 : Int) (d2 : ByteArray) (D9 : Option Addr) (m9 dap9 bk off : Nat)
    (hk : Hid (∀ V, Below B w0 V → bk < V.heap.size ∧ V.cell? ⟨bk, off, none⟩ = some (.int .i64 c0) ∧ V.cell? ⟨bk, off + 1, none⟩ = some (.int .i64 c1) ∧ V.cell? ⟨bk, off + 2, none⟩ = some (.string c2) ∧ V.cell? ⟨bk, off + 3, none⟩ = some (.slice A9 n9 cap9)))
    (hk' : Hid (∀ V, Below B w0 V → V.cell? ⟨bk, off + 4, none⟩ = some (.int .i64 d0) ∧ V.cell? ⟨bk, off + 4 + 1, none⟩ = some (.int .i64 d1) ∧ V.cell? ⟨bk, off + 4 + 2, none⟩ = some (.string d2) ∧ V.cell? ⟨bk, off + 4 + 3, none⟩ = some (.slice D9 m9 dap9)))
    (hm : 1 < m) (hR : Hid (Ex.R w0 e0 #[.int .i64 c0, .int .i64 c1, .string c2, .slice A9 n9 cap9])) (hR' : Hid (Ex.R w0 e1 #[.int .i64 d0, .int .i64 d1, .string d2, .slice D9 m9 dap9])) (ih : Hid (Writes B b t w0 e0 2)) (ih' : Hid (Writes B b t w0 e1 3))
    (hlen : Hid (l.length + (cat [⟨#[40]⟩]).length + (atT 2 e0).length + (cat [⟨#[32, 43, 32]⟩]).length + (atT 3 e1).length + (cat [⟨#[41]⟩]).length ≤ 140737488355328)) :
    Calls Tryd.prog 16 #[.pointer (some ⟨b, 0, none⟩), .agg #[.int .i64 13, .int .i64 n, .string s, .slice (some ⟨bk, off, none⟩) m cap], .int .i64 want] w fun x w' => x = .returned (.tuple #[]) ∧ PageAt B b (l ++ cat [⟨#[40]⟩] ++ atT 2 e0 ++ cat [⟨#[32, 43, 32]⟩] ++ atT 3 e1 ++ cat [⟨#[41]⟩]) t w' ∧ Kept B b w w' := by
  have hbs1 := buildOne
  have hm0 : 0 < m := by omega
  have hm1 : (1 : Int) < (m : Int) := by omega
  have hI0 := Lib.hid ((Inv.start hB hw hp).add #[.int .i64 13, .int .i64 n, .string s, .slice (some ⟨bk, off, none⟩) m cap] 24 (by decide))
  clear hB hw hp
  go_enter_defers Tryd.func16, Tryd.ntmps16
  go_wp2_with fail
  refine (of_13 _).mono ?_; rintro e w1 ⟨rfl, hb⟩
  have hI1 := Lib.hid (hI0.out.below hb); clear hb
  have hx1 := hI1.out.lt _ _ _ (List.Mem.head _)
  have q1_0 : w1.cell? ⟨w.heap.size, 0, none⟩ = some (.int .i64 13) := hI1.out.cell _ _ _ (List.Mem.head _) 0
  have q1_3 : w1.cell? ⟨w.heap.size, 3, none⟩ = some (.slice (some ⟨bk, off, none⟩) m cap) := hI1.out.cell _ _ _ (List.Mem.head _) 3
  have hS1 := Lib.hid (hI1.out.add #[.int .i64 2, .int .i64 2, .bool false, .int .i64 0, .int .i64 2, .string ⟨#[32, 43, 32]⟩] 75 (by decide))
  obtain ⟨hbk1, k1_0, k1_1, k1_2, k1_3⟩ := hk.out w1 hI1.out.old
  go_wp2_with fail
  refine (hS1.out.lay [⟨#[40]⟩] _ (by simp) (by simp) (by have h := hlen.out; (try simp only [List.length_append] at h ⊢); omega)).mono ?_; rintro e w2 ⟨rfl, hi⟩
  have hI2 := Lib.hid hi; clear hi
  have hx2 := hI2.out.lt _ _ _ (List.Mem.tail _ (List.Mem.head _))
  have hy2 := hI2.out.lt _ _ _ (List.Mem.head _)
  have q2_0 : w2.cell? ⟨w.heap.size, 0, none⟩ = some (.int .i64 13) := hI2.out.cell _ _ _ (List.Mem.tail _ (List.Mem.head _)) 0
  have q2_3 : w2.cell? ⟨w.heap.size, 3, none⟩ = some (.slice (some ⟨bk, off, none⟩) m cap) := hI2.out.cell _ _ _ (List.Mem.tail _ (List.Mem.head _)) 3
  have s2_4 : w2.cell? ⟨w1.heap.size, 4, none⟩ = some (.int .i64 2) := hI2.out.cell _ _ _ (List.Mem.head _) 4
  have s2_5 : w2.cell? ⟨w1.heap.size, 5, none⟩ = some (.string ⟨#[32, 43, 32]⟩) := hI2.out.cell _ _ _ (List.Mem.head _) 5
  obtain ⟨hbk2, k2_0, k2_1, k2_2, k2_3⟩ := hk.out w2 hI2.out.old
  have hS2 := Lib.hid (hI2.out.add #[.string ⟨#[41]⟩] 9 (by decide))
  go_wp2_with fail
  refine wp_region_still_tail 8 (by kernel_rfl) (by kernel_rfl) ?_
  simp only [List.take_succ_cons, List.take_zero, List.drop_succ_cons, List.drop_zero]
  change wpStill _ _ (World.drew _) (fun a' => wpList _ _ _ _ a' (World.drew _)) _ _
  repeat still_step
  refine wpStill_nil ?_
  go_wp2_with fail
  refine (hS2.out.drew.expr ih.out hR.out (by have h := hlen.out; (try simp only [List.length_append] at h ⊢); omega)).mono ?_; rintro e w3 ⟨rfl, hi⟩
  have hI3 := Lib.hid hi; clear hi
  have hx3 := hI3.out.lt _ _ _ (List.Mem.tail _ (List.Mem.tail _ (List.Mem.head _)))
  have hy3 := hI3.out.lt _ _ _ (List.Mem.tail _ (List.Mem.head _))
  have q3_0 : w3.cell? ⟨w.heap.size, 0, none⟩ = some (.int .i64 13) := hI3.out.cell _ _ _ (List.Mem.tail _ (List.Mem.tail _ (List.Mem.head _))) 0
  have q3_3 : w3.cell? ⟨w.heap.size, 3, none⟩ = some (.slice (some ⟨bk, off, none⟩) m cap) := hI3.out.cell _ _ _ (List.Mem.tail _ (List.Mem.tail _ (List.Mem.head _))) 3
  have s3_4 : w3.cell? ⟨w1.heap.size, 4, none⟩ = some (.int .i64 2) := hI3.out.cell _ _ _ (List.Mem.tail _ (List.Mem.head _)) 4
  have s3_5 : w3.cell? ⟨w1.heap.size, 5, none⟩ = some (.string ⟨#[32, 43, 32]⟩) := hI3.out.cell _ _ _ (List.Mem.tail _ (List.Mem.head _)) 5
  go_wp2_with fail
  refine (hI3.out.lay [⟨#[32, 43, 32]⟩] _ (by simp) (by simp) (by have h := hlen.out; (try simp only [List.length_append] at h ⊢); omega)).mono ?_; rintro e w4 ⟨rfl, hi⟩
  have hI4 := Lib.hid hi; clear hi
  have hx4 := hI4.out.lt _ _ _ (List.Mem.tail _ (List.Mem.tail _ (List.Mem.head _)))
  have hy4 := hI4.out.lt _ _ _ (List.Mem.tail _ (List.Mem.head _))
  have q4_0 : w4.cell? ⟨w.heap.size, 0, none⟩ = some (.int .i64 13) := hI4.out.cell _ _ _ (List.Mem.tail _ (List.Mem.tail _ (List.Mem.head _))) 0
  have q4_3 : w4.cell? ⟨w.heap.size, 3, none⟩ = some (.slice (some ⟨bk, off, none⟩) m cap) := hI4.out.cell _ _ _ (List.Mem.tail _ (List.Mem.tail _ (List.Mem.head _))) 3
  have s4_4 : w4.cell? ⟨w1.heap.size, 4, none⟩ = some (.int .i64 2) := hI4.out.cell _ _ _ (List.Mem.tail _ (List.Mem.head _)) 4
  have s4_5 : w4.cell? ⟨w1.heap.size, 5, none⟩ = some (.string ⟨#[32, 43, 32]⟩) := hI4.out.cell _ _ _ (List.Mem.tail _ (List.Mem.head _)) 5
  obtain ⟨k4_4, k4_5, k4_6, k4_7⟩ := hk'.out w4 hI4.out.old
  have hbk4 := (hk.out w4 hI4.out.old).1
  go_wp2_with fail
  refine wp_region_still_tail 8 (by kernel_rfl) (by kernel_rfl) ?_
  simp only [List.take_succ_cons, List.take_zero, List.drop_succ_cons, List.drop_zero]
  change wpStill _ _ (World.drew _) (fun a' => wpList _ _ _ _ a' (World.drew _)) _ _
  repeat still_step
  refine wpStill_nil ?_
  go_wp2_with fail
  refine (hI4.out.drew.expr ih'.out hR'.out (by have h := hlen.out; (try simp only [List.length_append] at h ⊢); omega)).mono ?_; rintro e w5 ⟨rfl, hi⟩
  have hI5 := Lib.hid hi; clear hi
  go_wp2_with fail
  refine leaves_cons (f := 23) (args := #[.pointer (some ⟨b, 0, none⟩), .slice (some ⟨w2.heap.size, 0, none⟩) 1 1]) (by simp) (by simp [go_sem]) ?_
  refine (hI5.out.layd .returning [⟨#[41]⟩] w2.heap.size (List.Mem.head _) (by simp) (by have h := hlen.out; (try simp only [List.length_append] at h ⊢); omega)).mono ?_
  rintro e u' w9 ⟨rfl, rfl, hi⟩
  exact ⟨_, results_none rfl _ _ _, rfl, hi.page, hi.kept⟩

set_option maxRecDepth 100000 in
set_option maxHeartbeats 4000000 in
theorem wexpr_14 (B b : Nat) (l : List UInt8) (t want n : Int) (s : ByteArray) (m cap : Nat) (w0 w : World) (hB : w0.heap.size ≤ B) (hw : Below B w0 w) (hp : PageAt B b l t w) (hwant : want ≤ 2)
    (e0 e1 : Ex) (c0 c1 : Int) (c2 : ByteArray) (A9 : Option Addr) (n9 cap9 : Nat) (d0 d1 : Int) (d2 : ByteArray) (D9 : Option Addr) (m9 dap9 bk off : Nat)
    (hk : Hid (∀ V, Below B w0 V → bk < V.heap.size ∧ V.cell? ⟨bk, off, none⟩ = some (.int .i64 c0) ∧ V.cell? ⟨bk, off + 1, none⟩ = some (.int .i64 c1) ∧ V.cell? ⟨bk, off + 2, none⟩ = some (.string c2) ∧ V.cell? ⟨bk, off + 3, none⟩ = some (.slice A9 n9 cap9)))
    (hk' : Hid (∀ V, Below B w0 V → V.cell? ⟨bk, off + 4, none⟩ = some (.int .i64 d0) ∧ V.cell? ⟨bk, off + 4 + 1, none⟩ = some (.int .i64 d1) ∧ V.cell? ⟨bk, off + 4 + 2, none⟩ = some (.string d2) ∧ V.cell? ⟨bk, off + 4 + 3, none⟩ = some (.slice D9 m9 dap9)))
    (hm : 1 < m) (hR : Hid (Ex.R w0 e0 #[.int .i64 c0, .int .i64 c1, .string c2, .slice A9 n9 cap9])) (hR' : Hid (Ex.R w0 e1 #[.int .i64 d0, .int .i64 d1, .string d2, .slice D9 m9 dap9])) (ih : Hid (Writes B b t w0 e0 2)) (ih' : Hid (Writes B b t w0 e1 3))
    (hlen : Hid (l.length + (atT 2 e0).length + (cat [⟨#[32, 45, 32]⟩]).length + (atT 3 e1).length ≤ 140737488355328)) :
    Calls Tryd.prog 16 #[.pointer (some ⟨b, 0, none⟩), .agg #[.int .i64 14, .int .i64 n, .string s, .slice (some ⟨bk, off, none⟩) m cap], .int .i64 want] w fun x w' => x = .returned (.tuple #[]) ∧ PageAt B b (l ++ atT 2 e0 ++ cat [⟨#[32, 45, 32]⟩] ++ atT 3 e1) t w' ∧ Kept B b w w' := by
  have hbs1 := buildOne
  have hm0 : 0 < m := by omega
  have hm1 : (1 : Int) < (m : Int) := by omega
  have hI0 := Lib.hid ((Inv.start hB hw hp).add #[.int .i64 14, .int .i64 n, .string s, .slice (some ⟨bk, off, none⟩) m cap] 24 (by decide))
  clear hB hw hp
  go_enter Tryd.func16, Tryd.ntmps16
  go_wp2_with fail
  refine (of_14 _).mono ?_; rintro e w1 ⟨rfl, hb⟩
  have hI1 := Lib.hid (hI0.out.below hb); clear hb
  have hx1 := hI1.out.lt _ _ _ (List.Mem.head _)
  have q1_0 : w1.cell? ⟨w.heap.size, 0, none⟩ = some (.int .i64 14) := hI1.out.cell _ _ _ (List.Mem.head _) 0
  have q1_3 : w1.cell? ⟨w.heap.size, 3, none⟩ = some (.slice (some ⟨bk, off, none⟩) m cap) := hI1.out.cell _ _ _ (List.Mem.head _) 3
  have hS1 := Lib.hid (hI1.out.add #[.int .i64 2, .int .i64 2, .bool false, .int .i64 0, .int .i64 2, .string ⟨#[32, 45, 32]⟩] 75 (by decide))
  obtain ⟨hbk1, k1_0, k1_1, k1_2, k1_3⟩ := hk.out w1 hI1.out.old
  go_wp2_with fail
  refine wp_region_still_tail 8 (by kernel_rfl) (by kernel_rfl) ?_
  simp only [List.take_succ_cons, List.take_zero, List.drop_succ_cons, List.drop_zero]
  change wpStill _ _ (World.drew _) (fun a' => wpList _ _ _ _ a' (World.drew _)) _ _
  repeat still_step
  refine wpStill_nil ?_
  go_wp2_with fail
  refine (hS1.out.drew.expr ih.out hR.out (by have h := hlen.out; (try simp only [List.length_append] at h ⊢); omega)).mono ?_; rintro e w2 ⟨rfl, hi⟩
  have hI2 := Lib.hid hi; clear hi
  have hx2 := hI2.out.lt _ _ _ (List.Mem.tail _ (List.Mem.head _))
  have hy2 := hI2.out.lt _ _ _ (List.Mem.head _)
  have q2_0 : w2.cell? ⟨w.heap.size, 0, none⟩ = some (.int .i64 14) := hI2.out.cell _ _ _ (List.Mem.tail _ (List.Mem.head _)) 0
  have q2_3 : w2.cell? ⟨w.heap.size, 3, none⟩ = some (.slice (some ⟨bk, off, none⟩) m cap) := hI2.out.cell _ _ _ (List.Mem.tail _ (List.Mem.head _)) 3
  have s2_4 : w2.cell? ⟨w1.heap.size, 4, none⟩ = some (.int .i64 2) := hI2.out.cell _ _ _ (List.Mem.head _) 4
  have s2_5 : w2.cell? ⟨w1.heap.size, 5, none⟩ = some (.string ⟨#[32, 45, 32]⟩) := hI2.out.cell _ _ _ (List.Mem.head _) 5
  go_wp2_with fail
  refine (hI2.out.lay [⟨#[32, 45, 32]⟩] _ (by simp) (by simp) (by have h := hlen.out; (try simp only [List.length_append] at h ⊢); omega)).mono ?_; rintro e w3 ⟨rfl, hi⟩
  have hI3 := Lib.hid hi; clear hi
  have hx3 := hI3.out.lt _ _ _ (List.Mem.tail _ (List.Mem.head _))
  have hy3 := hI3.out.lt _ _ _ (List.Mem.head _)
  have q3_0 : w3.cell? ⟨w.heap.size, 0, none⟩ = some (.int .i64 14) := hI3.out.cell _ _ _ (List.Mem.tail _ (List.Mem.head _)) 0
  have q3_3 : w3.cell? ⟨w.heap.size, 3, none⟩ = some (.slice (some ⟨bk, off, none⟩) m cap) := hI3.out.cell _ _ _ (List.Mem.tail _ (List.Mem.head _)) 3
  have s3_4 : w3.cell? ⟨w1.heap.size, 4, none⟩ = some (.int .i64 2) := hI3.out.cell _ _ _ (List.Mem.head _) 4
  have s3_5 : w3.cell? ⟨w1.heap.size, 5, none⟩ = some (.string ⟨#[32, 45, 32]⟩) := hI3.out.cell _ _ _ (List.Mem.head _) 5
  obtain ⟨k3_4, k3_5, k3_6, k3_7⟩ := hk'.out w3 hI3.out.old
  have hbk3 := (hk.out w3 hI3.out.old).1
  go_wp2_with fail
  refine wp_region_still_tail 8 (by kernel_rfl) (by kernel_rfl) ?_
  simp only [List.take_succ_cons, List.take_zero, List.drop_succ_cons, List.drop_zero]
  change wpStill _ _ (World.drew _) (fun a' => wpList _ _ _ _ a' (World.drew _)) _ _
  repeat still_step
  refine wpStill_nil ?_
  go_wp2_with fail
  refine (hI3.out.drew.expr ih'.out hR'.out (by have h := hlen.out; (try simp only [List.length_append] at h ⊢); omega)).mono ?_; rintro e w4 ⟨rfl, hi⟩
  have hI4 := Lib.hid hi; clear hi
  go_wp2_with fail
  go_end0
  exact ⟨rfl, hI4.out.page, hI4.out.kept⟩

set_option maxRecDepth 100000 in
set_option maxHeartbeats 4000000 in
theorem wexpr_14p (B b : Nat) (l : List UInt8) (t want n : Int) (s : ByteArray) (m cap : Nat) (w0 w : World) (hB : w0.heap.size ≤ B) (hw : Below B w0 w) (hp : PageAt B b l t w) (hwant : 2 < want)
    (e0 e1 : Ex) (c0 c1 : Int) (c2 : ByteArray) (A9 : Option Addr) (n9 cap9 : Nat) (d0 d1 : Int) (d2 : ByteArray) (D9 : Option Addr) (m9 dap9 bk off : Nat)
    (hk : Hid (∀ V, Below B w0 V → bk < V.heap.size ∧ V.cell? ⟨bk, off, none⟩ = some (.int .i64 c0) ∧ V.cell? ⟨bk, off + 1, none⟩ = some (.int .i64 c1) ∧ V.cell? ⟨bk, off + 2, none⟩ = some (.string c2) ∧ V.cell? ⟨bk, off + 3, none⟩ = some (.slice A9 n9 cap9)))
    (hk' : Hid (∀ V, Below B w0 V → V.cell? ⟨bk, off + 4, none⟩ = some (.int .i64 d0) ∧ V.cell? ⟨bk, off + 4 + 1, none⟩ = some (.int .i64 d1) ∧ V.cell? ⟨bk, off + 4 + 2, none⟩ = some (.string d2) ∧ V.cell? ⟨bk, off + 4 + 3, none⟩ = some (.slice D9 m9 dap9)))
    (hm : 1 < m) (hR : Hid (Ex.R w0 e0 #[.int .i64 c0, .int .i64 c1, .string c2, .slice A9 n9 cap9])) (hR' : Hid (Ex.R w0 e1 #[.int .i64 d0, .int .i64 d1, .string d2, .slice D9 m9 dap9])) (ih : Hid (Writes B b t w0 e0 2)) (ih' : Hid (Writes B b t w0 e1 3))
    (hlen : Hid (l.length + (cat [⟨#[40]⟩]).length + (atT 2 e0).length + (cat [⟨#[32, 45, 32]⟩]).length + (atT 3 e1).length + (cat [⟨#[41]⟩]).length ≤ 140737488355328)) :
    Calls Tryd.prog 16 #[.pointer (some ⟨b, 0, none⟩), .agg #[.int .i64 14, .int .i64 n, .string s, .slice (some ⟨bk, off, none⟩) m cap], .int .i64 want] w fun x w' => x = .returned (.tuple #[]) ∧ PageAt B b (l ++ cat [⟨#[40]⟩] ++ atT 2 e0 ++ cat [⟨#[32, 45, 32]⟩] ++ atT 3 e1 ++ cat [⟨#[41]⟩]) t w' ∧ Kept B b w w' := by
  have hbs1 := buildOne
  have hm0 : 0 < m := by omega
  have hm1 : (1 : Int) < (m : Int) := by omega
  have hI0 := Lib.hid ((Inv.start hB hw hp).add #[.int .i64 14, .int .i64 n, .string s, .slice (some ⟨bk, off, none⟩) m cap] 24 (by decide))
  clear hB hw hp
  go_enter_defers Tryd.func16, Tryd.ntmps16
  go_wp2_with fail
  refine (of_14 _).mono ?_; rintro e w1 ⟨rfl, hb⟩
  have hI1 := Lib.hid (hI0.out.below hb); clear hb
  have hx1 := hI1.out.lt _ _ _ (List.Mem.head _)
  have q1_0 : w1.cell? ⟨w.heap.size, 0, none⟩ = some (.int .i64 14) := hI1.out.cell _ _ _ (List.Mem.head _) 0
  have q1_3 : w1.cell? ⟨w.heap.size, 3, none⟩ = some (.slice (some ⟨bk, off, none⟩) m cap) := hI1.out.cell _ _ _ (List.Mem.head _) 3
  have hS1 := Lib.hid (hI1.out.add #[.int .i64 2, .int .i64 2, .bool false, .int .i64 0, .int .i64 2, .string ⟨#[32, 45, 32]⟩] 75 (by decide))
  obtain ⟨hbk1, k1_0, k1_1, k1_2, k1_3⟩ := hk.out w1 hI1.out.old
  go_wp2_with fail
  refine (hS1.out.lay [⟨#[40]⟩] _ (by simp) (by simp) (by have h := hlen.out; (try simp only [List.length_append] at h ⊢); omega)).mono ?_; rintro e w2 ⟨rfl, hi⟩
  have hI2 := Lib.hid hi; clear hi
  have hx2 := hI2.out.lt _ _ _ (List.Mem.tail _ (List.Mem.head _))
  have hy2 := hI2.out.lt _ _ _ (List.Mem.head _)
  have q2_0 : w2.cell? ⟨w.heap.size, 0, none⟩ = some (.int .i64 14) := hI2.out.cell _ _ _ (List.Mem.tail _ (List.Mem.head _)) 0
  have q2_3 : w2.cell? ⟨w.heap.size, 3, none⟩ = some (.slice (some ⟨bk, off, none⟩) m cap) := hI2.out.cell _ _ _ (List.Mem.tail _ (List.Mem.head _)) 3
  have s2_4 : w2.cell? ⟨w1.heap.size, 4, none⟩ = some (.int .i64 2) := hI2.out.cell _ _ _ (List.Mem.head _) 4
  have s2_5 : w2.cell? ⟨w1.heap.size, 5, none⟩ = some (.string ⟨#[32, 45, 32]⟩) := hI2.out.cell _ _ _ (List.Mem.head _) 5
  obtain ⟨hbk2, k2_0, k2_1, k2_2, k2_3⟩ := hk.out w2 hI2.out.old
  have hS2 := Lib.hid (hI2.out.add #[.string ⟨#[41]⟩] 9 (by decide))
  go_wp2_with fail
  refine wp_region_still_tail 8 (by kernel_rfl) (by kernel_rfl) ?_
  simp only [List.take_succ_cons, List.take_zero, List.drop_succ_cons, List.drop_zero]
  change wpStill _ _ (World.drew _) (fun a' => wpList _ _ _ _ a' (World.drew _)) _ _
  repeat still_step
  refine wpStill_nil ?_
  go_wp2_with fail
  refine (hS2.out.drew.expr ih.out hR.out (by have h := hlen.out; (try simp only [List.length_append] at h ⊢); omega)).mono ?_; rintro e w3 ⟨rfl, hi⟩
  have hI3 := Lib.hid hi; clear hi
  have hx3 := hI3.out.lt _ _ _ (List.Mem.tail _ (List.Mem.tail _ (List.Mem.head _)))
  have hy3 := hI3.out.lt _ _ _ (List.Mem.tail _ (List.Mem.head _))
  have q3_0 : w3.cell? ⟨w.heap.size, 0, none⟩ = some (.int .i64 14) := hI3.out.cell _ _ _ (List.Mem.tail _ (List.Mem.tail _ (List.Mem.head _))) 0
  have q3_3 : w3.cell? ⟨w.heap.size, 3, none⟩ = some (.slice (some ⟨bk, off, none⟩) m cap) := hI3.out.cell _ _ _ (List.Mem.tail _ (List.Mem.tail _ (List.Mem.head _))) 3
  have s3_4 : w3.cell? ⟨w1.heap.size, 4, none⟩ = some (.int .i64 2) := hI3.out.cell _ _ _ (List.Mem.tail _ (List.Mem.head _)) 4
  have s3_5 : w3.cell? ⟨w1.heap.size, 5, none⟩ = some (.string ⟨#[32, 45, 32]⟩) := hI3.out.cell _ _ _ (List.Mem.tail _ (List.Mem.head _)) 5
  go_wp2_with fail
  refine (hI3.out.lay [⟨#[32, 45, 32]⟩] _ (by simp) (by simp) (by have h := hlen.out; (try simp only [List.length_append] at h ⊢); omega)).mono ?_; rintro e w4 ⟨rfl, hi⟩
  have hI4 := Lib.hid hi; clear hi
  have hx4 := hI4.out.lt _ _ _ (List.Mem.tail _ (List.Mem.tail _ (List.Mem.head _)))
  have hy4 := hI4.out.lt _ _ _ (List.Mem.tail _ (List.Mem.head _))
  have q4_0 : w4.cell? ⟨w.heap.size, 0, none⟩ = some (.int .i64 14) := hI4.out.cell _ _ _ (List.Mem.tail _ (List.Mem.tail _ (List.Mem.head _))) 0
  have q4_3 : w4.cell? ⟨w.heap.size, 3, none⟩ = some (.slice (some ⟨bk, off, none⟩) m cap) := hI4.out.cell _ _ _ (List.Mem.tail _ (List.Mem.tail _ (List.Mem.head _))) 3
  have s4_4 : w4.cell? ⟨w1.heap.size, 4, none⟩ = some (.int .i64 2) := hI4.out.cell _ _ _ (List.Mem.tail _ (List.Mem.head _)) 4
  have s4_5 : w4.cell? ⟨w1.heap.size, 5, none⟩ = some (.string ⟨#[32, 45, 32]⟩) := hI4.out.cell _ _ _ (List.Mem.tail _ (List.Mem.head _)) 5
  obtain ⟨k4_4, k4_5, k4_6, k4_7⟩ := hk'.out w4 hI4.out.old
  have hbk4 := (hk.out w4 hI4.out.old).1
  go_wp2_with fail
  refine wp_region_still_tail 8 (by kernel_rfl) (by kernel_rfl) ?_
  simp only [List.take_succ_cons, List.take_zero, List.drop_succ_cons, List.drop_zero]
  change wpStill _ _ (World.drew _) (fun a' => wpList _ _ _ _ a' (World.drew _)) _ _
  repeat still_step
  refine wpStill_nil ?_
  go_wp2_with fail
  refine (hI4.out.drew.expr ih'.out hR'.out (by have h := hlen.out; (try simp only [List.length_append] at h ⊢); omega)).mono ?_; rintro e w5 ⟨rfl, hi⟩
  have hI5 := Lib.hid hi; clear hi
  go_wp2_with fail
  refine leaves_cons (f := 23) (args := #[.pointer (some ⟨b, 0, none⟩), .slice (some ⟨w2.heap.size, 0, none⟩) 1 1]) (by simp) (by simp [go_sem]) ?_
  refine (hI5.out.layd .returning [⟨#[41]⟩] w2.heap.size (List.Mem.head _) (by simp) (by have h := hlen.out; (try simp only [List.length_append] at h ⊢); omega)).mono ?_
  rintro e u' w9 ⟨rfl, rfl, hi⟩
  exact ⟨_, results_none rfl _ _ _, rfl, hi.page, hi.kept⟩

set_option maxRecDepth 100000 in
set_option maxHeartbeats 4000000 in
theorem wexpr_15 (B b : Nat) (l : List UInt8) (t want n : Int) (s : ByteArray) (m cap : Nat) (w0 w : World) (hB : w0.heap.size ≤ B) (hw : Below B w0 w) (hp : PageAt B b l t w) (hwant : want ≤ 3)
    (e0 e1 : Ex) (c0 c1 : Int) (c2 : ByteArray) (A9 : Option Addr) (n9 cap9 : Nat) (d0 d1 : Int) (d2 : ByteArray) (D9 : Option Addr) (m9 dap9 bk off : Nat)
    (hk : Hid (∀ V, Below B w0 V → bk < V.heap.size ∧ V.cell? ⟨bk, off, none⟩ = some (.int .i64 c0) ∧ V.cell? ⟨bk, off + 1, none⟩ = some (.int .i64 c1) ∧ V.cell? ⟨bk, off + 2, none⟩ = some (.string c2) ∧ V.cell? ⟨bk, off + 3, none⟩ = some (.slice A9 n9 cap9)))
    (hk' : Hid (∀ V, Below B w0 V → V.cell? ⟨bk, off + 4, none⟩ = some (.int .i64 d0) ∧ V.cell? ⟨bk, off + 4 + 1, none⟩ = some (.int .i64 d1) ∧ V.cell? ⟨bk, off + 4 + 2, none⟩ = some (.string d2) ∧ V.cell? ⟨bk, off + 4 + 3, none⟩ = some (.slice D9 m9 dap9)))
    (hm : 1 < m) (hR : Hid (Ex.R w0 e0 #[.int .i64 c0, .int .i64 c1, .string c2, .slice A9 n9 cap9])) (hR' : Hid (Ex.R w0 e1 #[.int .i64 d0, .int .i64 d1, .string d2, .slice D9 m9 dap9])) (ih : Hid (Writes B b t w0 e0 3)) (ih' : Hid (Writes B b t w0 e1 4))
    (hlen : Hid (l.length + (atT 3 e0).length + (cat [⟨#[32, 42, 32]⟩]).length + (atT 4 e1).length ≤ 140737488355328)) :
    Calls Tryd.prog 16 #[.pointer (some ⟨b, 0, none⟩), .agg #[.int .i64 15, .int .i64 n, .string s, .slice (some ⟨bk, off, none⟩) m cap], .int .i64 want] w fun x w' => x = .returned (.tuple #[]) ∧ PageAt B b (l ++ atT 3 e0 ++ cat [⟨#[32, 42, 32]⟩] ++ atT 4 e1) t w' ∧ Kept B b w w' := by
  have hbs1 := buildOne
  have hm0 : 0 < m := by omega
  have hm1 : (1 : Int) < (m : Int) := by omega
  have hI0 := Lib.hid ((Inv.start hB hw hp).add #[.int .i64 15, .int .i64 n, .string s, .slice (some ⟨bk, off, none⟩) m cap] 24 (by decide))
  clear hB hw hp
  go_enter Tryd.func16, Tryd.ntmps16
  go_wp2_with fail
  refine (of_15 _).mono ?_; rintro e w1 ⟨rfl, hb⟩
  have hI1 := Lib.hid (hI0.out.below hb); clear hb
  have hx1 := hI1.out.lt _ _ _ (List.Mem.head _)
  have q1_0 : w1.cell? ⟨w.heap.size, 0, none⟩ = some (.int .i64 15) := hI1.out.cell _ _ _ (List.Mem.head _) 0
  have q1_3 : w1.cell? ⟨w.heap.size, 3, none⟩ = some (.slice (some ⟨bk, off, none⟩) m cap) := hI1.out.cell _ _ _ (List.Mem.head _) 3
  have hS1 := Lib.hid (hI1.out.add #[.int .i64 2, .int .i64 2, .bool false, .int .i64 0, .int .i64 3, .string ⟨#[32, 42, 32]⟩] 75 (by decide))
  obtain ⟨hbk1, k1_0, k1_1, k1_2, k1_3⟩ := hk.out w1 hI1.out.old
  go_wp2_with fail
  refine wp_region_still_tail 8 (by kernel_rfl) (by kernel_rfl) ?_
  simp only [List.take_succ_cons, List.take_zero, List.drop_succ_cons, List.drop_zero]
  change wpStill _ _ (World.drew _) (fun a' => wpList _ _ _ _ a' (World.drew _)) _ _
  repeat still_step
  refine wpStill_nil ?_
  go_wp2_with fail
  refine (hS1.out.drew.expr ih.out hR.out (by have h := hlen.out; (try simp only [List.length_append] at h ⊢); omega)).mono ?_; rintro e w2 ⟨rfl, hi⟩
  have hI2 := Lib.hid hi; clear hi
  have hx2 := hI2.out.lt _ _ _ (List.Mem.tail _ (List.Mem.head _))
  have hy2 := hI2.out.lt _ _ _ (List.Mem.head _)
  have q2_0 : w2.cell? ⟨w.heap.size, 0, none⟩ = some (.int .i64 15) := hI2.out.cell _ _ _ (List.Mem.tail _ (List.Mem.head _)) 0
  have q2_3 : w2.cell? ⟨w.heap.size, 3, none⟩ = some (.slice (some ⟨bk, off, none⟩) m cap) := hI2.out.cell _ _ _ (List.Mem.tail _ (List.Mem.head _)) 3
  have s2_4 : w2.cell? ⟨w1.heap.size, 4, none⟩ = some (.int .i64 3) := hI2.out.cell _ _ _ (List.Mem.head _) 4
  have s2_5 : w2.cell? ⟨w1.heap.size, 5, none⟩ = some (.string ⟨#[32, 42, 32]⟩) := hI2.out.cell _ _ _ (List.Mem.head _) 5
  go_wp2_with fail
  refine (hI2.out.lay [⟨#[32, 42, 32]⟩] _ (by simp) (by simp) (by have h := hlen.out; (try simp only [List.length_append] at h ⊢); omega)).mono ?_; rintro e w3 ⟨rfl, hi⟩
  have hI3 := Lib.hid hi; clear hi
  have hx3 := hI3.out.lt _ _ _ (List.Mem.tail _ (List.Mem.head _))
  have hy3 := hI3.out.lt _ _ _ (List.Mem.head _)
  have q3_0 : w3.cell? ⟨w.heap.size, 0, none⟩ = some (.int .i64 15) := hI3.out.cell _ _ _ (List.Mem.tail _ (List.Mem.head _)) 0
  have q3_3 : w3.cell? ⟨w.heap.size, 3, none⟩ = some (.slice (some ⟨bk, off, none⟩) m cap) := hI3.out.cell _ _ _ (List.Mem.tail _ (List.Mem.head _)) 3
  have s3_4 : w3.cell? ⟨w1.heap.size, 4, none⟩ = some (.int .i64 3) := hI3.out.cell _ _ _ (List.Mem.head _) 4
  have s3_5 : w3.cell? ⟨w1.heap.size, 5, none⟩ = some (.string ⟨#[32, 42, 32]⟩) := hI3.out.cell _ _ _ (List.Mem.head _) 5
  obtain ⟨k3_4, k3_5, k3_6, k3_7⟩ := hk'.out w3 hI3.out.old
  have hbk3 := (hk.out w3 hI3.out.old).1
  go_wp2_with fail
  refine wp_region_still_tail 8 (by kernel_rfl) (by kernel_rfl) ?_
  simp only [List.take_succ_cons, List.take_zero, List.drop_succ_cons, List.drop_zero]
  change wpStill _ _ (World.drew _) (fun a' => wpList _ _ _ _ a' (World.drew _)) _ _
  repeat still_step
  refine wpStill_nil ?_
  go_wp2_with fail
  refine (hI3.out.drew.expr ih'.out hR'.out (by have h := hlen.out; (try simp only [List.length_append] at h ⊢); omega)).mono ?_; rintro e w4 ⟨rfl, hi⟩
  have hI4 := Lib.hid hi; clear hi
  go_wp2_with fail
  go_end0
  exact ⟨rfl, hI4.out.page, hI4.out.kept⟩

set_option maxRecDepth 100000 in
set_option maxHeartbeats 4000000 in
theorem wexpr_15p (B b : Nat) (l : List UInt8) (t want n : Int) (s : ByteArray) (m cap : Nat) (w0 w : World) (hB : w0.heap.size ≤ B) (hw : Below B w0 w) (hp : PageAt B b l t w) (hwant : 3 < want)
    (e0 e1 : Ex) (c0 c1 : Int) (c2 : ByteArray) (A9 : Option Addr) (n9 cap9 : Nat) (d0 d1 : Int) (d2 : ByteArray) (D9 : Option Addr) (m9 dap9 bk off : Nat)
    (hk : Hid (∀ V, Below B w0 V → bk < V.heap.size ∧ V.cell? ⟨bk, off, none⟩ = some (.int .i64 c0) ∧ V.cell? ⟨bk, off + 1, none⟩ = some (.int .i64 c1) ∧ V.cell? ⟨bk, off + 2, none⟩ = some (.string c2) ∧ V.cell? ⟨bk, off + 3, none⟩ = some (.slice A9 n9 cap9)))
    (hk' : Hid (∀ V, Below B w0 V → V.cell? ⟨bk, off + 4, none⟩ = some (.int .i64 d0) ∧ V.cell? ⟨bk, off + 4 + 1, none⟩ = some (.int .i64 d1) ∧ V.cell? ⟨bk, off + 4 + 2, none⟩ = some (.string d2) ∧ V.cell? ⟨bk, off + 4 + 3, none⟩ = some (.slice D9 m9 dap9)))
    (hm : 1 < m) (hR : Hid (Ex.R w0 e0 #[.int .i64 c0, .int .i64 c1, .string c2, .slice A9 n9 cap9])) (hR' : Hid (Ex.R w0 e1 #[.int .i64 d0, .int .i64 d1, .string d2, .slice D9 m9 dap9])) (ih : Hid (Writes B b t w0 e0 3)) (ih' : Hid (Writes B b t w0 e1 4))
    (hlen : Hid (l.length + (cat [⟨#[40]⟩]).length + (atT 3 e0).length + (cat [⟨#[32, 42, 32]⟩]).length + (atT 4 e1).length + (cat [⟨#[41]⟩]).length ≤ 140737488355328)) :
    Calls Tryd.prog 16 #[.pointer (some ⟨b, 0, none⟩), .agg #[.int .i64 15, .int .i64 n, .string s, .slice (some ⟨bk, off, none⟩) m cap], .int .i64 want] w fun x w' => x = .returned (.tuple #[]) ∧ PageAt B b (l ++ cat [⟨#[40]⟩] ++ atT 3 e0 ++ cat [⟨#[32, 42, 32]⟩] ++ atT 4 e1 ++ cat [⟨#[41]⟩]) t w' ∧ Kept B b w w' := by
  have hbs1 := buildOne
  have hm0 : 0 < m := by omega
  have hm1 : (1 : Int) < (m : Int) := by omega
  have hI0 := Lib.hid ((Inv.start hB hw hp).add #[.int .i64 15, .int .i64 n, .string s, .slice (some ⟨bk, off, none⟩) m cap] 24 (by decide))
  clear hB hw hp
  go_enter_defers Tryd.func16, Tryd.ntmps16
  go_wp2_with fail
  refine (of_15 _).mono ?_; rintro e w1 ⟨rfl, hb⟩
  have hI1 := Lib.hid (hI0.out.below hb); clear hb
  have hx1 := hI1.out.lt _ _ _ (List.Mem.head _)
  have q1_0 : w1.cell? ⟨w.heap.size, 0, none⟩ = some (.int .i64 15) := hI1.out.cell _ _ _ (List.Mem.head _) 0
  have q1_3 : w1.cell? ⟨w.heap.size, 3, none⟩ = some (.slice (some ⟨bk, off, none⟩) m cap) := hI1.out.cell _ _ _ (List.Mem.head _) 3
  have hS1 := Lib.hid (hI1.out.add #[.int .i64 2, .int .i64 2, .bool false, .int .i64 0, .int .i64 3, .string ⟨#[32, 42, 32]⟩] 75 (by decide))
  obtain ⟨hbk1, k1_0, k1_1, k1_2, k1_3⟩ := hk.out w1 hI1.out.old
  go_wp2_with fail
  refine (hS1.out.lay [⟨#[40]⟩] _ (by simp) (by simp) (by have h := hlen.out; (try simp only [List.length_append] at h ⊢); omega)).mono ?_; rintro e w2 ⟨rfl, hi⟩
  have hI2 := Lib.hid hi; clear hi
  have hx2 := hI2.out.lt _ _ _ (List.Mem.tail _ (List.Mem.head _))
  have hy2 := hI2.out.lt _ _ _ (List.Mem.head _)
  have q2_0 : w2.cell? ⟨w.heap.size, 0, none⟩ = some (.int .i64 15) := hI2.out.cell _ _ _ (List.Mem.tail _ (List.Mem.head _)) 0
  have q2_3 : w2.cell? ⟨w.heap.size, 3, none⟩ = some (.slice (some ⟨bk, off, none⟩) m cap) := hI2.out.cell _ _ _ (List.Mem.tail _ (List.Mem.head _)) 3
  have s2_4 : w2.cell? ⟨w1.heap.size, 4, none⟩ = some (.int .i64 3) := hI2.out.cell _ _ _ (List.Mem.head _) 4
  have s2_5 : w2.cell? ⟨w1.heap.size, 5, none⟩ = some (.string ⟨#[32, 42, 32]⟩) := hI2.out.cell _ _ _ (List.Mem.head _) 5
  obtain ⟨hbk2, k2_0, k2_1, k2_2, k2_3⟩ := hk.out w2 hI2.out.old
  have hS2 := Lib.hid (hI2.out.add #[.string ⟨#[41]⟩] 9 (by decide))
  go_wp2_with fail
  refine wp_region_still_tail 8 (by kernel_rfl) (by kernel_rfl) ?_
  simp only [List.take_succ_cons, List.take_zero, List.drop_succ_cons, List.drop_zero]
  change wpStill _ _ (World.drew _) (fun a' => wpList _ _ _ _ a' (World.drew _)) _ _
  repeat still_step
  refine wpStill_nil ?_
  go_wp2_with fail
  refine (hS2.out.drew.expr ih.out hR.out (by have h := hlen.out; (try simp only [List.length_append] at h ⊢); omega)).mono ?_; rintro e w3 ⟨rfl, hi⟩
  have hI3 := Lib.hid hi; clear hi
  have hx3 := hI3.out.lt _ _ _ (List.Mem.tail _ (List.Mem.tail _ (List.Mem.head _)))
  have hy3 := hI3.out.lt _ _ _ (List.Mem.tail _ (List.Mem.head _))
  have q3_0 : w3.cell? ⟨w.heap.size, 0, none⟩ = some (.int .i64 15) := hI3.out.cell _ _ _ (List.Mem.tail _ (List.Mem.tail _ (List.Mem.head _))) 0
  have q3_3 : w3.cell? ⟨w.heap.size, 3, none⟩ = some (.slice (some ⟨bk, off, none⟩) m cap) := hI3.out.cell _ _ _ (List.Mem.tail _ (List.Mem.tail _ (List.Mem.head _))) 3
  have s3_4 : w3.cell? ⟨w1.heap.size, 4, none⟩ = some (.int .i64 3) := hI3.out.cell _ _ _ (List.Mem.tail _ (List.Mem.head _)) 4
  have s3_5 : w3.cell? ⟨w1.heap.size, 5, none⟩ = some (.string ⟨#[32, 42, 32]⟩) := hI3.out.cell _ _ _ (List.Mem.tail _ (List.Mem.head _)) 5
  go_wp2_with fail
  refine (hI3.out.lay [⟨#[32, 42, 32]⟩] _ (by simp) (by simp) (by have h := hlen.out; (try simp only [List.length_append] at h ⊢); omega)).mono ?_; rintro e w4 ⟨rfl, hi⟩
  have hI4 := Lib.hid hi; clear hi
  have hx4 := hI4.out.lt _ _ _ (List.Mem.tail _ (List.Mem.tail _ (List.Mem.head _)))
  have hy4 := hI4.out.lt _ _ _ (List.Mem.tail _ (List.Mem.head _))
  have q4_0 : w4.cell? ⟨w.heap.size, 0, none⟩ = some (.int .i64 15) := hI4.out.cell _ _ _ (List.Mem.tail _ (List.Mem.tail _ (List.Mem.head _))) 0
  have q4_3 : w4.cell? ⟨w.heap.size, 3, none⟩ = some (.slice (some ⟨bk, off, none⟩) m cap) := hI4.out.cell _ _ _ (List.Mem.tail _ (List.Mem.tail _ (List.Mem.head _))) 3
  have s4_4 : w4.cell? ⟨w1.heap.size, 4, none⟩ = some (.int .i64 3) := hI4.out.cell _ _ _ (List.Mem.tail _ (List.Mem.head _)) 4
  have s4_5 : w4.cell? ⟨w1.heap.size, 5, none⟩ = some (.string ⟨#[32, 42, 32]⟩) := hI4.out.cell _ _ _ (List.Mem.tail _ (List.Mem.head _)) 5
  obtain ⟨k4_4, k4_5, k4_6, k4_7⟩ := hk'.out w4 hI4.out.old
  have hbk4 := (hk.out w4 hI4.out.old).1
  go_wp2_with fail
  refine wp_region_still_tail 8 (by kernel_rfl) (by kernel_rfl) ?_
  simp only [List.take_succ_cons, List.take_zero, List.drop_succ_cons, List.drop_zero]
  change wpStill _ _ (World.drew _) (fun a' => wpList _ _ _ _ a' (World.drew _)) _ _
  repeat still_step
  refine wpStill_nil ?_
  go_wp2_with fail
  refine (hI4.out.drew.expr ih'.out hR'.out (by have h := hlen.out; (try simp only [List.length_append] at h ⊢); omega)).mono ?_; rintro e w5 ⟨rfl, hi⟩
  have hI5 := Lib.hid hi; clear hi
  go_wp2_with fail
  refine leaves_cons (f := 23) (args := #[.pointer (some ⟨b, 0, none⟩), .slice (some ⟨w2.heap.size, 0, none⟩) 1 1]) (by simp) (by simp [go_sem]) ?_
  refine (hI5.out.layd .returning [⟨#[41]⟩] w2.heap.size (List.Mem.head _) (by simp) (by have h := hlen.out; (try simp only [List.length_append] at h ⊢); omega)).mono ?_
  rintro e u' w9 ⟨rfl, rfl, hi⟩
  exact ⟨_, results_none rfl _ _ _, rfl, hi.page, hi.kept⟩

set_option maxRecDepth 100000 in
set_option maxHeartbeats 4000000 in
theorem wexpr_16 (B b : Nat) (l : List UInt8) (t want n : Int) (s : ByteArray) (m cap : Nat) (w0 w : World) (hB : w0.heap.size ≤ B) (hw : Below B w0 w) (hp : PageAt B b l t w) (hwant : want ≤ 3)
    (e0 e1 : Ex) (c0 c1 : Int) (c2 : ByteArray) (A9 : Option Addr) (n9 cap9 : Nat) (d0 d1 : Int) (d2 : ByteArray) (D9 : Option Addr) (m9 dap9 bk off : Nat)
    (hk : Hid (∀ V, Below B w0 V → bk < V.heap.size ∧ V.cell? ⟨bk, off, none⟩ = some (.int .i64 c0) ∧ V.cell? ⟨bk, off + 1, none⟩ = some (.int .i64 c1) ∧ V.cell? ⟨bk, off + 2, none⟩ = some (.string c2) ∧ V.cell? ⟨bk, off + 3, none⟩ = some (.slice A9 n9 cap9)))
    (hk' : Hid (∀ V, Below B w0 V → V.cell? ⟨bk, off + 4, none⟩ = some (.int .i64 d0) ∧ V.cell? ⟨bk, off + 4 + 1, none⟩ = some (.int .i64 d1) ∧ V.cell? ⟨bk, off + 4 + 2, none⟩ = some (.string d2) ∧ V.cell? ⟨bk, off + 4 + 3, none⟩ = some (.slice D9 m9 dap9)))
    (hm : 1 < m) (hR : Hid (Ex.R w0 e0 #[.int .i64 c0, .int .i64 c1, .string c2, .slice A9 n9 cap9])) (hR' : Hid (Ex.R w0 e1 #[.int .i64 d0, .int .i64 d1, .string d2, .slice D9 m9 dap9])) (ih : Hid (Writes B b t w0 e0 3)) (ih' : Hid (Writes B b t w0 e1 4))
    (hlen : Hid (l.length + (atT 3 e0).length + (cat [⟨#[32, 47, 32]⟩]).length + (atT 4 e1).length ≤ 140737488355328)) :
    Calls Tryd.prog 16 #[.pointer (some ⟨b, 0, none⟩), .agg #[.int .i64 16, .int .i64 n, .string s, .slice (some ⟨bk, off, none⟩) m cap], .int .i64 want] w fun x w' => x = .returned (.tuple #[]) ∧ PageAt B b (l ++ atT 3 e0 ++ cat [⟨#[32, 47, 32]⟩] ++ atT 4 e1) t w' ∧ Kept B b w w' := by
  have hbs1 := buildOne
  have hm0 : 0 < m := by omega
  have hm1 : (1 : Int) < (m : Int) := by omega
  have hI0 := Lib.hid ((Inv.start hB hw hp).add #[.int .i64 16, .int .i64 n, .string s, .slice (some ⟨bk, off, none⟩) m cap] 24 (by decide))
  clear hB hw hp
  go_enter Tryd.func16, Tryd.ntmps16
  go_wp2_with fail
  refine (of_16 _).mono ?_; rintro e w1 ⟨rfl, hb⟩
  have hI1 := Lib.hid (hI0.out.below hb); clear hb
  have hx1 := hI1.out.lt _ _ _ (List.Mem.head _)
  have q1_0 : w1.cell? ⟨w.heap.size, 0, none⟩ = some (.int .i64 16) := hI1.out.cell _ _ _ (List.Mem.head _) 0
  have q1_3 : w1.cell? ⟨w.heap.size, 3, none⟩ = some (.slice (some ⟨bk, off, none⟩) m cap) := hI1.out.cell _ _ _ (List.Mem.head _) 3
  have hS1 := Lib.hid (hI1.out.add #[.int .i64 2, .int .i64 2, .bool false, .int .i64 0, .int .i64 3, .string ⟨#[32, 47, 32]⟩] 75 (by decide))
  obtain ⟨hbk1, k1_0, k1_1, k1_2, k1_3⟩ := hk.out w1 hI1.out.old
  go_wp2_with fail
  refine wp_region_still_tail 8 (by kernel_rfl) (by kernel_rfl) ?_
  simp only [List.take_succ_cons, List.take_zero, List.drop_succ_cons, List.drop_zero]
  change wpStill _ _ (World.drew _) (fun a' => wpList _ _ _ _ a' (World.drew _)) _ _
  repeat still_step
  refine wpStill_nil ?_
  go_wp2_with fail
  refine (hS1.out.drew.expr ih.out hR.out (by have h := hlen.out; (try simp only [List.length_append] at h ⊢); omega)).mono ?_; rintro e w2 ⟨rfl, hi⟩
  have hI2 := Lib.hid hi; clear hi
  have hx2 := hI2.out.lt _ _ _ (List.Mem.tail _ (List.Mem.head _))
  have hy2 := hI2.out.lt _ _ _ (List.Mem.head _)
  have q2_0 : w2.cell? ⟨w.heap.size, 0, none⟩ = some (.int .i64 16) := hI2.out.cell _ _ _ (List.Mem.tail _ (List.Mem.head _)) 0
  have q2_3 : w2.cell? ⟨w.heap.size, 3, none⟩ = some (.slice (some ⟨bk, off, none⟩) m cap) := hI2.out.cell _ _ _ (List.Mem.tail _ (List.Mem.head _)) 3
  have s2_4 : w2.cell? ⟨w1.heap.size, 4, none⟩ = some (.int .i64 3) := hI2.out.cell _ _ _ (List.Mem.head _) 4
  have s2_5 : w2.cell? ⟨w1.heap.size, 5, none⟩ = some (.string ⟨#[32, 47, 32]⟩) := hI2.out.cell _ _ _ (List.Mem.head _) 5
  go_wp2_with fail
  refine (hI2.out.lay [⟨#[32, 47, 32]⟩] _ (by simp) (by simp) (by have h := hlen.out; (try simp only [List.length_append] at h ⊢); omega)).mono ?_; rintro e w3 ⟨rfl, hi⟩
  have hI3 := Lib.hid hi; clear hi
  have hx3 := hI3.out.lt _ _ _ (List.Mem.tail _ (List.Mem.head _))
  have hy3 := hI3.out.lt _ _ _ (List.Mem.head _)
  have q3_0 : w3.cell? ⟨w.heap.size, 0, none⟩ = some (.int .i64 16) := hI3.out.cell _ _ _ (List.Mem.tail _ (List.Mem.head _)) 0
  have q3_3 : w3.cell? ⟨w.heap.size, 3, none⟩ = some (.slice (some ⟨bk, off, none⟩) m cap) := hI3.out.cell _ _ _ (List.Mem.tail _ (List.Mem.head _)) 3
  have s3_4 : w3.cell? ⟨w1.heap.size, 4, none⟩ = some (.int .i64 3) := hI3.out.cell _ _ _ (List.Mem.head _) 4
  have s3_5 : w3.cell? ⟨w1.heap.size, 5, none⟩ = some (.string ⟨#[32, 47, 32]⟩) := hI3.out.cell _ _ _ (List.Mem.head _) 5
  obtain ⟨k3_4, k3_5, k3_6, k3_7⟩ := hk'.out w3 hI3.out.old
  have hbk3 := (hk.out w3 hI3.out.old).1
  go_wp2_with fail
  refine wp_region_still_tail 8 (by kernel_rfl) (by kernel_rfl) ?_
  simp only [List.take_succ_cons, List.take_zero, List.drop_succ_cons, List.drop_zero]
  change wpStill _ _ (World.drew _) (fun a' => wpList _ _ _ _ a' (World.drew _)) _ _
  repeat still_step
  refine wpStill_nil ?_
  go_wp2_with fail
  refine (hI3.out.drew.expr ih'.out hR'.out (by have h := hlen.out; (try simp only [List.length_append] at h ⊢); omega)).mono ?_; rintro e w4 ⟨rfl, hi⟩
  have hI4 := Lib.hid hi; clear hi
  go_wp2_with fail
  go_end0
  exact ⟨rfl, hI4.out.page, hI4.out.kept⟩

set_option maxRecDepth 100000 in
set_option maxHeartbeats 4000000 in
theorem wexpr_16p (B b : Nat) (l : List UInt8) (t want n : Int) (s : ByteArray) (m cap : Nat) (w0 w : World) (hB : w0.heap.size ≤ B) (hw : Below B w0 w) (hp : PageAt B b l t w) (hwant : 3 < want)
    (e0 e1 : Ex) (c0 c1 : Int) (c2 : ByteArray) (A9 : Option Addr) (n9 cap9 : Nat) (d0 d1 : Int) (d2 : ByteArray) (D9 : Option Addr) (m9 dap9 bk off : Nat)
    (hk : Hid (∀ V, Below B w0 V → bk < V.heap.size ∧ V.cell? ⟨bk, off, none⟩ = some (.int .i64 c0) ∧ V.cell? ⟨bk, off + 1, none⟩ = some (.int .i64 c1) ∧ V.cell? ⟨bk, off + 2, none⟩ = some (.string c2) ∧ V.cell? ⟨bk, off + 3, none⟩ = some (.slice A9 n9 cap9)))
    (hk' : Hid (∀ V, Below B w0 V → V.cell? ⟨bk, off + 4, none⟩ = some (.int .i64 d0) ∧ V.cell? ⟨bk, off + 4 + 1, none⟩ = some (.int .i64 d1) ∧ V.cell? ⟨bk, off + 4 + 2, none⟩ = some (.string d2) ∧ V.cell? ⟨bk, off + 4 + 3, none⟩ = some (.slice D9 m9 dap9)))
    (hm : 1 < m) (hR : Hid (Ex.R w0 e0 #[.int .i64 c0, .int .i64 c1, .string c2, .slice A9 n9 cap9])) (hR' : Hid (Ex.R w0 e1 #[.int .i64 d0, .int .i64 d1, .string d2, .slice D9 m9 dap9])) (ih : Hid (Writes B b t w0 e0 3)) (ih' : Hid (Writes B b t w0 e1 4))
    (hlen : Hid (l.length + (cat [⟨#[40]⟩]).length + (atT 3 e0).length + (cat [⟨#[32, 47, 32]⟩]).length + (atT 4 e1).length + (cat [⟨#[41]⟩]).length ≤ 140737488355328)) :
    Calls Tryd.prog 16 #[.pointer (some ⟨b, 0, none⟩), .agg #[.int .i64 16, .int .i64 n, .string s, .slice (some ⟨bk, off, none⟩) m cap], .int .i64 want] w fun x w' => x = .returned (.tuple #[]) ∧ PageAt B b (l ++ cat [⟨#[40]⟩] ++ atT 3 e0 ++ cat [⟨#[32, 47, 32]⟩] ++ atT 4 e1 ++ cat [⟨#[41]⟩]) t w' ∧ Kept B b w w' := by
  have hbs1 := buildOne
  have hm0 : 0 < m := by omega
  have hm1 : (1 : Int) < (m : Int) := by omega
  have hI0 := Lib.hid ((Inv.start hB hw hp).add #[.int .i64 16, .int .i64 n, .string s, .slice (some ⟨bk, off, none⟩) m cap] 24 (by decide))
  clear hB hw hp
  go_enter_defers Tryd.func16, Tryd.ntmps16
  go_wp2_with fail
  refine (of_16 _).mono ?_; rintro e w1 ⟨rfl, hb⟩
  have hI1 := Lib.hid (hI0.out.below hb); clear hb
  have hx1 := hI1.out.lt _ _ _ (List.Mem.head _)
  have q1_0 : w1.cell? ⟨w.heap.size, 0, none⟩ = some (.int .i64 16) := hI1.out.cell _ _ _ (List.Mem.head _) 0
  have q1_3 : w1.cell? ⟨w.heap.size, 3, none⟩ = some (.slice (some ⟨bk, off, none⟩) m cap) := hI1.out.cell _ _ _ (List.Mem.head _) 3
  have hS1 := Lib.hid (hI1.out.add #[.int .i64 2, .int .i64 2, .bool false, .int .i64 0, .int .i64 3, .string ⟨#[32, 47, 32]⟩] 75 (by decide))
  obtain ⟨hbk1, k1_0, k1_1, k1_2, k1_3⟩ := hk.out w1 hI1.out.old
  go_wp2_with fail
  refine (hS1.out.lay [⟨#[40]⟩] _ (by simp) (by simp) (by have h := hlen.out; (try simp only [List.length_append] at h ⊢); omega)).mono ?_; rintro e w2 ⟨rfl, hi⟩
  have hI2 := Lib.hid hi; clear hi
  have hx2 := hI2.out.lt _ _ _ (List.Mem.tail _ (List.Mem.head _))
  have hy2 := hI2.out.lt _ _ _ (List.Mem.head _)
  have q2_0 : w2.cell? ⟨w.heap.size, 0, none⟩ = some (.int .i64 16) := hI2.out.cell _ _ _ (List.Mem.tail _ (List.Mem.head _)) 0
  have q2_3 : w2.cell? ⟨w.heap.size, 3, none⟩ = some (.slice (some ⟨bk, off, none⟩) m cap) := hI2.out.cell _ _ _ (List.Mem.tail _ (List.Mem.head _)) 3
  have s2_4 : w2.cell? ⟨w1.heap.size, 4, none⟩ = some (.int .i64 3) := hI2.out.cell _ _ _ (List.Mem.head _) 4
  have s2_5 : w2.cell? ⟨w1.heap.size, 5, none⟩ = some (.string ⟨#[32, 47, 32]⟩) := hI2.out.cell _ _ _ (List.Mem.head _) 5
  obtain ⟨hbk2, k2_0, k2_1, k2_2, k2_3⟩ := hk.out w2 hI2.out.old
  have hS2 := Lib.hid (hI2.out.add #[.string ⟨#[41]⟩] 9 (by decide))
  go_wp2_with fail
  refine wp_region_still_tail 8 (by kernel_rfl) (by kernel_rfl) ?_
  simp only [List.take_succ_cons, List.take_zero, List.drop_succ_cons, List.drop_zero]
  change wpStill _ _ (World.drew _) (fun a' => wpList _ _ _ _ a' (World.drew _)) _ _
  repeat still_step
  refine wpStill_nil ?_
  go_wp2_with fail
  refine (hS2.out.drew.expr ih.out hR.out (by have h := hlen.out; (try simp only [List.length_append] at h ⊢); omega)).mono ?_; rintro e w3 ⟨rfl, hi⟩
  have hI3 := Lib.hid hi; clear hi
  have hx3 := hI3.out.lt _ _ _ (List.Mem.tail _ (List.Mem.tail _ (List.Mem.head _)))
  have hy3 := hI3.out.lt _ _ _ (List.Mem.tail _ (List.Mem.head _))
  have q3_0 : w3.cell? ⟨w.heap.size, 0, none⟩ = some (.int .i64 16) := hI3.out.cell _ _ _ (List.Mem.tail _ (List.Mem.tail _ (List.Mem.head _))) 0
  have q3_3 : w3.cell? ⟨w.heap.size, 3, none⟩ = some (.slice (some ⟨bk, off, none⟩) m cap) := hI3.out.cell _ _ _ (List.Mem.tail _ (List.Mem.tail _ (List.Mem.head _))) 3
  have s3_4 : w3.cell? ⟨w1.heap.size, 4, none⟩ = some (.int .i64 3) := hI3.out.cell _ _ _ (List.Mem.tail _ (List.Mem.head _)) 4
  have s3_5 : w3.cell? ⟨w1.heap.size, 5, none⟩ = some (.string ⟨#[32, 47, 32]⟩) := hI3.out.cell _ _ _ (List.Mem.tail _ (List.Mem.head _)) 5
  go_wp2_with fail
  refine (hI3.out.lay [⟨#[32, 47, 32]⟩] _ (by simp) (by simp) (by have h := hlen.out; (try simp only [List.length_append] at h ⊢); omega)).mono ?_; rintro e w4 ⟨rfl, hi⟩
  have hI4 := Lib.hid hi; clear hi
  have hx4 := hI4.out.lt _ _ _ (List.Mem.tail _ (List.Mem.tail _ (List.Mem.head _)))
  have hy4 := hI4.out.lt _ _ _ (List.Mem.tail _ (List.Mem.head _))
  have q4_0 : w4.cell? ⟨w.heap.size, 0, none⟩ = some (.int .i64 16) := hI4.out.cell _ _ _ (List.Mem.tail _ (List.Mem.tail _ (List.Mem.head _))) 0
  have q4_3 : w4.cell? ⟨w.heap.size, 3, none⟩ = some (.slice (some ⟨bk, off, none⟩) m cap) := hI4.out.cell _ _ _ (List.Mem.tail _ (List.Mem.tail _ (List.Mem.head _))) 3
  have s4_4 : w4.cell? ⟨w1.heap.size, 4, none⟩ = some (.int .i64 3) := hI4.out.cell _ _ _ (List.Mem.tail _ (List.Mem.head _)) 4
  have s4_5 : w4.cell? ⟨w1.heap.size, 5, none⟩ = some (.string ⟨#[32, 47, 32]⟩) := hI4.out.cell _ _ _ (List.Mem.tail _ (List.Mem.head _)) 5
  obtain ⟨k4_4, k4_5, k4_6, k4_7⟩ := hk'.out w4 hI4.out.old
  have hbk4 := (hk.out w4 hI4.out.old).1
  go_wp2_with fail
  refine wp_region_still_tail 8 (by kernel_rfl) (by kernel_rfl) ?_
  simp only [List.take_succ_cons, List.take_zero, List.drop_succ_cons, List.drop_zero]
  change wpStill _ _ (World.drew _) (fun a' => wpList _ _ _ _ a' (World.drew _)) _ _
  repeat still_step
  refine wpStill_nil ?_
  go_wp2_with fail
  refine (hI4.out.drew.expr ih'.out hR'.out (by have h := hlen.out; (try simp only [List.length_append] at h ⊢); omega)).mono ?_; rintro e w5 ⟨rfl, hi⟩
  have hI5 := Lib.hid hi; clear hi
  go_wp2_with fail
  refine leaves_cons (f := 23) (args := #[.pointer (some ⟨b, 0, none⟩), .slice (some ⟨w2.heap.size, 0, none⟩) 1 1]) (by simp) (by simp [go_sem]) ?_
  refine (hI5.out.layd .returning [⟨#[41]⟩] w2.heap.size (List.Mem.head _) (by simp) (by have h := hlen.out; (try simp only [List.length_append] at h ⊢); omega)).mono ?_
  rintro e u' w9 ⟨rfl, rfl, hi⟩
  exact ⟨_, results_none rfl _ _ _, rfl, hi.page, hi.kept⟩

set_option maxRecDepth 100000 in
set_option maxHeartbeats 4000000 in
theorem wexpr_17 (B b : Nat) (l : List UInt8) (t want n : Int) (s : ByteArray) (m cap : Nat) (w0 w : World) (hB : w0.heap.size ≤ B) (hw : Below B w0 w) (hp : PageAt B b l t w) (hwant : want ≤ 1)
    (e0 e1 : Ex) (c0 c1 : Int) (c2 : ByteArray) (A9 : Option Addr) (n9 cap9 : Nat) (d0 d1 : Int) (d2 : ByteArray) (D9 : Option Addr) (m9 dap9 bk off : Nat)
    (hk : Hid (∀ V, Below B w0 V → bk < V.heap.size ∧ V.cell? ⟨bk, off, none⟩ = some (.int .i64 c0) ∧ V.cell? ⟨bk, off + 1, none⟩ = some (.int .i64 c1) ∧ V.cell? ⟨bk, off + 2, none⟩ = some (.string c2) ∧ V.cell? ⟨bk, off + 3, none⟩ = some (.slice A9 n9 cap9)))
    (hk' : Hid (∀ V, Below B w0 V → V.cell? ⟨bk, off + 4, none⟩ = some (.int .i64 d0) ∧ V.cell? ⟨bk, off + 4 + 1, none⟩ = some (.int .i64 d1) ∧ V.cell? ⟨bk, off + 4 + 2, none⟩ = some (.string d2) ∧ V.cell? ⟨bk, off + 4 + 3, none⟩ = some (.slice D9 m9 dap9)))
    (hm : 1 < m) (hR : Hid (Ex.R w0 e0 #[.int .i64 c0, .int .i64 c1, .string c2, .slice A9 n9 cap9])) (hR' : Hid (Ex.R w0 e1 #[.int .i64 d0, .int .i64 d1, .string d2, .slice D9 m9 dap9])) (ih : Hid (Writes B b t w0 e0 2)) (ih' : Hid (Writes B b t w0 e1 2))
    (hlen : Hid (l.length + (atT 2 e0).length + (cat [⟨#[32, 60, 32]⟩]).length + (atT 2 e1).length ≤ 140737488355328)) :
    Calls Tryd.prog 16 #[.pointer (some ⟨b, 0, none⟩), .agg #[.int .i64 17, .int .i64 n, .string s, .slice (some ⟨bk, off, none⟩) m cap], .int .i64 want] w fun x w' => x = .returned (.tuple #[]) ∧ PageAt B b (l ++ atT 2 e0 ++ cat [⟨#[32, 60, 32]⟩] ++ atT 2 e1) t w' ∧ Kept B b w w' := by
  have hbs1 := buildOne
  have hm0 : 0 < m := by omega
  have hm1 : (1 : Int) < (m : Int) := by omega
  have hI0 := Lib.hid ((Inv.start hB hw hp).add #[.int .i64 17, .int .i64 n, .string s, .slice (some ⟨bk, off, none⟩) m cap] 24 (by decide))
  clear hB hw hp
  go_enter Tryd.func16, Tryd.ntmps16
  go_wp2_with fail
  refine (of_17 _).mono ?_; rintro e w1 ⟨rfl, hb⟩
  have hI1 := Lib.hid (hI0.out.below hb); clear hb
  have hx1 := hI1.out.lt _ _ _ (List.Mem.head _)
  have q1_0 : w1.cell? ⟨w.heap.size, 0, none⟩ = some (.int .i64 17) := hI1.out.cell _ _ _ (List.Mem.head _) 0
  have q1_3 : w1.cell? ⟨w.heap.size, 3, none⟩ = some (.slice (some ⟨bk, off, none⟩) m cap) := hI1.out.cell _ _ _ (List.Mem.head _) 3
  have hS1 := Lib.hid (hI1.out.add #[.int .i64 2, .int .i64 2, .bool false, .int .i64 0, .int .i64 1, .string ⟨#[32, 60, 32]⟩] 75 (by decide))
  obtain ⟨hbk1, k1_0, k1_1, k1_2, k1_3⟩ := hk.out w1 hI1.out.old
  go_wp2_with fail
  refine wp_region_still_tail 8 (by kernel_rfl) (by kernel_rfl) ?_
  simp only [List.take_succ_cons, List.take_zero, List.drop_succ_cons, List.drop_zero]
  change wpStill _ _ (World.drew _) (fun a' => wpList _ _ _ _ a' (World.drew _)) _ _
  repeat still_step
  refine wpStill_nil ?_
  go_wp2_with fail
  refine (hS1.out.drew.expr ih.out hR.out (by have h := hlen.out; (try simp only [List.length_append] at h ⊢); omega)).mono ?_; rintro e w2 ⟨rfl, hi⟩
  have hI2 := Lib.hid hi; clear hi
  have hx2 := hI2.out.lt _ _ _ (List.Mem.tail _ (List.Mem.head _))
  have hy2 := hI2.out.lt _ _ _ (List.Mem.head _)
  have q2_0 : w2.cell? ⟨w.heap.size, 0, none⟩ = some (.int .i64 17) := hI2.out.cell _ _ _ (List.Mem.tail _ (List.Mem.head _)) 0
  have q2_3 : w2.cell? ⟨w.heap.size, 3, none⟩ = some (.slice (some ⟨bk, off, none⟩) m cap) := hI2.out.cell _ _ _ (List.Mem.tail _ (List.Mem.head _)) 3
  have s2_4 : w2.cell? ⟨w1.heap.size, 4, none⟩ = some (.int .i64 1) := hI2.out.cell _ _ _ (List.Mem.head _) 4
  have s2_5 : w2.cell? ⟨w1.heap.size, 5, none⟩ = some (.string ⟨#[32, 60, 32]⟩) := hI2.out.cell _ _ _ (List.Mem.head _) 5
  go_wp2_with fail
  refine (hI2.out.lay [⟨#[32, 60, 32]⟩] _ (by simp) (by simp) (by have h := hlen.out; (try simp only [List.length_append] at h ⊢); omega)).mono ?_; rintro e w3 ⟨rfl, hi⟩
  have hI3 := Lib.hid hi; clear hi
  have hx3 := hI3.out.lt _ _ _ (List.Mem.tail _ (List.Mem.head _))
  have hy3 := hI3.out.lt _ _ _ (List.Mem.head _)
  have q3_0 : w3.cell? ⟨w.heap.size, 0, none⟩ = some (.int .i64 17) := hI3.out.cell _ _ _ (List.Mem.tail _ (List.Mem.head _)) 0
  have q3_3 : w3.cell? ⟨w.heap.size, 3, none⟩ = some (.slice (some ⟨bk, off, none⟩) m cap) := hI3.out.cell _ _ _ (List.Mem.tail _ (List.Mem.head _)) 3
  have s3_4 : w3.cell? ⟨w1.heap.size, 4, none⟩ = some (.int .i64 1) := hI3.out.cell _ _ _ (List.Mem.head _) 4
  have s3_5 : w3.cell? ⟨w1.heap.size, 5, none⟩ = some (.string ⟨#[32, 60, 32]⟩) := hI3.out.cell _ _ _ (List.Mem.head _) 5
  obtain ⟨k3_4, k3_5, k3_6, k3_7⟩ := hk'.out w3 hI3.out.old
  have hbk3 := (hk.out w3 hI3.out.old).1
  go_wp2_with fail
  refine wp_region_still_tail 8 (by kernel_rfl) (by kernel_rfl) ?_
  simp only [List.take_succ_cons, List.take_zero, List.drop_succ_cons, List.drop_zero]
  change wpStill _ _ (World.drew _) (fun a' => wpList _ _ _ _ a' (World.drew _)) _ _
  repeat still_step
  refine wpStill_nil ?_
  go_wp2_with fail
  refine (hI3.out.drew.expr ih'.out hR'.out (by have h := hlen.out; (try simp only [List.length_append] at h ⊢); omega)).mono ?_; rintro e w4 ⟨rfl, hi⟩
  have hI4 := Lib.hid hi; clear hi
  go_wp2_with fail
  go_end0
  exact ⟨rfl, hI4.out.page, hI4.out.kept⟩

set_option maxRecDepth 100000 in
set_option maxHeartbeats 4000000 in
theorem wexpr_17p (B b : Nat) (l : List UInt8) (t want n : Int) (s : ByteArray) (m cap : Nat) (w0 w : World) (hB : w0.heap.size ≤ B) (hw : Below B w0 w) (hp : PageAt B b l t w) (hwant : 1 < want)
    (e0 e1 : Ex) (c0 c1 : Int) (c2 : ByteArray) (A9 : Option Addr) (n9 cap9 : Nat) (d0 d1 : Int) (d2 : ByteArray) (D9 : Option Addr) (m9 dap9 bk off : Nat)
    (hk : Hid (∀ V, Below B w0 V → bk < V.heap.size ∧ V.cell? ⟨bk, off, none⟩ = some (.int .i64 c0) ∧ V.cell? ⟨bk, off + 1, none⟩ = some (.int .i64 c1) ∧ V.cell? ⟨bk, off + 2, none⟩ = some (.string c2) ∧ V.cell? ⟨bk, off + 3, none⟩ = some (.slice A9 n9 cap9)))
    (hk' : Hid (∀ V, Below B w0 V → V.cell? ⟨bk, off + 4, none⟩ = some (.int .i64 d0) ∧ V.cell? ⟨bk, off + 4 + 1, none⟩ = some (.int .i64 d1) ∧ V.cell? ⟨bk, off + 4 + 2, none⟩ = some (.string d2) ∧ V.cell? ⟨bk, off + 4 + 3, none⟩ = some (.slice D9 m9 dap9)))
    (hm : 1 < m) (hR : Hid (Ex.R w0 e0 #[.int .i64 c0, .int .i64 c1, .string c2, .slice A9 n9 cap9])) (hR' : Hid (Ex.R w0 e1 #[.int .i64 d0, .int .i64 d1, .string d2, .slice D9 m9 dap9])) (ih : Hid (Writes B b t w0 e0 2)) (ih' : Hid (Writes B b t w0 e1 2))
    (hlen : Hid (l.length + (cat [⟨#[40]⟩]).length + (atT 2 e0).length + (cat [⟨#[32, 60, 32]⟩]).length + (atT 2 e1).length + (cat [⟨#[41]⟩]).length ≤ 140737488355328)) :
    Calls Tryd.prog 16 #[.pointer (some ⟨b, 0, none⟩), .agg #[.int .i64 17, .int .i64 n, .string s, .slice (some ⟨bk, off, none⟩) m cap], .int .i64 want] w fun x w' => x = .returned (.tuple #[]) ∧ PageAt B b (l ++ cat [⟨#[40]⟩] ++ atT 2 e0 ++ cat [⟨#[32, 60, 32]⟩] ++ atT 2 e1 ++ cat [⟨#[41]⟩]) t w' ∧ Kept B b w w' := by
  have hbs1 := buildOne
  have hm0 : 0 < m := by omega
  have hm1 : (1 : Int) < (m : Int) := by omega
  have hI0 := Lib.hid ((Inv.start hB hw hp).add #[.int .i64 17, .int .i64 n, .string s, .slice (some ⟨bk, off, none⟩) m cap] 24 (by decide))
  clear hB hw hp
  go_enter_defers Tryd.func16, Tryd.ntmps16
  go_wp2_with fail
  refine (of_17 _).mono ?_; rintro e w1 ⟨rfl, hb⟩
  have hI1 := Lib.hid (hI0.out.below hb); clear hb
  have hx1 := hI1.out.lt _ _ _ (List.Mem.head _)
  have q1_0 : w1.cell? ⟨w.heap.size, 0, none⟩ = some (.int .i64 17) := hI1.out.cell _ _ _ (List.Mem.head _) 0
  have q1_3 : w1.cell? ⟨w.heap.size, 3, none⟩ = some (.slice (some ⟨bk, off, none⟩) m cap) := hI1.out.cell _ _ _ (List.Mem.head _) 3
  have hS1 := Lib.hid (hI1.out.add #[.int .i64 2, .int .i64 2, .bool false, .int .i64 0, .int .i64 1, .string ⟨#[32, 60, 32]⟩] 75 (by decide))
  obtain ⟨hbk1, k1_0, k1_1, k1_2, k1_3⟩ := hk.out w1 hI1.out.old
  go_wp2_with fail
  refine (hS1.out.lay [⟨#[40]⟩] _ (by simp) (by simp) (by have h := hlen.out; (try simp only [List.length_append] at h ⊢); omega)).mono ?_; rintro e w2 ⟨rfl, hi⟩
  have hI2 := Lib.hid hi; clear hi
  have hx2 := hI2.out.lt _ _ _ (List.Mem.tail _ (List.Mem.head _))
  have hy2 := hI2.out.lt _ _ _ (List.Mem.head _)
  have q2_0 : w2.cell? ⟨w.heap.size, 0, none⟩ = some (.int .i64 17) := hI2.out.cell _ _ _ (List.Mem.tail _ (List.Mem.head _)) 0
  have q2_3 : w2.cell? ⟨w.heap.size, 3, none⟩ = some (.slice (some ⟨bk, off, none⟩) m cap) := hI2.out.cell _ _ _ (List.Mem.tail _ (List.Mem.head _)) 3
  have s2_4 : w2.cell? ⟨w1.heap.size, 4, none⟩ = some (.int .i64 1) := hI2.out.cell _ _ _ (List.Mem.head _) 4
  have s2_5 : w2.cell? ⟨w1.heap.size, 5, none⟩ = some (.string ⟨#[32, 60, 32]⟩) := hI2.out.cell _ _ _ (List.Mem.head _) 5
  obtain ⟨hbk2, k2_0, k2_1, k2_2, k2_3⟩ := hk.out w2 hI2.out.old
  have hS2 := Lib.hid (hI2.out.add #[.string ⟨#[41]⟩] 9 (by decide))
  go_wp2_with fail
  refine wp_region_still_tail 8 (by kernel_rfl) (by kernel_rfl) ?_
  simp only [List.take_succ_cons, List.take_zero, List.drop_succ_cons, List.drop_zero]
  change wpStill _ _ (World.drew _) (fun a' => wpList _ _ _ _ a' (World.drew _)) _ _
  repeat still_step
  refine wpStill_nil ?_
  go_wp2_with fail
  refine (hS2.out.drew.expr ih.out hR.out (by have h := hlen.out; (try simp only [List.length_append] at h ⊢); omega)).mono ?_; rintro e w3 ⟨rfl, hi⟩
  have hI3 := Lib.hid hi; clear hi
  have hx3 := hI3.out.lt _ _ _ (List.Mem.tail _ (List.Mem.tail _ (List.Mem.head _)))
  have hy3 := hI3.out.lt _ _ _ (List.Mem.tail _ (List.Mem.head _))
  have q3_0 : w3.cell? ⟨w.heap.size, 0, none⟩ = some (.int .i64 17) := hI3.out.cell _ _ _ (List.Mem.tail _ (List.Mem.tail _ (List.Mem.head _))) 0
  have q3_3 : w3.cell? ⟨w.heap.size, 3, none⟩ = some (.slice (some ⟨bk, off, none⟩) m cap) := hI3.out.cell _ _ _ (List.Mem.tail _ (List.Mem.tail _ (List.Mem.head _))) 3
  have s3_4 : w3.cell? ⟨w1.heap.size, 4, none⟩ = some (.int .i64 1) := hI3.out.cell _ _ _ (List.Mem.tail _ (List.Mem.head _)) 4
  have s3_5 : w3.cell? ⟨w1.heap.size, 5, none⟩ = some (.string ⟨#[32, 60, 32]⟩) := hI3.out.cell _ _ _ (List.Mem.tail _ (List.Mem.head _)) 5
  go_wp2_with fail
  refine (hI3.out.lay [⟨#[32, 60, 32]⟩] _ (by simp) (by simp) (by have h := hlen.out; (try simp only [List.length_append] at h ⊢); omega)).mono ?_; rintro e w4 ⟨rfl, hi⟩
  have hI4 := Lib.hid hi; clear hi
  have hx4 := hI4.out.lt _ _ _ (List.Mem.tail _ (List.Mem.tail _ (List.Mem.head _)))
  have hy4 := hI4.out.lt _ _ _ (List.Mem.tail _ (List.Mem.head _))
  have q4_0 : w4.cell? ⟨w.heap.size, 0, none⟩ = some (.int .i64 17) := hI4.out.cell _ _ _ (List.Mem.tail _ (List.Mem.tail _ (List.Mem.head _))) 0
  have q4_3 : w4.cell? ⟨w.heap.size, 3, none⟩ = some (.slice (some ⟨bk, off, none⟩) m cap) := hI4.out.cell _ _ _ (List.Mem.tail _ (List.Mem.tail _ (List.Mem.head _))) 3
  have s4_4 : w4.cell? ⟨w1.heap.size, 4, none⟩ = some (.int .i64 1) := hI4.out.cell _ _ _ (List.Mem.tail _ (List.Mem.head _)) 4
  have s4_5 : w4.cell? ⟨w1.heap.size, 5, none⟩ = some (.string ⟨#[32, 60, 32]⟩) := hI4.out.cell _ _ _ (List.Mem.tail _ (List.Mem.head _)) 5
  obtain ⟨k4_4, k4_5, k4_6, k4_7⟩ := hk'.out w4 hI4.out.old
  have hbk4 := (hk.out w4 hI4.out.old).1
  go_wp2_with fail
  refine wp_region_still_tail 8 (by kernel_rfl) (by kernel_rfl) ?_
  simp only [List.take_succ_cons, List.take_zero, List.drop_succ_cons, List.drop_zero]
  change wpStill _ _ (World.drew _) (fun a' => wpList _ _ _ _ a' (World.drew _)) _ _
  repeat still_step
  refine wpStill_nil ?_
  go_wp2_with fail
  refine (hI4.out.drew.expr ih'.out hR'.out (by have h := hlen.out; (try simp only [List.length_append] at h ⊢); omega)).mono ?_; rintro e w5 ⟨rfl, hi⟩
  have hI5 := Lib.hid hi; clear hi
  go_wp2_with fail
  refine leaves_cons (f := 23) (args := #[.pointer (some ⟨b, 0, none⟩), .slice (some ⟨w2.heap.size, 0, none⟩) 1 1]) (by simp) (by simp [go_sem]) ?_
  refine (hI5.out.layd .returning [⟨#[41]⟩] w2.heap.size (List.Mem.head _) (by simp) (by have h := hlen.out; (try simp only [List.length_append] at h ⊢); omega)).mono ?_
  rintro e u' w9 ⟨rfl, rfl, hi⟩
  exact ⟨_, results_none rfl _ _ _, rfl, hi.page, hi.kept⟩

set_option maxRecDepth 100000 in
set_option maxHeartbeats 4000000 in
theorem wexpr_18 (B b : Nat) (l : List UInt8) (t want n : Int) (s : ByteArray) (m cap : Nat) (w0 w : World) (hB : w0.heap.size ≤ B) (hw : Below B w0 w) (hp : PageAt B b l t w) (hwant : want ≤ 1)
    (e0 e1 : Ex) (c0 c1 : Int) (c2 : ByteArray) (A9 : Option Addr) (n9 cap9 : Nat) (d0 d1 : Int) (d2 : ByteArray) (D9 : Option Addr) (m9 dap9 bk off : Nat)
    (hk : Hid (∀ V, Below B w0 V → bk < V.heap.size ∧ V.cell? ⟨bk, off, none⟩ = some (.int .i64 c0) ∧ V.cell? ⟨bk, off + 1, none⟩ = some (.int .i64 c1) ∧ V.cell? ⟨bk, off + 2, none⟩ = some (.string c2) ∧ V.cell? ⟨bk, off + 3, none⟩ = some (.slice A9 n9 cap9)))
    (hk' : Hid (∀ V, Below B w0 V → V.cell? ⟨bk, off + 4, none⟩ = some (.int .i64 d0) ∧ V.cell? ⟨bk, off + 4 + 1, none⟩ = some (.int .i64 d1) ∧ V.cell? ⟨bk, off + 4 + 2, none⟩ = some (.string d2) ∧ V.cell? ⟨bk, off + 4 + 3, none⟩ = some (.slice D9 m9 dap9)))
    (hm : 1 < m) (hR : Hid (Ex.R w0 e0 #[.int .i64 c0, .int .i64 c1, .string c2, .slice A9 n9 cap9])) (hR' : Hid (Ex.R w0 e1 #[.int .i64 d0, .int .i64 d1, .string d2, .slice D9 m9 dap9])) (ih : Hid (Writes B b t w0 e0 2)) (ih' : Hid (Writes B b t w0 e1 2))
    (hlen : Hid (l.length + (atT 2 e0).length + (cat [⟨#[32, 61, 61, 32]⟩]).length + (atT 2 e1).length ≤ 140737488355328)) :
    Calls Tryd.prog 16 #[.pointer (some ⟨b, 0, none⟩), .agg #[.int .i64 18, .int .i64 n, .string s, .slice (some ⟨bk, off, none⟩) m cap], .int .i64 want] w fun x w' => x = .returned (.tuple #[]) ∧ PageAt B b (l ++ atT 2 e0 ++ cat [⟨#[32, 61, 61, 32]⟩] ++ atT 2 e1) t w' ∧ Kept B b w w' := by
  have hbs1 := buildOne
  have hm0 : 0 < m := by omega
  have hm1 : (1 : Int) < (m : Int) := by omega
  have hI0 := Lib.hid ((Inv.start hB hw hp).add #[.int .i64 18, .int .i64 n, .string s, .slice (some ⟨bk, off, none⟩) m cap] 24 (by decide))
  clear hB hw hp
  go_enter Tryd.func16, Tryd.ntmps16
  go_wp2_with fail
  refine (of_18 _).mono ?_; rintro e w1 ⟨rfl, hb⟩
  have hI1 := Lib.hid (hI0.out.below hb); clear hb
  have hx1 := hI1.out.lt _ _ _ (List.Mem.head _)
  have q1_0 : w1.cell? ⟨w.heap.size, 0, none⟩ = some (.int .i64 18) := hI1.out.cell _ _ _ (List.Mem.head _) 0
  have q1_3 : w1.cell? ⟨w.heap.size, 3, none⟩ = some (.slice (some ⟨bk, off, none⟩) m cap) := hI1.out.cell _ _ _ (List.Mem.head _) 3
  have hS1 := Lib.hid (hI1.out.add #[.int .i64 2, .int .i64 2, .bool false, .int .i64 0, .int .i64 1, .string ⟨#[32, 61, 61, 32]⟩] 75 (by decide))
  obtain ⟨hbk1, k1_0, k1_1, k1_2, k1_3⟩ := hk.out w1 hI1.out.old
  go_wp2_with fail
  refine wp_region_still_tail 8 (by kernel_rfl) (by kernel_rfl) ?_
  simp only [List.take_succ_cons, List.take_zero, List.drop_succ_cons, List.drop_zero]
  change wpStill _ _ (World.drew _) (fun a' => wpList _ _ _ _ a' (World.drew _)) _ _
  repeat still_step
  refine wpStill_nil ?_
  go_wp2_with fail
  refine (hS1.out.drew.expr ih.out hR.out (by have h := hlen.out; (try simp only [List.length_append] at h ⊢); omega)).mono ?_; rintro e w2 ⟨rfl, hi⟩
  have hI2 := Lib.hid hi; clear hi
  have hx2 := hI2.out.lt _ _ _ (List.Mem.tail _ (List.Mem.head _))
  have hy2 := hI2.out.lt _ _ _ (List.Mem.head _)
  have q2_0 : w2.cell? ⟨w.heap.size, 0, none⟩ = some (.int .i64 18) := hI2.out.cell _ _ _ (List.Mem.tail _ (List.Mem.head _)) 0
  have q2_3 : w2.cell? ⟨w.heap.size, 3, none⟩ = some (.slice (some ⟨bk, off, none⟩) m cap) := hI2.out.cell _ _ _ (List.Mem.tail _ (List.Mem.head _)) 3
  have s2_4 : w2.cell? ⟨w1.heap.size, 4, none⟩ = some (.int .i64 1) := hI2.out.cell _ _ _ (List.Mem.head _) 4
  have s2_5 : w2.cell? ⟨w1.heap.size, 5, none⟩ = some (.string ⟨#[32, 61, 61, 32]⟩) := hI2.out.cell _ _ _ (List.Mem.head _) 5
  go_wp2_with fail
  refine (hI2.out.lay [⟨#[32, 61, 61, 32]⟩] _ (by simp) (by simp) (by have h := hlen.out; (try simp only [List.length_append] at h ⊢); omega)).mono ?_; rintro e w3 ⟨rfl, hi⟩
  have hI3 := Lib.hid hi; clear hi
  have hx3 := hI3.out.lt _ _ _ (List.Mem.tail _ (List.Mem.head _))
  have hy3 := hI3.out.lt _ _ _ (List.Mem.head _)
  have q3_0 : w3.cell? ⟨w.heap.size, 0, none⟩ = some (.int .i64 18) := hI3.out.cell _ _ _ (List.Mem.tail _ (List.Mem.head _)) 0
  have q3_3 : w3.cell? ⟨w.heap.size, 3, none⟩ = some (.slice (some ⟨bk, off, none⟩) m cap) := hI3.out.cell _ _ _ (List.Mem.tail _ (List.Mem.head _)) 3
  have s3_4 : w3.cell? ⟨w1.heap.size, 4, none⟩ = some (.int .i64 1) := hI3.out.cell _ _ _ (List.Mem.head _) 4
  have s3_5 : w3.cell? ⟨w1.heap.size, 5, none⟩ = some (.string ⟨#[32, 61, 61, 32]⟩) := hI3.out.cell _ _ _ (List.Mem.head _) 5
  obtain ⟨k3_4, k3_5, k3_6, k3_7⟩ := hk'.out w3 hI3.out.old
  have hbk3 := (hk.out w3 hI3.out.old).1
  go_wp2_with fail
  refine wp_region_still_tail 8 (by kernel_rfl) (by kernel_rfl) ?_
  simp only [List.take_succ_cons, List.take_zero, List.drop_succ_cons, List.drop_zero]
  change wpStill _ _ (World.drew _) (fun a' => wpList _ _ _ _ a' (World.drew _)) _ _
  repeat still_step
  refine wpStill_nil ?_
  go_wp2_with fail
  refine (hI3.out.drew.expr ih'.out hR'.out (by have h := hlen.out; (try simp only [List.length_append] at h ⊢); omega)).mono ?_; rintro e w4 ⟨rfl, hi⟩
  have hI4 := Lib.hid hi; clear hi
  go_wp2_with fail
  go_end0
  exact ⟨rfl, hI4.out.page, hI4.out.kept⟩

set_option maxRecDepth 100000 in
set_option maxHeartbeats 4000000 in
theorem wexpr_18p (B b : Nat) (l : List UInt8) (t want n : Int) (s : ByteArray) (m cap : Nat) (w0 w : World) (hB : w0.heap.size ≤ B) (hw : Below B w0 w) (hp : PageAt B b l t w) (hwant : 1 < want)
    (e0 e1 : Ex) (c0 c1 : Int) (c2 : ByteArray) (A9 : Option Addr) (n9 cap9 : Nat) (d0 d1 : Int) (d2 : ByteArray) (D9 : Option Addr) (m9 dap9 bk off : Nat)
    (hk : Hid (∀ V, Below B w0 V → bk < V.heap.size ∧ V.cell? ⟨bk, off, none⟩ = some (.int .i64 c0) ∧ V.cell? ⟨bk, off + 1, none⟩ = some (.int .i64 c1) ∧ V.cell? ⟨bk, off + 2, none⟩ = some (.string c2) ∧ V.cell? ⟨bk, off + 3, none⟩ = some (.slice A9 n9 cap9)))
    (hk' : Hid (∀ V, Below B w0 V → V.cell? ⟨bk, off + 4, none⟩ = some (.int .i64 d0) ∧ V.cell? ⟨bk, off + 4 + 1, none⟩ = some (.int .i64 d1) ∧ V.cell? ⟨bk, off + 4 + 2, none⟩ = some (.string d2) ∧ V.cell? ⟨bk, off + 4 + 3, none⟩ = some (.slice D9 m9 dap9)))
    (hm : 1 < m) (hR : Hid (Ex.R w0 e0 #[.int .i64 c0, .int .i64 c1, .string c2, .slice A9 n9 cap9])) (hR' : Hid (Ex.R w0 e1 #[.int .i64 d0, .int .i64 d1, .string d2, .slice D9 m9 dap9])) (ih : Hid (Writes B b t w0 e0 2)) (ih' : Hid (Writes B b t w0 e1 2))
    (hlen : Hid (l.length + (cat [⟨#[40]⟩]).length + (atT 2 e0).length + (cat [⟨#[32, 61, 61, 32]⟩]).length + (atT 2 e1).length + (cat [⟨#[41]⟩]).length ≤ 140737488355328)) :
    Calls Tryd.prog 16 #[.pointer (some ⟨b, 0, none⟩), .agg #[.int .i64 18, .int .i64 n, .string s, .slice (some ⟨bk, off, none⟩) m cap], .int .i64 want] w fun x w' => x = .returned (.tuple #[]) ∧ PageAt B b (l ++ cat [⟨#[40]⟩] ++ atT 2 e0 ++ cat [⟨#[32, 61, 61, 32]⟩] ++ atT 2 e1 ++ cat [⟨#[41]⟩]) t w' ∧ Kept B b w w' := by
  have hbs1 := buildOne
  have hm0 : 0 < m := by omega
  have hm1 : (1 : Int) < (m : Int) := by omega
  have hI0 := Lib.hid ((Inv.start hB hw hp).add #[.int .i64 18, .int .i64 n, .string s, .slice (some ⟨bk, off, none⟩) m cap] 24 (by decide))
  clear hB hw hp
  go_enter_defers Tryd.func16, Tryd.ntmps16
  go_wp2_with fail
  refine (of_18 _).mono ?_; rintro e w1 ⟨rfl, hb⟩
  have hI1 := Lib.hid (hI0.out.below hb); clear hb
  have hx1 := hI1.out.lt _ _ _ (List.Mem.head _)
  have q1_0 : w1.cell? ⟨w.heap.size, 0, none⟩ = some (.int .i64 18) := hI1.out.cell _ _ _ (List.Mem.head _) 0
  have q1_3 : w1.cell? ⟨w.heap.size, 3, none⟩ = some (.slice (some ⟨bk, off, none⟩) m cap) := hI1.out.cell _ _ _ (List.Mem.head _) 3
  have hS1 := Lib.hid (hI1.out.add #[.int .i64 2, .int .i64 2, .bool false, .int .i64 0, .int .i64 1, .string ⟨#[32, 61, 61, 32]⟩] 75 (by decide))
  obtain ⟨hbk1, k1_0, k1_1, k1_2, k1_3⟩ := hk.out w1 hI1.out.old
  go_wp2_with fail
  refine (hS1.out.lay [⟨#[40]⟩] _ (by simp) (by simp) (by have h := hlen.out; (try simp only [List.length_append] at h ⊢); omega)).mono ?_; rintro e w2 ⟨rfl, hi⟩
  have hI2 := Lib.hid hi; clear hi
  have hx2 := hI2.out.lt _ _ _ (List.Mem.tail _ (List.Mem.head _))
  have hy2 := hI2.out.lt _ _ _ (List.Mem.head _)
  have q2_0 : w2.cell? ⟨w.heap.size, 0, none⟩ = some (.int .i64 18) := hI2.out.cell _ _ _ (List.Mem.tail _ (List.Mem.head _)) 0
  have q2_3 : w2.cell? ⟨w.heap.size, 3, none⟩ = some (.slice (some ⟨bk, off, none⟩) m cap) := hI2.out.cell _ _ _ (List.Mem.tail _ (List.Mem.head _)) 3
  have s2_4 : w2.cell? ⟨w1.heap.size, 4, none⟩ = some (.int .i64 1) := hI2.out.cell _ _ _ (List.Mem.head _) 4
  have s2_5 : w2.cell? ⟨w1.heap.size, 5, none⟩ = some (.string ⟨#[32, 61, 61, 32]⟩) := hI2.out.cell _ _ _ (List.Mem.head _) 5
  obtain ⟨hbk2, k2_0, k2_1, k2_2, k2_3⟩ := hk.out w2 hI2.out.old
  have hS2 := Lib.hid (hI2.out.add #[.string ⟨#[41]⟩] 9 (by decide))
  go_wp2_with fail
  refine wp_region_still_tail 8 (by kernel_rfl) (by kernel_rfl) ?_
  simp only [List.take_succ_cons, List.take_zero, List.drop_succ_cons, List.drop_zero]
  change wpStill _ _ (World.drew _) (fun a' => wpList _ _ _ _ a' (World.drew _)) _ _
  repeat still_step
  refine wpStill_nil ?_
  go_wp2_with fail
  refine (hS2.out.drew.expr ih.out hR.out (by have h := hlen.out; (try simp only [List.length_append] at h ⊢); omega)).mono ?_; rintro e w3 ⟨rfl, hi⟩
  have hI3 := Lib.hid hi; clear hi
  have hx3 := hI3.out.lt _ _ _ (List.Mem.tail _ (List.Mem.tail _ (List.Mem.head _)))
  have hy3 := hI3.out.lt _ _ _ (List.Mem.tail _ (List.Mem.head _))
  have q3_0 : w3.cell? ⟨w.heap.size, 0, none⟩ = some (.int .i64 18) := hI3.out.cell _ _ _ (List.Mem.tail _ (List.Mem.tail _ (List.Mem.head _))) 0
  have q3_3 : w3.cell? ⟨w.heap.size, 3, none⟩ = some (.slice (some ⟨bk, off, none⟩) m cap) := hI3.out.cell _ _ _ (List.Mem.tail _ (List.Mem.tail _ (List.Mem.head _))) 3
  have s3_4 : w3.cell? ⟨w1.heap.size, 4, none⟩ = some (.int .i64 1) := hI3.out.cell _ _ _ (List.Mem.tail _ (List.Mem.head _)) 4
  have s3_5 : w3.cell? ⟨w1.heap.size, 5, none⟩ = some (.string ⟨#[32, 61, 61, 32]⟩) := hI3.out.cell _ _ _ (List.Mem.tail _ (List.Mem.head _)) 5
  go_wp2_with fail
  refine (hI3.out.lay [⟨#[32, 61, 61, 32]⟩] _ (by simp) (by simp) (by have h := hlen.out; (try simp only [List.length_append] at h ⊢); omega)).mono ?_; rintro e w4 ⟨rfl, hi⟩
  have hI4 := Lib.hid hi; clear hi
  have hx4 := hI4.out.lt _ _ _ (List.Mem.tail _ (List.Mem.tail _ (List.Mem.head _)))
  have hy4 := hI4.out.lt _ _ _ (List.Mem.tail _ (List.Mem.head _))
  have q4_0 : w4.cell? ⟨w.heap.size, 0, none⟩ = some (.int .i64 18) := hI4.out.cell _ _ _ (List.Mem.tail _ (List.Mem.tail _ (List.Mem.head _))) 0
  have q4_3 : w4.cell? ⟨w.heap.size, 3, none⟩ = some (.slice (some ⟨bk, off, none⟩) m cap) := hI4.out.cell _ _ _ (List.Mem.tail _ (List.Mem.tail _ (List.Mem.head _))) 3
  have s4_4 : w4.cell? ⟨w1.heap.size, 4, none⟩ = some (.int .i64 1) := hI4.out.cell _ _ _ (List.Mem.tail _ (List.Mem.head _)) 4
  have s4_5 : w4.cell? ⟨w1.heap.size, 5, none⟩ = some (.string ⟨#[32, 61, 61, 32]⟩) := hI4.out.cell _ _ _ (List.Mem.tail _ (List.Mem.head _)) 5
  obtain ⟨k4_4, k4_5, k4_6, k4_7⟩ := hk'.out w4 hI4.out.old
  have hbk4 := (hk.out w4 hI4.out.old).1
  go_wp2_with fail
  refine wp_region_still_tail 8 (by kernel_rfl) (by kernel_rfl) ?_
  simp only [List.take_succ_cons, List.take_zero, List.drop_succ_cons, List.drop_zero]
  change wpStill _ _ (World.drew _) (fun a' => wpList _ _ _ _ a' (World.drew _)) _ _
  repeat still_step
  refine wpStill_nil ?_
  go_wp2_with fail
  refine (hI4.out.drew.expr ih'.out hR'.out (by have h := hlen.out; (try simp only [List.length_append] at h ⊢); omega)).mono ?_; rintro e w5 ⟨rfl, hi⟩
  have hI5 := Lib.hid hi; clear hi
  go_wp2_with fail
  refine leaves_cons (f := 23) (args := #[.pointer (some ⟨b, 0, none⟩), .slice (some ⟨w2.heap.size, 0, none⟩) 1 1]) (by simp) (by simp [go_sem]) ?_
  refine (hI5.out.layd .returning [⟨#[41]⟩] w2.heap.size (List.Mem.head _) (by simp) (by have h := hlen.out; (try simp only [List.length_append] at h ⊢); omega)).mono ?_
  rintro e u' w9 ⟨rfl, rfl, hi⟩
  exact ⟨_, results_none rfl _ _ _, rfl, hi.page, hi.kept⟩

end Go.Proofs.YtapdgeajbnbdjaaDoor
