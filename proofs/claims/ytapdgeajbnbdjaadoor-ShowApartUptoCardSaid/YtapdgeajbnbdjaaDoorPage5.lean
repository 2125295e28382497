/- show.page.expr: a walk for each kind from 1 to 12. -/
import Derived.Test.YtapdgeajbnbdjaaDoorPage4
import Derived.StillTailTactics
namespace Go.Proofs.YtapdgeajbnbdjaaDoor
open Go.RowKit

set_option maxRecDepth 100000 in
set_option maxHeartbeats 4000000 in
theorem wexpr_1 (B b : Nat) (l : List UInt8) (t want n : Int) (s : ByteArray) (A : Option Addr) (m cap : Nat) (w0 w : World) (hB : w0.heap.size ≤ B) (hw : Below B w0 w) (hp : PageAt B b l t w) (hwant : want ≤ 4) (hn : I64 n) (he : Env w0) (hlen : Hid (l.length + (cat [⟨(Lib.itoa n).toArray⟩]).length ≤ 140737488355328)) :
    Calls Tryd.prog 16 #[.pointer (some ⟨b, 0, none⟩), .agg #[.int .i64 1, .int .i64 n, .string s, .slice A m cap], .int .i64 want] w fun x w' => x = .returned (.tuple #[]) ∧ PageAt B b (l ++ cat [⟨(Lib.itoa n).toArray⟩]) t w' ∧ Kept B b w w' := by
  have hbs1 := buildOne
  have hbs2 := buildTwo
  have hbs3 := buildThree
  have hI0 := Lib.hid ((Inv.start hB hw hp).add #[.int .i64 1, .int .i64 n, .string s, .slice A m cap] 24 (by decide))
  clear hB hw hp
  go_enter Tryd.func16, Tryd.ntmps16
  go_wp2_with fail
  refine (of_1 _).mono ?_; rintro e w1 ⟨rfl, hb⟩
  have hI1 := Lib.hid (hI0.out.below hb); clear hb
  have hx1 := hI1.out.lt _ _ _ (List.Mem.head _)
  have q1_0 : w1.cell? ⟨w.heap.size, 0, none⟩ = some (.int .i64 1) := hI1.out.cell _ _ _ (List.Mem.head _) 0
  have q1_1 : w1.cell? ⟨w.heap.size, 1, none⟩ = some (.int .i64 n) := hI1.out.cell _ _ _ (List.Mem.head _) 1
  have q1_2 : w1.cell? ⟨w.heap.size, 2, none⟩ = some (.string s) := hI1.out.cell _ _ _ (List.Mem.head _) 2
  have q1_3 : w1.cell? ⟨w.heap.size, 3, none⟩ = some (.slice A m cap) := hI1.out.cell _ _ _ (List.Mem.head _) 3
  go_wp2_with fail
  refine (text_any n _ hn (he.below (hI1.out.alloc _).old hI0.out.base)).mono ?_; rintro e w2 ⟨rfl, hb⟩
  have hI2 := Lib.hid ((hI1.out.alloc _).below hb); clear hb
  have hx2 := hI2.out.lt _ _ _ (List.Mem.head _)
  have q2_0 : w2.cell? ⟨w.heap.size, 0, none⟩ = some (.int .i64 1) := hI2.out.cell _ _ _ (List.Mem.head _) 0
  have q2_1 : w2.cell? ⟨w.heap.size, 1, none⟩ = some (.int .i64 n) := hI2.out.cell _ _ _ (List.Mem.head _) 1
  have q2_2 : w2.cell? ⟨w.heap.size, 2, none⟩ = some (.string s) := hI2.out.cell _ _ _ (List.Mem.head _) 2
  have q2_3 : w2.cell? ⟨w.heap.size, 3, none⟩ = some (.slice A m cap) := hI2.out.cell _ _ _ (List.Mem.head _) 3
  go_wp2_with fail
  refine (hI2.out.lay [⟨(Lib.itoa n).toArray⟩] _ (by simp) (by simp) (by have h := hlen.out; (try simp only [List.length_append] at h ⊢); omega)).mono ?_; rintro e w3 ⟨rfl, hi⟩
  have hI3 := Lib.hid hi; clear hi
  go_wp2_with fail
  go_end0
  exact ⟨rfl, hI3.out.page, hI3.out.kept⟩

set_option maxRecDepth 100000 in
set_option maxHeartbeats 4000000 in
theorem wexpr_2 (B b : Nat) (l : List UInt8) (t want n : Int) (s : ByteArray) (A : Option Addr) (m cap : Nat) (w0 w : World) (hB : w0.heap.size ≤ B) (hw : Below B w0 w) (hp : PageAt B b l t w) (hwant : want ≤ 4) (hlen : Hid (l.length + (cat [⟨#[110, 117, 108, 108]⟩]).length ≤ 140737488355328)) :
    Calls Tryd.prog 16 #[.pointer (some ⟨b, 0, none⟩), .agg #[.int .i64 2, .int .i64 n, .string s, .slice A m cap], .int .i64 want] w fun x w' => x = .returned (.tuple #[]) ∧ PageAt B b (l ++ cat [⟨#[110, 117, 108, 108]⟩]) t w' ∧ Kept B b w w' := by
  have hbs1 := buildOne
  have hbs2 := buildTwo
  have hbs3 := buildThree
  have hI0 := Lib.hid ((Inv.start hB hw hp).add #[.int .i64 2, .int .i64 n, .string s, .slice A m cap] 24 (by decide))
  clear hB hw hp
  go_enter Tryd.func16, Tryd.ntmps16
  go_wp2_with fail
  refine (of_2 _).mono ?_; rintro e w1 ⟨rfl, hb⟩
  have hI1 := Lib.hid (hI0.out.below hb); clear hb
  have hx1 := hI1.out.lt _ _ _ (List.Mem.head _)
  have q1_0 : w1.cell? ⟨w.heap.size, 0, none⟩ = some (.int .i64 2) := hI1.out.cell _ _ _ (List.Mem.head _) 0
  have q1_1 : w1.cell? ⟨w.heap.size, 1, none⟩ = some (.int .i64 n) := hI1.out.cell _ _ _ (List.Mem.head _) 1
  have q1_2 : w1.cell? ⟨w.heap.size, 2, none⟩ = some (.string s) := hI1.out.cell _ _ _ (List.Mem.head _) 2
  have q1_3 : w1.cell? ⟨w.heap.size, 3, none⟩ = some (.slice A m cap) := hI1.out.cell _ _ _ (List.Mem.head _) 3
  go_wp2_with fail
  refine ((hI1.out.alloc _).lay [⟨#[110, 117, 108, 108]⟩] _ (by simp) (by simp) (by have h := hlen.out; (try simp only [List.length_append] at h ⊢); omega)).mono ?_; rintro e w2 ⟨rfl, hi⟩
  have hI2 := Lib.hid hi; clear hi
  go_wp2_with fail
  go_end0
  exact ⟨rfl, hI2.out.page, hI2.out.kept⟩

set_option maxRecDepth 100000 in
set_option maxHeartbeats 4000000 in
theorem wexpr_3 (B b : Nat) (l : List UInt8) (t want n : Int) (s : ByteArray) (A : Option Addr) (m cap : Nat) (w0 w : World) (hB : w0.heap.size ≤ B) (hw : Below B w0 w) (hp : PageAt B b l t w) (hwant : want ≤ 4) (hlen : Hid (l.length + (cat [⟨#[116, 104, 105, 115]⟩]).length ≤ 140737488355328)) :
    Calls Tryd.prog 16 #[.pointer (some ⟨b, 0, none⟩), .agg #[.int .i64 3, .int .i64 n, .string s, .slice A m cap], .int .i64 want] w fun x w' => x = .returned (.tuple #[]) ∧ PageAt B b (l ++ cat [⟨#[116, 104, 105, 115]⟩]) t w' ∧ Kept B b w w' := by
  have hbs1 := buildOne
  have hbs2 := buildTwo
  have hbs3 := buildThree
  have hI0 := Lib.hid ((Inv.start hB hw hp).add #[.int .i64 3, .int .i64 n, .string s, .slice A m cap] 24 (by decide))
  clear hB hw hp
  go_enter Tryd.func16, Tryd.ntmps16
  go_wp2_with fail
  refine (of_3 _).mono ?_; rintro e w1 ⟨rfl, hb⟩
  have hI1 := Lib.hid (hI0.out.below hb); clear hb
  have hx1 := hI1.out.lt _ _ _ (List.Mem.head _)
  have q1_0 : w1.cell? ⟨w.heap.size, 0, none⟩ = some (.int .i64 3) := hI1.out.cell _ _ _ (List.Mem.head _) 0
  have q1_1 : w1.cell? ⟨w.heap.size, 1, none⟩ = some (.int .i64 n) := hI1.out.cell _ _ _ (List.Mem.head _) 1
  have q1_2 : w1.cell? ⟨w.heap.size, 2, none⟩ = some (.string s) := hI1.out.cell _ _ _ (List.Mem.head _) 2
  have q1_3 : w1.cell? ⟨w.heap.size, 3, none⟩ = some (.slice A m cap) := hI1.out.cell _ _ _ (List.Mem.head _) 3
  go_wp2_with fail
  refine ((hI1.out.alloc _).lay [⟨#[116, 104, 105, 115]⟩] _ (by simp) (by simp) (by have h := hlen.out; (try simp only [List.length_append] at h ⊢); omega)).mono ?_; rintro e w2 ⟨rfl, hi⟩
  have hI2 := Lib.hid hi; clear hi
  go_wp2_with fail
  go_end0
  exact ⟨rfl, hI2.out.page, hI2.out.kept⟩

set_option maxRecDepth 100000 in
set_option maxHeartbeats 4000000 in
theorem wexpr_4 (B b : Nat) (l : List UInt8) (t want n : Int) (s : ByteArray) (A : Option Addr) (m cap : Nat) (w0 w : World) (hB : w0.heap.size ≤ B) (hw : Below B w0 w) (hp : PageAt B b l t w) (hwant : want ≤ 4) (hlen : Hid (l.length + (cat [s]).length ≤ 140737488355328)) :
    Calls Tryd.prog 16 #[.pointer (some ⟨b, 0, none⟩), .agg #[.int .i64 4, .int .i64 n, .string s, .slice A m cap], .int .i64 want] w fun x w' => x = .returned (.tuple #[]) ∧ PageAt B b (l ++ cat [s]) t w' ∧ Kept B b w w' := by
  have hbs1 := buildOne
  have hbs2 := buildTwo
  have hbs3 := buildThree
  have hI0 := Lib.hid ((Inv.start hB hw hp).add #[.int .i64 4, .int .i64 n, .string s, .slice A m cap] 24 (by decide))
  clear hB hw hp
  go_enter Tryd.func16, Tryd.ntmps16
  go_wp2_with fail
  refine (of_4 _).mono ?_; rintro e w1 ⟨rfl, hb⟩
  have hI1 := Lib.hid (hI0.out.below hb); clear hb
  have hx1 := hI1.out.lt _ _ _ (List.Mem.head _)
  have q1_0 : w1.cell? ⟨w.heap.size, 0, none⟩ = some (.int .i64 4) := hI1.out.cell _ _ _ (List.Mem.head _) 0
  have q1_1 : w1.cell? ⟨w.heap.size, 1, none⟩ = some (.int .i64 n) := hI1.out.cell _ _ _ (List.Mem.head _) 1
  have q1_2 : w1.cell? ⟨w.heap.size, 2, none⟩ = some (.string s) := hI1.out.cell _ _ _ (List.Mem.head _) 2
  have q1_3 : w1.cell? ⟨w.heap.size, 3, none⟩ = some (.slice A m cap) := hI1.out.cell _ _ _ (List.Mem.head _) 3
  go_wp2_with fail
  refine ((hI1.out.alloc _).lay [s] _ (by simp) (by simp) (by have h := hlen.out; (try simp only [List.length_append] at h ⊢); omega)).mono ?_; rintro e w2 ⟨rfl, hi⟩
  have hI2 := Lib.hid hi; clear hi
  go_wp2_with fail
  go_end0
  exact ⟨rfl, hI2.out.page, hI2.out.kept⟩

set_option maxRecDepth 100000 in
set_option maxHeartbeats 4000000 in
theorem wexpr_5 (B b : Nat) (l : List UInt8) (t want n : Int) (s : ByteArray) (A : Option Addr) (m cap : Nat) (w0 w : World) (hB : w0.heap.size ≤ B) (hw : Below B w0 w) (hp : PageAt B b l t w) (hwant : want ≤ 4) (hlen : Hid (l.length + (cat [⟨#[110, 101, 119, 32]⟩, s, ⟨#[40, 41]⟩]).length ≤ 140737488355328)) :
    Calls Tryd.prog 16 #[.pointer (some ⟨b, 0, none⟩), .agg #[.int .i64 5, .int .i64 n, .string s, .slice A m cap], .int .i64 want] w fun x w' => x = .returned (.tuple #[]) ∧ PageAt B b (l ++ cat [⟨#[110, 101, 119, 32]⟩, s, ⟨#[40, 41]⟩]) t w' ∧ Kept B b w w' := by
  have hbs1 := buildOne
  have hbs2 := buildTwo
  have hbs3 := buildThree
  have hI0 := Lib.hid ((Inv.start hB hw hp).add #[.int .i64 5, .int .i64 n, .string s, .slice A m cap] 24 (by decide))
  clear hB hw hp
  go_enter Tryd.func16, Tryd.ntmps16
  go_wp2_with fail
  refine (of_5 _).mono ?_; rintro e w1 ⟨rfl, hb⟩
  have hI1 := Lib.hid (hI0.out.below hb); clear hb
  have hx1 := hI1.out.lt _ _ _ (List.Mem.head _)
  have q1_0 : w1.cell? ⟨w.heap.size, 0, none⟩ = some (.int .i64 5) := hI1.out.cell _ _ _ (List.Mem.head _) 0
  have q1_1 : w1.cell? ⟨w.heap.size, 1, none⟩ = some (.int .i64 n) := hI1.out.cell _ _ _ (List.Mem.head _) 1
  have q1_2 : w1.cell? ⟨w.heap.size, 2, none⟩ = some (.string s) := hI1.out.cell _ _ _ (List.Mem.head _) 2
  have q1_3 : w1.cell? ⟨w.heap.size, 3, none⟩ = some (.slice A m cap) := hI1.out.cell _ _ _ (List.Mem.head _) 3
  go_wp2_with fail
  refine ((hI1.out.alloc _).lay [⟨#[110, 101, 119, 32]⟩, s, ⟨#[40, 41]⟩] _ (by simp) (by simp) (by have h := hlen.out; (try simp only [List.length_append] at h ⊢); omega)).mono ?_; rintro e w2 ⟨rfl, hi⟩
  have hI2 := Lib.hid hi; clear hi
  go_wp2_with fail
  go_end0
  exact ⟨rfl, hI2.out.page, hI2.out.kept⟩

set_option maxRecDepth 100000 in
set_option maxHeartbeats 4000000 in
theorem wexpr_6 (B b : Nat) (l : List UInt8) (t want n : Int) (s : ByteArray) (A : Option Addr) (m cap : Nat) (w0 w : World) (hB : w0.heap.size ≤ B) (hw : Below B w0 w) (hp : PageAt B b l t w) (hwant : want ≤ 4) (es : List Ex) (hsl : Hid (Exs.V w0 es (.slice A m cap))) (ihl : Hid (∀ e, e ∈ es → Writes B b t w0 e 1)) (hlen : Hid (l.length + (cat [⟨#[110, 101, 119, 32, 105, 110, 116, 91]⟩]).length + (listT es).length + ((⟨#[93]⟩ : ByteArray).data.toList).length ≤ 140737488355328)) :
    Calls Tryd.prog 16 #[.pointer (some ⟨b, 0, none⟩), .agg #[.int .i64 6, .int .i64 n, .string s, .slice A m cap], .int .i64 want] w fun x w' => x = .returned (.tuple #[]) ∧ PageAt B b (l ++ cat [⟨#[110, 101, 119, 32, 105, 110, 116, 91]⟩] ++ listT es ++ (⟨#[93]⟩ : ByteArray).data.toList) t w' ∧ Kept B b w w' := by
  have hbs1 := buildOne
  have hbs2 := buildTwo
  have hbs3 := buildThree
  have hI0 := Lib.hid ((Inv.start hB hw hp).add #[.int .i64 6, .int .i64 n, .string s, .slice A m cap] 24 (by decide))
  clear hB hw hp
  go_enter Tryd.func16, Tryd.ntmps16
  go_wp2_with fail
  refine (of_6 _).mono ?_; rintro e w1 ⟨rfl, hb⟩
  have hI1 := Lib.hid (hI0.out.below hb); clear hb
  have hx1 := hI1.out.lt _ _ _ (List.Mem.head _)
  have q1_0 : w1.cell? ⟨w.heap.size, 0, none⟩ = some (.int .i64 6) := hI1.out.cell _ _ _ (List.Mem.head _) 0
  have q1_1 : w1.cell? ⟨w.heap.size, 1, none⟩ = some (.int .i64 n) := hI1.out.cell _ _ _ (List.Mem.head _) 1
  have q1_2 : w1.cell? ⟨w.heap.size, 2, none⟩ = some (.string s) := hI1.out.cell _ _ _ (List.Mem.head _) 2
  have q1_3 : w1.cell? ⟨w.heap.size, 3, none⟩ = some (.slice A m cap) := hI1.out.cell _ _ _ (List.Mem.head _) 3
  go_wp2_with fail
  refine ((hI1.out.alloc _).lay [⟨#[110, 101, 119, 32, 105, 110, 116, 91]⟩] _ (by simp) (by simp) (by have h := hlen.out; (try simp only [List.length_append] at h ⊢); omega)).mono ?_; rintro e w2 ⟨rfl, hi⟩
  have hI2 := Lib.hid hi; clear hi
  have hx2 := hI2.out.lt _ _ _ (List.Mem.head _)
  have q2_0 : w2.cell? ⟨w.heap.size, 0, none⟩ = some (.int .i64 6) := hI2.out.cell _ _ _ (List.Mem.head _) 0
  have q2_1 : w2.cell? ⟨w.heap.size, 1, none⟩ = some (.int .i64 n) := hI2.out.cell _ _ _ (List.Mem.head _) 1
  have q2_2 : w2.cell? ⟨w.heap.size, 2, none⟩ = some (.string s) := hI2.out.cell _ _ _ (List.Mem.head _) 2
  have q2_3 : w2.cell? ⟨w.heap.size, 3, none⟩ = some (.slice A m cap) := hI2.out.cell _ _ _ (List.Mem.head _) 3
  go_wp2_with fail
  refine (hI2.out.list es _ ⟨#[93]⟩ hsl.out ihl.out (by have h := hlen.out; have hz : ByteArray.size ⟨#[93]⟩ = List.length [(93 : UInt8)] := rfl; (try simp only [List.length_append] at h ⊢); omega)).mono ?_; rintro e w3 ⟨rfl, hi⟩
  have hI3 := Lib.hid hi; clear hi
  go_wp2_with fail
  go_end0
  exact ⟨rfl, hI3.out.page, hI3.out.kept⟩

set_option maxRecDepth 100000 in
set_option maxHeartbeats 4000000 in
theorem wexpr_7 (B b : Nat) (l : List UInt8) (t want n : Int) (s : ByteArray) (A : Option Addr) (m cap : Nat) (w0 w : World) (hB : w0.heap.size ≤ B) (hw : Below B w0 w) (hp : PageAt B b l t w) (hwant : want ≤ 4) (e0 : Ex) (c0 c1 : Int) (c2 : ByteArray) (A9 : Option Addr) (n9 cap9 bk off : Nat) (hA : A = some ⟨bk, off, none⟩) (hk : Hid (∀ V, Below B w0 V → bk < V.heap.size ∧ V.cell? ⟨bk, off, none⟩ = some (.int .i64 c0) ∧ V.cell? ⟨bk, off + 1, none⟩ = some (.int .i64 c1) ∧ V.cell? ⟨bk, off + 2, none⟩ = some (.string c2) ∧ V.cell? ⟨bk, off + 3, none⟩ = some (.slice A9 n9 cap9))) (hm : 0 < m) (hR : Hid (Ex.R w0 e0 #[.int .i64 c0, .int .i64 c1, .string c2, .slice A9 n9 cap9])) (ih : Hid (Writes B b t w0 e0 4)) (hlen : Hid (l.length + (atT 4 e0).length + (cat [⟨#[46]⟩, s]).length ≤ 140737488355328)) :
    Calls Tryd.prog 16 #[.pointer (some ⟨b, 0, none⟩), .agg #[.int .i64 7, .int .i64 n, .string s, .slice A m cap], .int .i64 want] w fun x w' => x = .returned (.tuple #[]) ∧ PageAt B b (l ++ atT 4 e0 ++ cat [⟨#[46]⟩, s]) t w' ∧ Kept B b w w' := by
  subst hA
  have hbs1 := buildOne
  have hbs2 := buildTwo
  have hbs3 := buildThree
  have hI0 := Lib.hid ((Inv.start hB hw hp).add #[.int .i64 7, .int .i64 n, .string s, .slice (some ⟨bk, off, none⟩) m cap] 24 (by decide))
  clear hB hw hp
  go_enter Tryd.func16, Tryd.ntmps16
  go_wp2_with fail
  refine (of_7 _).mono ?_; rintro e w1 ⟨rfl, hb⟩
  have hI1 := Lib.hid (hI0.out.below hb); clear hb
  have hx1 := hI1.out.lt _ _ _ (List.Mem.head _)
  have q1_0 : w1.cell? ⟨w.heap.size, 0, none⟩ = some (.int .i64 7) := hI1.out.cell _ _ _ (List.Mem.head _) 0
  have q1_1 : w1.cell? ⟨w.heap.size, 1, none⟩ = some (.int .i64 n) := hI1.out.cell _ _ _ (List.Mem.head _) 1
  have q1_2 : w1.cell? ⟨w.heap.size, 2, none⟩ = some (.string s) := hI1.out.cell _ _ _ (List.Mem.head _) 2
  have q1_3 : w1.cell? ⟨w.heap.size, 3, none⟩ = some (.slice (some ⟨bk, off, none⟩) m cap) := hI1.out.cell _ _ _ (List.Mem.head _) 3
  obtain ⟨hbk1, k1_0, k1_1, k1_2, k1_3⟩ := hk.out w1 hI1.out.old
  go_wp2_with fail
  refine ((hI1.out.alloc _).expr ih.out hR.out (by have h := hlen.out; (try simp only [List.length_append] at h ⊢); omega)).mono ?_; rintro e w2 ⟨rfl, hi⟩
  have hI2 := Lib.hid hi; clear hi
  have hx2 := hI2.out.lt _ _ _ (List.Mem.head _)
  have q2_0 : w2.cell? ⟨w.heap.size, 0, none⟩ = some (.int .i64 7) := hI2.out.cell _ _ _ (List.Mem.head _) 0
  have q2_1 : w2.cell? ⟨w.heap.size, 1, none⟩ = some (.int .i64 n) := hI2.out.cell _ _ _ (List.Mem.head _) 1
  have q2_2 : w2.cell? ⟨w.heap.size, 2, none⟩ = some (.string s) := hI2.out.cell _ _ _ (List.Mem.head _) 2
  have q2_3 : w2.cell? ⟨w.heap.size, 3, none⟩ = some (.slice (some ⟨bk, off, none⟩) m cap) := hI2.out.cell _ _ _ (List.Mem.head _) 3
  go_wp2_with fail
  refine (hI2.out.lay [⟨#[46]⟩, s] _ (by simp) (by simp) (by have h := hlen.out; (try simp only [List.length_append] at h ⊢); omega)).mono ?_; rintro e w3 ⟨rfl, hi⟩
  have hI3 := Lib.hid hi; clear hi
  go_wp2_with fail
  go_end0
  exact ⟨rfl, hI3.out.page, hI3.out.kept⟩

set_option maxRecDepth 100000 in
set_option maxHeartbeats 4000000 in
theorem wexpr_8 (B b : Nat) (l : List UInt8) (t want n : Int) (s : ByteArray) (A : Option Addr) (m cap : Nat) (w0 w : World) (hB : w0.heap.size ≤ B) (hw : Below B w0 w) (hp : PageAt B b l t w) (hwant : want ≤ 4) (e0 : Ex) (c0 c1 : Int) (c2 : ByteArray) (A9 : Option Addr) (n9 cap9 bk off : Nat) (hA : A = some ⟨bk, off, none⟩) (hk : Hid (∀ V, Below B w0 V → bk < V.heap.size ∧ V.cell? ⟨bk, off, none⟩ = some (.int .i64 c0) ∧ V.cell? ⟨bk, off + 1, none⟩ = some (.int .i64 c1) ∧ V.cell? ⟨bk, off + 2, none⟩ = some (.string c2) ∧ V.cell? ⟨bk, off + 3, none⟩ = some (.slice A9 n9 cap9))) (hm : 0 < m) (hR : Hid (Ex.R w0 e0 #[.int .i64 c0, .int .i64 c1, .string c2, .slice A9 n9 cap9])) (ih : Hid (Writes B b t w0 e0 4)) (hmc : m ≤ cap) (hcm : cap ≤ 9223372036854775807) (es : List Ex) (hsl : Hid (∀ A2, (cap = 1 → A2 = some ⟨bk, off, none⟩) → (cap ≠ 1 → A2 = some ⟨bk, off + 4, none⟩) → Exs.V w0 es (.slice A2 (m - 1) (cap - 1)))) (ihl : Hid (∀ e, e ∈ es → Writes B b t w0 e 1)) (hlen : Hid (l.length + (atT 4 e0).length + (cat [⟨#[91]⟩]).length + (listT es).length + ((⟨#[93]⟩ : ByteArray).data.toList).length ≤ 140737488355328)) :
    Calls Tryd.prog 16 #[.pointer (some ⟨b, 0, none⟩), .agg #[.int .i64 8, .int .i64 n, .string s, .slice A m cap], .int .i64 want] w fun x w' => x = .returned (.tuple #[]) ∧ PageAt B b (l ++ atT 4 e0 ++ cat [⟨#[91]⟩] ++ listT es ++ (⟨#[93]⟩ : ByteArray).data.toList) t w' ∧ Kept B b w w' := by
  subst hA
  have hbs1 := buildOne
  have hbs2 := buildTwo
  have hbs3 := buildThree
  have hI0 := Lib.hid ((Inv.start hB hw hp).add #[.int .i64 8, .int .i64 n, .string s, .slice (some ⟨bk, off, none⟩) m cap] 24 (by decide))
  clear hB hw hp
  by_cases hc : cap = 1
  · subst hc
    obtain rfl : m = 1 := by omega
    go_enter Tryd.func16, Tryd.ntmps16
    go_wp2_with fail
    refine (of_8 _).mono ?_; rintro e w1 ⟨rfl, hb⟩
    have hI1 := Lib.hid (hI0.out.below hb); clear hb
    have hx1 := hI1.out.lt _ _ _ (List.Mem.head _)
    have q1_0 : w1.cell? ⟨w.heap.size, 0, none⟩ = some (.int .i64 8) := hI1.out.cell _ _ _ (List.Mem.head _) 0
    have q1_1 : w1.cell? ⟨w.heap.size, 1, none⟩ = some (.int .i64 n) := hI1.out.cell _ _ _ (List.Mem.head _) 1
    have q1_2 : w1.cell? ⟨w.heap.size, 2, none⟩ = some (.string s) := hI1.out.cell _ _ _ (List.Mem.head _) 2
    have q1_3 : w1.cell? ⟨w.heap.size, 3, none⟩ = some (.slice (some ⟨bk, off, none⟩) 1 1) := hI1.out.cell _ _ _ (List.Mem.head _) 3
    obtain ⟨hbk1, k1_0, k1_1, k1_2, k1_3⟩ := hk.out w1 hI1.out.old
    go_wp2_with fail
    refine ((hI1.out.alloc _).expr ih.out hR.out (by have h := hlen.out; (try simp only [List.length_append] at h ⊢); omega)).mono ?_; rintro e w2 ⟨rfl, hi⟩
    have hI2 := Lib.hid hi; clear hi
    have hx2 := hI2.out.lt _ _ _ (List.Mem.head _)
    have q2_0 : w2.cell? ⟨w.heap.size, 0, none⟩ = some (.int .i64 8) := hI2.out.cell _ _ _ (List.Mem.head _) 0
    have q2_1 : w2.cell? ⟨w.heap.size, 1, none⟩ = some (.int .i64 n) := hI2.out.cell _ _ _ (List.Mem.head _) 1
    have q2_2 : w2.cell? ⟨w.heap.size, 2, none⟩ = some (.string s) := hI2.out.cell _ _ _ (List.Mem.head _) 2
    have q2_3 : w2.cell? ⟨w.heap.size, 3, none⟩ = some (.slice (some ⟨bk, off, none⟩) 1 1) := hI2.out.cell _ _ _ (List.Mem.head _) 3
    go_wp2_with fail
    refine (hI2.out.lay [⟨#[91]⟩] _ (by simp) (by simp) (by have h := hlen.out; (try simp only [List.length_append] at h ⊢); omega)).mono ?_; rintro e w3 ⟨rfl, hi⟩
    have hI3 := Lib.hid hi; clear hi
    have hx3 := hI3.out.lt _ _ _ (List.Mem.head _)
    have q3_0 : w3.cell? ⟨w.heap.size, 0, none⟩ = some (.int .i64 8) := hI3.out.cell _ _ _ (List.Mem.head _) 0
    have q3_1 : w3.cell? ⟨w.heap.size, 1, none⟩ = some (.int .i64 n) := hI3.out.cell _ _ _ (List.Mem.head _) 1
    have q3_2 : w3.cell? ⟨w.heap.size, 2, none⟩ = some (.string s) := hI3.out.cell _ _ _ (List.Mem.head _) 2
    have q3_3 : w3.cell? ⟨w.heap.size, 3, none⟩ = some (.slice (some ⟨bk, off, none⟩) 1 1) := hI3.out.cell _ _ _ (List.Mem.head _) 3
    go_wp2_with fail
    refine (hI3.out.list es _ ⟨#[93]⟩ (hsl.out _ (fun _ => rfl) (fun h => absurd rfl h)) ihl.out (by have h := hlen.out; have hz : ByteArray.size ⟨#[93]⟩ = List.length [(93 : UInt8)] := rfl; (try simp only [List.length_append] at h ⊢); omega)).mono ?_; rintro e w4 ⟨rfl, hi⟩
    have hI4 := Lib.hid hi; clear hi
    go_wp2_with fail
    go_end0
    exact ⟨rfl, hI4.out.page, hI4.out.kept⟩

  · have HC := Lib.hid hc
    go_enter Tryd.func16, Tryd.ntmps16
    go_wp2_with fail
    refine (of_8 _).mono ?_; rintro e w1 ⟨rfl, hb⟩
    have hI1 := Lib.hid (hI0.out.below hb); clear hb
    have hx1 := hI1.out.lt _ _ _ (List.Mem.head _)
    have q1_0 : w1.cell? ⟨w.heap.size, 0, none⟩ = some (.int .i64 8) := hI1.out.cell _ _ _ (List.Mem.head _) 0
    have q1_1 : w1.cell? ⟨w.heap.size, 1, none⟩ = some (.int .i64 n) := hI1.out.cell _ _ _ (List.Mem.head _) 1
    have q1_2 : w1.cell? ⟨w.heap.size, 2, none⟩ = some (.string s) := hI1.out.cell _ _ _ (List.Mem.head _) 2
    have q1_3 : w1.cell? ⟨w.heap.size, 3, none⟩ = some (.slice (some ⟨bk, off, none⟩) m cap) := hI1.out.cell _ _ _ (List.Mem.head _) 3
    obtain ⟨hbk1, k1_0, k1_1, k1_2, k1_3⟩ := hk.out w1 hI1.out.old
    go_wp2_with fail
    refine ((hI1.out.alloc _).expr ih.out hR.out (by have h := hlen.out; (try simp only [List.length_append] at h ⊢); omega)).mono ?_; rintro e w2 ⟨rfl, hi⟩
    have hI2 := Lib.hid hi; clear hi
    have hx2 := hI2.out.lt _ _ _ (List.Mem.head _)
    have q2_0 : w2.cell? ⟨w.heap.size, 0, none⟩ = some (.int .i64 8) := hI2.out.cell _ _ _ (List.Mem.head _) 0
    have q2_1 : w2.cell? ⟨w.heap.size, 1, none⟩ = some (.int .i64 n) := hI2.out.cell _ _ _ (List.Mem.head _) 1
    have q2_2 : w2.cell? ⟨w.heap.size, 2, none⟩ = some (.string s) := hI2.out.cell _ _ _ (List.Mem.head _) 2
    have q2_3 : w2.cell? ⟨w.heap.size, 3, none⟩ = some (.slice (some ⟨bk, off, none⟩) m cap) := hI2.out.cell _ _ _ (List.Mem.head _) 3
    go_wp2_with fail
    refine (hI2.out.lay [⟨#[91]⟩] _ (by simp) (by simp) (by have h := hlen.out; (try simp only [List.length_append] at h ⊢); omega)).mono ?_; rintro e w3 ⟨rfl, hi⟩
    have hI3 := Lib.hid hi; clear hi
    have hx3 := hI3.out.lt _ _ _ (List.Mem.head _)
    have q3_0 : w3.cell? ⟨w.heap.size, 0, none⟩ = some (.int .i64 8) := hI3.out.cell _ _ _ (List.Mem.head _) 0
    have q3_1 : w3.cell? ⟨w.heap.size, 1, none⟩ = some (.int .i64 n) := hI3.out.cell _ _ _ (List.Mem.head _) 1
    have q3_2 : w3.cell? ⟨w.heap.size, 2, none⟩ = some (.string s) := hI3.out.cell _ _ _ (List.Mem.head _) 2
    have q3_3 : w3.cell? ⟨w.heap.size, 3, none⟩ = some (.slice (some ⟨bk, off, none⟩) m cap) := hI3.out.cell _ _ _ (List.Mem.head _) 3
    go_wp2_with fail
    refine (hI3.out.list es _ ⟨#[93]⟩ (hsl.out _ (fun h => absurd h HC.out) (fun _ => rfl)) ihl.out (by have h := hlen.out; have hz : ByteArray.size ⟨#[93]⟩ = List.length [(93 : UInt8)] := rfl; (try simp only [List.length_append] at h ⊢); omega)).mono ?_; rintro e w4 ⟨rfl, hi⟩
    have hI4 := Lib.hid hi; clear hi
    go_wp2_with fail
    go_end0
    exact ⟨rfl, hI4.out.page, hI4.out.kept⟩

set_option maxRecDepth 100000 in
set_option maxHeartbeats 4000000 in
theorem wexpr_9 (B b : Nat) (l : List UInt8) (t want n : Int) (s : ByteArray) (A : Option Addr) (m cap : Nat) (w0 w : World) (hB : w0.heap.size ≤ B) (hw : Below B w0 w) (hp : PageAt B b l t w) (hwant : want ≤ 4) (e0 : Ex) (c0 c1 : Int) (c2 : ByteArray) (A9 : Option Addr) (n9 cap9 bk off : Nat) (hA : A = some ⟨bk, off, none⟩) (hk : Hid (∀ V, Below B w0 V → bk < V.heap.size ∧ V.cell? ⟨bk, off, none⟩ = some (.int .i64 c0) ∧ V.cell? ⟨bk, off + 1, none⟩ = some (.int .i64 c1) ∧ V.cell? ⟨bk, off + 2, none⟩ = some (.string c2) ∧ V.cell? ⟨bk, off + 3, none⟩ = some (.slice A9 n9 cap9))) (hm : 0 < m) (hR : Hid (Ex.R w0 e0 #[.int .i64 c0, .int .i64 c1, .string c2, .slice A9 n9 cap9])) (ih : Hid (Writes B b t w0 e0 4)) (hlen : Hid (l.length + (atT 4 e0).length + (cat [⟨#[46, 108, 101, 110, 103, 116, 104]⟩]).length ≤ 140737488355328)) :
    Calls Tryd.prog 16 #[.pointer (some ⟨b, 0, none⟩), .agg #[.int .i64 9, .int .i64 n, .string s, .slice A m cap], .int .i64 want] w fun x w' => x = .returned (.tuple #[]) ∧ PageAt B b (l ++ atT 4 e0 ++ cat [⟨#[46, 108, 101, 110, 103, 116, 104]⟩]) t w' ∧ Kept B b w w' := by
  subst hA
  have hbs1 := buildOne
  have hbs2 := buildTwo
  have hbs3 := buildThree
  have hI0 := Lib.hid ((Inv.start hB hw hp).add #[.int .i64 9, .int .i64 n, .string s, .slice (some ⟨bk, off, none⟩) m cap] 24 (by decide))
  clear hB hw hp
  go_enter Tryd.func16, Tryd.ntmps16
  go_wp2_with fail
  refine (of_9 _).mono ?_; rintro e w1 ⟨rfl, hb⟩
  have hI1 := Lib.hid (hI0.out.below hb); clear hb
  have hx1 := hI1.out.lt _ _ _ (List.Mem.head _)
  have q1_0 : w1.cell? ⟨w.heap.size, 0, none⟩ = some (.int .i64 9) := hI1.out.cell _ _ _ (List.Mem.head _) 0
  have q1_1 : w1.cell? ⟨w.heap.size, 1, none⟩ = some (.int .i64 n) := hI1.out.cell _ _ _ (List.Mem.head _) 1
  have q1_2 : w1.cell? ⟨w.heap.size, 2, none⟩ = some (.string s) := hI1.out.cell _ _ _ (List.Mem.head _) 2
  have q1_3 : w1.cell? ⟨w.heap.size, 3, none⟩ = some (.slice (some ⟨bk, off, none⟩) m cap) := hI1.out.cell _ _ _ (List.Mem.head _) 3
  obtain ⟨hbk1, k1_0, k1_1, k1_2, k1_3⟩ := hk.out w1 hI1.out.old
  go_wp2_with fail
  refine ((hI1.out.alloc _).expr ih.out hR.out (by have h := hlen.out; (try simp only [List.length_append] at h ⊢); omega)).mono ?_; rintro e w2 ⟨rfl, hi⟩
  have hI2 := Lib.hid hi; clear hi
  have hx2 := hI2.out.lt _ _ _ (List.Mem.head _)
  have q2_0 : w2.cell? ⟨w.heap.size, 0, none⟩ = some (.int .i64 9) := hI2.out.cell _ _ _ (List.Mem.head _) 0
  have q2_1 : w2.cell? ⟨w.heap.size, 1, none⟩ = some (.int .i64 n) := hI2.out.cell _ _ _ (List.Mem.head _) 1
  have q2_2 : w2.cell? ⟨w.heap.size, 2, none⟩ = some (.string s) := hI2.out.cell _ _ _ (List.Mem.head _) 2
  have q2_3 : w2.cell? ⟨w.heap.size, 3, none⟩ = some (.slice (some ⟨bk, off, none⟩) m cap) := hI2.out.cell _ _ _ (List.Mem.head _) 3
  go_wp2_with fail
  refine (hI2.out.lay [⟨#[46, 108, 101, 110, 103, 116, 104]⟩] _ (by simp) (by simp) (by have h := hlen.out; (try simp only [List.length_append] at h ⊢); omega)).mono ?_; rintro e w3 ⟨rfl, hi⟩
  have hI3 := Lib.hid hi; clear hi
  go_wp2_with fail
  go_end0
  exact ⟨rfl, hI3.out.page, hI3.out.kept⟩

set_option maxRecDepth 100000 in
set_option maxHeartbeats 4000000 in
theorem wexpr_10 (B b : Nat) (l : List UInt8) (t want n : Int) (s : ByteArray) (A : Option Addr) (m cap : Nat) (w0 w : World) (hB : w0.heap.size ≤ B) (hw : Below B w0 w) (hp : PageAt B b l t w) (hwant : want ≤ 4) (e0 : Ex) (c0 c1 : Int) (c2 : ByteArray) (A9 : Option Addr) (n9 cap9 bk off : Nat) (hA : A = some ⟨bk, off, none⟩) (hk : Hid (∀ V, Below B w0 V → bk < V.heap.size ∧ V.cell? ⟨bk, off, none⟩ = some (.int .i64 c0) ∧ V.cell? ⟨bk, off + 1, none⟩ = some (.int .i64 c1) ∧ V.cell? ⟨bk, off + 2, none⟩ = some (.string c2) ∧ V.cell? ⟨bk, off + 3, none⟩ = some (.slice A9 n9 cap9))) (hm : 0 < m) (hR : Hid (Ex.R w0 e0 #[.int .i64 c0, .int .i64 c1, .string c2, .slice A9 n9 cap9])) (ih : Hid (Writes B b t w0 e0 4)) (hmc : m ≤ cap) (hcm : cap ≤ 9223372036854775807) (es : List Ex) (hsl : Hid (∀ A2, (cap = 1 → A2 = some ⟨bk, off, none⟩) → (cap ≠ 1 → A2 = some ⟨bk, off + 4, none⟩) → Exs.V w0 es (.slice A2 (m - 1) (cap - 1)))) (ihl : Hid (∀ e, e ∈ es → Writes B b t w0 e 1)) (hlen : Hid (l.length + (atT 4 e0).length + (cat [⟨#[46]⟩, s, ⟨#[40]⟩]).length + (listT es).length + ((⟨#[41]⟩ : ByteArray).data.toList).length ≤ 140737488355328)) :
    Calls Tryd.prog 16 #[.pointer (some ⟨b, 0, none⟩), .agg #[.int .i64 10, .int .i64 n, .string s, .slice A m cap], .int .i64 want] w fun x w' => x = .returned (.tuple #[]) ∧ PageAt B b (l ++ atT 4 e0 ++ cat [⟨#[46]⟩, s, ⟨#[40]⟩] ++ listT es ++ (⟨#[41]⟩ : ByteArray).data.toList) t w' ∧ Kept B b w w' := by
  subst hA
  have hbs1 := buildOne
  have hbs2 := buildTwo
  have hbs3 := buildThree
  have hI0 := Lib.hid ((Inv.start hB hw hp).add #[.int .i64 10, .int .i64 n, .string s, .slice (some ⟨bk, off, none⟩) m cap] 24 (by decide))
  clear hB hw hp
  by_cases hc : cap = 1
  · subst hc
    obtain rfl : m = 1 := by omega
    go_enter Tryd.func16, Tryd.ntmps16
    go_wp2_with fail
    refine (of_10 _).mono ?_; rintro e w1 ⟨rfl, hb⟩
    have hI1 := Lib.hid (hI0.out.below hb); clear hb
    have hx1 := hI1.out.lt _ _ _ (List.Mem.head _)
    have q1_0 : w1.cell? ⟨w.heap.size, 0, none⟩ = some (.int .i64 10) := hI1.out.cell _ _ _ (List.Mem.head _) 0
    have q1_1 : w1.cell? ⟨w.heap.size, 1, none⟩ = some (.int .i64 n) := hI1.out.cell _ _ _ (List.Mem.head _) 1
    have q1_2 : w1.cell? ⟨w.heap.size, 2, none⟩ = some (.string s) := hI1.out.cell _ _ _ (List.Mem.head _) 2
    have q1_3 : w1.cell? ⟨w.heap.size, 3, none⟩ = some (.slice (some ⟨bk, off, none⟩) 1 1) := hI1.out.cell _ _ _ (List.Mem.head _) 3
    obtain ⟨hbk1, k1_0, k1_1, k1_2, k1_3⟩ := hk.out w1 hI1.out.old
    go_wp2_with fail
    refine ((hI1.out.alloc _).expr ih.out hR.out (by have h := hlen.out; (try simp only [List.length_append] at h ⊢); omega)).mono ?_; rintro e w2 ⟨rfl, hi⟩
    have hI2 := Lib.hid hi; clear hi
    have hx2 := hI2.out.lt _ _ _ (List.Mem.head _)
    have q2_0 : w2.cell? ⟨w.heap.size, 0, none⟩ = some (.int .i64 10) := hI2.out.cell _ _ _ (List.Mem.head _) 0
    have q2_1 : w2.cell? ⟨w.heap.size, 1, none⟩ = some (.int .i64 n) := hI2.out.cell _ _ _ (List.Mem.head _) 1
    have q2_2 : w2.cell? ⟨w.heap.size, 2, none⟩ = some (.string s) := hI2.out.cell _ _ _ (List.Mem.head _) 2
    have q2_3 : w2.cell? ⟨w.heap.size, 3, none⟩ = some (.slice (some ⟨bk, off, none⟩) 1 1) := hI2.out.cell _ _ _ (List.Mem.head _) 3
    go_wp2_with fail
    refine (hI2.out.lay [⟨#[46]⟩, s, ⟨#[40]⟩] _ (by simp) (by simp) (by have h := hlen.out; (try simp only [List.length_append] at h ⊢); omega)).mono ?_; rintro e w3 ⟨rfl, hi⟩
    have hI3 := Lib.hid hi; clear hi
    have hx3 := hI3.out.lt _ _ _ (List.Mem.head _)
    have q3_0 : w3.cell? ⟨w.heap.size, 0, none⟩ = some (.int .i64 10) := hI3.out.cell _ _ _ (List.Mem.head _) 0
    have q3_1 : w3.cell? ⟨w.heap.size, 1, none⟩ = some (.int .i64 n) := hI3.out.cell _ _ _ (List.Mem.head _) 1
    have q3_2 : w3.cell? ⟨w.heap.size, 2, none⟩ = some (.string s) := hI3.out.cell _ _ _ (List.Mem.head _) 2
    have q3_3 : w3.cell? ⟨w.heap.size, 3, none⟩ = some (.slice (some ⟨bk, off, none⟩) 1 1) := hI3.out.cell _ _ _ (List.Mem.head _) 3
    go_wp2_with fail
    refine (hI3.out.list es _ ⟨#[41]⟩ (hsl.out _ (fun _ => rfl) (fun h => absurd rfl h)) ihl.out (by have h := hlen.out; have hz : ByteArray.size ⟨#[41]⟩ = List.length [(41 : UInt8)] := rfl; (try simp only [List.length_append] at h ⊢); omega)).mono ?_; rintro e w4 ⟨rfl, hi⟩
    have hI4 := Lib.hid hi; clear hi
    go_wp2_with fail
    go_end0
    exact ⟨rfl, hI4.out.page, hI4.out.kept⟩

  · have HC := Lib.hid hc
    go_enter Tryd.func16, Tryd.ntmps16
    go_wp2_with fail
    refine (of_10 _).mono ?_; rintro e w1 ⟨rfl, hb⟩
    have hI1 := Lib.hid (hI0.out.below hb); clear hb
    have hx1 := hI1.out.lt _ _ _ (List.Mem.head _)
    have q1_0 : w1.cell? ⟨w.heap.size, 0, none⟩ = some (.int .i64 10) := hI1.out.cell _ _ _ (List.Mem.head _) 0
    have q1_1 : w1.cell? ⟨w.heap.size, 1, none⟩ = some (.int .i64 n) := hI1.out.cell _ _ _ (List.Mem.head _) 1
    have q1_2 : w1.cell? ⟨w.heap.size, 2, none⟩ = some (.string s) := hI1.out.cell _ _ _ (List.Mem.head _) 2
    have q1_3 : w1.cell? ⟨w.heap.size, 3, none⟩ = some (.slice (some ⟨bk, off, none⟩) m cap) := hI1.out.cell _ _ _ (List.Mem.head _) 3
    obtain ⟨hbk1, k1_0, k1_1, k1_2, k1_3⟩ := hk.out w1 hI1.out.old
    go_wp2_with fail
    refine ((hI1.out.alloc _).expr ih.out hR.out (by have h := hlen.out; (try simp only [List.length_append] at h ⊢); omega)).mono ?_; rintro e w2 ⟨rfl, hi⟩
    have hI2 := Lib.hid hi; clear hi
    have hx2 := hI2.out.lt _ _ _ (List.Mem.head _)
    have q2_0 : w2.cell? ⟨w.heap.size, 0, none⟩ = some (.int .i64 10) := hI2.out.cell _ _ _ (List.Mem.head _) 0
    have q2_1 : w2.cell? ⟨w.heap.size, 1, none⟩ = some (.int .i64 n) := hI2.out.cell _ _ _ (List.Mem.head _) 1
    have q2_2 : w2.cell? ⟨w.heap.size, 2, none⟩ = some (.string s) := hI2.out.cell _ _ _ (List.Mem.head _) 2
    have q2_3 : w2.cell? ⟨w.heap.size, 3, none⟩ = some (.slice (some ⟨bk, off, none⟩) m cap) := hI2.out.cell _ _ _ (List.Mem.head _) 3
    go_wp2_with fail
    refine (hI2.out.lay [⟨#[46]⟩, s, ⟨#[40]⟩] _ (by simp) (by simp) (by have h := hlen.out; (try simp only [List.length_append] at h ⊢); omega)).mono ?_; rintro e w3 ⟨rfl, hi⟩
    have hI3 := Lib.hid hi; clear hi
    have hx3 := hI3.out.lt _ _ _ (List.Mem.head _)
    have q3_0 : w3.cell? ⟨w.heap.size, 0, none⟩ = some (.int .i64 10) := hI3.out.cell _ _ _ (List.Mem.head _) 0
    have q3_1 : w3.cell? ⟨w.heap.size, 1, none⟩ = some (.int .i64 n) := hI3.out.cell _ _ _ (List.Mem.head _) 1
    have q3_2 : w3.cell? ⟨w.heap.size, 2, none⟩ = some (.string s) := hI3.out.cell _ _ _ (List.Mem.head _) 2
    have q3_3 : w3.cell? ⟨w.heap.size, 3, none⟩ = some (.slice (some ⟨bk, off, none⟩) m cap) := hI3.out.cell _ _ _ (List.Mem.head _) 3
    go_wp2_with fail
    refine (hI3.out.list es _ ⟨#[41]⟩ (hsl.out _ (fun h => absurd h HC.out) (fun _ => rfl)) ihl.out (by have h := hlen.out; have hz : ByteArray.size ⟨#[41]⟩ = List.length [(41 : UInt8)] := rfl; (try simp only [List.length_append] at h ⊢); omega)).mono ?_; rintro e w4 ⟨rfl, hi⟩
    have hI4 := Lib.hid hi; clear hi
    go_wp2_with fail
    go_end0
    exact ⟨rfl, hI4.out.page, hI4.out.kept⟩

set_option maxRecDepth 100000 in
set_option maxHeartbeats 4000000 in
theorem wexpr_11 (B b : Nat) (l : List UInt8) (t want n : Int) (s : ByteArray) (A : Option Addr) (m cap : Nat) (w0 w : World) (hB : w0.heap.size ≤ B) (hw : Below B w0 w) (hp : PageAt B b l t w) (hwant : want ≤ 4) (hn : I64 n) (he : Env w0) (hlen : Hid (l.length + (cat [⟨#[114, 101, 97, 100, 40]⟩, ⟨(Lib.itoa n).toArray⟩, ⟨#[41]⟩]).length ≤ 140737488355328)) :
    Calls Tryd.prog 16 #[.pointer (some ⟨b, 0, none⟩), .agg #[.int .i64 11, .int .i64 n, .string s, .slice A m cap], .int .i64 want] w fun x w' => x = .returned (.tuple #[]) ∧ PageAt B b (l ++ cat [⟨#[114, 101, 97, 100, 40]⟩, ⟨(Lib.itoa n).toArray⟩, ⟨#[41]⟩]) t w' ∧ Kept B b w w' := by
  have hbs1 := buildOne
  have hbs2 := buildTwo
  have hbs3 := buildThree
  have hI0 := Lib.hid ((Inv.start hB hw hp).add #[.int .i64 11, .int .i64 n, .string s, .slice A m cap] 24 (by decide))
  clear hB hw hp
  go_enter Tryd.func16, Tryd.ntmps16
  go_wp2_with fail
  refine (of_11 _).mono ?_; rintro e w1 ⟨rfl, hb⟩
  have hI1 := Lib.hid (hI0.out.below hb); clear hb
  have hx1 := hI1.out.lt _ _ _ (List.Mem.head _)
  have q1_0 : w1.cell? ⟨w.heap.size, 0, none⟩ = some (.int .i64 11) := hI1.out.cell _ _ _ (List.Mem.head _) 0
  have q1_1 : w1.cell? ⟨w.heap.size, 1, none⟩ = some (.int .i64 n) := hI1.out.cell _ _ _ (List.Mem.head _) 1
  have q1_2 : w1.cell? ⟨w.heap.size, 2, none⟩ = some (.string s) := hI1.out.cell _ _ _ (List.Mem.head _) 2
  have q1_3 : w1.cell? ⟨w.heap.size, 3, none⟩ = some (.slice A m cap) := hI1.out.cell _ _ _ (List.Mem.head _) 3
  go_wp2_with fail
  refine (text_any n _ hn (he.below (hI1.out.alloc _).old hI0.out.base)).mono ?_; rintro e w2 ⟨rfl, hb⟩
  have hI2 := Lib.hid ((hI1.out.alloc _).below hb); clear hb
  have hx2 := hI2.out.lt _ _ _ (List.Mem.head _)
  have q2_0 : w2.cell? ⟨w.heap.size, 0, none⟩ = some (.int .i64 11) := hI2.out.cell _ _ _ (List.Mem.head _) 0
  have q2_1 : w2.cell? ⟨w.heap.size, 1, none⟩ = some (.int .i64 n) := hI2.out.cell _ _ _ (List.Mem.head _) 1
  have q2_2 : w2.cell? ⟨w.heap.size, 2, none⟩ = some (.string s) := hI2.out.cell _ _ _ (List.Mem.head _) 2
  have q2_3 : w2.cell? ⟨w.heap.size, 3, none⟩ = some (.slice A m cap) := hI2.out.cell _ _ _ (List.Mem.head _) 3
  go_wp2_with fail
  refine (hI2.out.lay [⟨#[114, 101, 97, 100, 40]⟩, ⟨(Lib.itoa n).toArray⟩, ⟨#[41]⟩] _ (by simp) (by simp) (by have h := hlen.out; (try simp only [List.length_append] at h ⊢); omega)).mono ?_; rintro e w3 ⟨rfl, hi⟩
  have hI3 := Lib.hid hi; clear hi
  go_wp2_with fail
  go_end0
  exact ⟨rfl, hI3.out.page, hI3.out.kept⟩

set_option maxRecDepth 100000 in
set_option maxHeartbeats 4000000 in
theorem wexpr_12 (B b : Nat) (l : List UInt8) (t want n : Int) (s : ByteArray) (A : Option Addr) (m cap : Nat) (w0 w : World) (hB : w0.heap.size ≤ B) (hw : Below B w0 w) (hp : PageAt B b l t w) (hwant : want ≤ 4) (es : List Ex) (hsl : Hid (Exs.V w0 es (.slice A m cap))) (ihl : Hid (∀ e, e ∈ es → Writes B b t w0 e 1)) (hlen : Hid (l.length + (cat [⟨#[100, 101, 99, 108, 97, 115, 115, 105, 102, 121, 40]⟩]).length + (listT es).length + ((⟨#[41]⟩ : ByteArray).data.toList).length ≤ 140737488355328)) :
    Calls Tryd.prog 16 #[.pointer (some ⟨b, 0, none⟩), .agg #[.int .i64 12, .int .i64 n, .string s, .slice A m cap], .int .i64 want] w fun x w' => x = .returned (.tuple #[]) ∧ PageAt B b (l ++ cat [⟨#[100, 101, 99, 108, 97, 115, 115, 105, 102, 121, 40]⟩] ++ listT es ++ (⟨#[41]⟩ : ByteArray).data.toList) t w' ∧ Kept B b w w' := by
  have hbs1 := buildOne
  have hbs2 := buildTwo
  have hbs3 := buildThree
  have hI0 := Lib.hid ((Inv.start hB hw hp).add #[.int .i64 12, .int .i64 n, .string s, .slice A m cap] 24 (by decide))
  clear hB hw hp
  go_enter Tryd.func16, Tryd.ntmps16
  go_wp2_with fail
  refine (of_12 _).mono ?_; rintro e w1 ⟨rfl, hb⟩
  have hI1 := Lib.hid (hI0.out.below hb); clear hb
  have hx1 := hI1.out.lt _ _ _ (List.Mem.head _)
  have q1_0 : w1.cell? ⟨w.heap.size, 0, none⟩ = some (.int .i64 12) := hI1.out.cell _ _ _ (List.Mem.head _) 0
  have q1_1 : w1.cell? ⟨w.heap.size, 1, none⟩ = some (.int .i64 n) := hI1.out.cell _ _ _ (List.Mem.head _) 1
  have q1_2 : w1.cell? ⟨w.heap.size, 2, none⟩ = some (.string s) := hI1.out.cell _ _ _ (List.Mem.head _) 2
  have q1_3 : w1.cell? ⟨w.heap.size, 3, none⟩ = some (.slice A m cap) := hI1.out.cell _ _ _ (List.Mem.head _) 3
  go_wp2_with fail
  refine ((hI1.out.alloc _).lay [⟨#[100, 101, 99, 108, 97, 115, 115, 105, 102, 121, 40]⟩] _ (by simp) (by simp) (by have h := hlen.out; (try simp only [List.length_append] at h ⊢); omega)).mono ?_; rintro e w2 ⟨rfl, hi⟩
  have hI2 := Lib.hid hi; clear hi
  have hx2 := hI2.out.lt _ _ _ (List.Mem.head _)
  have q2_0 : w2.cell? ⟨w.heap.size, 0, none⟩ = some (.int .i64 12) := hI2.out.cell _ _ _ (List.Mem.head _) 0
  have q2_1 : w2.cell? ⟨w.heap.size, 1, none⟩ = some (.int .i64 n) := hI2.out.cell _ _ _ (List.Mem.head _) 1
  have q2_2 : w2.cell? ⟨w.heap.size, 2, none⟩ = some (.string s) := hI2.out.cell _ _ _ (List.Mem.head _) 2
  have q2_3 : w2.cell? ⟨w.heap.size, 3, none⟩ = some (.slice A m cap) := hI2.out.cell _ _ _ (List.Mem.head _) 3
  go_wp2_with fail
  refine (hI2.out.list es _ ⟨#[41]⟩ hsl.out ihl.out (by have h := hlen.out; have hz : ByteArray.size ⟨#[41]⟩ = List.length [(41 : UInt8)] := rfl; (try simp only [List.length_append] at h ⊢); omega)).mono ?_; rintro e w3 ⟨rfl, hi⟩
  have hI3 := Lib.hid hi; clear hi
  go_wp2_with fail
  go_end0
  exact ⟨rfl, hI3.out.page, hI3.out.kept⟩

end Go.Proofs.YtapdgeajbnbdjaaDoor
