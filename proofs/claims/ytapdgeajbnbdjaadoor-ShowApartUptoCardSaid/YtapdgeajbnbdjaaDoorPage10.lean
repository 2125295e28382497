/- show.page.stmt: a walk for each kind. (gen_page10.py) -/
import Derived.Test.YtapdgeajbnbdjaaDoorPage9
namespace Go.Proofs.YtapdgeajbnbdjaaDoor
open Go.RowKit

section
variable {B b : Nat} {t : Nat} {w0 W : World} {L : List (Nat × Array Value × TypeId)} {l : List UInt8} {V : World}
theorem Inv.lineNil (h : Inv B b t w0 W L l V) (ht : t ≤ 4000000) (hlen : l.length + (tabsT t).length ≤ 140737488355328) :
    Calls Tryd.prog 24 #[.pointer (some ⟨b, 0, none⟩), .slice none 0 0] V fun e V' => e = .returned (.tuple #[]) ∧ Inv B b t w0 W L (l ++ tabsT t) V' := by
  refine (line_nil B b l t V h.page ht hlen).mono ?_
  rintro e V' ⟨rfl, hp, hk⟩
  exact ⟨rfl, h.step hp hk⟩
theorem Inv.line (h : Inv B b t w0 W L l V) (ht : t ≤ 4000000) (ss : List ByteArray) (N : Nat) (hN : N = V.heap.size) (hm : ss.length ≤ 2000000) (hlen : l.length + (tabsT t).length + (cat ss).length ≤ 140737488355328) :
    Calls Tryd.prog 24 #[.pointer (some ⟨b, 0, none⟩), .slice (some ⟨N, 0, none⟩) ss.length ss.length] (V.alloc (.cells (ss.map Value.string).toArray 9)) fun e V' => e = .returned (.tuple #[]) ∧ Inv B b t w0 W L (l ++ tabsT t ++ cat ss) V' := by
  subst hN
  refine (line_any B b V.heap.size l t ss _ (h.page.alloc _) (new_at _ _) (by have := h.page.lt; omega) hm ht hlen).mono ?_
  rintro e V' ⟨rfl, hp, hk⟩
  exact ⟨rfl, (h.alloc _).step hp hk⟩
theorem Inv.block (h : Inv B b t w0 W L l V) {ls : List St} {v : Value} (hb : WBl B b w0 ls) (hv : Sts.V w0 ls v) (hlen : l.length + (blockT t ls).length ≤ 140737488355328) (ht : t + Sts.bulk ls ≤ 4000000) :
    Calls Tryd.prog 26 #[.pointer (some ⟨b, 0, none⟩), v] V fun e V' => e = .returned (.tuple #[]) ∧ Inv B b t w0 W L (l ++ blockT t ls) V' := by
  refine (hb v V l t hv h.old h.page hlen ht).mono ?_
  rintro x V' ⟨rfl, hp, hk⟩
  exact ⟨rfl, h.step hp hk⟩
end
theorem buildTwoConst (x y : ByteArray) (w : World) : (Instr.buildSlice 63 2 #[(0, .string x), (1, .string y)]).run Tryd.prog w = .ok (.slice (some ⟨w.heap.size, 0, none⟩) 2 2) (w.alloc (.cells #[.string x, .string y] 9)) := buildTwo x y w

set_option maxRecDepth 100000 in
set_option maxHeartbeats 4000000 in
theorem wst_1n (B b : Nat) (l : List UInt8) (t : Nat) (n : Int) (ty nm : ByteArray) (A0 A1 A2 : Option Addr) (m0 cap0 m1 cap1 m2 cap2 : Nat) (w0 w : World) (hB : w0.heap.size ≤ B) (hw : Below B w0 w) (hp : PageAt B b l t w) (ht : t ≤ 4000000) (hm : m0 < 1) (hlen : Hid (l.length + (tabsT t).length + (cat [ty, ⟨#[32]⟩, nm]).length + (cat [⟨#[59, 10]⟩]).length ≤ 140737488355328)) :
    Calls Tryd.prog 51 #[.pointer (some ⟨b, 0, none⟩), .agg #[.int .i64 1, .int .i64 n, .string ty, .string nm, .slice A0 m0 cap0, .slice A1 m1 cap1, .slice A2 m2 cap2]] w fun x w' => x = .returned (.tuple #[]) ∧ PageAt B b (l ++ tabsT t ++ cat [ty, ⟨#[32]⟩, nm] ++ cat [⟨#[59, 10]⟩]) t w' ∧ Kept B b w w' := by
  have hbs1 := buildOne
  have hbs2 := buildTwo
  have hbs3 := buildThree
  have hI0 := Lib.hid ((Inv.start hB hw hp).add #[.int .i64 1, .int .i64 n, .string ty, .string nm, .slice A0 m0 cap0, .slice A1 m1 cap1, .slice A2 m2 cap2] 39 (by decide))
  clear hB hw hp
  go_enter Tryd.func51, Tryd.ntmps51
  go_wp2_with fail
  refine (hI0.out.lineNil ht (by have h := hlen.out; have hT := tabsT_len t; (try simp only [List.length_append] at h ⊢); omega)).mono ?_; rintro e w1 ⟨rfl, hi⟩
  have hI1 := Lib.hid hi; clear hi
  have hx1 := hI1.out.lt _ _ _ (List.Mem.head _)
  have q1_0 : w1.cell? ⟨w.heap.size, 0, none⟩ = some (.int .i64 1) := hI1.out.cell _ _ _ (List.Mem.head _) 0
  have q1_1 : w1.cell? ⟨w.heap.size, 1, none⟩ = some (.int .i64 n) := hI1.out.cell _ _ _ (List.Mem.head _) 1
  have q1_2 : w1.cell? ⟨w.heap.size, 2, none⟩ = some (.string ty) := hI1.out.cell _ _ _ (List.Mem.head _) 2
  have q1_3 : w1.cell? ⟨w.heap.size, 3, none⟩ = some (.string nm) := hI1.out.cell _ _ _ (List.Mem.head _) 3
  have q1_4 : w1.cell? ⟨w.heap.size, 4, none⟩ = some (.slice A0 m0 cap0) := hI1.out.cell _ _ _ (List.Mem.head _) 4
  have q1_5 : w1.cell? ⟨w.heap.size, 5, none⟩ = some (.slice A1 m1 cap1) := hI1.out.cell _ _ _ (List.Mem.head _) 5
  have q1_6 : w1.cell? ⟨w.heap.size, 6, none⟩ = some (.slice A2 m2 cap2) := hI1.out.cell _ _ _ (List.Mem.head _) 6
  go_wp2_with fail
  refine (hI1.out.lay [ty, ⟨#[32]⟩, nm] _ (by simp) (by simp) (by have h := hlen.out; have hT := tabsT_len t; (try simp only [List.length_append] at h ⊢); omega)).mono ?_; rintro e w2 ⟨rfl, hi⟩
  have hI2 := Lib.hid hi; clear hi
  have hx2 := hI2.out.lt _ _ _ (List.Mem.head _)
  have q2_0 : w2.cell? ⟨w.heap.size, 0, none⟩ = some (.int .i64 1) := hI2.out.cell _ _ _ (List.Mem.head _) 0
  have q2_1 : w2.cell? ⟨w.heap.size, 1, none⟩ = some (.int .i64 n) := hI2.out.cell _ _ _ (List.Mem.head _) 1
  have q2_2 : w2.cell? ⟨w.heap.size, 2, none⟩ = some (.string ty) := hI2.out.cell _ _ _ (List.Mem.head _) 2
  have q2_3 : w2.cell? ⟨w.heap.size, 3, none⟩ = some (.string nm) := hI2.out.cell _ _ _ (List.Mem.head _) 3
  have q2_4 : w2.cell? ⟨w.heap.size, 4, none⟩ = some (.slice A0 m0 cap0) := hI2.out.cell _ _ _ (List.Mem.head _) 4
  have q2_5 : w2.cell? ⟨w.heap.size, 5, none⟩ = some (.slice A1 m1 cap1) := hI2.out.cell _ _ _ (List.Mem.head _) 5
  have q2_6 : w2.cell? ⟨w.heap.size, 6, none⟩ = some (.slice A2 m2 cap2) := hI2.out.cell _ _ _ (List.Mem.head _) 6
  go_wp2_with fail
  refine (hI2.out.lay [⟨#[59, 10]⟩] _ (by simp) (by simp) (by have h := hlen.out; have hT := tabsT_len t; (try simp only [List.length_append] at h ⊢); omega)).mono ?_; rintro e w3 ⟨rfl, hi⟩
  have hI3 := Lib.hid hi; clear hi
  go_wp2_with fail
  go_end0
  refine ⟨rfl, ?_, hI3.out.kept⟩
  simpa only [List.append_assoc] using hI3.out.page

set_option maxRecDepth 100000 in
set_option maxHeartbeats 4000000 in
theorem wst_1c (B b : Nat) (l : List UInt8) (t : Nat) (n : Int) (ty nm : ByteArray) (A0 A1 A2 : Option Addr) (m0 cap0 m1 cap1 m2 cap2 : Nat) (w0 w : World) (hB : w0.heap.size ≤ B) (hw : Below B w0 w) (hp : PageAt B b l t w) (ht : t ≤ 4000000) (es : List Ex) (hsl : Hid (Exs.V w0 es (.slice A0 m0 cap0))) (ihl : Hid (∀ e, e ∈ es → Writes B b t w0 e 1)) (hm : 0 < m0) (hlen : Hid (l.length + (tabsT t).length + (cat [ty, ⟨#[32]⟩, nm]).length + (cat [⟨#[32, 61, 32]⟩]).length + (listT es).length + ((⟨#[]⟩ : ByteArray).data.toList).length + (cat [⟨#[59, 10]⟩]).length ≤ 140737488355328)) :
    Calls Tryd.prog 51 #[.pointer (some ⟨b, 0, none⟩), .agg #[.int .i64 1, .int .i64 n, .string ty, .string nm, .slice A0 m0 cap0, .slice A1 m1 cap1, .slice A2 m2 cap2]] w fun x w' => x = .returned (.tuple #[]) ∧ PageAt B b (l ++ tabsT t ++ cat [ty, ⟨#[32]⟩, nm] ++ cat [⟨#[32, 61, 32]⟩] ++ listT es ++ (⟨#[]⟩ : ByteArray).data.toList ++ cat [⟨#[59, 10]⟩]) t w' ∧ Kept B b w w' := by
  have hbs1 := buildOne
  have hbs2 := buildTwo
  have hbs3 := buildThree
  have hI0 := Lib.hid ((Inv.start hB hw hp).add #[.int .i64 1, .int .i64 n, .string ty, .string nm, .slice A0 m0 cap0, .slice A1 m1 cap1, .slice A2 m2 cap2] 39 (by decide))
  clear hB hw hp
  go_enter Tryd.func51, Tryd.ntmps51
  go_wp2_with fail
  refine (hI0.out.lineNil ht (by have h := hlen.out; have hT := tabsT_len t; (try simp only [List.length_append] at h ⊢); omega)).mono ?_; rintro e w1 ⟨rfl, hi⟩
  have hI1 := Lib.hid hi; clear hi
  have hx1 := hI1.out.lt _ _ _ (List.Mem.head _)
  have q1_0 : w1.cell? ⟨w.heap.size, 0, none⟩ = some (.int .i64 1) := hI1.out.cell _ _ _ (List.Mem.head _) 0
  have q1_1 : w1.cell? ⟨w.heap.size, 1, none⟩ = some (.int .i64 n) := hI1.out.cell _ _ _ (List.Mem.head _) 1
  have q1_2 : w1.cell? ⟨w.heap.size, 2, none⟩ = some (.string ty) := hI1.out.cell _ _ _ (List.Mem.head _) 2
  have q1_3 : w1.cell? ⟨w.heap.size, 3, none⟩ = some (.string nm) := hI1.out.cell _ _ _ (List.Mem.head _) 3
  have q1_4 : w1.cell? ⟨w.heap.size, 4, none⟩ = some (.slice A0 m0 cap0) := hI1.out.cell _ _ _ (List.Mem.head _) 4
  have q1_5 : w1.cell? ⟨w.heap.size, 5, none⟩ = some (.slice A1 m1 cap1) := hI1.out.cell _ _ _ (List.Mem.head _) 5
  have q1_6 : w1.cell? ⟨w.heap.size, 6, none⟩ = some (.slice A2 m2 cap2) := hI1.out.cell _ _ _ (List.Mem.head _) 6
  go_wp2_with fail
  refine (hI1.out.lay [ty, ⟨#[32]⟩, nm] _ (by simp) (by simp) (by have h := hlen.out; have hT := tabsT_len t; (try simp only [List.length_append] at h ⊢); omega)).mono ?_; rintro e w2 ⟨rfl, hi⟩
  have hI2 := Lib.hid hi; clear hi
  have hx2 := hI2.out.lt _ _ _ (List.Mem.head _)
  have q2_0 : w2.cell? ⟨w.heap.size, 0, none⟩ = some (.int .i64 1) := hI2.out.cell _ _ _ (List.Mem.head _) 0
  have q2_1 : w2.cell? ⟨w.heap.size, 1, none⟩ = some (.int .i64 n) := hI2.out.cell _ _ _ (List.Mem.head _) 1
  have q2_2 : w2.cell? ⟨w.heap.size, 2, none⟩ = some (.string ty) := hI2.out.cell _ _ _ (List.Mem.head _) 2
  have q2_3 : w2.cell? ⟨w.heap.size, 3, none⟩ = some (.string nm) := hI2.out.cell _ _ _ (List.Mem.head _) 3
  have q2_4 : w2.cell? ⟨w.heap.size, 4, none⟩ = some (.slice A0 m0 cap0) := hI2.out.cell _ _ _ (List.Mem.head _) 4
  have q2_5 : w2.cell? ⟨w.heap.size, 5, none⟩ = some (.slice A1 m1 cap1) := hI2.out.cell _ _ _ (List.Mem.head _) 5
  have q2_6 : w2.cell? ⟨w.heap.size, 6, none⟩ = some (.slice A2 m2 cap2) := hI2.out.cell _ _ _ (List.Mem.head _) 6
  go_wp2_with fail
  refine (hI2.out.lay [⟨#[32, 61, 32]⟩] _ (by simp) (by simp) (by have h := hlen.out; have hT := tabsT_len t; (try simp only [List.length_append] at h ⊢); omega)).mono ?_; rintro e w3 ⟨rfl, hi⟩
  have hI3 := Lib.hid hi; clear hi
  have hx3 := hI3.out.lt _ _ _ (List.Mem.head _)
  have q3_0 : w3.cell? ⟨w.heap.size, 0, none⟩ = some (.int .i64 1) := hI3.out.cell _ _ _ (List.Mem.head _) 0
  have q3_1 : w3.cell? ⟨w.heap.size, 1, none⟩ = some (.int .i64 n) := hI3.out.cell _ _ _ (List.Mem.head _) 1
  have q3_2 : w3.cell? ⟨w.heap.size, 2, none⟩ = some (.string ty) := hI3.out.cell _ _ _ (List.Mem.head _) 2
  have q3_3 : w3.cell? ⟨w.heap.size, 3, none⟩ = some (.string nm) := hI3.out.cell _ _ _ (List.Mem.head _) 3
  have q3_4 : w3.cell? ⟨w.heap.size, 4, none⟩ = some (.slice A0 m0 cap0) := hI3.out.cell _ _ _ (List.Mem.head _) 4
  have q3_5 : w3.cell? ⟨w.heap.size, 5, none⟩ = some (.slice A1 m1 cap1) := hI3.out.cell _ _ _ (List.Mem.head _) 5
  have q3_6 : w3.cell? ⟨w.heap.size, 6, none⟩ = some (.slice A2 m2 cap2) := hI3.out.cell _ _ _ (List.Mem.head _) 6
  go_wp2_with fail
  refine (hI3.out.list es _ ⟨#[]⟩ hsl.out ihl.out (by have hz : ByteArray.size ⟨#[]⟩ = List.length ([] : List UInt8) := rfl; have h := hlen.out; have hT := tabsT_len t; (try simp only [List.length_append] at h ⊢); omega)).mono ?_; rintro e w4 ⟨rfl, hi⟩
  have hI4 := Lib.hid hi; clear hi
  have hx4 := hI4.out.lt _ _ _ (List.Mem.head _)
  have q4_0 : w4.cell? ⟨w.heap.size, 0, none⟩ = some (.int .i64 1) := hI4.out.cell _ _ _ (List.Mem.head _) 0
  have q4_1 : w4.cell? ⟨w.heap.size, 1, none⟩ = some (.int .i64 n) := hI4.out.cell _ _ _ (List.Mem.head _) 1
  have q4_2 : w4.cell? ⟨w.heap.size, 2, none⟩ = some (.string ty) := hI4.out.cell _ _ _ (List.Mem.head _) 2
  have q4_3 : w4.cell? ⟨w.heap.size, 3, none⟩ = some (.string nm) := hI4.out.cell _ _ _ (List.Mem.head _) 3
  have q4_4 : w4.cell? ⟨w.heap.size, 4, none⟩ = some (.slice A0 m0 cap0) := hI4.out.cell _ _ _ (List.Mem.head _) 4
  have q4_5 : w4.cell? ⟨w.heap.size, 5, none⟩ = some (.slice A1 m1 cap1) := hI4.out.cell _ _ _ (List.Mem.head _) 5
  have q4_6 : w4.cell? ⟨w.heap.size, 6, none⟩ = some (.slice A2 m2 cap2) := hI4.out.cell _ _ _ (List.Mem.head _) 6
  go_wp2_with fail
  refine (hI4.out.lay [⟨#[59, 10]⟩] _ (by simp) (by simp) (by have h := hlen.out; have hT := tabsT_len t; (try simp only [List.length_append] at h ⊢); omega)).mono ?_; rintro e w5 ⟨rfl, hi⟩
  have hI5 := Lib.hid hi; clear hi
  go_wp2_with fail
  go_end0
  refine ⟨rfl, ?_, hI5.out.kept⟩
  simpa only [List.append_assoc] using hI5.out.page

set_option maxRecDepth 100000 in
set_option maxHeartbeats 4000000 in
theorem wst_2 (B b : Nat) (l : List UInt8) (t : Nat) (n : Int) (ty nm : ByteArray) (A1 A2 : Option Addr) (m0 cap0 m1 cap1 m2 cap2 : Nat) (w0 w : World) (hB : w0.heap.size ≤ B) (hw : Below B w0 w) (hp : PageAt B b l t w) (ht : t ≤ 4000000) (e0 : Ex) (c00 c01 : Int) (c02 : ByteArray) (A09 : Option Addr) (n09 cap09 : Nat) (e1 : Ex) (c10 c11 : Int) (c12 : ByteArray) (A19 : Option Addr) (n19 cap19 : Nat) (bk off : Nat) (hk0 : Hid (∀ V, Below B w0 V → bk < V.heap.size ∧ V.cell? ⟨bk, off, none⟩ = some (.int .i64 c00) ∧ V.cell? ⟨bk, off + 1, none⟩ = some (.int .i64 c01) ∧ V.cell? ⟨bk, off + 2, none⟩ = some (.string c02) ∧ V.cell? ⟨bk, off + 3, none⟩ = some (.slice A09 n09 cap09))) (hR0 : Hid (Ex.R w0 e0 #[.int .i64 c00, .int .i64 c01, .string c02, .slice A09 n09 cap09])) (ih0 : Hid (Writes B b t w0 e0 1)) (hk1 : Hid (∀ V, Below B w0 V → bk < V.heap.size ∧ V.cell? ⟨bk, off + 4, none⟩ = some (.int .i64 c10) ∧ V.cell? ⟨bk, off + 4 + 1, none⟩ = some (.int .i64 c11) ∧ V.cell? ⟨bk, off + 4 + 2, none⟩ = some (.string c12) ∧ V.cell? ⟨bk, off + 4 + 3, none⟩ = some (.slice A19 n19 cap19))) (hR1 : Hid (Ex.R w0 e1 #[.int .i64 c10, .int .i64 c11, .string c12, .slice A19 n19 cap19])) (ih1 : Hid (Writes B b t w0 e1 1)) (hm : 1 < m0) (hlen : Hid (l.length + (tabsT t).length + (atT 1 e0).length + (cat [⟨#[32, 61, 32]⟩]).length + (atT 1 e1).length + (cat [⟨#[59, 10]⟩]).length ≤ 140737488355328)) :
    Calls Tryd.prog 51 #[.pointer (some ⟨b, 0, none⟩), .agg #[.int .i64 2, .int .i64 n, .string ty, .string nm, .slice (some ⟨bk, off, none⟩) m0 cap0, .slice A1 m1 cap1, .slice A2 m2 cap2]] w fun x w' => x = .returned (.tuple #[]) ∧ PageAt B b (l ++ tabsT t ++ atT 1 e0 ++ cat [⟨#[32, 61, 32]⟩] ++ atT 1 e1 ++ cat [⟨#[59, 10]⟩]) t w' ∧ Kept B b w w' := by
  have hbs1 := buildOne
  have hbs2 := buildTwo
  have hbs3 := buildThree
  have hm0 : 0 < m0 := by omega
  have hm1 : (1 : Int) < (m0 : Int) := by omega
  have hI0 := Lib.hid ((Inv.start hB hw hp).add #[.int .i64 2, .int .i64 n, .string ty, .string nm, .slice (some ⟨bk, off, none⟩) m0 cap0, .slice A1 m1 cap1, .slice A2 m2 cap2] 39 (by decide))
  clear hB hw hp
  go_enter Tryd.func51, Tryd.ntmps51
  go_wp2_with fail
  refine (hI0.out.lineNil ht (by have h := hlen.out; have hT := tabsT_len t; (try simp only [List.length_append] at h ⊢); omega)).mono ?_; rintro e w1 ⟨rfl, hi⟩
  have hI1 := Lib.hid hi; clear hi
  have hx1 := hI1.out.lt _ _ _ (List.Mem.head _)
  have q1_0 : w1.cell? ⟨w.heap.size, 0, none⟩ = some (.int .i64 2) := hI1.out.cell _ _ _ (List.Mem.head _) 0
  have q1_1 : w1.cell? ⟨w.heap.size, 1, none⟩ = some (.int .i64 n) := hI1.out.cell _ _ _ (List.Mem.head _) 1
  have q1_2 : w1.cell? ⟨w.heap.size, 2, none⟩ = some (.string ty) := hI1.out.cell _ _ _ (List.Mem.head _) 2
  have q1_3 : w1.cell? ⟨w.heap.size, 3, none⟩ = some (.string nm) := hI1.out.cell _ _ _ (List.Mem.head _) 3
  have q1_4 : w1.cell? ⟨w.heap.size, 4, none⟩ = some (.slice (some ⟨bk, off, none⟩) m0 cap0) := hI1.out.cell _ _ _ (List.Mem.head _) 4
  have q1_5 : w1.cell? ⟨w.heap.size, 5, none⟩ = some (.slice A1 m1 cap1) := hI1.out.cell _ _ _ (List.Mem.head _) 5
  have q1_6 : w1.cell? ⟨w.heap.size, 6, none⟩ = some (.slice A2 m2 cap2) := hI1.out.cell _ _ _ (List.Mem.head _) 6
  obtain ⟨hbk1, k1_0, k1_1, k1_2, k1_3⟩ := hk0.out w1 hI1.out.old
  go_wp2_with fail
  refine (hI1.out.expr ih0.out hR0.out (by have h := hlen.out; have hT := tabsT_len t; (try simp only [List.length_append] at h ⊢); omega)).mono ?_; rintro e w2 ⟨rfl, hi⟩
  have hI2 := Lib.hid hi; clear hi
  have hx2 := hI2.out.lt _ _ _ (List.Mem.head _)
  have q2_0 : w2.cell? ⟨w.heap.size, 0, none⟩ = some (.int .i64 2) := hI2.out.cell _ _ _ (List.Mem.head _) 0
  have q2_1 : w2.cell? ⟨w.heap.size, 1, none⟩ = some (.int .i64 n) := hI2.out.cell _ _ _ (List.Mem.head _) 1
  have q2_2 : w2.cell? ⟨w.heap.size, 2, none⟩ = some (.string ty) := hI2.out.cell _ _ _ (List.Mem.head _) 2
  have q2_3 : w2.cell? ⟨w.heap.size, 3, none⟩ = some (.string nm) := hI2.out.cell _ _ _ (List.Mem.head _) 3
  have q2_4 : w2.cell? ⟨w.heap.size, 4, none⟩ = some (.slice (some ⟨bk, off, none⟩) m0 cap0) := hI2.out.cell _ _ _ (List.Mem.head _) 4
  have q2_5 : w2.cell? ⟨w.heap.size, 5, none⟩ = some (.slice A1 m1 cap1) := hI2.out.cell _ _ _ (List.Mem.head _) 5
  have q2_6 : w2.cell? ⟨w.heap.size, 6, none⟩ = some (.slice A2 m2 cap2) := hI2.out.cell _ _ _ (List.Mem.head _) 6
  go_wp2_with fail
  refine (hI2.out.lay [⟨#[32, 61, 32]⟩] _ (by simp) (by simp) (by have h := hlen.out; have hT := tabsT_len t; (try simp only [List.length_append] at h ⊢); omega)).mono ?_; rintro e w3 ⟨rfl, hi⟩
  have hI3 := Lib.hid hi; clear hi
  have hx3 := hI3.out.lt _ _ _ (List.Mem.head _)
  have q3_0 : w3.cell? ⟨w.heap.size, 0, none⟩ = some (.int .i64 2) := hI3.out.cell _ _ _ (List.Mem.head _) 0
  have q3_1 : w3.cell? ⟨w.heap.size, 1, none⟩ = some (.int .i64 n) := hI3.out.cell _ _ _ (List.Mem.head _) 1
  have q3_2 : w3.cell? ⟨w.heap.size, 2, none⟩ = some (.string ty) := hI3.out.cell _ _ _ (List.Mem.head _) 2
  have q3_3 : w3.cell? ⟨w.heap.size, 3, none⟩ = some (.string nm) := hI3.out.cell _ _ _ (List.Mem.head _) 3
  have q3_4 : w3.cell? ⟨w.heap.size, 4, none⟩ = some (.slice (some ⟨bk, off, none⟩) m0 cap0) := hI3.out.cell _ _ _ (List.Mem.head _) 4
  have q3_5 : w3.cell? ⟨w.heap.size, 5, none⟩ = some (.slice A1 m1 cap1) := hI3.out.cell _ _ _ (List.Mem.head _) 5
  have q3_6 : w3.cell? ⟨w.heap.size, 6, none⟩ = some (.slice A2 m2 cap2) := hI3.out.cell _ _ _ (List.Mem.head _) 6
  obtain ⟨hbk3, k3_0, k3_1, k3_2, k3_3⟩ := hk1.out w3 hI3.out.old
  go_wp2_with fail
  refine (hI3.out.expr ih1.out hR1.out (by have h := hlen.out; have hT := tabsT_len t; (try simp only [List.length_append] at h ⊢); omega)).mono ?_; rintro e w4 ⟨rfl, hi⟩
  have hI4 := Lib.hid hi; clear hi
  have hx4 := hI4.out.lt _ _ _ (List.Mem.head _)
  have q4_0 : w4.cell? ⟨w.heap.size, 0, none⟩ = some (.int .i64 2) := hI4.out.cell _ _ _ (List.Mem.head _) 0
  have q4_1 : w4.cell? ⟨w.heap.size, 1, none⟩ = some (.int .i64 n) := hI4.out.cell _ _ _ (List.Mem.head _) 1
  have q4_2 : w4.cell? ⟨w.heap.size, 2, none⟩ = some (.string ty) := hI4.out.cell _ _ _ (List.Mem.head _) 2
  have q4_3 : w4.cell? ⟨w.heap.size, 3, none⟩ = some (.string nm) := hI4.out.cell _ _ _ (List.Mem.head _) 3
  have q4_4 : w4.cell? ⟨w.heap.size, 4, none⟩ = some (.slice (some ⟨bk, off, none⟩) m0 cap0) := hI4.out.cell _ _ _ (List.Mem.head _) 4
  have q4_5 : w4.cell? ⟨w.heap.size, 5, none⟩ = some (.slice A1 m1 cap1) := hI4.out.cell _ _ _ (List.Mem.head _) 5
  have q4_6 : w4.cell? ⟨w.heap.size, 6, none⟩ = some (.slice A2 m2 cap2) := hI4.out.cell _ _ _ (List.Mem.head _) 6
  go_wp2_with fail
  refine (hI4.out.lay [⟨#[59, 10]⟩] _ (by simp) (by simp) (by have h := hlen.out; have hT := tabsT_len t; (try simp only [List.length_append] at h ⊢); omega)).mono ?_; rintro e w5 ⟨rfl, hi⟩
  have hI5 := Lib.hid hi; clear hi
  go_wp2_with fail
  go_end0
  refine ⟨rfl, ?_, hI5.out.kept⟩
  simpa only [List.append_assoc] using hI5.out.page

set_option maxRecDepth 100000 in
set_option maxHeartbeats 4000000 in
theorem wst_3n (B b : Nat) (l : List UInt8) (t : Nat) (n : Int) (ty nm : ByteArray) (A0 A1 A2 : Option Addr) (m0 cap0 m1 cap1 m2 cap2 : Nat) (w0 w : World) (hB : w0.heap.size ≤ B) (hw : Below B w0 w) (hp : PageAt B b l t w) (ht : t ≤ 4000000) (es : List Ex) (hsl : Hid (Exs.V w0 es (.slice A0 m0 cap0))) (ihl : Hid (∀ e, e ∈ es → Writes B b t w0 e 1)) (al : List St) (hwa : Hid (WBl B b w0 al)) (hva : Hid (Sts.V w0 al (.slice A1 m1 cap1))) (hta : Hid (t + Sts.bulk al ≤ 4000000)) (hm : m2 < 1) (hlen : Hid (l.length + (tabsT t).length + (cat [⟨#[105, 102, 32, 40]⟩]).length + (listT es).length + ((⟨#[41, 32]⟩ : ByteArray).data.toList).length + (blockT t al).length + (cat [⟨#[10]⟩]).length ≤ 140737488355328)) :
    Calls Tryd.prog 51 #[.pointer (some ⟨b, 0, none⟩), .agg #[.int .i64 3, .int .i64 n, .string ty, .string nm, .slice A0 m0 cap0, .slice A1 m1 cap1, .slice A2 m2 cap2]] w fun x w' => x = .returned (.tuple #[]) ∧ PageAt B b (l ++ tabsT t ++ cat [⟨#[105, 102, 32, 40]⟩] ++ listT es ++ (⟨#[41, 32]⟩ : ByteArray).data.toList ++ blockT t al ++ cat [⟨#[10]⟩]) t w' ∧ Kept B b w w' := by
  have hbs1 := buildOne
  have hbs2 := buildTwo
  have hbs3 := buildThree
  have hI0 := Lib.hid ((Inv.start hB hw hp).add #[.int .i64 3, .int .i64 n, .string ty, .string nm, .slice A0 m0 cap0, .slice A1 m1 cap1, .slice A2 m2 cap2] 39 (by decide))
  clear hB hw hp
  go_enter Tryd.func51, Tryd.ntmps51
  go_wp2_with fail
  refine (hI0.out.lineNil ht (by have h := hlen.out; have hT := tabsT_len t; (try simp only [List.length_append] at h ⊢); omega)).mono ?_; rintro e w1 ⟨rfl, hi⟩
  have hI1 := Lib.hid hi; clear hi
  have hx1 := hI1.out.lt _ _ _ (List.Mem.head _)
  have q1_0 : w1.cell? ⟨w.heap.size, 0, none⟩ = some (.int .i64 3) := hI1.out.cell _ _ _ (List.Mem.head _) 0
  have q1_1 : w1.cell? ⟨w.heap.size, 1, none⟩ = some (.int .i64 n) := hI1.out.cell _ _ _ (List.Mem.head _) 1
  have q1_2 : w1.cell? ⟨w.heap.size, 2, none⟩ = some (.string ty) := hI1.out.cell _ _ _ (List.Mem.head _) 2
  have q1_3 : w1.cell? ⟨w.heap.size, 3, none⟩ = some (.string nm) := hI1.out.cell _ _ _ (List.Mem.head _) 3
  have q1_4 : w1.cell? ⟨w.heap.size, 4, none⟩ = some (.slice A0 m0 cap0) := hI1.out.cell _ _ _ (List.Mem.head _) 4
  have q1_5 : w1.cell? ⟨w.heap.size, 5, none⟩ = some (.slice A1 m1 cap1) := hI1.out.cell _ _ _ (List.Mem.head _) 5
  have q1_6 : w1.cell? ⟨w.heap.size, 6, none⟩ = some (.slice A2 m2 cap2) := hI1.out.cell _ _ _ (List.Mem.head _) 6
  go_wp2_with fail
  refine ((hI1.out.alloc _).lay [⟨#[105, 102, 32, 40]⟩] _ (by simp) (by simp) (by have h := hlen.out; have hT := tabsT_len t; (try simp only [List.length_append] at h ⊢); omega)).mono ?_; rintro e w2 ⟨rfl, hi⟩
  have hI2 := Lib.hid hi; clear hi
  have hx2 := hI2.out.lt _ _ _ (List.Mem.head _)
  have q2_0 : w2.cell? ⟨w.heap.size, 0, none⟩ = some (.int .i64 3) := hI2.out.cell _ _ _ (List.Mem.head _) 0
  have q2_1 : w2.cell? ⟨w.heap.size, 1, none⟩ = some (.int .i64 n) := hI2.out.cell _ _ _ (List.Mem.head _) 1
  have q2_2 : w2.cell? ⟨w.heap.size, 2, none⟩ = some (.string ty) := hI2.out.cell _ _ _ (List.Mem.head _) 2
  have q2_3 : w2.cell? ⟨w.heap.size, 3, none⟩ = some (.string nm) := hI2.out.cell _ _ _ (List.Mem.head _) 3
  have q2_4 : w2.cell? ⟨w.heap.size, 4, none⟩ = some (.slice A0 m0 cap0) := hI2.out.cell _ _ _ (List.Mem.head _) 4
  have q2_5 : w2.cell? ⟨w.heap.size, 5, none⟩ = some (.slice A1 m1 cap1) := hI2.out.cell _ _ _ (List.Mem.head _) 5
  have q2_6 : w2.cell? ⟨w.heap.size, 6, none⟩ = some (.slice A2 m2 cap2) := hI2.out.cell _ _ _ (List.Mem.head _) 6
  go_wp2_with fail
  refine (hI2.out.list es _ ⟨#[41, 32]⟩ hsl.out ihl.out (by have hz : ByteArray.size ⟨#[41, 32]⟩ = List.length ([41, 32] : List UInt8) := rfl; have h := hlen.out; have hT := tabsT_len t; (try simp only [List.length_append] at h ⊢); omega)).mono ?_; rintro e w3 ⟨rfl, hi⟩
  have hI3 := Lib.hid hi; clear hi
  have hx3 := hI3.out.lt _ _ _ (List.Mem.head _)
  have q3_0 : w3.cell? ⟨w.heap.size, 0, none⟩ = some (.int .i64 3) := hI3.out.cell _ _ _ (List.Mem.head _) 0
  have q3_1 : w3.cell? ⟨w.heap.size, 1, none⟩ = some (.int .i64 n) := hI3.out.cell _ _ _ (List.Mem.head _) 1
  have q3_2 : w3.cell? ⟨w.heap.size, 2, none⟩ = some (.string ty) := hI3.out.cell _ _ _ (List.Mem.head _) 2
  have q3_3 : w3.cell? ⟨w.heap.size, 3, none⟩ = some (.string nm) := hI3.out.cell _ _ _ (List.Mem.head _) 3
  have q3_4 : w3.cell? ⟨w.heap.size, 4, none⟩ = some (.slice A0 m0 cap0) := hI3.out.cell _ _ _ (List.Mem.head _) 4
  have q3_5 : w3.cell? ⟨w.heap.size, 5, none⟩ = some (.slice A1 m1 cap1) := hI3.out.cell _ _ _ (List.Mem.head _) 5
  have q3_6 : w3.cell? ⟨w.heap.size, 6, none⟩ = some (.slice A2 m2 cap2) := hI3.out.cell _ _ _ (List.Mem.head _) 6
  go_wp2_with fail
  refine (hI3.out.block hwa.out hva.out (by have h := hlen.out; have hT := tabsT_len t; (try simp only [List.length_append] at h ⊢); omega) hta.out).mono ?_; rintro e w4 ⟨rfl, hi⟩
  have hI4 := Lib.hid hi; clear hi
  have hx4 := hI4.out.lt _ _ _ (List.Mem.head _)
  have q4_0 : w4.cell? ⟨w.heap.size, 0, none⟩ = some (.int .i64 3) := hI4.out.cell _ _ _ (List.Mem.head _) 0
  have q4_1 : w4.cell? ⟨w.heap.size, 1, none⟩ = some (.int .i64 n) := hI4.out.cell _ _ _ (List.Mem.head _) 1
  have q4_2 : w4.cell? ⟨w.heap.size, 2, none⟩ = some (.string ty) := hI4.out.cell _ _ _ (List.Mem.head _) 2
  have q4_3 : w4.cell? ⟨w.heap.size, 3, none⟩ = some (.string nm) := hI4.out.cell _ _ _ (List.Mem.head _) 3
  have q4_4 : w4.cell? ⟨w.heap.size, 4, none⟩ = some (.slice A0 m0 cap0) := hI4.out.cell _ _ _ (List.Mem.head _) 4
  have q4_5 : w4.cell? ⟨w.heap.size, 5, none⟩ = some (.slice A1 m1 cap1) := hI4.out.cell _ _ _ (List.Mem.head _) 5
  have q4_6 : w4.cell? ⟨w.heap.size, 6, none⟩ = some (.slice A2 m2 cap2) := hI4.out.cell _ _ _ (List.Mem.head _) 6
  go_wp2_with fail
  refine (hI4.out.lay [⟨#[10]⟩] _ (by simp) (by simp) (by have h := hlen.out; have hT := tabsT_len t; (try simp only [List.length_append] at h ⊢); omega)).mono ?_; rintro e w5 ⟨rfl, hi⟩
  have hI5 := Lib.hid hi; clear hi
  go_wp2_with fail
  refine bodyPost_ret (results_none rfl _ _ _) rfl ?_
  refine ⟨rfl, ?_, hI5.out.kept⟩
  simpa only [List.append_assoc] using hI5.out.page

set_option maxRecDepth 100000 in
set_option maxHeartbeats 4000000 in
theorem wst_3c (B b : Nat) (l : List UInt8) (t : Nat) (n : Int) (ty nm : ByteArray) (A0 A1 A2 : Option Addr) (m0 cap0 m1 cap1 m2 cap2 : Nat) (w0 w : World) (hB : w0.heap.size ≤ B) (hw : Below B w0 w) (hp : PageAt B b l t w) (ht : t ≤ 4000000) (es : List Ex) (hsl : Hid (Exs.V w0 es (.slice A0 m0 cap0))) (ihl : Hid (∀ e, e ∈ es → Writes B b t w0 e 1)) (al : List St) (hwa : Hid (WBl B b w0 al)) (hva : Hid (Sts.V w0 al (.slice A1 m1 cap1))) (hta : Hid (t + Sts.bulk al ≤ 4000000)) (bl : List St) (hwb : Hid (WBl B b w0 bl)) (hvb : Hid (Sts.V w0 bl (.slice A2 m2 cap2))) (htb : Hid (t + Sts.bulk bl ≤ 4000000)) (hm : 0 < m2) (hlen : Hid (l.length + (tabsT t).length + (cat [⟨#[105, 102, 32, 40]⟩]).length + (listT es).length + ((⟨#[41, 32]⟩ : ByteArray).data.toList).length + (blockT t al).length + (cat [⟨#[32, 101, 108, 115, 101, 32]⟩]).length + (blockT t bl).length + (cat [⟨#[10]⟩]).length ≤ 140737488355328)) :
    Calls Tryd.prog 51 #[.pointer (some ⟨b, 0, none⟩), .agg #[.int .i64 3, .int .i64 n, .string ty, .string nm, .slice A0 m0 cap0, .slice A1 m1 cap1, .slice A2 m2 cap2]] w fun x w' => x = .returned (.tuple #[]) ∧ PageAt B b (l ++ tabsT t ++ cat [⟨#[105, 102, 32, 40]⟩] ++ listT es ++ (⟨#[41, 32]⟩ : ByteArray).data.toList ++ blockT t al ++ cat [⟨#[32, 101, 108, 115, 101, 32]⟩] ++ blockT t bl ++ cat [⟨#[10]⟩]) t w' ∧ Kept B b w w' := by
  have hbs1 := buildOne
  have hbs2 := buildTwo
  have hbs3 := buildThree
  have hI0 := Lib.hid ((Inv.start hB hw hp).add #[.int .i64 3, .int .i64 n, .string ty, .string nm, .slice A0 m0 cap0, .slice A1 m1 cap1, .slice A2 m2 cap2] 39 (by decide))
  clear hB hw hp
  go_enter Tryd.func51, Tryd.ntmps51
  go_wp2_with fail
  refine (hI0.out.lineNil ht (by have h := hlen.out; have hT := tabsT_len t; (try simp only [List.length_append] at h ⊢); omega)).mono ?_; rintro e w1 ⟨rfl, hi⟩
  have hI1 := Lib.hid hi; clear hi
  have hx1 := hI1.out.lt _ _ _ (List.Mem.head _)
  have q1_0 : w1.cell? ⟨w.heap.size, 0, none⟩ = some (.int .i64 3) := hI1.out.cell _ _ _ (List.Mem.head _) 0
  have q1_1 : w1.cell? ⟨w.heap.size, 1, none⟩ = some (.int .i64 n) := hI1.out.cell _ _ _ (List.Mem.head _) 1
  have q1_2 : w1.cell? ⟨w.heap.size, 2, none⟩ = some (.string ty) := hI1.out.cell _ _ _ (List.Mem.head _) 2
  have q1_3 : w1.cell? ⟨w.heap.size, 3, none⟩ = some (.string nm) := hI1.out.cell _ _ _ (List.Mem.head _) 3
  have q1_4 : w1.cell? ⟨w.heap.size, 4, none⟩ = some (.slice A0 m0 cap0) := hI1.out.cell _ _ _ (List.Mem.head _) 4
  have q1_5 : w1.cell? ⟨w.heap.size, 5, none⟩ = some (.slice A1 m1 cap1) := hI1.out.cell _ _ _ (List.Mem.head _) 5
  have q1_6 : w1.cell? ⟨w.heap.size, 6, none⟩ = some (.slice A2 m2 cap2) := hI1.out.cell _ _ _ (List.Mem.head _) 6
  go_wp2_with fail
  refine ((hI1.out.alloc _).lay [⟨#[105, 102, 32, 40]⟩] _ (by simp) (by simp) (by have h := hlen.out; have hT := tabsT_len t; (try simp only [List.length_append] at h ⊢); omega)).mono ?_; rintro e w2 ⟨rfl, hi⟩
  have hI2 := Lib.hid hi; clear hi
  have hx2 := hI2.out.lt _ _ _ (List.Mem.head _)
  have q2_0 : w2.cell? ⟨w.heap.size, 0, none⟩ = some (.int .i64 3) := hI2.out.cell _ _ _ (List.Mem.head _) 0
  have q2_1 : w2.cell? ⟨w.heap.size, 1, none⟩ = some (.int .i64 n) := hI2.out.cell _ _ _ (List.Mem.head _) 1
  have q2_2 : w2.cell? ⟨w.heap.size, 2, none⟩ = some (.string ty) := hI2.out.cell _ _ _ (List.Mem.head _) 2
  have q2_3 : w2.cell? ⟨w.heap.size, 3, none⟩ = some (.string nm) := hI2.out.cell _ _ _ (List.Mem.head _) 3
  have q2_4 : w2.cell? ⟨w.heap.size, 4, none⟩ = some (.slice A0 m0 cap0) := hI2.out.cell _ _ _ (List.Mem.head _) 4
  have q2_5 : w2.cell? ⟨w.heap.size, 5, none⟩ = some (.slice A1 m1 cap1) := hI2.out.cell _ _ _ (List.Mem.head _) 5
  have q2_6 : w2.cell? ⟨w.heap.size, 6, none⟩ = some (.slice A2 m2 cap2) := hI2.out.cell _ _ _ (List.Mem.head _) 6
  go_wp2_with fail
  refine (hI2.out.list es _ ⟨#[41, 32]⟩ hsl.out ihl.out (by have hz : ByteArray.size ⟨#[41, 32]⟩ = List.length ([41, 32] : List UInt8) := rfl; have h := hlen.out; have hT := tabsT_len t; (try simp only [List.length_append] at h ⊢); omega)).mono ?_; rintro e w3 ⟨rfl, hi⟩
  have hI3 := Lib.hid hi; clear hi
  have hx3 := hI3.out.lt _ _ _ (List.Mem.head _)
  have q3_0 : w3.cell? ⟨w.heap.size, 0, none⟩ = some (.int .i64 3) := hI3.out.cell _ _ _ (List.Mem.head _) 0
  have q3_1 : w3.cell? ⟨w.heap.size, 1, none⟩ = some (.int .i64 n) := hI3.out.cell _ _ _ (List.Mem.head _) 1
  have q3_2 : w3.cell? ⟨w.heap.size, 2, none⟩ = some (.string ty) := hI3.out.cell _ _ _ (List.Mem.head _) 2
  have q3_3 : w3.cell? ⟨w.heap.size, 3, none⟩ = some (.string nm) := hI3.out.cell _ _ _ (List.Mem.head _) 3
  have q3_4 : w3.cell? ⟨w.heap.size, 4, none⟩ = some (.slice A0 m0 cap0) := hI3.out.cell _ _ _ (List.Mem.head _) 4
  have q3_5 : w3.cell? ⟨w.heap.size, 5, none⟩ = some (.slice A1 m1 cap1) := hI3.out.cell _ _ _ (List.Mem.head _) 5
  have q3_6 : w3.cell? ⟨w.heap.size, 6, none⟩ = some (.slice A2 m2 cap2) := hI3.out.cell _ _ _ (List.Mem.head _) 6
  go_wp2_with fail
  refine (hI3.out.block hwa.out hva.out (by have h := hlen.out; have hT := tabsT_len t; (try simp only [List.length_append] at h ⊢); omega) hta.out).mono ?_; rintro e w4 ⟨rfl, hi⟩
  have hI4 := Lib.hid hi; clear hi
  have hx4 := hI4.out.lt _ _ _ (List.Mem.head _)
  have q4_0 : w4.cell? ⟨w.heap.size, 0, none⟩ = some (.int .i64 3) := hI4.out.cell _ _ _ (List.Mem.head _) 0
  have q4_1 : w4.cell? ⟨w.heap.size, 1, none⟩ = some (.int .i64 n) := hI4.out.cell _ _ _ (List.Mem.head _) 1
  have q4_2 : w4.cell? ⟨w.heap.size, 2, none⟩ = some (.string ty) := hI4.out.cell _ _ _ (List.Mem.head _) 2
  have q4_3 : w4.cell? ⟨w.heap.size, 3, none⟩ = some (.string nm) := hI4.out.cell _ _ _ (List.Mem.head _) 3
  have q4_4 : w4.cell? ⟨w.heap.size, 4, none⟩ = some (.slice A0 m0 cap0) := hI4.out.cell _ _ _ (List.Mem.head _) 4
  have q4_5 : w4.cell? ⟨w.heap.size, 5, none⟩ = some (.slice A1 m1 cap1) := hI4.out.cell _ _ _ (List.Mem.head _) 5
  have q4_6 : w4.cell? ⟨w.heap.size, 6, none⟩ = some (.slice A2 m2 cap2) := hI4.out.cell _ _ _ (List.Mem.head _) 6
  go_wp2_with fail
  refine (hI4.out.lay [⟨#[32, 101, 108, 115, 101, 32]⟩] _ (by simp) (by simp) (by have h := hlen.out; have hT := tabsT_len t; (try simp only [List.length_append] at h ⊢); omega)).mono ?_; rintro e w5 ⟨rfl, hi⟩
  have hI5 := Lib.hid hi; clear hi
  have hx5 := hI5.out.lt _ _ _ (List.Mem.head _)
  have q5_0 : w5.cell? ⟨w.heap.size, 0, none⟩ = some (.int .i64 3) := hI5.out.cell _ _ _ (List.Mem.head _) 0
  have q5_1 : w5.cell? ⟨w.heap.size, 1, none⟩ = some (.int .i64 n) := hI5.out.cell _ _ _ (List.Mem.head _) 1
  have q5_2 : w5.cell? ⟨w.heap.size, 2, none⟩ = some (.string ty) := hI5.out.cell _ _ _ (List.Mem.head _) 2
  have q5_3 : w5.cell? ⟨w.heap.size, 3, none⟩ = some (.string nm) := hI5.out.cell _ _ _ (List.Mem.head _) 3
  have q5_4 : w5.cell? ⟨w.heap.size, 4, none⟩ = some (.slice A0 m0 cap0) := hI5.out.cell _ _ _ (List.Mem.head _) 4
  have q5_5 : w5.cell? ⟨w.heap.size, 5, none⟩ = some (.slice A1 m1 cap1) := hI5.out.cell _ _ _ (List.Mem.head _) 5
  have q5_6 : w5.cell? ⟨w.heap.size, 6, none⟩ = some (.slice A2 m2 cap2) := hI5.out.cell _ _ _ (List.Mem.head _) 6
  go_wp2_with fail
  refine (hI5.out.block hwb.out hvb.out (by have h := hlen.out; have hT := tabsT_len t; (try simp only [List.length_append] at h ⊢); omega) htb.out).mono ?_; rintro e w6 ⟨rfl, hi⟩
  have hI6 := Lib.hid hi; clear hi
  have hx6 := hI6.out.lt _ _ _ (List.Mem.head _)
  have q6_0 : w6.cell? ⟨w.heap.size, 0, none⟩ = some (.int .i64 3) := hI6.out.cell _ _ _ (List.Mem.head _) 0
  have q6_1 : w6.cell? ⟨w.heap.size, 1, none⟩ = some (.int .i64 n) := hI6.out.cell _ _ _ (List.Mem.head _) 1
  have q6_2 : w6.cell? ⟨w.heap.size, 2, none⟩ = some (.string ty) := hI6.out.cell _ _ _ (List.Mem.head _) 2
  have q6_3 : w6.cell? ⟨w.heap.size, 3, none⟩ = some (.string nm) := hI6.out.cell _ _ _ (List.Mem.head _) 3
  have q6_4 : w6.cell? ⟨w.heap.size, 4, none⟩ = some (.slice A0 m0 cap0) := hI6.out.cell _ _ _ (List.Mem.head _) 4
  have q6_5 : w6.cell? ⟨w.heap.size, 5, none⟩ = some (.slice A1 m1 cap1) := hI6.out.cell _ _ _ (List.Mem.head _) 5
  have q6_6 : w6.cell? ⟨w.heap.size, 6, none⟩ = some (.slice A2 m2 cap2) := hI6.out.cell _ _ _ (List.Mem.head _) 6
  go_wp2_with fail
  refine (hI6.out.lay [⟨#[10]⟩] _ (by simp) (by simp) (by have h := hlen.out; have hT := tabsT_len t; (try simp only [List.length_append] at h ⊢); omega)).mono ?_; rintro e w7 ⟨rfl, hi⟩
  have hI7 := Lib.hid hi; clear hi
  go_wp2_with fail
  refine bodyPost_ret (results_none rfl _ _ _) rfl ?_
  refine ⟨rfl, ?_, hI7.out.kept⟩
  simpa only [List.append_assoc] using hI7.out.page

set_option maxRecDepth 100000 in
set_option maxHeartbeats 4000000 in
theorem wst_4n (B b : Nat) (l : List UInt8) (t : Nat) (n : Int) (ty nm : ByteArray) (A0 A1 A2 : Option Addr) (m0 cap0 m1 cap1 m2 cap2 : Nat) (w0 w : World) (hB : w0.heap.size ≤ B) (hw : Below B w0 w) (hp : PageAt B b l t w) (ht : t ≤ 4000000) (es : List Ex) (hsl : Hid (Exs.V w0 es (.slice A0 m0 cap0))) (ihl : Hid (∀ e, e ∈ es → Writes B b t w0 e 1)) (al : List St) (hwa : Hid (WBl B b w0 al)) (hva : Hid (Sts.V w0 al (.slice A1 m1 cap1))) (hta : Hid (t + Sts.bulk al ≤ 4000000)) (hm : m2 < 1) (hlen : Hid (l.length + (tabsT t).length + (cat [⟨#[119, 104, 105, 108, 101, 32, 40]⟩]).length + (listT es).length + ((⟨#[41, 32]⟩ : ByteArray).data.toList).length + (blockT t al).length + (cat [⟨#[10]⟩]).length ≤ 140737488355328)) :
    Calls Tryd.prog 51 #[.pointer (some ⟨b, 0, none⟩), .agg #[.int .i64 4, .int .i64 n, .string ty, .string nm, .slice A0 m0 cap0, .slice A1 m1 cap1, .slice A2 m2 cap2]] w fun x w' => x = .returned (.tuple #[]) ∧ PageAt B b (l ++ tabsT t ++ cat [⟨#[119, 104, 105, 108, 101, 32, 40]⟩] ++ listT es ++ (⟨#[41, 32]⟩ : ByteArray).data.toList ++ blockT t al ++ cat [⟨#[10]⟩]) t w' ∧ Kept B b w w' := by
  have hbs1 := buildOne
  have hbs2 := buildTwo
  have hbs3 := buildThree
  have hI0 := Lib.hid ((Inv.start hB hw hp).add #[.int .i64 4, .int .i64 n, .string ty, .string nm, .slice A0 m0 cap0, .slice A1 m1 cap1, .slice A2 m2 cap2] 39 (by decide))
  clear hB hw hp
  go_enter Tryd.func51, Tryd.ntmps51
  go_wp2_with fail
  refine (hI0.out.lineNil ht (by have h := hlen.out; have hT := tabsT_len t; (try simp only [List.length_append] at h ⊢); omega)).mono ?_; rintro e w1 ⟨rfl, hi⟩
  have hI1 := Lib.hid hi; clear hi
  have hx1 := hI1.out.lt _ _ _ (List.Mem.head _)
  have q1_0 : w1.cell? ⟨w.heap.size, 0, none⟩ = some (.int .i64 4) := hI1.out.cell _ _ _ (List.Mem.head _) 0
  have q1_1 : w1.cell? ⟨w.heap.size, 1, none⟩ = some (.int .i64 n) := hI1.out.cell _ _ _ (List.Mem.head _) 1
  have q1_2 : w1.cell? ⟨w.heap.size, 2, none⟩ = some (.string ty) := hI1.out.cell _ _ _ (List.Mem.head _) 2
  have q1_3 : w1.cell? ⟨w.heap.size, 3, none⟩ = some (.string nm) := hI1.out.cell _ _ _ (List.Mem.head _) 3
  have q1_4 : w1.cell? ⟨w.heap.size, 4, none⟩ = some (.slice A0 m0 cap0) := hI1.out.cell _ _ _ (List.Mem.head _) 4
  have q1_5 : w1.cell? ⟨w.heap.size, 5, none⟩ = some (.slice A1 m1 cap1) := hI1.out.cell _ _ _ (List.Mem.head _) 5
  have q1_6 : w1.cell? ⟨w.heap.size, 6, none⟩ = some (.slice A2 m2 cap2) := hI1.out.cell _ _ _ (List.Mem.head _) 6
  go_wp2_with fail
  refine ((hI1.out.alloc _).lay [⟨#[119, 104, 105, 108, 101, 32, 40]⟩] _ (by simp) (by simp) (by have h := hlen.out; have hT := tabsT_len t; (try simp only [List.length_append] at h ⊢); omega)).mono ?_; rintro e w2 ⟨rfl, hi⟩
  have hI2 := Lib.hid hi; clear hi
  have hx2 := hI2.out.lt _ _ _ (List.Mem.head _)
  have q2_0 : w2.cell? ⟨w.heap.size, 0, none⟩ = some (.int .i64 4) := hI2.out.cell _ _ _ (List.Mem.head _) 0
  have q2_1 : w2.cell? ⟨w.heap.size, 1, none⟩ = some (.int .i64 n) := hI2.out.cell _ _ _ (List.Mem.head _) 1
  have q2_2 : w2.cell? ⟨w.heap.size, 2, none⟩ = some (.string ty) := hI2.out.cell _ _ _ (List.Mem.head _) 2
  have q2_3 : w2.cell? ⟨w.heap.size, 3, none⟩ = some (.string nm) := hI2.out.cell _ _ _ (List.Mem.head _) 3
  have q2_4 : w2.cell? ⟨w.heap.size, 4, none⟩ = some (.slice A0 m0 cap0) := hI2.out.cell _ _ _ (List.Mem.head _) 4
  have q2_5 : w2.cell? ⟨w.heap.size, 5, none⟩ = some (.slice A1 m1 cap1) := hI2.out.cell _ _ _ (List.Mem.head _) 5
  have q2_6 : w2.cell? ⟨w.heap.size, 6, none⟩ = some (.slice A2 m2 cap2) := hI2.out.cell _ _ _ (List.Mem.head _) 6
  go_wp2_with fail
  refine (hI2.out.list es _ ⟨#[41, 32]⟩ hsl.out ihl.out (by have hz : ByteArray.size ⟨#[41, 32]⟩ = List.length ([41, 32] : List UInt8) := rfl; have h := hlen.out; have hT := tabsT_len t; (try simp only [List.length_append] at h ⊢); omega)).mono ?_; rintro e w3 ⟨rfl, hi⟩
  have hI3 := Lib.hid hi; clear hi
  have hx3 := hI3.out.lt _ _ _ (List.Mem.head _)
  have q3_0 : w3.cell? ⟨w.heap.size, 0, none⟩ = some (.int .i64 4) := hI3.out.cell _ _ _ (List.Mem.head _) 0
  have q3_1 : w3.cell? ⟨w.heap.size, 1, none⟩ = some (.int .i64 n) := hI3.out.cell _ _ _ (List.Mem.head _) 1
  have q3_2 : w3.cell? ⟨w.heap.size, 2, none⟩ = some (.string ty) := hI3.out.cell _ _ _ (List.Mem.head _) 2
  have q3_3 : w3.cell? ⟨w.heap.size, 3, none⟩ = some (.string nm) := hI3.out.cell _ _ _ (List.Mem.head _) 3
  have q3_4 : w3.cell? ⟨w.heap.size, 4, none⟩ = some (.slice A0 m0 cap0) := hI3.out.cell _ _ _ (List.Mem.head _) 4
  have q3_5 : w3.cell? ⟨w.heap.size, 5, none⟩ = some (.slice A1 m1 cap1) := hI3.out.cell _ _ _ (List.Mem.head _) 5
  have q3_6 : w3.cell? ⟨w.heap.size, 6, none⟩ = some (.slice A2 m2 cap2) := hI3.out.cell _ _ _ (List.Mem.head _) 6
  go_wp2_with fail
  refine (hI3.out.block hwa.out hva.out (by have h := hlen.out; have hT := tabsT_len t; (try simp only [List.length_append] at h ⊢); omega) hta.out).mono ?_; rintro e w4 ⟨rfl, hi⟩
  have hI4 := Lib.hid hi; clear hi
  have hx4 := hI4.out.lt _ _ _ (List.Mem.head _)
  have q4_0 : w4.cell? ⟨w.heap.size, 0, none⟩ = some (.int .i64 4) := hI4.out.cell _ _ _ (List.Mem.head _) 0
  have q4_1 : w4.cell? ⟨w.heap.size, 1, none⟩ = some (.int .i64 n) := hI4.out.cell _ _ _ (List.Mem.head _) 1
  have q4_2 : w4.cell? ⟨w.heap.size, 2, none⟩ = some (.string ty) := hI4.out.cell _ _ _ (List.Mem.head _) 2
  have q4_3 : w4.cell? ⟨w.heap.size, 3, none⟩ = some (.string nm) := hI4.out.cell _ _ _ (List.Mem.head _) 3
  have q4_4 : w4.cell? ⟨w.heap.size, 4, none⟩ = some (.slice A0 m0 cap0) := hI4.out.cell _ _ _ (List.Mem.head _) 4
  have q4_5 : w4.cell? ⟨w.heap.size, 5, none⟩ = some (.slice A1 m1 cap1) := hI4.out.cell _ _ _ (List.Mem.head _) 5
  have q4_6 : w4.cell? ⟨w.heap.size, 6, none⟩ = some (.slice A2 m2 cap2) := hI4.out.cell _ _ _ (List.Mem.head _) 6
  go_wp2_with fail
  refine (hI4.out.lay [⟨#[10]⟩] _ (by simp) (by simp) (by have h := hlen.out; have hT := tabsT_len t; (try simp only [List.length_append] at h ⊢); omega)).mono ?_; rintro e w5 ⟨rfl, hi⟩
  have hI5 := Lib.hid hi; clear hi
  go_wp2_with fail
  refine bodyPost_ret (results_none rfl _ _ _) rfl ?_
  refine ⟨rfl, ?_, hI5.out.kept⟩
  simpa only [List.append_assoc] using hI5.out.page

set_option maxRecDepth 100000 in
set_option maxHeartbeats 4000000 in
theorem wst_4c (B b : Nat) (l : List UInt8) (t : Nat) (n : Int) (ty nm : ByteArray) (A0 A1 A2 : Option Addr) (m0 cap0 m1 cap1 m2 cap2 : Nat) (w0 w : World) (hB : w0.heap.size ≤ B) (hw : Below B w0 w) (hp : PageAt B b l t w) (ht : t ≤ 4000000) (es : List Ex) (hsl : Hid (Exs.V w0 es (.slice A0 m0 cap0))) (ihl : Hid (∀ e, e ∈ es → Writes B b t w0 e 1)) (al : List St) (hwa : Hid (WBl B b w0 al)) (hva : Hid (Sts.V w0 al (.slice A1 m1 cap1))) (hta : Hid (t + Sts.bulk al ≤ 4000000)) (bl : List St) (hwb : Hid (WBl B b w0 bl)) (hvb : Hid (Sts.V w0 bl (.slice A2 m2 cap2))) (htb : Hid (t + Sts.bulk bl ≤ 4000000)) (hm : 0 < m2) (hlen : Hid (l.length + (tabsT t).length + (cat [⟨#[119, 104, 105, 108, 101, 32, 40]⟩]).length + (listT es).length + ((⟨#[41, 32]⟩ : ByteArray).data.toList).length + (blockT t al).length + (cat [⟨#[32, 101, 108, 115, 101, 32]⟩]).length + (blockT t bl).length + (cat [⟨#[10]⟩]).length ≤ 140737488355328)) :
    Calls Tryd.prog 51 #[.pointer (some ⟨b, 0, none⟩), .agg #[.int .i64 4, .int .i64 n, .string ty, .string nm, .slice A0 m0 cap0, .slice A1 m1 cap1, .slice A2 m2 cap2]] w fun x w' => x = .returned (.tuple #[]) ∧ PageAt B b (l ++ tabsT t ++ cat [⟨#[119, 104, 105, 108, 101, 32, 40]⟩] ++ listT es ++ (⟨#[41, 32]⟩ : ByteArray).data.toList ++ blockT t al ++ cat [⟨#[32, 101, 108, 115, 101, 32]⟩] ++ blockT t bl ++ cat [⟨#[10]⟩]) t w' ∧ Kept B b w w' := by
  have hbs1 := buildOne
  have hbs2 := buildTwo
  have hbs3 := buildThree
  have hI0 := Lib.hid ((Inv.start hB hw hp).add #[.int .i64 4, .int .i64 n, .string ty, .string nm, .slice A0 m0 cap0, .slice A1 m1 cap1, .slice A2 m2 cap2] 39 (by decide))
  clear hB hw hp
  go_enter Tryd.func51, Tryd.ntmps51
  go_wp2_with fail
  refine (hI0.out.lineNil ht (by have h := hlen.out; have hT := tabsT_len t; (try simp only [List.length_append] at h ⊢); omega)).mono ?_; rintro e w1 ⟨rfl, hi⟩
  have hI1 := Lib.hid hi; clear hi
  have hx1 := hI1.out.lt _ _ _ (List.Mem.head _)
  have q1_0 : w1.cell? ⟨w.heap.size, 0, none⟩ = some (.int .i64 4) := hI1.out.cell _ _ _ (List.Mem.head _) 0
  have q1_1 : w1.cell? ⟨w.heap.size, 1, none⟩ = some (.int .i64 n) := hI1.out.cell _ _ _ (List.Mem.head _) 1
  have q1_2 : w1.cell? ⟨w.heap.size, 2, none⟩ = some (.string ty) := hI1.out.cell _ _ _ (List.Mem.head _) 2
  have q1_3 : w1.cell? ⟨w.heap.size, 3, none⟩ = some (.string nm) := hI1.out.cell _ _ _ (List.Mem.head _) 3
  have q1_4 : w1.cell? ⟨w.heap.size, 4, none⟩ = some (.slice A0 m0 cap0) := hI1.out.cell _ _ _ (List.Mem.head _) 4
  have q1_5 : w1.cell? ⟨w.heap.size, 5, none⟩ = some (.slice A1 m1 cap1) := hI1.out.cell _ _ _ (List.Mem.head _) 5
  have q1_6 : w1.cell? ⟨w.heap.size, 6, none⟩ = some (.slice A2 m2 cap2) := hI1.out.cell _ _ _ (List.Mem.head _) 6
  go_wp2_with fail
  refine ((hI1.out.alloc _).lay [⟨#[119, 104, 105, 108, 101, 32, 40]⟩] _ (by simp) (by simp) (by have h := hlen.out; have hT := tabsT_len t; (try simp only [List.length_append] at h ⊢); omega)).mono ?_; rintro e w2 ⟨rfl, hi⟩
  have hI2 := Lib.hid hi; clear hi
  have hx2 := hI2.out.lt _ _ _ (List.Mem.head _)
  have q2_0 : w2.cell? ⟨w.heap.size, 0, none⟩ = some (.int .i64 4) := hI2.out.cell _ _ _ (List.Mem.head _) 0
  have q2_1 : w2.cell? ⟨w.heap.size, 1, none⟩ = some (.int .i64 n) := hI2.out.cell _ _ _ (List.Mem.head _) 1
  have q2_2 : w2.cell? ⟨w.heap.size, 2, none⟩ = some (.string ty) := hI2.out.cell _ _ _ (List.Mem.head _) 2
  have q2_3 : w2.cell? ⟨w.heap.size, 3, none⟩ = some (.string nm) := hI2.out.cell _ _ _ (List.Mem.head _) 3
  have q2_4 : w2.cell? ⟨w.heap.size, 4, none⟩ = some (.slice A0 m0 cap0) := hI2.out.cell _ _ _ (List.Mem.head _) 4
  have q2_5 : w2.cell? ⟨w.heap.size, 5, none⟩ = some (.slice A1 m1 cap1) := hI2.out.cell _ _ _ (List.Mem.head _) 5
  have q2_6 : w2.cell? ⟨w.heap.size, 6, none⟩ = some (.slice A2 m2 cap2) := hI2.out.cell _ _ _ (List.Mem.head _) 6
  go_wp2_with fail
  refine (hI2.out.list es _ ⟨#[41, 32]⟩ hsl.out ihl.out (by have hz : ByteArray.size ⟨#[41, 32]⟩ = List.length ([41, 32] : List UInt8) := rfl; have h := hlen.out; have hT := tabsT_len t; (try simp only [List.length_append] at h ⊢); omega)).mono ?_; rintro e w3 ⟨rfl, hi⟩
  have hI3 := Lib.hid hi; clear hi
  have hx3 := hI3.out.lt _ _ _ (List.Mem.head _)
  have q3_0 : w3.cell? ⟨w.heap.size, 0, none⟩ = some (.int .i64 4) := hI3.out.cell _ _ _ (List.Mem.head _) 0
  have q3_1 : w3.cell? ⟨w.heap.size, 1, none⟩ = some (.int .i64 n) := hI3.out.cell _ _ _ (List.Mem.head _) 1
  have q3_2 : w3.cell? ⟨w.heap.size, 2, none⟩ = some (.string ty) := hI3.out.cell _ _ _ (List.Mem.head _) 2
  have q3_3 : w3.cell? ⟨w.heap.size, 3, none⟩ = some (.string nm) := hI3.out.cell _ _ _ (List.Mem.head _) 3
  have q3_4 : w3.cell? ⟨w.heap.size, 4, none⟩ = some (.slice A0 m0 cap0) := hI3.out.cell _ _ _ (List.Mem.head _) 4
  have q3_5 : w3.cell? ⟨w.heap.size, 5, none⟩ = some (.slice A1 m1 cap1) := hI3.out.cell _ _ _ (List.Mem.head _) 5
  have q3_6 : w3.cell? ⟨w.heap.size, 6, none⟩ = some (.slice A2 m2 cap2) := hI3.out.cell _ _ _ (List.Mem.head _) 6
  go_wp2_with fail
  refine (hI3.out.block hwa.out hva.out (by have h := hlen.out; have hT := tabsT_len t; (try simp only [List.length_append] at h ⊢); omega) hta.out).mono ?_; rintro e w4 ⟨rfl, hi⟩
  have hI4 := Lib.hid hi; clear hi
  have hx4 := hI4.out.lt _ _ _ (List.Mem.head _)
  have q4_0 : w4.cell? ⟨w.heap.size, 0, none⟩ = some (.int .i64 4) := hI4.out.cell _ _ _ (List.Mem.head _) 0
  have q4_1 : w4.cell? ⟨w.heap.size, 1, none⟩ = some (.int .i64 n) := hI4.out.cell _ _ _ (List.Mem.head _) 1
  have q4_2 : w4.cell? ⟨w.heap.size, 2, none⟩ = some (.string ty) := hI4.out.cell _ _ _ (List.Mem.head _) 2
  have q4_3 : w4.cell? ⟨w.heap.size, 3, none⟩ = some (.string nm) := hI4.out.cell _ _ _ (List.Mem.head _) 3
  have q4_4 : w4.cell? ⟨w.heap.size, 4, none⟩ = some (.slice A0 m0 cap0) := hI4.out.cell _ _ _ (List.Mem.head _) 4
  have q4_5 : w4.cell? ⟨w.heap.size, 5, none⟩ = some (.slice A1 m1 cap1) := hI4.out.cell _ _ _ (List.Mem.head _) 5
  have q4_6 : w4.cell? ⟨w.heap.size, 6, none⟩ = some (.slice A2 m2 cap2) := hI4.out.cell _ _ _ (List.Mem.head _) 6
  go_wp2_with fail
  refine (hI4.out.lay [⟨#[32, 101, 108, 115, 101, 32]⟩] _ (by simp) (by simp) (by have h := hlen.out; have hT := tabsT_len t; (try simp only [List.length_append] at h ⊢); omega)).mono ?_; rintro e w5 ⟨rfl, hi⟩
  have hI5 := Lib.hid hi; clear hi
  have hx5 := hI5.out.lt _ _ _ (List.Mem.head _)
  have q5_0 : w5.cell? ⟨w.heap.size, 0, none⟩ = some (.int .i64 4) := hI5.out.cell _ _ _ (List.Mem.head _) 0
  have q5_1 : w5.cell? ⟨w.heap.size, 1, none⟩ = some (.int .i64 n) := hI5.out.cell _ _ _ (List.Mem.head _) 1
  have q5_2 : w5.cell? ⟨w.heap.size, 2, none⟩ = some (.string ty) := hI5.out.cell _ _ _ (List.Mem.head _) 2
  have q5_3 : w5.cell? ⟨w.heap.size, 3, none⟩ = some (.string nm) := hI5.out.cell _ _ _ (List.Mem.head _) 3
  have q5_4 : w5.cell? ⟨w.heap.size, 4, none⟩ = some (.slice A0 m0 cap0) := hI5.out.cell _ _ _ (List.Mem.head _) 4
  have q5_5 : w5.cell? ⟨w.heap.size, 5, none⟩ = some (.slice A1 m1 cap1) := hI5.out.cell _ _ _ (List.Mem.head _) 5
  have q5_6 : w5.cell? ⟨w.heap.size, 6, none⟩ = some (.slice A2 m2 cap2) := hI5.out.cell _ _ _ (List.Mem.head _) 6
  go_wp2_with fail
  refine (hI5.out.block hwb.out hvb.out (by have h := hlen.out; have hT := tabsT_len t; (try simp only [List.length_append] at h ⊢); omega) htb.out).mono ?_; rintro e w6 ⟨rfl, hi⟩
  have hI6 := Lib.hid hi; clear hi
  have hx6 := hI6.out.lt _ _ _ (List.Mem.head _)
  have q6_0 : w6.cell? ⟨w.heap.size, 0, none⟩ = some (.int .i64 4) := hI6.out.cell _ _ _ (List.Mem.head _) 0
  have q6_1 : w6.cell? ⟨w.heap.size, 1, none⟩ = some (.int .i64 n) := hI6.out.cell _ _ _ (List.Mem.head _) 1
  have q6_2 : w6.cell? ⟨w.heap.size, 2, none⟩ = some (.string ty) := hI6.out.cell _ _ _ (List.Mem.head _) 2
  have q6_3 : w6.cell? ⟨w.heap.size, 3, none⟩ = some (.string nm) := hI6.out.cell _ _ _ (List.Mem.head _) 3
  have q6_4 : w6.cell? ⟨w.heap.size, 4, none⟩ = some (.slice A0 m0 cap0) := hI6.out.cell _ _ _ (List.Mem.head _) 4
  have q6_5 : w6.cell? ⟨w.heap.size, 5, none⟩ = some (.slice A1 m1 cap1) := hI6.out.cell _ _ _ (List.Mem.head _) 5
  have q6_6 : w6.cell? ⟨w.heap.size, 6, none⟩ = some (.slice A2 m2 cap2) := hI6.out.cell _ _ _ (List.Mem.head _) 6
  go_wp2_with fail
  refine (hI6.out.lay [⟨#[10]⟩] _ (by simp) (by simp) (by have h := hlen.out; have hT := tabsT_len t; (try simp only [List.length_append] at h ⊢); omega)).mono ?_; rintro e w7 ⟨rfl, hi⟩
  have hI7 := Lib.hid hi; clear hi
  go_wp2_with fail
  refine bodyPost_ret (results_none rfl _ _ _) rfl ?_
  refine ⟨rfl, ?_, hI7.out.kept⟩
  simpa only [List.append_assoc] using hI7.out.page

set_option maxRecDepth 100000 in
set_option maxHeartbeats 4000000 in
theorem wst_5 (B b : Nat) (l : List UInt8) (t : Nat) (n : Int) (ty nm : ByteArray) (A0 A1 A2 : Option Addr) (m0 cap0 m1 cap1 m2 cap2 : Nat) (w0 w : World) (hB : w0.heap.size ≤ B) (hw : Below B w0 w) (hp : PageAt B b l t w) (ht : t ≤ 4000000) (hn : I64 n) (he : Env w0) (es : List Ex) (hsl : Hid (Exs.V w0 es (.slice A0 m0 cap0))) (ihl : Hid (∀ e, e ∈ es → Writes B b t w0 e 1)) (hlen : Hid (l.length + (tabsT t).length + (cat [⟨#[112, 114, 105, 110, 116, 40]⟩, ⟨(Lib.itoa n).toArray⟩, ⟨#[44, 32]⟩]).length + (listT es).length + ((⟨#[41]⟩ : ByteArray).data.toList).length + (cat [⟨#[59, 10]⟩]).length ≤ 140737488355328)) :
    Calls Tryd.prog 51 #[.pointer (some ⟨b, 0, none⟩), .agg #[.int .i64 5, .int .i64 n, .string ty, .string nm, .slice A0 m0 cap0, .slice A1 m1 cap1, .slice A2 m2 cap2]] w fun x w' => x = .returned (.tuple #[]) ∧ PageAt B b (l ++ tabsT t ++ cat [⟨#[112, 114, 105, 110, 116, 40]⟩, ⟨(Lib.itoa n).toArray⟩, ⟨#[44, 32]⟩] ++ listT es ++ (⟨#[41]⟩ : ByteArray).data.toList ++ cat [⟨#[59, 10]⟩]) t w' ∧ Kept B b w w' := by
  have hbs1 := buildOne
  have hbs2 := buildTwo
  have hbs3 := buildThree
  have hI0 := Lib.hid ((Inv.start hB hw hp).add #[.int .i64 5, .int .i64 n, .string ty, .string nm, .slice A0 m0 cap0, .slice A1 m1 cap1, .slice A2 m2 cap2] 39 (by decide))
  clear hB hw hp
  go_enter Tryd.func51, Tryd.ntmps51
  go_wp2_with fail
  refine (hI0.out.lineNil ht (by have h := hlen.out; have hT := tabsT_len t; (try simp only [List.length_append] at h ⊢); omega)).mono ?_; rintro e w1 ⟨rfl, hi⟩
  have hI1 := Lib.hid hi; clear hi
  have hx1 := hI1.out.lt _ _ _ (List.Mem.head _)
  have q1_0 : w1.cell? ⟨w.heap.size, 0, none⟩ = some (.int .i64 5) := hI1.out.cell _ _ _ (List.Mem.head _) 0
  have q1_1 : w1.cell? ⟨w.heap.size, 1, none⟩ = some (.int .i64 n) := hI1.out.cell _ _ _ (List.Mem.head _) 1
  have q1_2 : w1.cell? ⟨w.heap.size, 2, none⟩ = some (.string ty) := hI1.out.cell _ _ _ (List.Mem.head _) 2
  have q1_3 : w1.cell? ⟨w.heap.size, 3, none⟩ = some (.string nm) := hI1.out.cell _ _ _ (List.Mem.head _) 3
  have q1_4 : w1.cell? ⟨w.heap.size, 4, none⟩ = some (.slice A0 m0 cap0) := hI1.out.cell _ _ _ (List.Mem.head _) 4
  have q1_5 : w1.cell? ⟨w.heap.size, 5, none⟩ = some (.slice A1 m1 cap1) := hI1.out.cell _ _ _ (List.Mem.head _) 5
  have q1_6 : w1.cell? ⟨w.heap.size, 6, none⟩ = some (.slice A2 m2 cap2) := hI1.out.cell _ _ _ (List.Mem.head _) 6
  go_wp2_with fail
  refine (text_any n _ hn (he.below hI1.out.old hI0.out.base)).mono ?_; rintro e w2 ⟨rfl, hb⟩
  have hI2 := Lib.hid (hI1.out.below hb); clear hb
  have hx2 := hI2.out.lt _ _ _ (List.Mem.head _)
  have q2_0 : w2.cell? ⟨w.heap.size, 0, none⟩ = some (.int .i64 5) := hI2.out.cell _ _ _ (List.Mem.head _) 0
  have q2_1 : w2.cell? ⟨w.heap.size, 1, none⟩ = some (.int .i64 n) := hI2.out.cell _ _ _ (List.Mem.head _) 1
  have q2_2 : w2.cell? ⟨w.heap.size, 2, none⟩ = some (.string ty) := hI2.out.cell _ _ _ (List.Mem.head _) 2
  have q2_3 : w2.cell? ⟨w.heap.size, 3, none⟩ = some (.string nm) := hI2.out.cell _ _ _ (List.Mem.head _) 3
  have q2_4 : w2.cell? ⟨w.heap.size, 4, none⟩ = some (.slice A0 m0 cap0) := hI2.out.cell _ _ _ (List.Mem.head _) 4
  have q2_5 : w2.cell? ⟨w.heap.size, 5, none⟩ = some (.slice A1 m1 cap1) := hI2.out.cell _ _ _ (List.Mem.head _) 5
  have q2_6 : w2.cell? ⟨w.heap.size, 6, none⟩ = some (.slice A2 m2 cap2) := hI2.out.cell _ _ _ (List.Mem.head _) 6
  go_wp2_with fail
  refine (hI2.out.lay [⟨#[112, 114, 105, 110, 116, 40]⟩, ⟨(Lib.itoa n).toArray⟩, ⟨#[44, 32]⟩] _ (by simp) (by simp) (by have h := hlen.out; have hT := tabsT_len t; (try simp only [List.length_append] at h ⊢); omega)).mono ?_; rintro e w3 ⟨rfl, hi⟩
  have hI3 := Lib.hid hi; clear hi
  have hx3 := hI3.out.lt _ _ _ (List.Mem.head _)
  have q3_0 : w3.cell? ⟨w.heap.size, 0, none⟩ = some (.int .i64 5) := hI3.out.cell _ _ _ (List.Mem.head _) 0
  have q3_1 : w3.cell? ⟨w.heap.size, 1, none⟩ = some (.int .i64 n) := hI3.out.cell _ _ _ (List.Mem.head _) 1
  have q3_2 : w3.cell? ⟨w.heap.size, 2, none⟩ = some (.string ty) := hI3.out.cell _ _ _ (List.Mem.head _) 2
  have q3_3 : w3.cell? ⟨w.heap.size, 3, none⟩ = some (.string nm) := hI3.out.cell _ _ _ (List.Mem.head _) 3
  have q3_4 : w3.cell? ⟨w.heap.size, 4, none⟩ = some (.slice A0 m0 cap0) := hI3.out.cell _ _ _ (List.Mem.head _) 4
  have q3_5 : w3.cell? ⟨w.heap.size, 5, none⟩ = some (.slice A1 m1 cap1) := hI3.out.cell _ _ _ (List.Mem.head _) 5
  have q3_6 : w3.cell? ⟨w.heap.size, 6, none⟩ = some (.slice A2 m2 cap2) := hI3.out.cell _ _ _ (List.Mem.head _) 6
  go_wp2_with fail
  refine (hI3.out.list es _ ⟨#[41]⟩ hsl.out ihl.out (by have hz : ByteArray.size ⟨#[41]⟩ = List.length ([41] : List UInt8) := rfl; have h := hlen.out; have hT := tabsT_len t; (try simp only [List.length_append] at h ⊢); omega)).mono ?_; rintro e w4 ⟨rfl, hi⟩
  have hI4 := Lib.hid hi; clear hi
  have hx4 := hI4.out.lt _ _ _ (List.Mem.head _)
  have q4_0 : w4.cell? ⟨w.heap.size, 0, none⟩ = some (.int .i64 5) := hI4.out.cell _ _ _ (List.Mem.head _) 0
  have q4_1 : w4.cell? ⟨w.heap.size, 1, none⟩ = some (.int .i64 n) := hI4.out.cell _ _ _ (List.Mem.head _) 1
  have q4_2 : w4.cell? ⟨w.heap.size, 2, none⟩ = some (.string ty) := hI4.out.cell _ _ _ (List.Mem.head _) 2
  have q4_3 : w4.cell? ⟨w.heap.size, 3, none⟩ = some (.string nm) := hI4.out.cell _ _ _ (List.Mem.head _) 3
  have q4_4 : w4.cell? ⟨w.heap.size, 4, none⟩ = some (.slice A0 m0 cap0) := hI4.out.cell _ _ _ (List.Mem.head _) 4
  have q4_5 : w4.cell? ⟨w.heap.size, 5, none⟩ = some (.slice A1 m1 cap1) := hI4.out.cell _ _ _ (List.Mem.head _) 5
  have q4_6 : w4.cell? ⟨w.heap.size, 6, none⟩ = some (.slice A2 m2 cap2) := hI4.out.cell _ _ _ (List.Mem.head _) 6
  go_wp2_with fail
  refine (hI4.out.lay [⟨#[59, 10]⟩] _ (by simp) (by simp) (by have h := hlen.out; have hT := tabsT_len t; (try simp only [List.length_append] at h ⊢); omega)).mono ?_; rintro e w5 ⟨rfl, hi⟩
  have hI5 := Lib.hid hi; clear hi
  go_wp2_with fail
  go_end0
  refine ⟨rfl, ?_, hI5.out.kept⟩
  simpa only [List.append_assoc] using hI5.out.page

set_option maxRecDepth 100000 in
set_option maxHeartbeats 4000000 in
theorem wst_6 (B b : Nat) (l : List UInt8) (t : Nat) (n : Int) (ty nm : ByteArray) (A0 A1 A2 : Option Addr) (m0 cap0 m1 cap1 m2 cap2 : Nat) (w0 w : World) (hB : w0.heap.size ≤ B) (hw : Below B w0 w) (hp : PageAt B b l t w) (ht : t ≤ 4000000) (es : List Ex) (hsl : Hid (Exs.V w0 es (.slice A0 m0 cap0))) (ihl : Hid (∀ e, e ∈ es → Writes B b t w0 e 1)) (hlen : Hid (l.length + (tabsT t).length + (cat [⟨#[114, 101, 116, 117, 114, 110, 32]⟩]).length + (listT es).length + ((⟨#[]⟩ : ByteArray).data.toList).length + (cat [⟨#[59, 10]⟩]).length ≤ 140737488355328)) :
    Calls Tryd.prog 51 #[.pointer (some ⟨b, 0, none⟩), .agg #[.int .i64 6, .int .i64 n, .string ty, .string nm, .slice A0 m0 cap0, .slice A1 m1 cap1, .slice A2 m2 cap2]] w fun x w' => x = .returned (.tuple #[]) ∧ PageAt B b (l ++ tabsT t ++ cat [⟨#[114, 101, 116, 117, 114, 110, 32]⟩] ++ listT es ++ (⟨#[]⟩ : ByteArray).data.toList ++ cat [⟨#[59, 10]⟩]) t w' ∧ Kept B b w w' := by
  have hbs1 := buildOne
  have hbs2 := buildTwo
  have hbs3 := buildThree
  have hI0 := Lib.hid ((Inv.start hB hw hp).add #[.int .i64 6, .int .i64 n, .string ty, .string nm, .slice A0 m0 cap0, .slice A1 m1 cap1, .slice A2 m2 cap2] 39 (by decide))
  clear hB hw hp
  go_enter Tryd.func51, Tryd.ntmps51
  go_wp2_with fail
  refine (hI0.out.lineNil ht (by have h := hlen.out; have hT := tabsT_len t; (try simp only [List.length_append] at h ⊢); omega)).mono ?_; rintro e w1 ⟨rfl, hi⟩
  have hI1 := Lib.hid hi; clear hi
  have hx1 := hI1.out.lt _ _ _ (List.Mem.head _)
  have q1_0 : w1.cell? ⟨w.heap.size, 0, none⟩ = some (.int .i64 6) := hI1.out.cell _ _ _ (List.Mem.head _) 0
  have q1_1 : w1.cell? ⟨w.heap.size, 1, none⟩ = some (.int .i64 n) := hI1.out.cell _ _ _ (List.Mem.head _) 1
  have q1_2 : w1.cell? ⟨w.heap.size, 2, none⟩ = some (.string ty) := hI1.out.cell _ _ _ (List.Mem.head _) 2
  have q1_3 : w1.cell? ⟨w.heap.size, 3, none⟩ = some (.string nm) := hI1.out.cell _ _ _ (List.Mem.head _) 3
  have q1_4 : w1.cell? ⟨w.heap.size, 4, none⟩ = some (.slice A0 m0 cap0) := hI1.out.cell _ _ _ (List.Mem.head _) 4
  have q1_5 : w1.cell? ⟨w.heap.size, 5, none⟩ = some (.slice A1 m1 cap1) := hI1.out.cell _ _ _ (List.Mem.head _) 5
  have q1_6 : w1.cell? ⟨w.heap.size, 6, none⟩ = some (.slice A2 m2 cap2) := hI1.out.cell _ _ _ (List.Mem.head _) 6
  go_wp2_with fail
  refine (hI1.out.lay [⟨#[114, 101, 116, 117, 114, 110, 32]⟩] _ (by simp) (by simp) (by have h := hlen.out; have hT := tabsT_len t; (try simp only [List.length_append] at h ⊢); omega)).mono ?_; rintro e w2 ⟨rfl, hi⟩
  have hI2 := Lib.hid hi; clear hi
  have hx2 := hI2.out.lt _ _ _ (List.Mem.head _)
  have q2_0 : w2.cell? ⟨w.heap.size, 0, none⟩ = some (.int .i64 6) := hI2.out.cell _ _ _ (List.Mem.head _) 0
  have q2_1 : w2.cell? ⟨w.heap.size, 1, none⟩ = some (.int .i64 n) := hI2.out.cell _ _ _ (List.Mem.head _) 1
  have q2_2 : w2.cell? ⟨w.heap.size, 2, none⟩ = some (.string ty) := hI2.out.cell _ _ _ (List.Mem.head _) 2
  have q2_3 : w2.cell? ⟨w.heap.size, 3, none⟩ = some (.string nm) := hI2.out.cell _ _ _ (List.Mem.head _) 3
  have q2_4 : w2.cell? ⟨w.heap.size, 4, none⟩ = some (.slice A0 m0 cap0) := hI2.out.cell _ _ _ (List.Mem.head _) 4
  have q2_5 : w2.cell? ⟨w.heap.size, 5, none⟩ = some (.slice A1 m1 cap1) := hI2.out.cell _ _ _ (List.Mem.head _) 5
  have q2_6 : w2.cell? ⟨w.heap.size, 6, none⟩ = some (.slice A2 m2 cap2) := hI2.out.cell _ _ _ (List.Mem.head _) 6
  go_wp2_with fail
  refine (hI2.out.list es _ ⟨#[]⟩ hsl.out ihl.out (by have hz : ByteArray.size ⟨#[]⟩ = List.length ([] : List UInt8) := rfl; have h := hlen.out; have hT := tabsT_len t; (try simp only [List.length_append] at h ⊢); omega)).mono ?_; rintro e w3 ⟨rfl, hi⟩
  have hI3 := Lib.hid hi; clear hi
  have hx3 := hI3.out.lt _ _ _ (List.Mem.head _)
  have q3_0 : w3.cell? ⟨w.heap.size, 0, none⟩ = some (.int .i64 6) := hI3.out.cell _ _ _ (List.Mem.head _) 0
  have q3_1 : w3.cell? ⟨w.heap.size, 1, none⟩ = some (.int .i64 n) := hI3.out.cell _ _ _ (List.Mem.head _) 1
  have q3_2 : w3.cell? ⟨w.heap.size, 2, none⟩ = some (.string ty) := hI3.out.cell _ _ _ (List.Mem.head _) 2
  have q3_3 : w3.cell? ⟨w.heap.size, 3, none⟩ = some (.string nm) := hI3.out.cell _ _ _ (List.Mem.head _) 3
  have q3_4 : w3.cell? ⟨w.heap.size, 4, none⟩ = some (.slice A0 m0 cap0) := hI3.out.cell _ _ _ (List.Mem.head _) 4
  have q3_5 : w3.cell? ⟨w.heap.size, 5, none⟩ = some (.slice A1 m1 cap1) := hI3.out.cell _ _ _ (List.Mem.head _) 5
  have q3_6 : w3.cell? ⟨w.heap.size, 6, none⟩ = some (.slice A2 m2 cap2) := hI3.out.cell _ _ _ (List.Mem.head _) 6
  go_wp2_with fail
  refine (hI3.out.lay [⟨#[59, 10]⟩] _ (by simp) (by simp) (by have h := hlen.out; have hT := tabsT_len t; (try simp only [List.length_append] at h ⊢); omega)).mono ?_; rintro e w4 ⟨rfl, hi⟩
  have hI4 := Lib.hid hi; clear hi
  go_wp2_with fail
  go_end0
  refine ⟨rfl, ?_, hI4.out.kept⟩
  simpa only [List.append_assoc] using hI4.out.page

set_option maxRecDepth 100000 in
set_option maxHeartbeats 4000000 in
theorem wst_7 (B b : Nat) (l : List UInt8) (t : Nat) (n : Int) (ty nm : ByteArray) (A0 A1 A2 : Option Addr) (m0 cap0 m1 cap1 m2 cap2 : Nat) (w0 w : World) (hB : w0.heap.size ≤ B) (hw : Below B w0 w) (hp : PageAt B b l t w) (ht : t ≤ 4000000) (es : List Ex) (hsl : Hid (Exs.V w0 es (.slice A0 m0 cap0))) (ihl : Hid (∀ e, e ∈ es → Writes B b t w0 e 1)) (hlen : Hid (l.length + (tabsT t).length + (listT es).length + ((⟨#[]⟩ : ByteArray).data.toList).length + (cat [⟨#[59, 10]⟩]).length ≤ 140737488355328)) :
    Calls Tryd.prog 51 #[.pointer (some ⟨b, 0, none⟩), .agg #[.int .i64 7, .int .i64 n, .string ty, .string nm, .slice A0 m0 cap0, .slice A1 m1 cap1, .slice A2 m2 cap2]] w fun x w' => x = .returned (.tuple #[]) ∧ PageAt B b (l ++ tabsT t ++ listT es ++ (⟨#[]⟩ : ByteArray).data.toList ++ cat [⟨#[59, 10]⟩]) t w' ∧ Kept B b w w' := by
  have hbs1 := buildOne
  have hbs2 := buildTwo
  have hbs3 := buildThree
  have hI0 := Lib.hid ((Inv.start hB hw hp).add #[.int .i64 7, .int .i64 n, .string ty, .string nm, .slice A0 m0 cap0, .slice A1 m1 cap1, .slice A2 m2 cap2] 39 (by decide))
  clear hB hw hp
  go_enter Tryd.func51, Tryd.ntmps51
  go_wp2_with fail
  refine (hI0.out.lineNil ht (by have h := hlen.out; have hT := tabsT_len t; (try simp only [List.length_append] at h ⊢); omega)).mono ?_; rintro e w1 ⟨rfl, hi⟩
  have hI1 := Lib.hid hi; clear hi
  have hx1 := hI1.out.lt _ _ _ (List.Mem.head _)
  have q1_0 : w1.cell? ⟨w.heap.size, 0, none⟩ = some (.int .i64 7) := hI1.out.cell _ _ _ (List.Mem.head _) 0
  have q1_1 : w1.cell? ⟨w.heap.size, 1, none⟩ = some (.int .i64 n) := hI1.out.cell _ _ _ (List.Mem.head _) 1
  have q1_2 : w1.cell? ⟨w.heap.size, 2, none⟩ = some (.string ty) := hI1.out.cell _ _ _ (List.Mem.head _) 2
  have q1_3 : w1.cell? ⟨w.heap.size, 3, none⟩ = some (.string nm) := hI1.out.cell _ _ _ (List.Mem.head _) 3
  have q1_4 : w1.cell? ⟨w.heap.size, 4, none⟩ = some (.slice A0 m0 cap0) := hI1.out.cell _ _ _ (List.Mem.head _) 4
  have q1_5 : w1.cell? ⟨w.heap.size, 5, none⟩ = some (.slice A1 m1 cap1) := hI1.out.cell _ _ _ (List.Mem.head _) 5
  have q1_6 : w1.cell? ⟨w.heap.size, 6, none⟩ = some (.slice A2 m2 cap2) := hI1.out.cell _ _ _ (List.Mem.head _) 6
  go_wp2_with fail
  refine (hI1.out.list es _ ⟨#[]⟩ hsl.out ihl.out (by have hz : ByteArray.size ⟨#[]⟩ = List.length ([] : List UInt8) := rfl; have h := hlen.out; have hT := tabsT_len t; (try simp only [List.length_append] at h ⊢); omega)).mono ?_; rintro e w2 ⟨rfl, hi⟩
  have hI2 := Lib.hid hi; clear hi
  have hx2 := hI2.out.lt _ _ _ (List.Mem.head _)
  have q2_0 : w2.cell? ⟨w.heap.size, 0, none⟩ = some (.int .i64 7) := hI2.out.cell _ _ _ (List.Mem.head _) 0
  have q2_1 : w2.cell? ⟨w.heap.size, 1, none⟩ = some (.int .i64 n) := hI2.out.cell _ _ _ (List.Mem.head _) 1
  have q2_2 : w2.cell? ⟨w.heap.size, 2, none⟩ = some (.string ty) := hI2.out.cell _ _ _ (List.Mem.head _) 2
  have q2_3 : w2.cell? ⟨w.heap.size, 3, none⟩ = some (.string nm) := hI2.out.cell _ _ _ (List.Mem.head _) 3
  have q2_4 : w2.cell? ⟨w.heap.size, 4, none⟩ = some (.slice A0 m0 cap0) := hI2.out.cell _ _ _ (List.Mem.head _) 4
  have q2_5 : w2.cell? ⟨w.heap.size, 5, none⟩ = some (.slice A1 m1 cap1) := hI2.out.cell _ _ _ (List.Mem.head _) 5
  have q2_6 : w2.cell? ⟨w.heap.size, 6, none⟩ = some (.slice A2 m2 cap2) := hI2.out.cell _ _ _ (List.Mem.head _) 6
  go_wp2_with fail
  refine (hI2.out.lay [⟨#[59, 10]⟩] _ (by simp) (by simp) (by have h := hlen.out; have hT := tabsT_len t; (try simp only [List.length_append] at h ⊢); omega)).mono ?_; rintro e w3 ⟨rfl, hi⟩
  have hI3 := Lib.hid hi; clear hi
  go_wp2_with fail
  go_end0
  refine ⟨rfl, ?_, hI3.out.kept⟩
  simpa only [List.append_assoc] using hI3.out.page

end Go.Proofs.YtapdgeajbnbdjaaDoor
