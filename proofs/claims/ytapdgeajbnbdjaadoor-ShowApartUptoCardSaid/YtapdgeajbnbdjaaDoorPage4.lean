/- arith.Text; the state of a page's writing; show.page.expr's calls in that state. -/
import Derived.Test.YtapdgeajbnbdjaaDoorPage3
import Derived.Lib.AppendIntMem
namespace Go.Proofs.YtapdgeajbnbdjaaDoor
open Go.RowKit

set_option maxHeartbeats 400000 in
theorem text_any (n : Int) (w : World) (hn : I64 n) (he : Env w) :
    Calls Tryd.prog 39 #[.int .i64 n] w fun e w' => e = .returned (.string ⟨(Lib.itoa n).toArray⟩) ∧ Below w.heap.size w w' := by
  have htab := he.tab
  obtain ⟨h0, h1⟩ := hn
  have H := Lib.hid (Tryd.strconv_FormatInt_10 n h0 h1 w htab)
  clear htab
  go_enter Tryd.func39, Tryd.ntmps39
  go_wp2_with (go_at_call 67; refine H.out.mono ?_; rintro e w1 ⟨rfl, k, os, hw⟩; have hb := (hw ▸ Lib.below_grow w.heap.size w (Nat.le_refl _) k os : Below w.heap.size w w1); clear hw)
  go_ret
  exact ⟨rfl, hb⟩

theorem buildTwo (x y : ByteArray) (w : World) : (Instr.buildSlice 63 2 #[(0, .string x), (1, .string y)]).run Tryd.prog w = .ok (.slice (some ⟨w.heap.size, 0, none⟩) 2 2) (w.alloc (.cells #[.string x, .string y] 9)) := by kernel_rfl
theorem buildThree (x y z : ByteArray) (w : World) : (Instr.buildSlice 63 3 #[(0, .string x), (1, .string y), (2, .string z)]).run Tryd.prog w = .ok (.slice (some ⟨w.heap.size, 0, none⟩) 3 3) (w.alloc (.cells #[.string x, .string y, .string z] 9)) := by kernel_rfl

theorem below_heap {w w' : World} {k : Nat} {x : Obj} (h : Below w.heap.size w w') (hk : w.heap[k]? = some x) : w'.heap[k]? = some x := by
  have hlt : k < w.heap.size := by
    rcases Nat.lt_or_ge k w.heap.size with h' | h'
    · exact h'
    · rw [Array.getElem?_eq_none h'] at hk; cases hk
  exact (h.block k hlt).trans hk
theorem heap_lt {w : World} {k : Nat} {x : Obj} (hk : w.heap[k]? = some x) : k < w.heap.size := by
  rcases Nat.lt_or_ge k w.heap.size with h' | h'
  · exact h'
  · rw [Array.getElem?_eq_none h'] at hk; cases hk

/-- the state of a function that writes on a page: what is on the page, boxes of its own (block, cells, type), and all that was there -/
structure Inv (B b : Nat) (t : Int) (w0 W : World) (L : List (Nat × Array Value × TypeId)) (l : List UInt8) (V : World) : Prop where
  page : PageAt B b l t V
  kept : Kept B b W V
  box : ∀ p, p ∈ L → V.heap[p.1]? = some (.cells p.2.1 p.2.2 (0, 0)) ∧ p.1 ≠ b ∧ p.2.2 ≠ 5
  old : Below B w0 V
  base : w0.heap.size ≤ B

section
variable {B b : Nat} {t : Int} {w0 W : World} {L : List (Nat × Array Value × TypeId)} {l : List UInt8} {V : World}
theorem Inv.le (h : Inv B b t w0 W L l V) : B ≤ V.heap.size := h.page.le
theorem Inv.alloc (h : Inv B b t w0 W L l V) (o : Obj) : Inv B b t w0 W L l (V.alloc o) :=
  ⟨h.page.alloc o, h.kept.alloc h.le o, fun p hp => ⟨old_at (h.box p hp).1 o, (h.box p hp).2⟩, h.old.alloc h.le o, h.base⟩
/-- a new box -/
theorem Inv.add (h : Inv B b t w0 W L l V) (cs : Array Value) (T : TypeId) (hT : T ≠ 5) : Inv B b t w0 W ((V.heap.size, cs, T) :: L) l (V.alloc (.cells cs T)) := by
  have h' := h.alloc (.cells cs T)
  refine ⟨h'.page, h'.kept, fun p hp => ?_, h'.old, h'.base⟩
  rcases List.mem_cons.1 hp with rfl | hp
  · exact ⟨new_at _ _, by have := h.page.lt; show V.heap.size ≠ b; omega, hT⟩
  · exact h'.box p hp
theorem Inv.drew (h : Inv B b t w0 W L l V) : Inv B b t w0 W L l V.drew :=
  ⟨h.page.drew, h.kept.drew, h.box, h.old.drew, h.base⟩
theorem Inv.below (h : Inv B b t w0 W L l V) {V' : World} (hb : Below V.heap.size V V') : Inv B b t w0 W L l V' :=
  ⟨h.page.below hb, h.kept.trans (Kept.of_below hb h.le), fun p hp => ⟨below_heap hb (h.box p hp).1, (h.box p hp).2⟩, h.old.trans (hb.mono h.le), h.base⟩
theorem Inv.step (h : Inv B b t w0 W L l V) {V' : World} {l' : List UInt8} (hp : PageAt B b l' t V') (hk : Kept B b V V') : Inv B b t w0 W L l' V' :=
  ⟨hp, h.kept.trans hk, fun p hp => ⟨hk.heap (h.box p hp).1 (h.box p hp).2.2 (h.box p hp).2.1, (h.box p hp).2⟩, h.old.trans hk.1, h.base⟩
theorem Inv.cell (h : Inv B b t w0 W L l V) (bx : Nat) (cs : Array Value) (T : TypeId) (hm : (bx, cs, T) ∈ L) (o : Nat) : V.cell? ⟨bx, o, none⟩ = cs[o]? := Lib.cell_of_heap (h.box _ hm).1 o
theorem Inv.lt (h : Inv B b t w0 W L l V) (bx : Nat) (cs : Array Value) (T : TypeId) (hm : (bx, cs, T) ∈ L) : bx < V.heap.size := heap_lt (h.box _ hm).1
theorem Inv.start (hB : w0.heap.size ≤ B) (hw : Below B w0 W) (hp : PageAt B b l t W) : Inv B b t w0 W [] l W :=
  ⟨hp, Kept.refl _ _ _, fun p hp => by simp at hp, hw, hB⟩

/-- lay, in that state -/
theorem Inv.lay (h : Inv B b t w0 W L l V) (ss : List ByteArray) (N : Nat) (hN : N = V.heap.size) (hm : ss.length ≤ 2000000) (hlen : l.length + (cat ss).length ≤ 140737488355328) :
    Calls Tryd.prog 23 #[.pointer (some ⟨b, 0, none⟩), .slice (some ⟨N, 0, none⟩) ss.length ss.length] (V.alloc (.cells (ss.map Value.string).toArray 9)) fun e V' => e = .returned (.tuple #[]) ∧ Inv B b t w0 W L (l ++ cat ss) V' := by
  subst hN
  refine (lay_any B b V.heap.size l t ss _ (h.page.alloc _) (new_at _ _) (by have := h.page.lt; omega) hm hlen).mono ?_
  rintro e V' ⟨rfl, hp, hk⟩
  exact ⟨rfl, (h.alloc _).step hp hk⟩
/-- .. deferred, its row laid before -/
theorem Inv.layd (h : Inv B b t w0 W L l V) (u : FrameMode) (ss : List ByteArray) (N : Nat) (hN : (N, (ss.map Value.string).toArray, 9) ∈ L) (hm : ss.length ≤ 2000000) (hlen : l.length + (cat ss).length ≤ 140737488355328) :
    CallsD Tryd.prog 23 #[.pointer (some ⟨b, 0, none⟩), .slice (some ⟨N, 0, none⟩) ss.length ss.length] u V fun e u' V' => u' = u ∧ (e = .returned (.tuple #[]) ∧ Inv B b t w0 W L (l ++ cat ss) V') := by
  refine (lay_deferred B b N l t ss V u h.page (h.box _ hN).1 (h.box _ hN).2.1 hm hlen).mono ?_
  rintro e u' V' ⟨rfl, rfl, hp, hk⟩
  exact ⟨rfl, rfl, h.step hp hk⟩
theorem Inv.list (h : Inv B b t w0 W L l V) (es : List Ex) (v : Value) (en : ByteArray) (hv : Exs.V w0 es v) (ih : ∀ e, e ∈ es → Writes B b t w0 e 1) (hlen : l.length + (listT es).length + en.size ≤ 140737488355328) :
    Calls Tryd.prog 40 #[.pointer (some ⟨b, 0, none⟩), v, .string en] V fun e V' => e = .returned (.tuple #[]) ∧ Inv B b t w0 W L (l ++ listT es ++ en.data.toList) V' := by
  refine (list_step B b l t es v en w0 V h.base h.old hv h.page ih hlen).mono ?_
  rintro e V' ⟨rfl, hp, hk⟩
  exact ⟨rfl, h.step hp hk⟩
theorem Inv.expr (h : Inv B b t w0 W L l V) {e : Ex} {want : Int} {c : Array Value} (hw : Writes B b t w0 e want) (hR : Ex.R w0 e c) (hlen : l.length + (atT want e).length ≤ 140737488355328) :
    Calls Tryd.prog 16 #[.pointer (some ⟨b, 0, none⟩), .agg c, .int .i64 want] V fun x V' => x = .returned (.tuple #[]) ∧ Inv B b t w0 W L (l ++ atT want e) V' := by
  refine (hw c V l hR h.old h.page hlen).mono ?_
  rintro x V' ⟨rfl, hp, hk⟩
  exact ⟨rfl, h.step hp hk⟩
end
end Go.Proofs.YtapdgeajbnbdjaaDoor
