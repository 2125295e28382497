/- a region that draws its order and whose calls only make memory: one walk; ref03.at -/
import Derived.Test.YtapdgeajbnbdjaaDoorRef4
import Derived.BigQuiet
namespace Go.Proofs.YtapdgeajbnbdjaaDoor
open Go.RowKit

/-- the worlds that lie over w -/
structure In (w : World) where
  W : World
  h : Below w.heap.size w W

instance (w : World) : Nonempty (In w) := ⟨⟨w, Below.refl _ _⟩⟩

theorem wp_region_in {P : Program} {id : Nat} {Q : Exit → Act → World → Prop} {a : Act} {w : World} {l : List Oper} (hm : P.follows .mixedOrders = true) (hB : Region.lexB .any l.toArray = true)
    (h : wpQuiet P l.toArray (fun w' => ∃ s : In w, w' = s.W) (fun a' => ∀ w', (∃ s : In w, w' = s.W) → Q .normal a' w') l a) : (Code.region id l.toArray true).wp P Q a w :=
  wp_region_quiet (C := fun w' => ∃ s : In w, w' = s.W) hm hB ⟨⟨w.drew, (Below.refl _ _).drew⟩, rfl⟩ (by simpa using h)

theorem Calls.in_of {P : Program} {f : FuncId} {args : Array Value} {w : World} {s : In w} {v : Value} (h : Calls P f args s.W (Ret s.W v)) :
    Calls P f args s.W fun e w' => e = .returned v ∧ ∃ s' : In w, w' = s'.W :=
  h.mono fun _ w' ⟨he, hb⟩ => ⟨he, ⟨w', s.h.trans (hb.mono s.h.size)⟩, rfl⟩
theorem Calls.in_of_same {P : Program} {f : FuncId} {args : Array Value} {w : World} {s : In w} {v : Value} (h : Calls P f args s.W (fun e w' => e = .returned v ∧ w' = s.W)) :
    Calls P f args s.W fun e w' => e = .returned v ∧ ∃ s' : In w, w' = s'.W :=
  h.mono fun _ _ ⟨he, hb⟩ => ⟨he, s, hb⟩

theorem box_in_cell {w : World} {cs : Array Value} {T : TypeId} (q : In (w.alloc (.cells cs T))) (j : Nat) : q.W.cell? ⟨w.heap.size, j, none⟩ = cs[j]? := by
  rw [q.h.cell (p := ⟨w.heap.size, j, none⟩) (by simp)]
  exact Lib.cell_of_heap (fr := (0, 0)) (T := T) (by simp only [World.alloc]; exact Array.getElem?_push_size) j
theorem box_in_lt {w : World} {o : Obj} (q : In (w.alloc o)) : w.heap.size < q.W.heap.size := by
  have := q.h.size
  simp at this
  omega
theorem box_in {w : World} {o : Obj} (q : In (w.alloc o)) : Below w.heap.size w q.W := ((Below.refl _ w).alloc (Nat.le_refl _) o).trans (q.h.mono (by simp))

/-- an expression's text, by the reference -/
def TextR (e : Ex) : Prop := ∀ (c : Array Value) (W : World), Ex.R W e c → Calls Tryd.prog 19 #[.agg c] W (Ret W (.string ⟨(exT e).toArray⟩))
def AtR (e : Ex) : Prop := ∀ (c : Array Value) (W : World) (want : Int), Ex.R W e c → Calls Tryd.prog 46 #[.agg c, .int .i64 want] W (Ret W (.string ⟨(atT want e).toArray⟩))

set_option maxRecDepth 100000 in
theorem at_any (e : Ex) (h : TextR e) (hl : (exT e).length ≤ 1000000000) : AtR e := by
  intro c w want hR
  obtain ⟨A, n, cap, rfl⟩ := hR.cells
  have HR := Lib.hid hR; clear hR
  have HT := Lib.hid h; clear h
  have hl1 : ¬ 9223372036854775807 < 1 + (exT e).length := by omega
  have hl2 : ¬ 9223372036854775807 < 1 + (exT e).length + 1 := by omega
  have hA := Below.alloc (Below.refl w.heap.size w) (Nat.le_refl _)
  unfold atT atP
  by_cases hlv : (shapeOf e.kind).level < want
  · rw [if_pos (by exact hlv)]
    show Calls _ _ _ _ (Ret w (.string ⟨(40 :: (exT e ++ [41])).toArray⟩))
    go_enter Tryd.func46, Tryd.ntmps46
    go_wp2_with fail
    refine (HT.out _ _ (Ex.R.below (hA _) (Nat.le_refl _) e _ HR.out)).mono ?_
    rintro x w1 ⟨rfl, hb⟩
    obtain ⟨hq, hf⟩ := bcell hb
    have hz1 : w.heap.size < w1.heap.size := by have := hb.size; simp at this; omega
    go_wp2_with fail
    refine (level_any _ _).mono ?_; rintro x w2 ⟨rfl, rfl⟩
    go_wp2_with fail
    go_ret
    exact ⟨ret_str (by apply ByteArray.ext; simp), (hA _).trans (hb.mono (by simp))⟩
  · rw [if_neg (by exact hlv)]
    show Calls _ _ _ _ (Ret w (.string ⟨(exT e).toArray⟩))
    go_enter Tryd.func46, Tryd.ntmps46
    go_wp2_with fail
    refine (HT.out _ _ (Ex.R.below (hA _) (Nat.le_refl _) e _ HR.out)).mono ?_
    rintro x w1 ⟨rfl, hb⟩
    obtain ⟨hq, hf⟩ := bcell hb
    have hz1 : w.heap.size < w1.heap.size := by have := hb.size; simp at this; omega
    go_wp2_with fail
    refine (level_any _ _).mono ?_; rintro x w2 ⟨rfl, rfl⟩
    go_wp2_with fail
    go_ret
    exact ⟨rfl, (hA _).trans (hb.mono (by simp))⟩
end Go.Proofs.YtapdgeajbnbdjaaDoor
