/- General lemmas: how slices of structs lie in memory, endings, small facts for the walks. -/
import Derived.Test.YtapdgeajbnbdjaaDoorProg
import Derived.WalkKit
import Derived.WalkSpells
import Derived.WalkLawsBesides
import Derived.Lib.Hide
namespace Go.Proofs.YtapdgeajbnbdjaaDoor
open Go.RowKit

/-- 'returns v, and what was there lies as it lay' -/
def Ret (w : World) (v : Value) : Ending → World → Prop := fun e w' => e = .returned v ∧ Below w.heap.size w w'

theorem ret_bool {a b : Bool} (h : a = b) : Ending.returned (.bool a) = .returned (.bool b) := by rw [h]
theorem ret_int {k : IntKind} {a b : Int} (h : a = b) : Ending.returned (.int k a) = .returned (.int k b) := by rw [h]
theorem ret_str {a b : ByteArray} (h : a = b) : Ending.returned (.string a) = .returned (.string b) := by rw [h]

theorem bcell {W w1 : World} (hb : Below W.heap.size W w1) : (∀ b o, b < W.heap.size → w1.cell? ⟨b, o, none⟩ = W.cell? ⟨b, o, none⟩) ∧ (∀ b o, b < W.heap.size → w1.frozen? ⟨b, o, none⟩ = W.frozen? ⟨b, o, none⟩) :=
  ⟨fun b o h => hb.cell (p := ⟨b, o, none⟩) h, fun b o h => hb.frozen (p := ⟨b, o, none⟩) h⟩

theorem cell_lt {w : World} {b o : Nat} {v : Value} (h : w.cell? ⟨b, o, none⟩ = some v) : b < w.heap.size := by
  rcases Nat.lt_or_ge b w.heap.size with hlt | hge
  · exact hlt
  · unfold World.cell? at h
    rw [Array.getElem?_eq_none hge] at h
    cases h

/-- the cells of a slice's elements, 'size' cells an element -/
def Rws (w : World) (size : Nat) (A : Option Addr) (xs : List (Array Value)) : Prop :=
  ∀ i x, xs[i]? = some x → ∃ b off, A = some ⟨b, off, none⟩ ∧ b < w.heap.size ∧ x.size = size ∧ ∀ j, j < size → w.cell? ⟨b, off + i * size + j, none⟩ = x[j]?

theorem Rws.below {w w' : World} {B size A xs} (h : Rws w size A xs) (hb : Below B w w') (hB : w.heap.size ≤ B) : Rws w' size A xs := by
  intro i x hx
  obtain ⟨b, off, hA, hlt, hs, hc⟩ := h i x hx
  refine ⟨b, off, hA, Nat.lt_of_lt_of_le hlt hb.size, hs, fun j hj => ?_⟩
  rw [← hc j hj]
  exact hb.cell (p := ⟨b, off + i * size + j, none⟩) (by simp; omega)

/-- a slice value with those elements -/
def SlV (w : World) (size : Nat) (v : Value) (xs : List (Array Value)) : Prop :=
  ∃ A cap, v = .slice A xs.length cap ∧ xs.length ≤ cap ∧ cap ≤ maxLen ∧ (A = none → cap = 0) ∧ Rws w size A xs

theorem SlV.below {w w' : World} {B size v xs} (h : SlV w size v xs) (hb : Below B w w') (hB : w.heap.size ≤ B) : SlV w' size v xs := by
  obtain ⟨A, cap, h1, h2, h3, h4, h5⟩ := h
  exact ⟨A, cap, h1, h2, h3, h4, h5.below hb hB⟩

theorem SlV.nil (w : World) (size : Nat) : SlV w size (.slice none 0 0) [] :=
  ⟨none, 0, rfl, Nat.le_refl _, Nat.zero_le _, fun _ => rfl, fun i x h => by simp at h⟩

theorem arr2 {α : Type _} {x : Array α} (h : x.size = 2) : ∃ a b, x = #[a, b] := by
  obtain ⟨l⟩ := x
  match l, h with
  | [a, b], _ => exact ⟨a, b, rfl⟩
theorem arr4 {α : Type _} {x : Array α} (h : x.size = 4) : ∃ a b c d, x = #[a, b, c, d] := by
  obtain ⟨l⟩ := x
  match l, h with
  | [a, b, c, d], _ => exact ⟨a, b, c, d, rfl⟩
theorem arr7 {α : Type _} {x : Array α} (h : x.size = 7) : ∃ a b c d e f g, x = #[a, b, c, d, e, f, g] := by
  obtain ⟨l⟩ := x
  match l, h with
  | [a, b, c, d, e, f, g], _ => exact ⟨a, b, c, d, e, f, g, rfl⟩

theorem arr4_inj {α : Type _} {a b c d a' b' c' d' : α} (h : #[a, b, c, d] = #[a', b', c', d']) : a = a' ∧ b = b' ∧ c = c' ∧ d = d' := by
  have := congrArg Array.toList h
  simpa using this
theorem arr7_inj {α : Type _} {a b c d e f g a' b' c' d' e' f' g' : α} (h : #[a, b, c, d, e, f, g] = #[a', b', c', d', e', f', g']) : a = a' ∧ b = b' ∧ c = c' ∧ d = d' ∧ e = e' ∧ f = f' ∧ g = g' := by
  have := congrArg Array.toList h
  simpa using this
theorem arr2_inj {α : Type _} {a b a' b' : α} (h : #[a, b] = #[a', b']) : a = a' ∧ b = b' := by
  have := congrArg Array.toList h
  simpa using this
theorem Rws.at1 {w : World} {A xs i x} (h : Rws w 1 A xs) (hx : xs[i]? = some x) : ∃ b off c0, A = some ⟨b, off, none⟩ ∧ b < w.heap.size ∧ x = #[c0] ∧ w.cell? ⟨b, off + i, none⟩ = some c0 := by
  obtain ⟨b, off, hA, hlt, hs, hc⟩ := h i x hx
  obtain ⟨l⟩ := x
  match l, hs with
  | [c0], _ => exact ⟨b, off, c0, hA, hlt, rfl, by have := hc 0 (by omega); simpa using this⟩
theorem Rws.at2 {w : World} {A xs i x} (h : Rws w 2 A xs) (hx : xs[i]? = some x) : ∃ b off c0 c1, A = some ⟨b, off, none⟩ ∧ b < w.heap.size ∧ x = #[c0, c1] ∧ w.cell? ⟨b, off + i * 2, none⟩ = some c0 ∧ w.cell? ⟨b, off + i * 2 + 1, none⟩ = some c1 := by
  obtain ⟨b, off, hA, hlt, hs, hc⟩ := h i x hx
  obtain ⟨c0, c1, rfl⟩ := arr2 hs
  exact ⟨b, off, c0, c1, hA, hlt, rfl, hc 0 (by omega), hc 1 (by omega)⟩
theorem Rws.at4 {w : World} {A xs i x} (h : Rws w 4 A xs) (hx : xs[i]? = some x) : ∃ b off c0 c1 c2 c3, A = some ⟨b, off, none⟩ ∧ b < w.heap.size ∧ x = #[c0, c1, c2, c3] ∧
    w.cell? ⟨b, off + i * 4, none⟩ = some c0 ∧ w.cell? ⟨b, off + i * 4 + 1, none⟩ = some c1 ∧ w.cell? ⟨b, off + i * 4 + 2, none⟩ = some c2 ∧ w.cell? ⟨b, off + i * 4 + 3, none⟩ = some c3 := by
  obtain ⟨b, off, hA, hlt, hs, hc⟩ := h i x hx
  obtain ⟨c0, c1, c2, c3, rfl⟩ := arr4 hs
  exact ⟨b, off, c0, c1, c2, c3, hA, hlt, rfl, hc 0 (by omega), hc 1 (by omega), hc 2 (by omega), hc 3 (by omega)⟩
theorem Rws.at7 {w : World} {A xs i x} (h : Rws w 7 A xs) (hx : xs[i]? = some x) : ∃ b off c0 c1 c2 c3 c4 c5 c6, A = some ⟨b, off, none⟩ ∧ b < w.heap.size ∧ x = #[c0, c1, c2, c3, c4, c5, c6] ∧
    w.cell? ⟨b, off + i * 7, none⟩ = some c0 ∧ w.cell? ⟨b, off + i * 7 + 1, none⟩ = some c1 ∧ w.cell? ⟨b, off + i * 7 + 2, none⟩ = some c2 ∧ w.cell? ⟨b, off + i * 7 + 3, none⟩ = some c3 ∧
    w.cell? ⟨b, off + i * 7 + 4, none⟩ = some c4 ∧ w.cell? ⟨b, off + i * 7 + 5, none⟩ = some c5 ∧ w.cell? ⟨b, off + i * 7 + 6, none⟩ = some c6 := by
  obtain ⟨b, off, hA, hlt, hs, hc⟩ := h i x hx
  obtain ⟨c0, c1, c2, c3, c4, c5, c6, rfl⟩ := arr7 hs
  exact ⟨b, off, c0, c1, c2, c3, c4, c5, c6, hA, hlt, rfl, hc 0 (by omega), hc 1 (by omega), hc 2 (by omega), hc 3 (by omega), hc 4 (by omega), hc 5 (by omega), hc 6 (by omega)⟩

end Go.Proofs.YtapdgeajbnbdjaaDoor
