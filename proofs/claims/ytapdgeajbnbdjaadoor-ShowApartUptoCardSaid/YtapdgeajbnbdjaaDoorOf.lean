/- show.of: what an expression's kind has. -/
import Derived.Test.YtapdgeajbnbdjaaDoorSlices
import Derived.BigRegion
namespace Go.Proofs.YtapdgeajbnbdjaaDoor
open Go.RowKit

structure Shape where
  least : Int
  most : Int
  name : Bool
  num : Int
  level : Int
  sign : List UInt8
def Shape.cells (s : Shape) : Array Value := #[.int .i64 s.least, .int .i64 s.most, .bool s.name, .int .i64 s.num, .int .i64 s.level, .string ⟨s.sign.toArray⟩]
def shapeOf (k : Int) : Shape :=
  if k = 1 then ⟨0, 0, false, 9223372036854775807, 4, []⟩ else
  if k = 2 then ⟨0, 0, false, 0, 4, []⟩ else
  if k = 3 then ⟨0, 0, false, 0, 4, []⟩ else
  if k = 4 then ⟨0, 0, true, 0, 4, []⟩ else
  if k = 5 then ⟨0, 0, true, 0, 4, []⟩ else
  if k = 6 then ⟨1, 1, false, 0, 4, []⟩ else
  if k = 7 then ⟨1, 1, true, 0, 4, []⟩ else
  if k = 8 then ⟨2, 2, false, 0, 4, []⟩ else
  if k = 9 then ⟨1, 1, false, 0, 4, []⟩ else
  if k = 10 then ⟨1, 5, true, 0, 4, []⟩ else
  if k = 11 then ⟨0, 0, false, 99, 4, []⟩ else
  if k = 12 then ⟨1, 1, false, 0, 4, []⟩ else
  if k = 13 then ⟨2, 2, false, 0, 2, [32, 43, 32]⟩ else
  if k = 14 then ⟨2, 2, false, 0, 2, [32, 45, 32]⟩ else
  if k = 15 then ⟨2, 2, false, 0, 3, [32, 42, 32]⟩ else
  if k = 16 then ⟨2, 2, false, 0, 3, [32, 47, 32]⟩ else
  if k = 17 then ⟨2, 2, false, 0, 1, [32, 60, 32]⟩ else
  if k = 18 then ⟨2, 2, false, 0, 1, [32, 61, 61, 32]⟩ else
  ⟨0, 0, false, 0, 4, []⟩
def isKind (k : Int) : Bool := decide (1 ≤ k) && decide (k ≤ 18)

set_option maxRecDepth 100000 in
set_option maxHeartbeats 1000000 in
theorem of_1 (w : World) :
    Calls Tryd.prog 36 #[.int .i64 1] w fun e w' => e = .returned (.tuple #[.agg #[.int .i64 0, .int .i64 0, .bool false, .int .i64 9223372036854775807, .int .i64 4, .string ⟨#[]⟩], .bool true]) ∧ Below w.heap.size w w' := by
  go_enter Tryd.func36, Tryd.ntmps36
  go_wp2
  exact bodyPost_ret (v := .tuple #[.agg #[.int .i64 0, .int .i64 0, .bool false, .int .i64 9223372036854775807, .int .i64 4, .string ⟨#[]⟩], .bool true]) (by simp [results, Tryd.results36, go_sem]) rfl ⟨rfl, ((Below.refl _ _).alloc (Nat.le_refl _) _).alloc (by simp) _⟩

set_option maxRecDepth 100000 in
set_option maxHeartbeats 1000000 in
theorem of_2 (w : World) :
    Calls Tryd.prog 36 #[.int .i64 2] w fun e w' => e = .returned (.tuple #[.agg #[.int .i64 0, .int .i64 0, .bool false, .int .i64 0, .int .i64 4, .string ⟨#[]⟩], .bool true]) ∧ Below w.heap.size w w' := by
  go_enter Tryd.func36, Tryd.ntmps36
  go_wp2
  exact bodyPost_ret (v := .tuple #[.agg #[.int .i64 0, .int .i64 0, .bool false, .int .i64 0, .int .i64 4, .string ⟨#[]⟩], .bool true]) (by simp [results, Tryd.results36, go_sem]) rfl ⟨rfl, ((Below.refl _ _).alloc (Nat.le_refl _) _).alloc (by simp) _⟩

set_option maxRecDepth 100000 in
set_option maxHeartbeats 1000000 in
theorem of_3 (w : World) :
    Calls Tryd.prog 36 #[.int .i64 3] w fun e w' => e = .returned (.tuple #[.agg #[.int .i64 0, .int .i64 0, .bool false, .int .i64 0, .int .i64 4, .string ⟨#[]⟩], .bool true]) ∧ Below w.heap.size w w' := by
  go_enter Tryd.func36, Tryd.ntmps36
  go_wp2
  exact bodyPost_ret (v := .tuple #[.agg #[.int .i64 0, .int .i64 0, .bool false, .int .i64 0, .int .i64 4, .string ⟨#[]⟩], .bool true]) (by simp [results, Tryd.results36, go_sem]) rfl ⟨rfl, ((Below.refl _ _).alloc (Nat.le_refl _) _).alloc (by simp) _⟩

set_option maxRecDepth 100000 in
set_option maxHeartbeats 1000000 in
theorem of_4 (w : World) :
    Calls Tryd.prog 36 #[.int .i64 4] w fun e w' => e = .returned (.tuple #[.agg #[.int .i64 0, .int .i64 0, .bool true, .int .i64 0, .int .i64 4, .string ⟨#[]⟩], .bool true]) ∧ Below w.heap.size w w' := by
  go_enter Tryd.func36, Tryd.ntmps36
  go_wp2
  exact bodyPost_ret (v := .tuple #[.agg #[.int .i64 0, .int .i64 0, .bool true, .int .i64 0, .int .i64 4, .string ⟨#[]⟩], .bool true]) (by simp [results, Tryd.results36, go_sem]) rfl ⟨rfl, ((Below.refl _ _).alloc (Nat.le_refl _) _).alloc (by simp) _⟩

set_option maxRecDepth 100000 in
set_option maxHeartbeats 1000000 in
theorem of_5 (w : World) :
    Calls Tryd.prog 36 #[.int .i64 5] w fun e w' => e = .returned (.tuple #[.agg #[.int .i64 0, .int .i64 0, .bool true, .int .i64 0, .int .i64 4, .string ⟨#[]⟩], .bool true]) ∧ Below w.heap.size w w' := by
  go_enter Tryd.func36, Tryd.ntmps36
  go_wp2
  exact bodyPost_ret (v := .tuple #[.agg #[.int .i64 0, .int .i64 0, .bool true, .int .i64 0, .int .i64 4, .string ⟨#[]⟩], .bool true]) (by simp [results, Tryd.results36, go_sem]) rfl ⟨rfl, ((Below.refl _ _).alloc (Nat.le_refl _) _).alloc (by simp) _⟩

set_option maxRecDepth 100000 in
set_option maxHeartbeats 1000000 in
theorem of_6 (w : World) :
    Calls Tryd.prog 36 #[.int .i64 6] w fun e w' => e = .returned (.tuple #[.agg #[.int .i64 1, .int .i64 1, .bool false, .int .i64 0, .int .i64 4, .string ⟨#[]⟩], .bool true]) ∧ Below w.heap.size w w' := by
  go_enter Tryd.func36, Tryd.ntmps36
  go_wp2
  exact bodyPost_ret (v := .tuple #[.agg #[.int .i64 1, .int .i64 1, .bool false, .int .i64 0, .int .i64 4, .string ⟨#[]⟩], .bool true]) (by simp [results, Tryd.results36, go_sem]) rfl ⟨rfl, ((Below.refl _ _).alloc (Nat.le_refl _) _).alloc (by simp) _⟩

set_option maxRecDepth 100000 in
set_option maxHeartbeats 1000000 in
theorem of_7 (w : World) :
    Calls Tryd.prog 36 #[.int .i64 7] w fun e w' => e = .returned (.tuple #[.agg #[.int .i64 1, .int .i64 1, .bool true, .int .i64 0, .int .i64 4, .string ⟨#[]⟩], .bool true]) ∧ Below w.heap.size w w' := by
  go_enter Tryd.func36, Tryd.ntmps36
  go_wp2
  exact bodyPost_ret (v := .tuple #[.agg #[.int .i64 1, .int .i64 1, .bool true, .int .i64 0, .int .i64 4, .string ⟨#[]⟩], .bool true]) (by simp [results, Tryd.results36, go_sem]) rfl ⟨rfl, ((Below.refl _ _).alloc (Nat.le_refl _) _).alloc (by simp) _⟩

set_option maxRecDepth 100000 in
set_option maxHeartbeats 1000000 in
theorem of_8 (w : World) :
    Calls Tryd.prog 36 #[.int .i64 8] w fun e w' => e = .returned (.tuple #[.agg #[.int .i64 2, .int .i64 2, .bool false, .int .i64 0, .int .i64 4, .string ⟨#[]⟩], .bool true]) ∧ Below w.heap.size w w' := by
  go_enter Tryd.func36, Tryd.ntmps36
  go_wp2
  exact bodyPost_ret (v := .tuple #[.agg #[.int .i64 2, .int .i64 2, .bool false, .int .i64 0, .int .i64 4, .string ⟨#[]⟩], .bool true]) (by simp [results, Tryd.results36, go_sem]) rfl ⟨rfl, ((Below.refl _ _).alloc (Nat.le_refl _) _).alloc (by simp) _⟩

set_option maxRecDepth 100000 in
set_option maxHeartbeats 1000000 in
theorem of_9 (w : World) :
    Calls Tryd.prog 36 #[.int .i64 9] w fun e w' => e = .returned (.tuple #[.agg #[.int .i64 1, .int .i64 1, .bool false, .int .i64 0, .int .i64 4, .string ⟨#[]⟩], .bool true]) ∧ Below w.heap.size w w' := by
  go_enter Tryd.func36, Tryd.ntmps36
  go_wp2
  exact bodyPost_ret (v := .tuple #[.agg #[.int .i64 1, .int .i64 1, .bool false, .int .i64 0, .int .i64 4, .string ⟨#[]⟩], .bool true]) (by simp [results, Tryd.results36, go_sem]) rfl ⟨rfl, ((Below.refl _ _).alloc (Nat.le_refl _) _).alloc (by simp) _⟩

set_option maxRecDepth 100000 in
set_option maxHeartbeats 1000000 in
theorem of_10 (w : World) :
    Calls Tryd.prog 36 #[.int .i64 10] w fun e w' => e = .returned (.tuple #[.agg #[.int .i64 1, .int .i64 5, .bool true, .int .i64 0, .int .i64 4, .string ⟨#[]⟩], .bool true]) ∧ Below w.heap.size w w' := by
  go_enter Tryd.func36, Tryd.ntmps36
  go_wp2
  exact bodyPost_ret (v := .tuple #[.agg #[.int .i64 1, .int .i64 5, .bool true, .int .i64 0, .int .i64 4, .string ⟨#[]⟩], .bool true]) (by simp [results, Tryd.results36, go_sem]) rfl ⟨rfl, ((Below.refl _ _).alloc (Nat.le_refl _) _).alloc (by simp) _⟩

set_option maxRecDepth 100000 in
set_option maxHeartbeats 1000000 in
theorem of_11 (w : World) :
    Calls Tryd.prog 36 #[.int .i64 11] w fun e w' => e = .returned (.tuple #[.agg #[.int .i64 0, .int .i64 0, .bool false, .int .i64 99, .int .i64 4, .string ⟨#[]⟩], .bool true]) ∧ Below w.heap.size w w' := by
  go_enter Tryd.func36, Tryd.ntmps36
  go_wp2
  exact bodyPost_ret (v := .tuple #[.agg #[.int .i64 0, .int .i64 0, .bool false, .int .i64 99, .int .i64 4, .string ⟨#[]⟩], .bool true]) (by simp [results, Tryd.results36, go_sem]) rfl ⟨rfl, ((Below.refl _ _).alloc (Nat.le_refl _) _).alloc (by simp) _⟩

set_option maxRecDepth 100000 in
set_option maxHeartbeats 1000000 in
theorem of_12 (w : World) :
    Calls Tryd.prog 36 #[.int .i64 12] w fun e w' => e = .returned (.tuple #[.agg #[.int .i64 1, .int .i64 1, .bool false, .int .i64 0, .int .i64 4, .string ⟨#[]⟩], .bool true]) ∧ Below w.heap.size w w' := by
  go_enter Tryd.func36, Tryd.ntmps36
  go_wp2
  exact bodyPost_ret (v := .tuple #[.agg #[.int .i64 1, .int .i64 1, .bool false, .int .i64 0, .int .i64 4, .string ⟨#[]⟩], .bool true]) (by simp [results, Tryd.results36, go_sem]) rfl ⟨rfl, ((Below.refl _ _).alloc (Nat.le_refl _) _).alloc (by simp) _⟩

set_option maxRecDepth 100000 in
set_option maxHeartbeats 1000000 in
theorem of_13 (w : World) :
    Calls Tryd.prog 36 #[.int .i64 13] w fun e w' => e = .returned (.tuple #[.agg #[.int .i64 2, .int .i64 2, .bool false, .int .i64 0, .int .i64 2, .string ⟨#[32, 43, 32]⟩], .bool true]) ∧ Below w.heap.size w w' := by
  have hbs : ∀ w, (Instr.buildSlice 63 4 #[(0, .string ⟨#[32, 43, 32]⟩), (1, .string ⟨#[32, 45, 32]⟩), (2, .string ⟨#[32, 42, 32]⟩), (3, .string ⟨#[32, 47, 32]⟩)]).run Tryd.prog w = .ok (.slice (some ⟨w.heap.size, 0, none⟩) 4 4) (w.alloc (.cells #[.string ⟨#[32, 43, 32]⟩, .string ⟨#[32, 45, 32]⟩, .string ⟨#[32, 42, 32]⟩, .string ⟨#[32, 47, 32]⟩] 9)) := fun _ => by kernel_rfl
  go_enter Tryd.func36, Tryd.ntmps36
  go_wp2
  go_region
  go_wp2
  exact bodyPost_ret (v := .tuple #[.agg #[.int .i64 2, .int .i64 2, .bool false, .int .i64 0, .int .i64 2, .string ⟨#[32, 43, 32]⟩], .bool true]) (by simp [results, Tryd.results36, go_sem]) rfl ⟨rfl, ((((Below.refl _ _).alloc (Nat.le_refl _) _).alloc (by simp) _).alloc (by simp; omega) _).drew⟩

set_option maxRecDepth 100000 in
set_option maxHeartbeats 1000000 in
theorem of_14 (w : World) :
    Calls Tryd.prog 36 #[.int .i64 14] w fun e w' => e = .returned (.tuple #[.agg #[.int .i64 2, .int .i64 2, .bool false, .int .i64 0, .int .i64 2, .string ⟨#[32, 45, 32]⟩], .bool true]) ∧ Below w.heap.size w w' := by
  have hbs : ∀ w, (Instr.buildSlice 63 4 #[(0, .string ⟨#[32, 43, 32]⟩), (1, .string ⟨#[32, 45, 32]⟩), (2, .string ⟨#[32, 42, 32]⟩), (3, .string ⟨#[32, 47, 32]⟩)]).run Tryd.prog w = .ok (.slice (some ⟨w.heap.size, 0, none⟩) 4 4) (w.alloc (.cells #[.string ⟨#[32, 43, 32]⟩, .string ⟨#[32, 45, 32]⟩, .string ⟨#[32, 42, 32]⟩, .string ⟨#[32, 47, 32]⟩] 9)) := fun _ => by kernel_rfl
  go_enter Tryd.func36, Tryd.ntmps36
  go_wp2
  go_region
  go_wp2
  exact bodyPost_ret (v := .tuple #[.agg #[.int .i64 2, .int .i64 2, .bool false, .int .i64 0, .int .i64 2, .string ⟨#[32, 45, 32]⟩], .bool true]) (by simp [results, Tryd.results36, go_sem]) rfl ⟨rfl, ((((Below.refl _ _).alloc (Nat.le_refl _) _).alloc (by simp) _).alloc (by simp; omega) _).drew⟩

set_option maxRecDepth 100000 in
set_option maxHeartbeats 1000000 in
theorem of_15 (w : World) :
    Calls Tryd.prog 36 #[.int .i64 15] w fun e w' => e = .returned (.tuple #[.agg #[.int .i64 2, .int .i64 2, .bool false, .int .i64 0, .int .i64 3, .string ⟨#[32, 42, 32]⟩], .bool true]) ∧ Below w.heap.size w w' := by
  have hbs : ∀ w, (Instr.buildSlice 63 4 #[(0, .string ⟨#[32, 43, 32]⟩), (1, .string ⟨#[32, 45, 32]⟩), (2, .string ⟨#[32, 42, 32]⟩), (3, .string ⟨#[32, 47, 32]⟩)]).run Tryd.prog w = .ok (.slice (some ⟨w.heap.size, 0, none⟩) 4 4) (w.alloc (.cells #[.string ⟨#[32, 43, 32]⟩, .string ⟨#[32, 45, 32]⟩, .string ⟨#[32, 42, 32]⟩, .string ⟨#[32, 47, 32]⟩] 9)) := fun _ => by kernel_rfl
  go_enter Tryd.func36, Tryd.ntmps36
  go_wp2
  go_region
  go_wp2
  exact bodyPost_ret (v := .tuple #[.agg #[.int .i64 2, .int .i64 2, .bool false, .int .i64 0, .int .i64 3, .string ⟨#[32, 42, 32]⟩], .bool true]) (by simp [results, Tryd.results36, go_sem]) rfl ⟨rfl, ((((Below.refl _ _).alloc (Nat.le_refl _) _).alloc (by simp) _).alloc (by simp; omega) _).drew⟩

set_option maxRecDepth 100000 in
set_option maxHeartbeats 1000000 in
theorem of_16 (w : World) :
    Calls Tryd.prog 36 #[.int .i64 16] w fun e w' => e = .returned (.tuple #[.agg #[.int .i64 2, .int .i64 2, .bool false, .int .i64 0, .int .i64 3, .string ⟨#[32, 47, 32]⟩], .bool true]) ∧ Below w.heap.size w w' := by
  have hbs : ∀ w, (Instr.buildSlice 63 4 #[(0, .string ⟨#[32, 43, 32]⟩), (1, .string ⟨#[32, 45, 32]⟩), (2, .string ⟨#[32, 42, 32]⟩), (3, .string ⟨#[32, 47, 32]⟩)]).run Tryd.prog w = .ok (.slice (some ⟨w.heap.size, 0, none⟩) 4 4) (w.alloc (.cells #[.string ⟨#[32, 43, 32]⟩, .string ⟨#[32, 45, 32]⟩, .string ⟨#[32, 42, 32]⟩, .string ⟨#[32, 47, 32]⟩] 9)) := fun _ => by kernel_rfl
  go_enter Tryd.func36, Tryd.ntmps36
  go_wp2
  go_region
  go_wp2
  exact bodyPost_ret (v := .tuple #[.agg #[.int .i64 2, .int .i64 2, .bool false, .int .i64 0, .int .i64 3, .string ⟨#[32, 47, 32]⟩], .bool true]) (by simp [results, Tryd.results36, go_sem]) rfl ⟨rfl, ((((Below.refl _ _).alloc (Nat.le_refl _) _).alloc (by simp) _).alloc (by simp; omega) _).drew⟩

set_option maxRecDepth 100000 in
set_option maxHeartbeats 1000000 in
theorem of_17 (w : World) :
    Calls Tryd.prog 36 #[.int .i64 17] w fun e w' => e = .returned (.tuple #[.agg #[.int .i64 2, .int .i64 2, .bool false, .int .i64 0, .int .i64 1, .string ⟨#[32, 60, 32]⟩], .bool true]) ∧ Below w.heap.size w w' := by
  have hbs : ∀ w, (Instr.buildSlice 63 2 #[(0, .string ⟨#[32, 60, 32]⟩), (1, .string ⟨#[32, 61, 61, 32]⟩)]).run Tryd.prog w = .ok (.slice (some ⟨w.heap.size, 0, none⟩) 2 2) (w.alloc (.cells #[.string ⟨#[32, 60, 32]⟩, .string ⟨#[32, 61, 61, 32]⟩] 9)) := fun _ => by kernel_rfl
  go_enter Tryd.func36, Tryd.ntmps36
  go_wp2
  go_region
  go_wp2
  exact bodyPost_ret (v := .tuple #[.agg #[.int .i64 2, .int .i64 2, .bool false, .int .i64 0, .int .i64 1, .string ⟨#[32, 60, 32]⟩], .bool true]) (by simp [results, Tryd.results36, go_sem]) rfl ⟨rfl, ((((Below.refl _ _).alloc (Nat.le_refl _) _).alloc (by simp) _).alloc (by simp; omega) _).drew⟩

set_option maxRecDepth 100000 in
set_option maxHeartbeats 1000000 in
theorem of_18 (w : World) :
    Calls Tryd.prog 36 #[.int .i64 18] w fun e w' => e = .returned (.tuple #[.agg #[.int .i64 2, .int .i64 2, .bool false, .int .i64 0, .int .i64 1, .string ⟨#[32, 61, 61, 32]⟩], .bool true]) ∧ Below w.heap.size w w' := by
  have hbs : ∀ w, (Instr.buildSlice 63 2 #[(0, .string ⟨#[32, 60, 32]⟩), (1, .string ⟨#[32, 61, 61, 32]⟩)]).run Tryd.prog w = .ok (.slice (some ⟨w.heap.size, 0, none⟩) 2 2) (w.alloc (.cells #[.string ⟨#[32, 60, 32]⟩, .string ⟨#[32, 61, 61, 32]⟩] 9)) := fun _ => by kernel_rfl
  go_enter Tryd.func36, Tryd.ntmps36
  go_wp2
  go_region
  go_wp2
  exact bodyPost_ret (v := .tuple #[.agg #[.int .i64 2, .int .i64 2, .bool false, .int .i64 0, .int .i64 1, .string ⟨#[32, 61, 61, 32]⟩], .bool true]) (by simp [results, Tryd.results36, go_sem]) rfl ⟨rfl, ((((Below.refl _ _).alloc (Nat.le_refl _) _).alloc (by simp) _).alloc (by simp; omega) _).drew⟩


set_option maxRecDepth 100000 in
set_option maxHeartbeats 1000000 in
theorem of_other (k : Int) (w : World) (h : k < 1 ∨ 18 < k) :
    Calls Tryd.prog 36 #[.int .i64 k] w fun e w' => e = .returned (.tuple #[.agg #[.int .i64 0, .int .i64 0, .bool false, .int .i64 0, .int .i64 4, .string ⟨#[]⟩], .bool false]) ∧ Below w.heap.size w w' := by
  have h1 : (k == 1) = false := by simp; omega
  have h2 : (k == 2) = false := by simp; omega
  have h3 : (k == 3) = false := by simp; omega
  have h4 : (k == 4) = false := by simp; omega
  have h5 : (k == 5) = false := by simp; omega
  have h6 : (k == 6) = false := by simp; omega
  have h7 : (k == 7) = false := by simp; omega
  have h8 : (k == 8) = false := by simp; omega
  have h9 : (k == 9) = false := by simp; omega
  have h10 : (k == 10) = false := by simp; omega
  have h11 : (k == 11) = false := by simp; omega
  have h12 : (k == 12) = false := by simp; omega
  have h13 : (k == 13) = false := by simp; omega
  have h14 : (k == 14) = false := by simp; omega
  have h15 : (k == 15) = false := by simp; omega
  have h16 : (k == 16) = false := by simp; omega
  have h17 : (k == 17) = false := by simp; omega
  have h18 : (k == 18) = false := by simp; omega
  clear h
  go_enter Tryd.func36, Tryd.ntmps36
  go_wp2
  exact bodyPost_ret (v := .tuple #[.agg #[.int .i64 0, .int .i64 0, .bool false, .int .i64 0, .int .i64 4, .string ⟨#[]⟩], .bool false]) (by simp [results, Tryd.results36, go_sem]) rfl ⟨rfl, ((Below.refl _ _).alloc (Nat.le_refl _) _).alloc (by simp) _⟩

theorem of_any (k : Int) (w : World) :
    Calls Tryd.prog 36 #[.int .i64 k] w fun e w' => e = .returned (.tuple #[.agg (shapeOf k).cells, .bool (isKind k)]) ∧ Below w.heap.size w w' := by
  by_cases h : 1 ≤ k ∧ k ≤ 18
  · have hk : k = 1 ∨ k = 2 ∨ k = 3 ∨ k = 4 ∨ k = 5 ∨ k = 6 ∨ k = 7 ∨ k = 8 ∨ k = 9 ∨ k = 10 ∨ k = 11 ∨ k = 12 ∨ k = 13 ∨ k = 14 ∨ k = 15 ∨ k = 16 ∨ k = 17 ∨ k = 18 := by omega
    rcases hk with rfl | rfl | rfl | rfl | rfl | rfl | rfl | rfl | rfl | rfl | rfl | rfl | rfl | rfl | rfl | rfl | rfl | rfl
    · exact of_1 w
    · exact of_2 w
    · exact of_3 w
    · exact of_4 w
    · exact of_5 w
    · exact of_6 w
    · exact of_7 w
    · exact of_8 w
    · exact of_9 w
    · exact of_10 w
    · exact of_11 w
    · exact of_12 w
    · exact of_13 w
    · exact of_14 w
    · exact of_15 w
    · exact of_16 w
    · exact of_17 w
    · exact of_18 w
  · have h1 : shapeOf k = ⟨0, 0, false, 0, 4, []⟩ := by
      unfold shapeOf
      repeat rw [if_neg (by omega)]
    have h2 : isKind k = false := by unfold isKind; simp; omega
    rw [h1, h2]
    exact of_other k w (by omega)

end Go.Proofs.YtapdgeajbnbdjaaDoor
