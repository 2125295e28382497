/- show.page: the builder within a page: copyCheck, WriteString, Len, String. -/
import Derived.Test.YtapdgeajbnbdjaaDoorShow2
import Derived.Lib.Builder
import Derived.Lib.AppendStr
import Derived.Lib.OthersKept
import Derived.Lib.FrozenHead
import Derived.Shelf.Strings.Builder1
namespace Go.Proofs.YtapdgeajbnbdjaaDoor
open Go.RowKit

/-- a page in block b: it holds the text l, and how many tabs -/
def PageIs (B b : Nat) (l : List UInt8) (t : Int) (p : Value) (w : World) : Prop :=
  B ≤ b ∧ ∃ v, w.heap[b]? = some (.cells #[p, v, .int .i64 t] 47 (0, 0)) ∧ w.ownsRow B 5 1 v (Lib.byteCells l).length (Lib.byteCells l) ∧ v.ownBlock ≠ some b
def PageAt (B b : Nat) (l : List UInt8) (t : Int) (w : World) : Prop :=
  PageIs B b l t (.pointer none) w ∨ PageIs B b l t (.pointer (some ⟨b, 0, none⟩)) w
/-- what a step of writing leaves of the rest -/
def Kept (B b : Nat) (w w' : World) : Prop := Below B w w' ∧ Lib.OthersKept 5 (some b) w w'

theorem Kept.refl (B b : Nat) (w : World) : Kept B b w w := ⟨Below.refl _ _, Lib.OthersKept.refl _ _ _⟩
theorem Kept.trans {B b : Nat} {x y z : World} (h : Kept B b x y) (k : Kept B b y z) : Kept B b x z := ⟨h.1.trans k.1, h.2.trans k.2⟩
theorem Kept.alloc {B b : Nat} {x y : World} (h : Kept B b x y) (hB : B ≤ y.heap.size) (o : Obj) : Kept B b x (y.alloc o) := ⟨h.1.alloc hB o, h.2.alloc o⟩
theorem Kept.drew {B b : Nat} {x y : World} (h : Kept B b x y) : Kept B b x y.drew := ⟨h.1.drew, h.2.drew⟩
/-- what keeps all that was there keeps the rest -/
theorem others_of_below {w w' : World} (h : Below w.heap.size w w') (e : TypeId) (b : Option Nat) : Lib.OthersKept e b w w' := by
  intro k x hk _ _
  have hlt : k < w.heap.size := by
    rcases Nat.lt_or_ge k w.heap.size with h' | h'
    · exact h'
    · rw [Array.getElem?_eq_none h'] at hk; cases hk
  rw [h.block k hlt]; exact hk
theorem Kept.of_below {B b : Nat} {w w' : World} (h : Below w.heap.size w w') (hB : B ≤ w.heap.size) : Kept B b w w' := ⟨h.mono hB, others_of_below h _ _⟩

theorem PageIs.lt {B b l t p w} (h : PageIs B b l t p w) : b < w.heap.size := by
  obtain ⟨_, v, hb, _⟩ := h
  rcases Nat.lt_or_ge b w.heap.size with h' | h'
  · exact h'
  · rw [Array.getElem?_eq_none h'] at hb; cases hb
theorem PageAt.lt {B b l t w} (h : PageAt B b l t w) : b < w.heap.size := h.elim PageIs.lt PageIs.lt
theorem PageAt.le {B b l t w} (h : PageAt B b l t w) : B ≤ w.heap.size := by
  have := h.lt
  rcases h with h | h <;> have := h.1 <;> omega
theorem PageIs.alloc {B b l t p} {w : World} (h : PageIs B b l t p w) (o : Obj) : PageIs B b l t p (w.alloc o) := by
  have hlt := h.lt
  obtain ⟨hB, v, hb, hown, hne⟩ := h
  exact ⟨hB, v, (Below.heap_alloc w o b hlt).trans hb, hown.alloc o, hne⟩
theorem PageAt.alloc {B b l t} {w : World} (h : PageAt B b l t w) (o : Obj) : PageAt B b l t (w.alloc o) := h.elim (fun h => .inl (h.alloc o)) (fun h => .inr (h.alloc o))
theorem PageIs.drew {B b l t p} {w : World} (h : PageIs B b l t p w) : PageIs B b l t p w.drew := by
  obtain ⟨hB, v, hb, hown, hne⟩ := h
  exact ⟨hB, v, hb, hown.drew, hne⟩
theorem PageAt.drew {B b l t} {w : World} (h : PageAt B b l t w) : PageAt B b l t w.drew := h.elim (fun h => .inl h.drew) (fun h => .inr h.drew)
/-- what keeps all that was there keeps a page -/
theorem PageIs.below {B b l t p} {w w' : World} (h : PageIs B b l t p w) (hb : Below w.heap.size w w') : PageIs B b l t p w' := by
  have hlt := h.lt
  obtain ⟨hB, v, hc, hown, hne⟩ := h
  refine ⟨hB, v, (hb.block b hlt).trans hc, ?_, hne⟩
  obtain ⟨h1, h2⟩ := hown
  refine ⟨h1, ?_⟩
  rcases h2 with h2 | ⟨g, cap, cur, hv, hg, hh, r⟩
  · exact .inl h2
  · refine .inr ⟨g, cap, cur, hv, hg, ?_, r⟩
    have hgl : g < w.heap.size := by
      rcases Nat.lt_or_ge g w.heap.size with h' | h'
      · exact h'
      · rw [Array.getElem?_eq_none h'] at hh; cases hh
    exact (hb.block g hgl).trans hh
theorem PageAt.below {B b l t} {w w' : World} (h : PageAt B b l t w) (hb : Below w.heap.size w w') : PageAt B b l t w' := h.elim (fun h => .inl (h.below hb)) (fun h => .inr (h.below hb))

set_option maxHeartbeats 1000000 in
set_option maxRecDepth 100000 in
theorem copyCheck_any (B b : Nat) (l : List UInt8) (t : Int) (w : World) (h : PageAt B b l t w) :
    Calls Tryd.prog 74 #[.pointer (some ⟨b, 0, none⟩)] w fun e w' => e = .returned (.tuple #[]) ∧ PageIs B b l t (.pointer (some ⟨b, 0, none⟩)) w' ∧ Kept B b w w' := by
  rcases h with h | h
  · have hlt := h.lt
    have h' := h
    obtain ⟨hB, v, hb, hown, hne⟩ := h'
    have c0 : w.cell? ⟨b, 0, none⟩ = some (.pointer none) := by rw [Lib.cell_of_heap hb]; rfl
    have hf : w.frozen? ⟨b, 0, none⟩ = false := Lib.frozen_of_heap hb 0
    have hsh : w.shape? b = some (47, 3) := by simp [World.shape?, hb]
    have hX : (Tryd.prog.info? 45).map (·.size) = some 2 := by kernel_rfl
    have hL : liesAt Tryd.prog Tryd.prog.depth 47 (3 / Tryd.prog.cellsOf 47) 0 45 1 = true := by kernel_rfl
    obtain ⟨j, hj, hjs⟩ := Option.map_eq_some_iff.1 hX
    have hto : (convert 42 114 (.pointer (some ⟨b, 0, none⟩))).run Tryd.prog w = .ok (.pointer (some ⟨b, 0, none⟩)) w :=
      Lib.run_to_unsafe w ⟨b, 0, none⟩ Tryd.underlying42 Tryd.underlying114 hj (by rw [hjs]; decide) hsh (by show (0 : Nat) < 3; omega)
    have hfrom : (convert 114 42 (.pointer (some ⟨b, 0, none⟩))).run Tryd.prog w = .ok (.pointer (some ⟨b, 0, none⟩)) w :=
      Lib.run_from_unsafe w ⟨b, 0, none⟩ Tryd.underlying114 Tryd.underlying42 hj hsh hL
    have hno : ∀ x, (callFunc 89 #[x]).run Tryd.prog w = .ok (.value x) w := fun x => by
      rw [run_callFunc_extern Tryd.func89 (by kernel_rfl) (by kernel_rfl) (by kernel_rfl) (e := Extern.AbiNoEscape.same) (by kernel_rfl)]
      rw [Lib.run_noEscape]
      rfl
    have H := Lib.hid h
    clear hb hown hne hX hL h hj hjs hsh
    go_enter Tryd.func74, Tryd.ntmps74
    go_wp2_with fail
    go_end0
    obtain ⟨hB', v', hb', hown', hne'⟩ := H.out
    refine ⟨rfl, ⟨hB', v', ?_, ?_, hne'⟩, (Below.refl _ _).setCell (p := ⟨b, 0, none⟩) hB' _, (Lib.OthersKept.refl _ _ w).setCell ⟨b, 0, none⟩ rfl _⟩
    · simp [World.setCell, Array.getElem?_modify, hb']
    · exact ownsRow_setCell_other hown' hne' _
  · have H := Lib.hid h
    obtain ⟨hB, v, hb, hown, hne⟩ := h
    have c0 : w.cell? ⟨b, 0, none⟩ = some (.pointer (some ⟨b, 0, none⟩)) := by rw [Lib.cell_of_heap hb]; rfl
    have hX : (Tryd.prog.info? 45).map (·.size) = some 2 := by kernel_rfl
    obtain ⟨j, hj, _⟩ := Option.map_eq_some_iff.1 hX
    have hnq := Lib.run_neq_ptr_same w ⟨b, 0, none⟩ Tryd.underlying42 hj
    clear hb hown hne hB hX hj
    go_enter Tryd.func74, Tryd.ntmps74
    go_wp2_with fail
    go_end0
    exact ⟨rfl, H.out, Kept.refl _ _ _⟩

theorem infoByte : (Tryd.prog.info? 5).map (fun i => (i.zero, i.size, i.bytes)) = some (some (.int .u8 0), 1, 1) := by kernel_rfl

theorem byteCells_append (l m : List UInt8) : Lib.byteCells (l ++ m) = Lib.byteCells l ++ Lib.byteCells m := by simp [Lib.byteCells]
theorem strCells_eq (s : ByteArray) : Lib.strCells s = Lib.byteCells s.data.toList := rfl

set_option maxHeartbeats 1000000 in
set_option maxRecDepth 100000 in
theorem writeString_any (B b : Nat) (l : List UInt8) (t : Int) (s : ByteArray) (w : World) (h : PageAt B b l t w) (hlen : l.length + s.size ≤ 140737488355328) :
    Calls Tryd.prog 48 #[.pointer (some ⟨b, 0, none⟩), .string s] w fun e w' => e = .returned (.tuple #[.int .i64 s.size, .nilIface]) ∧ PageAt B b (l ++ s.data.toList) t w' ∧ Kept B b w w' := by
  obtain ⟨i0, hi, hz0, hz1, hz2⟩ := info_parts infoByte
  have hBw := h.le
  have HI := Lib.hid hi; have H0 := Lib.hid hz0; have H1 := Lib.hid hz1; have H2 := Lib.hid hz2; have HH := Lib.hid h
  clear hi hz0 hz1 hz2 h
  have hll : (Lib.byteCells l).length = l.length := Lib.byteCells_length l
  have HLL := Lib.hid hll; clear hll
  go_enter Tryd.func48, Tryd.ntmps48
  go_wp2_with (go_at_call 74; refine (copyCheck_any B b l t w HH.out).mono ?_)
  rintro e w1 ⟨rfl, h1, hb1⟩
  have hlt := h1.lt
  obtain ⟨hB, v, hbk, hown, hne⟩ := h1
  have c0 : w1.cell? ⟨b, 0, none⟩ = some (.pointer (some ⟨b, 0, none⟩)) := by rw [Lib.cell_of_heap hbk]; rfl
  have c1 : w1.cell? ⟨b, 1, none⟩ = some v := by rw [Lib.cell_of_heap hbk]; rfl
  have HBK := Lib.hid hbk; have HOWN := Lib.hid hown; have HNE := Lib.hid hne
  clear hbk hown hne
  go_wp2_with (at_builtin; refine Lib.wpList_append_own_string _ rfl _ _ 43 9 rfl B 5 i0 Tryd.underlying43 Tryd.underlying9 HI.out H0.out H1.out H2.out _ _ _ rfl HOWN.out s rfl ?c3 ?c4 ?c5 ?_)
  case c3 => have := HLL.out; unfold maxLen; omega
  case c4 => have := HLL.out; omega
  case c5 => have := hb1.1.size; omega
  intro v' w2 hown' hgrow _
  have hbk2 : w2.heap[b]? = some (.cells #[.pointer (some ⟨b, 0, none⟩), v, .int .i64 t] 47 (0, 0)) := by
    rw [hgrow.block b hlt (fun e => HNE.out e.symm)]
    exact HBK.out
  have d0 : w2.cell? ⟨b, 0, none⟩ = some (.pointer (some ⟨b, 0, none⟩)) := by rw [Lib.cell_of_heap hbk2]; rfl
  have d1 : w2.cell? ⟨b, 1, none⟩ = some v := by rw [Lib.cell_of_heap hbk2]; rfl
  have f1 : w2.frozen? ⟨b, 1, none⟩ = false := Lib.frozen_of_heap hbk2 1
  have hne' : v'.ownBlock ≠ some b := by
    intro he
    rcases hown'.2 with ⟨rfl, _⟩ | ⟨g, cap, cur, rfl, _, hg, _⟩
    · simp [Value.ownBlock] at he
    · have : g = b := by simpa [Value.ownBlock] using he
      subst this
      rw [hbk2] at hg
      injection hg with hg
      injection hg with _ ht
      exact absurd ht (by decide)
  have hk2 : Kept B b w w2 := by
    refine hb1.trans ⟨(Below.refl B w1).grown hgrow (by have := hb1.1.size; omega) (fun k hk => (HOWN.out.lt k hk).1), (Lib.OthersKept.refl _ _ w1).grown hgrow fun g hg => ?_⟩
    rcases HOWN.out.2 with ⟨rfl, _⟩ | ⟨g', cap, cur, rfl, _, hg', _⟩
    · simp [Value.ownBlock] at hg
    · have : g' = g := by simpa [Value.ownBlock] using hg
      subst this
      exact ⟨_, _, hg'⟩
  obtain ⟨ao, n', cap, hv'⟩ : ∃ ao n' cap, v' = .slice ao n' cap := by
    rcases hown'.2 with ⟨hv, _⟩ | ⟨g, cap, cur, hv, _⟩
    · exact ⟨_, _, _, hv⟩
    · exact ⟨_, _, _, hv⟩
  have HO2 := Lib.hid hown'; have HN2 := Lib.hid hne'; have HB2 := Lib.hid hbk2; have HK2 := Lib.hid hk2
  clear hown' hne' hbk2 hk2 hgrow
  subst hv'
  go_wp2
  go_ret2
  refine ⟨rfl, .inr ⟨hB, _, ?_, ?_, HN2.out⟩, HK2.out.trans ⟨(Below.refl _ _).setCell (p := ⟨b, 1, none⟩) hB _, (Lib.OthersKept.refl _ _ _).setCell ⟨b, 1, none⟩ rfl _⟩⟩
  · have := HB2.out
    simp [World.setCell, Array.getElem?_modify, this]
  · have := HO2.out
    rw [byteCells_append, ← strCells_eq, List.length_append, Lib.strCells_length]
    exact ownsRow_setCell_other this HN2.out _

set_option maxHeartbeats 1000000 in
set_option maxRecDepth 100000 in
theorem len_any (B b : Nat) (l : List UInt8) (t : Int) (w : World) (h : PageAt B b l t w) :
    Calls Tryd.prog 41 #[.pointer (some ⟨b, 0, none⟩)] w fun e w' => e = .returned (.int .i64 l.length) ∧ w = w' := by
  obtain ⟨p, hB, v, hbk, hown, hne⟩ : ∃ p, PageIs B b l t p w := by
    rcases h with h | h
    · exact ⟨_, h⟩
    · exact ⟨_, h⟩
  have c1 : w.cell? ⟨b, 1, none⟩ = some v := by rw [Lib.cell_of_heap hbk]; rfl
  rw [Lib.byteCells_length] at hown
  obtain ⟨ao, cap, rfl⟩ : ∃ ao cap, v = .slice ao l.length cap := by
    rcases hown.2 with ⟨hv, h0⟩ | ⟨g, cap, cur, hv, _⟩
    · rw [h0]; exact ⟨_, _, hv⟩
    · exact ⟨_, _, hv⟩
  clear hown hne hbk hB
  go_enter Tryd.func41, Tryd.ntmps41
  go_wp2
  go_ret
  exact ⟨rfl, rfl⟩

theorem cellsByte : Tryd.prog.cellsOf 5 = 1 := by kernel_rfl

set_option maxHeartbeats 2000000 in
set_option maxRecDepth 100000 in
theorem string_any (B b : Nat) (l : List UInt8) (t : Int) (w : World) (h : PageAt B b l t w) (h0 : l ≠ []) :
    Calls Tryd.prog 42 #[.pointer (some ⟨b, 0, none⟩)] w fun e w' => e = .returned (.string ⟨l.toArray⟩) ∧ Below B w w' := by
  obtain ⟨p, hB, v, hbk, hown, hne⟩ : ∃ p, PageIs B b l t p w := by
    rcases h with h | h
    · exact ⟨_, h⟩
    · exact ⟨_, h⟩
  have hl0 : l.length ≠ 0 := by simpa using h0
  rw [Lib.byteCells_length] at hown
  obtain ⟨g, cap, cur, rfl, hbg, hg, hnc, hcm, hcs, htake⟩ : ∃ g cap cur, v = .slice (some ⟨g, 0, none⟩) l.length cap ∧ B ≤ g ∧ w.heap[g]? = some (.cells cur 5 (0, 0)) ∧ l.length ≤ cap ∧ cap ≤ maxLen ∧ cur.size = cap * 1 ∧ cur.toList.take (l.length * 1) = Lib.byteCells l := by
    rcases hown.2 with ⟨_, hz⟩ | ⟨g, cap, cur, hv, r⟩
    · exact absurd hz hl0
    · exact ⟨g, cap, cur, hv, r⟩
  have c1 : w.drew.cell? ⟨b, 1, none⟩ = some (.slice (some ⟨g, 0, none⟩) l.length cap) := by
    have : w.drew.heap[b]? = some (.cells #[p, .slice (some ⟨g, 0, none⟩) l.length cap, .int .i64 t] 47 (0, 0)) := hbk
    rw [Lib.cell_of_heap this]; rfl
  have hSD : (Builtin.unsafeSliceData_ #[43] 102 #[.slice (some ⟨g, 0, none⟩) l.length cap]).run Tryd.prog w.drew = .ok (.pointer (some ⟨g, 0, none⟩)) w.drew :=
    Lib.run_unsafeSliceData_row _ _ _ _ _ _ (by omega)
  have hUS : (Builtin.unsafeString_ #[102, 3] 9 #[.pointer (some ⟨g, 0, none⟩), .int .i64 l.length]).run Tryd.prog w.drew = .ok (.string ⟨l.toArray⟩) (w.drew.freeze ⟨g, 0, none⟩ l.length) := by
    refine Lib.run_unsafeString_row w.drew 102 3 9 5 Tryd.underlying102 cellsByte g cur.size (by have hg' : w.drew.heap[g]? = some (.cells cur 5 (0, 0)) := hg; simp [World.shape?, hg']) l h0 (by omega) (by unfold maxLen at hcm; omega) ?_
    intro j x hx
    have := hown.cells (g := g) rfl j (.int .u8 x.toNat) (by simp [Lib.byteCells, hx])
    exact this
  clear hown hne hg hcs htake hbk
  go_enter Tryd.func42, Tryd.ntmps42
  go_wp2
  go_region
  all_goals (go_wp2; go_ret; exact ⟨rfl, Lib.below_freeze (Below.drew (Below.refl B w)) (p := ⟨g, 0, none⟩) hbg _⟩)
end Go.Proofs.YtapdgeajbnbdjaaDoor
