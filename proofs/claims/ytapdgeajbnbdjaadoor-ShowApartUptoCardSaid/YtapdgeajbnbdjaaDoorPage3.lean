/- The text of an expression; show.page.list. -/
import Derived.Test.YtapdgeajbnbdjaaDoorPage2
import Derived.Lib.ItoaNum
namespace Go.Proofs.YtapdgeajbnbdjaaDoor
open Go.RowKit

/-- a part where a level is asked for -/
def atP (want : Int) (p : Int × List UInt8) : List UInt8 := if p.1 < want then 40 :: (p.2 ++ [41]) else p.2
def commas : List (List UInt8) → List UInt8
  | [] => []
  | [a] => a
  | a :: b :: l => a ++ (44 :: 32 :: commas (b :: l))
/-- an expression's text, of its kids' -/
def joinT (k n : Int) (s : List UInt8) (l : List (Int × List UInt8)) : List UInt8 :=
  if k = 1 then Lib.itoa n
  else if k = 2 then [110, 117, 108, 108]
  else if k = 3 then [116, 104, 105, 115]
  else if k = 4 then s
  else if k = 5 then [110, 101, 119, 32] ++ s ++ [40, 41]
  else if k = 6 then [110, 101, 119, 32, 105, 110, 116, 91] ++ commas (l.map (atP 1)) ++ [93]
  else if k = 7 then atP 4 (l.headD (4, [])) ++ [46] ++ s
  else if k = 8 then atP 4 (l.headD (4, [])) ++ [91] ++ commas (l.tail.map (atP 1)) ++ [93]
  else if k = 9 then atP 4 (l.headD (4, [])) ++ [46, 108, 101, 110, 103, 116, 104]
  else if k = 10 then atP 4 (l.headD (4, [])) ++ [46] ++ s ++ [40] ++ commas (l.tail.map (atP 1)) ++ [41]
  else if k = 11 then [114, 101, 97, 100, 40] ++ Lib.itoa n ++ [41]
  else if k = 12 then [100, 101, 99, 108, 97, 115, 115, 105, 102, 121, 40] ++ commas (l.map (atP 1)) ++ [41]
  else atP (max (shapeOf k).level 2) (l.headD (4, [])) ++ (shapeOf k).sign ++ atP ((shapeOf k).level + 1) (l.tail.headD (4, []))
mutual
def exT : Ex → List UInt8
  | .mk k n s ks => joinT k n s.data.toList (kidsT ks)
def kidsT : List Ex → List (Int × List UInt8)
  | [] => []
  | e :: es => ((shapeOf e.kind).level, exT e) :: kidsT es
end
theorem kidsT_map : ∀ l : List Ex, kidsT l = l.map (fun e => ((shapeOf e.kind).level, exT e))
  | [] => rfl
  | e :: es => by simp [kidsT, kidsT_map es]
def atT (want : Int) (e : Ex) : List UInt8 := atP want ((shapeOf e.kind).level, exT e)
def listT (es : List Ex) : List UInt8 := commas (es.map (atT 1))

theorem commas_snoc (l : List (List UInt8)) (a : List UInt8) (h : l ≠ []) : commas (l ++ [a]) = commas l ++ (44 :: 32 :: a) := by
  induction l with
  | nil => exact absurd rfl h
  | cons b l ih =>
    cases l with
    | nil => simp [commas]
    | cons c l => simp only [List.cons_append, commas]; rw [← List.cons_append, ih (by simp)]; simp
theorem commas_take_le (l : List (List UInt8)) (k : Nat) (a : List UInt8) (h : l[k]? = some a) : (commas (l.take k)).length + (if k = 0 then 0 else 2) + a.length ≤ (commas l).length := by
  induction l generalizing k with
  | nil => simp at h
  | cons b l ih =>
    cases k with
    | zero =>
      simp at h; subst h
      cases l <;> simp [commas]
    | succ k =>
      simp at h
      have := ih k h
      cases l with
      | nil => simp at h
      | cons c l =>
        cases k with
        | zero =>
          simp at this h ⊢
          subst h
          simp [commas]
          cases l <;> simp [commas] at this ⊢ <;> omega
        | succ k =>
          simp [commas] at this ⊢
          omega

theorem Kept.cell {B b : Nat} {W w1 : World} (h : Kept B b W w1) {bx : Nat} {c : Array Value} {T : TypeId} {fz : Nat × Nat} (hx : W.heap[bx]? = some (.cells c T fz)) (hT : T ≠ 5) (hne : bx ≠ b) (o : Nat) :
    w1.cell? ⟨bx, o, none⟩ = c[o]? := by
  have := h.2 bx _ hx (by intro e; injection e with e; exact hne e) (by intro c fz e; injection e with _ e2; exact hT e2)
  rw [Lib.cell_of_heap this]
theorem Kept.heap {B b : Nat} {W w1 : World} (h : Kept B b W w1) {bx : Nat} {c : Array Value} {T : TypeId} {fz : Nat × Nat} (hx : W.heap[bx]? = some (.cells c T fz)) (hT : T ≠ 5) (hne : bx ≠ b) :
    w1.heap[bx]? = some (.cells c T fz) := 
  h.2 bx _ hx (by intro e; injection e with e; exact hne e) (by intro c fz e; injection e with _ e2; exact hT e2)
theorem new_at (w : World) (o : Obj) : (w.alloc o).heap[w.heap.size]? = some o := heap_alloc_new w o
theorem old_at {w : World} {k : Nat} {x : Obj} (h : w.heap[k]? = some x) (o : Obj) : (w.alloc o).heap[k]? = some x := by
  have hlt : k < w.heap.size := by
    rcases Nat.lt_or_ge k w.heap.size with h' | h'
    · exact h'
    · rw [Array.getElem?_eq_none h'] at h; cases h
  exact (Below.heap_alloc w o k hlt).trans h

theorem buildOne (x : ByteArray) (w : World) : (Instr.buildSlice 63 1 #[(0, .string x)]).run Tryd.prog w = .ok (.slice (some ⟨w.heap.size, 0, none⟩) 1 1) (w.alloc (.cells #[.string x] 9)) := by kernel_rfl

/-- what page.expr does for one expression -/
def Writes (B b : Nat) (t : Int) (w0 : World) (e : Ex) (want : Int) : Prop :=
  ∀ (c : Array Value) (W : World) (l : List UInt8), Ex.R w0 e c → Below B w0 W → PageAt B b l t W → l.length + (atT want e).length ≤ 140737488355328 →
    Calls Tryd.prog 16 #[.pointer (some ⟨b, 0, none⟩), .agg c, .int .i64 want] W fun x w' => x = .returned (.tuple #[]) ∧ PageAt B b (l ++ atT want e) t w' ∧ Kept B b W w'

set_option maxRecDepth 100000 in
set_option maxHeartbeats 2000000 in
theorem list_step (B b : Nat) (l : List UInt8) (t : Int) (es : List Ex) (v : Value) (en : ByteArray) (w0 w : World) (hB : w0.heap.size ≤ B) (hw : Below B w0 w) (hv : Exs.V w0 es v) (hp : PageAt B b l t w)
    (ih : ∀ e, e ∈ es → Writes B b t w0 e 1) (hlen : l.length + (listT es).length + en.size ≤ 140737488355328) :
    Calls Tryd.prog 40 #[.pointer (some ⟨b, 0, none⟩), v, .string en] w fun x w' => x = .returned (.tuple #[]) ∧ PageAt B b (l ++ listT es ++ en.data.toList) t w' ∧ Kept B b w w' := by
  obtain ⟨xs, ⟨A, cap, rfl, hc1, hc2, _, hrows⟩, hR⟩ := hv
  have hR' := (Exs.R.all2 es xs).1 hR
  have hlx := hR'.len
  obtain ⟨n, hn⟩ : ∃ n, n = xs.length := ⟨_, rfl⟩
  rw [← hn] at hc1 ⊢
  unfold maxLen at hc2
  have hbs := buildOne
  have HX := Lib.hid hR'; have HN := Lib.hid (And.intro hn hlx); have HP := Lib.hid hp; have HI := Lib.hid ih; have HL := Lib.hid hlen; have HR := Lib.hid hrows; have HW := Lib.hid hw; have HB := Lib.hid hB
  clear hR hR' hlx hn hp ih hlen hrows hw hB
  go_enter Tryd.func40, Tryd.ntmps40
  go_wp2_with fail
  go_loopw [6, 7, 10] (fun _ _ i wr => ∃ k : Nat, k ≤ n ∧ i = .int .i64 k ∧ PageAt B b (l ++ commas ((es.take k).map (atT 1))) t wr ∧ Kept B b w wr) (fun _ _ i _ => n - (intOf i).toNat)
  case atStart => exact ⟨0, Nat.zero_le _, rfl, by simpa [commas] using HP.out, Kept.refl _ _ _⟩
  case round =>
    obtain ⟨k, hk, rfl, hpk, hkept⟩ := hrel
    have HP2 := Lib.hid hpk; have HK := Lib.hid hkept
    clear hpk hkept
    have hbl := HP2.out.lt
    have hBs := HP2.out.le
    by_cases hlt : k < n
    · have hn1 := HN.out.1
      have hn2 := HN.out.2
      obtain ⟨x, hx⟩ : ∃ x, xs[k]? = some x := ⟨xs[k]'(by omega), List.getElem?_eq_getElem _⟩
      obtain ⟨e, hee, hRe⟩ := HX.out.at_ k x hx
      have hwr : Below B w0 wr := HW.out.trans HK.out.1
      obtain ⟨bk, off, c0, c1, c2, c3, rfl, _, hxx, hq0, hq1, hq2, hq3⟩ := (HR.out.below hwr HB.out).at4 hx
      have HRe := Lib.hid hRe
      obtain ⟨A9, n9, cap9, hcs⟩ := hRe.cells
      rw [hxx] at hcs
      obtain ⟨rfl, rfl, rfl, rfl⟩ := arr4_inj hcs
      subst hxx
      have hih := HI.out e (List.mem_of_getElem? hee)
      have hsp := commas_take_le (es.map (atT 1)) k (atT 1 e) (by rw [List.getElem?_map, hee]; rfl)
      rw [← List.map_take] at hsp
      have htk : (es.take (k + 1)).map (atT 1) = (es.take k).map (atT 1) ++ [atT 1 e] := by rw [List.take_add_one, hee]; simp
      have HS := Lib.hid hsp; have HT := Lib.hid htk; have HIH := Lib.hid hih; have HWR := Lib.hid hwr
      clear hcs hx hee hRe hih hsp htk hn1 hn2 hwr
      have hk1' : (es.take k).length = k ∧ (k = 0 → commas ((es.take k).map (atT 1)) = []) := by
        refine ⟨by rw [List.length_take]; have := HN.out; omega, fun h => by subst h; rfl⟩
      have HK1 := Lib.hid hk1'; clear hk1'
      by_cases h0 : 0 < k
      · go_wp2_with (first
          | (go_at_call 23; refine (lay_any B b (wr.heap.size + 1) _ t [⟨#[44, 32]⟩] _ ((HP2.out.alloc _).alloc _) (by simpa using new_at (wr.alloc _) _) (by omega) (by simp) (by have h1 := HS.out; have h2 := HL.out; rw [if_neg (by omega)] at h1; unfold listT at h2; rw [List.length_append, show (cat [⟨#[44, 32]⟩]).length = 2 from rfl]; omega)).mono ?_; rintro e1 w1 ⟨rfl, hp1, hk1⟩
             have hb0 : w1.cell? ⟨wr.heap.size, 0, none⟩ = some (.int .i64 e.kind) := hk1.cell (old_at (new_at wr _) _) (by decide) (by omega) 0
             have hb1 : w1.cell? ⟨wr.heap.size, 1, none⟩ = some (.int .i64 e.num) := hk1.cell (old_at (new_at wr _) _) (by decide) (by omega) 1
             have hb2 : w1.cell? ⟨wr.heap.size, 2, none⟩ = some (.string e.name) := hk1.cell (old_at (new_at wr _) _) (by decide) (by omega) 2
             have hb3 : w1.cell? ⟨wr.heap.size, 3, none⟩ = some (.slice A9 n9 cap9) := hk1.cell (old_at (new_at wr _) _) (by decide) (by omega) 3
             have hkk := HK.out.trans (((Kept.refl B b wr).alloc hBs _).alloc (by simp; omega) _ |>.trans hk1)
             have HP1 := Lib.hid hp1; have HKK := Lib.hid hkk
             clear hp1 hk1 hkk)
          | (go_at_call 16; refine (HIH.out _ _ _ HRe.out (HW.out.trans HKK.out.1) HP1.out (by have h1 := HS.out; have h2 := HL.out; rw [if_neg (by omega)] at h1; unfold listT at h2; rw [List.length_append, List.length_append, show (cat [⟨#[44, 32]⟩]).length = 2 from rfl]; omega)).mono ?_; rintro e2 w2 ⟨rfl, hp2, hk2⟩; have HP3 := Lib.hid hp2; have HK3 := Lib.hid hk2; clear hp2 hk2))
        go_roundw
        case rel => exact ⟨k + 1, by omega, by go_num, by
          have h := HP3.out
          rw [HT.out, commas_snoc _ _ (by have := HK1.out.1; intro hc; rw [List.map_eq_nil_iff] at hc; rw [hc] at this; simp at this; omega)]
          simpa [cat, List.append_assoc] using h, HKK.out.trans HK3.out⟩
        case measure => simp [intOf]; omega
      · go_wp2_with (first
          | (go_at_call 16; refine (HIH.out _ _ _ HRe.out (HWR.out.alloc (by have := HB.out; omega) _) (HP2.out.alloc _) (by have h1 := HS.out; have h2 := HL.out; unfold listT at h2; simp at h1 h2 ⊢; omega)).mono ?_; rintro e2 w2 ⟨rfl, hp2, hk2⟩; have HP3 := Lib.hid hp2; have HK3 := Lib.hid hk2; clear hp2 hk2))
        go_roundw
        case rel => exact ⟨k + 1, by omega, by go_num, by
          have h := HP3.out
          have hz := HK1.out.2 (by omega)
          rw [hz] at h
          have hz2 : (es.take k).map (atT 1) = [] := by rw [show k = 0 from by omega]; rfl
          rw [HT.out, hz2]
          simpa [commas] using h, HK.out.trans (((Kept.refl B b wr).alloc hBs _).trans HK3.out)⟩
        case measure => simp [intOf]; omega
    · go_wp2_with (first
        | (go_at_call 23; refine (lay_any B b wr.heap.size _ t [en] _ (HP2.out.alloc _) (by simpa using new_at wr _) (by omega) (by simp) (by
            have h2 := HL.out
            rw [show es.take k = es from List.take_of_length_le (by have := HN.out; omega)]
            unfold listT at h2
            simp [cat] at h2 ⊢
            omega)).mono ?_; rintro e1 w1 ⟨rfl, hp1, hk1⟩; have HP1 := Lib.hid hp1; have HK1 := Lib.hid hk1; clear hp1 hk1))
      go_end0
      refine ⟨rfl, ?_, HK.out.trans (((Kept.refl B b wr).alloc hBs _).trans HK1.out)⟩
      have h := HP1.out
      rw [show es.take k = es from List.take_of_length_le (by have := HN.out; omega)] at h
      simpa [cat, listT] using h
end Go.Proofs.YtapdgeajbnbdjaaDoor
