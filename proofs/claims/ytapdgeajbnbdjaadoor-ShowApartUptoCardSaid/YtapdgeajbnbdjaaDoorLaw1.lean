/- mordantlaw03: v, n, op, live. -/
import Derived.Test.YtapdgeajbnbdjaaDoorPage8
import Derived.Test.YtapdgeajbnbdjaaDoorRef8
namespace Go.Proofs.YtapdgeajbnbdjaaDoor
open Go.RowKit

theorem results_cell {fn : Func} {t : Tmp} (h : fn.results = #[.cell t 24]) (tmps : Array Value) (w : World) (b : Nat) (c0 c1 c2 c3 : Value)
    (hp : tmps[t]?.getD undef = .pointer (some ⟨b, 0, none⟩)) (h0 : w.cell? ⟨b, 0, none⟩ = some c0) (h1 : w.cell? ⟨b, 1, none⟩ = some c1) (h2 : w.cell? ⟨b, 2, none⟩ = some c2) (h3 : w.cell? ⟨b, 3, none⟩ = some c3) :
    (results fn tmps).run Tryd.prog w = .ok (.agg #[c0, c1, c2, c3]) w := by
  simp [results, h, hp, go_sem, h0, h1, h2, h3]

set_option maxRecDepth 100000 in
theorem v_any (s : ByteArray) (w : World) : Calls Tryd.prog 21 #[.string s] w (Ret w (.agg #[.int .i64 4, .int .i64 0, .string s, .slice none 0 0])) := by
  go_enter Tryd.func21, Tryd.ntmps21
  go_wp2
  refine bodyPost_ret (results_cell rfl _ _ w.heap.size _ _ _ _ rfl (Lib.cell_of_heap (new_at w _) 0) (Lib.cell_of_heap (new_at w _) 1) (Lib.cell_of_heap (new_at w _) 2) (Lib.cell_of_heap (new_at w _) 3)) rfl ?_
  exact ⟨rfl, (Below.refl _ w).alloc (Nat.le_refl _) _⟩

set_option maxRecDepth 100000 in
theorem n_any (i : Int) (w : World) : Calls Tryd.prog 22 #[.int .i64 i] w (Ret w (.agg #[.int .i64 1, .int .i64 i, .string ⟨#[]⟩, .slice none 0 0])) := by
  go_enter Tryd.func22, Tryd.ntmps22
  go_wp2
  refine bodyPost_ret (results_cell rfl _ _ w.heap.size _ _ _ _ rfl (Lib.cell_of_heap (new_at w _) 0) (Lib.cell_of_heap (new_at w _) 1) (Lib.cell_of_heap (new_at w _) 2) (Lib.cell_of_heap (new_at w _) 3)) rfl ?_
  exact ⟨rfl, (Below.refl _ w).alloc (Nat.le_refl _) _⟩

set_option maxRecDepth 100000 in
theorem op_any (k : Int) (e0 e1 : Ex) (c d : Array Value) (w : World) (hk : I64 k) (h0 : Ex.R w e0 c) (h1 : Ex.R w e1 d) :
    Calls Tryd.prog 20 #[.int .i64 k, .agg c, .agg d] w (fun e w' => Below w.heap.size w w' ∧ ∃ c', e = .returned (.agg c') ∧ Ex.R w' (.mk k 0 ⟨#[]⟩ [e0, e1]) c') := by
  obtain ⟨A, m, cap, rfl⟩ := h0.cells
  obtain ⟨B, n, dap, rfl⟩ := h1.cells
  have H0 := Lib.hid h0; have H1 := Lib.hid h1; have HK := Lib.hid hk
  clear h0 h1 hk
  go_enter Tryd.func20, Tryd.ntmps20
  go_wp2
  have hz : ∀ (v : World) (o : Obj), (v.alloc o).heap.size = v.heap.size + 1 := fun v o => by simp
  have hn3 := new_at ((w.alloc (.cells #[.int .i64 e0.kind, .int .i64 e0.num, .string e0.name, .slice A m cap] 24)).alloc (.cells #[.int .i64 e1.kind, .int .i64 e1.num, .string e1.name, .slice B n dap] 24)) (.cells #[.int .i64 k, .int .i64 0, .string ⟨#[]⟩, .slice (some ⟨w.heap.size + 1 + 1 + 1, 0, none⟩) 2 2] 24)
  rw [hz, hz] at hn3
  have hn3' := old_at hn3 (.cells #[.int .i64 e0.kind, .int .i64 e0.num, .string e0.name, .slice A m cap, .int .i64 e1.kind, .int .i64 e1.num, .string e1.name, .slice B n dap] 24)
  have hn4 := new_at (((w.alloc (.cells #[.int .i64 e0.kind, .int .i64 e0.num, .string e0.name, .slice A m cap] 24)).alloc (.cells #[.int .i64 e1.kind, .int .i64 e1.num, .string e1.name, .slice B n dap] 24)).alloc (.cells #[.int .i64 k, .int .i64 0, .string ⟨#[]⟩, .slice (some ⟨w.heap.size + 1 + 1 + 1, 0, none⟩) 2 2] 24)) (.cells #[.int .i64 e0.kind, .int .i64 e0.num, .string e0.name, .slice A m cap, .int .i64 e1.kind, .int .i64 e1.num, .string e1.name, .slice B n dap] 24)
  rw [hz, hz, hz] at hn4
  have hb : Below w.heap.size w ((((w.alloc (.cells #[.int .i64 e0.kind, .int .i64 e0.num, .string e0.name, .slice A m cap] 24)).alloc (.cells #[.int .i64 e1.kind, .int .i64 e1.num, .string e1.name, .slice B n dap] 24)).alloc (.cells #[.int .i64 k, .int .i64 0, .string ⟨#[]⟩, .slice (some ⟨w.heap.size + 1 + 1 + 1, 0, none⟩) 2 2] 24)).alloc (.cells #[.int .i64 e0.kind, .int .i64 e0.num, .string e0.name, .slice A m cap, .int .i64 e1.kind, .int .i64 e1.num, .string e1.name, .slice B n dap] 24)) :=
    ((((Below.refl _ w).alloc (Nat.le_refl _) _).alloc (by rw [hz]; omega) _).alloc (by rw [hz, hz]; omega) _).alloc (by rw [hz, hz, hz]; omega) _
  refine bodyPost_ret (results_cell rfl _ _ (w.heap.size + 1 + 1) _ _ _ _ rfl (Lib.cell_of_heap hn3' 0) (Lib.cell_of_heap hn3' 1) (Lib.cell_of_heap hn3' 2) (Lib.cell_of_heap hn3' 3)) rfl ?_
  refine ⟨hb, _, rfl, ?_⟩
  simp only [Ex.R]
  refine ⟨_, rfl, HK.out, ⟨by decide, by decide⟩, by decide, [#[.int .i64 e0.kind, .int .i64 e0.num, .string e0.name, .slice A m cap], #[.int .i64 e1.kind, .int .i64 e1.num, .string e1.name, .slice B n dap]], ⟨_, 2, rfl, by simp, by decide, (fun h => by cases h), ?_⟩, ?_⟩
  · intro i x hx
    refine ⟨_, 0, rfl, by rw [hz, hz, hz, hz]; omega, ?_⟩
    match i, hx with
    | 0, hx =>
      obtain rfl := Option.some.inj hx
      refine ⟨rfl, fun j hj => ?_⟩
      rw [Lib.cell_of_heap hn4]
      have : j = 0 ∨ j = 1 ∨ j = 2 ∨ j = 3 := by omega
      rcases this with rfl | rfl | rfl | rfl <;> rfl
    | 1, hx =>
      obtain rfl := Option.some.inj hx
      refine ⟨rfl, fun j hj => ?_⟩
      rw [Lib.cell_of_heap hn4]
      have : j = 0 ∨ j = 1 ∨ j = 2 ∨ j = 3 := by omega
      rcases this with rfl | rfl | rfl | rfl <;> rfl
  · simp only [Exs.R]
    exact ⟨_, _, rfl, Ex.R.below hb (Nat.le_refl _) _ _ H0.out, _, _, rfl, Ex.R.below hb (Nat.le_refl _) _ _ H1.out, rfl⟩

def exX : Ex := .mk 4 0 ⟨#[120]⟩ []
def exY : Ex := .mk 4 0 ⟨#[121]⟩ []
def exN (i : Int) : Ex := .mk 1 i ⟨#[]⟩ []
def exLive : Ex := .mk 17 0 ⟨#[]⟩ [.mk 13 0 ⟨#[]⟩ [exX, exN 1], .mk 15 0 ⟨#[]⟩ [exN 2, .mk 14 0 ⟨#[]⟩ [exY, exN 3]]]
theorem leaf_R (w : World) (k n : Int) (s : ByteArray) (hk : I64 k) (hn : I64 n) (hs : s.size ≤ maxLen) : Ex.R w (.mk k n s []) #[.int .i64 k, .int .i64 n, .string s, .slice none 0 0] := by
  simp only [Ex.R]
  exact ⟨_, rfl, hk, hn, hs, [], SlV.nil w 4, by simp only [Exs.R]⟩

theorem live_bulk : exLive.bulk ≤ 2000000 := by decide +kernel
theorem live_ok : exprOK exLive = true := by decide +kernel
theorem live_text : exT exLive = [120, 32, 43, 32, 49, 32, 60, 32, 50, 32, 42, 32, 40, 121, 32, 45, 32, 51, 41] := by decide +kernel

set_option maxRecDepth 100000 in
theorem live_any (w : World) (hE : Env w) : Calls Tryd.prog 9 #[] w (Ret w (.bool true)) := by
  have HE := Lib.hid hE; clear hE
  have hl : doneS (exT exLive) = ⟨#[120, 32, 43, 32, 49, 32, 60, 32, 50, 32, 42, 32, 40, 121, 32, 45, 32, 51, 41]⟩ := by rw [live_text]; rfl
  have hn : doneN (exT exLive) = 0 := by rw [live_text]; rfl
  have HL := Lib.hid hl; have HN := Lib.hid hn; clear hl hn
  go_enter Tryd.func9, Tryd.ntmps9
  go_wp2_with fail
  refine Calls.mono (v_any _ _) ?_; rintro x w1 ⟨rfl, hb⟩
  have HB1 := Lib.hid hb
  have r1x := Lib.hid (leaf_R w1 4 0 ⟨#[120]⟩ ⟨by decide, by decide⟩ ⟨by decide, by decide⟩ (by decide)); clear hb
  go_wp2_with fail
  refine Calls.mono (n_any _ _) ?_; rintro x w2 ⟨rfl, hb⟩
  have HB2 := Lib.hid (HB1.out.trans (hb.mono HB1.out.size))
  have r2x := Lib.hid (Ex.R.below hb (Nat.le_refl _) _ _ r1x.out)
  have r2n := Lib.hid (leaf_R w2 1 1 ⟨#[]⟩ ⟨by decide, by decide⟩ ⟨by decide, by decide⟩ (by decide)); clear hb
  go_wp2_with fail
  refine Calls.mono (op_any 13 _ _ _ _ _ ⟨by decide, by decide⟩ r2x.out r2n.out) ?_; rintro x w3 ⟨hb, c3, rfl, hr⟩
  have HB3 := Lib.hid (HB2.out.trans (hb.mono HB2.out.size))
  have r3a := Lib.hid hr; clear hb hr
  go_wp2_with fail
  refine Calls.mono (n_any _ _) ?_; rintro x w4 ⟨rfl, hb⟩
  have HB4 := Lib.hid (HB3.out.trans (hb.mono HB3.out.size))
  have r4a := Lib.hid (Ex.R.below hb (Nat.le_refl _) _ _ r3a.out)
  have r4t := Lib.hid (leaf_R w4 1 2 ⟨#[]⟩ ⟨by decide, by decide⟩ ⟨by decide, by decide⟩ (by decide)); clear hb
  go_wp2_with fail
  refine Calls.mono (v_any _ _) ?_; rintro x w5 ⟨rfl, hb⟩
  have HB5 := Lib.hid (HB4.out.trans (hb.mono HB4.out.size))
  have r5a := Lib.hid (Ex.R.below hb (Nat.le_refl _) _ _ r4a.out)
  have r5t := Lib.hid (Ex.R.below hb (Nat.le_refl _) _ _ r4t.out)
  have r5y := Lib.hid (leaf_R w5 4 0 ⟨#[121]⟩ ⟨by decide, by decide⟩ ⟨by decide, by decide⟩ (by decide)); clear hb
  go_wp2_with fail
  refine Calls.mono (n_any _ _) ?_; rintro x w6 ⟨rfl, hb⟩
  have HB6 := Lib.hid (HB5.out.trans (hb.mono HB5.out.size))
  have r6a := Lib.hid (Ex.R.below hb (Nat.le_refl _) _ _ r5a.out)
  have r6t := Lib.hid (Ex.R.below hb (Nat.le_refl _) _ _ r5t.out)
  have r6y := Lib.hid (Ex.R.below hb (Nat.le_refl _) _ _ r5y.out)
  have r6h := Lib.hid (leaf_R w6 1 3 ⟨#[]⟩ ⟨by decide, by decide⟩ ⟨by decide, by decide⟩ (by decide)); clear hb
  go_wp2_with fail
  refine Calls.mono (op_any 14 _ _ _ _ _ ⟨by decide, by decide⟩ r6y.out r6h.out) ?_; rintro x w7 ⟨hb, c7, rfl, hr⟩
  have HB7 := Lib.hid (HB6.out.trans (hb.mono HB6.out.size))
  have r7a := Lib.hid (Ex.R.below hb (Nat.le_refl _) _ _ r6a.out)
  have r7t := Lib.hid (Ex.R.below hb (Nat.le_refl _) _ _ r6t.out)
  have r7s := Lib.hid hr; clear hb hr
  go_wp2_with fail
  refine Calls.mono (op_any 15 _ _ _ _ _ ⟨by decide, by decide⟩ r7t.out r7s.out) ?_; rintro x w8 ⟨hb, c8, rfl, hr⟩
  have HB8 := Lib.hid (HB7.out.trans (hb.mono HB7.out.size))
  have r8a := Lib.hid (Ex.R.below hb (Nat.le_refl _) _ _ r7a.out)
  have r8m := Lib.hid hr; clear hb hr
  go_wp2_with fail
  refine Calls.mono (op_any 17 _ _ _ _ _ ⟨by decide, by decide⟩ r8a.out r8m.out) ?_; rintro x w9 ⟨hb, c9, rfl, hr⟩
  have HB9 := Lib.hid (HB8.out.trans (hb.mono HB8.out.size))
  have r9z := Lib.hid hr; clear hb hr
  go_wp2_with fail
  refine (showExpr_any exLive _ _ (HE.out.below HB9.out (Nat.le_refl _)) r9z.out live_bulk).mono ?_; rintro x w10 ⟨rfl, hb⟩
  have HB10 := Lib.hid (HB9.out.trans (hb.mono HB9.out.size)); clear hb
  rw [live_ok, if_pos rfl, if_pos rfl, HL.out, HN.out]
  go_wp2_with fail
  go_ret
  exact ⟨rfl, HB10.out⟩
end Go.Proofs.YtapdgeajbnbdjaaDoor
