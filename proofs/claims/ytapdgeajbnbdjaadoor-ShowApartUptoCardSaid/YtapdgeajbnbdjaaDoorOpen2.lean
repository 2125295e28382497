/- from what a reading tells to the trees: statements, slots, methods, classes, programs -/
import Derived.Test.YtapdgeajbnbdjaaDoorOpen
namespace Go.Proofs.YtapdgeajbnbdjaaDoor
open Go.RowKit Go.ChangeShapes Go.WideShapes

section
variable {H : Type} {enc : TypeId × Value → H} {w : World} {sp : Nat → Bool} {hd : Bool}

/-- two fields, one cell each -/
theorem two {t : TypeId} {f0 f1 : Field} {fuel : Nat} {cs : List Value} {x : DataW H × List MemPlace} (ht : Tryd.prog.underlying t = some (.struct #[f0, f1])) (hl : Tryd.prog.cellsOf t = 2)
    (o0 : f0.offset = 0) (o1 : f1.offset = 1) (c0 : Tryd.prog.cellsOf f0.type = 1) (c1 : Tryd.prog.cellsOf f1.type = 1)
    (h : DataW.trod enc Tryd.prog w 0 sp hd fuel t cs = some x) :
    ∃ n v0 v1 y0 y1, fuel = n + 1 ∧ cs = [v0, v1] ∧ x.1 = .agg [y0.1, y1.1] ∧ DataW.trod enc Tryd.prog w 0 sp hd n f0.type [v0] = some y0 ∧ DataW.trod enc Tryd.prog w 0 sp hd n f1.type [v1] = some y1 := by
  obtain ⟨xs, n, hn, hx, hcl, hxl, hf⟩ := DataW.trod_struct ht h
  rw [hl] at hcl
  obtain ⟨v0, v1, rfl⟩ := list2 hcl
  obtain ⟨y0, y1, rfl⟩ := list2 hxl
  have g0 := hf 0 f0 rfl
  have g1 := hf 1 f1 rfl
  rw [o0, c0] at g0
  rw [o1, c1] at g1
  exact ⟨n, v0, v1, y0, y1, hn, rfl, by rw [hx]; rfl, g0, g1⟩
/-- seven fields, one cell each -/
theorem seven {t : TypeId} {f0 f1 f2 f3 f4 f5 f6 : Field} {fuel : Nat} {cs : List Value} {x : DataW H × List MemPlace} (ht : Tryd.prog.underlying t = some (.struct #[f0, f1, f2, f3, f4, f5, f6])) (hl : Tryd.prog.cellsOf t = 7)
    (o0 : f0.offset = 0) (o1 : f1.offset = 1) (o2 : f2.offset = 2) (o3 : f3.offset = 3) (o4 : f4.offset = 4) (o5 : f5.offset = 5) (o6 : f6.offset = 6)
    (c0 : Tryd.prog.cellsOf f0.type = 1) (c1 : Tryd.prog.cellsOf f1.type = 1) (c2 : Tryd.prog.cellsOf f2.type = 1) (c3 : Tryd.prog.cellsOf f3.type = 1) (c4 : Tryd.prog.cellsOf f4.type = 1) (c5 : Tryd.prog.cellsOf f5.type = 1) (c6 : Tryd.prog.cellsOf f6.type = 1)
    (h : DataW.trod enc Tryd.prog w 0 sp hd fuel t cs = some x) :
    ∃ n v0 v1 v2 v3 v4 v5 v6 y0 y1 y2 y3 y4 y5 y6, fuel = n + 1 ∧ cs = [v0, v1, v2, v3, v4, v5, v6] ∧ x.1 = .agg [y0.1, y1.1, y2.1, y3.1, y4.1, y5.1, y6.1] ∧ DataW.trod enc Tryd.prog w 0 sp hd n f0.type [v0] = some y0 ∧ DataW.trod enc Tryd.prog w 0 sp hd n f1.type [v1] = some y1 ∧
      DataW.trod enc Tryd.prog w 0 sp hd n f2.type [v2] = some y2 ∧ DataW.trod enc Tryd.prog w 0 sp hd n f3.type [v3] = some y3 ∧ DataW.trod enc Tryd.prog w 0 sp hd n f4.type [v4] = some y4 ∧ DataW.trod enc Tryd.prog w 0 sp hd n f5.type [v5] = some y5 ∧ DataW.trod enc Tryd.prog w 0 sp hd n f6.type [v6] = some y6 := by
  obtain ⟨xs, n, hn, hx, hcl, hxl, hf⟩ := DataW.trod_struct ht h
  rw [hl] at hcl
  obtain ⟨v0, v1, v2, v3, v4, v5, v6, rfl⟩ := list7 hcl
  obtain ⟨y0, y1, y2, y3, y4, y5, y6, rfl⟩ := list7 hxl
  have g0 := hf 0 f0 rfl
  have g1 := hf 1 f1 rfl
  have g2 := hf 2 f2 rfl
  have g3 := hf 3 f3 rfl
  have g4 := hf 4 f4 rfl
  have g5 := hf 5 f5 rfl
  have g6 := hf 6 f6 rfl
  rw [o0, c0] at g0
  rw [o1, c1] at g1
  rw [o2, c2] at g2
  rw [o3, c3] at g3
  rw [o4, c4] at g4
  rw [o5, c5] at g5
  rw [o6, c6] at g6
  exact ⟨n, v0, v1, v2, v3, v4, v5, v6, y0, y1, y2, y3, y4, y5, y6, hn, rfl, by rw [hx]; rfl, g0, g1, g2, g3, g4, g5, g6⟩

set_option maxRecDepth 100000 in
theorem open_st (fuel : Nat) : ∀ (k : Nat), k ≤ fuel → ∀ (cs : List Value) (x : DataW H × List MemPlace), DataW.trod enc Tryd.prog w 0 sp hd k 39 cs = some x → ∃ e : St, St.R w e cs.toArray ∧ e.bulk ≤ Rows.uptoBulk x.1 := by
  induction fuel with
  | zero => intro k hk cs x h; obtain rfl : k = 0 := by omega
            simp [DataW.trod] at h
  | succ fuel ih =>
    intro k hk cs x h
    obtain ⟨n, v0, v1, v2, v3, v4, v5, v6, y0, y1, y2, y3, y4, y5, y6, hn, rfl, hx, g0, g1, g2, g3, g4, g5, g6⟩ := seven Tryd.underlying39 (by kernel_rfl) rfl rfl rfl rfl rfl rfl rfl (by kernel_rfl) (by kernel_rfl) (by kernel_rfl) (by kernel_rfl) (by kernel_rfl) (by kernel_rfl) (by kernel_rfl) h
    obtain ⟨a, ha, rfl, wa⟩ := DataW.trod_int Tryd.underlying3 g0
    obtain ⟨b, hb, rfl, wb⟩ := DataW.trod_int Tryd.underlying2 g1
    obtain ⟨s, hs, rfl, ws⟩ := DataW.trod_string Tryd.underlying9 g2
    obtain ⟨s', hs', rfl, ws'⟩ := DataW.trod_string Tryd.underlying9 g3
    obtain ⟨l, v, xs, hv, hS, hA, hB⟩ := trodSl Tryd.underlying22 (size := 4) (by kernel_rfl) (by decide) (Ex.R w) Ex.bulk (fun m hm => open_ex m m (Nat.le_refl _)) _ _ g4
    obtain ⟨l1, u1, xs1, hv1, hS1, hA1, hB1⟩ := trodSl Tryd.underlying31 (size := 7) (by kernel_rfl) (by decide) (St.R w) St.bulk (fun m hm => ih m (by omega)) _ _ g5
    obtain ⟨l2, u2, xs2, hv2, hS2, hA2, hB2⟩ := trodSl Tryd.underlying31 (size := 7) (by kernel_rfl) (by decide) (St.R w) St.bulk (fun m hm => ih m (by omega)) _ _ g6
    injection ha with ha; injection hb with hb; injection hs with hs; injection hs' with hs'; injection hv with hv; injection hv1 with hv1; injection hv2 with hv2
    subst ha; subst hb; subst hs; subst hs'; subst hv; subst hv1; subst hv2
    refine ⟨.mk a b s s' l l1 l2, ?_, ?_⟩
    · simp only [St.R]
      exact ⟨_, _, _, rfl, i64_of wa, i64_of wb, ws, ws', ⟨xs, hS, (Exs.R.all2 l xs).2 hA⟩, ⟨xs1, hS1, (Sts.R.all2 l1 xs1).2 hA1⟩, xs2, hS2, (Sts.R.all2 l2 xs2).2 hA2⟩
    · rw [hx]
      rw [sum_bulk_ex] at hB
      rw [sum_bulk_st] at hB1 hB2
      simp only [St.bulk, Rows.uptoBulk, Rows.uptoBulkAll]
      have : s.data.toList.length = s.size := rfl
      have : s'.data.toList.length = s'.size := rfl
      omega
set_option maxRecDepth 100000 in
theorem open_sl (k : Nat) (cs : List Value) (x : DataW H × List MemPlace) (h : DataW.trod enc Tryd.prog w 0 sp hd k 60 cs = some x) : ∃ e : Sl, Sl.R w e cs.toArray ∧ e.bulk ≤ Rows.uptoBulk x.1 := by
  obtain ⟨n, v0, v1, y0, y1, hn, rfl, hx, g0, g1⟩ := two Tryd.underlying60 (by kernel_rfl) rfl rfl (by kernel_rfl) (by kernel_rfl) h
  obtain ⟨s, hs, rfl, ws⟩ := DataW.trod_string Tryd.underlying9 g0
  obtain ⟨s', hs', rfl, ws'⟩ := DataW.trod_string Tryd.underlying9 g1
  injection hs with hs; injection hs' with hs'
  subst hs; subst hs'
  refine ⟨⟨s, s'⟩, ⟨rfl, ws, ws'⟩, ?_⟩
  rw [hx]
  simp only [Sl.bulk, Rows.uptoBulk, Rows.uptoBulkAll]
  have : s.data.toList.length = s.size := rfl
  have : s'.data.toList.length = s'.size := rfl
  omega
set_option maxRecDepth 100000 in
theorem open_me (k : Nat) (cs : List Value) (x : DataW H × List MemPlace) (h : DataW.trod enc Tryd.prog w 0 sp hd k 62 cs = some x) : ∃ e : Me, Me.R w e cs.toArray ∧ e.bulk ≤ Rows.uptoBulk x.1 := by
  obtain ⟨n, v0, v1, v2, v3, y0, y1, y2, y3, hn, rfl, hx, g0, g1, g2, g3⟩ := four Tryd.underlying62 (by kernel_rfl) rfl rfl rfl rfl (by kernel_rfl) (by kernel_rfl) (by kernel_rfl) (by kernel_rfl) h
  obtain ⟨s, hs, rfl, ws⟩ := DataW.trod_string Tryd.underlying9 g0
  obtain ⟨s', hs', rfl, ws'⟩ := DataW.trod_string Tryd.underlying9 g1
  obtain ⟨l1, u1, xs1, hv1, hS1, hA1, hB1⟩ := trodSl Tryd.underlying54 (size := 2) (by kernel_rfl) (by decide) (Sl.R w) Sl.bulk (fun m _ => open_sl m) _ _ g2
  obtain ⟨l2, u2, xs2, hv2, hS2, hA2, hB2⟩ := trodSl Tryd.underlying31 (size := 7) (by kernel_rfl) (by decide) (St.R w) St.bulk (fun m _ => open_st m m (Nat.le_refl _)) _ _ g3
  injection hs with hs; injection hs' with hs'; injection hv1 with hv1; injection hv2 with hv2
  subst hs; subst hs'; subst hv1; subst hv2
  refine ⟨⟨s, s', l1, l2⟩, ⟨_, _, rfl, ws, ws', ⟨xs1, hS1, hA1⟩, xs2, hS2, (Sts.R.all2 l2 xs2).2 hA2⟩, ?_⟩
  rw [hx]
  rw [sum_bulk_sl] at hB1
  rw [sum_bulk_st] at hB2
  simp only [Me.bulk, Rows.uptoBulk, Rows.uptoBulkAll]
  have : s.data.toList.length = s.size := rfl
  have : s'.data.toList.length = s'.size := rfl
  omega
set_option maxRecDepth 100000 in
theorem open_cl (k : Nat) (cs : List Value) (x : DataW H × List MemPlace) (h : DataW.trod enc Tryd.prog w 0 sp hd k 57 cs = some x) : ∃ e : Cl, Cl.R w e cs.toArray ∧ e.bulk ≤ Rows.uptoBulk x.1 := by
  obtain ⟨n, v0, v1, v2, v3, y0, y1, y2, y3, hn, rfl, hx, g0, g1, g2, g3⟩ := four Tryd.underlying57 (by kernel_rfl) rfl rfl rfl rfl (by kernel_rfl) (by kernel_rfl) (by kernel_rfl) (by kernel_rfl) h
  obtain ⟨s, hs, rfl, ws⟩ := DataW.trod_string Tryd.underlying9 g0
  obtain ⟨s', hs', rfl, ws'⟩ := DataW.trod_string Tryd.underlying9 g1
  obtain ⟨l1, u1, xs1, hv1, hS1, hA1, hB1⟩ := trodSl Tryd.underlying54 (size := 2) (by kernel_rfl) (by decide) (Sl.R w) Sl.bulk (fun m _ => open_sl m) _ _ g2
  obtain ⟨l2, u2, xs2, hv2, hS2, hA2, hB2⟩ := trodSl Tryd.underlying55 (size := 4) (by kernel_rfl) (by decide) (Me.R w) Me.bulk (fun m _ => open_me m) _ _ g3
  injection hs with hs; injection hs' with hs'; injection hv1 with hv1; injection hv2 with hv2
  subst hs; subst hs'; subst hv1; subst hv2
  refine ⟨⟨s, s', l1, l2⟩, ⟨_, _, rfl, ws, ws', ⟨xs1, hS1, hA1⟩, xs2, hS2, hA2⟩, ?_⟩
  rw [hx]
  rw [sum_bulk_sl] at hB1
  rw [sum_bulk_me] at hB2
  simp only [Cl.bulk, Rows.uptoBulk, Rows.uptoBulkAll]
  have : s.data.toList.length = s.size := rfl
  have : s'.data.toList.length = s'.size := rfl
  omega
set_option maxRecDepth 100000 in
theorem open_pr (k : Nat) (cs : List Value) (x : DataW H × List MemPlace) (h : DataW.trod enc Tryd.prog w 0 sp hd k 33 cs = some x) : ∃ e : Pr, Pr.R w e cs.toArray ∧ e.bulk ≤ Rows.uptoBulk x.1 := by
  obtain ⟨n, v0, v1, y0, y1, hn, rfl, hx, g0, g1⟩ := two Tryd.underlying33 (by kernel_rfl) rfl rfl (by kernel_rfl) (by kernel_rfl) h
  obtain ⟨l1, u1, xs1, hv1, hS1, hA1, hB1⟩ := trodSl Tryd.underlying30 (size := 4) (by kernel_rfl) (by decide) (Cl.R w) Cl.bulk (fun m _ => open_cl m) _ _ g0
  obtain ⟨l2, u2, xs2, hv2, hS2, hA2, hB2⟩ := trodSl Tryd.underlying31 (size := 7) (by kernel_rfl) (by decide) (St.R w) St.bulk (fun m _ => open_st m m (Nat.le_refl _)) _ _ g1
  injection hv1 with hv1; injection hv2 with hv2
  subst hv1; subst hv2
  refine ⟨⟨l1, l2⟩, ⟨_, _, rfl, ⟨xs1, hS1, hA1⟩, xs2, hS2, (Sts.R.all2 l2 xs2).2 hA2⟩, ?_⟩
  rw [hx]
  rw [sum_bulk_cl] at hB1
  rw [sum_bulk_st] at hB2
  simp only [Pr.bulk, Rows.uptoBulk, Rows.uptoBulkAll]
  omega
end
end Go.Proofs.YtapdgeajbnbdjaaDoor
