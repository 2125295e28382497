/- ref03.SameExprs, SameSlots. -/
import Derived.Test.YtapdgeajbnbdjaaDoorRef5
import Derived.Test.YtapdgeajbnbdjaaDoorApart6
namespace Go.Proofs.YtapdgeajbnbdjaaDoor
open Go.RowKit

def depsOK (md : Region.Mode) : Nat → List Oper → Bool
  | _, [] => true
  | k, o :: l => (o.after.toList.all fun e => !Region.binds md e || Nat.blt e.on k) && depsOK md (k + 1) l
def pairsOK (md : Region.Mode) (ops : Array Oper) : Nat → List Oper → Bool
  | _, [] => true
  | k, o :: l => (l.all fun y => (y.after.toList.any fun e => Region.binds md e && Nat.beq e.on k) || o.apart ops y) && pairsOK md ops (k + 1) l
def lexC (md : Region.Mode) (l : List Oper) : Bool := (Region.noSelect l.toArray && depsOK md 0 l) && pairsOK md l.toArray 0 l

theorem depsOK_spec {md : Region.Mode} : ∀ (l : List Oper) (k : Nat), depsOK md k l = true → ∀ j o, l[j]? = some o → ∀ e ∈ o.after, Region.binds md e = true → e.on < k + j
  | [], _, _, _, _, h => by simp at h
  | o :: l, k, h, j, o', hj => by
    simp only [depsOK, Bool.and_eq_true, List.all_eq_true, Bool.or_eq_true, Bool.not_eq_true'] at h
    intro e he hb
    cases j with
    | zero =>
      obtain rfl : o = o' := by simpa using hj
      rcases h.1 e (by simpa using he) with h1 | h1
      · simp [h1] at hb
      · have := Nat.le_of_ble_eq_true h1; omega
    | succ j =>
      have := depsOK_spec l (k + 1) h.2 j o' (by simpa using hj) e he hb
      omega
theorem pairsOK_spec {md : Region.Mode} {ops : Array Oper} : ∀ (l : List Oper) (k : Nat), pairsOK md ops k l = true → ∀ i j x y, i < j → l[i]? = some x → l[j]? = some y →
    (∃ e ∈ y.after, Region.binds md e = true ∧ e.on = k + i) ∨ x.apart ops y = true
  | [], _, _, _, _, _, _, _, h, _ => by simp at h
  | o :: l, k, h, i, j, x, y, hij, hx, hy => by
    simp only [pairsOK, Bool.and_eq_true, List.all_eq_true, Bool.or_eq_true, List.any_eq_true] at h
    cases j with
    | zero => omega
    | succ j =>
      have hy' : l[j]? = some y := by simpa using hy
      cases i with
      | zero =>
        obtain rfl : o = x := by simpa using hx
        rcases h.1 y (List.mem_of_getElem? hy') with ⟨e, he, hb, hk⟩ | h1
        · exact .inl ⟨e, by simpa using he, hb, by simpa using Nat.eq_of_beq_eq_true hk⟩
        · exact .inr h1
      | succ i =>
        rcases pairsOK_spec l (k + 1) h.2 i j x y (by omega) (by simpa using hx) hy' with ⟨e, he, hb, hk⟩ | h1
        · exact .inl ⟨e, he, hb, by omega⟩
        · exact .inr h1

theorem lexFrom_of {md : Region.Mode} {ops : Array Oper} (h1 : ∀ j o, ops[j]? = some o → ∀ e ∈ o.after, Region.binds md e = true → e.on < j)
    (h2 : ∀ i j x y, i < j → ops[i]? = some x → ops[j]? = some y → (∃ e ∈ y.after, Region.binds md e = true ∧ e.on = i) ∨ x.apart ops y = true) :
    ∀ (fuel k : Nat) (listed : Array Bool), k + fuel = ops.size → listed.size = ops.size → (∀ j, j < ops.size → listed[j]? = some (decide (j < k))) → Region.lexFrom md ops fuel k listed = true
  | 0, k, listed, hk, hs, hl => by
    simp only [Region.lexFrom, List.isEmpty_iff]
    apply List.eq_nil_iff_forall_not_mem.2
    intro j hj
    obtain ⟨hf, o, ho, _⟩ := mem_ready.1 hj
    have hlt := (Array.getElem?_eq_some_iff.1 ho).1
    rw [Array.getD_eq_getD_getElem?, hl j hlt] at hf
    simp at hf
    omega
  | fuel + 1, k, listed, hk, hs, hl => by
    have hlt : k < ops.size := by omega
    have hget : ∀ j d, j < ops.size → listed.getD j d = decide (j < k) := fun j d hj => by rw [Array.getD_eq_getD_getElem?, hl j hj]; rfl
    obtain ⟨o, ho⟩ : ∃ o, ops[k]? = some o := ⟨ops[k], Array.getElem?_eq_getElem hlt⟩
    simp only [Region.lexFrom, Bool.and_eq_true, List.contains_iff_mem]
    refine ⟨⟨mem_ready.2 ⟨by rw [hget k true hlt]; simp, o, ho, fun e he hb => ?_⟩, ?_⟩, ?_⟩
    · have := h1 k o ho e he hb
      rw [hget e.on false (by omega)]
      simp [this]
    · simp only [Region.free, ho, List.all_eq_true, List.mem_range]
      intro j hj
      obtain ⟨y, hy⟩ : ∃ y, ops[j]? = some y := ⟨ops[j], Array.getElem?_eq_getElem hj⟩
      rw [hget j true hj, hy]
      rcases Nat.lt_trichotomy j k with h | h | h
      · simp [h]
      · simp [h]
      · rcases h2 k j o y h ho hy with ⟨e, he, hb, hk'⟩ | h'
        · simp only [Bool.or_eq_true]
          exact .inr (.inl (Array.any_eq_true'.2 ⟨e, he, by simp [hb, hk']⟩))
        · simp [h']
    · refine lexFrom_of h1 h2 fuel (k + 1) _ (by omega) (by simp [hs]) fun j hj => ?_
      by_cases hjk : k = j
      · subst hjk
        rw [Array.getElem?_setIfInBounds_self_of_lt (by omega)]
        simp
      · rw [Array.getElem?_setIfInBounds_ne hjk, hl j hj]
        congr 1
        apply decide_eq_decide.2
        omega

theorem lexB_of {md : Region.Mode} {l : List Oper} (h : lexC md l = true) : Region.lexB md l.toArray = true := by
  simp only [lexC, Bool.and_eq_true] at h
  simp only [Region.lexB, Bool.and_eq_true]
  refine ⟨h.1.1, lexFrom_of (fun j o hj e he hb => ?_) (fun i j x y hij hx hy => ?_) _ 0 _ (by simp) (by simp) fun j hj => ?_⟩
  · simpa using depsOK_spec l 0 h.1.2 j o (by simpa using hj) e he hb
  · simpa using pairsOK_spec l 0 h.2 i j x y hij (by simpa using hx) (by simpa using hy)
  · have hj' : j < l.length := by simpa using hj
    simp [hj']

theorem wp_region_in2 {P : Program} {id : Nat} {Q : Exit → Act → World → Prop} {a : Act} {w : World} {l : List Oper} (hm : P.follows .mixedOrders = true) (hB : lexC .any l = true)
    (h : wpQuiet P l.toArray (fun w' => ∃ s : In w, w' = s.W) (fun a' => ∀ w', (∃ s : In w, w' = s.W) → Q .normal a' w') l a) : (Code.region id l.toArray true).wp P Q a w :=
  wp_region_in hm (lexB_of hB) h

/-- whether two are one -/
noncomputable def eqB {α : Type} (a b : α) : Bool := @decide (a = b) (Classical.propDecidable _)
theorem eqB_true {α : Type} {a b : α} (h : a = b) : eqB a b = true := by unfold eqB; simp [h]
theorem eqB_false {α : Type} {a b : α} (h : a ≠ b) : eqB a b = false := by unfold eqB; simp [h]
theorem eqB_iff {α : Type} {a b : α} : eqB a b = true ↔ a = b := by unfold eqB; simp

def SameR (l l' : List Ex) : Prop := ∀ (v v' : Value) (W : World), Exs.V W l v → Exs.V W l' v' → Calls Tryd.prog 55 #[v, v'] W (Ret W (.bool (eqB l l')))

theorem In.cell {w : World} (q : In w) {b o : Nat} {v : Value} (h : w.cell? ⟨b, o, none⟩ = some v) : q.W.cell? ⟨b, o, none⟩ = some v := (q.h.cell (p := ⟨b, o, none⟩) (cell_lt h)).trans h
theorem In.lt {w : World} (q : In w) {b : Nat} (h : b < w.heap.size) : b < q.W.heap.size := Nat.lt_of_lt_of_le h q.h.size

set_option maxRecDepth 100000 in
set_option maxHeartbeats 8000000 in
theorem sameExprs_step (l l' : List Ex) (ih : ∀ e e', e ∈ l → e' ∈ l' → SameR e.kids e'.kids) : SameR l l' := by
  intro v v' w hv hv'
  obtain ⟨xs, ⟨A, cap, rfl, hc1, hc2, _, hrows⟩, hR⟩ := hv
  obtain ⟨ys, ⟨A', cap', rfl, hc1', hc2', _, hrows'⟩, hR'⟩ := hv'
  have hX := (Exs.R.all2 l xs).1 hR
  have hY := (Exs.R.all2 l' ys).1 hR'
  have hlx := hX.len
  have hly := hY.len
  obtain ⟨N, hN⟩ : ∃ N, N = xs.length := ⟨_, rfl⟩
  obtain ⟨M, hM⟩ : ∃ M, M = ys.length := ⟨_, rfl⟩
  rw [← hN] at hc1 ⊢
  rw [← hM] at hc1' ⊢
  unfold maxLen at hc2 hc2'
  by_cases hNM : N = M
  · subst hNM
    have HX := Lib.hid hX; have HY := Lib.hid hY; have HR := Lib.hid hrows; have HR' := Lib.hid hrows'; have HN := Lib.hid (And.intro hN hlx); have HM := Lib.hid (And.intro hM hly); have HI := Lib.hid ih
    clear hX hY hR hR' hrows hrows' hN hlx hM hly ih
    go_enter Tryd.func55, Tryd.ntmps55
    go_wp2_with fail
    go_loopw [4, 5, 13] (fun _ _ i wr => ∃ k : Nat, k ≤ N ∧ i = .int .i64 k ∧ Below w.heap.size w wr ∧ Hid (l.take k = l'.take k)) (fun _ _ i _ => N - (intOf i).toNat)
    case atStart => exact ⟨0, Nat.zero_le _, rfl, Below.refl _ _, by simp [Hid]⟩
    case round =>
      obtain ⟨k, hk, rfl, hbr, Hall⟩ := hrel
      have HBr := Lib.hid hbr; clear hbr
      have hBr := HBr.out.size
      by_cases hlt : k < N
      · obtain ⟨x, hx⟩ : ∃ x, xs[k]? = some x := ⟨xs[k]'(by have := HN.out; omega), List.getElem?_eq_getElem _⟩
        obtain ⟨y, hy⟩ : ∃ y, ys[k]? = some y := ⟨ys[k]'(by have := HM.out; omega), List.getElem?_eq_getElem _⟩
        obtain ⟨e, he, hRe⟩ := HX.out.at_ k x hx
        obtain ⟨e', he', hRe'⟩ := HY.out.at_ k y hy
        have hRe := Ex.R.below HBr.out (Nat.le_refl _) _ _ hRe
        have hRe' := Ex.R.below HBr.out (Nat.le_refl _) _ _ hRe'
        obtain ⟨bk, off, c0, c1, c2, c3, rfl, hbk, hxx, hq0, hq1, hq2, hq3⟩ := (HR.out.below HBr.out (Nat.le_refl _)).at4 hx
        obtain ⟨bk', off', d0, d1, d2, d3, rfl, hbk', hyy, hr0, hr1, hr2, hr3⟩ := (HR'.out.below HBr.out (Nat.le_refl _)).at4 hy
        have hih := HI.out e e' (List.mem_of_getElem? he) (List.mem_of_getElem? he')
        have htk : l.take (k + 1) = l.take k ++ [e] := by rw [List.take_add_one, he]; rfl
        have htk' : l'.take (k + 1) = l'.take k ++ [e'] := by rw [List.take_add_one, he']; rfl
        have hbad : e ≠ e' → eqB l l' = false := fun h => eqB_false fun h2 => h (by rw [h2] at he; rw [he] at he'; exact Option.some.inj he')
        cases e with
        | mk ek en es eks =>
          cases e' with
          | mk fk fn fs fks =>
            simp only [Ex.R] at hRe hRe'
            obtain ⟨kv, hcs, _, _, _, hK⟩ := hRe
            obtain ⟨kv', hcs', _, _, _, hK'⟩ := hRe'
            have hK : Exs.V wr eks kv := hK
            have hK' : Exs.V wr fks kv' := hK'
            rw [hxx] at hcs
            rw [hyy] at hcs'
            obtain ⟨rfl, rfl, rfl, rfl⟩ := arr4_inj hcs
            obtain ⟨rfl, rfl, rfl, rfl⟩ := arr4_inj hcs'
            obtain ⟨_, ⟨Ak, capk, rfl, _⟩, _⟩ := id hK
            obtain ⟨_, ⟨Ak', capk', rfl, _⟩, _⟩ := id hK'
            have x0 := fun q : In wr => q.lt hbk
            have x1 := fun q : In wr => q.cell hq0
            have x2 := fun q : In wr => q.cell hq1
            have x3 := fun q : In wr => q.cell hq2
            have x4 := fun q : In wr => q.cell hq3
            have y0 := fun q : In wr => q.lt hbk'
            have y1 := fun q : In wr => q.cell hr0
            have y2 := fun q : In wr => q.cell hr1
            have y3 := fun q : In wr => q.cell hr2
            have y4 := fun q : In wr => q.cell hr3
            have hcall := fun q : In wr => hih _ _ q.W (hK.below q.h (Nat.le_refl _)) (hK'.below q.h (Nat.le_refl _))
            have HCA := Lib.hid hcall; have HBAD := Lib.hid hbad; have HTK := Lib.hid (And.intro htk htk')
            clear hcall hbad htk htk' hih hK hK' hcs hcs' hxx hyy hx hy he he' hq0 hq1 hq2 hq3 hr0 hr1 hr2 hr3
            by_cases g1 : ek = fk
            · by_cases g2 : en = fn
              · by_cases g3 : es = fs
                · subst g1; subst g2; subst g3
                  by_cases g4 : eks = fks
                  · have hb : eqB eks fks = true := eqB_true g4
                    have hcall : ∀ q : In wr, Calls Tryd.prog 55 #[.slice Ak _ capk, .slice Ak' _ capk'] q.W (Ret q.W (.bool true)) := fun q => hb ▸ HCA.out q
                    have HCB := Lib.hid hcall; clear hcall hb HCA
                    have G4 := Lib.hid g4; clear g4
                    go_wp2
                    refine wp_region_in (by kernel_rfl) (by kernel_rfl) ?_
                    iterate 48 go_big_quiet_step (fail)
                    go_big_quiet_step (exact Calls.in_of (HCB.out _))
                    repeat (go_big_quiet_step (fail))
                    refine wpQuiet_nil ?_
                    intro _ hw'
                    obtain ⟨q, hw''⟩ := hw'
                    subst hw''
                    go_wp2_with fail
                    go_roundw
                    case rel => exact ⟨k + 1, by omega, by go_num, HBr.out.trans (q.h.mono hBr), by rw [Hid, HTK.out.1, HTK.out.2, Hall.out, G4.out]⟩
                    case measure => simp [intOf]; omega
                  · have hb : eqB eks fks = false := eqB_false g4
                    have hcall : ∀ q : In wr, Calls Tryd.prog 55 #[.slice Ak _ capk, .slice Ak' _ capk'] q.W (Ret q.W (.bool false)) := fun q => hb ▸ HCA.out q
                    have HCB := Lib.hid hcall; clear hcall hb HCA
                    have G4 := Lib.hid g4; clear g4
                    go_wp2
                    refine wp_region_in (by kernel_rfl) (by kernel_rfl) ?_
                    iterate 48 go_big_quiet_step (fail)
                    go_big_quiet_step (exact Calls.in_of (HCB.out _))
                    repeat (go_big_quiet_step (fail))
                    refine wpQuiet_nil ?_
                    intro _ hw'
                    obtain ⟨q, hw''⟩ := hw'
                    subst hw''
                    go_wp2_with fail
                    go_ret
                    exact ⟨ret_bool (HBAD.out (fun h => G4.out (by injection h))).symm, HBr.out.trans (q.h.mono hBr)⟩
                · subst g1; subst g2
                  have g3' : ¬ es.toList = fs.toList := fun h => g3 (ba_ext (by rw [← ba_toList, ← ba_toList]; exact h))
                  have h3 : (es.toList == fs.toList) = false := by simp [g3']
                  have h3' : (es.toList != fs.toList) = true := by simp [g3']
                  have G3 := Lib.hid g3; clear g3 HCA
                  go_wp2
                  refine wp_region_in (by kernel_rfl) (by kernel_rfl) ?_
                  iterate 51 go_big_quiet_step (fail)
                  refine wpQuiet_nil ?_
                  intro _ hw'
                  obtain ⟨q, hw''⟩ := hw'
                  subst hw''
                  go_wp2_with fail
                  go_ret
                  exact ⟨ret_bool (HBAD.out (fun h => G3.out (by injection h))).symm, HBr.out.trans (q.h.mono hBr)⟩
              · subst g1
                have h2 : (en != fn) = true := by simp [g2]
                have G2 := Lib.hid g2; clear g2 HCA
                go_wp2
                refine wp_region_in (by kernel_rfl) (by kernel_rfl) ?_
                iterate 51 go_big_quiet_step (fail)
                refine wpQuiet_nil ?_
                intro _ hw'
                obtain ⟨q, hw''⟩ := hw'
                subst hw''
                go_wp2_with fail
                go_ret
                exact ⟨ret_bool (HBAD.out (fun h => G2.out (by injection h))).symm, HBr.out.trans (q.h.mono hBr)⟩
            · have h1 : (ek != fk) = true := by simp [g1]
              have G1 := Lib.hid g1; clear g1 HCA
              go_wp2
              refine wp_region_in (by kernel_rfl) (by kernel_rfl) ?_
              iterate 51 go_big_quiet_step (fail)
              refine wpQuiet_nil ?_
              intro _ hw'
              obtain ⟨q, hw''⟩ := hw'
              subst hw''
              go_wp2_with fail
              go_ret
              exact ⟨ret_bool (HBAD.out (fun h => G1.out (by injection h))).symm, HBr.out.trans (q.h.mono hBr)⟩
      · have hall : eqB l l' = true := by
          have h1 := Hall.out
          rw [List.take_of_length_le (by have := HN.out; omega), List.take_of_length_le (by have := HM.out; omega)] at h1
          exact eqB_true h1
        have HAL := Lib.hid hall; clear hall
        go_wp2_with fail
        go_ret
        exact ⟨ret_bool HAL.out.symm, HBr.out⟩
  · have hbad : eqB l l' = false := eqB_false fun h => hNM (by rw [hN, hM, hlx, hly, h])
    have HB := Lib.hid hbad
    clear hbad hX hY hR hR' hrows hrows' hN hlx hM hly ih
    go_enter Tryd.func55, Tryd.ntmps55
    go_wp2_with fail
    go_ret
    exact ⟨ret_bool HB.out.symm, Below.refl _ _⟩
end Go.Proofs.YtapdgeajbnbdjaaDoor
