/- ref03.SameStmts, for any two. (gen_same2.py) -/
import Derived.Test.YtapdgeajbnbdjaaDoorSame1
namespace Go.Proofs.YtapdgeajbnbdjaaDoor
open Go.RowKit

theorem sameExprs_any (b : Nat) : ∀ (l : List Ex), Exs.bulk l ≤ b → ∀ l', SameR l l' := by
  induction b with
  | zero => intro l hb; cases l with
    | nil => simp only [Exs.bulk] at hb; omega
    | cons e l => cases e; simp only [Exs.bulk, Ex.bulk] at hb; omega
  | succ b ih =>
    intro l hb l'
    refine sameExprs_step l l' fun e e' he _ => ih _ ?_ _
    have h := Exs.bulk_le he
    cases e
    simp only [Ex.bulk, Ex.kids] at h ⊢
    omega
def SameSR (l l' : List St) : Prop := ∀ (v v' : Value) (W : World), Sts.V W l v → Sts.V W l' v' → Calls Tryd.prog 30 #[v, v'] W (Ret W (.bool (eqB l l')))
theorem str_ne {a b : ByteArray} (h : a ≠ b) : ¬ a.toList = b.toList := fun h2 => h (ba_ext (by rw [← ba_toList, ← ba_toList]; exact h2))

set_option maxRecDepth 100000 in
set_option maxHeartbeats 16000000 in
theorem sameStmts_step (l l' : List St) (ih : ∀ e e', e ∈ l → e' ∈ l' → SameSR e.thn e'.thn ∧ SameSR e.els e'.els) : SameSR l l' := by
  intro v v' w hv hv'
  obtain ⟨xs, ⟨A, cap, rfl, hc1, hc2, _, hrows⟩, hR⟩ := hv
  obtain ⟨ys, ⟨A', cap', rfl, hc1', hc2', _, hrows'⟩, hR'⟩ := hv'
  have hX := (Sts.R.all2 l xs).1 hR
  have hY := (Sts.R.all2 l' ys).1 hR'
  have hlx := hX.len
  have hly := hY.len
  obtain ⟨N, hN⟩ : ∃ N, N = xs.length := ⟨_, rfl⟩
  obtain ⟨M, hM⟩ : ∃ M, M = ys.length := ⟨_, rfl⟩
  rw [← hN] at hc1 ⊢
  rw [← hM] at hc1' ⊢
  unfold maxLen at hc2 hc2'
  by_cases hNM : N = M
  · subst hNM
    have HX := Lib.hid hX; have HY := Lib.hid hY; have HR := Lib.hid hrows; have HR' := Lib.hid hrows'; have HN := Lib.hid (And.intro hN hlx); have HM := Lib.hid (And.intro hM hly); have HI := Lib.hid ih
    clear hX hY hR hR' hrows hrows' hN hlx hM hly ih
    go_enter Tryd.func30, Tryd.ntmps30
    go_wp2_with fail
    go_loopw [4, 5, 13] (fun _ _ i wr => ∃ k : Nat, k ≤ N ∧ i = .int .i64 k ∧ Below w.heap.size w wr ∧ Hid (l.take k = l'.take k)) (fun _ _ i _ => N - (intOf i).toNat)
    case atStart => exact ⟨0, Nat.zero_le _, rfl, Below.refl _ _, by simp [Hid]⟩
    case round =>
      obtain ⟨k, hk, rfl, hbr, Hall⟩ := hrel
      have HBr := Lib.hid hbr; clear hbr
      have hBr := HBr.out.size
      by_cases hlt : k < N
      · obtain ⟨x, hx⟩ : ∃ x, xs[k]? = some x := ⟨xs[k]'(by have := HN.out; omega), List.getElem?_eq_getElem _⟩
        obtain ⟨y, hy⟩ : ∃ y, ys[k]? = some y := ⟨ys[k]'(by have := HM.out; omega), List.getElem?_eq_getElem _⟩
        obtain ⟨e, he, hRe⟩ := HX.out.at_ k x hx
        obtain ⟨e', he', hRe'⟩ := HY.out.at_ k y hy
        have hRe := St.R.below HBr.out (Nat.le_refl _) _ _ hRe
        have hRe' := St.R.below HBr.out (Nat.le_refl _) _ _ hRe'
        obtain ⟨bk, off, c0, c1, c2, c3, c4, c5, c6, rfl, hbk, hxx, hq0, hq1, hq2, hq3, hq4, hq5, hq6⟩ := (HR.out.below HBr.out (Nat.le_refl _)).at7 hx
        obtain ⟨bk', off', d0, d1, d2, d3, d4, d5, d6, rfl, hbk', hyy, hr0, hr1, hr2, hr3, hr4, hr5, hr6⟩ := (HR'.out.below HBr.out (Nat.le_refl _)).at7 hy
        have hih := HI.out e e' (List.mem_of_getElem? he) (List.mem_of_getElem? he')
        have htk : l.take (k + 1) = l.take k ++ [e] := by rw [List.take_add_one, he]; rfl
        have htk' : l'.take (k + 1) = l'.take k ++ [e'] := by rw [List.take_add_one, he']; rfl
        have hbad : e ≠ e' → eqB l l' = false := fun h => eqB_false fun h2 => h (by rw [h2] at he; rw [he] at he'; exact Option.some.inj he')
        cases e with
        | mk ek en et es ex ea eb =>
          cases e' with
          | mk fk fn ft fs fx fa fb =>
            simp only [St.R] at hRe hRe'
            obtain ⟨kv, kva, kvb, hcs, _, _, _, _, hK, hKA, hKB⟩ := hRe
            obtain ⟨kv', kva', kvb', hcs', _, _, _, _, hK', hKA', hKB'⟩ := hRe'
            have hK : Exs.V wr ex kv := hK
            have hK' : Exs.V wr fx kv' := hK'
            have hKA : Sts.V wr ea kva := hKA
            have hKA' : Sts.V wr fa kva' := hKA'
            have hKB : Sts.V wr eb kvb := hKB
            have hKB' : Sts.V wr fb kvb' := hKB'
            rw [hxx] at hcs
            rw [hyy] at hcs'
            obtain ⟨rfl, rfl, rfl, rfl, rfl, rfl, rfl⟩ := arr7_inj hcs
            obtain ⟨rfl, rfl, rfl, rfl, rfl, rfl, rfl⟩ := arr7_inj hcs'
            obtain ⟨_, ⟨Ak, capk, rfl, _⟩, _⟩ := id hK
            obtain ⟨_, ⟨Ak', capk', rfl, _⟩, _⟩ := id hK'
            obtain ⟨_, ⟨Ba, capa, rfl, _⟩, _⟩ := id hKA
            obtain ⟨_, ⟨Ba', capa', rfl, _⟩, _⟩ := id hKA'
            obtain ⟨_, ⟨Bb, capb, rfl, _⟩, _⟩ := id hKB
            obtain ⟨_, ⟨Bb', capb', rfl, _⟩, _⟩ := id hKB'
            have x0 := fun q : In wr => q.lt hbk
            have y0 := fun q : In wr => q.lt hbk'
            have x1 := fun q : In wr => q.cell hq0
            have y1 := fun q : In wr => q.cell hr0
            have x2 := fun q : In wr => q.cell hq1
            have y2 := fun q : In wr => q.cell hr1
            have x3 := fun q : In wr => q.cell hq2
            have y3 := fun q : In wr => q.cell hr2
            have x4 := fun q : In wr => q.cell hq3
            have y4 := fun q : In wr => q.cell hr3
            have x5 := fun q : In wr => q.cell hq4
            have y5 := fun q : In wr => q.cell hr4
            have x6 := fun q : In wr => q.cell hq5
            have y6 := fun q : In wr => q.cell hr5
            have x7 := fun q : In wr => q.cell hq6
            have y7 := fun q : In wr => q.cell hr6
            have hcall1 := fun q : In wr => sameExprs_any _ ex (Nat.le_refl _) fx _ _ q.W (hK.below q.h (Nat.le_refl _)) (hK'.below q.h (Nat.le_refl _))
            have hcall2 := fun q : In wr => hih.1 _ _ q.W (hKA.below q.h (Nat.le_refl _)) (hKA'.below q.h (Nat.le_refl _))
            have hcall3 := fun q : In wr => hih.2 _ _ q.W (hKB.below q.h (Nat.le_refl _)) (hKB'.below q.h (Nat.le_refl _))
            have HC1 := Lib.hid hcall1; have HC2 := Lib.hid hcall2; have HC3 := Lib.hid hcall3; have HBAD := Lib.hid hbad; have HTK := Lib.hid (And.intro htk htk')
            clear hcall1 hcall2 hcall3 hbad htk htk' hih hK hK' hKA hKA' hKB hKB' hcs hcs' hxx hyy hx hy he he'
            clear hq0 hr0 hq1 hr1 hq2 hr2 hq3 hr3 hq4 hr4 hq5 hr5 hq6 hr6
            go_wp2
            dsimp only [List.append_eq, List.cons_append, List.nil_append]
            refine wp_region_in2 (by kernel_rfl) (by kernel_rfl) ?_
            by_cases g0 : ek = fk
            · by_cases g1 : en = fn
              · by_cases g2 : et = ft
                · by_cases g3 : es = fs
                  · subst g0; subst g1; subst g2; subst g3
                    by_cases k1 : ex = fx
                    · have HD1 := Lib.hid (show ∀ q : In wr, Calls Tryd.prog 55 #[.slice Ak _ capk, .slice Ak' _ capk'] q.W (Ret q.W (.bool true)) from fun q => by
                        have h : Calls Tryd.prog 55 #[.slice Ak _ capk, .slice Ak' _ capk'] q.W (Ret q.W (.bool (eqB ex fx))) := HC1.out q
                        rw [eqB_true k1] at h
                        exact h)
                      by_cases k2 : ea = fa
                      · have HD2 := Lib.hid (show ∀ q : In wr, Calls Tryd.prog 30 #[.slice Ba _ capa, .slice Ba' _ capa'] q.W (Ret q.W (.bool true)) from fun q => by
                          have h : Calls Tryd.prog 30 #[.slice Ba _ capa, .slice Ba' _ capa'] q.W (Ret q.W (.bool (eqB ea fa))) := HC2.out q
                          rw [eqB_true k2] at h
                          exact h)
                        by_cases k3 : eb = fb
                        · have HD3 := Lib.hid (show ∀ q : In wr, Calls Tryd.prog 30 #[.slice Bb _ capb, .slice Bb' _ capb'] q.W (Ret q.W (.bool true)) from fun q => by
                            have h : Calls Tryd.prog 30 #[.slice Bb _ capb, .slice Bb' _ capb'] q.W (Ret q.W (.bool (eqB eb fb))) := HC3.out q
                            rw [eqB_true k3] at h
                            exact h)
                          clear HC1 HC2 HC3
                          have K := Lib.hid (And.intro k1 (And.intro k2 k3)); clear k1 k2 k3
                          iterate 61 go_big_quiet_step (fail)
                          go_big_quiet_step (exact Calls.in_of (HD1.out _))
                          iterate 13 go_big_quiet_step (fail)
                          go_big_quiet_step (exact Calls.in_of (HD2.out _))
                          iterate 13 go_big_quiet_step (fail)
                          go_big_quiet_step (exact Calls.in_of (HD3.out _))
                          repeat (go_big_quiet_step (fail))
                          refine wpQuiet_nil ?_
                          intro _ hw'
                          obtain ⟨q, hw''⟩ := hw'
                          subst hw''
                          go_wp2_with fail
                          go_roundw
                          case rel => exact ⟨k + 1, by omega, by go_num, HBr.out.trans (q.h.mono hBr), by rw [Hid, HTK.out.1, HTK.out.2, Hall.out, K.out.1, K.out.2.1, K.out.2.2]⟩
                          case measure => simp [intOf]; omega
                        · have HD3 := Lib.hid (show ∀ q : In wr, Calls Tryd.prog 30 #[.slice Bb _ capb, .slice Bb' _ capb'] q.W (Ret q.W (.bool false)) from fun q => by
                            have h : Calls Tryd.prog 30 #[.slice Bb _ capb, .slice Bb' _ capb'] q.W (Ret q.W (.bool (eqB eb fb))) := HC3.out q
                            rw [eqB_false k3] at h
                            exact h)
                          have K := Lib.hid k3; clear k3 HC1 HC2 HC3 k1 k2
                          iterate 61 go_big_quiet_step (fail)
                          go_big_quiet_step (exact Calls.in_of (HD1.out _))
                          iterate 13 go_big_quiet_step (fail)
                          go_big_quiet_step (exact Calls.in_of (HD2.out _))
                          iterate 13 go_big_quiet_step (fail)
                          go_big_quiet_step (exact Calls.in_of (HD3.out _))
                          repeat (go_big_quiet_step (fail))
                          refine wpQuiet_nil ?_
                          intro _ hw'
                          obtain ⟨q, hw''⟩ := hw'
                          subst hw''
                          go_wp2_with fail
                          go_ret
                          exact ⟨ret_bool (HBAD.out (fun h => K.out (by injection h))).symm, HBr.out.trans (q.h.mono hBr)⟩
                      · have HD2 := Lib.hid (show ∀ q : In wr, Calls Tryd.prog 30 #[.slice Ba _ capa, .slice Ba' _ capa'] q.W (Ret q.W (.bool false)) from fun q => by
                          have h : Calls Tryd.prog 30 #[.slice Ba _ capa, .slice Ba' _ capa'] q.W (Ret q.W (.bool (eqB ea fa))) := HC2.out q
                          rw [eqB_false k2] at h
                          exact h)
                        have K := Lib.hid k2; clear k2 HC1 HC2 HC3 k1
                        iterate 61 go_big_quiet_step (fail)
                        go_big_quiet_step (exact Calls.in_of (HD1.out _))
                        iterate 13 go_big_quiet_step (fail)
                        go_big_quiet_step (exact Calls.in_of (HD2.out _))
                        repeat (go_big_quiet_step (fail))
                        refine wpQuiet_nil ?_
                        intro _ hw'
                        obtain ⟨q, hw''⟩ := hw'
                        subst hw''
                        go_wp2_with fail
                        go_ret
                        exact ⟨ret_bool (HBAD.out (fun h => K.out (by injection h))).symm, HBr.out.trans (q.h.mono hBr)⟩
                    · have HD1 := Lib.hid (show ∀ q : In wr, Calls Tryd.prog 55 #[.slice Ak _ capk, .slice Ak' _ capk'] q.W (Ret q.W (.bool false)) from fun q => by
                        have h : Calls Tryd.prog 55 #[.slice Ak _ capk, .slice Ak' _ capk'] q.W (Ret q.W (.bool (eqB ex fx))) := HC1.out q
                        rw [eqB_false k1] at h
                        exact h)
                      have K := Lib.hid k1; clear k1 HC1 HC2 HC3
                      iterate 61 go_big_quiet_step (fail)
                      go_big_quiet_step (exact Calls.in_of (HD1.out _))
                      repeat (go_big_quiet_step (fail))
                      refine wpQuiet_nil ?_
                      intro _ hw'
                      obtain ⟨q, hw''⟩ := hw'
                      subst hw''
                      go_wp2_with fail
                      go_ret
                      exact ⟨ret_bool (HBAD.out (fun h => K.out (by injection h))).symm, HBr.out.trans (q.h.mono hBr)⟩
                  · subst g0
                    subst g1
                    subst g2
                    have g9 := str_ne g3
                    have h3 : (es.toList == fs.toList) = false := by simp [g9]
                    have h3' : (es.toList != fs.toList) = true := by simp [g9]
                    have G3 := Lib.hid g3; clear g3 HC1 HC2 HC3
                    iterate 92 go_big_quiet_step (fail)
                    refine wpQuiet_nil ?_
                    intro _ hw'
                    obtain ⟨q, hw''⟩ := hw'
                    subst hw''
                    go_wp2_with fail
                    go_ret
                    exact ⟨ret_bool (HBAD.out (fun h => G3.out (by injection h))).symm, HBr.out.trans (q.h.mono hBr)⟩
                · subst g0
                  subst g1
                  have g9 := str_ne g2
                  have h2 : (et.toList == ft.toList) = false := by simp [g9]
                  have h2' : (et.toList != ft.toList) = true := by simp [g9]
                  have G2 := Lib.hid g2; clear g2 HC1 HC2 HC3
                  iterate 92 go_big_quiet_step (fail)
                  refine wpQuiet_nil ?_
                  intro _ hw'
                  obtain ⟨q, hw''⟩ := hw'
                  subst hw''
                  go_wp2_with fail
                  go_ret
                  exact ⟨ret_bool (HBAD.out (fun h => G2.out (by injection h))).symm, HBr.out.trans (q.h.mono hBr)⟩
              · subst g0
                have h1 : (en != fn) = true := by simp [g1]
                have G1 := Lib.hid g1; clear g1 HC1 HC2 HC3
                iterate 92 go_big_quiet_step (fail)
                refine wpQuiet_nil ?_
                intro _ hw'
                obtain ⟨q, hw''⟩ := hw'
                subst hw''
                go_wp2_with fail
                go_ret
                exact ⟨ret_bool (HBAD.out (fun h => G1.out (by injection h))).symm, HBr.out.trans (q.h.mono hBr)⟩
            · have h0 : (ek != fk) = true := by simp [g0]
              have G0 := Lib.hid g0; clear g0 HC1 HC2 HC3
              iterate 92 go_big_quiet_step (fail)
              refine wpQuiet_nil ?_
              intro _ hw'
              obtain ⟨q, hw''⟩ := hw'
              subst hw''
              go_wp2_with fail
              go_ret
              exact ⟨ret_bool (HBAD.out (fun h => G0.out (by injection h))).symm, HBr.out.trans (q.h.mono hBr)⟩
      · have hall : eqB l l' = true := by
          have h1 := Hall.out
          rw [List.take_of_length_le (by have := HN.out; omega), List.take_of_length_le (by have := HM.out; omega)] at h1
          exact eqB_true h1
        have HAL := Lib.hid hall; clear hall
        go_wp2_with fail
        go_ret
        exact ⟨ret_bool HAL.out.symm, HBr.out⟩
  · have hbad : eqB l l' = false := eqB_false fun h => hNM (by rw [hN, hM, hlx, hly, h])
    have HB := Lib.hid hbad
    clear hbad hX hY hR hR' hrows hrows' hN hlx hM hly ih
    go_enter Tryd.func30, Tryd.ntmps30
    go_wp2_with fail
    go_ret
    exact ⟨ret_bool HB.out.symm, Below.refl _ _⟩

theorem sameStmts_any (b : Nat) : ∀ (l : List St), Sts.bulk l ≤ b → ∀ l', SameSR l l' := by
  induction b with
  | zero => intro l hb; cases l with
    | nil => simp only [Sts.bulk] at hb; omega
    | cons e l => cases e; simp only [Sts.bulk, St.bulk] at hb; omega
  | succ b ih =>
    intro l hb l'
    refine sameStmts_step l l' fun e e' he _ => ⟨ih _ ?_ _, ih _ ?_ _⟩
    all_goals
      have h := Sts.bulk_le he
      cases e
      simp only [St.bulk, St.thn, St.els] at h ⊢
      omega
end Go.Proofs.YtapdgeajbnbdjaaDoor
