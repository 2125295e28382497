/- ref03.text for a call. -/
import Derived.Test.YtapdgeajbnbdjaaDoorRef5
import Derived.Test.YtapdgeajbnbdjaaDoorPage7
namespace Go.Proofs.YtapdgeajbnbdjaaDoor
open Go.RowKit

set_option maxRecDepth 100000 in
set_option maxHeartbeats 4000000 in
theorem rtext_10 (n : Int) (s : ByteArray) (m cap : Nat) (w : World) (e0 : Ex) (es : List Ex) (c0 c1 : Int) (c2 : ByteArray) (A9 : Option Addr) (n9 cap9 bk off : Nat)
    (h0 : Hid (∀ V, Below w.heap.size w V → bk < V.heap.size ∧ V.cell? ⟨bk, off, none⟩ = some (.int .i64 c0) ∧ V.cell? ⟨bk, off + 1, none⟩ = some (.int .i64 c1) ∧ V.cell? ⟨bk, off + 2, none⟩ = some (.string c2) ∧ V.cell? ⟨bk, off + 3, none⟩ = some (.slice A9 n9 cap9)))
    (hm0 : 0 < m) (hmc : m ≤ cap) (hcap : cap ≤ maxLen) (hR0 : Hid (Ex.R w e0 #[.int .i64 c0, .int .i64 c1, .string c2, .slice A9 n9 cap9])) (ht0 : Hid (AtR e0)) (hl0 : Hid ((atT 4 e0).length ≤ 1000000000)) (hs : Hid (s.size ≤ 1000000000))
    (hv : Hid (∀ A2, (cap = 1 → A2 = some ⟨bk, off, none⟩) → (cap ≠ 1 → A2 = some ⟨bk, off + 4, none⟩) → Exs.V w es (.slice A2 (m - 1) (cap - 1))))
    (ht : Hid (∀ e, e ∈ es → AtR e)) (hl : Hid ((listT es).length ≤ 1000000000)) :
    Calls Tryd.prog 19 #[.agg #[.int .i64 10, .int .i64 n, .string s, .slice (some ⟨bk, off, none⟩) m cap]] w (Ret w (.string ⟨(atT 4 e0 ++ 46 :: (s.data.toList ++ 40 :: (listT es ++ [41]))).toArray⟩)) := by
  have HI : Hid (∀ q : In (w.alloc (.cells #[.int .i64 10, .int .i64 n, .string s, .slice (some ⟨bk, off, none⟩) m cap] 24)), Below w.heap.size w q.W) := Lib.hid (fun q => box_in q)
  have x0 : ∀ q : In (w.alloc (.cells #[.int .i64 10, .int .i64 n, .string s, .slice (some ⟨bk, off, none⟩) m cap] 24)), bk < q.W.heap.size := fun q => (h0.out _ (HI.out q)).1
  have x1 : ∀ q : In (w.alloc (.cells #[.int .i64 10, .int .i64 n, .string s, .slice (some ⟨bk, off, none⟩) m cap] 24)), q.W.cell? ⟨bk, off, none⟩ = some (.int .i64 c0) := fun q => (h0.out _ (HI.out q)).2.1
  have x2 : ∀ q : In (w.alloc (.cells #[.int .i64 10, .int .i64 n, .string s, .slice (some ⟨bk, off, none⟩) m cap] 24)), q.W.cell? ⟨bk, off + 1, none⟩ = some (.int .i64 c1) := fun q => (h0.out _ (HI.out q)).2.2.1
  have x3 : ∀ q : In (w.alloc (.cells #[.int .i64 10, .int .i64 n, .string s, .slice (some ⟨bk, off, none⟩) m cap] 24)), q.W.cell? ⟨bk, off + 2, none⟩ = some (.string c2) := fun q => (h0.out _ (HI.out q)).2.2.2.1
  have x4 : ∀ q : In (w.alloc (.cells #[.int .i64 10, .int .i64 n, .string s, .slice (some ⟨bk, off, none⟩) m cap] 24)), q.W.cell? ⟨bk, off + 3, none⟩ = some (.slice A9 n9 cap9) := fun q => (h0.out _ (HI.out q)).2.2.2.2
  have y0 : ∀ q : In (w.alloc (.cells #[.int .i64 10, .int .i64 n, .string s, .slice (some ⟨bk, off, none⟩) m cap] 24)), w.heap.size < q.W.heap.size := fun q => box_in_lt q
  have y2 : ∀ q : In (w.alloc (.cells #[.int .i64 10, .int .i64 n, .string s, .slice (some ⟨bk, off, none⟩) m cap] 24)), q.W.cell? ⟨w.heap.size, 2, none⟩ = some (.string s) := fun q => box_in_cell q 2
  have y3 : ∀ q : In (w.alloc (.cells #[.int .i64 10, .int .i64 n, .string s, .slice (some ⟨bk, off, none⟩) m cap] 24)), q.W.cell? ⟨w.heap.size, 3, none⟩ = some (.slice (some ⟨bk, off, none⟩) m cap) := fun q => box_in_cell q 3
  have l1 : ¬ 9223372036854775807 < (atT 4 e0).length + 1 := by have := hl0.out; omega
  have l2 : ¬ 9223372036854775807 < (atT 4 e0).length + 1 + s.size := by have := hl0.out; have := hs.out; omega
  have l3 : ¬ 9223372036854775807 < (atT 4 e0).length + 1 + s.size + 1 := by have := hl0.out; have := hs.out; omega
  unfold maxLen at hcap
  by_cases hcc : cap = 1
  · have hm1 : m = 1 := by omega
    subst hm1; subst hcc
    have hes : es = [] := by
      obtain ⟨xs, ⟨A, cp, he, _, _, _, _⟩, hR⟩ := hv.out _ (fun _ => rfl) (fun h => absurd rfl h)
      injection he with _ he _
      have := ((Exs.R.all2 es xs).1 hR).len
      exact List.eq_nil_of_length_eq_zero (by omega)
    have Hes := Lib.hid hes; clear hes
    go_enter Tryd.func19, Tryd.ntmps19
    go_wp2
    refine wp_region_in (by kernel_rfl) (by kernel_rfl) ?_
    iterate 4 go_big_quiet_step (fail)
    go_big_quiet_step (exact Calls.in_of (ht0.out _ _ 4 (Ex.R.below (HI.out _) (Nat.le_refl _) e0 _ hR0.out)))
    repeat (go_big_quiet_step (fail))
    refine wpQuiet_nil ?_
    intro _ hw'
    obtain ⟨q, hw''⟩ := hw'
    subst hw''
    have HQ := Lib.hid (HI.out q)
    have z0 := y0 q
    have z3 := y3 q
    clear x0 x1 x2 x3 x4 y0 y2 y3 HI l1 l2 l3
    have l4 : ¬ 9223372036854775807 < (atT 4 e0).length + (s.size + 1 + 1) + 1 := by have := hl0.out; have := hs.out; omega
    go_wp2_with fail
    go_loopw [3, 86] (fun t i wr => t = .string ⟨(atT 4 e0 ++ 46 :: (s.data.toList ++ [40])).toArray⟩ ∧ i = .int .i64 0 ∧ wr = q.W) (fun _ _ _ => 0)
    case atStart => exact ⟨by congr 1; apply ByteArray.ext; simp, rfl, rfl⟩
    case round =>
      obtain ⟨rfl, rfl, rfl⟩ := hrel
      go_wp2_with fail
      go_ret
      exact ⟨ret_str (by apply ByteArray.ext; rw [Hes.out]; simp [listT, commas]), HQ.out⟩
  · obtain ⟨xs, ⟨A, cp, he, hc1, hc2, _, hrows⟩, hR⟩ := hv.out _ (fun h => absurd h hcc) (fun _ => rfl)
    injection he with hA hN hcp
    subst hA
    have hX := (Exs.R.all2 es xs).1 hR
    have hlen := hX.len
    have HN := Lib.hid (And.intro hN hlen)
    have HX := Lib.hid hX
    have HR := Lib.hid hrows
    clear hc1 hc2 hrows hR hN hcp hX hlen
    go_enter Tryd.func19, Tryd.ntmps19
    go_wp2
    refine wp_region_in (by kernel_rfl) (by kernel_rfl) ?_
    iterate 4 go_big_quiet_step (fail)
    go_big_quiet_step (exact Calls.in_of (ht0.out _ _ 4 (Ex.R.below (HI.out _) (Nat.le_refl _) e0 _ hR0.out)))
    repeat (go_big_quiet_step (fail))
    refine wpQuiet_nil ?_
    intro _ hw'
    obtain ⟨q, hw''⟩ := hw'
    subst hw''
    have HQ := Lib.hid (HI.out q)
    have z0 := y0 q
    have z3 := y3 q
    clear x0 x1 x2 x3 x4 y0 y2 y3 HI l1 l2 l3
    go_wp2_with fail
    go_loopw [3, 4, 5, 86] (fun t _ _ i wr => ∃ k : Nat, k ≤ m - 1 ∧ i = .int .i64 k ∧ t = .string ⟨((atT 4 e0 ++ 46 :: (s.data.toList ++ [40])) ++ commas ((es.take k).map (atT 1))).toArray⟩ ∧ Below w.heap.size w wr) (fun _ _ _ i _ => m - (intOf i).toNat)
    case atStart => exact ⟨0, Nat.zero_le _, rfl, by congr 1; apply ByteArray.ext; simp [commas], HQ.out⟩
    case round =>
      obtain ⟨k, hk, rfl, rfl, hb⟩ := hrel
      have HB := Lib.hid hb; clear hb
      obtain ⟨T, hT⟩ : ∃ T, T = (atT 4 e0 ++ 46 :: (s.data.toList ++ [40])) ++ commas ((es.take k).map (atT 1)) := ⟨_, rfl⟩
      rw [← hT]
      have HT := Lib.hid hT; clear hT
      by_cases hlt : k < m - 1
      · obtain ⟨x, hx⟩ : ∃ x, xs[k]? = some x := ⟨xs[k]'(by have := HN.out; omega), List.getElem?_eq_getElem _⟩
        obtain ⟨e, hee, hRe⟩ := HX.out.at_ k x hx
        obtain ⟨bk', off', d0, d1, d2, d3, hA, hbl, hxx, hq0, hq1, hq2, hq3⟩ := (HR.out.below HB.out (Nat.le_refl _)).at4 hx
        injection hA with hA
        injection hA with hb' ho'
        subst hb'; subst ho'
        have HRe := Lib.hid hRe
        obtain ⟨B9, k9, dap9, hcs⟩ := hRe.cells
        rw [hxx] at hcs
        obtain ⟨rfl, rfl, rfl, rfl⟩ := arr4_inj hcs
        subst hxx
        have hih := ht.out e (List.mem_of_getElem? hee)
        have hsp := commas_take_le (es.map (atT 1)) k (atT 1 e) (by rw [List.getElem?_map, hee]; rfl)
        rw [← List.map_take] at hsp
        have htk : (es.take (k + 1)).map (atT 1) = (es.take k).map (atT 1) ++ [atT 1 e] := by rw [List.take_add_one, hee]; simp
        have hTl : T.length + (if k = 0 then 0 else 2) + (atT 1 e).length ≤ 3000000010 := by
          have h1 := hl0.out; have h2 := hs.out; have h3 := hl.out; have h4 := HT.out
          unfold listT at h3
          rw [h4]
          simp only [List.length_append, List.length_cons, List.length_nil, ba_len]
          omega
        have hne : k ≠ 0 → (es.take k).map (atT 1) ≠ [] := by
          intro h0 hc
          have h5 := congrArg List.length hc
          simp at h5
          have := (List.getElem?_eq_some_iff.1 hee).1
          rcases h5 with h5 | h5
          · omega
          · rw [h5] at this; simp at this
        have HTK := Lib.hid htk; have HIH := Lib.hid hih; have HTL := Lib.hid hTl; have HNE := Lib.hid hne
        clear hcs hx hee hRe hih hsp htk hTl hne
        by_cases h0 : 0 < k
        · have q1 : ¬ 9223372036854775807 < T.length + 2 := by have := HTL.out; rw [if_neg (by omega)] at this; omega
          have q2 : ¬ 9223372036854775807 < T.length + 2 + (atT 1 e).length := by have := HTL.out; rw [if_neg (by omega)] at this; omega
          go_wp2_with (go_at_call 46; refine (HIH.out _ _ 1 (Ex.R.below (HB.out.alloc (by have := HB.out.size; omega) _) (Nat.le_refl _) e _ HRe.out)).mono ?_; rintro y w1 ⟨rfl, hb1⟩; have HB1 := Lib.hid ((HB.out.alloc (by have := HB.out.size; omega) _).trans (hb1.mono (by have := HB.out.size; simp; omega))); clear hb1)
          go_roundw
          case rel => exact ⟨k + 1, by omega, by go_num, by rw [HTK.out, commas_snoc _ _ (HNE.out (by omega)), ← List.append_assoc, ← HT.out]; congr 1; apply ByteArray.ext; simp, HB1.out⟩
          case measure => simp [intOf]; omega
        · have q1 : ¬ 9223372036854775807 < T.length + (atT 1 e).length := by have := HTL.out; omega
          go_wp2_with (go_at_call 46; refine (HIH.out _ _ 1 (Ex.R.below (HB.out.alloc (by have := HB.out.size; omega) _) (Nat.le_refl _) e _ HRe.out)).mono ?_; rintro y w1 ⟨rfl, hb1⟩; have HB1 := Lib.hid ((HB.out.alloc (by have := HB.out.size; omega) _).trans (hb1.mono (by have := HB.out.size; simp; omega))); clear hb1)
          go_roundw
          case rel => exact ⟨k + 1, by omega, by go_num, by
            have hk0 : k = 0 := by omega
            have h1 := HT.out
            rw [hk0] at h1
            rw [HTK.out, hk0, h1]
            congr 1; apply ByteArray.ext; simp [commas], HB1.out⟩
          case measure => simp [intOf]; omega
      · have q1 : ¬ 9223372036854775807 < T.length + 1 := by
          have h1 := hl0.out; have h2 := hs.out; have h3 := hl.out; have h4 := HT.out
          rw [show es.take k = es from List.take_of_length_le (by have := HN.out; omega)] at h4
          unfold listT at h3
          rw [h4]
          simp only [List.length_append, List.length_cons, List.length_nil, ba_len]
          omega
        go_wp2_with fail
        go_ret
        refine ⟨ret_str ?_, HB.out⟩
        have h4 := HT.out
        rw [show es.take k = es from List.take_of_length_le (by have := HN.out; omega)] at h4
        rw [h4]
        apply ByteArray.ext
        simp [listT]
end Go.Proofs.YtapdgeajbnbdjaaDoor
