/- ref03: Type, maySlots, exprs. -/
import Derived.Test.YtapdgeajbnbdjaaDoorShow1
namespace Go.Proofs.YtapdgeajbnbdjaaDoor
open Go.RowKit

set_option maxHeartbeats 400000 in
theorem refType_any (s : ByteArray) (w : World) (hs : s.size ≤ maxLen) :
    Calls Tryd.prog 53 #[.string s] w fun e w' => e = .returned (.bool (isType s.data.toList)) ∧ w' = w := by
  have hd : isType s.data.toList = (s.toList == [105, 110, 116] || (s.toList == [105, 110, 116, 91, 93] || isName s.data.toList)) := by rw [ba_toList]; rfl
  cases h1 : (s.toList == [105, 110, 116])
  · cases h2 : (s.toList == [105, 110, 116, 91, 93])
    · rw [h1, h2] at hd
      go_enter Tryd.func53, Tryd.ntmps53
      have Hd := Lib.hid hd; clear hd
      go_wp2_with (first
        | (go_at_call 44; refine (risName_any _ _ hs).mono ?_; rintro e w' ⟨rfl, rfl⟩))
      go_ret
      exact ⟨ret_bool (by rw [Hd.out]; simp), rfl⟩
    · rw [h1, h2] at hd
      go_enter Tryd.func53, Tryd.ntmps53
      have Hd := Lib.hid hd; clear hd
      go_wp2_with fail
      go_ret
      exact ⟨ret_bool (by rw [Hd.out]; simp), rfl⟩
  · rw [h1] at hd
    go_enter Tryd.func53, Tryd.ntmps53
    have Hd := Lib.hid hd; clear hd
    go_wp2_with fail
    go_ret
    exact ⟨ret_bool (by rw [Hd.out]; simp), rfl⟩

set_option maxRecDepth 100000 in
set_option maxHeartbeats 1000000 in
theorem maySlots_any (l : List Sl) (v : Value) (w : World) (hv : Sls.V w l v) :
    Calls Tryd.prog 52 #[v] w fun e w' => e = .returned (.bool (l.all slotOK)) ∧ Below w.heap.size w w' := by
  obtain ⟨xs, ⟨A, cap, rfl, hc1, hc2, _, hrows⟩, hR⟩ := hv
  have hlx := hR.len
  obtain ⟨n, hn⟩ : ∃ n, n = xs.length := ⟨_, rfl⟩
  rw [← hn] at hc1 ⊢
  have HX := Lib.hid hR; have HN := Lib.hid (And.intro hn hlx); have HR := Lib.hid hrows
  clear hR hlx hn hrows
  unfold maxLen at hc2
  go_enter Tryd.func52, Tryd.ntmps52
  go_wp2_with fail
  go_loopw [2, 4, 7] (fun _ _ i wr => ∃ j : Nat, j ≤ n ∧ i = .int .i64 j ∧ Below w.heap.size w wr ∧ Hid ((l.take j).all slotOK = true)) (fun _ _ i _ => n - (intOf i).toNat)
  case atStart => exact ⟨0, Nat.zero_le _, rfl, Below.refl _ _, by simp [Hid]⟩
  case round =>
    obtain ⟨j, hj, rfl, hBr, Hall⟩ := hrel
    by_cases hlt : j < n
    · have hn1 := HN.out.1
      have hn2 := HN.out.2
      obtain ⟨x, hx⟩ : ∃ x, xs[j]? = some x := ⟨xs[j]'(by omega), List.getElem?_eq_getElem _⟩
      obtain ⟨s, hss, hRs⟩ := HX.out.at_ j x hx
      obtain ⟨bk, off, c0, c1, rfl, _, hxx, hc0, hc1'⟩ := (HR.out.below hBr (Nat.le_refl _)).at2 hx
      obtain ⟨hcs, hz1, hz2⟩ := hRs
      rw [hxx] at hcs
      simp at hcs
      obtain ⟨rfl, rfl⟩ := hcs
      subst hxx
      have hsucc : (l.take (j + 1)).all slotOK = slotOK s := by
        rw [List.take_add_one, hss, List.all_append, Hall.out]; simp
      have hall2 : slotOK s = false → l.all slotOK = false := fun he => by
        rw [List.all_eq_false]; exact ⟨s, List.mem_of_getElem? hss, by simp [he]⟩
      have HS := Lib.hid hsucc; have H2 := Lib.hid hall2
      clear hsucc hall2 hx hss hn1 hn2
      have hcases : isType s.type.data.toList = false ∨ (isType s.type.data.toList = true ∧ isName s.name.data.toList = false) ∨ (isType s.type.data.toList = true ∧ isName s.name.data.toList = true) := by
        cases isType s.type.data.toList <;> cases isName s.name.data.toList <;> simp
      rcases hcases with ht | ⟨ht, hm⟩ | ⟨ht, hm⟩
      · have hso : slotOK s = false := by simp [slotOK, ht]
        have HO := Lib.hid hso; have HT := Lib.hid ht
        clear hso ht
        go_wp2_with (first
          | (go_at_call 53; refine (refType_any _ _ hz1).mono ?_; rw [HT.out]; rintro e1 w1 ⟨rfl, rfl⟩))
        go_ret
        exact ⟨ret_bool (by rw [H2.out HO.out]), hBr.alloc hBr.size _⟩
      · have hso : slotOK s = false := by simp [slotOK, hm]
        have HO := Lib.hid hso; have HT := Lib.hid ht; have HM := Lib.hid hm
        clear hso ht hm
        go_wp2_with (first
          | (go_at_call 53; refine (refType_any _ _ hz1).mono ?_; rw [HT.out]; rintro e1 w1 ⟨rfl, rfl⟩)
          | (go_at_call 44; refine (risName_any _ _ hz2).mono ?_; rw [HM.out]; rintro e1 w1 ⟨rfl, rfl⟩))
        go_ret
        exact ⟨ret_bool (by rw [H2.out HO.out]), hBr.alloc hBr.size _⟩
      · have hso : slotOK s = true := by simp [slotOK, ht, hm]
        have HO := Lib.hid hso; have HT := Lib.hid ht; have HM := Lib.hid hm
        clear hso ht hm
        go_wp2_with (first
          | (go_at_call 53; refine (refType_any _ _ hz1).mono ?_; rw [HT.out]; rintro e1 w1 ⟨rfl, rfl⟩)
          | (go_at_call 44; refine (risName_any _ _ hz2).mono ?_; rw [HM.out]; rintro e1 w1 ⟨rfl, rfl⟩))
        go_roundw
        case rel => exact ⟨j + 1, by omega, by go_num, hBr.alloc hBr.size _, by rw [Hid, HS.out]; exact HO.out⟩
        case measure => simp [intOf]; omega
    · go_wp2_with fail
      go_ret
      refine ⟨ret_bool ?_, hBr⟩
      have h1 := Hall.out
      rw [List.take_of_length_le (by have := HN.out; omega)] at h1
      rw [h1]
end Go.Proofs.YtapdgeajbnbdjaaDoor
