/- show.page.lay and line. -/
import Derived.Test.YtapdgeajbnbdjaaDoorPage1
import Derived.Defers
namespace Go.Proofs.YtapdgeajbnbdjaaDoor
open Go.RowKit

def cat (ss : List ByteArray) : List UInt8 := ss.flatMap (·.data.toList)
theorem cat_append (a b : List ByteArray) : cat (a ++ b) = cat a ++ cat b := by simp [cat]
theorem cat_take (ss : List ByteArray) (k : Nat) (s : ByteArray) (hs : ss[k]? = some s) : (cat (ss.take k)).length + s.size ≤ (cat ss).length := by
  have h : ss = ss.take k ++ (s :: ss.drop (k + 1)) := by
    rw [← List.getElem?_eq_some_iff.1 hs |>.2, ← List.drop_eq_getElem_cons, List.take_append_drop]
  have h2 : cat ss = cat (ss.take k) ++ (s.data.toList ++ cat (ss.drop (k + 1))) := by
    conv => lhs; rw [h, cat_append]
    simp [cat]
  rw [h2, List.length_append, List.length_append]
  have : s.data.toList.length = s.size := rfl
  omega

set_option maxRecDepth 100000 in
set_option maxHeartbeats 1000000 in
theorem lay_any (B b bk : Nat) (l : List UInt8) (t : Int) (ss : List ByteArray) (w : World) (h : PageAt B b l t w) (hrow : w.heap[bk]? = some (.cells (ss.map Value.string).toArray 9 (0, 0))) (hne : bk ≠ b) (hm : ss.length ≤ 2000000) (hlen : l.length + (cat ss).length ≤ 140737488355328) :
    Calls Tryd.prog 23 #[.pointer (some ⟨b, 0, none⟩), .slice (some ⟨bk, 0, none⟩) ss.length ss.length] w fun e w' => e = .returned (.tuple #[]) ∧ PageAt B b (l ++ cat ss) t w' ∧ Kept B b w w' := by
  have HH := Lib.hid h; have HR := Lib.hid hrow; have HN := Lib.hid hne; have HL := Lib.hid hlen
  clear h hrow hne hlen
  obtain ⟨n, hn⟩ : ∃ n, n = ss.length := ⟨_, rfl⟩
  rw [← hn] at hm ⊢
  have Hn := Lib.hid hn; clear hn
  go_enter Tryd.func23, Tryd.ntmps23
  go_wp2_with fail
  go_loopw [5, 8] (fun _ i wr => ∃ k : Nat, k ≤ n ∧ i = .int .i64 k ∧ PageAt B b (l ++ cat (ss.take k)) t wr ∧ Kept B b w wr) (fun _ i _ => n - (intOf i).toNat)
  case atStart => exact ⟨0, Nat.zero_le _, rfl, by simpa [cat] using HH.out, Kept.refl _ _ _⟩
  case round =>
    obtain ⟨k, hk, rfl, hp, hkept⟩ := hrel
    have HP := Lib.hid hp; have HK := Lib.hid hkept
    clear hp hkept
    by_cases hlt : k < n
    · obtain ⟨s, hs⟩ : ∃ s, ss[k]? = some s := ⟨ss[k]'(by have := Hn.out; omega), List.getElem?_eq_getElem _⟩
      have hrow' : wr.heap[bk]? = some (.cells (ss.map Value.string).toArray 9 (0, 0)) := HK.out.2 bk _ HR.out (by intro e; injection e with e; exact HN.out e) (by intro c fz e; injection e with _ e2; exact absurd e2 (by decide))
      have hc : wr.cell? ⟨bk, k, none⟩ = some (.string s) := by
        rw [Lib.cell_of_heap hrow']
        simp [hs]
      have hsz : (l ++ cat (ss.take k)).length + s.size ≤ 140737488355328 := by
        have h1 := HL.out
        have h2 := cat_take ss k s hs
        rw [List.length_append]
        omega
      have hcat : (l ++ cat (ss.take k)) ++ s.data.toList = l ++ cat (ss.take (k + 1)) := by
        rw [List.append_assoc, List.take_add_one, hs, cat_append]; simp [cat]
      have HSZ := Lib.hid hsz; have HC := Lib.hid hcat
      clear hs hrow' hsz hcat
      go_wp2_with (go_at_call 48; refine (writeString_any B b _ t s wr HP.out HSZ.out).mono ?_; rintro e w1 ⟨rfl, hp1, hk1⟩)
      go_roundw
      case rel => exact ⟨k + 1, by omega, by go_num, by rw [← HC.out]; exact hp1, HK.out.trans hk1⟩
      case measure => simp [intOf]; omega
    · go_wp2_with fail
      go_end0
      have he : ss.take k = ss := List.take_of_length_le (by have := Hn.out; omega)
      have hp := HP.out
      rw [he] at hp
      exact ⟨rfl, hp, HK.out⟩

set_option maxRecDepth 100000 in
set_option maxHeartbeats 1000000 in
theorem lay_deferred (B b bk : Nat) (l : List UInt8) (t : Int) (ss : List ByteArray) (w : World) (u : FrameMode) (h : PageAt B b l t w) (hrow : w.heap[bk]? = some (.cells (ss.map Value.string).toArray 9 (0, 0))) (hne : bk ≠ b) (hm : ss.length ≤ 2000000) (hlen : l.length + (cat ss).length ≤ 140737488355328) :
    CallsD Tryd.prog 23 #[.pointer (some ⟨b, 0, none⟩), .slice (some ⟨bk, 0, none⟩) ss.length ss.length] u w fun e u' w' => u' = u ∧ (e = .returned (.tuple #[]) ∧ PageAt B b (l ++ cat ss) t w' ∧ Kept B b w w') := by
  have HH := Lib.hid h; have HR := Lib.hid hrow; have HN := Lib.hid hne; have HL := Lib.hid hlen
  clear h hrow hne hlen
  obtain ⟨n, hn⟩ : ∃ n, n = ss.length := ⟨_, rfl⟩
  rw [← hn] at hm ⊢
  have Hn := Lib.hid hn; clear hn
  go_enter_d Tryd.func23, Tryd.ntmps23
  go_wp2_with fail
  go_loopw [5, 8] (fun _ i wr => ∃ k : Nat, k ≤ n ∧ i = .int .i64 k ∧ PageAt B b (l ++ cat (ss.take k)) t wr ∧ Kept B b w wr) (fun _ i _ => n - (intOf i).toNat)
  case atStart => exact ⟨0, Nat.zero_le _, rfl, by simpa [cat] using HH.out, Kept.refl _ _ _⟩
  case round =>
    obtain ⟨k, hk, rfl, hp, hkept⟩ := hrel
    have HP := Lib.hid hp; have HK := Lib.hid hkept
    clear hp hkept
    by_cases hlt : k < n
    · obtain ⟨s, hs⟩ : ∃ s, ss[k]? = some s := ⟨ss[k]'(by have := Hn.out; omega), List.getElem?_eq_getElem _⟩
      have hrow' : wr.heap[bk]? = some (.cells (ss.map Value.string).toArray 9 (0, 0)) := HK.out.2 bk _ HR.out (by intro e; injection e with e; exact HN.out e) (by intro c fz e; injection e with _ e2; exact absurd e2 (by decide))
      have hc : wr.cell? ⟨bk, k, none⟩ = some (.string s) := by
        rw [Lib.cell_of_heap hrow']
        simp [hs]
      have hsz : (l ++ cat (ss.take k)).length + s.size ≤ 140737488355328 := by
        have h1 := HL.out
        have h2 := cat_take ss k s hs
        rw [List.length_append]
        omega
      have hcat : (l ++ cat (ss.take k)) ++ s.data.toList = l ++ cat (ss.take (k + 1)) := by
        rw [List.append_assoc, List.take_add_one, hs, cat_append]; simp [cat]
      have HSZ := Lib.hid hsz; have HC := Lib.hid hcat
      clear hs hrow' hsz hcat
      go_wp2_with (go_at_call 48; refine (writeString_any B b _ t s wr HP.out HSZ.out).mono ?_; rintro e w1 ⟨rfl, hp1, hk1⟩)
      go_roundw
      case rel => exact ⟨k + 1, by omega, by go_num, by rw [← HC.out]; exact hp1, HK.out.trans hk1⟩
      case measure => simp [intOf]; omega
    · go_wp2_with fail
      go_end0
      have he : ss.take k = ss := List.take_of_length_le (by have := Hn.out; omega)
      have hp := HP.out
      rw [he] at hp
      exact ⟨rfl, hp, HK.out⟩
end Go.Proofs.YtapdgeajbnbdjaaDoor
