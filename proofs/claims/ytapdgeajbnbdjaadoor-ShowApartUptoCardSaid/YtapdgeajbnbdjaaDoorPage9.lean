/- show.page.line, the tabs, show.page.block. -/
import Derived.Test.YtapdgeajbnbdjaaDoorText
import Derived.Deep.LoopGhost
namespace Go.Proofs.YtapdgeajbnbdjaaDoor
open Go.RowKit

set_option maxRecDepth 100000 in
set_option maxHeartbeats 1000000 in
theorem lay_nil (a : Addr) (w : World) : Calls Tryd.prog 23 #[.pointer (some a), .slice none 0 0] w fun e w' => e = .returned (.tuple #[]) ∧ w' = w := by
  go_enter Tryd.func23, Tryd.ntmps23
  go_wp2_with fail
  go_loopw [5, 8] (fun _ i wr => i = .int .i64 0 ∧ wr = w) (fun _ _ _ => 0)
  case atStart => exact ⟨rfl, rfl⟩
  case round =>
    obtain ⟨rfl, rfl⟩ := hrel
    go_wp2_with fail
    go_end0
    exact ⟨rfl, rfl⟩

theorem repeat_tabs (t : Nat) : Lib.repeatL (⟨#[9]⟩ : ByteArray).data.toList t = tabsT t := by
  unfold tabsT
  induction t with
  | zero => rfl
  | succ t ih => rw [Lib.repeatL, ih, List.replicate_succ]; rfl

theorem PageAt.tabs {B b : Nat} {l : List UInt8} {t : Int} {w : World} (h : PageAt B b l t w) : w.cell? ⟨b, 2, none⟩ = some (.int .i64 t) := by
  rcases h with ⟨_, v, hb, _⟩ | ⟨_, v, hb, _⟩ <;> (rw [Lib.cell_of_heap hb]; rfl)
theorem PageAt.open_ {B b : Nat} {l : List UInt8} {t : Int} {w : World} (h : PageAt B b l t w) : w.frozen? ⟨b, 2, none⟩ = false := by
  rcases h with ⟨_, v, hb, _⟩ | ⟨_, v, hb, _⟩ <;> exact Lib.frozen_of_heap hb 2
theorem PageIs.set {B b : Nat} {l : List UInt8} {t : Int} {p : Value} {w : World} (h : PageIs B b l t p w) (t' : Int) : PageIs B b l t' p (w.setCell ⟨b, 2, none⟩ (.int .i64 t')) := by
  obtain ⟨hB, v, hb, hown, hne⟩ := h
  refine ⟨hB, v, ?_, ownsRow_setCell_other hown hne _, hne⟩
  simp [World.setCell, Array.getElem?_modify, hb]
theorem PageAt.set {B b : Nat} {l : List UInt8} {t : Int} {w : World} (h : PageAt B b l t w) (t' : Int) : PageAt B b l t' (w.setCell ⟨b, 2, none⟩ (.int .i64 t')) := h.elim (fun h => .inl (h.set t')) (fun h => .inr (h.set t'))
theorem Kept.set {B b : Nat} {x y : World} (h : Kept B b x y) (hB : B ≤ b) (v : Value) : Kept B b x (y.setCell ⟨b, 2, none⟩ v) :=
  ⟨h.1.setCell (p := ⟨b, 2, none⟩) hB _, h.2.setCell ⟨b, 2, none⟩ rfl _⟩
theorem PageAt.low {B b : Nat} {l : List UInt8} {t : Int} {w : World} (h : PageAt B b l t w) : B ≤ b := by rcases h with h | h <;> exact h.1

set_option maxRecDepth 100000 in
set_option maxHeartbeats 1000000 in
theorem line_any (B b bk : Nat) (l : List UInt8) (t : Nat) (ss : List ByteArray) (w : World) (h : PageAt B b l t w) (hrow : w.heap[bk]? = some (.cells (ss.map Value.string).toArray 9 (0, 0))) (hne : bk ≠ b) (hm : ss.length ≤ 2000000) (ht : t ≤ 4000000)
    (hlen : l.length + (tabsT t).length + (cat ss).length ≤ 140737488355328) :
    Calls Tryd.prog 24 #[.pointer (some ⟨b, 0, none⟩), .slice (some ⟨bk, 0, none⟩) ss.length ss.length] w fun e w' => e = .returned (.tuple #[]) ∧ PageAt B b (l ++ tabsT t ++ cat ss) t w' ∧ Kept B b w w' := by
  have hbs1 := buildOne
  have hc2 := h.tabs
  have hlt := h.lt
  have HH := Lib.hid h; have HR := Lib.hid hrow; have HN := Lib.hid hne; have HL := Lib.hid hlen; have HM := Lib.hid hm
  clear h hrow hne hlen hm
  obtain ⟨n, hn⟩ : ∃ n, n = ss.length := ⟨_, rfl⟩
  rw [← hn]
  have Hn := Lib.hid hn; clear hn
  go_enter Tryd.func24, Tryd.ntmps24
  go_wp2_with fail
  refine (Tryd.strings_Repeat ⟨#[9]⟩ t _ (by omega) (by show 1 * t ≤ _; omega)).mono ?_; rintro e w1 ⟨rfl, hb⟩
  rw [repeat_tabs]
  have hp1 := HH.out.below hb
  have hk1 := Kept.of_below (b := b) hb HH.out.le
  have hr1 := below_heap hb HR.out
  have HP1 := Lib.hid hp1; have HK1 := Lib.hid hk1; have HR1 := Lib.hid hr1
  clear hb hp1 hk1 hr1
  go_wp2_with fail
  refine (lay_any B b w1.heap.size l t [⟨(tabsT t).toArray⟩] _ (HP1.out.alloc _) (by simpa using new_at w1 _) (by have := HP1.out.lt; omega) (by simp) (by have := HL.out; simp [cat] at this ⊢; omega)).mono ?_; rintro e w2 ⟨rfl, hp, hk⟩
  have hr2 := hk.heap (old_at HR1.out _) (by decide) HN.out
  have HR2 := Lib.hid hr2
  have HP2 := Lib.hid hp
  have HK2 := Lib.hid ((HK1.out.alloc HP1.out.le _).trans hk)
  clear hp hk hr2
  go_wp2_with fail
  rw [Hn.out]
  refine (lay_any B b bk _ t ss _ HP2.out HR2.out HN.out HM.out (by have := HL.out; simp [cat] at this ⊢; omega)).mono ?_; rintro e w3 ⟨rfl, hp, hk⟩
  have HP3 := Lib.hid hp
  have HK3 := Lib.hid (HK2.out.trans hk)
  clear hp hk
  go_wp2_with fail
  go_end0
  refine ⟨rfl, ?_, HK3.out⟩
  simpa [cat] using HP3.out

set_option maxRecDepth 100000 in
set_option maxHeartbeats 1000000 in
theorem line_nil (B b : Nat) (l : List UInt8) (t : Nat) (w : World) (h : PageAt B b l t w) (ht : t ≤ 4000000) (hlen : l.length + (tabsT t).length ≤ 140737488355328) :
    Calls Tryd.prog 24 #[.pointer (some ⟨b, 0, none⟩), .slice none 0 0] w fun e w' => e = .returned (.tuple #[]) ∧ PageAt B b (l ++ tabsT t) t w' ∧ Kept B b w w' := by
  have hbs1 := buildOne
  have hc2 := h.tabs
  have hlt := h.lt
  have HH := Lib.hid h; have HL := Lib.hid hlen
  clear h hlen
  go_enter Tryd.func24, Tryd.ntmps24
  go_wp2_with fail
  refine (Tryd.strings_Repeat ⟨#[9]⟩ t _ (by omega) (by show 1 * t ≤ _; omega)).mono ?_; rintro e w1 ⟨rfl, hb⟩
  rw [repeat_tabs]
  have hp1 := HH.out.below hb
  have hk1 := Kept.of_below (b := b) hb HH.out.le
  have HP1 := Lib.hid hp1; have HK1 := Lib.hid hk1
  clear hb hp1 hk1
  go_wp2_with fail
  refine (lay_any B b w1.heap.size l t [⟨(tabsT t).toArray⟩] _ (HP1.out.alloc _) (by simpa using new_at w1 _) (by have := HP1.out.lt; omega) (by simp) (by have := HL.out; simp [cat] at this ⊢; omega)).mono ?_; rintro e w2 ⟨rfl, hp, hk⟩
  have HP2 := Lib.hid hp
  have HK2 := Lib.hid ((HK1.out.alloc HP1.out.le _).trans hk)
  clear hp hk
  go_wp2_with fail
  refine (lay_nil _ _).mono ?_; rintro e w3 ⟨rfl, rfl⟩
  go_wp2_with fail
  go_end0
  refine ⟨rfl, ?_, HK2.out⟩
  simpa [cat] using HP2.out

theorem St.R.cells {w : World} {s : St} {c : Array Value} (h : St.R w s c) : ∃ A0 n0 cap0 A1 n1 cap1 A2 n2 cap2, c = #[.int .i64 s.kind, .int .i64 s.num, .string s.type, .string s.name, .slice A0 n0 cap0, .slice A1 n1 cap1, .slice A2 n2 cap2] := by
  cases s with
  | mk k n t s es a b =>
    simp only [St.R] at h
    obtain ⟨ev, av, bv, rfl, _, _, _, _, ⟨_, ⟨A0, cap0, rfl, _⟩, _⟩, ⟨_, ⟨A1, cap1, rfl, _⟩, _⟩, _, ⟨A2, cap2, rfl, _⟩, _⟩ := h
    exact ⟨_, _, _, _, _, _, _, _, _, rfl⟩

/-- what page.stmt does for one statement -/
def WSt (B b : Nat) (w0 : World) (s : St) : Prop :=
  ∀ (c : Array Value) (W : World) (l : List UInt8) (t : Nat), St.R w0 s c → Below B w0 W → PageAt B b l t W → l.length + (stT t s).length ≤ 140737488355328 → t + s.bulk ≤ 4000000 →
    Calls Tryd.prog 51 #[.pointer (some ⟨b, 0, none⟩), .agg c] W fun x w' => x = .returned (.tuple #[]) ∧ PageAt B b (l ++ stT t s) t w' ∧ Kept B b W w'
def WBl (B b : Nat) (w0 : World) (ls : List St) : Prop :=
  ∀ (v : Value) (W : World) (l : List UInt8) (t : Nat), Sts.V w0 ls v → Below B w0 W → PageAt B b l t W → l.length + (blockT t ls).length ≤ 140737488355328 → t + Sts.bulk ls ≤ 4000000 →
    Calls Tryd.prog 26 #[.pointer (some ⟨b, 0, none⟩), v] W fun x w' => x = .returned (.tuple #[]) ∧ PageAt B b (l ++ blockT t ls) t w' ∧ Kept B b W w'

theorem stsT_le (t : Nat) (l : List St) (k : Nat) (s : St) (h : l[k]? = some s) : (stsT t (l.take k)).length + (stT t s).length ≤ (stsT t l).length := by
  have h1 : l = l.take k ++ (s :: l.drop (k + 1)) := by
    rw [← List.getElem?_eq_some_iff.1 h |>.2, ← List.drop_eq_getElem_cons, List.take_append_drop]
  have h2 : stsT t l = stsT t (l.take k) ++ (stT t s ++ stsT t (l.drop (k + 1))) := by
    conv => lhs; rw [h1]
    rw [stsT_flat, stsT_flat, stsT_flat]; simp
  rw [h2, List.length_append, List.length_append]
  omega

set_option maxRecDepth 100000 in
set_option maxHeartbeats 4000000 in
theorem block_step (B b : Nat) (w0 : World) (ls : List St) (hB : w0.heap.size ≤ B) (ih : ∀ s, s ∈ ls → WSt B b w0 s) : WBl B b w0 ls := by
  intro v w l t hv hw hp hlen ht
  obtain ⟨xs, ⟨A, cap, rfl, hc1, hc2, _, hrows⟩, hR⟩ := hv
  have hR' := (Sts.R.all2 ls xs).1 hR
  have hlx := hR'.len
  obtain ⟨n, hn⟩ : ∃ n, n = xs.length := ⟨_, rfl⟩
  rw [← hn] at hc1 ⊢
  unfold maxLen at hc2
  have hbs := buildOne
  unfold blockT at hlen
  have hlen' : l.length + 3 + (stsT (t + 1) ls).length + t ≤ 140737488355328 := by
    have := tabsT_len t
    simp only [List.length_append, List.length_cons, List.length_nil] at hlen
    omega
  have HX := Lib.hid hR'; have HN := Lib.hid (And.intro hn hlx); have HP := Lib.hid hp; have HI := Lib.hid ih; have HL := Lib.hid hlen'; have HR := Lib.hid hrows; have HW := Lib.hid hw; have HB := Lib.hid hB; have HT := Lib.hid ht
  have htt : t ≤ 4000000 := by omega
  clear hR hR' hlx hn hp ih hlen hlen' hrows hw hB ht
  go_enter Tryd.func26, Tryd.ntmps26
  go_wp2_with fail
  refine (lay_any B b w.heap.size l t [⟨#[123, 10]⟩] _ (HP.out.alloc _) (by simpa using new_at w _) (by have := HP.out.lt; omega) (by simp) (by have := HL.out; simp [cat]; omega)).mono ?_; rintro e w1 ⟨rfl, hp, hk⟩
  have q1 := hp.tabs
  have f1 := hp.open_
  have x1 := hp.lt
  have HP1 := Lib.hid hp
  have HK1 := Lib.hid (((Kept.refl B b w).alloc HP.out.le _).trans hk)
  clear hp hk
  go_wp2_with fail
  have HP2 := Lib.hid (HP1.out.set ((t : Int) + 1))
  have HK2 := Lib.hid (HK1.out.set HP1.out.low (.int .i64 ((t : Int) + 1)))
  go_loopw [5, 18] (fun _ i wr => ∃ k : Nat, k ≤ n ∧ i = .int .i64 k ∧ PageAt B b (l ++ [123, 10] ++ stsT (t + 1) (ls.take k)) ((t : Int) + 1) wr ∧ Kept B b w wr) (fun _ i _ => n - (intOf i).toNat)
  case atStart => exact ⟨0, Nat.zero_le _, rfl, by simpa [cat, stsT] using HP2.out, HK2.out⟩
  case round =>
    obtain ⟨k, hk, rfl, hpk, hkept⟩ := hrel
    have HP3 := Lib.hid hpk; have HK3 := Lib.hid hkept
    clear hpk hkept
    have hbl := HP3.out.lt
    have hBs := HP3.out.le
    by_cases hlt : k < n
    · have hn1 := HN.out.1
      have hn2 := HN.out.2
      obtain ⟨x, hx⟩ : ∃ x, xs[k]? = some x := ⟨xs[k]'(by omega), List.getElem?_eq_getElem _⟩
      obtain ⟨s, hss, hRs⟩ := HX.out.at_ k x hx
      have hwr : Below B w0 wr := HW.out.trans HK3.out.1
      obtain ⟨bk, off, c0, c1, c2, c3, c4, c5, c6, rfl, _, hxx, hq0, hq1, hq2, hq3, hq4, hq5, hq6⟩ := (HR.out.below hwr HB.out).at7 hx
      have HRs := Lib.hid hRs
      obtain ⟨A7, n7, cap7, A8, n8, cap8, A9, n9, cap9, hcs⟩ := hRs.cells
      rw [hxx] at hcs
      obtain ⟨rfl, rfl, rfl, rfl, rfl, rfl, rfl⟩ := arr7_inj hcs
      subst hxx
      clear hcs
      have hih := HI.out s (List.mem_of_getElem? hss)
      have hsp := stsT_le (t + 1) ls k s hss
      have htk := stsT_take (t + 1) ls k s hss
      have hbu := Sts.bulk_le (List.mem_of_getElem? hss)
      have HS := Lib.hid hsp; have HTK := Lib.hid htk; have HIH := Lib.hid hih; have HWR := Lib.hid hwr; have HBU := Lib.hid hbu
      clear hx hss hRs hih hsp htk hn1 hn2 hwr hbu
      go_wp2_with fail
      refine (HIH.out _ _ _ (t + 1) HRs.out (HWR.out.alloc (by have := HB.out; omega) _) (HP3.out.alloc _) (by have h1 := HS.out; have h2 := HL.out; simp only [List.length_append, List.length_cons, List.length_nil]; omega) (by have := HBU.out; have := HT.out; omega)).mono ?_; rintro e w2 ⟨rfl, hp2, hk2⟩
      have HP4 := Lib.hid hp2
      have HK4 := Lib.hid (HK3.out.trans (((Kept.refl B b wr).alloc hBs _).trans hk2))
      clear hp2 hk2
      go_wp2_with fail
      go_roundw
      case rel => exact ⟨k + 1, by omega, by go_num, by rw [HTK.out]; simpa [List.append_assoc] using HP4.out, HK4.out⟩
      case measure => simp [intOf]; omega
    · have htake : ls.take k = ls := List.take_of_length_le (by have := HN.out; omega)
      have q3 := HP3.out.tabs
      have f3 := HP3.out.open_
      have HTA := Lib.hid htake; clear htake
      go_wp2_with fail
      have HP4 := Lib.hid (HP3.out.set (t : Int))
      have HK4 := Lib.hid (HK3.out.set HP3.out.low (.int .i64 (t : Int)))
      refine (line_any B b _ _ t [⟨#[125]⟩] _ (HP4.out.alloc _) (by have := new_at (wr.setCell ⟨b, 2, none⟩ (.int .i64 (t : Int))) (.cells #[.string ⟨#[125]⟩] 9); simpa using this) (by omega) (by simp) htt (by have := HL.out; have := tabsT_len t; rw [HTA.out]; simp [cat]; omega)).mono ?_; rintro e w2 ⟨rfl, hp, hk⟩
      have HP5 := Lib.hid hp
      have HK5 := Lib.hid (HK4.out.trans (((Kept.refl B b _).alloc HP4.out.le _).trans hk))
      clear hp hk
      go_wp2_with fail
      go_end0
      refine ⟨rfl, ?_, HK5.out⟩
      have := HP5.out
      rw [HTA.out] at this
      simpa [cat, blockT] using this
end Go.Proofs.YtapdgeajbnbdjaaDoor
