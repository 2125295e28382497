/- show.stmt and show.stmts, for every tree. -/
import Derived.Test.YtapdgeajbnbdjaaDoorShow3
namespace Go.Proofs.YtapdgeajbnbdjaaDoor
open Go.RowKit

mutual
def stmtOK : St → Bool
  | .mk k n t s es a b => stHead k n t s es.length a.length b.length && (exsOK es && ((match es with | [] => true | e :: _ => firstK k e.kind) && (stsOK a && stsOK b)))
def stsOK : List St → Bool
  | [] => true
  | s :: ss => stmtOK s && stsOK ss
end
theorem stsOK_all : ∀ l : List St, stsOK l = l.all stmtOK
  | [] => rfl
  | e :: es => by simp [stsOK, stsOK_all es]

theorem stmt_f4_callable : Callable 83 := fun _ _ => by kernel_rfl
theorem stmts_f1_callable : Callable 57 := fun _ _ => by kernel_rfl

set_option maxHeartbeats 400000 in
theorem stmt_f4 (e : Ex) (c : Array Value) (w : World) (he : Env w) (h : Ex.R w e c) :
    Calls Tryd.prog 83 #[.agg c] w fun x w' => x = .returned (.bool (!exprOK e)) ∧ Below w.heap.size w w' := by
  have H := fun o => expr_any e.bulk e c (w.alloc o) (Nat.le_refl _) (he.below ((Below.refl _ w).alloc (Nat.le_refl _) o) (Nat.le_refl _)) (Ex.R.below ((Below.refl _ w).alloc (Nat.le_refl _) o) (Nat.le_refl _) e c h)
  obtain ⟨A, n, cap, rfl⟩ := h.cells
  have HH := Lib.hid H; clear H h
  go_enter Tryd.func83, Tryd.ntmps83
  go_wp2_with (first
    | (go_at_call 15; refine (HH.out _).mono ?_; rintro e w1 ⟨rfl, hb1⟩))
  go_ret
  exact ⟨rfl, ((Below.refl _ _).alloc (Nat.le_refl _) _).trans (hb1.mono (by simp))⟩

/-- show.stmts out of show.stmt's for each -/
theorem stmts_of (l : List St) (v : Value) (w : World) (he : Env w) (hv : Sts.V w l v)
    (h : ∀ (e : St) (c : Array Value) (W : World), e ∈ l → Env W → St.R W e c → Calls Tryd.prog 58 #[.agg c] W fun x w' => x = .returned (.bool (stmtOK e)) ∧ Below W.heap.size W w') :
    Calls Tryd.prog 32 #[v] w fun x w' => x = .returned (.bool (stsOK l)) ∧ Below w.heap.size w w' := by
  obtain ⟨xs, h1, h2⟩ := hv
  have h2' := (Sts.R.all2 l xs).1 h2
  have hask : Asks 57 #[] w xs (l.map fun s => !stmtOK s) := by
    intro i x b W hx hb hB
    obtain ⟨s, hs, hR⟩ := h2'.at_ i x hx
    rw [List.getElem?_map, hs] at hb
    obtain rfl : (!stmtOK s) = b := by simpa using hb
    have hR' := fun o => St.R.below (hB.trans ((Below.refl _ W).alloc (Nat.le_refl _) o |>.mono hB.size)) (Nat.le_refl _) s x hR
    have H := fun o => h s x (W.alloc o) (List.mem_of_getElem? hs) (he.below (hB.trans ((Below.refl _ W).alloc (Nat.le_refl _) o |>.mono hB.size)) (Nat.le_refl _)) (hR' o)
    cases s with
    | mk k n t s es a b =>
      simp only [St.R] at hR
      obtain ⟨ev, av, bv, rfl, _, _, _, _, ⟨_, ⟨A0, cap0, rfl, _⟩, _⟩, ⟨_, ⟨A1, cap1, rfl, _⟩, _⟩, _, ⟨A2, cap2, rfl, _⟩, _⟩ := hR
      have HH := Lib.hid H; clear H hR'
      show Calls Tryd.prog 57 #[.agg _] W _
      go_enter Tryd.func57, Tryd.ntmps57
      go_wp2_with (first
        | (go_at_call 58; refine (HH.out _).mono ?_; rintro e w1 ⟨rfl, hb1⟩))
      go_ret
      exact ⟨rfl, ((Below.refl _ _).alloc (Nat.le_refl _) _).trans (hb1.mono (by simp))⟩
  have H := Lib.hid (containsFunc_Stmt v xs 57 #[] w _ stmts_f1_callable (by simp [h2'.len]) h1 hask)
  clear hask h2 h2' h
  obtain ⟨A, cap, rfl, _⟩ := h1
  go_enter Tryd.func32, Tryd.ntmps32
  go_wp2_with (first
    | (go_at_call 56; refine H.out.mono ?_; rw [any_not, ← stsOK_all]; rintro e w1 ⟨rfl, hb1⟩))
  go_ret
  exact ⟨ret_bool (by simp), hb1⟩

theorem St.bulk_parts (k n : Int) (t s : ByteArray) (es : List Ex) (a b : List St) :
    t.size + s.size + Exs.bulk es + Sts.bulk a + Sts.bulk b < St.bulk (.mk k n t s es a b) := by simp only [St.bulk]; omega

theorem stmt_step (k n : Int) (t s : ByteArray) (es : List Ex) (a b : List St) (c : Array Value) (w : World) (he : Env w) (hR : St.R w (.mk k n t s es a b) c) (hbulk : St.bulk (.mk k n t s es a b) ≤ 2000000)
    (h1 : ∀ (W : World) (v : Value), Env W → Sts.V W a v → Calls Tryd.prog 32 #[v] W fun x w' => x = .returned (.bool (stsOK a)) ∧ Below W.heap.size W w')
    (h2 : ∀ (W : World) (v : Value), Env W → Sts.V W b v → Calls Tryd.prog 32 #[v] W fun x w' => x = .returned (.bool (stsOK b)) ∧ Below W.heap.size W w') :
    Calls Tryd.prog 58 #[.agg c] w fun x w' => x = .returned (.bool (stmtOK (.mk k n t s es a b))) ∧ Below w.heap.size w w' := by
  have hpb := St.bulk_parts k n t s es a b
  have hle := Exs.len_le es
  have hla := Sts.len_le a
  have hlb := Sts.len_le b
  simp only [St.R] at hR
  obtain ⟨ev, av, bv, rfl, _, _, _, _, ⟨xs, hx1, hx2⟩, hav, hbv⟩ := hR
  have hav' : Sts.V w a av := hav
  have hbv' : Sts.V w b bv := hbv
  have hx2' := (Exs.R.all2 es xs).1 hx2
  obtain ⟨ys, ⟨A1, cap1, rfl, _⟩, hys⟩ := hav
  obtain ⟨zs, ⟨A2, cap2, rfl, _⟩, hzs⟩ := hbv
  have hly := ((Sts.R.all2 a ys).1 hys).len
  have hlz := ((Sts.R.all2 b zs).1 hzs).len
  have hlx := hx2'.len
  have HE : Hid (∀ W, Below w.heap.size w W → Env W) := fun W hb => he.below hb (Nat.le_refl _)
  have hask : ∀ W, Below w.heap.size w W → Asks 83 #[] W xs (es.map fun e => !exprOK e) := by
    intro W hW i x bb W' hx hb hB
    obtain ⟨e, hei, hR⟩ := hx2'.at_ i x hx
    rw [List.getElem?_map, hei] at hb
    obtain rfl : (!exprOK e) = bb := by simpa using hb
    have hB' := hW.trans (hB.mono hW.size)
    exact stmt_f4 e x W' (he.below hB' (Nat.le_refl _)) (Ex.R.below hB' (Nat.le_refl _) e x hR)
  have HC : Hid (∀ W, Below w.heap.size w W → Calls Tryd.prog 37 #[ev, .func (.func 83) #[] #[]] W fun e w' => e = .returned (.bool (!exsOK es)) ∧ Below W.heap.size W w') := fun W hb => by
    have := containsFunc_Expr ev xs 83 #[] W _ stmt_f4_callable (by simp [hlx]) (hx1.below hb (Nat.le_refl _)) (hask W hb)
    rw [any_not, ← exsOK_all] at this
    exact this
  have H1 : Hid (∀ W, Below w.heap.size w W → Calls Tryd.prog 32 #[.slice A1 ys.length cap1] W fun e w' => e = .returned (.bool (stsOK a)) ∧ Below W.heap.size W w') := fun W hb => h1 W _ (he.below hb (Nat.le_refl _)) (hav'.below hb (Nat.le_refl _))
  have H2 : Hid (∀ W, Below w.heap.size w W → Calls Tryd.prog 32 #[.slice A2 zs.length cap2] W fun e w' => e = .returned (.bool (stsOK b)) ∧ Below W.heap.size W w') := fun W hb => h2 W _ (he.below hb (Nat.le_refl _)) (hbv'.below hb (Nat.le_refl _))
  obtain ⟨A0, cap0, rfl, _, _, _, hrows⟩ := hx1
  rw [hlx, hly, hlz] at *
  cases es with
  | nil =>
    rw [show stmtOK (.mk k n t s [] a b) = (stHead k n t s ([] : List Ex).length a.length b.length && (exsOK [] && (true && (stsOK a && stsOK b)))) from by simp only [stmtOK]]
    have hm0 : ([] : List Ex).length < 1 := by simp
    by_cases hk : 1 ≤ k ∧ k ≤ 7
    · have hk' : k = 1 ∨ k = 2 ∨ k = 3 ∨ k = 4 ∨ k = 5 ∨ k = 6 ∨ k = 7 := by omega
      rcases hk' with rfl | rfl | rfl | rfl | rfl | rfl | rfl
      · exact stmt_1_nil n t s A0 A1 A2 _ cap0 _ cap1 _ cap2 _ _ _ w HE (by omega) (by omega) (by omega) (by omega) (by omega) hm0 HC H1 H2
      · exact stmt_2_nil n t s A0 A1 A2 _ cap0 _ cap1 _ cap2 _ _ _ w HE (by omega) (by omega) (by omega) (by omega) (by omega) hm0 HC H1 H2
      · exact stmt_3_nil n t s A0 A1 A2 _ cap0 _ cap1 _ cap2 _ _ _ w HE (by omega) (by omega) (by omega) (by omega) (by omega) hm0 HC H1 H2
      · exact stmt_4_nil n t s A0 A1 A2 _ cap0 _ cap1 _ cap2 _ _ _ w HE (by omega) (by omega) (by omega) (by omega) (by omega) hm0 HC H1 H2
      · exact stmt_5_nil n t s A0 A1 A2 _ cap0 _ cap1 _ cap2 _ _ _ w HE (by omega) (by omega) (by omega) (by omega) (by omega) hm0 HC H1 H2
      · exact stmt_6_nil n t s A0 A1 A2 _ cap0 _ cap1 _ cap2 _ _ _ w HE (by omega) (by omega) (by omega) (by omega) (by omega) hm0 HC H1 H2
      · exact stmt_7_nil n t s A0 A1 A2 _ cap0 _ cap1 _ cap2 _ _ _ w HE (by omega) (by omega) (by omega) (by omega) (by omega) hm0 HC H1 H2
    · exact stmt_x_nil k (by omega) n t s A0 A1 A2 _ cap0 _ cap1 _ cap2 _ _ _ w HE (by omega) (by omega) (by omega) (by omega) (by omega) hm0 HC H1 H2
  | cons e0 r0 =>
    rw [show stmtOK (.mk k n t s (e0 :: r0) a b) = (stHead k n t s (e0 :: r0).length a.length b.length && (exsOK (e0 :: r0) && (firstK k e0.kind && (stsOK a && stsOK b)))) from by simp only [stmtOK]]
    have hpos : 0 < (e0 :: r0).length := by simp
    obtain ⟨x, hx0⟩ : ∃ x, xs[0]? = some x := ⟨xs[0]'(by have := hx2'.len; simp at this; omega), List.getElem?_eq_getElem _⟩
    obtain ⟨bk, off, c0, c1, c2, c3, hA, hbk, rfl, hc0, _⟩ := hrows.at4 hx0
    obtain ⟨e, hee, hRe⟩ := hx2'.at_ 0 _ hx0
    obtain rfl : e0 = e := by simpa using hee
    obtain ⟨A9, n9, cap9, hcs⟩ := hRe.cells
    obtain ⟨rfl, _⟩ := arr4_inj hcs
    have hc0' : w.cell? ⟨bk, off, none⟩ = some (.int .i64 e0.kind) := by simpa using hc0
    by_cases hk : 1 ≤ k ∧ k ≤ 7
    · have hk' : k = 1 ∨ k = 2 ∨ k = 3 ∨ k = 4 ∨ k = 5 ∨ k = 6 ∨ k = 7 := by omega
      rcases hk' with rfl | rfl | rfl | rfl | rfl | rfl | rfl
      · exact stmt_1_cons n t s A0 A1 A2 _ cap0 _ cap1 _ cap2 _ _ _ w HE (by omega) (by omega) (by omega) (by omega) (by omega) bk off _ hA hbk hc0' hpos HC H1 H2
      · exact stmt_2_cons n t s A0 A1 A2 _ cap0 _ cap1 _ cap2 _ _ _ w HE (by omega) (by omega) (by omega) (by omega) (by omega) bk off _ hA hbk hc0' hpos HC H1 H2
      · exact stmt_3_cons n t s A0 A1 A2 _ cap0 _ cap1 _ cap2 _ _ _ w HE (by omega) (by omega) (by omega) (by omega) (by omega) bk off _ hA hbk hc0' hpos HC H1 H2
      · exact stmt_4_cons n t s A0 A1 A2 _ cap0 _ cap1 _ cap2 _ _ _ w HE (by omega) (by omega) (by omega) (by omega) (by omega) bk off _ hA hbk hc0' hpos HC H1 H2
      · exact stmt_5_cons n t s A0 A1 A2 _ cap0 _ cap1 _ cap2 _ _ _ w HE (by omega) (by omega) (by omega) (by omega) (by omega) bk off _ hA hbk hc0' hpos HC H1 H2
      · exact stmt_6_cons n t s A0 A1 A2 _ cap0 _ cap1 _ cap2 _ _ _ w HE (by omega) (by omega) (by omega) (by omega) (by omega) bk off _ hA hbk hc0' hpos HC H1 H2
      · exact stmt_7_cons n t s A0 A1 A2 _ cap0 _ cap1 _ cap2 _ _ _ w HE (by omega) (by omega) (by omega) (by omega) (by omega) bk off _ hA hbk hc0' hpos HC H1 H2
    · exact stmt_x_cons k (by omega) n t s A0 A1 A2 _ cap0 _ cap1 _ cap2 _ _ _ w HE (by omega) (by omega) (by omega) (by omega) (by omega) bk off _ hA hbk hc0' hpos HC H1 H2

theorem stmt_any (b : Nat) : ∀ (x : St) (c : Array Value) (w : World), x.bulk ≤ b → b ≤ 2000000 → Env w → St.R w x c →
    Calls Tryd.prog 58 #[.agg c] w fun e w' => e = .returned (.bool (stmtOK x)) ∧ Below w.heap.size w w' := by
  induction b with
  | zero => intro x c w hb; cases x; simp only [St.bulk] at hb; omega
  | succ b ih =>
    intro x c w hb hb2 he hx
    cases x with
    | mk k n t s es a b' =>
      have hpb := St.bulk_parts k n t s es a b'
      refine stmt_step k n t s es a b' c w he hx (by omega) ?_ ?_
      · intro W v hE hv
        refine stmts_of a v W hE hv fun e c W hm hE hR => ih e c W ?_ (by omega) hE hR
        have := Sts.bulk_le hm
        omega
      · intro W v hE hv
        refine stmts_of b' v W hE hv fun e c W hm hE hR => ih e c W ?_ (by omega) hE hR
        have := Sts.bulk_le hm
        omega

theorem stmts_any (l : List St) (v : Value) (w : World) (hb : Sts.bulk l ≤ 2000000) (he : Env w) (hv : Sts.V w l v) :
    Calls Tryd.prog 32 #[v] w fun x w' => x = .returned (.bool (stsOK l)) ∧ Below w.heap.size w w' :=
  stmts_of l v w he hv fun e c W hm hE hR => stmt_any 2000000 e c W (by have := Sts.bulk_le hm; omega) (Nat.le_refl _) hE hR
end Go.Proofs.YtapdgeajbnbdjaaDoor
