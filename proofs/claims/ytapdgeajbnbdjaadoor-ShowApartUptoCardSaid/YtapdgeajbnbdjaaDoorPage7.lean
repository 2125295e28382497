/- show.page.expr for every tree that may be. -/
import Derived.Test.YtapdgeajbnbdjaaDoorPage5
import Derived.Test.YtapdgeajbnbdjaaDoorPage6
namespace Go.Proofs.YtapdgeajbnbdjaaDoor
open Go.RowKit

theorem decDigits_len (k : Nat) : ∀ u, u < 10 ^ (k + 1) → (Lib.decDigits u).length ≤ k + 1 := by
  induction k with
  | zero => intro u hu; rw [Lib.decDigits_one (by simpa using hu)]; simp
  | succ k ih =>
    intro u hu
    by_cases h : u < 10
    · rw [Lib.decDigits_one h]; simp
    · rw [Lib.decDigits, dif_neg h, List.length_append]
      have := ih (u / 10) (by rw [Nat.pow_succ] at hu; omega)
      simp
      omega
theorem itoa_len (n : Int) (h : I64 n) : (Lib.itoa n).length ≤ 20 := by
  obtain ⟨h0, h1⟩ := h
  unfold Lib.itoa
  split
  · have := decDigits_len 18 n.natAbs (by have : (10 : Nat) ^ (18 + 1) = 10000000000000000000 := by decide
                                          omega)
    simp; omega
  · have := decDigits_len 18 n.toNat (by have : (10 : Nat) ^ (18 + 1) = 10000000000000000000 := by decide
                                         omega)
    omega

def ksum (l : List (Int × List UInt8)) : Nat := (l.map (fun p => p.2.length + 4)).sum
theorem atP_len (w : Int) (p : Int × List UInt8) : (atP w p).length ≤ p.2.length + 2 := by unfold atP; split <;> simp
theorem commas_len (l : List (Int × List UInt8)) : (commas (l.map (atP 1))).length ≤ ksum l := by
  induction l with
  | nil => simp [commas, ksum]
  | cons a l ih =>
    have := atP_len 1 a
    cases l with
    | nil => simp [commas, ksum]; omega
    | cons b l => simp [commas, ksum] at ih ⊢; omega
theorem head_len (w : Int) (l : List (Int × List UInt8)) : (atP w (l.headD (4, []))).length + ksum l.tail ≤ ksum l + 2 := by
  cases l with
  | nil => have := atP_len w (4, []); simp [ksum] at this ⊢; omega
  | cons a l => have := atP_len w a; simp [ksum] at this ⊢; omega
theorem sign_len (k : Int) : (shapeOf k).sign.length ≤ 4 := by
  by_cases h : 1 ≤ k ∧ k ≤ 18
  · have hk : k = 1 ∨ k = 2 ∨ k = 3 ∨ k = 4 ∨ k = 5 ∨ k = 6 ∨ k = 7 ∨ k = 8 ∨ k = 9 ∨ k = 10 ∨ k = 11 ∨ k = 12 ∨ k = 13 ∨ k = 14 ∨ k = 15 ∨ k = 16 ∨ k = 17 ∨ k = 18 := by omega
    rcases hk with rfl | rfl | rfl | rfl | rfl | rfl | rfl | rfl | rfl | rfl | rfl | rfl | rfl | rfl | rfl | rfl | rfl | rfl <;> decide
  · have : shapeOf k = ⟨0, 0, false, 0, 4, []⟩ := by
      unfold shapeOf
      repeat rw [if_neg (by omega)]
    rw [this]; decide
theorem joinT_len (k n : Int) (s : List UInt8) (l : List (Int × List UInt8)) (hn : I64 n) : (joinT k n s l).length ≤ s.length + ksum l + 40 := by
  have h1 := itoa_len n hn
  have h2 := commas_len l
  have h3 := commas_len l.tail
  have h4 := head_len 4 l
  have h5 := head_len (max (shapeOf k).level 2) l
  have h6 := head_len ((shapeOf k).level + 1) l.tail
  have h7 := sign_len k
  unfold joinT
  by_cases g1 : k = 1
  · rw [if_pos g1]; (try simp only [List.length_append, List.length_cons, List.length_nil]); omega
  rw [if_neg g1]
  by_cases g2 : k = 2
  · rw [if_pos g2]; (try simp only [List.length_append, List.length_cons, List.length_nil]); omega
  rw [if_neg g2]
  by_cases g3 : k = 3
  · rw [if_pos g3]; (try simp only [List.length_append, List.length_cons, List.length_nil]); omega
  rw [if_neg g3]
  by_cases g4 : k = 4
  · rw [if_pos g4]; (try simp only [List.length_append, List.length_cons, List.length_nil]); omega
  rw [if_neg g4]
  by_cases g5 : k = 5
  · rw [if_pos g5]; (try simp only [List.length_append, List.length_cons, List.length_nil]); omega
  rw [if_neg g5]
  by_cases g6 : k = 6
  · rw [if_pos g6]; (try simp only [List.length_append, List.length_cons, List.length_nil]); omega
  rw [if_neg g6]
  by_cases g7 : k = 7
  · rw [if_pos g7]; (try simp only [List.length_append, List.length_cons, List.length_nil]); omega
  rw [if_neg g7]
  by_cases g8 : k = 8
  · rw [if_pos g8]; (try simp only [List.length_append, List.length_cons, List.length_nil]); omega
  rw [if_neg g8]
  by_cases g9 : k = 9
  · rw [if_pos g9]; (try simp only [List.length_append, List.length_cons, List.length_nil]); omega
  rw [if_neg g9]
  by_cases g10 : k = 10
  · rw [if_pos g10]; (try simp only [List.length_append, List.length_cons, List.length_nil]); omega
  rw [if_neg g10]
  by_cases g11 : k = 11
  · rw [if_pos g11]; (try simp only [List.length_append, List.length_cons, List.length_nil]); omega
  rw [if_neg g11]
  by_cases g12 : k = 12
  · rw [if_pos g12]; (try simp only [List.length_append, List.length_cons, List.length_nil]); omega
  rw [if_neg g12]
  (try simp only [List.length_append, List.length_cons, List.length_nil]); omega
theorem head_num {k n : Int} {s : List UInt8} {m : Nat} (h : headOK k n s m = true) : I64 n := by
  have hs : (shapeOf k).num ≤ 9223372036854775807 := by
    by_cases h : 1 ≤ k ∧ k ≤ 18
    · have hk : k = 1 ∨ k = 2 ∨ k = 3 ∨ k = 4 ∨ k = 5 ∨ k = 6 ∨ k = 7 ∨ k = 8 ∨ k = 9 ∨ k = 10 ∨ k = 11 ∨ k = 12 ∨ k = 13 ∨ k = 14 ∨ k = 15 ∨ k = 16 ∨ k = 17 ∨ k = 18 := by omega
      rcases hk with rfl | rfl | rfl | rfl | rfl | rfl | rfl | rfl | rfl | rfl | rfl | rfl | rfl | rfl | rfl | rfl | rfl | rfl <;> decide
    · have : shapeOf k = ⟨0, 0, false, 0, 4, []⟩ := by
        unfold shapeOf
        repeat rw [if_neg (by omega)]
      rw [this]; decide
  unfold headOK at h
  simp only [Bool.and_eq_true, decide_eq_true_iff] at h
  exact ⟨by omega, by omega⟩
mutual
theorem exT_len : ∀ (e : Ex), exprOK e = true → (exT e).length + 4 ≤ 40 * e.bulk
  | .mk k n s ks, h => by
    rw [exprOK, Bool.and_eq_true] at h
    have h1 := kidsT_len ks h.2
    have h2 := joinT_len k n s.data.toList (kidsT ks) (head_num h.1)
    rw [exT, Ex.bulk]
    rw [ba_len] at h2
    omega
theorem kidsT_len : ∀ (es : List Ex), exsOK es = true → ksum (kidsT es) + 40 ≤ 40 * Exs.bulk es
  | [], _ => by simp [kidsT, ksum, Exs.bulk]
  | e :: es, h => by
    rw [exsOK, Bool.and_eq_true] at h
    have h1 := exT_len e h.1
    have h2 := kidsT_len es h.2
    simp only [kidsT, ksum, List.map_cons, List.sum_cons, Exs.bulk] at h2 ⊢
    omega
end

/-- the facts on the kid number i -/
theorem kid_facts {w0 : World} {B : Nat} {ks : List Ex} {A : Option Addr} {xs : List (Array Value)} (hB : w0.heap.size ≤ B) (hr : Rws w0 4 A xs) (hR : Exs.R w0 ks xs) (i : Nat) (e : Ex) (he : ks[i]? = some e) :
    ∃ (c0 c1 : Int) (c2 : ByteArray) (A9 : Option Addr) (n9 cap9 bk off : Nat), A = some ⟨bk, off, none⟩ ∧ Ex.R w0 e #[.int .i64 c0, .int .i64 c1, .string c2, .slice A9 n9 cap9] ∧
      (∀ V, Below B w0 V → bk < V.heap.size ∧ V.cell? ⟨bk, off + i * 4, none⟩ = some (.int .i64 c0) ∧ V.cell? ⟨bk, off + i * 4 + 1, none⟩ = some (.int .i64 c1) ∧ V.cell? ⟨bk, off + i * 4 + 2, none⟩ = some (.string c2) ∧ V.cell? ⟨bk, off + i * 4 + 3, none⟩ = some (.slice A9 n9 cap9)) := by
  have hR' := (Exs.R.all2 ks xs).1 hR
  have hlen := hR'.len
  obtain ⟨x, hx⟩ : ∃ x, xs[i]? = some x := by
    have : i < ks.length := (List.getElem?_eq_some_iff.1 he).1
    exact ⟨xs[i]'(by omega), List.getElem?_eq_getElem _⟩
  obtain ⟨e', hee, hRe⟩ := hR'.at_ i x hx
  obtain rfl : e = e' := by rw [he] at hee; exact Option.some.inj hee
  obtain ⟨A9, n9, cap9, rfl⟩ := hRe.cells
  obtain ⟨bk, off, c0, c1, c2, c3, hA, hlt, hxx, h0, h1, h2, h3⟩ := hr.at4 hx
  obtain ⟨rfl, rfl, rfl, rfl⟩ := arr4_inj hxx
  refine ⟨_, _, _, A9, n9, cap9, bk, off, hA, hRe, fun V hV => ?_⟩
  have hc : ∀ o, V.cell? ⟨bk, o, none⟩ = w0.cell? ⟨bk, o, none⟩ := fun o => hV.cell (p := ⟨bk, o, none⟩) (by show bk < B; omega)
  exact ⟨Nat.lt_of_lt_of_le hlt hV.size, by rw [hc]; exact h0, by rw [hc]; exact h1, by rw [hc]; exact h2, by rw [hc]; exact h3⟩

theorem tail_V {w0 : World} {e0 : Ex} {rest : List Ex} {A : Option Addr} {cap : Nat} {xs : List (Array Value)} (hv : SlV w0 4 (.slice A xs.length cap) xs) (hR : Exs.R w0 (e0 :: rest) xs) {bk off : Nat} (hA : A = some ⟨bk, off, none⟩) :
    ∀ A2, (cap = 1 → A2 = some ⟨bk, off, none⟩) → (cap ≠ 1 → A2 = some ⟨bk, off + 4, none⟩) → Exs.V w0 rest (.slice A2 (xs.length - 1) (cap - 1)) := by
  intro A2 h1 h2
  subst hA
  obtain ⟨A', cap', he, hc1, hc2, hc3, hr⟩ := hv
  injection he with hA' _ hcap
  subst hA'
  subst hcap
  simp only [Exs.R] at hR
  obtain ⟨x, ys, rfl, hx, hys⟩ := hR
  refine ⟨ys, ⟨A2, cap - 1, by simp, by simp at hc1; omega, by omega, fun hA2 => ?_, fun i z hz => ?_⟩, hys⟩
  · by_cases h : cap = 1
    · omega
    · rw [h2 h] at hA2; cases hA2
  · have hlt : i < ys.length := (List.getElem?_eq_some_iff.1 hz).1
    have hne : cap ≠ 1 := by simp at hc1; omega
    obtain ⟨b', off', hA2, hlt', hs, hcells⟩ := hr (i + 1) z (by simpa using hz)
    injection hA2 with hA2
    injection hA2 with hb ho
    subst hb; subst ho
    refine ⟨bk, off + 4, h2 hne, hlt', hs, fun j hj => ?_⟩
    rw [← hcells j hj]
    congr 2
    omega

theorem commas_kids (es : List Ex) : commas ((kidsT es).map (atP 1)) = listT es := by
  rw [kidsT_map, List.map_map]; rfl

theorem writes_any (B b : Nat) (t : Int) (w0 : World) (hB : w0.heap.size ≤ B) (hE : Env w0) (bound : Nat) : ∀ (e : Ex), e.bulk ≤ bound → exprOK e = true → ∀ want : Int, 1 ≤ want → want ≤ 4 → Writes B b t w0 e want := by
  induction bound with
  | zero => intro e hb; cases e; simp only [Ex.bulk] at hb; omega
  | succ bound ih =>
    intro e hb hok want hw1 hw4 c W l hR hold hp hlen
    cases e with
    | mk k n s ks =>
      have hbk := Ex.bulk_kids k n s ks
      rw [exprOK, Bool.and_eq_true, exsOK_all, List.all_eq_true] at hok
      obtain ⟨hhead, hkids⟩ := hok
      have hI : ∀ e, e ∈ ks → ∀ want : Int, 1 ≤ want → want ≤ 4 → Writes B b t w0 e want := fun e he => ih e (by have := Exs.bulk_le he; omega) (hkids e he)
      have hIL : Hid (∀ e, e ∈ ks → Writes B b t w0 e 1) := fun e he => hI e he 1 (by omega) (by omega)
      have hnum := head_num hhead
      simp only [Ex.R] at hR
      obtain ⟨kv, rfl, _, _, hs, xs, hv, hRs⟩ := hR
      have hv' := hv
      have hlx := ((Exs.R.all2 ks xs).1 hRs).len
      obtain ⟨A, cap, rfl, hc1, hc2, _, hrows⟩ := hv
      have hVs : Exs.V w0 ks (.slice A xs.length cap) := ⟨xs, hv', hRs⟩
      unfold headOK at hhead
      simp only [Bool.and_eq_true, decide_eq_true_iff] at hhead
      obtain ⟨hk, hlo, hhi, _, _, hname⟩ := hhead
      have hk' : 1 ≤ k ∧ k ≤ 18 := by unfold isKind at hk; simpa using hk
      have hcases : k = 1 ∨ k = 2 ∨ k = 3 ∨ k = 4 ∨ k = 5 ∨ k = 6 ∨ k = 7 ∨ k = 8 ∨ k = 9 ∨ k = 10 ∨ k = 11 ∨ k = 12 ∨ k = 13 ∨ k = 14 ∨ k = 15 ∨ k = 16 ∨ k = 17 ∨ k = 18 := by omega
      rcases hcases with rfl | rfl | rfl | rfl | rfl | rfl | rfl | rfl | rfl | rfl | rfl | rfl | rfl | rfl | rfl | rfl | rfl | rfl
      · -- kind 1
        simp [shapeOf] at hlo hhi
        have htx : atT want (.mk 1 n s ks) = cat [⟨(Lib.itoa n).toArray⟩] := by
          unfold atT
          show atP want ((shapeOf 1).level, _) = _
          rw [show ∀ q, atP want ((shapeOf 1).level, q) = q from fun q => by unfold atP; rw [if_neg (by simp [shapeOf]; omega)]]
          simp [exT, joinT, cat, kidsT, listT, atT, commas, commas_kids]
        rw [htx] at hlen ⊢
        have := wexpr_1 B b l t want n s A xs.length cap w0 W hB hold hp hw4 hnum hE (Lib.hid (by (try simp only [List.length_append] at hlen ⊢); omega))
        simpa only [List.append_assoc] using this
      · -- kind 2
        simp [shapeOf] at hlo hhi
        have htx : atT want (.mk 2 n s ks) = cat [⟨#[110, 117, 108, 108]⟩] := by
          unfold atT
          show atP want ((shapeOf 2).level, _) = _
          rw [show ∀ q, atP want ((shapeOf 2).level, q) = q from fun q => by unfold atP; rw [if_neg (by simp [shapeOf]; omega)]]
          simp [exT, joinT, cat, kidsT, listT, atT, commas, commas_kids]
        rw [htx] at hlen ⊢
        have := wexpr_2 B b l t want n s A xs.length cap w0 W hB hold hp hw4 (Lib.hid (by (try simp only [List.length_append] at hlen ⊢); omega))
        simpa only [List.append_assoc] using this
      · -- kind 3
        simp [shapeOf] at hlo hhi
        have htx : atT want (.mk 3 n s ks) = cat [⟨#[116, 104, 105, 115]⟩] := by
          unfold atT
          show atP want ((shapeOf 3).level, _) = _
          rw [show ∀ q, atP want ((shapeOf 3).level, q) = q from fun q => by unfold atP; rw [if_neg (by simp [shapeOf]; omega)]]
          simp [exT, joinT, cat, kidsT, listT, atT, commas, commas_kids]
        rw [htx] at hlen ⊢
        have := wexpr_3 B b l t want n s A xs.length cap w0 W hB hold hp hw4 (Lib.hid (by (try simp only [List.length_append] at hlen ⊢); omega))
        simpa only [List.append_assoc] using this
      · -- kind 4
        simp [shapeOf] at hlo hhi
        have htx : atT want (.mk 4 n s ks) = cat [s] := by
          unfold atT
          show atP want ((shapeOf 4).level, _) = _
          rw [show ∀ q, atP want ((shapeOf 4).level, q) = q from fun q => by unfold atP; rw [if_neg (by simp [shapeOf]; omega)]]
          simp [exT, joinT, cat, kidsT, listT, atT, commas, commas_kids]
        rw [htx] at hlen ⊢
        have := wexpr_4 B b l t want n s A xs.length cap w0 W hB hold hp hw4 (Lib.hid (by (try simp only [List.length_append] at hlen ⊢); omega))
        simpa only [List.append_assoc] using this
      · -- kind 5
        simp [shapeOf] at hlo hhi
        have htx : atT want (.mk 5 n s ks) = cat [⟨#[110, 101, 119, 32]⟩, s, ⟨#[40, 41]⟩] := by
          unfold atT
          show atP want ((shapeOf 5).level, _) = _
          rw [show ∀ q, atP want ((shapeOf 5).level, q) = q from fun q => by unfold atP; rw [if_neg (by simp [shapeOf]; omega)]]
          simp [exT, joinT, cat, kidsT, listT, atT, commas, commas_kids]
        rw [htx] at hlen ⊢
        have := wexpr_5 B b l t want n s A xs.length cap w0 W hB hold hp hw4 (Lib.hid (by (try simp only [List.length_append] at hlen ⊢); omega))
        simpa only [List.append_assoc] using this
      · -- kind 6
        simp [shapeOf] at hlo hhi
        obtain ⟨e0, rfl⟩ : ∃ e0, ks = [e0] := by
          match ks, hlo, hhi with
          | [e0], _, _ => exact ⟨e0, rfl⟩
        have htx : atT want (.mk 6 n s [e0]) = cat [⟨#[110, 101, 119, 32, 105, 110, 116, 91]⟩] ++ listT [e0] ++ (⟨#[93]⟩ : ByteArray).data.toList := by
          unfold atT
          show atP want ((shapeOf 6).level, _) = _
          rw [show ∀ q, atP want ((shapeOf 6).level, q) = q from fun q => by unfold atP; rw [if_neg (by simp [shapeOf]; omega)]]
          simp [exT, joinT, cat, kidsT, listT, atT, commas, commas_kids]
        rw [htx] at hlen ⊢
        have := wexpr_6 B b l t want n s A xs.length cap w0 W hB hold hp hw4 [e0] (Lib.hid hVs) hIL (Lib.hid (by (try simp only [List.length_append] at hlen ⊢); omega))
        simpa only [List.append_assoc] using this
      · -- kind 7
        simp [shapeOf] at hlo hhi
        obtain ⟨e0, rfl⟩ : ∃ e0, ks = [e0] := by
          match ks, hlo, hhi with
          | [e0], _, _ => exact ⟨e0, rfl⟩
        obtain ⟨c0, c1, c2, A9, n9, cap9, bk, off, hA, hR0, hk0⟩ := kid_facts hB hrows hRs 0 e0 rfl
        have hk00 : ∀ V, Below B w0 V → bk < V.heap.size ∧ V.cell? ⟨bk, off, none⟩ = some (.int .i64 c0) ∧ V.cell? ⟨bk, off + 1, none⟩ = some (.int .i64 c1) ∧ V.cell? ⟨bk, off + 2, none⟩ = some (.string c2) ∧ V.cell? ⟨bk, off + 3, none⟩ = some (.slice A9 n9 cap9) := fun V hV => by simpa using hk0 V hV
        have hm0 : 0 < xs.length := by rw [hlx]; simp
        have htx : atT want (.mk 7 n s [e0]) = atT 4 e0 ++ cat [⟨#[46]⟩, s] := by
          unfold atT
          show atP want ((shapeOf 7).level, _) = _
          rw [show ∀ q, atP want ((shapeOf 7).level, q) = q from fun q => by unfold atP; rw [if_neg (by simp [shapeOf]; omega)]]
          simp [exT, joinT, cat, kidsT, listT, atT, commas, commas_kids]
        rw [htx] at hlen ⊢
        have := wexpr_7 B b l t want n s A xs.length cap w0 W hB hold hp hw4 e0 c0 c1 c2 A9 n9 cap9 bk off hA (Lib.hid hk00) hm0 (Lib.hid hR0) (Lib.hid (hI e0 (by simp) 4 (by omega) (by omega))) (Lib.hid (by (try simp only [List.length_append] at hlen ⊢); omega))
        simpa only [List.append_assoc] using this
      · -- kind 8
        simp [shapeOf] at hlo hhi
        obtain ⟨e0, e1, rfl⟩ : ∃ e0 e1, ks = [e0, e1] := by
          match ks, hlo, hhi with
          | [e0, e1], _, _ => exact ⟨e0, e1, rfl⟩
        obtain ⟨c0, c1, c2, A9, n9, cap9, bk, off, hA, hR0, hk0⟩ := kid_facts hB hrows hRs 0 e0 rfl
        have hk00 : ∀ V, Below B w0 V → bk < V.heap.size ∧ V.cell? ⟨bk, off, none⟩ = some (.int .i64 c0) ∧ V.cell? ⟨bk, off + 1, none⟩ = some (.int .i64 c1) ∧ V.cell? ⟨bk, off + 2, none⟩ = some (.string c2) ∧ V.cell? ⟨bk, off + 3, none⟩ = some (.slice A9 n9 cap9) := fun V hV => by simpa using hk0 V hV
        have hm0 : 0 < xs.length := by rw [hlx]; simp
        have htx : atT want (.mk 8 n s [e0, e1]) = atT 4 e0 ++ cat [⟨#[91]⟩] ++ listT [e1] ++ (⟨#[93]⟩ : ByteArray).data.toList := by
          unfold atT
          show atP want ((shapeOf 8).level, _) = _
          rw [show ∀ q, atP want ((shapeOf 8).level, q) = q from fun q => by unfold atP; rw [if_neg (by simp [shapeOf]; omega)]]
          simp [exT, joinT, cat, kidsT, listT, atT, commas, commas_kids]
        rw [htx] at hlen ⊢
        have := wexpr_8 B b l t want n s A xs.length cap w0 W hB hold hp hw4 e0 c0 c1 c2 A9 n9 cap9 bk off hA (Lib.hid hk00) hm0 (Lib.hid hR0) (Lib.hid (hI e0 (by simp) 4 (by omega) (by omega))) hc1 (by unfold maxLen at hc2; omega) [e1] (Lib.hid (tail_V hv' hRs hA)) (Lib.hid (fun e he => hIL.out e (List.mem_cons_of_mem _ he))) (Lib.hid (by (try simp only [List.length_append] at hlen ⊢); omega))
        simpa only [List.append_assoc] using this
      · -- kind 9
        simp [shapeOf] at hlo hhi
        obtain ⟨e0, rfl⟩ : ∃ e0, ks = [e0] := by
          match ks, hlo, hhi with
          | [e0], _, _ => exact ⟨e0, rfl⟩
        obtain ⟨c0, c1, c2, A9, n9, cap9, bk, off, hA, hR0, hk0⟩ := kid_facts hB hrows hRs 0 e0 rfl
        have hk00 : ∀ V, Below B w0 V → bk < V.heap.size ∧ V.cell? ⟨bk, off, none⟩ = some (.int .i64 c0) ∧ V.cell? ⟨bk, off + 1, none⟩ = some (.int .i64 c1) ∧ V.cell? ⟨bk, off + 2, none⟩ = some (.string c2) ∧ V.cell? ⟨bk, off + 3, none⟩ = some (.slice A9 n9 cap9) := fun V hV => by simpa using hk0 V hV
        have hm0 : 0 < xs.length := by rw [hlx]; simp
        have htx : atT want (.mk 9 n s [e0]) = atT 4 e0 ++ cat [⟨#[46, 108, 101, 110, 103, 116, 104]⟩] := by
          unfold atT
          show atP want ((shapeOf 9).level, _) = _
          rw [show ∀ q, atP want ((shapeOf 9).level, q) = q from fun q => by unfold atP; rw [if_neg (by simp [shapeOf]; omega)]]
          simp [exT, joinT, cat, kidsT, listT, atT, commas, commas_kids]
        rw [htx] at hlen ⊢
        have := wexpr_9 B b l t want n s A xs.length cap w0 W hB hold hp hw4 e0 c0 c1 c2 A9 n9 cap9 bk off hA (Lib.hid hk00) hm0 (Lib.hid hR0) (Lib.hid (hI e0 (by simp) 4 (by omega) (by omega))) (Lib.hid (by (try simp only [List.length_append] at hlen ⊢); omega))
        simpa only [List.append_assoc] using this
      · -- kind 10
        simp [shapeOf] at hlo hhi
        obtain ⟨e0, rest, rfl⟩ : ∃ e0 rest, ks = e0 :: rest := by
          match ks, hlo with
          | e0 :: rest, _ => exact ⟨e0, rest, rfl⟩
        obtain ⟨c0, c1, c2, A9, n9, cap9, bk, off, hA, hR0, hk0⟩ := kid_facts hB hrows hRs 0 e0 rfl
        have hk00 : ∀ V, Below B w0 V → bk < V.heap.size ∧ V.cell? ⟨bk, off, none⟩ = some (.int .i64 c0) ∧ V.cell? ⟨bk, off + 1, none⟩ = some (.int .i64 c1) ∧ V.cell? ⟨bk, off + 2, none⟩ = some (.string c2) ∧ V.cell? ⟨bk, off + 3, none⟩ = some (.slice A9 n9 cap9) := fun V hV => by simpa using hk0 V hV
        have hm0 : 0 < xs.length := by rw [hlx]; simp
        have htx : atT want (.mk 10 n s (e0 :: rest)) = atT 4 e0 ++ cat [⟨#[46]⟩, s, ⟨#[40]⟩] ++ listT rest ++ (⟨#[41]⟩ : ByteArray).data.toList := by
          unfold atT
          show atP want ((shapeOf 10).level, _) = _
          rw [show ∀ q, atP want ((shapeOf 10).level, q) = q from fun q => by unfold atP; rw [if_neg (by simp [shapeOf]; omega)]]
          simp [exT, joinT, cat, kidsT, listT, atT, commas, commas_kids]
        rw [htx] at hlen ⊢
        have := wexpr_10 B b l t want n s A xs.length cap w0 W hB hold hp hw4 e0 c0 c1 c2 A9 n9 cap9 bk off hA (Lib.hid hk00) hm0 (Lib.hid hR0) (Lib.hid (hI e0 (by simp) 4 (by omega) (by omega))) hc1 (by unfold maxLen at hc2; omega) rest (Lib.hid (tail_V hv' hRs hA)) (Lib.hid (fun e he => hIL.out e (List.mem_cons_of_mem _ he))) (Lib.hid (by (try simp only [List.length_append] at hlen ⊢); omega))
        simpa only [List.append_assoc] using this
      · -- kind 11
        simp [shapeOf] at hlo hhi
        have htx : atT want (.mk 11 n s ks) = cat [⟨#[114, 101, 97, 100, 40]⟩, ⟨(Lib.itoa n).toArray⟩, ⟨#[41]⟩] := by
          unfold atT
          show atP want ((shapeOf 11).level, _) = _
          rw [show ∀ q, atP want ((shapeOf 11).level, q) = q from fun q => by unfold atP; rw [if_neg (by simp [shapeOf]; omega)]]
          simp [exT, joinT, cat, kidsT, listT, atT, commas, commas_kids]
        rw [htx] at hlen ⊢
        have := wexpr_11 B b l t want n s A xs.length cap w0 W hB hold hp hw4 hnum hE (Lib.hid (by (try simp only [List.length_append] at hlen ⊢); omega))
        simpa only [List.append_assoc] using this
      · -- kind 12
        simp [shapeOf] at hlo hhi
        obtain ⟨e0, rfl⟩ : ∃ e0, ks = [e0] := by
          match ks, hlo, hhi with
          | [e0], _, _ => exact ⟨e0, rfl⟩
        have htx : atT want (.mk 12 n s [e0]) = cat [⟨#[100, 101, 99, 108, 97, 115, 115, 105, 102, 121, 40]⟩] ++ listT [e0] ++ (⟨#[41]⟩ : ByteArray).data.toList := by
          unfold atT
          show atP want ((shapeOf 12).level, _) = _
          rw [show ∀ q, atP want ((shapeOf 12).level, q) = q from fun q => by unfold atP; rw [if_neg (by simp [shapeOf]; omega)]]
          simp [exT, joinT, cat, kidsT, listT, atT, commas, commas_kids]
        rw [htx] at hlen ⊢
        have := wexpr_12 B b l t want n s A xs.length cap w0 W hB hold hp hw4 [e0] (Lib.hid hVs) hIL (Lib.hid (by (try simp only [List.length_append] at hlen ⊢); omega))
        simpa only [List.append_assoc] using this
      · -- kind 13
        simp [shapeOf] at hlo hhi
        obtain ⟨e0, e1, rfl⟩ : ∃ e0 e1, ks = [e0, e1] := by
          match ks, hlo, hhi with
          | [e0, e1], _, _ => exact ⟨e0, e1, rfl⟩
        obtain ⟨c0, c1, c2, A9, n9, cap9, bk, off, hA, hR0, hk0⟩ := kid_facts hB hrows hRs 0 e0 rfl
        have hk00 : ∀ V, Below B w0 V → bk < V.heap.size ∧ V.cell? ⟨bk, off, none⟩ = some (.int .i64 c0) ∧ V.cell? ⟨bk, off + 1, none⟩ = some (.int .i64 c1) ∧ V.cell? ⟨bk, off + 2, none⟩ = some (.string c2) ∧ V.cell? ⟨bk, off + 3, none⟩ = some (.slice A9 n9 cap9) := fun V hV => by simpa using hk0 V hV
        have hm0 : 0 < xs.length := by rw [hlx]; simp
        obtain ⟨d0, d1, d2, D9, m9, dap9, bk', off', hA', hR1, hk1⟩ := kid_facts hB hrows hRs 1 e1 rfl
        rw [hA] at hA'
        injection hA' with hA'
        injection hA' with hb1 ho1
        subst hb1; subst ho1
        subst hA
        have hk11 : ∀ V, Below B w0 V → V.cell? ⟨bk, off + 4, none⟩ = some (.int .i64 d0) ∧ V.cell? ⟨bk, off + 4 + 1, none⟩ = some (.int .i64 d1) ∧ V.cell? ⟨bk, off + 4 + 2, none⟩ = some (.string d2) ∧ V.cell? ⟨bk, off + 4 + 3, none⟩ = some (.slice D9 m9 dap9) := fun V hV => by have := (hk1 V hV).2; simpa using this
        have hm1 : 1 < xs.length := by rw [hlx]; simp
        by_cases hpar : want ≤ 2
        · have htx : atT want (.mk 13 n s [e0, e1]) = atT 2 e0 ++ cat [⟨#[32, 43, 32]⟩] ++ atT 3 e1 := by
            have hs : shapeOf 13 = ⟨2, 2, false, 0, 2, [32, 43, 32]⟩ := by simp [shapeOf]
            have hq : ∀ q, atP want ((2 : Int), q) = q := fun q => by unfold atP; rw [if_neg (by show ¬ (2 : Int) < want; omega)]
            show atP want ((shapeOf 13).level, _) = _
            rw [hs, hq]
            simp [exT, hs, joinT, kidsT, cat, atT, (by decide : max (3 : Int) 2 = 3), (by decide : max (1 : Int) 2 = 2)]
          rw [htx] at hlen ⊢
          have := wexpr_13 B b l t want n s xs.length cap w0 W hB hold hp hpar e0 e1 c0 c1 c2 A9 n9 cap9 d0 d1 d2 D9 m9 dap9 bk off (Lib.hid hk00) (Lib.hid hk11) hm1 (Lib.hid hR0) (Lib.hid hR1) (Lib.hid (hI e0 (by simp) 2 (by omega) (by omega))) (Lib.hid (hI e1 (by simp) 3 (by omega) (by omega))) (Lib.hid (by (try simp only [List.length_append] at hlen ⊢); omega))
          simpa only [List.append_assoc] using this
        · have htx : atT want (.mk 13 n s [e0, e1]) = cat [⟨#[40]⟩] ++ atT 2 e0 ++ cat [⟨#[32, 43, 32]⟩] ++ atT 3 e1 ++ cat [⟨#[41]⟩] := by
            have hs : shapeOf 13 = ⟨2, 2, false, 0, 2, [32, 43, 32]⟩ := by simp [shapeOf]
            have hq : ∀ q, atP want ((2 : Int), q) = 40 :: (q ++ [41]) := fun q => by unfold atP; rw [if_pos (by show (2 : Int) < want; omega)]
            show atP want ((shapeOf 13).level, _) = _
            rw [hs, hq]
            simp [exT, hs, joinT, kidsT, cat, atT, (by decide : max (3 : Int) 2 = 3), (by decide : max (1 : Int) 2 = 2)]
          rw [htx] at hlen ⊢
          have := wexpr_13p B b l t want n s xs.length cap w0 W hB hold hp (by omega) e0 e1 c0 c1 c2 A9 n9 cap9 d0 d1 d2 D9 m9 dap9 bk off (Lib.hid hk00) (Lib.hid hk11) hm1 (Lib.hid hR0) (Lib.hid hR1) (Lib.hid (hI e0 (by simp) 2 (by omega) (by omega))) (Lib.hid (hI e1 (by simp) 3 (by omega) (by omega))) (Lib.hid (by (try simp only [List.length_append] at hlen ⊢); omega))
          simpa only [List.append_assoc] using this
      · -- kind 14
        simp [shapeOf] at hlo hhi
        obtain ⟨e0, e1, rfl⟩ : ∃ e0 e1, ks = [e0, e1] := by
          match ks, hlo, hhi with
          | [e0, e1], _, _ => exact ⟨e0, e1, rfl⟩
        obtain ⟨c0, c1, c2, A9, n9, cap9, bk, off, hA, hR0, hk0⟩ := kid_facts hB hrows hRs 0 e0 rfl
        have hk00 : ∀ V, Below B w0 V → bk < V.heap.size ∧ V.cell? ⟨bk, off, none⟩ = some (.int .i64 c0) ∧ V.cell? ⟨bk, off + 1, none⟩ = some (.int .i64 c1) ∧ V.cell? ⟨bk, off + 2, none⟩ = some (.string c2) ∧ V.cell? ⟨bk, off + 3, none⟩ = some (.slice A9 n9 cap9) := fun V hV => by simpa using hk0 V hV
        have hm0 : 0 < xs.length := by rw [hlx]; simp
        obtain ⟨d0, d1, d2, D9, m9, dap9, bk', off', hA', hR1, hk1⟩ := kid_facts hB hrows hRs 1 e1 rfl
        rw [hA] at hA'
        injection hA' with hA'
        injection hA' with hb1 ho1
        subst hb1; subst ho1
        subst hA
        have hk11 : ∀ V, Below B w0 V → V.cell? ⟨bk, off + 4, none⟩ = some (.int .i64 d0) ∧ V.cell? ⟨bk, off + 4 + 1, none⟩ = some (.int .i64 d1) ∧ V.cell? ⟨bk, off + 4 + 2, none⟩ = some (.string d2) ∧ V.cell? ⟨bk, off + 4 + 3, none⟩ = some (.slice D9 m9 dap9) := fun V hV => by have := (hk1 V hV).2; simpa using this
        have hm1 : 1 < xs.length := by rw [hlx]; simp
        by_cases hpar : want ≤ 2
        · have htx : atT want (.mk 14 n s [e0, e1]) = atT 2 e0 ++ cat [⟨#[32, 45, 32]⟩] ++ atT 3 e1 := by
            have hs : shapeOf 14 = ⟨2, 2, false, 0, 2, [32, 45, 32]⟩ := by simp [shapeOf]
            have hq : ∀ q, atP want ((2 : Int), q) = q := fun q => by unfold atP; rw [if_neg (by show ¬ (2 : Int) < want; omega)]
            show atP want ((shapeOf 14).level, _) = _
            rw [hs, hq]
            simp [exT, hs, joinT, kidsT, cat, atT, (by decide : max (3 : Int) 2 = 3), (by decide : max (1 : Int) 2 = 2)]
          rw [htx] at hlen ⊢
          have := wexpr_14 B b l t want n s xs.length cap w0 W hB hold hp hpar e0 e1 c0 c1 c2 A9 n9 cap9 d0 d1 d2 D9 m9 dap9 bk off (Lib.hid hk00) (Lib.hid hk11) hm1 (Lib.hid hR0) (Lib.hid hR1) (Lib.hid (hI e0 (by simp) 2 (by omega) (by omega))) (Lib.hid (hI e1 (by simp) 3 (by omega) (by omega))) (Lib.hid (by (try simp only [List.length_append] at hlen ⊢); omega))
          simpa only [List.append_assoc] using this
        · have htx : atT want (.mk 14 n s [e0, e1]) = cat [⟨#[40]⟩] ++ atT 2 e0 ++ cat [⟨#[32, 45, 32]⟩] ++ atT 3 e1 ++ cat [⟨#[41]⟩] := by
            have hs : shapeOf 14 = ⟨2, 2, false, 0, 2, [32, 45, 32]⟩ := by simp [shapeOf]
            have hq : ∀ q, atP want ((2 : Int), q) = 40 :: (q ++ [41]) := fun q => by unfold atP; rw [if_pos (by show (2 : Int) < want; omega)]
            show atP want ((shapeOf 14).level, _) = _
            rw [hs, hq]
            simp [exT, hs, joinT, kidsT, cat, atT, (by decide : max (3 : Int) 2 = 3), (by decide : max (1 : Int) 2 = 2)]
          rw [htx] at hlen ⊢
          have := wexpr_14p B b l t want n s xs.length cap w0 W hB hold hp (by omega) e0 e1 c0 c1 c2 A9 n9 cap9 d0 d1 d2 D9 m9 dap9 bk off (Lib.hid hk00) (Lib.hid hk11) hm1 (Lib.hid hR0) (Lib.hid hR1) (Lib.hid (hI e0 (by simp) 2 (by omega) (by omega))) (Lib.hid (hI e1 (by simp) 3 (by omega) (by omega))) (Lib.hid (by (try simp only [List.length_append] at hlen ⊢); omega))
          simpa only [List.append_assoc] using this
      · -- kind 15
        simp [shapeOf] at hlo hhi
        obtain ⟨e0, e1, rfl⟩ : ∃ e0 e1, ks = [e0, e1] := by
          match ks, hlo, hhi with
          | [e0, e1], _, _ => exact ⟨e0, e1, rfl⟩
        obtain ⟨c0, c1, c2, A9, n9, cap9, bk, off, hA, hR0, hk0⟩ := kid_facts hB hrows hRs 0 e0 rfl
        have hk00 : ∀ V, Below B w0 V → bk < V.heap.size ∧ V.cell? ⟨bk, off, none⟩ = some (.int .i64 c0) ∧ V.cell? ⟨bk, off + 1, none⟩ = some (.int .i64 c1) ∧ V.cell? ⟨bk, off + 2, none⟩ = some (.string c2) ∧ V.cell? ⟨bk, off + 3, none⟩ = some (.slice A9 n9 cap9) := fun V hV => by simpa using hk0 V hV
        have hm0 : 0 < xs.length := by rw [hlx]; simp
        obtain ⟨d0, d1, d2, D9, m9, dap9, bk', off', hA', hR1, hk1⟩ := kid_facts hB hrows hRs 1 e1 rfl
        rw [hA] at hA'
        injection hA' with hA'
        injection hA' with hb1 ho1
        subst hb1; subst ho1
        subst hA
        have hk11 : ∀ V, Below B w0 V → V.cell? ⟨bk, off + 4, none⟩ = some (.int .i64 d0) ∧ V.cell? ⟨bk, off + 4 + 1, none⟩ = some (.int .i64 d1) ∧ V.cell? ⟨bk, off + 4 + 2, none⟩ = some (.string d2) ∧ V.cell? ⟨bk, off + 4 + 3, none⟩ = some (.slice D9 m9 dap9) := fun V hV => by have := (hk1 V hV).2; simpa using this
        have hm1 : 1 < xs.length := by rw [hlx]; simp
        by_cases hpar : want ≤ 3
        · have htx : atT want (.mk 15 n s [e0, e1]) = atT 3 e0 ++ cat [⟨#[32, 42, 32]⟩] ++ atT 4 e1 := by
            have hs : shapeOf 15 = ⟨2, 2, false, 0, 3, [32, 42, 32]⟩ := by simp [shapeOf]
            have hq : ∀ q, atP want ((3 : Int), q) = q := fun q => by unfold atP; rw [if_neg (by show ¬ (3 : Int) < want; omega)]
            show atP want ((shapeOf 15).level, _) = _
            rw [hs, hq]
            simp [exT, hs, joinT, kidsT, cat, atT, (by decide : max (3 : Int) 2 = 3), (by decide : max (1 : Int) 2 = 2)]
          rw [htx] at hlen ⊢
          have := wexpr_15 B b l t want n s xs.length cap w0 W hB hold hp hpar e0 e1 c0 c1 c2 A9 n9 cap9 d0 d1 d2 D9 m9 dap9 bk off (Lib.hid hk00) (Lib.hid hk11) hm1 (Lib.hid hR0) (Lib.hid hR1) (Lib.hid (hI e0 (by simp) 3 (by omega) (by omega))) (Lib.hid (hI e1 (by simp) 4 (by omega) (by omega))) (Lib.hid (by (try simp only [List.length_append] at hlen ⊢); omega))
          simpa only [List.append_assoc] using this
        · have htx : atT want (.mk 15 n s [e0, e1]) = cat [⟨#[40]⟩] ++ atT 3 e0 ++ cat [⟨#[32, 42, 32]⟩] ++ atT 4 e1 ++ cat [⟨#[41]⟩] := by
            have hs : shapeOf 15 = ⟨2, 2, false, 0, 3, [32, 42, 32]⟩ := by simp [shapeOf]
            have hq : ∀ q, atP want ((3 : Int), q) = 40 :: (q ++ [41]) := fun q => by unfold atP; rw [if_pos (by show (3 : Int) < want; omega)]
            show atP want ((shapeOf 15).level, _) = _
            rw [hs, hq]
            simp [exT, hs, joinT, kidsT, cat, atT, (by decide : max (3 : Int) 2 = 3), (by decide : max (1 : Int) 2 = 2)]
          rw [htx] at hlen ⊢
          have := wexpr_15p B b l t want n s xs.length cap w0 W hB hold hp (by omega) e0 e1 c0 c1 c2 A9 n9 cap9 d0 d1 d2 D9 m9 dap9 bk off (Lib.hid hk00) (Lib.hid hk11) hm1 (Lib.hid hR0) (Lib.hid hR1) (Lib.hid (hI e0 (by simp) 3 (by omega) (by omega))) (Lib.hid (hI e1 (by simp) 4 (by omega) (by omega))) (Lib.hid (by (try simp only [List.length_append] at hlen ⊢); omega))
          simpa only [List.append_assoc] using this
      · -- kind 16
        simp [shapeOf] at hlo hhi
        obtain ⟨e0, e1, rfl⟩ : ∃ e0 e1, ks = [e0, e1] := by
          match ks, hlo, hhi with
          | [e0, e1], _, _ => exact ⟨e0, e1, rfl⟩
        obtain ⟨c0, c1, c2, A9, n9, cap9, bk, off, hA, hR0, hk0⟩ := kid_facts hB hrows hRs 0 e0 rfl
        have hk00 : ∀ V, Below B w0 V → bk < V.heap.size ∧ V.cell? ⟨bk, off, none⟩ = some (.int .i64 c0) ∧ V.cell? ⟨bk, off + 1, none⟩ = some (.int .i64 c1) ∧ V.cell? ⟨bk, off + 2, none⟩ = some (.string c2) ∧ V.cell? ⟨bk, off + 3, none⟩ = some (.slice A9 n9 cap9) := fun V hV => by simpa using hk0 V hV
        have hm0 : 0 < xs.length := by rw [hlx]; simp
        obtain ⟨d0, d1, d2, D9, m9, dap9, bk', off', hA', hR1, hk1⟩ := kid_facts hB hrows hRs 1 e1 rfl
        rw [hA] at hA'
        injection hA' with hA'
        injection hA' with hb1 ho1
        subst hb1; subst ho1
        subst hA
        have hk11 : ∀ V, Below B w0 V → V.cell? ⟨bk, off + 4, none⟩ = some (.int .i64 d0) ∧ V.cell? ⟨bk, off + 4 + 1, none⟩ = some (.int .i64 d1) ∧ V.cell? ⟨bk, off + 4 + 2, none⟩ = some (.string d2) ∧ V.cell? ⟨bk, off + 4 + 3, none⟩ = some (.slice D9 m9 dap9) := fun V hV => by have := (hk1 V hV).2; simpa using this
        have hm1 : 1 < xs.length := by rw [hlx]; simp
        by_cases hpar : want ≤ 3
        · have htx : atT want (.mk 16 n s [e0, e1]) = atT 3 e0 ++ cat [⟨#[32, 47, 32]⟩] ++ atT 4 e1 := by
            have hs : shapeOf 16 = ⟨2, 2, false, 0, 3, [32, 47, 32]⟩ := by simp [shapeOf]
            have hq : ∀ q, atP want ((3 : Int), q) = q := fun q => by unfold atP; rw [if_neg (by show ¬ (3 : Int) < want; omega)]
            show atP want ((shapeOf 16).level, _) = _
            rw [hs, hq]
            simp [exT, hs, joinT, kidsT, cat, atT, (by decide : max (3 : Int) 2 = 3), (by decide : max (1 : Int) 2 = 2)]
          rw [htx] at hlen ⊢
          have := wexpr_16 B b l t want n s xs.length cap w0 W hB hold hp hpar e0 e1 c0 c1 c2 A9 n9 cap9 d0 d1 d2 D9 m9 dap9 bk off (Lib.hid hk00) (Lib.hid hk11) hm1 (Lib.hid hR0) (Lib.hid hR1) (Lib.hid (hI e0 (by simp) 3 (by omega) (by omega))) (Lib.hid (hI e1 (by simp) 4 (by omega) (by omega))) (Lib.hid (by (try simp only [List.length_append] at hlen ⊢); omega))
          simpa only [List.append_assoc] using this
        · have htx : atT want (.mk 16 n s [e0, e1]) = cat [⟨#[40]⟩] ++ atT 3 e0 ++ cat [⟨#[32, 47, 32]⟩] ++ atT 4 e1 ++ cat [⟨#[41]⟩] := by
            have hs : shapeOf 16 = ⟨2, 2, false, 0, 3, [32, 47, 32]⟩ := by simp [shapeOf]
            have hq : ∀ q, atP want ((3 : Int), q) = 40 :: (q ++ [41]) := fun q => by unfold atP; rw [if_pos (by show (3 : Int) < want; omega)]
            show atP want ((shapeOf 16).level, _) = _
            rw [hs, hq]
            simp [exT, hs, joinT, kidsT, cat, atT, (by decide : max (3 : Int) 2 = 3), (by decide : max (1 : Int) 2 = 2)]
          rw [htx] at hlen ⊢
          have := wexpr_16p B b l t want n s xs.length cap w0 W hB hold hp (by omega) e0 e1 c0 c1 c2 A9 n9 cap9 d0 d1 d2 D9 m9 dap9 bk off (Lib.hid hk00) (Lib.hid hk11) hm1 (Lib.hid hR0) (Lib.hid hR1) (Lib.hid (hI e0 (by simp) 3 (by omega) (by omega))) (Lib.hid (hI e1 (by simp) 4 (by omega) (by omega))) (Lib.hid (by (try simp only [List.length_append] at hlen ⊢); omega))
          simpa only [List.append_assoc] using this
      · -- kind 17
        simp [shapeOf] at hlo hhi
        obtain ⟨e0, e1, rfl⟩ : ∃ e0 e1, ks = [e0, e1] := by
          match ks, hlo, hhi with
          | [e0, e1], _, _ => exact ⟨e0, e1, rfl⟩
        obtain ⟨c0, c1, c2, A9, n9, cap9, bk, off, hA, hR0, hk0⟩ := kid_facts hB hrows hRs 0 e0 rfl
        have hk00 : ∀ V, Below B w0 V → bk < V.heap.size ∧ V.cell? ⟨bk, off, none⟩ = some (.int .i64 c0) ∧ V.cell? ⟨bk, off + 1, none⟩ = some (.int .i64 c1) ∧ V.cell? ⟨bk, off + 2, none⟩ = some (.string c2) ∧ V.cell? ⟨bk, off + 3, none⟩ = some (.slice A9 n9 cap9) := fun V hV => by simpa using hk0 V hV
        have hm0 : 0 < xs.length := by rw [hlx]; simp
        obtain ⟨d0, d1, d2, D9, m9, dap9, bk', off', hA', hR1, hk1⟩ := kid_facts hB hrows hRs 1 e1 rfl
        rw [hA] at hA'
        injection hA' with hA'
        injection hA' with hb1 ho1
        subst hb1; subst ho1
        subst hA
        have hk11 : ∀ V, Below B w0 V → V.cell? ⟨bk, off + 4, none⟩ = some (.int .i64 d0) ∧ V.cell? ⟨bk, off + 4 + 1, none⟩ = some (.int .i64 d1) ∧ V.cell? ⟨bk, off + 4 + 2, none⟩ = some (.string d2) ∧ V.cell? ⟨bk, off + 4 + 3, none⟩ = some (.slice D9 m9 dap9) := fun V hV => by have := (hk1 V hV).2; simpa using this
        have hm1 : 1 < xs.length := by rw [hlx]; simp
        by_cases hpar : want ≤ 1
        · have htx : atT want (.mk 17 n s [e0, e1]) = atT 2 e0 ++ cat [⟨#[32, 60, 32]⟩] ++ atT 2 e1 := by
            have hs : shapeOf 17 = ⟨2, 2, false, 0, 1, [32, 60, 32]⟩ := by simp [shapeOf]
            have hq : ∀ q, atP want ((1 : Int), q) = q := fun q => by unfold atP; rw [if_neg (by show ¬ (1 : Int) < want; omega)]
            show atP want ((shapeOf 17).level, _) = _
            rw [hs, hq]
            simp [exT, hs, joinT, kidsT, cat, atT, (by decide : max (3 : Int) 2 = 3), (by decide : max (1 : Int) 2 = 2)]
          rw [htx] at hlen ⊢
          have := wexpr_17 B b l t want n s xs.length cap w0 W hB hold hp hpar e0 e1 c0 c1 c2 A9 n9 cap9 d0 d1 d2 D9 m9 dap9 bk off (Lib.hid hk00) (Lib.hid hk11) hm1 (Lib.hid hR0) (Lib.hid hR1) (Lib.hid (hI e0 (by simp) 2 (by omega) (by omega))) (Lib.hid (hI e1 (by simp) 2 (by omega) (by omega))) (Lib.hid (by (try simp only [List.length_append] at hlen ⊢); omega))
          simpa only [List.append_assoc] using this
        · have htx : atT want (.mk 17 n s [e0, e1]) = cat [⟨#[40]⟩] ++ atT 2 e0 ++ cat [⟨#[32, 60, 32]⟩] ++ atT 2 e1 ++ cat [⟨#[41]⟩] := by
            have hs : shapeOf 17 = ⟨2, 2, false, 0, 1, [32, 60, 32]⟩ := by simp [shapeOf]
            have hq : ∀ q, atP want ((1 : Int), q) = 40 :: (q ++ [41]) := fun q => by unfold atP; rw [if_pos (by show (1 : Int) < want; omega)]
            show atP want ((shapeOf 17).level, _) = _
            rw [hs, hq]
            simp [exT, hs, joinT, kidsT, cat, atT, (by decide : max (3 : Int) 2 = 3), (by decide : max (1 : Int) 2 = 2)]
          rw [htx] at hlen ⊢
          have := wexpr_17p B b l t want n s xs.length cap w0 W hB hold hp (by omega) e0 e1 c0 c1 c2 A9 n9 cap9 d0 d1 d2 D9 m9 dap9 bk off (Lib.hid hk00) (Lib.hid hk11) hm1 (Lib.hid hR0) (Lib.hid hR1) (Lib.hid (hI e0 (by simp) 2 (by omega) (by omega))) (Lib.hid (hI e1 (by simp) 2 (by omega) (by omega))) (Lib.hid (by (try simp only [List.length_append] at hlen ⊢); omega))
          simpa only [List.append_assoc] using this
      · -- kind 18
        simp [shapeOf] at hlo hhi
        obtain ⟨e0, e1, rfl⟩ : ∃ e0 e1, ks = [e0, e1] := by
          match ks, hlo, hhi with
          | [e0, e1], _, _ => exact ⟨e0, e1, rfl⟩
        obtain ⟨c0, c1, c2, A9, n9, cap9, bk, off, hA, hR0, hk0⟩ := kid_facts hB hrows hRs 0 e0 rfl
        have hk00 : ∀ V, Below B w0 V → bk < V.heap.size ∧ V.cell? ⟨bk, off, none⟩ = some (.int .i64 c0) ∧ V.cell? ⟨bk, off + 1, none⟩ = some (.int .i64 c1) ∧ V.cell? ⟨bk, off + 2, none⟩ = some (.string c2) ∧ V.cell? ⟨bk, off + 3, none⟩ = some (.slice A9 n9 cap9) := fun V hV => by simpa using hk0 V hV
        have hm0 : 0 < xs.length := by rw [hlx]; simp
        obtain ⟨d0, d1, d2, D9, m9, dap9, bk', off', hA', hR1, hk1⟩ := kid_facts hB hrows hRs 1 e1 rfl
        rw [hA] at hA'
        injection hA' with hA'
        injection hA' with hb1 ho1
        subst hb1; subst ho1
        subst hA
        have hk11 : ∀ V, Below B w0 V → V.cell? ⟨bk, off + 4, none⟩ = some (.int .i64 d0) ∧ V.cell? ⟨bk, off + 4 + 1, none⟩ = some (.int .i64 d1) ∧ V.cell? ⟨bk, off + 4 + 2, none⟩ = some (.string d2) ∧ V.cell? ⟨bk, off + 4 + 3, none⟩ = some (.slice D9 m9 dap9) := fun V hV => by have := (hk1 V hV).2; simpa using this
        have hm1 : 1 < xs.length := by rw [hlx]; simp
        by_cases hpar : want ≤ 1
        · have htx : atT want (.mk 18 n s [e0, e1]) = atT 2 e0 ++ cat [⟨#[32, 61, 61, 32]⟩] ++ atT 2 e1 := by
            have hs : shapeOf 18 = ⟨2, 2, false, 0, 1, [32, 61, 61, 32]⟩ := by simp [shapeOf]
            have hq : ∀ q, atP want ((1 : Int), q) = q := fun q => by unfold atP; rw [if_neg (by show ¬ (1 : Int) < want; omega)]
            show atP want ((shapeOf 18).level, _) = _
            rw [hs, hq]
            simp [exT, hs, joinT, kidsT, cat, atT, (by decide : max (3 : Int) 2 = 3), (by decide : max (1 : Int) 2 = 2)]
          rw [htx] at hlen ⊢
          have := wexpr_18 B b l t want n s xs.length cap w0 W hB hold hp hpar e0 e1 c0 c1 c2 A9 n9 cap9 d0 d1 d2 D9 m9 dap9 bk off (Lib.hid hk00) (Lib.hid hk11) hm1 (Lib.hid hR0) (Lib.hid hR1) (Lib.hid (hI e0 (by simp) 2 (by omega) (by omega))) (Lib.hid (hI e1 (by simp) 2 (by omega) (by omega))) (Lib.hid (by (try simp only [List.length_append] at hlen ⊢); omega))
          simpa only [List.append_assoc] using this
        · have htx : atT want (.mk 18 n s [e0, e1]) = cat [⟨#[40]⟩] ++ atT 2 e0 ++ cat [⟨#[32, 61, 61, 32]⟩] ++ atT 2 e1 ++ cat [⟨#[41]⟩] := by
            have hs : shapeOf 18 = ⟨2, 2, false, 0, 1, [32, 61, 61, 32]⟩ := by simp [shapeOf]
            have hq : ∀ q, atP want ((1 : Int), q) = 40 :: (q ++ [41]) := fun q => by unfold atP; rw [if_pos (by show (1 : Int) < want; omega)]
            show atP want ((shapeOf 18).level, _) = _
            rw [hs, hq]
            simp [exT, hs, joinT, kidsT, cat, atT, (by decide : max (3 : Int) 2 = 3), (by decide : max (1 : Int) 2 = 2)]
          rw [htx] at hlen ⊢
          have := wexpr_18p B b l t want n s xs.length cap w0 W hB hold hp (by omega) e0 e1 c0 c1 c2 A9 n9 cap9 d0 d1 d2 D9 m9 dap9 bk off (Lib.hid hk00) (Lib.hid hk11) hm1 (Lib.hid hR0) (Lib.hid hR1) (Lib.hid (hI e0 (by simp) 2 (by omega) (by omega))) (Lib.hid (hI e1 (by simp) 2 (by omega) (by omega))) (Lib.hid (by (try simp only [List.length_append] at hlen ⊢); omega))
          simpa only [List.append_assoc] using this
end Go.Proofs.YtapdgeajbnbdjaaDoor
