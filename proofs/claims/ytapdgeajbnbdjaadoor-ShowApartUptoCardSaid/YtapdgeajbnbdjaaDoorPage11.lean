/- show.page.stmt for every tree that may be. (gen_page11.py) -/
import Derived.Test.YtapdgeajbnbdjaaDoorPage10
namespace Go.Proofs.YtapdgeajbnbdjaaDoor
open Go.RowKit

theorem wst_any (B b : Nat) (w0 : World) (hB : w0.heap.size ≤ B) (hE : Env w0) (bound : Nat) : ∀ (s : St), s.bulk ≤ bound → stmtOK s = true → WSt B b w0 s := by
  induction bound with
  | zero => intro s hb; cases s; simp only [St.bulk] at hb; omega
  | succ bound ih =>
    intro s hb hok c W l t hR hold hp hlen ht
    cases s with
    | mk k n ty nm es al bl =>
      have hpb := St.bulk_parts k n ty nm es al bl
      obtain ⟨k1, k7, p1, p2, p3, p4, p5, p6, p7, p8, p9, p10⟩ := st_parts hok
      have hIL : Hid (∀ e, e ∈ es → Writes B b t w0 e 1) := Lib.hid fun e he => writes_any B b t w0 hB hE e.bulk e (Nat.le_refl _) (by rw [exsOK_all, List.all_eq_true] at p7; exact p7 e he) 1 (by omega) (by omega)
      have hwa : Hid (WBl B b w0 al) := Lib.hid (block_step B b w0 al hB fun s hs => ih s (by have := Sts.bulk_le hs; omega) (by rw [stsOK_all, List.all_eq_true] at p9; exact p9 s hs))
      have hwb : Hid (WBl B b w0 bl) := Lib.hid (block_step B b w0 bl hB fun s hs => ih s (by have := Sts.bulk_le hs; omega) (by rw [stsOK_all, List.all_eq_true] at p10; exact p10 s hs))
      have hta : Hid (t + Sts.bulk al ≤ 4000000) := Lib.hid (by omega)
      have htb : Hid (t + Sts.bulk bl ≤ 4000000) := Lib.hid (by omega)
      simp only [St.R] at hR
      obtain ⟨ev, av, bv, rfl, _, hn, _, _, ⟨xs, hv, hRs⟩, hva, hvb⟩ := hR
      have hva : Sts.V w0 al av := hva
      have hvb : Sts.V w0 bl bv := hvb
      have hVs : Exs.V w0 es ev := ⟨xs, hv, hRs⟩
      have hlx := ((Exs.R.all2 es xs).1 hRs).len
      obtain ⟨A0, cap0, rfl, hc1, hc2, _, hrows⟩ := hv
      have hva' := hva; have hvb' := hvb
      obtain ⟨ys, ⟨A1, cap1, rfl, _⟩, hya⟩ := hva'
      obtain ⟨zs, ⟨A2, cap2, rfl, _⟩, hzb⟩ := hvb'
      have hlz := ((Sts.R.all2 bl zs).1 hzb).len
      have htt : t ≤ 4000000 := by omega
      have one : ∀ {es : List Ex}, es.length = manyOf k es.length → k ≠ 1 → k ≠ 2 → ∃ e, es = [e] := fun {es} h a b => by
        unfold manyOf at h
        simp [a, b] at h
        match es, h with
        | [e], _ => exact ⟨e, rfl⟩
      have hcases : k = 1 ∨ k = 2 ∨ k = 3 ∨ k = 4 ∨ k = 5 ∨ k = 6 ∨ k = 7 := by omega
      rcases hcases with rfl | rfl | rfl | rfl | rfl | rfl | rfl
      · -- Declare
        have hes : es = [] ∨ ∃ e, es = [e] := by
          match es, p4 with
          | [], _ => exact .inl rfl
          | [e], _ => exact .inr ⟨e, rfl⟩
          | _ :: _ :: _, h => simp [manyOf] at h
        rcases hes with rfl | ⟨e, rfl⟩
        · have htx : stT t (.mk 1 n ty nm [] al bl) = tabsT t ++ cat [ty, ⟨#[32]⟩, nm] ++ cat [⟨#[59, 10]⟩] := by simp [stT, blockT, cat, listT, commas]
          rw [htx] at hlen ⊢
          have := wst_1n B b l t n ty nm A0 A1 A2 xs.length cap0 ys.length cap1 zs.length cap2 w0 W hB hold hp htt (by rw [hlx]; simp) (Lib.hid (by (try simp only [List.length_append] at hlen ⊢); omega))
          simpa only [List.append_assoc] using this
        · have htx : stT t (.mk 1 n ty nm [e] al bl) = tabsT t ++ cat [ty, ⟨#[32]⟩, nm] ++ cat [⟨#[32, 61, 32]⟩] ++ listT [e] ++ (⟨#[]⟩ : ByteArray).data.toList ++ cat [⟨#[59, 10]⟩] := by simp [stT, blockT, cat, listT, commas]
          rw [htx] at hlen ⊢
          have := wst_1c B b l t n ty nm A0 A1 A2 xs.length cap0 ys.length cap1 zs.length cap2 w0 W hB hold hp htt [e] (Lib.hid hVs) hIL (by rw [hlx]; simp) (Lib.hid (by (try simp only [List.length_append] at hlen ⊢); omega))
          simpa only [List.append_assoc] using this
      · -- Assign
        obtain ⟨e0, e1, rfl⟩ : ∃ e0 e1, es = [e0, e1] := by
          match es, p4 with
          | [e0, e1], _ => exact ⟨e0, e1, rfl⟩
          | [], h => simp [manyOf] at h
          | [_], h => simp [manyOf] at h
          | _ :: _ :: _ :: _, h => simp [manyOf] at h
        obtain ⟨c00, c01, c02, A09, n09, cap09, bk, off, hA0, hR0, hk0⟩ := kid_facts hB hrows hRs 0 e0 rfl
        obtain ⟨c10, c11, c12, A19, n19, cap19, bk', off', hA', hR1, hk1⟩ := kid_facts hB hrows hRs 1 e1 rfl
        rw [hA0] at hA'
        injection hA' with hA'
        injection hA' with hb1 ho1
        subst hb1; subst ho1; subst hA0
        have hk00 : ∀ V, Below B w0 V → bk < V.heap.size ∧ V.cell? ⟨bk, off, none⟩ = some (.int .i64 c00) ∧ V.cell? ⟨bk, off + 1, none⟩ = some (.int .i64 c01) ∧ V.cell? ⟨bk, off + 2, none⟩ = some (.string c02) ∧ V.cell? ⟨bk, off + 3, none⟩ = some (.slice A09 n09 cap09) := fun V hV => by simpa using hk0 V hV
        have hk11 : ∀ V, Below B w0 V → bk < V.heap.size ∧ V.cell? ⟨bk, off + 4, none⟩ = some (.int .i64 c10) ∧ V.cell? ⟨bk, off + 4 + 1, none⟩ = some (.int .i64 c11) ∧ V.cell? ⟨bk, off + 4 + 2, none⟩ = some (.string c12) ∧ V.cell? ⟨bk, off + 4 + 3, none⟩ = some (.slice A19 n19 cap19) := fun V hV => by simpa using hk1 V hV
        have htx : stT t (.mk 2 n ty nm [e0, e1] al bl) = tabsT t ++ atT 1 e0 ++ cat [⟨#[32, 61, 32]⟩] ++ atT 1 e1 ++ cat [⟨#[59, 10]⟩] := by simp [stT, blockT, cat, listT, commas]
        rw [htx] at hlen ⊢
        have := wst_2 B b l t n ty nm A1 A2 xs.length cap0 ys.length cap1 zs.length cap2 w0 W hB hold hp htt e0 c00 c01 c02 A09 n09 cap09 e1 c10 c11 c12 A19 n19 cap19 bk off (Lib.hid hk00) (Lib.hid hR0) (Lib.hid (hIL.out e0 (by simp))) (Lib.hid hk11) (Lib.hid hR1) (Lib.hid (hIL.out e1 (by simp))) (by rw [hlx]; simp) (Lib.hid (by (try simp only [List.length_append] at hlen ⊢); omega))
        simpa only [List.append_assoc] using this
      · -- kind 3
        obtain ⟨e, rfl⟩ := one p4 (by decide) (by decide)
        by_cases hbl : bl = []
        · have htx : stT t (.mk 3 n ty nm [e] al bl) = tabsT t ++ cat [⟨#[105, 102, 32, 40]⟩] ++ listT [e] ++ (⟨#[41, 32]⟩ : ByteArray).data.toList ++ blockT t al ++ cat [⟨#[10]⟩] := by simp [stT, blockT, cat, listT, commas, hbl]
          rw [htx] at hlen ⊢
          have := wst_3n B b l t n ty nm A0 A1 A2 xs.length cap0 ys.length cap1 zs.length cap2 w0 W hB hold hp htt [e] (Lib.hid hVs) hIL al hwa (Lib.hid hva) hta (by rw [hlz, hbl]; simp) (Lib.hid (by (try simp only [List.length_append] at hlen ⊢); omega))
          simpa only [List.append_assoc] using this
        · have htx : stT t (.mk 3 n ty nm [e] al bl) = tabsT t ++ cat [⟨#[105, 102, 32, 40]⟩] ++ listT [e] ++ (⟨#[41, 32]⟩ : ByteArray).data.toList ++ blockT t al ++ cat [⟨#[32, 101, 108, 115, 101, 32]⟩] ++ blockT t bl ++ cat [⟨#[10]⟩] := by simp [stT, blockT, cat, listT, commas, hbl]
          rw [htx] at hlen ⊢
          have := wst_3c B b l t n ty nm A0 A1 A2 xs.length cap0 ys.length cap1 zs.length cap2 w0 W hB hold hp htt [e] (Lib.hid hVs) hIL al hwa (Lib.hid hva) hta bl hwb (Lib.hid hvb) htb (by rw [hlz]; exact List.length_pos_iff.2 hbl) (Lib.hid (by (try simp only [List.length_append] at hlen ⊢); omega))
          simpa only [List.append_assoc] using this
      · -- kind 4
        obtain ⟨e, rfl⟩ := one p4 (by decide) (by decide)
        by_cases hbl : bl = []
        · have htx : stT t (.mk 4 n ty nm [e] al bl) = tabsT t ++ cat [⟨#[119, 104, 105, 108, 101, 32, 40]⟩] ++ listT [e] ++ (⟨#[41, 32]⟩ : ByteArray).data.toList ++ blockT t al ++ cat [⟨#[10]⟩] := by simp [stT, blockT, cat, listT, commas, hbl]
          rw [htx] at hlen ⊢
          have := wst_4n B b l t n ty nm A0 A1 A2 xs.length cap0 ys.length cap1 zs.length cap2 w0 W hB hold hp htt [e] (Lib.hid hVs) hIL al hwa (Lib.hid hva) hta (by rw [hlz, hbl]; simp) (Lib.hid (by (try simp only [List.length_append] at hlen ⊢); omega))
          simpa only [List.append_assoc] using this
        · exact absurd (p6.resolve_left (by decide)) hbl
      · -- Print
        obtain ⟨e, rfl⟩ := one p4 (by decide) (by decide)
        have htx : stT t (.mk 5 n ty nm [e] al bl) = tabsT t ++ cat [⟨#[112, 114, 105, 110, 116, 40]⟩, ⟨(Lib.itoa n).toArray⟩, ⟨#[44, 32]⟩] ++ listT [e] ++ (⟨#[41]⟩ : ByteArray).data.toList ++ cat [⟨#[59, 10]⟩] := by simp [stT, blockT, cat, listT, commas]
        rw [htx] at hlen ⊢
        have := wst_5 B b l t n ty nm A0 A1 A2 xs.length cap0 ys.length cap1 zs.length cap2 w0 W hB hold hp htt hn hE [e] (Lib.hid hVs) hIL (Lib.hid (by (try simp only [List.length_append] at hlen ⊢); omega))
        simpa only [List.append_assoc] using this
      · -- Return
        obtain ⟨e, rfl⟩ := one p4 (by decide) (by decide)
        have htx : stT t (.mk 6 n ty nm [e] al bl) = tabsT t ++ cat [⟨#[114, 101, 116, 117, 114, 110, 32]⟩] ++ listT [e] ++ (⟨#[]⟩ : ByteArray).data.toList ++ cat [⟨#[59, 10]⟩] := by simp [stT, blockT, cat, listT, commas]
        rw [htx] at hlen ⊢
        have := wst_6 B b l t n ty nm A0 A1 A2 xs.length cap0 ys.length cap1 zs.length cap2 w0 W hB hold hp htt [e] (Lib.hid hVs) hIL (Lib.hid (by (try simp only [List.length_append] at hlen ⊢); omega))
        simpa only [List.append_assoc] using this
      · -- Do
        obtain ⟨e, rfl⟩ := one p4 (by decide) (by decide)
        have htx : stT t (.mk 7 n ty nm [e] al bl) = tabsT t ++ listT [e] ++ (⟨#[]⟩ : ByteArray).data.toList ++ cat [⟨#[59, 10]⟩] := by simp [stT, blockT, cat, listT, commas]
        rw [htx] at hlen ⊢
        have := wst_7 B b l t n ty nm A0 A1 A2 xs.length cap0 ys.length cap1 zs.length cap2 w0 W hB hold hp htt [e] (Lib.hid hVs) hIL (Lib.hid (by (try simp only [List.length_append] at hlen ⊢); omega))
        simpa only [List.append_assoc] using this

theorem wbl_any (B b : Nat) (w0 : World) (hB : w0.heap.size ≤ B) (hE : Env w0) (ls : List St) (h : stsOK ls = true) : WBl B b w0 ls :=
  block_step B b w0 ls hB fun s hs => wst_any B b w0 hB hE s.bulk s (Nat.le_refl _) (by rw [stsOK_all, List.all_eq_true] at h; exact h s hs)
end Go.Proofs.YtapdgeajbnbdjaaDoor
