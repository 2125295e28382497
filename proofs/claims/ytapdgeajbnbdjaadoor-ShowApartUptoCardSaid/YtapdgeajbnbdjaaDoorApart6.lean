/- A program's text tells the program. -/
import Derived.Test.YtapdgeajbnbdjaaDoorApart5
namespace Go.Proofs.YtapdgeajbnbdjaaDoor
open Go.RowKit

theorem slot_ok {s : Sl} (h : slotOK s = true) : isType s.type.data.toList = true ∧ isName s.name.data.toList = true := by simpa [slotOK] using h
theorem sl_ext {a b : Sl} (h1 : a.type.data.toList = b.type.data.toList) (h2 : a.name.data.toList = b.name.data.toList) : a = b := by
  cases a; cases b
  simp only [Sl.mk.injEq]
  exact ⟨ba_ext h1, ba_ext h2⟩
theorem read_slot {a b : Sl} {r s : List UInt8} (ha : slotOK a = true) (hb : slotOK b = true) (hr : ∀ c, r.head? = some c → within c = false) (hs : ∀ c, s.head? = some c → within c = false) (h : slotT a ++ r = slotT b ++ s) : a = b ∧ r = s := by
  unfold slotT at h
  simp only [List.append_assoc, List.cons_append] at h
  replace h := space_span (slot_ok ha).1 (slot_ok hb).1 h
  obtain ⟨e1, h⟩ := h
  replace h := within_span (name_all (slot_ok ha).2) (name_all (slot_ok hb).2) hr hs h
  obtain ⟨e2, h⟩ := h
  exact ⟨sl_ext e1 e2, h⟩
theorem read_params_tail : ∀ (l l' : List Sl) (r s : List UInt8), l.all slotOK = true → l'.all slotOK = true → l.flatMap (fun e => 44 :: 32 :: slotT e) ++ 41 :: r = l'.flatMap (fun e => 44 :: 32 :: slotT e) ++ 41 :: s → l = l' ∧ r = s
  | [], [], r, s, _, _, h => by simp at h; exact ⟨rfl, h⟩
  | [], e :: l', r, s, _, _, h => by simp at h
  | e :: l, [], r, s, _, _, h => by simp at h
  | e :: l, d :: l', r, s, h1, h2, h => by
    simp only [List.flatMap_cons, List.cons_append, List.append_assoc, List.cons.injEq, true_and] at h
    simp only [List.all_cons, Bool.and_eq_true] at h1 h2
    have f : ∀ (l : List Sl) (r : List UInt8) c, (l.flatMap (fun e => 44 :: 32 :: slotT e) ++ 41 :: r).head? = some c → within c = false := fun l r c hc => by
      cases l with
      | nil => exact head_is (c := 41) (by decide) hc
      | cons a l => exact head_is (c := 44) (by decide) hc
    obtain ⟨rfl, h'⟩ := read_slot h1.1 h2.1 (f l r) (f l' s) h
    obtain ⟨rfl, rfl⟩ := read_params_tail l l' r s h1.2 h2.2 h'
    exact ⟨rfl, rfl⟩
theorem paramsT (e : Sl) (l : List Sl) : commas ((e :: l).map slotT) = slotT e ++ l.flatMap (fun e => 44 :: 32 :: slotT e) := by rw [List.map_cons, commas_cons, List.flatMap_map]
theorem slot_first {e : Sl} (h : slotOK e = true) (r : List UInt8) : ∃ c r', slotT e ++ r = c :: r' ∧ within c = true := by
  have := (slot_ok h).1
  unfold isType at this
  simp only [Bool.or_eq_true, beq_iff_eq] at this
  unfold slotT
  rcases this with h | h | h
  · rw [h]; exact ⟨105, _, rfl, by decide⟩
  · rw [h]; exact ⟨105, _, rfl, by decide⟩
  · obtain ⟨c, l, hl, hc, _⟩ := name_parts h
    rw [hl]; exact ⟨c, _, rfl, letter_within hc⟩
theorem read_params (l l' : List Sl) (r s : List UInt8) (h1 : l.all slotOK = true) (h2 : l'.all slotOK = true) (h : commas (l.map slotT) ++ 41 :: r = commas (l'.map slotT) ++ 41 :: s) : l = l' ∧ r = s := by
  cases l with
  | nil =>
    cases l' with
    | nil => simpa [commas] using h
    | cons d l' =>
      rw [paramsT, List.append_assoc] at h
      simp only [List.all_cons, Bool.and_eq_true] at h2
      obtain ⟨c, r', hc, hw⟩ := slot_first h2.1 (l'.flatMap (fun e => 44 :: 32 :: slotT e) ++ 41 :: s)
      rw [hc] at h
      simp [commas] at h
      rw [← h.1] at hw
      exact absurd hw (by decide)
  | cons e l =>
    cases l' with
    | nil =>
      rw [paramsT, List.append_assoc] at h
      simp only [List.all_cons, Bool.and_eq_true] at h1
      obtain ⟨c, r', hc, hw⟩ := slot_first h1.1 (l.flatMap (fun e => 44 :: 32 :: slotT e) ++ 41 :: r)
      rw [hc] at h
      simp [commas] at h
      rw [h.1] at hw
      exact absurd hw (by decide)
    | cons d l' =>
      refine read_params_tail (e :: l) (d :: l') r s h1 h2 ?_
      rw [paramsT, paramsT] at h
      simpa using h

theorem method_parts {m : Me} (h : methodOK m = true) : slotOK ⟨m.type, m.name⟩ = true ∧ m.params.all slotOK = true ∧ stsOK m.body = true := by
  unfold methodOK at h
  simp only [Bool.and_eq_true] at h
  exact ⟨h.1, h.2.2.1, h.2.2.2⟩
theorem read_method {a b : Me} {r s : List UInt8} (ha : methodOK a = true) (hb : methodOK b = true) (h : methodT a ++ r = methodT b ++ s) : a = b ∧ r = s := by
  obtain ⟨a1, a2, a3⟩ := method_parts ha
  obtain ⟨b1, b2, b3⟩ := method_parts hb
  rw [method_form, method_form] at h
  simp only [List.append_assoc, List.cons_append, List.cons.injEq, true_and] at h
  replace h := read_slot a1 b1 (fun c hc => head_is (c := 40) (by decide) hc) (fun c hc => head_is (c := 40) (by decide) hc) h
  obtain ⟨e1, h⟩ := h
  simp only [List.cons.injEq, true_and] at h
  replace h := read_params _ _ _ _ a2 b2 h
  obtain ⟨e2, h⟩ := h
  simp only [List.cons.injEq, true_and] at h
  replace h := read_block a3 b3 h
  obtain ⟨e3, h⟩ := h
  simp at h
  cases a; cases b
  simp at e1 e2 e3
  simp only [Me.mk.injEq]
  exact ⟨⟨e1.1, e1.2, e2, e3⟩, h⟩
theorem read_methods : ∀ (l l' : List Me) (r s : List UInt8), l.all methodOK = true → l'.all methodOK = true → l.flatMap methodT ++ 125 :: r = l'.flatMap methodT ++ 125 :: s → l = l' ∧ r = s
  | [], [], r, s, _, _, h => by simp at h; exact ⟨rfl, h⟩
  | [], e :: l', r, s, _, _, h => by simp [method_form] at h
  | e :: l, [], r, s, _, _, h => by simp [method_form] at h
  | e :: l, d :: l', r, s, h1, h2, h => by
    simp only [List.flatMap_cons, List.append_assoc] at h
    simp only [List.all_cons, Bool.and_eq_true] at h1 h2
    replace h := read_method h1.1 h2.1 h
    obtain ⟨rfl, h⟩ := h
    obtain ⟨rfl, rfl⟩ := read_methods l l' r s h1.2 h2.2 h
    exact ⟨rfl, rfl⟩
theorem not_field {l : List Me} {f : Sl} {r s : List UInt8} (hl : l.all methodOK = true) (hf : slotOK f = true) : ¬ l.flatMap methodT ++ 125 :: r = fieldT f ++ s := by
  intro h
  cases l with
  | nil => simp [fieldT] at h
  | cons m l =>
    simp only [List.all_cons, Bool.and_eq_true] at hl
    rw [List.flatMap_cons, method_form] at h
    unfold fieldT at h
    simp only [List.append_assoc, List.cons_append, List.cons.injEq, true_and] at h
    have := (read_slot (method_parts hl.1).1 hf (fun c hc => head_is (c := 40) (by decide) hc) (fun c hc => head_is (c := 59) (by decide) hc) h).2
    simp at this
theorem read_fields : ∀ (f f' : List Sl) (l l' : List Me) (r s : List UInt8), f.all slotOK = true → f'.all slotOK = true → l.all methodOK = true → l'.all methodOK = true →
    f.flatMap fieldT ++ (l.flatMap methodT ++ 125 :: r) = f'.flatMap fieldT ++ (l'.flatMap methodT ++ 125 :: s) → f = f' ∧ l = l' ∧ r = s
  | [], [], l, l', r, s, _, _, h1, h2, h => ⟨rfl, read_methods l l' r s h1 h2 (by simpa using h)⟩
  | [], e :: f', l, l', r, s, _, h0, h1, h2, h => by
    simp only [List.all_cons, Bool.and_eq_true] at h0
    rw [List.flatMap_cons, List.append_assoc] at h
    exact absurd h (not_field h1 h0.1)
  | e :: f, [], l, l', r, s, h0, _, h1, h2, h => by
    simp only [List.all_cons, Bool.and_eq_true] at h0
    rw [List.flatMap_cons, List.append_assoc] at h
    exact absurd h.symm (not_field h2 h0.1)
  | e :: f, d :: f', l, l', r, s, g1, g2, h1, h2, h => by
    simp only [List.all_cons, Bool.and_eq_true] at g1 g2
    rw [List.flatMap_cons, List.flatMap_cons] at h
    unfold fieldT at h
    simp only [List.append_assoc, List.cons_append, List.cons.injEq, true_and] at h
    replace h := read_slot g1.1 g2.1 (fun c hc => head_is (c := 59) (by decide) hc) (fun c hc => head_is (c := 59) (by decide) hc) h
    obtain ⟨rfl, h⟩ := h
    simp only [List.cons.injEq, true_and, List.nil_append] at h
    obtain ⟨rfl, rfl, rfl⟩ := read_fields f f' l l' r s g1.2 g2.2 h1 h2 h
    exact ⟨rfl, rfl, rfl⟩

theorem super_head (s : ByteArray) (r : List UInt8) : ∀ c, (superT s ++ 32 :: r).head? = some c → within c = false := by
  intro c hc
  unfold superT at hc
  split at hc
  · exact head_is (c := 32) (by decide) hc
  · exact head_is (c := 32) (by decide) hc
theorem read_super {a b : ByteArray} {r s : List UInt8} (ha : a.toList = [] ∨ isName a.data.toList = true) (hb : b.toList = [] ∨ isName b.data.toList = true) (h : superT a ++ 32 :: 123 :: r = superT b ++ 32 :: 123 :: s) : a = b ∧ r = s := by
  unfold superT at h
  by_cases e1 : a.toList = []
  · by_cases e2 : b.toList = []
    · rw [if_pos e1, if_pos e2] at h
      simp at h
      rw [ba_toList] at e1 e2
      exact ⟨ba_ext (e1.trans e2.symm), h⟩
    · rw [if_pos e1, if_neg e2] at h
      simp at h
  · by_cases e2 : b.toList = []
    · rw [if_neg e1, if_pos e2] at h
      simp at h
    · rw [if_neg e1, if_neg e2] at h
      simp only [List.append_assoc, List.append_cancel_left_eq] at h
      have ha := ha.resolve_left e1
      have hb := hb.resolve_left e2
      replace h := within_span (name_all ha) (name_all hb) (fun c hc => head_is (c := 32) (by decide) hc) (fun c hc => head_is (c := 32) (by decide) hc) h
      obtain ⟨e3, h⟩ := h
      simp at h
      exact ⟨ba_ext e3, h⟩
theorem class_parts {c : Cl} (h : classOK c = true) : isName c.name.data.toList = true ∧ (c.super.toList = [] ∨ isName c.super.data.toList = true) ∧ c.fields.all slotOK = true ∧ c.methods.all methodOK = true := by
  unfold classOK classHead at h
  simp only [Bool.and_eq_true, Bool.or_eq_true, beq_iff_eq] at h
  exact ⟨h.1.1, h.1.2.1, h.1.2.2, h.2⟩
theorem read_class {a b : Cl} {r s : List UInt8} (ha : classOK a = true) (hb : classOK b = true) (h : classT a ++ r = classT b ++ s) : a = b ∧ r = s := by
  obtain ⟨a1, a2, a3, a4⟩ := class_parts ha
  obtain ⟨b1, b2, b3, b4⟩ := class_parts hb
  rw [class_form, class_form] at h
  simp only [List.append_assoc, List.cons_append, List.cons.injEq, true_and, List.nil_append] at h
  replace h := within_span (name_all a1) (name_all b1) (super_head _ _) (super_head _ _) h
  obtain ⟨e1, h⟩ := h
  replace h := read_super a2 b2 h
  obtain ⟨e2, h⟩ := h
  simp only [List.cons.injEq, true_and] at h
  replace h := read_fields _ _ _ _ _ _ a3 b3 a4 b4 h
  obtain ⟨e3, e4, h⟩ := h
  simp only [List.cons.injEq, true_and] at h
  cases a; cases b
  simp only at e2 e3 e4
  simp only [Cl.mk.injEq]
  exact ⟨⟨ba_ext e1, e2, e3, e4⟩, h⟩
theorem read_classes : ∀ (l l' : List Cl) (r s : List UInt8), l.all classOK = true → l'.all classOK = true → l.flatMap classT ++ 109 :: r = l'.flatMap classT ++ 109 :: s → l = l' ∧ r = s
  | [], [], r, s, _, _, h => by simp at h; exact ⟨rfl, h⟩
  | [], e :: l', r, s, _, _, h => by simp [class_form] at h
  | e :: l, [], r, s, _, _, h => by simp [class_form] at h
  | e :: l, d :: l', r, s, h1, h2, h => by
    simp only [List.flatMap_cons, List.append_assoc] at h
    simp only [List.all_cons, Bool.and_eq_true] at h1 h2
    replace h := read_class h1.1 h2.1 h
    obtain ⟨rfl, h⟩ := h
    obtain ⟨rfl, rfl⟩ := read_classes l l' r s h1.2 h2.2 h
    exact ⟨rfl, rfl⟩
/-- A PROGRAM's TEXT TELLS THE PROGRAM -/
theorem read_program {p q : Pr} (hp : prOK p = true) (hq : prOK q = true) (h : programT p = programT q) : p = q := by
  unfold prOK at hp hq
  rw [Bool.and_eq_true] at hp hq
  unfold programT at h
  obtain ⟨e1, h⟩ := read_classes p.classes q.classes ([97, 105, 110, 32] ++ blockT 0 p.main ++ [10]) ([97, 105, 110, 32] ++ blockT 0 q.main ++ [10]) hp.2 hq.2 (by simpa using h)
  simp only [List.append_assoc, List.append_cancel_left_eq] at h
  obtain ⟨e2, _⟩ := read_block hp.1 hq.1 h
  cases p; cases q
  simp only at e1 e2
  rw [e1, e2]
end Go.Proofs.YtapdgeajbnbdjaaDoor
