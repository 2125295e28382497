/- The program's data as plain Lean trees, and how they lie in memory. -/
import Derived.Test.YtapdgeajbnbdjaaDoorBase
namespace Go.Proofs.YtapdgeajbnbdjaaDoor
open Go.RowKit

inductive Ex where
  | mk (kind num : Int) (name : ByteArray) (kids : List Ex)
inductive St where
  | mk (kind num : Int) (type name : ByteArray) (exprs : List Ex) (thn els : List St)
structure Sl where
  type : ByteArray
  name : ByteArray
structure Me where
  type : ByteArray
  name : ByteArray
  params : List Sl
  body : List St
structure Cl where
  name : ByteArray
  super : ByteArray
  fields : List Sl
  methods : List Me
structure Pr where
  classes : List Cl
  main : List St

def Ex.kind : Ex → Int | .mk k _ _ _ => k
def Ex.num : Ex → Int | .mk _ n _ _ => n
def Ex.name : Ex → ByteArray | .mk _ _ s _ => s
def Ex.kids : Ex → List Ex | .mk _ _ _ l => l
def St.kind : St → Int | .mk k _ _ _ _ _ _ => k
def St.num : St → Int | .mk _ n _ _ _ _ _ => n
def St.type : St → ByteArray | .mk _ _ t _ _ _ _ => t
def St.name : St → ByteArray | .mk _ _ _ s _ _ _ => s
def St.exprs : St → List Ex | .mk _ _ _ _ l _ _ => l
def St.thn : St → List St | .mk _ _ _ _ _ l _ => l
def St.els : St → List St | .mk _ _ _ _ _ _ l => l

/-- an int64's range -/
def I64 (n : Int) : Prop := -9223372036854775808 ≤ n ∧ n ≤ 9223372036854775807

-- how much there is in one: every value and every letter counts
mutual
def Ex.bulk : Ex → Nat
  | .mk _ _ s ks => s.size + Exs.bulk ks + 4
def Exs.bulk : List Ex → Nat
  | [] => 1
  | e :: es => Ex.bulk e + Exs.bulk es
end
mutual
def St.bulk : St → Nat
  | .mk _ _ t s xs a b => t.size + s.size + Exs.bulk xs + Sts.bulk a + Sts.bulk b + 5
def Sts.bulk : List St → Nat
  | [] => 1
  | s :: ss => St.bulk s + Sts.bulk ss
end
def Sl.bulk (s : Sl) : Nat := s.type.size + s.name.size + 3
def Sls.bulk : List Sl → Nat
  | [] => 1
  | s :: ss => Sl.bulk s + Sls.bulk ss
def Me.bulk (m : Me) : Nat := m.type.size + m.name.size + Sls.bulk m.params + Sts.bulk m.body + 3
def Mes.bulk : List Me → Nat
  | [] => 1
  | s :: ss => Me.bulk s + Mes.bulk ss
def Cl.bulk (c : Cl) : Nat := c.name.size + c.super.size + Sls.bulk c.fields + Mes.bulk c.methods + 3
def Cls.bulk : List Cl → Nat
  | [] => 1
  | s :: ss => Cl.bulk s + Cls.bulk ss
def Pr.bulk (p : Pr) : Nat := Cls.bulk p.classes + Sts.bulk p.main + 1

-- how they lie in memory: the cells of one
mutual
def Ex.R (w : World) : Ex → Array Value → Prop
  | .mk k n s ks, c => ∃ kv, c = #[.int .i64 k, .int .i64 n, .string s, kv] ∧ I64 k ∧ I64 n ∧ s.size ≤ maxLen ∧ ∃ xs, SlV w 4 kv xs ∧ Exs.R w ks xs
def Exs.R (w : World) : List Ex → List (Array Value) → Prop
  | [], xs => xs = []
  | e :: es, xs => ∃ x ys, xs = x :: ys ∧ Ex.R w e x ∧ Exs.R w es ys
end
mutual
def St.R (w : World) : St → Array Value → Prop
  | .mk k n t s es a b, c => ∃ ev av bv, c = #[.int .i64 k, .int .i64 n, .string t, .string s, ev, av, bv] ∧ I64 k ∧ I64 n ∧ t.size ≤ maxLen ∧ s.size ≤ maxLen ∧
      (∃ xs, SlV w 4 ev xs ∧ Exs.R w es xs) ∧ (∃ xs, SlV w 7 av xs ∧ Sts.R w a xs) ∧ (∃ xs, SlV w 7 bv xs ∧ Sts.R w b xs)
def Sts.R (w : World) : List St → List (Array Value) → Prop
  | [], xs => xs = []
  | e :: es, xs => ∃ x ys, xs = x :: ys ∧ St.R w e x ∧ Sts.R w es ys
end
def Sl.R (_w : World) (s : Sl) (c : Array Value) : Prop := c = #[.string s.type, .string s.name] ∧ s.type.size ≤ maxLen ∧ s.name.size ≤ maxLen
/-- lists of whatever lies in cells -/
def All2 {α : Type} (R : α → Array Value → Prop) : List α → List (Array Value) → Prop
  | [], xs => xs = []
  | e :: es, xs => ∃ x ys, xs = x :: ys ∧ R e x ∧ All2 R es ys
def Sls.V (w : World) (l : List Sl) (v : Value) : Prop := ∃ xs, SlV w 2 v xs ∧ All2 (Sl.R w) l xs
def Exs.V (w : World) (l : List Ex) (v : Value) : Prop := ∃ xs, SlV w 4 v xs ∧ Exs.R w l xs
def Sts.V (w : World) (l : List St) (v : Value) : Prop := ∃ xs, SlV w 7 v xs ∧ Sts.R w l xs
def Me.R (w : World) (m : Me) (c : Array Value) : Prop := ∃ pv bv, c = #[.string m.type, .string m.name, pv, bv] ∧ m.type.size ≤ maxLen ∧ m.name.size ≤ maxLen ∧ Sls.V w m.params pv ∧ Sts.V w m.body bv
def Mes.V (w : World) (l : List Me) (v : Value) : Prop := ∃ xs, SlV w 4 v xs ∧ All2 (Me.R w) l xs
def Cl.R (w : World) (k : Cl) (c : Array Value) : Prop := ∃ fv mv, c = #[.string k.name, .string k.super, fv, mv] ∧ k.name.size ≤ maxLen ∧ k.super.size ≤ maxLen ∧ Sls.V w k.fields fv ∧ Mes.V w k.methods mv
def Cls.V (w : World) (l : List Cl) (v : Value) : Prop := ∃ xs, SlV w 4 v xs ∧ All2 (Cl.R w) l xs
def Pr.R (w : World) (p : Pr) (c : Array Value) : Prop := ∃ cv mv, c = #[cv, mv] ∧ Cls.V w p.classes cv ∧ Sts.V w p.main mv

-- they stay where what was there stays
mutual
theorem Ex.R.below {w w' : World} {B : Nat} (hb : Below B w w') (hB : w.heap.size ≤ B) : ∀ (e : Ex) (c : Array Value), Ex.R w e c → Ex.R w' e c
  | .mk k n s ks, c, h => by
    simp only [Ex.R] at h ⊢
    obtain ⟨kv, h1, h2, h3, h4, xs, h5, h6⟩ := h
    exact ⟨kv, h1, h2, h3, h4, xs, h5.below hb hB, Exs.R.below hb hB ks xs h6⟩
theorem Exs.R.below {w w' : World} {B : Nat} (hb : Below B w w') (hB : w.heap.size ≤ B) : ∀ (es : List Ex) (xs : List (Array Value)), Exs.R w es xs → Exs.R w' es xs
  | [], xs, h => by simpa only [Exs.R] using h
  | e :: es, xs, h => by
    simp only [Exs.R] at h ⊢
    obtain ⟨x, ys, h1, h2, h3⟩ := h
    exact ⟨x, ys, h1, Ex.R.below hb hB e x h2, Exs.R.below hb hB es ys h3⟩
end
mutual
theorem St.R.below {w w' : World} {B : Nat} (hb : Below B w w') (hB : w.heap.size ≤ B) : ∀ (e : St) (c : Array Value), St.R w e c → St.R w' e c
  | .mk k n t s es a b, c, h => by
    simp only [St.R] at h ⊢
    obtain ⟨ev, av, bv, h1, h2, h3, h4, h5, ⟨xs, h6, h7⟩, ⟨ys, h8, h9⟩, zs, h10, h11⟩ := h
    exact ⟨ev, av, bv, h1, h2, h3, h4, h5, ⟨xs, h6.below hb hB, Exs.R.below hb hB es xs h7⟩, ⟨ys, h8.below hb hB, Sts.R.below hb hB a ys h9⟩, zs, h10.below hb hB, Sts.R.below hb hB b zs h11⟩
theorem Sts.R.below {w w' : World} {B : Nat} (hb : Below B w w') (hB : w.heap.size ≤ B) : ∀ (es : List St) (xs : List (Array Value)), Sts.R w es xs → Sts.R w' es xs
  | [], xs, h => by simpa only [Sts.R] using h
  | e :: es, xs, h => by
    simp only [Sts.R] at h ⊢
    obtain ⟨x, ys, h1, h2, h3⟩ := h
    exact ⟨x, ys, h1, St.R.below hb hB e x h2, Sts.R.below hb hB es ys h3⟩
end
theorem All2.below {α : Type} {R R' : α → Array Value → Prop} (hR : ∀ a c, R a c → R' a c) : ∀ (es : List α) (xs : List (Array Value)), All2 R es xs → All2 R' es xs
  | [], xs, h => by simpa only [All2] using h
  | e :: es, xs, h => by
    simp only [All2] at h ⊢
    obtain ⟨x, ys, h1, h2, h3⟩ := h
    exact ⟨x, ys, h1, hR e x h2, All2.below hR es ys h3⟩
theorem Sls.V.below {w w' : World} {B : Nat} (hb : Below B w w') (hB : w.heap.size ≤ B) {l : List Sl} {v : Value} (h : Sls.V w l v) : Sls.V w' l v := by
  obtain ⟨xs, h1, h2⟩ := h
  exact ⟨xs, h1.below hb hB, All2.below (fun _ _ h => h) _ _ h2⟩
theorem Exs.V.below {w w' : World} {B : Nat} (hb : Below B w w') (hB : w.heap.size ≤ B) {l : List Ex} {v : Value} (h : Exs.V w l v) : Exs.V w' l v := by
  obtain ⟨xs, h1, h2⟩ := h
  exact ⟨xs, h1.below hb hB, Exs.R.below hb hB _ _ h2⟩
theorem Sts.V.below {w w' : World} {B : Nat} (hb : Below B w w') (hB : w.heap.size ≤ B) {l : List St} {v : Value} (h : Sts.V w l v) : Sts.V w' l v := by
  obtain ⟨xs, h1, h2⟩ := h
  exact ⟨xs, h1.below hb hB, Sts.R.below hb hB _ _ h2⟩
theorem Me.R.below {w w' : World} {B : Nat} (hb : Below B w w') (hB : w.heap.size ≤ B) (m : Me) (c : Array Value) (h : Me.R w m c) : Me.R w' m c := by
  obtain ⟨pv, bv, h1, h2, h3, h4, h5⟩ := h
  exact ⟨pv, bv, h1, h2, h3, h4.below hb hB, h5.below hb hB⟩
theorem Mes.V.below {w w' : World} {B : Nat} (hb : Below B w w') (hB : w.heap.size ≤ B) {l : List Me} {v : Value} (h : Mes.V w l v) : Mes.V w' l v := by
  obtain ⟨xs, h1, h2⟩ := h
  exact ⟨xs, h1.below hb hB, All2.below (Me.R.below hb hB) _ _ h2⟩
theorem Cl.R.below {w w' : World} {B : Nat} (hb : Below B w w') (hB : w.heap.size ≤ B) (m : Cl) (c : Array Value) (h : Cl.R w m c) : Cl.R w' m c := by
  obtain ⟨pv, bv, h1, h2, h3, h4, h5⟩ := h
  exact ⟨pv, bv, h1, h2, h3, h4.below hb hB, h5.below hb hB⟩
theorem Cls.V.below {w w' : World} {B : Nat} (hb : Below B w w') (hB : w.heap.size ≤ B) {l : List Cl} {v : Value} (h : Cls.V w l v) : Cls.V w' l v := by
  obtain ⟨xs, h1, h2⟩ := h
  exact ⟨xs, h1.below hb hB, All2.below (Cl.R.below hb hB) _ _ h2⟩
theorem Pr.R.below {w w' : World} {B : Nat} (hb : Below B w w') (hB : w.heap.size ≤ B) {p : Pr} {c : Array Value} (h : Pr.R w p c) : Pr.R w' p c := by
  obtain ⟨cv, mv, h1, h2, h3⟩ := h
  exact ⟨cv, mv, h1, h2.below hb hB, h3.below hb hB⟩
theorem Exs.R.all2 {w : World} : ∀ (es : List Ex) (xs : List (Array Value)), Exs.R w es xs ↔ All2 (Ex.R w) es xs
  | [], xs => by simp [Exs.R, All2]
  | e :: es, xs => by simp only [Exs.R, All2, Exs.R.all2 es]
theorem Sts.R.all2 {w : World} : ∀ (es : List St) (xs : List (Array Value)), Sts.R w es xs ↔ All2 (St.R w) es xs
  | [], xs => by simp [Sts.R, All2]
  | e :: es, xs => by simp only [Sts.R, All2, Sts.R.all2 es]
theorem All2.len {α : Type} {R : α → Array Value → Prop} : ∀ {es : List α} {xs : List (Array Value)}, All2 R es xs → xs.length = es.length
  | [], xs, h => by simp only [All2] at h; simp [h]
  | e :: es, xs, h => by
    simp only [All2] at h
    obtain ⟨x, ys, rfl, _, h3⟩ := h
    simp [All2.len h3]
theorem All2.at_ {α : Type} {R : α → Array Value → Prop} : ∀ {es : List α} {xs : List (Array Value)}, All2 R es xs → ∀ (i : Nat) x, xs[i]? = some x → ∃ e, es[i]? = some e ∧ R e x
  | [], xs, h => by simp only [All2] at h; subst h; intro i x hx; simp at hx
  | e :: es, xs, h => by
    simp only [All2] at h
    obtain ⟨x, ys, rfl, h2, h3⟩ := h
    intro i y hy
    cases i with
    | zero => simp at hy; subst hy; exact ⟨e, rfl, h2⟩
    | succ i => simpa using All2.at_ h3 i y (by simpa using hy)
theorem All2.mk {α : Type} {R : α → Array Value → Prop} : ∀ {es : List α} {xs : List (Array Value)}, xs.length = es.length → (∀ (i : Nat) e x, es[i]? = some e → xs[i]? = some x → R e x) → All2 R es xs
  | [], xs, h, _ => by simp only [All2]; exact List.eq_nil_of_length_eq_zero h
  | e :: es, [], h, _ => by simp at h
  | e :: es, x :: xs, h, hR => by
    simp only [All2]
    exact ⟨x, xs, rfl, hR 0 e x rfl rfl, All2.mk (by simpa using h) fun i e' x' h1 h2 => hR (i + 1) e' x' (by simpa using h1) (by simpa using h2)⟩

theorem Ex.R.cells {w : World} {e : Ex} {c : Array Value} (h : Ex.R w e c) : ∃ A n cap, c = #[.int .i64 e.kind, .int .i64 e.num, .string e.name, .slice A n cap] := by
  cases e with
  | mk k n s ks =>
    simp only [Ex.R] at h
    obtain ⟨kv, rfl, _, _, _, xs, ⟨A, cap, rfl, _⟩, _⟩ := h
    exact ⟨A, _, cap, rfl⟩

theorem Exs.bulk_le : ∀ {es : List Ex} {e : Ex}, e ∈ es → Ex.bulk e < Exs.bulk es
  | x :: es, e, h => by
    have h1 : ∀ es : List Ex, 1 ≤ Exs.bulk es := fun es => by cases es with | nil => simp [Exs.bulk] | cons a l => cases a; simp [Exs.bulk, Ex.bulk]; omega
    simp only [Exs.bulk]
    rcases List.mem_cons.1 h with rfl | h
    · have := h1 es; omega
    · have := Exs.bulk_le h; omega
theorem Sts.bulk_le : ∀ {es : List St} {e : St}, e ∈ es → St.bulk e < Sts.bulk es
  | x :: es, e, h => by
    have h1 : ∀ es : List St, 1 ≤ Sts.bulk es := fun es => by cases es with | nil => simp [Sts.bulk] | cons a l => cases a; simp [Sts.bulk, St.bulk]; omega
    simp only [Sts.bulk]
    rcases List.mem_cons.1 h with rfl | h
    · have := h1 es; omega
    · have := Sts.bulk_le h; omega
theorem Exs.len_le : ∀ (es : List Ex), es.length < Exs.bulk es
  | [] => by simp [Exs.bulk]
  | .mk k n s l :: es => by have := Exs.len_le es; simp only [Exs.bulk, Ex.bulk, List.length_cons]; omega
theorem Sts.len_le : ∀ (es : List St), es.length < Sts.bulk es
  | [] => by simp [Sts.bulk]
  | .mk k n t s l a b :: es => by have := Sts.len_le es; simp only [Sts.bulk, St.bulk, List.length_cons]; omega
theorem Sls.len_le : ∀ (es : List Sl), es.length < Sls.bulk es
  | [] => by simp [Sls.bulk]
  | s :: es => by have := Sls.len_le es; simp only [Sls.bulk, Sl.bulk, List.length_cons]; omega
theorem Sls.bulk_le : ∀ {es : List Sl} {e : Sl}, e ∈ es → Sl.bulk e < Sls.bulk es
  | x :: es, e, h => by
    have := Sls.len_le es
    simp only [Sls.bulk]
    rcases List.mem_cons.1 h with rfl | h
    · omega
    · have := Sls.bulk_le h; omega
theorem Mes.len_le : ∀ (es : List Me), es.length < Mes.bulk es
  | [] => by simp [Mes.bulk]
  | s :: es => by have := Mes.len_le es; simp only [Mes.bulk, Me.bulk, List.length_cons]; omega
theorem Mes.bulk_le : ∀ {es : List Me} {e : Me}, e ∈ es → Me.bulk e < Mes.bulk es
  | x :: es, e, h => by
    have := Mes.len_le es
    simp only [Mes.bulk]
    rcases List.mem_cons.1 h with rfl | h
    · omega
    · have := Mes.bulk_le h; omega
theorem Cls.len_le : ∀ (es : List Cl), es.length < Cls.bulk es
  | [] => by simp [Cls.bulk]
  | s :: es => by have := Cls.len_le es; simp only [Cls.bulk, Cl.bulk, List.length_cons]; omega
theorem Cls.bulk_le : ∀ {es : List Cl} {e : Cl}, e ∈ es → Cl.bulk e < Cls.bulk es
  | x :: es, e, h => by
    have := Cls.len_le es
    simp only [Cls.bulk]
    rcases List.mem_cons.1 h with rfl | h
    · omega
    · have := Cls.bulk_le h; omega
end Go.Proofs.YtapdgeajbnbdjaaDoor
