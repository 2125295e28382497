/- from what a reading tells to the trees -/
import Derived.Test.YtapdgeajbnbdjaaDoorData
import Derived.Test.YtapdgeajbnbdjaaDoorRows
import Derived.OpenShut
import Derived.ReadAgain
namespace Go.Proofs.YtapdgeajbnbdjaaDoor
open Go.RowKit Go.ChangeShapes Go.WideShapes

section
variable {H : Type} {enc : TypeId × Value → H} {w : World} {sp : Nat → Bool} {hd : Bool}

theorem gather {α β : Type} (R : α → Array Value → Prop) (bulk : α → Nat) (big : β → Nat) : ∀ (ys : List β) (P : Nat → Array Value → Prop),
    (∀ i y, ys[i]? = some y → ∃ a c, R a c ∧ bulk a ≤ big y ∧ P i c) → ∃ l xs, All2 R l xs ∧ xs.length = ys.length ∧ (l.map bulk).sum ≤ (ys.map big).sum ∧ ∀ i c, xs[i]? = some c → P i c
  | [], P, _ => ⟨[], [], rfl, rfl, Nat.le_refl _, fun i c h => by simp at h⟩
  | y :: ys, P, h => by
    obtain ⟨a, c, hR, hb, hP⟩ := h 0 y rfl
    obtain ⟨l, xs, h1, h2, h3, h4⟩ := gather R bulk big ys (fun i => P (i + 1)) (fun i z hz => h (i + 1) z (by simpa using hz))
    refine ⟨a :: l, c :: xs, ⟨c, xs, rfl, hR, h1⟩, by simp [h2], by simp only [List.map_cons, List.sum_cons]; omega, fun i c' hc' => ?_⟩
    cases i with
    | zero => simp at hc'; subst hc'; exact hP
    | succ i => exact h4 i c' (by simpa using hc')

theorem bulkAll_map (l : List (DataW H × List MemPlace)) : Rows.uptoBulkAll (l.map (·.1)) = (l.map (fun y => Rows.uptoBulk y.1)).sum := by
  induction l with
  | nil => rfl
  | cons a l ih => simp only [List.map_cons, Rows.uptoBulkAll, List.sum_cons, ih]

set_option maxRecDepth 100000 in
theorem trodSl {α : Type} {te ts : TypeId} {size : Nat} (hu : Tryd.prog.underlying ts = some (.slice te)) (hc : Tryd.prog.cellsOf te = size) (hpos : 0 < size) (R : α → Array Value → Prop) (bulk : α → Nat) {fuel : Nat}
    (ih : ∀ m, m < fuel → ∀ cs x, DataW.trod enc Tryd.prog w 0 sp hd m te cs = some x → ∃ a, R a cs.toArray ∧ bulk a ≤ Rows.uptoBulk x.1) (cs : List Value) (x : DataW H × List MemPlace) (h : DataW.trod enc Tryd.prog w 0 sp hd fuel ts cs = some x) :
    ∃ (l : List α) (v : Value) (xs : List (Array Value)), cs = [v] ∧ SlV w size v xs ∧ All2 R l xs ∧ (l.map bulk).sum + 1 ≤ Rows.uptoBulk x.1 := by
  rcases DataW.trod_slice hu h with ⟨rfl, rfl⟩ | ⟨a, len, cap, elems, rest, n, hn, hcs, rfl, _, hlc, hcm, hlen, hel, _, _⟩
  · exact ⟨[], _, [], rfl, SlV.nil w size, rfl, by simp [Rows.uptoBulk]⟩
  · rw [hc] at hel
    have hone : ∀ i y, elems[i]? = some y → ∃ cs', w.cells? 0 (a.add (i * size)) size = some cs' ∧ DataW.trod enc Tryd.prog w 0 sp hd n te cs' = some y := by
      intro i y hy
      have hi : i < len := by rw [← hlen]; exact (List.getElem?_eq_some_iff.1 hy).1
      have := hel i hi
      rw [hy, Option.bind_eq_some_iff] at this
      exact this
    have hspot : 0 < len → a.spot = none := by
      intro h0
      obtain ⟨y, hy⟩ : ∃ y, elems[0]? = some y := ⟨elems[0]'(by omega), List.getElem?_eq_getElem _⟩
      obtain ⟨cs', h1, _⟩ := hone 0 y hy
      obtain ⟨_, h2, h3⟩ := World.cells?_some h1
      have h4 := h3 0 hpos
      obtain ⟨c, hc0⟩ : ∃ c, cs'[0]? = some c := ⟨cs'[0]'(by omega), List.getElem?_eq_getElem _⟩
      rw [hc0] at h4
      have := World.cell?_spot h4
      simpa [Addr.add] using this
    obtain ⟨l, xs, h1, h2, h3, h4⟩ := gather R bulk (fun y : DataW H × List MemPlace => Rows.uptoBulk y.1) elems
      (fun i c => ∃ b off, some a = some ⟨b, off, none⟩ ∧ b < w.heap.size ∧ c.size = size ∧ ∀ j, j < size → w.cell? ⟨b, off + i * size + j, none⟩ = c[j]?) (by
        intro i y hy
        obtain ⟨cs', hc1, hc2⟩ := hone i y hy
        obtain ⟨e, he, hb⟩ := ih n (by omega) cs' y hc2
        obtain ⟨_, hl, hcell⟩ := World.cells?_some hc1
        have hi : i < len := by rw [← hlen]; exact (List.getElem?_eq_some_iff.1 hy).1
        have hs := hspot (by omega)
        obtain ⟨b, off, spot⟩ := a
        simp only at hs
        subst hs
        have hcell' : ∀ j, j < size → w.cell? ⟨b, off + i * size + j, none⟩ = cs'.toArray[j]? := by
          intro j hj
          have := hcell j hj
          rw [List.getElem?_toArray, ← this]
          congr 1
          unfold Addr.add
          by_cases h0 : i * size = 0
          · rw [if_pos h0]
            by_cases h00 : j = 0
            · rw [if_pos h00, h0, h00]; rfl
            · rw [if_neg h00, h0]; rfl
          · rw [if_neg h0]
            by_cases h00 : j = 0
            · rw [if_pos h00, h00]; rfl
            · rw [if_neg h00]
        refine ⟨e, cs'.toArray, he, hb, b, off, rfl, ?_, by simpa using hl, hcell'⟩
        have h0 := hcell' 0 hpos
        obtain ⟨c, hc0⟩ : ∃ c, cs'.toArray[0]? = some c := ⟨cs'.toArray[0]'(by simp; omega), Array.getElem?_eq_getElem _⟩
        rw [hc0] at h0
        exact cell_lt h0)
    refine ⟨l, _, xs, hcs, ⟨some a, cap, by rw [h2, hlen], by omega, hcm, (fun h => by cases h), ?_⟩, h1, ?_⟩
    · intro i c hc'
      exact h4 i c hc'
    · simp only [Rows.uptoBulk, bulkAll_map]
      omega

theorem sum_bulk_ex : ∀ l : List Ex, (l.map Ex.bulk).sum + 1 = Exs.bulk l
  | [] => rfl
  | a :: l => by simp only [List.map_cons, List.sum_cons, Exs.bulk, ← sum_bulk_ex l]; omega
theorem sum_bulk_st : ∀ l : List St, (l.map St.bulk).sum + 1 = Sts.bulk l
  | [] => rfl
  | a :: l => by simp only [List.map_cons, List.sum_cons, Sts.bulk, ← sum_bulk_st l]; omega
theorem sum_bulk_sl : ∀ l : List Sl, (l.map Sl.bulk).sum + 1 = Sls.bulk l
  | [] => rfl
  | a :: l => by simp only [List.map_cons, List.sum_cons, Sls.bulk, ← sum_bulk_sl l]; omega
theorem sum_bulk_me : ∀ l : List Me, (l.map Me.bulk).sum + 1 = Mes.bulk l
  | [] => rfl
  | a :: l => by simp only [List.map_cons, List.sum_cons, Mes.bulk, ← sum_bulk_me l]; omega
theorem sum_bulk_cl : ∀ l : List Cl, (l.map Cl.bulk).sum + 1 = Cls.bulk l
  | [] => rfl
  | a :: l => by simp only [List.map_cons, List.sum_cons, Cls.bulk, ← sum_bulk_cl l]; omega

theorem list1 {α : Type _} {l : List α} (h : l.length = 1) : ∃ a, l = [a] := by
  match l, h with
  | [a], _ => exact ⟨a, rfl⟩
theorem list2 {α : Type _} {l : List α} (h : l.length = 2) : ∃ a b, l = [a, b] := by
  match l, h with
  | [a, b], _ => exact ⟨a, b, rfl⟩
theorem list4 {α : Type _} {l : List α} (h : l.length = 4) : ∃ a b c d, l = [a, b, c, d] := by
  match l, h with
  | [a, b, c, d], _ => exact ⟨a, b, c, d, rfl⟩
theorem list7 {α : Type _} {l : List α} (h : l.length = 7) : ∃ a b c d e f g, l = [a, b, c, d, e, f, g] := by
  match l, h with
  | [a, b, c, d, e, f, g], _ => exact ⟨a, b, c, d, e, f, g, rfl⟩
/-- four fields, one cell each -/
theorem four {t : TypeId} {f0 f1 f2 f3 : Field} {fuel : Nat} {cs : List Value} {x : DataW H × List MemPlace} (ht : Tryd.prog.underlying t = some (.struct #[f0, f1, f2, f3])) (hl : Tryd.prog.cellsOf t = 4)
    (o0 : f0.offset = 0) (o1 : f1.offset = 1) (o2 : f2.offset = 2) (o3 : f3.offset = 3) (c0 : Tryd.prog.cellsOf f0.type = 1) (c1 : Tryd.prog.cellsOf f1.type = 1) (c2 : Tryd.prog.cellsOf f2.type = 1) (c3 : Tryd.prog.cellsOf f3.type = 1)
    (h : DataW.trod enc Tryd.prog w 0 sp hd fuel t cs = some x) :
    ∃ n v0 v1 v2 v3 y0 y1 y2 y3, fuel = n + 1 ∧ cs = [v0, v1, v2, v3] ∧ x.1 = .agg [y0.1, y1.1, y2.1, y3.1] ∧ DataW.trod enc Tryd.prog w 0 sp hd n f0.type [v0] = some y0 ∧ DataW.trod enc Tryd.prog w 0 sp hd n f1.type [v1] = some y1 ∧
      DataW.trod enc Tryd.prog w 0 sp hd n f2.type [v2] = some y2 ∧ DataW.trod enc Tryd.prog w 0 sp hd n f3.type [v3] = some y3 := by
  obtain ⟨xs, n, hn, hx, hcl, hxl, hf⟩ := DataW.trod_struct ht h
  rw [hl] at hcl
  obtain ⟨v0, v1, v2, v3, rfl⟩ := list4 hcl
  obtain ⟨y0, y1, y2, y3, rfl⟩ := list4 hxl
  · · have g0 := hf 0 f0 rfl
      have g1 := hf 1 f1 rfl
      have g2 := hf 2 f2 rfl
      have g3 := hf 3 f3 rfl
      rw [o0, c0] at g0
      rw [o1, c1] at g1
      rw [o2, c2] at g2
      rw [o3, c3] at g3
      exact ⟨n, v0, v1, v2, v3, y0, y1, y2, y3, hn, rfl, by rw [hx]; rfl, g0, g1, g2, g3⟩

theorem i64_of {n : Int} (h : (Lit.int .i64 n).wf = true) : I64 n := bounds_i64 h

set_option maxRecDepth 100000 in
theorem open_ex (fuel : Nat) : ∀ (k : Nat), k ≤ fuel → ∀ (cs : List Value) (x : DataW H × List MemPlace), DataW.trod enc Tryd.prog w 0 sp hd k 24 cs = some x → ∃ e : Ex, Ex.R w e cs.toArray ∧ e.bulk ≤ Rows.uptoBulk x.1 := by
  induction fuel with
  | zero => intro k hk cs x h; obtain rfl : k = 0 := by omega
            simp [DataW.trod] at h
  | succ fuel ih =>
    intro k hk cs x h
    obtain ⟨n, v0, v1, v2, v3, y0, y1, y2, y3, hn, rfl, hx, g0, g1, g2, g3⟩ := four Tryd.underlying24 (by kernel_rfl) rfl rfl rfl rfl (by kernel_rfl) (by kernel_rfl) (by kernel_rfl) (by kernel_rfl) h
    obtain ⟨a, ha, rfl, wa⟩ := DataW.trod_int Tryd.underlying3 g0
    obtain ⟨b, hb, rfl, wb⟩ := DataW.trod_int Tryd.underlying2 g1
    obtain ⟨s, hs, rfl, ws⟩ := DataW.trod_string Tryd.underlying9 g2
    obtain ⟨l, v, xs, hv, hS, hA, hB⟩ := trodSl Tryd.underlying22 (size := 4) (by kernel_rfl) (by decide) (Ex.R w) Ex.bulk (fun m hm => ih m (by omega)) _ _ g3
    injection ha with ha; injection hb with hb; injection hs with hs; injection hv with hv
    subst ha; subst hb; subst hs; subst hv
    refine ⟨.mk a b s l, ?_, ?_⟩
    · simp only [Ex.R]
      exact ⟨_, rfl, i64_of wa, i64_of wb, ws, xs, hS, (Exs.R.all2 l xs).2 hA⟩
    · rw [hx]
      rw [sum_bulk_ex] at hB
      simp only [Ex.bulk, Rows.uptoBulk, Rows.uptoBulkAll]
      have : s.data.toList.length = s.size := rfl
      omega

theorem kids : Kids Tryd.prog (· < Tryd.prog.types.size) := kids_rows (by kernel_rfl) (by kernel_rfl)
theorem full : ∀ t e, t < Tryd.prog.types.size → Tryd.prog.underlying t = some (.slice e) → 0 < Tryd.prog.cellsOf e := slices_full_of _ (by kernel_rfl)

/-- what was read reads again, where what was there lies as it lay -/
theorem again {w' : World} (hb : Below w.heap.size w w') {spare' : Nat → Bool} : ∀ {ts : List TypeId} {vs : List Value} {ds : List (DataW H)} {ps : List MemPlace}, (∀ t ∈ ts, t < Tryd.prog.types.size) →
    DataW.TrodAll enc Tryd.prog w 0 (fun _ => true) true ts vs ds ps → (∀ p ∈ ps, spare' p.block = true) → DataW.TrodAll enc Tryd.prog w' 0 spare' true ts vs ds ps
  | [], [], [], _, _, h, _ => h
  | t :: _, v :: _, d :: _, _, hT, ⟨p, q, ⟨n, h1⟩, h2, e⟩, hs => by
    have k1 := DataW.trod_respare kids full n t _ _ (hT t (by simp)) h1 (fun x hx => hs x (by rw [e]; exact List.mem_append_left _ hx))
    have k2 := DataW.trod_carry (w' := w') n t _ _ k1 (fun x hx => hb.same (DataW.trod_lt n t _ _ h1 x hx))
    exact ⟨p, q, ⟨n, k2⟩, again hb (fun t ht => hT t (by simp [ht])) h2 (fun x hx => hs x (by rw [e]; exact List.mem_append_right _ hx)), e⟩

set_option maxRecDepth 100000 in
/-- what a law's statement asks behind the call: true, and the arguments read as they did -/
theorem law_post {f : Func} {s : ChangeSpec} {W W' : World} {args : Array Value} {ds gs : List (DataW H)} {before : List MemPlace} (hW : DataW.Whole enc Tryd.prog f.params.toList s.vars false W args.toList ds gs before)
    (hv : s.vars = []) (hr : f.resultTypes = #[4]) (hs : s.fn H (ds ++ gs) = { results := [.lit (.bool true)], args := ds }) (hT : ∀ t ∈ f.params.toList, t < Tryd.prog.types.size) (hb : Below W.heap.size W W') :
    s.post enc Tryd.prog f false true false false W args (.bool true) W' := by
  have hlt := hW.lt
  have hW' := hW
  obtain ⟨p, q, hA, hV, hpq, hz, _⟩ := hW'
  rw [hv] at hV
  obtain ⟨rfl, rfl⟩ : gs = [] ∧ q = [] := by cases gs with
    | nil => exact ⟨rfl, hV⟩
    | cons a l => exact False.elim hV
  rw [List.append_nil] at hpq
  subst hpq
  have hres : ∀ (b : Nat) (sp : Nat → Bool) (hd : Bool), DataW.TrodAll enc Tryd.prog W' b sp hd f.resultTypes.toList ((Value.bool true).resultList f.resultTypes.size) (s.fn H (ds ++ [])).results [] := by
    intro b sp hd
    rw [hr, hs]
    exact trodAll_mk1 (shut_bool Tryd.underlying4 true)
  have hargs : ∀ sp : Nat → Bool, (∀ x ∈ before, sp x.block = true) → DataW.TrodAll enc Tryd.prog W' 0 sp true f.params.toList args.toList (s.fn H (ds ++ [])).args before := by
    intro sp hsp
    rw [hs]
    exact again hb hT hA hsp
  have hvars : ∀ sp : Nat → Bool, DataW.TrodVars enc Tryd.prog W' sp s.vars (s.fn H (ds ++ [])).vars [] := by
    intro sp
    rw [hv, hs]
    rfl
  refine ⟨ds, [], before, [], before, [], hW, hres _ _ _, hargs _ (fun x hx => by simpa using hlt x hx), hvars _, World.keptBut_mono (fun x hx => ⟨hx, Or.inr (Or.inl hx)⟩) (hb.frame _), fun _ => ?_⟩
  refine ⟨ok_one hr rfl (okWide_bool_mk Tryd.underlying4 _), _, _, ([] ++ before) ++ [], ⟨[] ++ before, [], trodAll_append (hargs _ (fun _ _ => rfl)) (hres _ _ _), hvars _, rfl, ?_, fun h => by cases h⟩, ?_⟩
  · intro b off hm
    have hm' : MemPlace.cell b off ∈ before := by simpa using hm
    have hl : b < W.heap.size := hlt _ hm'
    rw [hb.frozen (p := ⟨b, off, none⟩) hl]
    exact hz b off hm'
  · intro x hx _
    simpa using hx
end
end Go.Proofs.YtapdgeajbnbdjaaDoor
