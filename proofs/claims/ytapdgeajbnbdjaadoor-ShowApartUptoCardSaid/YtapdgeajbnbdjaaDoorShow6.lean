/- show.Text: a program's text. -/
import Derived.Test.YtapdgeajbnbdjaaDoorShow5
import Derived.Test.YtapdgeajbnbdjaaDoorPage11
import Derived.Test.YtapdgeajbnbdjaaDoorPage8
import Derived.Deep.DeepCutAuto
import Derived.Deep.RegionHeld3
import Derived.Deep.OwnRows
import Derived.Lib.Join
namespace Go.Proofs.YtapdgeajbnbdjaaDoor
open Go.RowKit

theorem buildFour (x y z u : ByteArray) (w : World) : (Instr.buildSlice 63 4 #[(0, .string x), (1, .string y), (2, .string z), (3, .string u)]).run Tryd.prog w = .ok (.slice (some ⟨w.heap.size, 0, none⟩) 4 4) (w.alloc (.cells #[.string x, .string y, .string z, .string u] 9)) := by kernel_rfl
theorem buildSix (x y z u v q : ByteArray) (w : World) : (Instr.buildSlice 63 6 #[(0, .string x), (1, .string y), (2, .string z), (3, .string u), (4, .string v), (5, .string q)]).run Tryd.prog w = .ok (.slice (some ⟨w.heap.size, 0, none⟩) 6 6) (w.alloc (.cells #[.string x, .string y, .string z, .string u, .string v, .string q] 9)) := by kernel_rfl

theorem infoStr : (Tryd.prog.info? 9).map (fun i => (i.zero, i.size, i.bytes)) = some (some (.string ⟨#[]⟩), 1, 16) := by kernel_rfl
section
variable {B b : Nat} {t : Int} {w0 W : World} {L : List (Nat × Array Value × TypeId)} {l : List UInt8} {V : World}
theorem heap_setCell_other {V : World} {b k : Nat} (h : k ≠ b) (o : Nat) (v : Value) : (V.setCell ⟨b, o, none⟩ v).heap[k]? = V.heap[k]? := by
  simp [World.setCell, Array.getElem?_modify, Ne.symm h]
theorem Inv.set (h : Inv B b t w0 W L l V) (t' : Int) : Inv B b t' w0 W L l (V.setCell ⟨b, 2, none⟩ (.int .i64 t')) :=
  ⟨h.page.set t', h.kept.set h.page.low _, fun p hp => ⟨by rw [heap_setCell_other (h.box p hp).2.1]; exact (h.box p hp).1, (h.box p hp).2⟩, h.old.setCell (p := ⟨b, 2, none⟩) h.page.low _, h.base⟩
/-- a box let go -/
theorem Inv.drop {x : Nat × Array Value × TypeId} (h : Inv B b t w0 W (x :: L) l V) : Inv B b t w0 W L l V := ⟨h.page, h.kept, fun p hp => h.box p (List.mem_cons_of_mem _ hp), h.old, h.base⟩
end

theorem join_commas (xs : List (List UInt8)) : Lib.join xs [44, 32] = commas xs := by
  cases xs with
  | nil => rfl
  | cons a l => rw [Lib.join_cons, commas_cons, Lib.joinTail, List.flatMap_def]; rfl
def slotS (s : Sl) : ByteArray := s.type ++ ⟨#[32]⟩ ++ s.name
theorem slotS_list (s : Sl) : (slotS s).data.toList = slotT s := by simp [slotS, slotT]
theorem setBox_page {B b k : Nat} {t : Int} {l : List UInt8} {V : World} {cs : Array Value} {T : TypeId} (h : PageAt B b l t V) (hk : V.heap[k]? = some (.cells cs T (0, 0))) (hne : k ≠ b) (hT : T ≠ 5) (o : Nat) (v : Value) : PageAt B b l t (V.setCell ⟨k, o, none⟩ v) := by
  have one : ∀ p, PageIs B b l t p V → PageIs B b l t p (V.setCell ⟨k, o, none⟩ v) := by
    rintro p ⟨hB, x, hb, hown, hn⟩
    refine ⟨hB, x, (heap_setCell_other hne.symm o v).trans hb, ownsRow_setCell_other hown ?_ _, hn⟩
    intro he
    rcases hown.2 with ⟨rfl, _⟩ | ⟨g, cap, cur, rfl, _, hg, _⟩
    · simp [Value.ownBlock] at he
    · have : g = k := by simpa [Value.ownBlock] using he
      subst this
      rw [hk] at hg
      injection hg with hg
      injection hg with _ ht
      exact hT ht
  exact h.elim (fun h => .inl (one _ h)) (fun h => .inr (one _ h))
theorem Inv.setBox {B b k : Nat} {t : Int} {w0 W : World} {L : List (Nat × Array Value × TypeId)} {l : List UInt8} {V : World} {cs : Array Value} {T : TypeId} (h : Inv B b t w0 W ((k, cs, T) :: L) l V) (hk : B ≤ k) (hW : W.heap.size ≤ k) (hne : ∀ p ∈ L, p.1 ≠ k) (o : Nat) (v : Value) :
    Inv B b t w0 W ((k, cs.setIfInBounds o v, T) :: L) l (V.setCell ⟨k, o, none⟩ v) := by
  obtain ⟨h1, h2, h3⟩ := h.box _ (List.Mem.head _)
  refine ⟨setBox_page h.page h1 h2 h3 o v, ⟨h.kept.1.setCell (p := ⟨k, o, none⟩) hk _, ?_⟩, ?_, h.old.setCell (p := ⟨k, o, none⟩) hk _, h.base⟩
  · intro i x hi hb hx
    have hlt := heap_lt hi
    rw [heap_setCell_other (by omega)]
    exact h.kept.2 i x hi hb hx
  · intro p hp
    rcases List.mem_cons.1 hp with rfl | hp
    · refine ⟨?_, h2, h3⟩
      simp [World.setCell, Array.getElem?_modify, h1]
    · have := h.box p (List.mem_cons_of_mem _ hp)
      exact ⟨(heap_setCell_other (hne p hp) o v).trans this.1, this.2⟩
theorem flat_take {α : Type} (f : α → List UInt8) (l : List α) (k : Nat) (x : α) (h : l[k]? = some x) : (l.take (k + 1)).flatMap f = (l.take k).flatMap f ++ f x := by
  rw [List.take_add_one, h]; simp
theorem flat_le {α : Type} (f : α → List UInt8) (l : List α) (k : Nat) (x : α) (h : l[k]? = some x) : ((l.take k).flatMap f).length + (f x).length ≤ (l.flatMap f).length := by
  have h1 : l = l.take k ++ (x :: l.drop (k + 1)) := by
    rw [← List.getElem?_eq_some_iff.1 h |>.2, ← List.drop_eq_getElem_cons, List.take_append_drop]
  have h2 : l.flatMap f = (l.take k).flatMap f ++ (f x ++ (l.drop (k + 1)).flatMap f) := by
    conv => lhs; rw [h1]
    simp
  rw [h2, List.length_append, List.length_append]
  omega
theorem fieldT_eq (s : Sl) : fieldT s = tabsT 1 ++ cat [s.type, ⟨#[32]⟩, s.name, ⟨#[59, 10]⟩] := by simp [fieldT, slotT, tabsT, cat]

/-- what a program is answered with -/
def prS (p : Pr) : ByteArray := if prOK p then doneS (programT p) else ⟨#[]⟩
def prN (p : Pr) : Int := if prOK p then doneN (programT p) else 30

set_option maxRecDepth 100000 in
set_option maxHeartbeats 4000000 in
theorem showText_any (p : Pr) (c : Array Value) (w : World) (hE : Env w) (hR : Pr.R w p c) (hbulk : p.bulk ≤ 2000000) :
    Calls Tryd.prog 10 #[.agg c] w fun e w' => e = .returned (.tuple #[.string (prS p), .int .i64 (prN p)]) ∧ Below w.heap.size w w' := by
  have hChk := fun o : Obj => showCheck_any p c (w.alloc o) (hE.below ((Below.refl _ w).alloc (Nat.le_refl _) o) (Nat.le_refl _)) (hR.below ((Below.refl _ w).alloc (Nat.le_refl _) o) (Nat.le_refl _)) hbulk
  obtain ⟨cv, mv, rfl, hC, hM⟩ := hR
  obtain ⟨ys, ⟨Am, capm, rfl, _⟩, _⟩ := id hM
  obtain ⟨xs, ⟨A, cap, rfl, hc1, hc2, _, hrows⟩, hX⟩ := hC
  have hlx := hX.len
  obtain ⟨N, hN⟩ : ∃ N, N = xs.length := ⟨_, rfl⟩
  rw [← hN] at hc1 hChk ⊢
  unfold maxLen at hc2
  have HE := Lib.hid hE; have HM := Lib.hid hM; have HX := Lib.hid hX; have HN := Lib.hid (And.intro hN hlx); have HR := Lib.hid hrows; have HB := Lib.hid hbulk; have HC := Lib.hid hChk
  clear hE hM hX hN hlx hrows hbulk hChk
  have hA := Below.alloc (Below.refl w.heap.size w) (Nat.le_refl _)
  cases hok : prOK p
  · have hs : prS p = ⟨#[]⟩ := by unfold prS; rw [hok]; rfl
    have hn : prN p = 30 := by unfold prN; rw [hok]; rfl
    have hc : chkN p = 30 := by unfold chkN; rw [hok]; rfl
    rw [hs, hn]
    have HCN := Lib.hid hc
    clear hs hn hc hok
    go_enter Tryd.func10, Tryd.ntmps10
    go_wp2_with fail
    refine (HC.out _).mono ?_; rw [HCN.out]; rintro x w1 ⟨rfl, hb⟩
    go_wp2_with fail
    go_ret2
    exact ⟨rfl, (hA _).trans (hb.mono (by simp))⟩
  · have hs : prS p = doneS (programT p) := by unfold prS; rw [hok]; rfl
    have hn : prN p = doneN (programT p) := by unfold prN; rw [hok]; rfl
    have hc : chkN p = 0 := by unfold chkN; rw [hok]; rfl
    have hlen : (programT p).length ≤ 100000000000000 := program_len p hok HB.out
    rw [hs, hn]
    have HCN := Lib.hid hc; have HOK := Lib.hid hok; have HLEN := Lib.hid hlen
    have hbs1 := buildOne
    have hbs2 := buildTwo
    have hbs4 := buildFour
    have hbs6 := buildSix
    clear hs hn hc hok hlen
    go_enter Tryd.func10, Tryd.ntmps10
    go_wp2_with fail
    refine (HC.out _).mono ?_; rw [HCN.out]; rintro x w1 ⟨rfl, hb⟩
    have hz1 : w.heap.size < w1.heap.size := by have := hb.size; simp at this; omega
    have hbox : w1.heap[w.heap.size]? = some (.cells #[.slice A N cap, .slice Am ys.length capm] 33 (0, 0)) := by
      exact below_heap hb (new_at w _)
    have c0 : w1.cell? ⟨w.heap.size, 0, none⟩ = some (.slice A N cap) := by rw [Lib.cell_of_heap hbox]; rfl
    have c1 : w1.cell? ⟨w.heap.size, 1, none⟩ = some (.slice Am ys.length capm) := by rw [Lib.cell_of_heap hbox]; rfl
    have hI0 : Inv w.heap.size w1.heap.size 0 w (w1.alloc (.cells #[.pointer none, .slice none 0 0, .int .i64 0] 47)) [(w.heap.size, #[.slice A N cap, .slice Am ys.length capm], 33)] [] (w1.alloc (.cells #[.pointer none, .slice none 0 0, .int .i64 0] 47)) := by
      refine ⟨pageAt_new (Nat.le_of_lt hz1), Kept.refl _ _ _, ?_, ((hA _).trans (hb.mono (by simp))).alloc (Nat.le_of_lt hz1) _, Nat.le_refl _⟩
      intro q hq
      simp at hq
      subst hq
      exact ⟨old_at hbox _, by show w.heap.size ≠ w1.heap.size; omega, by show 33 ≠ 5; decide⟩
    have HI0 := Lib.hid hI0
    clear hI0 hb hbox
    go_wp2_with fail
    go_loopw [25] (fun i wr => ∃ k : Nat, k ≤ N ∧ i = .int .i64 k ∧ Inv w.heap.size w1.heap.size 0 w (w1.alloc (.cells #[.pointer none, .slice none 0 0, .int .i64 0] 47)) [(w.heap.size, #[.slice A N cap, .slice Am ys.length capm], 33)] ((p.classes.take k).flatMap classT) wr) (fun i _ => N - (intOf i).toNat)
    case atStart => exact ⟨0, Nat.zero_le _, rfl, HI0.out⟩
    case round =>
      obtain ⟨k, hk, rfl, hIr⟩ := hrel
      have HIr := Lib.hid hIr; clear hIr
      have hxr := HIr.out.page.lt
      by_cases hlt : k < N
      · have hn1 := HN.out.1
        have hn2 := HN.out.2
        obtain ⟨x, hx⟩ : ∃ x, xs[k]? = some x := ⟨xs[k]'(by omega), List.getElem?_eq_getElem _⟩
        obtain ⟨cl, hcl, hRc⟩ := HX.out.at_ k x hx
        obtain ⟨bk, off, d0, d1, d2, d3, rfl, _, hxx, hq0, hq1, hq2, hq3⟩ := (HR.out.below HIr.out.old (Nat.le_refl _)).at4 hx
        obtain ⟨fv, mv', hcs, hs1, hs2, hF, hMe⟩ := hRc
        rw [hxx] at hcs
        obtain ⟨rfl, rfl, rfl, rfl⟩ := arr4_inj hcs
        obtain ⟨ms, ⟨Am', capm', rfl, hm1, hm2, _, hmrows⟩, hMs⟩ := id hMe
        obtain ⟨fs, ⟨Af, capf, rfl, hf1, hf2, _, hfrows⟩, hFs⟩ := id hF
        have hlm := hMs.len
        have hlf := hFs.len
        obtain ⟨NM, hNM⟩ : ∃ NM, NM = ms.length := ⟨_, rfl⟩
        obtain ⟨NF, hNF⟩ : ∃ NF, NF = fs.length := ⟨_, rfl⟩
        rw [← hNM] at hm1 hq3
        rw [← hNF] at hf1 hq2
        unfold maxLen at hm2 hf2
        have hbu := Cls.bulk_le (List.mem_of_getElem? hcl)
        have hbu2 : cl.bulk ≤ 2000000 := by have := HB.out; unfold Pr.bulk at this; omega
        have hok : classOK cl = true := by
          have := HOK.out
          unfold prOK at this
          rw [Bool.and_eq_true, List.all_eq_true] at this
          exact this.2 cl (List.mem_of_getElem? hcl)
        have hsp := flat_le classT p.classes k cl hcl
        have hspl : ((p.classes.take k).flatMap classT).length + (classT cl).length ≤ 100000000000000 := by
          have := HLEN.out
          unfold programT at this
          rw [List.length_append] at this
          omega
        have htk := flat_take classT p.classes k cl hcl
        have hcl2 : (classT cl).length = 6 + (cl.name.size + ((superT cl.super).length + ((cl.fields.flatMap fieldT).length + ((cl.methods.flatMap methodT).length + 2) + 3))) := by
          rw [class_form]
          simp only [List.length_append, List.length_cons, List.length_nil, ba_len]
        have HFs := Lib.hid hFs; have HMs := Lib.hid hMs; have HNM := Lib.hid (And.intro hNM hlm); have HNF := Lib.hid (And.intro hNF hlf); have HMR := Lib.hid hmrows; have HFR := Lib.hid hfrows; have HBU := Lib.hid hbu2
        have HS := Lib.hid hspl; have HTK := Lib.hid htk; have HCL := Lib.hid hcl2; have HCOK := Lib.hid hok
        clear hF hFs hMe hMs hNM hlm hNF hlf hmrows hfrows hbu hbu2 hcs hxx hx hcl hn1 hn2 hsp hspl htk hcl2 hok
        have hI1 := Lib.hid (HIr.out.add #[.string cl.name, .string cl.super, .slice Af NF capf, .slice Am' NM capm'] 57 (by decide))
        go_wp2_with fail
        refine (hI1.out.lay [⟨#[99, 108, 97, 115, 115, 32]⟩, cl.name] _ (by simp) (by simp) (by have h := HS.out; have h2 := HLEN.out; have h3 := HCL.out; (try simp only [List.length_append, cat, List.flatMap_cons, List.flatMap_nil, List.length_cons, List.length_nil, ba_len] at h ⊢); omega)).mono ?_; rintro e w2 ⟨rfl, hi⟩
        have hI2 := Lib.hid hi; clear hi
        have hx2 := hI2.out.lt _ _ _ (List.Mem.head _)
        have q2_0 : w2.cell? ⟨wr.heap.size, 0, none⟩ = some (.string cl.name) := hI2.out.cell _ _ _ (List.Mem.head _) 0
        have q2_1 : w2.cell? ⟨wr.heap.size, 1, none⟩ = some (.string cl.super) := hI2.out.cell _ _ _ (List.Mem.head _) 1
        have q2_2 : w2.cell? ⟨wr.heap.size, 2, none⟩ = some (.slice Af NF capf) := hI2.out.cell _ _ _ (List.Mem.head _) 2
        have q2_3 : w2.cell? ⟨wr.heap.size, 3, none⟩ = some (Value.slice Am' NM capm') := hI2.out.cell _ _ _ (List.Mem.head _) 3
        go_upto_if 36 with fail
        go_cut [37] (fun _ wx => Inv w.heap.size w1.heap.size 0 w (w1.alloc (.cells #[.pointer none, .slice none 0 0, .int .i64 0] 47)) [(wr.heap.size, #[.string cl.name, .string cl.super, .slice Af NF capf, .slice Am' NM capm'], 57), (w.heap.size, #[.slice (some ⟨bk, off, none⟩) N cap, .slice Am ys.length capm], 33)] ((p.classes.take k).flatMap classT ++ [99, 108, 97, 115, 115, 32] ++ cl.name.data.toList ++ superT cl.super) wx)
        case first =>
          by_cases hsup : cl.super.toList = []
          · have hse : superT cl.super = [] := by unfold superT; rw [if_pos hsup]
            rw [show (!cl.super.toList.isEmpty) = false by simp [hsup]]
            clear hsup
            go_wp2_with fail
            go_meet
            have := hI2.out
            rw [hse]
            simpa [cat] using this
          · have hse : superT cl.super = [32, 101, 120, 116, 101, 110, 100, 115, 32] ++ cl.super.data.toList := by unfold superT; rw [if_neg hsup]
            have HSE := Lib.hid hse; clear hse
            rw [show (!cl.super.toList.isEmpty) = true by simp [hsup]]
            clear hsup
            go_wp2_with fail
            refine (hI2.out.lay [⟨#[32, 101, 120, 116, 101, 110, 100, 115, 32]⟩, cl.super] _ (by simp) (by simp) (by have h := HS.out; have h2 := HLEN.out; have h3 := HCL.out; rw [HSE.out] at h3; simp only [List.length_append, cat, List.flatMap_cons, List.flatMap_nil, List.length_cons, List.length_nil, ba_len] at h h3 ⊢; omega)).mono ?_; rintro e w3 ⟨rfl, hi⟩
            go_wp2_with fail
            go_meet
            have := hi
            rw [HSE.out]
            simpa [cat] using this
        case rest =>
          have hI3 := Lib.hid hcut; clear hcut
          obtain ⟨kb, hkb⟩ : ∃ kb, kb = wr.heap.size := ⟨_, rfl⟩
          rw [← hkb] at hI3 ⊢
          have hkB : w1.heap.size < kb := by rw [hkb]; exact hxr
          clear hkb
          have hx_wc := hI3.out.lt _ _ _ (List.Mem.head _)
          have q_wc_c2 : wc.cell? ⟨kb, 2, none⟩ = some (.slice Af NF capf) := hI3.out.cell _ _ _ (List.Mem.head _) 2
          have q_wc_c3 : wc.cell? ⟨kb, 3, none⟩ = some (Value.slice Am' NM capm') := hI3.out.cell _ _ _ (List.Mem.head _) 3
          go_wp2_with fail
          refine (hI3.out.lay [⟨#[32, 123, 10]⟩] _ (by simp) (by simp) (by have h := HS.out; have h2 := HLEN.out; have h3 := HCL.out; simp only [List.length_append, cat, List.flatMap_cons, List.flatMap_nil, List.length_cons, List.length_nil, ba_len] at h h3 ⊢; omega)).mono ?_; rintro e w4 ⟨rfl, hi⟩
          have hI4 := Lib.hid hi; clear hi
          have hx_w4 := hI4.out.lt _ _ _ (List.Mem.head _)
          have q_w4_c2 : w4.cell? ⟨kb, 2, none⟩ = some (.slice Af NF capf) := hI4.out.cell _ _ _ (List.Mem.head _) 2
          have q_w4_c3 : w4.cell? ⟨kb, 3, none⟩ = some (Value.slice Am' NM capm') := hI4.out.cell _ _ _ (List.Mem.head _) 3
          have hp4 := hI4.out.page.lt
          have ht4 := hI4.out.page.tabs
          have hf4 := hI4.out.page.open_
          go_wp2_with fail
          have hI5 := Lib.hid (hI4.out.set 1)
          go_loopw [55] (fun i wx => ∃ j : Nat, j ≤ NF ∧ i = .int .i64 j ∧ Inv w.heap.size w1.heap.size 1 w (w1.alloc (.cells #[.pointer none, .slice none 0 0, .int .i64 0] 47)) [(kb, #[.string cl.name, .string cl.super, .slice Af NF capf, .slice Am' NM capm'], 57), (w.heap.size, #[.slice (some ⟨bk, off, none⟩) N cap, .slice Am ys.length capm], 33)] (((p.classes.take k).flatMap classT ++ [99, 108, 97, 115, 115, 32] ++ cl.name.data.toList ++ superT cl.super ++ [32, 123, 10]) ++ (cl.fields.take j).flatMap fieldT) wx) (fun i _ => NF - (intOf i).toNat)
          case atStart => exact ⟨0, Nat.zero_le _, rfl, by simpa [cat] using hI5.out⟩
          case round =>
            obtain ⟨j, hj, rfl, hIj⟩ := hrel
            have HIj := Lib.hid hIj; clear hIj
            have hxj := HIj.out.page.lt
            by_cases hlt2 : j < NF
            · have hn1 := HNF.out.1
              have hn2 := HNF.out.2
              obtain ⟨x, hx⟩ : ∃ x, fs[j]? = some x := ⟨fs[j]'(by omega), List.getElem?_eq_getElem _⟩
              obtain ⟨s, hss, hRs⟩ := HFs.out.at_ j x hx
              obtain ⟨bf, off2, d0, d1, rfl, _, hxx, hr0, hr1⟩ := (HFR.out.below HIj.out.old (Nat.le_refl _)).at2 hx
              obtain ⟨hcs, hz2, hz3⟩ := hRs
              rw [hxx] at hcs
              obtain ⟨rfl, rfl⟩ := arr2_inj hcs
              have hfl := flat_le fieldT cl.fields j s hss
              have hft := flat_take fieldT cl.fields j s hss
              rw [fieldT_eq] at hfl hft
              have HFL := Lib.hid hfl; have HFT := Lib.hid hft
              clear hcs hxx hx hss hn1 hn2 hfl hft
              have hI6 := Lib.hid (HIj.out.add #[.string s.type, .string s.name] 60 (by decide))
              go_wp2_with fail
              refine (Inv.line (t := 1) hI6.out (by omega) [s.type, ⟨#[32]⟩, s.name, ⟨#[59, 10]⟩] _ (by simp) (by simp) (by have h := HS.out; have h2 := HLEN.out; have h3 := HCL.out; have h4 := HFL.out; have h5 := tabsT_len 1; simp only [List.length_append, cat, List.flatMap_cons, List.flatMap_nil, List.length_cons, List.length_nil, ba_len] at h h3 h4 ⊢; omega)).mono ?_; rintro e w6 ⟨rfl, hi⟩
              have hI7 := Lib.hid hi.drop; clear hi
              go_wp2_with fail
              go_roundw
              case rel => exact ⟨j + 1, by omega, by go_num, by rw [HFT.out]; have h7 := hI7.out; simp only [List.append_assoc] at h7 ⊢; exact h7⟩
              case measure => simp [intOf]; omega
            · have htake : cl.fields.take j = cl.fields := List.take_of_length_le (by have := HNF.out; omega)
              rw [htake] at HIj
              clear htake
              have hx_wrc := HIj.out.lt _ _ _ (List.Mem.head _)
              have q_wr_c3 : wr.cell? ⟨kb, 3, none⟩ = some (Value.slice Am' NM capm') := HIj.out.cell _ _ _ (List.Mem.head _) 3
              go_wp2_with fail
              go_loopw [70] (fun i wx => ∃ j : Nat, j ≤ NM ∧ i = .int .i64 j ∧ Inv w.heap.size w1.heap.size 1 w (w1.alloc (.cells #[.pointer none, .slice none 0 0, .int .i64 0] 47)) [(kb, #[.string cl.name, .string cl.super, .slice Af NF capf, .slice Am' NM capm'], 57), (w.heap.size, #[.slice (some ⟨bk, off, none⟩) N cap, .slice Am ys.length capm], 33)] ((((p.classes.take k).flatMap classT ++ [99, 108, 97, 115, 115, 32] ++ cl.name.data.toList ++ superT cl.super ++ [32, 123, 10]) ++ cl.fields.flatMap fieldT) ++ (cl.methods.take j).flatMap methodT) wx) (fun i _ => NM - (intOf i).toNat)
              case atStart => exact ⟨0, Nat.zero_le _, rfl, by simpa using HIj.out⟩
              case round =>
                obtain ⟨j', hj', rfl, hIm⟩ := hrel
                have HIm := Lib.hid hIm; clear hIm
                have hxm := HIm.out.page.lt
                by_cases hlt3 : j' < NM
                · have hn1 := HNM.out.1
                  have hn2 := HNM.out.2
                  obtain ⟨x, hx⟩ : ∃ x, ms[j']? = some x := ⟨ms[j']'(by omega), List.getElem?_eq_getElem _⟩
                  obtain ⟨me, hme, hRm⟩ := HMs.out.at_ j' x hx
                  obtain ⟨bm, off3, d0, d1, d2, d3, rfl, _, hxx, hr0, hr1, hr2, hr3⟩ := (HMR.out.below HIm.out.old (Nat.le_refl _)).at4 hx
                  obtain ⟨pv, bv, hcs, ht1, ht2, hP, hBo⟩ := hRm
                  rw [hxx] at hcs
                  obtain ⟨rfl, rfl, rfl, rfl⟩ := arr4_inj hcs
                  obtain ⟨ps, ⟨Ap, capp, rfl, hp1, hp2, _, hprows⟩, hPs⟩ := hP
                  obtain ⟨bs, ⟨Ab, capb, rfl, _⟩, _⟩ := id hBo
                  have hlp := hPs.len
                  obtain ⟨NP, hNP⟩ : ∃ NP, NP = ps.length := ⟨_, rfl⟩
                  obtain ⟨NB, hNB⟩ : ∃ NB, NB = bs.length := ⟨_, rfl⟩
                  rw [← hNP] at hp1 hr2
                  rw [← hNB] at hr3 hBo
                  unfold maxLen at hp2
                  have hbu := Mes.bulk_le (List.mem_of_getElem? hme)
                  have hbu2 : Sts.bulk me.body + Sls.bulk me.params ≤ 2000000 := by have := HBU.out; unfold Cl.bulk at this; unfold Me.bulk at hbu; omega
                  have hok : methodOK me = true := by
                    have := HCOK.out
                    unfold classOK at this
                    rw [Bool.and_eq_true, List.all_eq_true] at this
                    exact this.2 me (List.mem_of_getElem? hme)
                  have hml := flat_le methodT cl.methods j' me hme
                  have hmt := flat_take methodT cl.methods j' me hme
                  have hmf : (methodT me).length = me.type.size + (me.name.size + 1) + ((commas (me.params.map slotT)).length + ((blockT 1 me.body).length + 1 + 2) + 1) + 1 := by
                    rw [method_form]
                    simp only [List.length_append, List.length_cons, List.length_nil, slotT, ba_len]
                  have hlen4 : NP ≤ 4 := by
                    have h := hok
                    unfold methodOK at h
                    simp only [Bool.and_eq_true, decide_eq_true_iff] at h
                    omega
                  have HBO := Lib.hid hBo; have HPS := Lib.hid hPs; have HNP := Lib.hid (And.intro hNP hlp); have HPR := Lib.hid hprows; have HBU2 := Lib.hid hbu2; have HMOK := Lib.hid hok
                  have HML := Lib.hid hml; have HMT := Lib.hid hmt; have HMF := Lib.hid hmf
                  clear hBo hPs hNP hlp hprows hbu hbu2 hok hml hmt hmf hcs hxx hx hme hn1 hn2 hNB
                  have hI8 := Lib.hid (HIm.out.add #[.string me.type, .string me.name, .slice Ap NP capp, .slice Ab NB capb] 62 (by decide))
                  have hmk := run_make_row' (P := Tryd.prog) 63 9 (.string ⟨#[]⟩) 16 Tryd.underlying63 infoStr rfl .i64 .i64 NP (by omega) (by omega)
                  go_wp2_with fail
                  obtain ⟨km, hkm⟩ : ∃ km, km = wr.heap.size := ⟨_, rfl⟩
                  have hI9 := hI8.out.add (madeCells #[.string ⟨#[]⟩] NP) 9 (by decide)
                  rw [show (wr.alloc (.cells #[.string me.type, .string me.name, .slice Ap NP capp, .slice Ab NB capb] 62)).heap.size = wr.heap.size + 1 by simp] at hI9
                  rw [← hkm] at hI9 hI8 hxm ⊢
                  have hkbm : kb < km := by rw [hkm]; exact HIm.out.lt _ _ _ (List.Mem.head _)
                  have HI9 := Lib.hid hI9
                  clear hI9 hkm hmk
                  go_wp2_with fail
                  go_loopw [81] (fun i wx => ∃ q : Nat, q ≤ NP ∧ i = .int .i64 q ∧ ∃ cs : Array Value, Inv w.heap.size w1.heap.size 1 w (w1.alloc (.cells #[.pointer none, .slice none 0 0, .int .i64 0] 47)) ((km + 1, cs, 9) :: ((km, #[.string me.type, .string me.name, .slice Ap NP capp, .slice Ab NB capb], 62) :: [(kb, #[.string cl.name, .string cl.super, .slice Af NF capf, .slice (some ⟨bm, off3, none⟩) NM capm'], 57), (w.heap.size, #[.slice (some ⟨bk, off, none⟩) N cap, .slice Am ys.length capm], 33)])) ((((p.classes.take k).flatMap classT ++ [99, 108, 97, 115, 115, 32] ++ cl.name.data.toList ++ superT cl.super ++ [32, 123, 10]) ++ cl.fields.flatMap fieldT) ++ (cl.methods.take j').flatMap methodT) wx ∧ cs.size = NP ∧ (∀ o, o < NP → ∃ x, cs[o]? = some (.string x)) ∧ (∀ o s, o < q → me.params[o]? = some s → cs[o]? = some (.string (slotS s)))) (fun i _ => NP - (intOf i).toNat)
                  case atStart =>
                    refine ⟨0, Nat.zero_le _, rfl, _, HI9.out, by simp [madeCells], fun o ho => ⟨⟨#[]⟩, ?_⟩, fun o s ho => absurd ho (Nat.not_lt_zero _)⟩
                    rw [Array.getElem?_eq_getElem (by simp [madeCells]; exact ho)]; simp [madeCells, Nat.mod_one]
                  case round =>
                    obtain ⟨q, hq, rfl, cs, hIq, hsz, hstr, hval⟩ := hrel
                    have HIq := Lib.hid hIq; have HSZ := Lib.hid hsz; have HSTR := Lib.hid hstr; have HVAL := Lib.hid hval
                    clear hIq hsz hstr hval
                    have hxq := HIq.out.page.lt
                    by_cases hlt4 : q < NP
                    · have hn1 := HNP.out.1
                      have hn2 := HNP.out.2
                      obtain ⟨x, hx⟩ : ∃ x, ps[q]? = some x := ⟨ps[q]'(by omega), List.getElem?_eq_getElem _⟩
                      obtain ⟨s, hss, hRs⟩ := HPS.out.at_ q x hx
                      obtain ⟨bf, off4, d0, d1, rfl, _, hxx, hr0, hr1⟩ := (HPR.out.below HIq.out.old (Nat.le_refl _)).at2 hx
                      obtain ⟨hcs, hz2, hz3⟩ := hRs
                      rw [hxx] at hcs
                      obtain ⟨rfl, rfl⟩ := arr2_inj hcs
                      have hsb := Sls.bulk_le (List.mem_of_getElem? hss)
                      have hsb2 : s.type.size + s.name.size ≤ 2000000 := by have := HBU2.out; unfold Sl.bulk at hsb; omega
                      have hl1 : ¬ 9223372036854775807 < s.type.size + 1 := by omega
                      have hl2 : ¬ 9223372036854775807 < s.type.size + 1 + s.name.size := by omega
                      obtain ⟨xo, hxo⟩ := HSTR.out q hlt4
                      have hcell : wr.cell? ⟨km + 1, q, none⟩ = some (.string xo) := by rw [HIq.out.cell _ _ _ (List.Mem.head _) q]; exact hxo
                      have hfr : wr.frozen? ⟨km + 1, q, none⟩ = false := Lib.frozen_of_heap (HIq.out.box _ (List.Mem.head _)).1 q
                      have hkl : km + 1 < wr.heap.size := HIq.out.lt _ _ _ (List.Mem.head _)
                      have HSS := Lib.hid hss; have HSB := Lib.hid hsb2
                      clear hcs hxx hx hss hn1 hn2 hsb hsb2 hxo
                      go_wp2_with fail
                      have hI10 := Lib.hid ((HIq.out.setBox (by omega) (by simp; omega) (by
                        intro x hx
                        rcases List.mem_cons.1 hx with rfl | hx
                        · show km ≠ km + 1; omega
                        rcases List.mem_cons.1 hx with rfl | hx
                        · show kb ≠ km + 1; omega
                        rcases List.mem_cons.1 hx with rfl | hx
                        · show w.heap.size ≠ km + 1; omega
                        · cases hx) q (.string (s.type ++ ⟨#[32]⟩ ++ s.name))).alloc (.cells #[.string s.type, .string s.name] 60))
                      go_roundw
                      case rel =>
                        refine ⟨q + 1, by omega, by go_num, _, hI10.out, by simp [HSZ.out], fun o ho => ?_, fun o s' ho hs' => ?_⟩
                        · rw [Array.getElem?_setIfInBounds]
                          by_cases hqo : q = o
                          · rw [if_pos hqo, if_pos (by have := HSZ.out; omega)]; exact ⟨_, rfl⟩
                          · rw [if_neg hqo]; exact HSTR.out o ho
                        · rw [Array.getElem?_setIfInBounds]
                          by_cases hqo : q = o
                          · subst hqo
                            rw [if_pos rfl, if_pos (by have := HSZ.out; omega)]
                            obtain rfl : s = s' := by rw [HSS.out] at hs'; exact Option.some.inj hs'
                            rfl
                          · rw [if_neg hqo]; exact HVAL.out o s' (by omega) hs'
                      case measure => simp [intOf]; omega
                    · obtain rfl : q = NP := by omega
                      have hfull : ∀ (o : Nat) (x : ByteArray), (me.params.map slotS)[o]? = some x → wr.cell? ⟨km + 1, 0 + o, none⟩ = some (.string x) := by
                        intro o x hx
                        rw [List.getElem?_map, Option.map_eq_some_iff] at hx
                        obtain ⟨s, hs, rfl⟩ := hx
                        have hlo : o < q := by
                          have := (List.getElem?_eq_some_iff.1 hs).1
                          have := HNP.out
                          omega
                        rw [Nat.zero_add, HIq.out.cell _ _ _ (List.Mem.head _) o]
                        exact HVAL.out o s hlo hs
                      have hNL : (me.params.map slotS).length = q := by rw [List.length_map]; have := HNP.out; omega
                      have hIm := HIq.out.lt _ _ _ (List.Mem.tail _ (List.Mem.head _))
                      have qm0 : wr.cell? ⟨km, 0, none⟩ = some (.string me.type) := HIq.out.cell _ _ _ (List.Mem.tail _ (List.Mem.head _)) 0
                      have qm1 : wr.cell? ⟨km, 1, none⟩ = some (.string me.name) := HIq.out.cell _ _ _ (List.Mem.tail _ (List.Mem.head _)) 1
                      have hkl : km + 1 < wr.heap.size := HIq.out.lt _ _ _ (List.Mem.head _)
                      have HFULL := Lib.hid hfull; have HNL := Lib.hid hNL
                      clear hfull hNL
                      go_upto_region 27 with fail
                      have hJ : Calls Tryd.prog 25 #[.slice (some ⟨km + 1, 0, none⟩) q q, .string ⟨#[44, 32]⟩] wr.drew fun e w' => e = .returned (.string ⟨(commas (me.params.map slotT)).toArray⟩) ∧ Below wr.drew.heap.size wr.drew w' := by
                        have e1 : Lib.join ((me.params.map slotS).map (·.data.toList)) (⟨#[44, 32]⟩ : ByteArray).data.toList = commas (me.params.map slotT) := by
                          rw [show (⟨#[44, 32]⟩ : ByteArray).data.toList = [44, 32] from rfl, join_commas, List.map_map]
                          congr 1
                          exact List.map_congr_left fun s _ => slotS_list s
                        have h0 := Tryd.strings_Join (km + 1) 0 q (me.params.map slotS) ⟨#[44, 32]⟩ wr.drew HFULL.out hkl (by have := HNL.out; omega) (by have := HNL.out; omega) (by
                          rw [e1]
                          have h := HS.out; have h2 := HLEN.out; have h3 := HCL.out; have h4 := HML.out; have h5 := HMF.out; have h6 := tabsT_len 1; omega)
                        rw [HNL.out, e1] at h0
                        exact h0
                      have HJ := Lib.hid hJ; clear hJ
                      go_region_held3 (fun w' => w'.cell? ⟨km, 0, none⟩ = some (.string me.type) ∧ w'.cell? ⟨km, 1, none⟩ = some (.string me.name)) (first | go_keep | exact ⟨k10, k11⟩ | exact ⟨k20, k21⟩)
                        (first
                          | (go_at_call 25; refine HJ.out.mono ?_; rintro e w6 ⟨rfl, hb⟩
                             have hI11 := Lib.hid (HIq.out.drew.below hb)
                             have k10 : w6.cell? ⟨km, 0, none⟩ = some (.string me.type) := hI11.out.cell _ _ _ (List.Mem.tail _ (List.Mem.head _)) 0
                             have k11 : w6.cell? ⟨km, 1, none⟩ = some (.string me.name) := hI11.out.cell _ _ _ (List.Mem.tail _ (List.Mem.head _)) 1
                             have kx := hI11.out.lt _ _ _ (List.Mem.tail _ (List.Mem.head _))
                             clear hb)
                          | (go_at_call 24; refine (Inv.line (t := 1) hI11.out (by omega) [me.type, ⟨#[32]⟩, me.name, ⟨#[40]⟩, ⟨(commas (me.params.map slotT)).toArray⟩, ⟨#[41, 32]⟩] _ rfl (by simp) (by have h := HS.out; have h2 := HLEN.out; have h3 := HCL.out; have h4 := HML.out; have h5 := HMF.out; have h6 := tabsT_len 1; simp only [List.length_append, cat, List.flatMap_cons, List.flatMap_nil, List.length_cons, List.length_nil, ba_len] at h h3 h4 h5 ⊢; omega)).mono ?_; rintro e w7 ⟨rfl, hi⟩
                             have hI12 := Lib.hid hi
                             have k20 : w7.cell? ⟨km, 0, none⟩ = some (.string me.type) := hI12.out.cell _ _ _ (List.Mem.tail _ (List.Mem.head _)) 0
                             have k21 : w7.cell? ⟨km, 1, none⟩ = some (.string me.name) := hI12.out.cell _ _ _ (List.Mem.tail _ (List.Mem.head _)) 1
                             have k22 : w7.cell? ⟨km, 3, none⟩ = some (.slice Ab NB capb) := hI12.out.cell _ _ _ (List.Mem.tail _ (List.Mem.head _)) 3
                             have kx2 := hI12.out.lt _ _ _ (List.Mem.tail _ (List.Mem.head _))
                             clear hi))
                      go_wp2_with fail
                      refine (Inv.block (t := 1) hI12.out (wbl_any _ _ w (Nat.le_refl _) HE.out me.body (by have h := HMOK.out; unfold methodOK at h; simp only [Bool.and_eq_true] at h; exact h.2.2.2)) HBO.out (by have h := HS.out; have h2 := HLEN.out; have h3 := HCL.out; have h4 := HML.out; have h5 := HMF.out; have h6 := tabsT_len 1; simp only [List.length_append, cat, List.flatMap_cons, List.flatMap_nil, List.length_cons, List.length_nil, ba_len] at h h3 h4 h5 ⊢; omega) (by have := HBU2.out; omega)).mono ?_; rintro e w8 ⟨rfl, hi⟩
                      have hI13 := Lib.hid hi; clear hi
                      go_wp2_with fail
                      refine (hI13.out.lay [⟨#[10]⟩] _ (by simp) (by simp) (by have h := HS.out; have h2 := HLEN.out; have h3 := HCL.out; have h4 := HML.out; have h5 := HMF.out; have h6 := tabsT_len 1; simp only [List.length_append, cat, List.flatMap_cons, List.flatMap_nil, List.length_cons, List.length_nil, ba_len] at h h3 h4 h5 ⊢; omega)).mono ?_; rintro e w9 ⟨rfl, hi⟩
                      have hI14 := Lib.hid hi.drop.drop; clear hi
                      have hme : methodT me = tabsT 1 ++ (cat [me.type, ⟨#[32]⟩, me.name, ⟨#[40]⟩, ⟨(commas (me.params.map slotT)).toArray⟩, ⟨#[41, 32]⟩] ++ (blockT 1 me.body ++ cat [⟨#[10]⟩])) := by simp [methodT, tabsT, cat]
                      have HME := Lib.hid hme; clear hme
                      go_wp2_with fail
                      go_roundw
                      case rel => exact ⟨j' + 1, by omega, by go_num, by rw [HMT.out, HME.out]; have h7 := hI14.out; simp only [List.append_assoc] at h7 ⊢; exact h7⟩
                      case measure => simp [intOf]; omega
                · have htake : cl.methods.take j' = cl.methods := List.take_of_length_le (by have := HNM.out; omega)
                  rw [htake] at HIm
                  clear htake
                  have hxb := HIm.out.page.lt
                  have htb := HIm.out.page.tabs
                  have hfb := HIm.out.page.open_
                  go_wp2_with fail
                  have hI15 := Lib.hid (HIm.out.set 0)
                  refine (hI15.out.lay [⟨#[125, 10]⟩] _ (by simp) (by simp) (by have h := HS.out; have h2 := HLEN.out; have h3 := HCL.out; simp only [List.length_append, cat, List.flatMap_cons, List.flatMap_nil, List.length_cons, List.length_nil, ba_len] at h h3 ⊢; omega)).mono ?_; rintro e w9 ⟨rfl, hi⟩
                  have hI16 := Lib.hid hi.drop; clear hi
                  have hce : classT cl = [99, 108, 97, 115, 115, 32] ++ (cl.name.data.toList ++ (superT cl.super ++ ([32, 123, 10] ++ (cl.fields.flatMap fieldT ++ (cl.methods.flatMap methodT ++ cat [⟨#[125, 10]⟩]))))) := by rw [class_form]; simp [cat]
                  have HCE := Lib.hid hce; clear hce
                  go_wp2_with fail
                  go_roundw
                  case rel => exact ⟨k + 1, by omega, by go_num, by rw [HTK.out, HCE.out]; have h7 := hI16.out; simp only [List.append_assoc] at h7 ⊢; exact h7⟩
                  case measure => simp [intOf]; omega
      · have htake : p.classes.take k = p.classes := List.take_of_length_le (by have := HN.out; omega)
        rw [htake] at HIr
        have hxr1 := HIr.out.lt _ _ _ (List.Mem.head _)
        have hxr2 : wr.cell? ⟨w.heap.size, 1, none⟩ = some (.slice Am ys.length capm) := HIr.out.cell _ _ _ (List.Mem.head _) 1
        have hpl : (programT p).length = (p.classes.flatMap classT).length + (5 + (blockT 0 p.main).length + 1) := by unfold programT; simp only [List.length_append, List.length_cons, List.length_nil]
        have HPL := Lib.hid hpl; clear hpl htake
        go_wp2_with fail
        refine (HIr.out.lay [⟨#[109, 97, 105, 110, 32]⟩] _ (by simp) (by simp) (by have h2 := HLEN.out; have h3 := HPL.out; simp only [cat, List.flatMap_cons, List.flatMap_nil, List.length_append, List.length_cons, List.length_nil]; omega)).mono ?_; rintro e w2 ⟨rfl, hi⟩
        have hI2 := Lib.hid hi; clear hi
        have hx2 := hI2.out.lt _ _ _ (List.Mem.head _)
        have q2 : w2.cell? ⟨w.heap.size, 1, none⟩ = some (.slice Am ys.length capm) := hI2.out.cell _ _ _ (List.Mem.head _) 1
        go_wp2_with fail
        have hstm : stsOK p.main = true := by have := HOK.out; unfold prOK at this; rw [Bool.and_eq_true] at this; exact this.1
        refine (Inv.block (t := 0) hI2.out (wbl_any _ _ w (Nat.le_refl _) HE.out p.main hstm) HM.out (by have h2 := HLEN.out; have h3 := HPL.out; simp only [List.length_append, cat, List.flatMap_cons, List.flatMap_nil, List.length_cons, List.length_nil]; omega) (by have := HB.out; unfold Pr.bulk at this; omega)).mono ?_; rintro e w3 ⟨rfl, hi⟩
        have hI3 := Lib.hid hi; clear hi hstm
        go_wp2_with fail
        refine (hI3.out.lay [⟨#[10]⟩] _ (by simp) (by simp) (by have h2 := HLEN.out; have h3 := HPL.out; simp only [List.length_append, cat, List.flatMap_cons, List.flatMap_nil, List.length_cons, List.length_nil]; omega)).mono ?_; rintro e w4 ⟨rfl, hi⟩
        have hI4 := Lib.hid hi; clear hi
        have htx : (p.classes.flatMap classT ++ cat [⟨#[109, 97, 105, 110, 32]⟩] ++ blockT 0 p.main ++ cat [⟨#[10]⟩]) = programT p := by simp [programT, cat]
        rw [htx] at hI4
        go_wp2_with fail
        refine (done_any _ _ _ _ _ hI4.out.page (by unfold programT; simp) (by have h2 := HLEN.out; omega)).mono ?_; rintro e w5 ⟨rfl, hb5⟩
        go_wp2_with fail
        go_ret2
        exact ⟨rfl, hI4.out.old.trans hb5⟩
end Go.Proofs.YtapdgeajbnbdjaaDoor
